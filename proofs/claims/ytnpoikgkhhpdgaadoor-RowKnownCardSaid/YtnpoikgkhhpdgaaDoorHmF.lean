/-
  What the operations that read come to: reckoning, parts, slices.
-/
import Derived.Test.YtnpoikgkhhpdgaaDoorHmE
namespace Go.YtnpoikgkhhpdgaaDoorH
open Go.RowKit
open Go.YtnpoikgkhhpdgaaDoorE (tAgg tSize run_isAgg' run_sizeOf' add_off cell_of_heap)
variable {P : Program} {gl : List Nat} {w0 : World} {ι κ : Inj} {H H' : Heap} {w w' : World} {T T' : Tm} {a : Act} {N : Nat} {run : Run} {y : Yld} {o : Oper}

theorem VR.str_inv {l : List Nat} {v : Value} (h : VR ι (.str l) v) : ∃ s : ByteArray, l = s.data.toList.map UInt8.toNat ∧ v = .string s := by
  cases h; exact ⟨_, rfl, rfl⟩
theorem bytes_len (s : ByteArray) : llen (s.data.toList.map UInt8.toNat) = s.size := by rw [llen_eq, List.length_map, Array.length_toList]; rfl
theorem bytes_lt (s t : ByteArray) : Op.bytesLess s.toList t.toList = bltS (s.data.toList.map UInt8.toNat) (t.data.toList.map UInt8.toNat) := by
  rw [ByteArray.toList_eq, ByteArray.toList_eq]
  generalize s.data.toList = l
  generalize t.data.toList = m
  induction l generalizing m with
  | nil => cases m <;> rfl
  | cons x r ih => cases m with
    | nil => rfl
    | cons z r2 =>
      simp only [Op.bytesLess, List.map_cons, bltS]
      by_cases h1 : x < z
      · have : Nat.blt x.toNat z.toNat = true := Nat.ble_eq_true_of_le (UInt8.lt_iff_toNat_lt.1 h1)
        rw [this]; simp [h1]
      · have : Nat.blt x.toNat z.toNat = false := by
          cases hb : Nat.blt x.toNat z.toNat with
          | false => rfl
          | true => exact absurd (UInt8.lt_iff_toNat_lt.2 (blt_lt hb)) h1
        rw [this]
        by_cases h2 : x = z
        · subst h2; simp [ih]
        · have : Nat.beq x.toNat z.toNat = false := by
            cases hb : Nat.beq x.toNat z.toNat with
            | false => rfl
            | true => exact absurd (UInt8.toNat_inj.1 (Nat.eq_of_beq_eq_true hb)) h2
          rw [this]; simp [h1, h2]

theorem bltS_tri : ∀ (l m : List Nat), bltS m l = !(bltS l m || beqS l m)
  | [], [] => rfl
  | [], _ :: _ => rfl
  | _ :: _, [] => rfl
  | a :: r, b :: s => by
    simp only [bltS, beqS]
    rcases Nat.lt_trichotomy a b with h | h | h
    · have h1 : Nat.blt a b = true := Nat.ble_eq_true_of_le h
      have h2 : Nat.blt b a = false := by cases hb : Nat.blt b a with | false => rfl | true => have := blt_lt hb; omega
      have h3 : Nat.beq b a = false := YtnpoikgkhhpdgaaDoorE.nbF (by omega)
      rw [h1, h2, h3]; rfl
    · subst h
      have h1 : Nat.blt a a = false := by cases hb : Nat.blt a a with | false => rfl | true => have := blt_lt hb; omega
      rw [h1, YtnpoikgkhhpdgaaDoorE.nbT]; exact bltS_tri r s
    · have h1 : Nat.blt b a = true := Nat.ble_eq_true_of_le h
      have h2 : Nat.blt a b = false := by cases hb : Nat.blt a b with | false => rfl | true => have := blt_lt hb; omega
      have h3 : Nat.beq a b = false := YtnpoikgkhhpdgaaDoorE.nbF (by omega)
      rw [h1, h2, h3]; rfl
theorem binV_sound {op : BinOp} {x y v : V} {u z : Value} (hx : VR ι x u) (hy : VR ι y z) (h0 : binV op x y = some v) (t : TypeId) (p q : Operand) :
    ∃ r, (do eqGuard op t p q u z; binOp op t u z : Sem Value).run P w = .ok r w ∧ VR ι v r := by
  have G0 : YtnpoikgkhhpdgaaDoorE.Gh := ⟨fun _ _ => none, fun _ => none, fun _ => none⟩
  have viaInt : ∀ {k k' : IntKind} {m n : Int} {d : YtnpoikgkhhpdgaaDoorE.D}, YtnpoikgkhhpdgaaDoorE.binD op (.int k m) (.int k' n) = some d → ofD d = some v → ∃ r, (do eqGuard op t p q (.int k m) (.int k' n); binOp op t (.int k m) (.int k' n) : Sem Value).run P w = .ok r w ∧ VR ι v r := by
    intro k k' m n d hd hv
    obtain ⟨r, h1, h2⟩ := YtnpoikgkhhpdgaaDoorE.binD_sound (P := P) (w := w) (G := G0) (.pure (.int k m)) (.pure (.int k' n)) hd t p q (fun ⟨b, hb⟩ => by cases hb) (fun hp => by rcases hp with hp | ⟨_, _, _, hp⟩ <;> cases hp)
    exact ⟨r, h1, ofD_inv hv h2⟩
  have viaStr : ∀ {s s' : ByteArray} {d : YtnpoikgkhhpdgaaDoorE.D}, YtnpoikgkhhpdgaaDoorE.binD op (.str s) (.str s') = some d → (∀ r, YtnpoikgkhhpdgaaDoorE.Rep G0 d r → VR ι v r) → ∃ r, (do eqGuard op t p q (.string s) (.string s'); binOp op t (.string s) (.string s') : Sem Value).run P w = .ok r w ∧ VR ι v r := by
    intro s s' d hd hv
    obtain ⟨r, h1, h2⟩ := YtnpoikgkhhpdgaaDoorE.binD_sound (P := P) (w := w) (G := G0) (.pure (.str s)) (.pure (.str s')) hd t p q (fun ⟨b, hb⟩ => by cases hb) (fun hp => by rcases hp with hp | ⟨_, _, _, hp⟩ <;> cases hp)
    exact ⟨r, h1, hv r h2⟩
  have sh : ∀ left, op = (if left then .shl else .shr) → shV left x y = some v → ∃ r, (do eqGuard op t p q u z; binOp op t u z : Sem Value).run P w = .ok r w ∧ VR ι v r := by
    intro left hop h
    unfold shV at h
    split at h <;> first | (cases h; done) | skip
    rename_i k m k' n
    rw [hx.int_inv, hy.int_inv]
    rw [ilt_eq] at h
    cases hn : decide (n < 0) with
    | true => rw [hn] at h; cases h
    | false =>
      rw [hn, ite1_f] at h
      cases h
      cases left with
      | true => subst hop; exact viaInt (d := .int k (k.wrap (m * 2 ^ (min n.toNat k.bits)))) (by simp only [YtnpoikgkhhpdgaaDoorE.binD, hn, if_true]) (by simp only [ofD, ite1_t, wrapF_eq])
      | false => subst hop; exact viaInt (d := .int k (m.fdiv (2 ^ (min n.toNat k.bits)))) (by simp only [YtnpoikgkhhpdgaaDoorE.binD, hn, Bool.false_eq_true, if_false]) (by simp only [ofD, ite1_f])
  have is : op ≠ .shl → op ≠ .shr → intStr op x y = some v → ∃ r, (do eqGuard op t p q u z; binOp op t u z : Sem Value).run P w = .ok r w ∧ VR ι v r := by
    intro n1 n2 h
    unfold intStr at h
    split at h <;> first | (cases h; done) | skip
    · rename_i k m k' n
      obtain ⟨hk, hq⟩ := ite1_some.1 h
      have := keq_eq hk; subst this
      rw [hx.int_inv, hy.int_inv]
      obtain ⟨d, h1, h2⟩ := arithV_inv hq
      refine viaInt (d := d) ?_ h2
      cases op <;> first | exact absurd rfl n1 | exact absurd rfl n2 | (simp only [YtnpoikgkhhpdgaaDoorE.binD, decide_true]; exact h1)
    · obtain ⟨s, rfl, rfl⟩ := hx.str_inv
      obtain ⟨s', rfl, rfl⟩ := hy.str_inv
      unfold strV at h
      split at h <;> first | (cases h; done) | skip
      case h_7 =>
        rw [bytes_len, bytes_len] at h
        obtain ⟨hb, h⟩ := ite1_some.1 h
        cases h
        have hle : s.size + s'.size ≤ 1000000 := Nat.le_of_ble_eq_true hb
        have : Nat.ble (s.size + s'.size) 9223372036854775807 = true := Nat.ble_eq_true_of_le (by omega)
        refine viaStr (d := .str (s ++ s')) (by simp only [YtnpoikgkhhpdgaaDoorE.binD, this]) fun r hr => ?_
        rw [hr.str_inv, lapp_eq]
        have : s.data.toList.map UInt8.toNat ++ s'.data.toList.map UInt8.toNat = (s ++ s').data.toList.map UInt8.toNat := by simp
        rw [this]; exact .str _
      all_goals
        cases h
        refine viaStr (by simp only [YtnpoikgkhhpdgaaDoorE.binD]; rfl) fun r hr => ?_
        rw [hr.bool_inv]
        simp only [bytes_eq, bytes_lt]
        first
          | exact .bool _
          | (rw [← bltS_tri]; exact .bool _)
          | (rw [bltS_tri (s.data.toList.map UInt8.toNat), Bool.not_not]; exact .bool _)
    · rename_i k m k' ge n
      obtain ⟨hk, hq⟩ := ite1_some.1 h
      have := keq_eq hk; subst this
      rw [hx.int_inv]
      obtain ⟨m', hm', rfl⟩ : ∃ m', (if ge then n ≤ m' else m' < n) ∧ z = .int k m' := by
        cases hy with
        | rng h => exact ⟨_, h, rfl⟩
      have hleq : ∀ b, leqR ge m n = some b → decide (m ≤ m') = b := by
        intro b hb
        unfold leqR at hb
        cases ge with
        | true =>
          rw [ite1_t] at hb
          obtain ⟨h1, h2⟩ := ite1_some.1 hb
          rw [ile_eq] at h1
          simp at h1 hm'
          rw [← Option.some.inj h2]
          exact decide_eq_true (by omega)
        | false =>
          rw [ite1_f] at hb
          obtain ⟨h1, h2⟩ := ite1_some.1 hb
          rw [ile_eq] at h1
          simp at h1 hm'
          rw [← Option.some.inj h2]
          exact decide_eq_false (by omega)
      unfold rngV at hq
      split at hq <;> first | (cases hq; done) | skip
      · obtain ⟨b, hb, hq2⟩ := ob_some.1 hq
        cases hq2
        refine viaInt (d := .bool (decide (m ≤ m'))) (by simp only [YtnpoikgkhhpdgaaDoorE.binD, decide_true]; rfl) ?_
        rw [hleq b hb]; rfl
      · obtain ⟨b, hb, hq2⟩ := ob_some.1 hq
        cases hq2
        refine viaInt (d := .bool (decide (m > m'))) (by simp only [YtnpoikgkhhpdgaaDoorE.binD, decide_true]; rfl) ?_
        rw [← hleq b hb]
        show some (V.bool (decide (m > m'))) = _
        congr 2
        by_cases hmm : m ≤ m'
        · rw [decide_eq_true hmm, decide_eq_false (by omega)]; rfl
        · rw [decide_eq_false hmm, decide_eq_true (by omega)]; rfl
  cases op
  case shl => exact sh true rfl h0
  case shr => exact sh false rfl h0
  all_goals exact is (by intro h; cases h) (by intro h; cases h) h0
end Go.YtnpoikgkhhpdgaaDoorH
