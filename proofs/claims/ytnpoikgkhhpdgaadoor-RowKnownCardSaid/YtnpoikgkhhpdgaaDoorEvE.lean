/-
  Operations that leave the world alone: what they yield is what the abstract run says.
-/
import Derived.Test.YtnpoikgkhhpdgaaDoorEvD
namespace Go.YtnpoikgkhhpdgaaDoorE
variable {P : Program} {N : Nat} {X : Nat → Nat → Prop} {w0 : World} {μ0 : Mem} {G G' : Gh} {Cn : List Nat} {T : List (Nat × D)} {M : List (Nat × Ob)} {a : Act} {w w' : World}

theorem Rep.int_inv {k : IntKind} {n : Int} {v : Value} (h : Rep G (.int k n) v) : v = .int k n := by
  cases h with | pure h => cases h; rfl
theorem Rep.bool_inv {b : Bool} {v : Value} (h : Rep G (.bool b) v) : v = .bool b := by
  cases h with | pure h => cases h; rfl
theorem Rep.str_inv {s : ByteArray} {v : Value} (h : Rep G (.str s) v) : v = .string s := by
  cases h with | pure h => cases h; rfl
theorem Rep.nilp_inv {v : Value} (h : Rep G .nilp v) : v = .pointer none := by
  cases h with | pure h => cases h; rfl
theorem Rep.slc_len {t : Tok} {es : Nat} {l : List D} {v : Value} (h : Rep G (.slc t es l) v) : ∃ a cap, v = .slice a l.length cap := by
  cases h with
  | pure h => cases h with
    | slcNil => exact ⟨_, _, rfl⟩
    | slc => exact ⟨_, _, rfl⟩
  | ownNil => exact ⟨_, _, rfl⟩
  | own => exact ⟨_, _, rfl⟩

theorem arith_sound {op : BinOp} {k : IntKind} {x y : Int} {d : D} (h : arith op k x y = some d) (hs : op ≠ .shl ∧ op ≠ .shr) (t : TypeId) :
    ∃ v, (binOp op t (.int k x) (.int k y)).run P w = .ok v w ∧ Rep G d v := by
  cases op <;> simp only [arith] at h <;> first | (cases h; done) | skip
  case quo =>
    cases hy : decide (y = 0) with
    | true => rw [hy] at h; cases h
    | false =>
      rw [hy] at h; simp at h; subst h
      have : ¬ y = 0 := by simpa using hy
      exact ⟨_, by simp [binOp, Op.intDiv, this] <;> rfl, .pure (.int _ _)⟩
  case rem =>
    cases hy : decide (y = 0) with
    | true => rw [hy] at h; cases h
    | false =>
      rw [hy] at h; simp at h; subst h
      have : ¬ y = 0 := by simpa using hy
      exact ⟨_, by simp [binOp, Op.intDiv, this] <;> rfl, .pure (.int _ _)⟩
  all_goals
    simp at h; subst h
    exact ⟨_, by simp [binOp, Op.intArith, Op.intBits, Op.intCmp] <;> rfl, by first | exact .pure (.int _ _) | exact .pure (.bool _)⟩

theorem guard_int {op : BinOp} {t : TypeId} {x y : Operand} {k k' : IntKind} {m n : Int} : (eqGuard op t x y (.int k m) (.int k' n)).run P w = .ok () w := by cases op <;> rfl
theorem guard_str {op : BinOp} {t : TypeId} {x y : Operand} {m n : ByteArray} : (eqGuard op t x y (.string m) (.string n)).run P w = .ok () w := by cases op <;> rfl
theorem guard_bool {op : BinOp} {t : TypeId} {x y : Operand} {m n : Bool} : (eqGuard op t x y (.bool m) (.bool n)).run P w = .ok () w := by cases op <;> rfl
theorem guard_ptr {op : BinOp} {t : TypeId} {x y : Operand} {m n : Option Addr} : (eqGuard op t x y (.pointer m) (.pointer n)).run P w = .ok () w := by cases op <;> rfl

theorem equalIn_bool {t : TypeId} (hu : P.underlying t = some .bool) (m n : Bool) (d : Nat) : (Op.equalIn (d + 1) t (.bool m) (.bool n)).run P w = .ok (m == n) w := by
  simp only [Op.equalIn, Sem.run_bind, run_underlying hu, Result.andThen_ok, Sem.run_pure]
theorem equal_bool {t : TypeId} (hu : P.underlying t = some .bool) (m n : Bool) : (Op.equal t (.bool m) (.bool n)).run P w = .ok (m == n) w := equalIn_bool hu m n 9999
theorem equalIn_nil {t e : TypeId} (hu : P.underlying t = some (.pointer e)) (d : Nat) : (Op.equalIn (d + 1) t (.pointer none) (.pointer none)).run P w = .ok true w := by
  simp only [Op.equalIn, Sem.run_bind, run_underlying hu, Result.andThen_ok, Sem.run_pure]
  rfl
theorem equal_nil {t e : TypeId} (hu : P.underlying t = some (.pointer e)) : (Op.equal t (.pointer none) (.pointer none)).run P w = .ok true w := equalIn_nil hu 9999
theorem equalIn_ptr_nil {t e : TypeId} (hu : P.underlying t = some (.pointer e)) (p : Addr) (d : Nat) : (Op.equalIn (d + 1) t (.pointer (some p)) (.pointer none)).run P w = .ok false w := by
  simp only [Op.equalIn, Sem.run_bind, run_underlying hu, Result.andThen_ok, Sem.run_pure]
theorem equal_ptr_nil {t e : TypeId} (hu : P.underlying t = some (.pointer e)) (p : Addr) : (Op.equal t (.pointer (some p)) (.pointer none)).run P w = .ok false w := equalIn_ptr_nil hu p 9999

theorem binD_sound {op : BinOp} {x y d : D} {u v : Value} (hx : Rep G x u) (hy : Rep G y v) (h : binD op x y = some d) (t : TypeId) (p q : Operand)
    (hb : (∃ b, x = .bool b) → P.underlying t = some .bool) (hp : (x = .nilp ∨ ∃ s i o, x = .ptr s i o) → ∃ e, P.underlying t = some (.pointer e)) :
    ∃ z, (do eqGuard op t p q u v; binOp op t u v : Sem Value).run P w = .ok z w ∧ Rep G d z := by
  unfold binD at h
  split at h
  · rename_i k m k' n
    have hx := hx.int_inv; have hy := hy.int_inv; subst hx; subst hy
    rw [Sem.run_bind, guard_int]
    simp only [Result.andThen_ok]
    split at h
    · cases hs : decide (n < 0) with
      | true => rw [hs] at h; cases h
      | false =>
        rw [hs] at h; simp at h; subst h
        have : ¬ n < 0 := by simpa using hs
        exact ⟨_, by simp [binOp, Op.shift, this] <;> rfl, .pure (.int _ _)⟩
    · cases hs : decide (n < 0) with
      | true => rw [hs] at h; cases h
      | false =>
        rw [hs] at h; simp at h; subst h
        have : ¬ n < 0 := by simpa using hs
        exact ⟨_, by simp [binOp, Op.shift, this] <;> rfl, .pure (.int _ _)⟩
    · rename_i h1 h2
      cases hk : decide (k = k') with
      | false => rw [hk] at h; cases h
      | true =>
        rw [hk] at h
        have : k = k' := by simpa using hk
        subst this
        exact arith_sound h ⟨h1, h2⟩ t
  · rename_i s s'
    have hx := hx.str_inv; have hy := hy.str_inv; subst hx; subst hy
    rw [Sem.run_bind, guard_str]
    simp only [Result.andThen_ok]
    split at h <;> first | (cases h; done) | skip
    case h_7 =>
      cases hb : Nat.ble (s.size + s'.size) 9223372036854775807 with
      | false => rw [hb] at h; cases h
      | true =>
        rw [hb] at h; simp at h; subst h
        have hle : s.size + s'.size ≤ 9223372036854775807 := Nat.le_of_ble_eq_true hb
        have hm : IntKind.i64.max = 9223372036854775807 := by rfl
        have : ¬ (((s.size + s'.size : Nat) : Int) > IntKind.i64.max) := by rw [hm]; omega
        refine ⟨.string (s ++ s'), ?_, .pure (.str _)⟩
        simp only [binOp, Op.stringOp]
        rw [if_neg this]; rfl
    all_goals
      simp at h; subst h
      exact ⟨_, by simp [binOp, Op.stringOp] <;> rfl, .pure (.bool _)⟩
  · rename_i b b'
    have hx := hx.bool_inv; have hy := hy.bool_inv; subst hx; subst hy
    rw [Sem.run_bind, guard_bool]
    simp only [Result.andThen_ok]
    have hu := hb ⟨_, rfl⟩
    split at h <;> first | (cases h; done) | skip
    all_goals
      simp at h; subst h
      exact ⟨_, by simp only [binOp, Sem.run_bind, equal_bool hu, Result.andThen_ok, Sem.run_pure] <;> rfl, .pure (.bool _)⟩
  · have hx := hx.nilp_inv; have hy := hy.nilp_inv; subst hx; subst hy
    rw [Sem.run_bind, guard_ptr]
    simp only [Result.andThen_ok]
    obtain ⟨e, hu⟩ := hp (.inl rfl)
    split at h <;> first | (cases h; done) | skip
    all_goals
      simp at h; subst h
      exact ⟨_, by simp only [binOp, Sem.run_bind, equal_nil hu, Result.andThen_ok, Sem.run_pure] <;> rfl, .pure (.bool _)⟩
  · rename_i s i o
    have hy := hy.nilp_inv; subst hy
    obtain ⟨e, hu⟩ := hp (.inr ⟨_, _, _, rfl⟩)
    cases hx with
    | pure hx => cases hx
    | ptr hρ =>
      rw [Sem.run_bind, guard_ptr]
      simp only [Result.andThen_ok]
      split at h <;> first | (cases h; done) | skip
      all_goals
        simp at h; subst h
        exact ⟨_, by simp only [binOp, Sem.run_bind, equal_ptr_nil hu, Result.andThen_ok, Sem.run_pure] <;> rfl, .pure (.bool _)⟩
  · cases h

theorem unD_sound {op : UnOp} {x d : D} {u : Value} (hx : Rep G x u) (h : unD op x = some d) : ∃ z, (Op.unary op u).run P w = .ok z w ∧ Rep G d z := by
  unfold unD at h
  split at h
  · have hx := hx.int_inv; subst hx
    split at h <;> first | (cases h; done) | skip
    all_goals
      simp only [Option.some.injEq] at h; subst h
      exact ⟨_, by simp [Op.unary, Op.intArith, Op.intBits] <;> rfl, .pure (.int _ _)⟩
  · have hx := hx.bool_inv; subst hx
    split at h <;> first | (cases h; done) | skip
    simp at h; subst h
    exact ⟨_, by simp [Op.unary] <;> rfl, .pure (.bool _)⟩
  · cases h

/-! ### indexes and bounds -/
theorem idx_inv {n j : Nat} {d : D} (h : idx n d = some j) : ∃ k i, d = .int k i ∧ 0 ≤ i ∧ i < (n : Int) ∧ j = i.toNat := by
  unfold idx at h
  split at h
  · rename_i k i
    cases hd : decide (0 ≤ i ∧ i < (n : Int)) with
    | false => rw [hd] at h; cases h
    | true =>
      rw [hd] at h; simp at h
      have := of_decide_eq_true hd
      exact ⟨k, i, rfl, this.1, this.2, h.symm⟩
  · cases h
theorem bnd_inv {p q j : Nat} {d : D} (h : bnd p q d = some j) : ∃ k i, d = .int k i ∧ (p : Int) ≤ i ∧ i ≤ (q : Int) ∧ j = i.toNat := by
  unfold bnd at h
  split at h
  · rename_i k i
    cases hd : decide ((p : Int) ≤ i ∧ i ≤ (q : Int)) with
    | false => rw [hd] at h; cases h
    | true =>
      rw [hd] at h; simp at h
      have := of_decide_eq_true hd
      exact ⟨k, i, rfl, this.1, this.2, h.symm⟩
  · cases h

/-- the address of an element of a slice -/
theorem iadr_sound {es : Nat} {x i d : D} {u v : Value} (hx : Rep G x u) (hi : Rep G i v) {t e : TypeId} (ht : P.underlying t = some (.slice e)) (hs : tSize P e = some es)
    (h : iadrD es Cn x i = some (d, Cn))
    (hv : ∀ s off len, x = .view s off len → ∀ b base es' K, G.ρ s = some (b, base, es', K) → es' = es) :
    ∃ z, (Instr.indexAt t u v).run P w = .ok z w ∧ Rep G d z := by
  unfold iadrD at h
  split at h
  · rename_i tk es' l
    cases hb : Nat.beq es es' with
    | false => rw [hb] at h; cases h
    | true =>
      rw [hb] at h
      have : es = es' := Nat.eq_of_beq_eq_true hb
      subst this
      simp only [Option.bind_eq_some_iff] at h
      obtain ⟨j, hj, c, hc, he⟩ := h
      simp at he; subst he
      obtain ⟨k, n, rfl, h0, h1, rfl⟩ := idx_inv hj
      have hi := hi.int_inv; subst hi
      have key : ∀ (b off cap : Nat) (Y : Nat → Value), (∀ k, k < l.length * es → G.μ b (off + k) = some (Y k)) → (∀ (i : Nat) (d : D), l[i]? = some d → (cellsOf d).length = es ∧ singleL (cellsOf d) = true) →
          (∀ (i : Nat) (d : D) (j : Nat) (c : D), l[i]? = some d → (cellsOf d)[j]? = some c → Rep0 G.μ c (Y (i * es + j))) →
          ∃ z, (Instr.indexAt t (.slice (some ⟨b, off, none⟩) l.length cap) (.int k n)).run P w = .ok z w ∧ Rep G (.rptr (cellsOf c)) z := by
        intro b off cap Y hm hs' hr
        refine ⟨.pointer (some ⟨b, off + n.toNat * es, none⟩), ?_, .pure (.rptr (fun j => Y (n.toNat * es + j)) (hs' _ _ hc).2 ?_ ?_)⟩
        · simp [Instr.indexAt, asIntOf, run_underlying ht, h0, h1, run_sizeOf' hs, add_off]
        · intro k hk
          have hlt := (List.getElem?_eq_some_iff.1 hc).1
          have hcl := (hs' _ _ hc).1
          have : n.toNat * es + k < l.length * es := by
            have : (n.toNat + 1) * es ≤ l.length * es := Nat.mul_le_mul_right _ hlt
            rw [Nat.add_mul] at this; omega
          have := hm _ this
          rw [Nat.add_assoc]; exact this
        · intro j c' hj'
          exact hr _ _ _ _ hc hj'
      cases hx with
      | pure hx =>
        cases hx with
        | slcNil => simp at h1; omega
        | slc Y ht hc hs hm hr => exact key _ _ _ Y hm hs hr
      | ownNil => simp at h1; omega
      | own Y hc hs hm hr ht => exact key _ _ _ Y hm hs hr
  · rename_i s off len
    simp only [Option.bind_eq_some_iff] at h
    obtain ⟨j, hj, he⟩ := h
    simp at he; subst he
    obtain ⟨k, n, rfl, h0, h1, rfl⟩ := idx_inv hj
    have hi := hi.int_inv; subst hi
    cases hx with
    | pure hx => cases hx
    | @view _ _ _ b base es' K cap ad hρ hk hc ha =>
      have := hv _ _ _ rfl _ _ _ _ hρ
      subst this
      have hcap : cap ≠ 0 := by omega
      have ha := ha.resolve_left hcap
      subst ha
      refine ⟨.pointer (some ⟨b, base + ((off + n.toNat) * es' + 0), none⟩), ?_, .ptr hρ⟩
      simp [Instr.indexAt, asIntOf, run_underlying ht, h0, h1, run_sizeOf' hs, add_off, Nat.add_mul, Nat.add_assoc]
  · cases h

/-- the address of an element of an array -/
theorem iada_sound {len es : Nat} {x i d : D} {u v : Value} (hx : Rep G x u) (hi : Rep G i v) {t e : TypeId} (ht : P.underlying t = some (.array len e)) (hs : tSize P e = some es)
    (h : ((idx len i).bind fun j => iadaD es Cn j x) = some (d, Cn)) :
    ∃ z, (Instr.indexAt t u v).run P w = .ok z w ∧ Rep G d z := by
  unfold iadaD at h
  simp only [Option.bind_eq_some_iff] at h
  obtain ⟨j, hj, h⟩ := h
  obtain ⟨k, n, rfl, h0, h1, rfl⟩ := idx_inv hj
  have hi := hi.int_inv; subst hi
  split at h
  · rename_i s i o
    simp at h; subst h
    cases hx with
    | pure hx => cases hx
    | @ptr _ _ _ b base es' K hρ =>
      refine ⟨.pointer (some ⟨b, base + (i * es' + (o + n.toNat * es)), none⟩), ?_, .ptr hρ⟩
      simp [Instr.indexAt, asIntOf, run_underlying ht, Instr.sureAddr, h0, h1, run_sizeOf' hs, add_off, Nat.add_assoc]
  · rename_i cs
    simp at h; subst h
    cases hx with
    | pure hx =>
      cases hx with
      | @rptr _ b off Y hone hm hr =>
        refine ⟨.pointer (some ⟨b, off + n.toNat * es, none⟩), ?_, .pure (.rptr (fun j => Y (n.toNat * es + j)) (singleL_drop hone _) ?_ ?_)⟩
        · simp [Instr.indexAt, asIntOf, run_underlying ht, Instr.sureAddr, h0, h1, run_sizeOf' hs, add_off]
        · intro k hk
          rw [Nat.add_assoc]; exact hm _ (by simp at hk; omega)
        · intro j c hj
          rw [List.getElem?_drop] at hj
          exact hr _ _ hj
  · cases h

/-- a field's address -/
theorem fadr_sound {off : Nat} {x d : D} {u : Value} (hx : Rep G x u) {t : TypeId} {fs : Array Field} {f : Nat} {fd : Field} (ht : P.underlying t = some (.struct fs)) (hf : fs[f]? = some fd)
    (ho : fd.offset = off) {n : Nat} (hs : tSize P fd.type = some (n + 1))
    (h : fadrD off Cn x = some (d, Cn)) :
    ∃ z, (Instr.fieldAt t u f).run P w = .ok z w ∧ Rep G d z := by
  unfold fadrD at h
  subst ho
  have hp : ∀ b o, (fieldPlace ⟨b, o, none⟩ fd).run P w = .ok ⟨b, o + fd.offset, none⟩ w := by
    intro b o
    simp [fieldPlace, run_sizeOf' hs, add_off]
  split at h
  · rename_i s i o
    simp at h; subst h
    cases hx with
    | pure hx => cases hx
    | @ptr _ _ _ b base es' K hρ =>
      refine ⟨.pointer (some ⟨b, base + (i * es' + (o + fd.offset)), none⟩), ?_, .ptr hρ⟩
      simp [Instr.fieldAt, run_underlying ht, hf, Instr.sureAddr, hp, Nat.add_assoc]
  · rename_i cs
    simp at h; subst h
    cases hx with
    | pure hx =>
      cases hx with
      | @rptr _ b o Y hone hm hr =>
        refine ⟨.pointer (some ⟨b, o + fd.offset, none⟩), ?_, .pure (.rptr (fun j => Y (fd.offset + j)) (singleL_drop hone _) ?_ ?_)⟩
        · simp [Instr.fieldAt, run_underlying ht, hf, Instr.sureAddr, hp]
        · intro k hk
          rw [Nat.add_assoc]; exact hm _ (by simp at hk; omega)
        · intro j c hj
          rw [List.getElem?_drop] at hj
          exact hr _ _ hj
  · cases h

/-! ### parts of structs and arrays -/
theorem agg_cells {f : Bool} {cs : List D} {u : Value} (hx : Rep G (.agg f cs) u) :
    ∃ vs, u = .agg vs ∧ cs.length = vs.size ∧ ∀ (j : Nat) (c : D), cs[j]? = some c → ∃ x, vs[j]? = some x ∧ Rep G c x ∧ (f = true → Rep0 G.μ c x ∧ single c = true) := by
  cases hx with
  | pure hx =>
    cases hx with
    | @agg _ _ vs hl hone hr =>
      refine ⟨vs, rfl, hl, fun j c hj => ?_⟩
      have hlt := (List.getElem?_eq_some_iff.1 hj).1
      have := hr j c vs[j] hj (by simp)
      exact ⟨vs[j], by simp, .pure this, fun _ => ⟨this, singleL_get.1 hone j c hj⟩⟩
  | @agg _ vs hl hr =>
    refine ⟨vs, rfl, hl, fun j c hj => ?_⟩
    have hlt := (List.getElem?_eq_some_iff.1 hj).1
    exact ⟨vs[j], by simp, hr j c vs[j] hj (by simp), fun h => by cases h⟩

theorem part_sound {f ag fl : Bool} {n off : Nat} {cs : List D} {d : D} {u : Value} (hx : Rep G (.agg f cs) u) (h : readAt f ag fl n off cs = some d) {t : TypeId} (ht : tAgg P t = some ag) (hs : tSize P t = some n) :
    ∃ vs, u = .agg vs ∧ ∃ z, (part t vs off).run P w = .ok z w ∧ Rep G d z := by
  obtain ⟨vs, rfl, hl, hc⟩ := agg_cells hx
  refine ⟨vs, rfl, ?_⟩
  rcases readAt_cells (Y := fun j => vs[j]?) hc h with ⟨rfl, l, h1, h2, h3⟩ | ⟨rfl, v, h1, _, h3⟩
  · refine ⟨_, ?_, h3⟩
    simp only [part, Sem.run_bind, run_isAgg' ht, Result.andThen_ok, if_true, run_sizeOf' hs, Sem.run_pure]
    congr 2
    apply Array.ext_getElem?
    intro j
    simp only [Array.getElem?_extract, List.getElem?_toArray]
    by_cases hj : j < n
    · have h4 := h2 j hj
      have hjl : j < l.length := by omega
      have : (vs[off + j]?).isSome = true := by rw [h4]; simp [hjl]
      have hlt : off + j < vs.size := by simpa using this
      rw [if_pos (by omega)]
      exact h4
    · rw [if_neg (by omega)]
      simp [List.getElem?_eq_none (show l.length ≤ j by omega)]
  · refine ⟨v, ?_, h3⟩
    simp [part, run_isAgg' ht, h1]

theorem tup_ext {vs : List D} {d : D} {u : Value} {i : Nat} (hx : Rep G (.tup vs) u) (h : vs[i]? = some d) : ∃ z, (Instr.extract u i).run P w = .ok z w ∧ Rep G d z := by
  have hlt := (List.getElem?_eq_some_iff.1 h).1
  cases hx with
  | pure hx =>
    cases hx with
    | @tup _ us hl hr =>
      have hlt' : i < us.size := by omega
      exact ⟨us[i], by simp [Instr.extract, hlt'], .pure (hr i d us[i] h (by simp))⟩
  | @tup _ us hl hr =>
    have hlt' : i < us.size := by omega
    exact ⟨us[i], by simp [Instr.extract, hlt'], hr i d us[i] h (by simp)⟩
end Go.YtnpoikgkhhpdgaaDoorE
