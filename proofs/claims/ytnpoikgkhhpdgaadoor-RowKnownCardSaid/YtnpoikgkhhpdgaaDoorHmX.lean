/-
  slices.Insert where no more is known of the capacity; functions; depth.
-/
import Derived.Test.YtnpoikgkhhpdgaaDoorHmV
set_option linter.unusedVariables false
namespace Go.YtnpoikgkhhpdgaaDoorH
open Go.RowKit
open Go.YtnpoikgkhhpdgaaDoorE (FF okFn cell_of_heap)
variable {P : Program} {gl : List Nat} {w0 : World} {ι κ : Inj} {H H' : Heap} {w w' : World} {T T' : Tm} {a : Act} {N n : Nat} {run : Run} {y : Yld} {o : Oper} {go : Go1}

theorem cgets_of : ∀ {l : List V} {cs : Tr V} {off : Nat}, (∀ j, j < l.length → cs.get (off + j) = l[j]?) → cgets cs off l.length = some l
  | [], cs, off, _ => cgets_zero cs off
  | v :: l, cs, off, h => by
    rw [List.length_cons, cgets_succ]
    have h0 := h 0 (by simp)
    simp only [Nat.add_zero, List.getElem?_cons_zero] at h0
    rw [h0, ob_s, cgets_of (l := l) (off := off + 1) fun j hj => by
      have := h (j + 1) (by simpa using hj)
      rw [show off + 1 + j = off + (j + 1) by omega, this]; simp]
    rfl
theorem cgets_at {l : List V} {cs : Tr V} {off n : Nat} (hn : l.length = n) (h : ∀ j, j < n → cs.get (off + j) = l[j]?) : cgets cs off n = some l := by
  subst hn; exact cgets_of h
/-- less is known of the objects -/
theorem HR.sub (h : HR P gl w0 ι H w) (hn : H'.next = H.next) (hs : ∀ id ob', H'.get id = some ob' → ∃ ob, H.get id = some ob ∧ (ob = ob' ∨ ∃ n cs cs', ob = .cells true n cs ∧ ob' = .cells true n cs' ∧ ∀ j x, cs'.get j = some x → cs.get j = some x)) :
    HR P gl w0 ι H' w := by
  have own : ∀ {id ob'}, H'.get id = some ob' → ∃ ob, H.get id = some ob ∧ isOwn ob = isOwn ob' := fun {id ob'} hg => by
    obtain ⟨ob, h1, h2⟩ := hs id ob' hg
    rcases h2 with rfl | ⟨n, cs, cs', rfl, rfl, _⟩
    · exact ⟨_, h1, rfl⟩
    · exact ⟨_, h1, rfl⟩
  refine { below := h.below, lt := fun id x hx => by rw [hn]; exact h.lt id x hx, blk := h.blk, obs := fun id ob' b sz hg hx => ?_, own := fun id ob' b sz hg hx ho => ?_, apart := fun i j ob1 ob2 x x' hne h1 h2 ho hx hx' => ?_, glob := h.glob, wf := fun id n cs hg => ?_ }
  · obtain ⟨ob, h1, h2⟩ := hs id ob' hg
    rcases h2 with rfl | ⟨n, cs, cs', rfl, rfl, h3⟩
    · exact h.obs id _ b sz h1 hx
    · obtain ⟨arr, el, fz, q1, q2, q3⟩ := h.obs id _ b sz h1 hx
      exact ⟨arr, el, fz, q1, fun j x hj => q2 j x (h3 j x hj), fun ho => let ⟨p1, p2, p3, p4⟩ := q3 ho; ⟨p1, p2, p3, fun j x hj => p4 j x (h3 j x hj)⟩⟩
  · obtain ⟨ob, h1, h2⟩ := own hg
    exact h.own id ob b sz h1 hx (by rw [h2]; exact ho)
  · obtain ⟨o1, p1, p2⟩ := own h1
    obtain ⟨o2, p3, p4⟩ := own h2
    exact h.apart i j o1 o2 x x' hne p1 p3 (by rw [p2]; exact ho) hx hx'
  · obtain ⟨ob, h1, h2⟩ := hs id _ hg
    rcases h2 with rfl | ⟨m, cs1, cs', rfl, e, h3⟩
    · exact h.wf id n cs h1
    · cases e
      exact fun j x hj => h.wf id _ cs1 h1 j x (h3 j x hj)

theorem mkCells_get {l : List V} {j : Nat} {x : V} (h : (cputs .nil 0 l).get j = some x) : l[j]? = some x := by
  rw [cputs_get] at h
  split at h
  · simpa using h
  · simp at h
/-- the new row is one that has grown -/
theorem fin_new {id k es n3 : Nat} {Hr H3 : Heap} {cs3 : Tr V} {L : List V} {e : Ending} (hl : Left P gl w0 ι Hr H3 (.sl H.next 0 es k none) e w') (hnr : Hr.next = H.next) (hgr : ∀ j, j ≠ id → Hr.get j = H.get j) (hn3 : H3.next = H.next + 1)
    (hg3 : ∀ j, j ≠ H.next → H3.get j = Hr.get j) (hq : H3.get H.next = some (.cells true n3 cs3)) (hn : n3 = L.length) (hL : ∀ j x, L[j]? = some x → cs3.get j = some x) :
    Left P gl w0 ι H ((H.del id).push (mkCells L)) (.sl H.next 0 es k none) e w' := by
  obtain ⟨v, ι', he, hE, hR, hv⟩ := hl
  refine ⟨v, ι', he, ⟨hE.le, by simp, fun i hi => hE.low i (by rw [hnr]; exact hi)⟩, hR.sub (by rw [hn3]; simp) fun i ob' hg => ?_, hv⟩
  rw [Heap.get_push, Heap.next_del] at hg
  split at hg
  · rename_i e1
    cases hg
    rw [e1]
    refine ⟨_, hq, .inr ⟨n3, cs3, cputs .nil 0 L, rfl, ?_, fun j x hj => hL j x (mkCells_get hj)⟩⟩
    rw [hn]; unfold mkCells; rw [llen_eq]
  · rename_i e1
    rw [Heap.get_del] at hg
    split at hg
    · cases hg
    · rename_i e2
      exact ⟨ob', by rw [hg3 i e1, hgr i e2]; exact hg, .inl rfl⟩
/-- the new row is the old one -/
theorem fin_in {id k es b sz cap : Nat} {Hr H2 : Heap} {cs2 : Tr V} {L : List V} {e : Ending} (hl : Left P gl w0 ι Hr H2 (.sl id 0 es k (some cap)) e w') (hid : ι id = some (b, sz)) (hlt : id < H.next) (hnr : Hr.next = H.next) (hn2 : H2.next = H.next)
    (hg2 : ∀ j, j ≠ id → H2.get j = H.get j) (hq : H2.get id = some (.cells true sz cs2)) (hn : L.length ≤ sz) (hk : k ≤ cap) (hcap : 0 + cap * es = sz) (hL : ∀ j x, L[j]? = some x → cs2.get j = some x) :
    Left P gl w0 ι H ((H.del id).push (mkCells L)) (.sl H.next 0 es k none) e w' := by
  obtain ⟨v, ι', he, hE, hR, hv⟩ := hl
  have hid' := hE.le _ _ hid
  have hfr : ι' H.next = none := hR.fresh (by rw [hn2]; exact Nat.le_refl _)
  have hle : Inj.le ι' (ι'.add H.next b sz) := Inj.le_add hfr
  obtain ⟨arr, el, fz, h1, h2, h3⟩ := hR.obs id _ b sz hq hid'
  obtain ⟨h4, h5, h6, h7⟩ := h3 rfl
  subst h4
  have hd := (hR.wdel hq hid' arr).reserve 1
  rw [setRow_self w' b arr el (0, 0) h1] at hd
  have hp := hd.put (id := H.next) (b := b) (sz := sz) (κ := ι'.add H.next b sz) (ob := .cells true L.length (cputs .nil 0 L)) (by show H.next < (H2.del id).next + 1; simp [hn2]) (Inj.add_same _ _ _ _) hle
    (fun i hi => by unfold Inj.add; rw [if_neg hi]) (hR.blk id b sz hid') (fun _ => hR.own id _ b sz hq hid' rfl)
    (fun i ob' x hne hg' hx => by
      have hg2 : (H2.del id).get i = some ob' := hg'
      rw [Heap.get_del] at hg2
      split at hg2
      · cases hg2
      · rename_i hne2
        exact (hR.apart id i _ ob' _ x (Ne.symm hne2) hq hg2 rfl hid' hx).symm)
    ⟨arr, el, (0, 0), h1, fun j x hj => (let ⟨u, p1, p2, p3⟩ := h2 j x (hL j x (mkCells_get hj)); ⟨u, p1, p2.mono hle, p3⟩), fun _ => ⟨rfl, h5, hn, fun j x hj => (List.getElem?_eq_some_iff.1 (mkCells_get hj)).1⟩⟩
  refine ⟨v, ι'.add H.next b sz, he, ⟨Inj.le_trans hE.le hle, by simp, fun i hi => ?_⟩, hp.sub (by show H.next + 1 = (H2.del id).next + 1; simp [hn2]) fun i ob' hg => ⟨ob', ?_, .inl rfl⟩, ?_⟩
  · unfold Inj.add
    rw [if_neg (by omega)]
    exact hE.low i (by rw [hnr]; exact hi)
  · rw [Heap.get_push, Heap.next_del] at hg
    rw [Heap.get_set]
    split at hg
    · rename_i e1
      rw [if_pos e1]
      cases hg
      unfold mkCells; rw [llen_eq]
    · rename_i e1
      rw [if_neg e1]
      show (H2.del id).get i = some ob'
      rw [Heap.get_del] at hg ⊢
      split at hg
      · cases hg
      · rename_i e2
        rw [if_neg e2, hg2 i e2]; exact hg
  · cases hv with
    | sl e1 e2 =>
      rw [hid'] at e1
      cases e1
      exact .slu (Inj.add_same _ _ _ _) hk hcap

theorem roomOf_ge (H : Heap) (id off es len : Nat) : len ≤ roomOf H es (.sl id off es len none) := by
  unfold roomOf
  simp only
  cases H.cells id fun own n _ => ite1 own (some ((n - off) / es)) none with
  | none => exact Nat.le_refl _
  | some k =>
    show len ≤ ite1 (Nat.ble len k) k len
    cases h : Nat.ble len k with
    | true => exact Nat.le_of_ble_eq_true h
    | false => exact Nat.le_refl _
theorem cells_of {id n : Nat} {own : Bool} {cs : Tr V} {β : Type} (h : H.get id = some (.cells own n cs)) (f : Bool → Nat → Tr V → Option β) : H.cells id f = f own n cs := by
  unfold Heap.cells; rw [h]
theorem cutV_le {id off es n k : Nat} {c : Option Nat} (h : n ≤ k) : cutV k (.sl id off es n c) = .sl id off es n c := by
  show V.sl id off es (ite1 (Nat.ble n k) n k) c = _
  rw [Nat.ble_eq_true_of_le h, ite1_t]
theorem cutV_gt {id off es n k : Nat} {c : Option Nat} (h : k < n) : cutV k (.sl id off es n c) = .sl id off es k c := by
  show V.sl id off es (ite1 (Nat.ble n k) n k) c = _
  have : Nat.ble n k = false := by
    cases hb : Nat.ble n k with
    | false => rfl
    | true => have := Nat.le_of_ble_eq_true hb; omega
  rw [this, ite1_f]
theorem slCells_at {id off es len n : Nat} {c : Option Nat} {own : Bool} {cs : Tr V} {l : List V} (hg : H.get id = some (.cells own n cs)) (h : cgets cs off (len * es) = some l) : slCells H es (.sl id off es len c) = some (len, l) := by
  show ite1 (Nat.beq es es) (H.cells id fun _ _ cs => ob (cgets cs off (len * es)) fun l => some (len, l)) none = _
  rw [Nat.beq_refl, ite1_t, cells_of hg, h]; rfl
theorem copyTo_at {id off es len n m : Nat} {c : Option Nat} {cs : Tr V} {l : List V} (hg : H.get id = some (.cells true n cs)) (hfit : off + len * es ≤ n) (hm : m ≤ len) :
    copyTo es H (m, l) (.sl id off es len c) = some (.int .i64 (.ofNat m), H.set id (.cells true n (cputs cs off l))) := by
  show ite1 (Nat.beq es es) (H.cells id fun own n cs => fit3 own (Nat.ble (off + len * es) n) true
      (ite1 (Nat.ble m len) (some (V.int .i64 (.ofNat m), H.set id (.cells true n (cputs cs off l)))) (some (V.int .i64 (.ofNat len), H.set id (.cells true n (cputs cs off (ltake (len * es) l))))))) none = _
  rw [Nat.beq_refl, ite1_t, cells_of hg, Nat.ble_eq_true_of_le hfit, Nat.ble_eq_true_of_le hm]; rfl

noncomputable abbrev E0 : Go1 := evC (fun _ _ _ => none) (fun _ _ _ => none) 0
theorem e0_ok (hm : P.follows .mixedOrders = true) : GoOk P gl w0 E0 := evC_ok hm (fun f args H r H' ι w vals h => by cases h) (fun id args H r H' ι w vals l sz h => by cases h) 0
theorem params3 (a b c : V) : params [a, b, c] 0 = [(0, a), (1, b), (2, c)] := rfl
/-- the row with what has gone in -/
theorem ins_get {A c k : Nat} {l0 lv : List V} {cs : Tr V} (hl0 : l0.length = A + k) (hlv : lv.length = c) (hcs : ∀ j, j < A → cs.get j = l0[j]?) (j : Nat) (x : V) (h : (l0.take A ++ (lv ++ l0.drop A))[j]? = some x) :
    (cputs (cputs cs (A + c) (l0.drop A)) A lv).get j = some x ∧ (cputs (cputs cs A lv) (A + c) (l0.drop A)).get j = some x := by
  have hA : (l0.take A).length = A := by simp; omega
  have hD : (l0.drop A).length = k := by simp; omega
  rw [cputs_get, cputs_get, cputs_get, cputs_get, hD, hlv]
  rw [List.getElem?_append, hA] at h
  split at h
  · rename_i h1
    rw [List.getElem?_take, if_pos h1] at h
    rw [if_neg (by omega), if_neg (by omega), if_neg (by omega), if_neg (by omega), hcs j h1]
    exact ⟨h, h⟩
  · rename_i h1
    rw [List.getElem?_append, hlv] at h
    split at h
    · rename_i h2
      rw [if_pos (by omega), if_neg (by omega), if_pos (by omega)]
      exact ⟨h, h⟩
    · rename_i h2
      have h3 := (List.getElem?_eq_some_iff.1 h).1
      rw [hD] at h3
      rw [if_neg (by omega), if_pos (by omega), if_pos (by omega)]
      rw [show j - A - c = j - (A + c) by omega] at h
      exact ⟨h, h⟩
set_option maxHeartbeats 1000000 in
theorem ins_ok (hm : P.follows .mixedOrders = true) {f es by_ : Nat} {z : List V} {ins : Option (Nat × Nat)} (hok : okFun P gl f ⟨3, [.t 6], insC es by_ z, ins⟩ = true) (hz : z.length = es) (hes : 0 < es) (hby : 0 < by_) {args : List V} {r : V} {vals : Array Value}
    (h : insRun (es, by_) H args = some (r, H')) (hH : HR P gl w0 ι H w) (hv : VRs ι args vals) : okFn P f = true ∧ Calls P f vals w (Left P gl w0 ι H H' r) := by
  unfold insRun at h
  split at h <;> first | (cases h; done) | skip
  rename_i id off es' len i v
  obtain ⟨⟨q1, q2, q3⟩, k1⟩ := fit3_some.1 h
  have e1 : es = es' := Nat.eq_of_beq_eq_true q1
  subst e1
  have e2 : off = 0 := Nat.eq_of_beq_eq_true q2
  subst e2
  have hi : i ≤ len := Nat.le_of_ble_eq_true q3
  obtain ⟨⟨m0, lv⟩, hsv, k2⟩ := ob_some.1 k1
  cases m0 with
  | zero => cases k2
  | succ m =>
  obtain ⟨own, n, cs, hg, k3⟩ := Heap.cells_some k2
  obtain ⟨⟨p1, p2, p3⟩, k4⟩ := fit3_some.1 k3
  subst p1
  have e3 : n = len * es := Nat.eq_of_beq_eq_true p2
  subst e3
  obtain ⟨l0, hl0, k5⟩ := ob_some.1 k4
  obtain ⟨hb0, k6⟩ := ite1_some.1 k5
  simp only [Option.some.injEq, Prod.mk.injEq] at k6
  obtain ⟨er, eH⟩ := k6
  subst er; subst eH
  have hb : (len + (m + 1)) * by_ ≤ 1000000000 := Nat.le_of_ble_eq_true hb0
  rw [lapp_eq, lapp_eq, ltake_eq, ldrop_eq]
  obtain ⟨hl0n, hl0g⟩ := cgets_get hl0
  simp only [Nat.zero_add] at hl0g
  -- what goes in
  unfold insApart at p3
  split at p3 <;> first | (cases p3; done) | skip
  rename_i idv offv esv nv cv
  have hne : idv ≠ id := fun e => by rw [e, Nat.beq_refl] at p3; cases p3
  rw [beq_ne hne, ite1_f] at p3
  obtain ⟨nn, csv, hgv, hnn⟩ : ∃ nn csv, H.get idv = some (.cells true nn csv) ∧ 0 < nn := by
    cases hc : H.cells idv fun own n _ => some (ite1 own (Nat.blt 0 n) false) with
    | none => rw [hc] at p3; cases p3
    | some b =>
      rw [hc] at p3
      obtain ⟨own, nn, csv, g1, g2⟩ := Heap.cells_some hc
      have p3 : b = true := p3
      subst p3
      cases own with
      | false => cases g2
      | true => exact ⟨nn, csv, g1, blt_lt (Option.some.inj g2)⟩
  have hsv2 : ite1 (Nat.beq es esv) (H.cells idv fun _ _ cs => ob (cgets cs offv (nv * es)) fun l => some (nv, l)) none = some (m + 1, lv) := hsv
  obtain ⟨g1, g2⟩ := ite1_some.1 hsv2
  have e4 := Nat.eq_of_beq_eq_true g1
  subst e4
  rw [cells_of hgv] at g2
  obtain ⟨lv', g3, g4⟩ := ob_some.1 g2
  simp only [Option.some.injEq, Prod.mk.injEq] at g4
  obtain ⟨e5, e6⟩ := g4
  subst e5
  replace e6 := e6.symm
  subst e6
  have hlvn := (cgets_get g3).1
  -- the true capacity
  obtain ⟨u0, u1, u2, rfl⟩ : ∃ u0 u1 u2, vals = #[u0, u1, u2] := by
    have := hv.len
    simp only [List.length_cons, List.length_nil] at this
    obtain ⟨l⟩ := vals
    match l, this with
    | [a, b, c], _ => exact ⟨a, b, c, rfl⟩
  have hv0 := hv.get 0 _ u0 rfl rfl
  have hv1 := hv.get 1 _ u1 rfl rfl
  have hv2 := hv.get 2 _ u2 rfl rfl
  obtain ⟨b, cap, sz, hid, hlc, hcs, rfl⟩ : ∃ b cap sz, ι id = some (b, sz) ∧ len ≤ cap ∧ 0 + cap * es = sz ∧ u0 = .slice (some ⟨b, 0, none⟩) len cap := by
    cases hv0 with
    | slu e1 e2 e3 => exact ⟨_, _, _, e1, e2, e3, rfl⟩
  have hidv : ∃ bv szv, ι idv = some (bv, szv) := by
    cases hv2 with
    | sl e1 e2 => exact ⟨_, _, e1⟩
    | slu e1 e2 e3 => exact ⟨_, _, e1⟩
  obtain ⟨bv, szv, hidv⟩ := hidv
  have hltv := hH.lt _ _ hidv
  have hlt := hH.lt _ _ hid
  have hszle : len * es ≤ sz := by rw [← hcs, Nat.zero_add]; exact Nat.mul_le_mul_right _ hlc
  have hHr : HR P gl w0 ι (H.set id (.cells true sz cs)) w := hH.put hlt hid (Inj.le_refl _) (fun _ _ => rfl) (hH.blk _ _ _ hid) (fun _ => hH.own _ _ _ _ hg hid rfl)
    (fun j ob' x hne hg' hx => (hH.apart id j _ ob' _ x (Ne.symm hne) hg hg' rfl hid hx).symm) (by
      obtain ⟨arr, el, fz, w1, w2, w3⟩ := hH.obs _ _ _ _ hg hid
      obtain ⟨w4, w5, w6, w7⟩ := w3 rfl
      exact ⟨arr, el, fz, w1, w2, fun _ => ⟨w4, w5, Nat.le_refl _, fun j x hj => by have := w7 j x hj; omega⟩⟩)
  have hvr : VRs ι [.sl id 0 es len (some cap), .int .i64 (Int.ofNat i), .sl idv offv es (m + 1) cv] #[.slice (some ⟨b, 0, none⟩) len cap, u1, u2] := ⟨rfl, fun j c x hc hx => by
    match j with
    | 0 => simp at hc hx; subst hc; subst hx; exact .sl hid hlc
    | 1 => simp at hc hx; subst hc; subst hx; exact hv1
    | 2 => simp at hc hx; subst hc; subst hx; exact hv2
    | j + 3 => simp at hc⟩
  have hgr : ∀ j, j ≠ id → (H.set id (.cells true sz cs)).get j = H.get j := fun j hj => by rw [Heap.get_set, if_neg hj]
  have hgid : (H.set id (.cells true sz cs)).get id = some (.cells true sz cs) := by rw [Heap.get_set, if_pos rfl]
  have hslv : ∀ (K : Heap), K.get idv = H.get idv → slCells K es (.sl idv offv es (m + 1) cv) = some (m + 1, lv) := fun K hK => slCells_at (hK.trans hgv) g3
  have hmul : (i + (m + 1)) * es = i * es + (m + 1) * es := Nat.add_mul ..
  have hiA : i * es ≤ len * es := Nat.mul_le_mul_right _ hi
  have hk : l0.length = i * es + (len - i) * es := by rw [← Nat.add_mul, hl0n]; congr 1; omega
  have hLL : (l0.take (i * es) ++ (lv ++ l0.drop (i * es))).length = (len + (m + 1)) * es := by
    simp only [List.length_append, List.length_take, List.length_drop, hlvn, hl0n, Nat.add_mul]
    omega
  generalize hHr' : H.set id (.cells true sz cs) = Hr at hHr hgr hgid
  have hnr : Hr.next = H.next := by rw [← hHr']; rfl
  have hbig : len + (m + 1) ≤ 1000000000 := Nat.le_trans (Nat.le_mul_of_pos_right _ hby) hb
  have hG := fun (cs' : Tr V) (hc : ∀ j, j < i * es → cs'.get j = l0[j]?) => ins_get (A := i * es) (c := (m + 1) * es) (k := (len - i) * es) hk hlvn hc
  have hold : ∀ j, j < i * es → cs.get j = l0[j]? := fun j hj => hl0g j (by omega)
  have hdl : (l0.drop (i * es)).length = (len - i) * es := by simp; omega
  have hcd : cgets cs (i * es) ((len - i) * es) = some (l0.drop (i * es)) := cgets_at hdl fun j hj => by
    rw [hl0g (i * es + j) (by omega), List.getElem?_drop]
  have hroomsz : ∀ k, k ≤ cap → k * es ≤ sz := fun k hk => by rw [← hcs, Nat.zero_add]; exact Nat.mul_le_mul_right _ hk
  have use := fun (r' : V) (K : Heap) (hrun : finO [.t 6] (E0 (insC es by_ z) (params [.sl id 0 es len (some cap), .int .i64 (Int.ofNat i), .sl idv offv es (m + 1) cv] 0) Hr) = some (r', K)) => body_ok (e0_ok (P := P) (gl := gl) (w0 := w0) hm) hok rfl hrun hHr hvr
  by_cases hin : i = len
  · -- at the end
    subst hin
    have hnil : l0.drop (i * es) = [] := List.drop_eq_nil_of_le (by omega)
    by_cases hroom : i + (m + 1) ≤ cap
    · have hA : appH es by_ Hr (.sl id 0 es i (some cap)) (.sl idv offv es (m + 1) cv) = some (.sl id 0 es (i + (m + 1)) (some cap), Hr.set id (.cells true sz (cputs cs (0 + i * es) lv))) := by
        unfold appH
        rw [hslv Hr (hgr _ hne), ob_s]
        show app1 es by_ Hr (m + 1) lv (.sl id 0 es i (some cap)) = _
        show ite1 (Nat.beq es es) (Hr.cells id fun own n cs => ite1 (Nat.ble (i + (m + 1)) cap) (appIn es Hr id 0 i cap (m + 1) n own cs lv) (ob (cgets cs 0 (i * es)) fun l0 => appNew es by_ Hr i (m + 1) (lapp l0 lv))) none = _
        rw [Nat.beq_refl, ite1_t, cells_of hgid, Nat.ble_eq_true_of_le hroom, ite1_t]
        unfold appIn
        rw [Nat.ble_eq_true_of_le (by rw [Nat.zero_add]; exact hroomsz _ hroom)]
        rfl
      have hrun := insC_end (es := es) (by_ := by_) (z := z) (L := 0) (run := fun _ _ _ => none) (y := fun _ _ _ => none) (m := m + 1) (n := i) (by omega) rfl hA
      obtain ⟨o1, o2⟩ := use _ _ hrun
      refine ⟨o1, o2.mono fun e w' hl => fin_in hl hid hlt hnr (by simp [hnr]) (fun j hj => by rw [Heap.get_set, if_neg hj, hgr j hj]) (by rw [Heap.get_set, if_pos rfl]) (by rw [hLL]; exact hroomsz _ hroom) hroom hcs fun j x hj => ?_⟩
      have := (hG cs hold j x hj).2
      rw [hnil, cputs_nil] at this
      rw [Nat.zero_add]; exact this
    · have hA : appH es by_ Hr (.sl id 0 es i (some cap)) (.sl idv offv es (m + 1) cv) = some (.sl H.next 0 es (i + (m + 1)) none, Hr.push (mkCells (l0 ++ lv))) := by
        unfold appH
        rw [hslv Hr (hgr _ hne), ob_s]
        show app1 es by_ Hr (m + 1) lv (.sl id 0 es i (some cap)) = _
        show ite1 (Nat.beq es es) (Hr.cells id fun own n cs => ite1 (Nat.ble (i + (m + 1)) cap) (appIn es Hr id 0 i cap (m + 1) n own cs lv) (ob (cgets cs 0 (i * es)) fun l0 => appNew es by_ Hr i (m + 1) (lapp l0 lv))) none = _
        have hbf : Nat.ble (i + (m + 1)) cap = false := by
          cases hb : Nat.ble (i + (m + 1)) cap with
          | false => rfl
          | true => exact absurd (Nat.le_of_ble_eq_true hb) hroom
        rw [Nat.beq_refl, ite1_t, cells_of hgid, hbf, ite1_f, hl0, ob_s]
        unfold appNew
        rw [Nat.ble_eq_true_of_le hb, lapp_eq, hnr]
        rfl
      have hrun := insC_end (es := es) (by_ := by_) (z := z) (L := 0) (run := fun _ _ _ => none) (y := fun _ _ _ => none) (m := m + 1) (n := i) (by omega) rfl hA
      obtain ⟨o1, o2⟩ := use _ _ hrun
      refine ⟨o1, o2.mono fun e w' hl => fin_new (n3 := llen (l0 ++ lv)) (cs3 := cputs .nil 0 (l0 ++ lv)) hl hnr hgr (by simp [hnr]) (fun j hj => by rw [Heap.get_push, hnr, if_neg hj]) (by rw [Heap.get_push, hnr, if_pos rfl]; rfl) (by rw [hLL, llen_eq]; simp [hlvn, hl0n, Nat.add_mul]) fun j x hj => ?_⟩
      rw [hnil, List.append_nil, List.take_of_length_le (by omega)] at hj
      rw [cputs_get, if_pos ⟨Nat.zero_le _, by have := (List.getElem?_eq_some_iff.1 hj).1; omega⟩]
      exact hj
  · have hlt' : i < len := by omega
    have hcape : ∀ a b : Nat, ite1 (Nat.beq cap a) b b = b := fun a b => by cases Nat.beq cap a <;> rfl
    have hce : Nat.beq cap i = false := beq_ne (by omega)
    have hs2 : ∀ (K : Heap) (c : Option Nat), K.get id = some (.cells true sz cs) → slCells K es (.sl id (i * es) es (len - i) c) = some (len - i, l0.drop (i * es)) := fun K c hK => slCells_at hK hcd
    have hsub : len + (m + 1) - (i + (m + 1)) = len - i := by omega
    by_cases hroom : len + (m + 1) ≤ cap
    · -- in place
      have hcgt : sz ≥ (len + (m + 1)) * es := hroomsz _ hroom
      have hszp : 0 < sz := Nat.lt_of_lt_of_le (Nat.mul_pos (by omega) hes) hcgt
      have hfit1 : (i + (m + 1)) * es + (len - i) * es ≤ sz := by rw [← Nat.add_mul, show i + (m + 1) + (len - i) = len + (m + 1) by omega]; exact hcgt
      have hfit2 : i * es + (len + (m + 1) - i) * es ≤ sz := by rw [← Nat.add_mul, show i + (len + (m + 1) - i) = len + (m + 1) by omega]; exact hcgt
      have hO : natV Hr 1 [.sl idv offv es (m + 1) cv, .sl id ((i + (m + 1)) * es) es (len + (m + 1) - (i + (m + 1))) (some (cap - (i + (m + 1))))] = some (.bool false) := by
        show ite1 (Nat.beq idv id) none (Hr.cells idv fun own _ _ => Hr.cells id fun own' n' _ => fit3 own own' (Nat.blt 0 n') (some (V.bool false))) = _
        rw [beq_ne hne, ite1_f, cells_of ((hgr _ hne).trans hgv), cells_of hgid, show Nat.blt 0 sz = true from Nat.ble_eq_true_of_le hszp]
        rfl
      have hk1 := copyTo_at (es := es) (len := len - i) (m := len - i) (c := some (cap - (i + (m + 1)))) (l := l0.drop (i * es)) hgid hfit1 (Nat.le_refl _)
      have hg1 : (Hr.set id (.cells true sz (cputs cs ((i + (m + 1)) * es) (l0.drop (i * es))))).get id = some (.cells true sz (cputs cs ((i + (m + 1)) * es) (l0.drop (i * es)))) := by rw [Heap.get_set, if_pos rfl]
      have hk2 := copyTo_at (es := es) (len := len + (m + 1) - i) (m := m + 1) (c := some (cap - i)) (l := lv) hg1 hfit2 (by omega)
      have hrun := insC_shift (es := es) (by_ := by_) (z := z) (L := 0) (run := fun _ _ _ => none) (y := fun _ _ _ => none) (m := m + 1) (n := len) (i := i) (c := cap) (v := .sl idv offv es (m + 1) cv) (by omega) hlt' hroom (by omega) rfl hO
        (by rw [hsub, cutV_gt (by omega)]; exact hs2 Hr _ hgid) (by rw [hsub]; exact hk1)
        (by rw [cutV_le (by omega)]; exact hslv _ (by rw [Heap.get_set, if_neg hne, hgr _ hne])) hk2
      obtain ⟨o1, o2⟩ := use _ _ hrun
      refine ⟨o1, o2.mono fun e w' hl => fin_in hl hid hlt hnr (by simp [hnr]) (fun j hj => by rw [Heap.get_set, if_neg hj, Heap.get_set, if_neg hj, hgr j hj]) (by rw [Heap.get_set, if_pos rfl]) (by rw [hLL]; exact hcgt) hroom hcs fun j x hj => ?_⟩
      rw [hmul]
      exact (hG cs hold j x hj).1
    · -- a new row
      have hqne : idv ≠ H.next := by omega
      have hqid : id ≠ H.next := by omega
      have hk1e : i + (len + (m + 1) - i) = len + (m + 1) := by omega
      have htk : (l0.take (i * es)).length = i * es := by simp; omega
      have hN : llen (lapp (l0.take (i * es)) (rep z (len + (m + 1) - i))) = (len + (m + 1)) * es := by
        rw [llen_eq, lapp_eq, List.length_append, htk, rep_len, hz, ← Nat.add_mul, hk1e]
      have hA : appzH es by_ z Hr (.sl id (ite1 (Nat.beq cap 0) 0 0) es i (some cap)) (.int .i64 ((len + (m + 1) - i : Nat) : Int)) = some (.sl H.next 0 es (len + (m + 1)) none, Hr.push (mkCells (lapp (l0.take (i * es)) (rep z (len + (m + 1) - i))))) := by
        show fit3 (Nat.beq es es) (Nat.blt cap (i + (len + (m + 1) - i))) (Nat.blt 0 (len + (m + 1) - i)) (Hr.cells id fun _ _ cs => ob (cgets cs (ite1 (Nat.beq cap 0) 0 0) (i * es)) fun l0 => appNew es by_ Hr i (len + (m + 1) - i) (lapp l0 (rep z (len + (m + 1) - i)))) = _
        rw [Nat.beq_refl, show Nat.blt cap (i + (len + (m + 1) - i)) = true from Nat.ble_eq_true_of_le (by omega), show Nat.blt 0 (len + (m + 1) - i) = true from Nat.ble_eq_true_of_le (by omega), hcape]
        show (Hr.cells id fun _ _ cs => ob (cgets cs 0 (i * es)) fun l0 => appNew es by_ Hr i (len + (m + 1) - i) (lapp l0 (rep z (len + (m + 1) - i)))) = _
        rw [cells_of hgid, cgets_at (l := l0.take (i * es)) htk (fun j hj => by rw [Nat.zero_add, hold j hj, List.getElem?_take, if_pos hj]), ob_s]
        unfold appNew
        rw [hk1e, Nat.ble_eq_true_of_le hb, hnr]
        rfl
      generalize hC1 : cputs .nil 0 (lapp (l0.take (i * es)) (rep z (len + (m + 1) - i))) = C1
      have hC1g : ∀ j, j < i * es → C1.get j = l0[j]? := fun j hj => by
        rw [← hC1, cputs_get, lapp_eq, if_pos ⟨Nat.zero_le _, by rw [List.length_append, htk]; omega⟩, Nat.sub_zero, List.getElem?_append_left (by omega), List.getElem?_take, if_pos hj]
      have hmk : mkCells (lapp (l0.take (i * es)) (rep z (len + (m + 1) - i))) = .cells true ((len + (m + 1)) * es) C1 := by
        unfold mkCells; rw [hN, hC1]
      rw [hmk] at hA
      have hg1 : (Hr.push (.cells true ((len + (m + 1)) * es) C1)).get H.next = some (.cells true ((len + (m + 1)) * es) C1) := by rw [Heap.get_push, hnr, if_pos rfl]
      have ho1 : ∀ j, j ≠ H.next → (Hr.push (.cells true ((len + (m + 1)) * es) C1)).get j = Hr.get j := fun j hj => by rw [Heap.get_push, hnr, if_neg hj]
      have hfit1 : i * es + (len + (m + 1) - i) * es ≤ (len + (m + 1)) * es := by rw [← Nat.add_mul, hk1e]; exact Nat.le_refl _
      have hk1 := copyTo_at (es := es) (len := len + (m + 1) - i) (m := m + 1) (c := none) (l := lv) hg1 hfit1 (by omega)
      have hg2 : ((Hr.push (.cells true ((len + (m + 1)) * es) C1)).set H.next (.cells true ((len + (m + 1)) * es) (cputs C1 (i * es) lv))).get H.next = some (.cells true ((len + (m + 1)) * es) (cputs C1 (i * es) lv)) := by rw [Heap.get_set, if_pos rfl]
      have ho2 : ∀ j, j ≠ H.next → ((Hr.push (.cells true ((len + (m + 1)) * es) C1)).set H.next (.cells true ((len + (m + 1)) * es) (cputs C1 (i * es) lv))).get j = Hr.get j := fun j hj => by rw [Heap.get_set, if_neg hj, ho1 j hj]
      have hfit2 : (i + (m + 1)) * es + (len - i) * es ≤ (len + (m + 1)) * es := by rw [← Nat.add_mul, show i + (m + 1) + (len - i) = len + (m + 1) by omega]; exact Nat.le_refl _
      have hk2 := copyTo_at (es := es) (len := len - i) (m := len - i) (c := none) (l := l0.drop (i * es)) hg2 hfit2 (Nat.le_refl _)
      have hrun := insC_grow (es := es) (by_ := by_) (z := z) (L := 0) (run := fun _ _ _ => none) (y := fun _ _ _ => none) (m := m + 1) (n := len) (i := i) (c := cap) (v := .sl idv offv es (m + 1) cv) (by omega) hlt' hlc (by omega) (by omega) rfl hA
        (Nat.lt_of_lt_of_le (by omega) (roomOf_ge _ _ _ _ _)) (by rw [cutV_le (by omega)]; exact hslv _ (by rw [ho1 _ hqne, hgr _ hne])) hk1
        (Nat.lt_of_lt_of_le (by omega) (roomOf_ge _ _ _ _ _)) (by rw [hsub, cutV_le (Nat.le_refl _), hce, ite1_f]; exact hs2 _ _ (by rw [ho2 _ hqid, hgid])) (by rw [hsub]; exact hk2)
      obtain ⟨o1, o2⟩ := use _ _ hrun
      refine ⟨o1, o2.mono fun e w' hl => fin_new hl hnr hgr (by simp [hnr]) (fun j hj => by rw [Heap.get_set, if_neg hj, ho2 j hj]) (by rw [Heap.get_set, if_pos rfl]) hLL.symm fun j x hj => ?_⟩
      rw [hmul]
      exact (hG C1 hC1g j x hj).2

/-! ### functions -/
def InsOk (fn : Fn) : Prop := match fn.ins with
  | none => True
  | some p => ∃ z, fn.body = insC p.1 p.2 z ∧ fn.np = 3 ∧ fn.res = [.t 6] ∧ z.length = p.1 ∧ 0 < p.1 ∧ 0 < p.2
def TabOk (P : Program) (gl : List Nat) (Φ : Tab) : Prop := ∀ f fn, Φ.get f = some fn → okFun P gl f fn = true ∧ InsOk fn
theorem run_ok (hm : P.follows .mixedOrders = true) {Φ : Tab} (hT : TabOk P gl Φ) (hE : GoOk P gl w0 go) : RunOk P gl w0 (runWith Φ go) := by
  intro f args H r H' ι w vals h hH hv
  obtain ⟨fn, hfn, h1⟩ := ob_some.1 h
  obtain ⟨hok, hins⟩ := hT f fn hfn
  obtain ⟨np, res, body, ins⟩ := fn
  have h2 : ite1 (Nat.beq (llen args) np) (Option.rec (motive := fun _ => Option (V × Heap)) (finO res (go body (params args 0) H)) (fun p => ite1 (insOn args) (insRun p H args) (finO res (go body (params args 0) H))) ins) none = some (r, H') := h1
  obtain ⟨hlen0, h3⟩ := ite1_some.1 h2
  rw [llen_eq] at hlen0
  have hlen := Nat.eq_of_beq_eq_true hlen0
  cases ins with
  | none => exact body_ok hE hok hlen h3 hH hv
  | some p =>
    have h4 : ite1 (insOn args) (insRun p H args) (finO res (go body (params args 0) H)) = some (r, H') := h3
    cases hon : insOn args with
    | false => rw [hon, ite1_f] at h4; exact body_ok hE hok hlen h4 hH hv
    | true =>
      rw [hon, ite1_t] at h4
      obtain ⟨z, e1, e2, e3, e4, e5, e6⟩ := hins
      simp only at e1 e2 e3
      subst e1; subst e2; subst e3
      exact ins_ok hm hok e4 e5 e6 h4 hH hv

/-! ### depth -/
theorem evD_ok (hm : P.follows .mixedOrders = true) {Φ : Tab} (hT : TabOk P gl Φ) (L : Nat) : ∀ d, GoOk P gl w0 (evD Φ L d)
  | 0 => fun c code T H N pl ro n ι a w Q _ _ _ hQ => hQ.elim
  | d + 1 => evC_ok hm (run_ok hm hT (evD_ok hm hT L d)) (yield_ok (evD_ok hm hT L d)) L
theorem runF_ok (hm : P.follows .mixedOrders = true) {Φ : Tab} (hT : TabOk P gl Φ) (L d : Nat) : RunOk P gl w0 (runF Φ L d) := run_ok hm hT (evD_ok hm hT L d)

/-- a closed call, no table of the program's read -/
theorem closed_ok (hm : P.follows .mixedOrders = true) {Φ : Tab} (hT : TabOk P [] Φ) {L d f : Nat} {H' : Heap} (h : runF Φ L d f [] ⟨0, .nil⟩ = some (.bool true, H')) (w : World) :
    Calls P f #[] w fun e w' => e = .returned (.bool true) ∧ Below w.heap.size w w' := by
  have hH : HR P [] w (fun _ => none) ⟨0, .nil⟩ w := ⟨Below.refl _ _, (fun id x h => by cases h), (fun id b sz h => by cases h), (fun id ob b sz _ h => by cases h), (fun id ob b sz _ h => by cases h), (fun id id' ob ob' x x' _ _ _ _ h => by cases h), (fun j g h => by simp at h), fun id n cs h => by cases h⟩
  refine (runF_ok hm hT L d f [] _ _ H' _ w #[] h hH ⟨rfl, fun j c x hc => by simp at hc⟩).2.mono ?_
  rintro e w' ⟨v, ι', e1, _, h2, h3⟩
  subst e1
  exact ⟨by rw [h3.bool_inv], h2.below⟩
end Go.YtnpoikgkhhpdgaaDoorH
