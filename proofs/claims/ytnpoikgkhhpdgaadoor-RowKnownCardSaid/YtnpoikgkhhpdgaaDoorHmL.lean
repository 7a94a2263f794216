/-
  What writes: stores; copy, clear.
-/
import Derived.Test.YtnpoikgkhhpdgaaDoorHmK
set_option linter.unusedVariables false
namespace Go.YtnpoikgkhhpdgaaDoorH
open Go.RowKit
open Go.YtnpoikgkhhpdgaaDoorE (tAgg tSize run_isAgg' run_sizeOf' add_off cell_of_heap args1 args2 foldl_set foldl_size seg_get run_storeVar' setCells_eq oneCell_iff)
variable {P : Program} {gl : List Nat} {w0 : World} {ι κ : Inj} {H H' : Heap} {w w' : World} {T T' : Tm} {a : Act} {N : Nat} {run : Run} {y : Yld} {o : Oper}

/-- an object's block is written, and the object let go -/
theorem HR.wdel (h : HR P gl w0 ι H w) {id b sz n : Nat} {cs : Tr V} (hg : H.get id = some (.cells true n cs)) (he : ι id = some (b, sz)) (arr' : Array Value) : HR P gl w0 ι (H.del id) (w.setRow b arr') := by
  have get : ∀ {i ob}, (H.del id).get i = some ob → i ≠ id ∧ H.get i = some ob := fun {i ob} hh => by
    rw [Heap.get_del] at hh
    split at hh
    · cases hh
    · rename_i e; exact ⟨e, hh⟩
  have hsz : (w.setRow b arr').heap.size = w.heap.size := by simp [World.setRow]
  refine { wf := fun i n cs hg' => h.wf i n cs (get hg').2, below := ⟨h.below.os, h.below.tape, h.below.output, by rw [hsz]; exact h.below.size, fun k hk => ?_⟩, lt := h.lt, blk := fun i b' s hx => by rw [hsz]; exact h.blk i b' s hx, obs := fun i ob b' s hg' hx => ?_, own := fun i ob b' s hg' hx ho => h.own i ob b' s (get hg').2 hx ho, apart := fun i j ob1 ob2 x x' hne h1 h2 ho hx hx' => h.apart i j ob1 ob2 x x' hne (get h1).2 (get h2).2 ho hx hx', glob := h.glob }
  · rw [setRow_other w b k _ (by have := h.own id _ b sz hg he rfl; omega)]; exact h.below.block k hk
  · obtain ⟨h1, h2⟩ := get hg'
    have := h.apart id i _ ob _ _ (Ne.symm h1) hg h2 rfl he hx
    exact (h.obs i ob b' s h2 hx).same (setRow_other w b b' _ (Ne.symm this)) (Inj.le_refl _)
/-- an object is set -/
theorem HR.put (h : HR P gl w0 ι H w) {id b sz : Nat} {ob : Ob} (hlt : id < H.next) (he : κ id = some (b, sz)) (hle : Inj.le ι κ) (hκ : ∀ i, i ≠ id → κ i = ι i) (hblk : b < w.heap.size) (hb : isOwn ob = true → w0.heap.size ≤ b)
    (hfree : ∀ i ob' x, i ≠ id → H.get i = some ob' → ι i = some x → x.1 ≠ b) (hob : ObOk P gl κ w ob b sz) : HR P gl w0 κ (H.set id ob) w := by
  refine { wf := fun i n cs hg => ?_, below := h.below, lt := fun i x hx => ?_, blk := fun i b' s hx => ?_, obs := fun i ob' b' s hg hx => ?_, own := fun i ob' b' s hg hx ho => ?_, apart := fun i j ob1 ob2 x x' hne h1 h2 ho hx hx' => ?_, glob := fun j g hj => let ⟨s, hs⟩ := h.glob j g hj; ⟨s, hle _ _ hs⟩ }
  rotate_left 5
  · rw [Heap.get_set] at hg
    split at hg
    · have hg2 := Option.some.inj hg
      subst hg2
      obtain ⟨_, _, _, _, _, h3⟩ := hob
      exact (h3 rfl).2.2.2
    · exact h.wf i n cs hg
  · by_cases e : i = id
    · rw [e]; exact hlt
    · rw [hκ i e] at hx; exact h.lt i x hx
  · by_cases e : i = id
    · rw [e, he] at hx; cases hx; exact hblk
    · rw [hκ i e] at hx; exact h.blk i b' s hx
  · rw [Heap.get_set] at hg
    split at hg
    · rename_i e
      rw [e, he] at hx; cases hx; cases hg; exact hob
    · rename_i e
      rw [hκ i e] at hx
      exact (h.obs i ob' b' s hg hx).same rfl hle
  · rw [Heap.get_set] at hg
    split at hg
    · rename_i e
      rw [e, he] at hx; cases hx; cases hg; exact hb ho
    · rename_i e
      rw [hκ i e] at hx
      exact h.own i ob' b' s hg hx ho
  · rw [Heap.get_set] at h1 h2
    split at h1
    · rename_i e1
      rw [e1, he] at hx; cases hx
      split at h2
      · rename_i e2; exact absurd (e1.trans e2.symm) hne
      · rename_i e2
        rw [hκ j e2] at hx'
        exact (hfree j ob2 x' e2 h2 hx').symm
    · rename_i e1
      rw [hκ i e1] at hx
      split at h2
      · rename_i e2
        rw [e2, he] at hx'; cases hx'
        exact hfree i ob1 x e1 h1 hx
      · rename_i e2
        rw [hκ j e2] at hx'
        exact h.apart i j ob1 ob2 x x' hne h1 h2 ho hx hx'
theorem HR.reserve (h : HR P gl w0 ι H w) (n : Nat) : HR P gl w0 ι (Go.YtnpoikgkhhpdgaaDoorH.reserve H n) w := h.turn (Nat.le_add_right _ _) (fun _ _ _ => rfl) h.wf

/-- cells that are written -/
structure CsR (ι : Inj) (l : List V) (vs : List Value) : Prop where
  len : l.length = vs.length
  get : ∀ (j : Nat) (c : V), l[j]? = some c → ∃ x, vs[j]? = some x ∧ VR ι c x ∧ sing c = true
theorem CsR.one {l : List V} {vs : List Value} (h : CsR ι l vs) : ∀ x ∈ vs, x.oneCell' = true := by
  intro x hx
  obtain ⟨j, hj⟩ := List.getElem?_of_mem hx
  have hlt : j < l.length := by rw [h.len]; exact (List.getElem?_eq_some_iff.1 hj).1
  obtain ⟨y, h1, h2, h3⟩ := h.get j l[j] (by rw [List.getElem?_eq_getElem])
  rw [hj] at h1; cases h1
  rw [oneCell_iff]; exact h2.oneCell h3
theorem CsR.take {l : List V} {vs : List Value} (h : CsR ι l vs) (n : Nat) : CsR ι (l.take n) (vs.take n) := by
  refine ⟨by simp [h.len], fun j c hj => ?_⟩
  rw [List.getElem?_take] at hj ⊢
  split at hj
  · rename_i hlt; rw [if_pos hlt]; exact h.get j c hj
  · cases hj
theorem CsR.append {l m : List V} {vs us : List Value} (h : CsR ι l vs) (k : CsR ι m us) : CsR ι (l ++ m) (vs ++ us) := by
  refine ⟨by simp [h.len, k.len], fun j c hj => ?_⟩
  rw [List.getElem?_append] at hj ⊢
  rw [← h.len]
  split at hj
  · rename_i hlt; rw [if_pos hlt]; exact h.get j c hj
  · rename_i hlt; rw [if_neg hlt]; exact k.get _ c hj
theorem CsR.ofCells {l : List V} {cells : Array Value} (h : CellsR ι l cells) : CsR ι l cells.toList := ⟨by simpa using h.len, fun j c hj => by simpa using h.get j c hj⟩
theorem CsR.mono (hle : Inj.le ι κ) {l : List V} {vs : List Value} (h : CsR ι l vs) : CsR κ l vs := ⟨h.len, fun j c hj => let ⟨x, h1, h2, h3⟩ := h.get j c hj; ⟨x, h1, h2.mono hle, h3⟩⟩

def splc (arr : Array Value) (off : Nat) (vs : List Value) : Array Value := (arr.toList.take off ++ vs ++ arr.toList.drop (off + vs.length)).toArray
theorem splc_size {arr : Array Value} {off : Nat} {vs : List Value} (h : off + vs.length ≤ arr.size) : (splc arr off vs).size = arr.size := by simp [splc]; omega
theorem splc_get {arr : Array Value} {off : Nat} {vs : List Value} (h : off + vs.length ≤ arr.size) (j : Nat) : (splc arr off vs)[j]? = if j < off then arr[j]? else if j < off + vs.length then vs[j - off]? else arr[j]? := by
  have := seg_get arr.toList vs off (by simpa using h) j
  unfold splc
  rw [List.getElem?_toArray, this]; simp
/-- the cells of an object, some of them written -/
theorem ob_splc {n' b sz off : Nat} {cs : Tr V} {arr : Array Value} {el : TypeId} (hc : ∀ j x, cs.get j = some x → ∃ v, arr[j]? = some v ∧ VR ι x v ∧ sing x = true) (hh : w.heap[b]? = some (.cells arr el (0, 0))) (hsz : arr.size = sz) (hn : n' ≤ sz) (hin : ∀ j x, cs.get j = some x → j < n')
    {l : List V} {vs : List Value} (hv : CsR ι l vs) (hfit : off + l.length ≤ n') (hle : Inj.le ι κ) : ObOk P gl κ (w.setRow b (splc arr off vs)) (.cells true n' (cputs cs off l)) b sz := by
  have hfit' : off + vs.length ≤ arr.size := by rw [← hv.len]; omega
  refine ⟨_, el, (0, 0), setRow_heap w b arr _ el _ hh, fun j x hj => ?_, fun _ => ⟨rfl, by rw [splc_size hfit']; exact hsz, hn, fun j x hj => ?_⟩⟩
  rw [cputs_get] at hj
  rw [splc_get hfit', ← hv.len]
  split at hj
  · rename_i hlt
    obtain ⟨v, h1, h2, h3⟩ := hv.get _ x hj
    exact ⟨v, by rw [if_neg (by omega), if_pos (by omega)]; exact h1, h2.mono hle, h3⟩
  · rename_i hlt
    obtain ⟨v, h1, h2, h3⟩ := hc j x hj
    refine ⟨v, ?_, h2.mono hle, h3⟩
    split
    · exact h1
    · rw [if_neg (by omega)]; exact h1
  · rw [cputs_get] at hj
    split at hj
    · omega
    · exact hin j x hj
theorem set_del (H : Heap) (id : Nat) (ob : Ob) : ∀ i, ((H.del id).set id ob).get i = (H.set id ob).get i := fun i => by
  rw [Heap.get_set, Heap.get_set, Heap.get_del]
  split
  · rfl
  · rfl
theorem HR.cput (h : HR P gl w0 ι H w) {id b sz n off : Nat} {cs : Tr V} (hg : H.get id = some (.cells true n cs)) (he : ι id = some (b, sz)) {l : List V} {vs : List Value} (hv : CsR ι l vs) (hfit : off + l.length ≤ n) :
    ∃ arr el, w.heap[b]? = some (.cells arr el (0, 0)) ∧ off + vs.length ≤ arr.size ∧ HR P gl w0 ι (H.set id (.cells true n (cputs cs off l))) (w.setRow b (splc arr off vs)) := by
  obtain ⟨arr, el, fz, h1, h2, h3⟩ := h.obs id _ b sz hg he
  obtain ⟨h4, h5, h6, h7⟩ := h3 rfl
  subst h4
  refine ⟨arr, el, h1, by rw [← hv.len]; omega, ?_⟩
  have hd := h.wdel hg he (splc arr off vs)
  have hp := hd.put (id := id) (b := b) (sz := sz) (κ := ι) (ob := .cells true n (cputs cs off l)) (h.lt id _ he) he (Inj.le_refl _) (fun _ _ => rfl) (by simpa [World.setRow] using h.blk id b sz he)
    (fun _ => h.own id _ b sz hg he rfl) (fun i ob' x hne hg' hx => by
      rw [Heap.get_del, if_neg hne] at hg'
      exact (h.apart id i _ ob' _ x (Ne.symm hne) hg hg' rfl he hx).symm) (ob_splc h2 h1 h5 h6 h7 hv (by omega) (Inj.le_refl _))
  exact hp.turn (Nat.le_refl _) (fun i x _ => (set_del H id _ i).symm) fun i n cs hg' => hp.wf i n cs (by rw [set_del]; exact hg')

theorem cput1 (cs : Tr V) (off : Nat) (x : V) : cputs cs off [x] = cs.set off x := rfl
theorem store_sound (hH : HR P gl w0 ι H w) {ag : Bool} {n : Nat} {da d : V} {va v : Value} {t : TypeId} (ra : VR ι da va) (r : VR ι d v) (hs : tSize P t = some n) (h1 : ag = false → n = 1)
    (hl : storeH H ag n d da = some H') : ∃ w', (Instr.storeAt t va v).run P w = .ok () w' ∧ HR P gl w0 ι H' w' ∧ H'.next = H.next := by
  unfold storeH at hl
  split at hl
  · rename_i id off
    obtain ⟨own, m, cs, hg, hf⟩ := Heap.cells_some hl
    obtain ⟨ho, hf⟩ := ite1_some.1 hf
    subst ho
    have key : solidV d = true ∧ (cellsV d).length = n ∧ off + n ≤ m ∧ H' = H.set id (.cells true m (cputs cs off (cellsV d))) := by
      cases ag with
      | true =>
        rw [ite1_t] at hf
        cases d with
        | agg l =>
          have hf2 : fit3 (Nat.beq (llen l) n) (singL l) (Nat.ble (off + n) m) (some (H.set id (.cells true m (cputs cs off l)))) = some H' := hf
          obtain ⟨⟨q1, q2, q3⟩, q4⟩ := fit3_some.1 hf2
          rw [llen_eq] at q1
          exact ⟨q2, Nat.eq_of_beq_eq_true q1, Nat.le_of_ble_eq_true q3, (Option.some.inj q4).symm⟩
        | _ => cases hf
      | false =>
        have hf2 : fit3 (sing d) (Nat.blt off m) true (some (H.set id (.cells true m (cs.set off d)))) = some H' := hf
        obtain ⟨⟨q1, q2, _⟩, q4⟩ := fit3_some.1 hf2
        have e : cellsV d = [d] := by cases d <;> first | rfl | (simp [sing] at q1)
        have e2 : solidV d = true := by cases d <;> first | rfl | (simp [sing] at q1)
        have h1' := h1 rfl
        subst h1'
        rw [e, cput1]
        exact ⟨e2, rfl, blt_lt q2, (Option.some.inj q4).symm⟩
    obtain ⟨k1, k2, k3, rfl⟩ := key
    cases ra with
    | @ptr _ _ b sz e =>
      obtain ⟨c1, c2⟩ := r.cells k1
      have hv : CsR ι (cellsV d) v.cells.toList := CsR.ofCells ⟨c1.symm, c2⟩
      obtain ⟨arr, el, q1, q2, q3⟩ := hH.cput hg e (off := off) hv (by omega)
      exact ⟨_, run_storeVar' hs (by omega) q1 (by simpa using q2) hv.one, q3, rfl⟩
  · cases hl

/-! ### slices' cells -/
theorem bytesV_eq (s : List Nat) : bytesV s = s.map fun b => V.int .u8 (.ofNat b) := by
  induction s with
  | nil => rfl
  | cons b r ih => show V.int .u8 (.ofNat b) :: bytesV r = _; rw [ih]; rfl
structure SrcOk (P : Program) (ι : Inj) (w : World) (es m : Nat) (l : List V) (v : Value) : Prop where
  len : l.length = m * es
  lenOf : ∀ w', (Builtin.lenOf v).run P w' = .ok m w'
  cells : ∃ vs, CsR ι l vs ∧ ∀ k, k ≤ m → ∀ w' : World, w'.heap = w.heap → (Builtin.firstCells es k v).run P w' = .ok (vs.take (k * es)).toArray w'
theorem src_sound (hH : HR P gl w0 ι H w) {es m : Nat} {l : List V} {d : V} {v : Value} (r : VR ι d v) (h : slCells H es d = some (m, l)) : SrcOk P ι w es m l v := by
  unfold slCells at h
  split at h
  · obtain ⟨q1, q2⟩ := ite1_some.1 h
    have e1 := Nat.eq_of_beq_eq_true q1
    subst e1
    simp only [Option.some.injEq, Prod.mk.injEq] at q2
    obtain ⟨e2, e3⟩ := q2
    subst e2; subst e3
    cases r with
    | str t =>
      rw [llen_eq, bytesV_eq]
      have hlen : (t.data.toList.map UInt8.toNat).length = t.size := by simp
      refine ⟨by simp, fun _ => by rw [hlen]; rfl, byteCells t, ⟨by simp [byteCells], fun j c hj => ?_⟩, fun k hk w' _ => ?_⟩
      · rw [List.getElem?_map, List.getElem?_map] at hj
        cases hb : t.data.toList[j]? with
        | none => simp [hb] at hj
        | some b =>
          simp [hb] at hj
          subst hj
          exact ⟨.int .u8 b.toNat, by simp [byteCells]; simp at hb; exact ⟨b, hb, rfl⟩, .int _ _, rfl⟩
      · rw [hlen] at hk
        simp only [Builtin.firstCells, Sem.run_pure, byteCells, Nat.mul_one]
        congr 1
        apply Array.ext'
        simp [← List.map_take, ByteArray.data_extract, Array.toList_extract]
  · cases h; cases r
    refine ⟨by simp, fun _ => rfl, [], ⟨rfl, fun j c hj => by simp at hj⟩, fun k hk w' hw => ?_⟩
    simp [Builtin.firstCells]
  · cases h; cases r
    refine ⟨by simp, fun _ => rfl, [], ⟨rfl, fun j c hj => by simp at hj⟩, fun k hk w' hw => ?_⟩
    have : k = 0 := by omega
    subst this
    have := run_loadCells_list (P := P) w' (by assumption) [] (fun j v hj => by simp at hj)
    simp only [Builtin.firstCells, Nat.zero_mul, List.take_nil]
    exact this
  · rename_i id off es' len cap
    obtain ⟨he, hq⟩ := ite1_some.1 h
    have he2 := Nat.eq_of_beq_eq_true he
    subst he2
    obtain ⟨own, n, cs, hg, hf⟩ := Heap.cells_some hq
    obtain ⟨l', h1, h2⟩ := ob_some.1 hf
    simp only [Option.some.injEq, Prod.mk.injEq] at h2
    obtain ⟨e1, e2⟩ := h2
    subst e1; subst e2
    obtain ⟨h3, h4⟩ := cgets_get h1
    have key : ∀ b sz c, ι id = some (b, sz) → SrcOk P ι w es len l' (.slice (some ⟨b, off, none⟩) len c) := by
      intro b sz c e
      obtain ⟨arr, el, fz, q1, q2, q3⟩ := hH.obs id _ b sz hg e
      have hx : ∀ j, j < len * es → ∃ v, arr[off + j]? = some v ∧ ∃ x, l'[j]? = some x ∧ VR ι x v ∧ sing x = true := fun j hj => by
        have := h4 j hj
        rw [List.getElem?_eq_getElem (by omega)] at this
        obtain ⟨v, p1, p2, p3⟩ := q2 _ _ this
        exact ⟨v, p1, _, by rw [List.getElem?_eq_getElem (by omega)], p2, p3⟩
      have hmk : ∀ k, k ≤ len → ∀ j, j < k * es → j < len * es := fun k hk j hj => Nat.lt_of_lt_of_le hj (Nat.mul_le_mul_right _ hk)
      refine ⟨h3, fun _ => rfl, (List.range (len * es)).map fun j => arr[off + j]?.getD undef, ⟨by simp; exact h3, fun j x hj => ?_⟩, fun k hk w' hw => ?_⟩
      · have hlt : j < len * es := by rw [← h3]; exact (List.getElem?_eq_some_iff.1 hj).1
        obtain ⟨v, p1, x', p2, p3, p4⟩ := hx j hlt
        rw [hj] at p2; cases p2
        exact ⟨v, by simp [hlt, p1], p3, p4⟩
      · have hl := run_loadCells_list (P := P) w' ⟨b, off, none⟩ ((List.range (k * es)).map fun j => arr[off + j]?.getD undef) (fun j u hu => by
          have hlt : j < k * es := by simpa using (List.getElem?_eq_some_iff.1 hu).1
          obtain ⟨v, p1, _⟩ := hx j (hmk k hk j hlt)
          rw [add_off, World.cell?, hw, q1]
          simp [hlt, p1] at hu
          simp [p1, hu])
        simp only [List.length_map, List.length_range] at hl
        simp only [Builtin.firstCells]
        rw [hl]
        congr 2
        rw [← List.map_take, List.take_range, Nat.min_eq_left (Nat.mul_le_mul_right _ hk)]
    cases r with
    | sl e hc => exact key _ _ _ e
    | slu e hc ht => exact key _ _ _ e
  · cases h
end Go.YtnpoikgkhhpdgaaDoorH
