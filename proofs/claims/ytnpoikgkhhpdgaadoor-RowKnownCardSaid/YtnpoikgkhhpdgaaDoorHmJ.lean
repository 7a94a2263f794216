/-
  Literals; new objects.
-/
import Derived.Test.YtnpoikgkhhpdgaaDoorHmI
namespace Go.YtnpoikgkhhpdgaaDoorH
open Go.RowKit
open Go.YtnpoikgkhhpdgaaDoorE (tAgg tSize run_isAgg' run_sizeOf' add_off cell_of_heap args1 args2 foldl_set foldl_size)
variable {P : Program} {gl : List Nat} {w0 : World} {ι κ : Inj} {H H' : Heap} {w w' : World} {T T' : Tm} {a : Act} {N : Nat} {run : Run} {y : Yld} {o : Oper}

structure CellsR (ι : Inj) (cs : List V) (cells : Array Value) : Prop where
  len : cs.length = cells.size
  get : ∀ (j : Nat) (c : V), cs[j]? = some c → ∃ x, cells[j]? = some x ∧ VR ι c x ∧ sing c = true

theorem CellsR.splice {z : List V} {cells : Array Value} (h : CellsR ι z cells) {d : V} {v : Value} (r : VR ι d v) (hs : solidV d = true) {off : Nat} (hl : off + (cellsV d).length ≤ z.length) :
    CellsR ι (z.take off ++ (cellsV d ++ z.drop (off + (cellsV d).length))) (v.cells.zipIdx.foldl (fun cs (x : Value × Nat) => cs.setIfInBounds (off + x.2) x.1) cells) := by
  obtain ⟨hc1, hc2⟩ := r.cells hs
  have hz := h.len
  have e : v.cells.zipIdx.foldl (fun cs (x : Value × Nat) => cs.setIfInBounds (off + x.2) x.1) cells =
      (v.cells.toList.zipIdx 0).foldl (fun cs (x : Value × Nat) => cs.setIfInBounds (off + x.2) x.1) cells := by
    rw [← Array.foldl_toList, Array.toList_zipIdx]
  rw [e]
  have hlen : v.cells.toList.length = (cellsV d).length := by simpa using hc1
  refine ⟨by rw [foldl_size]; simp; omega, fun j c hj => ?_⟩
  rw [foldl_set _ _ 0 _ _ (by omega)]
  simp only [Nat.add_zero]
  rw [List.getElem?_append] at hj
  have ht : (z.take off).length = off := by simp; omega
  rw [ht] at hj
  split at hj
  · rename_i h1
    rw [if_neg (by omega)]
    rw [List.getElem?_take, if_pos h1] at hj
    exact h.get j c hj
  · rename_i h1
    rw [List.getElem?_append] at hj
    split at hj
    · rename_i h2
      rw [if_pos (by omega)]
      obtain ⟨x, h3, h4⟩ := hc2 _ c hj
      exact ⟨x, by simpa using h3, h4⟩
    · rename_i h2
      rw [if_neg (by omega)]
      rw [List.getElem?_drop] at hj
      rw [show off + (cellsV d).length + (j - off - (cellsV d).length) = j by omega] at hj
      exact h.get j c hj

inductive Parts (ι : Inj) (place : Nat → Option (Nat × Nat)) : List (Nat × Value) → List (Nat × Nat × V) → Prop
  | nil : Parts ι place [] []
  | cons {i off size : Nat} {v : Value} {d : V} {vs : List (Nat × Value)} {ds : List (Nat × Nat × V)} (hp : place i = some (off, size)) (hr : VR ι d v) (ht : Parts ι place vs ds) :
      Parts ι place ((i, v) :: vs) ((off, size, d) :: ds)

theorem fill_sound {place : Nat → Option (Nat × Nat)} {vs : List (Nat × Value)} {ds : List (Nat × Nat × V)} (hp : Parts ι place vs ds) :
    ∀ {z cs : List V} {cells : Array Value}, CellsR ι z cells → bldV ds z = some cs → ∃ cells', Instr.fill place cells vs = some cells' ∧ CellsR ι cs cells' := by
  induction hp with
  | nil => intro z cs cells h hb; simp [bldV] at hb; subst hb; exact ⟨cells, rfl, h⟩
  | @cons i off size v d vs ds hpl hr ht ih =>
    intro z cs cells h hb
    simp only [bldV] at hb
    obtain ⟨⟨h1, h2, h3⟩, h4⟩ := fit3_some.1 hb
    rw [llen_eq] at h1 h2
    rw [lapp_eq, lapp_eq, ltake_eq, ldrop_eq] at h4
    have h1 : off + size ≤ z.length := Nat.le_of_ble_eq_true h1
    have h2 : (cellsV d).length = size := Nat.eq_of_beq_eq_true h2
    subst h2
    have hsp := h.splice hr h3 h1
    obtain ⟨cells', h5, h6⟩ := ih hsp h4
    obtain ⟨hc1, _⟩ := hr.cells h3
    refine ⟨cells', ?_, h6⟩
    have hz := h.len
    simp only [Instr.fill, hpl]
    rw [if_neg (by simp; omega)]
    exact h5
theorem bldE_bldV (es : Nat) : ∀ (ds : List (Nat × V)) (z : List V), bldE es ds z = bldV (ds.map fun p => (p.1 * es, es, p.2)) z
  | [], z => rfl
  | p :: r, z => by simp only [bldE, List.map_cons, bldV, bldE_bldV es r]

section
theorem okPl_parts (hH : HR P gl w0 ι H w) (hT : TmOk ι T a.tmps) {place : Nat → Option (Nat × Nat)} : ∀ (ps : List (Nat × Operand)) (qs : List (Nat × Nat × Rd)) (ds : List (Nat × Nat × V)), okPl gl place ps qs = true → rdvA T qs = some ds → Parts ι place (ps.map fun p => (p.1, a.eval p.2)) ds
  | [], [], ds, _, h => by simp [rdvA] at h; subst h; exact .nil
  | [], _ :: _, ds, h, _ => by simp [okPl] at h
  | _ :: _, [], ds, h, _ => by simp [okPl] at h
  | p :: ps, q :: qs, ds, h, hr => by
    simp only [okPl, Bool.and_eq_true] at h
    obtain ⟨⟨h1, h2⟩, h3⟩ := h
    simp only [rdvA] at hr
    obtain ⟨d, h4, hr⟩ := ob_some.1 hr
    obtain ⟨l, h5, h6⟩ := ob_some.1 hr
    cases h6
    split at h2
    · rename_i x hx
      simp only [Bool.and_eq_true] at h2
      exact .cons (by rw [hx, ← Nat.eq_of_beq_eq_true h2.1, ← Nat.eq_of_beq_eq_true h2.2]) (rd_sound hH hT h1 h4) (okPl_parts hH hT ps qs l h3 h5)
    · cases h2
theorem okPS_parts (hH : HR P gl w0 ι H w) (hT : TmOk ι T a.tmps) {es : Nat} : ∀ (ps : List (Nat × Operand)) (qs : List (Nat × Rd)) (ds : List (Nat × V)), okPS gl ps qs = true → rdvS T qs = some ds →
    Parts ι (fun i => some (i * es, es)) (ps.map fun p => (p.1, a.eval p.2)) (ds.map fun p => (p.1 * es, es, p.2))
  | [], [], ds, _, h => by simp [rdvS] at h; subst h; exact .nil
  | [], _ :: _, ds, h, _ => by simp [okPS] at h
  | _ :: _, [], ds, h, _ => by simp [okPS] at h
  | p :: ps, q :: qs, ds, h, hr => by
    simp only [okPS, Bool.and_eq_true] at h
    obtain ⟨⟨h1, h2⟩, h3⟩ := h
    simp only [rdvS] at hr
    obtain ⟨d, h4, hr⟩ := ob_some.1 hr
    obtain ⟨l, h5, h6⟩ := ob_some.1 hr
    cases h6
    simp only [List.map_cons]
    rw [Nat.eq_of_beq_eq_true h2]
    exact .cons rfl (rd_sound hH hT h1 h4) (okPS_parts hH hT ps qs l h3 h5)

theorem e_build (hH : HR P gl w0 ι H w) (hT : TmOk ι T a.tmps) {z : List V} {ps : List (Nat × Nat × Rd)} {v : V} (ok : okOp P gl o.op (.build z ps) = true) (h : exec run y (.build z ps) T H = .va v) : Did P ι w a o v := by
  obtain ⟨ds, h1, h⟩ := ob_some.1 (toVa_inv h)
  obtain ⟨cs, h2, h3⟩ := ob_some.1 h
  cases h3
  simp only [okOp] at ok
  split at ok <;> first | (cases ok; done) | skip
  rename_i t parts ho
  simp only [Bool.and_eq_true] at ok
  obtain ⟨ok1, ok2⟩ := ok
  split at ok1 <;> first | (cases ok1; done) | skip
  rename_i pl hpl
  unfold zeroOk at ok2
  split at ok2 <;> first | (cases ok2; done) | skip
  rename_i i hi
  split at ok2 <;> first | (cases ok2; done) | skip
  rename_i vs hz
  simp only [Bool.and_eq_true] at ok2
  have hzr : CellsR ι z vs := by
    have hg := okVL_get ok2.1
    refine ⟨by simpa using hg.1, fun j c hj => ?_⟩
    have hlt : j < vs.toList.length := by rw [← hg.1]; exact (List.getElem?_eq_some_iff.1 hj).1
    have hlt' : j < vs.size := by simpa using hlt
    exact ⟨vs[j], by simp, okV_vr ι (hg.2 j c vs[j] hj (by simp)), singL_get.1 ok2.2 j c hj⟩
  obtain ⟨cells, h4, h5⟩ := fill_sound (okPl_parts hH hT _ _ _ ok1 h1) hzr h2
  have hb := YtnpoikgkhhpdgaaDoorE.placesOf_built hpl hi hz h4
  have hrun := run_build w t (parts.map fun p => (p.1, a.eval p.2)) cells (by simpa using hb)
  refine ⟨.agg cells, ?_, .agg h5.len fun j c x hc hx => ?_⟩
  · simp only [execOp, ho]
    have : (Array.map (fun x => match x with | (i, x) => (i, a.eval x)) parts) = parts.map fun p => (p.1, a.eval p.2) := rfl
    rw [this]
    simp [hrun]
  · obtain ⟨q, h6, h7, _⟩ := h5.get j c hc
    rw [hx] at h6; cases h6; exact h7

/-- every operation that reads -/
theorem exec_va (hH : HR P gl w0 ι H w) (hT : TmOk ι T a.tmps) {op : Op} {v : V} (ok : okOp P gl o.op op = true) (h : exec run y op T H = .va v) : Did P ι w a o v := by
  have noF : ∀ {op}, doF T H op ≠ .va v := fun {op} hh => by
    unfold doF at hh
    cases hf : fop T op with
    | none => rw [hf] at hh; cases hh
    | some q => rw [hf] at hh; cases hh
  have noW : ∀ {x : Option (V × Heap)}, toEf x ≠ .va v := fun {x} hh => by
    cases x <;> cases hh
  cases op with
  | mv x => exact e_mv hH hT ok h
  | pick c x z => exact e_pick hH hT ok h
  | build z ps => exact e_build hH hT ok h
  | bsl es z n ps => exact absurd h (noF (op := .bsl es z n ps))
  | load ag n x => exact e_load hH hT ok h
  | store ag n x z => exact absurd h noW
  | nilc x => exact e_nilc hH hT ok h
  | bin op x z => exact e_bin hH hT ok h
  | eqb neq k x z => exact e_eqb hH hT ok h
  | eqa neq ks x z => exact e_eqa hH hT ok h
  | un op x => exact e_un hH hT ok h
  | cv k x => exact e_cv hH hT ok h
  | fld ag off n x => exact e_fld hH hT ok h
  | fadr off x => exact e_fadr hH hT ok h
  | iadr es x i => exact e_iadr hH hT ok h
  | iada len es x i => exact e_iada hH hT ok h
  | ida len es ag x i => exact e_ida hH hT ok h
  | ids x i => exact e_ids hH hT ok h
  | ext x i => exact e_ext hH hT ok h
  | len str x => exact e_len hH hT ok h
  | cap x => exact e_cap hH hT ok h
  | sl es x lo hi mx => exact e_sl hH hT ok h
  | slp len es x lo hi mx => exact e_slp hH hT ok h
  | sls x lo hi => exact e_sls hH hT ok h
  | mm mx x z => exact e_mm hH hT ok h
  | mkfn f caps => exact e_mkfn hH hT ok h
  | app es bytes z x q => exact absurd h noW
  | copy es x z => exact absurd h noW
  | clr es z x => exact absurd h noW
  | call f args => exact absurd h noW
  | callv f args => exact absurd h noW
  | alloc z => exact absurd h (noF (op := .alloc z))
  | box ag n x => exact absurd h (noF (op := .box ag n x))
  | mks es bytes z n m => exact absurd h (noF (op := .mks es bytes z n m))
  | b2s x => exact e_b2s hH hT ok h
  | nat k args => exact e_nat hH hT ok h
  | appz es bytes z x n => exact absurd h noW
end

/-! ### new objects -/
/-- what the model's memory does not hold yet may be turned -/
theorem HR.turn (h : HR P gl w0 ι H w) (hn : H.next ≤ H'.next) (he : ∀ id x, ι id = some x → H'.get id = H.get id) (hw : ∀ id n cs, H'.get id = some (.cells true n cs) → ∀ j x, cs.get j = some x → j < n) : HR P gl w0 ι H' w where
  wf := hw
  below := h.below
  lt id x hx := Nat.lt_of_lt_of_le (h.lt id x hx) hn
  blk := h.blk
  obs id ob b sz hg hx := h.obs id ob b sz (by rw [← he id _ hx]; exact hg) hx
  own id ob b sz hg hx := h.own id ob b sz (by rw [← he id _ hx]; exact hg) hx
  apart id id' ob ob' x x' hne hg hg' ho hx hx' := h.apart id id' ob ob' x x' hne (by rw [← he id _ hx]; exact hg) (by rw [← he id' _ hx']; exact hg') ho hx hx'
  glob := h.glob
/-- from one state of the machine to a later one -/
structure Ext (H H' : Heap) (ι κ : Inj) : Prop where
  le : Inj.le ι κ
  nx : H.next ≤ H'.next
  low : ∀ id, id < H.next → κ id = ι id
theorem Ext.refl (H : Heap) (ι : Inj) : Ext H H ι ι := ⟨Inj.le_refl _, Nat.le_refl _, fun _ _ => rfl⟩
theorem Ext.same (h : H'.next = H.next) : Ext H H' ι ι := ⟨Inj.le_refl _, Nat.le_of_eq h.symm, fun _ _ => rfl⟩
theorem Ext.trans {H1 H2 H3 : Heap} {ι κ μ : Inj} (h : Ext H1 H2 ι κ) (k : Ext H2 H3 κ μ) : Ext H1 H3 ι μ := ⟨Inj.le_trans h.le k.le, Nat.le_trans h.nx k.nx, fun id hid => (k.low id (Nat.lt_of_lt_of_le hid h.nx)).trans (h.low id hid)⟩
def Inj.add (ι : Inj) (id b sz : Nat) : Inj := fun i => if i = id then some (b, sz) else ι i
theorem Inj.le_add {id b sz : Nat} (h : ι id = none) : Inj.le ι (ι.add id b sz) := fun i x e => by
  unfold Inj.add
  rw [if_neg (fun e' => by rw [e', h] at e; cases e)]; exact e
theorem Ext.add {id b sz : Nat} (h : ι id = none) (hge : H.next ≤ id) (hn : H.next ≤ H'.next) : Ext H H' ι (ι.add id b sz) := ⟨Inj.le_add h, hn, fun i hi => by unfold Inj.add; rw [if_neg (by omega)]⟩
theorem Inj.add_same (ι : Inj) (id b sz : Nat) : (ι.add id b sz) id = some (b, sz) := if_pos rfl
/-- a new block, which stands for an object -/
theorem HR.bind (h : HR P gl w0 ι H w) {id sz : Nat} {ob : Ob} (hid : ι id = none) (hlt : id < H.next) (hg : H.get id = some ob) {obj : Obj}
    (hob : ObOk P gl (ι.add id w.heap.size sz) { w with heap := w.heap.push obj } ob w.heap.size sz) : HR P gl w0 (ι.add id w.heap.size sz) H { w with heap := w.heap.push obj } := by
  have hle : Inj.le ι (ι.add id w.heap.size sz) := Inj.le_add hid
  have old : ∀ k, k < w.heap.size → (w.heap.push obj)[k]? = w.heap[k]? := fun k hk => by simp [Array.getElem?_push, Nat.ne_of_lt hk]
  have inv : ∀ {i : Nat} {x : Nat × Nat}, (ι.add id w.heap.size sz) i = some x → (i = id ∧ x = (w.heap.size, sz)) ∨ (i ≠ id ∧ ι i = some x) := fun {i x} hx => by
    unfold Inj.add at hx
    split at hx
    · cases hx; rename_i e; exact .inl ⟨e, rfl⟩
    · rename_i e; exact .inr ⟨e, hx⟩
  refine { wf := h.wf, below := ⟨h.below.os, h.below.tape, h.below.output, ?_, fun k hk => ?_⟩, lt := fun i x hx => ?_, blk := fun i b s hx => ?_, obs := fun i ob' b s hg' hx => ?_, own := fun i ob' b s hg' hx ho => ?_, apart := fun i j ob1 ob2 x x' hne h1 h2 ho hx hx' => ?_, glob := fun j g hj => ?_ }
  · have := h.below.size; simp; omega
  · have := h.below.size
    rw [old k (by omega)]; exact h.below.block k hk
  · rcases inv hx with ⟨e1, _⟩ | ⟨_, hx2⟩
    · rw [e1]; exact hlt
    · exact h.lt i x hx2
  · rcases inv hx with ⟨_, hx2⟩ | ⟨_, hx2⟩
    · simp only [Prod.mk.injEq] at hx2; rw [hx2.1]; simp
    · have := h.blk i b s hx2; simp; omega
  · rcases inv hx with ⟨e1, hx2⟩ | ⟨_, hx2⟩
    · simp only [Prod.mk.injEq] at hx2
      rw [e1, hg] at hg'
      cases hg'
      rw [hx2.1, hx2.2]; exact hob
    · exact (h.obs i ob' b s hg' hx2).same (old b (h.blk i b s hx2)) hle
  · rcases inv hx with ⟨_, hx2⟩ | ⟨_, hx2⟩
    · simp only [Prod.mk.injEq] at hx2; rw [hx2.1]; exact h.below.size
    · exact h.own i ob' b s hg' hx2 ho
  · rcases inv hx with ⟨e1, hx2⟩ | ⟨_, hx2⟩
    · rcases inv hx' with ⟨e3, _⟩ | ⟨_, hx4⟩
      · exact absurd (e1.trans e3.symm) hne
      · have := h.blk j x'.1 x'.2 hx4; rw [hx2]; simp only; omega
    · rcases inv hx' with ⟨_, hx4⟩ | ⟨_, hx4⟩
      · have := h.blk i x.1 x.2 hx2; rw [hx4]; simp only; omega
      · exact h.apart i j ob1 ob2 x x' hne h1 h2 ho hx2 hx4
  · obtain ⟨s, hs⟩ := h.glob j g hj; exact ⟨s, hle _ _ hs⟩
theorem mkCells_wf (l : List V) : ∀ n cs, mkCells l = .cells true n cs → ∀ j x, cs.get j = some x → j < n := by
  intro n cs h j x hj
  simp only [mkCells, Ob.cells.injEq] at h
  obtain ⟨_, e1, e2⟩ := h
  subst e1; subst e2
  rw [cputs_get] at hj
  split at hj
  · rw [llen_eq]; omega
  · cases hj
/-- cells of a new block -/
theorem mkCells_ok {l : List V} {cells : Array Value} (h : CellsR ι l cells) {el : TypeId} {arr : Array Value} (ha : ∀ j, j < cells.size → arr[j]? = cells[j]?) (hsz : cells.size ≤ arr.size) {id : Nat} (hid : ι id = none) :
    ObOk P gl (ι.add id w.heap.size arr.size) { w with heap := w.heap.push (.cells arr el) } (mkCells l) w.heap.size arr.size := by
  refine ⟨arr, el, (0, 0), by simp, fun j x hj => ?_, fun _ => ⟨rfl, rfl, by rw [llen_eq, h.len]; exact hsz, fun j x hj => ?_⟩⟩
  rw [cputs_get] at hj
  split at hj
  · rename_i hlt
    simp only [Nat.sub_zero] at hj
    obtain ⟨v, h1, h2, h3⟩ := h.get j x hj
    exact ⟨v, by rw [ha j (Array.getElem?_eq_some_iff.1 h1).1]; exact h1, h2.mono (Inj.le_add hid), h3⟩
  · cases hj
  · rw [cputs_get] at hj
    split at hj
    · rename_i hlt; rw [llen_eq]; omega
    · cases hj
end Go.YtnpoikgkhhpdgaaDoorH
