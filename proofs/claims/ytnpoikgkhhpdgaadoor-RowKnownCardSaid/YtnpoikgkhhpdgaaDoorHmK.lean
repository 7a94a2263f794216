/-
  What makes new objects.
-/
import Derived.Test.YtnpoikgkhhpdgaaDoorHmJ
set_option linter.unusedVariables false
namespace Go.YtnpoikgkhhpdgaaDoorH
open Go.RowKit
open Go.YtnpoikgkhhpdgaaDoorE (tAgg tSize run_isAgg' run_sizeOf' add_off cell_of_heap args1 args2 foldl_set foldl_size wrap_small)
variable {P : Program} {gl : List Nat} {w0 : World} {ι κ : Inj} {H H' : Heap} {w w' : World} {T T' : Tm} {a : Act} {N : Nat} {run : Run} {y : Yld} {o : Oper}

theorem rep_succ (z : List V) (n : Nat) : rep z (n + 1) = z ++ rep z n := by
  show lapp z (rep z n) = _
  rw [lapp_eq]
theorem rep_zero (z : List V) : rep z 0 = [] := rfl
theorem rep_len (z : List V) (n : Nat) : (rep z n).length = n * z.length := by
  induction n with
  | zero => simp [rep_zero]
  | succ n ih => rw [rep_succ, List.length_append, ih, Nat.succ_mul]; omega
theorem rep_get (z : List V) : ∀ (n j : Nat) (c : V), (rep z n)[j]? = some c → z[j % z.length]? = some c
  | 0, j, c, h => by simp [rep_zero] at h
  | n + 1, j, c, h => by
    rw [rep_succ, List.getElem?_append] at h
    split at h
    · rename_i hj; rw [Nat.mod_eq_of_lt hj]; exact h
    · rename_i hj
      have := rep_get z n _ c h
      rw [Nat.mod_eq_sub_mod (by omega)]; exact this
theorem rep_cells {z : List V} {zv : Value} (hz : ∀ (j : Nat) (c : V), z[j]? = some c → ∃ x, zv.cells[j]? = some x ∧ VR ι c x ∧ sing c = true) (hl : zv.cells.size = z.length) (n : Nat) :
    CellsR ι (rep z n) ((Array.range (n * z.length)).map (zv.cells[· % zv.cells.size]!)) := by
  refine ⟨by rw [rep_len]; simp, fun j c hj => ?_⟩
  have hlt : j < n * z.length := by rw [← rep_len]; exact (List.getElem?_eq_some_iff.1 hj).1
  obtain ⟨x, h1, h2, h3⟩ := hz _ c (rep_get z n j c hj)
  refine ⟨x, ?_, h2, h3⟩
  rw [Array.getElem?_map, Array.getElem?_range, if_pos hlt]
  simp only [Option.map_some, hl]
  rw [getElem!_def, h1]

/-- a new object: it stands ready -/
def Made (P : Program) (gl : List Nat) (w0 : World) (ι : Inj) (H : Heap) (w : World) (a : Act) (o : Oper) (id : Nat) (v : V) : Prop :=
  ∃ u arr el, (execOp a.eval o).run P w = .ok (.value u) { w with heap := w.heap.push (.cells arr el) } ∧ VR (ι.add id w.heap.size arr.size) v u ∧
    HR P gl w0 (ι.add id w.heap.size arr.size) H { w with heap := w.heap.push (.cells arr el) }
def IsObj (H : Heap) (id : Nat) (l : List V) : Prop := ∃ n cs, H.get id = some (.cells true n cs) ∧ n = l.length ∧ ∀ j, cs.get j = l[j]?
theorem isObj_mk {l : List V} {id : Nat} (hg : H.get id = some (mkCells l)) : IsObj H id l := ⟨_, _, hg, llen_eq l, fun j => by
  rw [cputs_get]
  split
  · rw [Nat.sub_zero]
  · rw [List.getElem?_eq_none (by omega)]; rfl⟩
theorem made (hH : HR P gl w0 ι H w) {l : List V} {id : Nat} (hid : ι id = none) (hlt : id < H.next) (hg : IsObj H id l) {cells : Array Value} (hc : CellsR ι l cells) (el : TypeId) :
    HR P gl w0 (ι.add id w.heap.size cells.size) H { w with heap := w.heap.push (.cells cells el) } := by
  obtain ⟨n, cs, h1, h2, h3⟩ := hg
  have hl := hc.len
  refine hH.bind hid hlt h1 ⟨cells, el, (0, 0), by simp, fun j x hj => ?_, fun _ => ⟨rfl, rfl, by omega, fun j x hj => ?_⟩⟩
  · rw [h3] at hj
    obtain ⟨v, q1, q2, q3⟩ := hc.get j x hj
    exact ⟨v, q1, q2.mono (Inj.le_add hid), q3⟩
  · rw [h3] at hj
    have := (List.getElem?_eq_some_iff.1 hj).1
    omega

theorem mks_run {k k' : IntKind} {i : Int} (hi0 : 0 ≤ i) {t e : TypeId} {ie : TypeInfo} (hib : i * (ie.bytes : Int) ≤ 281474976710656) (hi1 : i ≤ 9223372036854775807)
    (ht : P.underlying t = some (.slice e)) (hie : P.info? e = some ie) {zv : Value} (hz : ie.zero = some zv) :
    (Instr.makeSlice t (.int k i) (.int k' i)).run P w = .ok (.slice (some ⟨w.heap.size, 0, none⟩) i.toNat i.toNat) { w with heap := w.heap.push (.cells ((Array.range (i.toNat * ie.size)).map (zv.cells[· % zv.cells.size]!)) e) } := by
  have hw := wrap_small hi0 hi1
  have htl : ¬ ((ie.bytes : Int) * i > 281474976710656) := by rw [Int.mul_comm]; omega
  have h2 : ¬ i < 0 := by omega
  by_cases h0 : i.toNat * ie.size = 0
  · have hr0 : Array.range 0 = #[] := rfl
    simp [Instr.makeSlice, run_underlying ht, asInt, asIntOf, typeInfo, hie, hw, h2, htl, sizeOf, h0, newRow, hr0]
  · simp [Instr.makeSlice, run_underlying ht, asInt, asIntOf, typeInfo, hie, hw, h2, htl, sizeOf, zeroValue, hz, h0, newRow]

section
variable {l : List V} {q : V} {id : Nat}
theorem f_alloc (hH : HR P gl w0 ι H w) (hT : TmOk ι T a.tmps) (hid : ι id = none) (hlt : id < H.next) (hg : IsObj H id l) {z : List V} (ok : okOp P gl o.op (.alloc z) = true) (h : fop T (.alloc z) = some (l, q)) : Made P gl w0 ι H w a o id (atId id q) := by
  simp only [fop, Option.some.injEq, Prod.mk.injEq] at h
  obtain ⟨rfl, rfl⟩ := h
  simp only [okOp] at ok
  split at ok <;> first | (cases ok; done) | skip
  rename_i t ho
  obtain ⟨i, zv, hi, hz, hsz, hzr⟩ := okZ_inv ok
  have hc : CellsR ι z zv.cells := ⟨hsz.symm, hzr ι⟩
  exact ⟨.pointer (some ⟨w.heap.size, 0, none⟩), zv.cells, t, by simp [execOp, ho, Instr.alloc, zeroValue, typeInfo, hi, hz, newVar, newRow], .ptr (Inj.add_same _ _ _ _), made hH hid hlt hg hc t⟩
theorem f_box (hH : HR P gl w0 ι H w) (hT : TmOk ι T a.tmps) (hid : ι id = none) (hlt : id < H.next) (hg : IsObj H id l) {ag : Bool} {n : Nat} {x : Rd} (ok : okOp P gl o.op (.box ag n x) = true) (h : fop T (.box ag n x) = some (l, q)) : Made P gl w0 ι H w a o id (atId id q) := by
  obtain ⟨d, h1, h2⟩ := ob_some.1 h
  simp only [okOp] at ok
  split at ok <;> first | (cases ok; done) | skip
  rename_i t x' ho
  simp only [Bool.and_eq_true] at ok
  have hr := rd_sound hH hT ok.1 h1
  have hb : solidV d = true ∧ l = cellsV d ∧ q = .ptr 0 0 := by
    cases d with
    | agg cs =>
      obtain ⟨⟨_, _, h3⟩, h4⟩ := fit3_some.1 h2
      cases h4; exact ⟨h3, rfl, rfl⟩
    | _ =>
      obtain ⟨⟨_, _, h3⟩, h4⟩ := fit3_some.1 h2
      cases h4
      first | exact ⟨rfl, rfl, rfl⟩ | (cases h3)
  obtain ⟨h3, rfl, rfl⟩ := hb
  obtain ⟨h4, h5⟩ := hr.cells h3
  exact ⟨.pointer (some ⟨w.heap.size, 0, none⟩), (a.eval x').cells, t, by simp [execOp, ho, Instr.box, newVar, newRow], .ptr (Inj.add_same _ _ _ _), made hH hid hlt hg ⟨h4.symm, h5⟩ t⟩
theorem f_bsl (hH : HR P gl w0 ι H w) (hT : TmOk ι T a.tmps) (hid : ι id = none) (hlt : id < H.next) (hg : IsObj H id l) {es n : Nat} {z : List V} {ps : List (Nat × Rd)} (ok : okOp P gl o.op (.bsl es z n ps) = true) (h : fop T (.bsl es z n ps) = some (l, q)) : Made P gl w0 ι H w a o id (atId id q) := by
  obtain ⟨ds, h1, h2⟩ := ob_some.1 h
  obtain ⟨l', h3, h4⟩ := ob_some.1 h2
  simp only [Option.some.injEq, Prod.mk.injEq] at h4
  obtain ⟨rfl, rfl⟩ := h4
  simp only [okOp] at ok
  split at ok <;> first | (cases ok; done) | skip
  rename_i t n' parts ho
  simp only [Bool.and_eq_true] at ok
  obtain ⟨⟨⟨ok1, ok2⟩, ok3⟩, ok4⟩ := ok
  have en := Nat.eq_of_beq_eq_true ok1
  subst en
  split at ok4 <;> first | (cases ok4; done) | skip
  rename_i e he
  obtain ⟨i, zv, hi, hs, hpos, hz, hzs, hzl, hzr⟩ := okEl_inv ok4
  rw [bldE_bldV] at h3
  obtain ⟨cells, h5, h6⟩ := fill_sound (okPS_parts (es := es) hH hT _ _ _ ok2 h1) (rep_cells (hzr ι) (by rw [hzs, hzl]) n') h3
  refine ⟨.slice (some ⟨w.heap.size, 0, none⟩) n' n', cells, e, ?_, .sl (Inj.add_same _ _ _ _) (Nat.le_refl _), made hH hid hlt hg h6 e⟩
  rw [hzl] at h5
  have hsm : ¬ n' * i.size > 2 ^ 24 := by rw [hs]; have := Nat.le_of_ble_eq_true ok3; omega
  have hm : (Array.map (fun x => match x with | (i, x) => (i, a.eval x)) parts) = parts.map fun p => (p.1, a.eval p.2) := rfl
  have h5 : Instr.fill (fun i => some (i * es, es)) ((Array.range (n' * es)).map (zv.cells[· % zv.cells.size]!)) (parts.map fun p => (p.1, a.eval p.2)).toList = some cells := by
    rw [Array.toList_map]; exact h5
  have ht := sliceEl_inv he
  simp only [execOp, ho]
  rw [hm]
  generalize (parts.map fun p => (p.1, a.eval p.2)) = vs at h5 ⊢
  subst hs
  by_cases h0 : n' * i.size = 0
  · have hempty : (Array.range (n' * i.size)).map (zv.cells[· % zv.cells.size]!) = #[] := by simp [h0]
    rw [hempty] at h5
    have hr0 : Array.range 0 = #[] := rfl
    simp [Instr.buildSlice, run_underlying ht, sizeOf, typeInfo, hi, h0, newRow, hr0, h5]
  · simp [Instr.buildSlice, run_underlying ht, sizeOf, typeInfo, zeroValue, hi, hz, hsm, h0, h5, newRow]
theorem f_mks (hH : HR P gl w0 ι H w) (hT : TmOk ι T a.tmps) (hid : ι id = none) (hlt : id < H.next) (hg : IsObj H id l) {es bytes : Nat} {z : List V} {xn xm : Rd} (ok : okOp P gl o.op (.mks es bytes z xn xm) = true) (h : fop T (.mks es bytes z xn xm) = some (l, q)) : Made P gl w0 ι H w a o id (atId id q) := by
  obtain ⟨dn, h1, h2⟩ := ob_some.1 h
  obtain ⟨dm, h3, h4⟩ := ob_some.1 h2
  unfold mksC at h4
  split at h4 <;> first | (cases h4; done) | skip
  rename_i k i k' j
  obtain ⟨⟨h5, h6, h7⟩, h8⟩ := fit3_some.1 h4
  simp only [Option.some.injEq, Prod.mk.injEq] at h8
  obtain ⟨rfl, rfl⟩ := h8
  have hij := Nat.eq_of_beq_eq_true h5
  subst hij
  simp only [okOp] at ok
  split at ok <;> first | (cases ok; done) | skip
  rename_i t n' m' ho
  simp only [Bool.and_eq_true] at ok
  obtain ⟨⟨ok1, ok2⟩, ok3⟩ := ok
  split at ok3 <;> first | (cases ok3; done) | skip
  rename_i e he
  simp only [Bool.and_eq_true] at ok3
  obtain ⟨ie, zv, hi, hs, hpos, hz, hzs, hzl, hzr⟩ := okEl_inv ok3.1
  obtain ⟨ie', hi', hby, hbpos⟩ := okBy_inv ok3.2
  rw [hi] at hi'; cases hi'
  have hn := (rd_sound hH hT ok1 h1).int_inv
  have hm := (rd_sound hH hT ok2 h3).int_inv
  have hc := rep_cells (hzr ι) (by rw [hzs, hzl]) i
  refine ⟨.slice (some ⟨w.heap.size, 0, none⟩) i i, _, e, ?_, .sl (Inj.add_same _ _ _ _) (Nat.le_refl _), made hH hid hlt hg hc e⟩
  have ht := sliceEl_inv he
  have h6 := Nat.le_of_ble_eq_true h6
  have h7 := Nat.le_of_ble_eq_true h7
  subst hs; subst hby
  have hrun := mks_run (P := P) (w := w) (k := k) (k' := k') (i := (i : Int)) (by omega) (by omega) (by omega) ht hi hz
  simp only [Int.toNat_natCast] at hrun
  simp only [execOp, ho, hn, hm]
  rw [hzl]
  simp only [Sem.run_bind, Sem.run_pure]
  have hrun' : (Instr.makeSlice t (Value.int k (Int.ofNat i)) (Value.int k' (Int.ofNat i))).run P w = _ := hrun
  rw [hrun']
  rfl

theorem fop_sound (hH : HR P gl w0 ι H w) (hT : TmOk ι T a.tmps) (hid : ι id = none) (hlt : id < H.next) (hg : IsObj H id l) {op : Op} (ok : okOp P gl o.op op = true) (h : fop T op = some (l, q)) : Made P gl w0 ι H w a o id (atId id q) := by
  cases op with
  | alloc z => exact f_alloc hH hT hid hlt hg ok h
  | box ag n x => exact f_box hH hT hid hlt hg ok h
  | bsl es z n ps => exact f_bsl hH hT hid hlt hg ok h
  | mks es bytes z n m => exact f_mks hH hT hid hlt hg ok h
  | _ => cases h
end

theorem Made.le {id : Nat} (hid : ι id = none) {b sz : Nat} : Inj.le ι (ι.add id b sz) := Inj.le_add hid
/-- what is not there yet stands for nothing -/
theorem HR.fresh (h : HR P gl w0 ι H w) {id : Nat} (hn : H.next ≤ id) : ι id = none := by
  cases hx : ι id with
  | none => rfl
  | some x => have := h.lt id x hx; omega
/-- one object more -/
theorem HR.pushed (h : HR P gl w0 ι H w) {ob : Ob} (hob : ∀ n cs, ob = .cells true n cs → ∀ j x, cs.get j = some x → j < n) : HR P gl w0 ι (H.push ob) w := h.turn (by simp) (fun id x hx => by
  rw [Heap.get_push, if_neg (by have := h.lt id x hx; omega)]) fun id n cs hg => by
  rw [Heap.get_push] at hg
  split at hg
  · exact hob n cs (Option.some.inj hg)
  · exact h.wf id n cs hg

/-- an operation that changes the machine's heap: what it comes to -/
def DidE (P : Program) (gl : List Nat) (w0 : World) (ι : Inj) (H H' : Heap) (w : World) (a : Act) (o : Oper) (v : V) : Prop :=
  ∃ x w' ι', (execOp a.eval o).run P w = .ok x w' ∧ (x = .skip ∧ v = .undef ∨ ∃ u, x = .value u ∧ VR ι' v u) ∧ Ext H H' ι ι' ∧ HR P gl w0 ι' H' w'
theorem doF_sound (hH : HR P gl w0 ι H w) (hT : TmOk ι T a.tmps) {op : Op} (ok : okOp P gl o.op op = true) {v : V} (h : doF T H op = .ef v H') : DidE P gl w0 ι H H' w a o v := by
  unfold doF at h
  cases hf : fop T op with
  | none => rw [hf] at h; cases h
  | some p =>
    obtain ⟨l, q⟩ := p
    rw [hf] at h
    simp only [Rs.ef.injEq] at h
    obtain ⟨rfl, rfl⟩ := h
    have hid := hH.fresh (Nat.le_refl H.next)
    obtain ⟨u, arr, el, h1, h2, h3⟩ := fop_sound (hH.pushed (mkCells_wf l)) hT hid (by simp) (isObj_mk (by rw [Heap.get_push, if_pos rfl])) ok hf
    exact ⟨_, _, _, h1, .inr ⟨u, rfl, h2⟩, Ext.add hid (Nat.le_refl _) (by simp), h3⟩
end Go.YtnpoikgkhhpdgaaDoorH
