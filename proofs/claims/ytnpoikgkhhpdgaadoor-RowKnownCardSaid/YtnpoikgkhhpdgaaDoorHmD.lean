/-
  The relation between the machine's state and the model's; operations that only read.
-/
import Derived.Test.YtnpoikgkhhpdgaaDoorHmC
namespace Go.YtnpoikgkhhpdgaaDoorH
open Go.RowKit
open Go.YtnpoikgkhhpdgaaDoorE (tAgg tSize run_isAgg' run_sizeOf' add_off cell_of_heap)
variable {P : Program} {gl : List Nat} {w0 : World} {ι κ : Inj} {H H' : Heap} {w w' : World} {T T' : Tm} {a : Act} {N : Nat}

def isOwn : Ob → Bool
  | .cells own _ _ => own
  | _ => true
def lsOf : LS → LoopState
  | .ready => .ready
  | .busy => .busy
  | .done => .done
  | .exhausted => .exhausted
/-- the jump that a round has left behind -/
def peOf : Option Ex → Option (Option Code)
  | none => some none
  | some .normal => none
  | some .ret => some (some .ret)
  | some (.exit i) => some (some (.exit i))
def TmOk (ι : Inj) (T : Tm) (tmps : Array Value) : Prop := ∀ (t : Nat) (v : V), t < kD → gt T t = some v → ∃ u, tmps[t]? = some u ∧ VR ι v u
def ObOk (P : Program) (gl : List Nat) (ι : Inj) (w : World) : Ob → Nat → Nat → Prop
  | .cells own n cs, b, sz => ∃ arr el fz, w.heap[b]? = some (.cells arr el fz) ∧ (∀ j x, cs.get j = some x → ∃ v, arr[j]? = some v ∧ VR ι x v ∧ sing x = true) ∧ (own = true → fz = (0, 0) ∧ arr.size = sz ∧ n ≤ sz ∧ ∀ j x, cs.get j = some x → j < n)
  | .loop ps asg body T s pend, b, _ => ∃ r N, w.heap[b]? = some (.loop r) ∧ r.params.toList = ps ∧ r.state = lsOf s ∧ peOf pend = some r.pending ∧ r.tmps.size = N ∧ (∀ p ∈ ps, p < N ∧ p < kD) ∧
      mC P gl N false asg r.assign = true ∧ mC P gl N false body r.body = true ∧ TmOk ι T r.tmps
  | .dfr x, b, _ => w.heap[b]? = some (.deferred (if x then some [] else none))

structure HR (P : Program) (gl : List Nat) (w0 : World) (ι : Inj) (H : Heap) (w : World) : Prop where
  below : Below w0.heap.size w0 w
  lt : ∀ id x, ι id = some x → id < H.next
  blk : ∀ id b sz, ι id = some (b, sz) → b < w.heap.size
  obs : ∀ id ob b sz, H.get id = some ob → ι id = some (b, sz) → ObOk P gl ι w ob b sz
  own : ∀ id ob b sz, H.get id = some ob → ι id = some (b, sz) → isOwn ob = true → w0.heap.size ≤ b
  apart : ∀ id id' ob ob' x x', id ≠ id' → H.get id = some ob → H.get id' = some ob' → isOwn ob = true → ι id = some x → ι id' = some x' → x.1 ≠ x'.1
  glob : ∀ (j g : Nat), gl[j]? = some g → ∃ sz, ι j = some (g, sz)
  wf : ∀ id n cs, H.get id = some (.cells true n cs) → ∀ j x, cs.get j = some x → j < n

/-- the marks that an activation has among its deferred calls -/
inductive Marks (ι : Inj) : List V → List Deferred → Prop
  | nil : Marks ι [] []
  | cons {id b sz : Nat} {l : List V} {ds : List Deferred} (h : ι id = some (b, sz)) (t : Marks ι l ds) : Marks ι (.yld id :: l) ({ target := .collected b, args := #[] } :: ds)
theorem Marks.mono (h : Inj.le ι κ) {l : List V} {ds : List Deferred} (m : Marks ι l ds) : Marks κ l ds := by
  induction m with
  | nil => exact .nil
  | cons e t ih => exact .cons (h _ _ e) ih
def DfrOk (ι : Inj) (T : Tm) (ds : List Deferred) : Prop := (gt T kD = none ∧ ds = []) ∨ ∃ l, gt T kD = some (.tup l) ∧ Marks ι l ds
structure AR (pl : Bool) (ro : Option Nat) (N : Nat) (ι : Inj) (T : Tm) (a : Act) : Prop where
  sz : a.tmps.size = N
  tmps : TmOk ι T a.tmps
  plain : pl = true → ro = none ∧ gt T kD = none ∧ gt T kR = none ∧ a.defers = []
  rnd0 : ro = none → gt T kR = none ∧ DfrOk ι T a.defers
  rnd1 : ∀ l, ro = some l → (∃ id sz, gt T kR = some (.yld id) ∧ ι id = some (l, sz)) ∧ a.defers = []

theorem TmOk.mono (h : Inj.le ι κ) {tmps : Array Value} (t : TmOk ι T tmps) : TmOk κ T tmps := fun n v hn hg => let ⟨u, h1, h2⟩ := t n v hn hg; ⟨u, h1, h2.mono h⟩
theorem AR.mono {pl : Bool} {ro : Option Nat} (h : Inj.le ι κ) (A : AR pl ro N ι T a) : AR pl ro N κ T a where
  sz := A.sz
  tmps := A.tmps.mono h
  plain := A.plain
  rnd0 hr := ⟨(A.rnd0 hr).1, (A.rnd0 hr).2.imp id fun ⟨l, h1, h2⟩ => ⟨l, h1, h2.mono h⟩⟩
  rnd1 l hl := ⟨let ⟨id, sz, h1, h2⟩ := (A.rnd1 l hl).1; ⟨id, sz, h1, h _ _ h2⟩, (A.rnd1 l hl).2⟩
theorem AR.puts {pl : Bool} {ro : Option Nat} (A : AR pl ro N ι T a) {dst : Option Nat} (hd : ∀ t, dst = some t → t < N ∧ t < kD) {v : V} {u : Value} (h : VR ι v u) : AR pl ro N ι (Go.YtnpoikgkhhpdgaaDoorH.put T dst v) (a.put dst u) := by
  cases dst with
  | none => exact A
  | some t =>
    obtain ⟨h1, h2⟩ := hd t rfl
    have hk : ∀ n, kD ≤ n → gt (Go.YtnpoikgkhhpdgaaDoorH.put T (some t) v) n = gt T n := fun n hn => by
      show gt ((t, v) :: T) n = _
      rw [gt_cons, if_neg (by simp only; omega)]
    have hR : kD ≤ kR := by unfold kD kR; omega
    refine ⟨by simp [Act.put, A.sz], fun n x hn hg => ?_, fun hp => ?_, fun hr => ?_, fun l hl => ?_⟩
    · replace hg : (if n = t then some v else gt T n) = some x := (gt_cons (t, v) T n).symm.trans hg
      by_cases e : n = t
      · rw [if_pos e] at hg; subst e; cases hg
        exact ⟨u, by simp [Act.put, A.sz, h1], h⟩
      · rw [if_neg e] at hg
        obtain ⟨u', h3, h4⟩ := A.tmps n x hn hg
        exact ⟨u', by simp only [Act.put]; rw [Array.getElem?_setIfInBounds_ne (fun h => e h.symm)]; exact h3, h4⟩
    · obtain ⟨q1, q2, q3, q4⟩ := A.plain hp
      exact ⟨q1, by rw [hk _ (Nat.le_refl _)]; exact q2, by rw [hk _ hR]; exact q3, q4⟩
    · obtain ⟨q1, q2⟩ := A.rnd0 hr
      exact ⟨by rw [hk _ hR]; exact q1, by unfold DfrOk; rw [hk _ (Nat.le_refl _)]; exact q2⟩
    · obtain ⟨q1, q2⟩ := A.rnd1 l hl
      exact ⟨by rw [hk _ hR]; exact q1, q2⟩

/-- draws alone -/
theorem ObOk.same {ob : Ob} {b sz : Nat} (h : ObOk P gl ι w ob b sz) (hb : w'.heap[b]? = w.heap[b]?) (hι : Inj.le ι κ) : ObOk P gl κ w' ob b sz := by
  cases ob with
  | cells own n cs =>
    obtain ⟨arr, el, fz, h1, h2, h3⟩ := h
    exact ⟨arr, el, fz, hb.trans h1, fun j x hj => let ⟨v, q1, q2, q3⟩ := h2 j x hj; ⟨v, q1, q2.mono hι, q3⟩, h3⟩
  | loop ps asg body T s pend =>
    obtain ⟨r, N, h1, h2, h3, h4, h5, h6, h7, h8, h9⟩ := h
    exact ⟨r, N, hb.trans h1, h2, h3, h4, h5, h6, h7, h8, h9.mono hι⟩
  | dfr x => exact hb.trans h
theorem HR.drew (h : HR P gl w0 ι H w) (n : Nat) : HR P gl w0 ι H { w with drawn := n } :=
  ⟨⟨h.below.os, h.below.tape, h.below.output, h.below.size, h.below.block⟩, h.lt, h.blk, fun id ob b sz h1 h2 => (h.obs id ob b sz h1 h2).same rfl (Inj.le_refl _), h.own, h.apart, h.glob, h.wf⟩

/-! ### operands -/
theorem rdv_t (T : Tm) (n : Nat) : rdv T (.t n) = gt T n := rfl
theorem rdv_k (T : Tm) (v : V) : rdv T (.k v) = some v := rfl
theorem rdv_g (T : Tm) (n : Nat) : rdv T (.g n) = some (.ptr n 0) := rfl
theorem rd_sound (hH : HR P gl w0 ι H w) (hT : TmOk ι T a.tmps) {x : Operand} {r : Rd} {d : V} (ok : okRd gl x r = true) (hr : rdv T r = some d) : VR ι d (a.eval x) := by
  cases x with
  | tmp t => cases r with
    | t n =>
      simp only [okRd, Bool.and_eq_true] at ok
      have : t = n := Nat.eq_of_beq_eq_true ok.1
      subst this
      obtain ⟨v, h1, h2⟩ := hT t d (blt_lt ok.2) hr
      simp only [Act.eval, Array.getD_eq_getD_getElem?, h1, Option.getD_some]
      exact h2
    | k d => simp [okRd] at ok
    | g d => simp [okRd] at ok
  | const v => cases r with
    | t n => simp [okRd] at ok
    | g n => simp [okRd] at ok
    | k d' =>
      simp only [okRd] at ok
      rw [rdv_k] at hr; cases hr
      exact okV_vr ι ok
  | global g => cases r with
    | t n => simp [okRd] at ok
    | k n => simp [okRd] at ok
    | g id =>
      rw [rdv_g] at hr; cases hr
      simp only [okRd] at ok
      split at ok
      · rename_i g' hg
        have := Nat.eq_of_beq_eq_true ok
        subst this
        rw [lget_eq] at hg
        obtain ⟨sz, h1⟩ := hH.glob _ _ hg
        exact .ptr h1
      · cases ok
  | func f => cases r with
    | t n => simp [okRd] at ok
    | g n => simp [okRd] at ok
    | k d' =>
      rw [rdv_k] at hr; cases hr
      simp only [okRd] at ok
      split at ok
      · have := Nat.eq_of_beq_eq_true ok
        subst this
        exact .fn rfl fun j c x hc => by simp at hc
      · cases ok
theorem rdvL_cons (T : Tm) (x : Rd) (r : List Rd) : rdvL T (x :: r) = ob (rdv T x) fun d => ob (rdvL T r) fun l => some (d :: l) := rfl
theorem rdL_sound (hH : HR P gl w0 ι H w) (hT : TmOk ι T a.tmps) {xs : List Operand} {rs : List Rd} {ds : List V} (ok : okRdL gl xs rs = true) (hr : rdvL T rs = some ds) :
    ds.length = xs.length ∧ ∀ (j : Nat) (c : V) (x : Operand), ds[j]? = some c → xs[j]? = some x → VR ι c (a.eval x) := by
  induction xs generalizing rs ds with
  | nil => cases rs with
    | nil => cases hr; simp
    | cons r rs => simp [okRdL] at ok
  | cons x xs ih => cases rs with
    | nil => simp [okRdL] at ok
    | cons r rs =>
      simp only [okRdL, Bool.and_eq_true] at ok
      rw [rdvL_cons] at hr
      obtain ⟨d, h1, hr⟩ := ob_some.1 hr
      obtain ⟨l, h2, h3⟩ := ob_some.1 hr
      cases h3
      obtain ⟨h4, h5⟩ := ih ok.2 h2
      refine ⟨by simp [h4], fun j c y hc hy => ?_⟩
      cases j with
      | zero => simp at hc hy; subst hc; subst hy; exact rd_sound hH hT ok.1 h1
      | succ j => exact h5 j c y (by simpa using hc) (by simpa using hy)
def VRO (ι : Inj) : Option V → Option Value → Prop
  | none, none => True
  | some d, some v => VR ι d v
  | _, _ => False
theorem rdvO_some (T : Tm) (x : Rd) : rdvO T (some x) = ob (rdv T x) fun d => some (some d) := rfl
theorem rdO_sound (hH : HR P gl w0 ι H w) (hT : TmOk ι T a.tmps) {x : Option Operand} {r : Option Rd} {d : Option V} (ok : okRdO gl x r = true) (hr : rdvO T r = some d) : VRO ι d (x.map a.eval) := by
  cases x with
  | none => cases r with
    | none => cases hr; trivial
    | some r => simp [okRdO] at ok
  | some x => cases r with
    | none => simp [okRdO] at ok
    | some r =>
      rw [rdvO_some] at hr
      obtain ⟨d', h1, h2⟩ := ob_some.1 hr
      cases h2
      exact rd_sound hH hT ok h1

/-! ### types -/
theorem okSz_inv {t : TypeId} {ag : Bool} {n : Nat} (h : okSz P t ag n = true) : tAgg P t = some ag ∧ tSize P t = some n ∧ (ag = false → n = 1) := by
  unfold okSz at h
  split at h
  · rename_i b m h1 h2
    simp only [Bool.and_eq_true] at h
    obtain ⟨⟨q1, q2⟩, q3⟩ := h
    rw [h1, h2, show b = ag by simpa using q1, Nat.eq_of_beq_eq_true q2]
    refine ⟨rfl, rfl, fun ha => ?_⟩
    rw [ha] at q3; exact Nat.eq_of_beq_eq_true (by simpa using q3)
  · cases h
theorem okN_inv {t : TypeId} {n : Nat} (h : okN P t n = true) : tSize P t = some n := by
  unfold okN at h
  split at h
  · rename_i m hm; rw [hm, Nat.eq_of_beq_eq_true h]
  · cases h
theorem sliceEl_inv {t e : TypeId} (h : sliceEl P t = some e) : P.underlying t = some (.slice e) := by
  unfold sliceEl at h
  split at h
  · rename_i e' he; cases h; exact he
  · cases h
theorem isStr_inv {t : TypeId} (h : isStr P t = true) : P.underlying t = some .string := by
  unfold isStr at h
  split at h
  · assumption
  · cases h
theorem isBoolT_inv {t : TypeId} (h : isBoolT P t = true) : P.underlying t = some .bool := by
  unfold isBoolT at h
  split at h
  · assumption
  · cases h
theorem isPtr_inv {t : TypeId} (h : isPtr P t = true) : ∃ e, P.underlying t = some (.pointer e) := by
  unfold isPtr at h
  split at h
  · rename_i e he; exact ⟨e, he⟩
  · cases h
theorem isInt_inv {t : TypeId} {k : IntKind} (h : isInt P t k = true) : P.underlying t = some (.int k) := by
  unfold isInt at h
  split at h
  · rename_i k' hk; rw [hk, keq_eq h]
  · cases h
theorem okEl_inv {e : TypeId} {es : Nat} {z : List V} (h : okEl P e es z = true) : ∃ i zv, P.info? e = some i ∧ i.size = es ∧ 0 < es ∧ i.zero = some zv ∧ zv.cells.size = es ∧ z.length = es ∧
    ∀ (ι : Inj) (j : Nat) (c : V), z[j]? = some c → ∃ x, zv.cells[j]? = some x ∧ VR ι c x ∧ sing c = true := by
  unfold okEl at h
  split at h
  · rename_i i hi
    simp only [Bool.and_eq_true] at h
    obtain ⟨⟨h1, h2⟩, h3⟩ := h
    split at h3
    · rename_i zv hz
      simp only [Bool.and_eq_true] at h3
      obtain ⟨⟨q1, q2⟩, q3⟩ := h3
      obtain ⟨q4, q5⟩ := okVL_get q1
      have q3 := Nat.eq_of_beq_eq_true q3
      refine ⟨i, zv, hi, Nat.eq_of_beq_eq_true h1, blt_lt h2, hz, by simp at q4; omega, q3, fun ι j c hj => ?_⟩
      have hlt := (List.getElem?_eq_some_iff.1 hj).1
      have hlt' : j < zv.cells.size := by simp at q4; omega
      exact ⟨zv.cells[j], by simp [hlt'], okV_vr ι (q5 j c _ hj (by simp [hlt'])), singL_get.1 q2 j c hj⟩
    · cases h3
  · cases h
theorem okBy_inv {e : TypeId} {b : Nat} (h : okBy P e b = true) : ∃ i, P.info? e = some i ∧ i.bytes = b ∧ 0 < b := by
  unfold okBy at h
  split at h
  · rename_i i hi
    simp only [Bool.and_eq_true] at h
    exact ⟨i, hi, Nat.eq_of_beq_eq_true h.1, blt_lt h.2⟩
  · cases h
theorem okZ_inv {e : TypeId} {z : List V} (h : okZ P e z = true) : ∃ i zv, P.info? e = some i ∧ i.zero = some zv ∧ zv.cells.size = z.length ∧
    ∀ (ι : Inj) (j : Nat) (c : V), z[j]? = some c → ∃ x, zv.cells[j]? = some x ∧ VR ι c x ∧ sing c = true := by
  unfold okZ at h
  split at h
  · rename_i i hi
    split at h
    · rename_i zv hz
      simp only [Bool.and_eq_true] at h
      obtain ⟨q4, q5⟩ := okVL_get h.1
      refine ⟨i, zv, hi, hz, by simp at q4; omega, fun ι j c hj => ?_⟩
      have hlt := (List.getElem?_eq_some_iff.1 hj).1
      have hlt' : j < zv.cells.size := by simp at q4; omega
      exact ⟨zv.cells[j], by simp [hlt'], okV_vr ι (q5 j c _ hj (by simp [hlt'])), singL_get.1 h.2 j c hj⟩
    · cases h
  · cases h

/-! ### indexes and bounds -/
theorem idx_inv {n j : Nat} {d : V} (h : idx n d = some j) : ∃ k, d = .int k (j : Nat) ∧ j < n := by
  unfold idx at h
  split at h
  · rename_i k i
    obtain ⟨h1, h2⟩ := ite1_some.1 h
    cases h2
    exact ⟨k, rfl, blt_lt h1⟩
  · cases h
theorem bnd_inv {p q j : Nat} {d : V} (h : bnd p q d = some j) : ∃ k, d = .int k (j : Nat) ∧ p ≤ j ∧ j ≤ q := by
  unfold bnd at h
  split at h
  · rename_i k i
    obtain ⟨h1, h2⟩ := ite1_some.1 h
    cases h2
    simp only [Bool.and_eq_true] at h1
    exact ⟨k, rfl, Nat.le_of_ble_eq_true h1.1, Nat.le_of_ble_eq_true h1.2⟩
  · cases h

/-! ### loads -/
/-- cells that are read -/
theorem cells_run {b off n : Nat} {l : List V} (hY : ∀ j, j < n → ∃ x v, l[j]? = some x ∧ w.cell? ⟨b, off + j, none⟩ = some v ∧ VR ι x v) (hl : l.length = n) {t : TypeId} (ht : tAgg P t = some true) (hs : tSize P t = some n) :
    ∃ vs : List Value, vs.length = n ∧ (∀ (j : Nat) (c : V) (v : Value), l[j]? = some c → vs[j]? = some v → VR ι c v) ∧ (loadVar t ⟨b, off, none⟩).run P w = .ok (.agg vs.toArray) w := by
  have hvl : ((List.range n).map fun j => (w.cell? ⟨b, off + j, none⟩).getD undef).length = n := by simp
  refine ⟨(List.range n).map fun j => (w.cell? ⟨b, off + j, none⟩).getD undef, hvl, fun j c v hc hv => ?_, ?_⟩
  · have hj : j < n := by rw [← hl]; exact (List.getElem?_eq_some_iff.1 hc).1
    obtain ⟨x, u, h1, h2, h3⟩ := hY j hj
    rw [hc] at h1; cases h1
    simp [hj, h2] at hv; subst hv; exact h3
  · have hlc := run_loadCells_list (P := P) w ⟨b, off, none⟩ ((List.range n).map fun j => (w.cell? ⟨b, off + j, none⟩).getD undef) (fun j v hv => by
      have hj : j < n := by rw [← hvl]; exact (List.getElem?_eq_some_iff.1 hv).1
      obtain ⟨x, u, h1, h2, h3⟩ := hY j hj
      rw [add_off, h2]; simp [hj, h2] at hv; rw [hv])
    rw [hvl] at hlc
    simp [loadVar, run_isAgg' ht, run_sizeOf' hs, hlc]

theorem load_sound (hH : HR P gl w0 ι H w) {ag : Bool} {n : Nat} {da d : V} {va : Value} {t : TypeId} (ra : VR ι da va) (hl : loadH H ag n da = some d) (ht : tAgg P t = some ag) (hs : tSize P t = some n) :
    ∃ v, (Instr.loadAt t va).run P w = .ok v w ∧ VR ι d v := by
  unfold loadH at hl
  split at hl
  · rename_i id off
    obtain ⟨own, m, cs, hg, h⟩ := Heap.cells_some hl
    cases ra with
    | @ptr _ _ b sz e =>
      obtain ⟨arr, el, fz, h1, h2, h3⟩ := hH.obs id _ b sz hg e
      have hc : ∀ j x, cs.get j = some x → ∃ v, w.cell? ⟨b, j, none⟩ = some v ∧ VR ι x v ∧ sing x = true := fun j x hj => by
        obtain ⟨v, q1, q2, q3⟩ := h2 j x hj
        exact ⟨v, by simp [World.cell?, h1, q1], q2, q3⟩
      cases ag with
      | false =>
        rw [ite1_f] at h
        obtain ⟨v, q1, q2, q3⟩ := hc off d h
        exact ⟨v, by simp [Instr.loadAt, Instr.sureAddr, loadVar, run_isAgg' ht, q1], q2⟩
      | true =>
        rw [ite1_t] at h
        obtain ⟨l, h4, h5⟩ := ob_some.1 h
        cases h5
        obtain ⟨h6, h7⟩ := cgets_get h4
        obtain ⟨vs, q1, q2, q3⟩ := cells_run (P := P) (w := w) (ι := ι) (b := b) (off := off) (fun j hj => by
          have hx := h7 j hj
          rw [List.getElem?_eq_getElem (by omega)] at hx
          obtain ⟨v, q1, q2, _⟩ := hc _ _ hx
          exact ⟨_, v, by rw [List.getElem?_eq_getElem (by omega)], q1, q2⟩) h6 ht hs
        exact ⟨_, by simp [Instr.loadAt, Instr.sureAddr]; exact q3, .agg (by simp; omega) fun j c x hc' hx => q2 j c x hc' (by simpa using hx)⟩
  · cases hl

/-! ### values -/
theorem part_sound {ag : Bool} {n off : Nat} {cs : List V} {vs : Array Value} {d : V} (hl : cs.length = vs.size) (hr : ∀ (j : Nat) (c : V) (x : Value), cs[j]? = some c → vs[j]? = some x → VR ι c x)
    (h : partV ag n off cs = some d) {t : TypeId} (ht : tAgg P t = some ag) (hs : tSize P t = some n) : ∃ z, (part t vs off).run P w = .ok z w ∧ VR ι d z := by
  unfold partV at h
  cases ag with
  | false =>
    rw [ite1_f, lget_eq] at h
    have hlt := (List.getElem?_eq_some_iff.1 h).1
    exact ⟨vs[off], by simp [part, run_isAgg' ht, ← hl, hlt], hr off d _ h (by simp)⟩
  | true =>
    rw [ite1_t] at h
    obtain ⟨h1, h2⟩ := ite1_some.1 h
    cases h2
    rw [llen_eq] at h1
    have hle : off + n ≤ cs.length := Nat.le_of_ble_eq_true h1
    refine ⟨.agg (vs.extract off (off + n)), by simp only [part, Sem.run_bind, run_isAgg' ht, Result.andThen_ok, if_true, run_sizeOf' hs, Sem.run_pure], ?_⟩
    rw [ltake_eq, ldrop_eq]
    refine .agg (by simp; omega) fun j c x hc hx => ?_
    rw [List.getElem?_take] at hc
    split at hc
    · rename_i hj
      rw [List.getElem?_drop] at hc
      rw [Array.getElem?_extract] at hx
      split at hx
      · exact hr _ c x hc hx
      · cases hx
    · cases hc
end Go.YtnpoikgkhhpdgaaDoorH
