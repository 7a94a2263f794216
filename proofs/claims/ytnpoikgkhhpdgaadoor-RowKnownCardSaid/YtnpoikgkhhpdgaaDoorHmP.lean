/-
  Regions that draw their order: what operations depend on; the sequence.
-/
import Derived.Test.YtnpoikgkhhpdgaaDoorHmO
import Derived.Test.YtnpoikgkhhpdgaaDoorEvV
set_option linter.unusedVariables false
namespace Go.YtnpoikgkhhpdgaaDoorH
open Go.RowKit
open Go.YtnpoikgkhhpdgaaDoorE (FF about_FF waitB beforeB backB backB_get waitB_spec beforeB_listed beforeB_closed unl unl_set unl_zero unl_pos unl_replicate ready_or)
variable {P : Program} {gl : List Nat} {w0 : World} {ι κ : Inj} {H H' : Heap} {w w' : World} {T T' : Tm} {a : Act} {N n : Nat} {run : Run} {y : Yld} {o : Oper} {pl : Bool} {ro : Option Nat} {Q : Exit → Act → World → Prop}

/-! ### what is read -/
abbrev Same (T T' : Tm) (l : List Nat) : Prop := ∀ t ∈ l, gt T t = gt T' t
theorem pair_congr {A B : List Nat} (h : Same T T' (A ++ B)) : Same T T' A ∧ Same T T' B :=
  ⟨fun t ht => h t (List.mem_append_left _ ht), fun t ht => h t (List.mem_append_right _ ht)⟩
theorem rdv_congr {x : Rd} (h : Same T T' (rdT x)) : rdv T x = rdv T' x := by
  cases x with
  | t n => exact h n (by simp [rdT])
  | k d => rfl
  | g d => rfl
theorem rdvO_none (T : Tm) : rdvO T none = some none := rfl
theorem rdvO_congr {x : Option Rd} (h : Same T T' (rdOT x)) : rdvO T x = rdvO T' x := by
  cases x with
  | none => rfl
  | some x => rw [rdvO_some, rdvO_some, rdv_congr h]
theorem rdvL_congr : ∀ {l : List Rd}, Same T T' (rdLT l) → rdvL T l = rdvL T' l
  | [], _ => rfl
  | x :: r, h => by
    rw [rdvL_cons, rdvL_cons, rdv_congr (pair_congr h).1, rdvL_congr (pair_congr h).2]
theorem rdvA_congr : ∀ {l : List (Nat × Nat × Rd)}, Same T T' (rdAT l) → rdvA T l = rdvA T' l
  | [], _ => rfl
  | x :: r, h => by
    simp only [rdvA]
    rw [rdv_congr (pair_congr h).1, rdvA_congr (pair_congr h).2]
theorem rdvS_congr : ∀ {l : List (Nat × Rd)}, Same T T' (rdST l) → rdvS T l = rdvS T' l
  | [], _ => rfl
  | x :: r, h => by
    simp only [rdvS]
    rw [rdv_congr (pair_congr h).1, rdvS_congr (pair_congr h).2]
theorem rd1_congr {x : Rd} {f : V → Option V} (h : Same T T' (rdT x)) : rd1 T x f = rd1 T' x f := by unfold rd1; rw [rdv_congr h]
theorem rd2_congr {x z : Rd} {f : V → V → Option V} (h : Same T T' (rdT x ++ rdT z)) : rd2 T x z f = rd2 T' x z f := by unfold rd2; rw [rdv_congr (pair_congr h).1, rdv_congr (pair_congr h).2]
theorem fop_congr {op : Op} (h : Same T T' (opReads op)) : fop T op = fop T' op := by
  cases op with
  | alloc z => rfl
  | box ag n x => show ob (rdv T x) _ = ob (rdv T' x) _; rw [rdv_congr h]
  | bsl es z n ps => show ob (rdvS T ps) _ = ob (rdvS T' ps) _; rw [rdvS_congr h]
  | mks es bytes z n m =>
    show ob (rdv T n) (fun n => ob (rdv T m) _) = ob (rdv T' n) (fun n => ob (rdv T' m) _)
    rw [rdv_congr (pair_congr h).1, rdv_congr (pair_congr h).2]
  | _ => rfl
theorem doF_congr {op : Op} (h : Same T T' (opReads op)) : doF T H op = doF T' H op := by unfold doF; rw [fop_congr h]
theorem exec_congr {op : Op} (h : Same T T' (opReads op)) : exec run y op T H = exec run y op T' H := by
  cases op with
  | mv x => show toVa (rdv T x) = toVa (rdv T' x); rw [rdv_congr h]
  | pick c x z =>
    show toVa (rd1 T c fun c => pickV (rdv T x) (rdv T z) c) = toVa (rd1 T' c fun c => pickV (rdv T' x) (rdv T' z) c)
    rw [rd1_congr (pair_congr h).1, rdv_congr (pair_congr (pair_congr h).2).1, rdv_congr (pair_congr (pair_congr h).2).2]
  | build z ps => show toVa (ob (rdvA T ps) _) = toVa (ob (rdvA T' ps) _); rw [rdvA_congr h]
  | bsl es z n ps => exact doF_congr (op := .bsl es z n ps) h
  | load ag n x => show toVa (rd1 T x _) = toVa (rd1 T' x _); rw [rd1_congr h]
  | store ag n x z =>
    show toEf (ob (rdv T x) fun x => ob (rdv T z) fun z => _) = toEf (ob (rdv T' x) fun x => ob (rdv T' z) fun z => _)
    rw [rdv_congr (pair_congr h).1, rdv_congr (pair_congr h).2]
  | nilc x => show toVa (rd1 T x _) = toVa (rd1 T' x _); rw [rd1_congr h]
  | bin op x z => show toVa (rd2 T x z _) = toVa (rd2 T' x z _); rw [rd2_congr h]
  | eqb neq k x z => show toVa (rd2 T x z _) = toVa (rd2 T' x z _); rw [rd2_congr h]
  | eqa neq ks x z => show toVa (rd2 T x z _) = toVa (rd2 T' x z _); rw [rd2_congr h]
  | un op x => show toVa (rd1 T x _) = toVa (rd1 T' x _); rw [rd1_congr h]
  | cv k x => show toVa (rd1 T x _) = toVa (rd1 T' x _); rw [rd1_congr h]
  | fld ag off n x => show toVa (rd1 T x _) = toVa (rd1 T' x _); rw [rd1_congr h]
  | fadr off x => show toVa (rd1 T x _) = toVa (rd1 T' x _); rw [rd1_congr h]
  | iadr es x i => show toVa (rd2 T i x _) = toVa (rd2 T' i x _); rw [rd2_congr h]
  | iada len es x i => show toVa (rd2 T i x _) = toVa (rd2 T' i x _); rw [rd2_congr h]
  | ida len es ag x i => show toVa (rd2 T i x _) = toVa (rd2 T' i x _); rw [rd2_congr h]
  | ids x i => show toVa (rd2 T i x _) = toVa (rd2 T' i x _); rw [rd2_congr h]
  | ext x i => show toVa (rd1 T x _) = toVa (rd1 T' x _); rw [rd1_congr h]
  | len str x => show toVa (rd1 T x _) = toVa (rd1 T' x _); rw [rd1_congr h]
  | cap x => show toVa (rd1 T x _) = toVa (rd1 T' x _); rw [rd1_congr h]
  | sl es x lo hi mx =>
    show toVa (ob (rdv T x) fun x => ob (rdvO T lo) fun lo => ob (rdvO T hi) fun hi => ob (rdvO T mx) fun mx => _) = toVa (ob (rdv T' x) fun x => ob (rdvO T' lo) fun lo => ob (rdvO T' hi) fun hi => ob (rdvO T' mx) fun mx => _)
    obtain ⟨h1, h2⟩ := pair_congr h
    obtain ⟨h3, h4⟩ := pair_congr h2
    obtain ⟨h5, h6⟩ := pair_congr h4
    rw [rdv_congr h1, rdvO_congr h3, rdvO_congr h5, rdvO_congr h6]
  | slp len es x lo hi mx =>
    show toVa (ob (rdv T x) fun x => ob (rdvO T lo) fun lo => ob (rdvO T hi) fun hi => ob (rdvO T mx) fun mx => _) = toVa (ob (rdv T' x) fun x => ob (rdvO T' lo) fun lo => ob (rdvO T' hi) fun hi => ob (rdvO T' mx) fun mx => _)
    obtain ⟨h1, h2⟩ := pair_congr h
    obtain ⟨h3, h4⟩ := pair_congr h2
    obtain ⟨h5, h6⟩ := pair_congr h4
    rw [rdv_congr h1, rdvO_congr h3, rdvO_congr h5, rdvO_congr h6]
  | sls x lo hi =>
    show toVa (ob (rdv T x) fun x => ob (rdvO T lo) fun lo => ob (rdvO T hi) fun hi => _) = toVa (ob (rdv T' x) fun x => ob (rdvO T' lo) fun lo => ob (rdvO T' hi) fun hi => _)
    obtain ⟨h1, h2⟩ := pair_congr h
    obtain ⟨h3, h4⟩ := pair_congr h2
    rw [rdv_congr h1, rdvO_congr h3, rdvO_congr h4]
  | mm mx x z => show toVa (rd2 T x z _) = toVa (rd2 T' x z _); rw [rd2_congr h]
  | mkfn f caps => show toVa (ob (rdvL T caps) _) = toVa (ob (rdvL T' caps) _); rw [rdvL_congr h]
  | app es bytes z x x2 =>
    show toEf (ob (rdv T x) fun x => ob (rdv T x2) fun z => _) = toEf (ob (rdv T' x) fun x => ob (rdv T' x2) fun z => _)
    rw [rdv_congr (pair_congr h).1, rdv_congr (pair_congr h).2]
  | appz es bytes z x x2 =>
    show toEf (ob (rdv T x) fun x => ob (rdv T x2) fun z => _) = toEf (ob (rdv T' x) fun x => ob (rdv T' x2) fun z => _)
    rw [rdv_congr (pair_congr h).1, rdv_congr (pair_congr h).2]
  | copy es x x2 =>
    show toEf (ob (rdv T x) fun x => ob (rdv T x2) fun z => _) = toEf (ob (rdv T' x) fun x => ob (rdv T' x2) fun z => _)
    rw [rdv_congr (pair_congr h).1, rdv_congr (pair_congr h).2]
  | clr es z x => show toEf (ob (rdv T x) _) = toEf (ob (rdv T' x) _); rw [rdv_congr h]
  | call f args => show toEf (ob (rdvL T args) _) = toEf (ob (rdvL T' args) _); rw [rdvL_congr h]
  | callv f args =>
    show toEf (ob (rdv T f) fun f => ob (rdvL T args) fun args => _) = toEf (ob (rdv T' f) fun f => ob (rdvL T' args) fun args => _)
    rw [rdv_congr (pair_congr h).1, rdvL_congr (pair_congr h).2]
  | alloc z => exact doF_congr (op := .alloc z) h
  | box ag n x => exact doF_congr (op := .box ag n x) h
  | mks es bytes z n m => exact doF_congr (op := .mks es bytes z n m) h
  | b2s x => show toVa (rd1 T x _) = toVa (rd1 T' x _); rw [rd1_congr h]
  | nat k args => show toVa (ob (rdvL T args) _) = toVa (ob (rdvL T' args) _); rw [rdvL_congr h]
theorem drop_congr {id : Nat} {op : Op} (h : Same T T' (opReads op)) : drop run y id T H op = drop run y id T' H op := by unfold drop; rw [fop_congr h, exec_congr h]
theorem wants_congr {g : Option (Nat × Bool)} (h : Same T T' (guardT g)) : wants T g = wants T' g := by
  cases g with
  | none => rfl
  | some x => rw [wants_some, wants_some, h x.1 (by simp [guardT])]

/-! ### how many writers stand ahead -/
def wc : List Io → Nat → Nat
  | _, 0 => 0
  | [], _ => 0
  | o :: r, i + 1 => (if isW o.op = true then 1 else 0) + wc r i
theorem wc_zero (l : List Io) : wc l 0 = 0 := by cases l <;> rfl
theorem wc_succ : ∀ {ios : List Io} {i : Nat} {io : Io}, ios[i]? = some io → wc ios (i + 1) = wc ios i + if isW io.op = true then 1 else 0
  | [], i, io, h => by simp at h
  | o :: r, 0, io, h => by simp at h; subst h; simp [wc, wc_zero]
  | o :: r, i + 1, io, h => by
    have := wc_succ (ios := r) (i := i) (io := io) (by simpa using h)
    simp only [wc] at this ⊢
    omega
theorem wc_mono (ios : List Io) : ∀ {i j : Nat}, i ≤ j → j ≤ ios.length → wc ios i ≤ wc ios j := by
  intro i j hij
  induction hij with
  | refl => intro _; exact Nat.le_refl _
  | @step m hm ih =>
    intro hl
    have h1 := ih (by omega)
    have h2 := wc_succ (ios := ios) (i := m) (io := ios[m]) (by simp)
    show wc ios i ≤ wc ios (m + 1)
    omega
theorem wc_lt {ios : List Io} {i j : Nat} {io : Io} (hi : ios[i]? = some io) (hw : isW io.op = true) (hij : i < j) (hj : j ≤ ios.length) : wc ios i < wc ios j := by
  have h1 := wc_succ hi
  rw [if_pos hw] at h1
  have h2 := wc_mono ios (i := i + 1) (j := j) (by omega) hj
  omega
theorem wc_ex {ios : List Io} : ∀ {i k : Nat}, i ≤ ios.length → k < wc ios i → ∃ j io, j < i ∧ ios[j]? = some io ∧ isW io.op = true ∧ wc ios j = k
  | 0, k, _, h => by rw [wc_zero] at h; omega
  | i + 1, k, hl, h => by
    have hio : ios[i]? = some ios[i] := by simp
    have h1 := wc_succ hio
    by_cases hk : k < wc ios i
    · obtain ⟨j, io, q1, q2⟩ := wc_ex (i := i) (by omega) hk
      exact ⟨j, io, by omega, q2⟩
    · by_cases hw : isW ios[i].op = true
      · rw [if_pos hw] at h1
        exact ⟨i, _, by omega, hio, hw, by omega⟩
      · rw [if_neg hw] at h1; omega
theorem wList_get : ∀ {ios : List Io} {k i : Nat} {io : Io}, ios[i]? = some io → isW io.op = true → (wList ios k)[wc ios i]? = some (k + i)
  | [], k, i, io, h, _ => by simp at h
  | o :: r, k, 0, io, h, hw => by
    simp at h; subst h
    simp only [wList, hw, wc]; simp
  | o :: r, k, i + 1, io, h, hw => by
    have ih := wList_get (ios := r) (k := k + 1) (i := i) (io := io) (by simpa using h) hw
    cases ho : isW o.op with
    | true =>
      simp only [wList, ho, wc, if_true]
      rw [Nat.add_comm 1, List.getElem?_cons_succ, ih]; congr 1; omega
    | false =>
      simp only [wList, ho, wc]
      simp only [Bool.false_eq_true, if_false, Nat.zero_add]
      rw [ih]; congr 1; omega
theorem wList_inv : ∀ {ios : List Io} {k q j : Nat}, (wList ios k)[q]? = some j → ∃ i io, j = k + i ∧ ios[i]? = some io ∧ isW io.op = true ∧ wc ios i = q
  | [], k, q, j, h => by simp [wList] at h
  | o :: r, k, q, j, h => by
    cases ho : isW o.op with
    | true =>
      simp only [wList, ho] at h
      cases q with
      | zero => simp at h; exact ⟨0, o, by omega, rfl, ho, rfl⟩
      | succ q =>
        obtain ⟨i, io, h1, h2, h3, h4⟩ := wList_inv (ios := r) (k := k + 1) (q := q) (j := j) (by simpa using h)
        exact ⟨i + 1, io, by omega, by simpa using h2, h3, by simp only [wc, ho, if_true]; omega⟩
    | false =>
      simp only [wList, ho] at h
      obtain ⟨i, io, h1, h2, h3, h4⟩ := wList_inv (ios := r) (k := k + 1) (q := q) (j := j) h
      exact ⟨i + 1, io, by omega, by simpa using h2, h3, by simp only [wc, ho]; simpa using h4⟩
theorem wList_len : ∀ (ios : List Io) (k : Nat), (wList ios k).length = wc ios ios.length
  | [], k => rfl
  | o :: r, k => by
    have := wList_len r (k + 1)
    cases ho : isW o.op with
    | true => simp only [wList, ho, List.length_cons, wc, if_true]; omega
    | false => simp only [wList, ho, List.length_cons, wc]; simp; omega
theorem wOrd_get {ops : Array Oper} : ∀ {ws : List Nat} {p q i j : Nat}, wOrd ops ws = true → p < q → ws[p]? = some i → ws[q]? = some j → beforeB ops 60 j i = true
  | [], p, q, i, j, _, _, h, _ => by simp at h
  | x :: r, p, q, i, j, h, hpq, hi, hj => by
    simp only [wOrd, Bool.and_eq_true] at h
    cases q with
    | zero => omega
    | succ q =>
      have hj2 : r[q]? = some j := by simpa using hj
      cases p with
      | zero =>
        simp at hi; subst hi
        exact List.all_eq_true.1 h.1 j (List.mem_of_getElem? hj2)
      | succ p => exact wOrd_get (p := p) (q := q) h.2 (by omega) (by simpa using hi) hj2
theorem rOrd_get {ops : Array Oper} {ws : List Nat} : ∀ {ios : List Io} {k i : Nat} {io : Io}, rOrd ops ws ios k = true → ios[i]? = some io → isW io.op = false →
    (∀ q, io.lo = q + 1 → ∃ j, ws[q]? = some j ∧ beforeB ops 60 (k + i) j = true) ∧ ((∃ j, ws[io.hi]? = some j ∧ beforeB ops 60 j (k + i) = true) ∨ ws.length ≤ io.hi)
  | [], k, i, io, _, h, _ => by simp at h
  | x :: r, k, i, io, h, hi, hw => by
    simp only [rOrd, Bool.and_eq_true] at h
    cases i with
    | succ i =>
      have := rOrd_get (k := k + 1) (i := i) h.2 (by simpa using hi) hw
      rwa [show k + 1 + i = k + (i + 1) by omega] at this
    | zero =>
      simp at hi; subst hi
      have h1 := h.1
      rw [hw] at h1
      simp only [Bool.and_eq_true] at h1
      obtain ⟨h2, h3⟩ := h1
      refine ⟨fun q hq => ?_, ?_⟩
      · rw [hq] at h2
        simp only [lget_eq] at h2
        cases hx : ws[q]? with
        | none => rw [hx] at h2; cases h2
        | some j => rw [hx] at h2; exact ⟨j, rfl, h2⟩
      · rw [lget_eq] at h3
        cases hx : ws[x.hi]? with
        | none => rw [hx] at h3; exact .inr (Nat.le_of_ble_eq_true h3)
        | some j => rw [hx] at h3; exact .inl ⟨j, rfl, h3⟩

/-! ### temporaries -/
theorem dstL_get : ∀ (ios : List Io) (k : Nat) (i : Nat) (io : Io) (t : Nat), ios[i]? = some io → io.dst = some t → keysB (dstL ios k) = true → gt (dstL ios k) t = some (k + i)
  | [], k, i, io, t, hi, _, _ => by simp at hi
  | x :: r, k, i, io, t, hi, ht, hk => by
    cases i with
    | zero =>
      simp at hi; subst hi
      simp only [dstL, ht]
      rw [gt_cons, if_pos rfl]; rfl
    | succ i =>
      have hi' : r[i]? = some io := by simpa using hi
      cases hx : x.dst with
      | none =>
        simp only [dstL, hx] at hk ⊢
        rw [dstL_get r (k + 1) i io t hi' ht hk]; congr 1; omega
      | some t' =>
        simp only [dstL, hx, keysB, Bool.and_eq_true] at hk ⊢
        have h1 := dstL_get r (k + 1) i io t hi' ht hk.2
        have hne : t ≠ t' := fun he => by
          subst he
          have := hk.1
          rw [h1] at this; cases this
        rw [gt_cons, if_neg hne, h1]; congr 1; omega
def dstsApart (ios : List Io) : Prop := ∀ (i j : Nat) (x y : Io) (t : Nat), ios[i]? = some x → ios[j]? = some y → x.dst = some t → y.dst = some t → i = j
theorem keys_apart {ios : List Io} (h : keysB (dstL ios 0) = true) : dstsApart ios := by
  intro i j x y t hi hj hx hy
  have h1 := dstL_get ios 0 i x t hi hx h
  have h2 := dstL_get ios 0 j y t hj hy h
  rw [h1] at h2
  have := Option.some.inj h2
  omega
theorem readsB_get {ops : Array Oper} {ds : List (Nat × Nat)} : ∀ {ios : List Io} {k : Nat}, readsB ops ds ios k = true → ∀ (i : Nat) (io : Io), ios[i]? = some io → ∀ t ∈ ioReads io, ∀ j, gt ds t = some j →
    (j < k + i ∧ waitB ops (k + i) j = true) ∨ j = k + i ∨ (k + i < j ∧ beforeB ops 60 j (k + i) = true)
  | [], k, _, i, io, hi => by simp at hi
  | x :: r, k, h, i, io, hi => by
    simp only [readsB, Bool.and_eq_true] at h
    intro t ht j hj
    cases i with
    | zero =>
      simp at hi; subst hi
      have := List.all_eq_true.1 h.1 t ht
      rw [hj] at this
      simp only [Bool.or_eq_true, Bool.and_eq_true] at this
      rcases this with (⟨h1, h2⟩ | h1) | ⟨h1, h2⟩
      · exact .inl ⟨by simpa using h1, by simpa using h2⟩
      · exact .inr (.inl (by simpa using h1))
      · exact .inr (.inr ⟨by simpa using h1, by simpa using h2⟩)
    | succ i =>
      have := readsB_get h.2 i io (by simpa using hi) t ht j hj
      rw [show k + 1 + i = k + (i + 1) by omega] at this
      exact this

/-! ### the sequence -/
structure DS (run : Run) (y : Yld) (ios : List Io) (id0 c : Nat) (Hl : List Heap) (Ts : Nat → Tm) (vs : Nat → V) : Prop where
  step : ∀ (i : Nat) (io : Io), ios[i]? = some io → ∃ b, wants (Ts i) io.guard = some b ∧ Ts (i + 1) = put (Ts i) io.dst (vs i) ∧
    (b = false → vs i = .tup [] ∧ (isW io.op = true → ∃ Hk, Hl[c + wc ios i]? = some Hk ∧ Hl[c + wc ios i + 1]? = some Hk)) ∧
    (b = true → isW io.op = true → ∃ Hk Hk1, Hl[c + wc ios i]? = some Hk ∧ Hl[c + wc ios i + 1]? = some Hk1 ∧ exec run y io.op (Ts i) Hk = .ef (vs i) Hk1) ∧
    (b = true → isW io.op = false → ∀ k Hk, io.lo ≤ k → k ≤ io.hi → Hl[k]? = some Hk → drop run y (id0 + i) (Ts i) Hk io.op = some (vs i))

theorem still_get {id : Nat} {op : Op} {v : V} {c lo hi : Nat} : ∀ {Hs : List Heap} {q : Nat}, still run y id T op v c lo hi Hs q = true → ∀ k Hk, Hs[k]? = some Hk → q + k ≠ c → lo ≤ q + k → q + k ≤ hi → drop run y id T Hk op = some v
  | [], q, _, k, Hk, h, _, _, _ => by simp at h
  | X :: r, q, h, k, Hk, hk, h1, h2, h3 => by
    simp only [still, Bool.and_eq_true] at h
    cases k with
    | succ k => exact still_get h.2 k Hk (by simpa using hk) (by omega) (by omega) (by omega)
    | zero =>
      simp at hk; subst hk
      have h4 := h.1
      have e1 : Nat.beq q c = false := by
        cases hb : Nat.beq q c with
        | false => rfl
        | true => exact absurd (Nat.eq_of_beq_eq_true hb) (by omega)
      have e2 : Nat.blt q lo = false := by
        cases hb : Nat.blt q lo with
        | false => rfl
        | true => have := blt_lt hb; omega
      have e3 : Nat.blt hi q = false := by
        cases hb : Nat.blt hi q with
        | false => rfl
        | true => have := blt_lt hb; omega
      rw [e1, e2, e3] at h4
      simp only [Bool.or_self] at h4
      cases hd : drop run y id T X op with
      | none => rw [hd] at h4; cases h4
      | some u => rw [hd] at h4; simp only at h4; rw [beqV_eq h4]

theorem toEfOf {x : Rs} {q : V × Heap} (h : efOf x = some q) : x = .ef q.1 q.2 := by
  cases x with
  | no => cases h
  | va v => cases h
  | ef v H => cases h; rfl
theorem dseq_ok : ∀ (ios : List Io) (id0 : Nat) (T : Tm) (H : Heap) (l : List (Bool × V × Heap)) (pre : List Heap), dseq run y ios id0 T H = some l → dchk run y ios l id0 pre.length T (pre ++ H :: dHs ios l) = true →
    ∃ Ts vs, DS run y ios id0 pre.length (pre ++ H :: dHs ios l) Ts vs ∧ Ts 0 = T ∧ Ts ios.length = dT ios l T ∧ (dHs ios l).length = wc ios ios.length ∧ (H :: dHs ios l)[wc ios ios.length]? = some (dH l H)
  | [], id0, T, H, l, pre, h, _ => by
    simp only [dseq, Option.some.injEq] at h
    subst h
    exact ⟨fun _ => T, fun _ => .undef, ⟨fun i io hi => by simp at hi⟩, rfl, rfl, rfl, rfl⟩
  | o :: r, id0, T, H, l, pre, h, hc => by
    simp only [dseq] at h
    obtain ⟨b, hw, h⟩ := ob_some.1 h
    -- the first operation's facts
    obtain ⟨v, H1, l', hl, hs, hfst⟩ : ∃ v H1 l', l = (b, v, H1) :: l' ∧ dseq run y r (id0 + 1) (put T o.dst v) H1 = some l' ∧
        ((b = false → v = .tup [] ∧ H1 = H) ∧ (b = true → isW o.op = true → exec run y o.op T H = .ef v H1) ∧ (b = true → isW o.op = false → drop run y id0 T H o.op = some v ∧ H1 = H)) := by
      cases b with
      | false =>
        simp only at h
        obtain ⟨l', h1, h2⟩ := ob_some.1 h
        exact ⟨.tup [], H, l', (Option.some.inj h2).symm, h1, fun _ => ⟨rfl, rfl⟩, (fun hh => by cases hh), (fun hh => by cases hh)⟩
      | true =>
        simp only at h
        cases hW : isW o.op with
        | true =>
          rw [hW] at h
          simp only at h
          obtain ⟨q, h1, h2⟩ := ob_some.1 h
          obtain ⟨l', h3, h4⟩ := ob_some.1 h2
          exact ⟨q.1, q.2, l', (Option.some.inj h4).symm, h3, (fun hh => by cases hh), fun _ _ => toEfOf h1, (fun _ hh => by cases hh)⟩
        | false =>
          rw [hW] at h
          simp only at h
          obtain ⟨v, h1, h2⟩ := ob_some.1 h
          obtain ⟨l', h3, h4⟩ := ob_some.1 h2
          exact ⟨v, H, l', (Option.some.inj h4).symm, h3, (fun hh => by cases hh), (fun _ hh => by cases hh), fun _ _ => ⟨h1, rfl⟩⟩
    subst hl
    simp only [dchk, Bool.and_eq_true] at hc
    obtain ⟨hc1, hc2⟩ := hc
    obtain ⟨f1, f2, f3⟩ := hfst
    -- the rest
    have hHs : dHs (o :: r) ((b, v, H1) :: l') = if isW o.op = true then H1 :: dHs r l' else dHs r l' := by
      simp only [dHs]
      cases isW o.op <;> rfl
    have hdH : dH ((b, v, H1) :: l') H = dH l' H1 := rfl
    have hpre : ∃ pre', pre' ++ H1 :: dHs r l' = pre ++ H :: dHs (o :: r) ((b, v, H1) :: l') ∧ pre'.length = pre.length + if isW o.op = true then 1 else 0 := by
      rw [hHs]
      by_cases hW : isW o.op = true
      · rw [if_pos hW, if_pos hW]; exact ⟨pre ++ [H], by simp, by simp⟩
      · rw [if_neg hW, if_neg hW]
        have e : H1 = H := by
          cases b with
          | false => exact (f1 rfl).2
          | true => exact (f3 rfl (by simpa using hW)).2
        rw [e]; exact ⟨pre, rfl, by simp⟩
    obtain ⟨pre', hp1, hp2⟩ := hpre
    have hcl : dchk run y r l' (id0 + 1) pre'.length (put T o.dst v) (pre' ++ H1 :: dHs r l') = true := by
      rw [hp1, hp2]
      have : (match isW o.op with | true => pre.length + 1 | false => pre.length) = pre.length + if isW o.op = true then 1 else 0 := by
        cases isW o.op <;> rfl
      rw [← this]; exact hc2
    obtain ⟨Ts, vs, ⟨hds⟩, t0, tn, hln, hfin⟩ := dseq_ok r (id0 + 1) _ H1 l' pre' hs hcl
    rw [hp1] at hds
    have hlen : (dHs (o :: r) ((b, v, H1) :: l')).length = wc (o :: r) (o :: r).length := by
      rw [hHs, List.length_cons]
      simp only [wc]
      by_cases hW : isW o.op = true
      · rw [if_pos hW, if_pos hW, List.length_cons, hln]; omega
      · rw [if_neg hW, if_neg hW, hln]; omega
    refine ⟨fun i => match i with | 0 => T | i + 1 => Ts i, fun i => match i with | 0 => v | i + 1 => vs i, ⟨fun i io hi => ?_⟩, rfl, tn, hlen, ?_⟩
    · cases i with
      | succ i =>
        have := hds i io (by simpa using hi)
        rw [hp2] at this
        rw [show id0 + 1 + i = id0 + (i + 1) by omega] at this
        have e : pre.length + wc (o :: r) (i + 1) = (pre.length + if isW o.op = true then 1 else 0) + wc r i := by simp only [wc]; omega
        rw [e]
        exact this
      | zero =>
        simp at hi; subst hi
        have hat : (pre ++ H :: dHs (o :: r) ((b, v, H1) :: l'))[pre.length]? = some H := by simp
        have hat1 : isW o.op = true → (pre ++ H :: dHs (o :: r) ((b, v, H1) :: l'))[pre.length + 1]? = some H1 := fun hW => by
          rw [hHs, if_pos hW, List.getElem?_append_right (by omega)]
          simp
        refine ⟨b, hw, t0.symm ▸ rfl, fun hb => ⟨(f1 hb).1, fun hW => ?_⟩, fun hb hW => ?_, fun hb hW k Hk hlo hhi hk => ?_⟩
        · rw [wc_zero, Nat.add_zero]
          exact ⟨H, hat, by rw [hat1 hW, (f1 hb).2]⟩
        · rw [wc_zero, Nat.add_zero]
          exact ⟨H, H1, hat, hat1 hW, f2 hb hW⟩
        · obtain ⟨g1, g2⟩ := f3 hb hW
          rw [hW, hb] at hc1
          simp only at hc1
          rw [Nat.add_zero]
          cases hbq : Nat.beq o.lo o.hi with
          | true =>
            rw [hbq] at hc1
            simp only at hc1
            have e1 := Nat.eq_of_beq_eq_true hbq
            have e2 := Nat.eq_of_beq_eq_true hc1
            have e3 : k = pre.length := by omega
            subst e3
            rw [hat] at hk; cases hk
            exact g1
          | false =>
            rw [hbq] at hc1
            simp only [Bool.and_eq_true] at hc1
            by_cases e3 : k = pre.length
            · subst e3
              rw [hat] at hk; cases hk
              exact g1
            · exact still_get hc1.2 k Hk hk (by omega) (by omega) (by omega)
    · rw [hdH, List.length_cons]
      simp only [wc]
      rw [hHs]
      by_cases hW : isW o.op = true
      · rw [if_pos hW, if_pos hW, Nat.add_comm 1, List.getElem?_cons_succ]; exact hfin
      · rw [if_neg hW, if_neg hW, Nat.zero_add]
        have e : H1 = H := by
          cases b with
          | false => exact (f1 rfl).2
          | true => exact (f3 rfl (by simpa using hW)).2
        rw [← e]; exact hfin

theorem DS.at {ios : List Io} {id0 c : Nat} {Hl : List Heap} {Ts : Nat → Tm} {vs : Nat → V} (h : DS run y ios id0 c Hl Ts vs) (hd : dstsApart ios) : ∀ (i : Nat), i ≤ ios.length →
    (∀ (j : Nat) (io : Io) (t : Nat), j < i → ios[j]? = some io → io.dst = some t → gt (Ts i) t = some (vs j)) ∧ (∀ t, (∀ (j : Nat) (io : Io), j < i → ios[j]? = some io → io.dst ≠ some t) → gt (Ts i) t = gt (Ts 0) t)
  | 0, _ => ⟨fun j io t hj => by omega, fun t _ => rfl⟩
  | i + 1, hi => by
    obtain ⟨h1, h2⟩ := DS.at h hd i (by omega)
    have hio : ios[i]? = some ios[i] := by simp
    obtain ⟨b, _, hT, _⟩ := h.step i _ hio
    rw [hT]
    have hput : ∀ t, gt (put (Ts i) ios[i].dst (vs i)) t = if ios[i].dst = some t then some (vs i) else gt (Ts i) t := fun t => by
      cases hdi : ios[i].dst with
      | none => simp [put]
      | some t' =>
        show gt ((t', vs i) :: Ts i) t = _
        rw [gt_cons]
        by_cases e : t = t'
        · rw [if_pos e, if_pos (by rw [e])]
        · rw [if_neg e, if_neg (fun h => e (by cases h; rfl))]
    refine ⟨fun j io t hj hjo hdt => ?_, fun t ht => ?_⟩
    · rw [hput]
      by_cases e : j = i
      · subst e
        rw [hio] at hjo; cases hjo
        rw [if_pos hdt]
      · rw [if_neg (fun hdi => e (hd j i io ios[i] t hjo hio hdt hdi))]
        exact h1 j io t (by omega) hjo hdt
    · rw [hput, if_neg (ht i _ (by omega) hio)]
      exact h2 t fun j io hj hjo => ht j io (by omega) hjo
end Go.YtnpoikgkhhpdgaaDoorH
