/-
  Which abstract operation stands for which operation of the model's; the operands; loads.
-/
import Derived.Test.YtnpoikgkhhpdgaaDoorEvC
namespace Go.YtnpoikgkhhpdgaaDoorE

/-! ### constants -/
mutual
def okV : D → Value → Bool
  | .bool b, v => match v with | .bool c => b == c | _ => false
  | .int k n, v => match v with | .int k' m => decide (k = k') && decide (n = m) | _ => false
  | .str s, v => match v with | .string t => decide (s = t) | _ => false
  | .nilp, v => match v with | .pointer none => true | _ => false
  | .nilf, v => match v with | .nilFunc => true | _ => false
  | .slc t _ l, v => match v, t, l with | .slice none 0 0, .full, [] => true | _, _, _ => false
  | .agg f cs, v => match v with | .agg vs => okVL cs vs.toList && singleL cs && (match f with | true => plainL cs | false => true) | _ => false
  | _, _ => false
def okVL : List D → List Value → Bool
  | [], vs => match vs with | [] => true | _ => false
  | d :: r, vs => match vs with | [] => false | v :: vs => okV d v && okVL r vs
end

theorem okVL_get {cs : List D} {vs : List Value} (h : okVL cs vs = true) : cs.length = vs.length ∧ ∀ (j : Nat) (c : D) (x : Value), cs[j]? = some c → vs[j]? = some x → okV c x = true := by
  induction cs generalizing vs with
  | nil => cases vs with
    | nil => simp
    | cons v vs => simp [okVL] at h
  | cons d r ih => cases vs with
    | nil => simp [okVL] at h
    | cons v vs =>
      simp only [okVL, Bool.and_eq_true] at h
      obtain ⟨h1, h2⟩ := ih h.2
      refine ⟨by simp [h1], fun j c x hc hx => ?_⟩
      cases j with
      | zero => simp at hc hx; subst hc; subst hx; exact h.1
      | succ j => exact h2 j c x (by simpa using hc) (by simpa using hx)

/-- constants stand for themselves -/
theorem okV_rep (μ : Mem) : ∀ (n : Nat) (d : D) (v : Value), SizeOf.sizeOf d < n → okV d v = true → Rep0 μ d v := by
  intro n
  induction n with
  | zero => intro d v h; omega
  | succ n ih =>
    intro d v hn h
    cases d with
    | bool b => cases v <;> simp [okV] at h; subst h; exact .bool _
    | int k m => cases v <;> simp [okV] at h; obtain ⟨rfl, rfl⟩ := h; exact .int _ _
    | str s => cases v <;> simp [okV] at h; subst h; exact .str _
    | nilp =>
      cases v <;> simp [okV] at h
      rename_i x
      cases x with
      | none => exact .nilp
      | some y => simp at h
    | nilf => cases v <;> simp [okV] at h; exact .nilf
    | slc t es l =>
      simp only [okV] at h
      split at h
      · exact .slcNil (.inr rfl)
      · cases h
    | agg f cs =>
      cases v <;> simp only [okV, Bool.and_eq_true] at h <;> first | (cases h; done) | skip
      rename_i vs
      obtain ⟨h1, h2⟩ := okVL_get h.1.1
      refine .agg (by simpa using h1) h.1.2 fun j c x hc hx => ih c x ?_ (h2 j c x hc (by simpa using hx))
      have := List.sizeOf_lt_of_mem (List.mem_of_getElem? hc)
      simp at hn; omega
    | undef => simp [okV] at h
    | ptr s i o => simp [okV] at h
    | rptr cs => simp [okV] at h
    | view s i o => simp [okV] at h
    | tup vs => simp [okV] at h
    | fn f caps => simp [okV] at h
theorem okV_rep0 (μ : Mem) {d : D} {v : Value} (h : okV d v = true) : Rep0 μ d v := okV_rep μ _ d v (Nat.lt_succ_self _) h

/-! ### operands -/
def okRd : Operand → Rd → Bool
  | .tmp t, .t n => Nat.beq t n
  | .const v, .k d => okV d v
  | .func f, .k d => match d with | .fn g [] => Nat.beq f g | _ => false
  | _, _ => false
def okRdO : Option Operand → Option Rd → Bool
  | none, none => true
  | some x, some y => okRd x y
  | _, _ => false
def okRdL : List Operand → List Rd → Bool
  | [], [] => true
  | x :: r, y :: s => okRd x y && okRdL r s
  | _, _ => false

variable {P : Program} {N : Nat} {X : Nat → Nat → Prop} {w0 : World} {μ0 : Mem} {G G' : Gh} {Cn : List Nat} {T : List (Nat × D)} {M : List (Nat × Ob)} {a : Act} {w w' : World}

theorem rd_sound (h : Rel N X w0 μ0 G Cn T M a w) {x : Operand} {r : Rd} {d : D} (ok : okRd x r = true) (hr : rdv T r = some d) : Rep G d (a.eval x) := by
  cases x with
  | tmp t => cases r with
    | t n =>
      simp only [okRd] at ok
      have : t = n := Nat.eq_of_beq_eq_true ok
      subst this
      obtain ⟨v, h1, h2⟩ := h.tmps t d hr
      simp only [Act.eval, Array.getD_eq_getD_getElem?, h1, Option.getD_some]
      exact h2
    | k d => simp [okRd] at ok
  | const v => cases r with
    | t n => simp [okRd] at ok
    | k d' =>
      simp only [okRd] at ok
      simp only [rdv] at hr; cases hr
      exact .pure (okV_rep0 _ ok)
  | global g => cases r <;> simp [okRd] at ok
  | func f => cases r with
    | t n => simp [okRd] at ok
    | k d' =>
      simp only [rdv] at hr; cases hr
      simp only [okRd] at ok
      split at ok
      · have := Nat.eq_of_beq_eq_true ok
        subst this
        exact .pure (.fn _)
      · cases ok

theorem rdO_sound (h : Rel N X w0 μ0 G Cn T M a w) {x : Option Operand} {r : Option Rd} {d : Option D} (ok : okRdO x r = true) (hr : rdvO T r = some d) :
    (x = none ∧ d = none) ∨ ∃ y d', x = some y ∧ d = some d' ∧ Rep G d' (a.eval y) := by
  cases x with
  | none => cases r with
    | none => simp only [rdvO] at hr; cases hr; exact .inl ⟨rfl, rfl⟩
    | some r => simp [okRdO] at ok
  | some x => cases r with
    | none => simp [okRdO] at ok
    | some r =>
      simp only [okRdO] at ok
      simp only [rdvO, Option.bind_eq_some_iff] at hr
      obtain ⟨d', h1, h2⟩ := hr
      simp at h2; subst h2
      exact .inr ⟨x, d', rfl, rfl, rd_sound h ok h1⟩

theorem rdL_sound (h : Rel N X w0 μ0 G Cn T M a w) {xs : List Operand} {rs : List Rd} {ds : List D} (ok : okRdL xs rs = true) (hr : rdvL T rs = some ds) :
    ds.length = xs.length ∧ ∀ (j : Nat) (c : D) (x : Operand), ds[j]? = some c → xs[j]? = some x → Rep G c (a.eval x) := by
  induction xs generalizing rs ds with
  | nil => cases rs with
    | nil => simp only [rdvL] at hr; cases hr; simp
    | cons r rs => simp [okRdL] at ok
  | cons x xs ih => cases rs with
    | nil => simp [okRdL] at ok
    | cons r rs =>
      simp only [okRdL, Bool.and_eq_true] at ok
      simp only [rdvL, Option.bind_eq_some_iff] at hr
      obtain ⟨d, h1, l, h2, h3⟩ := hr
      simp at h3; subst h3
      obtain ⟨h4, h5⟩ := ih ok.2 h2
      refine ⟨by simp [h4], fun j c y hc hy => ?_⟩
      cases j with
      | zero => simp at hc hy; subst hc; subst hy; exact rd_sound h ok.1 h1
      | succ j => exact h5 j c y (by simpa using hc) (by simpa using hy)

/-! ### types -/
def tAgg (P : Program) (t : TypeId) : Option Bool :=
  match P.underlying t with
  | some (.struct _) => some true
  | some (.array _ _) => some true
  | some _ => some false
  | none => none
def tSize (P : Program) (t : TypeId) : Option Nat := (P.info? t).map (·.size)

theorem run_isAgg' {t : TypeId} {b : Bool} (h : tAgg P t = some b) (w : World) : (isAgg t).run P w = .ok b w := by
  unfold tAgg at h
  cases hu : P.underlying t with
  | none => simp [hu] at h
  | some d =>
    rw [hu] at h
    unfold isAgg
    rw [Sem.run_bind, run_underlying hu w]
    cases d <;> simp_all
theorem run_sizeOf' {t : TypeId} {n : Nat} (h : tSize P t = some n) (w : World) : (sizeOf t).run P w = .ok n w := by
  unfold tSize at h
  cases hi : P.info? t with
  | none => simp [hi] at h
  | some i =>
    simp [hi] at h; subst h
    simp [Go.sizeOf, typeInfo, hi]

theorem add_off (b o i : Nat) : (⟨b, o, none⟩ : Addr).add i = ⟨b, o + i, none⟩ := by unfold Addr.add; split <;> simp_all

theorem single_of_plain {d : D} (h : plain d = true) : single d = true := by cases d <;> simp_all [plain, single]

/-! ### reading cells -/
/-- 'n' cells from 'o' on, out of a row of cells that reads as 'cs' -/
theorem readAt_cells {src ag fl : Bool} {n o : Nat} {cs : List D} {d : D} {Y : Nat → Option Value}
    (hY : ∀ (j : Nat) (c : D), cs[j]? = some c → ∃ x, Y j = some x ∧ Rep G c x ∧ (src = true → Rep0 G.μ c x ∧ single c = true)) (h : readAt src ag fl n o cs = some d) :
    (ag = true ∧ ∃ vs : List Value, vs.length = n ∧ (∀ j, j < n → Y (o + j) = vs[j]?) ∧ Rep G d (.agg vs.toArray)) ∨
    (ag = false ∧ ∃ v, Y o = some v ∧ single d = true ∧ Rep G d v) := by
  unfold readAt at h
  cases ag with
  | false =>
    right
    simp only [Option.bind_eq_some_iff] at h
    obtain ⟨c, h1, h2⟩ := h
    cases hs : single c with
    | false => rw [hs] at h2; cases h2
    | true =>
      rw [hs] at h2; simp at h2; subst h2
      obtain ⟨x, h3, h4, _⟩ := hY o c h1
      exact ⟨rfl, x, h3, hs, h4⟩
  | true =>
    left
    simp only at h
    cases hb : Nat.ble (o + n) cs.length with
    | false => rw [hb] at h; cases h
    | true =>
      rw [hb] at h
      have hle : o + n ≤ cs.length := Nat.le_of_ble_eq_true hb
      have hget : ∀ j, j < n → ∃ c, cs[o + j]? = some c := fun j hj => ⟨cs[o + j], by rw [List.getElem?_eq_getElem]⟩
      refine ⟨rfl, (List.range n).map (fun j => (Y (o + j)).getD undef), by simp, ?_, ?_⟩
      · intro j hj
        obtain ⟨c, hc⟩ := hget j hj
        obtain ⟨x, hx, _⟩ := hY _ c hc
        simp [hj, hx]
      · have hseg : ∀ (j : Nat) (c : D), ((cs.drop o).take n)[j]? = some c → j < n ∧ cs[o + j]? = some c := by
          intro j c hc
          rw [List.getElem?_take] at hc
          split at hc
          · rename_i hj; rw [List.getElem?_drop] at hc; exact ⟨hj, hc⟩
          · cases hc
        have hlen : ((cs.drop o).take n).length = n := by simp; omega
        have hval : ∀ (j : Nat) (c : D) (x : Value), ((cs.drop o).take n)[j]? = some c → ((List.range n).map (fun j => (Y (o + j)).getD undef)).toArray[j]? = some x → Y (o + j) = some x ∧ Rep G c x ∧ (src = true → Rep0 G.μ c x ∧ single c = true) := by
          intro j c x hc hx
          obtain ⟨hj, hc'⟩ := hseg j c hc
          obtain ⟨y, h1, h2⟩ := hY _ c hc'
          simp [hj, h1] at hx
          subst hx
          exact ⟨h1, h2⟩
        cases fl with
        | false =>
          simp at h; subst h
          exact .agg (by simp; omega) fun j c x hc hx => (hval j c x hc hx).2.1
        | true =>
          simp only at h
          cases src with
          | true =>
            simp at h; subst h
            refine .pure (.agg (by simp; omega) (singleL_get.2 fun j c hc => ?_) fun j c x hc hx => ((hval j c x hc hx).2.2 rfl).1)
            obtain ⟨hj, hc'⟩ := hseg j c hc
            obtain ⟨y, h1, h2, h3⟩ := hY _ c hc'
            exact (h3 rfl).2
          | false =>
            simp only at h
            cases hp : plainL ((cs.drop o).take n) with
            | false => rw [hp] at h; cases h
            | true =>
              rw [hp] at h; simp at h; subst h
              exact .pure (.agg (by simp; omega) (singleL_get.2 fun j c hc => single_of_plain (plainL_get hp hc)) fun j c x hc hx => (hval j c x hc hx).2.1.of_plain (plainL_get hp hc))

/-- a variable of type 't' is read -/
theorem readAt_run {src ag fl : Bool} {n o b off : Nat} {cs : List D} {d : D} {t : TypeId}
    (hY : ∀ (j : Nat) (c : D), cs[j]? = some c → ∃ x, w.cell? ⟨b, off + j, none⟩ = some x ∧ Rep G c x ∧ (src = true → Rep0 G.μ c x ∧ single c = true)) (h : readAt src ag fl n o cs = some d)
    (ht : tAgg P t = some ag) (hs : tSize P t = some n) : ∃ v, (loadVar t ⟨b, off + o, none⟩).run P w = .ok v w ∧ Rep G d v := by
  rcases readAt_cells (Y := fun j => w.cell? ⟨b, off + j, none⟩) hY h with ⟨rfl, vs, h1, h2, h3⟩ | ⟨rfl, v, h1, _, h3⟩
  · refine ⟨_, ?_, h3⟩
    have hl := run_loadCells_list (P := P) w ⟨b, off + o, none⟩ vs (fun j v hv => by
      have hj : j < n := by rw [← h1]; exact (List.getElem?_eq_some_iff.1 hv).1
      rw [add_off, Nat.add_assoc, h2 j hj]; exact hv)
    rw [h1] at hl
    simp [loadVar, run_isAgg' ht, run_sizeOf' hs, hl]
  · refine ⟨v, ?_, h3⟩
    simp [loadVar, run_isAgg' ht, h1]

theorem rep0_rep {G : Gh} {d : D} {v : Value} (h : Rep0 G.μ d v) : Rep G d v := .pure h

/-- a load -/
theorem load_sound (h : Rel N X w0 μ0 G Cn T M a w) {ag fl : Bool} {n : Nat} {da d : D} {va : Value} {t : TypeId} (ra : Rep G da va) (hl : loadD M ag fl n da = some d)
    (ht : tAgg P t = some ag) (hs : tSize P t = some n) : ∃ v, (Instr.loadAt t va).run P w = .ok v w ∧ Rep G d v := by
  unfold loadD at hl
  cases da with
  | rptr cs =>
    cases ra with
    | pure ra =>
      cases ra with
      | @rptr _ b off Y h1 hm hr =>
        simp only at hl
        obtain ⟨v, hv1, h2⟩ := readAt_run (P := P) (t := t) (b := b) (off := off) (w := w) (G := G) (src := true) (o := 0) (fun j c hj => by
          have hlt := (List.getElem?_eq_some_iff.1 hj).1
          exact ⟨Y j, h.mem _ _ _ (hm j hlt), .pure (hr j c hj), fun _ => ⟨hr j c hj, singleL_get.1 h1 j c hj⟩⟩) hl ht hs
        exact ⟨v, by simp [Instr.loadAt, Instr.sureAddr]; simpa using hv1, h2⟩
  | ptr s i o =>
    cases ra with
    | pure ra => cases ra
    | @ptr _ _ _ b base es K e =>
      simp only at hl
      cases hM : gt M s with
      | none => rw [hM] at hl; cases hl
      | some ob =>
        rw [hM] at hl
        obtain ⟨hob, _, _⟩ := h.obs s ob b base es K hM e
        cases ob with
        | box c =>
          cases i with
          | succ i => simp at hl
          | zero =>
            simp only [readD] at hl
            obtain ⟨arr, el, h1, _, h2⟩ := hob
            obtain ⟨v, h3, h4⟩ := readAt_run (P := P) (t := t) (b := b) (off := base) (w := w) (G := G) (src := flatOf c) (o := o) (fun j c' hj => by
              obtain ⟨x, h3, h4, h5⟩ := h2 j c' hj
              exact ⟨x, (cell_of_heap h1).trans h3, h4, h5⟩) hl ht hs
            exact ⟨v, by simp [Instr.loadAt, Instr.sureAddr]; exact h3, h4⟩
        | row es' l =>
          simp only [Option.bind_eq_some_iff] at hl
          obtain ⟨c, hi, hl⟩ := hl
          obtain ⟨he, hK, arr, el, h1, _, h2⟩ := hob
          subst he
          simp only [readD] at hl
          obtain ⟨v, h3, h4⟩ := readAt_run (P := P) (t := t) (b := b) (off := base + i * es') (w := w) (G := G) (src := flatOf c) (o := o) (fun j c' hj => by
            obtain ⟨x, h3, h4⟩ := (h2 i c hi).2 j c' hj
            exact ⟨x, (cell_of_heap h1).trans (by rw [Nat.add_assoc]; exact h3), .pure h4, fun _ => ⟨h4, singleL_get.1 (h2 i c hi).1.2 j c' hj⟩⟩) hl ht hs
          exact ⟨v, by simp [Instr.loadAt, Instr.sureAddr]; rw [← Nat.add_assoc]; exact h3, h4⟩
  | _ => simp at hl
end Go.YtnpoikgkhhpdgaaDoorE
