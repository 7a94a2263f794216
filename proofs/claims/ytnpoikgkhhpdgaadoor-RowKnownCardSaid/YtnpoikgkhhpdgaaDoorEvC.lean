/-
  The relation between the abstract state and the model's; how it fares when the world grows or a block of the call's own is written.
-/
import Derived.Test.YtnpoikgkhhpdgaaDoorEvB
import Derived.Laws.CopyRow
namespace Go.YtnpoikgkhhpdgaaDoorE

/-- a block that was there: as it was, but for the cells in X -/
def KeepB (X : Nat → Prop) (o o' : Option Obj) : Prop :=
  o' = o ∨ ∃ arr0 arr el fz, o = some (.cells arr0 el fz) ∧ o' = some (.cells arr el fz) ∧ arr.size = arr0.size ∧ ∀ i : Nat, ¬ X i → arr[i]? = arr0[i]?
theorem KeepB.refl (X : Nat → Prop) (o : Option Obj) : KeepB X o o := .inl rfl
theorem KeepB.trans {X : Nat → Prop} {a b c : Option Obj} (h : KeepB X a b) (k : KeepB X b c) : KeepB X a c := by
  rcases h with rfl | ⟨a0, a1, el, fz, h1, h2, h3, h4⟩
  · exact k
  · rcases k with rfl | ⟨b0, b1, el', fz', k1, k2, k3, k4⟩
    · exact .inr ⟨a0, a1, el, fz, h1, h2, h3, h4⟩
    · rw [h2] at k1
      simp at k1
      obtain ⟨rfl, rfl, rfl⟩ := k1
      exact .inr ⟨a0, b1, el, fz, h1, k2, k3.trans h3, fun i hi => (k4 i hi).trans (h4 i hi)⟩
theorem KeepB.mono {X Y : Nat → Prop} (hXY : ∀ i, X i → Y i) {a b : Option Obj} (h : KeepB X a b) : KeepB Y a b := by
  rcases h with h | ⟨a0, a1, el, fz, h1, h2, h3, h4⟩
  · exact .inl h
  · exact .inr ⟨a0, a1, el, fz, h1, h2, h3, fun i hi => h4 i fun hx => hi (hXY i hx)⟩
theorem KeepB.eq_of_none {X : Nat → Prop} (hX : ∀ i, ¬ X i) {a b : Option Obj} (h : KeepB X a b) : b = a := by
  rcases h with h | ⟨a0, a1, el, fz, h1, h2, h3, h4⟩
  · exact h
  · have : a1 = a0 := Array.ext_getElem? fun i => h4 i (hX i)
    rw [h1, h2, this]

structure Keeps (X : Nat → Nat → Prop) (w0 w : World) : Prop where
  os : w.os = w0.os
  tape : w.tape = w0.tape
  output : w.output = w0.output
  size : w0.heap.size ≤ w.heap.size
  block : ∀ k, k < w0.heap.size → KeepB (X k) w0.heap[k]? w.heap[k]?
theorem Keeps.refl (X : Nat → Nat → Prop) (w : World) : Keeps X w w := ⟨rfl, rfl, rfl, Nat.le_refl _, fun _ _ => .refl _ _⟩

/-- new blocks, and draws -/
structure Grows (w w' : World) : Prop where
  os : w'.os = w.os
  tape : w'.tape = w.tape
  output : w'.output = w.output
  size : w.heap.size ≤ w'.heap.size
  block : ∀ k, k < w.heap.size → w'.heap[k]? = w.heap[k]?
theorem Grows.refl (w : World) : Grows w w := ⟨rfl, rfl, rfl, Nat.le_refl _, fun _ _ => rfl⟩
theorem Grows.trans {a b c : World} (h : Grows a b) (k : Grows b c) : Grows a c :=
  ⟨k.os.trans h.os, k.tape.trans h.tape, k.output.trans h.output, Nat.le_trans h.size k.size, fun i hi => (k.block i (Nat.lt_of_lt_of_le hi h.size)).trans (h.block i hi)⟩
theorem Grows.drawn (w : World) (n : Nat) : Grows w { w with drawn := n } := ⟨rfl, rfl, rfl, Nat.le_refl _, fun _ _ => rfl⟩
theorem Grows.push (w : World) (o : Obj) : Grows w { w with heap := w.heap.push o } :=
  ⟨rfl, rfl, rfl, by simp, fun k hk => by simp [Array.getElem?_push, Nat.ne_of_lt hk]⟩
theorem Grows.keeps {w w' : World} (h : Grows w w') (X : Nat → Nat → Prop) : Keeps X w w' := ⟨h.os, h.tape, h.output, h.size, fun k hk => .inl (h.block k hk)⟩
theorem Keeps.grows {X : Nat → Nat → Prop} {w0 w w' : World} (h : Keeps X w0 w) (g : Grows w w') : Keeps X w0 w' :=
  ⟨g.os.trans h.os, g.tape.trans h.tape, g.output.trans h.output, Nat.le_trans h.size g.size, fun k hk => by rw [g.block k (Nat.lt_of_lt_of_le hk h.size)]; exact h.block k hk⟩
theorem Keeps.grows_of_none {X : Nat → Nat → Prop} (hX : ∀ b i, ¬ X b i) {w0 w : World} (h : Keeps X w0 w) : Grows w0 w :=
  ⟨h.os, h.tape, h.output, h.size, fun k hk => (h.block k hk).eq_of_none (hX k)⟩

theorem lt_of_heap {w : World} {b : Nat} {o : Obj} (h : w.heap[b]? = some o) : b < w.heap.size := (Array.getElem?_eq_some_iff.1 h).1
theorem lt_of_cell {w : World} {b o : Nat} {x : Value} (h : w.cell? ⟨b, o, none⟩ = some x) : b < w.heap.size := by
  unfold World.cell? at h
  cases hb : w.heap[b]? with
  | none => simp [hb] at h
  | some ob => exact lt_of_heap hb
theorem cell_of_heap {w : World} {b o : Nat} {arr : Array Value} {el : TypeId} {fz : Nat × Nat} (h : w.heap[b]? = some (.cells arr el fz)) : w.cell? ⟨b, o, none⟩ = arr[o]? := by
  simp [World.cell?, h]
theorem cell_same {w w' : World} {b o : Nat} (h : w'.heap[b]? = w.heap[b]?) : w'.cell? ⟨b, o, none⟩ = w.cell? ⟨b, o, none⟩ := by
  simp [World.cell?, h]

/-- a block of cells that reads as a box or a row -/
def BoxOk (G : Gh) (w : World) (d : D) (b base : Nat) : Prop :=
  ∃ arr el, w.heap[b]? = some (.cells arr el (0, 0)) ∧ base + (cellsOf d).length ≤ arr.size ∧ ∀ (j : Nat) (c : D), (cellsOf d)[j]? = some c → ∃ x, arr[base + j]? = some x ∧ Rep G c x ∧ (flatOf d = true → Rep0 G.μ c x ∧ single c = true)
def RowOk (G : Gh) (w : World) (l : List D) (b base es : Nat) : Prop :=
  ∃ arr el, w.heap[b]? = some (.cells arr el (0, 0)) ∧ base + l.length * es ≤ arr.size ∧ ∀ (i : Nat) (d : D), l[i]? = some d → ((cellsOf d).length = es ∧ singleL (cellsOf d) = true) ∧
    ∀ (j : Nat) (c : D), (cellsOf d)[j]? = some c → ∃ x, arr[base + (i * es + j)]? = some x ∧ Rep0 G.μ c x
def ObOk (G : Gh) (w : World) : Ob → Nat → Nat → Nat → Nat → Prop
  | .box d, b, base, _, _ => BoxOk G w d b base
  | .row es' l, b, base, es, K => es' = es ∧ K = l.length ∧ RowOk G w l b base es
/-- which cells of an object may be written: all in a block of the call's own, or in X -/
def ObMay (X : Nat → Nat → Prop) (B : Nat) (b base n : Nat) : Prop := B ≤ b ∨ ∀ j, j < n → X b (base + j)
def obSize : Ob → Nat
  | .box d => (cellsOf d).length
  | .row es l => l.length * es

structure TkOk (B : Nat) (G : Gh) (w : World) (b e top : Nat) : Prop where
  own : B ≤ b
  heap : ∃ arr el, w.heap[b]? = some (.cells arr el (0, 0)) ∧ top ≤ arr.size
  free : ∀ o, e ≤ o → G.μ b o = none

structure Rel (N : Nat) (X : Nat → Nat → Prop) (w0 : World) (μ0 : Mem) (G : Gh) (Cn : List Nat) (T : List (Nat × D)) (M : List (Nat × Ob)) (a : Act) (w : World) : Prop where
  keeps : Keeps X w0 w
  dfr : a.defers = []
  old : ∀ b o, b < w0.heap.size → G.μ b o = μ0 b o
  sz : a.tmps.size = N
  mem : ∀ b o x, G.μ b o = some x → w.cell? ⟨b, o, none⟩ = some x
  tmps : ∀ t d, gt T t = some d → ∃ v, a.tmps[t]? = some v ∧ Rep G d v
  obs : ∀ s ob b base es K, gt M s = some ob → G.ρ s = some (b, base, es, K) → ObOk G w ob b base es K ∧ ObMay X w0.heap.size b base (obSize ob) ∧ ∀ o, G.μ b o = none
  dead : ∀ s, gt M s = none → G.ρ s = none
  apart : ∀ s s' x x', s ≠ s' → G.ρ s = some x → G.ρ s' = some x' → x.1 ≠ x'.1
  toks : ∀ s b e top, s ∉ Cn → G.τ s = some (b, e, top) → TkOk w0.heap.size G w b e top
  tapart : ∀ s s' x x', s ∉ Cn → s' ∉ Cn → s ≠ s' → G.τ s = some x → G.τ s' = some x' → x.1 ≠ x'.1
  trapart : ∀ s s' x y, s ∉ Cn → G.τ s = some x → G.ρ s' = some y → x.1 ≠ y.1

variable {N : Nat} {X : Nat → Nat → Prop} {w0 : World} {μ0 : Mem} {G G' : Gh} {Cn : List Nat} {T : List (Nat × D)} {M : List (Nat × Ob)} {a : Act} {w w' : World}

theorem BoxOk.same {d : D} {b base : Nat} (h : BoxOk G w d b base) (hb : w'.heap[b]? = w.heap[b]?) (hG : Gh.le G G') : BoxOk G' w' d b base := by
  obtain ⟨arr, el, h1, h0, h2⟩ := h
  exact ⟨arr, el, hb.trans h1, h0, fun j c hj => let ⟨x, h3, h4, h5⟩ := h2 j c hj; ⟨x, h3, h4.mono hG, fun hf => ⟨(h5 hf).1.mono hG.μ, (h5 hf).2⟩⟩⟩
theorem RowOk.same {l : List D} {b base es : Nat} (h : RowOk G w l b base es) (hb : w'.heap[b]? = w.heap[b]?) (hG : Mem.le G.μ G'.μ) : RowOk G' w' l b base es := by
  obtain ⟨arr, el, h1, h0, h2⟩ := h
  exact ⟨arr, el, hb.trans h1, h0, fun i d hi => ⟨(h2 i d hi).1, fun j c hj => let ⟨x, h3, h4⟩ := (h2 i d hi).2 j c hj; ⟨x, h3, h4.mono hG⟩⟩⟩
theorem ObOk.same {ob : Ob} {b base es K : Nat} (h : ObOk G w ob b base es K) (hb : w'.heap[b]? = w.heap[b]?) (hG : Gh.le G G') : ObOk G' w' ob b base es K := by
  cases ob with
  | box d => exact BoxOk.same h hb hG
  | row es' l => exact ⟨h.1, h.2.1, RowOk.same h.2.2 hb hG.μ⟩
theorem ObOk.heap {ob : Ob} {b base es K : Nat} (h : ObOk G w ob b base es K) : ∃ arr el, w.heap[b]? = some (.cells arr el (0, 0)) := by
  cases ob with
  | box d => obtain ⟨arr, el, h1, _⟩ := h; exact ⟨arr, el, h1⟩
  | row es' l => obtain ⟨arr, el, h1, _⟩ := h.2.2; exact ⟨arr, el, h1⟩

/-- the world grows -/
theorem Rel.grow (h : Rel N X w0 μ0 G Cn T M a w) (g : Grows w w') : Rel N X w0 μ0 G Cn T M a w' where
  keeps := h.keeps.grows g
  dfr := h.dfr
  old := h.old
  sz := h.sz
  mem b o x hx := by have := h.mem b o x hx; rw [cell_same (g.block b (lt_of_cell this))]; exact this
  tmps := h.tmps
  obs s ob b base es K h1 h2 := by
    obtain ⟨h3, h4, h5⟩ := h.obs s ob b base es K h1 h2
    obtain ⟨arr, el, hh⟩ := h3.heap
    exact ⟨h3.same (g.block b (lt_of_heap hh)) (Gh.le_refl _), h4, h5⟩
  dead := h.dead
  apart := h.apart
  toks s b e top h1 h2 := by
    obtain ⟨h3, ⟨arr, el, h4, h5⟩, h6⟩ := h.toks s b e top h1 h2
    exact ⟨h3, ⟨arr, el, (g.block b (lt_of_heap h4)).trans h4, h5⟩, h6⟩
  tapart := h.tapart
  trapart := h.trapart

/-- a temporary is written -/
theorem Rel.put (h : Rel N X w0 μ0 G Cn T M a w) (dst : Option Nat) (hd : ∀ t, dst = some t → t < N) {d : D} {v : Value} (hr : Rep G d v) :
    Rel N X w0 μ0 G Cn (put T dst d) M (a.put dst v) w := by
  cases dst with
  | none => exact h
  | some t =>
    have ht : t < N := hd t rfl
    exact { keeps := h.keeps, dfr := h.dfr, old := h.old, sz := by simp [Act.put, h.sz], mem := h.mem,
            tmps := fun t' d' hg => by
              by_cases e : t' = t
              · subst e
                simp only [YtnpoikgkhhpdgaaDoorE.put] at hg
                rw [gt_st_same] at hg
                simp at hg; subst hg
                exact ⟨v, by simp [Act.put, h.sz, ht], hr⟩
              · simp only [YtnpoikgkhhpdgaaDoorE.put] at hg
                rw [gt_st_other _ _ e] at hg
                obtain ⟨v', h1, h2⟩ := h.tmps t' d' hg
                exact ⟨v', by simp only [Act.put, Array.getElem?_setIfInBounds]; rw [if_neg (Ne.symm e)]; exact h1, h2⟩
            obs := h.obs, dead := h.dead, apart := h.apart, toks := h.toks, tapart := h.tapart, trapart := h.trapart }

/-- temporaries are forgotten -/
theorem Rel.rmT (h : Rel N X w0 μ0 G Cn T M a w) (ks : List Nat) : Rel N X w0 μ0 G Cn (rm T ks) M a w :=
  { keeps := h.keeps, dfr := h.dfr, old := h.old, sz := h.sz, mem := h.mem, tmps := fun t d hg => h.tmps t d (gt_rm T ks hg).1,
    obs := h.obs, dead := h.dead, apart := h.apart, toks := h.toks, tapart := h.tapart, trapart := h.trapart }

theorem obSize_pgO (ss : List Nat) (ob : Ob) : obSize (pgO ss ob) = obSize ob := by
  cases ob with
  | row es l => rfl
  | box d =>
    simp only [pgO, obSize]
    cases d with
    | agg f cs => cases f <;> simp [pg, cellsOf, pgL_length]
    | slc t es l => cases t <;> simp only [pg] <;> first | rfl | (split <;> rfl)
    | ptr s i o => simp only [pg]; split <;> rfl
    | view s i o => simp only [pg]; split <;> rfl
    | _ => rfl

theorem cellsOf_pg (ss : List Nat) (d : D) {j : Nat} {c : D} (h : (cellsOf (pg ss d))[j]? = some c) :
    (flatOf (pg ss d) = true ∧ flatOf d = true ∧ (cellsOf d)[j]? = some c) ∨ (flatOf (pg ss d) = false ∧ ∃ c0, (cellsOf d)[j]? = some c0 ∧ c = pg ss c0) := by
  have one : ∀ d' : D, cellsOf d = [d] → cellsOf (pg ss d) = [pg ss d] → flatOf (pg ss d) = false → d' = d → (flatOf (pg ss d) = false ∧ ∃ c0, (cellsOf d)[j]? = some c0 ∧ c = pg ss c0) := by
    intro d' h1 h2 h3 _
    rw [h2] at h
    cases j with
    | zero => simp at h; exact ⟨h3, d, by rw [h1]; simp, h.symm⟩
    | succ j => simp at h
  cases d with
  | agg f cs =>
    cases f with
    | true => exact .inl ⟨rfl, rfl, h⟩
    | false =>
      right
      simp only [pg, cellsOf] at h ⊢
      rw [pgL_get] at h
      cases hc : cs[j]? with
      | none => simp [hc] at h
      | some c0 => simp [hc] at h; exact ⟨rfl, c0, rfl, h.symm⟩
  | bool b => exact .inl ⟨rfl, rfl, h⟩
  | int k n => exact .inl ⟨rfl, rfl, h⟩
  | str s => exact .inl ⟨rfl, rfl, h⟩
  | undef => exact .inr (one _ rfl rfl rfl rfl)
  | nilp => exact .inr (one _ rfl rfl rfl rfl)
  | nilf => exact .inr (one _ rfl rfl rfl rfl)
  | rptr cs => exact .inr (one _ rfl rfl rfl rfl)
  | tup vs => exact .inr (one _ rfl rfl rfl rfl)
  | fn f caps => exact .inr (one _ rfl rfl rfl rfl)
  | slc t es l =>
    cases t with
    | no => exact .inr (one _ rfl rfl rfl rfl)
    | full => exact .inr (one _ rfl rfl rfl rfl)
    | own s => exact .inr (one _ rfl (by simp only [pg]; split <;> rfl) (by simp only [pg]; split <;> rfl) rfl)
  | ptr s i o => exact .inr (one _ rfl (by simp only [pg]; split <;> rfl) (by simp only [pg]; split <;> rfl) rfl)
  | view s i o => exact .inr (one _ rfl (by simp only [pg]; split <;> rfl) (by simp only [pg]; split <;> rfl) rfl)

theorem BoxOk.pg {ss : List Nat} {d : D} {b base : Nat} (h : BoxOk G w d b base) (hμ : Mem.le G.μ G'.μ) (hρ : ∀ s x, has ss s = false → G.ρ s = some x → G'.ρ s = some x)
    (hτ : ∀ s x, has ss s = false → G.τ s = some x → G'.τ s = some x) : BoxOk G' w (pg ss d) b base := by
  obtain ⟨arr, el, h1, h0, h2⟩ := h
  refine ⟨arr, el, h1, by have := obSize_pgO ss (.box d); simp only [pgO, obSize] at this; rw [this]; exact h0, fun j c hj => ?_⟩
  rcases cellsOf_pg ss d hj with ⟨h3, h4, h5⟩ | ⟨h3, c0, h4, rfl⟩
  · obtain ⟨x, h6, h7, h8⟩ := h2 j c h5
    exact ⟨x, h6, .pure ((h8 h4).1.mono hμ), fun _ => ⟨(h8 h4).1.mono hμ, (h8 h4).2⟩⟩
  · obtain ⟨x, h6, h7, h8⟩ := h2 j c0 h4
    exact ⟨x, h6, h7.pg hμ hρ hτ, fun hf => by rw [h3] at hf; cases hf⟩

/-- slices' sites are forgotten -/
theorem Rel.pgτ (h : Rel N X w0 μ0 G Cn T M a w) (ss : List Nat) (hCn : ∀ s ∈ Cn, s ∈ ss) : Rel N X w0 μ0 (G.offτ ss) [] (pgT ss T) (pgM ss M) a w where
  keeps := h.keeps
  dfr := h.dfr
  old := h.old
  sz := h.sz
  mem := h.mem
  tmps t d hg := by
    rw [gt_pgT] at hg
    cases hT : gt T t with
    | none => simp [hT] at hg
    | some d0 =>
      simp [hT] at hg; subst hg
      obtain ⟨v, h1, h2⟩ := h.tmps t d0 hT
      exact ⟨v, h1, Rep.pg (G := G) (G' := G.offτ ss) (fun _ _ _ h => h) (fun _ _ _ h => h) (fun s x hs h => by simp [Gh.offτ, hs, h]) h2⟩
  obs s ob b base es K hg hρ := by
    rw [gt_pgM] at hg
    cases hM : gt M s with
    | none => simp [hM] at hg
    | some ob0 =>
      simp [hM] at hg; subst hg
      obtain ⟨h1, h2, h3⟩ := h.obs s ob0 b base es K hM hρ
      refine ⟨?_, by rw [obSize_pgO]; exact h2, h3⟩
      cases ob0 with
      | box d => exact BoxOk.pg h1 (fun _ _ _ h => h) (fun _ _ _ h => h) (fun s x hs h => by simp [Gh.offτ, hs, h])
      | row es' l => exact h1
  dead s hg := by
    rw [gt_pgM] at hg
    cases hM : gt M s with
    | none => exact h.dead s hM
    | some ob0 => simp [hM] at hg
  apart := h.apart
  toks s b e top _ hτ := by
    simp only [Gh.offτ] at hτ
    split at hτ
    · cases hτ
    · rename_i hs
      have hs : s ∉ ss := by rw [← has_not]; simpa using hs
      obtain ⟨h3, h4, h5⟩ := h.toks s b e top (fun hc => hs (hCn s hc)) hτ
      exact ⟨h3, h4, h5⟩
  tapart s s' x x' _ _ hne h1 h2 := by
    simp only [Gh.offτ] at h1 h2
    split at h1 <;> split at h2 <;> first | (cases h1; done) | (cases h2; done) | skip
    rename_i hs hs'
    have hs : s ∉ ss := by rw [← has_not]; simpa using hs
    have hs' : s' ∉ ss := by rw [← has_not]; simpa using hs'
    exact h.tapart s s' x x' (fun hc => hs (hCn s hc)) (fun hc => hs' (hCn s' hc)) hne h1 h2
  trapart s s' x y _ h1 h2 := by
    simp only [Gh.offτ] at h1
    split at h1
    · cases h1
    · rename_i hs
      have hs : s ∉ ss := by rw [← has_not]; simpa using hs
      exact h.trapart s s' x y (fun hc => hs (hCn s hc)) h1 h2

/-- boxes are forgotten -/
theorem Rel.pgρ (h : Rel N X w0 μ0 G [] T M a w) (ss : List Nat) : Rel N X w0 μ0 (G.off ss) [] (pgT ss T) (pgM ss (rm M ss)) a w where
  keeps := h.keeps
  dfr := h.dfr
  old := h.old
  sz := h.sz
  mem := h.mem
  tmps t d hg := by
    rw [gt_pgT] at hg
    cases hT : gt T t with
    | none => simp [hT] at hg
    | some d0 =>
      simp [hT] at hg; subst hg
      obtain ⟨v, h1, h2⟩ := h.tmps t d0 hT
      exact ⟨v, h1, Rep.pg (G := G) (G' := G.off ss) (fun _ _ _ h => h) (fun s x hs h => by simp [Gh.off, hs, h]) (fun s x hs h => by simp [Gh.off, hs, h]) h2⟩
  obs s ob b base es K hg hρ := by
    rw [gt_pgM] at hg
    simp only [Gh.off] at hρ
    split at hρ
    · cases hρ
    · cases hM : gt (rm M ss) s with
      | none => simp [hM] at hg
      | some ob0 =>
        simp [hM] at hg; subst hg
        obtain ⟨h1, h2, h3⟩ := h.obs s ob0 b base es K (gt_rm M ss hM).1 hρ
        refine ⟨?_, by rw [obSize_pgO]; exact h2, h3⟩
        cases ob0 with
        | box d => exact BoxOk.pg h1 (fun _ _ _ h => h) (fun s x hs h => by simp [Gh.off, hs, h]) (fun s x hs h => by simp [Gh.off, hs, h])
        | row es' l => exact h1
  dead s hg := by
    rw [gt_pgM] at hg
    simp only [Gh.off]
    split
    · rfl
    · rename_i hs
      have hs : has ss s = false := by simpa using hs
      rw [gt_rm_of M ss hs] at hg
      cases hM : gt M s with
      | none => exact h.dead s hM
      | some ob0 => simp [hM] at hg
  apart s s' x x' hne h1 h2 := by
    simp only [Gh.off] at h1 h2
    split at h1 <;> split at h2 <;> first | (cases h1; done) | (cases h2; done) | exact h.apart s s' x x' hne h1 h2
  toks s b e top _ hτ := by
    simp only [Gh.off] at hτ
    split at hτ
    · cases hτ
    · obtain ⟨h3, h4, h5⟩ := h.toks s b e top (by simp) hτ
      exact ⟨h3, h4, h5⟩
  tapart s s' x x' _ _ hne h1 h2 := by
    simp only [Gh.off] at h1 h2
    split at h1 <;> split at h2 <;> first | (cases h1; done) | (cases h2; done) | exact h.tapart s s' x x' (by simp) (by simp) hne h1 h2
  trapart s s' x y _ h1 h2 := by
    simp only [Gh.off] at h1 h2
    split at h1 <;> split at h2 <;> first | (cases h1; done) | (cases h2; done) | exact h.trapart s s' x y (by simp) h1 h2
end Go.YtnpoikgkhhpdgaaDoorE
