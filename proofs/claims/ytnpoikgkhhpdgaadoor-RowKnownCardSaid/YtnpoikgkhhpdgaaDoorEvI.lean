/-
  New blocks: slices that are built, boxes, rows, and what append makes.
-/
import Derived.Test.YtnpoikgkhhpdgaaDoorEvH
namespace Go.YtnpoikgkhhpdgaaDoorE
variable {P : Program} {N : Nat} {X : Nat → Nat → Prop} {w0 : World} {μ0 : Mem} {G G' : Gh} {Cn : List Nat} {T : List (Nat × D)} {M : List (Nat × Ob)} {a : Act} {w w' : World}

theorem Gh.le_μ {G : Gh} {μ' : Mem} (h : Mem.le G.μ μ') : Gh.le G { G with μ := μ' } := ⟨h, fun _ _ h => h, fun _ _ h => h⟩

/-- more is known to stand for good -/
theorem Rel.addμ (h : Rel N X w0 μ0 G Cn T M a w) {μ' : Mem} (hle : Mem.le G.μ μ') (hold : ∀ b o, b < w0.heap.size → μ' b o = G.μ b o) (hm : ∀ b o x, μ' b o = some x → w.cell? ⟨b, o, none⟩ = some x)
    (ho : ∀ s ob x, gt M s = some ob → G.ρ s = some x → ∀ o, μ' x.1 o = none) (ht : ∀ s b e top, s ∉ Cn → G.τ s = some (b, e, top) → ∀ o, e ≤ o → μ' b o = none) :
    Rel N X w0 μ0 { G with μ := μ' } Cn T M a w where
  keeps := h.keeps
  dfr := h.dfr
  old b o hb := (hold b o hb).trans (h.old b o hb)
  sz := h.sz
  mem := hm
  tmps t d hg := let ⟨v, h1, h2⟩ := h.tmps t d hg; ⟨v, h1, h2.mono (Gh.le_μ hle)⟩
  obs s ob b base es K hg hρ := let ⟨h1, h2, _⟩ := h.obs s ob b base es K hg hρ; ⟨h1.same rfl (Gh.le_μ hle), h2, ho s ob _ hg hρ⟩
  dead := h.dead
  apart := h.apart
  toks s b e top hs hτ := let ⟨h1, h2, _⟩ := h.toks s b e top hs hτ; ⟨h1, h2, ht s b e top hs hτ⟩
  tapart := h.tapart
  trapart := h.trapart

/-- the memory with a block of cells added, as far as 'n' -/
def Mem.add (μ : Mem) (b n : Nat) (arr : Array Value) : Mem := fun b' o => if b' = b then (if o < n then arr[o]? else none) else μ b' o

theorem Mem.le_add {μ : Mem} {b n : Nat} {arr : Array Value} (h : ∀ o, μ b o = none) : Mem.le μ (μ.add b n arr) := by
  intro b' o x hx
  unfold Mem.add
  split
  · rename_i e; rw [e, h] at hx; cases hx
  · exact hx

theorem Rel.blk_lt (h : Rel N X w0 μ0 G Cn T M a w) {b o : Nat} {x : Value} (hx : G.μ b o = some x) : b < w.heap.size := lt_of_cell (h.mem b o x hx)
theorem Rel.μ_new (h : Rel N X w0 μ0 G Cn T M a w) (o : Nat) : G.μ w.heap.size o = none := by
  cases hx : G.μ w.heap.size o with
  | none => rfl
  | some x => have := h.blk_lt hx; omega
theorem Rel.ρ_lt (h : Rel N X w0 μ0 G Cn T M a w) {s : Nat} {x : Nat × Nat × Nat × Nat} (hx : G.ρ s = some x) : x.1 < w.heap.size := by
  obtain ⟨b, base, es, K⟩ := x
  cases hM : gt M s with
  | none => have := h.dead s hM; rw [hx] at this; cases this
  | some ob =>
    obtain ⟨arr, el, hh⟩ := (h.obs s ob b base es K hM hx).1.heap
    exact lt_of_heap hh
theorem Rel.τ_lt (h : Rel N X w0 μ0 G Cn T M a w) {s : Nat} {x : Nat × Nat × Nat} (hs : s ∉ Cn) (hx : G.τ s = some x) : x.1 < w.heap.size := by
  obtain ⟨b, e, top⟩ := x
  obtain ⟨_, ⟨arr, el, hh, _⟩, _⟩ := h.toks s b e top hs hx
  exact lt_of_heap hh

/-- a new block whose cells stand for good -/
theorem Rel.pushμ (h : Rel N X w0 μ0 G Cn T M a w) (arr : Array Value) (el : TypeId) (n : Nat) :
    Rel N X w0 μ0 { G with μ := G.μ.add w.heap.size n arr } Cn T M a { w with heap := w.heap.push (.cells arr el) } ∧ Mem.le G.μ (G.μ.add w.heap.size n arr) := by
  have hle : Mem.le G.μ (G.μ.add w.heap.size n arr) := Mem.le_add h.μ_new
  refine ⟨(h.grow (Grows.push w _)).addμ hle (fun b o hb => by unfold Mem.add; rw [if_neg (by have := h.keeps.size; omega)]) (fun b o x hx => ?_) (fun s ob x hg hρ o => ?_) (fun s b e top hs hτ o ho => ?_), hle⟩
  · unfold Mem.add at hx
    split at hx
    · rename_i e
      subst e
      split at hx
      · simp [World.cell?, hx]
      · cases hx
    · have hlt := h.blk_lt hx
      rw [cell_same ((Grows.push w _).block b hlt)]
      exact h.mem b o x hx
  · have := h.ρ_lt hρ
    unfold Mem.add
    rw [if_neg (by omega)]
    obtain ⟨b, base, es, K⟩ := x
    exact (h.obs s ob b base es K hg hρ).2.2 o
  · have := h.τ_lt hs hτ
    unfold Mem.add
    rw [if_neg (by simp at this; omega)]
    exact (h.toks s b e top hs hτ).free o ho

/-- a slice literal -/
theorem bsl_sound (h : Rel N X w0 μ0 G Cn T M a w) {es n : Nat} {z : D} {l : List D} {ps : List (Nat × D)} {vs : Array (Nat × Value)} {t e : TypeId} {ie : TypeInfo} {zv : Value}
    (ht : P.underlying t = some (.slice e)) (hi : P.info? e = some ie) (hs : ie.size = es) (hz : ie.zero = some zv) (hzr : Rep0 G.μ z zv) (hzs : solid z = true) (hzl : (cellsOf z).length = es)
    (hn : n * es ≤ 2 ^ 24) (hp : PartsS G vs.toList ps) (hl : bldS es (List.replicate n z) ps = some l) :
    ∃ v w' μ', (Instr.buildSlice t n vs).run P w = .ok v w' ∧ Grows w w' ∧ Mem.le G.μ μ' ∧ Rep { G with μ := μ' } (.slc .full es l) v ∧ Rel N X w0 μ0 { G with μ := μ' } Cn T M a w' := by
  obtain ⟨cells, h1, h2⟩ := fillS_sound hp (zeros_rep hzr hzs hzl n) hl
  have hlen : l.length = n := by
    have : ∀ (ps : List (Nat × D)) (z l : List D), bldS es z ps = some l → l.length = z.length := by
      intro ps
      induction ps with
      | nil => intro z l h; simp [bldS] at h; rw [h]
      | cons p r ih =>
        intro z l h
        simp only [bldS] at h
        split at h
        · simp only [Option.bind_eq_some_iff] at h
          obtain ⟨d, _, h⟩ := h
          cases hb : Nat.beq (cellsOf d).length es with
          | false => rw [hb] at h; cases h
          | true => rw [hb] at h; rw [ih _ _ h]; simp
        · cases h
    rw [this ps _ _ hl]; simp
  obtain ⟨hr, hle⟩ := h.pushμ cells e cells.size
  refine ⟨.slice (some ⟨w.heap.size, 0, none⟩) n n, { w with heap := w.heap.push (.cells cells e) }, _, ?_, Grows.push w _, hle, ?_, hr⟩
  · have hsm : ¬ n * ie.size > 2 ^ 24 := by rw [hs]; omega
    by_cases h0 : n * es = 0
    · have hempty : (Array.range (n * es)).map (zv.cells[· % zv.cells.size]!) = #[] := by simp [h0]
      have hzz : (Array.range (n * es)).map (fun i => (#[] : Array Value)[i % 0]!) = #[] := by simp [h0]
      rw [hempty] at h1
      subst hs
      have hr0 : Array.range 0 = #[] := rfl
      simp [Instr.buildSlice, run_underlying ht, sizeOf, typeInfo, hi, h0, newRow, hr0, h1]
    · subst hs
      simp [Instr.buildSlice, run_underlying ht, sizeOf, typeInfo, zeroValue, hi, hz, hsm, h0, h1, newRow]
  · have hsz := h2.size
    have := Rep0.slc (μ := G.μ.add w.heap.size cells.size cells) (t := .full) (es := es) (l := l) (b := w.heap.size) (off := 0) (cap := l.length) (fun k => cells.getD k undef) (.inr ⟨rfl, rfl⟩) (Nat.le_refl _) h2.len
      (fun k hk => by
        have hk' : k < cells.size := by omega
        simp [Mem.add, hk', Array.getD])
      (fun i d j c hi hj => by
        obtain ⟨x, h3, h4⟩ := h2.get i d j c hi hj
        have hlt := (Array.getElem?_eq_some_iff.1 h3).1
        have : cells.getD (i * es + j) undef = x := by
          have := (Array.getElem?_eq_some_iff.1 h3).2
          simp [Array.getD, hlt, this]
        rw [this]; exact h4.mono hle)
    rw [hlen] at this
    exact .pure this

/-- a new box or row -/
theorem Rel.pushOb (h : Rel N X w0 μ0 G Cn T M a w) {s : Nat} (hρ : G.ρ s = none) {M' : List (Nat × Ob)} {ob : Ob} (hM : ∀ s', s' ≠ s → gt M' s' = gt M s') (hMs : gt M' s = some ob)
    {arr : Array Value} {el : TypeId} {es K : Nat}
    (hok : ObOk { G with ρ := fun s' => if s' = s then some (w.heap.size, 0, es, K) else G.ρ s' } { w with heap := w.heap.push (.cells arr el) } ob w.heap.size 0 es K) :
    Rel N X w0 μ0 { G with ρ := fun s' => if s' = s then some (w.heap.size, 0, es, K) else G.ρ s' } Cn T M' a { w with heap := w.heap.push (.cells arr el) } ∧
    Gh.le G { G with ρ := fun s' => if s' = s then some (w.heap.size, 0, es, K) else G.ρ s' } := by
  have hle : Gh.le G { G with ρ := fun s' => if s' = s then some (w.heap.size, 0, es, K) else G.ρ s' } :=
    ⟨fun _ _ _ h => h, fun s' x hx => by
      show (if s' = s then _ else G.ρ s') = some x
      rw [if_neg (fun e => by rw [e, hρ] at hx; cases hx)]; exact hx, fun _ _ h => h⟩
  have hg := h.grow (Grows.push w (.cells arr el))
  refine ⟨?_, hle⟩
  exact
  { keeps := hg.keeps
    dfr := hg.dfr
    old := hg.old
    sz := hg.sz
    mem := hg.mem
    tmps := fun t d hd => let ⟨v, h1, h2⟩ := hg.tmps t d hd; ⟨v, h1, h2.mono hle⟩
    obs := fun s' ob' b base es' K' hd hr => by
      by_cases e : s' = s
      · subst e
        rw [hMs] at hd; cases hd
        simp at hr
        obtain ⟨rfl, rfl, rfl, rfl⟩ := hr
        exact ⟨hok, .inl h.keeps.size, fun o => h.μ_new o⟩
      · rw [hM s' e] at hd
        simp only [if_neg e] at hr
        obtain ⟨h1, h2, h3⟩ := hg.obs s' ob' b base es' K' hd hr
        exact ⟨h1.same rfl hle, h2, h3⟩
    dead := fun s' hd => by
      by_cases e : s' = s
      · subst e; rw [hMs] at hd; cases hd
      · rw [hM s' e] at hd
        simp only [if_neg e]; exact h.dead s' hd
    apart := fun s1 s2 x y hne hx hy => by
      simp only at hx hy
      split at hx <;> split at hy
      · rename_i e1 e2; exact absurd (e1.trans e2.symm) hne
      · cases hx; have := h.ρ_lt hy; simp; omega
      · cases hy; have := h.ρ_lt hx; simp; omega
      · exact h.apart s1 s2 x y hne hx hy
    toks := fun s' b e top hs hτ => let ⟨h1, h2, h3⟩ := hg.toks s' b e top hs hτ; ⟨h1, h2, h3⟩
    tapart := h.tapart
    trapart := fun s1 s2 x y hs hx hy => by
      simp only at hx hy
      split at hy
      · cases hy; have := h.τ_lt hs hx; simp; omega
      · exact h.trapart s1 s2 x y hs hx hy }
end Go.YtnpoikgkhhpdgaaDoorE
