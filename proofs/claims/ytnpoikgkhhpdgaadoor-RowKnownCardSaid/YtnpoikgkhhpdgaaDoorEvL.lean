/-
  Boxes and rows that are made; copy.
-/
import Derived.Test.YtnpoikgkhhpdgaaDoorEvK
namespace Go.YtnpoikgkhhpdgaaDoorE
variable {P : Program} {N : Nat} {X : Nat → Nat → Prop} {w0 : World} {μ0 : Mem} {G G' : Gh} {Cn : List Nat} {T : List (Nat × D)} {M : List (Nat × Ob)} {a : Act} {w w' : World}

theorem BoxOk.push {d : D} {v : Value} (r : Rep G d v) (hs : solid d = true) {el : TypeId} : BoxOk G { w with heap := w.heap.push (.cells v.cells el) } d w.heap.size 0 := by
  obtain ⟨h1, h2⟩ := cells_rep r hs
  exact ⟨v.cells, el, by simp, by omega, fun j c hj => by
    obtain ⟨x, h3, h4, h5⟩ := h2 j c hj
    exact ⟨x, by simpa using h3, h4, h5⟩⟩

theorem ρ_le {s : Nat} {x : Nat × Nat × Nat × Nat} (hρ : G.ρ s = none) : Gh.le G { G with ρ := fun s' => if s' = s then some x else G.ρ s' } :=
  ⟨fun _ _ _ h => h, fun s' y hy => by
    show (if s' = s then _ else G.ρ s') = some y
    rw [if_neg (fun e => by rw [e, hρ] at hy; cases hy)]; exact hy, fun _ _ h => h⟩

/-- a variable's box, made of a value -/
theorem box_sound (h : Rel N X w0 μ0 G Cn T M a w) {s : Nat} {d : D} {v : Value} (r : Rep G d v) (hs : solid d = true) (hM : gt M s = none) (t : TypeId) :
    ∃ z w' G', (Instr.box t v).run P w = .ok z w' ∧ Gh.le G G' ∧ G'.τ = G.τ ∧ Rep G' (.ptr s 0 0) z ∧ Rel N X w0 μ0 G' Cn T (st M s (.box d)) a w' := by
  have hρ := h.dead s hM
  obtain ⟨h1, hle⟩ := h.pushOb (M' := st M s (.box d)) (ob := .box d) (arr := v.cells) (el := t) (es := 0) (K := 0) hρ (fun s' hne => gt_st_other _ _ hne) (gt_st_same _ _ _) (by
    exact (BoxOk.push (w := w) (el := t) r hs).same rfl (ρ_le hρ))
  refine ⟨.pointer (some ⟨w.heap.size, 0, none⟩), _, _, by simp [Instr.box, newVar, newRow], hle, rfl, ?_, h1⟩
  have := Rep.ptr (G := { G with ρ := fun s' => if s' = s then some (w.heap.size, 0, 0, 0) else G.ρ s' }) (s := s) (i := 0) (o := 0) (b := w.heap.size) (base := 0) (es := 0) (K := 0) (by simp)
  simpa using this

/-- the box of a region's quiet part: its content is known already -/
theorem alloc_sound (h : Rel N X w0 μ0 G Cn T M a w) {s : Nat} {z : D} {zv : Value} (hz : Rep0 G.μ z zv) (hs : solid z = true) (hρ : G.ρ s = none) {M' : List (Nat × Ob)}
    (hM : ∀ s', s' ≠ s → gt M' s' = gt M s') (hMs : gt M' s = some (.box z)) {t : TypeId} {i : TypeInfo} (hi : P.info? t = some i) (hiz : i.zero = some zv) (old : Value) :
    ∃ v w' G', (Instr.alloc t true old).run P w = .ok v w' ∧ Gh.le G G' ∧ G'.τ = G.τ ∧ (∀ s', s' ≠ s → G'.ρ s' = G.ρ s') ∧ G'.μ = G.μ ∧ Grows w w' ∧ Rep G' (.ptr s 0 0) v ∧ Rel N X w0 μ0 G' Cn T M' a w' := by
  obtain ⟨h1, hle⟩ := h.pushOb (M' := M') (ob := .box z) (arr := zv.cells) (el := t) (es := 0) (K := 0) hρ hM hMs (by
    exact (BoxOk.push (G := G) (w := w) (el := t) (.pure hz) hs).same rfl (ρ_le hρ))
  refine ⟨.pointer (some ⟨w.heap.size, 0, none⟩), _, _, by simp [Instr.alloc, zeroValue, typeInfo, hi, hiz, newVar, newRow], hle, rfl, fun s' hne => by simp [hne], rfl, Grows.push w _, ?_, h1⟩
  have := Rep.ptr (G := { G with ρ := fun s' => if s' = s then some (w.heap.size, 0, 0, 0) else G.ρ s' }) (s := s) (i := 0) (o := 0) (b := w.heap.size) (base := 0) (es := 0) (K := 0) (by simp)
  simpa using this

theorem rowOf_eq (z : D) (n : Nat) : rowOf z n = List.replicate n z := by
  induction n with
  | zero => rfl
  | succ n ih => simp [rowOf, ih, List.replicate_succ]

theorem wrap_small {i : Int} (h0 : 0 ≤ i) (h1 : i ≤ 9223372036854775807) : IntKind.i64.wrap i = i := by
  have e1 : ((2 : Int) ^ IntKind.i64.bits) = 18446744073709551616 := by rfl
  have e2 : ((2 : Int) ^ (IntKind.i64.bits - 1)) = 9223372036854775808 := by rfl
  have e3 : i % 18446744073709551616 = i := Int.emod_eq_of_lt h0 (by omega)
  simp only [IntKind.wrap, e1, e2, e3]
  rw [if_neg]
  simp only [Bool.and_eq_true, decide_eq_true_eq, not_and]
  intro _; omega

/-- make([]T, n) -/
theorem mks_sound (h : Rel N X w0 μ0 G Cn T M a w) {s es bytes : Nat} {z : D} {zv : Value} {k k' : IntKind} {i : Int} (hi0 : 0 ≤ i) (hib : i * (bytes : Int) ≤ 281474976710656) (hi1 : i ≤ 9223372036854775807)
    (hM : gt M s = none) {t e : TypeId} {ie : TypeInfo} (ht : P.underlying t = some (.slice e)) (hie : P.info? e = some ie) (hs : ie.size = es) (hb : ie.bytes = bytes) (hz : ie.zero = some zv) (hzr : Rep0 G.μ z zv)
    (hzs : solid z = true) (hzl : (cellsOf z).length = es) :
    ∃ v w' G', (Instr.makeSlice t (.int k i) (.int k' i)).run P w = .ok v w' ∧ Gh.le G G' ∧ G'.τ = G.τ ∧ Rep G' (.view s 0 i.toNat) v ∧ Rel N X w0 μ0 G' Cn T (st M s (.row es (rowOf z i.toNat))) a w' := by
  have hρ := h.dead s hM
  have hw := wrap_small hi0 hi1
  have hzr' := zeros_rep hzr hzs hzl i.toNat
  rw [← rowOf_eq] at hzr'
  have hlen : (rowOf z i.toNat).length = i.toNat := by rw [rowOf_eq]; simp
  obtain ⟨h1, hle⟩ := h.pushOb (M' := st M s (.row es (rowOf z i.toNat))) (ob := .row es (rowOf z i.toNat)) (arr := (Array.range (i.toNat * es)).map (zv.cells[· % zv.cells.size]!)) (el := e) (es := es) (K := i.toNat) hρ
    (fun s' hne => gt_st_other _ _ hne) (gt_st_same _ _ _) (by
      refine ⟨rfl, hlen.symm, _, e, by simp; rfl, by rw [hlen]; simp, fun j d hj => ⟨hzr'.len j d hj, fun q c hq => ?_⟩⟩
      obtain ⟨x, h3, h4⟩ := hzr'.get j d q c hj hq
      exact ⟨x, by simpa using h3, h4⟩)
  refine ⟨.slice (some ⟨w.heap.size, 0, none⟩) i.toNat i.toNat, _, _, ?_, hle, rfl, ?_, h1⟩
  · subst hs; subst hb
    have htl : ¬ ((ie.bytes : Int) * i > 281474976710656) := by rw [Int.mul_comm]; omega
    have h2 : ¬ i < 0 := by omega
    by_cases h0 : i.toNat * ie.size = 0
    · have hr0 : Array.range 0 = #[] := rfl
      simp [Instr.makeSlice, run_underlying ht, asInt, asIntOf, typeInfo, hie, hw, h2, htl, sizeOf, h0, newRow, hr0]
    · simp [Instr.makeSlice, run_underlying ht, asInt, asIntOf, typeInfo, hie, hw, h2, htl, sizeOf, zeroValue, hz, h0, newRow]
  · exact .view (b := w.heap.size) (base := 0) (es := es) (K := i.toNat) (by simp) (by simp) (by simp) (.inr (by simp))
end Go.YtnpoikgkhhpdgaaDoorE
