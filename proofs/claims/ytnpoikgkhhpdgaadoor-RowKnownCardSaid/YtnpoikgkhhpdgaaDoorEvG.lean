/-
  What is built: structs, arrays, slices; new blocks.
-/
import Derived.Test.YtnpoikgkhhpdgaaDoorEvF
namespace Go.YtnpoikgkhhpdgaaDoorE
variable {P : Program} {N : Nat} {X : Nat → Nat → Prop} {w0 : World} {μ0 : Mem} {G G' : Gh} {Cn : List Nat} {T : List (Nat × D)} {M : List (Nat × Ob)} {a : Act} {w w' : World}

theorem sls_sound {x d : D} {u : Value} (hx : Rep G x u) {lo hi : Option D} {lo' hi' : Option Value} (hlo : RepO G lo lo') (hhi : RepO G hi hi')
    {t : TypeId} (ht : P.underlying t = some .string) (h : slsD lo hi x = some d) : ∃ z, (Instr.sliceAt t u lo' hi' none).run P w = .ok z w ∧ Rep G d z := by
  cases x with
  | str s =>
    have := hx.str_inv; subst this
    simp only [slsD, Option.bind_eq_some_iff] at h
    obtain ⟨j, hj, i, hi2, he⟩ := h
    simp at he; subst he
    have e1 : (Instr.sliceAt t (.string s) lo' hi' none).run P w = (Instr.slice t (.string s) lo' hi' none).run P w := by simp [Instr.sliceAt, run_underlying ht]
    rw [e1]
    have hb : (Instr.sliceBounds false s.size s.size lo' hi' none).run P w = .ok (i, j, s.size) w := by
      cases hi with
      | none =>
        have := hhi.none_inv; subst this
        simp at hj; subst hj
        cases lo with
        | none => have := hlo.none_inv; subst this; simp at hi2; subst hi2; simp [Instr.sliceBounds]
        | some dl =>
          obtain ⟨ul, rfl, hul⟩ := hlo.some_inv
          obtain ⟨k, n, rfl, h0, h1, rfl⟩ := bnd_inv hi2
          have := hul.int_inv; subst this
          simp [Instr.sliceBounds, run_sliceBound (P := P) (w := w) (k := k) (i := n) (y := s.size) (by simpa using h0) h1]
      | some dh =>
        obtain ⟨uh, rfl, huh⟩ := hhi.some_inv
        obtain ⟨kh, nh, rfl, hh0, hh1, rfl⟩ := bnd_inv hj
        have := huh.int_inv; subst this
        cases lo with
        | none =>
          have := hlo.none_inv; subst this; simp at hi2; subst hi2
          simp [Instr.sliceBounds, run_sliceBound (P := P) (w := w) (k := kh) (i := nh) (y := s.size) (by simpa using hh0) hh1]
        | some dl =>
          obtain ⟨ul, rfl, hul⟩ := hlo.some_inv
          obtain ⟨k, n, rfl, h0, h1, rfl⟩ := bnd_inv hi2
          have := hul.int_inv; subst this
          simp [Instr.sliceBounds, run_sliceBound (P := P) (w := w) (k := kh) (i := nh) (y := s.size) (by simpa using hh0) hh1,
            run_sliceBound (P := P) (w := w) (k := k) (i := n) (y := nh.toNat) (by simpa using h0) h1]
    exact ⟨.string (s.extract i j), by simp [Instr.slice, run_underlying ht, hb], .pure (.str _)⟩
  | _ => simp [slsD] at h

/-! ### rows of cells that are filled -/
theorem foldl_set (l : List Value) (off : Nat) : ∀ (k : Nat) (cells : Array Value) (m : Nat), off + k + l.length ≤ cells.size →
    ((l.zipIdx k).foldl (fun cs (x : Value × Nat) => cs.setIfInBounds (off + x.2) x.1) cells)[m]? = (if off + k ≤ m ∧ m < off + k + l.length then l[m - (off + k)]? else cells[m]?) := by
  induction l with
  | nil => intro k cells m h; simp; intro h1 h2; omega
  | cons v r ih =>
    intro k cells m h
    simp only [List.zipIdx_cons, List.foldl_cons]
    rw [ih (k + 1) _ m (by simp at h ⊢; omega)]
    simp only [List.length_cons] at h ⊢
    by_cases h1 : off + (k + 1) ≤ m ∧ m < off + (k + 1) + r.length
    · rw [if_pos h1, if_pos (by omega)]
      rw [show m - (off + k) = (m - (off + (k + 1))) + 1 by omega]
      simp
    · rw [if_neg h1, Array.getElem?_setIfInBounds]
      by_cases h2 : off + k = m
      · subst h2
        rw [if_pos rfl, if_pos (by omega), if_pos (by omega)]
        simp
      · rw [if_neg h2, if_neg (by omega)]

theorem foldl_size (l : List Value) (off : Nat) : ∀ (k : Nat) (cells : Array Value), ((l.zipIdx k).foldl (fun cs (x : Value × Nat) => cs.setIfInBounds (off + x.2) x.1) cells).size = cells.size := by
  induction l with
  | nil => intro k cells; rfl
  | cons v r ih => intro k cells; simp only [List.zipIdx_cons, List.foldl_cons]; rw [ih]; simp

/-- a value's cells -/
theorem cells_rep {d : D} {v : Value} (r : Rep G d v) (hs : solid d = true) : v.cells.size = (cellsOf d).length ∧
    ∀ (j : Nat) (c : D), (cellsOf d)[j]? = some c → ∃ x, v.cells[j]? = some x ∧ Rep G c x ∧ (flatOf d = true → Rep0 G.μ c x ∧ single c = true) := by
  cases d with
  | agg f cs =>
    obtain ⟨vs, rfl, h1, h2⟩ := agg_cells r
    exact ⟨h1.symm, h2⟩
  | undef => simp [solid] at hs
  | tup vs => simp [solid] at hs
  | _ =>
    have ho : v.oneCell = true := r.oneCell rfl
    have hc : v.cells = #[v] := by cases v <;> first | rfl | (simp [Value.oneCell] at ho)
    rw [hc]
    refine ⟨rfl, fun j c hj => ?_⟩
    cases j with
    | succ j => simp [cellsOf] at hj
    | zero =>
      simp [cellsOf] at hj; subst hj
      refine ⟨v, rfl, r, fun hf => ?_⟩
      first
        | (exact ⟨r.of_plain rfl, rfl⟩)
        | (simp [flatOf, plain] at hf)

structure CellsRep (G : Gh) (cs : List D) (cells : Array Value) : Prop where
  len : cs.length = cells.size
  get : ∀ (j : Nat) (c : D), cs[j]? = some c → ∃ x, cells[j]? = some x ∧ Rep G c x

/-- the cells behind one part -/
theorem CellsRep.splice {z : List D} {cells : Array Value} (h : CellsRep G z cells) {d : D} {v : Value} (r : Rep G d v) (hs : solid d = true) {off : Nat} (hl : off + (cellsOf d).length ≤ z.length) :
    CellsRep G (z.take off ++ (cellsOf d ++ z.drop (off + (cellsOf d).length))) (v.cells.zipIdx.foldl (fun cs (x : Value × Nat) => cs.setIfInBounds (off + x.2) x.1) cells) := by
  obtain ⟨hc1, hc2⟩ := cells_rep r hs
  have hz := h.len
  have e : v.cells.zipIdx.foldl (fun cs (x : Value × Nat) => cs.setIfInBounds (off + x.2) x.1) cells =
      (v.cells.toList.zipIdx 0).foldl (fun cs (x : Value × Nat) => cs.setIfInBounds (off + x.2) x.1) cells := by
    rw [← Array.foldl_toList, Array.toList_zipIdx]
  rw [e]
  have hlen : v.cells.toList.length = (cellsOf d).length := by simpa using hc1
  refine ⟨by rw [foldl_size]; simp; omega, fun j c hj => ?_⟩
  rw [foldl_set _ _ 0 _ _ (by omega)]
  simp only [Nat.add_zero]
  rw [List.getElem?_append] at hj
  have ht : (z.take off).length = off := by simp; omega
  rw [ht] at hj
  split at hj
  · rename_i h1
    rw [if_neg (by omega)]
    rw [List.getElem?_take, if_pos h1] at hj
    exact h.get j c hj
  · rename_i h1
    rw [List.getElem?_append] at hj
    split at hj
    · rename_i h2
      rw [if_pos (by omega)]
      obtain ⟨x, h3, h4, _⟩ := hc2 _ c hj
      exact ⟨x, by simpa using h3, h4⟩
    · rename_i h2
      rw [if_neg (by omega)]
      rw [List.getElem?_drop] at hj
      rw [show off + (cellsOf d).length + (j - off - (cellsOf d).length) = j by omega] at hj
      exact h.get j c hj

/-- the parts of a literal: the places, and the values -/
inductive Parts (G : Gh) (place : Nat → Option (Nat × Nat)) : List (Nat × Value) → List (Nat × Nat × D) → Prop
  | nil : Parts G place [] []
  | cons {i off size : Nat} {v : Value} {d : D} {vs : List (Nat × Value)} {ds : List (Nat × Nat × D)} (hp : place i = some (off, size)) (hr : Rep G d v) (ht : Parts G place vs ds) :
      Parts G place ((i, v) :: vs) ((off, size, d) :: ds)

theorem fill_sound {place : Nat → Option (Nat × Nat)} {vs : List (Nat × Value)} {ds : List (Nat × Nat × D)} (hp : Parts G place vs ds) :
    ∀ {z cs : List D} {cells : Array Value}, CellsRep G z cells → bldA z ds = some cs → ∃ cells', Instr.fill place cells vs = some cells' ∧ CellsRep G cs cells' := by
  induction hp with
  | nil => intro z cs cells h hb; simp [bldA] at hb; subst hb; exact ⟨cells, rfl, h⟩
  | @cons i off size v d vs ds hpl hr ht ih =>
    intro z cs cells h hb
    simp only [bldA] at hb
    split at hb
    · rename_i h1 h2 h3
      have h1 : off + size ≤ z.length := Nat.le_of_ble_eq_true h1
      have h2 : (cellsOf d).length = size := Nat.eq_of_beq_eq_true h2
      subst h2
      have hsp := h.splice hr h3 h1
      obtain ⟨cells', h4, h5⟩ := ih hsp hb
      obtain ⟨hc1, _⟩ := cells_rep hr h3
      refine ⟨cells', ?_, h5⟩
      have hz := h.len
      simp only [Instr.fill, hpl]
      rw [if_neg (by simp; omega)]
      exact h4
    · cases hb

/-- a struct or an array is built -/
theorem build_rep {fl : Bool} {cs : List D} {cells : Array Value} (h : CellsRep G cs cells) (hf : fl = true → plainL cs = true) : Rep G (.agg fl cs) (.agg cells) := by
  cases fl with
  | false =>
    refine .agg h.len fun j c x hc hx => ?_
    obtain ⟨y, h1, h2⟩ := h.get j c hc
    rw [hx] at h1; cases h1; exact h2
  | true =>
    refine .pure (.agg h.len (singleL_get.2 fun j c hc => single_of_plain (plainL_get (hf rfl) hc)) fun j c x hc hx => ?_)
    obtain ⟨y, h1, h2⟩ := h.get j c hc
    rw [hx] at h1; cases h1
    exact h2.of_plain (plainL_get (hf rfl) hc)

/-! ### a slice's elements that are filled -/
structure ElemsRep (μ : Mem) (es : Nat) (l : List D) (cells : Array Value) : Prop where
  size : cells.size = l.length * es
  len : ∀ (i : Nat) (d : D), l[i]? = some d → (cellsOf d).length = es ∧ singleL (cellsOf d) = true
  get : ∀ (i : Nat) (d : D) (j : Nat) (c : D), l[i]? = some d → (cellsOf d)[j]? = some c → ∃ x, cells[i * es + j]? = some x ∧ Rep0 μ c x

theorem cells_rep0 {d : D} {v : Value} (r : Rep0 G.μ d v) (hs : solid d = true) : v.cells.size = (cellsOf d).length ∧
    ∀ (j : Nat) (c : D), (cellsOf d)[j]? = some c → ∃ x, v.cells[j]? = some x ∧ Rep0 G.μ c x := by
  cases d with
  | agg f cs =>
    cases r with
    | @agg _ _ vs hl hone hr =>
      refine ⟨hl.symm, fun j c hj => ?_⟩
      have hlt := (List.getElem?_eq_some_iff.1 hj).1
      have hlt' : j < vs.size := by simp [cellsOf] at hlt; omega
      exact ⟨vs[j], by simp [Value.cells, hlt'], hr j c vs[j] hj (by simp [hlt'])⟩
  | undef => simp [solid] at hs
  | tup vs => simp [solid] at hs
  | _ =>
    have ho : v.oneCell = true := r.oneCell rfl
    have hc : v.cells = #[v] := by cases v <;> first | rfl | (simp [Value.oneCell] at ho)
    rw [hc]
    refine ⟨rfl, fun j c hj => ?_⟩
    cases j with
    | succ j => simp [cellsOf] at hj
    | zero => simp [cellsOf] at hj; subst hj; exact ⟨v, rfl, r⟩

theorem solid_bare {d d' : D} (hs : solid d = true) (hb : bare d = some d') : solid d' = true := by
  cases d with
  | undef => simp [solid] at hs
  | tup vs => simp [solid] at hs
  | ptr s i o => simp [bare] at hb
  | view s i o => simp [bare] at hb
  | slc t es l => cases t <;> simp [bare] at hb <;> subst hb <;> rfl
  | agg f cs =>
    cases f with
    | true => simp [bare] at hb; subst hb; rfl
    | false =>
      simp only [bare, Option.bind_eq_some_iff] at hb
      obtain ⟨l, _, he⟩ := hb
      cases hsl : singleL l with
      | false => rw [hsl] at he; cases he
      | true => rw [hsl] at he; simp at he; subst he; rfl
  | fn f caps => cases caps <;> simp [bare] at hb; subst hb; rfl
  | _ => simp [bare] at hb; subst hb; rfl

theorem mul_lt_of {i n es j : Nat} (h : i < n) (hj : j < es) : i * es + j < n * es := by
  have : (i + 1) * es ≤ n * es := Nat.mul_le_mul_right _ h
  rw [Nat.add_mul] at this; omega

theorem elem_of {es : Nat} (hes : 0 < es) (m : Nat) : m = m / es * es + m % es ∧ m % es < es := by
  refine ⟨?_, Nat.mod_lt _ hes⟩
  have := Nat.div_add_mod m es
  rw [Nat.mul_comm] at this; omega

theorem singles_of {d : D} {v : Value} (r : Rep0 G.μ d v) (hs : solid d = true) : singleL (cellsOf d) = true := by
  cases d with
  | agg f cs => cases r with | agg hl h1 hr => exact h1
  | undef => cases hs
  | tup vs => cases hs
  | _ => rfl

theorem ElemsRep.splice {es : Nat} {l : List D} {cells : Array Value} (h : ElemsRep G.μ es l cells) {d : D} {v : Value} (r : Rep0 G.μ d v) (hs : solid d = true) (hd : (cellsOf d).length = es) {i : Nat} (hi : i < l.length) :
    ElemsRep G.μ es (l.set i d) (v.cells.zipIdx.foldl (fun cs (x : Value × Nat) => cs.setIfInBounds (i * es + x.2) x.1) cells) := by
  obtain ⟨hc1, hc2⟩ := cells_rep0 r hs
  have e : v.cells.zipIdx.foldl (fun cs (x : Value × Nat) => cs.setIfInBounds (i * es + x.2) x.1) cells =
      (v.cells.toList.zipIdx 0).foldl (fun cs (x : Value × Nat) => cs.setIfInBounds (i * es + x.2) x.1) cells := by
    rw [← Array.foldl_toList, Array.toList_zipIdx]
  rw [e]
  have hlen : v.cells.toList.length = es := by simpa [hd] using hc1
  have hroom : i * es + es ≤ cells.size := by
    rw [h.size]
    have : (i + 1) * es ≤ l.length * es := Nat.mul_le_mul_right _ hi
    rw [Nat.add_mul] at this; omega
  refine ⟨by rw [foldl_size, h.size]; simp, fun k d' hk => ?_, fun k d' j c hk hj => ?_⟩
  · rw [List.getElem?_set] at hk
    split at hk
    · simp at hk; subst hk; exact ⟨hd, singles_of r hs⟩
    · exact h.len _ _ hk
  · rw [foldl_set _ _ 0 _ _ (by omega)]
    simp only [Nat.add_zero]
    rw [List.getElem?_set] at hk
    have hjes : ∀ d'' : D, (cellsOf d'').length = es → (cellsOf d'')[j]? = some c → j < es := fun d'' h1 h2 => by rw [← h1]; exact (List.getElem?_eq_some_iff.1 h2).1
    split at hk
    · rename_i hik
      subst hik
      simp at hk
      subst hk
      have := hjes d hd hj
      rw [if_pos (by omega)]
      obtain ⟨x, h3, h4⟩ := hc2 j c hj
      exact ⟨x, by simpa using h3, h4⟩
    · rename_i hik
      have hjl := hjes d' (h.len _ _ hk).1 hj
      rw [if_neg]
      · exact h.get k d' j c hk hj
      · intro hcon
        have h1 : i * es ≤ k * es + j := hcon.1
        have h2 : k * es + j < i * es + es := by omega
        rcases Nat.lt_trichotomy i k with hlt | heq | hgt
        · have : (i + 1) * es ≤ k * es := Nat.mul_le_mul_right _ hlt
          rw [Nat.add_mul] at this; omega
        · exact hik heq
        · have : (k + 1) * es ≤ i * es := Nat.mul_le_mul_right _ hgt
          rw [Nat.add_mul] at this; omega

inductive PartsS (G : Gh) : List (Nat × Value) → List (Nat × D) → Prop
  | nil : PartsS G [] []
  | cons {i : Nat} {v : Value} {d : D} {vs : List (Nat × Value)} {ds : List (Nat × D)} (hr : Rep G d v) (ht : PartsS G vs ds) : PartsS G ((i, v) :: vs) ((i, d) :: ds)

theorem fillS_sound {es : Nat} {vs : List (Nat × Value)} {ds : List (Nat × D)} (hp : PartsS G vs ds) :
    ∀ {z l : List D} {cells : Array Value}, ElemsRep G.μ es z cells → bldS es z ds = some l →
      ∃ cells', Instr.fill (fun i => some (i * es, es)) cells vs = some cells' ∧ ElemsRep G.μ es l cells' := by
  induction hp with
  | nil => intro z l cells h hb; simp [bldS] at hb; subst hb; exact ⟨cells, rfl, h⟩
  | @cons i v d vs ds hr ht ih =>
    intro z l cells h hb
    simp only [bldS] at hb
    split at hb
    · rename_i h1 h2
      have h1 : i < z.length := Nat.le_of_ble_eq_true h1
      simp only [Option.bind_eq_some_iff] at hb
      obtain ⟨d', hd', hb⟩ := hb
      cases h3 : Nat.beq (cellsOf d').length es with
      | false => rw [h3] at hb; cases hb
      | true =>
        rw [h3] at hb
        have h3 : (cellsOf d').length = es := Nat.eq_of_beq_eq_true h3
        have hr0 := hr.bare hd'
        have hs0 := solid_bare h2 hd'
        have hsp := h.splice hr0 hs0 h3 h1
        obtain ⟨cells', h4, h5⟩ := ih hsp hb
        obtain ⟨hc1, _⟩ := cells_rep0 hr0 hs0
        refine ⟨cells', ?_, h5⟩
        have hroom : i * es + es ≤ cells.size := by
          rw [h.size]
          have : (i + 1) * es ≤ z.length * es := Nat.mul_le_mul_right _ h1
          rw [Nat.add_mul] at this; omega
        simp only [Instr.fill]
        rw [if_neg (by simp; omega)]
        exact h4
    · cases hb

/-- zeros -/
theorem zeros_rep {μ : Mem} {es : Nat} {z : D} {zv : Value} (r : Rep0 μ z zv) (hs : solid z = true) (hz : (cellsOf z).length = es) (n : Nat) :
    ElemsRep μ es (List.replicate n z) ((Array.range (n * es)).map (zv.cells[· % zv.cells.size]!)) := by
  obtain ⟨hc1, hc2⟩ := cells_rep0 (G := ⟨μ, fun _ => none, fun _ => none⟩) r hs
  refine ⟨by simp, fun i d hi => ?_, fun i d j c hi hj => ?_⟩
  · rw [List.getElem?_replicate] at hi
    split at hi
    · simp at hi; subst hi; exact ⟨hz, singles_of (G := ⟨μ, fun _ => none, fun _ => none⟩) r hs⟩
    · cases hi
  · rw [List.getElem?_replicate] at hi
    split at hi
    · rename_i hin
      simp at hi; subst hi
      have hjl : j < es := by rw [← hz]; exact (List.getElem?_eq_some_iff.1 hj).1
      obtain ⟨x, h1, h2⟩ := hc2 j c hj
      refine ⟨x, ?_, h2⟩
      have hlt := mul_lt_of hin hjl
      have hmod : (i * es + j) % zv.cells.size = j := by
        rw [hc1, hz, Nat.mul_comm, Nat.mul_add_mod, Nat.mod_eq_of_lt hjl]
      have hget : j < zv.cells.size := by omega
      simp only [Array.getElem?_map]
      rw [Array.getElem?_range, if_pos hlt]
      simp only [Option.map_some, hmod]
      rw [getElem!_pos zv.cells j hget]
      have := (Array.getElem?_eq_some_iff.1 h1).2
      rw [this]
    · cases hi
end Go.YtnpoikgkhhpdgaaDoorE
