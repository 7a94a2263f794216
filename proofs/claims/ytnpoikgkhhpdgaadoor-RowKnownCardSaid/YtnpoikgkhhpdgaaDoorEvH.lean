/-
  What writes: stores, new boxes, new rows.
-/
import Derived.Test.YtnpoikgkhhpdgaaDoorEvG
namespace Go.YtnpoikgkhhpdgaaDoorE
variable {P : Program} {N : Nat} {X : Nat → Nat → Prop} {w0 : World} {μ0 : Mem} {G G' : Gh} {Cn : List Nat} {T : List (Nat × D)} {M : List (Nat × Ob)} {a : Act} {w w' : World}

theorem oneCell_iff (v : Value) : v.oneCell' = v.oneCell := by cases v <;> rfl

/-- an object is written in place -/
theorem Rel.write (h : Rel N X w0 μ0 G Cn T M a w) {s b base es K : Nat} {ob ob' : Ob} {arr arr' : Array Value} {el : TypeId} (hM : gt M s = some ob) (hρ : G.ρ s = some (b, base, es, K))
    (hh : w.heap[b]? = some (.cells arr el (0, 0))) (hsz : arr'.size = arr.size) (hout : ∀ i, ¬ (base ≤ i ∧ i < base + obSize ob) → arr'[i]? = arr[i]?)
    (hsize : obSize ob' = obSize ob) (hok : ObOk G (w.setRow b arr') ob' b base es K) : Rel N X w0 μ0 G Cn T (st M s ob') a (w.setRow b arr') where
  keeps := by
    have k := h.keeps
    refine ⟨k.os, k.tape, k.output, by simpa [World.setRow] using k.size, fun i hi => ?_⟩
    by_cases e : i = b
    · subst e
      refine (k.block i hi).trans (.inr ⟨arr, arr', el, (0, 0), hh, setRow_heap w i arr arr' el _ hh, hsz, fun j hj => ?_⟩)
      refine hout j fun hcon => hj ?_
      have hm := (h.obs s ob i base es K hM hρ).2.1
      rcases hm with hm | hm
      · omega
      · have := hm (j - base) (by omega)
        rwa [show base + (j - base) = j by omega] at this
    · rw [setRow_other w b i arr' e]; exact k.block i hi
  dfr := h.dfr
  old := h.old
  sz := h.sz
  mem b' o x hx := by
    have h1 := h.mem b' o x hx
    have hne : b' ≠ b := fun e => by
      have := (h.obs s ob b base es K hM hρ).2.2 o
      rw [e, this] at hx; cases hx
    rw [cell_same (setRow_other w b b' arr' hne)]; exact h1
  tmps := h.tmps
  obs s' ob'' b' base' es' K' hg hρ' := by
    by_cases e : s' = s
    · subst e
      rw [gt_st_same] at hg; cases hg
      rw [hρ] at hρ'; cases hρ'
      obtain ⟨h1, h2, h3⟩ := h.obs s' ob b base es K hM hρ
      exact ⟨hok, by rw [hsize]; exact h2, h3⟩
    · rw [gt_st_other _ _ e] at hg
      obtain ⟨h1, h2, h3⟩ := h.obs s' ob'' b' base' es' K' hg hρ'
      have hne : b' ≠ b := h.apart s' s _ _ e hρ' hρ
      exact ⟨h1.same (setRow_other w b b' arr' hne) (Gh.le_refl _), h2, h3⟩
  dead s' hg := by
    by_cases e : s' = s
    · subst e; rw [gt_st_same] at hg; cases hg
    · rw [gt_st_other _ _ e] at hg; exact h.dead s' hg
  apart := h.apart
  toks s' b' e top h1 h2 := by
    obtain ⟨h3, ⟨arr2, el2, h4, h5⟩, h6⟩ := h.toks s' b' e top h1 h2
    have hne : b' ≠ b := h.trapart s' s _ _ h1 h2 hρ
    exact ⟨h3, ⟨arr2, el2, (setRow_other w b b' arr' hne).trans h4, h5⟩, h6⟩
  tapart := h.tapart
  trapart := h.trapart

theorem seg_get (l vs : List Value) (o : Nat) (hl : o + vs.length ≤ l.length) (j : Nat) :
    (l.take o ++ vs ++ l.drop (o + vs.length))[j]? = if j < o then l[j]? else if j < o + vs.length then vs[j - o]? else l[j]? := by
  rw [List.append_assoc, List.getElem?_append]
  have ht : (l.take o).length = o := by simp; omega
  rw [ht]
  split
  · rename_i h; rw [List.getElem?_take, if_pos h]
  · rename_i h
    rw [List.getElem?_append]
    split
    · rename_i h2; rw [if_pos (by omega)]
    · rename_i h2
      rw [if_neg (by omega), List.getElem?_drop]
      congr 1; omega

theorem one_cells {v : Value} (h : v.oneCell = true) : v.cells = #[v] := by cases v <;> first | rfl | (simp [Value.oneCell] at h)

/-- a way in which values stand for data, cell by cell -/
structure CellR (μ : Mem) (R : D → Value → Prop) : Prop where
  one : ∀ d v, R d v → single d = true → v.oneCell = true
  agg : ∀ f cs v, R (.agg f cs) v → ∃ vs, v = .agg vs ∧ cs.length = vs.size ∧ ∀ (j : Nat) (c : D), cs[j]? = some c → ∃ x, vs[j]? = some x ∧ R c x ∧ (f = true → Rep0 μ c x ∧ single c = true)
  pln : ∀ d v, R d v → plain d = true → Rep0 μ d v
theorem CellR.rep (G : Gh) : CellR G.μ (Rep G) := ⟨fun _ _ r h => r.oneCell h, fun _ _ _ r => agg_cells r, fun _ _ r h => r.of_plain h⟩
theorem CellR.rep0 (μ : Mem) : CellR μ (Rep0 μ) := ⟨fun _ _ r h => r.oneCell h, fun f cs v r => by
  cases r with
  | @agg _ _ vs hl h1 hr =>
    refine ⟨vs, rfl, hl, fun j c hj => ?_⟩
    have hlt := (List.getElem?_eq_some_iff.1 hj).1
    exact ⟨vs[j], by simp, hr j c vs[j] hj (by simp), fun _ => ⟨hr j c vs[j] hj (by simp), singleL_get.1 h1 j c hj⟩⟩, fun _ _ r _ => r⟩

/-- what is written, cell by cell -/
structure Wrote (μ : Mem) (R : D → Value → Prop) (o : Nat) (cs cs' : List D) (f : Bool) (vs : Array Value) : Prop where
  len : cs'.length = cs.length
  fits : o + vs.size ≤ cs.length
  one : ∀ x ∈ vs.toList, x.oneCell' = true
  get : ∀ (j : Nat) (e : D), cs'[j]? = some e → (¬ (o ≤ j ∧ j < o + vs.size) ∧ cs[j]? = some e) ∨
    ((o ≤ j ∧ j < o + vs.size) ∧ ∃ x, vs[j - o]? = some x ∧ R e x ∧ single e = true ∧ (f = true → Rep0 μ e x ∧ single e = true))

theorem aggCells_inv {n : Nat} {d : D} {xs : List D} (h : aggCells n d = some xs) : ∃ fx, d = .agg fx xs ∧ xs.length = n ∧ (fx = false → singleL xs = true) := by
  cases d with
  | agg fx ys =>
    simp only [aggCells] at h
    cases hb : Nat.beq ys.length n with
    | false => rw [hb] at h; simp at h
    | true =>
      rw [hb] at h
      cases fx with
      | true => simp at h; subst h; exact ⟨true, rfl, Nat.eq_of_beq_eq_true hb, fun h => by cases h⟩
      | false =>
        cases hs : singleL ys with
        | false => rw [hs] at h; simp at h
        | true => rw [hs] at h; simp at h; subst h; exact ⟨false, rfl, Nat.eq_of_beq_eq_true hb, fun _ => hs⟩
  | _ => simp [aggCells] at h

theorem writeA_sound {ag : Bool} {n o : Nat} {cs cs' : List D} {d : D} {f : Bool} (h : writeA ag n o cs d = some cs') (hf : mayFlat f d = true) {μ : Mem} {R : D → Value → Prop} (HR : CellR μ R) {v : Value} (r : R d v) :
    Wrote μ R o cs cs' f v.cells ∧ (ag = true → v.cells.size = n) ∧ (ag = false → v.cells.size = 1) := by
  unfold writeA at h
  cases ag with
  | true =>
    simp only [Option.bind_eq_some_iff] at h
    obtain ⟨xs, hx, h⟩ := h
    obtain ⟨fx, rfl, hn, hsl⟩ := aggCells_inv hx
    cases hb : Nat.ble (o + n) cs.length with
    | false => rw [hb] at h; cases h
    | true =>
      rw [hb] at h; simp at h; subst h
      have hle : o + n ≤ cs.length := Nat.le_of_ble_eq_true hb
      obtain ⟨vs, rfl, h1, h2⟩ := HR.agg _ _ _ r
      have hvs : vs.size = n := by omega
      refine ⟨⟨by simp; omega, by simp [Value.cells]; omega, ?_, ?_⟩, fun _ => hvs, fun h => by cases h⟩
      · intro x hx
        obtain ⟨j, hj⟩ := List.getElem?_of_mem hx
        have hj : vs[j]? = some x := by simpa [Value.cells] using hj
        have hlt : j < xs.length := by have := (Array.getElem?_eq_some_iff.1 hj).1; omega
        obtain ⟨y, h3, h4, h5⟩ := h2 j xs[j] (by rw [List.getElem?_eq_getElem])
        rw [hj] at h3; cases h3
        rw [oneCell_iff]
        cases fx with
        | true => exact HR.one _ _ h4 (h5 rfl).2
        | false => exact HR.one _ _ h4 (singleL_get.1 (hsl rfl) j _ (by rw [List.getElem?_eq_getElem]))
      · intro j e hj
        simp only [Value.cells]
        rw [List.getElem?_append] at hj
        have ht : (cs.take o).length = o := by simp; omega
        rw [ht] at hj
        split at hj
        · rename_i hjo
          left
          rw [List.getElem?_take, if_pos hjo] at hj
          exact ⟨by omega, hj⟩
        · rename_i hjo
          rw [List.getElem?_append] at hj
          split at hj
          · rename_i hjx
            right
            obtain ⟨y, h3, h4, h5⟩ := h2 _ e hj
            refine ⟨by omega, y, h3, h4, ?_, fun hft => ?_⟩
            · cases fx with
              | true => exact (h5 rfl).2
              | false => exact singleL_get.1 (hsl rfl) _ _ hj
            · subst hft
              exact h5 (by simpa [mayFlat, flatOf] using hf)
          · rename_i hjx
            left
            rw [List.getElem?_drop] at hj
            rw [show o + n + (j - o - xs.length) = j by omega] at hj
            exact ⟨by omega, hj⟩
  | false =>
    simp only at h
    cases hs : single d with
    | false => rw [hs] at h; simp at h
    | true =>
      cases hb : Nat.blt o cs.length with
      | false => rw [hs, hb] at h; simp at h
      | true =>
        rw [hs, hb] at h; simp at h; subst h
        have hlt : o < cs.length := Nat.le_of_ble_eq_true hb
        have ho : v.oneCell = true := HR.one _ _ r hs
        rw [one_cells ho]
        refine ⟨⟨by simp, by simp; omega, ?_, ?_⟩, (fun h => by cases h), fun _ => rfl⟩
        · intro x hx
          simp at hx; subst hx
          rw [oneCell_iff]; exact ho
        · intro j e hj
          rw [List.getElem?_set] at hj
          split at hj
          · rename_i hoj
            subst hoj
            simp at hj; subst hj
            right
            refine ⟨by simp, v, by simp, r, hs, fun hft => ?_⟩
            subst hft
            have hf : flatOf d = true := hf
            cases d with
            | agg f cs => simp [single] at hs
            | _ => first | exact ⟨HR.pln _ _ r hf, hs⟩ | (simp [flatOf, plain] at hf)
          · rename_i hoj
            left
            exact ⟨by simp; omega, hj⟩

theorem write1_inv {ag : Bool} {o : Nat} {c d c' : D} (h : write1 ag o c d = some c') : single c = true ∧ single d = true ∧ ag = false ∧ o = 0 ∧ c' = d := by
  unfold write1 at h
  cases h1 : single c with
  | false => rw [h1] at h; simp at h
  | true =>
    cases h2 : single d with
    | false => rw [h1, h2] at h; simp at h
    | true =>
      cases ag with
      | true => rw [h1, h2] at h; simp at h
      | false =>
        cases o with
        | succ o => rw [h1, h2] at h; simp at h
        | zero => rw [h1, h2] at h; simp at h; exact ⟨rfl, rfl, rfl, rfl, h.symm⟩

theorem single_cells {d : D} (h : single d = true) : cellsOf d = [d] := by cases d <;> first | rfl | (simp [single] at h)

theorem writeD_sound {ag : Bool} {n o : Nat} {c d c' : D} (h : writeD ag n o c d = some c') {μ : Mem} {R : D → Value → Prop} (HR : CellR μ R) {v : Value} (r : R d v) :
    Wrote μ R o (cellsOf c) (cellsOf c') (flatOf c') v.cells ∧ (ag = true → v.cells.size = n) ∧ (ag = false → v.cells.size = 1) ∧
    (flatOf c' = true → flatOf c = true ∨ ∀ j, ¬ (o ≤ j ∧ j < o + v.cells.size) → (cellsOf c)[j]? = none) := by
  have one : write1 ag o c d = some c' → Wrote μ R o (cellsOf c) (cellsOf c') (flatOf c') v.cells ∧ (ag = true → v.cells.size = n) ∧ (ag = false → v.cells.size = 1) ∧
      (flatOf c' = true → flatOf c = true ∨ ∀ j, ¬ (o ≤ j ∧ j < o + v.cells.size) → (cellsOf c)[j]? = none) := by
    intro h
    obtain ⟨hs1, hs2, rfl, rfl, rfl⟩ := write1_inv h
    have ho : v.oneCell = true := HR.one _ _ r hs2
    rw [one_cells ho, single_cells hs1, single_cells hs2]
    refine ⟨⟨rfl, by simp, ?_, ?_⟩, (fun h => by cases h), fun _ => rfl, fun _ => .inr fun j hj => ?_⟩
    · intro x hx
      simp at hx; subst hx
      rw [oneCell_iff]; exact ho
    · intro j e hj
      cases j with
      | succ j => simp at hj
      | zero =>
        simp at hj; subst hj
        right
        refine ⟨by simp, v, by simp, r, hs2, fun hf => ⟨HR.pln _ _ r ?_, hs2⟩⟩
        cases c' with
        | agg f cs => simp [single] at hs2
        | _ => exact hf
    · cases j with
      | zero => simp at hj
      | succ j => simp
  cases c with
  | agg f cs =>
    simp only [writeD] at h
    cases hm : mayFlat f d with
    | false => rw [hm] at h; cases h
    | true =>
      rw [hm] at h
      simp only [Option.bind_eq_some_iff] at h
      obtain ⟨cs', h1, h2⟩ := h
      simp at h2; subst h2
      obtain ⟨h3, h4, h5⟩ := writeA_sound h1 hm HR r
      exact ⟨h3, h4, h5, fun hf => .inl hf⟩
  | _ => exact one h

theorem run_storeVar' {t : TypeId} {n b o : Nat} {v : Value} {arr : Array Value} {el : TypeId} (hs : tSize P t = some n) (hn : v.cells.size = n) (hh : w.heap[b]? = some (.cells arr el (0, 0)))
    (hfit : o + v.cells.size ≤ arr.size) (h1 : ∀ x ∈ v.cells.toList, x.oneCell' = true) :
    (Instr.storeAt t (.pointer (some ⟨b, o, none⟩)) v).run P w = .ok () (w.setRow b (arr.toList.take o ++ v.cells.toList ++ arr.toList.drop (o + v.cells.size)).toArray) := by
  have := run_storeCells_at P b o el v.cells.toList 0 arr w hh (by simpa using hfit) h1
  simp only [Nat.add_zero, Array.length_toList] at this
  simp [Instr.storeAt, Instr.sureAddr, storeVar, run_sizeOf' hs, hn, this]

/-- a store -/
theorem store_sound (h : Rel N X w0 μ0 G Cn T M a w) {ag : Bool} {n : Nat} {da d : D} {va v : Value} {t : TypeId} (ra : Rep G da va) (r : Rep G d v) (hs : tSize P t = some n) (h1 : ag = false → n = 1)
    {M' : List (Nat × Ob)}
    (hl : storeD M Cn ag n da d = some (.undef, M', Cn)) :
    ∃ w', (Instr.storeAt t va v).run P w = .ok () w' ∧ Rel N X w0 μ0 G Cn T M' a w' := by
  unfold storeD at hl
  cases da with
  | ptr s i o =>
    cases ra with
    | pure ra => cases ra
    | @ptr _ _ _ b base es K e =>
      simp only at hl
      cases hM : gt M s with
      | none => rw [hM] at hl; cases hl
      | some ob =>
        rw [hM] at hl
        obtain ⟨hob, hmay, hμ⟩ := h.obs s ob b base es K hM e
        cases ob with
        | box c =>
          cases i with
          | succ i => simp at hl
          | zero =>
            simp only [Option.bind_eq_some_iff] at hl
            obtain ⟨c', hc', he⟩ := hl
            simp at he; subst he
            obtain ⟨hw, ha, hb, hfl⟩ := writeD_sound hc' (.rep G) r
            obtain ⟨arr, el, hh, hroom0, hcells⟩ := hob
            have hvn : v.cells.size = n := by
              cases ag with
              | true => exact ha rfl
              | false => rw [hb rfl, h1 rfl]
            have hfits := hw.fits
            have hroom : base + o + v.cells.size ≤ arr.size := by omega
            refine ⟨_, by rw [show base + (0 * es + o) = base + o by omega]; exact run_storeVar' hs hvn hh hroom hw.one, ?_⟩
            refine h.write hM e hh (by simp; omega) (fun j hj => ?_) hw.len ⟨_, el, setRow_heap w b arr _ el _ hh, by simp [hw.len]; omega, fun j c0 hj => ?_⟩
            · simp only [List.getElem?_toArray]
              rw [← Array.length_toList] at hroom
              have := seg_get arr.toList v.cells.toList (base + o) (by simpa using hroom) j
              simp only [Array.length_toList] at this
              rw [this]
              simp only [obSize] at hj
              split
              · simp
              · rw [if_neg (by omega)]; simp
            · have hseg := seg_get arr.toList v.cells.toList (base + o) (by simpa using hroom) (base + j)
              simp only [Array.length_toList] at hseg
              simp only [List.getElem?_toArray]
              rw [hseg]
              rcases hw.get j c0 hj with ⟨h2, h3⟩ | ⟨h2, x, h3, h4, _, h5⟩
              · obtain ⟨x, h4, h5, h6⟩ := hcells j c0 h3
                refine ⟨x, ?_, h5, fun hf => ?_⟩
                · split
                  · simpa using h4
                  · rw [if_neg (by omega)]; simpa using h4
                · rcases hfl hf with h7 | h7
                  · exact h6 h7
                  · rw [h7 j h2] at h3; cases h3
              · refine ⟨x, ?_, h4, h5⟩
                rw [if_neg (by omega), if_pos (by omega)]
                rw [show base + j - (base + o) = j - o by omega]
                simpa using h3
        | row es' l =>
          simp only [Option.bind_eq_some_iff] at hl
          obtain ⟨c, hi, d', hd', c', hc', he⟩ := hl
          simp at he; subst he
          obtain ⟨hw, ha, hb, hfl⟩ := writeD_sound hc' (.rep0 G.μ) (r.bare hd')
          obtain ⟨hes, hK, arr, el, hh, hroom0, hcells⟩ := hob
          subst hes
          have hvn : v.cells.size = n := by
            cases ag with
            | true => exact ha rfl
            | false => rw [hb rfl, h1 rfl]
          have hil : i < l.length := (List.getElem?_eq_some_iff.1 hi).1
          have hc := (hcells i c hi).1
          have hfits := hw.fits
          have hseg0 : (i + 1) * es' ≤ l.length * es' := Nat.mul_le_mul_right _ hil
          rw [Nat.add_mul, Nat.one_mul] at hseg0
          have hroom : base + (i * es' + o) + v.cells.size ≤ arr.size := by omega
          refine ⟨_, run_storeVar' hs hvn hh hroom hw.one, ?_⟩
          refine h.write hM e hh (by simp; omega) (fun j hj => ?_) (by simp [obSize]) ⟨rfl, by simp [hK], _, el, setRow_heap w b arr _ el _ hh, by simp; omega, fun k c0 hk => ?_⟩
          · simp only [List.getElem?_toArray]
            have := seg_get arr.toList v.cells.toList (base + (i * es' + o)) (by simpa using hroom) j
            simp only [Array.length_toList] at this
            rw [this]
            simp only [obSize] at hj
            split
            · simp
            · rw [if_neg (by omega)]; simp
          · rw [List.getElem?_set] at hk
            split at hk
            · rename_i hik
              subst hik
              simp at hk; subst hk
              have hone : singleL (cellsOf c') = true := by
                rw [singleL_get]
                intro j e' hj
                rcases hw.get j e' hj with ⟨h2, h3⟩ | ⟨h2, x, h3, h4, h5, _⟩
                · exact singleL_get.1 hc.2 j e' h3
                · exact h5
              refine ⟨⟨by rw [hw.len]; exact hc.1, hone⟩, fun j e' hj => ?_⟩
              have hseg := seg_get arr.toList v.cells.toList (base + (i * es' + o)) (by simpa using hroom) (base + (i * es' + j))
              simp only [Array.length_toList] at hseg
              simp only [List.getElem?_toArray]
              rw [hseg]
              rcases hw.get j e' hj with ⟨h2, h3⟩ | ⟨h2, x, h3, h4, h5⟩
              · obtain ⟨x, h4, h5⟩ := (hcells i c hi).2 j e' h3
                refine ⟨x, ?_, h5⟩
                split
                · simpa using h4
                · rw [if_neg (by omega)]; simpa using h4
              · refine ⟨x, ?_, h4⟩
                rw [if_neg (by omega), if_pos (by omega)]
                rw [show base + (i * es' + j) - (base + (i * es' + o)) = j - o by omega]
                simpa using h3
            · rename_i hik
              refine ⟨(hcells k c0 hk).1, fun j e' hj => ?_⟩
              obtain ⟨x, h4, h5⟩ := (hcells k c0 hk).2 j e' hj
              refine ⟨x, ?_, h5⟩
              have hjl : j < es' := by rw [← (hcells k c0 hk).1.1]; exact (List.getElem?_eq_some_iff.1 hj).1
              have hseg := seg_get arr.toList v.cells.toList (base + (i * es' + o)) (by simpa using hroom) (base + (k * es' + j))
              simp only [Array.length_toList] at hseg
              simp only [List.getElem?_toArray]
              rw [hseg]
              have hfc : o + v.cells.size ≤ es' := by rw [← hc.1]; exact hfits
              rcases Nat.lt_trichotomy i k with hlt | heq | hgt
              · have : (i + 1) * es' ≤ k * es' := Nat.mul_le_mul_right _ hlt
                rw [Nat.add_mul, Nat.one_mul] at this
                rw [if_neg (by omega), if_neg (by omega)]; simpa using h4
              · exact absurd heq hik
              · have : (k + 1) * es' ≤ i * es' := Nat.mul_le_mul_right _ hgt
                rw [Nat.add_mul, Nat.one_mul] at this
                rw [if_pos (by omega)]; simpa using h4
  | _ => simp at hl
end Go.YtnpoikgkhhpdgaaDoorE
