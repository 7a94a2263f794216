/-
  A call, from its caller's side.
-/
import Derived.Test.YtnpoikgkhhpdgaaDoorEvP
namespace Go.YtnpoikgkhhpdgaaDoorE
variable {P : Program} {N : Nat} {X : Nat → Nat → Prop} {w0 : World} {μ0 : Mem} {G G' : Gh} {Cn Cn' : List Nat} {T : List (Nat × D)} {M : List (Nat × Ob)} {a : Act} {w w' : World}

theorem Keeps.trans' {X Y : Nat → Nat → Prop} {w0 w w' : World} (h : Keeps X w0 w) (k : Keeps Y w w') (hXY : ∀ b i, b < w0.heap.size → Y b i → X b i) : Keeps X w0 w' :=
  ⟨k.os.trans h.os, k.tape.trans h.tape, k.output.trans h.output, Nat.le_trans h.size k.size,
    fun b hb => (h.block b hb).trans ((k.block b (Nat.lt_of_lt_of_le hb h.size)).mono fun i => hXY b i hb)⟩

theorem lentOnce_get : ∀ (q : List (D × Nat × Nat × Bool × Nat)) (ss : List Nat), lentOnce q ss = true →
    (∀ (m : Nat) (e : D × Nat × Nat × Bool × Nat), q[m]? = some e → e.2.1 ∉ ss) ∧ ∀ (m m' : Nat) (e e' : D × Nat × Nat × Bool × Nat), q[m]? = some e → q[m']? = some e' → m ≠ m' → e.2.1 ≠ e'.2.1
  | [], ss, _ => ⟨fun m e he => by simp at he, fun m m' e e' he => by simp at he⟩
  | q :: r, ss, h => by
    simp only [lentOnce] at h
    split at h
    · cases h
    · rename_i hn
      obtain ⟨h1, h2⟩ := lentOnce_get r _ h
      refine ⟨fun m e he => ?_, fun m m' e e' he he' hne => ?_⟩
      · cases m with
        | zero => simp at he; subst he; exact has_not.1 hn
        | succ m => exact fun hm => h1 m e (by simpa using he) (List.mem_cons_of_mem _ hm)
      · cases m with
        | zero =>
          simp at he; subst he
          cases m' with
          | zero => exact absurd rfl hne
          | succ m' => exact fun hq => h1 m' e' (by simpa using he') (by rw [← hq]; exact List.mem_cons_self ..)
        | succ m =>
          cases m' with
          | zero => simp at he'; subst he'; exact fun hq => h1 m e (by simpa using he) (by rw [hq]; exact List.mem_cons_self ..)
          | succ m' => exact h2 m m' e e' (by simpa using he) (by simpa using he') (fun h => hne (by omega))

theorem back_get : ∀ (q : List (D × Nat × Nat × Bool × Nat)) (outs : List D) (M M' : List (Nat × Ob)), back M q outs = some M' →
    (∀ (m m' : Nat) (e e' : D × Nat × Nat × Bool × Nat), q[m]? = some e → q[m']? = some e' → m ≠ m' → e.2.1 ≠ e'.2.1) →
    (∀ s, (∀ (m : Nat) (e : D × Nat × Nat × Bool × Nat), q[m]? = some e → e.2.1 ≠ s) → gt M' s = gt M s) ∧
    ∀ (m : Nat) (e : D × Nat × Nat × Bool × Nat), q[m]? = some e → ∃ c c' d', gt M e.2.1 = some (.box c) ∧ outs[m]? = some d' ∧ writeD e.2.2.2.1 e.2.2.2.2 e.2.2.1 c d' = some c' ∧ gt M' e.2.1 = some (.box c')
  | [], outs, M, M', h, _ => by
    cases outs with
    | nil => simp [back] at h; subst h; exact ⟨fun _ _ => rfl, fun m e he => by simp at he⟩
    | cons d r => simp [back] at h
  | (x, s0, o, ag, n) :: r, outs, M, M', h, hd => by
    cases outs with
    | nil => simp [back] at h
    | cons d outs =>
      simp only [back] at h
      split at h
      · rename_i c hM
        simp only [Option.bind_eq_some_iff] at h
        obtain ⟨c', h1, h2⟩ := h
        obtain ⟨h3, h4⟩ := back_get r outs _ _ h2 (fun m m' e e' he he' hne => hd (m + 1) (m' + 1) e e' (by simpa using he) (by simpa using he') (fun h => hne (by omega)))
        have hne0 : ∀ (m : Nat) (e : D × Nat × Nat × Bool × Nat), r[m]? = some e → e.2.1 ≠ s0 := fun m e he => fun hq => hd (m + 1) 0 e (x, s0, o, ag, n) (by simpa using he) rfl (by omega) hq
        refine ⟨fun s hs => ?_, fun m e he => ?_⟩
        · rw [h3 s (fun m e he => hs (m + 1) e (by simpa using he))]
          exact gt_st_other _ _ (Ne.symm (hs 0 _ rfl))
        · cases m with
          | zero =>
            simp at he; subst he
            exact ⟨c, c', d, hM, rfl, h1, by rw [h3 s0 hne0]; exact gt_st_same _ _ _⟩
          | succ m =>
            obtain ⟨c1, c1', d1, h5, h6, h7, h8⟩ := h4 m e (by simpa using he)
            rw [gt_st_other _ _ (hne0 m e (by simpa using he))] at h5
            exact ⟨c1, c1', d1, h5, by simpa using h6, h7, h8⟩
      · cases h

theorem writeD_shape {ag : Bool} {n o : Nat} {c d c' : D} (h : writeD ag n o c d = some c') : (∃ fx xs, d = .agg fx xs) ∨ single d = true := by
  have hA : ∀ {cs cs' : List D}, writeA ag n o cs d = some cs' → (∃ fx xs, d = .agg fx xs) ∨ single d = true := by
    intro cs cs' h
    unfold writeA at h
    cases ag with
    | true =>
      simp only [Option.bind_eq_some_iff] at h
      obtain ⟨xs, hx, _⟩ := h
      obtain ⟨fx, h1, _⟩ := aggCells_inv hx
      exact .inl ⟨fx, xs, h1⟩
    | false =>
      simp only at h
      cases hs : single d with
      | true => exact .inr rfl
      | false => rw [hs] at h; simp at h
  cases c with
  | agg f cs =>
    simp only [writeD] at h
    split at h
    · simp only [Option.bind_eq_some_iff] at h
      obtain ⟨cs', h1, _⟩ := h
      exact hA h1
    · cases h
  | _ => exact .inr (write1_inv (by simpa only [writeD] using h)).2.1

theorem boxVal {d : D} {b base : Nat} (h : BoxOk G w d b base) (hs : (∃ fx xs, d = .agg fx xs) ∨ single d = true) :
    ∃ v arr el, w.heap[b]? = some (.cells arr el (0, 0)) ∧ base + (cellsOf d).length ≤ arr.size ∧ Rep G d v ∧ v.cells.size = (cellsOf d).length ∧ ∀ (j : Nat) (x : Value), v.cells[j]? = some x → arr[base + j]? = some x := by
  obtain ⟨arr, el, h1, h2, h3⟩ := h
  rcases hs with ⟨fx, xs, rfl⟩ | hs
  · simp only [cellsOf] at h2 h3 ⊢
    have hget : ∀ (j : Nat) (c : D) (x : Value), xs[j]? = some c → (arr.extract base (base + xs.length))[j]? = some x → Rep G c x ∧ (fx = true → Rep0 G.μ c x ∧ single c = true) := by
      intro j c x hc hx
      obtain ⟨y, h4, h5, h6⟩ := h3 j c hc
      rw [Array.getElem?_extract] at hx
      split at hx
      · rw [h4] at hx; cases hx; exact ⟨h5, h6⟩
      · cases hx
    refine ⟨.agg (arr.extract base (base + xs.length)), arr, el, h1, h2, ?_, by simp [Value.cells]; omega, fun j x hx => ?_⟩
    · cases fx with
      | true =>
        refine .pure (.agg (by simp; omega) (singleL_get.2 fun j c hc => ?_) fun j c x hc hx => ((hget j c x hc hx).2 rfl).1)
        obtain ⟨y, h4, h5, h6⟩ := h3 j c hc
        exact (h6 rfl).2
      | false => exact .agg (by simp; omega) fun j c x hc hx => (hget j c x hc hx).1
    · simp only [Value.cells] at hx
      rw [Array.getElem?_extract] at hx
      split at hx
      · exact hx
      · cases hx
  · rw [single_cells hs] at h2 h3 ⊢
    obtain ⟨x, h4, h5, h6⟩ := h3 0 d rfl
    refine ⟨x, arr, el, h1, h2, h5, by rw [one_cells (h5.oneCell hs)]; rfl, fun j y hy => ?_⟩
    rw [one_cells (h5.oneCell hs)] at hy
    cases j with
    | zero => simp at hy; subst hy; simpa using h4
    | succ j => simp at hy

theorem dry_cells {d : D} (h : dry d = true) {j : Nat} {c : D} (hj : (cellsOf d)[j]? = some c) : dry c = true := by
  cases d with
  | agg f cs =>
    simp only [cellsOf] at hj
    cases f with
    | true => exact dryL_get (dryL_of_plainL (by simpa [dry] using h)) hj
    | false => exact dryL_get (by simpa [dry] using h) hj
  | _ =>
    simp only [cellsOf] at hj
    cases j with
    | zero => simp at hj; subst hj; exact h
    | succ j => simp at hj

theorem qcall_call {Φ : Tab} {run : Run} {f : Nat} {ds : List D} {s : Nat} {d : D} (h : qcallD Φ run M f ds s = some d) : callD Φ run M f ds s = some (d, M) := by
  simp only [qcallD, Option.bind_eq_some_iff] at h
  obtain ⟨fn, h1, ⟨xs, q⟩, h2, h3⟩ := h
  cases q with
  | cons e r => simp at h3
  | nil =>
    simp only [Option.bind_eq_some_iff] at h3
    obtain ⟨⟨r, outs⟩, h4, h5⟩ := h3
    cases outs with
    | cons o os => simp at h5
    | nil =>
      simp only at h5
      simp only [callD, Option.bind_eq_some_iff]
      refine ⟨fn, h1, (xs, []), h2, ?_⟩
      simp only [lentOnce, List.map_nil, Option.bind_eq_some_iff]
      refine ⟨(r, []), h4, ?_⟩
      cases hb : dryB ds r [] with
      | false => rw [hb] at h5; cases h5
      | true =>
        rw [hb] at h5
        simp [back] at h5 ⊢; exact h5

theorem callD_sound (h : Rel N X w0 μ0 G Cn T M a w) {Φ : Tab} {run : Run} (hrun : RunOk P run) {f : Nat} {ds : List D} {s : Nat} {d : D} {M' : List (Nat × Ob)} (hc : callD Φ run M f ds s = some (d, M')) {vals : Array Value}
    (hl : ds.length = vals.size) (hv : ∀ (k : Nat) (d : D) (v : Value), ds[k]? = some d → vals[k]? = some v → Rep G d v) (hs : ∀ t, s ≤ t → t < s + 16 → G.τ t = none) :
    Calls P f vals w fun e w' => ∃ v G', e = .returned v ∧ Gh.le G G' ∧ G'.ρ = G.ρ ∧ (∀ t, ¬ (s ≤ t ∧ t < s + 16) → G'.τ t = G.τ t) ∧ Rep G' d v ∧ Rel N X w0 μ0 G' Cn T M' a w' := by
  simp only [callD, Option.bind_eq_some_iff] at hc
  obtain ⟨fn, _, ⟨xs, q⟩, hq, hc⟩ := hc
  cases hlo : lentOnce q [] with
  | false => simp only [hlo] at hc; cases hc
  | true =>
  simp only [hlo, Option.bind_eq_some_iff] at hc
  obtain ⟨⟨r, outs⟩, hr, hc⟩ := hc
  cases hdry : dryB ds r outs with
  | false => simp only [hdry] at hc; cases hc
  | true =>
  simp only [hdry, Option.bind_eq_some_iff] at hc
  obtain ⟨M1, hb, hc⟩ := hc
  simp at hc; obtain ⟨rfl, rfl⟩ := hc
  -- the memory that goes in
  obtain ⟨μc, hμc, hsee⟩ : ∃ μc, (μc = G.μ ∨ μc = frz M G w) ∧ (seesL ds = true → μc = frz M G w) ∧ (seesL ds = false → μc = G.μ) := by
    cases hsd : seesL ds with
    | true => exact ⟨_, .inr rfl, fun _ => rfl, fun h => by cases h⟩
    | false => exact ⟨_, .inl rfl, (fun h => by cases h), fun _ => rfl⟩
  have hle : Mem.le G.μ μc := by rcases hμc with rfl | rfl; exact Mem.le_refl _; exact frz_le M G w
  have hst : Stands μc w := by rcases hμc with rfl | rfl; exact h.mem; exact frz_stands h
  obtain ⟨hx1, hx2, hx3⟩ := prepL_sound h hle ds fn.ps 0 xs q vals.toList hq hsee.1 (by simpa using hl) (fun k d v hd hv' => hv k d v hd (by simpa using hv'))
  obtain ⟨_, hdist⟩ := lentOnce_get q [] hlo
  obtain ⟨hbk1, hbk2⟩ := back_get q outs M M1 hb hdist
  -- blocks of boxes and rows
  have hR : ∀ t x, G.ρ t = some x → (∀ o, G.μ x.1 o = none) ∧ x.1 < w.heap.size := by
    intro t x hx
    refine ⟨fun o => ?_, h.ρ_lt hx⟩
    obtain ⟨b, base, es, K⟩ := x
    cases hM : gt M t with
    | none => rw [h.dead t hM] at hx; cases hx
    | some ob => exact (h.obs t ob b base es K hM hx).2.2 o
  have hμn : ∀ b o, (∀ t x, G.ρ t = some x → x.1 ≠ b) → μc b o = G.μ b o := by
    intro b o hb
    rcases hμc with rfl | rfl
    · rfl
    · cases hg : G.μ b o with
      | some y => exact frz_le M G w _ _ _ hg
      | none =>
        refine frz_none hg ?_
        rintro ⟨t, es, l, base, es', K, _, hρ, _, _⟩
        exact hb t _ hρ rfl
  have hent : ∀ (m : Nat) (e : D × Nat × Nat × Bool × Nat), q[m]? = some e → ∃ c y fl b base es K, gt M e.2.1 = some (.box c) ∧ readD e.2.2.2.1 fl e.2.2.2.2 e.2.2.1 c = some y ∧ bare y = some e.1 ∧ G.ρ e.2.1 = some (b, base, es, K) ∧
      entBl G q m = b ∧ entBase G q m = base + e.2.2.1 := by
    intro m e he
    obtain ⟨c, y, fl, h1, h2, h3, ⟨b, base, es, K⟩, h4⟩ := hx3 m e he
    exact ⟨c, y, fl, b, base, es, K, h1, h2, h3, h4, by simp [entBl, he, h4], by simp [entBase, he, h4]⟩
  have hblne : ∀ m m', m < q.length → m' < q.length → m ≠ m' → entBl G q m ≠ entBl G q m' := by
    intro m m' hm hm' hne
    obtain ⟨c, y, fl, b, base, es, K, h1, h2, h3, h4, h5, h6⟩ := hent m q[m] (by simp)
    obtain ⟨c', y', fl', b', base', es', K', h1', h2', h3', h4', h5', h6'⟩ := hent m' q[m'] (by simp)
    rw [h5, h5']
    exact h.apart _ _ _ _ (hdist m m' _ _ (by simp) (by simp) hne) h4 h4'
  have hin : CallIn μc w xs (q.map (·.1)) vals (entBl G q) (entBase G q) := by
    refine ⟨hst, by simpa using hx1, fun k x v hxk hvk => ?_, fun m x hm => ?_, fun m m' hm hm' hne => hblne m m' (by simpa using hm) (by simpa using hm') hne⟩
    · rcases hx2 k x v hxk (by simpa using hvk) with h0 | ⟨m, e, b, base, es, K, h1, h2, h3, h4⟩
      · exact .pure h0
      · have hm : m < q.length := (List.getElem?_eq_some_iff.1 h1).1
        rw [h2, h4]
        have : (lentGh μc (entBl G q) (entBase G q) (q.map (·.1)).length).ρ (1000 + (0 + m)) = some (b, base + e.2.2.1, 0, 0) := by
          simp only [lentGh, List.length_map]
          rw [if_pos ⟨by omega, by omega⟩]
          rw [show 1000 + (0 + m) - 1000 = m by omega]
          simp [entBl, entBase, h1, h3]
        have := Rep.ptr (i := 0) (o := 0) this
        simpa using this
    · rw [List.getElem?_map] at hm
      cases he : q[m]? with
      | none => simp [he] at hm
      | some e =>
        simp [he] at hm; subst hm
        obtain ⟨c, y, fl, b, base, es, K, h1, h2, h3, h4, h5, h6⟩ := hent m e he
        obtain ⟨⟨arr, el, h7, h8, h9⟩, _, h10⟩ := h.obs _ _ _ _ _ _ h1 h4
        obtain ⟨h11, _, h12⟩ := readAt_bare (G := G) (Y := fun j => arr[base + j]?) (fun j c hj => h9 j c hj) h2 h3
        rw [h5, h6]
        refine ⟨⟨arr, el, h7, by omega, fun j c hj => ?_⟩, fun o => ?_⟩
        · obtain ⟨v, h13, h14, h15⟩ := h12 j c hj
          rw [← Nat.add_assoc] at h13
          exact ⟨v, h13, .pure (h14.mono hle), fun _ => ⟨h14.mono hle, h15⟩⟩
        · rcases hμc with rfl | rfl
          · exact h10 o
          · refine frz_none (h10 o) ?_
            rintro ⟨t, es2, l, base2, es2', K2, hM2, hρ2, _, _⟩
            have hne : t ≠ e.2.1 := fun he2 => by rw [he2, h1] at hM2; cases hM2
            exact h.apart _ _ _ _ hne hρ2 h4 rfl
  refine Calls.mono (hrun f xs (q.map (·.1)) r outs hr μc w vals _ _ hin) ?_
  rintro e w' ⟨v, μ', τ', rfl, O⟩
  -- behind the call
  let μ2 : Mem := fun b o => open Classical in if (∃ t x, G.ρ t = some x ∧ x.1 = b) then none else μ' b o
  let τ2 : Nat → Option (Nat × Nat × Nat) := fun t => if s ≤ t ∧ t < s + 16 then τ' (t - s) else G.τ t
  have hμ2n : ∀ t x, G.ρ t = some x → ∀ o, μ2 x.1 o = none := fun t x hx o => if_pos ⟨t, x, hx, rfl⟩
  have hμ2e : ∀ b o, (∀ t x, G.ρ t = some x → x.1 ≠ b) → μ2 b o = μ' b o := fun b o hb => if_neg (by rintro ⟨t, x, h1, h2⟩; exact hb t x h1 h2)
  have hμ2i : ∀ {b o y}, μ2 b o = some y → μ' b o = some y ∧ ∀ t x, G.ρ t = some x → x.1 ≠ b := by
    intro b o y hy
    have hn : ¬ ∃ t x, G.ρ t = some x ∧ x.1 = b := fun hcon => by simp only [μ2, if_pos hcon] at hy; cases hy
    refine ⟨by simpa only [μ2, if_neg hn] using hy, fun t x hx he => hn ⟨t, x, hx, he⟩⟩
  have hμle : Mem.le G.μ μ2 := by
    intro b o x hx
    have hb : ∀ t y, G.ρ t = some y → y.1 ≠ b := fun t y hy he => by have := (hR t y hy).1 o; rw [he, hx] at this; cases this
    rw [hμ2e b o hb]
    exact O.le _ _ _ (hle _ _ _ hx)
  have hτ2 : ∀ t, ¬ (s ≤ t ∧ t < s + 16) → τ2 t = G.τ t := fun t ht => if_neg ht
  have hGle : Gh.le G ⟨μ2, G.ρ, τ2⟩ := ⟨hμle, fun _ _ hx => hx, fun t x hx => by
    by_cases ht : s ≤ t ∧ t < s + 16
    · rw [hs t ht.1 ht.2] at hx; cases hx
    · exact (hτ2 t ht).trans hx⟩
  have hmv : (dry r = true ∧ dryL outs = true) ∨ Mem.le μ' μ2 := by
    cases hsd : seesL ds with
    | true => simp [dryB, hsd] at hdry; exact .inl hdry
    | false =>
      right
      intro b o x hx
      have hb : ∀ t y, G.ρ t = some y → y.1 ≠ b := fun t y hy he => by
        have h1 := hR t y hy
        have h2 := O.old b o (by rw [← he]; exact h1.2)
        rw [hx, hsee.2 hsd, ← he, h1.1 o] at h2; cases h2
      rw [hμ2e b o hb]; exact hx
  have hval : Rep ⟨μ2, G.ρ, τ2⟩ (tak s r) v := by
    have h1 : Rep ⟨μ2, fun _ => none, τ'⟩ r v := by
      rcases hmv with hm | hm
      · exact O.val.dry rfl hm.1
      · have hh : Gh.le ⟨μ', fun _ => none, τ'⟩ ⟨μ2, fun _ => none, τ'⟩ := ⟨hm, fun _ _ h => h, fun _ _ h => h⟩
        exact Rep.mono hh O.val
    refine Rep.tak rfl rfl (fun j x hx => ?_) h1
    have hj : j < 16 := Classical.byContradiction fun hj => by rw [O.few j (by omega)] at hx; cases hx
    show (if s ≤ s + j ∧ s + j < s + 16 then τ' (s + j - s) else G.τ (s + j)) = some x
    rw [if_pos ⟨by omega, by omega⟩, show s + j - s = j by omega]; exact hx
  have hlent : ∀ b i, lentX (q.map (·.1)) (entBl G q) (entBase G q) b i → ∃ (m : Nat) (e : D × Nat × Nat × Bool × Nat) (c : D) (base es K : Nat), q[m]? = some e ∧ gt M e.2.1 = some (.box c) ∧ G.ρ e.2.1 = some (b, base, es, K) ∧
      base + e.2.2.1 ≤ i ∧ i < base + e.2.2.1 + (cellsOf e.1).length ∧ e.2.2.1 + (cellsOf e.1).length ≤ (cellsOf c).length ∧ (cellsOf e.1).length = (if e.2.2.2.1 then e.2.2.2.2 else 1) := by
    rintro b i ⟨m, x, hm, rfl, h1, h2⟩
    rw [List.getElem?_map] at hm
    cases he : q[m]? with
    | none => simp [he] at hm
    | some e =>
      simp [he] at hm; subst hm
      obtain ⟨c, y, fl, b, base, es, K, k1, k2, k3, k4, k5, k6⟩ := hent m e he
      obtain ⟨⟨arr, el, h7, h8, h9⟩, _, h10⟩ := h.obs _ _ _ _ _ _ k1 k4
      obtain ⟨h11, h13, h12⟩ := readAt_bare (G := G) (Y := fun j => arr[base + j]?) (fun j c hj => h9 j c hj) k2 k3
      exact ⟨m, e, c, base, es, K, he, k1, by rw [k5]; exact k4, by omega, by omega, h11, h13⟩
  have hsame : ∀ b, b < w.heap.size → (∀ (m : Nat) (e : D × Nat × Nat × Bool × Nat) (x : Nat × Nat × Nat × Nat), q[m]? = some e → G.ρ e.2.1 = some x → x.1 ≠ b) → w'.heap[b]? = w.heap[b]? := by
    intro b hb hn
    refine (O.keeps.block b hb).eq_of_none fun i hi => ?_
    obtain ⟨m, e, c, base, es, K, h1, _, h3, _⟩ := hlent b i hi
    exact hn m e _ h1 h3 rfl
  have houts : ∀ (m : Nat) (d' : D), outs[m]? = some d' → BoxOk ⟨μ2, G.ρ, τ2⟩ w' d' (entBl G q m) (entBase G q m) := by
    intro m d' hd'
    obtain ⟨arr, el, h1, h2, h3⟩ := O.outs.2 m d' hd'
    refine ⟨arr, el, h1, h2, fun j c hj => ?_⟩
    obtain ⟨x, h4, h5, h6⟩ := h3 j c hj
    rcases hmv with hm | hm
    · have hdc := dry_cells (dryL_get hm.2 hd') hj
      have hh : Gh.le ⟨μ2, fun _ => none, fun _ => none⟩ ⟨μ2, G.ρ, τ2⟩ := ⟨fun _ _ _ h => h, (fun _ _ h => by simp at h), (fun _ _ h => by simp at h)⟩
      exact ⟨x, h4, Rep.mono hh (h5.dry rfl hdc), fun hf => ⟨((h6 hf).1).dry hdc, (h6 hf).2⟩⟩
    · have hh : Gh.le ⟨μ', fun _ => none, fun _ => none⟩ ⟨μ2, G.ρ, τ2⟩ := ⟨hm, (fun _ _ h => by simp at h), (fun _ _ h => by simp at h)⟩
      exact ⟨x, h4, Rep.mono hh h5, fun hf => ⟨((h6 hf).1).mono hm, (h6 hf).2⟩⟩
  refine ⟨v, ⟨μ2, G.ρ, τ2⟩, rfl, hGle, rfl, hτ2, hval, ?_⟩
  exact {
    keeps := h.keeps.trans' O.keeps fun b i hb hx => by
      obtain ⟨m, e, c, base, es, K, h1, h2, h3, h4, h5, h6, _⟩ := hlent b i hx
      rcases (h.obs _ _ _ _ _ _ h2 h3).2.1 with hm | hm
      · omega
      · have := hm (i - base) (by simp only [obSize]; omega)
        rwa [show base + (i - base) = i by omega] at this
    dfr := h.dfr
    old := fun b o hb => by
      by_cases hn : ∃ t x, G.ρ t = some x ∧ x.1 = b
      · obtain ⟨t, x, hx, rfl⟩ := hn
        show μ2 x.1 o = _
        rw [hμ2n t x hx o, ← h.old _ o hb, (hR t x hx).1 o]
      · have hb' : ∀ t x, G.ρ t = some x → x.1 ≠ b := fun t x hx he => hn ⟨t, x, hx, he⟩
        show μ2 b o = _
        rw [hμ2e b o hb', O.old b o (Nat.lt_of_lt_of_le hb h.keeps.size), hμn b o hb', h.old b o hb]
    sz := h.sz
    mem := fun b o x hx => O.stands b o x (hμ2i hx).1
    tmps := fun t d' hg => by
      obtain ⟨v', h1, h2⟩ := h.tmps t d' hg
      exact ⟨v', h1, h2.mono hGle⟩
    obs := fun t ob b base es K hg hρ => by
      have hρ' : G.ρ t = some (b, base, es, K) := hρ
      by_cases hn : ∃ (m : Nat) (e : D × Nat × Nat × Bool × Nat), q[m]? = some e ∧ e.2.1 = t
      · obtain ⟨m, e, he, rfl⟩ := hn
        obtain ⟨c, c', d', h1, h2, h3, h4⟩ := hbk2 m e he
        rw [h4] at hg; cases hg
        obtain ⟨c0, y, fl, b0, base0, es0, K0, k1, k2, k3, k4, k5, k6⟩ := hent m e he
        rw [h1] at k1; cases k1
        rw [hρ'] at k4; cases k4
        obtain ⟨⟨arr, el, h7, h8, h9⟩, hmay, _⟩ := h.obs _ _ _ _ _ _ h1 hρ'
        obtain ⟨_, hlen, _⟩ := readAt_bare (G := G) (Y := fun j => arr[base + j]?) (fun j c hj => h9 j c hj) k2 k3
        have hbox := houts m d' h2
        rw [k5, k6] at hbox
        obtain ⟨v', arr', el', g1, g2, g3, g4, g5⟩ := boxVal hbox (writeD_shape h3)
        obtain ⟨W, hag, hnag, hfl⟩ := writeD_sound h3 (CellR.rep ⟨μ2, G.ρ, τ2⟩) g3
        have hsz : v'.cells.size = (cellsOf e.1).length := by
          rw [hlen]
          cases hage : e.2.2.2.1 with
          | true => simpa using hag hage
          | false => simpa using hnag hage
        have hkeep : arr'.size = arr.size ∧ ∀ i, ¬ (base + e.2.2.1 ≤ i ∧ i < base + e.2.2.1 + v'.cells.size) → arr'[i]? = arr[i]? := by
          rcases O.keeps.block b (lt_of_heap h7) with hk | ⟨a0, a1, el1, fz, q1, q2, q3, q4⟩
          · rw [g1, h7] at hk; simp at hk; rw [hk.1]; exact ⟨rfl, fun _ _ => rfl⟩
          · rw [h7] at q1; simp at q1; obtain ⟨rfl, rfl, rfl⟩ := q1
            rw [g1] at q2; simp at q2; obtain ⟨rfl, rfl⟩ := q2
            refine ⟨q3, fun i hi => q4 i fun hx => hi ?_⟩
            obtain ⟨m2, e2, c2, base2, es2, K2, r1, r2, r3, r4, r5, _, _⟩ := hlent b i hx
            have hm : e2.2.1 = e.2.1 := Classical.byContradiction fun hne => h.apart _ _ _ _ hne r3 hρ' rfl
            have hmm : m2 = m := Classical.byContradiction fun hne => hdist m2 m e2 e r1 he hne hm
            subst hmm
            rw [he] at r1; cases r1
            rw [hρ'] at r3; cases r3
            rw [hsz]; exact ⟨r4, r5⟩
        refine ⟨⟨arr', el', g1, by rw [W.len, hkeep.1]; exact h8, fun j c2 hj => ?_⟩, by simpa only [obSize, W.len] using hmay, fun o => hμ2n _ _ hρ' o⟩
        rcases W.get j c2 hj with ⟨u1, u2⟩ | ⟨u1, x, u2, u3, u4, u5⟩
        · obtain ⟨x, u6, u7, u8⟩ := h9 j c2 u2
          refine ⟨x, by rw [hkeep.2 _ (by omega)]; exact u6, u7.mono hGle, fun hf => ?_⟩
          rcases hfl hf with hfc | hno
          · exact ⟨(u8 hfc).1.mono hμle, (u8 hfc).2⟩
          · rw [hno j u1] at u2; cases u2
        · refine ⟨x, ?_, u3, u5⟩
          have := g5 (j - e.2.2.1) x u2
          rwa [show base + e.2.2.1 + (j - e.2.2.1) = base + j by omega] at this
      · have hne : ∀ (m : Nat) (e : D × Nat × Nat × Bool × Nat), q[m]? = some e → e.2.1 ≠ t := fun m e he hq => hn ⟨m, e, he, hq⟩
        rw [hbk1 t hne] at hg
        obtain ⟨h1, h2, h3⟩ := h.obs t ob b base es K hg hρ'
        obtain ⟨arr, el, hh⟩ := h1.heap
        refine ⟨h1.same (hsame b (lt_of_heap hh) fun m e x he hx => ?_) hGle, h2, fun o => hμ2n _ _ hρ' o⟩
        exact h.apart _ _ _ _ (hne m e he) hx hρ'
    dead := fun t hg => by
      have hne : ∀ (m : Nat) (e : D × Nat × Nat × Bool × Nat), q[m]? = some e → e.2.1 ≠ t := fun m e he hq => by
        obtain ⟨c, c', d', _, _, _, h4⟩ := hbk2 m e he
        rw [hq, hg] at h4; cases h4
      rw [hbk1 t hne] at hg
      exact h.dead t hg
    apart := h.apart
    toks := fun t b e top hCn hτ => by
      by_cases ht : s ≤ t ∧ t < s + 16
      · have hτ' : τ' (t - s) = some (b, e, top) := by
          have : τ2 t = some (b, e, top) := hτ
          simp only [τ2, if_pos ht] at this; exact this
        obtain ⟨h1, h2, h3⟩ := O.toks _ _ _ _ hτ'
        refine ⟨Nat.le_trans h.keeps.size h1, h2, fun o ho => ?_⟩
        show μ2 b o = none
        rw [hμ2e b o (fun t x hx he => by have := (hR t x hx).2; omega)]
        exact h3 o ho
      · have hτ' : G.τ t = some (b, e, top) := (hτ2 t ht).symm.trans hτ
        obtain ⟨h1, ⟨arr, el, h2, h3⟩, h4⟩ := h.toks t b e top hCn hτ'
        have hb : ∀ t' x, G.ρ t' = some x → x.1 ≠ b := fun t' x hx he => h.trapart t t' _ _ hCn hτ' hx he.symm
        refine ⟨h1, ⟨arr, el, (hsame b (lt_of_heap h2) fun m e x he hx => hb _ _ hx).trans h2, h3⟩, fun o ho => ?_⟩
        show μ2 b o = none
        rw [hμ2e b o hb, O.old b o (lt_of_heap h2), hμn b o hb]
        exact h4 o ho
    tapart := fun t t' x x' hC hC' hne hτ hτ' => by
      have hτ : τ2 t = some x := hτ
      have hτ' : τ2 t' = some x' := hτ'
      by_cases ht : s ≤ t ∧ t < s + 16 <;> by_cases ht' : s ≤ t' ∧ t' < s + 16
      · simp only [τ2, if_pos ht] at hτ
        simp only [τ2, if_pos ht'] at hτ'
        exact O.tapart _ _ _ _ (by omega) hτ hτ'
      · simp only [τ2, if_pos ht] at hτ
        rw [hτ2 t' ht'] at hτ'
        obtain ⟨b, e, top⟩ := x
        have h1 := (O.toks _ _ _ _ hτ).own
        have h2 := h.τ_lt hC' hτ'
        intro he; simp only at he; omega
      · simp only [τ2, if_pos ht'] at hτ'
        rw [hτ2 t ht] at hτ
        obtain ⟨b, e, top⟩ := x'
        have h1 := (O.toks _ _ _ _ hτ').own
        have h2 := h.τ_lt hC hτ
        intro he; simp only at he; omega
      · rw [hτ2 t ht] at hτ
        rw [hτ2 t' ht'] at hτ'
        exact h.tapart t t' x x' hC hC' hne hτ hτ'
    trapart := fun t t' x y hC hτ hρ => by
      have hτ : τ2 t = some x := hτ
      have hρ : G.ρ t' = some y := hρ
      by_cases ht : s ≤ t ∧ t < s + 16
      · simp only [τ2, if_pos ht] at hτ
        obtain ⟨b, e, top⟩ := x
        have h1 := (O.toks _ _ _ _ hτ).own
        have h2 := h.ρ_lt hρ
        intro he; simp only at he; omega
      · rw [hτ2 t ht] at hτ
        exact h.trapart t t' x y hC hτ hρ }
end Go.YtnpoikgkhhpdgaaDoorE
