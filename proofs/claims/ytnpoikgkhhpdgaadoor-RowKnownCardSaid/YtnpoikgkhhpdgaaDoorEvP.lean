/-
  Calls: what a run of a function says about the model's calls, and the caller's side.
-/
import Derived.Test.YtnpoikgkhhpdgaaDoorEvO
namespace Go.YtnpoikgkhhpdgaaDoorE
variable {P : Program} {N : Nat} {X : Nat → Nat → Prop} {w0 : World} {μ0 : Mem} {G G' : Gh} {Cn Cn' : List Nat} {T : List (Nat × D)} {M : List (Nat × Ob)} {a : Act} {w w' : World}

/-- what a callee knows: no more than its memory and the boxes that it borrows -/
def lentGh (μ : Mem) (bl base : Nat → Nat) (nb : Nat) : Gh :=
  ⟨μ, fun s => if 1000 ≤ s ∧ s < 1000 + nb then some (bl (s - 1000), base (s - 1000), 0, 0) else none, fun _ => none⟩
def lentX (bs : List D) (bl base : Nat → Nat) (b i : Nat) : Prop := ∃ (j : Nat) (d : D), bs[j]? = some d ∧ b = bl j ∧ base j ≤ i ∧ i < base j + (cellsOf d).length

structure CallIn (μ : Mem) (w : World) (args bs : List D) (vals : Array Value) (bl base : Nat → Nat) : Prop where
  stands : Stands μ w
  len : args.length = vals.size
  vals : ∀ (j : Nat) (d : D) (v : Value), args[j]? = some d → vals[j]? = some v → Rep (lentGh μ bl base bs.length) d v
  box : ∀ (j : Nat) (d : D), bs[j]? = some d → BoxOk (lentGh μ bl base bs.length) w d (bl j) (base j) ∧ ∀ o, μ (bl j) o = none
  apart : ∀ j j', j < bs.length → j' < bs.length → j ≠ j' → bl j ≠ bl j'

structure CallOut (μ : Mem) (w : World) (bs : List D) (bl base : Nat → Nat) (r : D) (outs : List D) (v : Value) (w' : World) (μ' : Mem) (τ' : Nat → Option (Nat × Nat × Nat)) : Prop where
  le : Mem.le μ μ'
  old : ∀ b o, b < w.heap.size → μ' b o = μ b o
  stands : Stands μ' w'
  keeps : Keeps (lentX bs bl base) w w'
  val : Rep ⟨μ', fun _ => none, τ'⟩ r v
  toks : ∀ s b e top, τ' s = some (b, e, top) → TkOk w.heap.size ⟨μ', fun _ => none, τ'⟩ w' b e top
  tapart : ∀ s s' x x', s ≠ s' → τ' s = some x → τ' s' = some x' → x.1 ≠ x'.1
  few : ∀ s, 16 ≤ s → τ' s = none
  outs : outs.length = bs.length ∧ ∀ (j : Nat) (d : D), outs[j]? = some d → BoxOk ⟨μ', fun _ => none, fun _ => none⟩ w' d (bl j) (base j)

/-- a call of 'f' -/
def CallSem (P : Program) (f : FuncId) (args bs : List D) (r : D) (outs : List D) : Prop :=
  ∀ (μ : Mem) (w : World) (vals : Array Value) (bl base : Nat → Nat), CallIn μ w args bs vals bl base →
    Calls P f vals w fun e w' => ∃ v μ' τ', e = .returned v ∧ CallOut μ w bs bl base r outs v w' μ' τ'
def RunOk (P : Program) (run : Run) : Prop := ∀ f args bs r outs, run f args bs = some (r, outs) → CallSem P f args bs r outs

/-! ### what depends on no memory -/
theorem plainL_get' {cs : List D} (h : plainL cs = true) {j : Nat} {c : D} (hj : cs[j]? = some c) : plain c = true := by
  induction cs generalizing j with
  | nil => simp at hj
  | cons d r ih =>
    simp only [plainL] at h
    split at h
    · rename_i hd
      cases j with
      | zero => simp at hj; subst hj; exact hd
      | succ j => exact ih h (by simpa using hj)
    · cases h
theorem dryL_get {cs : List D} (h : dryL cs = true) {j : Nat} {c : D} (hj : cs[j]? = some c) : dry c = true := by
  induction cs generalizing j with
  | nil => simp at hj
  | cons d r ih =>
    simp only [dryL] at h
    split at h
    · rename_i hd
      cases j with
      | zero => simp at hj; subst hj; exact hd
      | succ j => exact ih h (by simpa using hj)
    · cases h
theorem plain_dry {d : D} (h : plain d = true) : dry d = true := by cases d <;> first | rfl | (simp [plain] at h)
theorem dryL_of_plainL {cs : List D} (h : plainL cs = true) : dryL cs = true := by
  induction cs with
  | nil => rfl
  | cons d r ih =>
    simp only [plainL] at h
    split at h
    · rename_i hd
      simp only [dryL, plain_dry hd]
      exact ih h
    · cases h
theorem Rep0.dry {μ μ' : Mem} {d : D} {v : Value} (r : Rep0 μ d v) : dry d = true → Rep0 μ' d v := by
  induction r with
  | bool b => intro _; exact .bool b
  | int k n => intro _; exact .int k n
  | str s => intro _; exact .str s
  | nilp => intro _; exact .nilp
  | nilf => intro _; exact .nilf
  | fn f => intro _; exact .fn f
  | slcNil ht => intro _; exact .slcNil ht
  | @slc t es l b off cap X ht hc hs hm hr ih =>
    intro h
    cases l with
    | nil => exact .slc (l := []) X ht hc hs (by simp) (by simp)
    | cons c r => simp [YtnpoikgkhhpdgaaDoorE.dry] at h
  | @agg f cs vs hl h1 hr ih =>
    intro h
    have h' : dryL cs = true := by
      cases f with
      | true => exact dryL_of_plainL (by simpa [YtnpoikgkhhpdgaaDoorE.dry] using h)
      | false => simpa [YtnpoikgkhhpdgaaDoorE.dry] using h
    exact .agg hl h1 fun j c x hc hx => ih j c x hc hx (dryL_get h' hc)
  | tup hl hr ih => intro h; exact .tup hl fun j c x hc hx => ih j c x hc hx (dryL_get (by simpa [YtnpoikgkhhpdgaaDoorE.dry] using h) hc)
  | rptr X h1 hm hr ih => intro h; simp [YtnpoikgkhhpdgaaDoorE.dry] at h
theorem Rep.dry {μ μ' : Mem} {ρ : Nat → Option (Nat × Nat × Nat × Nat)} {τ : Nat → Option (Nat × Nat × Nat)} {G : Gh} (hG : G = ⟨μ, ρ, τ⟩) {d : D} {v : Value} (r : Rep G d v) : dry d = true → Rep ⟨μ', ρ, τ⟩ d v := by
  induction r with
  | undef v => intro _; exact .undef v
  | pure r => intro h; exact .pure (r.dry h)
  | ptr e => intro h; simp [YtnpoikgkhhpdgaaDoorE.dry] at h
  | view e hk hc ha => intro h; simp [YtnpoikgkhhpdgaaDoorE.dry] at h
  | ownNil => intro _; exact .ownNil
  | @own s es l b off cap X hc hs hm hr ht =>
    intro h
    cases l with
    | nil => exact .own (l := []) X hc hs (by simp) (by simp) (by subst hG; exact ht)
    | cons c r => simp [YtnpoikgkhhpdgaaDoorE.dry] at h
  | agg hl hr ih => intro h; exact .agg hl fun j c x hc hx => ih j c x hc hx (dryL_get (by simpa [YtnpoikgkhhpdgaaDoorE.dry] using h) hc)
  | tup hl hr ih => intro h; exact .tup hl fun j c x hc hx => ih j c x hc hx (dryL_get (by simpa [YtnpoikgkhhpdgaaDoorE.dry] using h) hc)
  | @fn f caps vs hl hr ih =>
    intro h
    cases caps with
    | nil => exact .fn hl fun j c x hc => by simp at hc
    | cons c r => simp [YtnpoikgkhhpdgaaDoorE.dry] at h

/-! ### a result's slices get the caller's sites -/
theorem single_tak {μ : Mem} (s : Nat) {d : D} {v : Value} (r : Rep0 μ d v) : single (tak s d) = single d := by
  cases r with
  | slcNil ht => rcases ht with rfl | rfl <;> rfl
  | slc X ht hc hs hm hr => rcases ht with rfl | ⟨rfl, _⟩ <;> rfl
  | @agg f cs vs hl h1 hr => cases f <;> rfl
  | _ => rfl
theorem takL_get (s : Nat) (cs : List D) (j : Nat) : (takL s cs)[j]? = (cs[j]?).map (tak s) := by
  induction cs generalizing j with
  | nil => simp [takL]
  | cons d r ih => cases j with
    | zero => simp [takL]
    | succ j => simp [takL, ih]
theorem takL_length (s : Nat) (cs : List D) : (takL s cs).length = cs.length := by
  induction cs with
  | nil => rfl
  | cons d r ih => simp [takL, ih]
theorem Rep0.tak {μ : Mem} {d : D} {v : Value} (r : Rep0 μ d v) (s : Nat) : Rep0 μ (tak s d) v := by
  induction r with
  | bool b => exact .bool b
  | int k n => exact .int k n
  | str s => exact .str s
  | nilp => exact .nilp
  | nilf => exact .nilf
  | fn f => exact .fn f
  | slcNil ht =>
    rcases ht with rfl | rfl
    · exact .slcNil (.inl rfl)
    · exact .slcNil (.inr rfl)
  | slc X ht hc hs hm hr ih =>
    rcases ht with rfl | ⟨rfl, h⟩
    · exact .slc X (.inl rfl) hc hs hm hr
    · exact .slc X (.inr ⟨rfl, h⟩) hc hs hm hr
  | @agg f cs vs hl h1 hr ih =>
    cases f with
    | true => exact .agg hl h1 hr
    | false =>
      refine .agg (by rw [takL_length]; exact hl) (singleL_get.2 fun j c hc => ?_) fun j c x hc hx => ?_
      · rw [takL_get] at hc
        cases hcs : cs[j]? with
        | none => simp [hcs] at hc
        | some c0 => 
          simp [hcs] at hc; subst hc
          have hlt := (List.getElem?_eq_some_iff.1 hcs).1
          rw [single_tak s (hr j c0 vs[j] hcs (by simp))]; exact singleL_get.1 h1 j c0 hcs
      · rw [takL_get] at hc
        cases hcs : cs[j]? with
        | none => simp [hcs] at hc
        | some c0 => simp [hcs] at hc; subst hc; exact ih j c0 x hcs hx
  | @tup ds vs hl hr ih =>
    refine .tup (by rw [takL_length]; exact hl) fun j c x hc hx => ?_
    rw [takL_get] at hc
    cases hcs : ds[j]? with
    | none => simp [hcs] at hc
    | some c0 => simp [hcs] at hc; subst hc; exact ih j c0 x hcs hx
  | rptr X h1 hm hr ih => exact .rptr X h1 hm hr
theorem Rep.tak {μ : Mem} {τ : Nat → Option (Nat × Nat × Nat)} {G1 G' : Gh} {s : Nat} (hG : G1 = ⟨μ, fun _ => none, τ⟩) (hμ : G'.μ = μ) (hτ : ∀ j x, τ j = some x → G'.τ (s + j) = some x) {d : D} {v : Value} (r : Rep G1 d v) :
    Rep G' (tak s d) v := by
  induction r with
  | undef v => exact .undef v
  | pure r => subst hG; subst hμ; exact .pure (r.tak s)
  | ptr e => subst hG; simp at e
  | view e hk hc ha => subst hG; simp at e
  | ownNil => exact .ownNil
  | own X hc hs hm hr ht => subst hG; subst hμ; exact .own X hc hs hm hr (ht.imp id fun h => hτ _ _ h)
  | @agg cs vs hl hr ih =>
    refine .agg (by rw [takL_length]; exact hl) fun j c x hc hx => ?_
    rw [takL_get] at hc
    cases hcs : cs[j]? with
    | none => simp [hcs] at hc
    | some c0 => simp [hcs] at hc; subst hc; exact ih j c0 x hcs hx
  | @tup cs vs hl hr ih =>
    refine .tup (by rw [takL_length]; exact hl) fun j c x hc hx => ?_
    rw [takL_get] at hc
    cases hcs : cs[j]? with
    | none => simp [hcs] at hc
    | some c0 => simp [hcs] at hc; subst hc; exact ih j c0 x hcs hx
  | @fn f caps vs hl hr ih =>
    cases caps with
    | nil => exact .fn hl fun j c x hc hx => by simp at hc
    | cons c r => exact .undef _

/-! ### the boxes that are lent -/
theorem single_bare {d d' : D} (h : bare d = some d') (hs : single d = true) : single d' = true := by
  cases d with
  | slc t es l => cases t <;> simp [bare] at h <;> subst h <;> rfl
  | fn f caps => cases caps <;> simp [bare] at h <;> subst h <;> rfl
  | agg f cs => cases hs
  | tup vs => cases hs
  | undef => cases hs
  | ptr s i o => simp [bare] at h
  | view s i o => simp [bare] at h
  | _ => simp [bare] at h; subst h; exact hs

theorem readAt_bare {src ag fl : Bool} {n o : Nat} {cs : List D} {y x : D} {Y : Nat → Option Value}
    (hY : ∀ (j : Nat) (c : D), cs[j]? = some c → ∃ x, Y j = some x ∧ Rep G c x ∧ (src = true → Rep0 G.μ c x ∧ single c = true)) (h : readAt src ag fl n o cs = some y) (hb : bare y = some x) :
    o + (cellsOf x).length ≤ cs.length ∧ (cellsOf x).length = (if ag then n else 1) ∧ ∀ (j : Nat) (c : D), (cellsOf x)[j]? = some c → ∃ v, Y (o + j) = some v ∧ Rep0 G.μ c v ∧ single c = true := by
  rcases readAt_cells hY h with ⟨rfl, vs, h1, h2, h3⟩ | ⟨rfl, v, h1, h2, h3⟩
  · have hle : o + n ≤ cs.length := by
      unfold readAt at h
      simp only at h
      cases hble : Nat.ble (o + n) cs.length with
      | false => rw [hble] at h; cases h
      | true => exact Nat.le_of_ble_eq_true hble
    have h4 := h3.bare hb
    generalize hv : (Value.agg vs.toArray) = va at h4
    cases h4 with
    | @agg f xs vs' hl hone hr =>
      cases hv
      simp only [cellsOf]
      have hl' : xs.length = n := by simpa [h1] using hl
      refine ⟨by omega, by simpa using hl', fun j c hj => ?_⟩
      have hlt : j < xs.length := (List.getElem?_eq_some_iff.1 hj).1
      have hlt' : j < vs.length := by omega
      refine ⟨vs[j], by rw [h2 j (by omega), List.getElem?_eq_getElem hlt'], hr j c vs[j] hj (by simp [List.getElem?_eq_getElem hlt']), singleL_get.1 hone j c hj⟩
    | _ => cases hv
  · have hs := single_bare hb h2
    rw [single_cells hs]
    have hlt : o < cs.length := by
      unfold readAt at h
      simp only [Option.bind_eq_some_iff] at h
      obtain ⟨c, hc, _⟩ := h
      exact (List.getElem?_eq_some_iff.1 hc).1
    refine ⟨by simp only [List.length_cons, List.length_nil]; omega, rfl, fun j c hj => ?_⟩
    cases j with
    | zero => simp at hj; subst hj; exact ⟨v, h1, h3.bare hb, hs⟩
    | succ j => simp at hj

/-- an entry of what is lent -/
def entBl (G : Gh) (q : List (D × Nat × Nat × Bool × Nat)) (m : Nat) : Nat := match q[m]? with
  | some e => (match G.ρ e.2.1 with | some x => x.1 | none => 0)
  | none => 0
def entBase (G : Gh) (q : List (D × Nat × Nat × Bool × Nat)) (m : Nat) : Nat := match q[m]? with
  | some e => (match G.ρ e.2.1 with | some x => x.2.1 + e.2.2.1 | none => 0)
  | none => 0

/-- how an argument goes in -/
def ArgOk (G : Gh) (μc : Mem) (q : List (D × Nat × Nat × Bool × Nat)) (j0 : Nat) (x : D) (v : Value) : Prop :=
  Rep0 μc x v ∨ ∃ m e b base es K, q[m]? = some e ∧ x = .ptr (1000 + (j0 + m)) 0 0 ∧ G.ρ e.2.1 = some (b, base, es, K) ∧ v = .pointer (some ⟨b, base + e.2.2.1, none⟩)
def EntOk (M : List (Nat × Ob)) (G : Gh) (e : D × Nat × Nat × Bool × Nat) : Prop :=
  ∃ c y fl, gt M e.2.1 = some (.box c) ∧ readD e.2.2.2.1 fl e.2.2.2.2 e.2.2.1 c = some y ∧ bare y = some e.1 ∧ ∃ x, G.ρ e.2.1 = some x

theorem prepL_sound (h : Rel N X w0 μ0 G Cn T M a w) {μc : Mem} (hle : Mem.le G.μ μc) : ∀ (ds : List D) (ps : List (Option (Bool × Bool × Nat))) (j0 : Nat) (xs : List D) (q : List (D × Nat × Nat × Bool × Nat)) (vals : List Value),
    prepL M ds ps j0 = some (xs, q) → (seesL ds = true → μc = frz M G w) → ds.length = vals.length → (∀ (k : Nat) (d : D) (v : Value), ds[k]? = some d → vals[k]? = some v → Rep G d v) →
    xs.length = vals.length ∧ (∀ (k : Nat) (x : D) (v : Value), xs[k]? = some x → vals[k]? = some v → ArgOk G μc q j0 x v) ∧ ∀ (m : Nat) (e : D × Nat × Nat × Bool × Nat), q[m]? = some e → EntOk M G e
  | [], ps, j0, xs, q, vals, hp, _, hl, _ => by
    simp [prepL] at hp; obtain ⟨rfl, rfl⟩ := hp
    exact ⟨by simpa using hl, fun k x v hx => by simp at hx, fun m e he => by simp at he⟩
  | d :: r, ps, j0, xs, q, vals, hp, hs, hl, hr => by
    cases vals with
    | nil => simp at hl
    | cons v vals =>
      have hr' : ∀ (k : Nat) (d : D) (v : Value), r[k]? = some d → vals[k]? = some v → Rep G d v := fun k d v hd hv => hr (k + 1) d v (by simpa using hd) (by simpa using hv)
      have hs' : seesL r = true → μc = frz M G w := fun hsr => hs (by simp only [seesL]; split <;> simp_all)
      have hsd : sees d = true → μc = frz M G w := fun hsr => hs (by simp [seesL, hsr])
      cases ps with
      | nil => simp [prepL] at hp
      | cons p ps =>
        cases p with
        | none =>
          simp only [prepL, Option.bind_eq_some_iff] at hp
          obtain ⟨x, hx, ⟨xs', q'⟩, hq, he⟩ := hp
          simp at he; obtain ⟨rfl, rfl⟩ := he
          obtain ⟨h1, h2, h3⟩ := prepL_sound h hle r ps j0 xs' q' vals hq hs' (by simpa using hl) hr'
          refine ⟨by simp [h1], fun k x' v' hx' hv' => ?_, h3⟩
          cases k with
          | zero => simp at hx' hv'; subst hx'; subst hv'; exact .inl (lend_sound h hle _ d x v (Nat.lt_succ_self _) hsd hx (hr 0 d v rfl rfl))
          | succ k => exact h2 k x' v' (by simpa using hx') (by simpa using hv')
        | some p =>
          obtain ⟨ag, fl, n⟩ := p
          simp only [prepL] at hp
          split at hp
          · rename_i s i o
            split at hp
            · split at hp
              · rename_i c hM
                simp only [Option.bind_eq_some_iff] at hp
                obtain ⟨y, hy, x, hx, ⟨xs', q'⟩, hq, he⟩ := hp
                simp at he; obtain ⟨rfl, rfl⟩ := he
                obtain ⟨h1, h2, h3⟩ := prepL_sound h hle r ps (j0 + 1) xs' q' vals hq hs' (by simpa using hl) hr'
                have hv := hr 0 _ v rfl rfl
                generalize hd : D.ptr s 0 o = dd at hv
                cases hv with
                | @ptr s' i' o' b base es K hρ =>
                  cases hd
                  refine ⟨by simp [h1], fun k x' v' hx' hv' => ?_, fun m e he => ?_⟩
                  · cases k with
                    | zero =>
                      simp at hx' hv'; subst hx'; subst hv'
                      exact .inr ⟨0, _, b, base, es, K, rfl, rfl, hρ, by simp⟩
                    | succ k =>
                      rcases h2 k x' v' (by simpa using hx') (by simpa using hv') with h4 | ⟨m, e, b', base', es', K', h4, h5, h6, h7⟩
                      · exact .inl h4
                      · exact .inr ⟨m + 1, e, b', base', es', K', by simpa using h4, by rw [h5]; congr 1; omega, h6, h7⟩
                  · cases m with
                    | zero => simp at he; subst he; exact ⟨c, y, fl, hM, hy, hx, _, hρ⟩
                    | succ m => exact h3 m e (by simpa using he)
                | pure h0 => subst hd; cases h0
                | _ => cases hd
              · cases hp
            · cases hp
          · cases hp
end Go.YtnpoikgkhhpdgaaDoorE
