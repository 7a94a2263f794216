/-
  What goes into a call and what comes out of it, seen from the one who hands it on: rows are frozen, slices get their numbers.
-/
import Derived.Test.YtnpoikgkhhpdgaaDoorEvN
namespace Go.YtnpoikgkhhpdgaaDoorE
variable {P : Program} {N : Nat} {X : Nat → Nat → Prop} {w0 : World} {μ0 : Mem} {G G' : Gh} {Cn Cn' : List Nat} {T : List (Nat × D)} {M : List (Nat × Ob)} {a : Act} {w w' : World}

/-- a cell of a row -/
def InRow (M : List (Nat × Ob)) (G : Gh) (b o : Nat) : Prop := ∃ s es l base es' K, gt M s = some (.row es l) ∧ G.ρ s = some (b, base, es', K) ∧ base ≤ o ∧ o < base + l.length * es
open Classical in
/-- what is known, and what the rows hold -/
noncomputable def frz (M : List (Nat × Ob)) (G : Gh) (w : World) : Mem := fun b o =>
  match G.μ b o with
  | some x => some x
  | none => if InRow M G b o then w.cell? ⟨b, o, none⟩ else none
theorem frz_le (M : List (Nat × Ob)) (G : Gh) (w : World) : Mem.le G.μ (frz M G w) := fun b o x h => by simp [frz, h]
theorem frz_inv {b o : Nat} {x : Value} (h : frz M G w b o = some x) : G.μ b o = some x ∨ (InRow M G b o ∧ w.cell? ⟨b, o, none⟩ = some x) := by
  unfold frz at h
  split at h
  · rename_i y hy; cases h; exact .inl hy
  · split at h
    · rename_i hr; exact .inr ⟨hr, h⟩
    · cases h
theorem frz_stands (h : Rel N X w0 μ0 G Cn T M a w) : Stands (frz M G w) w := fun b o x hx => by
  rcases frz_inv hx with h1 | ⟨_, h1⟩
  · exact h.mem b o x h1
  · exact h1
theorem frz_row (h : Rel N X w0 μ0 G Cn T M a w) {s es b base es' K o : Nat} {l : List D} (hM : gt M s = some (.row es l)) (hρ : G.ρ s = some (b, base, es', K)) (h1 : base ≤ o) (h2 : o < base + l.length * es) :
    frz M G w b o = w.cell? ⟨b, o, none⟩ := by
  unfold frz
  rw [(h.obs s _ b base es' K hM hρ).2.2 o]
  simp only
  rw [if_pos ⟨s, es, l, base, es', K, hM, hρ, h1, h2⟩]
theorem frz_none {b o : Nat} (h1 : G.μ b o = none) (h2 : ¬ InRow M G b o) : frz M G w b o = none := by
  unfold frz
  rw [h1]
  simp only
  rw [if_neg h2]

/-- a row's elements, frozen -/
theorem frz_shows (h : Rel N X w0 μ0 G Cn T M a w) {s es b base es' K : Nat} {l : List D} (hM : gt M s = some (.row es l)) (hρ : G.ρ s = some (b, base, es', K)) :
    es' = es ∧ K = l.length ∧ Shows (frz M G w) es l b base (fun k => (w.cell? ⟨b, base + k, none⟩).getD undef) := by
  obtain ⟨h1, _, _⟩ := h.obs s _ b base es' K hM hρ
  obtain ⟨rfl, rfl, arr, el, h2, h3, h4⟩ := h1
  refine ⟨rfl, rfl, ⟨fun i d hi => (h4 i d hi).1, fun k hk => ?_, fun i d j c hi hj => ?_⟩⟩
  · rw [frz_row h hM hρ (by omega) (by omega), cell_of_heap h2]
    have hlt : base + k < arr.size := by omega
    rw [Array.getElem?_eq_getElem hlt]; rfl
  · obtain ⟨x, h5, h6⟩ := (h4 i d hi).2 j c hj
    have : w.cell? ⟨b, base + (i * es + j), none⟩ = some x := by rw [cell_of_heap h2, h5]
    simp only [this, Option.getD_some]
    exact h6.mono (frz_le M G w)

/-- a view, as a slice -/
theorem view_frz (h : Rel N X w0 μ0 G Cn T M a w) {s off len es : Nat} {l : List D} {v : Value} (hM : gt M s = some (.row es l)) (hr : Rep G (.view s off len) v) :
    Rep0 (frz M G w) (.slc .no es ((l.drop off).take len)) v ∧ (off + len = l.length → ∀ (G' : Gh) (j : Nat), G'.μ = frz M G w → Rep G' (.slc (.own j) es (l.drop off)) v) := by
  cases hr with
  | pure hx => cases hx
  | @view _ _ _ b base es' K cap p hρ hk hc ha =>
    obtain ⟨rfl, rfl, hsh⟩ := frz_shows h hM hρ
    have hlen : ((l.drop off).take len).length = len := by simp; omega
    have hsh1 := hsh.cut off len
    rcases Nat.eq_zero_or_pos cap with h0 | h0
    · subst h0
      have hl0 : len = 0 := by omega
      subst hl0
      have hd : l.drop off = [] := List.drop_eq_nil_of_le (by omega)
      refine ⟨?_, fun _ G' j _ => ?_⟩
      · rw [hd]
        exact .slc (l := []) (cap := 0) (fun _ => undef) (.inl rfl) (by simp) (by simp) (by simp) (by simp)
      · rw [hd]
        exact .own (l := []) (cap := 0) (fun _ => undef) (by simp) (by simp) (by simp) (by simp) (.inl rfl)
    · have hp := ha.resolve_left (by omega)
      subst hp
      refine ⟨?_, fun he G' j hμ => ?_⟩
      · have := Rep0.slc (μ := frz M G w) (t := .no) (cap := cap) _ (.inl rfl) (by rw [hlen]; omega) hsh1.1 hsh1.2 hsh1.3
        rw [hlen] at this
        exact this
      · have hc2 : (l.drop off).length = len := by simp; omega
        have ht : (l.drop off).take len = l.drop off := List.take_of_length_le (by omega)
        rw [ht] at hsh1
        have := Rep.own (G := G') (s := j) (cap := cap) _ (by rw [hc2]; omega) hsh1.1 (by rw [hμ]; exact hsh1.2) (by rw [hμ]; exact hsh1.3) (.inl (by rw [hc2]; omega))
        rw [hc2] at this
        exact this

theorem slc_no {G : Gh} {t : Tok} {es : Nat} {l : List D} {v : Value} (hr : Rep G (.slc t es l) v) : Rep0 G.μ (.slc .no es l) v := by
  cases hr with
  | pure h => cases h with
    | slcNil => exact .slcNil (.inl rfl)
    | slc X ht hc hs hm hr => exact .slc X (.inl rfl) hc hs hm hr
  | ownNil => exact .slcNil (.inl rfl)
  | own X hc hs hm hr ht => exact .slc X (.inl rfl) hc hs hm hr

theorem seesL_get {cs : List D} (h : seesL cs = false) {j : Nat} {c : D} (hj : cs[j]? = some c) : sees c = false := by
  induction cs generalizing j with
  | nil => simp at hj
  | cons d r ih =>
    simp only [seesL] at h
    split at h
    · cases h
    · rename_i hd
      cases j with
      | zero => simp at hj; subst hj; exact hd
      | succ j => exact ih h (by simpa using hj)
theorem lendL_get {cs l : List D} (h : lendL M cs = some l) : l.length = cs.length ∧ ∀ (j : Nat) (c : D), l[j]? = some c → ∃ c0, cs[j]? = some c0 ∧ lend M c0 = some c := by
  induction cs generalizing l with
  | nil => simp [lendL] at h; subst h; simp
  | cons d r ih =>
    simp only [lendL, Option.bind_eq_some_iff] at h
    obtain ⟨x, hx, y, hy, he⟩ := h
    simp at he; subst he
    obtain ⟨h1, h2⟩ := ih hy
    refine ⟨by simp [h1], fun j c hj => ?_⟩
    cases j with
    | zero => simp at hj; subst hj; exact ⟨d, rfl, hx⟩
    | succ j => exact h2 j c (by simpa using hj)

theorem agg_elems {f : Bool} {cs : List D} {v : Value} (h : Rep G (.agg f cs) v) : ∃ vs, v = .agg vs ∧ cs.length = vs.size ∧ ∀ (j : Nat) (c : D) (x : Value), cs[j]? = some c → vs[j]? = some x → Rep G c x := by
  obtain ⟨vs, h1, h2, h3⟩ := agg_cells h
  exact ⟨vs, h1, h2, fun j c x hj hx => by
    obtain ⟨y, h4, h5, _⟩ := h3 j c hj
    rw [h4] at hx; cases hx; exact h5⟩
theorem tup_elems {ds : List D} {v : Value} (h : Rep G (.tup ds) v) : ∃ vs, v = .tuple vs ∧ ds.length = vs.size ∧ ∀ (j : Nat) (c : D) (x : Value), ds[j]? = some c → vs[j]? = some x → Rep G c x := by
  cases h with
  | pure h => cases h with
    | tup hl hr => exact ⟨_, rfl, hl, fun j c x hj hx => .pure (hr j c x hj hx)⟩
  | tup hl hr => exact ⟨_, rfl, hl, hr⟩
theorem Rep.to0 {d : D} {v : Value} (h : Rep G d v) (hp : plain d = true) : Rep0 G.μ d v := by
  cases d <;> first | (simp [plain] at hp; done) | skip
  all_goals (cases h with | pure h => exact h)

/-- an argument: seen with the rows frozen -/
theorem lend_sound (h : Rel N X w0 μ0 G Cn T M a w) {μc : Mem} (hle : Mem.le G.μ μc) : ∀ (n : Nat) (d x : D) (v : Value), SizeOf.sizeOf d < n → (sees d = true → μc = frz M G w) → lend M d = some x → Rep G d v → Rep0 μc x v
  | 0, _, _, _, hn, _, _, _ => by omega
  | n + 1, d, x, v, hn, hs, hl, hr => by
    cases d with
    | view s off len =>
      simp only [lend] at hl
      split at hl
      · rename_i es l hM
        simp at hl; subst hl
        rw [hs rfl]
        exact (view_frz h hM hr).1
      · cases hl
    | slc t es l =>
      simp [lend] at hl; subst hl
      exact (slc_no hr).mono hle
    | agg f cs =>
      cases f with
      | true =>
        simp [lend] at hl; subst hl
        cases hr with | pure h => exact h.mono hle
      | false =>
        simp only [lend, Option.bind_eq_some_iff] at hl
        obtain ⟨l, h1, h2⟩ := hl
        split at h2
        · rename_i hsg
          simp at h2; subst h2
          obtain ⟨h3, h4⟩ := lendL_get h1
          obtain ⟨vs, rfl, h5, h6⟩ := agg_elems hr
          refine .agg (h3.trans h5) hsg fun j c y hj hy => ?_
          obtain ⟨c0, h7, h8⟩ := h4 j c hj
          refine lend_sound h hle n c0 c y ?_ ?_ h8 (h6 j c0 y h7 hy)
          · have := List.sizeOf_lt_of_mem (List.mem_of_getElem? h7)
            simp only [D.agg.sizeOf_spec] at hn; omega
          · intro hc
            refine hs ?_
            cases hb : seesL cs with
            | true => simp [sees, hb]
            | false => rw [seesL_get hb h7] at hc; cases hc
        · cases h2
    | fn f caps =>
      cases caps with
      | nil =>
        simp [lend] at hl; subst hl
        cases hr with
        | pure h => exact h.mono hle
        | @fn _ _ vs hl hr => 
          have : vs = #[] := by
            have : vs.size = 0 := by simpa using hl.symm
            exact Array.eq_empty_of_size_eq_zero this
          subst this; exact .fn _
      | cons c r => simp [lend] at hl
    | bool b => simp [lend] at hl; subst hl; cases hr with | pure h => exact h.mono hle
    | int k m => simp [lend] at hl; subst hl; cases hr with | pure h => exact h.mono hle
    | str s => simp [lend] at hl; subst hl; cases hr with | pure h => exact h.mono hle
    | nilp => simp [lend] at hl; subst hl; cases hr with | pure h => exact h.mono hle
    | nilf => simp [lend] at hl; subst hl; cases hr with | pure h => exact h.mono hle
    | undef => simp [lend] at hl
    | ptr s i o => simp [lend] at hl
    | rptr cs => simp [lend] at hl
    | tup vs => simp [lend] at hl

/-! ### results -/
structure Giv (G : Gh) (S : List Nat) (j j' : Nat) (τ : Nat → Option (Nat × Nat × Nat)) : Prop where
  le : j ≤ j'
  out : ∀ s, (s < j ∨ j' ≤ s) → τ s = none
  org : ∃ σ : Nat → Nat, (∀ s y, τ s = some y → σ s ∈ S ∧ G.τ (σ s) = some y) ∧ ∀ s s', τ s ≠ none → τ s' ≠ none → s ≠ s' → σ s ≠ σ s'
theorem Giv.nil (G : Gh) (S : List Nat) {j j' : Nat} (h : j ≤ j') : Giv G S j j' (fun _ => none) := ⟨h, fun _ _ => rfl, id, fun s y h => by simp at h, fun s s' h => by simp at h⟩
theorem Giv.one (G : Gh) (s0 j : Nat) : Giv G [s0] j (j + 1) (fun s => if s = j then G.τ s0 else none) := by
  refine ⟨by omega, fun s hs => if_neg (by omega), fun _ => s0, fun s y h => ?_, fun s s' h h' hne => ?_⟩
  · by_cases e : s = j
    · rw [if_pos e] at h; exact ⟨by simp, h⟩
    · rw [if_neg e] at h; cases h
  · have e : s = j := Classical.byContradiction fun e => h (if_neg e)
    have e' : s' = j := Classical.byContradiction fun e => h' (if_neg e)
    exact absurd (e.trans e'.symm) hne
theorem Giv.join {S S' : List Nat} {j j1 j2 : Nat} {τ τ' : Nat → Option (Nat × Nat × Nat)} (h : Giv G S j j1 τ) (k : Giv G S' j1 j2 τ') (hd : ∀ x, x ∈ S → x ∈ S' → False) :
    Giv G (S ++ S') j j2 (fun s => if s < j1 then τ s else τ' s) := by
  obtain ⟨h1, h2, σ, h3, h4⟩ := h
  obtain ⟨k1, k2, σ', k3, k4⟩ := k
  refine ⟨by omega, fun s hs => ?_, fun s => if s < j1 then σ s else σ' s, fun s y hy => ?_, fun s s' hs hs' hne => ?_⟩
  · show (if s < j1 then τ s else τ' s) = none
    split
    · exact h2 s (by omega)
    · exact k2 s (by omega)
  · show (if s < j1 then σ s else σ' s) ∈ S ++ S' ∧ G.τ (if s < j1 then σ s else σ' s) = some y
    by_cases e : s < j1
    · simp only [e, if_true] at hy ⊢; have := h3 s y hy; exact ⟨List.mem_append_left _ this.1, this.2⟩
    · simp only [e, if_false] at hy ⊢; have := k3 s y hy; exact ⟨List.mem_append_right _ this.1, this.2⟩
  · show (if s < j1 then σ s else σ' s) ≠ (if s' < j1 then σ s' else σ' s')
    by_cases e : s < j1 <;> by_cases e' : s' < j1 <;> simp only [e, e', if_true, if_false] at hs hs' ⊢
    · exact h4 s s' hs hs' hne
    · intro he
      obtain ⟨y, hy⟩ := Option.ne_none_iff_exists'.1 hs
      obtain ⟨y', hy'⟩ := Option.ne_none_iff_exists'.1 hs'
      exact hd _ (h3 s y hy).1 (by rw [he]; exact (k3 s' y' hy').1)
    · intro he
      obtain ⟨y, hy⟩ := Option.ne_none_iff_exists'.1 hs
      obtain ⟨y', hy'⟩ := Option.ne_none_iff_exists'.1 hs'
      exact hd _ (h3 s' y' hy').1 (by rw [← he]; exact (k3 s y hy).1)
    · exact k4 s s' hs hs' hne
theorem Giv.left {S S' : List Nat} {j j1 j2 : Nat} {τ τ' : Nat → Option (Nat × Nat × Nat)} {μ' : Mem} (h : Giv G S j j1 τ) (k : Giv G S' j1 j2 τ') :
    Gh.le ⟨μ', fun _ => none, τ⟩ ⟨μ', fun _ => none, fun s => if s < j1 then τ s else τ' s⟩ :=
  ⟨fun _ _ _ h => h, fun _ _ h => h, fun s x hx => by
    have : s < j1 := Classical.byContradiction fun e => by have := h.out s (by omega); simp [this] at hx
    simp only [this, if_true]; exact hx⟩
theorem Giv.right {S S' : List Nat} {j j1 j2 : Nat} {τ τ' : Nat → Option (Nat × Nat × Nat)} {μ' : Mem} (h : Giv G S j j1 τ) (k : Giv G S' j1 j2 τ') :
    Gh.le ⟨μ', fun _ => none, τ'⟩ ⟨μ', fun _ => none, fun s => if s < j1 then τ s else τ' s⟩ :=
  ⟨fun _ _ _ h => h, fun _ _ h => h, fun s x hx => by
    have : ¬ s < j1 := fun e => by have := k.out s (by omega); simp [this] at hx
    simp only [this, if_false]; exact hx⟩

theorem apartB_append {S S' : List Nat} (h : apartB (S ++ S') = true) : apartB S = true ∧ apartB S' = true ∧ ∀ x, x ∈ S → x ∈ S' → False := by
  induction S with
  | nil => exact ⟨rfl, h, fun x hx => by simp at hx⟩
  | cons y r ih =>
    simp only [List.cons_append, apartB] at h
    split at h
    · cases h
    · rename_i hn
      obtain ⟨h1, h2, h3⟩ := ih h
      have hn := has_not.1 hn
      refine ⟨?_, h2, fun x hx hx' => ?_⟩
      · simp only [apartB]
        have : has r y = false := has_not.2 fun hm => hn (List.mem_append_left _ hm)
        rw [this]; exact h1
      · rcases List.mem_cons.1 hx with rfl | hx
        · exact hn (List.mem_append_right _ hx')
        · exact h3 x hx hx'

mutual
theorem giv_sound (h : Rel N X w0 μ0 G Cn T M a w) : ∀ (d x : D) (j j' : Nat) (v : Value), giv M j d = some (x, j') → apartB (sites d) = true → Rep G d v →
    ∃ τ, Giv G (sites d) j j' τ ∧ Rep ⟨frz M G w, fun _ => none, τ⟩ x v
  | .undef, x, j, j', v, hg, _, _ => by simp [giv] at hg
  | .ptr _ _ _, x, j, j', v, hg, _, _ => by simp [giv] at hg
  | .rptr _, x, j, j', v, hg, _, _ => by simp [giv] at hg
  | .bool b, x, j, j', v, hg, _, hr => by
    simp [giv] at hg; obtain ⟨rfl, rfl⟩ := hg
    cases hr with | pure hr => exact ⟨_, Giv.nil G _ (Nat.le_refl _), .pure (hr.mono (frz_le M G w))⟩
  | .int k n, x, j, j', v, hg, _, hr => by
    simp [giv] at hg; obtain ⟨rfl, rfl⟩ := hg
    cases hr with | pure hr => exact ⟨_, Giv.nil G _ (Nat.le_refl _), .pure (hr.mono (frz_le M G w))⟩
  | .str s, x, j, j', v, hg, _, hr => by
    simp [giv] at hg; obtain ⟨rfl, rfl⟩ := hg
    cases hr with | pure hr => exact ⟨_, Giv.nil G _ (Nat.le_refl _), .pure (hr.mono (frz_le M G w))⟩
  | .nilp, x, j, j', v, hg, _, hr => by
    simp [giv] at hg; obtain ⟨rfl, rfl⟩ := hg
    cases hr with | pure hr => exact ⟨_, Giv.nil G _ (Nat.le_refl _), .pure (hr.mono (frz_le M G w))⟩
  | .nilf, x, j, j', v, hg, _, hr => by
    simp [giv] at hg; obtain ⟨rfl, rfl⟩ := hg
    cases hr with | pure hr => exact ⟨_, Giv.nil G _ (Nat.le_refl _), .pure (hr.mono (frz_le M G w))⟩
  | .fn f caps, x, j, j', v, hg, _, hr => by
    cases caps with
    | cons c r => simp [giv] at hg
    | nil =>
      simp [giv] at hg; obtain ⟨rfl, rfl⟩ := hg
      cases hr with
      | pure hr => exact ⟨_, Giv.nil G _ (Nat.le_refl _), .pure (hr.mono (frz_le M G w))⟩
      | @fn _ _ vs hl _ => exact ⟨_, Giv.nil G _ (Nat.le_refl _), .fn hl (fun j c x hc => by simp at hc)⟩
  | .view s off len, x, j, j', v, hg, _, hr => by
    simp only [giv] at hg
    split at hg
    · rename_i es l hM
      obtain ⟨h1, h2⟩ := view_frz h hM hr
      split at hg
      · rename_i hb
        simp at hg; obtain ⟨rfl, rfl⟩ := hg
        exact ⟨_, Giv.nil G _ (by omega), h2 (Nat.eq_of_beq_eq_true hb) _ j rfl⟩
      · simp at hg; obtain ⟨rfl, rfl⟩ := hg
        exact ⟨_, Giv.nil G _ (by omega), .pure h1⟩
    · cases hg
  | .slc t es l, x, j, j', v, hg, _, hr => by
    cases t with
    | no =>
      simp [giv] at hg; obtain ⟨rfl, rfl⟩ := hg
      exact ⟨_, Giv.nil G _ (by omega), .pure ((slc_no hr).mono (frz_le M G w))⟩
    | full =>
      simp [giv] at hg; obtain ⟨rfl, rfl⟩ := hg
      refine ⟨_, Giv.nil G _ (by omega), ?_⟩
      cases hr with
      | pure hr => cases hr with
        | slcNil => exact .ownNil
        | slc Y ht hc hs hm hr =>
          exact .own Y hc hs (fun k hk => frz_le M G w _ _ _ (hm k hk)) (fun i d j c hi hj => (hr i d j c hi hj).mono (frz_le M G w)) (.inl (by rcases ht with ht | ht; cases ht; exact ht.2))
    | own s0 =>
      simp [giv] at hg; obtain ⟨rfl, rfl⟩ := hg
      refine ⟨_, Giv.one G s0 j, ?_⟩
      cases hr with
      | pure hr => exact absurd hr.noref (by simp [norefB])
      | ownNil => exact .ownNil
      | own Y hc hs hm hr ht =>
        exact .own Y hc hs (fun k hk => frz_le M G w _ _ _ (hm k hk)) (fun i d j c hi hj => (hr i d j c hi hj).mono (frz_le M G w)) (ht.imp id fun h => by simp [h])
  | .agg f cs, x, j, j', v, hg, ha, hr => by
    cases f with
    | true =>
      simp [giv] at hg; obtain ⟨rfl, rfl⟩ := hg
      cases hr with | pure hr => exact ⟨_, Giv.nil G _ (Nat.le_refl _), .pure (hr.mono (frz_le M G w))⟩
    | false =>
      simp only [giv, Option.bind_eq_some_iff] at hg
      obtain ⟨⟨l, j1⟩, h1, h2⟩ := hg
      simp at h2; obtain ⟨rfl, rfl⟩ := h2
      obtain ⟨vs, rfl, h3, h4⟩ := agg_elems hr
      obtain ⟨τ, h5, h6, h7⟩ := givL_sound h cs l j j1 vs.toList h1 ha (by simpa using h3) (fun k c y hc hy => h4 k c y hc (by simpa using hy))
      exact ⟨τ, h5, .agg (h6.trans h3) fun k c y hc hy => h7 k c y hc (by simpa using hy)⟩
  | .tup cs, x, j, j', v, hg, ha, hr => by
    simp only [giv, Option.bind_eq_some_iff] at hg
    obtain ⟨⟨l, j1⟩, h1, h2⟩ := hg
    simp at h2; obtain ⟨rfl, rfl⟩ := h2
    obtain ⟨vs, rfl, h3, h4⟩ := tup_elems hr
    obtain ⟨τ, h5, h6, h7⟩ := givL_sound h cs l j j1 vs.toList h1 ha (by simpa using h3) (fun k c y hc hy => h4 k c y hc (by simpa using hy))
    exact ⟨τ, h5, .tup (h6.trans h3) fun k c y hc hy => h7 k c y hc (by simpa using hy)⟩
theorem givL_sound (h : Rel N X w0 μ0 G Cn T M a w) : ∀ (cs l : List D) (j j' : Nat) (vs : List Value), givL M j cs = some (l, j') → apartB (sitesL cs) = true → cs.length = vs.length →
    (∀ (k : Nat) (c : D) (y : Value), cs[k]? = some c → vs[k]? = some y → Rep G c y) →
    ∃ τ, Giv G (sitesL cs) j j' τ ∧ l.length = cs.length ∧ ∀ (k : Nat) (c : D) (y : Value), l[k]? = some c → vs[k]? = some y → Rep ⟨frz M G w, fun _ => none, τ⟩ c y
  | [], l, j, j', vs, hg, _, _, _ => by
    simp [givL] at hg; obtain ⟨rfl, rfl⟩ := hg
    exact ⟨_, Giv.nil G _ (Nat.le_refl _), rfl, fun k c y hc => by simp at hc⟩
  | d :: r, l, j, j', vs, hg, ha, hl, hr => by
    simp only [givL, Option.bind_eq_some_iff] at hg
    obtain ⟨⟨x, j1⟩, h1, ⟨l', j2⟩, h2, h3⟩ := hg
    simp at h3; obtain ⟨rfl, rfl⟩ := h3
    cases vs with
    | nil => simp at hl
    | cons v vs =>
      simp only [sitesL] at ha
      obtain ⟨ha1, ha2, ha3⟩ := apartB_append ha
      obtain ⟨τ, h4, h5⟩ := giv_sound h d x j j1 v h1 ha1 (hr 0 d v rfl rfl)
      obtain ⟨τ', h6, h7, h8⟩ := givL_sound h r l' j1 j2 vs h2 ha2 (by simpa using hl) (fun k c y hc hy => hr (k + 1) c y (by simpa using hc) (by simpa using hy))
      refine ⟨_, h4.join h6 ha3, by simp [h7], fun k c y hc hy => ?_⟩
      cases k with
      | zero => simp at hc hy; subst hc; subst hy; exact h5.mono (h4.left h6)
      | succ k => exact (h8 k c y (by simpa using hc) (by simpa using hy)).mono (h4.right h6)
end
end Go.YtnpoikgkhhpdgaaDoorE
