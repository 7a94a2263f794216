/-
  What the abstract data stand for in the model's memory; laws of that relation.
-/
import Derived.Test.YtnpoikgkhhpdgaaDoorEvA
import Derived.Wp
namespace Go.YtnpoikgkhhpdgaaDoorE

abbrev Mem := Nat → Nat → Option Value

structure Gh where
  μ : Mem
  /-- a box or a row: block, base, cells of an element, elements -/
  ρ : Nat → Option (Nat × Nat × Nat × Nat)
  /-- a slice's room: block, end, top -/
  τ : Nat → Option (Nat × Nat × Nat)

inductive Rep0 (μ : Mem) : D → Value → Prop
  | bool (b : Bool) : Rep0 μ (.bool b) (.bool b)
  | int (k : IntKind) (n : Int) : Rep0 μ (.int k n) (.int k n)
  | str (s : ByteArray) : Rep0 μ (.str s) (.string s)
  | nilp : Rep0 μ .nilp (.pointer none)
  | nilf : Rep0 μ .nilf .nilFunc
  | fn (f : Nat) : Rep0 μ (.fn f []) (.func (.func f) #[] #[])
  | slcNil {t : Tok} {es : Nat} (ht : t = .no ∨ t = .full) : Rep0 μ (.slc t es []) (.slice none 0 0)
  | slc {t : Tok} {es : Nat} {l : List D} {b off cap : Nat} (X : Nat → Value) (ht : t = .no ∨ (t = .full ∧ cap = l.length)) (hc : l.length ≤ cap)
      (hs : ∀ (i : Nat) (d : D), l[i]? = some d → (cellsOf d).length = es ∧ singleL (cellsOf d) = true)
      (hm : ∀ k, k < l.length * es → μ b (off + k) = some (X k))
      (hr : ∀ (i : Nat) (d : D) (j : Nat) (c : D), l[i]? = some d → (cellsOf d)[j]? = some c → Rep0 μ c (X (i * es + j))) :
      Rep0 μ (.slc t es l) (.slice (some ⟨b, off, none⟩) l.length cap)
  | agg {f : Bool} {cs : List D} {vs : Array Value} (hl : cs.length = vs.size) (h1 : singleL cs = true) (hr : ∀ (j : Nat) (c : D) (x : Value), cs[j]? = some c → vs[j]? = some x → Rep0 μ c x) : Rep0 μ (.agg f cs) (.agg vs)
  | tup {ds : List D} {vs : Array Value} (hl : ds.length = vs.size) (hr : ∀ (j : Nat) (c : D) (x : Value), ds[j]? = some c → vs[j]? = some x → Rep0 μ c x) : Rep0 μ (.tup ds) (.tuple vs)
  | rptr {cs : List D} {b off : Nat} (X : Nat → Value) (h1 : singleL cs = true) (hm : ∀ k, k < cs.length → μ b (off + k) = some (X k))
      (hr : ∀ (j : Nat) (c : D), cs[j]? = some c → Rep0 μ c (X j)) : Rep0 μ (.rptr cs) (.pointer (some ⟨b, off, none⟩))

/-- more is known -/
def Mem.le (μ μ' : Mem) : Prop := ∀ b o x, μ b o = some x → μ' b o = some x
theorem Mem.le_refl (μ : Mem) : Mem.le μ μ := fun _ _ _ h => h
theorem Mem.le_trans {a b c : Mem} (h : Mem.le a b) (k : Mem.le b c) : Mem.le a c := fun x y z w => k x y z (h x y z w)

theorem Rep0.mono {μ μ' : Mem} (h : Mem.le μ μ') {d : D} {v : Value} (r : Rep0 μ d v) : Rep0 μ' d v := by
  induction r with
  | bool b => exact .bool b
  | int k n => exact .int k n
  | str s => exact .str s
  | nilp => exact .nilp
  | nilf => exact .nilf
  | fn f => exact .fn f
  | slcNil ht => exact .slcNil ht
  | slc X ht hc hs hm hr ih => exact .slc X ht hc hs (fun k hk => h _ _ _ (hm k hk)) ih
  | agg hl h1 hr ih => exact .agg hl h1 ih
  | tup hl hr ih => exact .tup hl ih
  | rptr X h1 hm hr ih => exact .rptr X h1 (fun k hk => h _ _ _ (hm k hk)) ih

inductive Rep (G : Gh) : D → Value → Prop
  | undef (v : Value) : Rep G .undef v
  | pure {d : D} {v : Value} (h : Rep0 G.μ d v) : Rep G d v
  | ptr {s i o b base es K : Nat} (h : G.ρ s = some (b, base, es, K)) : Rep G (.ptr s i o) (.pointer (some ⟨b, base + (i * es + o), none⟩))
  | view {s off len b base es K cap p : Nat} (h : G.ρ s = some (b, base, es, K)) (hk : off + len ≤ K) (hc : cap + off = K)
      (ha : cap = 0 ∨ p = base + off * es) : Rep G (.view s off len) (.slice (some ⟨b, p, none⟩) len cap)
  | ownNil {s es : Nat} : Rep G (.slc (.own s) es []) (.slice none 0 0)
  | own {s es : Nat} {l : List D} {b off cap : Nat} (X : Nat → Value) (hc : l.length ≤ cap)
      (hs : ∀ (i : Nat) (d : D), l[i]? = some d → (cellsOf d).length = es ∧ singleL (cellsOf d) = true)
      (hm : ∀ k, k < l.length * es → G.μ b (off + k) = some (X k))
      (hr : ∀ (i : Nat) (d : D) (j : Nat) (c : D), l[i]? = some d → (cellsOf d)[j]? = some c → Rep0 G.μ c (X (i * es + j)))
      (ht : cap = l.length ∨ G.τ s = some (b, off + l.length * es, off + cap * es)) :
      Rep G (.slc (.own s) es l) (.slice (some ⟨b, off, none⟩) l.length cap)
  | agg {cs : List D} {vs : Array Value} (hl : cs.length = vs.size) (hr : ∀ (j : Nat) (c : D) (x : Value), cs[j]? = some c → vs[j]? = some x → Rep G c x) : Rep G (.agg false cs) (.agg vs)
  | tup {ds : List D} {vs : Array Value} (hl : ds.length = vs.size) (hr : ∀ (j : Nat) (c : D) (x : Value), ds[j]? = some c → vs[j]? = some x → Rep G c x) : Rep G (.tup ds) (.tuple vs)
  | fn {f : Nat} {caps : List D} {vs : Array Value} (hl : caps.length = vs.size) (hr : ∀ (j : Nat) (c : D) (x : Value), caps[j]? = some c → vs[j]? = some x → Rep G c x) :
      Rep G (.fn f caps) (.func (.func f) #[] vs)

structure Gh.le (G G' : Gh) : Prop where
  μ : Mem.le G.μ G'.μ
  ρ : ∀ s x, G.ρ s = some x → G'.ρ s = some x
  τ : ∀ s x, G.τ s = some x → G'.τ s = some x
theorem Gh.le_refl (G : Gh) : Gh.le G G := ⟨fun _ _ _ h => h, fun _ _ h => h, fun _ _ h => h⟩
theorem Gh.le_trans {A B C : Gh} (h : Gh.le A B) (k : Gh.le B C) : Gh.le A C := ⟨Mem.le_trans h.μ k.μ, fun s x e => k.ρ s x (h.ρ s x e), fun s x e => k.τ s x (h.τ s x e)⟩

theorem Rep.mono {G G' : Gh} (h : Gh.le G G') {d : D} {v : Value} (r : Rep G d v) : Rep G' d v := by
  induction r with
  | undef v => exact .undef v
  | pure r => exact .pure (r.mono h.μ)
  | ptr e => exact .ptr (h.ρ _ _ e)
  | view e hk hc ha => exact .view (h.ρ _ _ e) hk hc ha
  | ownNil => exact .ownNil
  | own X hc hs hm hr ht => exact .own X hc hs (fun k hk => h.μ _ _ _ (hm k hk)) (fun i d j c hi hj => (hr i d j c hi hj).mono h.μ) (ht.imp id (h.τ _ _))
  | agg hl hr ih => exact .agg hl ih
  | tup hl hr ih => exact .tup hl ih
  | fn hl hr ih => exact .fn hl ih

theorem nbF {n m : Nat} (h : n ≠ m) : Nat.beq n m = false := by
  cases hb : Nat.beq n m with
  | false => rfl
  | true => exact absurd (Nat.eq_of_beq_eq_true hb) h
theorem nbT (n : Nat) : Nat.beq n n = true := by simp

/-! ### small maps -/
theorem gt_st_same {α : Type} (T : List (Nat × α)) (n : Nat) (d : α) : gt (st T n d) n = some d := by
  induction T with
  | nil => simp [st, gt]
  | cons p r ih =>
    simp only [st]
    split
    · simp [gt]
    · rename_i h; simp [gt, h, ih]

theorem gt_st_other {α : Type} (T : List (Nat × α)) {n m : Nat} (d : α) (h : m ≠ n) : gt (st T n d) m = gt T m := by
  induction T with
  | nil => simp [st, gt, nbF (Ne.symm h)]
  | cons p r ih =>
    simp only [st]
    split
    · rename_i hp
      have hp : p.1 = n := by simpa using hp
      simp [gt, nbF (Ne.symm h), hp]
    · rename_i hp
      simp only [gt, ih]

theorem gt_rm {α : Type} (T : List (Nat × α)) (ks : List Nat) {n : Nat} {d : α} (h : gt (rm T ks) n = some d) : gt T n = some d ∧ has ks n = false := by
  induction T with
  | nil => simp [rm, gt] at h
  | cons p r ih =>
    simp only [rm] at h
    split at h
    · rename_i hp
      obtain ⟨h1, h2⟩ := ih h
      refine ⟨?_, h2⟩
      simp only [gt]
      split
      · rename_i hb
        have : p.1 = n := by simpa using hb
        rw [this, h2] at hp; cases hp
      · exact h1
    · rename_i hp
      simp only [gt] at h ⊢
      split at h
      · rename_i hb
        have : p.1 = n := by simpa using hb
        rw [this] at hp
        exact ⟨h, hp⟩
      · exact ih h

theorem gt_rm_of {α : Type} (T : List (Nat × α)) (ks : List Nat) {n : Nat} (hk : has ks n = false) : gt (rm T ks) n = gt T n := by
  induction T with
  | nil => rfl
  | cons p r ih =>
    simp only [rm]
    split
    · rename_i hp
      simp only [gt, ih]
      split
      · rename_i hb
        have : p.1 = n := by simpa using hb
        rw [this, hk] at hp; cases hp
      · rfl
    · simp only [gt, ih]

theorem gt_pgT (ss : List Nat) (T : List (Nat × D)) (n : Nat) : gt (pgT ss T) n = (gt T n).map (pg ss) := by
  induction T with
  | nil => rfl
  | cons p r ih =>
    simp only [pgT, gt]
    split
    · rfl
    · exact ih
theorem gt_pgM (ss : List Nat) (M : List (Nat × Ob)) (n : Nat) : gt (pgM ss M) n = (gt M n).map (pgO ss) := by
  induction M with
  | nil => rfl
  | cons p r ih =>
    simp only [pgM, gt]
    split
    · rfl
    · exact ih

theorem has_mem {l : List Nat} {n : Nat} : has l n = true ↔ n ∈ l := by
  induction l with
  | nil => simp [has]
  | cons x r ih =>
    simp only [has]
    split
    · rename_i h
      have : x = n := by simpa using h
      simp [this]
    · rename_i h
      have : x ≠ n := Nat.ne_of_beq_eq_false h
      simp [ih, Ne.symm this]
theorem has_not {l : List Nat} {n : Nat} : has l n = false ↔ n ∉ l := by
  rw [← has_mem]; simp

/-! ### forgetting sites -/
def Gh.off (G : Gh) (ss : List Nat) : Gh := { μ := G.μ, ρ := fun s => if has ss s = true then none else G.ρ s, τ := fun s => if has ss s = true then none else G.τ s }
def Gh.offρ (G : Gh) (ss : List Nat) : Gh := { μ := G.μ, ρ := fun s => if has ss s = true then none else G.ρ s, τ := G.τ }
def Gh.offτ (G : Gh) (ss : List Nat) : Gh := { μ := G.μ, ρ := G.ρ, τ := fun s => if has ss s = true then none else G.τ s }

theorem pgL_get (ss : List Nat) (cs : List D) (j : Nat) : (pgL ss cs)[j]? = (cs[j]?).map (pg ss) := by
  induction cs generalizing j with
  | nil => simp [pgL]
  | cons d r ih => cases j with
    | zero => simp [pgL]
    | succ j => simp [pgL, ih]
theorem pgL_length (ss : List Nat) (cs : List D) : (pgL ss cs).length = cs.length := by
  induction cs with
  | nil => rfl
  | cons d r ih => simp [pgL, ih]

theorem singleL_get {l : List D} : singleL l = true ↔ ∀ (j : Nat) (c : D), l[j]? = some c → single c = true := by
  induction l with
  | nil => simp [singleL]
  | cons d r ih =>
    simp only [singleL]
    constructor
    · intro h j c hj
      cases hs : single d with
      | false => rw [hs] at h; cases h
      | true =>
        rw [hs] at h
        cases j with
        | zero => simp at hj; rw [← hj]; exact hs
        | succ j => exact (ih.1 h) j c (by simpa using hj)
    · intro h
      have h0 := h 0 d (by simp)
      rw [h0]
      exact ih.2 fun j c hj => h (j + 1) c (by simpa using hj)
theorem singleL_append {l m : List D} (h : singleL l = true) (k : singleL m = true) : singleL (l ++ m) = true := by
  rw [singleL_get] at *
  intro j c hj
  rw [List.getElem?_append] at hj
  split at hj
  · exact h _ _ hj
  · exact k _ _ hj
theorem singleL_drop {l : List D} (h : singleL l = true) (n : Nat) : singleL (l.drop n) = true := by
  rw [singleL_get] at *
  intro j c hj
  rw [List.getElem?_drop] at hj
  exact h _ _ hj
theorem singleL_take {l : List D} (h : singleL l = true) (n : Nat) : singleL (l.take n) = true := by
  rw [singleL_get] at *
  intro j c hj
  rw [List.getElem?_take] at hj
  split at hj
  · exact h _ _ hj
  · cases hj
/-- is a value no pointer into a box, no view of a row? -/
def norefB : D → Bool
  | .ptr _ _ _ => false
  | .view _ _ _ => false
  | .slc (.own _) _ _ => false
  | _ => true
theorem Rep0.noref {μ : Mem} {d : D} {v : Value} (r : Rep0 μ d v) : norefB d = true := by
  cases r with
  | slcNil ht => rcases ht with rfl | rfl <;> rfl
  | slc X ht hc hs hm hr => rcases ht with rfl | ⟨rfl, _⟩ <;> rfl
  | _ => rfl
theorem single_pg {ss : List Nat} {d : D} (h : single d = true) (hn : norefB d = true) : single (pg ss d) = true := by
  cases d with
  | ptr s i o => cases hn
  | view s i o => cases hn
  | slc t es l => cases t <;> first | rfl | cases hn
  | agg f cs => cases h
  | undef => cases h
  | tup vs => cases h
  | _ => rfl
theorem singleL_pgL {ss : List Nat} {cs : List D} (h : singleL cs = true) (hn : ∀ (j : Nat) (c : D), cs[j]? = some c → norefB c = true) : singleL (pgL ss cs) = true := by
  rw [singleL_get] at *
  intro j c hj
  rw [pgL_get] at hj
  cases hc : cs[j]? with
  | none => simp [hc] at hj
  | some c0 => simp [hc] at hj; subst hj; exact single_pg (h _ _ hc) (hn _ _ hc)

/-- pure data bear no site: forgetting changes at most the flags of nothing -/
theorem Rep0.pg {μ : Mem} {d : D} {v : Value} (r : Rep0 μ d v) (ss : List Nat) : Rep0 μ (pg ss d) v := by
  induction r with
  | bool b => exact .bool b
  | int k n => exact .int k n
  | str s => exact .str s
  | nilp => exact .nilp
  | nilf => exact .nilf
  | fn f => exact .fn f
  | slcNil ht =>
    rcases ht with rfl | rfl
    · exact .slcNil (.inl rfl)
    · exact .slcNil (.inr rfl)
  | slc X ht hc hs hm hr ih =>
    rcases ht with rfl | ⟨rfl, h⟩
    · exact .slc X (.inl rfl) hc hs hm hr
    · exact .slc X (.inr ⟨rfl, h⟩) hc hs hm hr
  | @agg f cs vs hl h1 hr ih =>
    cases f with
    | true => exact .agg hl h1 hr
    | false =>
      refine .agg (by rw [pgL_length]; exact hl) (singleL_pgL h1 fun j c hc => ?_) fun j c x hc hx => ?_
      · have hlt := (List.getElem?_eq_some_iff.1 hc).1
        exact (hr j c vs[j] hc (by simp)).noref
      rw [pgL_get] at hc
      cases hcs : cs[j]? with
      | none => simp [hcs] at hc
      | some c0 => simp [hcs] at hc; subst hc; exact ih j c0 x hcs hx
  | @tup ds vs hl hr ih =>
    refine .tup (by rw [pgL_length]; exact hl) fun j c x hc hx => ?_
    rw [pgL_get] at hc
    cases hcs : ds[j]? with
    | none => simp [hcs] at hc
    | some c0 => simp [hcs] at hc; subst hc; exact ih j c0 x hcs hx
  | rptr X h1 hm hr ih => exact .rptr X h1 hm hr

/-- behind 'pg' the sites may stand for something else -/
theorem Rep.pg {G G' : Gh} {ss : List Nat} (hμ : Mem.le G.μ G'.μ) (hρ : ∀ s x, has ss s = false → G.ρ s = some x → G'.ρ s = some x)
    (hτ : ∀ s x, has ss s = false → G.τ s = some x → G'.τ s = some x) {d : D} {v : Value} (r : Rep G d v) : Rep G' (pg ss d) v := by
  induction r with
  | undef v => exact .undef v
  | pure r => exact .pure ((r.pg ss).mono hμ)
  | @ptr s i o b base es K e =>
    simp only [YtnpoikgkhhpdgaaDoorE.pg]
    cases h : has ss s with
    | true => exact .undef _
    | false => exact .ptr (hρ _ _ h e)
  | @view s off len b base es K cap p e hk hc ha =>
    simp only [YtnpoikgkhhpdgaaDoorE.pg]
    cases h : has ss s with
    | true => exact .undef _
    | false => exact .view (hρ _ _ h e) hk hc ha
  | @ownNil s es =>
    simp only [YtnpoikgkhhpdgaaDoorE.pg]
    cases h : has ss s with
    | true => exact .pure (.slcNil (.inl rfl))
    | false => exact .ownNil
  | @own s es l b off cap X hc hs hm hr ht =>
    simp only [YtnpoikgkhhpdgaaDoorE.pg]
    cases h : has ss s with
    | true => exact .pure (.slc X (.inl rfl) hc hs (fun k hk => hμ _ _ _ (hm k hk)) (fun i d j c hi hj => (hr i d j c hi hj).mono hμ))
    | false => exact .own X hc hs (fun k hk => hμ _ _ _ (hm k hk)) (fun i d j c hi hj => (hr i d j c hi hj).mono hμ) (ht.imp id (hτ _ _ h))
  | @agg cs vs hl hr ih =>
    refine .agg (by rw [pgL_length]; exact hl) fun j c x hc hx => ?_
    rw [pgL_get] at hc
    cases hcs : cs[j]? with
    | none => simp [hcs] at hc
    | some c0 => simp [hcs] at hc; subst hc; exact ih j c0 x hcs hx
  | @tup ds vs hl hr ih =>
    refine .tup (by rw [pgL_length]; exact hl) fun j c x hc hx => ?_
    rw [pgL_get] at hc
    cases hcs : ds[j]? with
    | none => simp [hcs] at hc
    | some c0 => simp [hcs] at hc; subst hc; exact ih j c0 x hcs hx
  | @fn f caps vs hl hr ih =>
    refine .fn (by rw [pgL_length]; exact hl) fun j c x hc hx => ?_
    rw [pgL_get] at hc
    cases hcs : caps[j]? with
    | none => simp [hcs] at hc
    | some c0 => simp [hcs] at hc; subst hc; exact ih j c0 x hcs hx

/-! ### values of one cell -/
theorem Rep0.oneCell {μ : Mem} {d : D} {v : Value} (r : Rep0 μ d v) (h : single d = true) : v.oneCell = true := by
  cases r <;> first | rfl | (simp [single] at h)
theorem Rep.oneCell {G : Gh} {d : D} {v : Value} (r : Rep G d v) (h : single d = true) : v.oneCell = true := by
  cases r with
  | pure r => exact r.oneCell h
  | _ => first | rfl | (simp [single] at h)
theorem Rep.of_plain {G : Gh} {d : D} {v : Value} (r : Rep G d v) (h : plain d = true) : Rep0 G.μ d v := by
  cases r with
  | pure r => exact r
  | _ => simp [plain] at h
theorem plainL_get {l : List D} (h : plainL l = true) {j : Nat} {c : D} (hj : l[j]? = some c) : plain c = true := by
  induction l generalizing j with
  | nil => simp at hj
  | cons d r ih =>
    simp only [plainL] at h
    cases hp : plain d with
    | false => rw [hp] at h; cases h
    | true =>
      rw [hp] at h
      cases j with
      | zero => simp at hj; rw [← hj]; exact hp
      | succ j => exact ih h (by simpa using hj)

/-! ### arguments and results -/
theorem bareL_get {l l' : List D} (h : bareL l = some l') : l'.length = l.length ∧ ∀ (j : Nat) (c : D), l'[j]? = some c → ∃ c0, l[j]? = some c0 ∧ bare c0 = some c := by
  induction l generalizing l' with
  | nil => simp [bareL] at h; subst h; simp
  | cons d r ih =>
    simp only [bareL, Option.bind_eq_some_iff] at h
    obtain ⟨x, hx, y, hy, he⟩ := h
    simp at he; subst he
    obtain ⟨h1, h2⟩ := ih hy
    refine ⟨by simp [h1], fun j c hj => ?_⟩
    cases j with
    | zero => simp at hj; subst hj; exact ⟨d, by simp, hx⟩
    | succ j => obtain ⟨c0, h3, h4⟩ := h2 j c (by simpa using hj); exact ⟨c0, by simpa using h3, h4⟩

theorem Rep0.bare {μ : Mem} {d : D} {v : Value} (r : Rep0 μ d v) : ∀ {d' : D}, bare d = some d' → Rep0 μ d' v := by
  induction r with
  | bool b => intro d' h; simp [YtnpoikgkhhpdgaaDoorE.bare] at h; subst h; exact .bool b
  | int k n => intro d' h; simp [YtnpoikgkhhpdgaaDoorE.bare] at h; subst h; exact .int k n
  | str s => intro d' h; simp [YtnpoikgkhhpdgaaDoorE.bare] at h; subst h; exact .str s
  | nilp => intro d' h; simp [YtnpoikgkhhpdgaaDoorE.bare] at h; subst h; exact .nilp
  | nilf => intro d' h; simp [YtnpoikgkhhpdgaaDoorE.bare] at h; subst h; exact .nilf
  | fn f => intro d' h; simp [YtnpoikgkhhpdgaaDoorE.bare] at h; subst h; exact .fn f
  | slcNil ht =>
    intro d' h
    rcases ht with rfl | rfl <;> (simp [YtnpoikgkhhpdgaaDoorE.bare] at h; subst h)
    · exact .slcNil (.inl rfl)
    · exact .slcNil (.inr rfl)
  | slc X ht hc hs hm hr ih =>
    intro d' h
    rcases ht with rfl | ⟨rfl, hh⟩ <;> (simp [YtnpoikgkhhpdgaaDoorE.bare] at h; subst h)
    · exact .slc X (.inl rfl) hc hs hm hr
    · exact .slc X (.inr ⟨rfl, hh⟩) hc hs hm hr
  | @agg f cs vs hl hone hr ih =>
    intro d' h
    cases f with
    | true => simp [YtnpoikgkhhpdgaaDoorE.bare] at h; subst h; exact .agg hl hone hr
    | false =>
      simp only [YtnpoikgkhhpdgaaDoorE.bare, Option.bind_eq_some_iff] at h
      obtain ⟨l, hl', he⟩ := h
      cases hsl : singleL l with
      | false => rw [hsl] at he; cases he
      | true =>
      rw [hsl] at he
      simp at he; subst he
      obtain ⟨h1, h2⟩ := bareL_get hl'
      refine .agg (by rw [h1]; exact hl) hsl fun j c x hc hx => ?_
      obtain ⟨c0, h3, h4⟩ := h2 j c hc
      exact ih j c0 x h3 hx h4
  | @tup ds vs hl hr ih =>
    intro d' h
    simp only [YtnpoikgkhhpdgaaDoorE.bare, Option.bind_eq_some_iff] at h
    obtain ⟨l, hl', he⟩ := h
    simp at he; subst he
    obtain ⟨h1, h2⟩ := bareL_get hl'
    refine .tup (by rw [h1]; exact hl) fun j c x hc hx => ?_
    obtain ⟨c0, h3, h4⟩ := h2 j c hc
    exact ih j c0 x h3 hx h4
  | rptr X h1 hm hr ih => intro d' h; simp [YtnpoikgkhhpdgaaDoorE.bare] at h; subst h; exact .rptr X h1 hm hr

theorem Rep.bare {G : Gh} {d : D} {v : Value} (r : Rep G d v) : ∀ {d' : D}, bare d = some d' → Rep0 G.μ d' v := by
  induction r with
  | undef v => intro d' h; simp [YtnpoikgkhhpdgaaDoorE.bare] at h
  | pure r => intro d' h; exact r.bare h
  | ptr e => intro d' h; simp [YtnpoikgkhhpdgaaDoorE.bare] at h
  | view e hk hc ha => intro d' h; simp [YtnpoikgkhhpdgaaDoorE.bare] at h
  | ownNil => intro d' h; simp [YtnpoikgkhhpdgaaDoorE.bare] at h; subst h; exact .slcNil (.inl rfl)
  | own X hc hs hm hr ht => intro d' h; simp [YtnpoikgkhhpdgaaDoorE.bare] at h; subst h; exact .slc X (.inl rfl) hc hs hm hr
  | @agg cs vs hl hr ih =>
    intro d' h
    simp only [YtnpoikgkhhpdgaaDoorE.bare, Option.bind_eq_some_iff] at h
    obtain ⟨l, hl', he⟩ := h
    cases hsl : singleL l with
    | false => rw [hsl] at he; cases he
    | true =>
    rw [hsl] at he
    simp at he; subst he
    obtain ⟨h1, h2⟩ := bareL_get hl'
    refine .agg (by rw [h1]; exact hl) hsl fun j c x hc hx => ?_
    obtain ⟨c0, h3, h4⟩ := h2 j c hc
    exact ih j c0 x h3 hx h4
  | @tup ds vs hl hr ih =>
    intro d' h
    simp only [YtnpoikgkhhpdgaaDoorE.bare, Option.bind_eq_some_iff] at h
    obtain ⟨l, hl', he⟩ := h
    simp at he; subst he
    obtain ⟨h1, h2⟩ := bareL_get hl'
    refine .tup (by rw [h1]; exact hl) fun j c x hc hx => ?_
    obtain ⟨c0, h3, h4⟩ := h2 j c hc
    exact ih j c0 x h3 hx h4
  | @fn f caps vs hl hr ih =>
    intro d' h
    cases caps with
    | nil =>
      simp [YtnpoikgkhhpdgaaDoorE.bare] at h; subst h
      have : vs = #[] := by simpa using hl.symm
      subst this
      exact .fn f
    | cons c r => simp [YtnpoikgkhhpdgaaDoorE.bare] at h
end Go.YtnpoikgkhhpdgaaDoorE
