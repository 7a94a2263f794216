/-
  Regions that draw their order: the quiet part in any order, then the tail.
-/
import Derived.Test.YtnpoikgkhhpdgaaDoorEvU
namespace Go.YtnpoikgkhhpdgaaDoorE
variable {P : Program} {N : Nat} {X : Nat → Nat → Prop} {w0 : World} {μ0 : Mem} {G G' : Gh} {Cn Cn' : List Nat} {T T' : List (Nat × D)} {M M' : List (Nat × Ob)} {a : Act} {w w' : World}

def guardT : Option (Nat × Bool) → List Nat
  | none => []
  | some x => [x.1]
def ioReads (io : Io) : List Nat := guardT io.guard ++ opReads io.op

/-- every operation that this one waits for stands ahead of it -/
def backB (ops : Array Oper) : List Oper → Nat → Bool
  | [], _ => true
  | o :: r, i => (o.after.toList.all fun e => !(Region.binds .any e) || Nat.blt e.on i) && backB ops r (i + 1)
/-- does operation i wait for operation j? -/
def waitB (ops : Array Oper) (i j : Nat) : Bool := match ops[i]? with
  | some o => o.after.toList.any fun e => Region.binds .any e && Nat.beq e.on j
  | none => false
def beforeB (ops : Array Oper) : Nat → Nat → Nat → Bool
  | 0, _, _ => false
  | f + 1, i, j => waitB ops i j || (match ops[i]? with
    | some o => o.after.toList.any fun e => Region.binds .any e && beforeB ops f e.on j
    | none => false)
/-- who writes a temporary -/
def dstL : List Io → Nat → List (Nat × Nat)
  | [], _ => []
  | io :: r, i => match io.dst with
    | some t => (t, i) :: dstL r (i + 1)
    | none => dstL r (i + 1)
def keysB : List (Nat × Nat) → Bool
  | [] => true
  | p :: r => (match gt r p.1 with | none => true | some _ => false) && keysB r
def readsB (ops : Array Oper) (ds : List (Nat × Nat)) : List Io → Nat → Bool
  | [], _ => true
  | io :: r, i => ((ioReads io).all fun t => match gt ds t with
      | some j => (Nat.blt j i && waitB ops i j) || Nat.beq j i || (Nat.blt i j && beforeB ops 60 j i)
      | none => true) && readsB ops ds r (i + 1)
/-- an operation's kind: an append; a reader of boxes; a writer of boxes -/
def kindB (wr : List Nat) (i : Nat) (c : Op) : Bool × Bool × Bool := (isApp c, isR c, isW wr i c)
def clash (x y : Bool × Bool × Bool) : Bool := (x.1 && y.1) || (x.2.2 && (y.2.2 || y.2.1)) || (x.2.1 && y.2.2)
def isAl : Op → Bool
  | .alloc _ _ => true
  | _ => false
/-- operations that meet in a box or in a slice's room stand in order -/
def ordB (ops : Array Oper) (wr : List Nat) : List Io → Nat → List (Nat × Bool × Bool × Bool) → Bool
  | [], _, _ => true
  | io :: r, i, js => (js.all fun j => match clash (kindB wr i io.op) j.2 with
      | true => beforeB ops 60 i j.1 && !(isAl io.op && j.2.2.2)
      | false => true) && ordB ops wr r (i + 1) ((i, kindB wr i io.op) :: js)

def drawB (P : Program) (N : Nat) (ops : Array Oper) (ios : List Io) (wr : List Nat) (defs boxes : List Nat) : Bool :=
  okIos P N ops ops.toList ios && apartB (siteL ios) && subB defs (siteL ios) && lowB boxes && backB ops ops.toList 0 && keysB (dstL ios 0)
    && readsB ops (dstL ios 0) ios 0 && ordB ops wr ios 0 []

theorem backB_get {ops : Array Oper} : ∀ {os : List Oper} {k : Nat}, backB ops os k = true → ∀ (i : Nat) (o : Oper), os[i]? = some o → ∀ e ∈ o.after, Region.binds .any e = true → e.on < k + i
  | [], k, _, i, o, hi => by simp at hi
  | o :: r, k, h, i, o', hi => by
    simp only [backB, Bool.and_eq_true] at h
    cases i with
    | zero =>
      simp at hi; subst hi
      intro e he hb
      have := List.all_eq_true.1 h.1 e (by simpa using he)
      simp [hb] at this
      simpa using this
    | succ i =>
      intro e he hb
      have := backB_get h.2 i o' (by simpa using hi) e he hb
      omega

theorem dstL_get : ∀ (ios : List Io) (k : Nat) (i : Nat) (io : Io) (t : Nat), ios[i]? = some io → io.dst = some t → keysB (dstL ios k) = true → gt (dstL ios k) t = some (k + i)
  | [], k, i, io, t, hi, _, _ => by simp at hi
  | x :: r, k, i, io, t, hi, ht, hk => by
    cases i with
    | zero =>
      simp at hi; subst hi
      simp only [dstL, ht, gt, nbT]
      rfl
    | succ i =>
      have hi' : r[i]? = some io := by simpa using hi
      cases hx : x.dst with
      | none =>
        simp only [dstL, hx] at hk ⊢
        rw [dstL_get r (k + 1) i io t hi' ht hk]; congr 1; omega
      | some t' =>
        simp only [dstL, hx, keysB, Bool.and_eq_true] at hk ⊢
        have h1 := dstL_get r (k + 1) i io t hi' ht hk.2
        have hne : t' ≠ t := fun he => by
          subst he
          have := hk.1
          rw [h1] at this; cases this
        simp only [gt, nbF hne]
        rw [h1]; congr 1; omega
theorem keys_apart {ios : List Io} (h : keysB (dstL ios 0) = true) : dstsApart ios := by
  intro i j x y t hi hj hx hy
  have h1 := dstL_get ios 0 i x t hi hx h
  have h2 := dstL_get ios 0 j y t hj hy h
  rw [h1] at h2
  have := Option.some.inj h2
  omega

theorem waitB_spec {ops : Array Oper} {i j : Nat} (h : waitB ops i j = true) : ∃ o, ops[i]? = some o ∧ ∃ e ∈ o.after, Region.binds .any e = true ∧ e.on = j := by
  unfold waitB at h
  split at h
  · rename_i o ho
    obtain ⟨e, he, hb⟩ := List.any_eq_true.1 h
    simp only [Bool.and_eq_true] at hb
    exact ⟨o, ho, e, by simpa using he, hb.1, Nat.eq_of_beq_eq_true hb.2⟩
  · cases h
theorem readsB_get {ops : Array Oper} {ds : List (Nat × Nat)} : ∀ {ios : List Io} {k : Nat}, readsB ops ds ios k = true → ∀ (i : Nat) (io : Io), ios[i]? = some io → ∀ t ∈ ioReads io, ∀ j, gt ds t = some j →
    (j < k + i ∧ waitB ops (k + i) j = true) ∨ j = k + i ∨ (k + i < j ∧ beforeB ops 60 j (k + i) = true)
  | [], k, _, i, io, hi => by simp at hi
  | x :: r, k, h, i, io, hi => by
    simp only [readsB, Bool.and_eq_true] at h
    intro t ht j hj
    cases i with
    | zero =>
      simp at hi; subst hi
      have := List.all_eq_true.1 h.1 t ht
      rw [hj] at this
      simp only [Bool.or_eq_true, Bool.and_eq_true] at this
      rcases this with (⟨h1, h2⟩ | h1) | ⟨h1, h2⟩
      · exact .inl ⟨by simpa using h1, by simpa using h2⟩
      · exact .inr (.inl (by simpa using h1))
      · exact .inr (.inr ⟨by simpa using h1, by simpa using h2⟩)
    | succ i =>
      have := readsB_get h.2 i io (by simpa using hi) t ht j hj
      rw [show k + 1 + i = k + (i + 1) by omega] at this
      exact this
theorem ordB_get {ops : Array Oper} {wr : List Nat} : ∀ {ios : List Io} {k : Nat} {js : List (Nat × Bool × Bool × Bool)}, ordB ops wr ios k js = true →
    (∀ (i : Nat) (io : Io), ios[i]? = some io → ∀ j ∈ js, clash (kindB wr (k + i) io.op) j.2 = true → beforeB ops 60 (k + i) j.1 = true ∧ ¬ (isAl io.op = true ∧ j.2.2.2 = true)) ∧
    ∀ (i j : Nat) (x y : Io), j < i → ios[i]? = some x → ios[j]? = some y → clash (kindB wr (k + i) x.op) (kindB wr (k + j) y.op) = true →
      beforeB ops 60 (k + i) (k + j) = true ∧ ¬ (isAl x.op = true ∧ isW wr (k + j) y.op = true)
  | [], k, js, _ => ⟨fun i io hi => by simp at hi, fun i j x y _ hi => by simp at hi⟩
  | z :: r, k, js, h => by
    simp only [ordB, Bool.and_eq_true] at h
    obtain ⟨h1, h2⟩ := ordB_get h.2
    refine ⟨fun i io hi j hj hc => ?_, fun i j x y hlt hi hj hc => ?_⟩
    · cases i with
      | zero =>
        simp at hi; subst hi
        have := List.all_eq_true.1 h.1 j hj
        rw [Nat.add_zero] at hc ⊢
        rw [hc] at this
        simp only [Bool.and_eq_true, Bool.not_eq_true'] at this
        refine ⟨this.1, fun hcon => ?_⟩
        rw [hcon.1, hcon.2] at this
        simp at this
      | succ i =>
        rw [show k + (i + 1) = k + 1 + i by omega] at hc ⊢
        exact h1 i io (by simpa using hi) j (List.mem_cons_of_mem _ hj) hc
    · cases i with
      | zero => omega
      | succ i =>
        rw [show k + (i + 1) = k + 1 + i by omega] at hc ⊢
        cases j with
        | zero =>
          simp at hj; subst hj
          exact h1 i x (by simpa using hi) (k, kindB wr k z.op) (List.mem_cons_self ..) hc
        | succ j =>
          rw [show k + (j + 1) = k + 1 + j by omega] at hc ⊢
          exact h2 i j x y (by omega) (by simpa using hi) (by simpa using hj) hc

theorem beforeB_listed {ops : Array Oper} {nq : Nat} {listed : Array Bool} (inv : HeadInv .any ops nq listed) : ∀ (f i j : Nat), beforeB ops f i j = true → (∀ o, ops[i]? = some o → ∀ e ∈ o.after, Region.binds .any e = true → listed.getD e.on false = true) → listed.getD j false = true
  | 0, _, _, h, _ => by simp [beforeB] at h
  | f + 1, i, j, h, hr => by
    simp only [beforeB, Bool.or_eq_true] at h
    rcases h with h | h
    · obtain ⟨o, ho, e, he, hb, hon⟩ := waitB_spec h
      rw [← hon]; exact hr o ho e he hb
    · split at h
      · rename_i o ho
        obtain ⟨e, he, hb⟩ := List.any_eq_true.1 h
        simp only [Bool.and_eq_true] at hb
        have h1 := hr o ho e (by simpa using he) hb.1
        exact beforeB_listed inv f e.on j hb.2 fun o' ho' e' he' hb' => inv.closed _ o' ho' h1 e' he' hb'
      · cases h
theorem beforeB_closed {ops : Array Oper} {nq : Nat} {listed : Array Bool} (inv : HeadInv .any ops nq listed) {f i j : Nat} (h : beforeB ops f i j = true) (hl : listed.getD i false = true) : listed.getD j false = true :=
  beforeB_listed inv f i j h fun o ho e he hb => inv.closed i o ho hl e he hb

/-- how many stand out -/
def unl (listed : Array Bool) : Nat → Nat
  | 0 => 0
  | n + 1 => unl listed n + (if listed.getD n false = true then 0 else 1)
theorem unl_set_ge (listed : Array Bool) (i : Nat) : ∀ n, n ≤ i → unl (listed.setIfInBounds i true) n = unl listed n
  | 0, _ => rfl
  | n + 1, h => by
    simp only [unl]
    rw [unl_set_ge listed i n (by omega), getD_set_ne false (by omega)]
theorem unl_set {listed : Array Bool} {i : Nat} (hi : listed.getD i true = false) : ∀ n, i < n → unl (listed.setIfInBounds i true) n + 1 = unl listed n
  | 0, h => by omega
  | n + 1, h => by
    simp only [unl]
    have hlt : i < listed.size := by
      rcases Nat.lt_or_ge i listed.size with h' | h'
      · exact h'
      · simp [Array.getElem?_eq_none h'] at hi
    by_cases e : i = n
    · subst e
      rw [unl_set_ge listed i i (Nat.le_refl _), getD_both hi]
      have : (listed.setIfInBounds i true).getD i false = true := by simp [hlt]
      rw [this]; simp
    · have := unl_set hi n (by omega)
      rw [getD_set_ne false e]
      omega
theorem unl_zero {listed : Array Bool} : ∀ n, unl listed n = 0 → ∀ i, i < n → listed.getD i false = true
  | 0, _, i, hi => by omega
  | n + 1, h, i, hi => by
    simp only [unl] at h
    by_cases hl : listed.getD n false = true
    · rw [if_pos hl] at h
      by_cases e : i = n
      · rw [e]; exact hl
      · exact unl_zero n (by omega) i (by omega)
    · rw [if_neg hl] at h; omega
theorem unl_pos {listed : Array Bool} : ∀ n, 0 < unl listed n → ∃ i, i < n ∧ listed.getD i false = false
  | 0, h => by simp [unl] at h
  | n + 1, h => by
    simp only [unl] at h
    by_cases hl : listed.getD n false = true
    · rw [if_pos hl] at h
      obtain ⟨i, h1, h2⟩ := unl_pos n (by omega)
      exact ⟨i, by omega, h2⟩
    · exact ⟨n, by omega, by simpa using hl⟩
theorem unl_replicate (m : Nat) : ∀ n, unl (Array.replicate m false) n = n
  | 0 => rfl
  | n + 1 => by simp only [unl]; rw [unl_replicate m n, getD_replicate_false]; simp

theorem ready_or {ops : Array Oper} {nq : Nat} {listed : Array Bool} (hback : backB ops ops.toList 0 = true) (hsz : listed.size = ops.size) (hn : nq ≤ ops.size) :
    ∀ (i : Nat), i < nq → listed.getD i false = true ∨ Region.ready .any ops listed ≠ [] := by
  intro i
  induction i using Nat.strongRecOn with
  | _ i ih =>
    intro hi
    by_cases hl : listed.getD i false = true
    · exact .inl hl
    · right
      by_cases hall : ∀ j, j < i → listed.getD j false = true
      · have hlt : i < ops.size := by omega
        have hmem : i ∈ Region.ready .any ops listed := by
          refine mem_ready.2 ⟨getD_in (by omega) (by simpa using hl), ops[i], by simp, fun e he hb => hall _ ?_⟩
          have := backB_get hback i ops[i] (by simp) e he hb
          omega
        exact List.ne_nil_of_mem hmem
      · have ⟨j, hj⟩ := Classical.not_forall.1 hall
        have ⟨hj1, hj2⟩ := Classical.not_imp.1 hj
        exact (ih j hj1 (by omega)).resolve_left hj2

section
variable {ro : Option Nat} {n : Nat} {Q : Exit → Act → World → Prop}

/-- where a region stands -/
structure HInv (N : Nat) (X : Nat → Nat → Prop) (w0 : World) (μ0 : Mem) (Gs : Gh) (q : List Io) (wr : List Nat) (T0 : List (Nat × D)) (Ms : Nat → List (Nat × Ob)) (Cs : Nat → List Nat) (vs : Nat → D) (listed : Array Bool) (a : Act) (w : World) : Prop where
  ex : ∃ G T m m2, Rel N X w0 μ0 G (Cs m) T (Ms m2) a w ∧ Le Gs G ∧ (m ≤ q.length ∧ m2 ≤ q.length) ∧
    (∀ (i : Nat) (io : Io) (t : Nat), q[i]? = some io → io.dst = some t → listed.getD i false = true → gt T t = some (vs i)) ∧
    (∀ t, (∀ (i : Nat) (io : Io), q[i]? = some io → io.dst = some t → listed.getD i false = false) → gt T t = gt T0 t) ∧
    (∀ (i : Nat) (io : Io), q[i]? = some io → isApp io.op = true → (listed.getD i false = true ↔ i < m)) ∧
    (∀ (i : Nat) (io : Io), q[i]? = some io → isW wr i io.op = true → (listed.getD i false = true ↔ i < m2)) ∧
    (∀ (i : Nat) (io : Io), q[i]? = some io → listed.getD i false = false → (∀ s ∈ opSites io.op, G.τ s = none) ∧ ∀ s z, io.op = .alloc s z → G.ρ s = none)

theorem siteL_mem {ios : List Io} {i : Nat} {io : Io} (h : ios[i]? = some io) {s : Nat} (hs : s ∈ opSites io.op) : s ∈ siteL ios := by
  induction ios generalizing i with
  | nil => simp at h
  | cons x r ih =>
    cases i with
    | zero => simp at h; subst h; exact List.mem_append_left _ hs
    | succ i => exact List.mem_append_right _ (ih (by simpa using h))
theorem siteL_apart {ios : List Io} (h : apartB (siteL ios) = true) {i j : Nat} {x y : Io} (hi : ios[i]? = some x) (hj : ios[j]? = some y) (hne : i ≠ j) {s : Nat} (hs : s ∈ opSites x.op) (hs' : s ∈ opSites y.op) : False := by
  induction ios generalizing i j with
  | nil => simp at hi
  | cons z r ih =>
    simp only [siteL] at h
    obtain ⟨_, h2, h3⟩ := apartB_append h
    cases i with
    | zero =>
      simp at hi; subst hi
      cases j with
      | zero => exact hne rfl
      | succ j => exact h3 s hs (siteL_mem (by simpa using hj) hs')
    | succ i =>
      cases j with
      | zero => simp at hj; subst hj; exact h3 s hs' (siteL_mem (by simpa using hi) hs)
      | succ j => exact ih h2 (by simpa using hi) (by simpa using hj) (fun e => hne (by omega))

/-- one operation is taken -/
theorem head_step {Φ : Tab} {run : Run} (hrun : RunOk P run) (hΦ : TabOk P Φ) {ops : Array Oper} {q : List Io} {wr : List Nat} (hq : q.length = ops.size) {Ts : Nat → List (Nat × D)} {Ms : Nat → List (Nat × Ob)} {Cs : Nat → List Nat} {vs : Nat → D} {Gs : Gh} {K : Act → World → Prop}
    (hok : ∀ (j : Nat) (io : Io), q[j]? = some io → ∃ o, ops[j]? = some o ∧ okIo P N ops o io = true) (hseq : QSeq Φ run wr 0 q Ts Ms Cs vs) (hkeys : keysB (dstL q 0) = true) (hreads : readsB ops (dstL q 0) q 0 = true) (hord : ordB ops wr q 0 [] = true)
    (hap : apartB (siteL q) = true)
    (hbox : ∀ (i : Nat) (io : Io) (s : Nat) (z : D), q[i]? = some io → io.op = .alloc s z → gt (Ms 0) s = some (.box z))
    (hbox2 : ∀ (i j : Nat) (x y : Io) (s : Nat) (z z' : D), q[i]? = some x → q[j]? = some y → x.op = .alloc s z → y.op = .alloc s z' → i = j)
    {listed : Array Bool} (inv : HeadInv .any ops ops.size listed) {i : Nat} (hi : i ∈ Region.ready .any ops listed) (H : HInv N X w0 μ0 Gs q wr (Ts 0) Ms Cs vs listed a w)
    (hK : ∀ a' w', HInv N X w0 μ0 Gs q wr (Ts 0) Ms Cs vs (listed.setIfInBounds i true) a' w' → K a' w') : wpOpIn (FF ro) n P ops Q i K a w := by
  obtain ⟨G, T, m, m2, hR, hG, ⟨hm, hm2⟩, hv1, hv2, hC, hW, hfr⟩ := H.ex
  have hdst := keys_apart hkeys
  obtain ⟨hun, oi, hoi, hall⟩ := mem_ready.1 hi
  have hin : i < q.length := by rw [hq]; exact (Array.getElem?_eq_some_iff.1 hoi).1
  have hio : q[i]? = some q[i] := by simp
  have hun' := getD_both hun
  have hlt : i < listed.size := by rw [inv.size]; exact (Array.getElem?_eq_some_iff.1 hoi).1
  have hset : (listed.setIfInBounds i true).getD i false = true := by simp [hlt]
  obtain ⟨o, ho, hokio⟩ := hok i _ hio
  obtain ⟨hs1, hs2⟩ := QSeq.at hseq hdst i (by omega)
  have hbefore : ∀ j, beforeB ops 60 i j = true → listed.getD j false = true := fun j hb => beforeB_listed inv 60 i j hb fun o' ho' => by rw [hoi] at ho'; cases ho'; exact hall
  have hafter : ∀ j, beforeB ops 60 j i = true → listed.getD j false = false := fun j hb => by
    cases hl : listed.getD j false with
    | false => rfl
    | true => have := beforeB_closed inv hb hl; rw [hun'] at this; cases this
  have hordg := (ordB_get hord).2
  -- what it reads
  have hread : ∀ t ∈ ioReads q[i], gt T t = gt (Ts i) t := by
    intro t ht
    by_cases hex : ∃ (j : Nat) (io : Io), q[j]? = some io ∧ io.dst = some t
    · obtain ⟨j, io, hj, hd⟩ := hex
      have hlate : i ≤ j → listed.getD j false = false → gt T t = gt (Ts i) t := fun hij hl => by
        rw [hv2 t fun j' io' hj' hd' => by rw [hdst j' j io' io t hj' hj hd' hd]; exact hl, hs2 t fun j' io' hj' hjo' hd' => by have := hdst j' j io' io t hjo' hj hd' hd; omega]
      rcases readsB_get hreads i _ hio t ht (0 + j) (dstL_get q 0 j io t hj hd hkeys) with ⟨h1, h2⟩ | h1 | ⟨h1, h2⟩
      · obtain ⟨o', ho', e, he, hb, hon⟩ := waitB_spec h2
        rw [show 0 + i = i by omega] at ho'
        rw [hoi] at ho'; cases ho'
        have hl : listed.getD j false = true := by have := hall e he hb; rw [hon] at this; simpa using this
        rw [hv1 j io t hj hd hl, hs1 j io t (by omega) hj hd]
      · have : j = i := by omega
        subst this
        exact hlate (Nat.le_refl _) hun'
      · rw [show 0 + i = i by omega, show 0 + j = j by omega] at h2
        exact hlate (by omega) (hafter j h2)
    · have hno : ∀ (j : Nat) (io : Io), q[j]? = some io → io.dst ≠ some t := fun j io hj hd => hex ⟨j, io, hj, hd⟩
      rw [hv2 t fun j io hj hd => absurd hd (hno j io hj), hs2 t fun j io _ hj => hno j io hj]
  have hgr : wants T q[i].guard = wants (Ts i) q[i].guard := wants_congr fun t b hg => hread t (by simp [ioReads, hg, guardT])
  have hor : ∀ t ∈ opReads q[i].op, gt T t = gt (Ts i) t := fun t ht => hread t (List.mem_append_right _ ht)
  obtain ⟨b, hw, hbt, hbf, hT⟩ := hseq.step i _ hio
  rw [Nat.zero_add] at hbt
  have hokd := hokio
  simp only [okIo, Bool.and_eq_true] at hokd
  obtain ⟨hd, hdN⟩ := okDst_inv hokd.1.2
  -- the state that it meets
  have hcs : isApp q[i].op = true → Cs i = Cs m ∧ m ≤ i ∧ ∀ (j : Nat) (io : Io), j < i → q[j]? = some io → isApp io.op = true → listed.getD j false = true := fun hia => by
    have hmle : m ≤ i := by
      rcases Nat.lt_or_ge i m with h | h
      · have := (hC i _ hio hia).2 h; rw [hun'] at this; cases this
      · exact h
    have hb : ∀ (j : Nat) (io : Io), j < i → q[j]? = some io → isApp io.op = true → listed.getD j false = true := fun j io h1 hj hja => by
      have := (hordg i j _ io h1 hio hj (by simp [clash, kindB, hia, hja])).1
      exact hbefore j (by simpa using this)
    refine ⟨?_, hmle, hb⟩
    have := QSeq.cs hseq m (i - m) (by omega) fun j io h1 h2 hj => by
      cases hja : isApp io.op with
      | false => rfl
      | true => have := (hC j io hj hja).1 (hb j io (by omega) hj hja); omega
    rwa [show m + (i - m) = i by omega] at this
  have hms : isW wr i q[i].op = true ∨ isR q[i].op = true → Ms i = Ms m2 ∧ (∀ (j : Nat) (io : Io), j < i → q[j]? = some io → isW wr j io.op = true → listed.getD j false = true) ∧
      ∀ (j : Nat) (io : Io), i < j → q[j]? = some io → isW wr j io.op = true → listed.getD j false = false := fun hk => by
    have h1 : ∀ (j : Nat) (io : Io), j < i → q[j]? = some io → isW wr j io.op = true → listed.getD j false = true := fun j io h1 hj hja => by
      have := (hordg i j _ io h1 hio hj (by rcases hk with hk | hk <;> simp [clash, kindB, hk, hja])).1
      exact hbefore j (by simpa using this)
    have h2 : ∀ (j : Nat) (io : Io), i < j → q[j]? = some io → isW wr j io.op = true → listed.getD j false = false := fun j io h1 hj hja => by
      have := (hordg j i io _ h1 hj hio (by rcases hk with hk | hk <;> simp [clash, kindB, hk, hja])).1
      exact hafter j (by simpa using this)
    refine ⟨?_, h1, h2⟩
    rcases Nat.le_total m2 i with hle | hle
    · have := QSeq.ms hseq m2 (i - m2) (by omega) fun j io h3 h4 hj => by
        rw [Nat.zero_add]
        cases hja : isW wr j io.op with
        | false => rfl
        | true => have := (hW j io hj hja).1 (h1 j io (by omega) hj hja); omega
      rwa [show m2 + (i - m2) = i by omega] at this
    · have := QSeq.ms hseq i (m2 - i) (by omega) fun j io h3 h4 hj => by
        rw [Nat.zero_add]
        cases hja : isW wr j io.op with
        | false => rfl
        | true =>
          have hl := (hW j io hj hja).2 (by omega)
          rcases Nat.lt_or_ge i j with h | h
          · rw [h2 j io h hj hja] at hl; cases hl
          · have : j = i := by omega
            subst this
            rw [hun'] at hl; cases hl
      rw [show i + (m2 - i) = m2 by omega] at this
      exact this.symm
  -- the temporaries behind it
  have hnext1 : ∀ (j : Nat) (io : Io) (t : Nat), q[j]? = some io → io.dst = some t → (listed.setIfInBounds i true).getD j false = true → gt (put T q[i].dst (vs i)) t = some (vs j) := by
    intro j io t hj hdj hl
    by_cases e : j = i
    · subst e
      rw [hio] at hj; cases hj
      rw [hdj]; exact gt_st_same _ _ _
    · rw [getD_set_ne false (Ne.symm e)] at hl
      cases hdi : q[i].dst with
      | none => exact hv1 j io t hj hdj hl
      | some t' =>
        have hne : t ≠ t' := fun he => e (hdst j i io q[i] t hj hio hdj (by rw [hdi, he]))
        simp only [put]
        rw [gt_st_other _ _ hne]
        exact hv1 j io t hj hdj hl
  have hnext2 : ∀ t, (∀ (j : Nat) (io : Io), q[j]? = some io → io.dst = some t → (listed.setIfInBounds i true).getD j false = false) → gt (put T q[i].dst (vs i)) t = gt (Ts 0) t := by
    intro t ht
    have hb : ∀ (j : Nat) (io : Io), q[j]? = some io → io.dst = some t → listed.getD j false = false := fun j io hj hdj => by
      have h1 := ht j io hj hdj
      by_cases e : i = j
      · rw [← e, hset] at h1; cases h1
      · rwa [getD_set_ne false e] at h1
    cases hdi : q[i].dst with
    | none => exact hv2 t hb
    | some t' =>
      have hne : t ≠ t' := fun he => by have := ht i _ hio (by rw [hdi, he]); rw [hset] at this; cases this
      simp only [put]
      rw [gt_st_other _ _ hne]
      exact hv2 t hb
  have hold : ∀ (j : Nat), (listed.setIfInBounds i true).getD j false = false → j ≠ i ∧ listed.getD j false = false := fun j hj => by
    by_cases e : i = j
    · rw [← e, hset] at hj; cases hj
    · exact ⟨Ne.symm e, by rwa [getD_set_ne false e] at hj⟩
  -- how far the appends and the writers are
  have hCnext : ∃ m', m' ≤ q.length ∧ (∀ (j : Nat) (io : Io), q[j]? = some io → isApp io.op = true → ((listed.setIfInBounds i true).getD j false = true ↔ j < m')) ∧ ((isApp q[i].op = true ∧ Cs i = Cs m ∧ m' = i + 1) ∨ (isApp q[i].op = false ∧ m' = m)) := by
    cases hia : isApp q[i].op with
    | true =>
      obtain ⟨h1, h2, h3⟩ := hcs hia
      refine ⟨i + 1, by omega, fun j io hj hja => ?_, .inl ⟨rfl, h1, rfl⟩⟩
      by_cases e : j = i
      · subst e; exact ⟨fun _ => by omega, fun _ => hset⟩
      · rw [getD_set_ne false (Ne.symm e)]
        exact ⟨fun hl => by have := (hC j io hj hja).1 hl; omega, fun hji => h3 j io (by omega) hj hja⟩
    | false =>
      refine ⟨m, hm, fun j io hj hja => ?_, .inr ⟨rfl, rfl⟩⟩
      have e : j ≠ i := fun e => by subst e; rw [hio] at hj; cases hj; rw [hia] at hja; cases hja
      rw [getD_set_ne false (Ne.symm e)]; exact hC j io hj hja
  have hMnext : ∃ m', m' ≤ q.length ∧ (∀ (j : Nat) (io : Io), q[j]? = some io → isW wr j io.op = true → ((listed.setIfInBounds i true).getD j false = true ↔ j < m')) ∧ ((isW wr i q[i].op = true ∧ Ms i = Ms m2 ∧ m' = i + 1) ∨ (isW wr i q[i].op = false ∧ m' = m2)) := by
    cases hia : isW wr i q[i].op with
    | true =>
      obtain ⟨h1, h2, h3⟩ := hms (.inl hia)
      refine ⟨i + 1, by omega, fun j io hj hja => ?_, .inl ⟨rfl, h1, rfl⟩⟩
      by_cases e : j = i
      · subst e; exact ⟨fun _ => by omega, fun _ => hset⟩
      · rw [getD_set_ne false (Ne.symm e)]
        refine ⟨fun hl => ?_, fun hji => h2 j io (by omega) hj hja⟩
        rcases Nat.lt_or_ge i j with h | h
        · rw [h3 j io h hj hja] at hl; cases hl
        · omega
    | false =>
      refine ⟨m2, hm2, fun j io hj hja => ?_, .inr ⟨rfl, rfl⟩⟩
      have e : j ≠ i := fun e => by subst e; rw [hio] at hj; cases hj; rw [hia] at hja; cases hja
      rw [getD_set_ne false (Ne.symm e)]; exact hW j io hj hja
  obtain ⟨m', hm', hC', hCc⟩ := hCnext
  obtain ⟨m2', hm2', hW', hWc⟩ := hMnext
  cases b with
  | false =>
    obtain ⟨hvu, hMu, hCu⟩ := hbf rfl
    refine io_wp hR ho hokio (hgr.trans hw) (fun h => by cases h) (fun _ => ?_)
    rw [hd]
    have e1 : Cs m' = Cs m := by rcases hCc with ⟨_, h1, rfl⟩ | ⟨_, rfl⟩; exact hCu.trans h1; rfl
    have e2 : Ms m2' = Ms m2 := by rcases hWc with ⟨_, h1, rfl⟩ | ⟨_, rfl⟩; exact hMu.trans h1; rfl
    refine hK _ _ ⟨G, put T q[i].dst .undef, m', m2', by rw [e1, e2]; exact hR.put _ hdN (.undef _), hG, ⟨hm', hm2'⟩, by rw [← hvu]; exact hnext1, by rw [← hvu]; exact hnext2, hC', hW', fun j io hj hl => hfr j io hj (hold j hl).2⟩
  | true =>
    have hop := hbt rfl
    obtain ⟨hf1, hf2⟩ := hfr i _ hio hun'
    refine io_wp hR ho hokio (hgr.trans hw) (fun _ => ?_) (fun h => by cases h)
    rcases hWc with ⟨hia, hMi, rfl⟩ | ⟨hia, rfl⟩
    · -- a writer
      rw [hia] at hop
      simp only [dop] at hop
      rw [← lop_congr hor] at hop
      obtain ⟨hc1, hc2⟩ := lop_Cn hia hop (Cs m)
      rw [hMi] at hc2
      have hap0 : isApp q[i].op = false := by
        generalize q[i].op = c at hia
        cases c <;> first | rfl | cases hia
      have em : m' = m := by rcases hCc with ⟨h1, _⟩ | ⟨_, h1⟩; rw [hap0] at h1; cases h1; exact h1
      subst em
      refine lop_wp hR hrun hΦ hokd.1.1 hc2 hf1 fun v w' G' h1 h2 h4 h5 => ?_
      rw [hd]
      refine hK _ _ ⟨G', put T q[i].dst (vs i), m', i + 1, h5.put _ hdN h4, hG.trans h1.Le, ⟨hm', hm2'⟩, hnext1, hnext2, hC', hW', fun j io hj hl => ?_⟩
      obtain ⟨hne, hl'⟩ := hold j hl
      obtain ⟨h6, h7⟩ := hfr j io hj hl'
      refine ⟨fun s hs => (h2 s fun hs' => siteL_apart hap hj hio hne hs hs').trans (h6 s hs), fun s z hz => ?_⟩
      -- the boxes of 'alloc' stand ahead of every writer
      exfalso
      have hRj : isR io.op = true := by rw [hz]; rfl
      rcases Nat.lt_or_ge j i with hji | hji
      · have := (hordg i j _ io hji hio hj (by simp [clash, kindB, hia, hRj])).1
        rw [hbefore j (by simpa using this)] at hl'; cases hl'
      · have := (hordg j i io _ (by omega) hj hio (by simp [clash, kindB, hia, hRj])).2
        exact this ⟨by rw [hz]; rfl, by simpa using hia⟩
    · rw [hia] at hop
      simp only [dop, Option.bind_eq_some_iff] at hop
      obtain ⟨⟨d1, C1⟩, hqa, he⟩ := hop
      simp at he
      obtain ⟨rfl, hM1, rfl⟩ := he
      rw [← qall_congr hor] at hqa
      -- the boxes
      have hqM : qall Φ run T (Ms m2') (Cs i) q[i].op = some (vs i, Cs (i + 1)) := by
        cases hr : isR q[i].op with
        | true => rw [← (hms (.inr hr)).1]; exact hqa
        | false => rw [qall_M (M' := Ms i) hr]; exact hqa
      have hqm : qall Φ run T (Ms m2') (Cs m) q[i].op = some (vs i, Cs m') := by
        rcases hCc with ⟨_, h1, rfl⟩ | ⟨h1, rfl⟩
        · rw [← h1]; exact hqM
        · exact (qall_Cn h1 hqM (Cs m')).2
      refine qall_wp hR hrun hΦ hokd.1.1 hqm hf1 (fun s z hz => ⟨hf2 s z hz, ?_⟩) fun v w' G' h1 h2 h3 h4 h5 => ?_
      · have hRi : isR q[i].op = true := by rw [hz]; rfl
        rw [← (hms (.inr hRi)).1]
        have := QSeq.ms hseq 0 i (by omega) fun j io _ h4 hj => by
          rw [Nat.zero_add]
          cases hja : isW wr j io.op with
          | false => rfl
          | true =>
            have := (hordg i j _ io (by omega) hio hj (by simp [clash, kindB, hRi, hja])).2
            exact absurd ⟨by rw [hz]; rfl, by simpa using hja⟩ this
        rw [Nat.zero_add] at this
        rw [this]; exact hbox i _ s z hio hz
      rw [hd]
      refine hK _ _ ⟨G', put T q[i].dst (vs i), m', m2', h5.put _ hdN h4, hG.trans h1.Le, ⟨hm', hm2'⟩, hnext1, hnext2, hC', hW', fun j io hj hl => ?_⟩
      obtain ⟨hne, hl'⟩ := hold j hl
      obtain ⟨h6, h7⟩ := hfr j io hj hl'
      refine ⟨fun s hs => (h2 s fun hs' => siteL_apart hap hj hio hne hs hs').trans (h6 s hs), fun s z hz => ?_⟩
      refine (h3 s fun hs' => ?_).trans (h7 s z hz)
      have : ∃ z', q[i].op = .alloc s z' := by
        generalize hop : q[i].op = c at hs'
        cases c <;> simp [opBoxes] at hs'
        subst hs'; exact ⟨_, rfl⟩
      obtain ⟨z', hz'⟩ := this
      exact hne (hbox2 j i io q[i] s z z' hj hio hz hz')
end
end Go.YtnpoikgkhhpdgaaDoorE
