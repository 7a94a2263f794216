/-
  Codes.
-/
import Derived.Test.YtnpoikgkhhpdgaaDoorHmQ
import Derived.RangeFuncNested
set_option linter.unusedVariables false
namespace Go.YtnpoikgkhhpdgaaDoorH
open Go.RowKit
open Go.YtnpoikgkhhpdgaaDoorE (FF about_FF calls_FF okFn callFunc_run)
variable {P : Program} {gl : List Nat} {w0 : World} {ι κ : Inj} {H H' : Heap} {w w' : World} {T T' : Tm} {a : Act} {N n : Nat} {run : Run} {y : Yld} {o : Oper} {pl : Bool} {ro : Option Nat} {Q : Exit → Act → World → Prop}

/-! ### blocks that are no cells -/
/-- an object's block is put anew, and the object let go -/
theorem HR.odel (h : HR P gl w0 ι H w) {id b sz : Nat} {ob : Ob} (hg : H.get id = some ob) (he : ι id = some (b, sz)) (hown : isOwn ob = true) (o' : Obj) : HR P gl w0 ι (H.del id) (w.putObj b o') := by
  have get : ∀ {i ob}, (H.del id).get i = some ob → i ≠ id ∧ H.get i = some ob := fun {i ob} hh => by
    rw [Heap.get_del] at hh
    split at hh
    · cases hh
    · rename_i e; exact ⟨e, hh⟩
  have hsz : (w.putObj b o').heap.size = w.heap.size := by simp
  refine { wf := fun i n cs hg' => h.wf i n cs (get hg').2, below := ⟨h.below.os, h.below.tape, h.below.output, by rw [hsz]; exact h.below.size, fun k hk => ?_⟩, lt := h.lt, blk := fun i b' s hx => by rw [hsz]; exact h.blk i b' s hx, obs := fun i ob' b' s hg' hx => ?_, own := fun i ob' b' s hg' hx ho => h.own i ob' b' s (get hg').2 hx ho, apart := fun i j ob1 ob2 x x' hne h1 h2 ho hx hx' => h.apart i j ob1 ob2 x x' hne (get h1).2 (get h2).2 ho hx hx', glob := h.glob }
  · rw [World.putObj_heap_other (by have := h.own id _ b sz hg he hown; omega)]; exact h.below.block k hk
  · obtain ⟨h1, h2⟩ := get hg'
    have := h.apart id i _ ob' _ _ (Ne.symm h1) hg h2 hown he hx
    exact (h.obs i ob' b' s h2 hx).same (World.putObj_heap_other (Ne.symm this)) (Inj.le_refl _)
theorem HR.oput (h : HR P gl w0 ι H w) {id b sz : Nat} {ob ob' : Ob} (hg : H.get id = some ob) (he : ι id = some (b, sz)) (hown : isOwn ob = true) {o' : Obj} (hob : ObOk P gl ι (w.putObj b o') ob' b sz) : HR P gl w0 ι (H.set id ob') (w.putObj b o') := by
  have hd := h.odel hg he hown o'
  have hp := hd.put (id := id) (b := b) (sz := sz) (κ := ι) (ob := ob') (h.lt id _ he) he (Inj.le_refl _) (fun _ _ => rfl) (by simpa using h.blk id b sz he)
    (fun _ => h.own id _ b sz hg he hown) (fun i ob1 x hne hg' hx => by
      rw [Heap.get_del, if_neg hne] at hg'
      exact (h.apart id i _ ob1 _ x (Ne.symm hne) hg hg' hown he hx).symm) hob
  exact hp.turn (Nat.le_refl _) (fun i x _ => (set_del H id _ i).symm) fun i n cs hg' => hp.wf i n cs (by rw [set_del]; exact hg')
theorem HR.loopAt (h : HR P gl w0 ι H w) {id b sz : Nat} {ps : List Nat} {asg body : C} {T0 : Tm} {s : LS} {pe : Option Ex} (hg : H.get id = some (.loop ps asg body T0 s pe)) (he : ι id = some (b, sz)) :
    ∃ r N, w.heap[b]? = some (.loop r) ∧ r.params.toList = ps ∧ r.state = lsOf s ∧ peOf pe = some r.pending ∧ r.tmps.size = N ∧ (∀ p ∈ ps, p < N ∧ p < kD) ∧ mC P gl N false asg r.assign = true ∧ mC P gl N false body r.body = true ∧ TmOk ι T0 r.tmps :=
  h.obs id _ b sz hg he
/-- a loop's record turns -/
theorem HR.loopPut (h : HR P gl w0 ι H w) {id b sz : Nat} {ps : List Nat} {asg body : C} {T0 : Tm} {s s' : LS} {pe pe' : Option Ex} (hg : H.get id = some (.loop ps asg body T0 s pe)) (he : ι id = some (b, sz)) {r : Loop} (hr : w.heap[b]? = some (.loop r)) {st : LoopState} {pd : Option Code} (h1 : st = lsOf s') (h2 : peOf pe' = some pd) :
    HR P gl w0 ι (H.set id (.loop ps asg body T0 s' pe')) (w.putObj b (.loop { r with state := st, pending := pd })) := by
  obtain ⟨r', N, q1, q2, q3, q4, q5, q6, q7, q8, q9⟩ := h.loopAt hg he
  rw [hr] at q1
  cases q1
  exact h.oput hg he rfl ⟨{ r with state := st, pending := pd }, N, World.putObj_heap_same (h.blk id b sz he), q2, h1, h2, q5, q6, q7, q8, q9⟩
theorem loop_wf (ps : List Nat) (asg body : C) (T0 : Tm) (s : LS) (pe : Option Ex) : ∀ n cs, Ob.loop ps asg body T0 s pe = .cells true n cs → ∀ j x, cs.get j = some x → j < n := by intro n cs h; cases h
theorem dfr_wf (x : Bool) : ∀ n cs, Ob.dfr x = .cells true n cs → ∀ j x, cs.get j = some x → j < n := by intro n cs h; cases h

/-- the soundness of a code's run -/
def GoOk (P : Program) (gl : List Nat) (w0 : World) (go : Go1) : Prop := ∀ (c : C) (code : Code) (T : Tm) (H : Heap) (N : Nat) (pl : Bool) (ro : Option Nat) (n : Nat) (ι : Inj) (a : Act) (w : World) (Q : Exit → Act → World → Prop),
  mC P gl N pl c code = true → HR P gl w0 ι H w → AR pl ro N ι T a → Post P gl w0 pl ro N ι H Q (go c T H) → code.wpIn (FF ro) n P Q a w

theorem rf_wp (hrun : RunOk P gl w0 run) {x : Rd} {ps : List Nat} {asg body : C} {f : Operand} {params : Array Tmp} {ca cb : Code} (hf : okRd gl f x = true) (hps : params.toList = ps) (hpN : ∀ p ∈ ps, p < N ∧ p < kD) (ha : mC P gl N false asg ca = true) (hb : mC P gl N false body cb = true)
    (hH : HR P gl w0 ι H w) (hA : AR false ro N ι T a) (hQ : Post P gl w0 false ro N ι H Q (rangeO run x ps asg body T H)) : (Code.rangeFunc f params ca cb).wpIn (FF ro) n P Q a w := by
  unfold rangeO at hQ
  cases hv : rdv T x with
  | none => rw [hv] at hQ; exact hQ.elim
  | some v =>
  rw [hv] at hQ
  have hr := rd_sound hH hA.tmps hf hv
  obtain ⟨g, caps, e⟩ : ∃ g caps, v = .fn g caps := by
    cases v with
    | fn g caps => exact ⟨_, _, rfl⟩
    | _ => exact hQ.elim
  subst e
  have hQ0 : Post P gl w0 false ro N ι H Q (match rfPre T H with
    | none => .no
    | some q => match run g (.yld q.2.next :: caps) (q.2.push (.loop ps asg body T .ready none)) with
      | none => .no
      | some r => rfEnd q.1 q.2.next r.2) := hQ
  clear hQ
  cases hq : rfPre T H with
  | none => rw [hq] at hQ0; exact hQ0.elim
  | some q =>
  rw [hq] at hQ0
  simp only at hQ0
  cases hr2 : run g (.yld q.2.next :: caps) (q.2.push (.loop ps asg body T .ready none)) with
  | none => rw [hr2] at hQ0; exact hQ0.elim
  | some r =>
  rw [hr2] at hQ0
  have hQ : Post P gl w0 false ro N ι H Q (rfEnd q.1 q.2.next r.2) := hQ0
  clear hQ0
  generalize hu : a.eval f = u at hr
  cases hr with
  | @fn _ _ lb hl hrc =>
    have hrfn : VR ι (.fn g caps) (.func (.func g) #[] lb) := .fn hl hrc
    refine wpIn_rangeFunc ?_
    intro fn _
    -- what the loop's record is laid upon
    obtain ⟨mark, w1, l, ι1, dfb, he, hR1, hE1, hA1, hw1⟩ : ∃ mark w1 l ι1 dfb, (Instr.enterLoop fn a.tmps params ca cb (FF ro).round).run P w = .ok (l, mark) (w1.alloc (.loop { state := .ready, pending := none, fn := fn, tmps := a.tmps, params := params, assign := ca, body := cb, defers := dfb })) ∧
        HR P gl w0 ι1 q.2 w1 ∧ Ext H q.2 ι ι1 ∧ AR false ro N ι1 q.1 { a with defers := mark ++ a.defers } ∧ l = w1.heap.size := by
      unfold rfPre at hq
      cases ro with
      | some l0 =>
        obtain ⟨⟨id', sz, e1, e2⟩, _⟩ := hA.rnd1 l0 rfl
        rw [e1] at hq
        simp only at hq
        split at hq <;> first | (cases hq; done) | skip
        rename_i o1 o2 o3 o4 o5 o6 hlp
        cases hq
        obtain ⟨r0, _, e3, _⟩ := hH.loopAt hlp e2
        exact ⟨[], w, _, ι, _, run_enterLoop_inner e3 fn a.tmps params ca cb, hH, Ext.refl _ _, hA, rfl⟩
      | none =>
          obtain ⟨hkR, hD⟩ := hA.rnd0 rfl
          rw [hkR] at hq
          obtain ⟨T1, ht1, ht2⟩ := ob_some.1 hq
          cases ht2
          have hid := hH.fresh (Nat.le_refl H.next)
          have hle := Inj.le_add (b := w.heap.size) (sz := 1) hid
          have hb1 := (hH.pushed (dfr_wf true)).bind (id := H.next) (sz := 1) hid (by simp) (by rw [Heap.get_push, if_pos rfl]) (obj := .deferred (some [])) (by show (w.heap.push _)[w.heap.size]? = _; simp)
          refine ⟨[{ target := .collected w.heap.size, args := #[] }], w.alloc (.deferred (some [])), _, _, _, run_enterLoop_outer fn a.tmps params ca cb, hb1, Ext.add hid (Nat.le_refl _) (by simp), ?_, by show w.heap.size + 1 = (w.heap.push _).size; simp⟩
          -- the activation, its mark added
          have hT1 : ∃ l, T1 = (kD, .tup (.yld H.next :: l)) :: T ∧ Marks ι l a.defers := by
            unfold addD at ht1
            rcases hD with ⟨d1, d2⟩ | ⟨l, d1, d2⟩
            · rw [d1] at ht1
              cases ht1
              exact ⟨[], rfl, by rw [d2]; exact .nil⟩
            · rw [d1] at ht1
              cases ht1
              exact ⟨l, rfl, d2⟩
          obtain ⟨l, hT1, hM⟩ := hT1
          subst hT1
          have hneR : kR ≠ kD := by unfold kR kD; omega
          refine ⟨hA.sz, fun t v ht hg => ?_, (fun h => by cases h), fun _ => ⟨?_, .inr ⟨_, by rw [gt_cons, if_pos rfl], ?_⟩⟩, (fun l h => by cases h)⟩
          · rw [gt_cons, if_neg (by simp only; omega)] at hg
            exact hA.tmps.mono hle t v ht hg
          · rw [gt_cons, if_neg hneR]; exact (hA.rnd0 rfl).1
          · exact .cons (Inj.add_same _ _ _ _) (hM.mono hle)
    subst hw1
    have hid := hR1.fresh (Nat.le_refl q.2.next)
    have hle2 := Inj.le_add (b := w1.heap.size) (sz := 1) hid
    have hb2 := (hR1.pushed (loop_wf ps asg body T .ready none)).bind (id := q.2.next) (sz := 1) (ob := .loop ps asg body T .ready none) hid (by simp) (by rw [Heap.get_push, if_pos rfl])
      (obj := .loop { state := .ready, pending := none, fn := fn, tmps := a.tmps, params := params, assign := ca, body := cb, defers := dfb })
      ⟨{ state := .ready, pending := none, fn := fn, tmps := a.tmps, params := params, assign := ca, body := cb, defers := dfb }, N, (by show (w1.heap.push _)[w1.heap.size]? = _; simp), hps, rfl, rfl, hA.sz, hpN, ha, hb, hA.tmps.mono (Inj.le_trans hE1.le hle2)⟩
    have hargs : VRs (ι1.add q.2.next w1.heap.size 1) (.yld q.2.next :: caps) (#[.func (.yield w1.heap.size) #[] #[]] ++ lb) := by
      refine ⟨by simp [hl]; omega, fun j c z hc hz => ?_⟩
      cases j with
      | zero =>
        rw [Array.getElem?_append_left (by simp)] at hz
        simp at hc hz; subst hc; subst hz; exact .yld (Inj.add_same _ _ _ _)
      | succ j =>
        rw [Array.getElem?_append_right (by simp)] at hz
        exact (hrc j c z (by simpa using hc) (by simpa using hz)).mono (Inj.le_trans hE1.le hle2)
    obtain ⟨hokf, hcall⟩ := hrun g _ _ r.1 r.2 _ _ _ hr2 hb2 hargs
    refine ⟨w1.heap.size, mark, (w1.alloc (.loop { state := .ready, pending := none, fn := fn, tmps := a.tmps, params := params, assign := ca, body := cb, defers := dfb })), { target := .fn (.func g) lb, args := #[.func (.yield w1.heap.size) #[] #[]] }, (w1.alloc (.loop { state := .ready, pending := none, fn := fn, tmps := a.tmps, params := params, assign := ca, body := cb, defers := dfb })), g, #[.func (.yield w1.heap.size) #[] #[]] ++ lb, (w1.alloc (.loop { state := .ready, pending := none, fn := fn, tmps := a.tmps, params := params, assign := ca, body := cb, defers := dfb })), he, ?_, fun _ _ => trivial, ?_, (fun h => by cases h), ?_⟩
    · simp only [resolve, hu]
      simp [go_sem]
    · simp [invoke, callFunc_run hokf]
    · refine (calls_FF hcall).mono ?_
      rintro e w3 ⟨v3, ι3, e1, hE3, hR3, _⟩
      subst e1
      have hE2 : Ext q.2 (q.2.push (.loop ps asg body T .ready none)) ι1 (ι1.add q.2.next w1.heap.size 1) := Ext.add hid (Nat.le_refl _) (by simp)
      have hall := (hE1.trans hE2).trans hE3
      have hι3 : ι3 q.2.next = some (w1.heap.size, 1) := hE3.le _ _ (Inj.add_same _ _ _ _)
      have hA3 : AR false ro N ι3 q.1 { a with defers := mark ++ a.defers } := hA1.mono (Inj.le_trans hE2.le hE3.le)
      unfold rfEnd at hQ
      split at hQ
      · exact hQ.elim
      · rename_i ps' a' b' T0 s pe hnb hg3
        obtain ⟨r3, N3, q1, q2, q3, q4, _⟩ := hR3.loopAt hg3 hι3
        have hend := run_endLoop (P := P) q1 (by rw [q3]; cases s <;> first | (simp [lsOf]; done) | exact absurd rfl hnb)
        have hR4 := hR3.loopPut (s' := .exhausted) (pe' := pe) hg3 hι3 q1 (st := .exhausted) (pd := r3.pending) rfl q4
        have hE4 : Ext H (r.2.set q.2.next (.loop ps' a' b' T0 .exhausted pe)) ι ι3 := hall.trans (Ext.same rfl)
        refine ⟨r3.pending, _, hend, ?_⟩
        cases pe with
        | none =>
          have : r3.pending = none := (Option.some.inj q4).symm
          rw [this] at hR4 ⊢
          exact hQ _ _ ι3 hE4 hR4 hA3
        | some e =>
          cases e with
          | normal => exact hQ.elim
          | ret =>
            have : r3.pending = some .ret := (Option.some.inj q4).symm
            rw [this] at hR4 ⊢
            exact wpIn_ret (hQ _ _ ι3 hE4 hR4 hA3)
          | exit i =>
            have : r3.pending = some (.exit i) := (Option.some.inj q4).symm
            rw [this] at hR4 ⊢
            cases hb : Nat.blt i 1000000 with
            | false => simp only [hb, ite1_f] at hQ; exact hQ.elim
            | true =>
              simp only [hb, ite1_t] at hQ
              have h5 := hQ _ _ ι3 hE4 hR4 hA3
              rw [exOf_lt (blt_lt hb)] at h5
              exact wpIn_exit h5
      · exact hQ.elim

theorem inL_mem : ∀ {l : List Nat} {x : Nat}, inL l x = true → x ∈ l
  | [], x, h => by simp [inL] at h
  | z :: r, x, h => by
    simp only [inL, Bool.or_eq_true] at h
    rcases h with h | h
    · rw [Nat.eq_of_beq_eq_true h]; exact List.mem_cons_self ..
    · exact List.mem_cons_of_mem _ (inL_mem h)
theorem AR.keep (h : AR pl ro N ι T a) {ks : List Nat} (hk : pl = false → kD ∈ ks ∧ kR ∈ ks) : AR pl ro N ι (pickT T ks) a := by
  have no : ∀ t, gt T t = none → gt (pickT T ks) t = none := fun t ht => by
    cases hg : gt (pickT T ks) t with
    | none => rfl
    | some v => have := (gt_pickT T ks t v hg).1; rw [ht] at this; cases this
  refine ⟨h.sz, fun t v ht hg => h.tmps t v ht (gt_pickT T ks t v hg).1, fun hp => ?_, fun hr => ?_, fun l hl => ?_⟩
  · obtain ⟨q1, q2, q3, q4⟩ := h.plain hp
    exact ⟨q1, no _ q2, no _ q3, q4⟩
  · obtain ⟨q1, q2⟩ := h.rnd0 hr
    refine ⟨no _ q1, ?_⟩
    rcases q2 with ⟨d1, d2⟩ | ⟨l, d1, d2⟩
    · exact .inl ⟨no _ d1, d2⟩
    · cases pl with
      | true => obtain ⟨_, q, _⟩ := h.plain rfl; rw [d1] at q; cases q
      | false => exact .inr ⟨l, by rw [pickT_gt T ks _ (hk rfl).1]; exact d1, d2⟩
  · obtain ⟨⟨id, sz, d1, d2⟩, d3⟩ := h.rnd1 l hl
    cases pl with
    | true => obtain ⟨q, _⟩ := h.plain rfl; rw [hl] at q; cases q
    | false => exact ⟨⟨id, sz, by rw [pickT_gt T ks _ (hk rfl).2]; exact d1, d2⟩, d3⟩

/-- one code, then another -/
theorem then_wp {K : Tm → Heap → Out} {x : Out} {c1 : Code} {Kw : Act → World → Prop} (hQ : Post P gl w0 pl ro N ι H Q (thenO K x))
    (h1 : Post P gl w0 pl ro N ι H (Exit.then Kw Q) x → c1.wpIn (FF ro) n P (Exit.then Kw Q) a w)
    (h2 : ∀ T1 H1 a1 w1 ι1, x = .nrm T1 H1 → Ext H H1 ι ι1 → HR P gl w0 ι1 H1 w1 → AR pl ro N ι1 T1 a1 → Post P gl w0 pl ro N ι1 H1 Q (K T1 H1) → Kw a1 w1) : c1.wpIn (FF ro) n P (Exit.then Kw Q) a w := by
  refine h1 ?_
  cases x with
  | no => exact hQ
  | nrm T1 H1 =>
    intro a1 w1 ι1 hE hR hA
    have hQ' : Post P gl w0 pl ro N ι H Q (K T1 H1) := hQ
    exact h2 T1 H1 a1 w1 ι1 rfl hE hR hA (hQ'.le hE)
  | ret T1 H1 => exact hQ
  | ext id T1 H1 =>
    intro a1 w1 ι1 h3 h4 h5
    have h6 : Q (exOf id) a1 w1 := hQ a1 w1 ι1 h3 h4 h5
    unfold exOf at h6 ⊢
    split at h6
    · rename_i hlt; rw [if_pos hlt]; exact h6
    · rename_i hlt; rw [if_neg hlt]; exact h6

/-! ### jumps back -/
theorem stepR_scope {b : Frame} {k : List Item} {cs : List Frame} {c : Code} : step P (lone (b.atR a (.code (.scope c) :: k)) cs w) = .next (lone (b.atR a (.code c :: .inScope c :: k)) cs w) :=
  step_lone_go (by simp [stepG, stepG.exec, Frame.atR])
theorem stepR_inScope {b : Frame} {k : List Item} {cs : List Frame} {c : Code} : step P (lone (b.atR a (.inScope c :: k)) cs w) = .next (lone (b.atR a k) cs w) :=
  step_lone_go (by simp [stepG, stepG.exec, Frame.atR])
def jumpQ (l : Nat) (K : Act → World → Prop) (Q : Exit → Act → World → Prop) : Exit → Act → World → Prop
  | .goto l', a, w => l' = l ∧ K a w
  | e, a, w => Q e a w
def passes (F : Fence) (n : Nat) (P : Program) (l : Nat) (rest : Code) (Q : Exit → Act → World → Prop) : Nat → Act → World → Prop
  | 0, _, _ => False
  | k + 1, a, w => rest.wpIn F n P (jumpQ l (passes F n P l rest Q k) Q) a w
theorem wpIn_scope {F : Fence} {c rest : Code} {l k : Nat} (hf : findLabel c l = some rest) (h : c.wpIn F n P (jumpQ l (passes F n P l rest Q k) Q) a w) : (Code.scope c).wpIn F n P Q a w := by
  intro b kk cs hro hb hr
  have hg : gotoIn l (.inScope c :: kk) = some (.code rest :: .inScope c :: kk) := by simp [gotoIn, hf]
  have fin : ∀ (k : Nat) (e : Exit) (a1 : Act) (w1 : World) (m : Machine), jumpQ l (passes F n P l rest Q k) Q e a1 w1 → ArrivesIn (Machine.fenced P F) P m b (.inScope c :: kk) cs e a1 w1 →
      ∃ e' a' w', Q e' a' w' ∧ ArrivesIn (Machine.fenced P F) P m b kk cs e' a' w' := by
    intro k
    induction k with
    | zero =>
      intro e a1 w1 m hq harr
      cases e with
      | normal => exact ⟨.normal, a1, w1, hq, StepsIn.trans harr (.one (fenced_calm hb hr rfl) stepR_inScope)⟩
      | exit id => exact ⟨_, a1, w1, hq, fun k' hk => harr.1 k' (by simp [exitTo, hk]), fun h1 h2 => harr.2 h1 (by simp [exitTo, h2])⟩
      | goto l' => exact hq.2.elim
      | ret => exact ⟨_, a1, w1, hq, harr⟩
      | panic ch => exact ⟨_, a1, w1, hq, harr⟩
      | outgrown => exact ⟨_, a1, w1, hq, harr⟩
    | succ k ih =>
      intro e a1 w1 m hq harr
      cases e with
      | normal => exact ⟨.normal, a1, w1, hq, StepsIn.trans harr (.one (fenced_calm hb hr rfl) stepR_inScope)⟩
      | exit id => exact ⟨_, a1, w1, hq, fun k' hk => harr.1 k' (by simp [exitTo, hk]), fun h1 h2 => harr.2 h1 (by simp [exitTo, h2])⟩
      | goto l' =>
        obtain ⟨e1, hp⟩ := hq
        subst e1
        obtain ⟨e2, a2, w2, hq2, harr2⟩ := hp b (.inScope c :: kk) cs hro hb hr
        obtain ⟨e3, a3, w3, hq3, harr3⟩ := ih e2 a2 w2 _ hq2 harr2
        exact ⟨e3, a3, w3, hq3, .of_steps (harr.1 _ hg) harr3⟩
      | ret => exact ⟨_, a1, w1, hq, harr⟩
      | panic ch => exact ⟨_, a1, w1, hq, harr⟩
      | outgrown => exact ⟨_, a1, w1, hq, harr⟩
  obtain ⟨e, a1, w1, hq, harr⟩ := h b (.inScope c :: kk) cs hro hb hr
  obtain ⟨e', a', w', hq', harr'⟩ := fin k e a1 w1 _ hq harr
  exact ⟨e', a', w', hq', .of_steps (.one (fenced_calm hb hr rfl) stepR_scope) harr'⟩
/-- a code whose jumps are caught -/
theorem jump_wp {l : Nat} {K : Tm → Heap → Out} {x : Out} {c1 : Code} {Kw : Act → World → Prop} (hQ : Post P gl w0 pl ro N ι H Q (onG l K x))
    (h1 : Post P gl w0 pl ro N ι H (jumpQ l Kw Q) x → c1.wpIn (FF ro) n P (jumpQ l Kw Q) a w)
    (h2 : ∀ T1 H1 a1 w1 ι1, Ext H H1 ι ι1 → HR P gl w0 ι1 H1 w1 → AR pl ro N ι1 T1 a1 → Post P gl w0 pl ro N ι1 H1 Q (K T1 H1) → Kw a1 w1) : c1.wpIn (FF ro) n P (jumpQ l Kw Q) a w := by
  refine h1 ?_
  cases x with
  | no => exact hQ
  | nrm T1 H1 => exact hQ
  | ret T1 H1 => exact hQ
  | ext i T1 H1 =>
    have hQ2 : Post P gl w0 pl ro N ι H Q (ite1 (Nat.beq i (kJ + l)) (K T1 H1) (ite1 (Nat.blt i kJ) (.ext i T1 H1) .no)) := hQ
    intro a1 w1 ι1 h3 h4 h5
    cases hb : Nat.beq i (kJ + l) with
    | true =>
      rw [hb, ite1_t] at hQ2
      rw [Nat.eq_of_beq_eq_true hb, exOf_goto]
      exact ⟨rfl, h2 T1 H1 a1 w1 ι1 h3 h4 h5 (hQ2.le h3)⟩
    | false =>
      rw [hb, ite1_f] at hQ2
      cases hc : Nat.blt i kJ with
      | false => rw [hc, ite1_f] at hQ2; exact hQ2.elim
      | true =>
        rw [hc, ite1_t] at hQ2
        have h6 : Q (exOf i) a1 w1 := hQ2 a1 w1 ι1 h3 h4 h5
        rw [exOf_lt (blt_lt hc)] at h6 ⊢
        exact h6

theorem evC_ok (hm : P.follows .mixedOrders = true) (hrun : RunOk P gl w0 run) (hy : YldOk P gl w0 y) (L : Nat) : GoOk P gl w0 (evC run y L) := by
  intro c
  induction c with
  | skip =>
    intro code T H N pl ro n ι a w Q hc hH hA hQ
    simp only [mC] at hc; split at hc <;> first | (cases hc; done) | skip
    · exact wpIn_skip (hQ a w ι (Ext.refl _ _) hH hA)
    · exact wpIn_label (hQ a w ι (Ext.refl _ _) hH hA)
  | bad =>
    intro code T H N pl ro n ι a w Q hc hH hA hQ
    exact hQ.elim
  | ret =>
    intro code T H N pl ro n ι a w Q hc hH hA hQ
    simp only [mC] at hc; split at hc <;> first | (cases hc; done) | skip
    exact wpIn_ret (hQ a w ι (Ext.refl _ _) hH hA)
  | exit id =>
    intro code T H N pl ro n ι a w Q hc hH hA hQ
    simp only [mC] at hc; split at hc <;> first | (cases hc; done) | skip
    simp only [Bool.and_eq_true] at hc
    have e := Nat.eq_of_beq_eq_true hc.1; subst e
    have h5 : Q (exOf _) a w := hQ a w ι (Ext.refl _ _) hH hA
    rw [exOf_lt (blt_lt hc.2)] at h5
    exact wpIn_exit h5
  | seq x z ihx ihz =>
    intro code T H N pl ro n ι a w Q hc hH hA hQ
    simp only [mC] at hc; split at hc <;> first | (cases hc; done) | skip
    simp only [Bool.and_eq_true] at hc
    have hQ2 : Post P gl w0 pl ro N ι H Q (thenO (evC run y L z) (evC run y L x T H)) := hQ
    exact wpIn_seq (then_wp hQ2 (fun hp => ihx _ T H N pl ro n ι a w _ hc.1 hH hA hp) fun T1 H1 a1 w1 ι1 _ hE hR hA1 hp => ihz _ T1 H1 N pl ro n ι1 a1 w1 _ hc.2 hR hA1 hp)
  | cond x z u ihz ihu =>
    intro code T H N pl ro n ι a w Q hc hH hA hQ
    simp only [mC] at hc; split at hc <;> first | (cases hc; done) | skip
    simp only [Bool.and_eq_true] at hc
    have hQ2 : Post P gl w0 pl ro N ι H Q (condO (rdv T x) (evC run y L z T H) (evC run y L u T H)) := hQ
    cases hx : rdv T x with
    | none => rw [hx] at hQ2; exact hQ2.elim
    | some v =>
      rw [hx] at hQ2
      have hQ3 : Post P gl w0 pl ro N ι H Q (condV (evC run y L z T H) (evC run y L u T H) v) := hQ2
      unfold condV at hQ3
      split at hQ3
      · rename_i c
        have hb := (rd_sound hH hA.tmps hc.1.1 hx).bool_inv
        cases c with
        | true => exact wpIn_cond_true hb (ihz _ T H N pl ro n ι a w Q hc.1.2 hH hA hQ3)
        | false => exact wpIn_cond_false hb (ihu _ T H N pl ro n ι a w Q hc.2 hH hA hQ3)
      · exact hQ3.elim
  | block id x ih =>
    intro code T H N pl ro n ι a w Q hc hH hA hQ
    simp only [mC] at hc; split at hc <;> first | (cases hc; done) | skip
    simp only [Bool.and_eq_true] at hc
    obtain ⟨⟨hid, hlt⟩, hc⟩ := hc
    have e := Nat.eq_of_beq_eq_true hid; subst e
    have hQ2 : Post P gl w0 pl ro N ι H Q (blkO id (evC run y L x T H)) := hQ
    refine wpIn_block (ih _ T H N pl ro n ι a w _ hc hH hA ?_)
    generalize evC run y L x T H = out at hQ2
    cases out with
    | no => exact hQ2
    | nrm T1 H1 => exact hQ2
    | ret T1 H1 => exact hQ2
    | ext i T1 H1 =>
      have hQ3 : Post P gl w0 pl ro N ι H Q (ite1 (Nat.beq i id) (.nrm T1 H1) (.ext i T1 H1)) := hQ2
      intro a1 w1 ι1 h1 h2 h3
      cases hb : Nat.beq i id with
      | true =>
        rw [hb, ite1_t] at hQ3
        have ei := Nat.eq_of_beq_eq_true hb
        rw [ei, exOf_lt (blt_lt hlt)]
        simp only [Exit.inBlock, if_true]; exact hQ3 a1 w1 ι1 h1 h2 h3
      | false =>
        rw [hb, ite1_f] at hQ3
        have h6 : Q (exOf i) a1 w1 := hQ3 a1 w1 ι1 h1 h2 h3
        unfold exOf at h6 ⊢
        split at h6
        · rename_i h7
          rw [if_pos h7]
          simp only [Exit.inBlock]
          rw [if_neg (fun he => by subst he; rw [Nat.beq_refl] at hb; cases hb)]; exact h6
        · rename_i h7; rw [if_neg h7]; exact h6
  | keep ks x ih =>
    intro code T H N pl ro n ι a w Q hc hH hA hQ
    simp only [mC, Bool.and_eq_true, Bool.or_eq_true] at hc
    refine ih _ _ H N pl ro n ι a w Q hc.2 hH (hA.keep fun hp => ?_) hQ
    rcases hc.1 with h | h
    · rw [hp] at h; cases h
    · exact ⟨inL_mem h.1, inL_mem h.2⟩
  | loop x ih =>
    intro code T H N pl ro n ι a w Q hc hH hA hQ
    simp only [mC] at hc; split at hc <;> first | (cases hc; done) | skip
    rename_i cx
    have hQ2 : Post P gl w0 pl ro N ι H Q (iter (evC run y L x) L T H) := hQ
    have hL : ∀ (k : Nat) (T : Tm) (H : Heap) (ι : Inj) (a : Act) (w : World), HR P gl w0 ι H w → AR pl ro N ι T a → Post P gl w0 pl ro N ι H Q (iter (evC run y L x) k T H) → Code.roundsIn (FF ro) n P cx Q k a w := by
      intro k
      induction k with
      | zero => intro T H ι a w _ _ hQ; exact hQ.elim
      | succ k ihk =>
        intro T H ι a w hH hA hQ
        rw [roundsIn_succ]
        have hQ2 : Post P gl w0 pl ro N ι H Q (thenO (iter (evC run y L x) k) (evC run y L x T H)) := hQ
        exact then_wp hQ2 (fun hp => ih cx T H N pl ro n ι a w _ hc hH hA hp) fun T1 H1 a1 w1 ι1 _ hE hR hA1 hp => ihk T1 H1 ι1 a1 w1 hR hA1 hp
    exact wpIn_loop_rounds L (hL L T H ι a w hH hA hQ2)
  | reg ios =>
    intro code T H N pl ro n ι a w Q hc hH hA hQ
    simp only [mC] at hc; split at hc <;> first | (cases hc; done) | skip
    exact reg_wp hrun hy hc hH hA hQ
  | drw ios =>
    intro code T H N pl ro n ι a w Q hc hH hA hQ
    simp only [mC] at hc; split at hc <;> first | (cases hc; done) | skip
    exact draw_wp hm hrun hy hc hH hA hQ
  | gto l =>
    intro code T H N pl ro n ι a w Q hc hH hA hQ
    simp only [mC] at hc; split at hc <;> first | (cases hc; done) | skip
    have e := Nat.eq_of_beq_eq_true hc; subst e
    have h5 : Q (exOf (kJ + _)) a w := hQ a w ι (Ext.refl _ _) hH hA
    rw [exOf_goto] at h5
    exact wpIn_goto h5
  | scope l rest x ihr ihx =>
    intro code T H N pl ro n ι a w Q hc hH hA hQ
    simp only [mC] at hc; split at hc <;> first | (cases hc; done) | skip
    rename_i b
    simp only [Bool.and_eq_true] at hc
    obtain ⟨hc1, hc2⟩ := hc
    split at hc2 <;> first | (cases hc2; done) | skip
    rename_i r hfl
    have hS : ∀ (k : Nat) (T : Tm) (H : Heap) (ι : Inj) (a : Act) (w : World), HR P gl w0 ι H w → AR pl ro N ι T a → Post P gl w0 pl ro N ι H Q (scopeN l (evC run y L rest) k T H) → passes (FF ro) n P l r Q k a w := by
      intro k
      induction k with
      | zero => intro T H ι a w _ _ hQ; exact hQ.elim
      | succ k ihk =>
        intro T H ι a w hH hA hQ
        have hQ2 : Post P gl w0 pl ro N ι H Q (onG l (scopeN l (evC run y L rest) k) (evC run y L rest T H)) := hQ
        exact jump_wp hQ2 (fun hp => ihr r T H N pl ro n ι a w _ hc2 hH hA hp) fun T1 H1 a1 w1 ι1 hE hR hA1 hp => ihk T1 H1 ι1 a1 w1 hR hA1 hp
    have hQ2 : Post P gl w0 pl ro N ι H Q (onG l (scopeN l (evC run y L rest) L) (evC run y L x T H)) := hQ
    exact wpIn_scope (k := L) hfl (jump_wp hQ2 (fun hp => ihx b T H N pl ro n ι a w _ hc1 hH hA hp) fun T1 H1 a1 w1 ι1 hE hR hA1 hp => hS L T1 H1 ι1 a1 w1 hR hA1 hp)
  | rf x ps asg body _ _ =>
    intro code T H N pl ro n ι a w Q hc hH hA hQ
    simp only [mC] at hc; split at hc <;> first | (cases hc; done) | skip
    simp only [Bool.and_eq_true, Bool.not_eq_true', decide_eq_true_eq] at hc
    obtain ⟨⟨⟨⟨⟨h1, h2⟩, h3⟩, h4⟩, h5⟩, h6⟩ := hc
    subst h1
    exact rf_wp hrun h2 h3 (fun p hp => by
      have := List.all_eq_true.1 h4 p hp
      simp only [Bool.and_eq_true] at this
      exact ⟨blt_lt this.1, blt_lt this.2⟩) h5 h6 hH hA hQ
end Go.YtnpoikgkhhpdgaaDoorH
