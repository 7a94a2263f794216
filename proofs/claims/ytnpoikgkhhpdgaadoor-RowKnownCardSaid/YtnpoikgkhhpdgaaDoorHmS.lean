/-
  Rounds; functions; depth.
-/
import Derived.Test.YtnpoikgkhhpdgaaDoorHmR
import Derived.Test.YtnpoikgkhhpdgaaDoorEvY
set_option linter.unusedVariables false
namespace Go.YtnpoikgkhhpdgaaDoorH
open Go.RowKit
open Go.YtnpoikgkhhpdgaaDoorE (FF about_FF calls_FF okFn callFunc_run readRes results_eq tAgg tSize)
variable {P : Program} {gl : List Nat} {w0 : World} {ι κ : Inj} {H H' : Heap} {w w' : World} {T T' : Tm} {a : Act} {N n : Nat} {run : Run} {y : Yld} {o : Oper} {pl : Bool} {ro : Option Nat} {Q : Exit → Act → World → Prop} {go : Go1}

/-! ### rounds -/
theorem setPs_len : ∀ {ps : List Nat} {vs : List V} {T T' : Tm}, setPs T ps vs = some T' → ps.length = vs.length
  | [], [], _, _, _ => rfl
  | [], _ :: _, _, _, h => by simp [setPs] at h
  | _ :: _, [], _, _, h => by simp [setPs] at h
  | p :: ps, v :: vs, T, T', h => by
    simp only [setPs] at h
    simp [setPs_len h]
theorem setPs_ok : ∀ {ps : List Nat} {vs : List V} {us : List Value} {T T' : Tm} {tmps : Array Value}, setPs T ps vs = some T' → TmOk ι T tmps → (∀ p ∈ ps, p < tmps.size) → vs.length = us.length → (∀ (j : Nat) (c : V) (x : Value), vs[j]? = some c → us[j]? = some x → VR ι c x) →
    TmOk ι T' ((ps.zip us).foldl (fun t (x : Nat × Value) => t.setIfInBounds x.1 x.2) tmps) ∧ ((ps.zip us).foldl (fun t (x : Nat × Value) => t.setIfInBounds x.1 x.2) tmps).size = tmps.size
  | [], [], us, T, T', tmps, h, hT, _, hl, _ => by
    simp only [setPs, Option.some.injEq] at h
    subst h
    simpa using hT
  | [], _ :: _, _, _, _, _, h, _, _, _, _ => by simp [setPs] at h
  | _ :: _, [], _, _, _, _, h, _, _, _, _ => by simp [setPs] at h
  | p :: ps, v :: vs, us, T, T', tmps, h, hT, hp, hl, hr => by
    simp only [setPs] at h
    cases us with
    | nil => simp at hl
    | cons u us =>
      have hT1 : TmOk ι ((p, v) :: T) (tmps.setIfInBounds p u) := fun t x ht hg => by
        rw [gt_cons] at hg
        by_cases e : t = p
        · rw [if_pos e] at hg; cases hg
          have hlt := hp p (List.mem_cons_self ..)
          exact ⟨u, by rw [e]; simp [hlt], hr 0 _ _ rfl rfl⟩
        · rw [if_neg e] at hg
          obtain ⟨u', h1, h2⟩ := hT t x ht hg
          exact ⟨u', by rw [Array.getElem?_setIfInBounds_ne (fun h => e h.symm)]; exact h1, h2⟩
      obtain ⟨q1, q2⟩ := setPs_ok h hT1 (fun p' hp' => by simpa using hp p' (List.mem_cons_of_mem _ hp')) (by simpa using hl) fun j c x hc hx => hr (j + 1) c x (by simpa using hc) (by simpa using hx)
      exact ⟨by simpa using q1, by simpa using q2⟩
theorem endY_ok (hH : HR P gl w0 ι H w) {id l sz : Nat} (hid : ι id = some (l, sz)) {pe e : Option Ex} {jump : Option Code} (hj : peOf e = some jump) {r : V} (h : endY id pe e H = some (r, H')) :
    ∃ v w', (Instr.endRound l jump).run P w = .ok v w' ∧ HR P gl w0 ι H' w' ∧ VR ι r v ∧ H'.next = H.next := by
  unfold endY at h
  split at h <;> first | (cases h; done) | skip
  rename_i ps a b T0 pe' hg
  obtain ⟨r0, N, q1, _⟩ := hH.loopAt hg hid
  have hend := run_endRound (P := P) jump q1
  cases e with
  | none =>
    simp only [Option.some.injEq, Prod.mk.injEq] at h
    obtain ⟨e1, e2⟩ := h
    subst e1; subst e2
    cases hj
    exact ⟨_, _, hend, hH.loopPut (s' := .ready) (pe' := none) hg hid q1 rfl rfl, .bool _, rfl⟩
  | some e =>
    simp only [Option.some.injEq, Prod.mk.injEq] at h
    obtain ⟨e1, e2⟩ := h
    subst e1; subst e2
    have hjs : ∃ c, jump = some c := by
      cases e with
      | normal => cases hj
      | ret => cases hj; exact ⟨_, rfl⟩
      | exit i => cases hj; exact ⟨_, rfl⟩
    obtain ⟨c, hc⟩ := hjs
    subst hc
    exact ⟨_, _, hend, hH.loopPut (s' := .done) (pe' := some e) hg hid q1 rfl hj, .bool _, rfl⟩

theorem yield_ok (hgo : GoOk P gl w0 go) : YldOk P gl w0 (yieldWith go) := by
  intro id args H r H' ι w vals l sz h hH hid hv
  unfold yieldWith at h
  split at h <;> first | (cases h; done) | skip
  rename_i ps ca cb T0 pe hg
  obtain ⟨T1, ht1, h2⟩ := ob_some.1 h
  obtain ⟨r0, N, q1, q2, q3, q4, q5, q6, q7, q8, q9⟩ := hH.loopAt hg hid
  have hpl : ps.length = vals.size := by rw [setPs_len ht1, hv.len]
  have hsz : vals.size = r0.params.size := by rw [← hpl, ← q2]; simp
  have hps := setPs_ok (us := vals.toList) ht1 q9 (fun p hp => by rw [q5]; exact (q6 p hp).1) (by simpa using hv.len) fun j c x hc hx => hv.get j c x hc (by simpa using hx)
  have hfold : (r0.params.zip vals).foldl (fun tmps (x : Tmp × Value) => tmps.setIfInBounds x.1 x.2) r0.tmps = (ps.zip vals.toList).foldl (fun t (x : Nat × Value) => t.setIfInBounds x.1 x.2) r0.tmps := by
    rw [← Array.foldl_toList, Array.toList_zip, q2]
  have hy := run_yield (P := P) (args := vals) q1 hsz
  have hneR : ∀ t, t < kD → t ≠ kR := fun t ht => by unfold kR; unfold kD at ht; omega
  refine ⟨r0.fn, _, r0.assign, r0.body, hy, fun ro n => roundIn_of_wpIn trivial ?_⟩
  have hA : AR false (some l) N ι ((kR, .yld id) :: T1) { tmps := (r0.params.zip vals).foldl (fun tmps (x : Tmp × Value) => tmps.setIfInBounds x.1 x.2) r0.tmps, defers := [] } := by
    rw [hfold]
    refine ⟨by rw [hps.2]; exact q5, fun t v ht hgt => ?_, (fun h => by cases h), (fun h => by cases h), fun l' hl' => ?_⟩
    · rw [gt_cons, if_neg (hneR t ht)] at hgt
      exact hps.1 t v ht hgt
    · cases hl'
      exact ⟨⟨id, sz, by rw [gt_cons, if_pos rfl], hid⟩, rfl⟩
  cases hga : go ca ((kR, .yld id) :: T1) H with
  | no => rw [hga] at h2; cases h2
  | ret T2 H1 => rw [hga] at h2; cases h2
  | ext i T2 H1 => rw [hga] at h2; cases h2
  | nrm T2 H1 =>
    rw [hga] at h2
    have h3 : bodyY go cb id T2 H1 = some (r, H') := h2
    refine hgo ca r0.assign _ H N false (some l) n ι _ w _ q7 hH hA ?_
    rw [hga]
    intro a1 w1 ι1 hE hR1 hA1
    have hid1 := hE.le _ _ hid
    unfold bodyY at h3
    split at h3 <;> first | (cases h3; done) | skip
    rename_i ps' ca' cb' T0' pe' hg1
    obtain ⟨r1, N1, p1, p2, p3, p4, _⟩ := hR1.loopAt hg1 hid1
    have hbr := run_beginRound (P := P) p1 p3
    have hR2 := hR1.loopPut (s' := .busy) (pe' := pe') hg1 hid1 p1 (st := .busy) (pd := r1.pending) rfl p4
    refine ⟨_, hbr, ?_⟩
    refine hgo cb r0.body T2 _ N false (some l) n ι1 a1 _ _ q8 hR2 hA1 ?_
    have hE2 : Ext H (H1.set id (.loop ps' ca' cb' T0' .busy pe')) ι ι1 := hE.trans (Ext.same rfl)
    have fin : ∀ (e : Option Ex) (jump : Option Code) (H3 : Heap) (w3 : World) (ι3 : Inj), peOf e = some jump → endY id pe' e H3 = some (r, H') → Ext (H1.set id (.loop ps' ca' cb' T0' .busy pe')) H3 ι1 ι3 → HR P gl w0 ι3 H3 w3 →
        ∃ v w', (Instr.endRound l jump).run P w3 = .ok v w' ∧ Left P gl w0 ι H H' r (.returned v) w' := by
      intro e jump H3 w3 ι3 hj hend hE3 hR3
      obtain ⟨v, w4, g1, g2, g3, g4⟩ := endY_ok hR3 (hE3.le _ _ hid1) hj hend
      exact ⟨v, w4, g1, v, ι3, rfl, (hE2.trans hE3).trans (Ext.same g4), g2, g3⟩
    cases hgb : go cb T2 (H1.set id (.loop ps' ca' cb' T0' .busy pe')) with
    | no => rw [hgb] at h3; cases h3
    | nrm T3 H3 =>
      rw [hgb] at h3
      intro a3 w3 ι3 hE3 hR3 hA3
      exact fin none none H3 w3 ι3 rfl h3 hE3 hR3
    | ret T3 H3 =>
      rw [hgb] at h3
      intro a3 w3 ι3 hE3 hR3 hA3
      exact fin (some .ret) (some .ret) H3 w3 ι3 rfl h3 hE3 hR3
    | ext i T3 H3 =>
      rw [hgb] at h3
      obtain ⟨hlt, h4⟩ := ite1_some.1 h3
      intro a3 w3 ι3 hE3 hR3 hA3
      rw [exOf_lt (blt_lt hlt)]
      exact fin (some (.exit i)) (some (.exit i)) H3 w3 ι3 rfl h4 hE3 hR3

/-! ### functions -/
def okRes (P : Program) : ResultVar → Res → Bool
  | .tmp t, .t n => Nat.beq t n && Nat.blt n kD
  | .cell x t, .cell n ag sz => Nat.beq x n && Nat.blt n kD && okSz P t ag sz
  | _, _ => false
def okResL (P : Program) : List ResultVar → List Res → Bool
  | [], [] => true
  | x :: r, y :: s => okRes P x y && okResL P r s
  | _, _ => false
noncomputable def okFun (P : Program) (gl : List Nat) (f : Nat) (fn : Fn) : Bool := match P.funcs[f]? with
  | some g => okFn P f && (match g.body with | some code => mC P gl g.ntmps true fn.body code || mC P gl g.ntmps false fn.body code | none => false) && okResL P g.results.toList fn.res && Nat.ble fn.np g.ntmps && Nat.ble g.ntmps kD
  | none => false

theorem params_cons (d : V) (r : List V) (j : Nat) : params (d :: r) j = (j, d) :: params r (j + 1) := rfl
theorem params_get : ∀ (args : List V) (j t : Nat) (d : V), gt (params args j) t = some d → j ≤ t ∧ args[t - j]? = some d
  | [], j, t, d, h => by cases h
  | x :: r, j, t, d, h => by
    rw [params_cons, gt_cons] at h
    split at h
    · rename_i e
      cases h
      simp only at e
      subst e
      exact ⟨Nat.le_refl _, by simp⟩
    · obtain ⟨h1, h2⟩ := params_get r (j + 1) t d h
      refine ⟨by omega, ?_⟩
      rw [show t - j = (t - (j + 1)) + 1 by omega]; simpa using h2

theorem res_run (hH : HR P gl w0 ι H w) (hT : TmOk ι T a.tmps) : ∀ (rs : List ResultVar) (qs : List Res) (l : List V), okResL P rs qs = true → resV T H qs = some l →
    ∃ vs : List Value, (rs.mapM (readRes a.tmps)).run P w = .ok vs w ∧ l.length = vs.length ∧
      ∀ (j : Nat) (d : V) (v : Value), l[j]? = some d → vs[j]? = some v → VR ι d v
  | [], [], l, _, hr => by simp only [resV, Option.some.injEq] at hr; subst hr; exact ⟨[], by simp, rfl, fun j d v hd => by simp at hd⟩
  | [], _ :: _, _, ok, _ => by simp [okResL] at ok
  | _ :: _, [], _, ok, _ => by simp [okResL] at ok
  | r :: rs, q :: qs, l, ok, hr => by
    simp only [okResL, Bool.and_eq_true] at ok
    obtain ⟨ok1, ok2⟩ := ok
    have tl : ∀ (d : V) (l' : List V) (v : Value), resV T H qs = some l' → (readRes a.tmps r).run P w = .ok v w → VR ι d v →
        ∃ vs : List Value, ((r :: rs).mapM (readRes a.tmps)).run P w = .ok vs w ∧ (d :: l').length = vs.length ∧
          ∀ (j : Nat) (d0 : V) (v : Value), (d :: l')[j]? = some d0 → vs[j]? = some v → VR ι d0 v := by
      intro d l' v h1 h2 h3
      obtain ⟨vs, h4, h5, h6⟩ := res_run hH hT rs qs l' ok2 h1
      refine ⟨v :: vs, ?_, by simp [h5], fun j d0 v0 hd hv => ?_⟩
      · rw [List.mapM_cons]
        simp only [Sem.run_bind, Sem.run_pure, h2, Result.andThen_ok, h4]
      · cases j with
        | zero => simp at hd hv; subst hd; subst hv; exact h3
        | succ j => exact h6 j d0 v0 (by simpa using hd) (by simpa using hv)
    cases r with
    | tmp t =>
      cases q with
      | cell n ag sz => simp [okRes] at ok1
      | t n =>
        simp only [okRes, Bool.and_eq_true] at ok1
        have e : t = n := Nat.eq_of_beq_eq_true ok1.1
        subst e
        simp only [resV] at hr
        obtain ⟨d, h1, hr2⟩ := ob_some.1 hr
        obtain ⟨l', h2, h3⟩ := ob_some.1 hr2
        cases h3
        obtain ⟨v, h4, h5⟩ := hT t d (blt_lt ok1.2) h1
        refine tl d l' v h2 ?_ h5
        have : a.tmps.getD t undef = v := by rw [Array.getD_eq_getD_getElem?, h4]; rfl
        simp [readRes, this]
    | cell x t =>
      cases q with
      | t n => simp [okRes] at ok1
      | cell n ag sz =>
        simp only [okRes, Bool.and_eq_true] at ok1
        have e : x = n := Nat.eq_of_beq_eq_true ok1.1.1
        subst e
        obtain ⟨hta, hts, _⟩ := okSz_inv ok1.2
        simp only [resV] at hr
        obtain ⟨da, h1, hr2⟩ := ob_some.1 hr
        obtain ⟨d, h2, hr3⟩ := ob_some.1 hr2
        obtain ⟨l', h3, h4⟩ := ob_some.1 hr3
        cases h4
        obtain ⟨v, h5, h6⟩ := hT x da (blt_lt ok1.1.2) h1
        obtain ⟨u, h7, h8⟩ := load_sound (P := P) hH h6 h2 hta hts
        refine tl d l' u h3 ?_ h8
        have hv : a.tmps.getD x undef = v := by rw [Array.getD_eq_getD_getElem?, h5]; rfl
        simp only [readRes, hv]
        have : ∃ ad, v = .pointer (some ad) := by
          unfold loadH at h2
          split at h2
          · cases h6 with
            | ptr e => exact ⟨_, rfl⟩
          · cases h2
        obtain ⟨ad, rfl⟩ := this
        simp only [Instr.loadAt, Instr.sureAddr, Sem.run_bind, Sem.run_pure, Result.andThen_ok] at h7
        simp only [asAddr, Sem.run_bind, Sem.run_pure, Result.andThen_ok]
        exact h7

theorem leave_ok {fn : Func} {tmps : Array Value} {R : Ending → World → Prop} {H2 : Heap} : ∀ {l : List V} {ds : List Deferred} {H : Heap} {w : World}, Marks ι l ds → takeD l H = some H2 → HR P gl w0 ι H w → (∀ w2, HR P gl w0 ι H2 w2 → H2.next = H.next → LeavesInM (FF none) n P fn tmps R [] .returning w2) →
    LeavesInM (FF none) n P fn tmps R ds .returning w := by
  intro l ds H w hM
  induction hM generalizing H w with
  | nil =>
    intro ht hH hk
    simp only [takeD, Option.some.injEq] at ht
    subst ht
    exact hk w hH rfl
  | @cons id b sz l ds he hM ih =>
    intro ht hH hk
    simp only [takeD] at ht
    split at ht <;> first | (cases ht; done) | skip
    rename_i hg
    have hb : w.heap[b]? = some (.deferred (some [])) := hH.obs id _ b sz hg he
    have hR := hH.oput (ob' := .dfr false) (o' := .deferred none) hg he rfl (by
      show (w.putObj b _).heap[b]? = some (.deferred none)
      exact World.putObj_heap_same (hH.blk id b sz he))
    refine ⟨by simp, .inl ⟨b, _, rfl, run_takeDeferred hb, ih ht hR fun w2 h1 h2 => hk w2 h1 h2⟩⟩

theorem body_ok (hE : GoOk P gl w0 go) {f np : Nat} {res : List Res} {body : C} {ins : Option (Nat × Nat)} (hok : okFun P gl f ⟨np, res, body, ins⟩ = true) {args : List V} {r : V} {H H' : Heap} {ι : Inj} {w : World} {vals : Array Value}
    (hlen : args.length = np) (h3 : finO res (go body (params args 0) H) = some (r, H')) (hH : HR P gl w0 ι H w) (hv : VRs ι args vals) : okFn P f = true ∧ Calls P f vals w (Left P gl w0 ι H H' r) := by
  unfold okFun at hok
  split at hok <;> first | (cases hok; done) | skip
  rename_i g hg
  simp only [Bool.and_eq_true] at hok
  obtain ⟨⟨⟨⟨hf, hbody⟩, hres⟩, hnp⟩, hnk⟩ := hok
  refine ⟨hf, ?_⟩
  split at hbody <;> first | (cases hbody; done) | skip
  rename_i code hcode
  have hnp : np ≤ g.ntmps := Nat.le_of_ble_eq_true hnp
  have hnk : g.ntmps ≤ kD := Nat.le_of_ble_eq_true hnk
  have hkR : kD ≤ kR := by unfold kD kR; omega
  have hno : ∀ t, kD ≤ t → gt (params args 0) t = none := fun t ht => by
    cases hg : gt (params args 0) t with
    | none => rfl
    | some d =>
      obtain ⟨_, h5⟩ := params_get args 0 t d hg
      have := (List.getElem?_eq_some_iff.1 h5).1
      omega
  obtain ⟨pl, hbody⟩ : ∃ pl, mC P gl g.ntmps pl body code = true := by
    cases hb : mC P gl g.ntmps true body code with
    | true => exact ⟨true, hb⟩
    | false => exact ⟨false, by simp only [hb, Bool.false_or] at hbody; exact hbody⟩
  have hA : AR pl none g.ntmps ι (params args 0) { tmps := vals ++ Array.replicate (g.ntmps - vals.size) undef, defers := [] } := by
    have hvl := hv.len
    refine ⟨by simp; omega, fun t d ht hg => ?_, fun _ => ⟨rfl, hno _ (Nat.le_refl _), hno _ hkR, rfl⟩, fun _ => ⟨hno _ hkR, .inl ⟨hno _ (Nat.le_refl _), rfl⟩⟩, (fun l h => by cases h)⟩
    obtain ⟨_, h5⟩ := params_get args 0 t d hg
    have h5 : args[t]? = some d := by simpa using h5
    have hlt : t < vals.size := by have := (List.getElem?_eq_some_iff.1 h5).1; omega
    exact ⟨vals[t], by rw [Array.getElem?_append_left hlt]; simp, hv.get t d vals[t] h5 (by simp)⟩
  refine callsIn_wide.1 (callsIn_of_wp_marks (F := FF none) (n := 0) hg hcode trivial ?_ rfl)
  refine hE body code _ H g.ntmps pl none 0 ι _ w _ hbody hH hA ?_
  -- the end
  have fin : ∀ (T1 : Tm) (H1 : Heap), Go.YtnpoikgkhhpdgaaDoorH.fin res T1 H1 = some (r, H') → After P gl w0 pl none g.ntmps ι H T1 H1 fun a w => LeavesInM (FF none) 0 P g a.tmps (Left P gl w0 ι H H' r) a.defers .returning w := by
    intro T1 H1 hfin a1 w1 ι1 hE1 hR1 hA1
    obtain ⟨H2, hd, h4⟩ := ob_some.1 hfin
    obtain ⟨l, hl, h5⟩ := ob_some.1 h4
    simp only [Option.some.injEq, Prod.mk.injEq] at h5
    obtain ⟨e1, e2⟩ := h5
    subst e1; subst e2
    have hlast : ∀ w2, HR P gl w0 ι1 H2 w2 → H2.next = H1.next → LeavesInM (FF none) 0 P g a1.tmps (Left P gl w0 ι H H2 (wrapR l)) [] .returning w2 := by
      intro w2 hR2 hnx
      obtain ⟨vs, h1, h2, h3⟩ := res_run (P := P) (a := a1) hR2 hA1.tmps g.results.toList res l hres hl
      have hm : (results g a1.tmps).run P w2 = .ok (if h : vs.toArray.size = 1 then vs.toArray[0] else .tuple vs.toArray) w2 := by
        rw [results_eq]
        have : (g.results.mapM (readRes a1.tmps)).run P w2 = .ok vs.toArray w2 := by
          rw [Array.mapM_eq_mapM_toList]
          simp [h1]
        simp only [Sem.run_bind, this, Result.andThen_ok, Sem.run_pure]
      refine ⟨_, hm, _, ι1, rfl, hE1.trans (Ext.same hnx), hR2, ?_⟩
      cases l with
      | nil =>
        have : vs = [] := by cases vs <;> simp at h2 ⊢
        subst this
        exact .tup (by simp) fun j c x hc => by simp at hc
      | cons d0 l0 =>
        cases l0 with
        | nil =>
          have : ∃ v0, vs = [v0] := by
            cases vs with
            | nil => simp at h2
            | cons v0 r0 => cases r0 with
              | nil => exact ⟨v0, rfl⟩
              | cons _ _ => simp at h2
          obtain ⟨v0, rfl⟩ := this
          exact h3 0 d0 v0 rfl rfl
        | cons d1 l1 =>
          have hne : ¬ vs.toArray.size = 1 := by simp at h2 ⊢; omega
          rw [dif_neg hne]
          exact .tup (by simpa using h2) fun j c x hc hx => h3 j c x hc (by simpa using hx)
    obtain ⟨_, hD⟩ := hA1.rnd0 rfl
    unfold endD at hd
    rcases hD with ⟨d1, d2⟩ | ⟨l0, d1, d2⟩
    · rw [d1] at hd
      simp only [Option.some.injEq] at hd
      subst hd
      rw [d2]
      exact hlast w1 hR1 rfl
    · rw [d1] at hd
      exact leave_ok d2 hd hR1 hlast
  generalize hgo : go body (params args 0) H = out at h3
  cases out with
  | no => cases h3
  | nrm T1 H1 => exact fin T1 H1 h3
  | ret T1 H1 => exact fin T1 H1 h3
  | ext i T1 H1 => cases h3

end Go.YtnpoikgkhhpdgaaDoorH
