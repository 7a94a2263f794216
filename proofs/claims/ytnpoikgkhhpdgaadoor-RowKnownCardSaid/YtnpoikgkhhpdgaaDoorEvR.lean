/-
  One operation of any kind, in the kit's calculus.
-/
import Derived.Test.YtnpoikgkhhpdgaaDoorEvQ
namespace Go.YtnpoikgkhhpdgaaDoorE
variable {P : Program} {N : Nat} {X : Nat → Nat → Prop} {w0 : World} {μ0 : Mem} {G G' : Gh} {Cn Cn' : List Nat} {T : List (Nat × D)} {M M' : List (Nat × Ob)} {a : Act} {w w' : World}

abbrev FF (ro : Option Nat) : Fence := { Fence.wide with round := ro }
theorem calls_FF {ro : Option Nat} {n : Nat} {f : FuncId} {args : Array Value} {R : Ending → World → Prop} (h : Calls P f args w R) : CallsIn (FF ro) n P f args w R := by
  have := (callsIn_wide (n := n)).2 h
  exact this

def okFn (P : Program) (f : Nat) : Bool := match P.funcs[f]? with
  | some fn => !(fn.name == "runtime.NumGoroutine") && fn.body.isSome
  | none => false
def TabOk (P : Program) (Φ : Tab) : Prop := ∀ f fn, gt Φ f = some fn → okFn P f = true

theorem callFunc_run {f : Nat} (h : okFn P f = true) (args : Array Value) : (callFunc f args).run P w = .ok (.enter f args) w := by
  unfold okFn at h
  split at h
  · rename_i fn hf
    simp only [Bool.and_eq_true, Bool.not_eq_true'] at h
    obtain ⟨h1, h2⟩ := h
    obtain ⟨c, hc⟩ := Option.isSome_iff_exists.1 h2
    have h3 : ¬ fn.name = "runtime.NumGoroutine" := by simpa using h1
    simp [callFunc, hf, h3, hc]
  · cases h

theorem okOp_nodefer {o : Oper} {c : Op} (ok : okOp P o.op c = true) : ∀ cl, o.op ≠ .defer cl := by
  intro cl ho
  rw [ho] at ok
  cases c <;> simp [okOp] at ok

section
variable {ro : Option Nat} {n : Nat} {K : Act → World → Prop} {Q : Exit → Act → World → Prop}
theorem about_FF (o : Oper) : ∀ f, o.about P w a.eval = some f → (FF ro).fn f := fun _ _ => trivial
theorem wpIn_value {o : Oper} {v : Value} (hd : ∀ cl, o.op ≠ .defer cl) (hr : (execOp a.eval o).run P w = .ok (.value v) w') (hK : K (a.put o.dst v) w') : o.wpIn (FF ro) n P a w K Q := by
  refine ⟨about_FF o, ?_⟩
  rw [Oper.semAt_eq _ _ _ hd, hr]
  exact hK
theorem wpIn_skipped {o : Oper} (hd : ∀ cl, o.op ≠ .defer cl) (hr : (execOp a.eval o).run P w = .ok .skip w') (hK : K (a.put o.dst undef) w') : o.wpIn (FF ro) n P a w K Q := by
  refine ⟨about_FF o, ?_⟩
  rw [Oper.semAt_eq _ _ _ hd, hr]
  exact hK
theorem wpIn_enter {o : Oper} {f : FuncId} {args : Array Value} (hd : ∀ cl, o.op ≠ .defer cl) (hr : (execOp a.eval o).run P w = .ok (.enter f args) w)
    (hK : Calls P f args w fun e w' => ∃ v, e = .returned v ∧ K (a.put o.dst v) w') : o.wpIn (FF ro) n P a w K Q := by
  refine ⟨about_FF o, ?_⟩
  rw [Oper.semAt_eq _ _ _ hd, hr]
  refine ⟨(fun h => by cases h), (calls_FF hK).mono ?_⟩
  rintro e w' ⟨v, rfl, h⟩
  exact h

/-- the slices' sites that an operation gives out -/
def opSites : Op → List Nat
  | .app _ _ s _ _ _ => [s]
  | .call _ _ s => List.range' s 16
  | .callv _ _ s => List.range' s 16
  | _ => []
def opBoxes : Op → List Nat
  | .alloc s _ => [s]
  | _ => []

theorem qop_did (h : Rel N X w0 μ0 G Cn T M a w) {o : Oper} {c : Op} {d : D} {rs : List Nat} (ok : okOp P o.op c = true) (hq : qop T M Cn c = some (d, Cn')) (hs : ∀ s ∈ opSites c, G.τ s = none) :
    Did N X w0 μ0 G Cn' T M a (opSites c) rs d ((execOp a.eval o).run P w) := by
  cases c with
  | mv x => exact q_mv h ok hq
  | pick c x y => exact q_pick h ok hq
  | build fl z ps => exact q_build h ok hq
  | bsl es z n ps => exact q_bsl h ok hq
  | load ag fl n x => exact q_load h ok hq
  | nilc x => exact q_nilc h ok hq
  | bin k op x y => exact q_bin h ok hq
  | eqa neq ks x y => exact q_eqa h ok hq
  | un op x => exact q_un h ok hq
  | cv k x => exact q_cv h ok hq
  | fld ag fl off n x => exact q_fld h ok hq
  | fadr off x => exact q_fadr h ok hq
  | iadr es x i => exact q_iadr h ok hq
  | iada len es x i => exact q_iada h ok hq
  | ida len es ag fl x i => exact q_ida h ok hq
  | ids x i => exact q_ids h ok hq
  | ext x i => exact q_ext h ok hq
  | len str x => exact q_len h ok hq
  | sl es x lo hi mx => exact q_sl h ok hq
  | sls x lo hi => exact q_sls h ok hq
  | mm mx x y => exact q_mm h ok hq
  | mkfn f caps => exact q_mkfn h ok hq
  | app es bytes s z x y => exact q_app h ok hq (hs s (by simp [opSites]))
  | call f args s => simp [qop] at hq
  | callv f args s => simp [qop] at hq
  | alloc s z => simp [qop] at hq
  | box s ag n x => simp [qop] at hq
  | store ag n x y => simp [qop] at hq
  | mks s es bytes z n m => simp [qop] at hq
  | copy x y => simp [qop] at hq

/-- what is known behind an operation -/
def Next (N : Nat) (X : Nat → Nat → Prop) (w0 : World) (μ0 : Mem) (G : Gh) (Cn : List Nat) (T : List (Nat × D)) (M : List (Nat × Ob)) (a : Act) (ss rs : List Nat) (d : D) (K : Act → World → Prop) (dst : Option Nat) : Prop :=
  ∀ v w' G', Gh.le G G' → (∀ s, s ∉ ss → G'.τ s = G.τ s) → (∀ s, s ∉ rs → G'.ρ s = G.ρ s) → Rep G' d v → Rel N X w0 μ0 G' Cn T M a w' → K (a.put dst v) w'

theorem did_wp {o : Oper} {c : Op} {d : D} {ss rs : List Nat} (ok : okOp P o.op c = true) (hd : Did N X w0 μ0 G Cn T M a ss rs d ((execOp a.eval o).run P w)) (hK : Next N X w0 μ0 G Cn T M a ss rs d K o.dst) :
    o.wpIn (FF ro) n P a w K Q := by
  obtain ⟨v, w', G', h1, h2, h3, h4, h5, h6⟩ := hd
  exact wpIn_value (okOp_nodefer ok) h1 (hK v w' G' h2 h3 h4 h5 h6)

theorem callD_f {Φ : Tab} {run : Run} {f : Nat} {ds : List D} {s : Nat} {r : D × List (Nat × Ob)} (h : callD Φ run M f ds s = some r) : ∃ fn, gt Φ f = some fn := by
  simp only [callD, Option.bind_eq_some_iff] at h
  obtain ⟨fn, h1, _⟩ := h
  exact ⟨fn, h1⟩

theorem call_wp (h : Rel N X w0 μ0 G Cn T M a w) {Φ : Tab} {run : Run} (hrun : RunOk P run) (hΦ : TabOk P Φ) {o : Oper} {f : Nat} {args : List Rd} {ds : List D} {s : Nat} {d : D} (ok : okOp P o.op (.call f args s) = true)
    (ha : rdvL T args = some ds) (hc : callD Φ run M f ds s = some (d, M')) (hs : ∀ t ∈ List.range' s 16, G.τ t = none) (hK : Next N X w0 μ0 G Cn T M' a (List.range' s 16) [] d K o.dst) : o.wpIn (FF ro) n P a w K Q := by
  obtain ⟨fn, hfn⟩ := callD_f hc
  have hnd := okOp_nodefer ok
  simp only [okOp] at ok
  split at ok <;> first | (cases ok; done) | skip
  rename_i cl ho
  split at ok <;> first | (cases ok; done) | skip
  rename_i _ _ g hcl
  simp only [Bool.and_eq_true] at ok
  obtain ⟨ok1, ok2⟩ := ok
  have e : g = f := Nat.eq_of_beq_eq_true ok1
  subst e
  obtain ⟨hl, hv⟩ := rdL_sound h ok2 ha
  have hrun' : (execOp a.eval o).run P w = .ok (.enter g (cl.args.map a.eval)) w := by
    simp [execOp, ho, resolve, hcl, Act.eval, Deferred.ofValue, invoke, callFunc_run (hΦ g fn hfn)]
  refine wpIn_enter hnd hrun' ?_
  refine Calls.mono (callD_sound h hrun hc (by simpa using hl) (fun k d v hd hv' => ?_) (fun t h1 h2 => hs t (by simp; omega))) ?_
  · rw [Array.getElem?_map] at hv'
    cases hx : cl.args[k]? with
    | none => simp [hx] at hv'
    | some x => simp [hx] at hv'; subst hv'; exact hv k d x hd (by rw [Array.getElem?_toList]; exact hx)
  · rintro e w' ⟨v, G', rfl, h1, h2, h3, h4, h5⟩
    exact ⟨v, rfl, hK v w' G' h1 (fun t ht => h3 t fun hcon => ht (by simp; omega)) (fun t _ => by rw [h2]) h4 h5⟩

theorem fn_inv {f : Nat} {caps : List D} {v : Value} (h : Rep G (.fn f caps) v) : ∃ vs, v = .func (.func f) #[] vs ∧ caps.length = vs.size ∧ ∀ (j : Nat) (c : D) (x : Value), caps[j]? = some c → vs[j]? = some x → Rep G c x := by
  cases h with
  | pure h => cases h with
    | fn => exact ⟨#[], rfl, rfl, fun j c x hc => by simp at hc⟩
  | fn hl hr => exact ⟨_, rfl, hl, hr⟩

theorem callv_wp (h : Rel N X w0 μ0 G Cn T M a w) {Φ : Tab} {run : Run} (hrun : RunOk P run) (hΦ : TabOk P Φ) {o : Oper} {g : Rd} {f : Nat} {args : List Rd} {ds caps : List D} {s : Nat} {d : D} (ok : okOp P o.op (.callv g args s) = true)
    (hg : rdv T g = some (.fn f caps)) (ha : rdvL T args = some ds) (hc : callD Φ run M f (ds ++ caps) s = some (d, M')) (hs : ∀ t ∈ List.range' s 16, G.τ t = none)
    (hK : Next N X w0 μ0 G Cn T M' a (List.range' s 16) [] d K o.dst) : o.wpIn (FF ro) n P a w K Q := by
  obtain ⟨fn, hfn⟩ := callD_f hc
  have hnd := okOp_nodefer ok
  simp only [okOp] at ok
  split at ok <;> first | (cases ok; done) | skip
  rename_i cl ho
  split at ok <;> first | (cases ok; done) | skip
  rename_i g' hcl
  simp only [Bool.and_eq_true] at ok
  obtain ⟨ok1, ok2⟩ := ok
  obtain ⟨hl, hv⟩ := rdL_sound h ok2 ha
  obtain ⟨vs, hgv, hcl2, hcv⟩ := fn_inv (rd_sound h ok1 hg)
  have hrun' : (execOp a.eval o).run P w = .ok (.enter f (cl.args.map a.eval ++ vs)) w := by
    simp [execOp, ho, resolve, hcl, hgv, Deferred.ofValue, invoke, callFunc_run (hΦ f fn hfn)]
  refine wpIn_enter hnd hrun' ?_
  have hl' : ds.length = cl.args.size := by simpa using hl
  refine Calls.mono (callD_sound h hrun hc (by simp; omega) (fun k d v hd hv' => ?_) (fun t h1 h2 => hs t (by simp; omega))) ?_
  · rw [List.getElem?_append] at hd
    rw [Array.getElem?_append] at hv'
    split at hd
    · rename_i hk
      rw [if_pos (by simpa using (by omega : k < cl.args.size))] at hv'
      rw [Array.getElem?_map] at hv'
      cases hx : cl.args[k]? with
      | none => simp [hx] at hv'
      | some x => simp [hx] at hv'; subst hv'; exact hv k d x hd (by rw [Array.getElem?_toList]; exact hx)
    · rename_i hk
      rw [if_neg (by simpa using (by omega : cl.args.size ≤ k))] at hv'
      exact hcv _ d v hd (by simpa [hl'] using hv')
  · rintro e w' ⟨v, G', rfl, h1, h2, h3, h4, h5⟩
    exact ⟨v, rfl, hK v w' G' h1 (fun t ht => h3 t fun hcon => ht (by simp; omega)) (fun t _ => by rw [h2]) h4 h5⟩

/-- a quiet operation or a call that borrows nothing; boxes stand ready -/
theorem qall_wp (h : Rel N X w0 μ0 G Cn T M a w) {Φ : Tab} {run : Run} (hrun : RunOk P run) (hΦ : TabOk P Φ) {o : Oper} {c : Op} {d : D} (ok : okOp P o.op c = true) (hq : qall Φ run T M Cn c = some (d, Cn'))
    (hs : ∀ s ∈ opSites c, G.τ s = none) (hb : ∀ s z, c = .alloc s z → G.ρ s = none ∧ gt M s = some (.box z)) (hK : Next N X w0 μ0 G Cn' T M a (opSites c) (opBoxes c) d K o.dst) : o.wpIn (FF ro) n P a w K Q := by
  cases c with
  | call f args s =>
    simp only [qall, Option.bind_eq_some_iff] at hq
    obtain ⟨ds, h1, d', h2, h3⟩ := hq
    simp at h3; obtain ⟨rfl, rfl⟩ := h3
    exact call_wp h hrun hΦ ok h1 (qcall_call h2) hs hK
  | callv f args s =>
    simp only [qall, Option.bind_eq_some_iff] at hq
    obtain ⟨fd, h0, ds, h1, h2⟩ := hq
    split at h2
    · rename_i f' caps
      simp only [Option.bind_eq_some_iff] at h2
      obtain ⟨d', h2, h3⟩ := h2
      simp at h3; obtain ⟨rfl, rfl⟩ := h3
      exact callv_wp h hrun hΦ ok h0 h1 (qcall_call h2) hs hK
    · cases h2
  | alloc s z =>
    simp only [qall] at hq
    split at hq
    · simp at hq; obtain ⟨rfl, rfl⟩ := hq
      obtain ⟨hρ, hM⟩ := hb s z rfl
      have hnd := okOp_nodefer ok
      simp only [okOp] at ok
      split at ok <;> first | (cases ok; done) | skip
      rename_i t ho
      obtain ⟨ie, zv, hi, hz, hzv, hzs⟩ := okZ_inv ok
      obtain ⟨v, w', G', h1, h2, h3, h4, h5, h6, h7, h8⟩ := alloc_sound (P := P) h (okV_rep0 G.μ hzv) hzs hρ (M' := M) (fun _ _ => rfl) hM hi hz (.tuple #[])
      refine wpIn_value hnd (v := v) (w' := w') (by simp [execOp, ho, h1]) (hK v w' G' h2 (fun t _ => by rw [h3]) (fun t ht => h4 t (by simpa [opBoxes] using ht)) h7 h8)
    · cases hq
  | _ => exact did_wp ok (qop_did h ok hq hs) hK

/-- any operation -/
theorem lop_wp (h : Rel N X w0 μ0 G Cn T M a w) {Φ : Tab} {run : Run} (hrun : RunOk P run) (hΦ : TabOk P Φ) {o : Oper} {c : Op} {d : D} (ok : okOp P o.op c = true) (hl : lop Φ run T M Cn c = some (d, M', Cn'))
    (hs : ∀ s ∈ opSites c, G.τ s = none)
    (hK : ∀ v w' G', Gh.le G G' → (∀ s, s ∉ opSites c → G'.τ s = G.τ s) → Rep G' d v → Rel N X w0 μ0 G' Cn' T M' a w' → K (a.put o.dst v) w') : o.wpIn (FF ro) n P a w K Q := by
  cases c with
  | call f args s =>
    simp only [lop, Option.bind_eq_some_iff] at hl
    obtain ⟨ds, h1, ⟨d', M1⟩, h2, h3⟩ := hl
    simp at h3; obtain ⟨rfl, rfl, rfl⟩ := h3
    exact call_wp h hrun hΦ ok h1 h2 hs fun v w' G' h1 h2 _ h4 h5 => hK v w' G' h1 h2 h4 h5
  | callv f args s =>
    simp only [lop, Option.bind_eq_some_iff] at hl
    obtain ⟨fd, h0, ds, h1, h2⟩ := hl
    split at h2
    · rename_i f' caps
      simp only [Option.bind_eq_some_iff] at h2
      obtain ⟨⟨d', M1⟩, h2, h3⟩ := h2
      simp at h3; obtain ⟨rfl, rfl, rfl⟩ := h3
      exact callv_wp h hrun hΦ ok h0 h1 h2 hs fun v w' G' h1 h2 _ h4 h5 => hK v w' G' h1 h2 h4 h5
    · cases h2
  | alloc s z =>
    simp only [lop] at hl
    split at hl
    · cases hl
    · rename_i hM
      simp at hl; obtain ⟨rfl, rfl, rfl⟩ := hl
      have hnd := okOp_nodefer ok
      simp only [okOp] at ok
      split at ok <;> first | (cases ok; done) | skip
      rename_i t ho
      obtain ⟨ie, zv, hi, hz, hzv, hzs⟩ := okZ_inv ok
      obtain ⟨v, w', G', h1, h2, h3, h4, h5, h6, h7, h8⟩ := alloc_sound (P := P) h (okV_rep0 G.μ hzv) hzs (h.dead s hM) (M' := st M s (.box z)) (fun s' hs' => gt_st_other _ _ hs') (gt_st_same _ _ _) hi hz (.tuple #[])
      exact wpIn_value hnd (v := v) (w' := w') (by simp [execOp, ho, h1]) (hK v w' G' h2 (fun t _ => by rw [h3]) h7 h8)
  | box s ag m x =>
    simp only [lop, Option.bind_eq_some_iff] at hl
    obtain ⟨dx, h1, h2⟩ := hl
    split at h2
    · cases h2
    · rename_i hM
      have hd : d = .ptr s 0 0 ∧ M' = st M s (.box dx) ∧ Cn' = Cn ∧ solid dx = true := by
        split at h2
        · rename_i hbx
          simp at h2
          refine ⟨h2.1.symm, h2.2.1.symm, h2.2.2.symm, ?_⟩
          cases dx <;> first | rfl | (cases ag <;> cases hbx)
        · cases h2
      obtain ⟨rfl, rfl, rfl, hso⟩ := hd
      have hnd := okOp_nodefer ok
      simp only [okOp] at ok
      split at ok <;> first | (cases ok; done) | skip
      rename_i t y ho
      obtain ⟨z, w', G', h3, h4, h5, h6, h7⟩ := box_sound (P := P) h (rd_sound h ok h1) hso hM t
      exact wpIn_value hnd (v := z) (w' := w') (by simp [execOp, ho, h3]) (hK z w' G' h4 (fun t _ => by rw [h5]) h6 h7)
  | store ag m x y =>
    simp only [lop, Option.bind_eq_some_iff] at hl
    obtain ⟨da, h1, dv, h2, h3⟩ := hl
    have hd : d = .undef ∧ Cn' = Cn := by
      unfold storeD at h3
      split at h3
      · split at h3
        · split at h3
          · simp only [Option.bind_eq_some_iff] at h3
            obtain ⟨_, _, h4⟩ := h3; simp at h4; exact ⟨h4.1.symm, h4.2.2.symm⟩
          · cases h3
        · simp only [Option.bind_eq_some_iff] at h3
          obtain ⟨_, _, _, _, _, _, h4⟩ := h3; simp at h4; exact ⟨h4.1.symm, h4.2.2.symm⟩
        · cases h3
      · cases h3
    obtain ⟨rfl, rfl⟩ := hd
    have hnd := okOp_nodefer ok
    simp only [okOp] at ok
    split at ok <;> first | (cases ok; done) | skip
    rename_i t x' y' ho
    simp only [Bool.and_eq_true] at ok
    obtain ⟨⟨⟨ok1, ok2⟩, ok3⟩, ok4⟩ := ok
    obtain ⟨w', h4, h5⟩ := store_sound (P := P) h (t := t) (rd_sound h ok1 h1) (rd_sound h ok2 h2) (okN_inv ok3) (fun hag => by subst hag; exact Nat.eq_of_beq_eq_true ok4) h3
    exact wpIn_skipped hnd (w' := w') (by simp [execOp, ho, h4]) (hK undef w' G (Gh.le_refl _) (fun _ _ => rfl) (.undef _) h5)
  | mks s es bytes z nn m =>
    simp only [lop, Option.bind_eq_some_iff] at hl
    obtain ⟨dn, h1, dm, h2, h3⟩ := hl
    split at h3 <;> first | (cases h3; done) | skip
    rename_i k i k' j hM
    split at h3 <;> first | (cases h3; done) | skip
    rename_i hc
    simp only [decide_eq_true_eq] at hc
    obtain ⟨rfl, hc0, hc1, hc2⟩ := hc
    simp at h3; obtain ⟨rfl, rfl, rfl⟩ := h3
    have hnd := okOp_nodefer ok
    simp only [okOp] at ok
    split at ok <;> first | (cases ok; done) | skip
    rename_i t n' m' ho
    simp only [Bool.and_eq_true] at ok
    obtain ⟨⟨ok1, ok2⟩, ok3⟩ := ok
    split at ok3 <;> first | (cases ok3; done) | skip
    rename_i e he
    simp only [Bool.and_eq_true] at ok3
    obtain ⟨ie, zv, hi, hsz, hz, hzv, hzs, hzl⟩ := okEl_inv ok3.1
    obtain ⟨ie', hi', hby, hpos⟩ := okBy_inv ok3.2
    rw [hi] at hi'; cases hi'
    obtain ⟨v, w', G', h4, h5, h6, h7, h8⟩ := mks_sound (P := P) (k := k) (k' := k') h hc0 hc1 hc2 hM (sliceEl_inv he) hi hsz hby hz (okV_rep0 G.μ hzv) hzs hzl
    have hn := (rd_sound h ok1 h1).int_inv
    have hm := (rd_sound h ok2 h2).int_inv
    exact wpIn_value hnd (v := v) (w' := w') (by simp [execOp, ho, hn, hm, h4]) (hK v w' G' h5 (fun t _ => by rw [h6]) h7 h8)
  | copy x y => simp [okOp] at ok
  | _ =>
    simp only [lop, Option.bind_eq_some_iff] at hl
    obtain ⟨⟨d', Cn1⟩, h1, h2⟩ := hl
    simp at h2; obtain ⟨rfl, rfl, rfl⟩ := h2
    exact did_wp ok (qop_did (rs := []) h ok h1 hs) fun v w' G' h1 h2 _ h4 h5 => hK v w' G' h1 h2 h4 h5
end
end Go.YtnpoikgkhhpdgaaDoorE
