/-
  One operation, in the kit's calculus; sequences.
-/
import Derived.Test.YtnpoikgkhhpdgaaDoorHmM
import Derived.Test.YtnpoikgkhhpdgaaDoorEvR
set_option linter.unusedVariables false
namespace Go.YtnpoikgkhhpdgaaDoorH
open Go.RowKit
open Go.YtnpoikgkhhpdgaaDoorE (tAgg tSize run_isAgg' run_sizeOf' args1 args2 FF calls_FF okFn callFunc_run wpIn_value wpIn_skipped wpIn_enter about_FF)
variable {P : Program} {gl : List Nat} {w0 : World} {ι κ : Inj} {H H' : Heap} {w w' : World} {T T' : Tm} {a : Act} {N : Nat} {run : Run} {y : Yld} {o : Oper} {pl : Bool} {ro : Option Nat}

/-- values for data -/
structure VRs (ι : Inj) (ds : List V) (vals : Array Value) : Prop where
  len : ds.length = vals.size
  get : ∀ (j : Nat) (c : V) (x : Value), ds[j]? = some c → vals[j]? = some x → VR ι c x
/-- what a call leaves -/
def Left (P : Program) (gl : List Nat) (w0 : World) (ι : Inj) (H H' : Heap) (r : V) (e : Ending) (w' : World) : Prop := ∃ v ι', e = .returned v ∧ Ext H H' ι ι' ∧ HR P gl w0 ι' H' w' ∧ VR ι' r v
def RunOk (P : Program) (gl : List Nat) (w0 : World) (run : Run) : Prop := ∀ f args H r H' ι w vals, run f args H = some (r, H') → HR P gl w0 ι H w → VRs ι args vals → okFn P f = true ∧ Calls P f vals w (Left P gl w0 ι H H' r)
def YldOk (P : Program) (gl : List Nat) (w0 : World) (y : Yld) : Prop := ∀ id args H r H' ι w vals l sz, y id args H = some (r, H') → HR P gl w0 ι H w → ι id = some (l, sz) → VRs ι args vals →
  ∃ f tmps asg body, (Instr.yield l vals).run P w = .ok (.round l f tmps asg body) w ∧ ∀ ro n, RoundIn (FF ro) n P l f tmps asg body w (Left P gl w0 ι H H' r)

theorem okOp_nodefer {op : Op} (ok : okOp P gl o.op op = true) : ∀ cl, o.op ≠ .defer cl := by
  intro cl ho
  rw [ho] at ok
  cases op <;> simp [okOp] at ok

section
variable {n : Nat} {K : Act → World → Prop} {Q : Exit → Act → World → Prop}
theorem wpIn_round {l : Nat} {f : FuncId} {tmps : Array Value} {asg body : Code} (hd : ∀ cl, o.op ≠ .defer cl) (hr : (execOp a.eval o).run P w = .ok (.round l f tmps asg body) w)
    (hK : RoundIn (FF ro) (n - 1) P l f tmps asg body w fun e w' => ∃ v, e = .returned v ∧ K (a.put o.dst v) w') : o.wpIn (FF ro) n P a w K Q := by
  refine ⟨about_FF o, ?_⟩
  rw [Oper.semAt_eq _ _ _ hd, hr]
  refine ⟨(fun h => by cases h), hK.mono ?_⟩
  rintro e w' ⟨v, rfl, h⟩
  exact h

theorem VRs.rd (hH : HR P gl w0 ι H w) (hT : TmOk ι T a.tmps) {xs : Array Operand} {rs : List Rd} {ds : List V} (ok : okRdL gl xs.toList rs = true) (hr : rdvL T rs = some ds) : VRs ι ds (xs.map a.eval) := by
  obtain ⟨h1, h2⟩ := rdL_sound hH hT ok hr
  refine ⟨by simpa using h1, fun j c x hc hx => ?_⟩
  rw [Array.getElem?_map] at hx
  cases hy : xs[j]? with
  | none => simp [hy] at hx
  | some z => simp [hy] at hx; subst hx; exact h2 j c z hc (by rw [Array.getElem?_toList]; exact hy)
theorem VRs.app {as bs : List V} {us vs : Array Value} (h : VRs ι as us) (k : VRs ι bs vs) : VRs ι (as ++ bs) (us ++ vs) := by
  refine ⟨by simp [h.len, k.len], fun j c x hc hx => ?_⟩
  rw [List.getElem?_append] at hc
  rw [Array.getElem?_append, ← h.len] at hx
  split at hc
  · rename_i hlt
    rw [if_pos hlt] at hx; exact h.get j c x hc hx
  · rename_i hlt
    rw [if_neg hlt] at hx; exact k.get _ c x hc hx

theorem va_wp (hH : HR P gl w0 ι H w) (hT : TmOk ι T a.tmps) {op : Op} {v : V} (ok : okOp P gl o.op op = true) (h : exec run y op T H = .va v) (hK : ∀ u, VR ι v u → K (a.put o.dst u) w) : o.wpIn (FF ro) n P a w K Q := by
  obtain ⟨u, h1, h2⟩ := exec_va hH hT ok h
  exact wpIn_value (okOp_nodefer ok) h1 (hK u h2)

def NextE (P : Program) (gl : List Nat) (w0 : World) (ι : Inj) (H H' : Heap) (a : Act) (dst : Option Nat) (v : V) (K : Act → World → Prop) : Prop := ∀ u w' ι', Ext H H' ι ι' → HR P gl w0 ι' H' w' → VR ι' v u → K (a.put dst u) w'
theorem did_wp {op : Op} {v : V} (ok : okOp P gl o.op op = true) (h : DidE P gl w0 ι H H' w a o v) (hK : NextE P gl w0 ι H H' a o.dst v K) : o.wpIn (FF ro) n P a w K Q := by
  obtain ⟨x, w', ι', h1, h2, h3, h4⟩ := h
  rcases h2 with ⟨e1, e2⟩ | ⟨u, e1, e2⟩
  · subst e1; subst e2
    exact wpIn_skipped (okOp_nodefer ok) h1 (hK undef w' ι' h3 h4 (.undef _))
  · subst e1
    exact wpIn_value (okOp_nodefer ok) h1 (hK u w' ι' h3 h4 e2)

theorem w_store (hH : HR P gl w0 ι H w) (hT : TmOk ι T a.tmps) {ag : Bool} {m : Nat} {x z : Rd} {v : V} (ok : okOp P gl o.op (.store ag m x z) = true) (h : exec run y (.store ag m x z) T H = .ef v H') : DidE P gl w0 ι H H' w a o v := by
  obtain ⟨da, h1, h2⟩ := ob_some.1 (toEf_inv h)
  obtain ⟨dx, h3, h4⟩ := ob_some.1 h2
  obtain ⟨H1, h5, h6⟩ := ob_some.1 h4
  simp only [Option.some.injEq, Prod.mk.injEq] at h6
  obtain ⟨e1, e2⟩ := h6
  subst e1; subst e2
  simp only [okOp] at ok
  split at ok <;> first | (cases ok; done) | skip
  rename_i t x' y' ho
  simp only [Bool.and_eq_true] at ok
  obtain ⟨⟨ok1, ok2⟩, ok3⟩ := ok
  obtain ⟨q1, q2, q3⟩ := okSz_inv ok3
  obtain ⟨w', h7, h8, h9⟩ := store_sound hH (t := t) (rd_sound hH hT ok1 h1) (rd_sound hH hT ok2 h3) q2 q3 h5
  exact ⟨.skip, w', ι, by simp [execOp, ho, h7], .inl ⟨rfl, rfl⟩, Ext.same h9, h8⟩
theorem w_app (hH : HR P gl w0 ι H w) (hT : TmOk ι T a.tmps) {es bytes : Nat} {z : List V} {x x2 : Rd} {v : V} (ok : okOp P gl o.op (.app es bytes z x x2) = true) (h : exec run y (.app es bytes z x x2) T H = .ef v H') : DidE P gl w0 ι H H' w a o v := by
  obtain ⟨da, h1, h2⟩ := ob_some.1 (toEf_inv h)
  obtain ⟨dx, h3, h4⟩ := ob_some.1 h2
  simp only [okOp] at ok
  split at ok <;> first | (cases ok; done) | skip
  rename_i c ho
  split at ok <;> first | (cases ok; done) | skip
  rename_i x' y' t t2 hc ha hat
  simp only [Bool.and_eq_true] at ok
  obtain ⟨⟨ok1, ok2⟩, ok3⟩ := ok
  obtain ⟨bs, hex⟩ := args2 (P := P) (w := w) (ρ := a.eval) hc ha ho
  have hat' : c.argTypes = #[t, t2] := by rw [← Array.toList_inj, hat]
  rw [hat'] at hex
  split at ok3
  · rename_i e he
    simp only [Bool.and_eq_true, Bool.or_eq_true] at ok3
    obtain ⟨ie, zv, hi, hsz, hp, hz, hzs, hzl, hzr⟩ := okEl_inv ok3.1.1
    obtain ⟨ie', hi', hby, hpos⟩ := okBy_inv ok3.1.2
    rw [hi] at hi'; cases hi'
    have ht2 : (∃ e', P.underlying t2 = some (.slice e')) ∨ P.underlying t2 = some .string := by
      rcases ok3.2 with h5 | h5
      · obtain ⟨e2, he2⟩ := Option.isSome_iff_exists.1 h5
        exact .inl ⟨e2, sliceEl_inv he2⟩
      · exact .inr (isStr_inv h5)
    obtain ⟨u, w', ι', h5, h6, h7, h8⟩ := app_sound (tt := o.type) hH ⟨sliceEl_inv he, hi, hsz, hby, hpos, hz, hzs, hp⟩ (rd_sound hH hT ok1 h1) (rd_sound hH hT ok2 h3) ht2 h4
    exact ⟨.value u, w', ι', by rw [hex]; simp [builtin, h5], .inr ⟨u, rfl, h8⟩, h6, h7⟩
  · cases ok3
theorem w_appz (hH : HR P gl w0 ι H w) (hT : TmOk ι T a.tmps) {es bytes : Nat} {z : List V} {x x2 : Rd} {v : V} (ok : okOp P gl o.op (.appz es bytes z x x2) = true) (h : exec run y (.appz es bytes z x x2) T H = .ef v H') : DidE P gl w0 ι H H' w a o v := by
  obtain ⟨da, h1, h2⟩ := ob_some.1 (toEf_inv h)
  obtain ⟨dx, h3, h4⟩ := ob_some.1 h2
  simp only [okOp] at ok
  split at ok <;> first | (cases ok; done) | skip
  rename_i c ho
  split at ok <;> first | (cases ok; done) | skip
  rename_i x' y' t t2 hc ha hat
  simp only [Bool.and_eq_true] at ok
  obtain ⟨⟨ok1, ok2⟩, ok3⟩ := ok
  obtain ⟨bs, hex⟩ := args2 (P := P) (w := w) (ρ := a.eval) hc ha ho
  have hat' : c.argTypes = #[t, t2] := by rw [← Array.toList_inj, hat]
  rw [hat'] at hex
  split at ok3
  · rename_i e he
    simp only [Bool.and_eq_true] at ok3
    obtain ⟨ie, zv, hi, hsz, hp, hz, hzs, hzl, hzr⟩ := okEl_inv ok3.1.1
    obtain ⟨ie', hi', hby, hpos⟩ := okBy_inv ok3.1.2
    rw [hi] at hi'; cases hi'
    obtain ⟨u, w', ι', h5, h6, h7, h8⟩ := appz_sound (tt := o.type) hH ⟨sliceEl_inv he, hi, hsz, hby, hpos, hz, hzs, hp⟩ hp hzr hzl (rd_sound hH hT ok1 h1) (rd_sound hH hT ok2 h3) (isInt_inv ok3.2) h4
    exact ⟨.value u, w', ι', by rw [hex]; simp [builtin, h5], .inr ⟨u, rfl, h8⟩, h6, h7⟩
  · cases ok3
theorem w_copy (hH : HR P gl w0 ι H w) (hT : TmOk ι T a.tmps) {es : Nat} {x x2 : Rd} {v : V} (ok : okOp P gl o.op (.copy es x x2) = true) (h : exec run y (.copy es x x2) T H = .ef v H') : DidE P gl w0 ι H H' w a o v := by
  obtain ⟨da, h1, h2⟩ := ob_some.1 (toEf_inv h)
  obtain ⟨dx, h3, h4⟩ := ob_some.1 h2
  obtain ⟨⟨m, l⟩, h5, h6⟩ := ob_some.1 h4
  simp only [okOp] at ok
  split at ok <;> first | (cases ok; done) | skip
  rename_i c ho
  split at ok <;> first | (cases ok; done) | skip
  rename_i x' y' t t2 hc ha hat
  simp only [Bool.and_eq_true] at ok
  obtain ⟨⟨ok1, ok2⟩, ok3⟩ := ok
  obtain ⟨bs, hex⟩ := args2 (P := P) (w := w) (ρ := a.eval) hc ha ho
  have hat' : c.argTypes = #[t, t2] := by rw [← Array.toList_inj, hat]
  rw [hat'] at hex
  split at ok3
  · rename_i e he
    obtain ⟨u, w', h7, h8, h10, h9⟩ := copy_sound (t2 := t2) (tt := o.type) hH (rd_sound hH hT ok1 h1) (cut_src hH (rd_sound hH hT ok2 h3) h5) (sliceEl_inv he) (okN_inv ok3) h6
    exact ⟨.value u, w', ι, by rw [hex]; simp [builtin, h7], .inr ⟨u, rfl, h9⟩, Ext.same h10, h8⟩
  · cases ok3
theorem w_clr (hH : HR P gl w0 ι H w) (hT : TmOk ι T a.tmps) {es : Nat} {z : List V} {x : Rd} {v : V} (ok : okOp P gl o.op (.clr es z x) = true) (h : exec run y (.clr es z x) T H = .ef v H') : DidE P gl w0 ι H H' w a o v := by
  obtain ⟨da, h1, h2⟩ := ob_some.1 (toEf_inv h)
  obtain ⟨H1, h5, h6⟩ := ob_some.1 h2
  simp only [Option.some.injEq, Prod.mk.injEq] at h6
  obtain ⟨e1, e2⟩ := h6
  subst e1; subst e2
  simp only [okOp] at ok
  split at ok <;> first | (cases ok; done) | skip
  rename_i c ho
  split at ok <;> first | (cases ok; done) | skip
  rename_i x' t hc ha hat
  simp only [Bool.and_eq_true] at ok
  obtain ⟨ok1, ok3⟩ := ok
  obtain ⟨bs, hex⟩ := args1 (P := P) (w := w) (ρ := a.eval) hc ha ho
  have hat' : c.argTypes = #[t] := by rw [← Array.toList_inj, hat]
  rw [hat'] at hex
  split at ok3
  · rename_i e he
    obtain ⟨w', h7, h8, h9⟩ := clr_sound (tt := o.type) hH (rd_sound hH hT ok1 h1) (sliceEl_inv he) ok3 h5
    exact ⟨.value (.tuple #[]), w', ι, by rw [hex]; simp [builtin, h7], .inr ⟨_, rfl, .undef _⟩, Ext.same h9, h8⟩
  · cases ok3

theorem call_wp (hrun : RunOk P gl w0 run) (hH : HR P gl w0 ι H w) (hT : TmOk ι T a.tmps) {f : Nat} {args : List Rd} {v : V} (ok : okOp P gl o.op (.call f args) = true) (h : exec run y (.call f args) T H = .ef v H') (hK : NextE P gl w0 ι H H' a o.dst v K) : o.wpIn (FF ro) n P a w K Q := by
  obtain ⟨ds, h1, h2⟩ := ob_some.1 (toEf_inv h)
  have hnd := okOp_nodefer ok
  simp only [okOp] at ok
  split at ok <;> first | (cases ok; done) | skip
  rename_i cl ho
  split at ok <;> first | (cases ok; done) | skip
  rename_i _ _ g hcl
  simp only [Bool.and_eq_true] at ok
  obtain ⟨ok1, ok2⟩ := ok
  have e := Nat.eq_of_beq_eq_true ok1
  subst e
  obtain ⟨hf, hc⟩ := hrun g ds H v H' ι w _ h2 hH (VRs.rd hH hT ok2 h1)
  have hrun' : (execOp a.eval o).run P w = .ok (.enter g (cl.args.map a.eval)) w := by
    simp [execOp, ho, resolve, hcl, Act.eval, Deferred.ofValue, invoke, callFunc_run hf]
  refine wpIn_enter hnd hrun' (hc.mono ?_)
  rintro e w' ⟨u, ι', h3, h4, h5, h6⟩
  exact ⟨u, h3, hK u w' ι' h4 h5 h6⟩

theorem callv_wp (hrun : RunOk P gl w0 run) (hy : YldOk P gl w0 y) (hH : HR P gl w0 ι H w) (hT : TmOk ι T a.tmps) {f : Rd} {args : List Rd} {v : V} (ok : okOp P gl o.op (.callv f args) = true) (h : exec run y (.callv f args) T H = .ef v H') (hK : NextE P gl w0 ι H H' a o.dst v K) : o.wpIn (FF ro) n P a w K Q := by
  obtain ⟨df, h0, h2⟩ := ob_some.1 (toEf_inv h)
  obtain ⟨ds, h1, h3⟩ := ob_some.1 h2
  have hnd := okOp_nodefer ok
  simp only [okOp] at ok
  split at ok <;> first | (cases ok; done) | skip
  rename_i cl ho
  split at ok <;> first | (cases ok; done) | skip
  rename_i g' hcl
  simp only [Bool.and_eq_true] at ok
  obtain ⟨ok1, ok2⟩ := ok
  have hg := rd_sound hH hT ok1 h0
  have hv := VRs.rd hH hT ok2 h1
  cases df with
  | fn f caps =>
    have h4 : run f (lapp ds caps) H = some (v, H') := h3
    rw [lapp_eq] at h4
    generalize hu : a.eval g' = u at hg
    cases hg with
    | @fn _ _ vs hl hr =>
      obtain ⟨hf, hc⟩ := hrun f _ H v H' ι w _ h4 hH (hv.app ⟨hl, hr⟩)
      have hrun' : (execOp a.eval o).run P w = .ok (.enter f (cl.args.map a.eval ++ vs)) w := by
        simp [execOp, ho, resolve, hcl, hu, Deferred.ofValue, invoke, callFunc_run hf]
      refine wpIn_enter hnd hrun' (hc.mono ?_)
      rintro e w' ⟨u, ι', h3, h4, h5, h6⟩
      exact ⟨u, h3, hK u w' ι' h4 h5 h6⟩
  | yld id =>
    have h4 : y id ds H = some (v, H') := h3
    generalize hu : a.eval g' = u at hg
    cases hg with
    | @yld _ b sz e =>
      obtain ⟨f, tmps, asg, body, h5, h6⟩ := hy id ds H v H' ι w _ b sz h4 hH e hv
      have hrun' : (execOp a.eval o).run P w = .ok (.round b f tmps asg body) w := by
        simp [execOp, ho, resolve, hcl, hu, Deferred.ofValue, invoke, h5]
      refine wpIn_round hnd hrun' ((h6 ro (n - 1)).mono ?_)
      rintro e w' ⟨u, ι', h3, h4, h5, h6⟩
      exact ⟨u, h3, hK u w' ι' h4 h5 h6⟩
  | _ => cases h3

theorem ef_wp (hrun : RunOk P gl w0 run) (hy : YldOk P gl w0 y) (hH : HR P gl w0 ι H w) (hT : TmOk ι T a.tmps) {op : Op} {v : V} (ok : okOp P gl o.op op = true) (h : exec run y op T H = .ef v H') (hK : NextE P gl w0 ι H H' a o.dst v K) : o.wpIn (FF ro) n P a w K Q := by
  have noV : ∀ {x : Option V}, toVa x ≠ .ef v H' := fun {x} hh => by cases x <;> cases hh
  cases op with
  | store ag m x z => exact did_wp ok (w_store hH hT ok h) hK
  | app es bytes z x x2 => exact did_wp ok (w_app hH hT ok h) hK
  | copy es x x2 => exact did_wp ok (w_copy hH hT ok h) hK
  | appz es bytes z x x2 => exact did_wp ok (w_appz hH hT ok h) hK
  | clr es z x => exact did_wp ok (w_clr hH hT ok h) hK
  | call f args => exact call_wp hrun hH hT ok h hK
  | callv f args => exact callv_wp hrun hy hH hT ok h hK
  | alloc z => exact did_wp ok (doF_sound hH hT ok h) hK
  | box ag m x => exact did_wp ok (doF_sound hH hT ok h) hK
  | bsl es z m ps => exact did_wp ok (doF_sound hH hT ok h) hK
  | mks es bytes z x m => exact did_wp ok (doF_sound hH hT ok h) hK
  | mv x => exact absurd h noV
  | pick c x z => exact absurd h noV
  | build z ps => exact absurd h noV
  | load ag n x => exact absurd h noV
  | nilc x => exact absurd h noV
  | bin op x z => exact absurd h noV
  | eqb neq k x z => exact absurd h noV
  | eqa neq ks x z => exact absurd h noV
  | un op x => exact absurd h noV
  | cv k x => exact absurd h noV
  | fld ag off n x => exact absurd h noV
  | fadr off x => exact absurd h noV
  | iadr es x i => exact absurd h noV
  | iada len es x i => exact absurd h noV
  | ida len es ag x i => exact absurd h noV
  | ids x i => exact absurd h noV
  | ext x i => exact absurd h noV
  | len str x => exact absurd h noV
  | cap x => exact absurd h noV
  | sl es x lo hi mx => exact absurd h noV
  | slp len es x lo hi mx => exact absurd h noV
  | sls x lo hi => exact absurd h noV
  | mm mx x z => exact absurd h noV
  | mkfn f caps => exact absurd h noV
  | b2s x => exact absurd h noV
  | nat k args => exact absurd h noV
end
end Go.YtnpoikgkhhpdgaaDoorH
