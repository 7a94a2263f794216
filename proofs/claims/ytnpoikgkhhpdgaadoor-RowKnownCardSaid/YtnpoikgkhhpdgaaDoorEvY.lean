/-
  Functions: what a run of the table says about the model's calls.
-/
import Derived.Test.YtnpoikgkhhpdgaaDoorEvW
namespace Go.YtnpoikgkhhpdgaaDoorE
variable {P : Program} {N : Nat} {X : Nat → Nat → Prop} {w0 : World} {μ0 : Mem} {G G' : Gh} {Cn Cn' : List Nat} {T T' : List (Nat × D)} {M M' : List (Nat × Ob)} {a : Act} {w w' : World}

def okRes (P : Program) : ResultVar → Res → Bool
  | .tmp t, .t n => Nat.beq t n
  | .cell x t, .cell n ag _ sz => Nat.beq x n && okSz P t ag sz
  | _, _ => false
def okResL (P : Program) : List ResultVar → List Res → Bool
  | [], [] => true
  | x :: r, y :: s => okRes P x y && okResL P r s
  | _, _ => false
def okFun (P : Program) (f : Nat) (fn : Fn) : Bool := match P.funcs[f]? with
  | some g => okFn P f && (match g.body with | some code => mC P g.ntmps fn.body code | none => false) && okResL P g.results.toList fn.res && Nat.ble fn.np g.ntmps
  | none => false

theorem params_get : ∀ (args : List D) (j t : Nat) (d : D), gt (params args j) t = some d → j ≤ t ∧ args[t - j]? = some d
  | [], j, t, d, h => by simp [params, gt] at h
  | x :: r, j, t, d, h => by
    simp only [params, gt] at h
    split at h
    · rename_i hb
      have : j = t := Nat.eq_of_beq_eq_true hb
      subst this
      simp at h; subst h
      exact ⟨Nat.le_refl _, by simp⟩
    · obtain ⟨h1, h2⟩ := params_get r (j + 1) t d h
      refine ⟨by omega, ?_⟩
      rw [show t - j = (t - (j + 1)) + 1 by omega]; simpa using h2
theorem borrowed_get : ∀ (bs : List D) (j s : Nat) (ob : Ob), gt (borrowed bs j) s = some ob → ∃ i d, s = 1000 + (j + i) ∧ bs[i]? = some d ∧ ob = .box d
  | [], j, s, ob, h => by simp [borrowed, gt] at h
  | x :: r, j, s, ob, h => by
    simp only [borrowed, gt] at h
    split at h
    · rename_i hb
      have : 1000 + j = s := Nat.eq_of_beq_eq_true hb
      simp at h; subst h
      exact ⟨0, x, by omega, rfl, rfl⟩
    · obtain ⟨i, d, h1, h2, h3⟩ := borrowed_get r (j + 1) s ob h
      exact ⟨i + 1, d, by omega, by simpa using h2, h3⟩
theorem borrowed_some : ∀ (bs : List D) (j i : Nat), i < bs.length → gt (borrowed bs j) (1000 + (j + i)) ≠ none
  | [], j, i, h => by simp at h
  | x :: r, j, i, h => by
    simp only [borrowed, gt]
    split
    · simp
    · rename_i hb
      cases i with
      | zero => rw [Nat.add_zero, nbT] at hb; cases hb
      | succ i =>
        have := borrowed_some r (j + 1) i (by simpa using h)
        rwa [show j + 1 + i = j + (i + 1) by omega] at this

theorem rel_start {args bs : List D} {vals : Array Value} {bl base : Nat → Nat} {μ : Mem} (I : CallIn μ w args bs vals bl base) (hN : args.length ≤ N) :
    Rel N (lentX bs bl base) w μ (lentGh μ bl base bs.length) [] (params args 0) (borrowed bs 0) { tmps := vals ++ Array.replicate (N - vals.size) undef, defers := [] } w where
  keeps := .refl _ _
  dfr := rfl
  old _ _ _ := rfl
  sz := by have := I.len; simp; omega
  mem := I.stands
  tmps t d hg := by
    obtain ⟨_, h2⟩ := params_get args 0 t d hg
    have h2 : args[t]? = some d := by simpa using h2
    have hlt : t < vals.size := by have := (List.getElem?_eq_some_iff.1 h2).1; have := I.len; omega
    exact ⟨vals[t], by rw [Array.getElem?_append_left hlt]; simp, I.vals t d vals[t] h2 (by simp)⟩
  obs s ob b bs0 es K hg hρ := by
    obtain ⟨i, d, h1, h2, rfl⟩ := borrowed_get bs 0 s ob hg
    have hi : i < bs.length := (List.getElem?_eq_some_iff.1 h2).1
    simp only [lentGh] at hρ
    rw [if_pos ⟨by omega, by omega⟩] at hρ
    simp at hρ
    obtain ⟨rfl, rfl, _, _⟩ := hρ
    have hs : s - 1000 = i := by omega
    rw [hs]
    obtain ⟨h3, h4⟩ := I.box i d h2
    exact ⟨h3, .inr fun j hj => ⟨i, d, h2, rfl, by omega, by simp only [obSize] at hj; omega⟩, h4⟩
  dead s hg := by
    simp only [lentGh]
    split
    · rename_i h
      have := borrowed_some bs 0 (s - 1000) (by omega)
      rw [show 1000 + (0 + (s - 1000)) = s by omega] at this
      exact absurd hg this
    · rfl
  apart s s' x x' hne h1 h2 := by
    simp only [lentGh] at h1 h2
    split at h1 <;> split at h2 <;> simp at h1 h2
    rename_i g1 g2
    subst h1; subst h2
    exact I.apart _ _ (by omega) (by omega) (by omega)
  toks s b e top _ h := by simp [lentGh] at h
  tapart s s' x x' _ _ _ h := by simp [lentGh] at h
  trapart s s' x y _ h := by simp [lentGh] at h

def readRes (tmps : Array Value) (r : ResultVar) : Sem Value := match r with
  | .tmp t => Pure.pure (tmps.getD t undef)
  | .cell x t => do loadVar t (← asAddr (tmps.getD x undef))
theorem results_eq (g : Func) (tmps : Array Value) : results g tmps = (do let vs ← g.results.mapM (readRes tmps); Pure.pure (if h : vs.size = 1 then vs[0] else .tuple vs) : Sem Value) := rfl

theorem res_run (h : Rel N X w0 μ0 G [] T M a w) : ∀ (rs : List ResultVar) (qs : List Res) (l : List D), okResL P rs qs = true → resD T M qs = some l →
    ∃ vs : List Value, (rs.mapM (readRes a.tmps)).run P w = .ok vs w ∧ l.length = vs.length ∧
      ∀ (j : Nat) (d : D) (v : Value), l[j]? = some d → vs[j]? = some v → Rep G d v
  | [], [], l, _, hr => by simp [resD] at hr; subst hr; exact ⟨[], by simp, rfl, fun j d v hd => by simp at hd⟩
  | [], _ :: _, _, ok, _ => by simp [okResL] at ok
  | _ :: _, [], _, ok, _ => by simp [okResL] at ok
  | r :: rs, q :: qs, l, ok, hr => by
    simp only [okResL, Bool.and_eq_true] at ok
    obtain ⟨ok1, ok2⟩ := ok
    have tl : ∀ (d : D) (l' : List D) (v : Value), resD T M qs = some l' → (readRes a.tmps r).run P w = .ok v w → Rep G d v →
        ∃ vs : List Value, ((r :: rs).mapM (readRes a.tmps)).run P w = .ok vs w ∧ (d :: l').length = vs.length ∧
          ∀ (j : Nat) (d0 : D) (v : Value), (d :: l')[j]? = some d0 → vs[j]? = some v → Rep G d0 v := by
      intro d l' v h1 h2 h3
      obtain ⟨vs, h4, h5, h6⟩ := res_run h rs qs l' ok2 h1
      refine ⟨v :: vs, ?_, by simp [h5], fun j d0 v0 hd hv => ?_⟩
      · rw [List.mapM_cons]
        simp only [Sem.run_bind, Sem.run_pure, h2, Result.andThen_ok, h4]
      · cases j with
        | zero => simp at hd hv; subst hd; subst hv; exact h3
        | succ j => exact h6 j d0 v0 (by simpa using hd) (by simpa using hv)
    cases r with
    | tmp t =>
      cases q with
      | cell n ag fl sz => simp [okRes] at ok1
      | t n =>
        have e : t = n := Nat.eq_of_beq_eq_true ok1
        subst e
        simp only [resD, Option.bind_eq_some_iff] at hr
        obtain ⟨d, h1, l', h2, h3⟩ := hr
        simp at h3; subst h3
        obtain ⟨v, h4, h5⟩ := h.tmps t d h1
        refine tl d l' v h2 ?_ h5
        have : a.tmps.getD t undef = v := by rw [Array.getD_eq_getD_getElem?, h4]; rfl
        simp [readRes, this]
    | cell x t =>
      cases q with
      | t n => simp [okRes] at ok1
      | cell n ag fl sz =>
        simp only [okRes, Bool.and_eq_true] at ok1
        have e : x = n := Nat.eq_of_beq_eq_true ok1.1
        subst e
        obtain ⟨hta, hts⟩ := okSz_inv ok1.2
        simp only [resD, Option.bind_eq_some_iff] at hr
        obtain ⟨da, h1, d, h2, l', h3, h4⟩ := hr
        simp at h4; subst h4
        obtain ⟨v, h5, h6⟩ := h.tmps x da h1
        obtain ⟨u, h7, h8⟩ := load_sound (P := P) h h6 h2 hta hts
        refine tl d l' u h3 ?_ h8
        have hv : a.tmps.getD x undef = v := by rw [Array.getD_eq_getD_getElem?, h5]; rfl
        simp only [readRes, hv]
        -- the address is a cell's
        have : ∃ ad, v = .pointer (some ad) := by
          cases da with
          | ptr s i o =>
            generalize hda : D.ptr s i o = dd at h6
            cases h6 with
            | pure h0 => subst hda; cases h0
            | ptr _ => exact ⟨_, rfl⟩
            | _ => cases hda
          | rptr cs =>
            generalize hda : D.rptr cs = dd at h6
            cases h6 with
            | pure h0 => subst hda; cases h0 with | rptr => exact ⟨_, rfl⟩
            | _ => cases hda
          | _ => simp [loadD] at h2
        obtain ⟨ad, rfl⟩ := this
        simp only [Instr.loadAt, Instr.sureAddr, Sem.run_bind, Sem.run_pure, Result.andThen_ok] at h7
        simp only [asAddr, Sem.run_bind, Sem.run_pure, Result.andThen_ok]
        exact h7

theorem lents_get : ∀ (n j : Nat) (outs : List D), lents M n j = some outs → outs.length = n ∧ ∀ (i : Nat) (x : D), outs[i]? = some x → ∃ d y, gt M (1000 + (j + i)) = some (.box d) ∧ lend M d = some y ∧ bare y = some x
  | 0, j, outs, h => by simp [lents] at h; subst h; exact ⟨rfl, fun i x hx => by simp at hx⟩
  | n + 1, j, outs, h => by
    simp only [lents] at h
    split at h
    · rename_i d hM
      simp only [Option.bind_eq_some_iff] at h
      obtain ⟨y, h1, x, h2, l, h3, h4⟩ := h
      simp at h4; subst h4
      obtain ⟨h5, h6⟩ := lents_get n (j + 1) l h3
      refine ⟨by simp [h5], fun i x' hx' => ?_⟩
      cases i with
      | zero => simp at hx'; subst hx'; exact ⟨d, y, hM, h1, h2⟩
      | succ i =>
        obtain ⟨d', y', h7, h8⟩ := h6 i x' (by simpa using hx')
        exact ⟨d', y', by rw [show j + (i + 1) = j + 1 + i by omega]; exact h7, h8⟩
    · cases h

theorem lent_cells {d y x : D} (h1 : lend M d = some y) (h2 : bare y = some x) : (cellsOf x).length = (cellsOf d).length ∧ (flatOf x = true → (cellsOf x = cellsOf d ∧ flatOf d = true) ∨ single x = true ∧ cellsOf x = [x]) ∧
    ∀ (j : Nat) (c : D), (cellsOf x)[j]? = some c → ∃ c0, (cellsOf d)[j]? = some c0 ∧ ((c = c0 ∧ flatOf d = true) ∨ ∃ y0, lend M c0 = some y0 ∧ bare y0 = some c) := by
  cases d with
  | agg f cs =>
    cases f with
    | true =>
      simp [lend] at h1; subst h1
      simp [bare] at h2; subst h2
      exact ⟨rfl, fun _ => .inl ⟨rfl, rfl⟩, fun j c hj => ⟨c, hj, .inl ⟨rfl, rfl⟩⟩⟩
    | false =>
      simp only [lend, Option.bind_eq_some_iff] at h1
      obtain ⟨l, h3, h4⟩ := h1
      split at h4
      · simp at h4; subst h4
        simp only [bare, Option.bind_eq_some_iff] at h2
        obtain ⟨l', h5, h6⟩ := h2
        split at h6
        · simp at h6; subst h6
          obtain ⟨h7, h8⟩ := lendL_get h3
          obtain ⟨h9, h10⟩ := bareL_get h5
          refine ⟨h9.trans h7, (fun hf => by cases hf), fun j c hj => ?_⟩
          obtain ⟨c1, h11, h12⟩ := h10 j c hj
          obtain ⟨c0, h13, h14⟩ := h8 j c1 h11
          exact ⟨c0, h13, .inr ⟨c1, h14, h12⟩⟩
        · cases h6
      · cases h4
  | undef => simp [lend] at h1
  | ptr s i o => simp [lend] at h1
  | rptr cs => simp [lend] at h1
  | tup vs => simp [lend] at h1
  | view s off len =>
    have h1' := h1
    simp only [lend] at h1
    split at h1
    · simp at h1; subst h1
      simp [bare] at h2; subst h2
      refine ⟨rfl, (fun hf => by cases hf), fun j c hj => ?_⟩
      cases j with
      | zero => simp [cellsOf] at hj; subst hj; exact ⟨_, rfl, .inr ⟨_, h1', rfl⟩⟩
      | succ j => simp [cellsOf] at hj
    · cases h1
  | slc t es l =>
    have h1' := h1
    have : ∃ t', x = .slc t' es l := by
      simp [lend] at h1; subst h1; simp [bare] at h2; exact ⟨_, h2.symm⟩
    obtain ⟨t', rfl⟩ := this
    refine ⟨rfl, (fun hf => by cases hf), fun j c hj => ?_⟩
    cases j with
    | zero => simp [cellsOf] at hj; subst hj; exact ⟨_, rfl, .inr ⟨_, h1', h2⟩⟩
    | succ j => simp [cellsOf] at hj
  | fn f caps =>
    cases caps with
    | cons c r => simp [lend] at h1
    | nil =>
      have h1' := h1
      simp [lend] at h1; subst h1
      have h2' := h2
      simp [bare] at h2; subst h2
      refine ⟨rfl, (fun hf => by cases hf), fun j c hj => ?_⟩
      cases j with
      | zero => simp [cellsOf] at hj; subst hj; exact ⟨_, rfl, .inr ⟨_, h1', h2'⟩⟩
      | succ j => simp [cellsOf] at hj
  | _ =>
    have h1' := h1
    simp [lend] at h1; subst h1
    have h2' := h2
    simp [bare] at h2; subst h2
    refine ⟨rfl, fun _ => .inr ⟨rfl, rfl⟩, fun j c hj => ?_⟩
    cases j with
    | zero => simp [cellsOf] at hj; subst hj; exact ⟨_, rfl, .inr ⟨_, h1', h2'⟩⟩
    | succ j => simp [cellsOf] at hj

theorem run_ok {k : Nat} {Φ : Tab} (hT : ∀ f fn, gt Φ f = some fn → okFun P f fn = true) (run : C → List (Nat × D) → List (Nat × Ob) → Option (Ex × List (Nat × D) × List (Nat × Ob))) (hE : CodeOk P none k run) : RunOk P (runWith Φ run) := by
  intro f args bs r outs h μ w vals bl base I
  simp only [runWith, Option.bind_eq_some_iff] at h
  obtain ⟨fn, hfn, h⟩ := h
  have hok := hT f fn hfn
  unfold okFun at hok
  split at hok <;> first | (cases hok; done) | skip
  rename_i g hg
  simp only [Bool.and_eq_true] at hok
  obtain ⟨⟨⟨_, hbody⟩, hres⟩, hnp⟩ := hok
  split at hbody <;> first | (cases hbody; done) | skip
  rename_i code hcode
  split at h <;> first | (cases h; done) | skip
  rename_i hlen
  have hlen : args.length = fn.np := Nat.eq_of_beq_eq_true hlen
  simp only [Option.bind_eq_some_iff] at h
  obtain ⟨⟨e, T', M'⟩, hev, h⟩ := h
  have hR0 := rel_start (N := g.ntmps) I (by rw [hlen]; exact Nat.le_of_ble_eq_true hnp)
  have hx : e = .normal ∨ e = .ret := by
    cases e with
    | normal => exact .inl rfl
    | ret => exact .inr rfl
    | exit id => simp at h
  have h' : ((resD T' M' fn.res).bind fun l => match apartB (sitesL l) with
      | false => none
      | true => (giv M' 0 (wrapR l)).bind fun x => match Nat.ble x.2 16 with
        | false => none
        | true => (lents M' bs.length 0).bind fun outs => some (x.1, outs)) = some (r, outs) := by
    rcases hx with rfl | rfl <;> exact h
  simp only [Option.bind_eq_some_iff] at h'
  obtain ⟨l, hl, h'⟩ := h'
  split at h' <;> first | (cases h'; done) | skip
  rename_i hap
  simp only [Option.bind_eq_some_iff] at h'
  obtain ⟨⟨r', j'⟩, hgv, h'⟩ := h'
  split at h' <;> first | (cases h'; done) | skip
  rename_i hj16
  simp only [Option.bind_eq_some_iff] at h'
  obtain ⟨outs', hlt, h'⟩ := h'
  simp at h'; obtain ⟨rfl, rfl⟩ := h'
  have hj16 : j' ≤ 16 := Nat.le_of_ble_eq_true hj16
  refine callsIn_wide.1 (callsIn_of_wp (F := FF none) (n := k) hg hcode trivial ?_ rfl)
  refine hE g.ntmps _ w μ _ fn.body code _ _ e T' M' _ _ w hev hbody hR0 fun a' w' G' hR hlow => ?_
  -- the results
  obtain ⟨vs, h1, h2, h3⟩ := res_run (P := P) hR g.results.toList fn.res l hres hl
  obtain ⟨v, hv1, hv2⟩ : ∃ v, (results g a'.tmps).run P w' = .ok v w' ∧ Rep G' (wrapR l) v := by
    have hm : (results g a'.tmps).run P w' = .ok (if h : vs.toArray.size = 1 then vs.toArray[0] else .tuple vs.toArray) w' := by
      rw [results_eq]
      have : (g.results.mapM (readRes a'.tmps)).run P w' = .ok vs.toArray w' := by
        rw [Array.mapM_eq_mapM_toList]
        simp [h1]
      simp only [Sem.run_bind, this, Result.andThen_ok, Sem.run_pure]
    refine ⟨_, hm, ?_⟩
    cases l with
    | nil =>
      have : vs = [] := by cases vs <;> simp at h2 ⊢
      subst this
      exact .tup (by simp) fun j c x hc => by simp at hc
    | cons d0 l0 =>
      cases l0 with
      | nil =>
        have : ∃ v0, vs = [v0] := by
          cases vs with
          | nil => simp at h2
          | cons v0 r0 => cases r0 with
            | nil => exact ⟨v0, rfl⟩
            | cons _ _ => simp at h2
        obtain ⟨v0, rfl⟩ := this
        exact h3 0 d0 v0 rfl rfl
      | cons d1 l1 =>
        have hne : ¬ vs.toArray.size = 1 := by simp at h2 ⊢; omega
        rw [dif_neg hne]
        exact .tup (by simpa using h2) fun j c x hc hx => h3 j c x hc (by simpa using hx)
  have hap' : apartB (sites (wrapR l)) = true := by
    cases l with
    | nil => rfl
    | cons d0 l0 => cases l0 with
      | nil => simpa [wrapR, sitesL] using hap
      | cons d1 l1 => simpa only [wrapR, sites] using hap
  obtain ⟨τ', hgv1, hgv2⟩ := giv_sound hR (wrapR l) r' 0 j' v hgv hap' hv2
  obtain ⟨hgle, hgout, σ, hσ1, hσ2⟩ := hgv1
  obtain ⟨ho1, ho2⟩ := lents_get bs.length 0 outs' hlt
  -- no row in an old block
  have hrow : ∀ b o, b < w.heap.size → ¬ InRow M' G' b o := by
    rintro b o hb ⟨s, es, lr, base', es', K, hM, hρ, hb1, hb2⟩
    obtain ⟨_, hmay, _⟩ := hR.obs s _ b base' es' K hM hρ
    rcases hmay with hm | hm
    · omega
    · obtain ⟨j, d, hj, hbl, _, _⟩ := hm (o - base') (by simp only [obSize]; omega)
      have hjl : j < bs.length := (List.getElem?_eq_some_iff.1 hj).1
      have hρ2 : G'.ρ (1000 + j) = some (bl j, base j, 0, 0) := hlow (1000 + j) _ (by omega) (by
        simp only [lentGh]
        rw [if_pos ⟨by omega, by omega⟩, show 1000 + j - 1000 = j by omega])
      obtain ⟨d', y, hbx, _⟩ := ho2 j outs'[j] (by simp)
      rw [show 1000 + (0 + j) = 1000 + j by omega] at hbx
      have hne : s ≠ 1000 + j := fun he => by rw [he, hbx] at hM; cases hM
      exact hR.apart _ _ _ _ hne hρ hρ2 hbl
  have hpost : CallOut μ w bs bl base r' outs' v w' (frz M' G' w') τ' := {
    le := fun b o x hx => by
      have hb : b < w.heap.size := lt_of_cell (I.stands b o x hx)
      exact frz_le M' G' w' b o x (by rw [hR.old b o hb]; exact hx)
    old := fun b o hb => by
      have h4 := hR.old b o hb
      cases hx : μ b o with
      | some x => exact frz_le M' G' w' b o x (by rw [h4]; exact hx)
      | none => exact frz_none (by rw [h4]; exact hx) (hrow b o hb)
    stands := frz_stands hR
    keeps := hR.keeps
    val := hgv2
    toks := fun s b e0 top hs => by
      obtain ⟨_, h5⟩ := hσ1 s _ hs
      obtain ⟨k1, k2, k3⟩ := hR.toks _ b e0 top (by simp) h5
      refine ⟨k1, k2, fun o ho => frz_none (k3 o ho) ?_⟩
      rintro ⟨s', es, lr, base', es', K, hM, hρ, _, _⟩
      exact hR.trapart _ s' _ _ (by simp) h5 hρ rfl
    tapart := fun s s' x x' hne hs hs' => by
      exact hR.tapart _ _ _ _ (by simp) (by simp) (hσ2 s s' (by rw [hs]; simp) (by rw [hs']; simp) hne) (hσ1 s _ hs).2 (hσ1 s' _ hs').2
    few := fun s hs => hgout s (.inr (by omega))
    outs := ⟨ho1, fun j x hj => by
      have hjl : j < bs.length := by rw [← ho1]; exact (List.getElem?_eq_some_iff.1 hj).1
      obtain ⟨d, y, hbx, hy, hxb⟩ := ho2 j x hj
      rw [show 1000 + (0 + j) = 1000 + j by omega] at hbx
      have hρ2 : G'.ρ (1000 + j) = some (bl j, base j, 0, 0) := hlow (1000 + j) _ (by omega) (by
        simp only [lentGh]
        rw [if_pos ⟨by omega, by omega⟩, show 1000 + j - 1000 = j by omega])
      obtain ⟨⟨arr, el, q1, q2, q3⟩, _, _⟩ := hR.obs _ _ _ _ _ _ hbx hρ2
      obtain ⟨c1, c2, c3⟩ := lent_cells hy hxb
      refine ⟨arr, el, q1, by rw [c1]; exact q2, fun i c hc => ?_⟩
      obtain ⟨c0, g1, g2⟩ := c3 i c hc
      obtain ⟨u, q4, q5, q6⟩ := q3 i c0 g1
      have hr0 : Rep0 (frz M' G' w') c u := by
        rcases g2 with ⟨rfl, hfl⟩ | ⟨y0, g3, g4⟩
        · exact (q6 hfl).1.mono (frz_le M' G' w')
        · exact (lend_sound hR (frz_le M' G' w') _ c0 y0 u (Nat.lt_succ_self _) (fun _ => rfl) g3 q5).bare g4
      refine ⟨u, q4, .pure hr0, fun hf => ⟨hr0, ?_⟩⟩
      rcases c2 hf with ⟨e1, e2⟩ | ⟨e1, e2⟩
      · rw [e1, g1] at hc; cases hc
        exact (q6 e2).2
      · rw [e2] at hc
        cases i with
        | zero => simp at hc; subst hc; exact e1
        | succ i => simp at hc⟩ }
  rcases hx with rfl | rfl
  · exact ⟨hR.dfr, v, hv1, v, _, τ', rfl, hpost⟩
  · exact ⟨hR.dfr, v, hv1, v, _, τ', rfl, hpost⟩

inductive AllOk (P : Program) : Tab → Prop
  | nil : AllOk P []
  | cons {f : Nat} {fn : Fn} {r : Tab} (h : okFun P f fn = true) (t : AllOk P r) : AllOk P ((f, fn) :: r)
theorem AllOk.get {Φ : Tab} (h : AllOk P Φ) : ∀ f fn, gt Φ f = some fn → okFun P f fn = true := by
  induction h with
  | nil => intro f fn h; simp [gt] at h
  | @cons f0 fn0 r h0 t ih =>
    intro f fn h
    simp only [gt] at h
    split at h
    · rename_i hb
      have : f0 = f := Nat.eq_of_beq_eq_true hb
      simp at h; subst h; subst this; exact h0
    · exact ih f fn h

/-- THE SUM: what a table that passes says, its runs show -/
theorem runF_ok {Φ : Tab} (hP : P.follows .mixedOrders = true) (hT : ∀ f fn, gt Φ f = some fn → okFun P f fn = true) (n : Nat) : RunOk P (runF Φ n) := by
  have hΦ : TabOk P Φ := fun f fn h => by
    have := hT f fn h
    unfold okFun at this
    split at this
    · simp only [Bool.and_eq_true] at this; exact this.1.1.1
    · cases this
  exact run_ok (k := 0) hT _ ((ev_ok hP hΦ (fun n h => run_ok hT _ h) n).1 none)
end Go.YtnpoikgkhhpdgaaDoorE
