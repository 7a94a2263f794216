/-
  A region that draws its order, whole; codes.
-/
import Derived.Test.YtnpoikgkhhpdgaaDoorEvV
import Derived.LoopNIn
namespace Go.YtnpoikgkhhpdgaaDoorE
variable {P : Program} {N : Nat} {X : Nat → Nat → Prop} {w0 : World} {μ0 : Mem} {G G' : Gh} {Cn Cn' : List Nat} {T T' : List (Nat × D)} {M M' : List (Nat × Ob)} {a : Act} {w w' : World}
section
variable {ro : Option Nat} {n : Nat} {Q : Exit → Act → World → Prop}

theorem head_wp {Φ : Tab} {run : Run} (hrun : RunOk P run) (hΦ : TabOk P Φ) {ops : Array Oper} {q : List Io} {wr : List Nat} (hq : q.length = ops.size) {Ts : Nat → List (Nat × D)} {Ms : Nat → List (Nat × Ob)} {Cs : Nat → List Nat} {vs : Nat → D} {Gs : Gh}
    (hok : ∀ (j : Nat) (io : Io), q[j]? = some io → ∃ o, ops[j]? = some o ∧ okIo P N ops o io = true)
    (hseq : QSeq Φ run wr 0 q Ts Ms Cs vs) (hkeys : keysB (dstL q 0) = true) (hreads : readsB ops (dstL q 0) q 0 = true) (hord : ordB ops wr q 0 [] = true)
    (hap : apartB (siteL q) = true)
    (hbox : ∀ (i : Nat) (io : Io) (s : Nat) (z : D), q[i]? = some io → io.op = .alloc s z → gt (Ms 0) s = some (.box z))
    (hbox2 : ∀ (i j : Nat) (x y : Io) (s : Nat) (z z' : D), q[i]? = some x → q[j]? = some y → x.op = .alloc s z → y.op = .alloc s z' → i = j)
    (hback : backB ops ops.toList 0 = true)
    (hQ : ∀ a' w' G', Rel N X w0 μ0 G' (Cs ops.size) (Ts ops.size) (Ms ops.size) a' w' → Le Gs G' → Q .normal a' w') :
    ∀ (k : Nat) (listed : Array Bool) (a : Act) (w : World), unl listed ops.size = k → HeadInv .any ops ops.size listed → HInv N X w0 μ0 Gs q wr (Ts 0) Ms Cs vs listed a w → wpAnyIn (FF ro) n P .any ops Q k listed a w := by
  intro k
  induction k with
  | zero =>
    intro listed a w hk inv H
    have hall := unl_zero ops.size hk
    obtain ⟨G, T, m, m2, hR, hG, ⟨hm, hm2⟩, hv1, hv2, hC, hW, hfr⟩ := H.ex
    have hdst := keys_apart hkeys
    obtain ⟨hs1, hs2⟩ := QSeq.at hseq hdst ops.size (by omega)
    have hT : ∀ t, gt (Ts ops.size) t = gt T t := by
      intro t
      by_cases hex : ∃ (j : Nat) (io : Io), q[j]? = some io ∧ io.dst = some t
      · obtain ⟨j, io, hj, hd⟩ := hex
        have hjl : j < ops.size := by rw [← hq]; exact (List.getElem?_eq_some_iff.1 hj).1
        rw [hs1 j io t hjl hj hd, hv1 j io t hj hd (hall j hjl)]
      · have hno : ∀ (j : Nat) (io : Io), q[j]? = some io → io.dst ≠ some t := fun j io hj hd => hex ⟨j, io, hj, hd⟩
        rw [hs2 t fun j io _ hj => hno j io hj, hv2 t fun j io hj hd => absurd hd (hno j io hj)]
    have hCs : Cs ops.size = Cs m := by
      have := QSeq.cs hseq m (ops.size - m) (by omega) fun j io h1 h2 hj => by
        cases hja : isApp io.op with
        | false => rfl
        | true => have := (hC j io hj hja).1 (hall j (by omega)); omega
      rwa [show m + (ops.size - m) = ops.size by omega] at this
    have hMs : Ms ops.size = Ms m2 := by
      have := QSeq.ms hseq m2 (ops.size - m2) (by omega) fun j io h1 h2 hj => by
        rw [Nat.zero_add]
        cases hja : isW wr j io.op with
        | false => rfl
        | true => have := (hW j io hj hja).1 (hall j (by omega)); omega
      rwa [show m2 + (ops.size - m2) = ops.size by omega] at this
    refine ⟨?_, hQ a w G (by rw [hCs, hMs]; exact hR.congrT hT) hG⟩
    cases hr : Region.ready .any ops listed with
    | nil => rfl
    | cons i r =>
      have hi : i ∈ Region.ready .any ops listed := by rw [hr]; exact List.mem_cons_self ..
      obtain ⟨h1, o, h2, _⟩ := mem_ready.1 hi
      have h3 := hall i (Array.getElem?_eq_some_iff.1 h2).1
      rw [getD_both h1] at h3; cases h3
  | succ k ih =>
    intro listed a w hk inv H
    obtain ⟨i0, hi0, hu0⟩ := unl_pos (listed := listed) ops.size (by omega)
    refine ⟨fun hnil => ?_, fun i hi => ?_⟩
    · rcases ready_or hback inv.size (Nat.le_refl _) i0 hi0 with h | h
      · rw [h] at hu0; cases hu0
      · exact absurd hnil h
    · have hin : i < ops.size := by
        obtain ⟨_, o, ho, _⟩ := mem_ready.1 hi
        exact (Array.getElem?_eq_some_iff.1 ho).1
      refine head_step hrun hΦ hq hok hseq hkeys hreads hord hap hbox hbox2 inv hi H fun a' w' H' => ?_
      have hun := (mem_ready.1 hi).1
      have := unl_set hun ops.size hin
      exact ih _ a' w' (by omega) (inv.set hi hin) H'

theorem draw_wp (hm : P.follows .mixedOrders = true) (h : Rel N X w0 μ0 G [] T M a w) {Φ : Tab} {run : Run} (hrun : RunOk P run) (hΦ : TabOk P Φ) {ops : Array Oper} {ios : List Io} {wr : List Nat} {defs kills boxes : List Nat} {id : Nat} (hB : drawB P N ops ios wr defs boxes = true)
    (he : evReg Φ run ios (some wr) defs kills boxes T M = some (T', M')) (hQ : ∀ a' w' G', Rel N X w0 μ0 G' [] T' M' a' w' → Low G G' → Q .normal a' w') : (Code.region id ops true).wpIn (FF ro) n P Q a w := by
  simp only [drawB, Bool.and_eq_true] at hB
  obtain ⟨⟨⟨⟨⟨⟨⟨h1, h2⟩, h3⟩, h4⟩, h6⟩, h7⟩, h8⟩, h9⟩ := hB
  obtain ⟨hlen, hget⟩ := okIos_get h1
  have hsz : ios.length = ops.size := by rw [← hlen]; simp
  simp only [evReg, Option.bind_eq_some_iff] at he
  obtain ⟨⟨T2, M2, C2⟩, ⟨M1, e1, e2⟩, e4⟩ := he
  simp at e4; obtain ⟨rfl, rfl⟩ := e4
  obtain ⟨Ts, Ms, Cs, vs, hseq, t0, m0, c0, tn, mn, cn⟩ := dsteps_seq _ _ _ _ _ _ _ _ e2
  rw [hsz] at tn mn cn
  obtain ⟨G1, hs, hG1, hf⟩ := (h.grow (Grows.drawn w (w.drawn + 1))).start defs
  obtain ⟨p1, p2, p3⟩ := preM_get _ _ _ e1
  have hs1 := hs.pre p1
  have hsub := subB_mem h3
  refine wpIn_region_any hm ?_
  have hrepl : ∀ j, (Array.replicate ops.size false).getD j false = false := getD_replicate_false _
  refine head_wp (ro := ro) (n := n) (Q := Q) hrun hΦ (q := ios) (Gs := G) hsz (Ts := Ts) (Ms := Ms) (Cs := Cs) (vs := vs)
    (fun j io hj => by
      obtain ⟨o, ho, hio⟩ := hget j io hj
      exact ⟨o, by simpa using ho, hio⟩)
    hseq h7 h8 h9 h2 (fun i io s z hi hz => by rw [m0]; exact (p2 i io s z hi hz).2) p3 h6
    (fun a' w' G2 h12 hG2 => by
      rw [tn, mn, cn] at h12
      obtain ⟨G3, h13, hG3⟩ := h12.used
      obtain ⟨G4, h14, hG4⟩ := (h13.kills kills).boxes boxes h4
      exact hQ a' w' G4 h14 ((hG2.trans hG3).low.trans hG4))
    ops.size (Array.replicate ops.size false) a { w with drawn := w.drawn + 1 } (unl_replicate _ _)
    ⟨by simp, (fun j oj _ hl => by rw [hrepl] at hl; cases hl), fun t h1 h2 => by omega⟩
    ⟨G1, Ts 0, 0, 0, by rw [t0, m0, c0]; exact hs1, hG1, ⟨by omega, by omega⟩, (fun i io t _ _ hl => by rw [hrepl] at hl; cases hl), fun t _ => rfl, fun i io _ _ => ⟨(fun hl => by rw [hrepl] at hl; cases hl), fun hl => by omega⟩,
      fun i io _ _ => ⟨(fun hl => by rw [hrepl] at hl; cases hl), fun hl => by omega⟩,
      fun i io hi _ => ⟨fun s hs' => hf s (hsub s (siteL_mem hi hs')), fun s z hz => hs.dead s (p2 i io s z hi hz).1⟩⟩
end

/-! ### codes -/
def mC (P : Program) (N : Nat) : C → Code → Bool
  | .bad, _ => true
  | .skip, c => match c with | .skip => true | _ => false
  | .ret, c => match c with | .ret => true | _ => false
  | .exit i, c => match c with | .exit j => Nat.beq i j | _ => false
  | .seq x y, c => match c with | .seq a b => mC P N x a && mC P N y b | _ => false
  | .cond z x y, c => match c with | .cond v a b => okRd v z && mC P N x a && mC P N y b | _ => false
  | .block i x, c => match c with | .block j a => Nat.beq i j && mC P N x a | _ => false
  | .loop x, c => match c with | .loop a => mC P N x a | _ => false
  | .reg ios wr defs _ boxes, c => match c with
    | .region _ ops draw => match draw, wr with
      | true, some l => drawB P N ops ios l defs boxes
      | false, none => regB P N ops ios defs boxes
      | _, _ => false
    | _ => false
  | .kill _ boxes x, c => lowB boxes && mC P N x c
  | .retok _ _ x, c => mC P N x c
  | .dull _ x, c => mC P N x c

def exOf : Ex → Exit
  | .normal => .normal
  | .ret => .ret
  | .exit id => .exit id

/-- a slice gets another site -/
theorem Rel.retok (h : Rel N X w0 μ0 G [] T M a w) {t s es : Nat} {k : Tok} {l : List D} (hT : gt T t = some (.slc k es l)) :
    (k = .full → ∃ G', Rel N X w0 μ0 G' [] (st (pT [s] T) t (.slc (.own s) es l)) (pM [s] M) a w ∧ Low G G') ∧
    ∀ s0, k = .own s0 → ∃ G', Rel N X w0 μ0 G' [] (st (pT [s0, s] T) t (.slc (.own s) es l)) (pM [s0, s] M) a w ∧ Low G G' := by
  obtain ⟨v, hv, hr⟩ := h.tmps t _ hT
  refine ⟨fun hk => ?_, fun s0 hk => ?_⟩
  · subst hk
    have h1 := h.pgτ [s] (by simp)
    refine ⟨G.offτ [s], ⟨h1.keeps, h1.dfr, h1.old, h1.sz, h1.mem, fun t' d hg => ?_, h1.obs, h1.dead, h1.apart, h1.toks, h1.tapart, h1.trapart⟩, fun _ _ _ h => h⟩
    by_cases e : t' = t
    · subst e
      rw [gt_st_same] at hg; cases hg
      refine ⟨v, hv, ?_⟩
      cases hr with
      | pure hr => cases hr with
        | slcNil => exact .ownNil
        | slc Y ht hc hs hm hr => exact .own Y hc hs hm hr (.inl (by rcases ht with ht | ht; cases ht; exact ht.2))
    · rw [gt_st_other _ _ e] at hg
      exact h1.tmps t' d hg
  · subst hk
    have h1 := h.pgτ [s0, s] (by simp)
    by_cases hn : ∃ x, G.τ s0 = some x
    · obtain ⟨⟨b, e0, top⟩, hx⟩ := hn
      obtain ⟨k1, k2, k3⟩ := h.toks s0 b e0 top (by simp) hx
      have h2 := h1.addτ (s := s) (b := b) (e := e0) (top := top) (by show (if has [s0, s] s = true then none else G.τ s) = none; rw [if_pos (has_mem.2 (by simp))]) ⟨k1, k2, k3⟩
        (fun s' x _ hs' => by
          simp only [Gh.offτ] at hs'
          split at hs'
          · cases hs'
          · rename_i hh
            have hne : s' ≠ s0 := fun he => hh (by subst he; simp [has])
            exact h.tapart s' s0 x _ (by simp) (by simp) hne hs' hx)
        (fun s' x hs' => fun he => h.trapart s0 s' _ x (by simp) hx hs' he.symm)
      refine ⟨_, ⟨h2.1.keeps, h2.1.dfr, h2.1.old, h2.1.sz, h2.1.mem, fun t' d hg => ?_, h2.1.obs, h2.1.dead, h2.1.apart, h2.1.toks, h2.1.tapart, h2.1.trapart⟩, fun _ _ _ h => h⟩
      by_cases e : t' = t
      · subst e
        rw [gt_st_same] at hg; cases hg
        refine ⟨v, hv, ?_⟩
        cases hr with
        | pure hr => exact absurd hr.noref (by simp [norefB])
        | ownNil => exact .ownNil
        | own Y hc hs hm hr ht =>
          refine .own Y hc hs hm hr (ht.imp id fun ht => ?_)
          rw [hx] at ht
          simp only [if_true]; exact ht
      · rw [gt_st_other _ _ e] at hg
        exact h2.1.tmps t' d hg
    · have hn0 : G.τ s0 = none := by
        cases hx : G.τ s0 with
        | none => rfl
        | some x => exact absurd ⟨x, hx⟩ hn
      refine ⟨G.offτ [s0, s], ⟨h1.keeps, h1.dfr, h1.old, h1.sz, h1.mem, fun t' d hg => ?_, h1.obs, h1.dead, h1.apart, h1.toks, h1.tapart, h1.trapart⟩, fun _ _ _ h => h⟩
      by_cases e : t' = t
      · subst e
        rw [gt_st_same] at hg; cases hg
        refine ⟨v, hv, ?_⟩
        cases hr with
        | pure hr => exact absurd hr.noref (by simp [norefB])
        | ownNil => exact .ownNil
        | own Y hc hs hm hr ht => exact .own Y hc hs hm hr (.inl (ht.resolve_right fun ht => by rw [hn0] at ht; cases ht))
      · rw [gt_st_other _ _ e] at hg
        exact h1.tmps t' d hg

theorem single_dull (d : D) : single (dull d) = single d := by
  cases d with
  | agg f cs => cases f <;> rfl
  | _ => rfl
theorem dullL_get (cs : List D) (j : Nat) : (dullL cs)[j]? = (cs[j]?).map dull := by
  induction cs generalizing j with
  | nil => simp [dullL]
  | cons d r ih => cases j with
    | zero => simp [dullL]
    | succ j => simp [dullL, ih]
theorem dullL_length (cs : List D) : (dullL cs).length = cs.length := by
  induction cs with
  | nil => rfl
  | cons d r ih => simp [dullL, ih]
theorem singleL_dull {cs : List D} (h : singleL cs = true) : singleL (dullL cs) = true := by
  rw [singleL_get] at *
  intro j c hj
  rw [dullL_get] at hj
  cases hc : cs[j]? with
  | none => simp [hc] at hj
  | some c0 => simp [hc] at hj; subst hj; rw [single_dull]; exact h _ _ hc
theorem Rep0.dull {μ : Mem} {d : D} {v : Value} (r : Rep0 μ d v) : Rep0 μ (dull d) v := by
  induction r with
  | bool b => exact .bool b
  | int k n => exact .int k n
  | str s => exact .str s
  | nilp => exact .nilp
  | nilf => exact .nilf
  | fn f => exact .fn f
  | slcNil ht => exact .slcNil (.inl rfl)
  | slc X ht hc hs hm hr ih => exact .slc X (.inl rfl) hc hs hm hr
  | @agg f cs vs hl h1 hr ih =>
    cases f with
    | true => exact .agg hl h1 hr
    | false =>
      refine .agg (by rw [dullL_length]; exact hl) (singleL_dull h1) fun j c x hc hx => ?_
      rw [dullL_get] at hc
      cases hcs : cs[j]? with
      | none => simp [hcs] at hc
      | some c0 => simp [hcs] at hc; subst hc; exact ih j c0 x hcs hx
  | @tup ds vs hl hr ih =>
    refine .tup (by rw [dullL_length]; exact hl) fun j c x hc hx => ?_
    rw [dullL_get] at hc
    cases hcs : ds[j]? with
    | none => simp [hcs] at hc
    | some c0 => simp [hcs] at hc; subst hc; exact ih j c0 x hcs hx
  | rptr X h1 hm hr ih => exact .rptr X h1 hm hr
theorem Rep.dull {d : D} {v : Value} (r : Rep G d v) : Rep G (dull d) v := by
  induction r with
  | undef v => exact .undef v
  | pure r => exact .pure r.dull
  | ptr e => exact .ptr e
  | view e hk hc ha => exact .view e hk hc ha
  | ownNil => exact .pure (.slcNil (.inl rfl))
  | own X hc hs hm hr ht => exact .pure (.slc X (.inl rfl) hc hs hm hr)
  | @agg cs vs hl hr ih =>
    refine .agg (by rw [dullL_length]; exact hl) fun j c x hc hx => ?_
    rw [dullL_get] at hc
    cases hcs : cs[j]? with
    | none => simp [hcs] at hc
    | some c0 => simp [hcs] at hc; subst hc; exact ih j c0 x hcs hx
  | @tup cs vs hl hr ih =>
    refine .tup (by rw [dullL_length]; exact hl) fun j c x hc hx => ?_
    rw [dullL_get] at hc
    cases hcs : cs[j]? with
    | none => simp [hcs] at hc
    | some c0 => simp [hcs] at hc; subst hc; exact ih j c0 x hcs hx
  | fn hl hr ih => exact .fn hl hr
theorem gt_dullT (ks : List Nat) (T : List (Nat × D)) (t : Nat) : gt (dullT ks T) t = (gt T t).map fun d => if has ks t = true then d else dull d := by
  induction T with
  | nil => rfl
  | cons p r ih =>
    simp only [dullT]
    cases hk : has ks p.1 with
    | true =>
      simp only [gt]
      split
      · rename_i hb
        have := Nat.eq_of_beq_eq_true hb; subst this
        simp [hk]
      · exact ih
    | false =>
      simp only [gt]
      split
      · rename_i hb
        have := Nat.eq_of_beq_eq_true hb; subst this
        simp [hk]
      · exact ih
theorem gt_dullM (M : List (Nat × Ob)) (s : Nat) : gt (dullM M) s = (gt M s).map dullO := by
  induction M with
  | nil => rfl
  | cons p r ih =>
    simp only [dullM, gt]
    split
    · rfl
    · exact ih
theorem BoxOk.dull {d : D} {b base : Nat} (h : BoxOk G w d b base) : BoxOk G w (dull d) b base ∧ (cellsOf (dull d)).length = (cellsOf d).length := by
  obtain ⟨arr, el, h1, h2, h3⟩ := h
  have one : cellsOf d = [d] → cellsOf (YtnpoikgkhhpdgaaDoorE.dull d) = [YtnpoikgkhhpdgaaDoorE.dull d] → flatOf (YtnpoikgkhhpdgaaDoorE.dull d) = true ∧ YtnpoikgkhhpdgaaDoorE.dull d = d ∨ flatOf (YtnpoikgkhhpdgaaDoorE.dull d) = false → BoxOk G w (YtnpoikgkhhpdgaaDoorE.dull d) b base ∧ (cellsOf (YtnpoikgkhhpdgaaDoorE.dull d)).length = (cellsOf d).length := by
    intro e1 e2 e3
    rcases e3 with ⟨_, e3⟩ | e3
    · rw [e3]; exact ⟨⟨arr, el, h1, h2, h3⟩, rfl⟩
    · rw [e1] at h2 h3
      refine ⟨⟨arr, el, h1, by rw [e2]; exact h2, fun j c hj => ?_⟩, by rw [e1, e2]; rfl⟩
      rw [e2] at hj
      cases j with
      | zero =>
        simp at hj; subst hj
        obtain ⟨x, h4, h5, _⟩ := h3 0 d rfl
        exact ⟨x, h4, h5.dull, fun hf => by rw [e3] at hf; cases hf⟩
      | succ j => simp at hj
  cases d with
  | agg f cs =>
    cases f with
    | true => exact ⟨⟨arr, el, h1, h2, h3⟩, rfl⟩
    | false =>
      refine ⟨⟨arr, el, h1, by simpa only [YtnpoikgkhhpdgaaDoorE.dull, cellsOf, dullL_length] using h2, fun j c hj => ?_⟩, by simp only [YtnpoikgkhhpdgaaDoorE.dull, cellsOf, dullL_length]⟩
      simp only [YtnpoikgkhhpdgaaDoorE.dull, cellsOf] at hj
      rw [dullL_get] at hj
      cases hc : cs[j]? with
      | none => simp [hc] at hj
      | some c0 =>
        simp [hc] at hj; subst hj
        obtain ⟨x, h4, h5, _⟩ := h3 j c0 hc
        exact ⟨x, h4, h5.dull, fun hf => by cases hf⟩
  | bool b => exact one rfl rfl (.inl ⟨rfl, rfl⟩)
  | int k n => exact one rfl rfl (.inl ⟨rfl, rfl⟩)
  | str s => exact one rfl rfl (.inl ⟨rfl, rfl⟩)
  | _ => exact one rfl rfl (.inr rfl)
theorem Rel.dull (h : Rel N X w0 μ0 G Cn T M a w) (ks : List Nat) : Rel N X w0 μ0 G Cn (dullT ks T) (dullM M) a w :=
  { h with
    tmps := fun t d hg => by
      rw [gt_dullT] at hg
      cases hT : gt T t with
      | none => simp [hT] at hg
      | some d0 =>
        simp only [hT, Option.map_some, Option.some.injEq] at hg
        obtain ⟨v, h1, h2⟩ := h.tmps t d0 hT
        refine ⟨v, h1, ?_⟩
        split at hg
        · subst hg; exact h2
        · subst hg; exact h2.dull
    obs := fun s ob b base es K hg hρ => by
      rw [gt_dullM] at hg
      cases hM : gt M s with
      | none => simp [hM] at hg
      | some ob0 =>
        simp only [hM, Option.map_some, Option.some.injEq] at hg
        obtain ⟨h1, h2, h3⟩ := h.obs s ob0 b base es K hM hρ
        subst hg
        cases ob0 with
        | box d => exact ⟨(BoxOk.dull h1).1, by simpa only [dullO, obSize, (BoxOk.dull h1).2] using h2, h3⟩
        | row es' l => exact ⟨h1, h2, h3⟩
    dead := fun s hg => by
      rw [gt_dullM] at hg
      cases hM : gt M s with
      | none => exact h.dead s hM
      | some ob0 => simp [hM] at hg }

theorem Rel.kill (h : Rel N X w0 μ0 G [] T M a w) (ks bs : List Nat) (hlow : lowB bs = true) : ∃ G', Rel N X w0 μ0 G' [] (pT bs (rmk T ks)) (pM bs (rmk M bs)) a w ∧ Low G G' :=
  (h.kills ks).boxes bs hlow

section
variable {ro : Option Nat} {k : Nat}

/-- the soundness of a code's run -/
def CodeOk (P : Program) (ro : Option Nat) (k : Nat) (run : C → List (Nat × D) → List (Nat × Ob) → Option (Ex × List (Nat × D) × List (Nat × Ob))) : Prop :=
  ∀ (N : Nat) (X : Nat → Nat → Prop) (w0 : World) (μ0 : Mem) (Q : Exit → Act → World → Prop) (c : C) (code : Code) (T : List (Nat × D)) (M : List (Nat × Ob)) (e : Ex) (T' : List (Nat × D)) (M' : List (Nat × Ob)) (G : Gh) (a : Act) (w : World),
    run c T M = some (e, T', M') → mC P N c code = true → Rel N X w0 μ0 G [] T M a w → (∀ a' w' G', Rel N X w0 μ0 G' [] T' M' a' w' → Low G G' → Q (exOf e) a' w') → code.wpIn (FF ro) k P Q a w

theorem then_of {K : Act → World → Prop} {Q : Exit → Act → World → Prop} {e : Ex} {a : Act} {w : World} (h1 : e = .normal → K a w) (h2 : e ≠ .normal → Q (exOf e) a w) : Exit.then K Q (exOf e) a w := by
  cases e with
  | normal => exact h1 rfl
  | ret => exact h2 (by simp)
  | exit id => exact h2 (by simp)

theorem ev_ok (hP : P.follows .mixedOrders = true) {Φ : Tab} (hΦ : TabOk P Φ) (hrun : ∀ n, CodeOk P none k (ev Φ n) → RunOk P (runWith Φ (ev Φ n))) : ∀ n, (∀ ro, CodeOk P ro k (ev Φ n)) ∧
    ∀ (ro : Option Nat) (N : Nat) (X : Nat → Nat → Prop) (w0 : World) (μ0 : Mem) (Q : Exit → Act → World → Prop) (c : C) (code : Code) (T : List (Nat × D)) (M : List (Nat × Ob)) (e : Ex) (T' : List (Nat × D)) (M' : List (Nat × Ob)) (G : Gh) (a : Act) (w : World),
      ev Φ n (.loop c) T M = some (e, T', M') → mC P N c code = true → Rel N X w0 μ0 G [] T M a w → (∀ a' w' G', Rel N X w0 μ0 G' [] T' M' a' w' → Low G G' → Q (exOf e) a' w') → Code.roundsIn (FF ro) k P code Q n a w := by
  intro n
  induction n with
  | zero =>
    refine ⟨fun ro N X w0 μ0 Q c code T M e T' M' G a w he => by simp [ev] at he, fun ro N X w0 μ0 Q c code T M e T' M' G a w he => by simp [ev] at he⟩
  | succ n ih =>
    obtain ⟨ihE, ihL⟩ := ih
    have hL : ∀ (ro : Option Nat) (N : Nat) (X : Nat → Nat → Prop) (w0 : World) (μ0 : Mem) (Q : Exit → Act → World → Prop) (c : C) (code : Code) (T : List (Nat × D)) (M : List (Nat × Ob)) (e : Ex) (T' : List (Nat × D)) (M' : List (Nat × Ob)) (G : Gh) (a : Act) (w : World),
      ev Φ (n + 1) (.loop c) T M = some (e, T', M') → mC P N c code = true → Rel N X w0 μ0 G [] T M a w → (∀ a' w' G', Rel N X w0 μ0 G' [] T' M' a' w' → Low G G' → Q (exOf e) a' w') → Code.roundsIn (FF ro) k P code Q (n + 1) a w := by
      intro ro N X w0 μ0 Q c code T M e T' M' G a w he hc hR hQ
      rw [roundsIn_succ]
      simp only [ev, Option.bind_eq_some_iff] at he
      obtain ⟨⟨e1, T1, M1⟩, h1, h2⟩ := he
      refine ihE ro N X w0 μ0 _ c code T M e1 T1 M1 G a w h1 hc hR fun a1 w1 G1 hR1 hG1 => ?_
      refine then_of (fun hn => ?_) (fun hn => ?_)
      · subst hn
        exact ihL ro N X w0 μ0 Q c code T1 M1 e T' M' G1 a1 w1 h2 hc hR1 fun a' w' G' h3 h4 => hQ a' w' G' h3 (hG1.trans h4)
      · cases e1 with
        | normal => exact absurd rfl hn
        | ret => simp at h2; obtain ⟨rfl, rfl, rfl⟩ := h2; exact hQ a1 w1 G1 hR1 hG1
        | exit id => simp at h2; obtain ⟨rfl, rfl, rfl⟩ := h2; exact hQ a1 w1 G1 hR1 hG1
    refine ⟨fun ro N X w0 μ0 Q c code T M e T' M' G a w he hc hR hQ => ?_, hL⟩
    cases c with
    | bad => simp [ev] at he
    | skip =>
      simp only [mC] at hc; split at hc <;> first | (cases hc; done) | skip
      simp [ev] at he; obtain ⟨rfl, rfl, rfl⟩ := he
      exact wpIn_skip (hQ a w G hR (Low.refl _))
    | ret =>
      simp only [mC] at hc; split at hc <;> first | (cases hc; done) | skip
      simp [ev] at he; obtain ⟨rfl, rfl, rfl⟩ := he
      exact wpIn_ret (hQ a w G hR (Low.refl _))
    | exit id =>
      simp only [mC] at hc; split at hc <;> first | (cases hc; done) | skip
      have := Nat.eq_of_beq_eq_true hc; subst this
      simp [ev] at he; obtain ⟨rfl, rfl, rfl⟩ := he
      exact wpIn_exit (hQ a w G hR (Low.refl _))
    | seq x y =>
      simp only [mC] at hc; split at hc <;> first | (cases hc; done) | skip
      simp only [Bool.and_eq_true] at hc
      simp only [ev, Option.bind_eq_some_iff] at he
      obtain ⟨⟨e1, T1, M1⟩, h1, h2⟩ := he
      refine wpIn_seq (ihE ro N X w0 μ0 _ x _ T M e1 T1 M1 G a w h1 hc.1 hR fun a1 w1 G1 hR1 hG1 => ?_)
      refine then_of (fun hn => ?_) (fun hn => ?_)
      · subst hn
        exact ihE ro N X w0 μ0 Q y _ T1 M1 e T' M' G1 a1 w1 h2 hc.2 hR1 fun a' w' G' h3 h4 => hQ a' w' G' h3 (hG1.trans h4)
      · cases e1 with
        | normal => exact absurd rfl hn
        | ret => simp at h2; obtain ⟨rfl, rfl, rfl⟩ := h2; exact hQ a1 w1 G1 hR1 hG1
        | exit id => simp at h2; obtain ⟨rfl, rfl, rfl⟩ := h2; exact hQ a1 w1 G1 hR1 hG1
    | cond z x y =>
      simp only [mC] at hc; split at hc <;> first | (cases hc; done) | skip
      simp only [Bool.and_eq_true] at hc
      simp only [ev, Option.bind_eq_some_iff] at he
      obtain ⟨d, h1, h2⟩ := he
      split at h2
      · exact wpIn_cond_true (rd_sound hR hc.1.1 h1).bool_inv (ihE ro N X w0 μ0 Q x _ T M e T' M' G a w h2 hc.1.2 hR hQ)
      · exact wpIn_cond_false (rd_sound hR hc.1.1 h1).bool_inv (ihE ro N X w0 μ0 Q y _ T M e T' M' G a w h2 hc.2 hR hQ)
      · cases h2
    | block id x =>
      simp only [mC] at hc; split at hc <;> first | (cases hc; done) | skip
      simp only [Bool.and_eq_true] at hc
      obtain ⟨hid, hc⟩ := hc
      have := Nat.eq_of_beq_eq_true hid; subst this
      simp only [ev, Option.bind_eq_some_iff] at he
      obtain ⟨⟨e1, T1, M1⟩, h1, h2⟩ := he
      refine wpIn_block (ihE ro N X w0 μ0 _ x _ T M e1 T1 M1 G a w h1 hc hR fun a1 w1 G1 hR1 hG1 => ?_)
      cases e1 with
      | normal => simp at h2; obtain ⟨rfl, rfl, rfl⟩ := h2; exact hQ a1 w1 G1 hR1 hG1
      | ret => simp at h2; obtain ⟨rfl, rfl, rfl⟩ := h2; exact hQ a1 w1 G1 hR1 hG1
      | exit id' =>
        simp only [exOf, Exit.inBlock]
        simp only at h2
        split at h2
        · rename_i hb
          have := Nat.eq_of_beq_eq_true hb; subst this
          simp at h2; obtain ⟨rfl, rfl, rfl⟩ := h2
          rw [if_pos rfl]; exact hQ a1 w1 G1 hR1 hG1
        · rename_i hb
          simp at h2; obtain ⟨rfl, rfl, rfl⟩ := h2
          rw [if_neg (fun he => by subst he; rw [nbT] at hb; cases hb)]; exact hQ a1 w1 G1 hR1 hG1
    | loop x =>
      simp only [mC] at hc; split at hc <;> first | (cases hc; done) | skip
      exact wpIn_loop_rounds (n + 1) (hL ro N X w0 μ0 Q x _ T M e T' M' G a w he hc hR hQ)
    | reg ios nq defs kills boxes =>
      simp only [mC] at hc; split at hc <;> first | (cases hc; done) | skip
      rename_i id ops draw
      simp only [ev, Option.bind_eq_some_iff] at he
      obtain ⟨⟨T1, M1⟩, h1, h2⟩ := he
      simp at h2; obtain ⟨rfl, rfl, rfl⟩ := h2
      have hr := hrun n (ihE none)
      cases draw with
      | true =>
        cases nq with
        | none => cases hc
        | some l => exact draw_wp hP hR hr hΦ hc h1 hQ
      | false =>
        cases nq with
        | none => exact reg_wp hR hr hΦ hc h1 hQ
        | some l => cases hc
    | kill ks bs x =>
      simp only [mC, Bool.and_eq_true] at hc
      simp only [ev] at he
      obtain ⟨G1, hR1, hG1⟩ := hR.kill ks bs hc.1
      exact ihE ro N X w0 μ0 Q x code _ _ e T' M' G1 a w he hc.2 hR1 fun a' w' G' h3 h4 => hQ a' w' G' h3 (hG1.trans h4)
    | dull ks x =>
      simp only [mC] at hc
      simp only [ev] at he
      exact ihE ro N X w0 μ0 Q x code _ _ e T' M' G a w he hc (hR.dull ks) hQ
    | retok t s x =>
      simp only [mC] at hc
      simp only [ev] at he
      split at he <;> first | (cases he; done) | skip
      rename_i kk es l hT
      cases kk with
      | no => simp at he
      | full =>
        simp only at he
        obtain ⟨G1, hR1, hG1⟩ := (hR.retok (s := s) hT).1 rfl
        exact ihE ro N X w0 μ0 Q x code _ _ e T' M' G1 a w he hc hR1 fun a' w' G' h3 h4 => hQ a' w' G' h3 (hG1.trans h4)
      | own s0 =>
        simp only at he
        obtain ⟨G1, hR1, hG1⟩ := (hR.retok (s := s) hT).2 s0 rfl
        exact ihE ro N X w0 μ0 Q x code _ _ e T' M' G1 a w he hc hR1 fun a' w' G' h3 h4 => hQ a' w' G' h3 (hG1.trans h4)
end
end Go.YtnpoikgkhhpdgaaDoorE
