/-
  The quiet operations do what they say.
-/
import Derived.Test.YtnpoikgkhhpdgaaDoorEvM
namespace Go.YtnpoikgkhhpdgaaDoorE
variable {P : Program} {N : Nat} {X : Nat → Nat → Prop} {w0 : World} {μ0 : Mem} {G G' : Gh} {Cn Cn' : List Nat} {T : List (Nat × D)} {M : List (Nat × Ob)} {a : Act} {w w' : World}

theorem q_mv (h : Rel N X w0 μ0 G Cn T M a w) {o : Oper} {x : Rd} {d : D} {ss rs : List Nat} (ok : okOp P o.op (.mv x) = true) (hq : qop T M Cn (.mv x) = some (d, Cn')) :
    Did N X w0 μ0 G Cn' T M a ss rs d ((execOp a.eval o).run P w) := by
  simp only [qop, Option.bind_eq_some_iff] at hq
  obtain ⟨d', h1, h2⟩ := hq
  simp at h2; obtain ⟨rfl, rfl⟩ := h2
  simp only [okOp] at ok
  split at ok <;> first | (cases ok; done) | skip
  all_goals (rename_i y ho; simp only [execOp, ho]; exact Did.pure h (rd_sound h ok h1))

theorem q_pick (h : Rel N X w0 μ0 G Cn T M a w) {o : Oper} {c x y : Rd} {d : D} {ss rs : List Nat} (ok : okOp P o.op (.pick c x y) = true) (hq : qop T M Cn (.pick c x y) = some (d, Cn')) :
    Did N X w0 μ0 G Cn' T M a ss rs d ((execOp a.eval o).run P w) := by
  simp only [qop, Option.bind_eq_some_iff] at hq
  obtain ⟨c', h1, h2⟩ := hq
  simp only [okOp] at ok
  split at ok <;> first | (cases ok; done) | skip
  rename_i c1 x1 y1 ho
  simp only [Bool.and_eq_true] at ok
  simp only [execOp, ho]
  have hc := rd_sound h ok.1.1 h1
  split at h2
  · simp only [Option.bind_eq_some_iff] at h2
    obtain ⟨d', h3, h4⟩ := h2
    simp at h4; obtain ⟨rfl, rfl⟩ := h4
    rw [hc.bool_inv]
    exact ⟨a.eval x1, w, G, by simp [asBool], Gh.le_refl _, fun _ _ => rfl, fun _ _ => rfl, rd_sound h ok.1.2 h3, h⟩
  · simp only [Option.bind_eq_some_iff] at h2
    obtain ⟨d', h3, h4⟩ := h2
    simp at h4; obtain ⟨rfl, rfl⟩ := h4
    rw [hc.bool_inv]
    exact ⟨a.eval y1, w, G, by simp [asBool], Gh.le_refl _, fun _ _ => rfl, fun _ _ => rfl, rd_sound h ok.2 h3, h⟩
  · cases h2

theorem placesOf_built {t : TypeId} {pl : Nat → Option (Nat × Nat)} (hp : placesOf P t = some pl) {i : TypeInfo} {vs cells : Array Value} (hi : P.info? t = some i) (hz : i.zero = some (.agg vs)) {parts : List (Nat × Value)}
    (hf : Instr.fill pl vs parts = some cells) : P.built t parts = some cells := by
  unfold placesOf at hp
  unfold Program.built
  rw [hi]
  split at hp
  · rename_i n e hu
    rw [hu]
    split at hp
    · rename_i ie hie
      simp at hp; subst hp
      simp only [hz, hie]
      exact hf
    · cases hp
  · rename_i fields hu
    rw [hu]
    split at hp
    · rename_i places hpl
      have hp := Option.some.inj hp
      subst hp
      simp only [hz, hpl]
      exact hf
    · cases hp
  · cases hp

theorem q_build (h : Rel N X w0 μ0 G Cn T M a w) {o : Oper} {fl : Bool} {z : List D} {ps : List (Nat × Nat × Rd)} {d : D} {ss rs : List Nat} (ok : okOp P o.op (.build fl z ps) = true) (hq : qop T M Cn (.build fl z ps) = some (d, Cn')) :
    Did N X w0 μ0 G Cn' T M a ss rs d ((execOp a.eval o).run P w) := by
  simp only [qop, Option.bind_eq_some_iff] at hq
  obtain ⟨ds, h1, cs, h2, h3⟩ := hq
  simp only [okOp] at ok
  split at ok <;> first | (cases ok; done) | skip
  rename_i t parts ho
  simp only [Bool.and_eq_true] at ok
  obtain ⟨ok1, ok2⟩ := ok
  split at ok1
  · rename_i pl hpl
    unfold zeroOk at ok2
    split at ok2
    · rename_i i hi
      split at ok2
      · rename_i vs hz
        simp only [Bool.and_eq_true] at ok2
        have hzr : CellsRep G z vs := by
          have hg := okVL_get ok2.1
          refine ⟨by simpa using hg.1, fun j c hj => ?_⟩
          have hlt : j < vs.toList.length := by rw [← hg.1]; exact (List.getElem?_eq_some_iff.1 hj).1
          have hlt' : j < vs.size := by simpa using hlt
          exact ⟨vs[j], by simp, .pure (okV_rep0 G.μ (hg.2 j c vs[j] hj (by simp)))⟩
        obtain ⟨cells, h4, h5⟩ := fill_sound (okPl_parts h _ _ _ ok1 h1) hzr h2
        have hb := placesOf_built hpl hi hz h4
        have hrun := run_build w t (parts.map fun p => (p.1, a.eval p.2)) cells (by simpa using hb)
        have hrun' : (execOp a.eval o).run P w = .ok (.value (.agg cells)) w := by
          simp only [execOp, ho]
          have : (Array.map (fun x => match x with | (i, x) => (i, a.eval x)) parts) = parts.map fun p => (p.1, a.eval p.2) := rfl
          rw [this]
          simp [hrun]
        rw [hrun']
        cases fl with
        | true =>
          simp only at h3
          split at h3
          · rename_i hpl
            simp at h3; obtain ⟨rfl, rfl⟩ := h3
            exact ⟨_, w, G, rfl, Gh.le_refl _, fun _ _ => rfl, fun _ _ => rfl, build_rep h5 (fun _ => hpl), h⟩
          · cases h3
        | false =>
          simp at h3; obtain ⟨rfl, rfl⟩ := h3
          exact ⟨_, w, G, rfl, Gh.le_refl _, fun _ _ => rfl, fun _ _ => rfl, build_rep h5 (fun h => by cases h), h⟩
      · cases ok2
    · cases ok2
  · cases ok1

theorem q_bsl (h : Rel N X w0 μ0 G Cn T M a w) {o : Oper} {es n : Nat} {z : D} {ps : List (Nat × Rd)} {d : D} {ss rs : List Nat} (ok : okOp P o.op (.bsl es z n ps) = true) (hq : qop T M Cn (.bsl es z n ps) = some (d, Cn')) :
    Did N X w0 μ0 G Cn' T M a ss rs d ((execOp a.eval o).run P w) := by
  simp only [qop, Option.bind_eq_some_iff] at hq
  obtain ⟨ds, h1, l, h2, h3⟩ := hq
  simp at h3; obtain ⟨rfl, rfl⟩ := h3
  simp only [okOp] at ok
  split at ok <;> first | (cases ok; done) | skip
  rename_i t n' parts ho
  simp only [Bool.and_eq_true] at ok
  obtain ⟨⟨⟨ok1, ok2⟩, ok3⟩, ok4⟩ := ok
  have e1 : n' = n := Nat.eq_of_beq_eq_true ok1
  subst e1
  split at ok4
  · rename_i e he
    obtain ⟨ie, zv, hi, hs, hz, hzv, hzs, hzl⟩ := okEl_inv ok4
    obtain ⟨v, w', μ', h4, h5, h6, h7, h8⟩ := bsl_sound (P := P) (vs := parts.map fun p => (p.1, a.eval p.2)) h (sliceEl_inv he) hi hs hz (okV_rep0 G.μ hzv) hzs hzl (by simpa using Nat.le_of_ble_eq_true ok3)
      (by simpa using okPS_parts h _ _ _ ok2 h1) h2
    refine ⟨v, w', _, ?_, Gh.le_μ h6, fun _ _ => rfl, fun _ _ => rfl, h7, h8⟩
    simp only [execOp, ho]
    have : (Array.map (fun x => match x with | (i, x) => (i, a.eval x)) parts) = parts.map fun p => (p.1, a.eval p.2) := rfl
    rw [this]
    simp [h4]
  · cases ok4

theorem q_load (h : Rel N X w0 μ0 G Cn T M a w) {o : Oper} {ag fl : Bool} {n : Nat} {x : Rd} {d : D} {ss rs : List Nat} (ok : okOp P o.op (.load ag fl n x) = true) (hq : qop T M Cn (.load ag fl n x) = some (d, Cn')) :
    Did N X w0 μ0 G Cn' T M a ss rs d ((execOp a.eval o).run P w) := by
  simp only [qop, Option.bind_eq_some_iff] at hq
  obtain ⟨da, h1, d', h2, h3⟩ := hq
  simp at h3; obtain ⟨rfl, rfl⟩ := h3
  simp only [okOp] at ok
  split at ok <;> first | (cases ok; done) | skip
  rename_i t y ho
  simp only [Bool.and_eq_true] at ok
  obtain ⟨hta, hts⟩ := okSz_inv ok.2
  simp only [execOp, ho]
  exact Did.still h (load_sound h (rd_sound h ok.1 h1) h2 hta hts)

theorem q_nilc (h : Rel N X w0 μ0 G Cn T M a w) {o : Oper} {x : Rd} {d : D} {ss rs : List Nat} (ok : okOp P o.op (.nilc x) = true) (hq : qop T M Cn (.nilc x) = some (d, Cn')) :
    Did N X w0 μ0 G Cn' T M a ss rs d ((execOp a.eval o).run P w) := by
  simp only [qop, Option.bind_eq_some_iff] at hq
  obtain ⟨da, h1, h2⟩ := hq
  simp only [okOp] at ok
  split at ok <;> first | (cases ok; done) | skip
  rename_i y ho
  have hr := rd_sound h ok h1
  simp only [execOp, ho]
  generalize a.eval y = v at hr ⊢
  split at h2 <;> first | (cases h2; done) | skip
  · simp at h2; obtain ⟨rfl, rfl⟩ := h2
    have hr0 := hr
    cases hr with
    | pure hx => cases hx
    | ptr hρ => exact ⟨_, w, G, rfl, Gh.le_refl _, fun _ _ => rfl, fun _ _ => rfl, hr0, h⟩
  · simp at h2; obtain ⟨rfl, rfl⟩ := h2
    have hr0 := hr
    cases hr with
    | pure hx => cases hx with
      | rptr => exact ⟨_, w, G, rfl, Gh.le_refl _, fun _ _ => rfl, fun _ _ => rfl, hr0, h⟩
  · simp at h2; obtain ⟨rfl, rfl⟩ := h2
    have hr0 := hr
    cases hr with
    | pure hx => cases hx with
      | fn => exact ⟨_, w, G, rfl, Gh.le_refl _, fun _ _ => rfl, fun _ _ => rfl, hr0, h⟩
    | fn hl hr => exact ⟨_, w, G, rfl, Gh.le_refl _, fun _ _ => rfl, fun _ _ => rfl, hr0, h⟩

theorem q_bin (h : Rel N X w0 μ0 G Cn T M a w) {o : Oper} {k : Nat} {op : BinOp} {x y : Rd} {d : D} {ss rs : List Nat} (ok : okOp P o.op (.bin k op x y) = true) (hq : qop T M Cn (.bin k op x y) = some (d, Cn')) :
    Did N X w0 μ0 G Cn' T M a ss rs d ((execOp a.eval o).run P w) := by
  simp only [qop, Option.bind_eq_some_iff] at hq
  obtain ⟨da, h1, db, h2, h3⟩ := hq
  simp only [okOp] at ok
  split at ok <;> first | (cases ok; done) | skip
  rename_i op' t x' y' _ ho
  simp only [Bool.and_eq_true, decide_eq_true_eq] at ok
  obtain ⟨⟨⟨rfl, ok1⟩, ok2⟩, ok3⟩ := ok
  cases hk : binK k da with
  | false => rw [hk] at h3; cases h3
  | true =>
    rw [hk] at h3
    simp only [Option.bind_eq_some_iff] at h3
    obtain ⟨d', h4, h5⟩ := h3
    simp at h5; obtain ⟨rfl, rfl⟩ := h5
    simp only [execOp, ho]
    refine Did.still h (binD_sound (rd_sound h ok1 h1) (rd_sound h ok2 h2) h4 t x' y' ?_ ?_)
    · rintro ⟨b, rfl⟩
      match k, hk, ok3 with
      | 1, _, ok3 => exact isBoolT_inv ok3
      | 0, hk, _ => simp [binK] at hk
      | 2, hk, _ => simp [binK] at hk
      | k + 3, hk, _ => simp [binK] at hk
    · intro he
      match k, hk, ok3 with
      | 2, _, ok3 => exact isPtr_inv ok3
      | 0, hk, _ => rcases he with rfl | ⟨s, i, o, rfl⟩ <;> simp [binK] at hk
      | 1, hk, _ => rcases he with rfl | ⟨s, i, o, rfl⟩ <;> simp [binK] at hk
      | k + 3, hk, _ => rcases he with rfl | ⟨s, i, o, rfl⟩ <;> simp [binK] at hk

theorem q_eqa (h : Rel N X w0 μ0 G Cn T M a w) {o : Oper} {neq : Bool} {ks : List Nat} {x y : Rd} {d : D} {ss rs : List Nat} (ok : okOp P o.op (.eqa neq ks x y) = true) (hq : qop T M Cn (.eqa neq ks x y) = some (d, Cn')) :
    Did N X w0 μ0 G Cn' T M a ss rs d ((execOp a.eval o).run P w) := by
  simp only [qop, Option.bind_eq_some_iff] at hq
  obtain ⟨da, h1, db, h2, h3⟩ := hq
  simp only [okOp] at ok
  split at ok <;> first | (cases ok; done) | skip
  rename_i op' t x' y' _ ho
  simp only [Bool.and_eq_true, decide_eq_true_eq] at ok
  obtain ⟨⟨⟨⟨⟨rfl, ok1⟩, ok2⟩, ok3⟩, ok4⟩, ok5⟩ := ok
  split at h3
  · rename_i f cs g ds
    simp only [Option.bind_eq_some_iff] at h3
    obtain ⟨r, h4, h5⟩ := h3
    simp at h5; obtain ⟨rfl, rfl⟩ := h5
    split at ok3
    · rename_i ks' hks
      simp at ok3; subst ok3
      split at ok4
      · rename_i b hb
        subst ok4
        simp only [execOp, ho]
        refine Did.still h ⟨_, eqa_sound (rd_sound h ok1 h1) (rd_sound h ok2 h2) h4 hks (by omega) hb (by simpa using ok5) x' y', .pure (.bool _)⟩
      · cases ok4
    · cases ok3
  · cases h3

theorem q_un (h : Rel N X w0 μ0 G Cn T M a w) {o : Oper} {op : UnOp} {x : Rd} {d : D} {ss rs : List Nat} (ok : okOp P o.op (.un op x) = true) (hq : qop T M Cn (.un op x) = some (d, Cn')) :
    Did N X w0 μ0 G Cn' T M a ss rs d ((execOp a.eval o).run P w) := by
  simp only [qop, Option.bind_eq_some_iff] at hq
  obtain ⟨da, h1, d', h2, h3⟩ := hq
  simp at h3; obtain ⟨rfl, rfl⟩ := h3
  simp only [okOp] at ok
  split at ok <;> first | (cases ok; done) | skip
  rename_i op' t y ho
  simp only [Bool.and_eq_true, decide_eq_true_eq] at ok
  obtain ⟨rfl, ok⟩ := ok
  simp only [execOp, ho]
  exact Did.still h (unD_sound (rd_sound h ok h1) h2)

theorem q_cv (h : Rel N X w0 μ0 G Cn T M a w) {o : Oper} {k : IntKind} {x : Rd} {d : D} {ss rs : List Nat} (ok : okOp P o.op (.cv k x) = true) (hq : qop T M Cn (.cv k x) = some (d, Cn')) :
    Did N X w0 μ0 G Cn' T M a ss rs d ((execOp a.eval o).run P w) := by
  simp only [qop, Option.bind_eq_some_iff] at hq
  obtain ⟨da, h1, h2⟩ := hq
  simp only [okOp] at ok
  split at ok <;> first | (cases ok; done) | skip
  rename_i s t y ho
  simp only [Bool.and_eq_true] at ok
  obtain ⟨⟨ok1, ok2⟩, ok3⟩ := ok
  split at h2
  · rename_i k' n
    simp at h2; obtain ⟨rfl, rfl⟩ := h2
    have hr := (rd_sound h ok3 h1).int_inv
    obtain ⟨us, hus⟩ := Option.isSome_iff_exists.1 ok2
    refine ⟨.int k (k.wrap n), w, G, ?_, Gh.le_refl _, fun _ _ => rfl, fun _ _ => rfl, .pure (.int _ _), h⟩
    simp only [execOp, ho, hr]
    simp [convert, run_underlying hus, run_underlying (isInt_inv ok1), Conv.intToInt]
  · cases h2

theorem q_fld (h : Rel N X w0 μ0 G Cn T M a w) {o : Oper} {ag fl : Bool} {off n : Nat} {x : Rd} {d : D} {ss rs : List Nat} (ok : okOp P o.op (.fld ag fl off n x) = true) (hq : qop T M Cn (.fld ag fl off n x) = some (d, Cn')) :
    Did N X w0 μ0 G Cn' T M a ss rs d ((execOp a.eval o).run P w) := by
  simp only [qop, Option.bind_eq_some_iff] at hq
  obtain ⟨da, h1, h2⟩ := hq
  simp only [okOp] at ok
  split at ok <;> first | (cases ok; done) | skip
  rename_i t y f ho
  simp only [Bool.and_eq_true] at ok
  obtain ⟨ok1, ok2⟩ := ok
  split at h2
  · rename_i f' cs
    simp only [Option.bind_eq_some_iff] at h2
    obtain ⟨d', h3, h4⟩ := h2
    simp at h4; obtain ⟨rfl, rfl⟩ := h4
    unfold okFd at ok1
    split at ok1
    · rename_i fs hu
      split at ok1
      · rename_i fd hfd
        simp only [Bool.and_eq_true] at ok1
        have e : fd.offset = off := Nat.eq_of_beq_eq_true ok1.1
        subst e
        obtain ⟨hta, hts⟩ := okSz_inv ok1.2
        obtain ⟨vs, hv, z, hz, hzr⟩ := part_sound (P := P) (w := w) (rd_sound h ok2 h1) h3 hta hts
        simp only [execOp, ho]
        refine Did.still h ⟨z, ?_, hzr⟩
        rw [hv]
        simp [Instr.field, run_underlying hu, hfd, asAgg, hz]
      · cases ok1
    · cases ok1
  · cases h2

theorem q_fadr (h : Rel N X w0 μ0 G Cn T M a w) {o : Oper} {off : Nat} {x : Rd} {d : D} {ss rs : List Nat} (ok : okOp P o.op (.fadr off x) = true) (hq : qop T M Cn (.fadr off x) = some (d, Cn')) :
    Did N X w0 μ0 G Cn' T M a ss rs d ((execOp a.eval o).run P w) := by
  simp only [qop, Option.bind_eq_some_iff] at hq
  obtain ⟨da, h1, h2⟩ := hq
  have hCn : Cn' = Cn := by unfold fadrD at h2; split at h2 <;> first | (simp at h2; exact h2.2.symm) | cases h2
  subst hCn
  simp only [okOp] at ok
  split at ok <;> first | (cases ok; done) | skip
  rename_i t y f ho
  simp only [Bool.and_eq_true] at ok
  obtain ⟨ok1, ok2⟩ := ok
  unfold okFa at ok1
  split at ok1
  · rename_i fs hu
    split at ok1
    · rename_i fd hfd
      simp only [Bool.and_eq_true] at ok1
      obtain ⟨e, ok1⟩ := ok1
      split at ok1
      · rename_i n hn
        have hpos : 0 < n := by simpa using ok1
        obtain ⟨m, rfl⟩ : ∃ m, n = m + 1 := ⟨n - 1, by omega⟩
        simp only [execOp, ho]
        exact Did.still h (fadr_sound (rd_sound h ok2 h1) hu hfd (Nat.eq_of_beq_eq_true e) hn h2)
      · cases ok1
    · cases ok1
  · cases ok1

theorem q_iadr (h : Rel N X w0 μ0 G Cn T M a w) {o : Oper} {es : Nat} {x i : Rd} {d : D} {ss rs : List Nat} (ok : okOp P o.op (.iadr es x i) = true) (hq : qop T M Cn (.iadr es x i) = some (d, Cn')) :
    Did N X w0 μ0 G Cn' T M a ss rs d ((execOp a.eval o).run P w) := by
  simp only [qop, Option.bind_eq_some_iff] at hq
  obtain ⟨dx, h1, di, h2, h3⟩ := hq
  cases hv : vwOk M es dx with
  | false => rw [hv] at h3; cases h3
  | true =>
    rw [hv] at h3
    have hCn : Cn' = Cn := by
      simp only [iadrD] at h3
      split at h3
      · split at h3
        · simp only [Option.bind_eq_some_iff] at h3
          obtain ⟨_, _, _, _, h4⟩ := h3; simp at h4; exact h4.2.symm
        · cases h3
      · simp only [Option.bind_eq_some_iff] at h3
        obtain ⟨_, _, h4⟩ := h3; simp at h4; exact h4.2.symm
      · cases h3
    subst hCn
    simp only [okOp] at ok
    split at ok <;> first | (cases ok; done) | skip
    rename_i t x' i' ho
    simp only [Bool.and_eq_true] at ok
    obtain ⟨⟨ok1, ok2⟩, ok3⟩ := ok
    split at ok3
    · rename_i e he
      simp only [execOp, ho]
      exact Did.still h (iadr_sound (rd_sound h ok1 h1) (rd_sound h ok2 h2) (sliceEl_inv he) (okN_inv ok3) h3 (vwOk_inv h hv))
    · cases ok3

theorem q_iada (h : Rel N X w0 μ0 G Cn T M a w) {o : Oper} {len es : Nat} {x i : Rd} {d : D} {ss rs : List Nat} (ok : okOp P o.op (.iada len es x i) = true) (hq : qop T M Cn (.iada len es x i) = some (d, Cn')) :
    Did N X w0 μ0 G Cn' T M a ss rs d ((execOp a.eval o).run P w) := by
  simp only [qop, Option.bind_eq_some_iff] at hq
  obtain ⟨dx, h1, di, h2, j, h3, h4⟩ := hq
  have hCn : Cn' = Cn := by unfold iadaD at h4; split at h4 <;> first | (simp at h4; exact h4.2.symm) | cases h4
  subst hCn
  simp only [okOp] at ok
  split at ok <;> first | (cases ok; done) | skip
  rename_i t x' i' ho
  simp only [Bool.and_eq_true] at ok
  obtain ⟨⟨ok1, ok2⟩, ok3⟩ := ok
  split at ok3
  · rename_i n e hu
    simp only [Bool.and_eq_true] at ok3
    have e1 : n = len := Nat.eq_of_beq_eq_true ok3.1
    subst e1
    simp only [execOp, ho]
    exact Did.still h (iada_sound (rd_sound h ok1 h1) (rd_sound h ok2 h2) hu (okN_inv ok3.2) (by rw [h3]; exact h4))
  · cases ok3

theorem q_ida (h : Rel N X w0 μ0 G Cn T M a w) {o : Oper} {len es : Nat} {ag fl : Bool} {x i : Rd} {d : D} {ss rs : List Nat} (ok : okOp P o.op (.ida len es ag fl x i) = true) (hq : qop T M Cn (.ida len es ag fl x i) = some (d, Cn')) :
    Did N X w0 μ0 G Cn' T M a ss rs d ((execOp a.eval o).run P w) := by
  simp only [qop, Option.bind_eq_some_iff] at hq
  obtain ⟨dx, h1, di, h2, j, h3, h4⟩ := hq
  simp only [okOp] at ok
  split at ok <;> first | (cases ok; done) | skip
  rename_i t x' i' ho
  simp only [Bool.and_eq_true] at ok
  obtain ⟨⟨ok1, ok2⟩, ok3⟩ := ok
  split at ok3
  · rename_i n e hu
    simp only [Bool.and_eq_true] at ok3
    have e1 : n = len := Nat.eq_of_beq_eq_true ok3.1
    subst e1
    obtain ⟨hta, hts⟩ := okSz_inv ok3.2
    split at h4
    · rename_i f cs
      simp only [Option.bind_eq_some_iff] at h4
      obtain ⟨d', h5, h6⟩ := h4
      simp at h6; obtain ⟨rfl, rfl⟩ := h6
      obtain ⟨k, m, rfl, h0, hlt, rfl⟩ := idx_inv h3
      obtain ⟨vs, hv, z, hz, hzr⟩ := part_sound (P := P) (w := w) (rd_sound h ok1 h1) h5 hta hts
      have hi := (rd_sound h ok2 h2).int_inv
      simp only [execOp, ho]
      refine Did.still h ⟨z, ?_, hzr⟩
      rw [hv, hi]
      simp [Instr.index, asIntOf, run_underlying hu, h0, hlt, run_sizeOf' hts, hz]
    · cases h4
  · cases ok3

theorem q_ids (h : Rel N X w0 μ0 G Cn T M a w) {o : Oper} {x i : Rd} {d : D} {ss rs : List Nat} (ok : okOp P o.op (.ids x i) = true) (hq : qop T M Cn (.ids x i) = some (d, Cn')) :
    Did N X w0 μ0 G Cn' T M a ss rs d ((execOp a.eval o).run P w) := by
  simp only [qop, Option.bind_eq_some_iff] at hq
  obtain ⟨dx, h1, di, h2, h4⟩ := hq
  simp only [okOp] at ok
  split at ok <;> first | (cases ok; done) | skip
  rename_i t x' i' ho
  simp only [Bool.and_eq_true] at ok
  obtain ⟨⟨ok1, ok2⟩, ok3⟩ := ok
  split at h4
  · rename_i s
    simp only [Option.bind_eq_some_iff] at h4
    obtain ⟨j, h5, b, h6, h7⟩ := h4
    simp at h7; obtain ⟨rfl, rfl⟩ := h7
    obtain ⟨k, m, rfl, h0, hlt, rfl⟩ := idx_inv h5
    have hx := (rd_sound h ok1 h1).str_inv
    have hi := (rd_sound h ok2 h2).int_inv
    simp only [execOp, ho]
    refine Did.still h ⟨.int .u8 b.toNat, ?_, .pure (.int _ _)⟩
    rw [hx, hi]
    simp [Instr.index, asIntOf, run_underlying (isStr_inv ok3), h0, h6]
  · cases h4

theorem q_ext (h : Rel N X w0 μ0 G Cn T M a w) {o : Oper} {x : Rd} {i : Nat} {d : D} {ss rs : List Nat} (ok : okOp P o.op (.ext x i) = true) (hq : qop T M Cn (.ext x i) = some (d, Cn')) :
    Did N X w0 μ0 G Cn' T M a ss rs d ((execOp a.eval o).run P w) := by
  simp only [qop, Option.bind_eq_some_iff] at hq
  obtain ⟨dx, h1, h2⟩ := hq
  simp only [okOp] at ok
  split at ok <;> first | (cases ok; done) | skip
  rename_i x' i' ho
  simp only [Bool.and_eq_true] at ok
  have e : i' = i := Nat.eq_of_beq_eq_true ok.2
  subst e
  split at h2
  · rename_i vs
    simp only [Option.bind_eq_some_iff] at h2
    obtain ⟨d', h3, h4⟩ := h2
    simp at h4; obtain ⟨rfl, rfl⟩ := h4
    simp only [execOp, ho]
    exact Did.still h (tup_ext (rd_sound h ok.1 h1) h3)
  · cases h2

theorem args1 {c : Call} {ρ : Operand → Value} {b : Builtin} {x' : Operand} (hc : c.callee = .builtin b) (ha : c.args.toList = [x']) {o : Oper} (ho : o.op = .call c) :
    ∃ cs, (execOp ρ o).run P w = (builtin b c.argTypes o.type cs #[ρ x']).run P w := by
  have : c.args = #[x'] := by rw [← Array.toList_inj, ha]
  apply Exists.intro
  simp only [execOp, ho, resolve, hc, Sem.run_bind, Sem.run_pure, Result.andThen_ok, invoke]
  rw [show c.args.map ρ = #[ρ x'] by rw [this]; simp]
theorem args2 {c : Call} {ρ : Operand → Value} {b : Builtin} {x' y' : Operand} (hc : c.callee = .builtin b) (ha : c.args.toList = [x', y']) {o : Oper} (ho : o.op = .call c) :
    ∃ cs, (execOp ρ o).run P w = (builtin b c.argTypes o.type cs #[ρ x', ρ y']).run P w := by
  have : c.args = #[x', y'] := by rw [← Array.toList_inj, ha]
  apply Exists.intro
  simp only [execOp, ho, resolve, hc, Sem.run_bind, Sem.run_pure, Result.andThen_ok, invoke]
  rw [show c.args.map ρ = #[ρ x', ρ y'] by rw [this]; simp]

theorem q_len (h : Rel N X w0 μ0 G Cn T M a w) {o : Oper} {str : Bool} {x : Rd} {d : D} {ss rs : List Nat} (ok : okOp P o.op (.len str x) = true) (hq : qop T M Cn (.len str x) = some (d, Cn')) :
    Did N X w0 μ0 G Cn' T M a ss rs d ((execOp a.eval o).run P w) := by
  simp only [qop, Option.bind_eq_some_iff] at hq
  obtain ⟨dx, h1, h2⟩ := hq
  simp only [okOp] at ok
  split at ok <;> first | (cases ok; done) | skip
  rename_i c ho
  split at ok <;> first | (cases ok; done) | skip
  rename_i x' t hc ha hat
  simp only [Bool.and_eq_true] at ok
  obtain ⟨ok1, ok2⟩ := ok
  have hr := rd_sound h ok1 h1
  obtain ⟨bs, hex⟩ := args1 (P := P) (w := w) (ρ := a.eval) hc ha ho
  rw [hex]
  have hat' : c.argTypes[0]? = some t := by rw [← Array.getElem?_toList, hat]; rfl
  simp only [builtin, Builtin.len_, hat']
  generalize a.eval x' = v at hr ⊢
  split at h2
  · rename_i tk es l
    simp at h2; obtain ⟨rfl, rfl⟩ := h2
    obtain ⟨e, he⟩ := Option.isSome_iff_exists.1 ok2
    obtain ⟨ad, cap, hv⟩ := hr.slc_len
    exact Did.still h ⟨.int .i64 l.length, by rw [hv]; simp [run_underlying (sliceEl_inv he), goInt], .pure (.int _ _)⟩
  · rename_i s off n
    simp at h2; obtain ⟨rfl, rfl⟩ := h2
    obtain ⟨e, he⟩ := Option.isSome_iff_exists.1 ok2
    cases hr with
    | pure hx => cases hx
    | view hρ hk hcp ha' =>
      exact Did.still h ⟨.int .i64 n, by simp [run_underlying (sliceEl_inv he), goInt, *], .pure (.int _ _)⟩
  · rename_i s
    simp at h2; obtain ⟨rfl, rfl⟩ := h2
    exact Did.still h ⟨.int .i64 s.size, by rw [hr.str_inv]; simp [run_underlying (isStr_inv ok2), goInt], .pure (.int _ _)⟩
  · cases h2

theorem okRdO_rep (h : Rel N X w0 μ0 G Cn T M a w) {x : Option Operand} {r : Option Rd} {d : Option D} (ok : okRdO x r = true) (hr : rdvO T r = some d) : RepO G d (x.map a.eval) := by
  rcases rdO_sound h ok hr with ⟨rfl, rfl⟩ | ⟨y, d', rfl, rfl, h1⟩
  · trivial
  · exact h1

theorem q_sl (h : Rel N X w0 μ0 G Cn T M a w) {o : Oper} {es : Nat} {x : Rd} {lo hi mx : Option Rd} {d : D} {ss rs : List Nat} (ok : okOp P o.op (.sl es x lo hi mx) = true) (hq : qop T M Cn (.sl es x lo hi mx) = some (d, Cn')) :
    Did N X w0 μ0 G Cn' T M a ss rs d ((execOp a.eval o).run P w) := by
  simp only [qop, Option.bind_eq_some_iff] at hq
  obtain ⟨dx, h1, dlo, h2, dhi, h3, dmx, h4, h5⟩ := hq
  cases hv : vwOk M es dx with
  | false => rw [hv] at h5; cases h5
  | true =>
    rw [hv] at h5
    simp only [Option.bind_eq_some_iff] at h5
    obtain ⟨d', h6, h7⟩ := h5
    simp at h7; obtain ⟨rfl, rfl⟩ := h7
    simp only [okOp] at ok
    split at ok <;> first | (cases ok; done) | skip
    rename_i t x' lo' hi' mx' ho
    simp only [Bool.and_eq_true] at ok
    obtain ⟨⟨⟨⟨ok1, ok2⟩, ok3⟩, ok4⟩, ok5⟩ := ok
    split at ok5
    · rename_i e he
      simp only [execOp, ho]
      exact Did.still h (slD_sound (rd_sound h ok1 h1) (okRdO_rep h ok2 h2) (okRdO_rep h ok3 h3) (okRdO_rep h ok4 h4) (sliceEl_inv he) (okN_inv ok5) h6 (vwOk_inv h hv))
    · cases ok5

theorem q_sls (h : Rel N X w0 μ0 G Cn T M a w) {o : Oper} {x : Rd} {lo hi : Option Rd} {d : D} {ss rs : List Nat} (ok : okOp P o.op (.sls x lo hi) = true) (hq : qop T M Cn (.sls x lo hi) = some (d, Cn')) :
    Did N X w0 μ0 G Cn' T M a ss rs d ((execOp a.eval o).run P w) := by
  simp only [qop, Option.bind_eq_some_iff] at hq
  obtain ⟨dx, h1, dlo, h2, dhi, h3, d', h6, h7⟩ := hq
  simp at h7; obtain ⟨rfl, rfl⟩ := h7
  simp only [okOp] at ok
  split at ok <;> first | (cases ok; done) | skip
  rename_i t x' lo' hi' ho
  simp only [Bool.and_eq_true] at ok
  obtain ⟨⟨⟨ok1, ok2⟩, ok3⟩, ok4⟩ := ok
  simp only [execOp, ho]
  exact Did.still h (sls_sound (rd_sound h ok1 h1) (okRdO_rep h ok2 h2) (okRdO_rep h ok3 h3) (isStr_inv ok4) h6)

theorem q_mm (h : Rel N X w0 μ0 G Cn T M a w) {o : Oper} {mx : Bool} {x y : Rd} {d : D} {ss rs : List Nat} (ok : okOp P o.op (.mm mx x y) = true) (hq : qop T M Cn (.mm mx x y) = some (d, Cn')) :
    Did N X w0 μ0 G Cn' T M a ss rs d ((execOp a.eval o).run P w) := by
  simp only [qop, Option.bind_eq_some_iff] at hq
  obtain ⟨dx, h1, dy, h2, h3⟩ := hq
  simp only [okOp] at ok
  split at ok <;> first | (cases ok; done) | skip
  rename_i c ho
  split at ok <;> first | (cases ok; done) | skip
  rename_i b x' y' hc ha
  simp only [Bool.and_eq_true] at ok
  obtain ⟨⟨ok1, ok2⟩, ok3⟩ := ok
  obtain ⟨bs, hex⟩ := args2 (P := P) (w := w) (ρ := a.eval) hc ha ho
  rw [hex]
  split at h3
  · rename_i k m k' n
    split at h3
    · rename_i hk
      simp at hk; subst hk
      have hx := (rd_sound h ok1 h1).int_inv
      have hy := (rd_sound h ok2 h2).int_inv
      rw [hx, hy]
      cases mx with
      | true =>
        have hb : b = .max := by cases b <;> simp_all
        subst hb
        simp at h3; obtain ⟨rfl, rfl⟩ := h3
        simp only [builtin, Builtin.max_]
        refine Did.still h ⟨.int k (if n > m then n else m), ?_, .pure (.int _ _)⟩
        simp [Builtin.max2]
        try split <;> rfl
      | false =>
        have hb : b = .min := by cases b <;> simp_all
        subst hb
        simp at h3; obtain ⟨rfl, rfl⟩ := h3
        simp only [builtin, Builtin.min_]
        refine Did.still h ⟨.int k (if n < m then n else m), ?_, .pure (.int _ _)⟩
        simp [Builtin.min2]
        try split <;> rfl
    · cases h3
  · cases h3

theorem q_mkfn (h : Rel N X w0 μ0 G Cn T M a w) {o : Oper} {f : Nat} {caps : List Rd} {d : D} {ss rs : List Nat} (ok : okOp P o.op (.mkfn f caps) = true) (hq : qop T M Cn (.mkfn f caps) = some (d, Cn')) :
    Did N X w0 μ0 G Cn' T M a ss rs d ((execOp a.eval o).run P w) := by
  simp only [qop, Option.bind_eq_some_iff] at hq
  obtain ⟨l, h1, h2⟩ := hq
  simp at h2; obtain ⟨rfl, rfl⟩ := h2
  simp only [okOp] at ok
  split at ok <;> first | (cases ok; done) | skip
  rename_i g first cs ho
  simp only [Bool.and_eq_true] at ok
  obtain ⟨⟨ok1, ok2⟩, ok3⟩ := ok
  have e : g = f := Nat.eq_of_beq_eq_true ok1
  subst e
  have e2 : first = #[] := by
    have := List.isEmpty_iff.1 ok2
    rw [← Array.toList_inj]; simpa using this
  subst e2
  obtain ⟨hl, hr⟩ := rdL_sound h ok3 h1
  simp only [execOp, ho]
  refine Did.still h ⟨.func (.func g) #[] (cs.map a.eval), by simp [Instr.makeFunc], .fn (by simpa using hl) fun j c x hc hx => ?_⟩
  rw [Array.getElem?_map] at hx
  cases hcs : cs[j]? with
  | none => simp [hcs] at hx
  | some y => simp [hcs] at hx; subst hx; exact hr j c y hc (by rw [Array.getElem?_toList]; exact hcs)

theorem q_app (h : Rel N X w0 μ0 G Cn T M a w) {o : Oper} {es bytes s : Nat} {z : D} {x y : Rd} {d : D} {rs : List Nat} (ok : okOp P o.op (.app es bytes s z x y) = true) (hq : qop T M Cn (.app es bytes s z x y) = some (d, Cn'))
    (hs : G.τ s = none) : Did N X w0 μ0 G Cn' T M a [s] rs d ((execOp a.eval o).run P w) := by
  simp only [qop, Option.bind_eq_some_iff] at hq
  obtain ⟨dx, h1, dy, h2, h3⟩ := hq
  simp only [okOp] at ok
  split at ok <;> first | (cases ok; done) | skip
  rename_i c ho
  split at ok <;> first | (cases ok; done) | skip
  rename_i x' y' t t2 hc ha hat
  simp only [Bool.and_eq_true] at ok
  obtain ⟨⟨ok1, ok2⟩, ok3⟩ := ok
  obtain ⟨bs, hex⟩ := args2 (P := P) (w := w) (ρ := a.eval) hc ha ho
  rw [hex]
  have hat' : c.argTypes = #[t, t2] := by rw [← Array.toList_inj, hat]
  rw [hat']
  split at ok3
  · rename_i e e2 he he2
    simp only [Bool.and_eq_true] at ok3
    obtain ⟨ie, zv, hi, hsz, hz, hzv, hzs, hzl⟩ := okEl_inv ok3.1
    obtain ⟨ie', hi', hby, hpos⟩ := okBy_inv ok3.2
    rw [hi] at hi'; cases hi'
    have hzc : zv.cells.size = es := by rw [(cells_rep0 (G := G) (okV_rep0 G.μ hzv) hzs).1, hzl]
    obtain ⟨v, w', G', h4, h5, h6, h7, h8, h9⟩ := app_sound (P := P) (tt := o.type) h (rd_sound h ok1 h1) (rd_sound h ok2 h2) h3 hs (sliceEl_inv he) (sliceEl_inv he2) hi hsz hby hpos hz hzc
    refine ⟨v, w', G', by simp [builtin, h4], h5, fun s' hs' => h6 s' (by simpa using hs'), fun _ _ => by rw [h7], h8, h9⟩
  · cases ok3
end Go.YtnpoikgkhhpdgaaDoorE
