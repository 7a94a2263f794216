/-
  What the operations that read come to: the rest of them.
-/
import Derived.Test.YtnpoikgkhhpdgaaDoorHmF
namespace Go.YtnpoikgkhhpdgaaDoorH
open Go.RowKit
open Go.YtnpoikgkhhpdgaaDoorE (tAgg tSize run_isAgg' run_sizeOf' add_off cell_of_heap)
variable {P : Program} {gl : List Nat} {w0 : World} {ι κ : Inj} {H H' : Heap} {w w' : World} {T T' : Tm} {a : Act} {N : Nat} {run : Run} {y : Yld} {o : Oper}

theorem eq_run {neq b : Bool} {t : TypeId} {p q : Operand} {u z : Value} (hg : ∀ op, (eqGuard op t p q u z).run P w = .ok () w) (he : (Op.equal t u z).run P w = .ok b w)
    (hb : ∀ op, op = .eql ∨ op = .neq → binOp op t u z = (if op = .eql then (do pure (.bool (← Op.equal t u z))) else (do pure (.bool (!(← Op.equal t u z)))))) :
    (do eqGuard (if neq then .neq else .eql) t p q u z; binOp (if neq then .neq else .eql) t u z : Sem Value).run P w = .ok (.bool (ite1 neq (!b) b)) w := by
  cases neq with
  | true => simp only [if_true, Sem.run_bind, hg, Result.andThen_ok, hb .neq (.inr rfl), reduceCtorEq, if_false, he, Sem.run_pure, ite1_t]
  | false => simp only [Bool.false_eq_true, if_false, Sem.run_bind, hg, Result.andThen_ok, hb .eql (.inl rfl), if_true, he, Sem.run_pure, ite1_f]
theorem equalIn_nil_ptr {t e : TypeId} (hu : P.underlying t = some (.pointer e)) (p : Addr) (d : Nat) : (Op.equalIn (d + 1) t (.pointer none) (.pointer (some p))).run P w = .ok false w := by
  simp only [Op.equalIn, Sem.run_bind, run_underlying hu, Result.andThen_ok, Sem.run_pure, Option.isNone_some]
theorem equalIn_nils {t e : TypeId} (hu : P.underlying t = some (.slice e)) (l m i j : Nat) (d : Nat) : (Op.equalIn (d + 1) t (.slice none l m) (.slice none i j)).run P w = .ok true w := by
  simp only [Op.equalIn, Sem.run_bind, run_underlying hu, Result.andThen_ok, Sem.run_pure, Option.isNone_none]
theorem equalIn_sl_nil {t e : TypeId} (hu : P.underlying t = some (.slice e)) (p : Addr) (l m i j : Nat) (d : Nat) : (Op.equalIn (d + 1) t (.slice (some p) l m) (.slice none i j)).run P w = .ok false w := by
  simp only [Op.equalIn, Sem.run_bind, run_underlying hu, Result.andThen_ok, Sem.run_pure]
theorem eqbV_sound {neq : Bool} {k : Nat} {x z : V} {r : Bool} {u v : Value} (hx : VR ι x u) (hz : VR ι z v) (h : eqbV k x z = some r) {t : TypeId}
    (ht : okK P t k = true) (p q : Operand) :
    (do eqGuard (if neq then .neq else .eql) t p q u v; binOp (if neq then .neq else .eql) t u v : Sem Value).run P w = .ok (.bool (ite1 neq (!r) r)) w := by
  match k, h, ht with
  | 0, h, ht =>
    simp only [eqbV] at h
    split at h <;> first | (cases h; done) | skip
    cases h
    rw [hx.bool_inv, hz.bool_inv]
    exact eq_run (fun op => YtnpoikgkhhpdgaaDoorE.guard_bool) (YtnpoikgkhhpdgaaDoorE.equal_bool (isBoolT_inv ht) _ _) (fun op h => by rcases h with rfl | rfl <;> rfl)
  | 1, h, ht =>
    obtain ⟨e, hu⟩ := isPtr_inv ht
    simp only [eqbV] at h
    split at h <;> first | (cases h; done) | skip
    · cases h; cases hx; cases hz
      exact eq_run (fun op => YtnpoikgkhhpdgaaDoorE.guard_ptr) (YtnpoikgkhhpdgaaDoorE.equal_nil hu) (fun op h => by rcases h with rfl | rfl <;> rfl)
    · cases h; cases hx; cases hz
      exact eq_run (fun op => YtnpoikgkhhpdgaaDoorE.guard_ptr) (YtnpoikgkhhpdgaaDoorE.equal_ptr_nil hu _) (fun op h => by rcases h with rfl | rfl <;> rfl)
    · cases h; cases hx; cases hz
      exact eq_run (fun op => YtnpoikgkhhpdgaaDoorE.guard_ptr) (equalIn_nil_ptr hu _ 9999) (fun op h => by rcases h with rfl | rfl <;> rfl)
  | 2, h, ht =>
    obtain ⟨e, he⟩ := Option.isSome_iff_exists.1 ht
    have hu := sliceEl_inv he
    have hg : ∀ {b c : Option Addr} {l m i j : Nat} op, (eqGuard op t p q (.slice b l m) (.slice c i j)).run P w = .ok () w := fun op => by cases op <;> rfl
    simp only [eqbV] at h
    split at h <;> first | (cases h; done) | skip
    · cases h; cases hx; cases hz
      exact eq_run (fun op => hg op) (equalIn_nils hu _ _ _ _ 9999) (fun op h => by rcases h with rfl | rfl <;> rfl)
    all_goals
      cases h; cases hx <;> cases hz
      all_goals exact eq_run (fun op => hg op) (equalIn_sl_nil hu _ _ _ _ _ 9999) (fun op h => by rcases h with rfl | rfl <;> rfl)
  | n + 3, h, _ => simp [eqbV] at h

/-- cells of numbers, bools and strings, as the other machine's -/
theorem eqL_toD : ∀ (ks : List Nat) (cs ds : List V) (us vs : List Value) (r : Bool), eqL ks cs ds = some r → cs.length = us.length → ds.length = vs.length →
    (∀ (j : Nat) (c : V) (x : Value), cs[j]? = some c → us[j]? = some x → VR ι c x) → (∀ (j : Nat) (c : V) (x : Value), ds[j]? = some c → vs[j]? = some x → VR ι c x) →
    ∃ cs' ds' : List YtnpoikgkhhpdgaaDoorE.D, YtnpoikgkhhpdgaaDoorE.eqL ks cs' ds' = some r ∧ cs'.length = us.length ∧ ds'.length = vs.length ∧ YtnpoikgkhhpdgaaDoorE.singleL cs' = true ∧ YtnpoikgkhhpdgaaDoorE.singleL ds' = true ∧
      (∀ (μ : YtnpoikgkhhpdgaaDoorE.Mem) (j : Nat) (c : YtnpoikgkhhpdgaaDoorE.D) (x : Value), cs'[j]? = some c → us[j]? = some x → YtnpoikgkhhpdgaaDoorE.Rep0 μ c x) ∧ (∀ (μ : YtnpoikgkhhpdgaaDoorE.Mem) (j : Nat) (c : YtnpoikgkhhpdgaaDoorE.D) (x : Value), ds'[j]? = some c → vs[j]? = some x → YtnpoikgkhhpdgaaDoorE.Rep0 μ c x)
  | [], cs, ds, us, vs, r, h, h1, h2, _, _ => by
    cases cs <;> cases ds <;> simp [eqL] at h
    simp at h1 h2
    subst h
    exact ⟨[], [], rfl, by simp [← h1], by simp [← h2], rfl, rfl, fun _ j c x hc => by simp at hc, fun _ j c x hc => by simp at hc⟩
  | k :: ks, cs, ds, us, vs, r, h, h1, h2, hc, hd => by
    cases cs with
    | nil => simp [eqL] at h
    | cons c cs => cases ds with
      | nil => simp [eqL] at h
      | cons d ds =>
        cases us with
        | nil => simp at h1
        | cons u us => cases vs with
          | nil => simp at h2
          | cons v vs =>
            simp only [eqL] at h
            obtain ⟨b, hb, h⟩ := ob_some.1 h
            obtain ⟨r', hr, h⟩ := ob_some.1 h
            cases h
            obtain ⟨cs', ds', q1, q2, q3, q4, q5, q6, q7⟩ := eqL_toD ks cs ds us vs r' hr (by simpa using h1) (by simpa using h2) (fun j c x hc' hx => hc (j + 1) c x (by simpa using hc') (by simpa using hx))
              (fun j c x hc' hx => hd (j + 1) c x (by simpa using hc') (by simpa using hx))
            have hcu := hc 0 c u rfl rfl
            have hdv := hd 0 d v rfl rfl
            have one : ∃ c' d' : YtnpoikgkhhpdgaaDoorE.D, YtnpoikgkhhpdgaaDoorE.eq1 k c' d' = some b ∧ YtnpoikgkhhpdgaaDoorE.single c' = true ∧ YtnpoikgkhhpdgaaDoorE.single d' = true ∧ (∀ μ, YtnpoikgkhhpdgaaDoorE.Rep0 μ c' u) ∧ ∀ μ, YtnpoikgkhhpdgaaDoorE.Rep0 μ d' v := by
              unfold eq1 at hb
              split at hb <;> first | (cases hb; done) | skip
              · rename_i q m q' n
                obtain ⟨hk, hb2⟩ := ite1_some.1 hb
                have := keq_eq hk; subst this
                cases hb2
                rw [hcu.int_inv, hdv.int_inv]
                exact ⟨.int q m, .int q n, by simp [YtnpoikgkhhpdgaaDoorE.eq1, ieq_eq], rfl, rfl, fun μ => .int _ _, fun μ => .int _ _⟩
              · rename_i m n
                cases hb
                rw [hcu.bool_inv, hdv.bool_inv]
                exact ⟨.bool m, .bool n, rfl, rfl, rfl, fun μ => .bool _, fun μ => .bool _⟩
              · cases hb
                obtain ⟨s, rfl, rfl⟩ := hcu.str_inv
                obtain ⟨s', rfl, rfl⟩ := hdv.str_inv
                exact ⟨.str s, .str s', by simp only [YtnpoikgkhhpdgaaDoorE.eq1, bytes_eq], rfl, rfl, fun μ => .str _, fun μ => .str _⟩
            obtain ⟨c', d', p1, p2, p3, p4, p5⟩ := one
            refine ⟨c' :: cs', d' :: ds', by simp [YtnpoikgkhhpdgaaDoorE.eqL, p1, q1], by simp [q2], by simp [q3], by simp [YtnpoikgkhhpdgaaDoorE.singleL, p2, q4], by simp [YtnpoikgkhhpdgaaDoorE.singleL, p3, q5], fun μ j c x hc' hx => ?_, fun μ j c x hc' hx => ?_⟩
            · cases j with
              | zero => simp at hc' hx; subst hc'; subst hx; exact p4 μ
              | succ j => exact q6 μ j c x (by simpa using hc') (by simpa using hx)
            · cases j with
              | zero => simp at hc' hx; subst hc'; subst hx; exact p5 μ
              | succ j => exact q7 μ j c x (by simpa using hc') (by simpa using hx)

/-! ### slices' bounds -/
theorem VRO.none_inv {v : Option Value} (h : VRO ι none v) : v = none := by cases v with | none => rfl | some x => exact h.elim
theorem VRO.some_inv {d : V} {v : Option Value} (h : VRO ι (some d) v) : ∃ u, v = some u ∧ VR ι d u := by cases v with | none => exact h.elim | some u => exact ⟨u, rfl, h⟩
theorem bound_run {k : IntKind} {i m : Nat} {c : BoundsCode} (h1 : i ≤ m) : (Instr.sliceBound (.int k (i : Nat)) m c).run P w = .ok i w := by
  have := YtnpoikgkhhpdgaaDoorE.run_sliceBound (P := P) (w := w) (k := k) (i := (i : Int)) (y := m) (c := c) (by omega) (by omega)
  simpa using this
theorem bndO_inv {p q dflt j : Nat} {d : Option V} (h : bndO p q dflt d = some j) : (d = none ∧ j = dflt) ∨ ∃ k, d = some (.int k (j : Nat)) ∧ p ≤ j ∧ j ≤ q := by
  cases d with
  | none => simp only [bndO] at h; cases h; exact .inl ⟨rfl, rfl⟩
  | some v => obtain ⟨k, h1, h2, h3⟩ := bnd_inv h; exact .inr ⟨k, by rw [h1], h2, h3⟩
theorem hiOf_inv {dflt m j : Nat} {hi mx : Option V} (h : hiOf dflt m hi mx = some j) : (hi = none ∧ mx = none ∧ j = dflt) ∨ ∃ k, hi = some (.int k (j : Nat)) ∧ j ≤ m := by
  unfold hiOf at h
  split at h
  · obtain ⟨k, h1, _, h3⟩ := bnd_inv h; exact .inr ⟨k, by rw [h1], h3⟩
  · split at h
    · cases h; exact .inl ⟨rfl, rfl, rfl⟩
    · cases h
/-- bounds that are known -/
theorem bounds_run {isS : Bool} {len cap l h m : Nat} {lo hi mx : Option V} {lo' hi' mx' : Option Value} (hlo : VRO ι lo lo') (hhi : VRO ι hi hi') (hmx : VRO ι mx mx')
    (em : (mx = none ∧ m = cap) ∨ ∃ k, mx = some (.int k (m : Nat)) ∧ m ≤ cap) (eh : (hi = none ∧ mx = none ∧ h = len) ∨ ∃ k, hi = some (.int k (h : Nat)) ∧ h ≤ m) (el : (lo = none ∧ l = 0) ∨ ∃ k, lo = some (.int k (l : Nat)) ∧ l ≤ h) :
    (Instr.sliceBounds isS len cap lo' hi' mx').run P w = .ok (l, h, m) w := by
  have fin : ∀ {mx' hi' lo' : Option Value},
      ((mx' = none ∧ m = cap) ∨ ∃ k, mx' = some (.int k (m : Nat)) ∧ m ≤ cap) → ((hi' = none ∧ mx' = none ∧ h = len) ∨ ∃ k, hi' = some (.int k (h : Nat)) ∧ h ≤ m) → ((lo' = none ∧ l = 0) ∨ ∃ k, lo' = some (.int k (l : Nat)) ∧ l ≤ h) →
      (Instr.sliceBounds isS len cap lo' hi' mx').run P w = .ok (l, h, m) w := by
    intro mx' hi' lo' em eh el
    rcases em with ⟨rfl, rfl⟩ | ⟨k1, rfl, h1⟩ <;> rcases eh with ⟨rfl, h5, rfl⟩ | ⟨k2, rfl, h2⟩ <;> rcases el with ⟨rfl, rfl⟩ | ⟨k3, rfl, h3⟩ <;> first | (cases h5; done) | skip
    all_goals simp only [Instr.sliceBounds, Sem.run_bind, Sem.run_pure, Result.andThen_ok, bound_run, *]
  refine fin ?_ ?_ ?_
  · rcases em with ⟨rfl, rfl⟩ | ⟨k, rfl, h1⟩
    · exact .inl ⟨hmx.none_inv, rfl⟩
    · obtain ⟨u, rfl, hu⟩ := hmx.some_inv; rw [hu.int_inv]; exact .inr ⟨k, rfl, h1⟩
  · rcases eh with ⟨rfl, rfl, rfl⟩ | ⟨k, rfl, h1⟩
    · exact .inl ⟨hhi.none_inv, hmx.none_inv, rfl⟩
    · obtain ⟨u, rfl, hu⟩ := hhi.some_inv; rw [hu.int_inv]; exact .inr ⟨k, rfl, h1⟩
  · rcases el with ⟨rfl, rfl⟩ | ⟨k, rfl, h1⟩
    · exact .inl ⟨hlo.none_inv, rfl⟩
    · obtain ⟨u, rfl, hu⟩ := hlo.some_inv; rw [hu.int_inv]; exact .inr ⟨k, rfl, h1⟩

theorem slEx_sound {id off es len c b sz : Nat} {lo hi mx : Option V} {d : V} {lo' hi' mx' : Option Value} (hι : ι id = some (b, sz)) (hc : len ≤ c) (hlo : VRO ι lo lo') (hhi : VRO ι hi hi') (hmx : VRO ι mx mx')
    (h : slEx id off es len c lo hi mx = some d) :
    ∃ l h' m, (∀ isS, (Instr.sliceBounds isS len c lo' hi' mx').run P w = .ok (l, h', m) w) ∧ VR ι d (.slice (some (if m = l then ⟨b, off, none⟩ else ⟨b, off + l * es, none⟩)) (h' - l) (m - l)) := by
  unfold slEx at h
  obtain ⟨m, hm, h⟩ := ob_some.1 h
  obtain ⟨j, hj, h⟩ := ob_some.1 h
  obtain ⟨i, hi', h⟩ := ob_some.1 h
  cases h
  have em := bndO_inv hm
  have eh := hiOf_inv hj
  have el := bndO_inv hi'
  have hmc : m ≤ c := by rcases em with ⟨_, rfl⟩ | ⟨_, _, _, h⟩ <;> omega
  have hjm : j ≤ m := by
    rcases eh with ⟨_, h1, rfl⟩ | ⟨_, _, h⟩
    · rcases em with ⟨_, rfl⟩ | ⟨_, h2, _⟩
      · exact hc
      · rw [h1] at h2; cases h2
    · exact h
  refine ⟨i, j, m, fun isS => bounds_run hlo hhi hmx (em.imp _root_.id fun ⟨k, h1, _, h2⟩ => ⟨k, h1, h2⟩) eh (el.imp _root_.id fun ⟨k, h1, _, h2⟩ => ⟨k, h1, h2⟩), ?_⟩
  cases hb : Nat.beq m i with
  | true => rw [ite1_t, if_pos (Nat.eq_of_beq_eq_true hb)]; exact .sl hι (by omega)
  | false => rw [ite1_f, if_neg (Nat.ne_of_beq_eq_false hb)]; exact .sl hι (by omega)

theorem addMap' (b off m i es : Nat) : (if m = i then (some ⟨b, off, none⟩ : Option Addr) else (some (⟨b, off, none⟩ : Addr)).map (·.add (i * es))) = some (if m = i then ⟨b, off, none⟩ else ⟨b, off + i * es, none⟩) := by
  split <;> simp [add_off]

theorem slV_sound {es kc : Nat} {x d : V} {u : Value} (hx : VR ι x u) {lo hi mx : Option V} {lo' hi' mx' : Option Value} (hlo : VRO ι lo lo') (hhi : VRO ι hi hi') (hmx : VRO ι mx mx')
    {t e : TypeId} (ht : P.underlying t = some (.slice e)) (hs : tSize P e = some es) (h : slV es kc lo hi mx x = some d) (hkc : ∀ (id off len cap b sz : Nat), x = .sl id off es len none → ι id = some (b, sz) → off + cap * es = sz → len ≤ cap → len ≤ kc ∧ kc ≤ cap) : ∃ z, (Instr.sliceAt t u lo' hi' mx').run P w = .ok z w ∧ VR ι d z := by
  rw [YtnpoikgkhhpdgaaDoorE.sliceAt_eq ht]
  have nil : ∀ {v : V} {u : Value} {base : Option Addr} {cap : Nat}, u = .slice base 0 cap → (v = .nils ∧ base = none ∧ cap = 0 ∨ v = .sle ∧ ∃ p, base = some p) → slNil v lo hi mx = some d → ∃ z, (Instr.slice t u lo' hi' mx').run P w = .ok z w ∧ VR ι d z := by
    intro v u base cap hu hv h
    subst hu
    unfold slNil at h
    obtain ⟨j, hj, h⟩ := ob_some.1 h
    obtain ⟨i, hi', h⟩ := ob_some.1 h
    cases mx with
    | some m => cases h
    | none =>
      cases h
      have eh := bndO_inv hj
      have hj0 : j = 0 := by rcases eh with ⟨_, rfl⟩ | ⟨_, _, _, h⟩ <;> omega
      subst hj0
      have el := bndO_inv hi'
      have hi0 : i = 0 := by rcases el with ⟨_, rfl⟩ | ⟨_, _, _, h⟩ <;> omega
      subst hi0
      have hb := bounds_run (P := P) (w := w) (isS := true) (len := 0) (cap := cap) (m := cap) hlo hhi hmx (.inl ⟨rfl, rfl⟩) (eh.imp (fun h => ⟨h.1, rfl, h.2⟩) fun ⟨k, h1, _, h2⟩ => ⟨k, h1, by omega⟩) (el.imp _root_.id fun ⟨k, h1, _, h2⟩ => ⟨k, h1, h2⟩)
      refine ⟨.slice (if cap = 0 then base else base.map (·.add (0 * es))) (0 - 0) (cap - 0), by simp only [Instr.slice, Sem.run_bind, run_underlying ht, Result.andThen_ok, hb, run_sizeOf' hs, Sem.run_pure], ?_⟩
      rcases hv with ⟨rfl, rfl, rfl⟩ | ⟨rfl, p, rfl⟩
      · exact .nils
      · have : (if cap = 0 then some p else (some p).map (·.add (0 * es))) = some (if cap = 0 then p else p.add (0 * es)) := by split <;> rfl
        rw [this]; exact .sle _ _
  unfold slV at h
  split at h <;> first | (cases h; done) | skip
  · cases hx; exact nil rfl (.inl ⟨rfl, rfl, rfl⟩) h
  · cases hx; exact nil rfl (.inr ⟨rfl, _, rfl⟩) h
  · rename_i id off es' len cap
    obtain ⟨hb, hk⟩ := ite1_some.1 h
    clear h
    have h := hk
    have := Nat.eq_of_beq_eq_true hb; subst this
    cases cap with
    | some c =>
      cases hx with
      | sl hι hc =>
        obtain ⟨l, h', m, hbr, hv⟩ := slEx_sound (P := P) (w := w) hι hc hlo hhi hmx h
        exact ⟨_, by simp only [Instr.slice, Sem.run_bind, run_underlying ht, Result.andThen_ok, hbr true, run_sizeOf' hs, Sem.run_pure, addMap'], hv⟩
    | none =>
      cases hx with
      | @slu _ _ _ _ cap b sz hι hc htop =>
        simp only [slUn] at h
        obtain ⟨j, hj, h⟩ := ob_some.1 h
        obtain ⟨i, hi', h⟩ := ob_some.1 h
        have eh := hiOf_inv hj
        have el := bndO_inv hi'
        obtain ⟨hk1, hk2⟩ := hkc _ _ _ _ _ _ rfl hι htop hc
        have hjl : j ≤ kc := by rcases eh with ⟨_, _, rfl⟩ | ⟨_, _, h⟩ <;> omega
        have hij : i ≤ j := by rcases el with ⟨_, rfl⟩ | ⟨_, _, _, h⟩ <;> omega
        cases mx with
        | none =>
          have hb := bounds_run (P := P) (w := w) (isS := true) (len := len) (cap := cap) (m := cap) hlo hhi hmx (.inl ⟨rfl, rfl⟩) (eh.imp _root_.id fun ⟨k, h1, h2⟩ => ⟨k, h1, by omega⟩) (el.imp _root_.id fun ⟨k, h1, _, h2⟩ => ⟨k, h1, h2⟩)
          refine ⟨.slice (some (if cap = i then ⟨b, off, none⟩ else ⟨b, off + i * es, none⟩)) (j - i) (cap - i), by simp only [Instr.slice, Sem.run_bind, run_underlying ht, Result.andThen_ok, hb, run_sizeOf' hs, Sem.run_pure, addMap'], ?_⟩
          simp only at h
          cases hlt : Nat.blt i kc with
          | true =>
            rw [hlt, ite1_t] at h; cases h
            have hlt := blt_lt hlt
            rw [if_neg (by omega)]
            refine .slu hι (by omega) ?_
            rw [← htop, Nat.sub_mul]
            have : i * es ≤ cap * es := Nat.mul_le_mul_right _ (by omega)
            omega
          | false =>
            rw [hlt, ite1_f] at h; cases h
            have : ¬ i < kc := fun hq => by rw [show Nat.blt i kc = true from Nat.ble_eq_true_of_le hq] at hlt; cases hlt
            rw [show j - i = 0 by omega]; exact .sle _ _
        | some dm =>
          obtain ⟨m, hm, hz⟩ := ob_some.1 h
          clear h
          obtain ⟨k, rfl, hm1, hm2⟩ := bnd_inv hm
          have eh' : ∃ k, hi = some (.int k (j : Nat)) ∧ j ≤ m := by
            rcases eh with ⟨_, h1, _⟩ | ⟨k, h1, _⟩
            · cases h1
            · exact ⟨k, h1, hm1⟩
          have hb := bounds_run (P := P) (w := w) (isS := true) (len := len) (cap := cap) (m := m) hlo hhi hmx (.inr ⟨k, rfl, by omega⟩) (.inr eh') (el.imp _root_.id fun ⟨k, h1, _, h2⟩ => ⟨k, h1, h2⟩)
          refine ⟨.slice (some (if m = i then ⟨b, off, none⟩ else ⟨b, off + i * es, none⟩)) (j - i) (m - i), by simp only [Instr.slice, Sem.run_bind, run_underlying ht, Result.andThen_ok, hb, run_sizeOf' hs, Sem.run_pure, addMap'], ?_⟩
          cases hlt : Nat.blt i m with
          | true =>
            rw [hlt, ite1_t] at hz; cases hz
            have hlt := blt_lt hlt
            rw [if_neg (by omega)]
            exact .sl hι (by omega)
          | false =>
            rw [hlt, ite1_f] at hz; cases hz
            have : ¬ i < m := fun hq => by rw [show Nat.blt i m = true from Nat.ble_eq_true_of_le hq] at hlt; cases hlt
            rw [show j - i = 0 by omega]; exact .sle _ _
end Go.YtnpoikgkhhpdgaaDoorH
