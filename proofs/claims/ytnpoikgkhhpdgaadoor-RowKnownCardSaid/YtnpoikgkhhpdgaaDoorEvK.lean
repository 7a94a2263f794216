/-
  '==' of structs.
-/
import Derived.Test.YtnpoikgkhhpdgaaDoorEvJ
import Derived.Laws.StructEq
namespace Go.YtnpoikgkhhpdgaaDoorE
variable {P : Program} {N : Nat} {X : Nat → Nat → Prop} {w0 : World} {μ0 : Mem} {G G' : Gh} {Cn : List Nat} {T : List (Nat × D)} {M : List (Nat × Ob)} {a : Act} {w w' : World}

/- the kinds of a type's cells, all of them plain and compared; fields from 'o' on -/
mutual
def eqTy (P : Program) : Nat → TypeId → Option (List Nat)
  | 0, _ => none
  | d + 1, t => match P.underlying t with
    | some .bool => some [0]
    | some (.int _) => some [1]
    | some .string => some [2]
    | some (.struct fs) => match P.stoodInHeld t with | true => none | false => eqFs P d fs.toList 0
    | _ => none
def eqFs (P : Program) : Nat → List Field → Nat → Option (List Nat)
  | 0, _, _ => none
  | _ + 1, [], _ => some []
  | d + 1, f :: fs, o => match f.name == "_", Nat.beq f.offset o with
    | false, true => (eqTy P d f.type).bind fun ks => match tSize P f.type with
      | some n => match Nat.beq n ks.length with
        | true => (eqFs P d fs (o + n)).bind fun r => some (ks ++ r)
        | false => none
      | none => none
    | _, _ => none
end

theorem eqL_len : ∀ (ks : List Nat) (a b : List D) (r : Bool), eqL ks a b = some r → a.length = ks.length ∧ b.length = ks.length := by
  intro ks
  induction ks with
  | nil => intro a b r h; cases a <;> cases b <;> simp [eqL] at h ⊢
  | cons k ks ih =>
    intro a b r h
    cases a with
    | nil => simp [eqL] at h
    | cons c x => cases b with
      | nil => simp [eqL] at h
      | cons d y =>
        simp only [eqL, Option.bind_eq_some_iff] at h
        obtain ⟨b, _, r', h2, _⟩ := h
        obtain ⟨h3, h4⟩ := ih x y r' h2
        simp [h3, h4]

theorem eqL_append : ∀ (ks ls : List Nat) (a b c d : List D) (r : Bool), a.length = ks.length → c.length = ks.length → eqL (ks ++ ls) (a ++ b) (c ++ d) = some r →
    ∃ s t, eqL ks a c = some s ∧ eqL ls b d = some t ∧ r = (s && t) := by
  intro ks
  induction ks with
  | nil =>
    intro ls a b c d r ha hc h
    have := List.length_eq_zero_iff.1 ha; subst this
    have := List.length_eq_zero_iff.1 hc; subst this
    exact ⟨true, r, rfl, h, by simp⟩
  | cons k ks ih =>
    intro ls a b c d r ha hc h
    cases a with
    | nil => simp at ha
    | cons x a => cases c with
      | nil => simp at hc
      | cons y c =>
        simp only [List.cons_append, eqL, Option.bind_eq_some_iff] at h
        obtain ⟨p, h1, r', h2, h3⟩ := h
        obtain ⟨s, t, h4, h5, rfl⟩ := ih ls a b c d r' (by simpa using ha) (by simpa using hc) h2
        simp at h3; subst h3
        exact ⟨p && s, t, by simp [eqL, h1, h4], h5, by simp [Bool.and_assoc]⟩

theorem eq1_sound {k : Nat} {c d : D} {u v : Value} {r : Bool} {μ μ' : Mem} (hu : Rep0 μ c u) (hv : Rep0 μ' d v) (h : eq1 k c d = some r) {t : TypeId}
    (ht : (k = 0 ∧ P.underlying t = some .bool) ∨ (k = 1 ∧ ∃ q, P.underlying t = some (.int q)) ∨ (k = 2 ∧ P.underlying t = some .string)) (m : Nat) : (Op.equalIn (m + 1) t u v).run P w = .ok r w := by
  unfold eq1 at h
  split at h
  · cases hu; cases hv
    rename_i q p q' s
    cases hk : decide (q = q') with
    | false => rw [hk] at h; cases h
    | true =>
      rw [hk] at h
      have : q = q' := by simpa using hk
      subst this
      simp at h; subst h
      rcases ht with ⟨h0, _⟩ | ⟨_, q2, ht⟩ | ⟨h0, _⟩
      · cases h0
      · exact run_equalIn_int w m t q q2 p s ht
      · cases h0
  · cases hu; cases hv
    simp at h; subst h
    rcases ht with ⟨_, ht⟩ | ⟨h0, _⟩ | ⟨h0, _⟩
    · exact equalIn_bool ht _ _ m
    · cases h0
    · cases h0
  · cases hu; cases hv
    simp at h; subst h
    rcases ht with ⟨h0, _⟩ | ⟨h0, _⟩ | ⟨_, ht⟩
    · cases h0
    · cases h0
    · exact run_equalIn_string w m t _ _ ht
  · cases h

/-- a row of cells that reads as 'cs' -/
def Reads (cs : List D) (vs : List Value) : Prop := vs.length = cs.length ∧ ∀ (j : Nat) (c : D) (x : Value), cs[j]? = some c → vs[j]? = some x → ∃ μ, Rep0 μ c x

theorem eq_types (P : Program) : ∀ (d : Nat),
    (∀ (t : TypeId) (ks : List Nat), eqTy P d t = some ks → ∀ (cs ds : List D) (us vs : Array Value) (r : Bool) (m : Nat) (w : World), Reads cs us.toList → Reads ds vs.toList → eqL ks cs ds = some r → tAgg P t = some true →
      (Op.equalIn (d + m) t (.agg us) (.agg vs)).run P w = .ok r w) ∧
    (∀ (fs : List Field) (o : Nat) (ks : List Nat), eqFs P d fs o = some ks → ∀ (cs ds : List D) (us vs : Array Value) (r : Bool) (m : Nat) (w : World), Reads cs (us.toList.drop o) → Reads ds (vs.toList.drop o) →
      eqL ks cs ds = some r → (Op.eqFields (d + m) us vs fs).run P w = .ok r w) := by
  intro d
  induction d with
  | zero =>
    refine ⟨fun t ks h => by simp [eqTy] at h, fun fs o ks h => by simp [eqFs] at h⟩
  | succ d ih =>
    obtain ⟨ih1, ih2⟩ := ih
    refine ⟨?_, ?_⟩
    · intro t ks h cs ds us vs r m w hc hd he ha
      simp only [eqTy] at h
      unfold tAgg at ha
      cases hu : P.underlying t with
      | none => rw [hu] at h; cases h
      | some td =>
        rw [hu] at h ha
        cases td <;> simp only at h ha <;> first | (cases h; done) | (cases ha; done) | skip
        rename_i fs
        cases hs : P.stoodInHeld t with
        | true => rw [hs] at h; cases h
        | false =>
          rw [hs] at h
          have hf : P.fieldsOf t = fs := by simp [Program.fieldsOf, hu]
          rw [show d + 1 + m = (d + m) + 1 by omega, run_equalIn_struct w (d + m) t us vs (by rw [hf]; exact hu) hs, hf]
          exact ih2 fs.toList 0 ks h cs ds us vs r m w (by simpa using hc) (by simpa using hd) he
    · intro fs o ks h cs ds us vs r m w hc hd he
      cases fs with
      | nil =>
        simp [eqFs] at h; subst h
        cases cs <;> cases ds <;> simp [eqL] at he
        subst he
        simp [Op.eqFields]
      | cons f fs =>
        simp only [eqFs] at h
        cases hn : f.name == "_" with
        | true => rw [hn] at h; simp at h
        | false =>
        cases hb : Nat.beq f.offset o with
        | false => rw [hn, hb] at h; simp at h
        | true =>
          rw [hn, hb] at h
          have ho : f.offset = o := Nat.eq_of_beq_eq_true hb
          subst ho
          simp only [Option.bind_eq_some_iff] at h
          obtain ⟨k1, hk1, h⟩ := h
          cases hts : tSize P f.type with
          | none => rw [hts] at h; cases h
          | some n =>
            rw [hts] at h
            simp only at h
            cases hbn : Nat.beq n k1.length with
            | false => rw [hbn] at h; cases h
            | true =>
              rw [hbn] at h
              have hnk : n = k1.length := Nat.eq_of_beq_eq_true hbn
              subst hnk
              simp only [Option.bind_eq_some_iff] at h
              obtain ⟨k2, hk2, hk⟩ := h
              simp at hk; subst hk
              obtain ⟨hl1, hl2⟩ := eqL_len _ _ _ _ he
              simp only [List.length_append] at hl1 hl2
              have e1 : cs = cs.take k1.length ++ cs.drop k1.length := (List.take_append_drop _ _).symm
              have e2 : ds = ds.take k1.length ++ ds.drop k1.length := (List.take_append_drop _ _).symm
              rw [e1, e2] at he
              obtain ⟨s, t, h3, h4, rfl⟩ := eqL_append k1 k2 _ _ _ _ r (by simp; omega) (by simp; omega) he
              have hcl := hc.1
              have hdl := hd.1
              simp only [List.length_drop, Array.length_toList] at hcl hdl
              have hn' : f.name ≠ "_" := by simpa using hn
              -- what is left
              have hrest : (Op.eqFields (d + 1 + m) us vs fs).run P w = .ok t w := by
                have := ih2 fs (f.offset + k1.length) k2 hk2 (cs.drop k1.length) (ds.drop k1.length) us vs t (m + 1) w
                  ⟨by simp; omega, fun j c x hj hx => hc.2 (k1.length + j) c x (by simpa using hj) (by rw [List.getElem?_drop] at hx ⊢; rw [← Nat.add_assoc]; exact hx)⟩
                  ⟨by simp; omega, fun j c x hj hx => hd.2 (k1.length + j) c x (by simpa using hj) (by rw [List.getElem?_drop] at hx ⊢; rw [← Nat.add_assoc]; exact hx)⟩ h4
                rw [show d + 1 + m = d + (m + 1) by omega]; exact this
              have hty : ∃ x y, (part f.type us f.offset).run P w = .ok x w ∧ (part f.type vs f.offset).run P w = .ok y w ∧ (Op.equalIn (d + 1 + m) f.type x y).run P w = .ok s w := by
                cases d with
                | zero => simp [eqTy] at hk1
                | succ d =>
                cases ha : tAgg P f.type with
                | none =>
                  simp only [eqTy] at hk1
                  unfold tAgg at ha
                  cases hu : P.underlying f.type with
                  | none => rw [hu] at hk1; cases hk1
                  | some td => rw [hu] at ha; cases td <;> simp at ha
                | some ag =>
                  cases ag with
                  | true =>
                    refine ⟨.agg (us.extract f.offset (f.offset + k1.length)), .agg (vs.extract f.offset (f.offset + k1.length)), by simp [part, run_isAgg' ha, run_sizeOf' hts], by simp [part, run_isAgg' ha, run_sizeOf' hts], ?_⟩
                    have := ih1 f.type k1 hk1 (cs.take k1.length) (ds.take k1.length) (us.extract f.offset (f.offset + k1.length)) (vs.extract f.offset (f.offset + k1.length)) s (m + 1) w
                      ⟨by simp; omega, fun j c x hj hx => ?_⟩ ⟨by simp; omega, fun j c x hj hx => ?_⟩ h3 ha
                    · rw [show d + 1 + 1 + m = d + 1 + (m + 1) by omega]; exact this
                    · rw [List.getElem?_take] at hj
                      split at hj
                      · refine hc.2 j c x hj ?_
                        rw [List.getElem?_drop]
                        rw [Array.getElem?_toList, Array.getElem?_extract] at hx
                        split at hx
                        · rw [Array.getElem?_toList]; exact hx
                        · cases hx
                      · cases hj
                    · rw [List.getElem?_take] at hj
                      split at hj
                      · refine hd.2 j c x hj ?_
                        rw [List.getElem?_drop]
                        rw [Array.getElem?_toList, Array.getElem?_extract] at hx
                        split at hx
                        · rw [Array.getElem?_toList]; exact hx
                        · cases hx
                      · cases hj
                  | false =>
                    -- a plain cell
                    have hk1' : ∃ k, k1 = [k] ∧ ((k = 0 ∧ P.underlying f.type = some .bool) ∨ (k = 1 ∧ ∃ q, P.underlying f.type = some (.int q)) ∨ (k = 2 ∧ P.underlying f.type = some .string)) := by
                      simp only [eqTy] at hk1
                      unfold tAgg at ha
                      cases hu : P.underlying f.type with
                      | none => rw [hu] at hk1; cases hk1
                      | some td =>
                        rw [hu] at hk1 ha
                        cases td <;> simp at hk1 ha <;> subst hk1 <;> simp
                    obtain ⟨k, rfl, hk⟩ := hk1'
                    simp only [List.length_singleton] at *
                    have hcl1 : 0 < cs.length := by omega
                    have hdl1 : 0 < ds.length := by omega
                    obtain ⟨c, cs', rfl⟩ : ∃ c cs', cs = c :: cs' := by cases cs with | nil => simp at hcl1 | cons c cs' => exact ⟨c, cs', rfl⟩
                    obtain ⟨dd, ds', rfl⟩ : ∃ c cs', ds = c :: cs' := by cases ds with | nil => simp at hdl1 | cons c cs' => exact ⟨c, cs', rfl⟩
                    have hul : f.offset < us.size := by simp at hcl; omega
                    have hvl : f.offset < vs.size := by simp at hdl; omega
                    refine ⟨us[f.offset], vs[f.offset], by simp [part, run_isAgg' ha, hul], by simp [part, run_isAgg' ha, hvl], ?_⟩
                    obtain ⟨μ1, hr1⟩ := hc.2 0 c us[f.offset] (by simp) (by rw [List.getElem?_drop]; simp [hul])
                    obtain ⟨μ2, hr2⟩ := hd.2 0 dd vs[f.offset] (by simp) (by rw [List.getElem?_drop]; simp [hvl])
                    have h3' : eq1 k c dd = some s := by
                      simp [eqL] at h3
                      cases he1 : eq1 k c dd with
                      | none => rw [he1] at h3; simp at h3
                      | some b => rw [he1] at h3; simpa using h3
                    rw [show d + 1 + 1 + m = (d + 1 + m) + 1 by omega]
                    exact eq1_sound hr1 hr2 h3' hk _
              obtain ⟨x, y, hx, hy, hxy⟩ := hty
              simp only [Op.eqFields, if_pos hn', Sem.run_bind, hx, hy, hxy, Result.andThen_ok]
              cases s with
              | false => simp
              | true => simpa using hrest

/-- '==' and '!=' of structs -/
theorem eqa_sound {neq : Bool} {f g : Bool} {ks : List Nat} {cs ds : List D} {u v : Value} {r : Bool} (hu : Rep G (.agg f cs) u) (hv : Rep G (.agg g ds) v) (hp : eqL ks cs ds = some r)
    {t : TypeId} {d : Nat} (ht : eqTy P d t = some ks) (hd : d ≤ 9999) (ha : tAgg P t = some true) (hg : P.eqGuardType P.depth t = false) (x y : Operand) :
    (do eqGuard (if neq then .neq else .eql) t x y u v; binOp (if neq then .neq else .eql) t u v : Sem Value).run P w = .ok (.bool (match neq with | true => !r | false => r)) w := by
  obtain ⟨us, rfl, h1, h2⟩ := agg_cells hu
  obtain ⟨vs, rfl, h3, h4⟩ := agg_cells hv
  have plainc : ∀ (ks : List Nat) (cs ds : List D) (r : Bool), eqL ks cs ds = some r → plainL cs = true ∧ plainL ds = true := by
    intro ks
    induction ks with
    | nil => intro cs ds r h; cases cs <;> cases ds <;> simp [eqL] at h; exact ⟨rfl, rfl⟩
    | cons k ks ih =>
      intro cs ds r h
      cases cs with
      | nil => simp [eqL] at h
      | cons c cs => cases ds with
        | nil => simp [eqL] at h
        | cons d ds =>
          simp only [eqL, Option.bind_eq_some_iff] at h
          obtain ⟨b, hb, r', hr', _⟩ := h
          obtain ⟨h5, h6⟩ := ih cs ds r' hr'
          have : plain c = true ∧ plain d = true := by
            unfold eq1 at hb
            split at hb <;> first | exact ⟨rfl, rfl⟩ | cases hb
          simp [plainL, this.1, this.2, h5, h6]
  obtain ⟨hpc, hpd⟩ := plainc ks cs ds r hp
  have e := (eq_types P d).1 t ks ht cs ds us vs r (10000 - d) w
    ⟨by simpa using h1.symm, fun j c z hj hz => by
      obtain ⟨q, h5, h6, _⟩ := h2 j c hj
      rw [show us.toList[j]? = us[j]? by simp] at hz
      rw [hz] at h5; cases h5
      exact ⟨G.μ, h6.of_plain (plainL_get hpc hj)⟩⟩
    ⟨by simpa using h3.symm, fun j c z hj hz => by
      obtain ⟨q, h5, h6, _⟩ := h4 j c hj
      rw [show vs.toList[j]? = vs[j]? by simp] at hz
      rw [hz] at h5; cases h5
      exact ⟨G.μ, h6.of_plain (plainL_get hpd hj)⟩⟩ hp ha
  rw [show d + (10000 - d) = 10000 by omega] at e
  cases neq with
  | true => simp only [if_true, Sem.run_bind, run_eqGuard_agg w .neq t x y us vs hg, Result.andThen_ok, run_neq_struct, e]
  | false => simp only [Bool.false_eq_true, if_false, Sem.run_bind, run_eqGuard_agg w .eql t x y us vs hg, Result.andThen_ok, run_eql_struct, e]
end Go.YtnpoikgkhhpdgaaDoorE
