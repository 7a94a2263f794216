/-
  A region's operations, one after the other.
-/
import Derived.Test.YtnpoikgkhhpdgaaDoorHmN
import Derived.Test.YtnpoikgkhhpdgaaDoorEvS
set_option linter.unusedVariables false
namespace Go.YtnpoikgkhhpdgaaDoorH
open Go.RowKit
open Go.YtnpoikgkhhpdgaaDoorE (FF about_FF)
variable {P : Program} {gl : List Nat} {w0 : World} {ι κ : Inj} {H H' : Heap} {w w' : World} {T T' : Tm} {a : Act} {N n : Nat} {run : Run} {y : Yld} {o : Oper} {pl : Bool} {ro : Option Nat} {Q : Exit → Act → World → Prop}

/-- an exit, or a jump to a label -/
noncomputable def exOf (i : Nat) : Exit := if i < kJ then .exit i else .goto (i - kJ)
theorem exOf_lt {i : Nat} (h : i < kJ) : exOf i = .exit i := by unfold exOf; rw [if_pos h]
theorem exOf_goto (l : Nat) : exOf (kJ + l) = .goto l := by
  unfold exOf
  rw [if_neg (Nat.not_lt.2 (Nat.le_add_right _ _)), Nat.add_sub_cancel_left]
/-- what is asked behind a code -/
def After (P : Program) (gl : List Nat) (w0 : World) (pl : Bool) (ro : Option Nat) (N : Nat) (ι : Inj) (H0 : Heap) (T : Tm) (H : Heap) (K : Act → World → Prop) : Prop := ∀ a w ι', Ext H0 H ι ι' → HR P gl w0 ι' H w → AR pl ro N ι' T a → K a w
def Post (P : Program) (gl : List Nat) (w0 : World) (pl : Bool) (ro : Option Nat) (N : Nat) (ι : Inj) (H0 : Heap) (Q : Exit → Act → World → Prop) : Out → Prop
  | .no => False
  | .nrm T H => After P gl w0 pl ro N ι H0 T H (Q .normal)
  | .ret T H => After P gl w0 pl ro N ι H0 T H (Q .ret)
  | .ext id T H => After P gl w0 pl ro N ι H0 T H (Q (exOf id))
theorem After.le {H0 H1 : Heap} {K : Act → World → Prop} (h : After P gl w0 pl ro N ι H0 T H K) (hle : Ext H0 H1 ι κ) : After P gl w0 pl ro N κ H1 T H K := fun a w ι' h1 h2 h3 => h a w ι' (hle.trans h1) h2 h3
theorem Post.le {H0 H1 : Heap} {x : Out} (h : Post P gl w0 pl ro N ι H0 Q x) (hle : Ext H0 H1 ι κ) : Post P gl w0 pl ro N κ H1 Q x := by
  cases x with
  | no => exact h
  | nrm T H => exact After.le h hle
  | ret T H => exact After.le h hle
  | ext id T H => exact After.le h hle

theorem okIos_get {ops : Array Oper} : ∀ {os : List Oper} {ios : List Io}, okIos P gl N ops os ios = true → os.length = ios.length ∧ ∀ (i : Nat) (io : Io), ios[i]? = some io → ∃ o, os[i]? = some o ∧ okIo P gl N ops o io = true
  | [], [], _ => ⟨rfl, fun i io h => by simp at h⟩
  | [], _ :: _, h => by simp [okIos] at h
  | _ :: _, [], h => by simp [okIos] at h
  | o :: r, io :: s, h => by
    simp only [okIos, Bool.and_eq_true] at h
    obtain ⟨h1, h2⟩ := okIos_get h.2
    refine ⟨by simp [h1], fun i io' hi => ?_⟩
    cases i with
    | zero => simp at hi; subst hi; exact ⟨o, rfl, h.1⟩
    | succ i => exact h2 i io' (by simpa using hi)
theorem okDst_inv {x : Option Tmp} {z : Option Nat} (h : okDst N x z = true) : x = z ∧ ∀ t, z = some t → t < N ∧ t < kD := by
  cases x <;> cases z <;> simp only [okDst] at h
  · exact ⟨rfl, fun t h => by cases h⟩
  · cases h
  · cases h
  · simp only [Bool.and_eq_true] at h
    obtain ⟨⟨h1, h2⟩, h3⟩ := h
    have e := Nat.eq_of_beq_eq_true h1
    subst e
    exact ⟨rfl, fun t ht => by cases ht; exact ⟨blt_lt h2, blt_lt h3⟩⟩

theorem wants_none (T : Tm) : wants T none = some true := rfl
theorem wants_some (T : Tm) (g : Nat × Bool) : wants T (some g) = ob (gt T g.1) (isTrue g.2) := rfl
theorem wanted_sound (hT : TmOk ι T a.tmps) {ops : Array Oper} {io : Io} {b : Bool} (ok : okGuard ops o.guard io.guard = true) (hw : wants T io.guard = some b) : Region.wanted o (yielded ops a.tmps) = b := by
  unfold Region.wanted
  cases hg : o.guard with
  | none =>
    rw [hg] at ok
    cases hi : io.guard with
    | none => rw [hi] at hw; rw [wants_none] at hw; cases hw; rfl
    | some y => rw [hi] at ok; simp [okGuard] at ok
  | some x =>
    rw [hg] at ok
    cases hi : io.guard with
    | none => rw [hi] at ok; simp [okGuard] at ok
    | some y =>
      rw [hi] at ok hw
      obtain ⟨j, want⟩ := x
      obtain ⟨g, b'⟩ := y
      simp only [okGuard, Bool.and_eq_true] at ok
      obtain ⟨ok1, ok2⟩ := ok
      have e2 : want = b' := by simpa using ok2
      subst e2
      split at ok1
      · rename_i t ht
        simp only [Bool.and_eq_true] at ok1
        have e1 : t = g := Nat.eq_of_beq_eq_true ok1.1
        subst e1
        rw [wants_some] at hw
        obtain ⟨v, h1, h2⟩ := ob_some.1 hw
        unfold isTrue at h2
        split at h2
        · rename_i x
          cases h2
          obtain ⟨u, h3, h4⟩ := hT t _ (blt_lt ok1.2) h1
          have := h4.bool_inv; subst this
          simp only [yielded, ht, Option.bind_some, h3]
          cases x <;> cases want <;> rfl
        · cases h2
          obtain ⟨u, h3, h4⟩ := hT t _ (blt_lt ok1.2) h1
          cases h4
          simp only [yielded, ht, Option.bind_some, h3]
          cases want <;> rfl
        · cases h2
      · cases ok1

theorem io_wp (hT : TmOk ι T a.tmps) {ops : Array Oper} {i : Nat} {io : Io} {b : Bool} {K : Act → World → Prop} (ho : ops[i]? = some o) (ok : okGuard ops o.guard io.guard = true) (hw : wants T io.guard = some b)
    (h1 : b = true → o.wpIn (FF ro) n P a w K Q) (h2 : b = false → K (a.put o.dst undef) w) : wpOpIn (FF ro) n P ops Q i K a w := by
  unfold wpOpIn
  simp only [ho]
  rw [wanted_sound hT ok hw]
  cases b with
  | true => exact h1 rfl
  | false => exact ⟨about_FF o, h2 rfl⟩

theorem lsteps_cons (io : Io) (r : List Io) : lsteps run y (io :: r) T H = step1 run y (lsteps run y r) T H io.dst io.guard io.op := by cases io; rfl
theorem lsteps_nil : lsteps run y [] T H = .nrm T H := rfl
theorem after1_va (k : Tm → Heap → Out) (dst : Option Nat) (v : V) : after1 k dst T H (.va v) = k (put T dst v) H := rfl
theorem after1_ef (k : Tm → Heap → Out) (dst : Option Nat) (v : V) (H' : Heap) : after1 k dst T H (.ef v H') = k (put T dst v) H' := rfl
theorem after1_no (k : Tm → Heap → Out) (dst : Option Nat) : after1 k dst T H .no = .no := rfl
theorem step1_eq (k : Tm → Heap → Out) (dst : Option Nat) (g : Option (Nat × Bool)) (op : Op) : step1 run y k T H dst g op = match wants T g with
    | none => .no
    | some true => after1 k dst T H (exec run y op T H)
    | some false => k (put T dst (.tup [])) H := by
  cases g with
  | none => rfl
  | some g =>
    show Option.rec (motive := fun _ => Out) .no (fun b => ite1 b _ _) (wants T (some g)) = _
    cases wants T (some g) with
    | none => rfl
    | some b => cases b <;> rfl

theorem lsteps_wp (hrun : RunOk P gl w0 run) (hy : YldOk P gl w0 y) {ops : Array Oper} : ∀ (ios : List Io) (k : Nat) (T : Tm) (H : Heap) (a : Act) (w : World) (ι : Inj),
    (∀ (j : Nat) (io : Io), ios[j]? = some io → ∃ o, ops[k + j]? = some o ∧ okIo P gl N ops o io = true) → HR P gl w0 ι H w → AR pl ro N ι T a → Post P gl w0 pl ro N ι H Q (lsteps run y ios T H) → wpOpsIn (FF ro) n P ops Q (List.range' k ios.length) a w
  | [], k, T, H, a, w, ι, _, hH, hA, hQ => hQ a w ι (Ext.refl _ _) hH hA
  | io :: r, k, T, H, a, w, ι, hok, hH, hA, hQ => by
    obtain ⟨o, ho, hio⟩ := hok 0 io rfl
    rw [List.length_cons, List.range'_succ, wpOpsIn_cons]
    rw [lsteps_cons, step1_eq] at hQ
    simp only [okIo, Bool.and_eq_true] at hio
    obtain ⟨⟨ok1, ok2⟩, ok3⟩ := hio
    obtain ⟨hd, hdN⟩ := okDst_inv ok2
    have next : ∀ (v : V) (u : Value) (H' : Heap) (w' : World) (ι' : Inj), Ext H H' ι ι' → HR P gl w0 ι' H' w' → VR ι' v u → Post P gl w0 pl ro N ι H Q (lsteps run y r (put T io.dst v) H') → wpOpsIn (FF ro) n P ops Q (List.range' (k + 1) r.length) (a.put o.dst u) w' := by
      intro v u H' w' ι' h1 h2 h3 h4
      rw [hd]
      refine lsteps_wp hrun hy r (k + 1) _ _ _ _ ι' (fun j io' hj => ?_) h2 ((hA.mono h1.le).puts hdN h3) (h4.le h1)
      obtain ⟨o', ho', hio'⟩ := hok (j + 1) io' (by simpa using hj)
      exact ⟨o', by rw [show k + 1 + j = k + (j + 1) by omega]; exact ho', hio'⟩
    cases hw : wants T io.guard with
    | none => rw [hw] at hQ; exact hQ.elim
    | some b =>
      rw [hw] at hQ
      refine io_wp hA.tmps (by simpa using ho) ok3 hw (fun hb => ?_) (fun hb => ?_)
      · subst hb
        simp only at hQ
        cases hx : exec run y io.op T H with
        | no => rw [hx, after1_no] at hQ; exact hQ.elim
        | va v =>
          rw [hx, after1_va] at hQ
          exact va_wp hH hA.tmps ok1 hx fun u hu => next v u H w ι (Ext.refl _ _) hH hu hQ
        | ef v H' =>
          rw [hx, after1_ef] at hQ
          exact ef_wp hrun hy hH hA.tmps ok1 hx fun u w' ι' h1 h2 h3 => next v u H' w' ι' h1 h2 h3 hQ
      · subst hb
        simp only at hQ
        exact next (.tup []) undef H w ι (Ext.refl _ _) hH (VR.skp _) hQ

theorem reg_wp (hrun : RunOk P gl w0 run) (hy : YldOk P gl w0 y) {id : Nat} {ops : Array Oper} {ios : List Io} (ok : okIos P gl N ops ops.toList ios = true) (hH : HR P gl w0 ι H w) (hA : AR pl ro N ι T a) (hQ : Post P gl w0 pl ro N ι H Q (lsteps run y ios T H)) :
    (Code.region id ops false).wpIn (FF ro) n P Q a w := by
  obtain ⟨hlen, hget⟩ := okIos_get ok
  refine wpIn_region ?_
  have hsz : ops.size = ios.length := by rw [← hlen]; simp
  rw [hsz, List.range_eq_range']
  refine lsteps_wp hrun hy ios 0 T H a w ι (fun j io hj => ?_) hH hA hQ
  obtain ⟨o, ho, hio⟩ := hget j io hj
  exact ⟨o, by simpa using ho, hio⟩
end Go.YtnpoikgkhhpdgaaDoorH
