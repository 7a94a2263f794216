/-
  What the operations that read come to.
-/
import Derived.Test.YtnpoikgkhhpdgaaDoorHmD
namespace Go.YtnpoikgkhhpdgaaDoorH
open Go.RowKit
open Go.YtnpoikgkhhpdgaaDoorE (tAgg tSize run_isAgg' run_sizeOf' add_off cell_of_heap)
variable {P : Program} {gl : List Nat} {w0 : World} {ι κ : Inj} {H H' : Heap} {w w' : World} {T T' : Tm} {a : Act} {N : Nat} {run : Run} {y : Yld} {o : Oper}

/-- what an operation that leaves the world alone has done -/
def Did (P : Program) (ι : Inj) (w : World) (a : Act) (o : Oper) (v : V) : Prop := ∃ u, (execOp a.eval o).run P w = .ok (.value u) w ∧ VR ι v u

theorem toVa_inv {x : Option V} {v : V} (h : toVa x = .va v) : x = some v := by
  cases x with
  | none => cases h
  | some y => cases h; rfl
theorem toEf_inv {x : Option (V × Heap)} {v : V} {H' : Heap} (h : toEf x = .ef v H') : x = some (v, H') := by
  cases x with
  | none => cases h
  | some y => cases h; rfl
theorem rd1_inv {x : Rd} {f : V → Option V} {v : V} (h : rd1 T x f = some v) : ∃ d, rdv T x = some d ∧ f d = some v := ob_some.1 h
theorem rd2_inv {x y : Rd} {f : V → V → Option V} {v : V} (h : rd2 T x y f = some v) : ∃ d e, rdv T x = some d ∧ rdv T y = some e ∧ f d e = some v := by
  obtain ⟨d, h1, h2⟩ := ob_some.1 h
  obtain ⟨e, h3, h4⟩ := ob_some.1 h2
  exact ⟨d, e, h1, h3, h4⟩

section

theorem e_mv (hH : HR P gl w0 ι H w) (hT : TmOk ι T a.tmps) {x : Rd} {v : V} (ok : okOp P gl o.op (.mv x) = true) (h : exec run y (.mv x) T H = .va v) : Did P ι w a o v := by
  have h := toVa_inv h
  simp only [okOp] at ok
  split at ok <;> first | (cases ok; done) | skip
  all_goals (rename_i z ho; exact ⟨a.eval z, by simp [execOp, ho], rd_sound hH hT ok h⟩)
theorem e_pick (hH : HR P gl w0 ι H w) (hT : TmOk ι T a.tmps) {c x z : Rd} {v : V} (ok : okOp P gl o.op (.pick c x z) = true) (h : exec run y (.pick c x z) T H = .va v) : Did P ι w a o v := by
  obtain ⟨d, h1, h2⟩ := rd1_inv (toVa_inv h)
  simp only [okOp] at ok
  split at ok <;> first | (cases ok; done) | skip
  rename_i c1 x1 y1 ho
  simp only [Bool.and_eq_true] at ok
  obtain ⟨⟨ok1, ok2⟩, ok3⟩ := ok
  have hc := rd_sound hH hT ok1 h1
  unfold pickV at h2
  split at h2
  · rename_i b
    have hb := hc.bool_inv
    cases b with
    | true => rw [ite1_t] at h2; exact ⟨a.eval x1, by simp [execOp, ho, hb, asBool], rd_sound hH hT ok2 h2⟩
    | false => rw [ite1_f] at h2; exact ⟨a.eval y1, by simp [execOp, ho, hb, asBool], rd_sound hH hT ok3 h2⟩
  · cases h2
theorem e_load (hH : HR P gl w0 ι H w) (hT : TmOk ι T a.tmps) {ag : Bool} {n : Nat} {x : Rd} {v : V} (ok : okOp P gl o.op (.load ag n x) = true) (h : exec run y (.load ag n x) T H = .va v) : Did P ι w a o v := by
  obtain ⟨d, h1, h2⟩ := rd1_inv (toVa_inv h)
  simp only [okOp] at ok
  split at ok <;> first | (cases ok; done) | skip
  rename_i t z ho
  simp only [Bool.and_eq_true] at ok
  obtain ⟨q1, q2, _⟩ := okSz_inv ok.2
  obtain ⟨u, h3, h4⟩ := load_sound hH (rd_sound hH hT ok.1 h1) h2 q1 q2
  exact ⟨u, by simp [execOp, ho, h3], h4⟩
theorem e_nilc (hH : HR P gl w0 ι H w) (hT : TmOk ι T a.tmps) {x : Rd} {v : V} (ok : okOp P gl o.op (.nilc x) = true) (h : exec run y (.nilc x) T H = .va v) : Did P ι w a o v := by
  obtain ⟨d, h1, h2⟩ := rd1_inv (toVa_inv h)
  simp only [okOp] at ok
  split at ok <;> first | (cases ok; done) | skip
  rename_i z ho
  have hr := rd_sound hH hT ok h1
  unfold nilcV at h2
  simp only [Did, execOp, ho]
  generalize a.eval z = u at hr ⊢
  split at h2 <;> first | (cases h2; done) | skip
  all_goals
    cases h2
    have hr0 := hr
    cases hr
    exact ⟨_, rfl, hr0⟩

/-! ### reckoning -/
theorem ofD_inv {d : YtnpoikgkhhpdgaaDoorE.D} {v : V} (h : ofD d = some v) {G : YtnpoikgkhhpdgaaDoorE.Gh} {z : Value} (r : YtnpoikgkhhpdgaaDoorE.Rep G d z) : VR ι v z := by
  cases d with
  | bool b => cases h; rw [r.bool_inv]; exact .bool b
  | int k n => cases h; rw [r.int_inv]; exact .int k n
  | _ => cases h
theorem arithV_inv {op : BinOp} {k : IntKind} {m n : Int} {v : V} (h : arithV op k m n = some v) : ∃ d, YtnpoikgkhhpdgaaDoorE.arith op k m n = some d ∧ ofD d = some v := by
  have slow : slowA op k m n = some v → ∃ d, YtnpoikgkhhpdgaaDoorE.arith op k m n = some d ∧ ofD d = some v := fun h => ob_some.1 h
  cases op <;> first | exact slow h | skip
  all_goals
    simp only [arithV, iAdd, iSub, iMul, iLss, iLeq, iGtr, iGeq, iEql, iNeq] at h
    cases h
    refine ⟨_, rfl, ?_⟩
    simp only [ofD, wrapF_eq, ilt_eq, ile_eq, ieq_eq]
    try rfl
/-- bytes, as numbers -/
theorem bytes_inj {s t : ByteArray} (h : s.data.toList.map UInt8.toNat = t.data.toList.map UInt8.toNat) : s = t := by
  have : s.data.toList = t.data.toList := by
    have hinj : Function.Injective UInt8.toNat := fun a b h => UInt8.toNat_inj.1 h
    exact List.map_inj_right (fun a b h => hinj h) |>.1 h
  cases s; cases t
  simp at this
  rw [this]
theorem bytes_eq (s t : ByteArray) : (s.toList == t.toList) = beqS (s.data.toList.map UInt8.toNat) (t.data.toList.map UInt8.toNat) := by
  rw [beqS_eq, Bool.eq_iff_iff]
  simp only [beq_iff_eq, decide_eq_true_eq]
  constructor
  · intro h
    have : s.data.toList = t.data.toList := by rwa [← ByteArray.toList_eq, ← ByteArray.toList_eq]
    rw [this]
  · intro h; rw [bytes_inj h]
end
end Go.YtnpoikgkhhpdgaaDoorH
