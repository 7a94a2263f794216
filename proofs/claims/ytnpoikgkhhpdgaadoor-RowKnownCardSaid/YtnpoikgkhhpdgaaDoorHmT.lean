/-
  The table.
-/
import Derived.Test.YtnpoikgkhhpdgaaDoorHmX
namespace Go.YtnpoikgkhhpdgaaDoorH
variable {P : Program} {gl : List Nat}

noncomputable def mkT : List (Nat × Fn) → Tab
  | [] => .nil
  | p :: r => (mkT r).set p.1 p.2
inductive AllOk (P : Program) (gl : List Nat) : List (Nat × Fn) → Prop
  | nil : AllOk P gl []
  | cons {f : Nat} {fn : Fn} {r : List (Nat × Fn)} (h : okFun P gl f fn = true) (i : InsOk fn) (t : AllOk P gl r) : AllOk P gl ((f, fn) :: r)
theorem mkT_ok {l : List (Nat × Fn)} (h : AllOk P gl l) : TabOk P gl (mkT l) := by
  induction h with
  | nil => intro f fn h; cases h
  | @cons f0 fn0 r h0 i0 t ih =>
    intro f fn h
    have h2 : ((mkT r).set f0 fn0).get f = some fn := h
    rw [Tr.get_set] at h2
    split at h2
    · rename_i e; cases h2; rw [e]; exact ⟨h0, i0⟩
    · exact ih f fn h2
end Go.YtnpoikgkhhpdgaaDoorH
