/-
  BuddyKnown, ZonesKnown, run in the kernel.
-/
import Derived.Test.YtnpoikgkhhpdgaaDoorHcb
import Derived.Test.YtnpoikgkhhpdgaaDoorTb
namespace Go.YtnpoikgkhhpdgaaDoorH.bz
open Go.Proofs
noncomputable def isT (x : Option (V × Heap)) : Bool := Option.rec (motive := fun _ => Bool) false (fun p => V.rec (motive_1 := fun _ => Bool) (motive_2 := fun _ => Bool) false (fun b => b) (fun _ _ => false) (fun _ => false) false false false (fun _ _ => false) (fun _ _ _ _ _ => false) false (fun _ _ _ => false) (fun _ => false) (fun _ _ => false) (fun _ _ => false) false (fun _ _ _ _ => false) p.1) x
theorem isT_some {x : Option (V × Heap)} (h : isT x = true) : ∃ H', x = some (.bool true, H') := by
  cases x with
  | none => cases h
  | some p =>
    obtain ⟨v, H'⟩ := p
    cases v with
    | bool b => cases b with
      | true => exact ⟨H', rfl⟩
      | false => cases h
    | _ => cases h
set_option maxRecDepth 1000000 in
theorem buddy_run : isT (runF tab 100000 40 6 [] (startH [tabV .u8 tb0, tabV .u8 tb1])) = true := by kernel_rfl
set_option maxRecDepth 1000000 in
theorem zones_run : isT (runF tab 100000 40 16 [] (startH [tabV .u8 tb0, tabV .u8 tb1])) = true := by kernel_rfl
end Go.YtnpoikgkhhpdgaaDoorH.bz
