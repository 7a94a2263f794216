/-
  RowKnown, run in the kernel: whatever bytealg.MaxLen holds.
-/
import Derived.Test.YtnpoikgkhhpdgaaDoorHcr
import Derived.Test.YtnpoikgkhhpdgaaDoorTb
namespace Go.YtnpoikgkhhpdgaaDoorH.row
open Go.Proofs
set_option maxRecDepth 1000000 in
theorem known_run : ∀ b : Bool, isT (runF tab 100000 40 11 [] (startH [tabV .u8 tb0, tabV .u8 tb1, [.rng .i64 b 2], tabV .u64 tb2])) = true
  | true => by kernel_rfl
  | false => by kernel_rfl
end Go.YtnpoikgkhhpdgaaDoorH.row
