/-
  NARROWER THAN 'FOR EVERY INPUT', by the rows' own cells (each row's printed sentence says how): ZonesAllocs: laid · ZonesTakes: laid · ZonesLooks: laid · BuddyKnown: laid · BuddyBack: laid · BuddySwaps: laid · BuddyGives: laid · ZonesFirst: laid · RowKnown: laid · RowLoose: laid · RowDigits: laid · ZonesSteps: laid · ZonesAll: laid · ZonesKnown: laid.
  DERIVED. THE GIVEN ROWS OF THIS SEAT. 14 by the template 'for every input the law returns true; each argument reads behind the call as it read before'; 0 by the template 'total and deterministic' (their statements: YtnpoikgkhhpdgaaDoorTotals.lean).
  GIVEN WITH THE SEED: the statements are not yours to turn. If you find one false, say at which input.
  Laid BY PROGRAM, IN A SANDBOX (cutbox-rows.mjs): the forced cells as the released guide's own fill.sh prints them over the translation a5d6a314e71a1d56… (all of the seat's roots in one cut). By AI agents, Wed Nov 11 2026. No macro, syntax, notation, axiom, sorry.
-/
import Derived.Test.YtnpoikgkhhpdgaaDoorChecked
import GoSem.Claim
import GoSem.ClaimJoined
import GoSem.ClaimMapViews
import Derived.JoinedTies
import Derived.KernelRfl
namespace Go.Proofs.YtnpoikgkhhpdgaaDoor
/- THE CELL 'sum', in the pinned program and in every row, IS THE sha256 OF THE DUMP (.gsa) THAT YtnpoikgkhhpdgaaDoorProg.lean LOADS. Nothing in Lean hashes anything: it is a label: what it is worth is what the hold of that sum in a sandbox is worth. -/
noncomputable def Tryd.pinned : Pinned := { name := "ytnpoikgkhhpdgaadoor", sum := "a5d6a314e71a1d5604553f2ddb186833932a7db84262a7f8359462dfb383b04f", checked := Tryd.checked }
namespace Rows
def none {H : Type} : Left H := { results := [], args := [] }

/- WHAT THE LISTED PACKAGE-LEVEL VARIABLES READ AS WHEN THE CALL BEGINS. Each datum BY PROGRAM (the guide's laid-datum.mjs) off the statement by which the dump's own 'gosem.cut.vars' lays the variable. In a bare row this is a premise. The card (YtnpoikgkhhpdgaaDoorCards.lean) ties it to the program's text. -/
def laid_math_bits_deBruijn32tab {H : Type} : DataW H := .agg [.lit (.int .u8 0), .lit (.int .u8 1), .lit (.int .u8 28), .lit (.int .u8 2), .lit (.int .u8 29), .lit (.int .u8 14), .lit (.int .u8 24), .lit (.int .u8 3), .lit (.int .u8 30), .lit (.int .u8 22), .lit (.int .u8 20), .lit (.int .u8 15), .lit (.int .u8 25), .lit (.int .u8 17), .lit (.int .u8 4), .lit (.int .u8 8), .lit (.int .u8 31), .lit (.int .u8 27), .lit (.int .u8 13), .lit (.int .u8 23), .lit (.int .u8 21), .lit (.int .u8 19), .lit (.int .u8 16), .lit (.int .u8 7), .lit (.int .u8 26), .lit (.int .u8 12), .lit (.int .u8 18), .lit (.int .u8 6), .lit (.int .u8 11), .lit (.int .u8 5), .lit (.int .u8 10), .lit (.int .u8 9)]
def laid_math_bits_deBruijn64tab {H : Type} : DataW H := .agg [.lit (.int .u8 0), .lit (.int .u8 1), .lit (.int .u8 56), .lit (.int .u8 2), .lit (.int .u8 57), .lit (.int .u8 49), .lit (.int .u8 28), .lit (.int .u8 3), .lit (.int .u8 61), .lit (.int .u8 58), .lit (.int .u8 42), .lit (.int .u8 50), .lit (.int .u8 38), .lit (.int .u8 29), .lit (.int .u8 17), .lit (.int .u8 4), .lit (.int .u8 62), .lit (.int .u8 47), .lit (.int .u8 59), .lit (.int .u8 36), .lit (.int .u8 45), .lit (.int .u8 43), .lit (.int .u8 51), .lit (.int .u8 22), .lit (.int .u8 53), .lit (.int .u8 39), .lit (.int .u8 33), .lit (.int .u8 30), .lit (.int .u8 24), .lit (.int .u8 18), .lit (.int .u8 12), .lit (.int .u8 5), .lit (.int .u8 63), .lit (.int .u8 55), .lit (.int .u8 48), .lit (.int .u8 27), .lit (.int .u8 60), .lit (.int .u8 41), .lit (.int .u8 37), .lit (.int .u8 16), .lit (.int .u8 46), .lit (.int .u8 35), .lit (.int .u8 44), .lit (.int .u8 21), .lit (.int .u8 52), .lit (.int .u8 32), .lit (.int .u8 23), .lit (.int .u8 11), .lit (.int .u8 54), .lit (.int .u8 26), .lit (.int .u8 40), .lit (.int .u8 15), .lit (.int .u8 34), .lit (.int .u8 20), .lit (.int .u8 31), .lit (.int .u8 10), .lit (.int .u8 25), .lit (.int .u8 14), .lit (.int .u8 19), .lit (.int .u8 9), .lit (.int .u8 13), .lit (.int .u8 8), .lit (.int .u8 7), .lit (.int .u8 6)]
def laid_internal_strconv_uint64pow10 {H : Type} : DataW H := .agg [.lit (.int .u64 1), .lit (.int .u64 10), .lit (.int .u64 100), .lit (.int .u64 1000), .lit (.int .u64 10000), .lit (.int .u64 100000), .lit (.int .u64 1000000), .lit (.int .u64 10000000), .lit (.int .u64 100000000), .lit (.int .u64 1000000000), .lit (.int .u64 10000000000), .lit (.int .u64 100000000000), .lit (.int .u64 1000000000000), .lit (.int .u64 10000000000000), .lit (.int .u64 100000000000000), .lit (.int .u64 1000000000000000), .lit (.int .u64 10000000000000000), .lit (.int .u64 100000000000000000), .lit (.int .u64 1000000000000000000), .lit (.int .u64 10000000000000000000)]

/-- 'headgatelaw11.ZonesAllocs': WHATEVER THE INPUT: true; the input reads as it did. -/
def zonesAllocsSpec : ChangeSpec := { name := "zonesAllocs", fn := fun _ => fun
  | [d1, d2, d3] => { results := [.lit (.bool true)], args := [d1, d2, d3] }
  | _ => none }
def zonesAllocsRow : OpenClaim := { program := "ytnpoikgkhhpdgaadoor", sum := "a5d6a314e71a1d5604553f2ddb186833932a7db84262a7f8359462dfb383b04f", func := "headgate/headgatelaw11.ZonesAllocs", spec := "zonesAllocs", named := ["math/bits.deBruijn32tab", "math/bits.deBruijn64tab"], apart := false, laid := [("math/bits.deBruijn32tab", laid_math_bits_deBruijn32tab), ("math/bits.deBruijn64tab", laid_math_bits_deBruijn64tab)] }
def ZonesAllocsSaid : Prop := zonesAllocsRow.holds Tryd.pinned (OpenSpec.ofChange zonesAllocsSpec)

/-- ITS FALSE NEIGHBOUR: 'it returns false'. Refute it at one input. -/
def zonesAllocsWrong : ChangeSpec := { name := "zonesAllocs", fn := fun _ => fun
  | [d1, d2, d3] => { results := [.lit (.bool false)], args := [d1, d2, d3] }
  | _ => none }
def ZonesAllocsWrongFalsely : Prop := zonesAllocsRow.holds Tryd.pinned (OpenSpec.ofChange zonesAllocsWrong)

/-- 'headgatelaw11.ZonesTakes': WHATEVER THE INPUT: true; the input reads as it did. -/
def zonesTakesSpec : ChangeSpec := { name := "zonesTakes", fn := fun _ => fun
  | [d1, d2, d3] => { results := [.lit (.bool true)], args := [d1, d2, d3] }
  | _ => none }
def zonesTakesRow : OpenClaim := { program := "ytnpoikgkhhpdgaadoor", sum := "a5d6a314e71a1d5604553f2ddb186833932a7db84262a7f8359462dfb383b04f", func := "headgate/headgatelaw11.ZonesTakes", spec := "zonesTakes", named := ["math/bits.deBruijn32tab", "math/bits.deBruijn64tab"], apart := false, laid := [("math/bits.deBruijn32tab", laid_math_bits_deBruijn32tab), ("math/bits.deBruijn64tab", laid_math_bits_deBruijn64tab)] }
def ZonesTakesSaid : Prop := zonesTakesRow.holds Tryd.pinned (OpenSpec.ofChange zonesTakesSpec)

/-- ITS FALSE NEIGHBOUR: 'it returns false'. Refute it at one input. -/
def zonesTakesWrong : ChangeSpec := { name := "zonesTakes", fn := fun _ => fun
  | [d1, d2, d3] => { results := [.lit (.bool false)], args := [d1, d2, d3] }
  | _ => none }
def ZonesTakesWrongFalsely : Prop := zonesTakesRow.holds Tryd.pinned (OpenSpec.ofChange zonesTakesWrong)

/-- 'headgatelaw11.ZonesLooks': WHATEVER THE INPUT: true; the input reads as it did. -/
def zonesLooksSpec : ChangeSpec := { name := "zonesLooks", fn := fun _ => fun
  | [d1, d2, d3, d4] => { results := [.lit (.bool true)], args := [d1, d2, d3, d4] }
  | _ => none }
def zonesLooksRow : OpenClaim := { program := "ytnpoikgkhhpdgaadoor", sum := "a5d6a314e71a1d5604553f2ddb186833932a7db84262a7f8359462dfb383b04f", func := "headgate/headgatelaw11.ZonesLooks", spec := "zonesLooks", unfollowed := true, recurses := true, named := ["math/bits.deBruijn32tab", "math/bits.deBruijn64tab"], apart := false, laid := [("math/bits.deBruijn32tab", laid_math_bits_deBruijn32tab), ("math/bits.deBruijn64tab", laid_math_bits_deBruijn64tab)] }
def ZonesLooksSaid : Prop := zonesLooksRow.holds Tryd.pinned (OpenSpec.ofChange zonesLooksSpec)

/-- ITS FALSE NEIGHBOUR: 'it returns false'. Refute it at one input. -/
def zonesLooksWrong : ChangeSpec := { name := "zonesLooks", fn := fun _ => fun
  | [d1, d2, d3, d4] => { results := [.lit (.bool false)], args := [d1, d2, d3, d4] }
  | _ => none }
def ZonesLooksWrongFalsely : Prop := zonesLooksRow.holds Tryd.pinned (OpenSpec.ofChange zonesLooksWrong)

/-- 'headgatelaw09.BuddyKnown': WHATEVER THE INPUT: true; the input reads as it did. -/
def buddyKnownSpec : ChangeSpec := { name := "buddyKnown", fn := fun _ => fun
  | [] => { results := [.lit (.bool true)], args := [] }
  | _ => none }
def buddyKnownRow : OpenClaim := { program := "ytnpoikgkhhpdgaadoor", sum := "a5d6a314e71a1d5604553f2ddb186833932a7db84262a7f8359462dfb383b04f", func := "headgate/headgatelaw09.BuddyKnown", spec := "buddyKnown", inPlace := ["slices.overlaps[headgate/api.Block]"], unfollowed := true, recurses := true, named := ["math/bits.deBruijn32tab", "math/bits.deBruijn64tab"], apart := false, laid := [("math/bits.deBruijn32tab", laid_math_bits_deBruijn32tab), ("math/bits.deBruijn64tab", laid_math_bits_deBruijn64tab)] }
def BuddyKnownSaid : Prop := buddyKnownRow.holds Tryd.pinned (OpenSpec.ofChange buddyKnownSpec)

/-- ITS FALSE NEIGHBOUR: 'it returns false'. Refute it at one input. -/
def buddyKnownWrong : ChangeSpec := { name := "buddyKnown", fn := fun _ => fun
  | [] => { results := [.lit (.bool false)], args := [] }
  | _ => none }
def BuddyKnownWrongFalsely : Prop := buddyKnownRow.holds Tryd.pinned (OpenSpec.ofChange buddyKnownWrong)

/-- 'headgatelaw09.BuddyBack': WHATEVER THE INPUT: true; the input reads as it did. -/
def buddyBackSpec : ChangeSpec := { name := "buddyBack", fn := fun _ => fun
  | [d1, d2, d3, d4] => { results := [.lit (.bool true)], args := [d1, d2, d3, d4] }
  | _ => none }
def buddyBackRow : OpenClaim := { program := "ytnpoikgkhhpdgaadoor", sum := "a5d6a314e71a1d5604553f2ddb186833932a7db84262a7f8359462dfb383b04f", func := "headgate/headgatelaw09.BuddyBack", spec := "buddyBack", inPlace := ["slices.overlaps[headgate/api.Block]"], unfollowed := true, recurses := true, named := ["math/bits.deBruijn32tab", "math/bits.deBruijn64tab"], apart := false, laid := [("math/bits.deBruijn32tab", laid_math_bits_deBruijn32tab), ("math/bits.deBruijn64tab", laid_math_bits_deBruijn64tab)] }
def BuddyBackSaid : Prop := buddyBackRow.holds Tryd.pinned (OpenSpec.ofChange buddyBackSpec)

/-- ITS FALSE NEIGHBOUR: 'it returns false'. Refute it at one input. -/
def buddyBackWrong : ChangeSpec := { name := "buddyBack", fn := fun _ => fun
  | [d1, d2, d3, d4] => { results := [.lit (.bool false)], args := [d1, d2, d3, d4] }
  | _ => none }
def BuddyBackWrongFalsely : Prop := buddyBackRow.holds Tryd.pinned (OpenSpec.ofChange buddyBackWrong)

/-- 'headgatelaw09.BuddySwaps': WHATEVER THE INPUT: true; the input reads as it did. -/
def buddySwapsSpec : ChangeSpec := { name := "buddySwaps", fn := fun _ => fun
  | [d1, d2, d3, d4] => { results := [.lit (.bool true)], args := [d1, d2, d3, d4] }
  | _ => none }
def buddySwapsRow : OpenClaim := { program := "ytnpoikgkhhpdgaadoor", sum := "a5d6a314e71a1d5604553f2ddb186833932a7db84262a7f8359462dfb383b04f", func := "headgate/headgatelaw09.BuddySwaps", spec := "buddySwaps", inPlace := ["slices.overlaps[headgate/api.Block]"], unfollowed := true, recurses := true, named := ["math/bits.deBruijn32tab", "math/bits.deBruijn64tab"], apart := false, laid := [("math/bits.deBruijn32tab", laid_math_bits_deBruijn32tab), ("math/bits.deBruijn64tab", laid_math_bits_deBruijn64tab)] }
def BuddySwapsSaid : Prop := buddySwapsRow.holds Tryd.pinned (OpenSpec.ofChange buddySwapsSpec)

/-- ITS FALSE NEIGHBOUR: 'it returns false'. Refute it at one input. -/
def buddySwapsWrong : ChangeSpec := { name := "buddySwaps", fn := fun _ => fun
  | [d1, d2, d3, d4] => { results := [.lit (.bool false)], args := [d1, d2, d3, d4] }
  | _ => none }
def BuddySwapsWrongFalsely : Prop := buddySwapsRow.holds Tryd.pinned (OpenSpec.ofChange buddySwapsWrong)

/-- 'headgatelaw09.BuddyGives': WHATEVER THE INPUT: true; the input reads as it did. -/
def buddyGivesSpec : ChangeSpec := { name := "buddyGives", fn := fun _ => fun
  | [d1, d2] => { results := [.lit (.bool true)], args := [d1, d2] }
  | _ => none }
def buddyGivesRow : OpenClaim := { program := "ytnpoikgkhhpdgaadoor", sum := "a5d6a314e71a1d5604553f2ddb186833932a7db84262a7f8359462dfb383b04f", func := "headgate/headgatelaw09.BuddyGives", spec := "buddyGives", inPlace := ["slices.overlaps[headgate/api.Block]"], unfollowed := true, recurses := true, named := ["math/bits.deBruijn32tab", "math/bits.deBruijn64tab"], apart := false, laid := [("math/bits.deBruijn32tab", laid_math_bits_deBruijn32tab), ("math/bits.deBruijn64tab", laid_math_bits_deBruijn64tab)] }
def BuddyGivesSaid : Prop := buddyGivesRow.holds Tryd.pinned (OpenSpec.ofChange buddyGivesSpec)

/-- ITS FALSE NEIGHBOUR: 'it returns false'. Refute it at one input. -/
def buddyGivesWrong : ChangeSpec := { name := "buddyGives", fn := fun _ => fun
  | [d1, d2] => { results := [.lit (.bool false)], args := [d1, d2] }
  | _ => none }
def BuddyGivesWrongFalsely : Prop := buddyGivesRow.holds Tryd.pinned (OpenSpec.ofChange buddyGivesWrong)

/-- 'headgatelaw11.ZonesFirst': WHATEVER THE INPUT: true; the input reads as it did. -/
def zonesFirstSpec : ChangeSpec := { name := "zonesFirst", fn := fun _ => fun
  | [d1, d2, d3] => { results := [.lit (.bool true)], args := [d1, d2, d3] }
  | _ => none }
def zonesFirstRow : OpenClaim := { program := "ytnpoikgkhhpdgaadoor", sum := "a5d6a314e71a1d5604553f2ddb186833932a7db84262a7f8359462dfb383b04f", func := "headgate/headgatelaw11.ZonesFirst", spec := "zonesFirst", inPlace := ["slices.overlaps[headgate/api.Block]"], unfollowed := true, recurses := true, named := ["math/bits.deBruijn32tab", "math/bits.deBruijn64tab"], apart := false, laid := [("math/bits.deBruijn32tab", laid_math_bits_deBruijn32tab), ("math/bits.deBruijn64tab", laid_math_bits_deBruijn64tab)] }
def ZonesFirstSaid : Prop := zonesFirstRow.holds Tryd.pinned (OpenSpec.ofChange zonesFirstSpec)

/-- ITS FALSE NEIGHBOUR: 'it returns false'. Refute it at one input. -/
def zonesFirstWrong : ChangeSpec := { name := "zonesFirst", fn := fun _ => fun
  | [d1, d2, d3] => { results := [.lit (.bool false)], args := [d1, d2, d3] }
  | _ => none }
def ZonesFirstWrongFalsely : Prop := zonesFirstRow.holds Tryd.pinned (OpenSpec.ofChange zonesFirstWrong)

/-- 'headgatelaw05.RowKnown': WHATEVER THE INPUT: true; the input reads as it did. -/
def rowKnownSpec : ChangeSpec := { name := "rowKnown", fn := fun _ => fun
  | [] => { results := [.lit (.bool true)], args := [] }
  | _ => none }
def rowKnownRow : OpenClaim := { program := "ytnpoikgkhhpdgaadoor", sum := "a5d6a314e71a1d5604553f2ddb186833932a7db84262a7f8359462dfb383b04f", func := "headgate/headgatelaw05.RowKnown", spec := "rowKnown", inPlace := ["internal/bytealg.IndexByteString", "internal/bytealg.IndexString"], named := ["internal/bytealg.MaxLen", "internal/strconv.uint64pow10", "math/bits.deBruijn32tab", "math/bits.deBruijn64tab"], apart := false, laid := [("math/bits.deBruijn32tab", laid_math_bits_deBruijn32tab), ("math/bits.deBruijn64tab", laid_math_bits_deBruijn64tab), ("internal/strconv.uint64pow10", laid_internal_strconv_uint64pow10)] }
def RowKnownSaid : Prop := rowKnownRow.holds Tryd.pinned (OpenSpec.ofChange rowKnownSpec)

/-- ITS FALSE NEIGHBOUR: 'it returns false'. Refute it at one input. -/
def rowKnownWrong : ChangeSpec := { name := "rowKnown", fn := fun _ => fun
  | [] => { results := [.lit (.bool false)], args := [] }
  | _ => none }
def RowKnownWrongFalsely : Prop := rowKnownRow.holds Tryd.pinned (OpenSpec.ofChange rowKnownWrong)

/-- 'headgatelaw05.RowLoose': WHATEVER THE INPUT: true; the input reads as it did. -/
def rowLooseSpec : ChangeSpec := { name := "rowLoose", fn := fun _ => fun
  | [d1, d2] => { results := [.lit (.bool true)], args := [d1, d2] }
  | _ => none }
def rowLooseRow : OpenClaim := { program := "ytnpoikgkhhpdgaadoor", sum := "a5d6a314e71a1d5604553f2ddb186833932a7db84262a7f8359462dfb383b04f", func := "headgate/headgatelaw05.RowLoose", spec := "rowLoose", inPlace := ["internal/bytealg.IndexByteString", "internal/bytealg.IndexString"], named := ["internal/bytealg.MaxLen", "internal/strconv.uint64pow10", "math/bits.deBruijn32tab", "math/bits.deBruijn64tab"], apart := false, laid := [("math/bits.deBruijn32tab", laid_math_bits_deBruijn32tab), ("math/bits.deBruijn64tab", laid_math_bits_deBruijn64tab), ("internal/strconv.uint64pow10", laid_internal_strconv_uint64pow10)] }
def RowLooseSaid : Prop := rowLooseRow.holds Tryd.pinned (OpenSpec.ofChange rowLooseSpec)

/-- ITS FALSE NEIGHBOUR: 'it returns false'. Refute it at one input. -/
def rowLooseWrong : ChangeSpec := { name := "rowLoose", fn := fun _ => fun
  | [d1, d2] => { results := [.lit (.bool false)], args := [d1, d2] }
  | _ => none }
def RowLooseWrongFalsely : Prop := rowLooseRow.holds Tryd.pinned (OpenSpec.ofChange rowLooseWrong)

/-- 'headgatelaw05.RowDigits': WHATEVER THE INPUT: true; the input reads as it did. -/
def rowDigitsSpec : ChangeSpec := { name := "rowDigits", fn := fun _ => fun
  | [d] => { results := [.lit (.bool true)], args := [d] }
  | _ => none }
def rowDigitsRow : OpenClaim := { program := "ytnpoikgkhhpdgaadoor", sum := "a5d6a314e71a1d5604553f2ddb186833932a7db84262a7f8359462dfb383b04f", func := "headgate/headgatelaw05.RowDigits", spec := "rowDigits", inPlace := ["internal/bytealg.IndexByteString", "internal/bytealg.IndexString"], named := ["internal/bytealg.MaxLen", "internal/strconv.uint64pow10", "math/bits.deBruijn32tab", "math/bits.deBruijn64tab"], apart := false, laid := [("math/bits.deBruijn32tab", laid_math_bits_deBruijn32tab), ("math/bits.deBruijn64tab", laid_math_bits_deBruijn64tab), ("internal/strconv.uint64pow10", laid_internal_strconv_uint64pow10)] }
def RowDigitsSaid : Prop := rowDigitsRow.holds Tryd.pinned (OpenSpec.ofChange rowDigitsSpec)

/-- ITS FALSE NEIGHBOUR: 'it returns false'. Refute it at one input. -/
def rowDigitsWrong : ChangeSpec := { name := "rowDigits", fn := fun _ => fun
  | [d] => { results := [.lit (.bool false)], args := [d] }
  | _ => none }
def RowDigitsWrongFalsely : Prop := rowDigitsRow.holds Tryd.pinned (OpenSpec.ofChange rowDigitsWrong)

/-- 'headgatelaw11.ZonesSteps': WHATEVER THE INPUT: true; the input reads as it did. -/
def zonesStepsSpec : ChangeSpec := { name := "zonesSteps", fn := fun _ => fun
  | [d1, d2, d3] => { results := [.lit (.bool true)], args := [d1, d2, d3] }
  | _ => none }
def zonesStepsRow : OpenClaim := { program := "ytnpoikgkhhpdgaadoor", sum := "a5d6a314e71a1d5604553f2ddb186833932a7db84262a7f8359462dfb383b04f", func := "headgate/headgatelaw11.ZonesSteps", spec := "zonesSteps", inPlace := ["slices.overlaps[headgate/api.Block]"], unfollowed := true, recurses := true, named := ["math/bits.deBruijn32tab", "math/bits.deBruijn64tab"], apart := false, laid := [("math/bits.deBruijn32tab", laid_math_bits_deBruijn32tab), ("math/bits.deBruijn64tab", laid_math_bits_deBruijn64tab)] }
def ZonesStepsSaid : Prop := zonesStepsRow.holds Tryd.pinned (OpenSpec.ofChange zonesStepsSpec)

/-- ITS FALSE NEIGHBOUR: 'it returns false'. Refute it at one input. -/
def zonesStepsWrong : ChangeSpec := { name := "zonesSteps", fn := fun _ => fun
  | [d1, d2, d3] => { results := [.lit (.bool false)], args := [d1, d2, d3] }
  | _ => none }
def ZonesStepsWrongFalsely : Prop := zonesStepsRow.holds Tryd.pinned (OpenSpec.ofChange zonesStepsWrong)

/-- 'headgatelaw11.ZonesAll': WHATEVER THE INPUT: true; the input reads as it did. -/
def zonesAllSpec : ChangeSpec := { name := "zonesAll", fn := fun _ => fun
  | [d1, d2] => { results := [.lit (.bool true)], args := [d1, d2] }
  | _ => none }
def zonesAllRow : OpenClaim := { program := "ytnpoikgkhhpdgaadoor", sum := "a5d6a314e71a1d5604553f2ddb186833932a7db84262a7f8359462dfb383b04f", func := "headgate/headgatelaw11.ZonesAll", spec := "zonesAll", inPlace := ["slices.overlaps[headgate/api.Block]"], unfollowed := true, recurses := true, named := ["math/bits.deBruijn32tab", "math/bits.deBruijn64tab"], apart := false, laid := [("math/bits.deBruijn32tab", laid_math_bits_deBruijn32tab), ("math/bits.deBruijn64tab", laid_math_bits_deBruijn64tab)] }
def ZonesAllSaid : Prop := zonesAllRow.holds Tryd.pinned (OpenSpec.ofChange zonesAllSpec)

/-- ITS FALSE NEIGHBOUR: 'it returns false'. Refute it at one input. -/
def zonesAllWrong : ChangeSpec := { name := "zonesAll", fn := fun _ => fun
  | [d1, d2] => { results := [.lit (.bool false)], args := [d1, d2] }
  | _ => none }
def ZonesAllWrongFalsely : Prop := zonesAllRow.holds Tryd.pinned (OpenSpec.ofChange zonesAllWrong)

/-- 'headgatelaw11.ZonesKnown': WHATEVER THE INPUT: true; the input reads as it did. -/
def zonesKnownSpec : ChangeSpec := { name := "zonesKnown", fn := fun _ => fun
  | [] => { results := [.lit (.bool true)], args := [] }
  | _ => none }
def zonesKnownRow : OpenClaim := { program := "ytnpoikgkhhpdgaadoor", sum := "a5d6a314e71a1d5604553f2ddb186833932a7db84262a7f8359462dfb383b04f", func := "headgate/headgatelaw11.ZonesKnown", spec := "zonesKnown", inPlace := ["slices.overlaps[headgate/api.Block]"], unfollowed := true, recurses := true, named := ["math/bits.deBruijn32tab", "math/bits.deBruijn64tab"], apart := false, laid := [("math/bits.deBruijn32tab", laid_math_bits_deBruijn32tab), ("math/bits.deBruijn64tab", laid_math_bits_deBruijn64tab)] }
def ZonesKnownSaid : Prop := zonesKnownRow.holds Tryd.pinned (OpenSpec.ofChange zonesKnownSpec)

/-- ITS FALSE NEIGHBOUR: 'it returns false'. Refute it at one input. -/
def zonesKnownWrong : ChangeSpec := { name := "zonesKnown", fn := fun _ => fun
  | [] => { results := [.lit (.bool false)], args := [] }
  | _ => none }
def ZonesKnownWrongFalsely : Prop := zonesKnownRow.holds Tryd.pinned (OpenSpec.ofChange zonesKnownWrong)

/- THE SECOND FORM. 'bulk': how many values and letters a reading holds, each counted each time it is reached (what is shared counts as often as it is met; a slice's spare places count too). A statement '..UptoSaid' is the law's where the arguments, and the package variables that the reading takes, are together of bulk at most 1048576: NARROWER than '..Said'. Prove '..Said' where nothing that the law and all that it calls make is longer than what came in: it says more and counts as full. Else prove '..UptoSaid'. A law counts once. -/
mutual
def uptoBulk {H : Type} : DataW H → Nat
  | .lit (.string bytes) => bytes.length + 1
  | .lit _ => 1
  | .nil => 1
  | .ptr d => uptoBulk d + 1
  | .slice elems spare => uptoBulkAll elems + uptoBulkAll spare + 1
  | .agg parts => uptoBulkAll parts + 1
  | .iface _ d => uptoBulk d + 1
  | .map entries => uptoBulkEntries entries + 1
  | .held _ => 1
def uptoBulkAll {H : Type} : List (DataW H) → Nat
  | [] => 0
  | d :: r => uptoBulk d + uptoBulkAll r
def uptoBulkEntries {H : Type} : List (Lit × DataW H) → Nat
  | [] => 0
  | x :: r => uptoBulkEntry x + uptoBulkEntries r
def uptoBulkEntry {H : Type} : Lit × DataW H → Nat
  | (.string bytes, d) => bytes.length + uptoBulk d + 1
  | (_, d) => uptoBulk d + 1
 end
def uptoSmall : (H : Type) → List (DataW H) → Bool := fun _ ds => decide (uptoBulkAll ds ≤ 1048576)
def OpenSpec.upto (s : _root_.Go.ChangeSpec) : _root_.Go.OpenSpec := { _root_.Go.OpenSpec.ofChange s with cond := some uptoSmall }

/-- 'headgatelaw11.ZonesAllocs', WHERE WHAT IT READS IS OF BULK AT MOST 1048576: true; the input reads as it did. -/
def zonesAllocsUptoRow : OpenClaim := { program := "ytnpoikgkhhpdgaadoor", sum := "a5d6a314e71a1d5604553f2ddb186833932a7db84262a7f8359462dfb383b04f", func := "headgate/headgatelaw11.ZonesAllocs", spec := "zonesAllocs", named := ["math/bits.deBruijn32tab", "math/bits.deBruijn64tab"], apart := false, laid := [("math/bits.deBruijn32tab", laid_math_bits_deBruijn32tab), ("math/bits.deBruijn64tab", laid_math_bits_deBruijn64tab)], narrowed := true }
def ZonesAllocsUptoSaid : Prop := zonesAllocsUptoRow.holds Tryd.pinned (OpenSpec.upto zonesAllocsSpec)

/-- 'headgatelaw11.ZonesTakes', WHERE WHAT IT READS IS OF BULK AT MOST 1048576: true; the input reads as it did. -/
def zonesTakesUptoRow : OpenClaim := { program := "ytnpoikgkhhpdgaadoor", sum := "a5d6a314e71a1d5604553f2ddb186833932a7db84262a7f8359462dfb383b04f", func := "headgate/headgatelaw11.ZonesTakes", spec := "zonesTakes", named := ["math/bits.deBruijn32tab", "math/bits.deBruijn64tab"], apart := false, laid := [("math/bits.deBruijn32tab", laid_math_bits_deBruijn32tab), ("math/bits.deBruijn64tab", laid_math_bits_deBruijn64tab)], narrowed := true }
def ZonesTakesUptoSaid : Prop := zonesTakesUptoRow.holds Tryd.pinned (OpenSpec.upto zonesTakesSpec)

/-- 'headgatelaw11.ZonesLooks', WHERE WHAT IT READS IS OF BULK AT MOST 1048576: true; the input reads as it did. -/
def zonesLooksUptoRow : OpenClaim := { program := "ytnpoikgkhhpdgaadoor", sum := "a5d6a314e71a1d5604553f2ddb186833932a7db84262a7f8359462dfb383b04f", func := "headgate/headgatelaw11.ZonesLooks", spec := "zonesLooks", unfollowed := true, recurses := true, named := ["math/bits.deBruijn32tab", "math/bits.deBruijn64tab"], apart := false, laid := [("math/bits.deBruijn32tab", laid_math_bits_deBruijn32tab), ("math/bits.deBruijn64tab", laid_math_bits_deBruijn64tab)], narrowed := true }
def ZonesLooksUptoSaid : Prop := zonesLooksUptoRow.holds Tryd.pinned (OpenSpec.upto zonesLooksSpec)

/-- 'headgatelaw09.BuddyKnown', WHERE WHAT IT READS IS OF BULK AT MOST 1048576: true; the input reads as it did. -/
def buddyKnownUptoRow : OpenClaim := { program := "ytnpoikgkhhpdgaadoor", sum := "a5d6a314e71a1d5604553f2ddb186833932a7db84262a7f8359462dfb383b04f", func := "headgate/headgatelaw09.BuddyKnown", spec := "buddyKnown", inPlace := ["slices.overlaps[headgate/api.Block]"], unfollowed := true, recurses := true, named := ["math/bits.deBruijn32tab", "math/bits.deBruijn64tab"], apart := false, laid := [("math/bits.deBruijn32tab", laid_math_bits_deBruijn32tab), ("math/bits.deBruijn64tab", laid_math_bits_deBruijn64tab)], narrowed := true }
def BuddyKnownUptoSaid : Prop := buddyKnownUptoRow.holds Tryd.pinned (OpenSpec.upto buddyKnownSpec)

/-- 'headgatelaw09.BuddyBack', WHERE WHAT IT READS IS OF BULK AT MOST 1048576: true; the input reads as it did. -/
def buddyBackUptoRow : OpenClaim := { program := "ytnpoikgkhhpdgaadoor", sum := "a5d6a314e71a1d5604553f2ddb186833932a7db84262a7f8359462dfb383b04f", func := "headgate/headgatelaw09.BuddyBack", spec := "buddyBack", inPlace := ["slices.overlaps[headgate/api.Block]"], unfollowed := true, recurses := true, named := ["math/bits.deBruijn32tab", "math/bits.deBruijn64tab"], apart := false, laid := [("math/bits.deBruijn32tab", laid_math_bits_deBruijn32tab), ("math/bits.deBruijn64tab", laid_math_bits_deBruijn64tab)], narrowed := true }
def BuddyBackUptoSaid : Prop := buddyBackUptoRow.holds Tryd.pinned (OpenSpec.upto buddyBackSpec)

/-- 'headgatelaw09.BuddySwaps', WHERE WHAT IT READS IS OF BULK AT MOST 1048576: true; the input reads as it did. -/
def buddySwapsUptoRow : OpenClaim := { program := "ytnpoikgkhhpdgaadoor", sum := "a5d6a314e71a1d5604553f2ddb186833932a7db84262a7f8359462dfb383b04f", func := "headgate/headgatelaw09.BuddySwaps", spec := "buddySwaps", inPlace := ["slices.overlaps[headgate/api.Block]"], unfollowed := true, recurses := true, named := ["math/bits.deBruijn32tab", "math/bits.deBruijn64tab"], apart := false, laid := [("math/bits.deBruijn32tab", laid_math_bits_deBruijn32tab), ("math/bits.deBruijn64tab", laid_math_bits_deBruijn64tab)], narrowed := true }
def BuddySwapsUptoSaid : Prop := buddySwapsUptoRow.holds Tryd.pinned (OpenSpec.upto buddySwapsSpec)

/-- 'headgatelaw09.BuddyGives', WHERE WHAT IT READS IS OF BULK AT MOST 1048576: true; the input reads as it did. -/
def buddyGivesUptoRow : OpenClaim := { program := "ytnpoikgkhhpdgaadoor", sum := "a5d6a314e71a1d5604553f2ddb186833932a7db84262a7f8359462dfb383b04f", func := "headgate/headgatelaw09.BuddyGives", spec := "buddyGives", inPlace := ["slices.overlaps[headgate/api.Block]"], unfollowed := true, recurses := true, named := ["math/bits.deBruijn32tab", "math/bits.deBruijn64tab"], apart := false, laid := [("math/bits.deBruijn32tab", laid_math_bits_deBruijn32tab), ("math/bits.deBruijn64tab", laid_math_bits_deBruijn64tab)], narrowed := true }
def BuddyGivesUptoSaid : Prop := buddyGivesUptoRow.holds Tryd.pinned (OpenSpec.upto buddyGivesSpec)

/-- 'headgatelaw11.ZonesFirst', WHERE WHAT IT READS IS OF BULK AT MOST 1048576: true; the input reads as it did. -/
def zonesFirstUptoRow : OpenClaim := { program := "ytnpoikgkhhpdgaadoor", sum := "a5d6a314e71a1d5604553f2ddb186833932a7db84262a7f8359462dfb383b04f", func := "headgate/headgatelaw11.ZonesFirst", spec := "zonesFirst", inPlace := ["slices.overlaps[headgate/api.Block]"], unfollowed := true, recurses := true, named := ["math/bits.deBruijn32tab", "math/bits.deBruijn64tab"], apart := false, laid := [("math/bits.deBruijn32tab", laid_math_bits_deBruijn32tab), ("math/bits.deBruijn64tab", laid_math_bits_deBruijn64tab)], narrowed := true }
def ZonesFirstUptoSaid : Prop := zonesFirstUptoRow.holds Tryd.pinned (OpenSpec.upto zonesFirstSpec)

/-- 'headgatelaw05.RowKnown', WHERE WHAT IT READS IS OF BULK AT MOST 1048576: true; the input reads as it did. -/
def rowKnownUptoRow : OpenClaim := { program := "ytnpoikgkhhpdgaadoor", sum := "a5d6a314e71a1d5604553f2ddb186833932a7db84262a7f8359462dfb383b04f", func := "headgate/headgatelaw05.RowKnown", spec := "rowKnown", inPlace := ["internal/bytealg.IndexByteString", "internal/bytealg.IndexString"], named := ["internal/bytealg.MaxLen", "internal/strconv.uint64pow10", "math/bits.deBruijn32tab", "math/bits.deBruijn64tab"], apart := false, laid := [("math/bits.deBruijn32tab", laid_math_bits_deBruijn32tab), ("math/bits.deBruijn64tab", laid_math_bits_deBruijn64tab), ("internal/strconv.uint64pow10", laid_internal_strconv_uint64pow10)], narrowed := true }
def RowKnownUptoSaid : Prop := rowKnownUptoRow.holds Tryd.pinned (OpenSpec.upto rowKnownSpec)

/-- 'headgatelaw05.RowLoose', WHERE WHAT IT READS IS OF BULK AT MOST 1048576: true; the input reads as it did. -/
def rowLooseUptoRow : OpenClaim := { program := "ytnpoikgkhhpdgaadoor", sum := "a5d6a314e71a1d5604553f2ddb186833932a7db84262a7f8359462dfb383b04f", func := "headgate/headgatelaw05.RowLoose", spec := "rowLoose", inPlace := ["internal/bytealg.IndexByteString", "internal/bytealg.IndexString"], named := ["internal/bytealg.MaxLen", "internal/strconv.uint64pow10", "math/bits.deBruijn32tab", "math/bits.deBruijn64tab"], apart := false, laid := [("math/bits.deBruijn32tab", laid_math_bits_deBruijn32tab), ("math/bits.deBruijn64tab", laid_math_bits_deBruijn64tab), ("internal/strconv.uint64pow10", laid_internal_strconv_uint64pow10)], narrowed := true }
def RowLooseUptoSaid : Prop := rowLooseUptoRow.holds Tryd.pinned (OpenSpec.upto rowLooseSpec)

/-- 'headgatelaw05.RowDigits', WHERE WHAT IT READS IS OF BULK AT MOST 1048576: true; the input reads as it did. -/
def rowDigitsUptoRow : OpenClaim := { program := "ytnpoikgkhhpdgaadoor", sum := "a5d6a314e71a1d5604553f2ddb186833932a7db84262a7f8359462dfb383b04f", func := "headgate/headgatelaw05.RowDigits", spec := "rowDigits", inPlace := ["internal/bytealg.IndexByteString", "internal/bytealg.IndexString"], named := ["internal/bytealg.MaxLen", "internal/strconv.uint64pow10", "math/bits.deBruijn32tab", "math/bits.deBruijn64tab"], apart := false, laid := [("math/bits.deBruijn32tab", laid_math_bits_deBruijn32tab), ("math/bits.deBruijn64tab", laid_math_bits_deBruijn64tab), ("internal/strconv.uint64pow10", laid_internal_strconv_uint64pow10)], narrowed := true }
def RowDigitsUptoSaid : Prop := rowDigitsUptoRow.holds Tryd.pinned (OpenSpec.upto rowDigitsSpec)

/-- 'headgatelaw11.ZonesSteps', WHERE WHAT IT READS IS OF BULK AT MOST 1048576: true; the input reads as it did. -/
def zonesStepsUptoRow : OpenClaim := { program := "ytnpoikgkhhpdgaadoor", sum := "a5d6a314e71a1d5604553f2ddb186833932a7db84262a7f8359462dfb383b04f", func := "headgate/headgatelaw11.ZonesSteps", spec := "zonesSteps", inPlace := ["slices.overlaps[headgate/api.Block]"], unfollowed := true, recurses := true, named := ["math/bits.deBruijn32tab", "math/bits.deBruijn64tab"], apart := false, laid := [("math/bits.deBruijn32tab", laid_math_bits_deBruijn32tab), ("math/bits.deBruijn64tab", laid_math_bits_deBruijn64tab)], narrowed := true }
def ZonesStepsUptoSaid : Prop := zonesStepsUptoRow.holds Tryd.pinned (OpenSpec.upto zonesStepsSpec)

/-- 'headgatelaw11.ZonesAll', WHERE WHAT IT READS IS OF BULK AT MOST 1048576: true; the input reads as it did. -/
def zonesAllUptoRow : OpenClaim := { program := "ytnpoikgkhhpdgaadoor", sum := "a5d6a314e71a1d5604553f2ddb186833932a7db84262a7f8359462dfb383b04f", func := "headgate/headgatelaw11.ZonesAll", spec := "zonesAll", inPlace := ["slices.overlaps[headgate/api.Block]"], unfollowed := true, recurses := true, named := ["math/bits.deBruijn32tab", "math/bits.deBruijn64tab"], apart := false, laid := [("math/bits.deBruijn32tab", laid_math_bits_deBruijn32tab), ("math/bits.deBruijn64tab", laid_math_bits_deBruijn64tab)], narrowed := true }
def ZonesAllUptoSaid : Prop := zonesAllUptoRow.holds Tryd.pinned (OpenSpec.upto zonesAllSpec)

/-- 'headgatelaw11.ZonesKnown', WHERE WHAT IT READS IS OF BULK AT MOST 1048576: true; the input reads as it did. -/
def zonesKnownUptoRow : OpenClaim := { program := "ytnpoikgkhhpdgaadoor", sum := "a5d6a314e71a1d5604553f2ddb186833932a7db84262a7f8359462dfb383b04f", func := "headgate/headgatelaw11.ZonesKnown", spec := "zonesKnown", inPlace := ["slices.overlaps[headgate/api.Block]"], unfollowed := true, recurses := true, named := ["math/bits.deBruijn32tab", "math/bits.deBruijn64tab"], apart := false, laid := [("math/bits.deBruijn32tab", laid_math_bits_deBruijn32tab), ("math/bits.deBruijn64tab", laid_math_bits_deBruijn64tab)], narrowed := true }
def ZonesKnownUptoSaid : Prop := zonesKnownUptoRow.holds Tryd.pinned (OpenSpec.upto zonesKnownSpec)

end Rows
end Go.Proofs.YtnpoikgkhhpdgaaDoor
