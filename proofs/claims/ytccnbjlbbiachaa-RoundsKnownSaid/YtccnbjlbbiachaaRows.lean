/-
  No cell of these rows narrows 'for every input' (looked for: loops, veiled, ifaces, maps, wideKeys, modest, calm, conditions, laid).
  DERIVED. THE GIVEN ROWS OF THIS SEAT. 6 by the template 'for every input the law returns true; each argument reads behind the call as it read before'; 0 by the template 'total and deterministic' (their statements: YtccnbjlbbiachaaTotals.lean).
  GIVEN WITH THE SEED: the statements are not yours to turn. If you find one false, say at which input.
  Laid BY PROGRAM, IN A SANDBOX (cutbox-rows.mjs): the forced cells as the released guide's own fill.sh prints them over the translation ec6ee588cc08977e… (all of the seat's roots in one cut). By AI agents, Wed Nov 11 2026. No macro, syntax, notation, axiom, sorry.
-/
import Derived.Test.YtccnbjlbbiachaaChecked
import GoSem.Claim
import GoSem.ClaimJoined
import GoSem.ClaimMapViews
import Derived.JoinedTies
import Derived.KernelRfl
namespace Go.Proofs.Ytccnbjlbbiachaa
/- THE CELL 'sum', in the pinned program and in every row, IS THE sha256 OF THE DUMP (.gsa) THAT YtccnbjlbbiachaaProg.lean LOADS. Nothing in Lean hashes anything: it is a label: what it is worth is what the hold of that sum in a sandbox is worth. -/
noncomputable def Try.pinned : Pinned := { name := "ytccnbjlbbiachaa", sum := "ec6ee588cc08977ebc1ab3aac92f9b57b73593cb61765e72cb2011592fef9b37", checked := Try.checked }
namespace Rows
def none {H : Type} : Left H := { results := [], args := [] }

/-- 'headgatelaw38.RoundsKnown': WHATEVER THE INPUT: true; the input reads as it did. -/
def roundsKnownSpec : ChangeSpec := { name := "roundsKnown", fn := fun _ => fun
  | [] => { results := [.lit (.bool true)], args := [] }
  | _ => none }
def roundsKnownRow : OpenClaim := { program := "ytccnbjlbbiachaa", sum := "ec6ee588cc08977ebc1ab3aac92f9b57b73593cb61765e72cb2011592fef9b37", func := "headgate/headgatelaw38.RoundsKnown", spec := "roundsKnown", unfollowed := true, recurses := true, apart := false }
def RoundsKnownSaid : Prop := roundsKnownRow.holds Try.pinned (OpenSpec.ofChange roundsKnownSpec)

/-- ITS FALSE NEIGHBOUR: 'it returns false'. Refute it at one input. -/
def roundsKnownWrong : ChangeSpec := { name := "roundsKnown", fn := fun _ => fun
  | [] => { results := [.lit (.bool false)], args := [] }
  | _ => none }
def RoundsKnownWrongFalsely : Prop := roundsKnownRow.holds Try.pinned (OpenSpec.ofChange roundsKnownWrong)

/-- 'headgatelaw38.RoundsChecks': WHATEVER THE INPUT: true; the input reads as it did. -/
def roundsChecksSpec : ChangeSpec := { name := "roundsChecks", fn := fun _ => fun
  | [d1, d2] => { results := [.lit (.bool true)], args := [d1, d2] }
  | _ => none }
def roundsChecksRow : OpenClaim := { program := "ytccnbjlbbiachaa", sum := "ec6ee588cc08977ebc1ab3aac92f9b57b73593cb61765e72cb2011592fef9b37", func := "headgate/headgatelaw38.RoundsChecks", spec := "roundsChecks", unfollowed := true, recurses := true, apart := false }
def RoundsChecksSaid : Prop := roundsChecksRow.holds Try.pinned (OpenSpec.ofChange roundsChecksSpec)

/-- ITS FALSE NEIGHBOUR: 'it returns false'. Refute it at one input. -/
def roundsChecksWrong : ChangeSpec := { name := "roundsChecks", fn := fun _ => fun
  | [d1, d2] => { results := [.lit (.bool false)], args := [d1, d2] }
  | _ => none }
def RoundsChecksWrongFalsely : Prop := roundsChecksRow.holds Try.pinned (OpenSpec.ofChange roundsChecksWrong)

/-- 'headgatelaw38.RoundsPrefix': WHATEVER THE INPUT: true; the input reads as it did. -/
def roundsPrefixSpec : ChangeSpec := { name := "roundsPrefix", fn := fun _ => fun
  | [d1, d2] => { results := [.lit (.bool true)], args := [d1, d2] }
  | _ => none }
def roundsPrefixRow : OpenClaim := { program := "ytccnbjlbbiachaa", sum := "ec6ee588cc08977ebc1ab3aac92f9b57b73593cb61765e72cb2011592fef9b37", func := "headgate/headgatelaw38.RoundsPrefix", spec := "roundsPrefix", unfollowed := true, recurses := true, apart := false }
def RoundsPrefixSaid : Prop := roundsPrefixRow.holds Try.pinned (OpenSpec.ofChange roundsPrefixSpec)

/-- ITS FALSE NEIGHBOUR: 'it returns false'. Refute it at one input. -/
def roundsPrefixWrong : ChangeSpec := { name := "roundsPrefix", fn := fun _ => fun
  | [d1, d2] => { results := [.lit (.bool false)], args := [d1, d2] }
  | _ => none }
def RoundsPrefixWrongFalsely : Prop := roundsPrefixRow.holds Try.pinned (OpenSpec.ofChange roundsPrefixWrong)

/-- 'headgatelaw38.RoundsFair': WHATEVER THE INPUT: true; the input reads as it did. -/
def roundsFairSpec : ChangeSpec := { name := "roundsFair", fn := fun _ => fun
  | [d1, d2] => { results := [.lit (.bool true)], args := [d1, d2] }
  | _ => none }
def roundsFairRow : OpenClaim := { program := "ytccnbjlbbiachaa", sum := "ec6ee588cc08977ebc1ab3aac92f9b57b73593cb61765e72cb2011592fef9b37", func := "headgate/headgatelaw38.RoundsFair", spec := "roundsFair", unfollowed := true, recurses := true, apart := false }
def RoundsFairSaid : Prop := roundsFairRow.holds Try.pinned (OpenSpec.ofChange roundsFairSpec)

/-- ITS FALSE NEIGHBOUR: 'it returns false'. Refute it at one input. -/
def roundsFairWrong : ChangeSpec := { name := "roundsFair", fn := fun _ => fun
  | [d1, d2] => { results := [.lit (.bool false)], args := [d1, d2] }
  | _ => none }
def RoundsFairWrongFalsely : Prop := roundsFairRow.holds Try.pinned (OpenSpec.ofChange roundsFairWrong)

/-- 'headgatelaw38.RoundsCuts': WHATEVER THE INPUT: true; the input reads as it did. -/
def roundsCutsSpec : ChangeSpec := { name := "roundsCuts", fn := fun _ => fun
  | [d1, d2, d3, d4] => { results := [.lit (.bool true)], args := [d1, d2, d3, d4] }
  | _ => none }
def roundsCutsRow : OpenClaim := { program := "ytccnbjlbbiachaa", sum := "ec6ee588cc08977ebc1ab3aac92f9b57b73593cb61765e72cb2011592fef9b37", func := "headgate/headgatelaw38.RoundsCuts", spec := "roundsCuts", unfollowed := true, recurses := true, apart := false }
def RoundsCutsSaid : Prop := roundsCutsRow.holds Try.pinned (OpenSpec.ofChange roundsCutsSpec)

/-- ITS FALSE NEIGHBOUR: 'it returns false'. Refute it at one input. -/
def roundsCutsWrong : ChangeSpec := { name := "roundsCuts", fn := fun _ => fun
  | [d1, d2, d3, d4] => { results := [.lit (.bool false)], args := [d1, d2, d3, d4] }
  | _ => none }
def RoundsCutsWrongFalsely : Prop := roundsCutsRow.holds Try.pinned (OpenSpec.ofChange roundsCutsWrong)

/-- 'headgatelaw38.RoundsAnew': WHATEVER THE INPUT: true; the input reads as it did. -/
def roundsAnewSpec : ChangeSpec := { name := "roundsAnew", fn := fun _ => fun
  | [d1, d2] => { results := [.lit (.bool true)], args := [d1, d2] }
  | _ => none }
def roundsAnewRow : OpenClaim := { program := "ytccnbjlbbiachaa", sum := "ec6ee588cc08977ebc1ab3aac92f9b57b73593cb61765e72cb2011592fef9b37", func := "headgate/headgatelaw38.RoundsAnew", spec := "roundsAnew", unfollowed := true, recurses := true, apart := false }
def RoundsAnewSaid : Prop := roundsAnewRow.holds Try.pinned (OpenSpec.ofChange roundsAnewSpec)

/-- ITS FALSE NEIGHBOUR: 'it returns false'. Refute it at one input. -/
def roundsAnewWrong : ChangeSpec := { name := "roundsAnew", fn := fun _ => fun
  | [d1, d2] => { results := [.lit (.bool false)], args := [d1, d2] }
  | _ => none }
def RoundsAnewWrongFalsely : Prop := roundsAnewRow.holds Try.pinned (OpenSpec.ofChange roundsAnewWrong)

/- THE SECOND FORM. 'bulk': how many values and letters a reading holds, each counted each time it is reached (what is shared counts as often as it is met; a slice's spare places count too). A statement '..UptoSaid' is the law's where the arguments, and the package variables that the reading takes, are together of bulk at most 1048576: NARROWER than '..Said'. Prove '..Said' where nothing that the law and all that it calls make is longer than what came in: it says more and counts as full. Else prove '..UptoSaid'. A law counts once. -/
mutual
def uptoBulk {H : Type} : DataW H → Nat
  | .lit (.string bytes) => bytes.length + 1
  | .lit _ => 1
  | .nil => 1
  | .ptr d => uptoBulk d + 1
  | .slice elems spare => uptoBulkAll elems + uptoBulkAll spare + 1
  | .agg parts => uptoBulkAll parts + 1
  | .iface _ d => uptoBulk d + 1
  | .map entries => uptoBulkEntries entries + 1
  | .held _ => 1
def uptoBulkAll {H : Type} : List (DataW H) → Nat
  | [] => 0
  | d :: r => uptoBulk d + uptoBulkAll r
def uptoBulkEntries {H : Type} : List (Lit × DataW H) → Nat
  | [] => 0
  | x :: r => uptoBulkEntry x + uptoBulkEntries r
def uptoBulkEntry {H : Type} : Lit × DataW H → Nat
  | (.string bytes, d) => bytes.length + uptoBulk d + 1
  | (_, d) => uptoBulk d + 1
 end
def uptoSmall : (H : Type) → List (DataW H) → Bool := fun _ ds => decide (uptoBulkAll ds ≤ 1048576)
def OpenSpec.upto (s : _root_.Go.ChangeSpec) : _root_.Go.OpenSpec := { _root_.Go.OpenSpec.ofChange s with cond := some uptoSmall }

/-- 'headgatelaw38.RoundsKnown', WHERE WHAT IT READS IS OF BULK AT MOST 1048576: true; the input reads as it did. -/
def roundsKnownUptoRow : OpenClaim := { program := "ytccnbjlbbiachaa", sum := "ec6ee588cc08977ebc1ab3aac92f9b57b73593cb61765e72cb2011592fef9b37", func := "headgate/headgatelaw38.RoundsKnown", spec := "roundsKnown", unfollowed := true, recurses := true, apart := false, narrowed := true }
def RoundsKnownUptoSaid : Prop := roundsKnownUptoRow.holds Try.pinned (OpenSpec.upto roundsKnownSpec)

/-- 'headgatelaw38.RoundsChecks', WHERE WHAT IT READS IS OF BULK AT MOST 1048576: true; the input reads as it did. -/
def roundsChecksUptoRow : OpenClaim := { program := "ytccnbjlbbiachaa", sum := "ec6ee588cc08977ebc1ab3aac92f9b57b73593cb61765e72cb2011592fef9b37", func := "headgate/headgatelaw38.RoundsChecks", spec := "roundsChecks", unfollowed := true, recurses := true, apart := false, narrowed := true }
def RoundsChecksUptoSaid : Prop := roundsChecksUptoRow.holds Try.pinned (OpenSpec.upto roundsChecksSpec)

/-- 'headgatelaw38.RoundsPrefix', WHERE WHAT IT READS IS OF BULK AT MOST 1048576: true; the input reads as it did. -/
def roundsPrefixUptoRow : OpenClaim := { program := "ytccnbjlbbiachaa", sum := "ec6ee588cc08977ebc1ab3aac92f9b57b73593cb61765e72cb2011592fef9b37", func := "headgate/headgatelaw38.RoundsPrefix", spec := "roundsPrefix", unfollowed := true, recurses := true, apart := false, narrowed := true }
def RoundsPrefixUptoSaid : Prop := roundsPrefixUptoRow.holds Try.pinned (OpenSpec.upto roundsPrefixSpec)

/-- 'headgatelaw38.RoundsFair', WHERE WHAT IT READS IS OF BULK AT MOST 1048576: true; the input reads as it did. -/
def roundsFairUptoRow : OpenClaim := { program := "ytccnbjlbbiachaa", sum := "ec6ee588cc08977ebc1ab3aac92f9b57b73593cb61765e72cb2011592fef9b37", func := "headgate/headgatelaw38.RoundsFair", spec := "roundsFair", unfollowed := true, recurses := true, apart := false, narrowed := true }
def RoundsFairUptoSaid : Prop := roundsFairUptoRow.holds Try.pinned (OpenSpec.upto roundsFairSpec)

/-- 'headgatelaw38.RoundsCuts', WHERE WHAT IT READS IS OF BULK AT MOST 1048576: true; the input reads as it did. -/
def roundsCutsUptoRow : OpenClaim := { program := "ytccnbjlbbiachaa", sum := "ec6ee588cc08977ebc1ab3aac92f9b57b73593cb61765e72cb2011592fef9b37", func := "headgate/headgatelaw38.RoundsCuts", spec := "roundsCuts", unfollowed := true, recurses := true, apart := false, narrowed := true }
def RoundsCutsUptoSaid : Prop := roundsCutsUptoRow.holds Try.pinned (OpenSpec.upto roundsCutsSpec)

/-- 'headgatelaw38.RoundsAnew', WHERE WHAT IT READS IS OF BULK AT MOST 1048576: true; the input reads as it did. -/
def roundsAnewUptoRow : OpenClaim := { program := "ytccnbjlbbiachaa", sum := "ec6ee588cc08977ebc1ab3aac92f9b57b73593cb61765e72cb2011592fef9b37", func := "headgate/headgatelaw38.RoundsAnew", spec := "roundsAnew", unfollowed := true, recurses := true, apart := false, narrowed := true }
def RoundsAnewUptoSaid : Prop := roundsAnewUptoRow.holds Try.pinned (OpenSpec.upto roundsAnewSpec)

end Rows
end Go.Proofs.Ytccnbjlbbiachaa
