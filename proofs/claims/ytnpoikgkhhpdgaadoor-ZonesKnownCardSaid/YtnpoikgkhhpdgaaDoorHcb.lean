/-
  The codes of the functions for the heap machine, printed by a program; each is checked against the loaded function.
-/
import Derived.Test.YtnpoikgkhhpdgaaDoorHmT
import Derived.Test.YtnpoikgkhhpdgaaDoorProg
namespace Go.YtnpoikgkhhpdgaaDoorH
open Go.Proofs
def gl : List Nat := [0, 1]
/- 6: headgate/headgatelaw09.BuddyKnown -/
def h6 : Fn := { np := 0, res := [.t 0], body :=
 (.seq (.reg [⟨some 0, none, 0, 0, .mv (.k (.bool false))⟩])
 (.seq (.reg [⟨some 36, none, 0, 0, .call 38 [.k (.int .i64 0)]⟩,
  ⟨some 35, none, 0, 0, .mv (.t 36)⟩,
  ⟨some 37, none, 0, 0, .ext (.t 35) 0⟩,
  ⟨some 38, none, 0, 0, .ext (.t 35) 1⟩,
  ⟨some 1, none, 0, 0, .alloc [.int .i64 0, .nils]⟩,
  ⟨none, none, 0, 0, .store true 2 (.t 1) (.t 37)⟩,
  ⟨some 2, none, 0, 0, .mv (.t 38)⟩])
 (.seq (.reg [⟨some 40, none, 0, 0, .call 38 [.k (.int .i64 257)]⟩,
  ⟨some 39, none, 0, 0, .mv (.t 40)⟩,
  ⟨some 41, none, 0, 0, .ext (.t 39) 0⟩,
  ⟨some 42, none, 0, 0, .ext (.t 39) 1⟩,
  ⟨some 3, none, 0, 0, .alloc [.int .i64 0, .nils]⟩,
  ⟨none, none, 0, 0, .store true 2 (.t 3) (.t 41)⟩,
  ⟨some 4, none, 0, 0, .mv (.t 42)⟩])
 (.seq (.reg [⟨some 44, none, 0, 0, .call 39 []⟩,
  ⟨some 43, none, 0, 0, .mv (.t 44)⟩,
  ⟨some 45, none, 0, 0, .ext (.t 43) 0⟩,
  ⟨some 46, none, 0, 0, .ext (.t 43) 1⟩,
  ⟨some 5, none, 0, 0, .alloc [.int .i64 0, .nils]⟩,
  ⟨none, none, 0, 0, .store true 2 (.t 5) (.t 45)⟩,
  ⟨some 6, none, 0, 0, .mv (.t 46)⟩])
 (.seq (.reg [⟨some 48, none, 0, 0, .load true 2 (.t 5)⟩,
  ⟨some 49, none, 0, 0, .call 40 [.t 48, .k (.int .i64 10), .k (.int .i64 0)]⟩,
  ⟨some 47, none, 0, 0, .mv (.t 49)⟩,
  ⟨some 50, none, 0, 0, .ext (.t 47) 0⟩,
  ⟨some 51, none, 0, 0, .ext (.t 47) 1⟩,
  ⟨some 7, none, 0, 0, .alloc [.int .i64 0, .nils]⟩,
  ⟨none, none, 0, 0, .store true 2 (.t 7) (.t 50)⟩,
  ⟨some 8, none, 0, 0, .mv (.t 51)⟩])
 (.seq (.reg [⟨some 53, none, 0, 0, .load true 2 (.t 7)⟩,
  ⟨some 54, none, 0, 0, .call 40 [.t 53, .k (.int .i64 8), .k (.int .i64 0)]⟩,
  ⟨some 52, none, 0, 0, .mv (.t 54)⟩,
  ⟨some 55, none, 0, 0, .ext (.t 52) 0⟩,
  ⟨some 56, none, 0, 0, .ext (.t 52) 1⟩,
  ⟨some 9, none, 0, 0, .alloc [.int .i64 0, .nils]⟩,
  ⟨none, none, 0, 0, .store true 2 (.t 9) (.t 55)⟩,
  ⟨some 10, none, 0, 0, .mv (.t 56)⟩])
 (.seq (.reg [⟨some 58, none, 0, 0, .load true 2 (.t 9)⟩,
  ⟨some 59, none, 0, 0, .call 40 [.t 58, .k (.int .i64 0), .k (.int .i64 1)]⟩,
  ⟨some 57, none, 0, 0, .mv (.t 59)⟩,
  ⟨some 60, none, 0, 0, .ext (.t 57) 0⟩,
  ⟨some 61, none, 0, 0, .ext (.t 57) 1⟩,
  ⟨some 11, none, 0, 0, .alloc [.int .i64 0, .nils]⟩,
  ⟨none, none, 0, 0, .store true 2 (.t 11) (.t 60)⟩,
  ⟨some 12, none, 0, 0, .mv (.t 61)⟩])
 (.seq (.reg [⟨some 62, none, 0, 0, .mv (.t 6)⟩,
  ⟨some 63, none, 0, 0, .mv (.t 62)⟩,
  ⟨some 64, (some (63, true)), 0, 0, .mv (.t 8)⟩,
  ⟨some 65, (some (63, true)), 0, 0, .bin .eql (.t 64) (.k (.int .i64 0))⟩,
  ⟨some 66, none, 0, 0, .pick (.t 63) (.t 65) (.k (.bool false))⟩,
  ⟨some 67, none, 0, 0, .mv (.t 66)⟩,
  ⟨some 68, (some (67, true)), 0, 0, .mv (.t 10)⟩,
  ⟨some 69, (some (67, true)), 0, 0, .bin .eql (.t 68) (.k (.int .i64 0))⟩,
  ⟨some 70, none, 0, 0, .pick (.t 67) (.t 69) (.k (.bool false))⟩,
  ⟨some 71, none, 0, 0, .mv (.t 70)⟩,
  ⟨some 72, (some (71, true)), 0, 0, .mv (.t 12)⟩,
  ⟨some 73, (some (71, true)), 0, 0, .bin .eql (.t 72) (.k (.int .i64 0))⟩,
  ⟨some 74, none, 0, 0, .pick (.t 71) (.t 73) (.k (.bool false))⟩,
  ⟨some 75, none, 0, 0, .mv (.t 74)⟩,
  ⟨some 76, (some (75, true)), 0, 0, .load true 2 (.t 7)⟩,
  ⟨some 77, (some (75, true)), 0, 0, .bsl 1 [.int .i64 0] 8 [(0, .k (.int .i64 2)), (1, .k (.int .i64 1)), (2, .k (.int .i64 4)), (3, .k (.int .i64 2)), (4, .k (.int .i64 9)), (5, .k (.int .i64 0)), (6, .k (.int .i64 10)), (7, .k (.int .i64 0))]⟩,
  ⟨some 78, (some (75, true)), 0, 0, .call 41 [.t 76, .t 77]⟩,
  ⟨some 79, none, 0, 0, .pick (.t 75) (.t 78) (.k (.bool false))⟩,
  ⟨some 80, none, 0, 0, .mv (.t 79)⟩,
  ⟨some 81, (some (80, true)), 0, 0, .load true 2 (.t 11)⟩,
  ⟨some 82, (some (80, true)), 0, 0, .bsl 1 [.int .i64 0] 6 [(0, .k (.int .i64 0)), (1, .k (.int .i64 3)), (2, .k (.int .i64 8)), (3, .k (.int .i64 1)), (4, .k (.int .i64 10)), (5, .k (.int .i64 0))]⟩,
  ⟨some 83, (some (80, true)), 0, 0, .call 41 [.t 81, .t 82]⟩,
  ⟨some 84, none, 0, 0, .pick (.t 80) (.t 83) (.k (.bool false))⟩,
  ⟨some 13, none, 0, 0, .mv (.t 84)⟩])
 (.seq (.reg [⟨some 86, none, 0, 0, .call 42 []⟩,
  ⟨some 85, none, 0, 0, .mv (.t 86)⟩,
  ⟨some 87, none, 0, 0, .ext (.t 85) 0⟩,
  ⟨some 88, none, 0, 0, .ext (.t 85) 1⟩,
  ⟨some 14, none, 0, 0, .alloc [.int .i64 0, .nils]⟩,
  ⟨none, none, 0, 0, .store true 2 (.t 14) (.t 87)⟩,
  ⟨some 15, none, 0, 0, .mv (.t 88)⟩])
 (.seq (.reg [⟨some 90, none, 0, 0, .load true 2 (.t 14)⟩,
  ⟨some 91, none, 0, 0, .call 43 [.t 90]⟩,
  ⟨some 89, none, 0, 0, .mv (.t 91)⟩,
  ⟨some 92, none, 0, 0, .ext (.t 89) 0⟩,
  ⟨some 93, none, 0, 0, .ext (.t 89) 1⟩,
  ⟨some 16, none, 0, 0, .mv (.t 92)⟩,
  ⟨some 17, none, 0, 0, .mv (.t 93)⟩])
 (.seq (.reg [⟨some 95, none, 0, 0, .load true 2 (.t 14)⟩,
  ⟨some 96, none, 0, 0, .call 44 [.t 95, .k (.int .i64 4), .k (.int .i64 1)]⟩,
  ⟨some 94, none, 0, 0, .mv (.t 96)⟩,
  ⟨some 97, none, 0, 0, .ext (.t 94) 0⟩,
  ⟨some 98, none, 0, 0, .ext (.t 94) 1⟩,
  ⟨some 18, none, 0, 0, .alloc [.int .i64 0, .nils]⟩,
  ⟨none, none, 0, 0, .store true 2 (.t 18) (.t 97)⟩,
  ⟨some 19, none, 0, 0, .mv (.t 98)⟩])
 (.seq (.reg [⟨some 100, none, 0, 0, .load true 2 (.t 14)⟩,
  ⟨some 101, none, 0, 0, .call 44 [.t 100, .k (.int .i64 4), .k (.int .i64 0)]⟩,
  ⟨some 99, none, 0, 0, .mv (.t 101)⟩,
  ⟨some 102, none, 0, 0, .ext (.t 99) 0⟩,
  ⟨some 103, none, 0, 0, .ext (.t 99) 1⟩,
  ⟨some 20, none, 0, 0, .alloc [.int .i64 0, .nils]⟩,
  ⟨none, none, 0, 0, .store true 2 (.t 20) (.t 102)⟩,
  ⟨some 21, none, 0, 0, .mv (.t 103)⟩])
 (.seq (.reg [⟨some 104, none, 0, 0, .mv (.t 15)⟩,
  ⟨some 105, none, 0, 0, .mv (.t 104)⟩,
  ⟨some 106, (some (105, true)), 0, 0, .mv (.t 17)⟩,
  ⟨some 107, (some (105, true)), 0, 0, .bin .eql (.t 106) (.k (.int .i64 0))⟩,
  ⟨some 108, none, 0, 0, .pick (.t 105) (.t 107) (.k (.bool false))⟩,
  ⟨some 109, none, 0, 0, .mv (.t 108)⟩,
  ⟨some 110, (some (109, true)), 0, 0, .mv (.t 16)⟩,
  ⟨some 111, (some (109, true)), 0, 0, .bsl 1 [.int .i64 0] 7 [(0, .k (.int .i64 1)), (1, .k (.int .i64 1)), (2, .k (.int .i64 0)), (3, .k (.int .i64 1)), (4, .k (.int .i64 0)), (5, .k (.int .i64 0)), (6, .k (.int .i64 0))]⟩,
  ⟨some 112, (some (109, true)), 0, 0, .call 25 [.t 110, .t 111]⟩,
  ⟨some 113, none, 0, 0, .pick (.t 109) (.t 112) (.k (.bool false))⟩,
  ⟨some 114, none, 0, 0, .mv (.t 113)⟩,
  ⟨some 115, (some (114, true)), 0, 0, .mv (.t 19)⟩,
  ⟨some 116, (some (114, true)), 0, 0, .bin .eql (.t 115) (.k (.int .i64 0))⟩,
  ⟨some 117, none, 0, 0, .pick (.t 114) (.t 116) (.k (.bool false))⟩,
  ⟨some 118, none, 0, 0, .mv (.t 117)⟩,
  ⟨some 119, (some (118, true)), 0, 0, .load true 2 (.t 18)⟩,
  ⟨some 120, (some (118, true)), 0, 0, .bsl 1 [.int .i64 0] 8 [(0, .k (.int .i64 0)), (1, .k (.int .i64 2)), (2, .k (.int .i64 6)), (3, .k (.int .i64 1)), (4, .k (.int .i64 8)), (5, .k (.int .i64 1)), (6, .k (.int .i64 10)), (7, .k (.int .i64 0))]⟩,
  ⟨some 121, (some (118, true)), 0, 0, .call 41 [.t 119, .t 120]⟩,
  ⟨some 122, none, 0, 0, .pick (.t 118) (.t 121) (.k (.bool false))⟩,
  ⟨some 123, none, 0, 0, .mv (.t 122)⟩,
  ⟨some 124, (some (123, true)), 0, 0, .mv (.t 21)⟩,
  ⟨some 125, (some (123, true)), 0, 0, .bin .eql (.t 124) (.k (.int .i64 0))⟩,
  ⟨some 126, none, 0, 0, .pick (.t 123) (.t 125) (.k (.bool false))⟩,
  ⟨some 127, none, 0, 0, .mv (.t 126)⟩,
  ⟨some 128, (some (127, true)), 0, 0, .load true 2 (.t 20)⟩,
  ⟨some 129, (some (127, true)), 0, 0, .bsl 1 [.int .i64 0] 10 [(0, .k (.int .i64 0)), (1, .k (.int .i64 2)), (2, .k (.int .i64 5)), (3, .k (.int .i64 0)), (4, .k (.int .i64 6)), (5, .k (.int .i64 1)), (6, .k (.int .i64 8)), (7, .k (.int .i64 1)), (8, .k (.int .i64 10)), (9, .k (.int .i64 0))]⟩,
  ⟨some 130, (some (127, true)), 0, 0, .call 41 [.t 128, .t 129]⟩,
  ⟨some 131, none, 0, 0, .pick (.t 127) (.t 130) (.k (.bool false))⟩,
  ⟨some 22, none, 0, 0, .mv (.t 131)⟩])
 (.seq (.reg [⟨some 133, none, 0, 0, .load true 2 (.t 14)⟩,
  ⟨some 134, none, 0, 0, .call 40 [.t 133, .k (.int .i64 4), .k (.int .i64 0)]⟩,
  ⟨some 132, none, 0, 0, .mv (.t 134)⟩,
  ⟨some 135, none, 0, 0, .ext (.t 132) 0⟩,
  ⟨some 136, none, 0, 0, .ext (.t 132) 1⟩,
  ⟨some 23, none, 0, 0, .alloc [.int .i64 0, .nils]⟩,
  ⟨none, none, 0, 0, .store true 2 (.t 23) (.t 135)⟩,
  ⟨some 24, none, 0, 0, .mv (.t 136)⟩])
 (.seq (.reg [⟨some 138, none, 0, 0, .load true 2 (.t 14)⟩,
  ⟨some 139, none, 0, 0, .call 40 [.t 138, .k (.int .i64 3), .k (.int .i64 1)]⟩,
  ⟨some 137, none, 0, 0, .mv (.t 139)⟩,
  ⟨some 140, none, 0, 0, .ext (.t 137) 0⟩,
  ⟨some 141, none, 0, 0, .ext (.t 137) 1⟩,
  ⟨some 25, none, 0, 0, .alloc [.int .i64 0, .nils]⟩,
  ⟨none, none, 0, 0, .store true 2 (.t 25) (.t 140)⟩,
  ⟨some 26, none, 0, 0, .mv (.t 141)⟩])
 (.seq (.reg [⟨some 143, none, 0, 0, .load true 2 (.t 14)⟩,
  ⟨some 144, none, 0, 0, .call 44 [.t 143, .k (.int .i64 8), .k (.int .i64 2)]⟩,
  ⟨some 142, none, 0, 0, .mv (.t 144)⟩,
  ⟨some 145, none, 0, 0, .ext (.t 142) 0⟩,
  ⟨some 146, none, 0, 0, .ext (.t 142) 1⟩,
  ⟨some 27, none, 0, 0, .alloc [.int .i64 0, .nils]⟩,
  ⟨none, none, 0, 0, .store true 2 (.t 27) (.t 145)⟩,
  ⟨some 28, none, 0, 0, .mv (.t 146)⟩])
 (.seq (.reg [⟨some 148, none, 0, 0, .load true 2 (.t 14)⟩,
  ⟨some 149, none, 0, 0, .call 45 [.t 148, .k (.int .i64 4)]⟩,
  ⟨some 147, none, 0, 0, .mv (.t 149)⟩,
  ⟨some 150, none, 0, 0, .ext (.t 147) 0⟩,
  ⟨some 151, none, 0, 0, .ext (.t 147) 1⟩,
  ⟨some 152, none, 0, 0, .ext (.t 147) 2⟩,
  ⟨some 29, none, 0, 0, .alloc [.int .i64 0, .nils]⟩,
  ⟨none, none, 0, 0, .store true 2 (.t 29) (.t 150)⟩,
  ⟨some 30, none, 0, 0, .mv (.t 151)⟩,
  ⟨some 31, none, 0, 0, .mv (.t 152)⟩])
 (.seq (.reg [⟨some 154, none, 0, 0, .build [.int .i64 0, .int .i64 0] [(0, 1, .k (.int .i64 0)), (1, 1, .k (.int .i64 1))]⟩,
  ⟨some 155, none, 0, 0, .build [.int .i64 0, .int .i64 0] [(0, 1, .k (.int .i64 2)), (1, 1, .k (.int .i64 1))]⟩,
  ⟨some 156, none, 0, 0, .bsl 2 [.int .i64 0, .int .i64 0] 2 [(0, .t 154), (1, .t 155)]⟩,
  ⟨some 157, none, 0, 0, .build [.int .i64 0, .nils] [(0, 1, .k (.int .i64 11)), (1, 1, .t 156)]⟩,
  ⟨some 158, none, 0, 0, .call 46 [.t 157]⟩,
  ⟨some 153, none, 0, 0, .mv (.t 158)⟩,
  ⟨some 159, none, 0, 0, .ext (.t 153) 0⟩,
  ⟨some 160, none, 0, 0, .ext (.t 153) 1⟩,
  ⟨some 32, none, 0, 0, .mv (.t 159)⟩,
  ⟨some 33, none, 0, 0, .mv (.t 160)⟩])
 (.seq (.reg [⟨some 161, none, 0, 0, .mv (.t 24)⟩,
  ⟨some 162, none, 0, 0, .bin .eql (.t 161) (.k (.int .i64 7))⟩,
  ⟨some 163, none, 0, 0, .mv (.t 162)⟩,
  ⟨some 164, (some (163, true)), 0, 0, .mv (.t 26)⟩,
  ⟨some 165, (some (163, true)), 0, 0, .bin .eql (.t 164) (.k (.int .i64 13))⟩,
  ⟨some 166, none, 0, 0, .pick (.t 163) (.t 165) (.k (.bool false))⟩,
  ⟨some 167, none, 0, 0, .mv (.t 166)⟩,
  ⟨some 168, (some (167, true)), 0, 0, .mv (.t 28)⟩,
  ⟨some 169, (some (167, true)), 0, 0, .bin .eql (.t 168) (.k (.int .i64 2))⟩,
  ⟨some 170, none, 0, 0, .pick (.t 167) (.t 169) (.k (.bool false))⟩,
  ⟨some 171, none, 0, 0, .mv (.t 170)⟩,
  ⟨some 172, (some (171, true)), 0, 0, .mv (.t 31)⟩,
  ⟨some 173, (some (171, true)), 0, 0, .bin .eql (.t 172) (.k (.int .i64 5))⟩,
  ⟨some 174, none, 0, 0, .pick (.t 171) (.t 173) (.k (.bool false))⟩,
  ⟨some 175, none, 0, 0, .mv (.t 174)⟩,
  ⟨some 176, (some (175, true)), 0, 0, .mv (.t 32)⟩,
  ⟨some 177, (some (175, true)), 0, 0, .bin .eql (.t 176) (.k (.int .i64 7))⟩,
  ⟨some 178, none, 0, 0, .pick (.t 175) (.t 177) (.k (.bool false))⟩,
  ⟨some 179, none, 0, 0, .mv (.t 178)⟩,
  ⟨some 180, (some (179, true)), 0, 0, .mv (.t 33)⟩,
  ⟨some 181, (some (179, true)), 0, 0, .bin .eql (.t 180) (.k (.int .i64 1))⟩,
  ⟨some 182, none, 0, 0, .pick (.t 179) (.t 181) (.k (.bool false))⟩,
  ⟨some 34, none, 0, 0, .mv (.t 182)⟩])
 (.seq (.reg [⟨some 183, none, 0, 0, .call 47 []⟩,
  ⟨some 184, none, 0, 0, .mv (.t 183)⟩,
  ⟨some 185, (some (184, true)), 0, 0, .mv (.t 2)⟩,
  ⟨some 186, (some (184, true)), 0, 0, .bin .eql (.t 185) (.k (.int .i64 0))⟩,
  ⟨some 187, none, 0, 0, .pick (.t 184) (.t 186) (.k (.bool false))⟩,
  ⟨some 188, none, 0, 0, .mv (.t 187)⟩,
  ⟨some 189, (some (188, true)), 0, 0, .fadr 1 (.t 1)⟩,
  ⟨some 190, (some (188, true)), 0, 0, .load false 1 (.t 189)⟩,
  ⟨some 191, (some (188, true)), 0, 0, .len false (.t 190)⟩,
  ⟨some 192, (some (188, true)), 0, 0, .bin .eql (.t 191) (.k (.int .i64 0))⟩,
  ⟨some 193, none, 0, 0, .pick (.t 188) (.t 192) (.k (.bool false))⟩,
  ⟨some 194, none, 0, 0, .mv (.t 193)⟩,
  ⟨some 195, (some (194, true)), 0, 0, .mv (.t 4)⟩,
  ⟨some 196, (some (194, true)), 0, 0, .bin .eql (.t 195) (.k (.int .i64 2))⟩,
  ⟨some 197, none, 0, 0, .pick (.t 194) (.t 196) (.k (.bool false))⟩,
  ⟨some 198, none, 0, 0, .mv (.t 197)⟩,
  ⟨some 199, (some (198, true)), 0, 0, .mv (.t 13)⟩,
  ⟨some 200, none, 0, 0, .pick (.t 198) (.t 199) (.k (.bool false))⟩,
  ⟨some 201, none, 0, 0, .mv (.t 200)⟩,
  ⟨some 202, (some (201, true)), 0, 0, .mv (.t 22)⟩,
  ⟨some 203, none, 0, 0, .pick (.t 201) (.t 202) (.k (.bool false))⟩,
  ⟨some 204, none, 0, 0, .mv (.t 203)⟩,
  ⟨some 205, (some (204, true)), 0, 0, .mv (.t 34)⟩,
  ⟨some 206, none, 0, 0, .pick (.t 204) (.t 205) (.k (.bool false))⟩,
  ⟨some 207, none, 0, 0, .mv (.t 206)⟩,
  ⟨some 208, (some (207, true)), 0, 0, .call 48 [.k (.int .i64 1), .k (.int .i64 5)]⟩,
  ⟨some 209, none, 0, 0, .pick (.t 207) (.t 208) (.k (.bool false))⟩,
  ⟨some 210, none, 0, 0, .mv (.t 209)⟩,
  ⟨some 211, (some (210, true)), 0, 0, .call 48 [.k (.int .i64 2), .k (.int .i64 2)]⟩,
  ⟨some 212, none, 0, 0, .pick (.t 210) (.t 211) (.k (.bool false))⟩,
  ⟨some 213, none, 0, 0, .mv (.t 212)⟩,
  ⟨some 214, (some (213, true)), 0, 0, .call 48 [.k (.int .i64 3), .k (.int .i64 1)]⟩,
  ⟨some 215, none, 0, 0, .pick (.t 213) (.t 214) (.k (.bool false))⟩,
  ⟨some 216, none, 0, 0, .mv (.t 215)⟩,
  ⟨some 217, (some (216, true)), 0, 0, .call 48 [.k (.int .i64 4), .k (.int .i64 0)]⟩,
  ⟨some 218, none, 0, 0, .pick (.t 216) (.t 217) (.k (.bool false))⟩,
  ⟨some 0, none, 0, 0, .mv (.t 218)⟩])
 .ret)))))))))))))))))))) }
theorem ok6 : okFun Tryd.prog gl 6 h6 = true := by kernel_rfl
/- 16: headgate/headgatelaw11.ZonesKnown -/
def h16l0 : C := (.keep [1, 14, 15, 16] (.seq (.seq (.reg [⟨some 86, none, 0, 0, .mv (.t 16)⟩,
  ⟨some 87, none, 0, 0, .mv (.t 15)⟩,
  ⟨some 88, none, 0, 0, .len false (.t 87)⟩,
  ⟨some 89, none, 0, 0, .bin .lss (.t 86) (.t 88)⟩])
 (.cond (.t 89)
 .skip
 (.exit 0)))
 (.seq (.block 1 (.seq (.reg [⟨some 93, none, 0, 0, .load true 2 (.t 14)⟩,
  ⟨some 94, none, 0, 0, .call 20 [.t 93, .k (.int .i64 0), .k (.int .i64 1)]⟩,
  ⟨some 92, none, 0, 0, .mv (.t 94)⟩,
  ⟨some 95, none, 0, 0, .ext (.t 92) 0⟩,
  ⟨some 96, none, 0, 0, .ext (.t 92) 1⟩,
  ⟨some 97, none, 0, 0, .ext (.t 92) 2⟩,
  ⟨some 17, none, 0, 0, .alloc [.int .i64 0, .nils]⟩,
  ⟨none, none, 0, 0, .store true 2 (.t 17) (.t 95)⟩,
  ⟨some 18, none, 0, 0, .mv (.t 96)⟩,
  ⟨some 19, none, 0, 0, .mv (.t 97)⟩])
 (.seq (.seq (.reg [⟨some 98, none, 0, 0, .mv (.t 18)⟩,
  ⟨some 99, none, 0, 0, .mv (.t 15)⟩,
  ⟨some 100, none, 0, 0, .mv (.t 16)⟩,
  ⟨some 101, none, 0, 0, .iadr 1 (.t 99) (.t 100)⟩,
  ⟨some 102, none, 0, 0, .load false 1 (.t 101)⟩,
  ⟨some 103, none, 0, 0, .bin .neq (.t 98) (.t 102)⟩,
  ⟨some 104, none, 0, 0, .mv (.t 103)⟩,
  ⟨some 105, (some (104, false)), 0, 0, .mv (.t 19)⟩,
  ⟨some 106, (some (104, false)), 0, 0, .bin .neq (.t 105) (.k (.int .i64 0))⟩,
  ⟨some 107, none, 0, 0, .pick (.t 104) (.k (.bool true)) (.t 106)⟩])
 (.cond (.t 107)
 (.seq (.reg [⟨some 0, none, 0, 0, .mv (.k (.bool false))⟩])
 .ret)
 .skip))
 (.reg [⟨some 108, none, 0, 0, .load true 2 (.t 17)⟩,
  ⟨none, none, 0, 0, .store true 2 (.t 14) (.t 108)⟩]))))
 (.reg [⟨some 90, none, 0, 0, .mv (.t 16)⟩,
  ⟨some 91, none, 0, 0, .bin .add (.t 90) (.k (.int .i64 1))⟩,
  ⟨some 16, none, 0, 0, .mv (.t 91)⟩]))))
def h16 : Fn := { np := 0, res := [.t 0], body :=
 (.seq (.reg [⟨some 0, none, 0, 0, .mv (.k (.bool false))⟩])
 (.seq (.reg [⟨some 32, none, 0, 0, .call 73 []⟩,
  ⟨some 31, none, 0, 0, .mv (.t 32)⟩,
  ⟨some 33, none, 0, 0, .ext (.t 31) 0⟩,
  ⟨some 34, none, 0, 0, .ext (.t 31) 1⟩,
  ⟨some 1, none, 0, 0, .alloc [.int .i64 0, .nils]⟩,
  ⟨none, none, 0, 0, .store true 2 (.t 1) (.t 33)⟩,
  ⟨some 2, none, 0, 0, .mv (.t 34)⟩])
 (.seq (.reg [⟨some 36, none, 0, 0, .load true 2 (.t 1)⟩,
  ⟨some 37, none, 0, 0, .call 34 [.t 36]⟩,
  ⟨some 35, none, 0, 0, .mv (.t 37)⟩,
  ⟨some 38, none, 0, 0, .ext (.t 35) 0⟩,
  ⟨some 39, none, 0, 0, .ext (.t 35) 1⟩,
  ⟨some 3, none, 0, 0, .mv (.t 38)⟩,
  ⟨some 4, none, 0, 0, .mv (.t 39)⟩])
 (.seq (.reg [⟨some 41, none, 0, 0, .load true 2 (.t 1)⟩,
  ⟨some 42, none, 0, 0, .call 20 [.t 41, .k (.int .i64 2), .k (.int .i64 1)]⟩,
  ⟨some 40, none, 0, 0, .mv (.t 42)⟩,
  ⟨some 43, none, 0, 0, .ext (.t 40) 0⟩,
  ⟨some 44, none, 0, 0, .ext (.t 40) 1⟩,
  ⟨some 45, none, 0, 0, .ext (.t 40) 2⟩,
  ⟨some 5, none, 0, 0, .alloc [.int .i64 0, .nils]⟩,
  ⟨none, none, 0, 0, .store true 2 (.t 5) (.t 43)⟩,
  ⟨some 6, none, 0, 0, .mv (.t 44)⟩,
  ⟨some 7, none, 0, 0, .mv (.t 45)⟩])
 (.seq (.reg [⟨some 47, none, 0, 0, .load true 2 (.t 5)⟩,
  ⟨some 48, none, 0, 0, .call 20 [.t 47, .k (.int .i64 3), .k (.int .i64 1)]⟩,
  ⟨some 46, none, 0, 0, .mv (.t 48)⟩,
  ⟨some 49, none, 0, 0, .ext (.t 46) 0⟩,
  ⟨some 50, none, 0, 0, .ext (.t 46) 1⟩,
  ⟨some 51, none, 0, 0, .ext (.t 46) 2⟩,
  ⟨some 8, none, 0, 0, .alloc [.int .i64 0, .nils]⟩,
  ⟨none, none, 0, 0, .store true 2 (.t 8) (.t 49)⟩,
  ⟨some 9, none, 0, 0, .mv (.t 50)⟩,
  ⟨some 10, none, 0, 0, .mv (.t 51)⟩])
 (.seq (.reg [⟨some 53, none, 0, 0, .load true 2 (.t 8)⟩,
  ⟨some 54, none, 0, 0, .call 20 [.t 53, .k (.int .i64 4), .k (.int .i64 0)]⟩,
  ⟨some 52, none, 0, 0, .mv (.t 54)⟩,
  ⟨some 55, none, 0, 0, .ext (.t 52) 0⟩,
  ⟨some 56, none, 0, 0, .ext (.t 52) 1⟩,
  ⟨some 57, none, 0, 0, .ext (.t 52) 2⟩,
  ⟨some 11, none, 0, 0, .alloc [.int .i64 0, .nils]⟩,
  ⟨none, none, 0, 0, .store true 2 (.t 11) (.t 55)⟩,
  ⟨some 12, none, 0, 0, .mv (.t 56)⟩,
  ⟨some 13, none, 0, 0, .mv (.t 57)⟩])
 (.seq (.seq (.reg [⟨some 58, none, 0, 0, .mv (.t 2)⟩,
  ⟨some 59, none, 0, 0, .un .not (.t 58)⟩,
  ⟨some 60, none, 0, 0, .mv (.t 59)⟩,
  ⟨some 61, (some (60, false)), 0, 0, .mv (.t 3)⟩,
  ⟨some 62, (some (60, false)), 0, 0, .bin .neq (.t 61) (.k (.int .i64 12))⟩,
  ⟨some 63, none, 0, 0, .pick (.t 60) (.k (.bool true)) (.t 62)⟩,
  ⟨some 64, none, 0, 0, .mv (.t 63)⟩,
  ⟨some 65, (some (64, false)), 0, 0, .mv (.t 4)⟩,
  ⟨some 66, (some (64, false)), 0, 0, .bin .neq (.t 65) (.k (.int .i64 0))⟩,
  ⟨some 67, none, 0, 0, .pick (.t 64) (.k (.bool true)) (.t 66)⟩,
  ⟨some 68, none, 0, 0, .mv (.t 67)⟩,
  ⟨some 69, (some (68, false)), 0, 0, .mv (.t 7)⟩,
  ⟨some 70, (some (68, false)), 0, 0, .bin .neq (.t 69) (.k (.int .i64 0))⟩,
  ⟨some 71, none, 0, 0, .pick (.t 68) (.k (.bool true)) (.t 70)⟩,
  ⟨some 72, none, 0, 0, .mv (.t 71)⟩,
  ⟨some 73, (some (72, false)), 0, 0, .mv (.t 9)⟩,
  ⟨some 74, (some (72, false)), 0, 0, .bin .neq (.t 73) (.k (.int .i64 0))⟩,
  ⟨some 75, none, 0, 0, .pick (.t 72) (.k (.bool true)) (.t 74)⟩,
  ⟨some 76, none, 0, 0, .mv (.t 75)⟩,
  ⟨some 77, (some (76, false)), 0, 0, .mv (.t 10)⟩,
  ⟨some 78, (some (76, false)), 0, 0, .bin .neq (.t 77) (.k (.int .i64 0))⟩,
  ⟨some 79, none, 0, 0, .pick (.t 76) (.k (.bool true)) (.t 78)⟩,
  ⟨some 80, none, 0, 0, .mv (.t 79)⟩,
  ⟨some 81, (some (80, false)), 0, 0, .mv (.t 13)⟩,
  ⟨some 82, (some (80, false)), 0, 0, .bin .neq (.t 81) (.k (.int .i64 5))⟩,
  ⟨some 83, none, 0, 0, .pick (.t 80) (.k (.bool true)) (.t 82)⟩])
 (.cond (.t 83)
 (.seq (.reg [⟨some 0, none, 0, 0, .mv (.k (.bool false))⟩])
 .ret)
 .skip))
 (.seq (.reg [⟨some 84, none, 0, 0, .load true 2 (.t 1)⟩,
  ⟨some 14, none, 0, 0, .alloc [.int .i64 0, .nils]⟩,
  ⟨none, none, 0, 0, .store true 2 (.t 14) (.t 84)⟩])
 (.seq (.reg [⟨some 85, none, 0, 0, .bsl 1 [.int .i64 0] 6 [(0, .k (.int .i64 8)), (1, .k (.int .i64 9)), (2, .k (.int .i64 10)), (3, .k (.int .i64 11)), (4, .k (.int .i64 0)), (5, .k (.int .i64 1))]⟩,
  ⟨some 15, none, 0, 0, .mv (.t 85)⟩])
 (.seq (.seq (.reg [⟨some 16, none, 0, 0, .mv (.k (.int .i64 0))⟩])
 (.block 0 (.loop h16l0)))
 (.seq (.reg [⟨some 110, none, 0, 0, .load true 2 (.t 1)⟩,
  ⟨some 111, none, 0, 0, .call 71 [.t 110, .k (.int .i64 9), .k (.int .i64 0)]⟩,
  ⟨some 109, none, 0, 0, .mv (.t 111)⟩,
  ⟨some 112, none, 0, 0, .ext (.t 109) 0⟩,
  ⟨some 113, none, 0, 0, .ext (.t 109) 1⟩,
  ⟨some 4, none, 0, 0, .mv (.t 113)⟩])
 (.seq (.reg [⟨some 115, none, 0, 0, .load true 2 (.t 1)⟩,
  ⟨some 116, none, 0, 0, .call 71 [.t 115, .k (.int .i64 5), .k (.int .i64 1)]⟩,
  ⟨some 114, none, 0, 0, .mv (.t 116)⟩,
  ⟨some 117, none, 0, 0, .ext (.t 114) 0⟩,
  ⟨some 118, none, 0, 0, .ext (.t 114) 1⟩,
  ⟨some 7, none, 0, 0, .mv (.t 118)⟩])
 (.seq (.reg [⟨some 120, none, 0, 0, .load true 2 (.t 1)⟩,
  ⟨some 121, none, 0, 0, .call 32 [.t 120, .k (.int .i64 9)]⟩,
  ⟨some 119, none, 0, 0, .mv (.t 121)⟩,
  ⟨some 122, none, 0, 0, .ext (.t 119) 0⟩,
  ⟨some 123, none, 0, 0, .ext (.t 119) 1⟩,
  ⟨some 2, none, 0, 0, .mv (.t 122)⟩,
  ⟨some 10, none, 0, 0, .mv (.t 123)⟩])
 (.seq (.reg [⟨some 125, none, 0, 0, .load true 2 (.t 1)⟩,
  ⟨some 126, none, 0, 0, .call 71 [.t 125, .k (.int .i64 7), .k (.int .i64 1)]⟩,
  ⟨some 124, none, 0, 0, .mv (.t 126)⟩,
  ⟨some 127, none, 0, 0, .ext (.t 124) 0⟩,
  ⟨some 128, none, 0, 0, .ext (.t 124) 1⟩,
  ⟨some 13, none, 0, 0, .mv (.t 128)⟩])
 (.seq (.seq (.reg [⟨some 129, none, 0, 0, .mv (.t 13)⟩,
  ⟨some 130, none, 0, 0, .bin .neq (.t 129) (.k (.int .i64 2))⟩,
  ⟨some 131, none, 0, 0, .mv (.t 130)⟩,
  ⟨some 132, (some (131, false)), 0, 0, .mv (.t 4)⟩,
  ⟨some 133, (some (131, false)), 0, 0, .bin .neq (.t 132) (.k (.int .i64 7))⟩,
  ⟨some 134, none, 0, 0, .pick (.t 131) (.k (.bool true)) (.t 133)⟩,
  ⟨some 135, none, 0, 0, .mv (.t 134)⟩,
  ⟨some 136, (some (135, false)), 0, 0, .mv (.t 7)⟩,
  ⟨some 137, (some (135, false)), 0, 0, .bin .neq (.t 136) (.k (.int .i64 13))⟩,
  ⟨some 138, none, 0, 0, .pick (.t 135) (.k (.bool true)) (.t 137)⟩,
  ⟨some 139, none, 0, 0, .mv (.t 138)⟩,
  ⟨some 140, (some (139, false)), 0, 0, .mv (.t 2)⟩,
  ⟨some 141, (some (139, false)), 0, 0, .un .not (.t 140)⟩,
  ⟨some 142, none, 0, 0, .pick (.t 139) (.k (.bool true)) (.t 141)⟩,
  ⟨some 143, none, 0, 0, .mv (.t 142)⟩,
  ⟨some 144, (some (143, false)), 0, 0, .mv (.t 10)⟩,
  ⟨some 145, (some (143, false)), 0, 0, .bin .neq (.t 144) (.k (.int .i64 0))⟩,
  ⟨some 146, none, 0, 0, .pick (.t 143) (.k (.bool true)) (.t 145)⟩])
 (.cond (.t 146)
 (.seq (.reg [⟨some 0, none, 0, 0, .mv (.k (.bool false))⟩])
 .ret)
 .skip))
 (.seq (.reg [⟨some 148, none, 0, 0, .load true 2 (.t 1)⟩,
  ⟨some 149, none, 0, 0, .call 30 [.t 148, .k (.int .i64 7)]⟩,
  ⟨some 147, none, 0, 0, .mv (.t 149)⟩,
  ⟨some 150, none, 0, 0, .ext (.t 147) 0⟩,
  ⟨some 151, none, 0, 0, .ext (.t 147) 1⟩,
  ⟨some 20, none, 0, 0, .mv (.t 150)⟩,
  ⟨some 4, none, 0, 0, .mv (.t 151)⟩])
 (.seq (.reg [⟨some 153, none, 0, 0, .load true 2 (.t 1)⟩,
  ⟨some 154, none, 0, 0, .call 30 [.t 153, .k (.int .i64 8)]⟩,
  ⟨some 152, none, 0, 0, .mv (.t 154)⟩,
  ⟨some 155, none, 0, 0, .ext (.t 152) 0⟩,
  ⟨some 156, none, 0, 0, .ext (.t 152) 1⟩,
  ⟨some 21, none, 0, 0, .mv (.t 155)⟩,
  ⟨some 7, none, 0, 0, .mv (.t 156)⟩])
 (.seq (.reg [⟨some 158, none, 0, 0, .load true 2 (.t 1)⟩,
  ⟨some 159, none, 0, 0, .call 30 [.t 158, .k (.int .i64 12)]⟩,
  ⟨some 157, none, 0, 0, .mv (.t 159)⟩,
  ⟨some 160, none, 0, 0, .ext (.t 157) 0⟩,
  ⟨some 161, none, 0, 0, .ext (.t 157) 1⟩,
  ⟨some 10, none, 0, 0, .mv (.t 161)⟩])
 (.seq (.reg [⟨some 163, none, 0, 0, .load true 2 (.t 1)⟩,
  ⟨some 164, none, 0, 0, .call 23 [.t 163, .k (.int .i64 5), .k (.int .i64 1)]⟩,
  ⟨some 162, none, 0, 0, .mv (.t 164)⟩,
  ⟨some 165, none, 0, 0, .ext (.t 162) 0⟩,
  ⟨some 166, none, 0, 0, .ext (.t 162) 1⟩,
  ⟨some 167, none, 0, 0, .ext (.t 162) 2⟩,
  ⟨some 22, none, 0, 0, .alloc [.int .i64 0, .nils]⟩,
  ⟨none, none, 0, 0, .store true 2 (.t 22) (.t 165)⟩,
  ⟨some 23, none, 0, 0, .mv (.t 166)⟩,
  ⟨some 13, none, 0, 0, .mv (.t 167)⟩])
 (.seq (.reg [⟨some 169, none, 0, 0, .load true 2 (.t 1)⟩,
  ⟨some 170, none, 0, 0, .call 23 [.t 169, .k (.int .i64 13), .k (.int .i64 0)]⟩,
  ⟨some 168, none, 0, 0, .mv (.t 170)⟩,
  ⟨some 171, none, 0, 0, .ext (.t 168) 0⟩,
  ⟨some 172, none, 0, 0, .ext (.t 168) 1⟩,
  ⟨some 173, none, 0, 0, .ext (.t 168) 2⟩,
  ⟨some 24, none, 0, 0, .alloc [.int .i64 0, .nils]⟩,
  ⟨none, none, 0, 0, .store true 2 (.t 24) (.t 171)⟩,
  ⟨some 25, none, 0, 0, .mv (.t 172)⟩,
  ⟨some 26, none, 0, 0, .mv (.t 173)⟩])
 (.seq (.reg [⟨some 175, none, 0, 0, .load true 2 (.t 1)⟩,
  ⟨some 176, none, 0, 0, .call 23 [.t 175, .k (.int .i64 0), .k (.int .i64 0)]⟩,
  ⟨some 174, none, 0, 0, .mv (.t 176)⟩,
  ⟨some 177, none, 0, 0, .ext (.t 174) 0⟩,
  ⟨some 178, none, 0, 0, .ext (.t 174) 1⟩,
  ⟨some 179, none, 0, 0, .ext (.t 174) 2⟩,
  ⟨some 27, none, 0, 0, .alloc [.int .i64 0, .nils]⟩,
  ⟨none, none, 0, 0, .store true 2 (.t 27) (.t 177)⟩,
  ⟨some 28, none, 0, 0, .mv (.t 178)⟩,
  ⟨some 29, none, 0, 0, .mv (.t 179)⟩])
 (.seq (.seq (.reg [⟨some 180, none, 0, 0, .mv (.t 20)⟩,
  ⟨some 181, none, 0, 0, .bin .neq (.t 180) (.k (.int .i64 0))⟩,
  ⟨some 182, none, 0, 0, .mv (.t 181)⟩,
  ⟨some 183, (some (182, false)), 0, 0, .mv (.t 21)⟩,
  ⟨some 184, (some (182, false)), 0, 0, .bin .neq (.t 183) (.k (.int .i64 1))⟩,
  ⟨some 185, none, 0, 0, .pick (.t 182) (.k (.bool true)) (.t 184)⟩,
  ⟨some 186, none, 0, 0, .mv (.t 185)⟩,
  ⟨some 187, (some (186, false)), 0, 0, .mv (.t 4)⟩,
  ⟨some 188, (some (186, false)), 0, 0, .bin .neq (.t 187) (.k (.int .i64 0))⟩,
  ⟨some 189, none, 0, 0, .pick (.t 186) (.k (.bool true)) (.t 188)⟩,
  ⟨some 190, none, 0, 0, .mv (.t 189)⟩,
  ⟨some 191, (some (190, false)), 0, 0, .mv (.t 7)⟩,
  ⟨some 192, (some (190, false)), 0, 0, .bin .neq (.t 191) (.k (.int .i64 0))⟩,
  ⟨some 193, none, 0, 0, .pick (.t 190) (.k (.bool true)) (.t 192)⟩,
  ⟨some 194, none, 0, 0, .mv (.t 193)⟩,
  ⟨some 195, (some (194, false)), 0, 0, .mv (.t 10)⟩,
  ⟨some 196, (some (194, false)), 0, 0, .bin .neq (.t 195) (.k (.int .i64 2))⟩,
  ⟨some 197, none, 0, 0, .pick (.t 194) (.k (.bool true)) (.t 196)⟩,
  ⟨some 198, none, 0, 0, .mv (.t 197)⟩,
  ⟨some 199, (some (198, false)), 0, 0, .mv (.t 23)⟩,
  ⟨some 200, (some (198, false)), 0, 0, .bsl 1 [.int .i64 0] 5 [(0, .k (.int .i64 8)), (1, .k (.int .i64 9)), (2, .k (.int .i64 10)), (3, .k (.int .i64 11)), (4, .k (.int .i64 0))]⟩,
  ⟨some 201, (some (198, false)), 0, 0, .call 25 [.t 199, .t 200]⟩,
  ⟨some 202, (some (198, false)), 0, 0, .un .not (.t 201)⟩,
  ⟨some 203, none, 0, 0, .pick (.t 198) (.k (.bool true)) (.t 202)⟩,
  ⟨some 204, none, 0, 0, .mv (.t 203)⟩,
  ⟨some 205, (some (204, false)), 0, 0, .mv (.t 13)⟩,
  ⟨some 206, (some (204, false)), 0, 0, .bin .neq (.t 205) (.k (.int .i64 0))⟩,
  ⟨some 207, none, 0, 0, .pick (.t 204) (.k (.bool true)) (.t 206)⟩,
  ⟨some 208, none, 0, 0, .mv (.t 207)⟩,
  ⟨some 209, (some (208, false)), 0, 0, .mv (.t 26)⟩,
  ⟨some 210, (some (208, false)), 0, 0, .bin .neq (.t 209) (.k (.int .i64 5))⟩,
  ⟨some 211, none, 0, 0, .pick (.t 208) (.k (.bool true)) (.t 210)⟩,
  ⟨some 212, none, 0, 0, .mv (.t 211)⟩,
  ⟨some 213, (some (212, false)), 0, 0, .mv (.t 28)⟩,
  ⟨some 214, (some (212, false)), 0, 0, .len false (.t 213)⟩,
  ⟨some 215, (some (212, false)), 0, 0, .bin .neq (.t 214) (.k (.int .i64 0))⟩,
  ⟨some 216, none, 0, 0, .pick (.t 212) (.k (.bool true)) (.t 215)⟩,
  ⟨some 217, none, 0, 0, .mv (.t 216)⟩,
  ⟨some 218, (some (217, false)), 0, 0, .mv (.t 29)⟩,
  ⟨some 219, (some (217, false)), 0, 0, .bin .neq (.t 218) (.k (.int .i64 0))⟩,
  ⟨some 220, none, 0, 0, .pick (.t 217) (.k (.bool true)) (.t 219)⟩])
 (.cond (.t 220)
 (.seq (.reg [⟨some 0, none, 0, 0, .mv (.k (.bool false))⟩])
 .ret)
 .skip))
 (.seq (.reg [⟨some 222, none, 0, 0, .call 26 [.k (.int .i64 12), .k (.int .i64 12)]⟩,
  ⟨some 221, none, 0, 0, .mv (.t 222)⟩,
  ⟨some 223, none, 0, 0, .ext (.t 221) 0⟩,
  ⟨some 224, none, 0, 0, .ext (.t 221) 1⟩,
  ⟨some 30, none, 0, 0, .alloc [.int .i64 0, .nils]⟩,
  ⟨none, none, 0, 0, .store true 2 (.t 30) (.t 223)⟩,
  ⟨some 4, none, 0, 0, .mv (.t 224)⟩])
 (.seq (.reg [⟨some 226, none, 0, 0, .load true 2 (.t 30)⟩,
  ⟨some 227, none, 0, 0, .call 36 [.t 226]⟩,
  ⟨some 225, none, 0, 0, .mv (.t 227)⟩,
  ⟨some 228, none, 0, 0, .ext (.t 225) 0⟩,
  ⟨some 229, none, 0, 0, .ext (.t 225) 1⟩,
  ⟨some 23, none, 0, 0, .mv (.t 228)⟩,
  ⟨some 7, none, 0, 0, .mv (.t 229)⟩])
 (.seq (.reg [⟨some 231, none, 0, 0, .load true 2 (.t 30)⟩,
  ⟨some 232, none, 0, 0, .call 20 [.t 231, .k (.int .i64 0), .k (.int .i64 1)]⟩,
  ⟨some 230, none, 0, 0, .mv (.t 232)⟩,
  ⟨some 233, none, 0, 0, .ext (.t 230) 0⟩,
  ⟨some 234, none, 0, 0, .ext (.t 230) 1⟩,
  ⟨some 235, none, 0, 0, .ext (.t 230) 2⟩,
  ⟨some 9, none, 0, 0, .mv (.t 234)⟩,
  ⟨some 10, none, 0, 0, .mv (.t 235)⟩])
 (.seq (.reg [⟨some 236, none, 0, 0, .mv (.t 4)⟩,
  ⟨some 237, none, 0, 0, .bin .eql (.t 236) (.k (.int .i64 0))⟩,
  ⟨some 238, none, 0, 0, .mv (.t 237)⟩,
  ⟨some 239, (some (238, true)), 0, 0, .mv (.t 7)⟩,
  ⟨some 240, (some (238, true)), 0, 0, .bin .eql (.t 239) (.k (.int .i64 0))⟩,
  ⟨some 241, none, 0, 0, .pick (.t 238) (.t 240) (.k (.bool false))⟩,
  ⟨some 242, none, 0, 0, .mv (.t 241)⟩,
  ⟨some 243, (some (242, true)), 0, 0, .mv (.t 10)⟩,
  ⟨some 244, (some (242, true)), 0, 0, .bin .eql (.t 243) (.k (.int .i64 0))⟩,
  ⟨some 245, none, 0, 0, .pick (.t 242) (.t 244) (.k (.bool false))⟩,
  ⟨some 246, none, 0, 0, .mv (.t 245)⟩,
  ⟨some 247, (some (246, true)), 0, 0, .mv (.t 9)⟩,
  ⟨some 248, (some (246, true)), 0, 0, .bin .eql (.t 247) (.k (.int .i64 8))⟩,
  ⟨some 249, none, 0, 0, .pick (.t 246) (.t 248) (.k (.bool false))⟩,
  ⟨some 250, none, 0, 0, .mv (.t 249)⟩,
  ⟨some 251, (some (250, true)), 0, 0, .mv (.t 23)⟩,
  ⟨some 252, (some (250, true)), 0, 0, .bsl 1 [.int .i64 0] 2 [(0, .k (.int .i64 12)), (1, .k (.int .i64 0))]⟩,
  ⟨some 253, (some (250, true)), 0, 0, .call 25 [.t 251, .t 252]⟩,
  ⟨some 254, none, 0, 0, .pick (.t 250) (.t 253) (.k (.bool false))⟩,
  ⟨some 255, none, 0, 0, .mv (.t 254)⟩,
  ⟨some 256, (some (255, true)), 0, 0, .call 18 []⟩,
  ⟨some 257, none, 0, 0, .pick (.t 255) (.t 256) (.k (.bool false))⟩,
  ⟨some 0, none, 0, 0, .mv (.t 257)⟩])
 .ret)))))))))))))))))))))))))) }
theorem ok16 : okFun Tryd.prog gl 16 h16 = true := by kernel_rfl
/- 18: headgate/headgatelaw11.awake -/
def h18 : Fn := { np := 0, res := [.t 0], body :=
 (.seq (.reg [⟨some 0, none, 0, 0, .mv (.k (.bool false))⟩])
 (.seq (.reg [⟨some 9, none, 0, 0, .call 73 []⟩,
  ⟨some 8, none, 0, 0, .mv (.t 9)⟩,
  ⟨some 10, none, 0, 0, .ext (.t 8) 0⟩,
  ⟨some 11, none, 0, 0, .ext (.t 8) 1⟩,
  ⟨some 1, none, 0, 0, .alloc [.int .i64 0, .nils]⟩,
  ⟨none, none, 0, 0, .store true 2 (.t 1) (.t 10)⟩,
  ⟨some 2, none, 0, 0, .mv (.t 11)⟩])
 (.seq (.reg [⟨some 13, none, 0, 0, .load true 2 (.t 1)⟩,
  ⟨some 14, none, 0, 0, .call 36 [.t 13]⟩,
  ⟨some 12, none, 0, 0, .mv (.t 14)⟩,
  ⟨some 15, none, 0, 0, .ext (.t 12) 0⟩,
  ⟨some 16, none, 0, 0, .ext (.t 12) 1⟩,
  ⟨some 3, none, 0, 0, .mv (.t 15)⟩,
  ⟨some 4, none, 0, 0, .mv (.t 16)⟩])
 (.seq (.reg [⟨some 18, none, 0, 0, .load true 2 (.t 1)⟩,
  ⟨some 19, none, 0, 0, .call 20 [.t 18, .k (.int .i64 2), .k (.int .i64 1)]⟩,
  ⟨some 17, none, 0, 0, .mv (.t 19)⟩,
  ⟨some 20, none, 0, 0, .ext (.t 17) 0⟩,
  ⟨some 21, none, 0, 0, .ext (.t 17) 1⟩,
  ⟨some 22, none, 0, 0, .ext (.t 17) 2⟩,
  ⟨some 5, none, 0, 0, .alloc [.int .i64 0, .nils]⟩,
  ⟨none, none, 0, 0, .store true 2 (.t 5) (.t 20)⟩,
  ⟨some 6, none, 0, 0, .mv (.t 21)⟩,
  ⟨some 7, none, 0, 0, .mv (.t 22)⟩])
 (.seq (.reg [⟨some 23, none, 0, 0, .mv (.t 2)⟩,
  ⟨some 24, none, 0, 0, .mv (.t 23)⟩,
  ⟨some 25, (some (24, true)), 0, 0, .mv (.t 4)⟩,
  ⟨some 26, (some (24, true)), 0, 0, .bin .eql (.t 25) (.k (.int .i64 0))⟩,
  ⟨some 27, none, 0, 0, .pick (.t 24) (.t 26) (.k (.bool false))⟩,
  ⟨some 28, none, 0, 0, .mv (.t 27)⟩,
  ⟨some 29, (some (28, true)), 0, 0, .mv (.t 7)⟩,
  ⟨some 30, (some (28, true)), 0, 0, .bin .eql (.t 29) (.k (.int .i64 0))⟩,
  ⟨some 31, none, 0, 0, .pick (.t 28) (.t 30) (.k (.bool false))⟩,
  ⟨some 32, none, 0, 0, .mv (.t 31)⟩,
  ⟨some 33, (some (32, true)), 0, 0, .mv (.t 6)⟩,
  ⟨some 34, (some (32, true)), 0, 0, .bin .eql (.t 33) (.k (.int .i64 8))⟩,
  ⟨some 35, none, 0, 0, .pick (.t 32) (.t 34) (.k (.bool false))⟩,
  ⟨some 36, none, 0, 0, .mv (.t 35)⟩,
  ⟨some 37, (some (36, true)), 0, 0, .mv (.t 3)⟩,
  ⟨some 38, (some (36, true)), 0, 0, .bsl 1 [.int .i64 0] 2 [(0, .k (.int .i64 8)), (1, .k (.int .i64 4))]⟩,
  ⟨some 39, (some (36, true)), 0, 0, .call 25 [.t 37, .t 38]⟩,
  ⟨some 40, none, 0, 0, .pick (.t 36) (.t 39) (.k (.bool false))⟩,
  ⟨some 0, none, 0, 0, .mv (.t 40)⟩])
 .ret))))) }
theorem ok18 : okFun Tryd.prog gl 18 h18 = true := by kernel_rfl
/- 20: headgate/zones.Alloc -/
def h20 : Fn := { np := 3, res := [.cell 6 true 2, .t 7, .t 8], body :=
 (.seq (.reg [⟨some 3, none, 0, 0, .box true 2 (.t 0)⟩,
  ⟨some 6, none, 0, 0, .alloc [.int .i64 0, .nils]⟩,
  ⟨some 7, none, 0, 0, .mv (.k (.int .i64 0))⟩,
  ⟨some 8, none, 0, 0, .mv (.k (.int .i64 0))⟩])
 (.seq (.reg [⟨some 10, none, 0, 0, .load true 2 (.t 3)⟩,
  ⟨some 11, none, 0, 0, .call 28 [.t 10]⟩,
  ⟨some 9, none, 0, 0, .mv (.t 11)⟩])
 (.seq (.seq (.reg [⟨some 12, none, 0, 0, .mv (.t 9)⟩,
  ⟨some 13, none, 0, 0, .bin .eql (.t 12) (.k (.int .i64 0))⟩,
  ⟨some 14, none, 0, 0, .mv (.t 13)⟩,
  ⟨some 15, (some (14, true)), 0, 0, .mv (.t 1)⟩,
  ⟨some 16, (some (14, true)), 0, 0, .bin .lss (.t 15) (.k (.int .i64 0))⟩,
  ⟨some 17, (some (14, true)), 0, 0, .mv (.t 16)⟩,
  ⟨some 18, (some (17, false)), 0, 0, .mv (.t 1)⟩,
  ⟨some 19, (some (17, false)), 0, 0, .bin .gtr (.t 18) (.k (.int .i64 6))⟩,
  ⟨some 20, (some (14, true)), 0, 0, .pick (.t 17) (.k (.bool true)) (.t 19)⟩,
  ⟨some 21, (some (14, true)), 0, 0, .mv (.t 20)⟩,
  ⟨some 22, (some (21, false)), 0, 0, .mv (.t 2)⟩,
  ⟨some 23, (some (21, false)), 0, 0, .bin .lss (.t 22) (.k (.int .i64 0))⟩,
  ⟨some 24, (some (14, true)), 0, 0, .pick (.t 21) (.k (.bool true)) (.t 23)⟩,
  ⟨some 25, (some (14, true)), 0, 0, .mv (.t 24)⟩,
  ⟨some 26, (some (25, false)), 0, 0, .mv (.t 2)⟩,
  ⟨some 27, (some (25, false)), 0, 0, .bin .gtr (.t 26) (.k (.int .i64 1))⟩,
  ⟨some 28, (some (14, true)), 0, 0, .pick (.t 25) (.k (.bool true)) (.t 27)⟩,
  ⟨some 29, none, 0, 0, .pick (.t 14) (.t 28) (.k (.bool false))⟩])
 (.cond (.t 29)
 (.reg [⟨some 9, none, 0, 0, .mv (.k (.int .i64 2))⟩])
 .skip))
 (.seq (.seq (.reg [⟨some 30, none, 0, 0, .mv (.t 9)⟩,
  ⟨some 31, none, 0, 0, .bin .neq (.t 30) (.k (.int .i64 0))⟩])
 (.cond (.t 31)
 (.seq (.reg [⟨some 32, none, 0, 0, .build [.int .i64 0, .nils] []⟩,
  ⟨some 33, none, 0, 0, .mv (.t 9)⟩,
  ⟨none, none, 0, 0, .store true 2 (.t 6) (.t 32)⟩,
  ⟨some 7, none, 0, 0, .mv (.k (.int .i64 0))⟩,
  ⟨some 8, none, 0, 0, .mv (.t 33)⟩])
 .ret)
 .skip))
 (.seq (.reg [⟨some 34, none, 0, 0, .load true 2 (.t 3)⟩,
  ⟨some 35, none, 0, 0, .build [.int .i64 0, .nils] [(0, 2, .t 34)]⟩,
  ⟨some 36, none, 0, 0, .mv (.t 1)⟩,
  ⟨some 37, none, 0, 0, .mv (.t 2)⟩,
  ⟨some 38, none, 0, 0, .call 75 [.t 35, .t 36, .t 37]⟩,
  ⟨some 39, none, 0, 0, .ext (.t 38) 0⟩,
  ⟨some 40, none, 0, 0, .ext (.t 38) 1⟩,
  ⟨some 41, none, 0, 0, .ext (.t 38) 2⟩,
  ⟨none, none, 0, 0, .store true 2 (.t 6) (.t 39)⟩,
  ⟨some 7, none, 0, 0, .mv (.t 40)⟩,
  ⟨some 8, none, 0, 0, .mv (.t 41)⟩])
 .ret))))) }
theorem ok20 : okFun Tryd.prog gl 20 h20 = true := by kernel_rfl
/- 23: headgate/zones.Take -/
def h23l0 : C := (.keep [2, 6, 11, 12, 48, 49] (.seq (.reg [⟨some 50, none, 0, 0, .bin .lss (.t 49) (.t 48)⟩])
 (.seq (.cond (.t 50)
 .skip
 (.exit 1))
 (.seq (.block 2 (.seq (.reg [⟨some 52, none, 0, 0, .load true 2 (.t 11)⟩,
  ⟨some 53, none, 0, 0, .mv (.t 2)⟩,
  ⟨some 54, none, 0, 0, .call 75 [.t 52, .k (.int .i64 0), .t 53]⟩,
  ⟨some 51, none, 0, 0, .mv (.t 54)⟩,
  ⟨some 55, none, 0, 0, .ext (.t 51) 0⟩,
  ⟨some 56, none, 0, 0, .ext (.t 51) 1⟩,
  ⟨some 57, none, 0, 0, .ext (.t 51) 2⟩,
  ⟨some 13, none, 0, 0, .alloc [.int .i64 0, .nils]⟩,
  ⟨none, none, 0, 0, .store true 2 (.t 13) (.t 55)⟩,
  ⟨some 14, none, 0, 0, .mv (.t 56)⟩,
  ⟨some 15, none, 0, 0, .mv (.t 57)⟩])
 (.seq (.reg [⟨some 58, none, 0, 0, .load true 2 (.t 13)⟩,
  ⟨some 59, none, 0, 0, .fadr 0 (.t 11)⟩,
  ⟨none, none, 0, 0, .store true 2 (.t 59) (.t 58)⟩])
 (.reg [⟨some 60, none, 0, 0, .mv (.t 12)⟩,
  ⟨some 61, none, 0, 0, .mv (.t 14)⟩,
  ⟨some 62, none, 0, 0, .bsl 1 [.int .i64 0] 1 [(0, .t 61)]⟩,
  ⟨some 63, none, 0, 0, .app 1 8 [.int .i64 0] (.t 60) (.t 62)⟩,
  ⟨some 12, none, 0, 0, .mv (.t 63)⟩]))))
 (.reg [⟨some 64, none, 0, 0, .bin .add (.t 49) (.k (.int .i64 1))⟩,
  ⟨some 49, none, 0, 0, .mv (.t 64)⟩])))))
def h23 : Fn := { np := 3, res := [.cell 6 true 2, .t 7, .t 8], body :=
 (.seq (.reg [⟨some 3, none, 0, 0, .box true 2 (.t 0)⟩,
  ⟨some 6, none, 0, 0, .alloc [.int .i64 0, .nils]⟩,
  ⟨some 7, none, 0, 0, .mv (.k (.nils))⟩,
  ⟨some 8, none, 0, 0, .mv (.k (.int .i64 0))⟩])
 (.seq (.reg [⟨some 17, none, 0, 0, .load true 2 (.t 3)⟩,
  ⟨some 18, none, 0, 0, .call 34 [.t 17]⟩,
  ⟨some 16, none, 0, 0, .mv (.t 18)⟩,
  ⟨some 19, none, 0, 0, .ext (.t 16) 0⟩,
  ⟨some 20, none, 0, 0, .ext (.t 16) 1⟩,
  ⟨some 9, none, 0, 0, .mv (.t 19)⟩,
  ⟨some 10, none, 0, 0, .mv (.t 20)⟩])
 (.seq (.block 0 (.seq (.reg [⟨some 22, none, 0, 0, .mv (.t 10)⟩,
  ⟨some 23, none, 0, 0, .bin .neq (.t 22) (.k (.int .i64 0))⟩,
  ⟨some 21, none, 0, 0, .mv (.t 23)⟩])
 (.cond (.t 21)
 .skip
 (.seq (.reg [⟨some 25, none, 0, 0, .mv (.t 1)⟩,
  ⟨some 26, none, 0, 0, .bin .lss (.t 25) (.k (.int .i64 0))⟩,
  ⟨some 27, none, 0, 0, .mv (.t 26)⟩,
  ⟨some 28, (some (27, false)), 0, 0, .mv (.t 2)⟩,
  ⟨some 29, (some (27, false)), 0, 0, .bin .lss (.t 28) (.k (.int .i64 0))⟩,
  ⟨some 30, none, 0, 0, .pick (.t 27) (.k (.bool true)) (.t 29)⟩,
  ⟨some 31, none, 0, 0, .mv (.t 30)⟩,
  ⟨some 32, (some (31, false)), 0, 0, .mv (.t 2)⟩,
  ⟨some 33, (some (31, false)), 0, 0, .bin .gtr (.t 32) (.k (.int .i64 1))⟩,
  ⟨some 34, none, 0, 0, .pick (.t 31) (.k (.bool true)) (.t 33)⟩,
  ⟨some 24, none, 0, 0, .mv (.t 34)⟩])
 (.cond (.t 24)
 (.reg [⟨some 10, none, 0, 0, .mv (.k (.int .i64 2))⟩])
 (.seq (.reg [⟨some 36, none, 0, 0, .mv (.t 9)⟩,
  ⟨some 37, none, 0, 0, .mv (.t 1)⟩,
  ⟨some 38, none, 0, 0, .bin .lss (.t 36) (.t 37)⟩,
  ⟨some 35, none, 0, 0, .mv (.t 38)⟩])
 (.cond (.t 35)
 (.reg [⟨some 10, none, 0, 0, .mv (.k (.int .i64 5))⟩])
 .skip)))))))
 (.seq (.seq (.reg [⟨some 39, none, 0, 0, .mv (.t 10)⟩,
  ⟨some 40, none, 0, 0, .bin .neq (.t 39) (.k (.int .i64 0))⟩])
 (.cond (.t 40)
 (.seq (.reg [⟨some 41, none, 0, 0, .build [.int .i64 0, .nils] []⟩,
  ⟨some 42, none, 0, 0, .mv (.t 10)⟩,
  ⟨none, none, 0, 0, .store true 2 (.t 6) (.t 41)⟩,
  ⟨some 7, none, 0, 0, .mv (.k (.nils))⟩,
  ⟨some 8, none, 0, 0, .mv (.t 42)⟩])
 .ret)
 .skip))
 (.seq (.reg [⟨some 43, none, 0, 0, .load true 2 (.t 3)⟩,
  ⟨some 44, none, 0, 0, .build [.int .i64 0, .nils] [(0, 2, .t 43)]⟩,
  ⟨some 45, none, 0, 0, .build [.int .i64 0, .nils] []⟩,
  ⟨some 46, none, 0, 0, .call 78 [.t 44, .k (.int .i64 (-1)), .t 45]⟩,
  ⟨some 47, none, 0, 0, .build [.int .i64 0, .nils] [(0, 2, .t 46)]⟩,
  ⟨some 11, none, 0, 0, .alloc [.int .i64 0, .nils]⟩,
  ⟨none, none, 0, 0, .store true 2 (.t 11) (.t 47)⟩])
 (.seq (.reg [⟨some 12, none, 0, 0, .mv (.k (.nils))⟩])
 (.seq (.seq (.reg [⟨some 48, none, 0, 0, .mv (.t 1)⟩,
  ⟨some 49, none, 0, 0, .mv (.k (.int .i64 0))⟩])
 (.block 1 (.loop h23l0)))
 (.seq (.reg [⟨some 65, none, 0, 0, .fadr 0 (.t 11)⟩,
  ⟨some 66, none, 0, 0, .load true 2 (.t 65)⟩,
  ⟨some 67, none, 0, 0, .mv (.t 12)⟩,
  ⟨none, none, 0, 0, .store true 2 (.t 6) (.t 66)⟩,
  ⟨some 7, none, 0, 0, .mv (.t 67)⟩,
  ⟨some 8, none, 0, 0, .mv (.k (.int .i64 0))⟩])
 .ret)))))))) }
theorem ok23 : okFun Tryd.prog gl 23 h23 = true := by kernel_rfl
/- 25: headgate/headgatekit.SameInts -/
def h25l0 : C := (.keep [0, 1, 5] (.seq (.seq (.reg [⟨some 11, none, 0, 0, .mv (.t 5)⟩,
  ⟨some 12, none, 0, 0, .mv (.t 0)⟩,
  ⟨some 13, none, 0, 0, .len false (.t 12)⟩,
  ⟨some 14, none, 0, 0, .bin .lss (.t 11) (.t 13)⟩])
 (.cond (.t 14)
 .skip
 (.exit 0)))
 (.seq (.block 1 (.seq (.drw [⟨some 17, none, 0, 0, .mv (.t 0)⟩,
  ⟨some 18, none, 0, 0, .mv (.t 5)⟩,
  ⟨some 19, none, 0, 0, .iadr 1 (.t 17) (.t 18)⟩,
  ⟨some 20, none, 0, 0, .load false 1 (.t 19)⟩,
  ⟨some 21, none, 0, 0, .mv (.t 1)⟩,
  ⟨some 22, none, 0, 0, .mv (.t 5)⟩,
  ⟨some 23, none, 0, 0, .iadr 1 (.t 21) (.t 22)⟩,
  ⟨some 24, none, 0, 0, .load false 1 (.t 23)⟩,
  ⟨some 25, none, 0, 0, .bin .neq (.t 20) (.t 24)⟩])
 (.cond (.t 25)
 (.seq (.reg [⟨some 4, none, 0, 0, .mv (.k (.bool false))⟩])
 .ret)
 .skip)))
 (.reg [⟨some 15, none, 0, 0, .mv (.t 5)⟩,
  ⟨some 16, none, 0, 0, .bin .add (.t 15) (.k (.int .i64 1))⟩,
  ⟨some 5, none, 0, 0, .mv (.t 16)⟩]))))
def h25 : Fn := { np := 2, res := [.t 4], body :=
 (.seq (.reg [⟨some 4, none, 0, 0, .mv (.k (.bool false))⟩])
 (.seq (.seq (.reg [⟨some 6, none, 0, 0, .mv (.t 0)⟩,
  ⟨some 7, none, 0, 0, .len false (.t 6)⟩,
  ⟨some 8, none, 0, 0, .mv (.t 1)⟩,
  ⟨some 9, none, 0, 0, .len false (.t 8)⟩,
  ⟨some 10, none, 0, 0, .bin .neq (.t 7) (.t 9)⟩])
 (.cond (.t 10)
 (.seq (.reg [⟨some 4, none, 0, 0, .mv (.k (.bool false))⟩])
 .ret)
 .skip))
 (.seq (.seq (.reg [⟨some 5, none, 0, 0, .mv (.k (.int .i64 0))⟩])
 (.block 0 (.loop h25l0)))
 (.seq (.reg [⟨some 4, none, 0, 0, .mv (.k (.bool true))⟩])
 .ret)))) }
theorem ok25 : okFun Tryd.prog gl 25 h25 = true := by kernel_rfl
/- 26: headgate/zones.New -/
def h26 : Fn := { np := 2, res := [.cell 4 true 2, .t 5], body :=
 (.seq (.reg [⟨some 4, none, 0, 0, .alloc [.int .i64 0, .nils]⟩,
  ⟨some 5, none, 0, 0, .mv (.k (.int .i64 0))⟩])
 (.seq (.seq (.reg [⟨some 9, none, 0, 0, .mv (.t 0)⟩,
  ⟨some 10, none, 0, 0, .bin .lss (.t 9) (.k (.int .i64 1))⟩,
  ⟨some 11, none, 0, 0, .mv (.t 10)⟩,
  ⟨some 12, (some (11, false)), 0, 0, .mv (.t 0)⟩,
  ⟨some 13, (some (11, false)), 0, 0, .bin .gtr (.t 12) (.k (.int .i64 256))⟩,
  ⟨some 14, none, 0, 0, .pick (.t 11) (.k (.bool true)) (.t 13)⟩,
  ⟨some 15, none, 0, 0, .mv (.t 14)⟩,
  ⟨some 16, (some (15, false)), 0, 0, .mv (.t 1)⟩,
  ⟨some 17, (some (15, false)), 0, 0, .bin .lss (.t 16) (.k (.int .i64 1))⟩,
  ⟨some 18, none, 0, 0, .pick (.t 15) (.k (.bool true)) (.t 17)⟩,
  ⟨some 19, none, 0, 0, .mv (.t 18)⟩,
  ⟨some 20, (some (19, false)), 0, 0, .mv (.t 1)⟩,
  ⟨some 21, (some (19, false)), 0, 0, .mv (.t 0)⟩,
  ⟨some 22, (some (19, false)), 0, 0, .bin .gtr (.t 20) (.t 21)⟩,
  ⟨some 23, none, 0, 0, .pick (.t 19) (.k (.bool true)) (.t 22)⟩])
 (.cond (.t 23)
 (.seq (.reg [⟨some 24, none, 0, 0, .build [.int .i64 0, .nils] []⟩,
  ⟨none, none, 0, 0, .store true 2 (.t 4) (.t 24)⟩,
  ⟨some 5, none, 0, 0, .mv (.k (.int .i64 2))⟩])
 .ret)
 .skip))
 (.seq (.reg [⟨some 26, none, 0, 0, .mv (.t 1)⟩,
  ⟨some 27, none, 0, 0, .call 38 [.t 26]⟩,
  ⟨some 25, none, 0, 0, .mv (.t 27)⟩,
  ⟨some 28, none, 0, 0, .ext (.t 25) 0⟩,
  ⟨some 29, none, 0, 0, .ext (.t 25) 1⟩,
  ⟨some 6, none, 0, 0, .alloc [.int .i64 0, .nils]⟩,
  ⟨none, none, 0, 0, .store true 2 (.t 6) (.t 28)⟩,
  ⟨some 7, none, 0, 0, .mv (.t 29)⟩])
 (.seq (.seq (.reg [⟨some 30, none, 0, 0, .mv (.t 7)⟩,
  ⟨some 31, none, 0, 0, .bin .neq (.t 30) (.k (.int .i64 0))⟩])
 (.cond (.t 31)
 (.seq (.reg [⟨some 32, none, 0, 0, .build [.int .i64 0, .nils] []⟩,
  ⟨some 33, none, 0, 0, .mv (.t 7)⟩,
  ⟨none, none, 0, 0, .store true 2 (.t 4) (.t 32)⟩,
  ⟨some 5, none, 0, 0, .mv (.t 33)⟩])
 .ret)
 .skip))
 (.seq (.reg [⟨some 35, none, 0, 0, .mv (.t 0)⟩,
  ⟨some 36, none, 0, 0, .mv (.t 1)⟩,
  ⟨some 37, none, 0, 0, .bin .sub (.t 35) (.t 36)⟩,
  ⟨some 38, none, 0, 0, .call 38 [.t 37]⟩,
  ⟨some 34, none, 0, 0, .mv (.t 38)⟩,
  ⟨some 39, none, 0, 0, .ext (.t 34) 0⟩,
  ⟨some 40, none, 0, 0, .ext (.t 34) 1⟩,
  ⟨some 8, none, 0, 0, .alloc [.int .i64 0, .nils]⟩,
  ⟨none, none, 0, 0, .store true 2 (.t 8) (.t 39)⟩,
  ⟨some 7, none, 0, 0, .mv (.t 40)⟩])
 (.seq (.reg [⟨some 41, none, 0, 0, .mv (.t 1)⟩,
  ⟨some 42, none, 0, 0, .load true 2 (.t 6)⟩,
  ⟨some 43, none, 0, 0, .load true 2 (.t 8)⟩,
  ⟨some 44, none, 0, 0, .bsl 2 [.int .i64 0, .nils] 2 [(0, .t 42), (1, .t 43)]⟩,
  ⟨some 45, none, 0, 0, .build [.int .i64 0, .nils] [(0, 1, .t 41), (1, 1, .t 44)]⟩,
  ⟨some 46, none, 0, 0, .mv (.t 7)⟩,
  ⟨some 47, none, 0, 0, .call 79 [.t 45, .t 46]⟩,
  ⟨some 48, none, 0, 0, .ext (.t 47) 0⟩,
  ⟨some 49, none, 0, 0, .ext (.t 47) 1⟩,
  ⟨none, none, 0, 0, .store true 2 (.t 4) (.t 48)⟩,
  ⟨some 5, none, 0, 0, .mv (.t 49)⟩])
 .ret)))))) }
theorem ok26 : okFun Tryd.prog gl 26 h26 = true := by kernel_rfl
/- 28: headgate/zones.Check -/
def h28l0 : C := (.keep [1, 27, 28, 29] (.seq (.reg [⟨some 30, none, 0, 0, .bin .lss (.t 29) (.t 28)⟩])
 (.seq (.cond (.t 30)
 .skip
 (.exit 1))
 (.seq (.block 2 (.seq (.reg [⟨some 31, none, 0, 0, .iadr 2 (.t 27) (.t 29)⟩,
  ⟨some 32, none, 0, 0, .load true 2 (.t 31)⟩,
  ⟨some 4, none, 0, 0, .alloc [.int .i64 0, .nils]⟩,
  ⟨none, none, 0, 0, .store true 2 (.t 4) (.t 32)⟩])
 (.seq (.reg [⟨some 34, none, 0, 0, .load true 2 (.t 4)⟩,
  ⟨some 35, none, 0, 0, .call 46 [.t 34]⟩,
  ⟨some 33, none, 0, 0, .mv (.t 35)⟩,
  ⟨some 36, none, 0, 0, .ext (.t 33) 0⟩,
  ⟨some 37, none, 0, 0, .ext (.t 33) 1⟩,
  ⟨some 5, none, 0, 0, .mv (.t 36)⟩,
  ⟨some 6, none, 0, 0, .mv (.t 37)⟩])
 (.seq (.reg [⟨some 38, none, 0, 0, .mv (.t 5)⟩,
  ⟨some 39, none, 0, 0, .bin .neq (.t 38) (.k (.int .i64 0))⟩])
 (.cond (.t 39)
 (.seq (.reg [⟨some 40, none, 0, 0, .mv (.t 5)⟩,
  ⟨some 2, none, 0, 0, .mv (.t 40)⟩])
 .ret)
 .skip)))))
 (.reg [⟨some 41, none, 0, 0, .bin .add (.t 29) (.k (.int .i64 1))⟩,
  ⟨some 29, none, 0, 0, .mv (.t 41)⟩])))))
def h28 : Fn := { np := 1, res := [.t 2], body :=
 (.seq (.reg [⟨some 1, none, 0, 0, .box true 2 (.t 0)⟩,
  ⟨some 2, none, 0, 0, .mv (.k (.int .i64 0))⟩])
 (.seq (.block 0 (.seq (.reg [⟨some 8, none, 0, 0, .fadr 1 (.t 1)⟩,
  ⟨some 9, none, 0, 0, .load false 1 (.t 8)⟩,
  ⟨some 10, none, 0, 0, .len false (.t 9)⟩,
  ⟨some 11, none, 0, 0, .bin .neq (.t 10) (.k (.int .i64 2))⟩,
  ⟨some 7, none, 0, 0, .mv (.t 11)⟩])
 (.cond (.t 7)
 (.seq (.reg [⟨some 2, none, 0, 0, .mv (.k (.int .i64 3))⟩])
 .ret)
 (.seq (.drw [⟨some 13, none, 0, 0, .fadr 0 (.t 1)⟩,
  ⟨some 14, none, 0, 0, .load false 1 (.t 13)⟩,
  ⟨some 15, none, 0, 0, .bin .lss (.t 14) (.k (.int .i64 1))⟩,
  ⟨some 16, none, 0, 0, .mv (.t 15)⟩,
  ⟨some 17, (some (16, false)), 0, 0, .fadr 0 (.t 1)⟩,
  ⟨some 18, (some (16, false)), 0, 0, .load false 1 (.t 17)⟩,
  ⟨some 19, (some (16, false)), 0, 0, .fadr 1 (.t 1)⟩,
  ⟨some 20, (some (16, false)), 0, 0, .load false 1 (.t 19)⟩,
  ⟨some 21, (some (16, false)), 0, 0, .iadr 2 (.t 20) (.k (.int .i64 0))⟩,
  ⟨some 22, (some (16, false)), 0, 0, .fadr 0 (.t 21)⟩,
  ⟨some 23, (some (16, false)), 0, 0, .load false 1 (.t 22)⟩,
  ⟨some 24, (some (16, false)), 0, 0, .bin .neq (.t 18) (.t 23)⟩,
  ⟨some 25, none, 0, 0, .pick (.t 16) (.k (.bool true)) (.t 24)⟩,
  ⟨some 12, none, 0, 0, .mv (.t 25)⟩])
 (.cond (.t 12)
 (.seq (.reg [⟨some 2, none, 0, 0, .mv (.k (.int .i64 2))⟩])
 .ret)
 .skip)))))
 (.seq (.seq (.reg [⟨some 26, none, 0, 0, .fadr 1 (.t 1)⟩,
  ⟨some 27, none, 0, 0, .load false 1 (.t 26)⟩,
  ⟨some 28, none, 0, 0, .len false (.t 27)⟩,
  ⟨some 29, none, 0, 0, .mv (.k (.int .i64 0))⟩])
 (.block 1 (.loop h28l0)))
 (.seq (.seq (.drw [⟨some 42, none, 0, 0, .fadr 0 (.t 1)⟩,
  ⟨some 43, none, 0, 0, .load false 1 (.t 42)⟩,
  ⟨some 44, none, 0, 0, .fadr 1 (.t 1)⟩,
  ⟨some 45, none, 0, 0, .load false 1 (.t 44)⟩,
  ⟨some 46, none, 0, 0, .iadr 2 (.t 45) (.k (.int .i64 1))⟩,
  ⟨some 47, none, 0, 0, .fadr 0 (.t 46)⟩,
  ⟨some 48, none, 0, 0, .load false 1 (.t 47)⟩,
  ⟨some 49, none, 0, 0, .bin .add (.t 43) (.t 48)⟩,
  ⟨some 50, none, 0, 0, .bin .gtr (.t 49) (.k (.int .i64 256))⟩])
 (.cond (.t 50)
 (.seq (.reg [⟨some 2, none, 0, 0, .mv (.k (.int .i64 2))⟩])
 .ret)
 .skip))
 (.seq (.reg [⟨some 2, none, 0, 0, .mv (.k (.int .i64 0))⟩])
 .ret))))) }
theorem ok28 : okFun Tryd.prog gl 28 h28 = true := by kernel_rfl
/- 30: headgate/zones.Which -/
def h30 : Fn := { np := 2, res := [.t 4, .t 5], body :=
 (.seq (.reg [⟨some 2, none, 0, 0, .box true 2 (.t 0)⟩,
  ⟨some 4, none, 0, 0, .mv (.k (.int .i64 0))⟩,
  ⟨some 5, none, 0, 0, .mv (.k (.int .i64 0))⟩])
 (.seq (.reg [⟨some 10, none, 0, 0, .load true 2 (.t 2)⟩,
  ⟨some 11, none, 0, 0, .mv (.t 1)⟩,
  ⟨some 12, none, 0, 0, .call 82 [.t 10, .t 11]⟩,
  ⟨some 9, none, 0, 0, .mv (.t 12)⟩,
  ⟨some 13, none, 0, 0, .ext (.t 9) 0⟩,
  ⟨some 14, none, 0, 0, .ext (.t 9) 1⟩,
  ⟨some 15, none, 0, 0, .ext (.t 9) 2⟩,
  ⟨some 6, none, 0, 0, .mv (.t 13)⟩,
  ⟨some 7, none, 0, 0, .mv (.t 14)⟩,
  ⟨some 8, none, 0, 0, .mv (.t 15)⟩])
 (.seq (.reg [⟨some 16, none, 0, 0, .mv (.t 6)⟩,
  ⟨some 17, none, 0, 0, .mv (.t 8)⟩,
  ⟨some 4, none, 0, 0, .mv (.t 16)⟩,
  ⟨some 5, none, 0, 0, .mv (.t 17)⟩])
 .ret))) }
theorem ok30 : okFun Tryd.prog gl 30 h30 = true := by kernel_rfl
/- 32: headgate/zones.Is -/
def h32 : Fn := { np := 2, res := [.t 4, .t 5], body :=
 (.seq (.reg [⟨some 2, none, 0, 0, .box true 2 (.t 0)⟩,
  ⟨some 4, none, 0, 0, .mv (.k (.bool false))⟩,
  ⟨some 5, none, 0, 0, .mv (.k (.int .i64 0))⟩])
 (.seq (.reg [⟨some 10, none, 0, 0, .load true 2 (.t 2)⟩,
  ⟨some 11, none, 0, 0, .mv (.t 1)⟩,
  ⟨some 12, none, 0, 0, .call 82 [.t 10, .t 11]⟩,
  ⟨some 9, none, 0, 0, .mv (.t 12)⟩,
  ⟨some 13, none, 0, 0, .ext (.t 9) 0⟩,
  ⟨some 14, none, 0, 0, .ext (.t 9) 1⟩,
  ⟨some 15, none, 0, 0, .ext (.t 9) 2⟩,
  ⟨some 6, none, 0, 0, .mv (.t 13)⟩,
  ⟨some 7, none, 0, 0, .mv (.t 14)⟩,
  ⟨some 8, none, 0, 0, .mv (.t 15)⟩])
 (.seq (.seq (.reg [⟨some 16, none, 0, 0, .mv (.t 8)⟩,
  ⟨some 17, none, 0, 0, .bin .neq (.t 16) (.k (.int .i64 0))⟩])
 (.cond (.t 17)
 (.seq (.reg [⟨some 18, none, 0, 0, .mv (.t 8)⟩,
  ⟨some 4, none, 0, 0, .mv (.k (.bool false))⟩,
  ⟨some 5, none, 0, 0, .mv (.t 18)⟩])
 .ret)
 .skip))
 (.seq (.reg [⟨some 19, none, 0, 0, .fadr 1 (.t 2)⟩,
  ⟨some 20, none, 0, 0, .load false 1 (.t 19)⟩,
  ⟨some 21, none, 0, 0, .mv (.t 6)⟩,
  ⟨some 22, none, 0, 0, .iadr 2 (.t 20) (.t 21)⟩,
  ⟨some 23, none, 0, 0, .load true 2 (.t 22)⟩,
  ⟨some 24, none, 0, 0, .mv (.t 7)⟩,
  ⟨some 25, none, 0, 0, .call 54 [.t 23, .t 24]⟩,
  ⟨some 26, none, 0, 0, .ext (.t 25) 0⟩,
  ⟨some 27, none, 0, 0, .ext (.t 25) 1⟩,
  ⟨some 28, none, 0, 0, .call 84 [.t 26, .t 27]⟩,
  ⟨some 29, none, 0, 0, .ext (.t 28) 0⟩,
  ⟨some 30, none, 0, 0, .ext (.t 28) 1⟩,
  ⟨some 4, none, 0, 0, .mv (.t 29)⟩,
  ⟨some 5, none, 0, 0, .mv (.t 30)⟩])
 .ret)))) }
theorem ok32 : okFun Tryd.prog gl 32 h32 = true := by kernel_rfl
/- 34: headgate/zones.Total -/
def h34l0 : C := (.keep [5, 6, 14, 15, 16] (.seq (.reg [⟨some 17, none, 0, 0, .bin .lss (.t 16) (.t 15)⟩])
 (.seq (.cond (.t 17)
 .skip
 (.exit 0))
 (.seq (.block 1 (.seq (.reg [⟨some 18, none, 0, 0, .iadr 1 (.t 14) (.t 16)⟩,
  ⟨some 19, none, 0, 0, .load false 1 (.t 18)⟩,
  ⟨some 8, none, 0, 0, .mv (.t 19)⟩])
 (.reg [⟨some 20, none, 0, 0, .mv (.t 6)⟩,
  ⟨some 21, none, 0, 0, .mv (.t 8)⟩,
  ⟨some 22, none, 0, 0, .bin .add (.t 20) (.t 21)⟩,
  ⟨some 6, none, 0, 0, .mv (.t 22)⟩])))
 (.reg [⟨some 23, none, 0, 0, .bin .add (.t 16) (.k (.int .i64 1))⟩,
  ⟨some 16, none, 0, 0, .mv (.t 23)⟩])))))
def h34 : Fn := { np := 1, res := [.t 2, .t 3], body :=
 (.seq (.reg [⟨some 1, none, 0, 0, .box true 2 (.t 0)⟩,
  ⟨some 2, none, 0, 0, .mv (.k (.int .i64 0))⟩,
  ⟨some 3, none, 0, 0, .mv (.k (.int .i64 0))⟩])
 (.seq (.reg [⟨some 10, none, 0, 0, .load true 2 (.t 1)⟩,
  ⟨some 11, none, 0, 0, .call 36 [.t 10]⟩,
  ⟨some 9, none, 0, 0, .mv (.t 11)⟩,
  ⟨some 12, none, 0, 0, .ext (.t 9) 0⟩,
  ⟨some 13, none, 0, 0, .ext (.t 9) 1⟩,
  ⟨some 4, none, 0, 0, .mv (.t 12)⟩,
  ⟨some 5, none, 0, 0, .mv (.t 13)⟩])
 (.seq (.reg [⟨some 6, none, 0, 0, .mv (.k (.int .i64 0))⟩])
 (.seq (.seq (.reg [⟨some 14, none, 0, 0, .mv (.t 4)⟩,
  ⟨some 15, none, 0, 0, .len false (.t 14)⟩,
  ⟨some 16, none, 0, 0, .mv (.k (.int .i64 0))⟩])
 (.block 0 (.loop h34l0)))
 (.seq (.reg [⟨some 24, none, 0, 0, .mv (.t 6)⟩,
  ⟨some 25, none, 0, 0, .mv (.t 5)⟩,
  ⟨some 26, none, 0, 0, .call 86 [.t 24, .t 25]⟩,
  ⟨some 27, none, 0, 0, .ext (.t 26) 0⟩,
  ⟨some 28, none, 0, 0, .ext (.t 26) 1⟩,
  ⟨some 2, none, 0, 0, .mv (.t 27)⟩,
  ⟨some 3, none, 0, 0, .mv (.t 28)⟩])
 .ret))))) }
theorem ok34 : okFun Tryd.prog gl 34 h34 = true := by kernel_rfl
/- 36: headgate/zones.Totals -/
def h36l0 : C := (.keep [5, 16, 17, 18] (.seq (.reg [⟨some 19, none, 0, 0, .bin .lss (.t 18) (.t 17)⟩])
 (.seq (.cond (.t 19)
 .skip
 (.exit 0))
 (.seq (.block 1 (.seq (.reg [⟨some 20, none, 0, 0, .iadr 2 (.t 16) (.t 18)⟩,
  ⟨some 21, none, 0, 0, .load true 2 (.t 20)⟩,
  ⟨some 7, none, 0, 0, .alloc [.int .i64 0, .nils]⟩,
  ⟨none, none, 0, 0, .store true 2 (.t 7) (.t 21)⟩])
 (.seq (.reg [⟨some 23, none, 0, 0, .load true 2 (.t 7)⟩,
  ⟨some 24, none, 0, 0, .call 53 [.t 23]⟩,
  ⟨some 22, none, 0, 0, .mv (.t 24)⟩,
  ⟨some 25, none, 0, 0, .ext (.t 22) 0⟩,
  ⟨some 26, none, 0, 0, .ext (.t 22) 1⟩,
  ⟨some 8, none, 0, 0, .mv (.t 25)⟩,
  ⟨some 9, none, 0, 0, .mv (.t 26)⟩])
 (.reg [⟨some 27, none, 0, 0, .mv (.t 5)⟩,
  ⟨some 28, none, 0, 0, .mv (.t 8)⟩,
  ⟨some 29, none, 0, 0, .bsl 1 [.int .i64 0] 1 [(0, .t 28)]⟩,
  ⟨some 30, none, 0, 0, .app 1 8 [.int .i64 0] (.t 27) (.t 29)⟩,
  ⟨some 5, none, 0, 0, .mv (.t 30)⟩]))))
 (.reg [⟨some 31, none, 0, 0, .bin .add (.t 18) (.k (.int .i64 1))⟩,
  ⟨some 18, none, 0, 0, .mv (.t 31)⟩])))))
def h36 : Fn := { np := 1, res := [.t 2, .t 3], body :=
 (.seq (.reg [⟨some 1, none, 0, 0, .box true 2 (.t 0)⟩,
  ⟨some 2, none, 0, 0, .mv (.k (.nils))⟩,
  ⟨some 3, none, 0, 0, .mv (.k (.int .i64 0))⟩])
 (.seq (.seq (.reg [⟨some 10, none, 0, 0, .load true 2 (.t 1)⟩,
  ⟨some 11, none, 0, 0, .call 28 [.t 10]⟩,
  ⟨some 4, none, 0, 0, .mv (.t 11)⟩])
 (.seq (.reg [⟨some 12, none, 0, 0, .mv (.t 4)⟩,
  ⟨some 13, none, 0, 0, .bin .neq (.t 12) (.k (.int .i64 0))⟩])
 (.cond (.t 13)
 (.seq (.reg [⟨some 14, none, 0, 0, .mv (.t 4)⟩,
  ⟨some 2, none, 0, 0, .mv (.k (.nils))⟩,
  ⟨some 3, none, 0, 0, .mv (.t 14)⟩])
 .ret)
 .skip)))
 (.seq (.reg [⟨some 5, none, 0, 0, .mv (.k (.nils))⟩])
 (.seq (.seq (.reg [⟨some 15, none, 0, 0, .fadr 1 (.t 1)⟩,
  ⟨some 16, none, 0, 0, .load false 1 (.t 15)⟩,
  ⟨some 17, none, 0, 0, .len false (.t 16)⟩,
  ⟨some 18, none, 0, 0, .mv (.k (.int .i64 0))⟩])
 (.block 0 (.loop h36l0)))
 (.seq (.reg [⟨some 32, none, 0, 0, .mv (.t 5)⟩,
  ⟨some 2, none, 0, 0, .mv (.t 32)⟩,
  ⟨some 3, none, 0, 0, .mv (.k (.int .i64 0))⟩])
 .ret))))) }
theorem ok36 : okFun Tryd.prog gl 36 h36 = true := by kernel_rfl
/- 38: headgate/buddy.New -/
def h38l0 : C := (.keep [0, 2, 4, 5] (.seq (.seq (.reg [⟨some 16, none, 0, 0, .mv (.t 5)⟩,
  ⟨some 17, none, 0, 0, .mv (.t 0)⟩,
  ⟨some 18, none, 0, 0, .bin .lss (.t 16) (.t 17)⟩])
 (.cond (.t 18)
 .skip
 (.exit 0)))
 (.block 1 (.seq (.reg [⟨some 19, none, 0, 0, .mv (.t 0)⟩,
  ⟨some 20, none, 0, 0, .mv (.t 5)⟩,
  ⟨some 21, none, 0, 0, .bin .sub (.t 19) (.t 20)⟩,
  ⟨some 22, none, 0, 0, .cv .u64 (.t 21)⟩,
  ⟨some 23, none, 0, 0, .call 88 [.t 22]⟩,
  ⟨some 24, none, 0, 0, .bin .sub (.t 23) (.k (.int .i64 1))⟩,
  ⟨some 25, none, 0, 0, .mm false (.k (.int .i64 6)) (.t 24)⟩,
  ⟨some 6, none, 0, 0, .mv (.t 25)⟩])
 (.seq (.seq (.reg [⟨some 26, none, 0, 0, .mv (.t 5)⟩,
  ⟨some 27, none, 0, 0, .bin .gtr (.t 26) (.k (.int .i64 0))⟩])
 (.cond (.t 27)
 (.reg [⟨some 28, none, 0, 0, .mv (.t 6)⟩,
  ⟨some 29, none, 0, 0, .mv (.t 5)⟩,
  ⟨some 30, none, 0, 0, .cv .u64 (.t 29)⟩,
  ⟨some 31, none, 0, 0, .call 89 [.t 30]⟩,
  ⟨some 32, none, 0, 0, .mm false (.t 28) (.t 31)⟩,
  ⟨some 6, none, 0, 0, .mv (.t 32)⟩])
 .skip))
 (.seq (.reg [⟨some 33, none, 0, 0, .fadr 1 (.t 4)⟩,
  ⟨some 34, none, 0, 0, .load false 1 (.t 33)⟩,
  ⟨some 35, none, 0, 0, .mv (.t 5)⟩,
  ⟨some 36, none, 0, 0, .mv (.t 6)⟩,
  ⟨some 37, none, 0, 0, .build [.int .i64 0, .int .i64 0] [(0, 1, .t 35), (1, 1, .t 36)]⟩,
  ⟨some 38, none, 0, 0, .bsl 2 [.int .i64 0, .int .i64 0] 1 [(0, .t 37)]⟩,
  ⟨some 39, none, 0, 0, .app 2 16 [.int .i64 0, .int .i64 0] (.t 34) (.t 38)⟩,
  ⟨some 40, none, 0, 0, .fadr 1 (.t 4)⟩,
  ⟨none, none, 0, 0, .store false 1 (.t 40) (.t 39)⟩])
 (.reg [⟨some 41, none, 0, 0, .mv (.t 5)⟩,
  ⟨some 42, none, 0, 0, .mv (.t 6)⟩,
  ⟨some 43, none, 0, 0, .call 90 [.t 42]⟩,
  ⟨some 44, none, 0, 0, .bin .add (.t 41) (.t 43)⟩,
  ⟨some 5, none, 0, 0, .mv (.t 44)⟩])))))))
def h38 : Fn := { np := 1, res := [.cell 2 true 2, .t 3], body :=
 (.seq (.reg [⟨some 2, none, 0, 0, .alloc [.int .i64 0, .nils]⟩,
  ⟨some 3, none, 0, 0, .mv (.k (.int .i64 0))⟩])
 (.seq (.seq (.reg [⟨some 7, none, 0, 0, .mv (.t 0)⟩,
  ⟨some 8, none, 0, 0, .bin .lss (.t 7) (.k (.int .i64 0))⟩,
  ⟨some 9, none, 0, 0, .mv (.t 8)⟩,
  ⟨some 10, (some (9, false)), 0, 0, .mv (.t 0)⟩,
  ⟨some 11, (some (9, false)), 0, 0, .bin .gtr (.t 10) (.k (.int .i64 256))⟩,
  ⟨some 12, none, 0, 0, .pick (.t 9) (.k (.bool true)) (.t 11)⟩])
 (.cond (.t 12)
 (.seq (.reg [⟨some 13, none, 0, 0, .build [.int .i64 0, .nils] []⟩,
  ⟨none, none, 0, 0, .store true 2 (.t 2) (.t 13)⟩,
  ⟨some 3, none, 0, 0, .mv (.k (.int .i64 2))⟩])
 .ret)
 .skip))
 (.seq (.reg [⟨some 14, none, 0, 0, .mv (.t 0)⟩,
  ⟨some 15, none, 0, 0, .build [.int .i64 0, .nils] [(0, 1, .t 14)]⟩,
  ⟨some 4, none, 0, 0, .alloc [.int .i64 0, .nils]⟩,
  ⟨none, none, 0, 0, .store true 2 (.t 4) (.t 15)⟩])
 (.seq (.seq (.reg [⟨some 5, none, 0, 0, .mv (.k (.int .i64 0))⟩])
 (.block 0 (.loop h38l0)))
 (.seq (.reg [⟨some 45, none, 0, 0, .load true 2 (.t 4)⟩,
  ⟨none, none, 0, 0, .store true 2 (.t 2) (.t 45)⟩,
  ⟨some 3, none, 0, 0, .mv (.k (.int .i64 0))⟩])
 .ret))))) }
theorem ok38 : okFun Tryd.prog gl 38 h38 = true := by kernel_rfl
/- 39: headgate/headgatelaw09.three -/
def h39 : Fn := { np := 0, res := [.cell 0 true 2, .t 1], body :=
 (.seq (.reg [⟨some 0, none, 0, 0, .alloc [.int .i64 0, .nils]⟩,
  ⟨some 1, none, 0, 0, .mv (.k (.bool false))⟩])
 (.seq (.reg [⟨some 14, none, 0, 0, .call 42 []⟩,
  ⟨some 13, none, 0, 0, .mv (.t 14)⟩,
  ⟨some 15, none, 0, 0, .ext (.t 13) 0⟩,
  ⟨some 16, none, 0, 0, .ext (.t 13) 1⟩,
  ⟨some 2, none, 0, 0, .alloc [.int .i64 0, .nils]⟩,
  ⟨none, none, 0, 0, .store true 2 (.t 2) (.t 15)⟩,
  ⟨some 3, none, 0, 0, .mv (.t 16)⟩])
 (.seq (.reg [⟨some 18, none, 0, 0, .load true 2 (.t 2)⟩,
  ⟨some 19, none, 0, 0, .call 45 [.t 18, .k (.int .i64 0)]⟩,
  ⟨some 17, none, 0, 0, .mv (.t 19)⟩,
  ⟨some 20, none, 0, 0, .ext (.t 17) 0⟩,
  ⟨some 21, none, 0, 0, .ext (.t 17) 1⟩,
  ⟨some 22, none, 0, 0, .ext (.t 17) 2⟩,
  ⟨some 4, none, 0, 0, .alloc [.int .i64 0, .nils]⟩,
  ⟨none, none, 0, 0, .store true 2 (.t 4) (.t 20)⟩,
  ⟨some 5, none, 0, 0, .mv (.t 21)⟩,
  ⟨some 6, none, 0, 0, .mv (.t 22)⟩])
 (.seq (.reg [⟨some 24, none, 0, 0, .load true 2 (.t 4)⟩,
  ⟨some 25, none, 0, 0, .call 45 [.t 24, .k (.int .i64 0)]⟩,
  ⟨some 23, none, 0, 0, .mv (.t 25)⟩,
  ⟨some 26, none, 0, 0, .ext (.t 23) 0⟩,
  ⟨some 27, none, 0, 0, .ext (.t 23) 1⟩,
  ⟨some 28, none, 0, 0, .ext (.t 23) 2⟩,
  ⟨some 7, none, 0, 0, .alloc [.int .i64 0, .nils]⟩,
  ⟨none, none, 0, 0, .store true 2 (.t 7) (.t 26)⟩,
  ⟨some 8, none, 0, 0, .mv (.t 27)⟩,
  ⟨some 9, none, 0, 0, .mv (.t 28)⟩])
 (.seq (.reg [⟨some 30, none, 0, 0, .load true 2 (.t 7)⟩,
  ⟨some 31, none, 0, 0, .call 45 [.t 30, .k (.int .i64 1)]⟩,
  ⟨some 29, none, 0, 0, .mv (.t 31)⟩,
  ⟨some 32, none, 0, 0, .ext (.t 29) 0⟩,
  ⟨some 33, none, 0, 0, .ext (.t 29) 1⟩,
  ⟨some 34, none, 0, 0, .ext (.t 29) 2⟩,
  ⟨some 10, none, 0, 0, .alloc [.int .i64 0, .nils]⟩,
  ⟨none, none, 0, 0, .store true 2 (.t 10) (.t 32)⟩,
  ⟨some 11, none, 0, 0, .mv (.t 33)⟩,
  ⟨some 12, none, 0, 0, .mv (.t 34)⟩])
 (.seq (.drw [⟨some 35, none, 0, 3, .load true 2 (.t 10)⟩,
  ⟨some 36, none, 0, 0, .mv (.t 3)⟩,
  ⟨some 37, none, 0, 0, .mv (.t 36)⟩,
  ⟨some 38, (some (37, true)), 0, 0, .mv (.t 6)⟩,
  ⟨some 39, (some (37, true)), 0, 0, .bin .eql (.t 38) (.k (.int .i64 0))⟩,
  ⟨some 40, none, 0, 0, .pick (.t 37) (.t 39) (.k (.bool false))⟩,
  ⟨some 41, none, 0, 0, .mv (.t 40)⟩,
  ⟨some 42, (some (41, true)), 0, 0, .mv (.t 9)⟩,
  ⟨some 43, (some (41, true)), 0, 0, .bin .eql (.t 42) (.k (.int .i64 0))⟩,
  ⟨some 44, none, 0, 0, .pick (.t 41) (.t 43) (.k (.bool false))⟩,
  ⟨some 45, none, 0, 0, .mv (.t 44)⟩,
  ⟨some 46, (some (45, true)), 0, 0, .mv (.t 12)⟩,
  ⟨some 47, (some (45, true)), 0, 0, .bin .eql (.t 46) (.k (.int .i64 0))⟩,
  ⟨some 48, none, 0, 0, .pick (.t 45) (.t 47) (.k (.bool false))⟩,
  ⟨some 49, none, 0, 0, .mv (.t 48)⟩,
  ⟨some 50, (some (49, true)), 0, 0, .mv (.t 5)⟩,
  ⟨some 51, (some (49, true)), 0, 0, .bin .eql (.t 50) (.k (.int .i64 10))⟩,
  ⟨some 52, none, 0, 0, .pick (.t 49) (.t 51) (.k (.bool false))⟩,
  ⟨some 53, none, 0, 0, .mv (.t 52)⟩,
  ⟨some 54, (some (53, true)), 0, 0, .mv (.t 8)⟩,
  ⟨some 55, (some (53, true)), 0, 0, .bin .eql (.t 54) (.k (.int .i64 8))⟩,
  ⟨some 56, none, 0, 0, .pick (.t 53) (.t 55) (.k (.bool false))⟩,
  ⟨some 57, none, 0, 0, .mv (.t 56)⟩,
  ⟨some 58, (some (57, true)), 0, 0, .mv (.t 11)⟩,
  ⟨some 59, (some (57, true)), 0, 0, .bin .eql (.t 58) (.k (.int .i64 0))⟩,
  ⟨some 60, none, 0, 0, .pick (.t 57) (.t 59) (.k (.bool false))⟩,
  ⟨some 61, none, 0, 0, .mv (.t 60)⟩,
  ⟨some 62, (some (61, true)), 0, 0, .load true 2 (.t 4)⟩,
  ⟨some 63, (some (61, true)), 0, 0, .bsl 1 [.int .i64 0] 4 [(0, .k (.int .i64 0)), (1, .k (.int .i64 3)), (2, .k (.int .i64 8)), (3, .k (.int .i64 1))]⟩,
  ⟨some 64, (some (61, true)), 0, 0, .call 41 [.t 62, .t 63]⟩,
  ⟨some 65, none, 1, 1, .pick (.t 61) (.t 64) (.k (.bool false))⟩,
  ⟨some 66, none, 1, 1, .mv (.t 65)⟩,
  ⟨some 67, (some (66, true)), 1, 1, .load true 2 (.t 7)⟩,
  ⟨some 68, (some (66, true)), 1, 1, .bsl 1 [.int .i64 0] 4 [(0, .k (.int .i64 0)), (1, .k (.int .i64 3)), (2, .k (.int .i64 9)), (3, .k (.int .i64 0))]⟩,
  ⟨some 69, (some (66, true)), 0, 0, .call 41 [.t 67, .t 68]⟩,
  ⟨some 70, none, 2, 2, .pick (.t 66) (.t 69) (.k (.bool false))⟩,
  ⟨some 71, none, 2, 2, .mv (.t 70)⟩,
  ⟨some 72, (some (71, true)), 2, 2, .load true 2 (.t 10)⟩,
  ⟨some 73, (some (71, true)), 2, 2, .bsl 1 [.int .i64 0] 6 [(0, .k (.int .i64 2)), (1, .k (.int .i64 1)), (2, .k (.int .i64 4)), (3, .k (.int .i64 2)), (4, .k (.int .i64 9)), (5, .k (.int .i64 0))]⟩,
  ⟨some 74, (some (71, true)), 0, 0, .call 41 [.t 72, .t 73]⟩,
  ⟨some 75, none, 3, 4, .pick (.t 71) (.t 74) (.k (.bool false))⟩,
  ⟨none, none, 0, 0, .store true 2 (.t 0) (.t 35)⟩,
  ⟨some 1, none, 4, 4, .mv (.t 75)⟩])
 .ret)))))) }
theorem ok39 : okFun Tryd.prog gl 39 h39 = true := by kernel_rfl
/- 40: headgate/buddy.Free -/
def h40l0 : C := (.keep [3, 6, 9, 10] (.seq (.seq (.reg [⟨some 52, none, 0, 0, .mv (.t 10)⟩,
  ⟨some 53, none, 0, 0, .mv (.t 9)⟩,
  ⟨some 54, none, 0, 0, .iadr 2 (.t 52) (.t 53)⟩,
  ⟨some 55, none, 0, 0, .fadr 1 (.t 54)⟩,
  ⟨some 56, none, 0, 0, .load false 1 (.t 55)⟩,
  ⟨some 57, none, 0, 0, .bin .lss (.t 56) (.k (.int .i64 6))⟩])
 (.cond (.t 57)
 .skip
 (.exit 0)))
 (.block 1 (.seq (.drw [⟨some 58, none, 0, 0, .mv (.t 10)⟩,
  ⟨some 59, none, 0, 0, .mv (.t 9)⟩,
  ⟨some 60, none, 0, 0, .iadr 2 (.t 58) (.t 59)⟩,
  ⟨some 61, none, 0, 0, .fadr 0 (.t 60)⟩,
  ⟨some 62, none, 0, 0, .load false 1 (.t 61)⟩,
  ⟨some 63, none, 0, 0, .mv (.t 10)⟩,
  ⟨some 64, none, 0, 0, .mv (.t 9)⟩,
  ⟨some 65, none, 0, 0, .iadr 2 (.t 63) (.t 64)⟩,
  ⟨some 66, none, 0, 0, .fadr 1 (.t 65)⟩,
  ⟨some 67, none, 0, 0, .load false 1 (.t 66)⟩,
  ⟨some 68, none, 0, 0, .call 95 [.t 62, .t 67]⟩,
  ⟨some 69, none, 0, 1, .mv (.t 10)⟩,
  ⟨some 70, none, 0, 1, .mv (.t 9)⟩,
  ⟨some 71, none, 0, 1, .iadr 2 (.t 69) (.t 70)⟩,
  ⟨some 72, none, 0, 1, .fadr 1 (.t 71)⟩,
  ⟨some 73, none, 0, 1, .load false 1 (.t 72)⟩,
  ⟨some 74, none, 1, 1, .build [.int .i64 0, .int .i64 0] [(0, 1, .t 68), (1, 1, .t 73)]⟩,
  ⟨some 11, none, 0, 1, .alloc [.int .i64 0, .int .i64 0]⟩,
  ⟨none, none, 0, 0, .store true 2 (.t 11) (.t 74)⟩])
 (.seq (.reg [⟨some 75, none, 0, 0, .mv (.t 10)⟩,
  ⟨some 76, none, 0, 0, .load true 2 (.t 11)⟩,
  ⟨some 77, none, 0, 0, .call 96 [.t 75, .t 76]⟩,
  ⟨some 12, none, 0, 0, .mv (.t 77)⟩])
 (.seq (.seq (.reg [⟨some 78, none, 0, 0, .mv (.t 12)⟩,
  ⟨some 79, none, 0, 0, .bin .lss (.t 78) (.k (.int .i64 0))⟩])
 (.cond (.t 79)
 (.exit 0)
 .skip))
 (.seq (.reg [⟨some 80, none, 0, 0, .mv (.t 9)⟩,
  ⟨some 81, none, 0, 0, .mv (.t 12)⟩,
  ⟨some 82, none, 0, 0, .mm false (.t 80) (.t 81)⟩,
  ⟨some 9, none, 0, 0, .mv (.t 82)⟩])
 (.seq (.reg [⟨some 83, none, 0, 0, .mv (.t 10)⟩,
  ⟨some 84, none, 0, 0, .mv (.t 9)⟩,
  ⟨some 85, none, 0, 0, .bin .add (.t 84) (.k (.int .i64 1))⟩,
  ⟨some 86, none, 0, 0, .mv (.t 9)⟩,
  ⟨some 87, none, 0, 0, .bin .add (.t 86) (.k (.int .i64 2))⟩,
  ⟨some 88, none, 0, 0, .call 97 [.t 83, .t 85, .t 87]⟩,
  ⟨some 10, none, 0, 0, .mv (.t 88)⟩])
 (.reg [⟨some 89, none, 0, 0, .mv (.t 10)⟩,
  ⟨some 90, none, 0, 0, .mv (.t 9)⟩,
  ⟨some 91, none, 0, 0, .iadr 2 (.t 89) (.t 90)⟩,
  ⟨some 92, none, 0, 0, .fadr 1 (.t 91)⟩,
  ⟨some 93, none, 0, 0, .load false 1 (.t 92)⟩,
  ⟨some 94, none, 0, 0, .bin .add (.t 93) (.k (.int .i64 1))⟩,
  ⟨some 95, none, 0, 0, .iadr 2 (.t 89) (.t 90)⟩,
  ⟨some 96, none, 0, 0, .fadr 1 (.t 95)⟩,
  ⟨none, none, 0, 0, .store false 1 (.t 96) (.t 94)⟩])))))))))
def h40 : Fn := { np := 3, res := [.cell 6 true 2, .t 7], body :=
 (.seq (.reg [⟨some 3, none, 0, 0, .box true 2 (.t 0)⟩,
  ⟨some 6, none, 0, 0, .alloc [.int .i64 0, .nils]⟩,
  ⟨some 7, none, 0, 0, .mv (.k (.int .i64 0))⟩])
 (.seq (.seq (.reg [⟨some 13, none, 0, 0, .load true 2 (.t 3)⟩,
  ⟨some 14, none, 0, 0, .mv (.t 1)⟩,
  ⟨some 15, none, 0, 0, .mv (.t 2)⟩,
  ⟨some 16, none, 0, 0, .call 91 [.t 13, .t 14, .t 15]⟩,
  ⟨some 8, none, 0, 0, .mv (.t 16)⟩])
 (.seq (.reg [⟨some 17, none, 0, 0, .mv (.t 8)⟩,
  ⟨some 18, none, 0, 0, .bin .neq (.t 17) (.k (.int .i64 0))⟩])
 (.cond (.t 18)
 (.seq (.reg [⟨some 19, none, 0, 0, .build [.int .i64 0, .nils] []⟩,
  ⟨some 20, none, 0, 0, .mv (.t 8)⟩,
  ⟨none, none, 0, 0, .store true 2 (.t 6) (.t 19)⟩,
  ⟨some 7, none, 0, 0, .mv (.t 20)⟩])
 .ret)
 .skip)))
 (.seq (.reg [⟨some 21, none, 0, 0, .load true 2 (.t 3)⟩,
  ⟨some 22, none, 0, 0, .mv (.t 1)⟩,
  ⟨some 23, none, 0, 0, .call 92 [.t 21, .t 22]⟩,
  ⟨some 9, none, 0, 0, .mv (.t 23)⟩])
 (.seq (.seq (.drw [⟨some 24, none, 0, 0, .mv (.t 9)⟩,
  ⟨some 25, none, 0, 0, .fadr 1 (.t 3)⟩,
  ⟨some 26, none, 0, 0, .load false 1 (.t 25)⟩,
  ⟨some 27, none, 0, 0, .len false (.t 26)⟩,
  ⟨some 28, none, 0, 0, .bin .lss (.t 24) (.t 27)⟩,
  ⟨some 29, none, 0, 0, .mv (.t 28)⟩,
  ⟨some 30, (some (29, true)), 0, 1, .fadr 1 (.t 3)⟩,
  ⟨some 31, (some (29, true)), 0, 1, .load false 1 (.t 30)⟩,
  ⟨some 32, (some (29, true)), 0, 1, .mv (.t 9)⟩,
  ⟨some 33, (some (29, true)), 0, 1, .iadr 2 (.t 31) (.t 32)⟩,
  ⟨some 34, (some (29, true)), 0, 1, .fadr 0 (.t 33)⟩,
  ⟨some 35, (some (29, true)), 0, 1, .load false 1 (.t 34)⟩,
  ⟨some 36, (some (29, true)), 0, 1, .mv (.t 1)⟩,
  ⟨some 37, (some (29, true)), 0, 0, .mv (.t 2)⟩,
  ⟨some 38, (some (29, true)), 0, 0, .call 90 [.t 37]⟩,
  ⟨some 39, (some (29, true)), 1, 1, .bin .add (.t 36) (.t 38)⟩,
  ⟨some 40, (some (29, true)), 1, 1, .bin .lss (.t 35) (.t 39)⟩,
  ⟨some 41, none, 1, 1, .pick (.t 29) (.t 40) (.k (.bool false))⟩])
 (.cond (.t 41)
 (.seq (.reg [⟨some 42, none, 0, 0, .build [.int .i64 0, .nils] []⟩,
  ⟨none, none, 0, 0, .store true 2 (.t 6) (.t 42)⟩,
  ⟨some 7, none, 0, 0, .mv (.k (.int .i64 7))⟩])
 .ret)
 .skip))
 (.seq (.reg [⟨some 43, none, 0, 0, .fadr 1 (.t 3)⟩,
  ⟨some 44, none, 0, 0, .load false 1 (.t 43)⟩,
  ⟨some 45, none, 0, 0, .call 94 [.t 44]⟩,
  ⟨some 46, none, 0, 0, .mv (.t 9)⟩,
  ⟨some 47, none, 0, 0, .mv (.t 1)⟩,
  ⟨some 48, none, 0, 0, .mv (.t 2)⟩,
  ⟨some 49, none, 0, 0, .build [.int .i64 0, .int .i64 0] [(0, 1, .t 47), (1, 1, .t 48)]⟩,
  ⟨some 50, none, 0, 0, .bsl 2 [.int .i64 0, .int .i64 0] 1 [(0, .t 49)]⟩,
  ⟨some 51, none, 0, 0, .call 93 [.t 45, .t 46, .t 50]⟩,
  ⟨some 10, none, 0, 0, .mv (.t 51)⟩])
 (.seq (.block 0 (.loop h40l0))
 (.seq (.reg [⟨some 97, none, 0, 0, .fadr 0 (.t 3)⟩,
  ⟨some 98, none, 0, 0, .load false 1 (.t 97)⟩,
  ⟨some 99, none, 0, 0, .mv (.t 10)⟩,
  ⟨some 100, none, 0, 0, .build [.int .i64 0, .nils] [(0, 1, .t 98), (1, 1, .t 99)]⟩,
  ⟨none, none, 0, 0, .store true 2 (.t 6) (.t 100)⟩,
  ⟨some 7, none, 0, 0, .mv (.k (.int .i64 0))⟩])
 .ret))))))) }
theorem ok40 : okFun Tryd.prog gl 40 h40 = true := by kernel_rfl
/- 41: headgate/headgatelaw09.free -/
def h41l0 : C := (.keep [1, 2, 5] (.seq (.seq (.reg [⟨some 13, none, 0, 0, .mv (.t 5)⟩,
  ⟨some 14, none, 0, 0, .fadr 1 (.t 2)⟩,
  ⟨some 15, none, 0, 0, .load false 1 (.t 14)⟩,
  ⟨some 16, none, 0, 0, .len false (.t 15)⟩,
  ⟨some 17, none, 0, 0, .bin .lss (.t 13) (.t 16)⟩])
 (.cond (.t 17)
 .skip
 (.exit 0)))
 (.seq (.block 1 (.seq (.drw [⟨some 20, none, 0, 0, .fadr 1 (.t 2)⟩,
  ⟨some 21, none, 0, 0, .load false 1 (.t 20)⟩,
  ⟨some 22, none, 0, 0, .mv (.t 5)⟩,
  ⟨some 23, none, 0, 0, .iadr 2 (.t 21) (.t 22)⟩,
  ⟨some 24, none, 0, 0, .fadr 0 (.t 23)⟩,
  ⟨some 25, none, 0, 0, .load false 1 (.t 24)⟩,
  ⟨some 26, none, 0, 0, .mv (.t 1)⟩,
  ⟨some 27, none, 0, 0, .mv (.t 5)⟩,
  ⟨some 28, none, 0, 0, .bin .mul (.k (.int .i64 2)) (.t 27)⟩,
  ⟨some 29, none, 0, 0, .iadr 1 (.t 26) (.t 28)⟩,
  ⟨some 30, none, 0, 0, .load false 1 (.t 29)⟩,
  ⟨some 31, none, 0, 0, .bin .neq (.t 25) (.t 30)⟩,
  ⟨some 32, none, 0, 0, .mv (.t 31)⟩,
  ⟨some 33, (some (32, false)), 0, 0, .fadr 1 (.t 2)⟩,
  ⟨some 34, (some (32, false)), 0, 0, .load false 1 (.t 33)⟩,
  ⟨some 35, (some (32, false)), 0, 0, .mv (.t 5)⟩,
  ⟨some 36, (some (32, false)), 0, 0, .iadr 2 (.t 34) (.t 35)⟩,
  ⟨some 37, (some (32, false)), 0, 0, .fadr 1 (.t 36)⟩,
  ⟨some 38, (some (32, false)), 0, 0, .load false 1 (.t 37)⟩,
  ⟨some 39, (some (32, false)), 0, 0, .mv (.t 1)⟩,
  ⟨some 40, (some (32, false)), 0, 0, .mv (.t 5)⟩,
  ⟨some 41, (some (32, false)), 0, 0, .bin .mul (.k (.int .i64 2)) (.t 40)⟩,
  ⟨some 42, (some (32, false)), 0, 0, .bin .add (.t 41) (.k (.int .i64 1))⟩,
  ⟨some 43, (some (32, false)), 0, 0, .iadr 1 (.t 39) (.t 42)⟩,
  ⟨some 44, (some (32, false)), 0, 0, .load false 1 (.t 43)⟩,
  ⟨some 45, (some (32, false)), 0, 0, .bin .neq (.t 38) (.t 44)⟩,
  ⟨some 46, none, 0, 0, .pick (.t 32) (.k (.bool true)) (.t 45)⟩])
 (.cond (.t 46)
 (.seq (.reg [⟨some 4, none, 0, 0, .mv (.k (.bool false))⟩])
 .ret)
 .skip)))
 (.reg [⟨some 18, none, 0, 0, .mv (.t 5)⟩,
  ⟨some 19, none, 0, 0, .bin .add (.t 18) (.k (.int .i64 1))⟩,
  ⟨some 5, none, 0, 0, .mv (.t 19)⟩]))))
def h41 : Fn := { np := 2, res := [.t 4], body :=
 (.seq (.reg [⟨some 2, none, 0, 0, .box true 2 (.t 0)⟩,
  ⟨some 4, none, 0, 0, .mv (.k (.bool false))⟩])
 (.seq (.seq (.reg [⟨some 6, none, 0, 0, .fadr 1 (.t 2)⟩,
  ⟨some 7, none, 0, 0, .load false 1 (.t 6)⟩,
  ⟨some 8, none, 0, 0, .len false (.t 7)⟩,
  ⟨some 9, none, 0, 0, .bin .mul (.k (.int .i64 2)) (.t 8)⟩,
  ⟨some 10, none, 0, 0, .mv (.t 1)⟩,
  ⟨some 11, none, 0, 0, .len false (.t 10)⟩,
  ⟨some 12, none, 0, 0, .bin .neq (.t 9) (.t 11)⟩])
 (.cond (.t 12)
 (.seq (.reg [⟨some 4, none, 0, 0, .mv (.k (.bool false))⟩])
 .ret)
 .skip))
 (.seq (.seq (.reg [⟨some 5, none, 0, 0, .mv (.k (.int .i64 0))⟩])
 (.block 0 (.loop h41l0)))
 (.seq (.reg [⟨some 4, none, 0, 0, .mv (.k (.bool true))⟩])
 .ret)))) }
theorem ok41 : okFun Tryd.prog gl 41 h41 = true := by kernel_rfl
/- 42: headgate/headgatelaw09.eleven -/
def h42 : Fn := { np := 0, res := [.cell 0 true 2, .t 1], body :=
 (.seq (.reg [⟨some 0, none, 0, 0, .alloc [.int .i64 0, .nils]⟩,
  ⟨some 1, none, 0, 0, .mv (.k (.bool false))⟩])
 (.seq (.reg [⟨some 5, none, 0, 0, .call 38 [.k (.int .i64 11)]⟩,
  ⟨some 4, none, 0, 0, .mv (.t 5)⟩,
  ⟨some 6, none, 0, 0, .ext (.t 4) 0⟩,
  ⟨some 7, none, 0, 0, .ext (.t 4) 1⟩,
  ⟨some 2, none, 0, 0, .alloc [.int .i64 0, .nils]⟩,
  ⟨none, none, 0, 0, .store true 2 (.t 2) (.t 6)⟩,
  ⟨some 3, none, 0, 0, .mv (.t 7)⟩])
 (.seq (.drw [⟨some 8, none, 0, 1, .load true 2 (.t 2)⟩,
  ⟨some 9, none, 0, 0, .mv (.t 3)⟩,
  ⟨some 10, none, 0, 0, .bin .eql (.t 9) (.k (.int .i64 0))⟩,
  ⟨some 11, none, 0, 0, .mv (.t 10)⟩,
  ⟨some 12, (some (11, true)), 0, 0, .load true 2 (.t 2)⟩,
  ⟨some 13, (some (11, true)), 0, 0, .bsl 1 [.int .i64 0] 6 [(0, .k (.int .i64 0)), (1, .k (.int .i64 3)), (2, .k (.int .i64 8)), (3, .k (.int .i64 1)), (4, .k (.int .i64 10)), (5, .k (.int .i64 0))]⟩,
  ⟨some 14, (some (11, true)), 0, 0, .call 41 [.t 12, .t 13]⟩,
  ⟨some 15, none, 1, 2, .pick (.t 11) (.t 14) (.k (.bool false))⟩,
  ⟨none, none, 0, 0, .store true 2 (.t 0) (.t 8)⟩,
  ⟨some 1, none, 2, 2, .mv (.t 15)⟩])
 .ret))) }
theorem ok42 : okFun Tryd.prog gl 42 h42 = true := by kernel_rfl
/- 43: headgate/buddy.Counts -/
def h43l0 : C := (.keep [5, 14, 15, 16] (.seq (.reg [⟨some 17, none, 0, 0, .bin .lss (.t 16) (.t 15)⟩])
 (.seq (.cond (.t 17)
 .skip
 (.exit 0))
 (.seq (.block 1 (.seq (.reg [⟨some 18, none, 0, 0, .iadr 2 (.t 14) (.t 16)⟩,
  ⟨some 19, none, 0, 0, .load true 2 (.t 18)⟩,
  ⟨some 7, none, 0, 0, .alloc [.int .i64 0, .int .i64 0]⟩,
  ⟨none, none, 0, 0, .store true 2 (.t 7) (.t 19)⟩])
 (.reg [⟨some 20, none, 0, 0, .fadr 1 (.t 7)⟩,
  ⟨some 21, none, 0, 0, .load false 1 (.t 20)⟩,
  ⟨some 22, none, 0, 0, .iada 7 1 (.t 5) (.t 21)⟩,
  ⟨some 23, none, 0, 0, .load false 1 (.t 22)⟩,
  ⟨some 24, none, 0, 0, .bin .add (.t 23) (.k (.int .i64 1))⟩,
  ⟨some 25, none, 0, 0, .iada 7 1 (.t 5) (.t 21)⟩,
  ⟨none, none, 0, 0, .store false 1 (.t 25) (.t 24)⟩])))
 (.reg [⟨some 26, none, 0, 0, .bin .add (.t 16) (.k (.int .i64 1))⟩,
  ⟨some 16, none, 0, 0, .mv (.t 26)⟩])))))
def h43 : Fn := { np := 1, res := [.t 2, .t 3], body :=
 (.seq (.reg [⟨some 1, none, 0, 0, .box true 2 (.t 0)⟩,
  ⟨some 2, none, 0, 0, .mv (.k (.nils))⟩,
  ⟨some 3, none, 0, 0, .mv (.k (.int .i64 0))⟩])
 (.seq (.seq (.reg [⟨some 8, none, 0, 0, .load true 2 (.t 1)⟩,
  ⟨some 9, none, 0, 0, .call 98 [.t 8, .k (.int .i64 0)]⟩,
  ⟨some 4, none, 0, 0, .mv (.t 9)⟩])
 (.seq (.reg [⟨some 10, none, 0, 0, .mv (.t 4)⟩,
  ⟨some 11, none, 0, 0, .bin .neq (.t 10) (.k (.int .i64 0))⟩])
 (.cond (.t 11)
 (.seq (.reg [⟨some 12, none, 0, 0, .mv (.t 4)⟩,
  ⟨some 2, none, 0, 0, .mv (.k (.nils))⟩,
  ⟨some 3, none, 0, 0, .mv (.t 12)⟩])
 .ret)
 .skip)))
 (.seq (.reg [⟨some 5, none, 0, 0, .alloc [.int .i64 0, .int .i64 0, .int .i64 0, .int .i64 0, .int .i64 0, .int .i64 0, .int .i64 0]⟩])
 (.seq (.seq (.reg [⟨some 13, none, 0, 0, .fadr 1 (.t 1)⟩,
  ⟨some 14, none, 0, 0, .load false 1 (.t 13)⟩,
  ⟨some 15, none, 0, 0, .len false (.t 14)⟩,
  ⟨some 16, none, 0, 0, .mv (.k (.int .i64 0))⟩])
 (.block 0 (.loop h43l0)))
 (.seq (.reg [⟨some 27, none, 0, 0, .slp 7 1 (.t 5) none none none⟩,
  ⟨some 2, none, 0, 0, .mv (.t 27)⟩,
  ⟨some 3, none, 0, 0, .mv (.k (.int .i64 0))⟩])
 .ret))))) }
theorem ok43 : okFun Tryd.prog gl 43 h43 = true := by kernel_rfl
/- 44: headgate/buddy.Take -/
def h44 : Fn := { np := 3, res := [.cell 6 true 2, .t 7], body :=
 (.seq (.reg [⟨some 3, none, 0, 0, .box true 2 (.t 0)⟩,
  ⟨some 6, none, 0, 0, .alloc [.int .i64 0, .nils]⟩,
  ⟨some 7, none, 0, 0, .mv (.k (.int .i64 0))⟩])
 (.seq (.seq (.reg [⟨some 10, none, 0, 0, .load true 2 (.t 3)⟩,
  ⟨some 11, none, 0, 0, .mv (.t 1)⟩,
  ⟨some 12, none, 0, 0, .mv (.t 2)⟩,
  ⟨some 13, none, 0, 0, .call 91 [.t 10, .t 11, .t 12]⟩,
  ⟨some 8, none, 0, 0, .mv (.t 13)⟩])
 (.seq (.reg [⟨some 14, none, 0, 0, .mv (.t 8)⟩,
  ⟨some 15, none, 0, 0, .bin .neq (.t 14) (.k (.int .i64 0))⟩])
 (.cond (.t 15)
 (.seq (.reg [⟨some 16, none, 0, 0, .build [.int .i64 0, .nils] []⟩,
  ⟨some 17, none, 0, 0, .mv (.t 8)⟩,
  ⟨none, none, 0, 0, .store true 2 (.t 6) (.t 16)⟩,
  ⟨some 7, none, 0, 0, .mv (.t 17)⟩])
 .ret)
 .skip)))
 (.seq (.reg [⟨some 18, none, 0, 0, .load true 2 (.t 3)⟩,
  ⟨some 19, none, 0, 0, .mv (.t 1)⟩,
  ⟨some 20, none, 0, 0, .call 92 [.t 18, .t 19]⟩,
  ⟨some 9, none, 0, 0, .mv (.t 20)⟩])
 (.seq (.seq (.reg [⟨some 21, none, 0, 0, .mv (.t 9)⟩,
  ⟨some 22, none, 0, 0, .fadr 1 (.t 3)⟩,
  ⟨some 23, none, 0, 0, .load false 1 (.t 22)⟩,
  ⟨some 24, none, 0, 0, .len false (.t 23)⟩,
  ⟨some 25, none, 0, 0, .bin .eql (.t 21) (.t 24)⟩,
  ⟨some 26, none, 0, 0, .mv (.t 25)⟩,
  ⟨some 27, (some (26, false)), 0, 0, .fadr 1 (.t 3)⟩,
  ⟨some 28, (some (26, false)), 0, 0, .load false 1 (.t 27)⟩,
  ⟨some 29, (some (26, false)), 0, 0, .mv (.t 9)⟩,
  ⟨some 30, (some (26, false)), 0, 0, .iadr 2 (.t 28) (.t 29)⟩,
  ⟨some 31, (some (26, false)), 0, 0, .fadr 0 (.t 30)⟩,
  ⟨some 32, (some (26, false)), 0, 0, .load false 1 (.t 31)⟩,
  ⟨some 33, (some (26, false)), 0, 0, .mv (.t 1)⟩,
  ⟨some 34, (some (26, false)), 0, 0, .bin .gtr (.t 32) (.t 33)⟩,
  ⟨some 35, none, 0, 0, .pick (.t 26) (.k (.bool true)) (.t 34)⟩,
  ⟨some 36, none, 0, 0, .mv (.t 35)⟩,
  ⟨some 37, (some (36, false)), 0, 0, .fadr 1 (.t 3)⟩,
  ⟨some 38, (some (36, false)), 0, 0, .load false 1 (.t 37)⟩,
  ⟨some 39, (some (36, false)), 0, 0, .mv (.t 9)⟩,
  ⟨some 40, (some (36, false)), 0, 0, .iadr 2 (.t 38) (.t 39)⟩,
  ⟨some 41, (some (36, false)), 0, 0, .fadr 1 (.t 40)⟩,
  ⟨some 42, (some (36, false)), 0, 0, .load false 1 (.t 41)⟩,
  ⟨some 43, (some (36, false)), 0, 0, .mv (.t 2)⟩,
  ⟨some 44, (some (36, false)), 0, 0, .bin .lss (.t 42) (.t 43)⟩,
  ⟨some 45, none, 0, 0, .pick (.t 36) (.k (.bool true)) (.t 44)⟩])
 (.cond (.t 45)
 (.seq (.reg [⟨some 46, none, 0, 0, .build [.int .i64 0, .nils] []⟩,
  ⟨none, none, 0, 0, .store true 2 (.t 6) (.t 46)⟩,
  ⟨some 7, none, 0, 0, .mv (.k (.int .i64 5))⟩])
 .ret)
 .skip))
 (.seq (.reg [⟨some 47, none, 0, 0, .load true 2 (.t 3)⟩,
  ⟨some 48, none, 0, 0, .mv (.t 9)⟩,
  ⟨some 49, none, 0, 0, .mv (.t 1)⟩,
  ⟨some 50, none, 0, 0, .mv (.t 2)⟩,
  ⟨some 51, none, 0, 0, .call 99 [.t 47, .t 48, .t 49, .t 50]⟩,
  ⟨none, none, 0, 0, .store true 2 (.t 6) (.t 51)⟩,
  ⟨some 7, none, 0, 0, .mv (.k (.int .i64 0))⟩])
 .ret))))) }
theorem ok44 : okFun Tryd.prog gl 44 h44 = true := by kernel_rfl
/- 45: headgate/buddy.Alloc -/
def h45l0 : C := (.keep [1, 2, 4, 8, 20, 21, 22] (.seq (.reg [⟨some 23, none, 0, 0, .bin .lss (.t 22) (.t 21)⟩])
 (.seq (.cond (.t 23)
 .skip
 (.exit 0))
 (.seq (.block 1 (.seq (.reg [⟨some 24, none, 0, 0, .mv (.t 22)⟩,
  ⟨some 25, none, 0, 0, .iadr 2 (.t 20) (.t 22)⟩,
  ⟨some 26, none, 0, 0, .load true 2 (.t 25)⟩,
  ⟨some 10, none, 0, 0, .alloc [.int .i64 0, .int .i64 0]⟩,
  ⟨some 9, none, 0, 0, .mv (.t 24)⟩,
  ⟨none, none, 0, 0, .store true 2 (.t 10) (.t 26)⟩])
 (.seq (.drw [⟨some 27, none, 0, 0, .fadr 1 (.t 10)⟩,
  ⟨some 28, none, 0, 0, .load false 1 (.t 27)⟩,
  ⟨some 29, none, 0, 0, .mv (.t 1)⟩,
  ⟨some 30, none, 0, 0, .bin .geq (.t 28) (.t 29)⟩,
  ⟨some 31, none, 0, 0, .mv (.t 30)⟩,
  ⟨some 32, (some (31, true)), 0, 0, .mv (.t 8)⟩,
  ⟨some 33, (some (31, true)), 0, 0, .bin .lss (.t 32) (.k (.int .i64 0))⟩,
  ⟨some 34, (some (31, true)), 0, 0, .mv (.t 33)⟩,
  ⟨some 35, (some (34, false)), 0, 0, .fadr 1 (.t 10)⟩,
  ⟨some 36, (some (34, false)), 0, 0, .load false 1 (.t 35)⟩,
  ⟨some 37, (some (34, false)), 0, 0, .fadr 1 (.t 2)⟩,
  ⟨some 38, (some (34, false)), 0, 0, .load false 1 (.t 37)⟩,
  ⟨some 39, (some (34, false)), 0, 0, .mv (.t 8)⟩,
  ⟨some 40, (some (34, false)), 0, 0, .iadr 2 (.t 38) (.t 39)⟩,
  ⟨some 41, (some (34, false)), 0, 0, .fadr 1 (.t 40)⟩,
  ⟨some 42, (some (34, false)), 0, 0, .load false 1 (.t 41)⟩,
  ⟨some 43, (some (34, false)), 0, 0, .bin .lss (.t 36) (.t 42)⟩,
  ⟨some 44, (some (31, true)), 0, 0, .pick (.t 34) (.k (.bool true)) (.t 43)⟩,
  ⟨some 45, none, 0, 0, .pick (.t 31) (.t 44) (.k (.bool false))⟩])
 (.cond (.t 45)
 (.reg [⟨some 46, none, 0, 0, .mv (.t 9)⟩,
  ⟨some 8, none, 0, 0, .mv (.t 46)⟩])
 .skip))))
 (.reg [⟨some 47, none, 0, 0, .bin .add (.t 22) (.k (.int .i64 1))⟩,
  ⟨some 22, none, 0, 0, .mv (.t 47)⟩])))))
def h45 : Fn := { np := 2, res := [.cell 4 true 2, .t 5, .t 6], body :=
 (.seq (.reg [⟨some 2, none, 0, 0, .box true 2 (.t 0)⟩,
  ⟨some 4, none, 0, 0, .alloc [.int .i64 0, .nils]⟩,
  ⟨some 5, none, 0, 0, .mv (.k (.int .i64 0))⟩,
  ⟨some 6, none, 0, 0, .mv (.k (.int .i64 0))⟩])
 (.seq (.seq (.reg [⟨some 12, none, 0, 0, .load true 2 (.t 2)⟩,
  ⟨some 13, none, 0, 0, .mv (.t 1)⟩,
  ⟨some 14, none, 0, 0, .call 98 [.t 12, .t 13]⟩,
  ⟨some 7, none, 0, 0, .mv (.t 14)⟩])
 (.seq (.reg [⟨some 15, none, 0, 0, .mv (.t 7)⟩,
  ⟨some 16, none, 0, 0, .bin .neq (.t 15) (.k (.int .i64 0))⟩])
 (.cond (.t 16)
 (.seq (.reg [⟨some 17, none, 0, 0, .build [.int .i64 0, .nils] []⟩,
  ⟨some 18, none, 0, 0, .mv (.t 7)⟩,
  ⟨none, none, 0, 0, .store true 2 (.t 4) (.t 17)⟩,
  ⟨some 5, none, 0, 0, .mv (.k (.int .i64 0))⟩,
  ⟨some 6, none, 0, 0, .mv (.t 18)⟩])
 .ret)
 .skip)))
 (.seq (.reg [⟨some 8, none, 0, 0, .mv (.k (.int .i64 (-1)))⟩])
 (.seq (.seq (.reg [⟨some 19, none, 0, 0, .fadr 1 (.t 2)⟩,
  ⟨some 20, none, 0, 0, .load false 1 (.t 19)⟩,
  ⟨some 21, none, 0, 0, .len false (.t 20)⟩,
  ⟨some 22, none, 0, 0, .mv (.k (.int .i64 0))⟩])
 (.block 0 (.loop h45l0)))
 (.seq (.seq (.reg [⟨some 48, none, 0, 0, .mv (.t 8)⟩,
  ⟨some 49, none, 0, 0, .bin .lss (.t 48) (.k (.int .i64 0))⟩])
 (.cond (.t 49)
 (.seq (.reg [⟨some 50, none, 0, 0, .build [.int .i64 0, .nils] []⟩,
  ⟨none, none, 0, 0, .store true 2 (.t 4) (.t 50)⟩,
  ⟨some 5, none, 0, 0, .mv (.k (.int .i64 0))⟩,
  ⟨some 6, none, 0, 0, .mv (.k (.int .i64 5))⟩])
 .ret)
 .skip))
 (.seq (.reg [⟨some 51, none, 0, 0, .fadr 1 (.t 2)⟩,
  ⟨some 52, none, 0, 0, .load false 1 (.t 51)⟩,
  ⟨some 53, none, 0, 0, .mv (.t 8)⟩,
  ⟨some 54, none, 0, 0, .iadr 2 (.t 52) (.t 53)⟩,
  ⟨some 55, none, 0, 0, .fadr 0 (.t 54)⟩,
  ⟨some 56, none, 0, 0, .load false 1 (.t 55)⟩,
  ⟨some 11, none, 0, 0, .mv (.t 56)⟩])
 (.seq (.reg [⟨some 57, none, 0, 0, .load true 2 (.t 2)⟩,
  ⟨some 58, none, 0, 0, .mv (.t 8)⟩,
  ⟨some 59, none, 0, 0, .mv (.t 11)⟩,
  ⟨some 60, none, 0, 0, .mv (.t 1)⟩,
  ⟨some 61, none, 0, 0, .call 99 [.t 57, .t 58, .t 59, .t 60]⟩,
  ⟨some 62, none, 0, 0, .mv (.t 11)⟩,
  ⟨none, none, 0, 0, .store true 2 (.t 4) (.t 61)⟩,
  ⟨some 5, none, 0, 0, .mv (.t 62)⟩,
  ⟨some 6, none, 0, 0, .mv (.k (.int .i64 0))⟩])
 .ret))))))) }
theorem ok45 : okFun Tryd.prog gl 45 h45 = true := by kernel_rfl
/- 46: headgate/buddy.Check -/
def h46l0 : C := (.keep [1, 15, 16, 17] (.seq (.reg [⟨some 18, none, 0, 0, .bin .lss (.t 17) (.t 16)⟩])
 (.seq (.cond (.t 18)
 .skip
 (.exit 0))
 (.seq (.block 1 (.seq (.reg [⟨some 19, none, 0, 0, .mv (.t 17)⟩,
  ⟨some 20, none, 0, 0, .iadr 2 (.t 15) (.t 17)⟩,
  ⟨some 21, none, 0, 0, .load true 2 (.t 20)⟩,
  ⟨some 5, none, 0, 0, .alloc [.int .i64 0, .int .i64 0]⟩,
  ⟨some 4, none, 0, 0, .mv (.t 19)⟩,
  ⟨none, none, 0, 0, .store true 2 (.t 5) (.t 21)⟩])
 (.block 2 (.seq (.reg [⟨some 23, none, 0, 0, .fadr 1 (.t 5)⟩,
  ⟨some 24, none, 0, 0, .load false 1 (.t 23)⟩,
  ⟨some 25, none, 0, 0, .bin .lss (.t 24) (.k (.int .i64 0))⟩,
  ⟨some 26, none, 0, 0, .mv (.t 25)⟩,
  ⟨some 27, (some (26, false)), 0, 0, .fadr 1 (.t 5)⟩,
  ⟨some 28, (some (26, false)), 0, 0, .load false 1 (.t 27)⟩,
  ⟨some 29, (some (26, false)), 0, 0, .bin .gtr (.t 28) (.k (.int .i64 6))⟩,
  ⟨some 30, none, 0, 0, .pick (.t 26) (.k (.bool true)) (.t 29)⟩,
  ⟨some 31, none, 0, 0, .mv (.t 30)⟩,
  ⟨some 32, (some (31, false)), 0, 0, .load true 2 (.t 1)⟩,
  ⟨some 33, (some (31, false)), 0, 0, .fadr 0 (.t 5)⟩,
  ⟨some 34, (some (31, false)), 0, 0, .load false 1 (.t 33)⟩,
  ⟨some 35, (some (31, false)), 0, 0, .fadr 1 (.t 5)⟩,
  ⟨some 36, (some (31, false)), 0, 0, .load false 1 (.t 35)⟩,
  ⟨some 37, (some (31, false)), 0, 0, .call 100 [.t 32, .t 34, .t 36]⟩,
  ⟨some 38, (some (31, false)), 0, 0, .un .not (.t 37)⟩,
  ⟨some 39, none, 0, 0, .pick (.t 31) (.k (.bool true)) (.t 38)⟩,
  ⟨some 22, none, 0, 0, .mv (.t 39)⟩])
 (.cond (.t 22)
 (.seq (.reg [⟨some 40, none, 0, 0, .mv (.t 4)⟩,
  ⟨some 2, none, 0, 0, .mv (.k (.int .i64 2))⟩,
  ⟨some 3, none, 0, 0, .mv (.t 40)⟩])
 .ret)
 (.seq (.drw [⟨some 42, none, 0, 1, .fadr 0 (.t 5)⟩,
  ⟨some 43, none, 0, 1, .load false 1 (.t 42)⟩,
  ⟨some 44, none, 0, 0, .fadr 1 (.t 5)⟩,
  ⟨some 45, none, 0, 0, .load false 1 (.t 44)⟩,
  ⟨some 46, none, 0, 0, .call 90 [.t 45]⟩,
  ⟨some 47, none, 1, 1, .bin .rem (.t 43) (.t 46)⟩,
  ⟨some 48, none, 1, 1, .bin .neq (.t 47) (.k (.int .i64 0))⟩,
  ⟨some 41, none, 1, 1, .mv (.t 48)⟩])
 (.cond (.t 41)
 (.seq (.reg [⟨some 49, none, 0, 0, .mv (.t 4)⟩,
  ⟨some 2, none, 0, 0, .mv (.k (.int .i64 13))⟩,
  ⟨some 3, none, 0, 0, .mv (.t 49)⟩])
 .ret)
 (.seq (.drw [⟨some 51, none, 0, 0, .mv (.t 4)⟩,
  ⟨some 52, none, 0, 0, .bin .gtr (.t 51) (.k (.int .i64 0))⟩,
  ⟨some 53, none, 0, 0, .mv (.t 52)⟩,
  ⟨some 54, (some (53, true)), 0, 1, .fadr 0 (.t 5)⟩,
  ⟨some 55, (some (53, true)), 0, 1, .load false 1 (.t 54)⟩,
  ⟨some 56, (some (53, true)), 0, 0, .fadr 1 (.t 1)⟩,
  ⟨some 57, (some (53, true)), 0, 0, .load false 1 (.t 56)⟩,
  ⟨some 58, (some (53, true)), 0, 0, .mv (.t 4)⟩,
  ⟨some 59, (some (53, true)), 0, 0, .bin .sub (.t 58) (.k (.int .i64 1))⟩,
  ⟨some 60, (some (53, true)), 0, 0, .iadr 2 (.t 57) (.t 59)⟩,
  ⟨some 61, (some (53, true)), 0, 0, .load true 2 (.t 60)⟩,
  ⟨some 62, (some (53, true)), 0, 0, .call 101 [.t 61]⟩,
  ⟨some 63, (some (53, true)), 1, 1, .bin .lss (.t 55) (.t 62)⟩,
  ⟨some 64, none, 1, 1, .pick (.t 53) (.t 63) (.k (.bool false))⟩,
  ⟨some 50, none, 1, 1, .mv (.t 64)⟩])
 (.cond (.t 50)
 (.seq (.reg [⟨some 65, none, 0, 0, .mv (.t 4)⟩,
  ⟨some 2, none, 0, 0, .mv (.k (.int .i64 8))⟩,
  ⟨some 3, none, 0, 0, .mv (.t 65)⟩])
 .ret)
 (.seq (.drw [⟨some 67, none, 0, 0, .fadr 1 (.t 5)⟩,
  ⟨some 68, none, 0, 0, .load false 1 (.t 67)⟩,
  ⟨some 69, none, 0, 0, .bin .lss (.t 68) (.k (.int .i64 6))⟩,
  ⟨some 70, none, 0, 0, .mv (.t 69)⟩,
  ⟨some 71, (some (70, true)), 0, 1, .fadr 1 (.t 1)⟩,
  ⟨some 72, (some (70, true)), 0, 1, .load false 1 (.t 71)⟩,
  ⟨some 73, (some (70, true)), 0, 1, .mv (.t 4)⟩,
  ⟨some 74, (some (70, true)), 0, 1, .sl 2 (.t 72) none (some (.t 73)) none⟩,
  ⟨some 75, (some (70, true)), 0, 0, .fadr 0 (.t 5)⟩,
  ⟨some 76, (some (70, true)), 0, 0, .load false 1 (.t 75)⟩,
  ⟨some 77, (some (70, true)), 0, 0, .fadr 1 (.t 5)⟩,
  ⟨some 78, (some (70, true)), 0, 0, .load false 1 (.t 77)⟩,
  ⟨some 79, (some (70, true)), 0, 0, .call 95 [.t 76, .t 78]⟩,
  ⟨some 80, (some (70, true)), 0, 1, .fadr 1 (.t 5)⟩,
  ⟨some 81, (some (70, true)), 0, 1, .load false 1 (.t 80)⟩,
  ⟨some 82, (some (70, true)), 1, 1, .build [.int .i64 0, .int .i64 0] [(0, 1, .t 79), (1, 1, .t 81)]⟩,
  ⟨some 83, (some (70, true)), 0, 0, .call 102 [.t 74, .t 82]⟩,
  ⟨some 84, none, 2, 2, .pick (.t 70) (.t 83) (.k (.bool false))⟩,
  ⟨some 66, none, 2, 2, .mv (.t 84)⟩])
 (.cond (.t 66)
 (.seq (.reg [⟨some 85, none, 0, 0, .mv (.t 4)⟩,
  ⟨some 2, none, 0, 0, .mv (.k (.int .i64 7))⟩,
  ⟨some 3, none, 0, 0, .mv (.t 85)⟩])
 .ret)
 .skip)))))))))))
 (.reg [⟨some 86, none, 0, 0, .bin .add (.t 17) (.k (.int .i64 1))⟩,
  ⟨some 17, none, 0, 0, .mv (.t 86)⟩])))))
def h46 : Fn := { np := 1, res := [.t 2, .t 3], body :=
 (.seq (.reg [⟨some 1, none, 0, 0, .box true 2 (.t 0)⟩,
  ⟨some 2, none, 0, 0, .mv (.k (.int .i64 0))⟩,
  ⟨some 3, none, 0, 0, .mv (.k (.int .i64 0))⟩])
 (.seq (.seq (.reg [⟨some 6, none, 0, 0, .fadr 0 (.t 1)⟩,
  ⟨some 7, none, 0, 0, .load false 1 (.t 6)⟩,
  ⟨some 8, none, 0, 0, .bin .lss (.t 7) (.k (.int .i64 0))⟩,
  ⟨some 9, none, 0, 0, .mv (.t 8)⟩,
  ⟨some 10, (some (9, false)), 0, 0, .fadr 0 (.t 1)⟩,
  ⟨some 11, (some (9, false)), 0, 0, .load false 1 (.t 10)⟩,
  ⟨some 12, (some (9, false)), 0, 0, .bin .gtr (.t 11) (.k (.int .i64 256))⟩,
  ⟨some 13, none, 0, 0, .pick (.t 9) (.k (.bool true)) (.t 12)⟩])
 (.cond (.t 13)
 (.seq (.reg [⟨some 2, none, 0, 0, .mv (.k (.int .i64 2))⟩,
  ⟨some 3, none, 0, 0, .mv (.k (.int .i64 0))⟩])
 .ret)
 .skip))
 (.seq (.seq (.reg [⟨some 14, none, 0, 0, .fadr 1 (.t 1)⟩,
  ⟨some 15, none, 0, 0, .load false 1 (.t 14)⟩,
  ⟨some 16, none, 0, 0, .len false (.t 15)⟩,
  ⟨some 17, none, 0, 0, .mv (.k (.int .i64 0))⟩])
 (.block 0 (.loop h46l0)))
 (.seq (.reg [⟨some 2, none, 0, 0, .mv (.k (.int .i64 0))⟩,
  ⟨some 3, none, 0, 0, .mv (.k (.int .i64 0))⟩])
 .ret)))) }
theorem ok46 : okFun Tryd.prog gl 46 h46 = true := by kernel_rfl
/- 47: headgate/headgatelaw09.awake -/
def h47 : Fn := { np := 0, res := [.t 0], body :=
 (.seq (.reg [⟨some 0, none, 0, 0, .mv (.k (.bool false))⟩])
 (.seq (.reg [⟨some 8, none, 0, 0, .call 39 []⟩,
  ⟨some 7, none, 0, 0, .mv (.t 8)⟩,
  ⟨some 9, none, 0, 0, .ext (.t 7) 0⟩,
  ⟨some 10, none, 0, 0, .ext (.t 7) 1⟩,
  ⟨some 1, none, 0, 0, .alloc [.int .i64 0, .nils]⟩,
  ⟨none, none, 0, 0, .store true 2 (.t 1) (.t 9)⟩,
  ⟨some 2, none, 0, 0, .mv (.t 10)⟩])
 (.seq (.reg [⟨some 12, none, 0, 0, .load true 2 (.t 1)⟩,
  ⟨some 13, none, 0, 0, .call 40 [.t 12, .k (.int .i64 10), .k (.int .i64 0)]⟩,
  ⟨some 11, none, 0, 0, .mv (.t 13)⟩,
  ⟨some 14, none, 0, 0, .ext (.t 11) 0⟩,
  ⟨some 15, none, 0, 0, .ext (.t 11) 1⟩,
  ⟨some 3, none, 0, 0, .alloc [.int .i64 0, .nils]⟩,
  ⟨none, none, 0, 0, .store true 2 (.t 3) (.t 14)⟩,
  ⟨some 4, none, 0, 0, .mv (.t 15)⟩])
 (.seq (.reg [⟨some 17, none, 0, 0, .load true 2 (.t 3)⟩,
  ⟨some 18, none, 0, 0, .call 40 [.t 17, .k (.int .i64 8), .k (.int .i64 0)]⟩,
  ⟨some 16, none, 0, 0, .mv (.t 18)⟩,
  ⟨some 19, none, 0, 0, .ext (.t 16) 0⟩,
  ⟨some 20, none, 0, 0, .ext (.t 16) 1⟩,
  ⟨some 5, none, 0, 0, .alloc [.int .i64 0, .nils]⟩,
  ⟨none, none, 0, 0, .store true 2 (.t 5) (.t 19)⟩,
  ⟨some 6, none, 0, 0, .mv (.t 20)⟩])
 (.seq (.reg [⟨some 21, none, 0, 0, .mv (.t 2)⟩,
  ⟨some 22, none, 0, 0, .mv (.t 21)⟩,
  ⟨some 23, (some (22, true)), 0, 0, .mv (.t 4)⟩,
  ⟨some 24, (some (22, true)), 0, 0, .bin .eql (.t 23) (.k (.int .i64 0))⟩,
  ⟨some 25, none, 0, 0, .pick (.t 22) (.t 24) (.k (.bool false))⟩,
  ⟨some 26, none, 0, 0, .mv (.t 25)⟩,
  ⟨some 27, (some (26, true)), 0, 0, .mv (.t 6)⟩,
  ⟨some 28, (some (26, true)), 0, 0, .bin .eql (.t 27) (.k (.int .i64 0))⟩,
  ⟨some 29, none, 0, 0, .pick (.t 26) (.t 28) (.k (.bool false))⟩,
  ⟨some 30, none, 0, 0, .mv (.t 29)⟩,
  ⟨some 31, (some (30, true)), 0, 0, .load true 2 (.t 5)⟩,
  ⟨some 32, (some (30, true)), 0, 0, .bsl 1 [.int .i64 0] 8 [(0, .k (.int .i64 2)), (1, .k (.int .i64 1)), (2, .k (.int .i64 4)), (3, .k (.int .i64 2)), (4, .k (.int .i64 8)), (5, .k (.int .i64 1)), (6, .k (.int .i64 10)), (7, .k (.int .i64 0))]⟩,
  ⟨some 33, (some (30, true)), 0, 0, .call 41 [.t 31, .t 32]⟩,
  ⟨some 34, none, 0, 0, .pick (.t 30) (.t 33) (.k (.bool false))⟩,
  ⟨some 0, none, 0, 0, .mv (.t 34)⟩])
 .ret))))) }
theorem ok47 : okFun Tryd.prog gl 47 h47 = true := by kernel_rfl
/- 48: headgate/headgatelaw09.most -/
def h48 : Fn := { np := 2, res := [.t 4], body :=
 (.seq (.reg [⟨some 4, none, 0, 0, .mv (.k (.bool false))⟩])
 (.seq (.reg [⟨some 10, none, 0, 0, .call 42 []⟩,
  ⟨some 9, none, 0, 0, .mv (.t 10)⟩,
  ⟨some 11, none, 0, 0, .ext (.t 9) 0⟩,
  ⟨some 12, none, 0, 0, .ext (.t 9) 1⟩,
  ⟨some 5, none, 0, 0, .alloc [.int .i64 0, .nils]⟩,
  ⟨none, none, 0, 0, .store true 2 (.t 5) (.t 11)⟩,
  ⟨some 6, none, 0, 0, .mv (.t 12)⟩])
 (.seq (.reg [⟨some 14, none, 0, 0, .load true 2 (.t 5)⟩,
  ⟨some 15, none, 0, 0, .mv (.t 0)⟩,
  ⟨some 16, none, 0, 0, .call 103 [.t 14, .t 15]⟩,
  ⟨some 13, none, 0, 0, .mv (.t 16)⟩,
  ⟨some 17, none, 0, 0, .ext (.t 13) 0⟩,
  ⟨some 18, none, 0, 0, .ext (.t 13) 1⟩,
  ⟨some 7, none, 0, 0, .mv (.t 17)⟩,
  ⟨some 8, none, 0, 0, .mv (.t 18)⟩])
 (.seq (.reg [⟨some 19, none, 0, 0, .mv (.t 6)⟩,
  ⟨some 20, none, 0, 0, .mv (.t 19)⟩,
  ⟨some 21, (some (20, true)), 0, 0, .mv (.t 8)⟩,
  ⟨some 22, (some (20, true)), 0, 0, .bin .eql (.t 21) (.k (.int .i64 0))⟩,
  ⟨some 23, none, 0, 0, .pick (.t 20) (.t 22) (.k (.bool false))⟩,
  ⟨some 24, none, 0, 0, .mv (.t 23)⟩,
  ⟨some 25, (some (24, true)), 0, 0, .mv (.t 7)⟩,
  ⟨some 26, (some (24, true)), 0, 0, .mv (.t 1)⟩,
  ⟨some 27, (some (24, true)), 0, 0, .bin .eql (.t 25) (.t 26)⟩,
  ⟨some 28, none, 0, 0, .pick (.t 24) (.t 27) (.k (.bool false))⟩,
  ⟨some 4, none, 0, 0, .mv (.t 28)⟩])
 .ret)))) }
theorem ok48 : okFun Tryd.prog gl 48 h48 = true := by kernel_rfl
/- 53: headgate/buddy.Total -/
def h53 : Fn := { np := 1, res := [.t 2, .t 3], body :=
 (.seq (.reg [⟨some 1, none, 0, 0, .box true 2 (.t 0)⟩,
  ⟨some 2, none, 0, 0, .mv (.k (.int .i64 0))⟩,
  ⟨some 3, none, 0, 0, .mv (.k (.int .i64 0))⟩])
 (.seq (.reg [⟨some 4, none, 0, 0, .load true 2 (.t 1)⟩,
  ⟨some 5, none, 0, 0, .call 103 [.t 4, .k (.int .i64 0)]⟩,
  ⟨some 6, none, 0, 0, .ext (.t 5) 0⟩,
  ⟨some 7, none, 0, 0, .ext (.t 5) 1⟩,
  ⟨some 2, none, 0, 0, .mv (.t 6)⟩,
  ⟨some 3, none, 0, 0, .mv (.t 7)⟩])
 .ret)) }
theorem ok53 : okFun Tryd.prog gl 53 h53 = true := by kernel_rfl
/- 54: headgate/buddy.Is -/
def h54 : Fn := { np := 2, res := [.t 4, .t 5], body :=
 (.seq (.reg [⟨some 2, none, 0, 0, .box true 2 (.t 0)⟩,
  ⟨some 4, none, 0, 0, .mv (.k (.bool false))⟩,
  ⟨some 5, none, 0, 0, .mv (.k (.int .i64 0))⟩])
 (.seq (.seq (.reg [⟨some 8, none, 0, 0, .load true 2 (.t 2)⟩,
  ⟨some 9, none, 0, 0, .call 98 [.t 8, .k (.int .i64 0)]⟩,
  ⟨some 6, none, 0, 0, .mv (.t 9)⟩])
 (.seq (.reg [⟨some 10, none, 0, 0, .mv (.t 6)⟩,
  ⟨some 11, none, 0, 0, .bin .neq (.t 10) (.k (.int .i64 0))⟩])
 (.cond (.t 11)
 (.seq (.reg [⟨some 12, none, 0, 0, .mv (.t 6)⟩,
  ⟨some 4, none, 0, 0, .mv (.k (.bool false))⟩,
  ⟨some 5, none, 0, 0, .mv (.t 12)⟩])
 .ret)
 .skip)))
 (.seq (.seq (.reg [⟨some 13, none, 0, 0, .mv (.t 1)⟩,
  ⟨some 14, none, 0, 0, .bin .lss (.t 13) (.k (.int .i64 0))⟩,
  ⟨some 15, none, 0, 0, .mv (.t 14)⟩,
  ⟨some 16, (some (15, false)), 0, 0, .mv (.t 1)⟩,
  ⟨some 17, (some (15, false)), 0, 0, .fadr 0 (.t 2)⟩,
  ⟨some 18, (some (15, false)), 0, 0, .load false 1 (.t 17)⟩,
  ⟨some 19, (some (15, false)), 0, 0, .bin .geq (.t 16) (.t 18)⟩,
  ⟨some 20, none, 0, 0, .pick (.t 15) (.k (.bool true)) (.t 19)⟩])
 (.cond (.t 20)
 (.seq (.reg [⟨some 4, none, 0, 0, .mv (.k (.bool false))⟩,
  ⟨some 5, none, 0, 0, .mv (.k (.int .i64 2))⟩])
 .ret)
 .skip))
 (.seq (.reg [⟨some 21, none, 0, 0, .load true 2 (.t 2)⟩,
  ⟨some 22, none, 0, 0, .mv (.t 1)⟩,
  ⟨some 23, none, 0, 0, .call 92 [.t 21, .t 22]⟩,
  ⟨some 7, none, 0, 0, .mv (.t 23)⟩])
 (.seq (.reg [⟨some 24, none, 0, 0, .mv (.t 7)⟩,
  ⟨some 25, none, 0, 0, .fadr 1 (.t 2)⟩,
  ⟨some 26, none, 0, 0, .load false 1 (.t 25)⟩,
  ⟨some 27, none, 0, 0, .len false (.t 26)⟩,
  ⟨some 28, none, 0, 0, .bin .lss (.t 24) (.t 27)⟩,
  ⟨some 29, none, 0, 0, .mv (.t 28)⟩,
  ⟨some 30, (some (29, true)), 0, 0, .fadr 1 (.t 2)⟩,
  ⟨some 31, (some (29, true)), 0, 0, .load false 1 (.t 30)⟩,
  ⟨some 32, (some (29, true)), 0, 0, .mv (.t 7)⟩,
  ⟨some 33, (some (29, true)), 0, 0, .iadr 2 (.t 31) (.t 32)⟩,
  ⟨some 34, (some (29, true)), 0, 0, .fadr 0 (.t 33)⟩,
  ⟨some 35, (some (29, true)), 0, 0, .load false 1 (.t 34)⟩,
  ⟨some 36, (some (29, true)), 0, 0, .mv (.t 1)⟩,
  ⟨some 37, (some (29, true)), 0, 0, .bin .leq (.t 35) (.t 36)⟩,
  ⟨some 38, none, 0, 0, .pick (.t 29) (.t 37) (.k (.bool false))⟩,
  ⟨some 4, none, 0, 0, .mv (.t 38)⟩,
  ⟨some 5, none, 0, 0, .mv (.k (.int .i64 0))⟩])
 .ret))))) }
theorem ok54 : okFun Tryd.prog gl 54 h54 = true := by kernel_rfl
/- 71: headgate/zones.Free -/
def h71 : Fn := { np := 3, res := [.cell 6 true 2, .t 7], body :=
 (.seq (.reg [⟨some 3, none, 0, 0, .box true 2 (.t 0)⟩,
  ⟨some 6, none, 0, 0, .alloc [.int .i64 0, .nils]⟩,
  ⟨some 7, none, 0, 0, .mv (.k (.int .i64 0))⟩])
 (.seq (.reg [⟨some 13, none, 0, 0, .load true 2 (.t 3)⟩,
  ⟨some 14, none, 0, 0, .call 28 [.t 13]⟩,
  ⟨some 8, none, 0, 0, .mv (.t 14)⟩])
 (.seq (.seq (.reg [⟨some 15, none, 0, 0, .mv (.t 8)⟩,
  ⟨some 16, none, 0, 0, .bin .eql (.t 15) (.k (.int .i64 0))⟩,
  ⟨some 17, none, 0, 0, .mv (.t 16)⟩,
  ⟨some 18, (some (17, true)), 0, 0, .mv (.t 2)⟩,
  ⟨some 19, (some (17, true)), 0, 0, .bin .lss (.t 18) (.k (.int .i64 0))⟩,
  ⟨some 20, (some (17, true)), 0, 0, .mv (.t 19)⟩,
  ⟨some 21, (some (20, false)), 0, 0, .mv (.t 2)⟩,
  ⟨some 22, (some (20, false)), 0, 0, .bin .gtr (.t 21) (.k (.int .i64 6))⟩,
  ⟨some 23, (some (17, true)), 0, 0, .pick (.t 20) (.k (.bool true)) (.t 22)⟩,
  ⟨some 24, none, 0, 0, .pick (.t 17) (.t 23) (.k (.bool false))⟩])
 (.cond (.t 24)
 (.reg [⟨some 8, none, 0, 0, .mv (.k (.int .i64 2))⟩])
 .skip))
 (.seq (.seq (.reg [⟨some 25, none, 0, 0, .mv (.t 8)⟩,
  ⟨some 26, none, 0, 0, .bin .neq (.t 25) (.k (.int .i64 0))⟩])
 (.cond (.t 26)
 (.seq (.reg [⟨some 27, none, 0, 0, .build [.int .i64 0, .nils] []⟩,
  ⟨some 28, none, 0, 0, .mv (.t 8)⟩,
  ⟨none, none, 0, 0, .store true 2 (.t 6) (.t 27)⟩,
  ⟨some 7, none, 0, 0, .mv (.t 28)⟩])
 .ret)
 .skip))
 (.seq (.reg [⟨some 9, none, 0, 0, .mv (.k (.int .i64 0))⟩])
 (.seq (.seq (.reg [⟨some 29, none, 0, 0, .mv (.t 1)⟩,
  ⟨some 30, none, 0, 0, .fadr 0 (.t 3)⟩,
  ⟨some 31, none, 0, 0, .load false 1 (.t 30)⟩,
  ⟨some 32, none, 0, 0, .bin .geq (.t 29) (.t 31)⟩])
 (.cond (.t 32)
 (.reg [⟨some 9, none, 0, 0, .mv (.k (.int .i64 1))⟩])
 .skip))
 (.seq (.reg [⟨some 33, none, 0, 0, .load true 2 (.t 3)⟩,
  ⟨some 34, none, 0, 0, .build [.int .i64 0, .nils] [(0, 2, .t 33)]⟩,
  ⟨some 10, none, 0, 0, .alloc [.int .i64 0, .nils]⟩,
  ⟨none, none, 0, 0, .store true 2 (.t 10) (.t 34)⟩])
 (.seq (.reg [⟨some 35, none, 0, 0, .mv (.t 1)⟩,
  ⟨some 36, none, 0, 0, .load true 2 (.t 10)⟩,
  ⟨some 37, none, 0, 0, .mv (.t 9)⟩,
  ⟨some 38, none, 0, 0, .call 110 [.t 36, .t 37]⟩,
  ⟨some 39, none, 0, 0, .bin .sub (.t 35) (.t 38)⟩,
  ⟨some 11, none, 0, 0, .mv (.t 39)⟩])
 (.seq (.seq (.drw [⟨some 40, none, 0, 0, .mv (.t 1)⟩,
  ⟨some 41, none, 0, 0, .bin .lss (.t 40) (.k (.int .i64 0))⟩,
  ⟨some 42, none, 0, 0, .mv (.t 41)⟩,
  ⟨some 43, (some (42, false)), 0, 0, .mv (.t 11)⟩,
  ⟨some 44, (some (42, false)), 0, 0, .fadr 1 (.t 3)⟩,
  ⟨some 45, (some (42, false)), 0, 0, .load false 1 (.t 44)⟩,
  ⟨some 46, (some (42, false)), 0, 0, .mv (.t 9)⟩,
  ⟨some 47, (some (42, false)), 0, 0, .iadr 2 (.t 45) (.t 46)⟩,
  ⟨some 48, (some (42, false)), 0, 0, .fadr 0 (.t 47)⟩,
  ⟨some 49, (some (42, false)), 0, 0, .load false 1 (.t 48)⟩,
  ⟨some 50, (some (42, false)), 0, 0, .mv (.t 2)⟩,
  ⟨some 51, (some (42, false)), 0, 0, .bin .shl (.k (.int .i64 1)) (.t 50)⟩,
  ⟨some 52, (some (42, false)), 0, 0, .bin .sub (.t 49) (.t 51)⟩,
  ⟨some 53, (some (42, false)), 0, 0, .bin .gtr (.t 43) (.t 52)⟩,
  ⟨some 54, none, 0, 0, .pick (.t 42) (.k (.bool true)) (.t 53)⟩])
 (.cond (.t 54)
 (.seq (.reg [⟨some 55, none, 0, 0, .build [.int .i64 0, .nils] []⟩,
  ⟨none, none, 0, 0, .store true 2 (.t 6) (.t 55)⟩,
  ⟨some 7, none, 0, 0, .mv (.k (.int .i64 2))⟩])
 .ret)
 .skip))
 (.seq (.reg [⟨some 57, none, 0, 0, .fadr 1 (.t 3)⟩,
  ⟨some 58, none, 0, 0, .load false 1 (.t 57)⟩,
  ⟨some 59, none, 0, 0, .mv (.t 9)⟩,
  ⟨some 60, none, 0, 0, .iadr 2 (.t 58) (.t 59)⟩,
  ⟨some 61, none, 0, 0, .load true 2 (.t 60)⟩,
  ⟨some 62, none, 0, 0, .mv (.t 11)⟩,
  ⟨some 63, none, 0, 0, .mv (.t 2)⟩,
  ⟨some 64, none, 0, 0, .call 40 [.t 61, .t 62, .t 63]⟩,
  ⟨some 56, none, 0, 0, .mv (.t 64)⟩,
  ⟨some 65, none, 0, 0, .ext (.t 56) 0⟩,
  ⟨some 66, none, 0, 0, .ext (.t 56) 1⟩,
  ⟨some 12, none, 0, 0, .alloc [.int .i64 0, .nils]⟩,
  ⟨none, none, 0, 0, .store true 2 (.t 12) (.t 65)⟩,
  ⟨some 8, none, 0, 0, .mv (.t 66)⟩])
 (.seq (.reg [⟨some 67, none, 0, 0, .load true 2 (.t 10)⟩,
  ⟨some 68, none, 0, 0, .mv (.t 9)⟩,
  ⟨some 69, none, 0, 0, .load true 2 (.t 12)⟩,
  ⟨some 70, none, 0, 0, .call 78 [.t 67, .t 68, .t 69]⟩,
  ⟨some 71, none, 0, 0, .mv (.t 8)⟩,
  ⟨some 72, none, 0, 0, .call 79 [.t 70, .t 71]⟩,
  ⟨some 73, none, 0, 0, .ext (.t 72) 0⟩,
  ⟨some 74, none, 0, 0, .ext (.t 72) 1⟩,
  ⟨none, none, 0, 0, .store true 2 (.t 6) (.t 73)⟩,
  ⟨some 7, none, 0, 0, .mv (.t 74)⟩])
 .ret))))))))))) }
theorem ok71 : okFun Tryd.prog gl 71 h71 = true := by kernel_rfl
/- 73: headgate/headgatelaw11.begin -/
def h73 : Fn := { np := 0, res := [.cell 0 true 2, .t 1], body :=
 (.seq (.reg [⟨some 0, none, 0, 0, .alloc [.int .i64 0, .nils]⟩,
  ⟨some 1, none, 0, 0, .mv (.k (.bool false))⟩])
 (.seq (.reg [⟨some 5, none, 0, 0, .call 26 [.k (.int .i64 12), .k (.int .i64 8)]⟩,
  ⟨some 4, none, 0, 0, .mv (.t 5)⟩,
  ⟨some 6, none, 0, 0, .ext (.t 4) 0⟩,
  ⟨some 7, none, 0, 0, .ext (.t 4) 1⟩,
  ⟨some 2, none, 0, 0, .alloc [.int .i64 0, .nils]⟩,
  ⟨none, none, 0, 0, .store true 2 (.t 2) (.t 6)⟩,
  ⟨some 3, none, 0, 0, .mv (.t 7)⟩])
 (.seq (.reg [⟨some 8, none, 0, 0, .load true 2 (.t 2)⟩,
  ⟨some 9, none, 0, 0, .mv (.t 3)⟩,
  ⟨some 10, none, 0, 0, .bin .eql (.t 9) (.k (.int .i64 0))⟩,
  ⟨none, none, 0, 0, .store true 2 (.t 0) (.t 8)⟩,
  ⟨some 1, none, 0, 0, .mv (.t 10)⟩])
 .ret))) }
theorem ok73 : okFun Tryd.prog gl 73 h73 = true := by kernel_rfl
/- 75: (headgate/zones.both).alloc -/
def h75l0 : C := (.keep [1, 3, 6, 17, 18] (.seq (.reg [⟨some 19, none, 0, 0, .bin .lss (.t 18) (.k (.int .i64 2))⟩])
 (.seq (.cond (.t 19)
 .skip
 (.exit 0))
 (.seq (.block 1 (.seq (.reg [⟨some 20, none, 0, 0, .ida 2 1 false (.t 17) (.t 18)⟩,
  ⟨some 10, none, 0, 0, .mv (.t 20)⟩])
 (.seq (.reg [⟨some 22, none, 0, 0, .fadr 0 (.t 3)⟩,
  ⟨some 23, none, 0, 0, .fadr 1 (.t 22)⟩,
  ⟨some 24, none, 0, 0, .load false 1 (.t 23)⟩,
  ⟨some 25, none, 0, 0, .mv (.t 10)⟩,
  ⟨some 26, none, 0, 0, .iadr 2 (.t 24) (.t 25)⟩,
  ⟨some 27, none, 0, 0, .load true 2 (.t 26)⟩,
  ⟨some 28, none, 0, 0, .mv (.t 1)⟩,
  ⟨some 29, none, 0, 0, .call 45 [.t 27, .t 28]⟩,
  ⟨some 21, none, 0, 0, .mv (.t 29)⟩,
  ⟨some 30, none, 0, 0, .ext (.t 21) 0⟩,
  ⟨some 31, none, 0, 0, .ext (.t 21) 1⟩,
  ⟨some 32, none, 0, 0, .ext (.t 21) 2⟩,
  ⟨some 11, none, 0, 0, .alloc [.int .i64 0, .nils]⟩,
  ⟨none, none, 0, 0, .store true 2 (.t 11) (.t 30)⟩,
  ⟨some 12, none, 0, 0, .mv (.t 31)⟩,
  ⟨some 13, none, 0, 0, .mv (.t 32)⟩])
 (.seq (.seq (.reg [⟨some 33, none, 0, 0, .mv (.t 13)⟩,
  ⟨some 34, none, 0, 0, .bin .neq (.t 33) (.k (.int .i64 0))⟩])
 (.cond (.t 34)
 (.exit 1)
 .skip))
 (.seq (.drw [⟨some 35, none, 0, 0, .load true 2 (.t 3)⟩,
  ⟨some 36, none, 0, 0, .mv (.t 10)⟩,
  ⟨some 37, none, 0, 0, .load true 2 (.t 11)⟩,
  ⟨some 38, none, 0, 0, .call 78 [.t 35, .t 36, .t 37]⟩,
  ⟨some 39, none, 0, 1, .load true 2 (.t 3)⟩,
  ⟨some 40, none, 0, 1, .mv (.t 10)⟩,
  ⟨some 41, none, 0, 0, .call 110 [.t 39, .t 40]⟩,
  ⟨some 42, none, 0, 3, .mv (.t 12)⟩,
  ⟨some 43, none, 2, 3, .bin .add (.t 41) (.t 42)⟩,
  ⟨none, none, 0, 0, .store true 2 (.t 6) (.t 38)⟩,
  ⟨some 7, none, 3, 3, .mv (.t 43)⟩,
  ⟨some 8, none, 3, 3, .mv (.k (.int .i64 0))⟩])
 .ret)))))
 (.reg [⟨some 44, none, 0, 0, .bin .add (.t 18) (.k (.int .i64 1))⟩,
  ⟨some 18, none, 0, 0, .mv (.t 44)⟩])))))
def h75l1 : C := (.keep [1, 3, 6, 17, 18] (.seq (.reg [⟨some 19, none, 0, 0, .bin .lss (.t 18) (.k (.int .i64 2))⟩])
 (.seq (.cond (.t 19)
 .skip
 (.exit 0))
 (.seq (.block 1 (.seq (.reg [⟨some 20, none, 0, 0, .ida 2 1 false (.t 17) (.t 18)⟩,
  ⟨some 10, none, 0, 0, .mv (.t 20)⟩])
 (.seq (.reg [⟨some 22, none, 0, 0, .fadr 0 (.t 3)⟩,
  ⟨some 23, none, 0, 0, .fadr 1 (.t 22)⟩,
  ⟨some 24, none, 0, 0, .load false 1 (.t 23)⟩,
  ⟨some 25, none, 0, 0, .mv (.t 10)⟩,
  ⟨some 26, none, 0, 0, .iadr 2 (.t 24) (.t 25)⟩,
  ⟨some 27, none, 0, 0, .load true 2 (.t 26)⟩,
  ⟨some 28, none, 0, 0, .mv (.t 1)⟩,
  ⟨some 29, none, 0, 0, .call 45 [.t 27, .t 28]⟩,
  ⟨some 21, none, 0, 0, .mv (.t 29)⟩,
  ⟨some 30, none, 0, 0, .ext (.t 21) 0⟩,
  ⟨some 31, none, 0, 0, .ext (.t 21) 1⟩,
  ⟨some 32, none, 0, 0, .ext (.t 21) 2⟩,
  ⟨some 11, none, 0, 0, .alloc [.int .i64 0, .nils]⟩,
  ⟨none, none, 0, 0, .store true 2 (.t 11) (.t 30)⟩,
  ⟨some 12, none, 0, 0, .mv (.t 31)⟩,
  ⟨some 13, none, 0, 0, .mv (.t 32)⟩])
 (.seq (.seq (.reg [⟨some 33, none, 0, 0, .mv (.t 13)⟩,
  ⟨some 34, none, 0, 0, .bin .neq (.t 33) (.k (.int .i64 0))⟩])
 (.cond (.t 34)
 (.exit 1)
 .skip))
 (.seq (.drw [⟨some 35, none, 0, 0, .load true 2 (.t 3)⟩,
  ⟨some 36, none, 0, 0, .mv (.t 10)⟩,
  ⟨some 37, none, 0, 0, .load true 2 (.t 11)⟩,
  ⟨some 38, none, 0, 0, .call 78 [.t 35, .t 36, .t 37]⟩,
  ⟨some 39, none, 0, 1, .load true 2 (.t 3)⟩,
  ⟨some 40, none, 0, 1, .mv (.t 10)⟩,
  ⟨some 41, none, 0, 0, .call 110 [.t 39, .t 40]⟩,
  ⟨some 42, none, 0, 3, .mv (.t 12)⟩,
  ⟨some 43, none, 2, 3, .bin .add (.t 41) (.t 42)⟩,
  ⟨none, none, 0, 0, .store true 2 (.t 6) (.t 38)⟩,
  ⟨some 7, none, 3, 3, .mv (.t 43)⟩,
  ⟨some 8, none, 3, 3, .mv (.k (.int .i64 0))⟩])
 .ret)))))
 (.reg [⟨some 44, none, 0, 0, .bin .add (.t 18) (.k (.int .i64 1))⟩,
  ⟨some 18, none, 0, 0, .mv (.t 44)⟩])))))
def h75 : Fn := { np := 3, res := [.cell 6 true 2, .t 7, .t 8], body :=
 (.seq (.reg [⟨some 3, none, 0, 0, .box true 2 (.t 0)⟩,
  ⟨some 6, none, 0, 0, .alloc [.int .i64 0, .nils]⟩,
  ⟨some 7, none, 0, 0, .mv (.k (.int .i64 0))⟩,
  ⟨some 8, none, 0, 0, .mv (.k (.int .i64 0))⟩])
 (.scope 0
 (.seq .skip
 (.seq (.seq (.reg [⟨some 14, none, 0, 0, .mv (.t 2)⟩,
  ⟨some 15, none, 0, 0, .mv (.t 2)⟩,
  ⟨some 16, none, 0, 0, .bin .sub (.k (.int .i64 1)) (.t 15)⟩,
  ⟨some 17, none, 0, 0, .build [.int .i64 0, .int .i64 0] [(0, 1, .t 14), (1, 1, .t 16)]⟩,
  ⟨some 18, none, 0, 0, .mv (.k (.int .i64 0))⟩])
 (.block 0 (.loop h75l1)))
 (.seq (.reg [⟨some 45, none, 0, 0, .build [.int .i64 0, .nils] []⟩,
  ⟨none, none, 0, 0, .store true 2 (.t 6) (.t 45)⟩,
  ⟨some 7, none, 0, 0, .mv (.k (.int .i64 0))⟩,
  ⟨some 8, none, 0, 0, .mv (.k (.int .i64 5))⟩])
 .ret)))
 (.seq .skip
 (.seq (.seq (.reg [⟨some 14, none, 0, 0, .mv (.t 2)⟩,
  ⟨some 15, none, 0, 0, .mv (.t 2)⟩,
  ⟨some 16, none, 0, 0, .bin .sub (.k (.int .i64 1)) (.t 15)⟩,
  ⟨some 17, none, 0, 0, .build [.int .i64 0, .int .i64 0] [(0, 1, .t 14), (1, 1, .t 16)]⟩,
  ⟨some 18, none, 0, 0, .mv (.k (.int .i64 0))⟩])
 (.block 0 (.loop h75l0)))
 (.seq (.reg [⟨some 45, none, 0, 0, .build [.int .i64 0, .nils] []⟩,
  ⟨none, none, 0, 0, .store true 2 (.t 6) (.t 45)⟩,
  ⟨some 7, none, 0, 0, .mv (.k (.int .i64 0))⟩,
  ⟨some 8, none, 0, 0, .mv (.k (.int .i64 5))⟩])
 .ret))))) }
theorem ok75 : okFun Tryd.prog gl 75 h75 = true := by kernel_rfl
/- 78: (headgate/zones.both).with -/
def h78l0 : C := (.keep [1, 5, 6, 7, 16, 17, 18] (.seq (.reg [⟨some 19, none, 0, 0, .bin .lss (.t 18) (.t 17)⟩])
 (.seq (.cond (.t 19)
 .skip
 (.exit 0))
 (.seq (.block 1 (.seq (.reg [⟨some 20, none, 0, 0, .mv (.t 18)⟩,
  ⟨some 21, none, 0, 0, .iadr 2 (.t 16) (.t 18)⟩,
  ⟨some 22, none, 0, 0, .load true 2 (.t 21)⟩,
  ⟨some 9, none, 0, 0, .alloc [.int .i64 0, .nils]⟩,
  ⟨some 8, none, 0, 0, .mv (.t 20)⟩,
  ⟨none, none, 0, 0, .store true 2 (.t 9) (.t 22)⟩])
 (.seq (.seq (.reg [⟨some 23, none, 0, 0, .mv (.t 8)⟩,
  ⟨some 24, none, 0, 0, .mv (.t 1)⟩,
  ⟨some 25, none, 0, 0, .bin .eql (.t 23) (.t 24)⟩])
 (.cond (.t 25)
 (.reg [⟨some 26, none, 0, 0, .load true 2 (.t 5)⟩,
  ⟨none, none, 0, 0, .store true 2 (.t 9) (.t 26)⟩])
 .skip))
 (.drw [⟨some 27, none, 0, 1, .fadr 1 (.t 7)⟩,
  ⟨some 28, none, 0, 1, .load false 1 (.t 27)⟩,
  ⟨some 29, none, 0, 1, .fadr 0 (.t 9)⟩,
  ⟨some 30, none, 0, 1, .load false 1 (.t 29)⟩,
  ⟨some 31, none, 0, 0, .fadr 1 (.t 9)⟩,
  ⟨some 32, none, 0, 0, .load false 1 (.t 31)⟩,
  ⟨some 33, none, 0, 0, .call 94 [.t 32]⟩,
  ⟨some 34, none, 1, 1, .build [.int .i64 0, .nils] [(0, 1, .t 30), (1, 1, .t 33)]⟩,
  ⟨some 35, none, 1, 1, .bsl 2 [.int .i64 0, .nils] 1 [(0, .t 34)]⟩,
  ⟨some 36, none, 0, 0, .app 2 32 [.int .i64 0, .nils] (.t 28) (.t 35)⟩,
  ⟨some 37, none, 2, 2, .fadr 1 (.t 7)⟩,
  ⟨none, none, 0, 0, .store false 1 (.t 37) (.t 36)⟩]))))
 (.reg [⟨some 38, none, 0, 0, .bin .add (.t 18) (.k (.int .i64 1))⟩,
  ⟨some 18, none, 0, 0, .mv (.t 38)⟩])))))
def h78 : Fn := { np := 3, res := [.cell 6 true 2], body :=
 (.seq (.reg [⟨some 3, none, 0, 0, .box true 2 (.t 0)⟩,
  ⟨some 5, none, 0, 0, .box true 2 (.t 2)⟩,
  ⟨some 6, none, 0, 0, .alloc [.int .i64 0, .nils]⟩])
 (.seq (.reg [⟨some 10, none, 0, 0, .fadr 0 (.t 3)⟩,
  ⟨some 11, none, 0, 0, .fadr 0 (.t 10)⟩,
  ⟨some 12, none, 0, 0, .load false 1 (.t 11)⟩,
  ⟨some 13, none, 0, 0, .build [.int .i64 0, .nils] [(0, 1, .t 12)]⟩,
  ⟨some 7, none, 0, 0, .alloc [.int .i64 0, .nils]⟩,
  ⟨none, none, 0, 0, .store true 2 (.t 7) (.t 13)⟩])
 (.seq (.seq (.reg [⟨some 14, none, 0, 0, .fadr 0 (.t 3)⟩,
  ⟨some 15, none, 0, 0, .fadr 1 (.t 14)⟩,
  ⟨some 16, none, 0, 0, .load false 1 (.t 15)⟩,
  ⟨some 17, none, 0, 0, .len false (.t 16)⟩,
  ⟨some 18, none, 0, 0, .mv (.k (.int .i64 0))⟩])
 (.block 0 (.loop h78l0)))
 (.seq (.reg [⟨some 39, none, 0, 0, .load true 2 (.t 7)⟩,
  ⟨none, none, 0, 0, .store true 2 (.t 6) (.t 39)⟩])
 .ret)))) }
theorem ok78 : okFun Tryd.prog gl 78 h78 = true := by kernel_rfl
/- 79: headgate/zones.or(headgate/api.Zones) -/
def h79 : Fn := { np := 2, res := [.cell 4 true 2, .t 5], body :=
 (.seq (.reg [⟨some 2, none, 0, 0, .box true 2 (.t 0)⟩,
  ⟨some 4, none, 0, 0, .alloc [.int .i64 0, .nils]⟩,
  ⟨some 5, none, 0, 0, .mv (.k (.int .i64 0))⟩])
 (.seq (.seq (.reg [⟨some 7, none, 0, 0, .mv (.t 1)⟩,
  ⟨some 8, none, 0, 0, .bin .neq (.t 7) (.k (.int .i64 0))⟩])
 (.cond (.t 8)
 (.seq (.reg [⟨some 6, none, 0, 0, .alloc [.int .i64 0, .nils]⟩])
 (.seq (.reg [⟨some 9, none, 0, 0, .load true 2 (.t 6)⟩,
  ⟨some 10, none, 0, 0, .mv (.t 1)⟩,
  ⟨none, none, 0, 0, .store true 2 (.t 4) (.t 9)⟩,
  ⟨some 5, none, 0, 0, .mv (.t 10)⟩])
 .ret))
 .skip))
 (.seq (.reg [⟨some 11, none, 0, 0, .load true 2 (.t 2)⟩,
  ⟨none, none, 0, 0, .store true 2 (.t 4) (.t 11)⟩,
  ⟨some 5, none, 0, 0, .mv (.k (.int .i64 0))⟩])
 .ret))) }
theorem ok79 : okFun Tryd.prog gl 79 h79 = true := by kernel_rfl
/- 82: headgate/zones.found -/
def h82 : Fn := { np := 2, res := [.t 4, .t 5, .t 6], body :=
 (.seq (.reg [⟨some 2, none, 0, 0, .box true 2 (.t 0)⟩,
  ⟨some 4, none, 0, 0, .mv (.k (.int .i64 0))⟩,
  ⟨some 5, none, 0, 0, .mv (.k (.int .i64 0))⟩,
  ⟨some 6, none, 0, 0, .mv (.k (.int .i64 0))⟩])
 (.seq (.seq (.reg [⟨some 9, none, 0, 0, .load true 2 (.t 2)⟩,
  ⟨some 10, none, 0, 0, .call 28 [.t 9]⟩,
  ⟨some 7, none, 0, 0, .mv (.t 10)⟩])
 (.seq (.reg [⟨some 11, none, 0, 0, .mv (.t 7)⟩,
  ⟨some 12, none, 0, 0, .bin .neq (.t 11) (.k (.int .i64 0))⟩])
 (.cond (.t 12)
 (.seq (.reg [⟨some 13, none, 0, 0, .mv (.t 7)⟩,
  ⟨some 4, none, 0, 0, .mv (.k (.int .i64 0))⟩,
  ⟨some 5, none, 0, 0, .mv (.k (.int .i64 0))⟩,
  ⟨some 6, none, 0, 0, .mv (.t 13)⟩])
 .ret)
 .skip)))
 (.seq (.reg [⟨some 14, none, 0, 0, .load true 2 (.t 2)⟩,
  ⟨some 15, none, 0, 0, .build [.int .i64 0, .nils] [(0, 2, .t 14)]⟩,
  ⟨some 8, none, 0, 0, .alloc [.int .i64 0, .nils]⟩,
  ⟨none, none, 0, 0, .store true 2 (.t 8) (.t 15)⟩])
 (.seq (.block 0 (.seq (.reg [⟨some 17, none, 0, 0, .mv (.t 1)⟩,
  ⟨some 18, none, 0, 0, .bin .lss (.t 17) (.k (.int .i64 0))⟩,
  ⟨some 19, none, 0, 0, .mv (.t 18)⟩,
  ⟨some 20, (some (19, false)), 0, 0, .mv (.t 1)⟩,
  ⟨some 21, (some (19, false)), 0, 0, .load true 2 (.t 8)⟩,
  ⟨some 22, (some (19, false)), 0, 0, .call 116 [.t 21]⟩,
  ⟨some 23, (some (19, false)), 0, 0, .bin .geq (.t 20) (.t 22)⟩,
  ⟨some 24, none, 0, 0, .pick (.t 19) (.k (.bool true)) (.t 23)⟩,
  ⟨some 16, none, 0, 0, .mv (.t 24)⟩])
 (.cond (.t 16)
 (.seq (.reg [⟨some 4, none, 0, 0, .mv (.k (.int .i64 0))⟩,
  ⟨some 5, none, 0, 0, .mv (.k (.int .i64 0))⟩,
  ⟨some 6, none, 0, 0, .mv (.k (.int .i64 2))⟩])
 .ret)
 (.seq (.reg [⟨some 26, none, 0, 0, .mv (.t 1)⟩,
  ⟨some 27, none, 0, 0, .fadr 0 (.t 2)⟩,
  ⟨some 28, none, 0, 0, .load false 1 (.t 27)⟩,
  ⟨some 29, none, 0, 0, .bin .lss (.t 26) (.t 28)⟩,
  ⟨some 25, none, 0, 0, .mv (.t 29)⟩])
 (.cond (.t 25)
 (.seq (.reg [⟨some 30, none, 0, 0, .mv (.t 1)⟩,
  ⟨some 4, none, 0, 0, .mv (.k (.int .i64 0))⟩,
  ⟨some 5, none, 0, 0, .mv (.t 30)⟩,
  ⟨some 6, none, 0, 0, .mv (.k (.int .i64 0))⟩])
 .ret)
 .skip)))))
 (.seq (.drw [⟨some 31, none, 0, 0, .mv (.t 1)⟩,
  ⟨some 32, none, 0, 0, .fadr 0 (.t 2)⟩,
  ⟨some 33, none, 0, 0, .load false 1 (.t 32)⟩,
  ⟨some 34, none, 0, 0, .bin .sub (.t 31) (.t 33)⟩,
  ⟨some 4, none, 0, 0, .mv (.k (.int .i64 1))⟩,
  ⟨some 5, none, 0, 0, .mv (.t 34)⟩,
  ⟨some 6, none, 0, 0, .mv (.k (.int .i64 0))⟩])
 .ret))))) }
theorem ok82 : okFun Tryd.prog gl 82 h82 = true := by kernel_rfl
/- 84: headgate/zones.or(bool) -/
def h84 : Fn := { np := 2, res := [.t 4, .t 5], body :=
 (.seq (.reg [⟨some 4, none, 0, 0, .mv (.k (.bool false))⟩,
  ⟨some 5, none, 0, 0, .mv (.k (.int .i64 0))⟩])
 (.seq (.seq (.reg [⟨some 7, none, 0, 0, .mv (.t 1)⟩,
  ⟨some 8, none, 0, 0, .bin .neq (.t 7) (.k (.int .i64 0))⟩])
 (.cond (.t 8)
 (.seq (.reg [⟨some 6, none, 0, 0, .mv (.k (.bool false))⟩])
 (.seq (.reg [⟨some 9, none, 0, 0, .mv (.t 6)⟩,
  ⟨some 10, none, 0, 0, .mv (.t 1)⟩,
  ⟨some 4, none, 0, 0, .mv (.t 9)⟩,
  ⟨some 5, none, 0, 0, .mv (.t 10)⟩])
 .ret))
 .skip))
 (.seq (.reg [⟨some 11, none, 0, 0, .mv (.t 0)⟩,
  ⟨some 4, none, 0, 0, .mv (.t 11)⟩,
  ⟨some 5, none, 0, 0, .mv (.k (.int .i64 0))⟩])
 .ret))) }
theorem ok84 : okFun Tryd.prog gl 84 h84 = true := by kernel_rfl
/- 86: headgate/zones.or(int) -/
def h86 : Fn := { np := 2, res := [.t 4, .t 5], body :=
 (.seq (.reg [⟨some 4, none, 0, 0, .mv (.k (.int .i64 0))⟩,
  ⟨some 5, none, 0, 0, .mv (.k (.int .i64 0))⟩])
 (.seq (.seq (.reg [⟨some 7, none, 0, 0, .mv (.t 1)⟩,
  ⟨some 8, none, 0, 0, .bin .neq (.t 7) (.k (.int .i64 0))⟩])
 (.cond (.t 8)
 (.seq (.reg [⟨some 6, none, 0, 0, .mv (.k (.int .i64 0))⟩])
 (.seq (.reg [⟨some 9, none, 0, 0, .mv (.t 6)⟩,
  ⟨some 10, none, 0, 0, .mv (.t 1)⟩,
  ⟨some 4, none, 0, 0, .mv (.t 9)⟩,
  ⟨some 5, none, 0, 0, .mv (.t 10)⟩])
 .ret))
 .skip))
 (.seq (.reg [⟨some 11, none, 0, 0, .mv (.t 0)⟩,
  ⟨some 4, none, 0, 0, .mv (.t 11)⟩,
  ⟨some 5, none, 0, 0, .mv (.k (.int .i64 0))⟩])
 .ret))) }
theorem ok86 : okFun Tryd.prog gl 86 h86 = true := by kernel_rfl
/- 88: math/bits.Len -/
def h88 : Fn := { np := 1, res := [.t 2], body :=
 (.seq (.reg [⟨some 2, none, 0, 0, .mv (.k (.int .i64 0))⟩])
 (.seq (.cond (.k (.bool false))
 (.seq (.reg [⟨some 3, none, 0, 0, .mv (.t 0)⟩,
  ⟨some 4, none, 0, 0, .cv .u32 (.t 3)⟩,
  ⟨some 5, none, 0, 0, .call 118 [.t 4]⟩,
  ⟨some 2, none, 0, 0, .mv (.t 5)⟩])
 .ret)
 .skip)
 (.seq (.reg [⟨some 6, none, 0, 0, .mv (.t 0)⟩,
  ⟨some 7, none, 0, 0, .call 119 [.t 6]⟩,
  ⟨some 2, none, 0, 0, .mv (.t 7)⟩])
 .ret))) }
theorem ok88 : okFun Tryd.prog gl 88 h88 = true := by kernel_rfl
/- 89: math/bits.TrailingZeros -/
def h89 : Fn := { np := 1, res := [.t 2], body :=
 (.seq (.reg [⟨some 2, none, 0, 0, .mv (.k (.int .i64 0))⟩])
 (.seq (.cond (.k (.bool false))
 (.seq (.reg [⟨some 3, none, 0, 0, .mv (.t 0)⟩,
  ⟨some 4, none, 0, 0, .cv .u32 (.t 3)⟩,
  ⟨some 5, none, 0, 0, .call 120 [.t 4]⟩,
  ⟨some 2, none, 0, 0, .mv (.t 5)⟩])
 .ret)
 .skip)
 (.seq (.reg [⟨some 6, none, 0, 0, .mv (.t 0)⟩,
  ⟨some 7, none, 0, 0, .call 121 [.t 6]⟩,
  ⟨some 2, none, 0, 0, .mv (.t 7)⟩])
 .ret))) }
theorem ok89 : okFun Tryd.prog gl 89 h89 = true := by kernel_rfl
/- 90: headgate/buddy.size -/
def h90 : Fn := { np := 1, res := [.t 2], body :=
 (.seq (.reg [⟨some 2, none, 0, 0, .mv (.k (.int .i64 0))⟩])
 (.seq (.reg [⟨some 3, none, 0, 0, .mv (.t 0)⟩,
  ⟨some 4, none, 0, 0, .cv .u64 (.t 3)⟩,
  ⟨some 5, none, 0, 0, .bin .shl (.k (.int .i64 1)) (.t 4)⟩,
  ⟨some 2, none, 0, 0, .mv (.t 5)⟩])
 .ret)) }
theorem ok90 : okFun Tryd.prog gl 90 h90 = true := by kernel_rfl
/- 91: headgate/buddy.placed -/
def h91 : Fn := { np := 3, res := [.t 6], body :=
 (.seq (.reg [⟨some 3, none, 0, 0, .box true 2 (.t 0)⟩,
  ⟨some 6, none, 0, 0, .mv (.k (.int .i64 0))⟩])
 (.seq (.seq (.reg [⟨some 8, none, 0, 0, .load true 2 (.t 3)⟩,
  ⟨some 9, none, 0, 0, .mv (.t 2)⟩,
  ⟨some 10, none, 0, 0, .call 98 [.t 8, .t 9]⟩,
  ⟨some 7, none, 0, 0, .mv (.t 10)⟩])
 (.seq (.reg [⟨some 11, none, 0, 0, .mv (.t 7)⟩,
  ⟨some 12, none, 0, 0, .bin .neq (.t 11) (.k (.int .i64 0))⟩])
 (.cond (.t 12)
 (.seq (.reg [⟨some 13, none, 0, 0, .mv (.t 7)⟩,
  ⟨some 6, none, 0, 0, .mv (.t 13)⟩])
 .ret)
 .skip)))
 (.seq (.block 0 (.seq (.reg [⟨some 15, none, 0, 0, .load true 2 (.t 3)⟩,
  ⟨some 16, none, 0, 0, .mv (.t 1)⟩,
  ⟨some 17, none, 0, 0, .mv (.t 2)⟩,
  ⟨some 18, none, 0, 0, .call 100 [.t 15, .t 16, .t 17]⟩,
  ⟨some 19, none, 0, 0, .un .not (.t 18)⟩,
  ⟨some 14, none, 0, 0, .mv (.t 19)⟩])
 (.cond (.t 14)
 (.seq (.reg [⟨some 6, none, 0, 0, .mv (.k (.int .i64 2))⟩])
 .ret)
 (.seq (.reg [⟨some 21, none, 0, 0, .mv (.t 1)⟩,
  ⟨some 22, none, 0, 0, .mv (.t 2)⟩,
  ⟨some 23, none, 0, 0, .call 90 [.t 22]⟩,
  ⟨some 24, none, 0, 0, .bin .rem (.t 21) (.t 23)⟩,
  ⟨some 25, none, 0, 0, .bin .neq (.t 24) (.k (.int .i64 0))⟩,
  ⟨some 20, none, 0, 0, .mv (.t 25)⟩])
 (.cond (.t 20)
 (.seq (.reg [⟨some 6, none, 0, 0, .mv (.k (.int .i64 13))⟩])
 .ret)
 .skip)))))
 (.seq (.reg [⟨some 6, none, 0, 0, .mv (.k (.int .i64 0))⟩])
 .ret)))) }
theorem ok91 : okFun Tryd.prog gl 91 h91 = true := by kernel_rfl
/- 92: headgate/buddy.after -/
def h92 : Fn := { np := 2, res := [.t 4], body :=
 (.seq (.reg [⟨some 2, none, 0, 0, .box true 2 (.t 0)⟩,
  ⟨some 4, none, 0, 0, .mv (.k (.int .i64 0))⟩])
 (.seq (.reg [⟨some 8, none, 0, 0, .fadr 1 (.t 2)⟩,
  ⟨some 9, none, 0, 0, .load false 1 (.t 8)⟩,
  ⟨some 10, none, 0, 0, .mv (.t 1)⟩,
  ⟨some 11, none, 0, 0, .call 122 [.t 9, .t 10, .k (.fn 123 [])]⟩,
  ⟨some 7, none, 0, 0, .mv (.t 11)⟩,
  ⟨some 12, none, 0, 0, .ext (.t 7) 0⟩,
  ⟨some 13, none, 0, 0, .ext (.t 7) 1⟩,
  ⟨some 5, none, 0, 0, .mv (.t 12)⟩,
  ⟨some 6, none, 0, 0, .mv (.t 13)⟩])
 (.seq (.reg [⟨some 14, none, 0, 0, .mv (.t 5)⟩,
  ⟨some 4, none, 0, 0, .mv (.t 14)⟩])
 .ret))) }
theorem ok92 : okFun Tryd.prog gl 92 h92 = true := by kernel_rfl
/- 93: slices.Insert(()headgate/api.Block,headgate/api.Block) -/
def h93 : Fn := { np := 3, res := [.t 6], body := insC 2 16 [.int .i64 0, .int .i64 0], ins := some (2, 16) }
theorem ok93 : okFun Tryd.prog gl 93 h93 = true := by kernel_rfl
/- 94: slices.Clone(()headgate/api.Block,headgate/api.Block) -/
def h94 : Fn := { np := 1, res := [.t 2], body :=
 (.seq (.reg [⟨some 2, none, 0, 0, .mv (.k (.nils))⟩])
 (.seq (.seq (.reg [⟨some 3, none, 0, 0, .mv (.t 0)⟩,
  ⟨some 4, none, 0, 0, .eqb false 2 (.t 3) (.k (.nils))⟩])
 (.cond (.t 4)
 (.seq (.reg [⟨some 2, none, 0, 0, .mv (.k (.nils))⟩])
 .ret)
 .skip))
 (.seq (.reg [⟨some 5, none, 0, 0, .bsl 2 [.int .i64 0, .int .i64 0] 0 []⟩,
  ⟨some 6, none, 0, 0, .mv (.t 0)⟩,
  ⟨some 7, none, 0, 0, .app 2 16 [.int .i64 0, .int .i64 0] (.t 5) (.t 6)⟩,
  ⟨some 2, none, 0, 0, .mv (.t 7)⟩])
 .ret))) }
theorem ok94 : okFun Tryd.prog gl 94 h94 = true := by kernel_rfl
/- 95: headgate/buddy.pair -/
def h95 : Fn := { np := 2, res := [.t 4], body :=
 (.seq (.reg [⟨some 4, none, 0, 0, .mv (.k (.int .i64 0))⟩])
 (.seq (.reg [⟨some 5, none, 0, 0, .mv (.t 0)⟩,
  ⟨some 6, none, 0, 0, .mv (.t 1)⟩,
  ⟨some 7, none, 0, 0, .cv .u64 (.t 6)⟩,
  ⟨some 8, none, 0, 0, .bin .shl (.k (.int .i64 1)) (.t 7)⟩,
  ⟨some 9, none, 0, 0, .bin .xor (.t 5) (.t 8)⟩,
  ⟨some 4, none, 0, 0, .mv (.t 9)⟩])
 .ret)) }
theorem ok95 : okFun Tryd.prog gl 95 h95 = true := by kernel_rfl
/- 96: slices.Index(()headgate/api.Block,headgate/api.Block) -/
def h96l0 : C := (.keep [0, 3, 7, 8] (.seq (.reg [⟨some 9, none, 0, 0, .bin .lss (.t 8) (.t 7)⟩])
 (.seq (.cond (.t 9)
 .skip
 (.exit 0))
 (.seq (.block 1 (.seq (.reg [⟨some 10, none, 0, 0, .mv (.t 8)⟩,
  ⟨some 5, none, 0, 0, .mv (.t 10)⟩])
 (.seq (.drw [⟨some 11, none, 0, 0, .load true 2 (.t 3)⟩,
  ⟨some 12, none, 0, 0, .mv (.t 0)⟩,
  ⟨some 13, none, 0, 0, .mv (.t 5)⟩,
  ⟨some 14, none, 0, 0, .iadr 2 (.t 12) (.t 13)⟩,
  ⟨some 15, none, 0, 0, .load true 2 (.t 14)⟩,
  ⟨some 16, none, 0, 0, .eqa false [1, 1] (.t 11) (.t 15)⟩])
 (.cond (.t 16)
 (.seq (.reg [⟨some 17, none, 0, 0, .mv (.t 5)⟩,
  ⟨some 4, none, 0, 0, .mv (.t 17)⟩])
 .ret)
 .skip))))
 (.reg [⟨some 18, none, 0, 0, .bin .add (.t 8) (.k (.int .i64 1))⟩,
  ⟨some 8, none, 0, 0, .mv (.t 18)⟩])))))
def h96 : Fn := { np := 2, res := [.t 4], body :=
 (.seq (.reg [⟨some 3, none, 0, 0, .box true 2 (.t 1)⟩,
  ⟨some 4, none, 0, 0, .mv (.k (.int .i64 0))⟩])
 (.seq (.seq (.reg [⟨some 6, none, 0, 0, .mv (.t 0)⟩,
  ⟨some 7, none, 0, 0, .len false (.t 6)⟩,
  ⟨some 8, none, 0, 0, .mv (.k (.int .i64 0))⟩])
 (.block 0 (.loop h96l0)))
 (.seq (.reg [⟨some 4, none, 0, 0, .mv (.k (.int .i64 (-1)))⟩])
 .ret))) }
theorem ok96 : okFun Tryd.prog gl 96 h96 = true := by kernel_rfl
/- 97: slices.Delete(()headgate/api.Block,headgate/api.Block) -/
def h97 : Fn := { np := 3, res := [.t 6], body :=
 (.seq (.reg [⟨some 6, none, 0, 0, .mv (.k (.nils))⟩])
 (.seq (.reg [⟨some 8, none, 0, 0, .mv (.t 0)⟩,
  ⟨some 9, none, 0, 0, .mv (.t 1)⟩,
  ⟨some 10, none, 0, 0, .mv (.t 2)⟩,
  ⟨some 11, none, 0, 0, .mv (.t 0)⟩,
  ⟨some 12, none, 0, 0, .len false (.t 11)⟩,
  ⟨some 13, none, 0, 0, .sl 2 (.t 8) (some (.t 9)) (some (.t 10)) (some (.t 12))⟩])
 (.seq (.seq (.reg [⟨some 14, none, 0, 0, .mv (.t 1)⟩,
  ⟨some 15, none, 0, 0, .mv (.t 2)⟩,
  ⟨some 16, none, 0, 0, .bin .eql (.t 14) (.t 15)⟩])
 (.cond (.t 16)
 (.seq (.reg [⟨some 17, none, 0, 0, .mv (.t 0)⟩,
  ⟨some 6, none, 0, 0, .mv (.t 17)⟩])
 .ret)
 .skip))
 (.seq (.reg [⟨some 18, none, 0, 0, .mv (.t 0)⟩,
  ⟨some 19, none, 0, 0, .len false (.t 18)⟩,
  ⟨some 7, none, 0, 0, .mv (.t 19)⟩])
 (.seq (.drw [⟨some 20, none, 0, 0, .mv (.t 0)⟩,
  ⟨some 21, none, 0, 0, .mv (.t 1)⟩,
  ⟨some 22, none, 0, 0, .sl 2 (.t 20) none (some (.t 21)) none⟩,
  ⟨some 23, none, 0, 0, .mv (.t 0)⟩,
  ⟨some 24, none, 0, 0, .mv (.t 2)⟩,
  ⟨some 25, none, 0, 0, .sl 2 (.t 23) (some (.t 24)) none none⟩,
  ⟨some 26, none, 0, 0, .app 2 16 [.int .i64 0, .int .i64 0] (.t 22) (.t 25)⟩,
  ⟨some 0, none, 1, 1, .mv (.t 26)⟩])
 (.seq (.reg [⟨some 27, none, 0, 0, .mv (.t 0)⟩,
  ⟨some 28, none, 0, 0, .mv (.t 0)⟩,
  ⟨some 29, none, 0, 0, .len false (.t 28)⟩,
  ⟨some 30, none, 0, 0, .mv (.t 7)⟩,
  ⟨some 31, none, 0, 0, .sl 2 (.t 27) (some (.t 29)) (some (.t 30)) none⟩,
  ⟨none, none, 0, 0, .clr 2 [.int .i64 0, .int .i64 0] (.t 31)⟩])
 (.seq (.reg [⟨some 32, none, 0, 0, .mv (.t 0)⟩,
  ⟨some 6, none, 0, 0, .mv (.t 32)⟩])
 .ret))))))) }
theorem ok97 : okFun Tryd.prog gl 97 h97 = true := by kernel_rfl
/- 98: headgate/buddy.open -/
def h98 : Fn := { np := 2, res := [.t 4], body :=
 (.seq (.reg [⟨some 2, none, 0, 0, .box true 2 (.t 0)⟩,
  ⟨some 4, none, 0, 0, .mv (.k (.int .i64 0))⟩])
 (.seq (.reg [⟨some 8, none, 0, 0, .load true 2 (.t 2)⟩,
  ⟨some 9, none, 0, 0, .call 46 [.t 8]⟩,
  ⟨some 7, none, 0, 0, .mv (.t 9)⟩,
  ⟨some 10, none, 0, 0, .ext (.t 7) 0⟩,
  ⟨some 11, none, 0, 0, .ext (.t 7) 1⟩,
  ⟨some 5, none, 0, 0, .mv (.t 10)⟩,
  ⟨some 6, none, 0, 0, .mv (.t 11)⟩])
 (.seq (.seq (.reg [⟨some 12, none, 0, 0, .mv (.t 5)⟩,
  ⟨some 13, none, 0, 0, .bin .eql (.t 12) (.k (.int .i64 0))⟩,
  ⟨some 14, none, 0, 0, .mv (.t 13)⟩,
  ⟨some 15, (some (14, true)), 0, 0, .mv (.t 1)⟩,
  ⟨some 16, (some (14, true)), 0, 0, .bin .lss (.t 15) (.k (.int .i64 0))⟩,
  ⟨some 17, (some (14, true)), 0, 0, .mv (.t 16)⟩,
  ⟨some 18, (some (17, false)), 0, 0, .mv (.t 1)⟩,
  ⟨some 19, (some (17, false)), 0, 0, .bin .gtr (.t 18) (.k (.int .i64 6))⟩,
  ⟨some 20, (some (14, true)), 0, 0, .pick (.t 17) (.k (.bool true)) (.t 19)⟩,
  ⟨some 21, none, 0, 0, .pick (.t 14) (.t 20) (.k (.bool false))⟩])
 (.cond (.t 21)
 (.reg [⟨some 5, none, 0, 0, .mv (.k (.int .i64 2))⟩])
 .skip))
 (.seq (.reg [⟨some 22, none, 0, 0, .mv (.t 5)⟩,
  ⟨some 4, none, 0, 0, .mv (.t 22)⟩])
 .ret)))) }
theorem ok98 : okFun Tryd.prog gl 98 h98 = true := by kernel_rfl
/- 99: headgate/buddy.carve -/
def h99l0 : C := (.keep [1, 2, 3, 4, 8, 9, 10, 11] (.seq (.seq (.reg [⟨some 19, none, 0, 0, .fadr 1 (.t 9)⟩,
  ⟨some 20, none, 0, 0, .load false 1 (.t 19)⟩,
  ⟨some 21, none, 0, 0, .mv (.t 3)⟩,
  ⟨some 22, none, 0, 0, .bin .gtr (.t 20) (.t 21)⟩])
 (.cond (.t 22)
 .skip
 (.exit 0)))
 (.block 1 (.seq (.reg [⟨some 23, none, 0, 0, .fadr 1 (.t 9)⟩,
  ⟨some 24, none, 0, 0, .load false 1 (.t 23)⟩,
  ⟨some 25, none, 0, 0, .bin .sub (.t 24) (.k (.int .i64 1))⟩,
  ⟨some 26, none, 0, 0, .fadr 1 (.t 9)⟩,
  ⟨none, none, 0, 0, .store false 1 (.t 26) (.t 25)⟩])
 (.seq (.drw [⟨some 27, none, 0, 1, .fadr 0 (.t 9)⟩,
  ⟨some 28, none, 0, 1, .load false 1 (.t 27)⟩,
  ⟨some 29, none, 0, 0, .fadr 1 (.t 9)⟩,
  ⟨some 30, none, 0, 0, .load false 1 (.t 29)⟩,
  ⟨some 31, none, 0, 0, .call 90 [.t 30]⟩,
  ⟨some 32, none, 1, 1, .bin .add (.t 28) (.t 31)⟩,
  ⟨some 33, none, 0, 1, .fadr 1 (.t 9)⟩,
  ⟨some 34, none, 0, 1, .load false 1 (.t 33)⟩,
  ⟨some 35, none, 1, 1, .build [.int .i64 0, .int .i64 0] [(0, 1, .t 32), (1, 1, .t 34)]⟩,
  ⟨some 12, none, 0, 1, .alloc [.int .i64 0, .int .i64 0]⟩,
  ⟨none, none, 0, 0, .store true 2 (.t 12) (.t 35)⟩])
 (.seq (.reg [⟨some 36, none, 0, 0, .mv (.t 2)⟩,
  ⟨some 37, none, 0, 0, .fadr 0 (.t 12)⟩,
  ⟨some 38, none, 0, 0, .load false 1 (.t 37)⟩,
  ⟨some 39, none, 0, 0, .bin .geq (.t 36) (.t 38)⟩])
 (.cond (.t 39)
 (.seq (.reg [⟨some 40, none, 0, 0, .mv (.t 10)⟩,
  ⟨some 41, none, 0, 0, .load true 2 (.t 9)⟩,
  ⟨some 42, none, 0, 0, .bsl 2 [.int .i64 0, .int .i64 0] 1 [(0, .t 41)]⟩,
  ⟨some 43, none, 0, 0, .app 2 16 [.int .i64 0, .int .i64 0] (.t 40) (.t 42)⟩,
  ⟨some 10, none, 0, 0, .mv (.t 43)⟩])
 (.reg [⟨some 44, none, 0, 0, .fadr 0 (.t 12)⟩,
  ⟨some 45, none, 0, 0, .load false 1 (.t 44)⟩,
  ⟨some 46, none, 0, 0, .fadr 0 (.t 9)⟩,
  ⟨none, none, 0, 0, .store false 1 (.t 46) (.t 45)⟩]))
 (.reg [⟨some 47, none, 0, 0, .mv (.t 11)⟩,
  ⟨some 48, none, 0, 0, .load true 2 (.t 12)⟩,
  ⟨some 49, none, 0, 0, .bsl 2 [.int .i64 0, .int .i64 0] 1 [(0, .t 48)]⟩,
  ⟨some 50, none, 0, 0, .app 2 16 [.int .i64 0, .int .i64 0] (.t 47) (.t 49)⟩,
  ⟨some 11, none, 0, 0, .mv (.t 50)⟩]))))))))
def h99 : Fn := { np := 4, res := [.cell 8 true 2], body :=
 (.seq (.reg [⟨some 4, none, 0, 0, .box true 2 (.t 0)⟩,
  ⟨some 8, none, 0, 0, .alloc [.int .i64 0, .nils]⟩])
 (.seq (.reg [⟨some 14, none, 0, 0, .fadr 1 (.t 4)⟩,
  ⟨some 15, none, 0, 0, .load false 1 (.t 14)⟩,
  ⟨some 16, none, 0, 0, .mv (.t 1)⟩,
  ⟨some 17, none, 0, 0, .iadr 2 (.t 15) (.t 16)⟩,
  ⟨some 18, none, 0, 0, .load true 2 (.t 17)⟩,
  ⟨some 9, none, 0, 0, .alloc [.int .i64 0, .int .i64 0]⟩,
  ⟨none, none, 0, 0, .store true 2 (.t 9) (.t 18)⟩])
 (.seq (.reg [⟨some 10, none, 0, 0, .mv (.k (.nils))⟩,
  ⟨some 11, none, 0, 0, .mv (.k (.nils))⟩])
 (.seq (.block 0 (.loop h99l0))
 (.seq (.reg [⟨some 51, none, 0, 0, .mv (.t 11)⟩,
  ⟨some 52, none, 0, 0, .call 127 [.t 51]⟩])
 (.seq (.reg [⟨some 53, none, 0, 0, .fadr 1 (.t 4)⟩,
  ⟨some 54, none, 0, 0, .load false 1 (.t 53)⟩,
  ⟨some 55, none, 0, 0, .mv (.t 1)⟩,
  ⟨some 56, none, 0, 0, .sl 2 (.t 54) none (some (.t 55)) none⟩,
  ⟨some 57, none, 0, 0, .call 94 [.t 56]⟩,
  ⟨some 58, none, 0, 0, .mv (.t 10)⟩,
  ⟨some 59, none, 0, 0, .app 2 16 [.int .i64 0, .int .i64 0] (.t 57) (.t 58)⟩,
  ⟨some 13, none, 0, 0, .mv (.t 59)⟩])
 (.seq (.drw [⟨some 60, none, 0, 2, .fadr 0 (.t 4)⟩,
  ⟨some 61, none, 0, 2, .load false 1 (.t 60)⟩,
  ⟨some 62, none, 0, 0, .mv (.t 13)⟩,
  ⟨some 63, none, 0, 0, .mv (.t 11)⟩,
  ⟨some 64, none, 0, 0, .app 2 16 [.int .i64 0, .int .i64 0] (.t 62) (.t 63)⟩,
  ⟨some 65, none, 0, 1, .fadr 1 (.t 4)⟩,
  ⟨some 66, none, 0, 1, .load false 1 (.t 65)⟩,
  ⟨some 67, none, 0, 1, .mv (.t 1)⟩,
  ⟨some 68, none, 0, 1, .bin .add (.t 67) (.k (.int .i64 1))⟩,
  ⟨some 69, none, 0, 1, .sl 2 (.t 66) (some (.t 68)) none none⟩,
  ⟨some 70, none, 0, 0, .app 2 16 [.int .i64 0, .int .i64 0] (.t 64) (.t 69)⟩,
  ⟨some 71, none, 2, 2, .build [.int .i64 0, .nils] [(0, 1, .t 61), (1, 1, .t 70)]⟩,
  ⟨none, none, 0, 0, .store true 2 (.t 8) (.t 71)⟩])
 .ret))))))) }
theorem ok99 : okFun Tryd.prog gl 99 h99 = true := by kernel_rfl
/- 100: headgate/buddy.within -/
def h100 : Fn := { np := 3, res := [.t 6], body :=
 (.seq (.reg [⟨some 3, none, 0, 0, .box true 2 (.t 0)⟩,
  ⟨some 6, none, 0, 0, .mv (.k (.bool false))⟩])
 (.seq (.drw [⟨some 7, none, 0, 0, .mv (.t 1)⟩,
  ⟨some 8, none, 0, 0, .bin .geq (.t 7) (.k (.int .i64 0))⟩,
  ⟨some 9, none, 0, 0, .mv (.t 8)⟩,
  ⟨some 10, (some (9, true)), 0, 0, .mv (.t 1)⟩,
  ⟨some 11, (some (9, true)), 0, 0, .fadr 0 (.t 3)⟩,
  ⟨some 12, (some (9, true)), 0, 0, .load false 1 (.t 11)⟩,
  ⟨some 13, (some (9, true)), 0, 0, .bin .leq (.t 10) (.t 12)⟩,
  ⟨some 14, none, 0, 0, .pick (.t 9) (.t 13) (.k (.bool false))⟩,
  ⟨some 15, none, 0, 0, .mv (.t 14)⟩,
  ⟨some 16, (some (15, true)), 0, 0, .mv (.t 2)⟩,
  ⟨some 17, (some (15, true)), 0, 0, .call 90 [.t 16]⟩,
  ⟨some 18, (some (15, true)), 0, 1, .fadr 0 (.t 3)⟩,
  ⟨some 19, (some (15, true)), 0, 1, .load false 1 (.t 18)⟩,
  ⟨some 20, (some (15, true)), 0, 1, .mv (.t 1)⟩,
  ⟨some 21, (some (15, true)), 0, 1, .bin .sub (.t 19) (.t 20)⟩,
  ⟨some 22, (some (15, true)), 1, 1, .bin .leq (.t 17) (.t 21)⟩,
  ⟨some 23, none, 1, 1, .pick (.t 15) (.t 22) (.k (.bool false))⟩,
  ⟨some 6, none, 1, 1, .mv (.t 23)⟩])
 .ret)) }
theorem ok100 : okFun Tryd.prog gl 100 h100 = true := by kernel_rfl
/- 101: headgate/buddy.end -/
def h101 : Fn := { np := 1, res := [.t 2], body :=
 (.seq (.reg [⟨some 1, none, 0, 0, .box true 2 (.t 0)⟩,
  ⟨some 2, none, 0, 0, .mv (.k (.int .i64 0))⟩])
 (.seq (.drw [⟨some 3, none, 0, 1, .fadr 0 (.t 1)⟩,
  ⟨some 4, none, 0, 1, .load false 1 (.t 3)⟩,
  ⟨some 5, none, 0, 0, .fadr 1 (.t 1)⟩,
  ⟨some 6, none, 0, 0, .load false 1 (.t 5)⟩,
  ⟨some 7, none, 0, 0, .call 90 [.t 6]⟩,
  ⟨some 8, none, 1, 1, .bin .add (.t 4) (.t 7)⟩,
  ⟨some 2, none, 1, 1, .mv (.t 8)⟩])
 .ret)) }
theorem ok101 : okFun Tryd.prog gl 101 h101 = true := by kernel_rfl
/- 102: slices.Contains(()headgate/api.Block,headgate/api.Block) -/
def h102 : Fn := { np := 2, res := [.t 4], body :=
 (.seq (.reg [⟨some 3, none, 0, 0, .box true 2 (.t 1)⟩,
  ⟨some 4, none, 0, 0, .mv (.k (.bool false))⟩])
 (.seq (.reg [⟨some 5, none, 0, 0, .mv (.t 0)⟩,
  ⟨some 6, none, 0, 0, .load true 2 (.t 3)⟩,
  ⟨some 7, none, 0, 0, .call 96 [.t 5, .t 6]⟩,
  ⟨some 8, none, 0, 0, .bin .geq (.t 7) (.k (.int .i64 0))⟩,
  ⟨some 4, none, 0, 0, .mv (.t 8)⟩])
 .ret)) }
theorem ok102 : okFun Tryd.prog gl 102 h102 = true := by kernel_rfl
/- 103: headgate/buddy.Most -/
def h103l0 : C := (.keep [1, 7, 17, 18, 19] (.seq (.reg [⟨some 20, none, 0, 0, .bin .lss (.t 19) (.t 18)⟩])
 (.seq (.cond (.t 20)
 .skip
 (.exit 0))
 (.seq (.block 1 (.seq (.reg [⟨some 21, none, 0, 0, .iadr 2 (.t 17) (.t 19)⟩,
  ⟨some 22, none, 0, 0, .load true 2 (.t 21)⟩,
  ⟨some 9, none, 0, 0, .alloc [.int .i64 0, .int .i64 0]⟩,
  ⟨none, none, 0, 0, .store true 2 (.t 9) (.t 22)⟩])
 (.reg [⟨some 23, none, 0, 0, .mv (.t 7)⟩,
  ⟨some 24, none, 0, 0, .fadr 1 (.t 9)⟩,
  ⟨some 25, none, 0, 0, .load false 1 (.t 24)⟩,
  ⟨some 26, none, 0, 0, .call 90 [.t 25]⟩,
  ⟨some 27, none, 0, 0, .mv (.t 1)⟩,
  ⟨some 28, none, 0, 0, .cv .u64 (.t 27)⟩,
  ⟨some 29, none, 0, 0, .bin .shr (.t 26) (.t 28)⟩,
  ⟨some 30, none, 0, 0, .bin .add (.t 23) (.t 29)⟩,
  ⟨some 7, none, 0, 0, .mv (.t 30)⟩])))
 (.reg [⟨some 31, none, 0, 0, .bin .add (.t 19) (.k (.int .i64 1))⟩,
  ⟨some 19, none, 0, 0, .mv (.t 31)⟩])))))
def h103 : Fn := { np := 2, res := [.t 4, .t 5], body :=
 (.seq (.reg [⟨some 2, none, 0, 0, .box true 2 (.t 0)⟩,
  ⟨some 4, none, 0, 0, .mv (.k (.int .i64 0))⟩,
  ⟨some 5, none, 0, 0, .mv (.k (.int .i64 0))⟩])
 (.seq (.seq (.reg [⟨some 10, none, 0, 0, .load true 2 (.t 2)⟩,
  ⟨some 11, none, 0, 0, .mv (.t 1)⟩,
  ⟨some 12, none, 0, 0, .call 98 [.t 10, .t 11]⟩,
  ⟨some 6, none, 0, 0, .mv (.t 12)⟩])
 (.seq (.reg [⟨some 13, none, 0, 0, .mv (.t 6)⟩,
  ⟨some 14, none, 0, 0, .bin .neq (.t 13) (.k (.int .i64 0))⟩])
 (.cond (.t 14)
 (.seq (.reg [⟨some 15, none, 0, 0, .mv (.t 6)⟩,
  ⟨some 4, none, 0, 0, .mv (.k (.int .i64 0))⟩,
  ⟨some 5, none, 0, 0, .mv (.t 15)⟩])
 .ret)
 .skip)))
 (.seq (.reg [⟨some 7, none, 0, 0, .mv (.k (.int .i64 0))⟩])
 (.seq (.seq (.reg [⟨some 16, none, 0, 0, .fadr 1 (.t 2)⟩,
  ⟨some 17, none, 0, 0, .load false 1 (.t 16)⟩,
  ⟨some 18, none, 0, 0, .len false (.t 17)⟩,
  ⟨some 19, none, 0, 0, .mv (.k (.int .i64 0))⟩])
 (.block 0 (.loop h103l0)))
 (.seq (.reg [⟨some 32, none, 0, 0, .mv (.t 7)⟩,
  ⟨some 4, none, 0, 0, .mv (.t 32)⟩,
  ⟨some 5, none, 0, 0, .mv (.k (.int .i64 0))⟩])
 .ret))))) }
theorem ok103 : okFun Tryd.prog gl 103 h103 = true := by kernel_rfl
/- 110: (headgate/zones.both).base -/
def h110 : Fn := { np := 2, res := [.t 4], body :=
 (.seq (.reg [⟨some 2, none, 0, 0, .box true 2 (.t 0)⟩,
  ⟨some 4, none, 0, 0, .mv (.k (.int .i64 0))⟩])
 (.seq (.reg [⟨some 5, none, 0, 0, .mv (.t 1)⟩,
  ⟨some 6, none, 0, 0, .fadr 0 (.t 2)⟩,
  ⟨some 7, none, 0, 0, .fadr 0 (.t 6)⟩,
  ⟨some 8, none, 0, 0, .load false 1 (.t 7)⟩,
  ⟨some 9, none, 0, 0, .bin .mul (.t 5) (.t 8)⟩,
  ⟨some 4, none, 0, 0, .mv (.t 9)⟩])
 .ret)) }
theorem ok110 : okFun Tryd.prog gl 110 h110 = true := by kernel_rfl
/- 116: (headgate/zones.both).frames -/
def h116 : Fn := { np := 1, res := [.t 2], body :=
 (.seq (.reg [⟨some 1, none, 0, 0, .box true 2 (.t 0)⟩,
  ⟨some 2, none, 0, 0, .mv (.k (.int .i64 0))⟩])
 (.seq (.drw [⟨some 3, none, 0, 0, .fadr 0 (.t 1)⟩,
  ⟨some 4, none, 0, 0, .fadr 0 (.t 3)⟩,
  ⟨some 5, none, 0, 0, .load false 1 (.t 4)⟩,
  ⟨some 6, none, 0, 0, .fadr 0 (.t 1)⟩,
  ⟨some 7, none, 0, 0, .fadr 1 (.t 6)⟩,
  ⟨some 8, none, 0, 0, .load false 1 (.t 7)⟩,
  ⟨some 9, none, 0, 0, .iadr 2 (.t 8) (.k (.int .i64 1))⟩,
  ⟨some 10, none, 0, 0, .fadr 0 (.t 9)⟩,
  ⟨some 11, none, 0, 0, .load false 1 (.t 10)⟩,
  ⟨some 12, none, 0, 0, .bin .add (.t 5) (.t 11)⟩,
  ⟨some 2, none, 0, 0, .mv (.t 12)⟩])
 .ret)) }
theorem ok116 : okFun Tryd.prog gl 116 h116 = true := by kernel_rfl
/- 118: math/bits.Len32 -/
def h118 : Fn := { np := 1, res := [.t 2], body :=
 (.seq (.reg [⟨some 2, none, 0, 0, .mv (.k (.int .i64 0))⟩])
 (.seq (.seq (.reg [⟨some 3, none, 0, 0, .mv (.t 0)⟩,
  ⟨some 4, none, 0, 0, .bin .geq (.t 3) (.k (.int .u32 65536))⟩])
 (.cond (.t 4)
 (.seq (.reg [⟨some 5, none, 0, 0, .mv (.t 0)⟩,
  ⟨some 6, none, 0, 0, .bin .shr (.t 5) (.k (.int .u64 16))⟩,
  ⟨some 0, none, 0, 0, .mv (.t 6)⟩])
 (.reg [⟨some 2, none, 0, 0, .mv (.k (.int .i64 16))⟩]))
 .skip))
 (.seq (.seq (.reg [⟨some 7, none, 0, 0, .mv (.t 0)⟩,
  ⟨some 8, none, 0, 0, .bin .geq (.t 7) (.k (.int .u32 256))⟩])
 (.cond (.t 8)
 (.seq (.reg [⟨some 9, none, 0, 0, .mv (.t 0)⟩,
  ⟨some 10, none, 0, 0, .bin .shr (.t 9) (.k (.int .u64 8))⟩,
  ⟨some 0, none, 0, 0, .mv (.t 10)⟩])
 (.reg [⟨some 11, none, 0, 0, .mv (.t 2)⟩,
  ⟨some 12, none, 0, 0, .bin .add (.t 11) (.k (.int .i64 8))⟩,
  ⟨some 2, none, 0, 0, .mv (.t 12)⟩]))
 .skip))
 (.seq (.reg [⟨some 13, none, 0, 0, .mv (.t 2)⟩,
  ⟨some 14, none, 0, 0, .mv (.t 0)⟩,
  ⟨some 15, none, 0, 0, .cv .u8 (.t 14)⟩,
  ⟨some 16, none, 0, 0, .ids (.k (.str [0, 1, 2, 2, 3, 3, 3, 3, 4, 4, 4, 4, 4, 4, 4, 4, 5, 5, 5, 5, 5, 5, 5, 5, 5, 5, 5, 5, 5, 5, 5, 5, 6, 6, 6, 6, 6, 6, 6, 6, 6, 6, 6, 6, 6, 6, 6, 6, 6, 6, 6, 6, 6, 6, 6, 6, 6, 6, 6, 6, 6, 6, 6, 6, 7, 7, 7, 7, 7, 7, 7, 7, 7, 7, 7, 7, 7, 7, 7, 7, 7, 7, 7, 7, 7, 7, 7, 7, 7, 7, 7, 7, 7, 7, 7, 7, 7, 7, 7, 7, 7, 7, 7, 7, 7, 7, 7, 7, 7, 7, 7, 7, 7, 7, 7, 7, 7, 7, 7, 7, 7, 7, 7, 7, 7, 7, 7, 7, 8, 8, 8, 8, 8, 8, 8, 8, 8, 8, 8, 8, 8, 8, 8, 8, 8, 8, 8, 8, 8, 8, 8, 8, 8, 8, 8, 8, 8, 8, 8, 8, 8, 8, 8, 8, 8, 8, 8, 8, 8, 8, 8, 8, 8, 8, 8, 8, 8, 8, 8, 8, 8, 8, 8, 8, 8, 8, 8, 8, 8, 8, 8, 8, 8, 8, 8, 8, 8, 8, 8, 8, 8, 8, 8, 8, 8, 8, 8, 8, 8, 8, 8, 8, 8, 8, 8, 8, 8, 8, 8, 8, 8, 8, 8, 8, 8, 8, 8, 8, 8, 8, 8, 8, 8, 8, 8, 8, 8, 8, 8, 8, 8, 8, 8, 8, 8, 8, 8, 8, 8, 8, 8, 8, 8, 8, 8, 8])) (.t 15)⟩,
  ⟨some 17, none, 0, 0, .cv .i64 (.t 16)⟩,
  ⟨some 18, none, 0, 0, .bin .add (.t 13) (.t 17)⟩,
  ⟨some 2, none, 0, 0, .mv (.t 18)⟩])
 .ret)))) }
theorem ok118 : okFun Tryd.prog gl 118 h118 = true := by kernel_rfl
/- 119: math/bits.Len64 -/
def h119 : Fn := { np := 1, res := [.t 2], body :=
 (.seq (.reg [⟨some 2, none, 0, 0, .mv (.k (.int .i64 0))⟩])
 (.seq (.seq (.reg [⟨some 3, none, 0, 0, .mv (.t 0)⟩,
  ⟨some 4, none, 0, 0, .bin .geq (.t 3) (.k (.int .u64 4294967296))⟩])
 (.cond (.t 4)
 (.seq (.reg [⟨some 5, none, 0, 0, .mv (.t 0)⟩,
  ⟨some 6, none, 0, 0, .bin .shr (.t 5) (.k (.int .u64 32))⟩,
  ⟨some 0, none, 0, 0, .mv (.t 6)⟩])
 (.reg [⟨some 2, none, 0, 0, .mv (.k (.int .i64 32))⟩]))
 .skip))
 (.seq (.seq (.reg [⟨some 7, none, 0, 0, .mv (.t 0)⟩,
  ⟨some 8, none, 0, 0, .bin .geq (.t 7) (.k (.int .u64 65536))⟩])
 (.cond (.t 8)
 (.seq (.reg [⟨some 9, none, 0, 0, .mv (.t 0)⟩,
  ⟨some 10, none, 0, 0, .bin .shr (.t 9) (.k (.int .u64 16))⟩,
  ⟨some 0, none, 0, 0, .mv (.t 10)⟩])
 (.reg [⟨some 11, none, 0, 0, .mv (.t 2)⟩,
  ⟨some 12, none, 0, 0, .bin .add (.t 11) (.k (.int .i64 16))⟩,
  ⟨some 2, none, 0, 0, .mv (.t 12)⟩]))
 .skip))
 (.seq (.seq (.reg [⟨some 13, none, 0, 0, .mv (.t 0)⟩,
  ⟨some 14, none, 0, 0, .bin .geq (.t 13) (.k (.int .u64 256))⟩])
 (.cond (.t 14)
 (.seq (.reg [⟨some 15, none, 0, 0, .mv (.t 0)⟩,
  ⟨some 16, none, 0, 0, .bin .shr (.t 15) (.k (.int .u64 8))⟩,
  ⟨some 0, none, 0, 0, .mv (.t 16)⟩])
 (.reg [⟨some 17, none, 0, 0, .mv (.t 2)⟩,
  ⟨some 18, none, 0, 0, .bin .add (.t 17) (.k (.int .i64 8))⟩,
  ⟨some 2, none, 0, 0, .mv (.t 18)⟩]))
 .skip))
 (.seq (.reg [⟨some 19, none, 0, 0, .mv (.t 2)⟩,
  ⟨some 20, none, 0, 0, .mv (.t 0)⟩,
  ⟨some 21, none, 0, 0, .cv .u8 (.t 20)⟩,
  ⟨some 22, none, 0, 0, .ids (.k (.str [0, 1, 2, 2, 3, 3, 3, 3, 4, 4, 4, 4, 4, 4, 4, 4, 5, 5, 5, 5, 5, 5, 5, 5, 5, 5, 5, 5, 5, 5, 5, 5, 6, 6, 6, 6, 6, 6, 6, 6, 6, 6, 6, 6, 6, 6, 6, 6, 6, 6, 6, 6, 6, 6, 6, 6, 6, 6, 6, 6, 6, 6, 6, 6, 7, 7, 7, 7, 7, 7, 7, 7, 7, 7, 7, 7, 7, 7, 7, 7, 7, 7, 7, 7, 7, 7, 7, 7, 7, 7, 7, 7, 7, 7, 7, 7, 7, 7, 7, 7, 7, 7, 7, 7, 7, 7, 7, 7, 7, 7, 7, 7, 7, 7, 7, 7, 7, 7, 7, 7, 7, 7, 7, 7, 7, 7, 7, 7, 8, 8, 8, 8, 8, 8, 8, 8, 8, 8, 8, 8, 8, 8, 8, 8, 8, 8, 8, 8, 8, 8, 8, 8, 8, 8, 8, 8, 8, 8, 8, 8, 8, 8, 8, 8, 8, 8, 8, 8, 8, 8, 8, 8, 8, 8, 8, 8, 8, 8, 8, 8, 8, 8, 8, 8, 8, 8, 8, 8, 8, 8, 8, 8, 8, 8, 8, 8, 8, 8, 8, 8, 8, 8, 8, 8, 8, 8, 8, 8, 8, 8, 8, 8, 8, 8, 8, 8, 8, 8, 8, 8, 8, 8, 8, 8, 8, 8, 8, 8, 8, 8, 8, 8, 8, 8, 8, 8, 8, 8, 8, 8, 8, 8, 8, 8, 8, 8, 8, 8, 8, 8, 8, 8, 8, 8, 8, 8])) (.t 21)⟩,
  ⟨some 23, none, 0, 0, .cv .i64 (.t 22)⟩,
  ⟨some 24, none, 0, 0, .bin .add (.t 19) (.t 23)⟩,
  ⟨some 2, none, 0, 0, .mv (.t 24)⟩])
 .ret))))) }
theorem ok119 : okFun Tryd.prog gl 119 h119 = true := by kernel_rfl
/- 120: math/bits.TrailingZeros32 -/
def h120 : Fn := { np := 1, res := [.t 2], body :=
 (.seq (.reg [⟨some 2, none, 0, 0, .mv (.k (.int .i64 0))⟩])
 (.seq (.seq (.reg [⟨some 3, none, 0, 0, .mv (.t 0)⟩,
  ⟨some 4, none, 0, 0, .bin .eql (.t 3) (.k (.int .u32 0))⟩])
 (.cond (.t 4)
 (.seq (.reg [⟨some 2, none, 0, 0, .mv (.k (.int .i64 32))⟩])
 .ret)
 .skip))
 (.seq (.reg [⟨some 5, none, 0, 0, .mv (.t 0)⟩,
  ⟨some 6, none, 0, 0, .mv (.t 0)⟩,
  ⟨some 7, none, 0, 0, .un .neg (.t 6)⟩,
  ⟨some 8, none, 0, 0, .bin .and (.t 5) (.t 7)⟩,
  ⟨some 9, none, 0, 0, .bin .mul (.t 8) (.k (.int .u32 125613361))⟩,
  ⟨some 10, none, 0, 0, .bin .shr (.t 9) (.k (.int .u64 27))⟩,
  ⟨some 11, none, 0, 0, .iada 32 1 (.g 0) (.t 10)⟩,
  ⟨some 12, none, 0, 0, .load false 1 (.t 11)⟩,
  ⟨some 13, none, 0, 0, .cv .i64 (.t 12)⟩,
  ⟨some 2, none, 0, 0, .mv (.t 13)⟩])
 .ret))) }
theorem ok120 : okFun Tryd.prog gl 120 h120 = true := by kernel_rfl
/- 121: math/bits.TrailingZeros64 -/
def h121 : Fn := { np := 1, res := [.t 2], body :=
 (.seq (.reg [⟨some 2, none, 0, 0, .mv (.k (.int .i64 0))⟩])
 (.seq (.seq (.reg [⟨some 3, none, 0, 0, .mv (.t 0)⟩,
  ⟨some 4, none, 0, 0, .bin .eql (.t 3) (.k (.int .u64 0))⟩])
 (.cond (.t 4)
 (.seq (.reg [⟨some 2, none, 0, 0, .mv (.k (.int .i64 64))⟩])
 .ret)
 .skip))
 (.seq (.reg [⟨some 5, none, 0, 0, .mv (.t 0)⟩,
  ⟨some 6, none, 0, 0, .mv (.t 0)⟩,
  ⟨some 7, none, 0, 0, .un .neg (.t 6)⟩,
  ⟨some 8, none, 0, 0, .bin .and (.t 5) (.t 7)⟩,
  ⟨some 9, none, 0, 0, .bin .mul (.t 8) (.k (.int .u64 285870213051353865))⟩,
  ⟨some 10, none, 0, 0, .bin .shr (.t 9) (.k (.int .u64 58))⟩,
  ⟨some 11, none, 0, 0, .iada 64 1 (.g 1) (.t 10)⟩,
  ⟨some 12, none, 0, 0, .load false 1 (.t 11)⟩,
  ⟨some 13, none, 0, 0, .cv .i64 (.t 12)⟩,
  ⟨some 2, none, 0, 0, .mv (.t 13)⟩])
 .ret))) }
theorem ok121 : okFun Tryd.prog gl 121 h121 = true := by kernel_rfl
/- 122: slices.BinarySearchFunc(()headgate/api.Block,headgate/api.Block,int) -/
def h122l0 : C := (.keep [0, 1, 2, 8, 9, 10] (.seq (.seq (.reg [⟨some 15, none, 0, 0, .mv (.t 9)⟩,
  ⟨some 16, none, 0, 0, .mv (.t 10)⟩,
  ⟨some 17, none, 0, 0, .bin .lss (.t 15) (.t 16)⟩])
 (.cond (.t 17)
 .skip
 (.exit 0)))
 (.block 1 (.seq (.reg [⟨some 18, none, 0, 0, .mv (.t 9)⟩,
  ⟨some 19, none, 0, 0, .mv (.t 10)⟩,
  ⟨some 20, none, 0, 0, .bin .add (.t 18) (.t 19)⟩,
  ⟨some 21, none, 0, 0, .cv .u64 (.t 20)⟩,
  ⟨some 22, none, 0, 0, .bin .shr (.t 21) (.k (.int .u64 1))⟩,
  ⟨some 23, none, 0, 0, .cv .i64 (.t 22)⟩,
  ⟨some 11, none, 0, 0, .mv (.t 23)⟩])
 (.seq (.reg [⟨some 24, none, 0, 0, .mv (.t 2)⟩,
  ⟨some 25, none, 0, 0, .mv (.t 0)⟩,
  ⟨some 26, none, 0, 0, .mv (.t 11)⟩,
  ⟨some 27, none, 0, 0, .iadr 2 (.t 25) (.t 26)⟩,
  ⟨some 28, none, 0, 0, .load true 2 (.t 27)⟩,
  ⟨some 29, none, 0, 0, .mv (.t 1)⟩,
  ⟨some 30, none, 0, 0, .callv (.t 24) [.t 28, .t 29]⟩,
  ⟨some 31, none, 0, 0, .bin .lss (.t 30) (.k (.int .i64 0))⟩])
 (.cond (.t 31)
 (.reg [⟨some 32, none, 0, 0, .mv (.t 11)⟩,
  ⟨some 33, none, 0, 0, .bin .add (.t 32) (.k (.int .i64 1))⟩,
  ⟨some 9, none, 0, 0, .mv (.t 33)⟩])
 (.reg [⟨some 34, none, 0, 0, .mv (.t 11)⟩,
  ⟨some 10, none, 0, 0, .mv (.t 34)⟩])))))))
def h122 : Fn := { np := 3, res := [.t 6, .t 7], body :=
 (.seq (.reg [⟨some 6, none, 0, 0, .mv (.k (.int .i64 0))⟩,
  ⟨some 7, none, 0, 0, .mv (.k (.bool false))⟩])
 (.seq (.reg [⟨some 12, none, 0, 0, .mv (.t 0)⟩,
  ⟨some 13, none, 0, 0, .len false (.t 12)⟩,
  ⟨some 8, none, 0, 0, .mv (.t 13)⟩])
 (.seq (.reg [⟨some 14, none, 0, 0, .mv (.t 8)⟩,
  ⟨some 9, none, 0, 0, .mv (.k (.int .i64 0))⟩,
  ⟨some 10, none, 0, 0, .mv (.t 14)⟩])
 (.seq (.block 0 (.loop h122l0))
 (.seq (.reg [⟨some 35, none, 0, 0, .mv (.t 9)⟩,
  ⟨some 36, none, 0, 0, .mv (.t 9)⟩,
  ⟨some 37, none, 0, 0, .mv (.t 8)⟩,
  ⟨some 38, none, 0, 0, .bin .lss (.t 36) (.t 37)⟩,
  ⟨some 39, none, 0, 0, .mv (.t 38)⟩,
  ⟨some 40, (some (39, true)), 0, 0, .mv (.t 2)⟩,
  ⟨some 41, (some (39, true)), 0, 0, .mv (.t 0)⟩,
  ⟨some 42, (some (39, true)), 0, 0, .mv (.t 9)⟩,
  ⟨some 43, (some (39, true)), 0, 0, .iadr 2 (.t 41) (.t 42)⟩,
  ⟨some 44, (some (39, true)), 0, 0, .load true 2 (.t 43)⟩,
  ⟨some 45, (some (39, true)), 0, 0, .mv (.t 1)⟩,
  ⟨some 46, (some (39, true)), 0, 0, .callv (.t 40) [.t 44, .t 45]⟩,
  ⟨some 47, (some (39, true)), 0, 0, .bin .eql (.t 46) (.k (.int .i64 0))⟩,
  ⟨some 48, none, 0, 0, .pick (.t 39) (.t 47) (.k (.bool false))⟩,
  ⟨some 6, none, 0, 0, .mv (.t 35)⟩,
  ⟨some 7, none, 0, 0, .mv (.t 48)⟩])
 .ret))))) }
theorem ok122 : okFun Tryd.prog gl 122 h122 = true := by kernel_rfl
/- 123: headgate/buddy.after-1 -/
def h123 : Fn := { np := 2, res := [.t 4], body :=
 (.seq (.reg [⟨some 2, none, 0, 0, .box true 2 (.t 0)⟩,
  ⟨some 4, none, 0, 0, .mv (.k (.int .i64 0))⟩])
 (.seq (.reg [⟨some 5, none, 0, 0, .load true 2 (.t 2)⟩,
  ⟨some 6, none, 0, 0, .call 101 [.t 5]⟩,
  ⟨some 7, none, 0, 0, .bin .sub (.t 6) (.k (.int .i64 1))⟩,
  ⟨some 8, none, 0, 0, .mv (.t 1)⟩,
  ⟨some 9, none, 0, 0, .call 124 [.t 7, .t 8]⟩,
  ⟨some 4, none, 0, 0, .mv (.t 9)⟩])
 .ret)) }
theorem ok123 : okFun Tryd.prog gl 123 h123 = true := by kernel_rfl
/- 124: cmp.Compare(int) -/
def h124 : Fn := { np := 2, res := [.t 4], body :=
 (.seq (.reg [⟨some 4, none, 0, 0, .mv (.k (.int .i64 0))⟩])
 (.seq (.reg [⟨some 7, none, 0, 0, .mv (.t 0)⟩,
  ⟨some 8, none, 0, 0, .call 137 [.t 7]⟩,
  ⟨some 5, none, 0, 0, .mv (.t 8)⟩])
 (.seq (.reg [⟨some 9, none, 0, 0, .mv (.t 1)⟩,
  ⟨some 10, none, 0, 0, .call 137 [.t 9]⟩,
  ⟨some 6, none, 0, 0, .mv (.t 10)⟩])
 (.seq (.seq (.reg [⟨some 11, none, 0, 0, .mv (.t 5)⟩])
 (.cond (.t 11)
 (.seq (.seq (.reg [⟨some 12, none, 0, 0, .mv (.t 6)⟩])
 (.cond (.t 12)
 (.seq (.reg [⟨some 4, none, 0, 0, .mv (.k (.int .i64 0))⟩])
 .ret)
 .skip))
 (.seq (.reg [⟨some 4, none, 0, 0, .mv (.k (.int .i64 (-1)))⟩])
 .ret))
 .skip))
 (.seq (.seq (.reg [⟨some 13, none, 0, 0, .mv (.t 6)⟩])
 (.cond (.t 13)
 (.seq (.reg [⟨some 4, none, 0, 0, .mv (.k (.int .i64 1))⟩])
 .ret)
 .skip))
 (.seq (.seq (.reg [⟨some 14, none, 0, 0, .mv (.t 0)⟩,
  ⟨some 15, none, 0, 0, .mv (.t 1)⟩,
  ⟨some 16, none, 0, 0, .bin .lss (.t 14) (.t 15)⟩])
 (.cond (.t 16)
 (.seq (.reg [⟨some 4, none, 0, 0, .mv (.k (.int .i64 (-1)))⟩])
 .ret)
 .skip))
 (.seq (.seq (.reg [⟨some 17, none, 0, 0, .mv (.t 0)⟩,
  ⟨some 18, none, 0, 0, .mv (.t 1)⟩,
  ⟨some 19, none, 0, 0, .bin .gtr (.t 17) (.t 18)⟩])
 (.cond (.t 19)
 (.seq (.reg [⟨some 4, none, 0, 0, .mv (.k (.int .i64 1))⟩])
 .ret)
 .skip))
 (.seq (.reg [⟨some 4, none, 0, 0, .mv (.k (.int .i64 0))⟩])
 .ret)))))))) }
theorem ok124 : okFun Tryd.prog gl 124 h124 = true := by kernel_rfl
/- 127: slices.Reverse(()headgate/api.Block,headgate/api.Block) -/
def h127l0 : C := (.keep [0, 2, 3] (.seq (.seq (.reg [⟨some 7, none, 0, 0, .mv (.t 2)⟩,
  ⟨some 8, none, 0, 0, .mv (.t 3)⟩,
  ⟨some 9, none, 0, 0, .bin .lss (.t 7) (.t 8)⟩])
 (.cond (.t 9)
 .skip
 (.exit 0)))
 (.seq (.block 1 (.drw [⟨some 14, none, 0, 0, .mv (.t 0)⟩,
  ⟨some 15, none, 0, 0, .mv (.t 2)⟩,
  ⟨some 16, none, 0, 1, .mv (.t 0)⟩,
  ⟨some 17, none, 0, 1, .mv (.t 3)⟩,
  ⟨some 18, none, 0, 0, .mv (.t 0)⟩,
  ⟨some 19, none, 0, 0, .mv (.t 3)⟩,
  ⟨some 20, none, 0, 0, .iadr 2 (.t 18) (.t 19)⟩,
  ⟨some 21, none, 0, 0, .load true 2 (.t 20)⟩,
  ⟨some 22, none, 0, 0, .mv (.t 0)⟩,
  ⟨some 23, none, 0, 0, .mv (.t 2)⟩,
  ⟨some 24, none, 0, 0, .iadr 2 (.t 22) (.t 23)⟩,
  ⟨some 25, none, 0, 0, .load true 2 (.t 24)⟩,
  ⟨some 26, none, 0, 0, .iadr 2 (.t 14) (.t 15)⟩,
  ⟨none, none, 0, 0, .store true 2 (.t 26) (.t 21)⟩,
  ⟨some 27, none, 1, 1, .iadr 2 (.t 16) (.t 17)⟩,
  ⟨none, none, 0, 0, .store true 2 (.t 27) (.t 25)⟩]))
 (.reg [⟨some 10, none, 0, 0, .mv (.t 2)⟩,
  ⟨some 11, none, 0, 0, .bin .add (.t 10) (.k (.int .i64 1))⟩,
  ⟨some 12, none, 0, 0, .mv (.t 3)⟩,
  ⟨some 13, none, 0, 0, .bin .sub (.t 12) (.k (.int .i64 1))⟩,
  ⟨some 2, none, 0, 0, .mv (.t 11)⟩,
  ⟨some 3, none, 0, 0, .mv (.t 13)⟩]))))
def h127 : Fn := { np := 1, res := [], body :=
 (.seq (.reg [⟨some 4, none, 0, 0, .mv (.t 0)⟩,
  ⟨some 5, none, 0, 0, .len false (.t 4)⟩,
  ⟨some 6, none, 0, 0, .bin .sub (.t 5) (.k (.int .i64 1))⟩,
  ⟨some 2, none, 0, 0, .mv (.k (.int .i64 0))⟩,
  ⟨some 3, none, 0, 0, .mv (.t 6)⟩])
 (.block 0 (.loop h127l0))) }
theorem ok127 : okFun Tryd.prog gl 127 h127 = true := by kernel_rfl
/- 137: cmp.isNaN(int) -/
def h137 : Fn := { np := 1, res := [.t 2], body :=
 (.seq (.reg [⟨some 2, none, 0, 0, .mv (.k (.bool false))⟩])
 (.seq (.reg [⟨some 3, none, 0, 0, .mv (.t 0)⟩,
  ⟨some 4, none, 0, 0, .mv (.t 0)⟩,
  ⟨some 5, none, 0, 0, .bin .neq (.t 3) (.t 4)⟩,
  ⟨some 2, none, 0, 0, .mv (.t 5)⟩])
 .ret)) }
theorem ok137 : okFun Tryd.prog gl 137 h137 = true := by kernel_rfl
def tab : Tab := (.node (.node (.node (.node (.node (.node (.node (.node .nil (some h127) .nil) none .nil) none (.node .nil (some h95) .nil)) none (.node (.node .nil (some h79) .nil) (some h47) .nil)) none (.node (.node (.node .nil (some h71) .nil) (some h39) (.node .nil (some h103) .nil)) (some h23) (.node .nil none (.node .nil (some h119) .nil)))) none (.node (.node (.node .nil none (.node .nil (some h99) .nil)) none .nil) none (.node (.node (.node .nil (some h75) .nil) (some h43) .nil) none (.node (.node .nil (some h91) .nil) none (.node .nil (some h123) .nil))))) none (.node (.node (.node (.node .nil none (.node .nil (some h97) .nil)) none .nil) none (.node (.node (.node (.node .nil (some h137) .nil) (some h73) .nil) (some h41) .nil) (some h25) (.node (.node .nil (some h89) .nil) none (.node .nil (some h121) .nil)))) none (.node (.node (.node .nil none (.node .nil (some h101) .nil)) none (.node .nil (some h53) .nil)) none (.node (.node .nil (some h45) .nil) none (.node (.node .nil (some h93) .nil) none .nil))))) none (.node (.node (.node (.node (.node .nil (some h32) (.node .nil (some h96) .nil)) (some h16) (.node .nil (some h48) .nil)) none (.node (.node .nil (some h40) .nil) none (.node (.node .nil (some h88) .nil) none (.node .nil (some h120) .nil)))) none (.node (.node (.node .nil (some h36) (.node .nil (some h100) .nil)) (some h20) (.node (.node .nil (some h84) .nil) none (.node .nil (some h116) .nil))) none (.node (.node .nil (some h44) .nil) (some h28) (.node (.node .nil (some h92) .nil) none (.node .nil (some h124) .nil))))) none (.node (.node (.node (.node .nil (some h34) (.node .nil (some h98) .nil)) (some h18) (.node (.node .nil (some h82) .nil) none .nil)) none (.node (.node .nil (some h42) .nil) (some h26) (.node (.node .nil (some h90) .nil) none (.node .nil (some h122) .nil)))) (some h6) (.node (.node (.node .nil (some h38) (.node .nil (some h102) .nil)) none (.node (.node .nil (some h86) .nil) (some h54) (.node .nil (some h118) .nil))) none (.node (.node (.node .nil (some h78) .nil) (some h46) (.node .nil (some h110) .nil)) (some h30) (.node (.node .nil (some h94) .nil) none .nil))))))
def tabL : List (Nat × Fn) := [(6, h6), (16, h16), (18, h18), (20, h20), (23, h23), (25, h25), (26, h26), (28, h28), (30, h30), (32, h32), (34, h34), (36, h36), (38, h38), (39, h39), (40, h40), (41, h41), (42, h42), (43, h43), (44, h44), (45, h45), (46, h46), (47, h47), (48, h48), (53, h53), (54, h54), (71, h71), (73, h73), (75, h75), (78, h78), (79, h79), (82, h82), (84, h84), (86, h86), (88, h88), (89, h89), (90, h90), (91, h91), (92, h92), (93, h93), (94, h94), (95, h95), (96, h96), (97, h97), (98, h98), (99, h99), (100, h100), (101, h101), (102, h102), (103, h103), (110, h110), (116, h116), (118, h118), (119, h119), (120, h120), (121, h121), (122, h122), (123, h123), (124, h124), (127, h127), (137, h137)]
theorem tab_eq : tab = mkT tabL := by kernel_rfl
theorem tab_ok : TabOk Tryd.prog gl tab := by
  rw [tab_eq]
  exact mkT_ok (.cons ok6 trivial (.cons ok16 trivial (.cons ok18 trivial (.cons ok20 trivial (.cons ok23 trivial (.cons ok25 trivial (.cons ok26 trivial (.cons ok28 trivial (.cons ok30 trivial (.cons ok32 trivial (.cons ok34 trivial (.cons ok36 trivial (.cons ok38 trivial (.cons ok39 trivial (.cons ok40 trivial (.cons ok41 trivial (.cons ok42 trivial (.cons ok43 trivial (.cons ok44 trivial (.cons ok45 trivial (.cons ok46 trivial (.cons ok47 trivial (.cons ok48 trivial (.cons ok53 trivial (.cons ok54 trivial (.cons ok71 trivial (.cons ok73 trivial (.cons ok75 trivial (.cons ok78 trivial (.cons ok79 trivial (.cons ok82 trivial (.cons ok84 trivial (.cons ok86 trivial (.cons ok88 trivial (.cons ok89 trivial (.cons ok90 trivial (.cons ok91 trivial (.cons ok92 trivial (.cons ok93 ⟨_, rfl, rfl, rfl, rfl, by decide, by decide⟩ (.cons ok94 trivial (.cons ok95 trivial (.cons ok96 trivial (.cons ok97 trivial (.cons ok98 trivial (.cons ok99 trivial (.cons ok100 trivial (.cons ok101 trivial (.cons ok102 trivial (.cons ok103 trivial (.cons ok110 trivial (.cons ok116 trivial (.cons ok118 trivial (.cons ok119 trivial (.cons ok120 trivial (.cons ok121 trivial (.cons ok122 trivial (.cons ok123 trivial (.cons ok124 trivial (.cons ok127 trivial (.cons ok137 trivial .nil))))))))))))))))))))))))))))))))))))))))))))))))))))))))))))
end Go.YtnpoikgkhhpdgaaDoorH
