/-
  The codes of the functions for the heap machine, printed by a program; each is checked against the loaded function.
-/
import Derived.Test.YtnpoikgkhhpdgaaDoorHmT
import Derived.Test.YtnpoikgkhhpdgaaDoorProg
namespace Go.YtnpoikgkhhpdgaaDoorH
open Go.Proofs
def gl : List Nat := [0, 1, 2, 3]
/- 11: headgate/headgatelaw05.RowKnown -/
def h11 : Fn := { np := 0, res := [.t 0], body :=
 (.seq (.reg [⟨some 0, none, 0, 0, .mv (.k (.bool false))⟩])
 (.seq (.reg [⟨some 28, none, 0, 0, .call 56 [.k (.str [59, 32, 120, 10, 32, 44, 44, 10])]⟩,
  ⟨some 27, none, 0, 0, .mv (.t 28)⟩,
  ⟨some 29, none, 0, 0, .ext (.t 27) 0⟩,
  ⟨some 30, none, 0, 0, .ext (.t 27) 1⟩,
  ⟨some 2, none, 0, 0, .alloc [.int .i64 0, .int .i64 0]⟩,
  ⟨some 1, none, 0, 0, .mv (.t 29)⟩,
  ⟨none, none, 0, 0, .store true 2 (.t 2) (.t 30)⟩])
 (.seq (.reg [⟨some 32, none, 0, 0, .call 56 [.k (.str [43, 55])]⟩,
  ⟨some 31, none, 0, 0, .mv (.t 32)⟩,
  ⟨some 33, none, 0, 0, .ext (.t 31) 0⟩,
  ⟨some 34, none, 0, 0, .ext (.t 31) 1⟩,
  ⟨some 4, none, 0, 0, .alloc [.int .i64 0, .int .i64 0]⟩,
  ⟨some 3, none, 0, 0, .mv (.t 33)⟩,
  ⟨none, none, 0, 0, .store true 2 (.t 4) (.t 34)⟩])
 (.seq (.reg [⟨some 35, none, 0, 0, .call 57 [.k (.str [55, 46, 46, 51]), .k (.int .i64 0)]⟩,
  ⟨some 36, none, 0, 0, .mv (.t 35)⟩,
  ⟨some 37, (some (36, true)), 0, 0, .call 57 [.k (.str [97, 32, 48, 55]), .k (.int .i64 2)]⟩,
  ⟨some 38, none, 0, 0, .pick (.t 36) (.t 37) (.k (.bool false))⟩,
  ⟨some 39, none, 0, 0, .mv (.t 38)⟩,
  ⟨some 40, (some (39, true)), 0, 0, .call 57 [.k (.str [45, 48]), .k (.int .i64 0)]⟩,
  ⟨some 41, none, 0, 0, .pick (.t 39) (.t 40) (.k (.bool false))⟩,
  ⟨some 42, none, 0, 0, .mv (.t 41)⟩,
  ⟨some 43, (some (42, true)), 0, 0, .call 57 [.k (.str [48, 120]), .k (.int .i64 0)]⟩,
  ⟨some 44, none, 0, 0, .pick (.t 42) (.t 43) (.k (.bool false))⟩,
  ⟨some 45, none, 0, 0, .mv (.t 44)⟩,
  ⟨some 46, (some (45, true)), 0, 0, .call 57 [.k (.str [51, 46, 46]), .k (.int .i64 0)]⟩,
  ⟨some 47, none, 0, 0, .pick (.t 45) (.t 46) (.k (.bool false))⟩,
  ⟨some 48, none, 0, 0, .mv (.t 47)⟩,
  ⟨some 49, (some (48, true)), 0, 0, .call 57 [.k (.str [65]), .k (.int .i64 0)]⟩,
  ⟨some 50, none, 0, 0, .pick (.t 48) (.t 49) (.k (.bool false))⟩,
  ⟨some 51, none, 0, 0, .mv (.t 50)⟩,
  ⟨some 52, (some (51, true)), 0, 0, .call 57 [.k (.str [49, 46, 46, 50, 46, 46, 51]), .k (.int .i64 0)]⟩,
  ⟨some 53, none, 0, 0, .pick (.t 51) (.t 52) (.k (.bool false))⟩,
  ⟨some 54, none, 0, 0, .mv (.t 53)⟩,
  ⟨some 55, (some (54, true)), 0, 0, .call 57 [.k (.str [48, 120, 49, 70, 70]), .k (.int .i64 0)]⟩,
  ⟨some 56, none, 0, 0, .pick (.t 54) (.t 55) (.k (.bool false))⟩,
  ⟨some 5, none, 0, 0, .mv (.t 56)⟩])
 (.seq (.reg [⟨some 58, none, 0, 0, .call 58 [.k (.str [49, 56, 52, 52, 54, 55, 52, 52, 48, 55, 51, 55, 48, 57, 53, 53, 49, 54, 49, 54])]⟩,
  ⟨some 57, none, 0, 0, .mv (.t 58)⟩,
  ⟨some 59, none, 0, 0, .ext (.t 57) 0⟩,
  ⟨some 60, none, 0, 0, .ext (.t 57) 1⟩,
  ⟨some 6, none, 0, 0, .mv (.t 59)⟩,
  ⟨some 7, none, 0, 0, .mv (.t 60)⟩])
 (.seq (.reg [⟨some 62, none, 0, 0, .call 58 [.k (.str [48, 48])]⟩,
  ⟨some 61, none, 0, 0, .mv (.t 62)⟩,
  ⟨some 63, none, 0, 0, .ext (.t 61) 0⟩,
  ⟨some 64, none, 0, 0, .ext (.t 61) 1⟩,
  ⟨some 8, none, 0, 0, .mv (.t 63)⟩,
  ⟨some 9, none, 0, 0, .mv (.t 64)⟩])
 (.seq (.reg [⟨some 65, none, 0, 0, .call 59 [.k (.str [49, 56, 52, 52, 54, 55, 52, 52, 48, 55, 51, 55, 48, 57, 53, 53, 49, 54, 49, 53]), .k (.int .u64 18446744073709551615)]⟩,
  ⟨some 66, none, 0, 0, .mv (.t 65)⟩,
  ⟨some 67, (some (66, true)), 0, 0, .call 59 [.k (.str [48, 120, 102, 102, 102, 102, 102, 102, 102, 102, 102, 102, 102, 102, 102, 102, 102, 102]), .k (.int .u64 18446744073709551615)]⟩,
  ⟨some 68, none, 0, 0, .pick (.t 66) (.t 67) (.k (.bool false))⟩,
  ⟨some 69, none, 0, 0, .mv (.t 68)⟩,
  ⟨some 70, (some (69, true)), 0, 0, .call 59 [.k (.str [48, 120, 48, 48]), .k (.int .u64 0)]⟩,
  ⟨some 71, none, 0, 0, .pick (.t 69) (.t 70) (.k (.bool false))⟩,
  ⟨some 72, none, 0, 0, .mv (.t 71)⟩,
  ⟨some 73, (some (72, true)), 0, 0, .mv (.t 7)⟩,
  ⟨some 74, (some (72, true)), 0, 0, .un .not (.t 73)⟩,
  ⟨some 75, none, 0, 0, .pick (.t 72) (.t 74) (.k (.bool false))⟩,
  ⟨some 76, none, 0, 0, .mv (.t 75)⟩,
  ⟨some 77, (some (76, true)), 0, 0, .mv (.t 9)⟩,
  ⟨some 78, (some (76, true)), 0, 0, .un .not (.t 77)⟩,
  ⟨some 79, none, 0, 0, .pick (.t 76) (.t 78) (.k (.bool false))⟩,
  ⟨some 10, none, 0, 0, .mv (.t 79)⟩])
 (.seq (.reg [⟨some 81, none, 0, 0, .build [.int .i64 0, .nils] []⟩,
  ⟨some 82, none, 0, 0, .bsl 2 [.int .i64 0, .nils] 1 [(0, .t 81)]⟩,
  ⟨some 83, none, 0, 0, .call 60 [.t 82]⟩,
  ⟨some 80, none, 0, 0, .mv (.t 83)⟩,
  ⟨some 84, none, 0, 0, .ext (.t 80) 0⟩,
  ⟨some 85, none, 0, 0, .ext (.t 80) 1⟩,
  ⟨some 11, none, 0, 0, .mv (.t 84)⟩,
  ⟨some 12, none, 0, 0, .mv (.t 85)⟩])
 (.seq (.reg [⟨some 87, none, 0, 0, .call 62 [.k (.int .i64 0), .k (.bool true), .k (.int .u64 5)]⟩,
  ⟨some 88, none, 0, 0, .call 61 [.t 87, .k (.int .i64 (-4)), .k (.int .i64 5)]⟩,
  ⟨some 86, none, 0, 0, .mv (.t 88)⟩,
  ⟨some 89, none, 0, 0, .ext (.t 86) 0⟩,
  ⟨some 90, none, 0, 0, .ext (.t 86) 1⟩,
  ⟨some 13, none, 0, 0, .mv (.t 89)⟩,
  ⟨some 14, none, 0, 0, .mv (.t 90)⟩])
 (.seq (.reg [⟨some 92, none, 0, 0, .call 63 [.k (.int .i64 0), .k (.int .u64 3), .k (.int .u64 7)]⟩,
  ⟨some 93, none, 0, 0, .call 61 [.t 92, .k (.int .i64 0), .k (.int .i64 9)]⟩,
  ⟨some 91, none, 0, 0, .mv (.t 93)⟩,
  ⟨some 94, none, 0, 0, .ext (.t 91) 0⟩,
  ⟨some 95, none, 0, 0, .ext (.t 91) 1⟩,
  ⟨some 15, none, 0, 0, .mv (.t 94)⟩,
  ⟨some 16, none, 0, 0, .mv (.t 95)⟩])
 (.seq (.reg [⟨some 97, none, 0, 0, .call 63 [.k (.int .i64 0), .k (.int .u64 3), .k (.int .u64 7)]⟩,
  ⟨some 98, none, 0, 0, .call 64 [.t 97, .k (.int .i64 7)]⟩,
  ⟨some 96, none, 0, 0, .mv (.t 98)⟩,
  ⟨some 99, none, 0, 0, .ext (.t 96) 0⟩,
  ⟨some 100, none, 0, 0, .ext (.t 96) 1⟩,
  ⟨some 17, none, 0, 0, .alloc [.int .i64 0, .int .i64 0]⟩,
  ⟨none, none, 0, 0, .store true 2 (.t 17) (.t 99)⟩,
  ⟨some 18, none, 0, 0, .mv (.t 100)⟩])
 (.seq (.reg [⟨some 102, none, 0, 0, .call 62 [.k (.int .i64 0), .k (.bool false), .k (.int .u64 4)]⟩,
  ⟨some 103, none, 0, 0, .call 64 [.t 102, .k (.int .i64 7)]⟩,
  ⟨some 101, none, 0, 0, .mv (.t 103)⟩,
  ⟨some 104, none, 0, 0, .ext (.t 101) 0⟩,
  ⟨some 105, none, 0, 0, .ext (.t 101) 1⟩,
  ⟨some 19, none, 0, 0, .alloc [.int .i64 0, .int .i64 0]⟩,
  ⟨none, none, 0, 0, .store true 2 (.t 19) (.t 104)⟩,
  ⟨some 20, none, 0, 0, .mv (.t 105)⟩])
 (.seq (.reg [⟨some 107, none, 0, 0, .call 63 [.k (.int .i64 0), .k (.int .u64 3), .k (.int .u64 7)]⟩,
  ⟨some 108, none, 0, 0, .call 64 [.t 107, .k (.int .i64 6)]⟩,
  ⟨some 106, none, 0, 0, .mv (.t 108)⟩,
  ⟨some 109, none, 0, 0, .ext (.t 106) 0⟩,
  ⟨some 110, none, 0, 0, .ext (.t 106) 1⟩,
  ⟨some 21, none, 0, 0, .alloc [.int .i64 0, .int .i64 0]⟩,
  ⟨none, none, 0, 0, .store true 2 (.t 21) (.t 109)⟩,
  ⟨some 22, none, 0, 0, .mv (.t 110)⟩])
 (.seq (.reg [⟨some 112, none, 0, 0, .call 65 [.k (.int .i64 0), .k (.str [97])]⟩,
  ⟨some 113, none, 0, 0, .call 64 [.t 112, .k (.int .i64 9)]⟩,
  ⟨some 111, none, 0, 0, .mv (.t 113)⟩,
  ⟨some 114, none, 0, 0, .ext (.t 111) 0⟩,
  ⟨some 115, none, 0, 0, .ext (.t 111) 1⟩,
  ⟨some 23, none, 0, 0, .alloc [.int .i64 0, .int .i64 0]⟩,
  ⟨none, none, 0, 0, .store true 2 (.t 23) (.t 114)⟩,
  ⟨some 24, none, 0, 0, .mv (.t 115)⟩])
 (.seq (.reg [⟨some 116, none, 0, 0, .mv (.t 12)⟩,
  ⟨some 117, none, 0, 0, .bin .eql (.t 116) (.k (.int .i64 3))⟩,
  ⟨some 118, none, 0, 0, .mv (.t 117)⟩,
  ⟨some 119, (some (118, true)), 0, 0, .mv (.t 14)⟩,
  ⟨some 120, (some (118, true)), 0, 0, .bin .eql (.t 119) (.k (.int .i64 2))⟩,
  ⟨some 121, none, 0, 0, .pick (.t 118) (.t 120) (.k (.bool false))⟩,
  ⟨some 122, none, 0, 0, .mv (.t 121)⟩,
  ⟨some 123, (some (122, true)), 0, 0, .mv (.t 16)⟩,
  ⟨some 124, (some (122, true)), 0, 0, .bin .eql (.t 123) (.k (.int .i64 16))⟩,
  ⟨some 125, none, 0, 0, .pick (.t 122) (.t 124) (.k (.bool false))⟩,
  ⟨some 126, none, 0, 0, .mv (.t 125)⟩,
  ⟨some 127, (some (126, true)), 0, 0, .mv (.t 18)⟩,
  ⟨some 128, (some (126, true)), 0, 0, .bin .eql (.t 127) (.k (.int .i64 0))⟩,
  ⟨some 129, none, 0, 0, .pick (.t 126) (.t 128) (.k (.bool false))⟩,
  ⟨some 130, none, 0, 0, .mv (.t 129)⟩,
  ⟨some 131, (some (130, true)), 0, 0, .load true 2 (.t 17)⟩,
  ⟨some 132, (some (130, true)), 0, 0, .build [.int .i64 0, .int .i64 0] [(0, 1, .k (.int .i64 3)), (1, 1, .k (.int .i64 7))]⟩,
  ⟨some 133, (some (130, true)), 0, 0, .eqa false [1, 1] (.t 131) (.t 132)⟩,
  ⟨some 134, none, 0, 0, .pick (.t 130) (.t 133) (.k (.bool false))⟩,
  ⟨some 135, none, 0, 0, .mv (.t 134)⟩,
  ⟨some 136, (some (135, true)), 0, 0, .mv (.t 20)⟩,
  ⟨some 137, (some (135, true)), 0, 0, .bin .eql (.t 136) (.k (.int .i64 0))⟩,
  ⟨some 138, none, 0, 0, .pick (.t 135) (.t 137) (.k (.bool false))⟩,
  ⟨some 139, none, 0, 0, .mv (.t 138)⟩,
  ⟨some 140, (some (139, true)), 0, 0, .load true 2 (.t 19)⟩,
  ⟨some 141, (some (139, true)), 0, 0, .build [.int .i64 0, .int .i64 0] [(0, 1, .k (.int .i64 4)), (1, 1, .k (.int .i64 4))]⟩,
  ⟨some 142, (some (139, true)), 0, 0, .eqa false [1, 1] (.t 140) (.t 141)⟩,
  ⟨some 143, none, 0, 0, .pick (.t 139) (.t 142) (.k (.bool false))⟩,
  ⟨some 144, none, 0, 0, .mv (.t 143)⟩,
  ⟨some 145, (some (144, true)), 0, 0, .mv (.t 22)⟩,
  ⟨some 146, (some (144, true)), 0, 0, .bin .eql (.t 145) (.k (.int .i64 2))⟩,
  ⟨some 147, none, 0, 0, .pick (.t 144) (.t 146) (.k (.bool false))⟩,
  ⟨some 148, none, 0, 0, .mv (.t 147)⟩,
  ⟨some 149, (some (148, true)), 0, 0, .mv (.t 24)⟩,
  ⟨some 150, (some (148, true)), 0, 0, .bin .eql (.t 149) (.k (.int .i64 16))⟩,
  ⟨some 151, none, 0, 0, .pick (.t 148) (.t 150) (.k (.bool false))⟩,
  ⟨some 25, none, 0, 0, .mv (.t 151)⟩])
 (.seq (.reg [⟨some 152, none, 0, 0, .call 62 [.k (.int .i64 0), .k (.bool true), .k (.int .u64 0)]⟩,
  ⟨some 153, none, 0, 0, .call 66 [.t 152]⟩,
  ⟨some 154, none, 0, 0, .bin .eql (.t 153) (.k (.int .i64 3))⟩,
  ⟨some 155, none, 0, 0, .mv (.t 154)⟩,
  ⟨some 156, (some (155, true)), 0, 0, .build [.int .i64 0, .int .i64 0, .str [], .bool false, .int .u64 0, .int .u64 0] [(1, 1, .k (.int .i64 4))]⟩,
  ⟨some 157, (some (155, true)), 0, 0, .call 66 [.t 156]⟩,
  ⟨some 158, (some (155, true)), 0, 0, .bin .eql (.t 157) (.k (.int .i64 16))⟩,
  ⟨some 159, none, 0, 0, .pick (.t 155) (.t 158) (.k (.bool false))⟩,
  ⟨some 26, none, 0, 0, .mv (.t 159)⟩])
 (.seq (.reg [⟨some 160, none, 0, 0, .call 67 []⟩,
  ⟨some 161, none, 0, 0, .mv (.t 160)⟩,
  ⟨some 162, (some (161, true)), 0, 0, .fadr 0 (.t 2)⟩,
  ⟨some 163, (some (161, true)), 0, 0, .load false 1 (.t 162)⟩,
  ⟨some 164, (some (161, true)), 0, 0, .bin .eql (.t 163) (.k (.int .i64 0))⟩,
  ⟨some 165, none, 0, 0, .pick (.t 161) (.t 164) (.k (.bool false))⟩,
  ⟨some 166, none, 0, 0, .mv (.t 165)⟩,
  ⟨some 167, (some (166, true)), 0, 0, .mv (.t 1)⟩,
  ⟨some 168, (some (166, true)), 0, 0, .len false (.t 167)⟩,
  ⟨some 169, (some (166, true)), 0, 0, .bin .eql (.t 168) (.k (.int .i64 0))⟩,
  ⟨some 170, none, 0, 0, .pick (.t 166) (.t 169) (.k (.bool false))⟩,
  ⟨some 171, none, 0, 0, .mv (.t 170)⟩,
  ⟨some 172, (some (171, true)), 0, 0, .fadr 0 (.t 4)⟩,
  ⟨some 173, (some (171, true)), 0, 0, .load false 1 (.t 172)⟩,
  ⟨some 174, (some (171, true)), 0, 0, .bin .eql (.t 173) (.k (.int .i64 0))⟩,
  ⟨some 175, none, 0, 0, .pick (.t 171) (.t 174) (.k (.bool false))⟩,
  ⟨some 176, none, 0, 0, .mv (.t 175)⟩,
  ⟨some 177, (some (176, true)), 0, 0, .mv (.t 3)⟩,
  ⟨some 178, (some (176, true)), 0, 0, .call 62 [.k (.int .i64 0), .k (.bool false), .k (.int .u64 7)]⟩,
  ⟨some 179, (some (176, true)), 0, 0, .bsl 6 [.int .i64 0, .int .i64 0, .str [], .bool false, .int .u64 0, .int .u64 0] 1 [(0, .t 178)]⟩,
  ⟨some 180, (some (176, true)), 0, 0, .call 69 [.k (.int .i64 0), .t 179]⟩,
  ⟨some 181, (some (176, true)), 0, 0, .bsl 2 [.int .i64 0, .nils] 1 [(0, .t 180)]⟩,
  ⟨some 182, (some (176, true)), 0, 0, .call 68 [.t 177, .t 181, .k (.bool true)]⟩,
  ⟨some 183, none, 0, 0, .pick (.t 176) (.t 182) (.k (.bool false))⟩,
  ⟨some 184, none, 0, 0, .mv (.t 183)⟩,
  ⟨some 185, (some (184, true)), 0, 0, .mv (.t 5)⟩,
  ⟨some 186, none, 0, 0, .pick (.t 184) (.t 185) (.k (.bool false))⟩,
  ⟨some 187, none, 0, 0, .mv (.t 186)⟩,
  ⟨some 188, (some (187, true)), 0, 0, .mv (.t 10)⟩,
  ⟨some 189, none, 0, 0, .pick (.t 187) (.t 188) (.k (.bool false))⟩,
  ⟨some 190, none, 0, 0, .mv (.t 189)⟩,
  ⟨some 191, (some (190, true)), 0, 0, .mv (.t 25)⟩,
  ⟨some 192, none, 0, 0, .pick (.t 190) (.t 191) (.k (.bool false))⟩,
  ⟨some 193, none, 0, 0, .mv (.t 192)⟩,
  ⟨some 194, (some (193, true)), 0, 0, .mv (.t 26)⟩,
  ⟨some 195, none, 0, 0, .pick (.t 193) (.t 194) (.k (.bool false))⟩,
  ⟨some 0, none, 0, 0, .mv (.t 195)⟩])
 .ret))))))))))))))))) }
theorem ok11 : okFun Tryd.prog gl 11 h11 = true := by kernel_rfl
/- 56: headgate/row.Rows -/
def h56l0 : C := (.keep [3, 4, 5, 6, 7] (.seq (.seq (.reg [⟨some 16, none, 0, 0, .mv (.t 7)⟩])
 (.cond (.t 16)
 .skip
 (.exit 0)))
 (.block 1 (.seq (.reg [⟨some 8, none, 0, 0, .mv (.k (.str []))⟩])
 (.seq (.reg [⟨some 18, none, 0, 0, .mv (.t 6)⟩,
  ⟨some 19, none, 0, 0, .call 104 [.t 18, .k (.str [10])]⟩,
  ⟨some 17, none, 0, 0, .mv (.t 19)⟩,
  ⟨some 20, none, 0, 0, .ext (.t 17) 0⟩,
  ⟨some 21, none, 0, 0, .ext (.t 17) 1⟩,
  ⟨some 22, none, 0, 0, .ext (.t 17) 2⟩,
  ⟨some 8, none, 0, 0, .mv (.t 20)⟩,
  ⟨some 6, none, 0, 0, .mv (.t 21)⟩,
  ⟨some 7, none, 0, 0, .mv (.t 22)⟩])
 (.seq (.seq (.reg [⟨some 23, none, 0, 0, .mv (.t 8)⟩,
  ⟨some 24, none, 0, 0, .len true (.t 23)⟩,
  ⟨some 25, none, 0, 0, .bin .gtr (.t 24) (.k (.int .i64 1000))⟩])
 (.cond (.t 25)
 (.seq (.reg [⟨some 26, none, 0, 0, .mv (.t 5)⟩,
  ⟨some 27, none, 0, 0, .build [.int .i64 0, .int .i64 0] [(0, 1, .k (.int .i64 4)), (1, 1, .t 26)]⟩,
  ⟨some 2, none, 0, 0, .mv (.k (.nils))⟩,
  ⟨none, none, 0, 0, .store true 2 (.t 3) (.t 27)⟩])
 .ret)
 .skip))
 (.seq (.reg [⟨some 29, none, 0, 0, .mv (.t 8)⟩,
  ⟨some 30, none, 0, 0, .mv (.t 5)⟩,
  ⟨some 31, none, 0, 0, .call 105 [.t 29, .t 30]⟩,
  ⟨some 28, none, 0, 0, .mv (.t 31)⟩,
  ⟨some 32, none, 0, 0, .ext (.t 28) 0⟩,
  ⟨some 33, none, 0, 0, .ext (.t 28) 1⟩,
  ⟨some 9, none, 0, 0, .mv (.t 32)⟩,
  ⟨some 10, none, 0, 0, .mv (.t 33)⟩])
 (.seq (.seq (.reg [⟨some 34, none, 0, 0, .mv (.t 10)⟩,
  ⟨some 35, none, 0, 0, .bin .geq (.t 34) (.k (.int .i64 0))⟩])
 (.cond (.t 35)
 (.seq (.reg [⟨some 36, none, 0, 0, .mv (.t 10)⟩,
  ⟨some 37, none, 0, 0, .build [.int .i64 0, .int .i64 0] [(0, 1, .k (.int .i64 3)), (1, 1, .t 36)]⟩,
  ⟨some 2, none, 0, 0, .mv (.k (.nils))⟩,
  ⟨none, none, 0, 0, .store true 2 (.t 3) (.t 37)⟩])
 .ret)
 .skip))
 (.seq (.seq (.reg [⟨some 38, none, 0, 0, .mv (.t 9)⟩,
  ⟨some 39, none, 0, 0, .len false (.t 38)⟩,
  ⟨some 40, none, 0, 0, .bin .gtr (.t 39) (.k (.int .i64 0))⟩])
 (.cond (.t 40)
 (.reg [⟨some 41, none, 0, 0, .mv (.t 4)⟩,
  ⟨some 42, none, 0, 0, .mv (.t 5)⟩,
  ⟨some 43, none, 0, 0, .mv (.t 9)⟩,
  ⟨some 44, none, 0, 0, .build [.int .i64 0, .nils] [(0, 1, .t 42), (1, 1, .t 43)]⟩,
  ⟨some 45, none, 0, 0, .bsl 2 [.int .i64 0, .nils] 1 [(0, .t 44)]⟩,
  ⟨some 46, none, 0, 0, .app 2 32 [.int .i64 0, .nils] (.t 41) (.t 45)⟩,
  ⟨some 4, none, 0, 0, .mv (.t 46)⟩])
 .skip))
 (.reg [⟨some 47, none, 0, 0, .mv (.t 5)⟩,
  ⟨some 48, none, 0, 0, .mv (.t 8)⟩,
  ⟨some 49, none, 0, 0, .len true (.t 48)⟩,
  ⟨some 50, none, 0, 0, .bin .add (.t 49) (.k (.int .i64 1))⟩,
  ⟨some 51, none, 0, 0, .bin .add (.t 47) (.t 50)⟩,
  ⟨some 5, none, 0, 0, .mv (.t 51)⟩]))))))))))
def h56 : Fn := { np := 1, res := [.t 2, .cell 3 true 2], body :=
 (.seq (.reg [⟨some 2, none, 0, 0, .mv (.k (.nils))⟩,
  ⟨some 3, none, 0, 0, .alloc [.int .i64 0, .int .i64 0]⟩])
 (.seq (.seq (.reg [⟨some 11, none, 0, 0, .mv (.t 0)⟩,
  ⟨some 12, none, 0, 0, .len true (.t 11)⟩,
  ⟨some 13, none, 0, 0, .bin .gtr (.t 12) (.k (.int .i64 20000))⟩])
 (.cond (.t 13)
 (.seq (.reg [⟨some 14, none, 0, 0, .build [.int .i64 0, .int .i64 0] [(0, 1, .k (.int .i64 4)), (1, 1, .k (.int .i64 20000))]⟩,
  ⟨some 2, none, 0, 0, .mv (.k (.nils))⟩,
  ⟨none, none, 0, 0, .store true 2 (.t 3) (.t 14)⟩])
 .ret)
 .skip))
 (.seq (.reg [⟨some 4, none, 0, 0, .mv (.k (.nils))⟩])
 (.seq (.seq (.reg [⟨some 15, none, 0, 0, .mv (.t 0)⟩,
  ⟨some 5, none, 0, 0, .mv (.k (.int .i64 0))⟩,
  ⟨some 6, none, 0, 0, .mv (.t 15)⟩,
  ⟨some 7, none, 0, 0, .mv (.k (.bool true))⟩])
 (.block 0 (.loop h56l0)))
 (.seq (.reg [⟨some 52, none, 0, 0, .mv (.t 4)⟩,
  ⟨some 53, none, 0, 0, .build [.int .i64 0, .int .i64 0] []⟩,
  ⟨some 2, none, 0, 0, .mv (.t 52)⟩,
  ⟨none, none, 0, 0, .store true 2 (.t 3) (.t 53)⟩])
 .ret))))) }
theorem ok56 : okFun Tryd.prog gl 56 h56 = true := by kernel_rfl
/- 57: headgate/headgatelaw05.fails -/
def h57 : Fn := { np := 2, res := [.t 4], body :=
 (.seq (.reg [⟨some 4, none, 0, 0, .mv (.k (.bool false))⟩])
 (.seq (.reg [⟨some 8, none, 0, 0, .mv (.t 0)⟩,
  ⟨some 9, none, 0, 0, .call 56 [.t 8]⟩,
  ⟨some 7, none, 0, 0, .mv (.t 9)⟩,
  ⟨some 10, none, 0, 0, .ext (.t 7) 0⟩,
  ⟨some 11, none, 0, 0, .ext (.t 7) 1⟩,
  ⟨some 6, none, 0, 0, .alloc [.int .i64 0, .int .i64 0]⟩,
  ⟨some 5, none, 0, 0, .mv (.t 10)⟩,
  ⟨none, none, 0, 0, .store true 2 (.t 6) (.t 11)⟩])
 (.seq (.reg [⟨some 12, none, 0, 0, .mv (.t 5)⟩,
  ⟨some 13, none, 0, 0, .len false (.t 12)⟩,
  ⟨some 14, none, 0, 0, .bin .eql (.t 13) (.k (.int .i64 0))⟩,
  ⟨some 15, none, 0, 0, .mv (.t 14)⟩,
  ⟨some 16, (some (15, true)), 0, 0, .load true 2 (.t 6)⟩,
  ⟨some 17, (some (15, true)), 0, 0, .mv (.t 1)⟩,
  ⟨some 18, (some (15, true)), 0, 0, .build [.int .i64 0, .int .i64 0] [(0, 1, .k (.int .i64 3)), (1, 1, .t 17)]⟩,
  ⟨some 19, (some (15, true)), 0, 0, .eqa false [1, 1] (.t 16) (.t 18)⟩,
  ⟨some 20, none, 0, 0, .pick (.t 15) (.t 19) (.k (.bool false))⟩,
  ⟨some 4, none, 0, 0, .mv (.t 20)⟩])
 .ret))) }
theorem ok57 : okFun Tryd.prog gl 57 h57 = true := by kernel_rfl
/- 58: headgate/row.Number -/
def h58l0 : C := (.keep [0, 4, 7, 34, 35] (.seq (.reg [⟨some 36, none, 0, 0, .bin .lss (.t 35) (.t 34)⟩])
 (.seq (.cond (.t 36)
 .skip
 (.exit 0))
 (.seq (.block 1 (.seq (.reg [⟨some 37, none, 0, 0, .mv (.t 35)⟩,
  ⟨some 8, none, 0, 0, .mv (.t 37)⟩])
 (.seq (.reg [⟨some 38, none, 0, 0, .mv (.t 0)⟩,
  ⟨some 39, none, 0, 0, .mv (.t 8)⟩,
  ⟨some 40, none, 0, 0, .ids (.t 38) (.t 39)⟩,
  ⟨some 41, none, 0, 0, .call 107 [.k (.str [48, 49, 50, 51, 52, 53, 54, 55, 56, 57, 97, 98, 99, 100, 101, 102]), .t 40]⟩,
  ⟨some 42, none, 0, 0, .cv .u64 (.t 41)⟩,
  ⟨some 9, none, 0, 0, .mv (.t 42)⟩])
 (.seq (.seq (.reg [⟨some 43, none, 0, 0, .mv (.t 9)⟩,
  ⟨some 44, none, 0, 0, .mv (.t 4)⟩,
  ⟨some 45, none, 0, 0, .bin .geq (.t 43) (.t 44)⟩,
  ⟨some 46, none, 0, 0, .mv (.t 45)⟩,
  ⟨some 47, (some (46, false)), 0, 0, .mv (.t 7)⟩,
  ⟨some 48, (some (46, false)), 0, 0, .mv (.t 9)⟩,
  ⟨some 49, (some (46, false)), 0, 0, .bin .sub (.k (.int .u64 18446744073709551615)) (.t 48)⟩,
  ⟨some 50, (some (46, false)), 0, 0, .mv (.t 4)⟩,
  ⟨some 51, (some (46, false)), 0, 0, .bin .quo (.t 49) (.t 50)⟩,
  ⟨some 52, (some (46, false)), 0, 0, .bin .gtr (.t 47) (.t 51)⟩,
  ⟨some 53, none, 0, 0, .pick (.t 46) (.k (.bool true)) (.t 52)⟩])
 (.cond (.t 53)
 (.seq (.reg [⟨some 2, none, 0, 0, .mv (.k (.int .u64 0))⟩,
  ⟨some 3, none, 0, 0, .mv (.k (.bool false))⟩])
 .ret)
 .skip))
 (.reg [⟨some 54, none, 0, 0, .mv (.t 4)⟩,
  ⟨some 55, none, 0, 0, .mv (.t 7)⟩,
  ⟨some 56, none, 0, 0, .bin .mul (.t 54) (.t 55)⟩,
  ⟨some 57, none, 0, 0, .mv (.t 9)⟩,
  ⟨some 58, none, 0, 0, .bin .add (.t 56) (.t 57)⟩,
  ⟨some 7, none, 0, 0, .mv (.t 58)⟩])))))
 (.reg [⟨some 59, none, 0, 0, .bin .add (.t 35) (.k (.int .i64 1))⟩,
  ⟨some 35, none, 0, 0, .mv (.t 59)⟩])))))
def h58 : Fn := { np := 1, res := [.t 2, .t 3], body :=
 (.seq (.reg [⟨some 2, none, 0, 0, .mv (.k (.int .u64 0))⟩,
  ⟨some 3, none, 0, 0, .mv (.k (.bool false))⟩])
 (.seq (.reg [⟨some 4, none, 0, 0, .mv (.k (.int .u64 10))⟩])
 (.seq (.seq (.reg [⟨some 11, none, 0, 0, .mv (.t 0)⟩,
  ⟨some 12, none, 0, 0, .call 106 [.t 11, .k (.str [48, 120])]⟩,
  ⟨some 10, none, 0, 0, .mv (.t 12)⟩,
  ⟨some 13, none, 0, 0, .ext (.t 10) 0⟩,
  ⟨some 14, none, 0, 0, .ext (.t 10) 1⟩,
  ⟨some 5, none, 0, 0, .mv (.t 13)⟩,
  ⟨some 6, none, 0, 0, .mv (.t 14)⟩])
 (.seq (.reg [⟨some 15, none, 0, 0, .mv (.t 6)⟩])
 (.cond (.t 15)
 (.seq (.reg [⟨some 16, none, 0, 0, .mv (.t 5)⟩,
  ⟨some 0, none, 0, 0, .mv (.t 16)⟩,
  ⟨some 4, none, 0, 0, .mv (.k (.int .u64 16))⟩])
 (.seq (.reg [⟨some 17, none, 0, 0, .mv (.t 0)⟩,
  ⟨some 18, none, 0, 0, .len true (.t 17)⟩,
  ⟨some 19, none, 0, 0, .bin .gtr (.t 18) (.k (.int .i64 16))⟩])
 (.cond (.t 19)
 (.seq (.reg [⟨some 2, none, 0, 0, .mv (.k (.int .u64 0))⟩,
  ⟨some 3, none, 0, 0, .mv (.k (.bool false))⟩])
 .ret)
 .skip)))
 (.seq (.reg [⟨some 20, none, 0, 0, .mv (.t 0)⟩,
  ⟨some 21, none, 0, 0, .len true (.t 20)⟩,
  ⟨some 22, none, 0, 0, .bin .gtr (.t 21) (.k (.int .i64 20))⟩,
  ⟨some 23, none, 0, 0, .mv (.t 22)⟩,
  ⟨some 24, (some (23, false)), 0, 0, .mv (.t 0)⟩,
  ⟨some 25, (some (23, false)), 0, 0, .len true (.t 24)⟩,
  ⟨some 26, (some (23, false)), 0, 0, .bin .gtr (.t 25) (.k (.int .i64 1))⟩,
  ⟨some 27, (some (23, false)), 0, 0, .mv (.t 26)⟩,
  ⟨some 28, (some (27, true)), 0, 0, .mv (.t 0)⟩,
  ⟨some 29, (some (27, true)), 0, 0, .ids (.t 28) (.k (.int .i64 0))⟩,
  ⟨some 30, (some (27, true)), 0, 0, .bin .eql (.t 29) (.k (.int .u8 48))⟩,
  ⟨some 31, (some (23, false)), 0, 0, .pick (.t 27) (.t 30) (.k (.bool false))⟩,
  ⟨some 32, none, 0, 0, .pick (.t 23) (.k (.bool true)) (.t 31)⟩])
 (.cond (.t 32)
 (.seq (.reg [⟨some 2, none, 0, 0, .mv (.k (.int .u64 0))⟩,
  ⟨some 3, none, 0, 0, .mv (.k (.bool false))⟩])
 .ret)
 .skip)))))
 (.seq (.reg [⟨some 7, none, 0, 0, .mv (.k (.int .u64 0))⟩])
 (.seq (.seq (.reg [⟨some 33, none, 0, 0, .mv (.t 0)⟩,
  ⟨some 34, none, 0, 0, .len true (.t 33)⟩,
  ⟨some 35, none, 0, 0, .mv (.k (.int .i64 0))⟩])
 (.block 0 (.loop h58l0)))
 (.seq (.reg [⟨some 60, none, 0, 0, .mv (.t 7)⟩,
  ⟨some 61, none, 0, 0, .mv (.t 0)⟩,
  ⟨some 62, none, 0, 0, .bin .neq (.t 61) (.k (.str []))⟩,
  ⟨some 2, none, 0, 0, .mv (.t 60)⟩,
  ⟨some 3, none, 0, 0, .mv (.t 62)⟩])
 .ret)))))) }
theorem ok58 : okFun Tryd.prog gl 58 h58 = true := by kernel_rfl
/- 59: headgate/headgatelaw05.numbers -/
def h59 : Fn := { np := 2, res := [.t 4], body :=
 (.seq (.reg [⟨some 4, none, 0, 0, .mv (.k (.bool false))⟩])
 (.seq (.reg [⟨some 8, none, 0, 0, .mv (.t 0)⟩,
  ⟨some 9, none, 0, 0, .call 58 [.t 8]⟩,
  ⟨some 7, none, 0, 0, .mv (.t 9)⟩,
  ⟨some 10, none, 0, 0, .ext (.t 7) 0⟩,
  ⟨some 11, none, 0, 0, .ext (.t 7) 1⟩,
  ⟨some 5, none, 0, 0, .mv (.t 10)⟩,
  ⟨some 6, none, 0, 0, .mv (.t 11)⟩])
 (.seq (.reg [⟨some 12, none, 0, 0, .mv (.t 6)⟩,
  ⟨some 13, none, 0, 0, .mv (.t 12)⟩,
  ⟨some 14, (some (13, true)), 0, 0, .mv (.t 5)⟩,
  ⟨some 15, (some (13, true)), 0, 0, .mv (.t 1)⟩,
  ⟨some 16, (some (13, true)), 0, 0, .bin .eql (.t 14) (.t 15)⟩,
  ⟨some 17, none, 0, 0, .pick (.t 13) (.t 16) (.k (.bool false))⟩,
  ⟨some 4, none, 0, 0, .mv (.t 17)⟩])
 .ret))) }
theorem ok59 : okFun Tryd.prog gl 59 h59 = true := by kernel_rfl
/- 60: headgate/row.Text -/
def h60l0 : C := (.keep [4, 7, 11, 12, 13, 24, 25, 26] (.seq (.reg [⟨some 27, none, 0, 0, .bin .lss (.t 26) (.t 25)⟩])
 (.seq (.cond (.t 27)
 .skip
 (.exit 2))
 (.seq (.block 3 (.seq (.reg [⟨some 28, none, 0, 0, .mv (.t 26)⟩,
  ⟨some 29, none, 0, 0, .iadr 6 (.t 24) (.t 26)⟩,
  ⟨some 30, none, 0, 0, .load true 6 (.t 29)⟩,
  ⟨some 9, none, 0, 0, .alloc [.int .i64 0, .int .i64 0, .str [], .bool false, .int .u64 0, .int .u64 0]⟩,
  ⟨some 8, none, 0, 0, .mv (.t 28)⟩,
  ⟨none, none, 0, 0, .store true 6 (.t 9) (.t 30)⟩])
 (.seq (.seq (.reg [⟨some 31, none, 0, 0, .load true 6 (.t 9)⟩,
  ⟨some 32, none, 0, 0, .call 66 [.t 31]⟩,
  ⟨some 10, none, 0, 0, .mv (.t 32)⟩])
 (.seq (.reg [⟨some 33, none, 0, 0, .mv (.t 10)⟩,
  ⟨some 34, none, 0, 0, .bin .neq (.t 33) (.k (.int .i64 0))⟩])
 (.cond (.t 34)
 (.seq (.reg [⟨some 35, none, 0, 0, .mv (.t 10)⟩,
  ⟨some 2, none, 0, 0, .mv (.k (.str []))⟩,
  ⟨some 3, none, 0, 0, .mv (.t 35)⟩])
 .ret)
 .skip)))
 (.seq (.seq (.reg [⟨some 36, none, 0, 0, .mv (.t 8)⟩,
  ⟨some 37, none, 0, 0, .bin .gtr (.t 36) (.k (.int .i64 0))⟩])
 (.cond (.t 37)
 (.reg [⟨some 38, none, 0, 0, .mv (.t 4)⟩,
  ⟨some 39, none, 0, 0, .bsl 1 [.int .u8 0] 1 [(0, .k (.int .u8 32))]⟩,
  ⟨some 40, none, 0, 0, .app 1 1 [.int .u8 0] (.t 38) (.t 39)⟩,
  ⟨some 4, none, 0, 0, .mv (.t 40)⟩])
 .skip))
 (.reg [⟨some 41, none, 0, 0, .mv (.t 4)⟩,
  ⟨some 42, none, 0, 0, .load true 6 (.t 9)⟩,
  ⟨some 43, none, 0, 0, .call 108 [.t 42]⟩,
  ⟨some 44, none, 0, 0, .app 1 1 [.int .u8 0] (.t 41) (.t 43)⟩,
  ⟨some 4, none, 0, 0, .mv (.t 44)⟩])))))
 (.reg [⟨some 45, none, 0, 0, .bin .add (.t 26) (.k (.int .i64 1))⟩,
  ⟨some 26, none, 0, 0, .mv (.t 45)⟩])))))
def h60l1 : C := (.keep [4, 11, 12, 13] (.seq (.reg [⟨some 14, none, 0, 0, .bin .lss (.t 13) (.t 12)⟩])
 (.seq (.cond (.t 14)
 .skip
 (.exit 0))
 (.seq (.block 1 (.seq (.reg [⟨some 15, none, 0, 0, .iadr 2 (.t 11) (.t 13)⟩,
  ⟨some 16, none, 0, 0, .load true 2 (.t 15)⟩,
  ⟨some 6, none, 0, 0, .alloc [.int .i64 0, .nils]⟩,
  ⟨none, none, 0, 0, .store true 2 (.t 6) (.t 16)⟩])
 (.seq (.seq (.reg [⟨some 17, none, 0, 0, .fadr 1 (.t 6)⟩,
  ⟨some 18, none, 0, 0, .load false 1 (.t 17)⟩,
  ⟨some 19, none, 0, 0, .len false (.t 18)⟩,
  ⟨some 20, none, 0, 0, .bin .eql (.t 19) (.k (.int .i64 0))⟩])
 (.cond (.t 20)
 (.seq (.reg [⟨some 2, none, 0, 0, .mv (.k (.str []))⟩,
  ⟨some 3, none, 0, 0, .mv (.k (.int .i64 3))⟩])
 .ret)
 .skip))
 (.seq (.reg [⟨some 21, none, 0, 0, .mv (.t 4)⟩,
  ⟨some 22, none, 0, 0, .len false (.t 21)⟩,
  ⟨some 7, none, 0, 0, .mv (.t 22)⟩])
 (.seq (.seq (.reg [⟨some 23, none, 0, 0, .fadr 1 (.t 6)⟩,
  ⟨some 24, none, 0, 0, .load false 1 (.t 23)⟩,
  ⟨some 25, none, 0, 0, .len false (.t 24)⟩,
  ⟨some 26, none, 0, 0, .mv (.k (.int .i64 0))⟩])
 (.block 2 (.loop h60l0)))
 (.seq (.seq (.reg [⟨some 46, none, 0, 0, .mv (.t 4)⟩,
  ⟨some 47, none, 0, 0, .len false (.t 46)⟩,
  ⟨some 48, none, 0, 0, .mv (.t 7)⟩,
  ⟨some 49, none, 0, 0, .bin .sub (.t 47) (.t 48)⟩,
  ⟨some 50, none, 0, 0, .bin .gtr (.t 49) (.k (.int .i64 1000))⟩,
  ⟨some 51, none, 0, 0, .mv (.t 50)⟩,
  ⟨some 52, (some (51, false)), 0, 0, .mv (.t 4)⟩,
  ⟨some 53, (some (51, false)), 0, 0, .len false (.t 52)⟩,
  ⟨some 54, (some (51, false)), 0, 0, .bin .geq (.t 53) (.k (.int .i64 20000))⟩,
  ⟨some 55, none, 0, 0, .pick (.t 51) (.k (.bool true)) (.t 54)⟩])
 (.cond (.t 55)
 (.seq (.reg [⟨some 2, none, 0, 0, .mv (.k (.str []))⟩,
  ⟨some 3, none, 0, 0, .mv (.k (.int .i64 4))⟩])
 .ret)
 .skip))
 (.reg [⟨some 56, none, 0, 0, .mv (.t 4)⟩,
  ⟨some 57, none, 0, 0, .bsl 1 [.int .u8 0] 1 [(0, .k (.int .u8 10))]⟩,
  ⟨some 58, none, 0, 0, .app 1 1 [.int .u8 0] (.t 56) (.t 57)⟩,
  ⟨some 4, none, 0, 0, .mv (.t 58)⟩])))))))
 (.reg [⟨some 59, none, 0, 0, .bin .add (.t 13) (.k (.int .i64 1))⟩,
  ⟨some 13, none, 0, 0, .mv (.t 59)⟩])))))
def h60 : Fn := { np := 1, res := [.t 2, .t 3], body :=
 (.seq (.reg [⟨some 2, none, 0, 0, .mv (.k (.str []))⟩,
  ⟨some 3, none, 0, 0, .mv (.k (.int .i64 0))⟩])
 (.seq (.reg [⟨some 4, none, 0, 0, .mv (.k (.nils))⟩])
 (.seq (.seq (.reg [⟨some 11, none, 0, 0, .mv (.t 0)⟩,
  ⟨some 12, none, 0, 0, .len false (.t 11)⟩,
  ⟨some 13, none, 0, 0, .mv (.k (.int .i64 0))⟩])
 (.block 0 (.loop h60l1)))
 (.seq (.reg [⟨some 60, none, 0, 0, .mv (.t 4)⟩,
  ⟨some 61, none, 0, 0, .b2s (.t 60)⟩,
  ⟨some 2, none, 0, 0, .mv (.t 61)⟩,
  ⟨some 3, none, 0, 0, .mv (.k (.int .i64 0))⟩])
 .ret)))) }
theorem ok60 : okFun Tryd.prog gl 60 h60 = true := by kernel_rfl
/- 61: headgate/row.Int -/
def h61 : Fn := { np := 3, res := [.t 6, .t 7], body :=
 (.seq (.reg [⟨some 3, none, 0, 0, .box true 6 (.t 0)⟩,
  ⟨some 6, none, 0, 0, .mv (.k (.int .i64 0))⟩,
  ⟨some 7, none, 0, 0, .mv (.k (.int .i64 0))⟩])
 (.seq (.seq (.reg [⟨some 11, none, 0, 0, .load true 6 (.t 3)⟩,
  ⟨some 12, none, 0, 0, .call 66 [.t 11]⟩,
  ⟨some 8, none, 0, 0, .mv (.t 12)⟩])
 (.seq (.reg [⟨some 13, none, 0, 0, .mv (.t 8)⟩,
  ⟨some 14, none, 0, 0, .bin .neq (.t 13) (.k (.int .i64 0))⟩])
 (.cond (.t 14)
 (.seq (.reg [⟨some 15, none, 0, 0, .mv (.t 8)⟩,
  ⟨some 6, none, 0, 0, .mv (.k (.int .i64 0))⟩,
  ⟨some 7, none, 0, 0, .mv (.t 15)⟩])
 .ret)
 .skip)))
 (.seq (.reg [⟨some 9, none, 0, 0, .mv (.k (.int .u64 9223372036854775807))⟩])
 (.seq (.seq (.reg [⟨some 16, none, 0, 0, .fadr 3 (.t 3)⟩,
  ⟨some 17, none, 0, 0, .load false 1 (.t 16)⟩])
 (.cond (.t 17)
 (.reg [⟨some 18, none, 0, 0, .mv (.t 9)⟩,
  ⟨some 19, none, 0, 0, .bin .add (.t 18) (.k (.int .u64 1))⟩,
  ⟨some 9, none, 0, 0, .mv (.t 19)⟩])
 .skip))
 (.seq (.reg [⟨some 20, none, 0, 0, .fadr 4 (.t 3)⟩,
  ⟨some 21, none, 0, 0, .load false 1 (.t 20)⟩,
  ⟨some 22, none, 0, 0, .cv .i64 (.t 21)⟩,
  ⟨some 10, none, 0, 0, .mv (.t 22)⟩])
 (.seq (.seq (.reg [⟨some 23, none, 0, 0, .fadr 3 (.t 3)⟩,
  ⟨some 24, none, 0, 0, .load false 1 (.t 23)⟩])
 (.cond (.t 24)
 (.reg [⟨some 25, none, 0, 0, .mv (.t 10)⟩,
  ⟨some 26, none, 0, 0, .un .neg (.t 25)⟩,
  ⟨some 10, none, 0, 0, .mv (.t 26)⟩])
 .skip))
 (.seq (.block 0 (.seq (.reg [⟨some 28, none, 0, 0, .fadr 1 (.t 3)⟩,
  ⟨some 29, none, 0, 0, .load false 1 (.t 28)⟩,
  ⟨some 30, none, 0, 0, .bin .neq (.t 29) (.k (.int .i64 2))⟩,
  ⟨some 27, none, 0, 0, .mv (.t 30)⟩])
 (.cond (.t 27)
 (.seq (.reg [⟨some 6, none, 0, 0, .mv (.k (.int .i64 0))⟩,
  ⟨some 7, none, 0, 0, .mv (.k (.int .i64 16))⟩])
 .ret)
 (.seq (.reg [⟨some 32, none, 0, 0, .fadr 4 (.t 3)⟩,
  ⟨some 33, none, 0, 0, .load false 1 (.t 32)⟩,
  ⟨some 34, none, 0, 0, .mv (.t 9)⟩,
  ⟨some 35, none, 0, 0, .bin .gtr (.t 33) (.t 34)⟩,
  ⟨some 36, none, 0, 0, .mv (.t 35)⟩,
  ⟨some 37, (some (36, false)), 0, 0, .mv (.t 10)⟩,
  ⟨some 38, (some (36, false)), 0, 0, .mv (.t 1)⟩,
  ⟨some 39, (some (36, false)), 0, 0, .bin .lss (.t 37) (.t 38)⟩,
  ⟨some 40, none, 0, 0, .pick (.t 36) (.k (.bool true)) (.t 39)⟩,
  ⟨some 41, none, 0, 0, .mv (.t 40)⟩,
  ⟨some 42, (some (41, false)), 0, 0, .mv (.t 10)⟩,
  ⟨some 43, (some (41, false)), 0, 0, .mv (.t 2)⟩,
  ⟨some 44, (some (41, false)), 0, 0, .bin .gtr (.t 42) (.t 43)⟩,
  ⟨some 45, none, 0, 0, .pick (.t 41) (.k (.bool true)) (.t 44)⟩,
  ⟨some 31, none, 0, 0, .mv (.t 45)⟩])
 (.cond (.t 31)
 (.seq (.reg [⟨some 6, none, 0, 0, .mv (.k (.int .i64 0))⟩,
  ⟨some 7, none, 0, 0, .mv (.k (.int .i64 2))⟩])
 .ret)
 .skip)))))
 (.seq (.reg [⟨some 46, none, 0, 0, .mv (.t 10)⟩,
  ⟨some 6, none, 0, 0, .mv (.t 46)⟩,
  ⟨some 7, none, 0, 0, .mv (.k (.int .i64 0))⟩])
 .ret)))))))) }
theorem ok61 : okFun Tryd.prog gl 61 h61 = true := by kernel_rfl
/- 62: headgate/headgatelaw05.number -/
def h62 : Fn := { np := 3, res := [.cell 6 true 6], body :=
 (.seq (.reg [⟨some 6, none, 0, 0, .alloc [.int .i64 0, .int .i64 0, .str [], .bool false, .int .u64 0, .int .u64 0]⟩])
 (.seq (.reg [⟨some 7, none, 0, 0, .mv (.t 0)⟩,
  ⟨some 8, none, 0, 0, .mv (.t 1)⟩,
  ⟨some 9, none, 0, 0, .mv (.t 2)⟩,
  ⟨some 10, none, 0, 0, .build [.int .i64 0, .int .i64 0, .str [], .bool false, .int .u64 0, .int .u64 0] [(0, 1, .t 7), (1, 1, .k (.int .i64 2)), (3, 1, .t 8), (4, 1, .t 9)]⟩,
  ⟨none, none, 0, 0, .store true 6 (.t 6) (.t 10)⟩])
 .ret)) }
theorem ok62 : okFun Tryd.prog gl 62 h62 = true := by kernel_rfl
/- 63: headgate/headgatelaw05.span -/
def h63 : Fn := { np := 3, res := [.cell 6 true 6], body :=
 (.seq (.reg [⟨some 6, none, 0, 0, .alloc [.int .i64 0, .int .i64 0, .str [], .bool false, .int .u64 0, .int .u64 0]⟩])
 (.seq (.reg [⟨some 7, none, 0, 0, .mv (.t 0)⟩,
  ⟨some 8, none, 0, 0, .mv (.t 1)⟩,
  ⟨some 9, none, 0, 0, .mv (.t 2)⟩,
  ⟨some 10, none, 0, 0, .build [.int .i64 0, .int .i64 0, .str [], .bool false, .int .u64 0, .int .u64 0] [(0, 1, .t 7), (1, 1, .k (.int .i64 3)), (4, 1, .t 8), (5, 1, .t 9)]⟩,
  ⟨none, none, 0, 0, .store true 6 (.t 6) (.t 10)⟩])
 .ret)) }
theorem ok63 : okFun Tryd.prog gl 63 h63 = true := by kernel_rfl
/- 64: headgate/row.Span -/
def h64 : Fn := { np := 2, res := [.cell 4 true 2, .t 5], body :=
 (.seq (.reg [⟨some 2, none, 0, 0, .box true 6 (.t 0)⟩,
  ⟨some 4, none, 0, 0, .alloc [.int .i64 0, .int .i64 0]⟩,
  ⟨some 5, none, 0, 0, .mv (.k (.int .i64 0))⟩])
 (.seq (.seq (.reg [⟨some 8, none, 0, 0, .load true 6 (.t 2)⟩,
  ⟨some 9, none, 0, 0, .call 66 [.t 8]⟩,
  ⟨some 6, none, 0, 0, .mv (.t 9)⟩])
 (.seq (.reg [⟨some 10, none, 0, 0, .mv (.t 6)⟩,
  ⟨some 11, none, 0, 0, .bin .neq (.t 10) (.k (.int .i64 0))⟩])
 (.cond (.t 11)
 (.seq (.reg [⟨some 12, none, 0, 0, .build [.int .i64 0, .int .i64 0] []⟩,
  ⟨some 13, none, 0, 0, .mv (.t 6)⟩,
  ⟨none, none, 0, 0, .store true 2 (.t 4) (.t 12)⟩,
  ⟨some 5, none, 0, 0, .mv (.t 13)⟩])
 .ret)
 .skip)))
 (.seq (.reg [⟨some 14, none, 0, 0, .fadr 4 (.t 2)⟩,
  ⟨some 15, none, 0, 0, .load false 1 (.t 14)⟩,
  ⟨some 7, none, 0, 0, .mv (.t 15)⟩])
 (.seq (.block 0 (.seq (.reg [⟨some 17, none, 0, 0, .fadr 1 (.t 2)⟩,
  ⟨some 18, none, 0, 0, .load false 1 (.t 17)⟩,
  ⟨some 19, none, 0, 0, .bin .eql (.t 18) (.k (.int .i64 1))⟩,
  ⟨some 20, none, 0, 0, .mv (.t 19)⟩,
  ⟨some 21, (some (20, false)), 0, 0, .fadr 3 (.t 2)⟩,
  ⟨some 22, (some (20, false)), 0, 0, .load false 1 (.t 21)⟩,
  ⟨some 23, none, 0, 0, .pick (.t 20) (.k (.bool true)) (.t 22)⟩,
  ⟨some 16, none, 0, 0, .mv (.t 23)⟩])
 (.cond (.t 16)
 (.seq (.reg [⟨some 24, none, 0, 0, .build [.int .i64 0, .int .i64 0] []⟩,
  ⟨none, none, 0, 0, .store true 2 (.t 4) (.t 24)⟩,
  ⟨some 5, none, 0, 0, .mv (.k (.int .i64 16))⟩])
 .ret)
 (.seq (.reg [⟨some 26, none, 0, 0, .fadr 1 (.t 2)⟩,
  ⟨some 27, none, 0, 0, .load false 1 (.t 26)⟩,
  ⟨some 28, none, 0, 0, .bin .eql (.t 27) (.k (.int .i64 3))⟩,
  ⟨some 25, none, 0, 0, .mv (.t 28)⟩])
 (.cond (.t 25)
 (.reg [⟨some 29, none, 0, 0, .fadr 5 (.t 2)⟩,
  ⟨some 30, none, 0, 0, .load false 1 (.t 29)⟩,
  ⟨some 7, none, 0, 0, .mv (.t 30)⟩])
 .skip)))))
 (.seq (.seq (.reg [⟨some 31, none, 0, 0, .mv (.t 1)⟩,
  ⟨some 32, none, 0, 0, .bin .lss (.t 31) (.k (.int .i64 0))⟩,
  ⟨some 33, none, 0, 0, .mv (.t 32)⟩,
  ⟨some 34, (some (33, false)), 0, 0, .mv (.t 7)⟩,
  ⟨some 35, (some (33, false)), 0, 0, .mv (.t 1)⟩,
  ⟨some 36, (some (33, false)), 0, 0, .cv .u64 (.t 35)⟩,
  ⟨some 37, (some (33, false)), 0, 0, .bin .gtr (.t 34) (.t 36)⟩,
  ⟨some 38, none, 0, 0, .pick (.t 33) (.k (.bool true)) (.t 37)⟩])
 (.cond (.t 38)
 (.seq (.reg [⟨some 39, none, 0, 0, .build [.int .i64 0, .int .i64 0] []⟩,
  ⟨none, none, 0, 0, .store true 2 (.t 4) (.t 39)⟩,
  ⟨some 5, none, 0, 0, .mv (.k (.int .i64 2))⟩])
 .ret)
 .skip))
 (.seq (.reg [⟨some 40, none, 0, 0, .fadr 4 (.t 2)⟩,
  ⟨some 41, none, 0, 0, .load false 1 (.t 40)⟩,
  ⟨some 42, none, 0, 0, .cv .i64 (.t 41)⟩,
  ⟨some 43, none, 0, 0, .mv (.t 7)⟩,
  ⟨some 44, none, 0, 0, .cv .i64 (.t 43)⟩,
  ⟨some 45, none, 0, 0, .build [.int .i64 0, .int .i64 0] [(0, 1, .t 42), (1, 1, .t 44)]⟩,
  ⟨none, none, 0, 0, .store true 2 (.t 4) (.t 45)⟩,
  ⟨some 5, none, 0, 0, .mv (.k (.int .i64 0))⟩])
 .ret)))))) }
theorem ok64 : okFun Tryd.prog gl 64 h64 = true := by kernel_rfl
/- 65: headgate/headgatelaw05.name -/
def h65 : Fn := { np := 2, res := [.cell 4 true 6], body :=
 (.seq (.reg [⟨some 4, none, 0, 0, .alloc [.int .i64 0, .int .i64 0, .str [], .bool false, .int .u64 0, .int .u64 0]⟩])
 (.seq (.reg [⟨some 5, none, 0, 0, .mv (.t 0)⟩,
  ⟨some 6, none, 0, 0, .mv (.t 1)⟩,
  ⟨some 7, none, 0, 0, .build [.int .i64 0, .int .i64 0, .str [], .bool false, .int .u64 0, .int .u64 0] [(0, 1, .t 5), (1, 1, .k (.int .i64 1)), (2, 1, .t 6)]⟩,
  ⟨none, none, 0, 0, .store true 6 (.t 4) (.t 7)⟩])
 .ret)) }
theorem ok65 : okFun Tryd.prog gl 65 h65 = true := by kernel_rfl
/- 66: headgate/row.Sound -/
def h66 : Fn := { np := 1, res := [.t 2], body :=
 (.seq (.reg [⟨some 1, none, 0, 0, .box true 6 (.t 0)⟩,
  ⟨some 2, none, 0, 0, .mv (.k (.int .i64 0))⟩])
 (.seq (.reg [⟨some 4, none, 0, 0, .fadr 2 (.t 1)⟩,
  ⟨some 5, none, 0, 0, .load false 1 (.t 4)⟩,
  ⟨some 6, none, 0, 0, .bin .eql (.t 5) (.k (.str []))⟩,
  ⟨some 3, none, 0, 0, .mv (.t 6)⟩])
 (.seq (.seq (.reg [⟨some 7, none, 0, 0, .fadr 1 (.t 1)⟩,
  ⟨some 8, none, 0, 0, .load false 1 (.t 7)⟩])
 (.block 0 (.seq (.block 4 (.seq (.block 3 (.seq (.block 2 (.seq (.block 1 (.seq (.seq (.seq (.reg [⟨some 10, none, 0, 0, .bin .eql (.t 8) (.k (.int .i64 1))⟩,
  ⟨some 9, none, 0, 0, .mv (.t 10)⟩])
 (.cond (.t 9)
 (.exit 1)
 .skip))
 (.seq (.seq (.reg [⟨some 12, none, 0, 0, .bin .eql (.t 8) (.k (.int .i64 2))⟩,
  ⟨some 11, none, 0, 0, .mv (.t 12)⟩])
 (.cond (.t 11)
 (.exit 2)
 .skip))
 (.seq (.reg [⟨some 14, none, 0, 0, .bin .eql (.t 8) (.k (.int .i64 3))⟩,
  ⟨some 13, none, 0, 0, .mv (.t 14)⟩])
 (.cond (.t 13)
 (.exit 3)
 .skip))))
 (.exit 4)))
 (.reg [⟨some 15, none, 0, 0, .fadr 2 (.t 1)⟩,
  ⟨some 16, none, 0, 0, .load false 1 (.t 15)⟩,
  ⟨some 17, none, 0, 0, .call 109 [.t 16]⟩,
  ⟨some 18, none, 0, 0, .mv (.t 17)⟩,
  ⟨some 19, (some (18, true)), 0, 0, .fadr 4 (.t 1)⟩,
  ⟨some 20, (some (18, true)), 0, 0, .load false 1 (.t 19)⟩,
  ⟨some 21, (some (18, true)), 0, 0, .bin .eql (.t 20) (.k (.int .u64 0))⟩,
  ⟨some 22, none, 0, 0, .pick (.t 18) (.t 21) (.k (.bool false))⟩,
  ⟨some 3, none, 0, 0, .mv (.t 22)⟩])))
 (.seq (.reg [⟨some 23, none, 0, 0, .mv (.t 3)⟩,
  ⟨some 24, none, 0, 0, .mv (.t 23)⟩,
  ⟨some 25, (some (24, true)), 0, 0, .fadr 5 (.t 1)⟩,
  ⟨some 26, (some (24, true)), 0, 0, .load false 1 (.t 25)⟩,
  ⟨some 27, (some (24, true)), 0, 0, .bin .eql (.t 26) (.k (.int .u64 0))⟩,
  ⟨some 28, none, 0, 0, .pick (.t 24) (.t 27) (.k (.bool false))⟩,
  ⟨some 29, none, 0, 0, .mv (.t 28)⟩,
  ⟨some 30, (some (29, true)), 0, 0, .fadr 3 (.t 1)⟩,
  ⟨some 31, (some (29, true)), 0, 0, .load false 1 (.t 30)⟩,
  ⟨some 32, (some (29, true)), 0, 0, .un .not (.t 31)⟩,
  ⟨some 33, (some (29, true)), 0, 0, .mv (.t 32)⟩,
  ⟨some 34, (some (33, false)), 0, 0, .fadr 1 (.t 1)⟩,
  ⟨some 35, (some (33, false)), 0, 0, .load false 1 (.t 34)⟩,
  ⟨some 36, (some (33, false)), 0, 0, .bin .eql (.t 35) (.k (.int .i64 2))⟩,
  ⟨some 37, (some (33, false)), 0, 0, .mv (.t 36)⟩,
  ⟨some 38, (some (37, true)), 0, 0, .fadr 4 (.t 1)⟩,
  ⟨some 39, (some (37, true)), 0, 0, .load false 1 (.t 38)⟩,
  ⟨some 40, (some (37, true)), 0, 0, .bin .gtr (.t 39) (.k (.int .u64 0))⟩,
  ⟨some 41, (some (33, false)), 0, 0, .pick (.t 37) (.t 40) (.k (.bool false))⟩,
  ⟨some 42, (some (29, true)), 0, 0, .pick (.t 33) (.k (.bool true)) (.t 41)⟩,
  ⟨some 43, none, 0, 0, .pick (.t 29) (.t 42) (.k (.bool false))⟩,
  ⟨some 3, none, 0, 0, .mv (.t 43)⟩])
 (.exit 0))))
 (.seq (.reg [⟨some 44, none, 0, 0, .mv (.t 3)⟩,
  ⟨some 45, none, 0, 0, .mv (.t 44)⟩,
  ⟨some 46, (some (45, true)), 0, 0, .fadr 3 (.t 1)⟩,
  ⟨some 47, (some (45, true)), 0, 0, .load false 1 (.t 46)⟩,
  ⟨some 48, (some (45, true)), 0, 0, .un .not (.t 47)⟩,
  ⟨some 49, none, 0, 0, .pick (.t 45) (.t 48) (.k (.bool false))⟩,
  ⟨some 50, none, 0, 0, .mv (.t 49)⟩,
  ⟨some 51, (some (50, true)), 0, 0, .fadr 4 (.t 1)⟩,
  ⟨some 52, (some (50, true)), 0, 0, .load false 1 (.t 51)⟩,
  ⟨some 53, (some (50, true)), 0, 0, .fadr 5 (.t 1)⟩,
  ⟨some 54, (some (50, true)), 0, 0, .load false 1 (.t 53)⟩,
  ⟨some 55, (some (50, true)), 0, 0, .bin .leq (.t 52) (.t 54)⟩,
  ⟨some 56, none, 0, 0, .pick (.t 50) (.t 55) (.k (.bool false))⟩,
  ⟨some 3, none, 0, 0, .mv (.t 56)⟩])
 (.exit 0))))
 (.seq (.seq (.reg [⟨some 2, none, 0, 0, .mv (.k (.int .i64 16))⟩])
 .ret)
 (.exit 0)))))
 (.seq (.seq (.reg [⟨some 57, none, 0, 0, .mv (.t 3)⟩,
  ⟨some 58, none, 0, 0, .un .not (.t 57)⟩])
 (.cond (.t 58)
 (.seq (.reg [⟨some 2, none, 0, 0, .mv (.k (.int .i64 3))⟩])
 .ret)
 .skip))
 (.seq (.reg [⟨some 2, none, 0, 0, .mv (.k (.int .i64 0))⟩])
 .ret))))) }
theorem ok66 : okFun Tryd.prog gl 66 h66 = true := by kernel_rfl
/- 67: headgate/headgatelaw05.awake -/
def h67 : Fn := { np := 0, res := [.t 0], body :=
 (.seq (.reg [⟨some 0, none, 0, 0, .mv (.k (.bool false))⟩])
 (.seq (.reg [⟨some 9, none, 0, 0, .call 56 [.k (.str [109, 97, 112, 32, 49, 32, 51, 46, 46, 55, 32, 59, 32, 120, 10, 119, 114, 105, 116, 101, 32, 45, 53, 44, 32, 48, 120, 102, 102])]⟩,
  ⟨some 8, none, 0, 0, .mv (.t 9)⟩,
  ⟨some 10, none, 0, 0, .ext (.t 8) 0⟩,
  ⟨some 11, none, 0, 0, .ext (.t 8) 1⟩,
  ⟨some 2, none, 0, 0, .alloc [.int .i64 0, .int .i64 0]⟩,
  ⟨some 1, none, 0, 0, .mv (.t 10)⟩,
  ⟨none, none, 0, 0, .store true 2 (.t 2) (.t 11)⟩])
 (.seq (.reg [⟨some 12, none, 0, 0, .call 65 [.k (.int .i64 0), .k (.str [109, 97, 112])]⟩,
  ⟨some 13, none, 0, 0, .call 62 [.k (.int .i64 4), .k (.bool false), .k (.int .u64 1)]⟩,
  ⟨some 14, none, 0, 0, .call 63 [.k (.int .i64 6), .k (.int .u64 3), .k (.int .u64 7)]⟩,
  ⟨some 15, none, 0, 0, .bsl 6 [.int .i64 0, .int .i64 0, .str [], .bool false, .int .u64 0, .int .u64 0] 3 [(0, .t 12), (1, .t 13), (2, .t 14)]⟩,
  ⟨some 16, none, 0, 0, .call 69 [.k (.int .i64 0), .t 15]⟩,
  ⟨some 17, none, 0, 0, .call 65 [.k (.int .i64 15), .k (.str [119, 114, 105, 116, 101])]⟩,
  ⟨some 18, none, 0, 0, .call 62 [.k (.int .i64 21), .k (.bool true), .k (.int .u64 5)]⟩,
  ⟨some 19, none, 0, 0, .call 62 [.k (.int .i64 25), .k (.bool false), .k (.int .u64 255)]⟩,
  ⟨some 20, none, 0, 0, .bsl 6 [.int .i64 0, .int .i64 0, .str [], .bool false, .int .u64 0, .int .u64 0] 3 [(0, .t 17), (1, .t 18), (2, .t 19)]⟩,
  ⟨some 21, none, 0, 0, .call 69 [.k (.int .i64 15), .t 20]⟩,
  ⟨some 22, none, 0, 0, .bsl 2 [.int .i64 0, .nils] 2 [(0, .t 16), (1, .t 21)]⟩,
  ⟨some 3, none, 0, 0, .mv (.t 22)⟩])
 (.seq (.reg [⟨some 24, none, 0, 0, .call 62 [.k (.int .i64 0), .k (.bool true), .k (.int .u64 5)]⟩,
  ⟨some 25, none, 0, 0, .call 63 [.k (.int .i64 0), .k (.int .u64 3), .k (.int .u64 7)]⟩,
  ⟨some 26, none, 0, 0, .bsl 6 [.int .i64 0, .int .i64 0, .str [], .bool false, .int .u64 0, .int .u64 0] 2 [(0, .t 24), (1, .t 25)]⟩,
  ⟨some 27, none, 0, 0, .call 69 [.k (.int .i64 0), .t 26]⟩,
  ⟨some 28, none, 0, 0, .bsl 2 [.int .i64 0, .nils] 1 [(0, .t 27)]⟩,
  ⟨some 29, none, 0, 0, .call 60 [.t 28]⟩,
  ⟨some 23, none, 0, 0, .mv (.t 29)⟩,
  ⟨some 30, none, 0, 0, .ext (.t 23) 0⟩,
  ⟨some 31, none, 0, 0, .ext (.t 23) 1⟩,
  ⟨some 4, none, 0, 0, .mv (.t 30)⟩,
  ⟨some 5, none, 0, 0, .mv (.t 31)⟩])
 (.seq (.reg [⟨some 33, none, 0, 0, .call 62 [.k (.int .i64 0), .k (.bool true), .k (.int .u64 5)]⟩,
  ⟨some 34, none, 0, 0, .call 61 [.t 33, .k (.int .i64 (-5)), .k (.int .i64 5)]⟩,
  ⟨some 32, none, 0, 0, .mv (.t 34)⟩,
  ⟨some 35, none, 0, 0, .ext (.t 32) 0⟩,
  ⟨some 36, none, 0, 0, .ext (.t 32) 1⟩,
  ⟨some 6, none, 0, 0, .mv (.t 35)⟩,
  ⟨some 7, none, 0, 0, .mv (.t 36)⟩])
 (.seq (.reg [⟨some 37, none, 0, 0, .load true 2 (.t 2)⟩,
  ⟨some 38, none, 0, 0, .build [.int .i64 0, .int .i64 0] []⟩,
  ⟨some 39, none, 0, 0, .eqa false [1, 1] (.t 37) (.t 38)⟩,
  ⟨some 40, none, 0, 0, .mv (.t 39)⟩,
  ⟨some 41, (some (40, true)), 0, 0, .mv (.t 1)⟩,
  ⟨some 42, (some (40, true)), 0, 0, .mv (.t 3)⟩,
  ⟨some 43, (some (40, true)), 0, 0, .call 68 [.t 41, .t 42, .k (.bool true)]⟩,
  ⟨some 44, none, 0, 0, .pick (.t 40) (.t 43) (.k (.bool false))⟩,
  ⟨some 45, none, 0, 0, .mv (.t 44)⟩,
  ⟨some 46, (some (45, true)), 0, 0, .mv (.t 5)⟩,
  ⟨some 47, (some (45, true)), 0, 0, .bin .eql (.t 46) (.k (.int .i64 0))⟩,
  ⟨some 48, none, 0, 0, .pick (.t 45) (.t 47) (.k (.bool false))⟩,
  ⟨some 49, none, 0, 0, .mv (.t 48)⟩,
  ⟨some 50, (some (49, true)), 0, 0, .mv (.t 4)⟩,
  ⟨some 51, (some (49, true)), 0, 0, .bin .eql (.t 50) (.k (.str [45, 53, 32, 51, 46, 46, 55, 10]))⟩,
  ⟨some 52, none, 0, 0, .pick (.t 49) (.t 51) (.k (.bool false))⟩,
  ⟨some 53, none, 0, 0, .mv (.t 52)⟩,
  ⟨some 54, (some (53, true)), 0, 0, .mv (.t 7)⟩,
  ⟨some 55, (some (53, true)), 0, 0, .bin .eql (.t 54) (.k (.int .i64 0))⟩,
  ⟨some 56, none, 0, 0, .pick (.t 53) (.t 55) (.k (.bool false))⟩,
  ⟨some 57, none, 0, 0, .mv (.t 56)⟩,
  ⟨some 58, (some (57, true)), 0, 0, .mv (.t 6)⟩,
  ⟨some 59, (some (57, true)), 0, 0, .bin .eql (.t 58) (.k (.int .i64 (-5)))⟩,
  ⟨some 60, none, 0, 0, .pick (.t 57) (.t 59) (.k (.bool false))⟩,
  ⟨some 0, none, 0, 0, .mv (.t 60)⟩])
 .ret)))))) }
theorem ok67 : okFun Tryd.prog gl 67 h67 = true := by kernel_rfl
/- 68: headgate/headgatelaw05.same -/
def h68l0 : C := (.keep [0, 1, 2, 7, 8] (.seq (.seq (.reg [⟨some 51, none, 0, 0, .mv (.t 8)⟩,
  ⟨some 52, none, 0, 0, .mv (.t 0)⟩,
  ⟨some 53, none, 0, 0, .mv (.t 7)⟩,
  ⟨some 54, none, 0, 0, .iadr 2 (.t 52) (.t 53)⟩,
  ⟨some 55, none, 0, 0, .fadr 1 (.t 54)⟩,
  ⟨some 56, none, 0, 0, .load false 1 (.t 55)⟩,
  ⟨some 57, none, 0, 0, .len false (.t 56)⟩,
  ⟨some 58, none, 0, 0, .bin .lss (.t 51) (.t 57)⟩])
 (.cond (.t 58)
 .skip
 (.exit 2)))
 (.seq (.block 3 (.seq (.drw [⟨some 61, none, 0, 0, .mv (.t 0)⟩,
  ⟨some 62, none, 0, 0, .mv (.t 7)⟩,
  ⟨some 63, none, 0, 0, .iadr 2 (.t 61) (.t 62)⟩,
  ⟨some 64, none, 0, 0, .fadr 1 (.t 63)⟩,
  ⟨some 65, none, 0, 0, .load false 1 (.t 64)⟩,
  ⟨some 66, none, 0, 0, .mv (.t 8)⟩,
  ⟨some 67, none, 0, 0, .iadr 6 (.t 65) (.t 66)⟩,
  ⟨some 68, none, 0, 0, .load true 6 (.t 67)⟩,
  ⟨some 69, none, 0, 1, .mv (.t 1)⟩,
  ⟨some 70, none, 0, 1, .mv (.t 7)⟩,
  ⟨some 71, none, 0, 1, .iadr 2 (.t 69) (.t 70)⟩,
  ⟨some 72, none, 0, 1, .fadr 1 (.t 71)⟩,
  ⟨some 73, none, 0, 1, .load false 1 (.t 72)⟩,
  ⟨some 74, none, 0, 1, .mv (.t 8)⟩,
  ⟨some 75, none, 0, 1, .iadr 6 (.t 73) (.t 74)⟩,
  ⟨some 76, none, 0, 1, .load true 6 (.t 75)⟩,
  ⟨some 9, none, 0, 0, .alloc [.int .i64 0, .int .i64 0, .str [], .bool false, .int .u64 0, .int .u64 0]⟩,
  ⟨some 10, none, 0, 0, .alloc [.int .i64 0, .int .i64 0, .str [], .bool false, .int .u64 0, .int .u64 0]⟩,
  ⟨none, none, 0, 0, .store true 6 (.t 9) (.t 68)⟩,
  ⟨none, none, 0, 0, .store true 6 (.t 10) (.t 76)⟩])
 (.seq (.seq (.reg [⟨some 77, none, 0, 0, .mv (.t 2)⟩,
  ⟨some 78, none, 0, 0, .un .not (.t 77)⟩])
 (.cond (.t 78)
 (.reg [⟨some 79, none, 0, 0, .fadr 0 (.t 10)⟩,
  ⟨some 80, none, 0, 0, .load false 1 (.t 79)⟩,
  ⟨some 81, none, 0, 0, .fadr 0 (.t 9)⟩,
  ⟨none, none, 0, 0, .store false 1 (.t 81) (.t 80)⟩])
 .skip))
 (.seq (.reg [⟨some 82, none, 0, 0, .load true 6 (.t 9)⟩,
  ⟨some 83, none, 0, 0, .load true 6 (.t 10)⟩,
  ⟨some 84, none, 0, 0, .eqa true [1, 1, 2, 0, 1, 1] (.t 82) (.t 83)⟩])
 (.cond (.t 84)
 (.seq (.reg [⟨some 6, none, 0, 0, .mv (.k (.bool false))⟩])
 .ret)
 .skip)))))
 (.reg [⟨some 59, none, 0, 0, .mv (.t 8)⟩,
  ⟨some 60, none, 0, 0, .bin .add (.t 59) (.k (.int .i64 1))⟩,
  ⟨some 8, none, 0, 0, .mv (.t 60)⟩]))))
def h68l1 : C := (.keep [0, 1, 2, 7] (.seq (.seq (.reg [⟨some 16, none, 0, 0, .mv (.t 7)⟩,
  ⟨some 17, none, 0, 0, .mv (.t 0)⟩,
  ⟨some 18, none, 0, 0, .len false (.t 17)⟩,
  ⟨some 19, none, 0, 0, .bin .lss (.t 16) (.t 18)⟩])
 (.cond (.t 19)
 .skip
 (.exit 0)))
 (.seq (.block 1 (.seq (.seq (.drw [⟨some 22, none, 0, 0, .mv (.t 0)⟩,
  ⟨some 23, none, 0, 0, .mv (.t 7)⟩,
  ⟨some 24, none, 0, 0, .iadr 2 (.t 22) (.t 23)⟩,
  ⟨some 25, none, 0, 0, .fadr 1 (.t 24)⟩,
  ⟨some 26, none, 0, 0, .load false 1 (.t 25)⟩,
  ⟨some 27, none, 0, 0, .len false (.t 26)⟩,
  ⟨some 28, none, 0, 0, .mv (.t 1)⟩,
  ⟨some 29, none, 0, 0, .mv (.t 7)⟩,
  ⟨some 30, none, 0, 0, .iadr 2 (.t 28) (.t 29)⟩,
  ⟨some 31, none, 0, 0, .fadr 1 (.t 30)⟩,
  ⟨some 32, none, 0, 0, .load false 1 (.t 31)⟩,
  ⟨some 33, none, 0, 0, .len false (.t 32)⟩,
  ⟨some 34, none, 0, 0, .bin .neq (.t 27) (.t 33)⟩,
  ⟨some 35, none, 0, 0, .mv (.t 34)⟩,
  ⟨some 36, (some (35, false)), 0, 0, .mv (.t 2)⟩,
  ⟨some 37, (some (35, false)), 0, 0, .mv (.t 36)⟩,
  ⟨some 38, (some (37, true)), 0, 0, .mv (.t 0)⟩,
  ⟨some 39, (some (37, true)), 0, 0, .mv (.t 7)⟩,
  ⟨some 40, (some (37, true)), 0, 0, .iadr 2 (.t 38) (.t 39)⟩,
  ⟨some 41, (some (37, true)), 0, 0, .fadr 0 (.t 40)⟩,
  ⟨some 42, (some (37, true)), 0, 0, .load false 1 (.t 41)⟩,
  ⟨some 43, (some (37, true)), 0, 0, .mv (.t 1)⟩,
  ⟨some 44, (some (37, true)), 0, 0, .mv (.t 7)⟩,
  ⟨some 45, (some (37, true)), 0, 0, .iadr 2 (.t 43) (.t 44)⟩,
  ⟨some 46, (some (37, true)), 0, 0, .fadr 0 (.t 45)⟩,
  ⟨some 47, (some (37, true)), 0, 0, .load false 1 (.t 46)⟩,
  ⟨some 48, (some (37, true)), 0, 0, .bin .neq (.t 42) (.t 47)⟩,
  ⟨some 49, (some (35, false)), 0, 0, .pick (.t 37) (.t 48) (.k (.bool false))⟩,
  ⟨some 50, none, 0, 0, .pick (.t 35) (.k (.bool true)) (.t 49)⟩])
 (.cond (.t 50)
 (.seq (.reg [⟨some 6, none, 0, 0, .mv (.k (.bool false))⟩])
 .ret)
 .skip))
 (.seq (.reg [⟨some 8, none, 0, 0, .mv (.k (.int .i64 0))⟩])
 (.block 2 (.loop h68l0)))))
 (.reg [⟨some 20, none, 0, 0, .mv (.t 7)⟩,
  ⟨some 21, none, 0, 0, .bin .add (.t 20) (.k (.int .i64 1))⟩,
  ⟨some 7, none, 0, 0, .mv (.t 21)⟩]))))
def h68 : Fn := { np := 3, res := [.t 6], body :=
 (.seq (.reg [⟨some 6, none, 0, 0, .mv (.k (.bool false))⟩])
 (.seq (.seq (.reg [⟨some 11, none, 0, 0, .mv (.t 0)⟩,
  ⟨some 12, none, 0, 0, .len false (.t 11)⟩,
  ⟨some 13, none, 0, 0, .mv (.t 1)⟩,
  ⟨some 14, none, 0, 0, .len false (.t 13)⟩,
  ⟨some 15, none, 0, 0, .bin .neq (.t 12) (.t 14)⟩])
 (.cond (.t 15)
 (.seq (.reg [⟨some 6, none, 0, 0, .mv (.k (.bool false))⟩])
 .ret)
 .skip))
 (.seq (.seq (.reg [⟨some 7, none, 0, 0, .mv (.k (.int .i64 0))⟩])
 (.block 0 (.loop h68l1)))
 (.seq (.reg [⟨some 6, none, 0, 0, .mv (.k (.bool true))⟩])
 .ret)))) }
theorem ok68 : okFun Tryd.prog gl 68 h68 = true := by kernel_rfl
/- 69: headgate/headgatelaw05.line -/
def h69 : Fn := { np := 2, res := [.cell 4 true 2], body :=
 (.seq (.reg [⟨some 4, none, 0, 0, .alloc [.int .i64 0, .nils]⟩])
 (.seq (.reg [⟨some 5, none, 0, 0, .mv (.t 0)⟩,
  ⟨some 6, none, 0, 0, .mv (.t 1)⟩,
  ⟨some 7, none, 0, 0, .build [.int .i64 0, .nils] [(0, 1, .t 5), (1, 1, .t 6)]⟩,
  ⟨none, none, 0, 0, .store true 2 (.t 4) (.t 7)⟩])
 .ret)) }
theorem ok69 : okFun Tryd.prog gl 69 h69 = true := by kernel_rfl
/- 89: math/bits.TrailingZeros -/
def h89 : Fn := { np := 1, res := [.t 2], body :=
 (.seq (.reg [⟨some 2, none, 0, 0, .mv (.k (.int .i64 0))⟩])
 (.seq (.cond (.k (.bool false))
 (.seq (.reg [⟨some 3, none, 0, 0, .mv (.t 0)⟩,
  ⟨some 4, none, 0, 0, .cv .u32 (.t 3)⟩,
  ⟨some 5, none, 0, 0, .call 120 [.t 4]⟩,
  ⟨some 2, none, 0, 0, .mv (.t 5)⟩])
 .ret)
 .skip)
 (.seq (.reg [⟨some 6, none, 0, 0, .mv (.t 0)⟩,
  ⟨some 7, none, 0, 0, .call 121 [.t 6]⟩,
  ⟨some 2, none, 0, 0, .mv (.t 7)⟩])
 .ret))) }
theorem ok89 : okFun Tryd.prog gl 89 h89 = true := by kernel_rfl
/- 104: strings.Cut -/
def h104 : Fn := { np := 2, res := [.t 4, .t 5, .t 6], body :=
 (.seq (.reg [⟨some 4, none, 0, 0, .mv (.k (.str []))⟩,
  ⟨some 5, none, 0, 0, .mv (.k (.str []))⟩,
  ⟨some 6, none, 0, 0, .mv (.k (.bool false))⟩])
 (.seq (.reg [⟨some 7, none, 0, 0, .mv (.t 0)⟩,
  ⟨some 8, none, 0, 0, .mv (.t 1)⟩,
  ⟨some 9, none, 0, 0, .call 128 [.t 7, .t 8]⟩,
  ⟨some 10, none, 0, 0, .ext (.t 9) 0⟩,
  ⟨some 11, none, 0, 0, .ext (.t 9) 1⟩,
  ⟨some 12, none, 0, 0, .ext (.t 9) 2⟩,
  ⟨some 4, none, 0, 0, .mv (.t 10)⟩,
  ⟨some 5, none, 0, 0, .mv (.t 11)⟩,
  ⟨some 6, none, 0, 0, .mv (.t 12)⟩])
 .ret)) }
theorem ok104 : okFun Tryd.prog gl 104 h104 = true := by kernel_rfl
/- 105: headgate/row.line -/
def h105l0 : C := (.keep [0, 1, 6, 7, 8] (.seq (.seq (.reg [⟨some 28, none, 0, 0, .mv (.t 8)⟩,
  ⟨some 29, none, 0, 0, .mv (.t 0)⟩,
  ⟨some 30, none, 0, 0, .len true (.t 29)⟩,
  ⟨some 31, none, 0, 0, .bin .lss (.t 28) (.t 30)⟩,
  ⟨some 32, none, 0, 0, .mv (.t 31)⟩,
  ⟨some 33, (some (32, true)), 0, 0, .mv (.t 0)⟩,
  ⟨some 34, (some (32, true)), 0, 0, .mv (.t 8)⟩,
  ⟨some 35, (some (32, true)), 0, 0, .ids (.t 33) (.t 34)⟩,
  ⟨some 36, (some (32, true)), 0, 0, .call 129 [.t 35]⟩,
  ⟨some 37, (some (32, true)), 0, 0, .un .not (.t 36)⟩,
  ⟨some 38, none, 0, 0, .pick (.t 32) (.t 37) (.k (.bool false))⟩])
 (.cond (.t 38)
 .skip
 (.exit 2)))
 (.block 3 (.reg [⟨some 39, none, 0, 0, .mv (.t 8)⟩,
  ⟨some 40, none, 0, 0, .bin .add (.t 39) (.k (.int .i64 1))⟩,
  ⟨some 8, none, 0, 0, .mv (.t 40)⟩]))))
def h105l1 : C := (.keep [0, 1, 6, 7] (.seq (.seq (.reg [⟨some 17, none, 0, 0, .mv (.t 7)⟩,
  ⟨some 18, none, 0, 0, .mv (.t 0)⟩,
  ⟨some 19, none, 0, 0, .len true (.t 18)⟩,
  ⟨some 20, none, 0, 0, .bin .lss (.t 17) (.t 19)⟩])
 (.cond (.t 20)
 .skip
 (.exit 0)))
 (.seq (.block 1 (.seq (.seq (.reg [⟨some 23, none, 0, 0, .mv (.t 0)⟩,
  ⟨some 24, none, 0, 0, .mv (.t 7)⟩,
  ⟨some 25, none, 0, 0, .ids (.t 23) (.t 24)⟩,
  ⟨some 26, none, 0, 0, .call 129 [.t 25]⟩])
 (.cond (.t 26)
 (.exit 1)
 .skip))
 (.seq (.reg [⟨some 27, none, 0, 0, .mv (.t 7)⟩,
  ⟨some 8, none, 0, 0, .mv (.t 27)⟩])
 (.seq (.block 2 (.loop h105l0))
 (.seq (.reg [⟨some 42, none, 0, 0, .mv (.t 0)⟩,
  ⟨some 43, none, 0, 0, .mv (.t 7)⟩,
  ⟨some 44, none, 0, 0, .mv (.t 8)⟩,
  ⟨some 45, none, 0, 0, .sls (.t 42) (some (.t 43)) (some (.t 44))⟩,
  ⟨some 46, none, 0, 0, .call 130 [.t 45]⟩,
  ⟨some 41, none, 0, 0, .mv (.t 46)⟩,
  ⟨some 47, none, 0, 0, .ext (.t 41) 0⟩,
  ⟨some 48, none, 0, 0, .ext (.t 41) 1⟩,
  ⟨some 9, none, 0, 0, .alloc [.int .i64 0, .int .i64 0, .str [], .bool false, .int .u64 0, .int .u64 0]⟩,
  ⟨none, none, 0, 0, .store true 6 (.t 9) (.t 47)⟩,
  ⟨some 10, none, 0, 0, .mv (.t 48)⟩])
 (.seq (.seq (.reg [⟨some 49, none, 0, 0, .mv (.t 10)⟩,
  ⟨some 50, none, 0, 0, .un .not (.t 49)⟩])
 (.cond (.t 50)
 (.seq (.reg [⟨some 51, none, 0, 0, .mv (.t 1)⟩,
  ⟨some 52, none, 0, 0, .mv (.t 7)⟩,
  ⟨some 53, none, 0, 0, .bin .add (.t 51) (.t 52)⟩,
  ⟨some 4, none, 0, 0, .mv (.k (.nils))⟩,
  ⟨some 5, none, 0, 0, .mv (.t 53)⟩])
 .ret)
 .skip))
 (.seq (.reg [⟨some 54, none, 0, 0, .mv (.t 1)⟩,
  ⟨some 55, none, 0, 0, .mv (.t 7)⟩,
  ⟨some 56, none, 0, 0, .bin .add (.t 54) (.t 55)⟩,
  ⟨some 57, none, 0, 0, .fadr 0 (.t 9)⟩,
  ⟨none, none, 0, 0, .store false 1 (.t 57) (.t 56)⟩])
 (.seq (.reg [⟨some 58, none, 0, 0, .mv (.t 6)⟩,
  ⟨some 59, none, 0, 0, .load true 6 (.t 9)⟩,
  ⟨some 60, none, 0, 0, .bsl 6 [.int .i64 0, .int .i64 0, .str [], .bool false, .int .u64 0, .int .u64 0] 1 [(0, .t 59)]⟩,
  ⟨some 61, none, 0, 0, .app 6 56 [.int .i64 0, .int .i64 0, .str [], .bool false, .int .u64 0, .int .u64 0] (.t 58) (.t 60)⟩,
  ⟨some 6, none, 0, 0, .mv (.t 61)⟩])
 (.reg [⟨some 62, none, 0, 0, .mv (.t 8)⟩,
  ⟨some 7, none, 0, 0, .mv (.t 62)⟩])))))))))
 (.reg [⟨some 21, none, 0, 0, .mv (.t 7)⟩,
  ⟨some 22, none, 0, 0, .bin .add (.t 21) (.k (.int .i64 1))⟩,
  ⟨some 7, none, 0, 0, .mv (.t 22)⟩]))))
def h105 : Fn := { np := 2, res := [.t 4, .t 5], body :=
 (.seq (.reg [⟨some 4, none, 0, 0, .mv (.k (.nils))⟩,
  ⟨some 5, none, 0, 0, .mv (.k (.int .i64 0))⟩])
 (.seq (.reg [⟨some 12, none, 0, 0, .mv (.t 0)⟩,
  ⟨some 13, none, 0, 0, .call 104 [.t 12, .k (.str [59])]⟩,
  ⟨some 11, none, 0, 0, .mv (.t 13)⟩,
  ⟨some 14, none, 0, 0, .ext (.t 11) 0⟩,
  ⟨some 15, none, 0, 0, .ext (.t 11) 1⟩,
  ⟨some 16, none, 0, 0, .ext (.t 11) 2⟩,
  ⟨some 0, none, 0, 0, .mv (.t 14)⟩])
 (.seq (.reg [⟨some 6, none, 0, 0, .mv (.k (.nils))⟩])
 (.seq (.seq (.reg [⟨some 7, none, 0, 0, .mv (.k (.int .i64 0))⟩])
 (.block 0 (.loop h105l1)))
 (.seq (.reg [⟨some 63, none, 0, 0, .mv (.t 6)⟩,
  ⟨some 4, none, 0, 0, .mv (.t 63)⟩,
  ⟨some 5, none, 0, 0, .mv (.k (.int .i64 (-1)))⟩])
 .ret))))) }
theorem ok105 : okFun Tryd.prog gl 105 h105 = true := by kernel_rfl
/- 106: strings.CutPrefix -/
def h106 : Fn := { np := 2, res := [.t 4, .t 5], body :=
 (.seq (.reg [⟨some 4, none, 0, 0, .mv (.k (.str []))⟩,
  ⟨some 5, none, 0, 0, .mv (.k (.bool false))⟩])
 (.seq (.reg [⟨some 6, none, 0, 0, .mv (.t 0)⟩,
  ⟨some 7, none, 0, 0, .mv (.t 1)⟩,
  ⟨some 8, none, 0, 0, .call 131 [.t 6, .t 7]⟩,
  ⟨some 9, none, 0, 0, .ext (.t 8) 0⟩,
  ⟨some 10, none, 0, 0, .ext (.t 8) 1⟩,
  ⟨some 4, none, 0, 0, .mv (.t 9)⟩,
  ⟨some 5, none, 0, 0, .mv (.t 10)⟩])
 .ret)) }
theorem ok106 : okFun Tryd.prog gl 106 h106 = true := by kernel_rfl
/- 107: strings.IndexByte -/
def h107 : Fn := { np := 2, res := [.t 4], body :=
 (.seq (.reg [⟨some 4, none, 0, 0, .mv (.k (.int .i64 0))⟩])
 (.seq (.reg [⟨some 5, none, 0, 0, .mv (.t 0)⟩,
  ⟨some 6, none, 0, 0, .mv (.t 1)⟩,
  ⟨some 7, none, 0, 0, .call 132 [.t 5, .t 6]⟩,
  ⟨some 4, none, 0, 0, .mv (.t 7)⟩])
 .ret)) }
theorem ok107 : okFun Tryd.prog gl 107 h107 = true := by kernel_rfl
/- 108: headgate/row.form -/
def h108 : Fn := { np := 1, res := [.t 2], body :=
 (.seq (.reg [⟨some 1, none, 0, 0, .box true 6 (.t 0)⟩,
  ⟨some 2, none, 0, 0, .mv (.k (.str []))⟩])
 (.seq (.reg [⟨some 4, none, 0, 0, .fadr 4 (.t 1)⟩,
  ⟨some 5, none, 0, 0, .load false 1 (.t 4)⟩,
  ⟨some 6, none, 0, 0, .call 133 [.t 5, .k (.int .i64 10)]⟩,
  ⟨some 3, none, 0, 0, .mv (.t 6)⟩])
 (.seq (.block 0 (.seq (.reg [⟨some 8, none, 0, 0, .fadr 1 (.t 1)⟩,
  ⟨some 9, none, 0, 0, .load false 1 (.t 8)⟩,
  ⟨some 10, none, 0, 0, .bin .eql (.t 9) (.k (.int .i64 1))⟩,
  ⟨some 7, none, 0, 0, .mv (.t 10)⟩])
 (.cond (.t 7)
 (.seq (.reg [⟨some 11, none, 0, 0, .fadr 2 (.t 1)⟩,
  ⟨some 12, none, 0, 0, .load false 1 (.t 11)⟩,
  ⟨some 2, none, 0, 0, .mv (.t 12)⟩])
 .ret)
 (.seq (.reg [⟨some 14, none, 0, 0, .fadr 1 (.t 1)⟩,
  ⟨some 15, none, 0, 0, .load false 1 (.t 14)⟩,
  ⟨some 16, none, 0, 0, .bin .eql (.t 15) (.k (.int .i64 3))⟩,
  ⟨some 13, none, 0, 0, .mv (.t 16)⟩])
 (.cond (.t 13)
 (.seq (.reg [⟨some 17, none, 0, 0, .mv (.t 3)⟩,
  ⟨some 18, none, 0, 0, .bin .add (.t 17) (.k (.str [46, 46]))⟩,
  ⟨some 19, none, 0, 0, .fadr 5 (.t 1)⟩,
  ⟨some 20, none, 0, 0, .load false 1 (.t 19)⟩,
  ⟨some 21, none, 0, 0, .call 133 [.t 20, .k (.int .i64 10)]⟩,
  ⟨some 22, none, 0, 0, .bin .add (.t 18) (.t 21)⟩,
  ⟨some 2, none, 0, 0, .mv (.t 22)⟩])
 .ret)
 (.seq (.reg [⟨some 24, none, 0, 0, .fadr 3 (.t 1)⟩,
  ⟨some 25, none, 0, 0, .load false 1 (.t 24)⟩,
  ⟨some 23, none, 0, 0, .mv (.t 25)⟩])
 (.cond (.t 23)
 (.seq (.reg [⟨some 26, none, 0, 0, .mv (.t 3)⟩,
  ⟨some 27, none, 0, 0, .bin .add (.k (.str [45])) (.t 26)⟩,
  ⟨some 2, none, 0, 0, .mv (.t 27)⟩])
 .ret)
 .skip)))))))
 (.seq (.reg [⟨some 28, none, 0, 0, .mv (.t 3)⟩,
  ⟨some 2, none, 0, 0, .mv (.t 28)⟩])
 .ret)))) }
theorem ok108 : okFun Tryd.prog gl 108 h108 = true := by kernel_rfl
/- 109: headgate/row.Name -/
def h109l0 : C := (.keep [0, 18, 19] (.seq (.reg [⟨some 20, none, 0, 0, .bin .lss (.t 19) (.t 18)⟩])
 (.seq (.cond (.t 20)
 .skip
 (.exit 0))
 (.seq (.block 1 (.seq (.reg [⟨some 21, none, 0, 0, .mv (.t 19)⟩,
  ⟨some 3, none, 0, 0, .mv (.t 21)⟩])
 (.seq (.reg [⟨some 22, none, 0, 0, .mv (.t 0)⟩,
  ⟨some 23, none, 0, 0, .mv (.t 3)⟩,
  ⟨some 24, none, 0, 0, .ids (.t 22) (.t 23)⟩,
  ⟨some 25, none, 0, 0, .call 134 [.t 24]⟩,
  ⟨some 26, none, 0, 0, .un .not (.t 25)⟩,
  ⟨some 27, none, 0, 0, .mv (.t 26)⟩,
  ⟨some 28, (some (27, true)), 0, 0, .mv (.t 0)⟩,
  ⟨some 29, (some (27, true)), 0, 0, .mv (.t 3)⟩,
  ⟨some 30, (some (27, true)), 0, 0, .ids (.t 28) (.t 29)⟩,
  ⟨some 31, (some (27, true)), 0, 0, .call 135 [.t 30]⟩,
  ⟨some 32, (some (27, true)), 0, 0, .un .not (.t 31)⟩,
  ⟨some 33, none, 0, 0, .pick (.t 27) (.t 32) (.k (.bool false))⟩,
  ⟨some 34, none, 0, 0, .mv (.t 33)⟩,
  ⟨some 35, (some (34, true)), 0, 0, .mv (.t 0)⟩,
  ⟨some 36, (some (34, true)), 0, 0, .mv (.t 3)⟩,
  ⟨some 37, (some (34, true)), 0, 0, .ids (.t 35) (.t 36)⟩,
  ⟨some 38, (some (34, true)), 0, 0, .bin .neq (.t 37) (.k (.int .u8 95))⟩,
  ⟨some 39, none, 0, 0, .pick (.t 34) (.t 38) (.k (.bool false))⟩])
 (.cond (.t 39)
 (.seq (.reg [⟨some 2, none, 0, 0, .mv (.k (.bool false))⟩])
 .ret)
 .skip))))
 (.reg [⟨some 40, none, 0, 0, .bin .add (.t 19) (.k (.int .i64 1))⟩,
  ⟨some 19, none, 0, 0, .mv (.t 40)⟩])))))
def h109 : Fn := { np := 1, res := [.t 2], body :=
 (.seq (.reg [⟨some 2, none, 0, 0, .mv (.k (.bool false))⟩])
 (.seq (.seq (.reg [⟨some 4, none, 0, 0, .mv (.t 0)⟩,
  ⟨some 5, none, 0, 0, .bin .eql (.t 4) (.k (.str []))⟩,
  ⟨some 6, none, 0, 0, .mv (.t 5)⟩,
  ⟨some 7, (some (6, false)), 0, 0, .mv (.t 0)⟩,
  ⟨some 8, (some (6, false)), 0, 0, .len true (.t 7)⟩,
  ⟨some 9, (some (6, false)), 0, 0, .bin .gtr (.t 8) (.k (.int .i64 16))⟩,
  ⟨some 10, none, 0, 0, .pick (.t 6) (.k (.bool true)) (.t 9)⟩,
  ⟨some 11, none, 0, 0, .mv (.t 10)⟩,
  ⟨some 12, (some (11, false)), 0, 0, .mv (.t 0)⟩,
  ⟨some 13, (some (11, false)), 0, 0, .ids (.t 12) (.k (.int .i64 0))⟩,
  ⟨some 14, (some (11, false)), 0, 0, .call 134 [.t 13]⟩,
  ⟨some 15, (some (11, false)), 0, 0, .un .not (.t 14)⟩,
  ⟨some 16, none, 0, 0, .pick (.t 11) (.k (.bool true)) (.t 15)⟩])
 (.cond (.t 16)
 (.seq (.reg [⟨some 2, none, 0, 0, .mv (.k (.bool false))⟩])
 .ret)
 .skip))
 (.seq (.seq (.reg [⟨some 17, none, 0, 0, .mv (.t 0)⟩,
  ⟨some 18, none, 0, 0, .len true (.t 17)⟩,
  ⟨some 19, none, 0, 0, .mv (.k (.int .i64 0))⟩])
 (.block 0 (.loop h109l0)))
 (.seq (.reg [⟨some 2, none, 0, 0, .mv (.k (.bool true))⟩])
 .ret)))) }
theorem ok109 : okFun Tryd.prog gl 109 h109 = true := by kernel_rfl
/- 119: math/bits.Len64 -/
def h119 : Fn := { np := 1, res := [.t 2], body :=
 (.seq (.reg [⟨some 2, none, 0, 0, .mv (.k (.int .i64 0))⟩])
 (.seq (.seq (.reg [⟨some 3, none, 0, 0, .mv (.t 0)⟩,
  ⟨some 4, none, 0, 0, .bin .geq (.t 3) (.k (.int .u64 4294967296))⟩])
 (.cond (.t 4)
 (.seq (.reg [⟨some 5, none, 0, 0, .mv (.t 0)⟩,
  ⟨some 6, none, 0, 0, .bin .shr (.t 5) (.k (.int .u64 32))⟩,
  ⟨some 0, none, 0, 0, .mv (.t 6)⟩])
 (.reg [⟨some 2, none, 0, 0, .mv (.k (.int .i64 32))⟩]))
 .skip))
 (.seq (.seq (.reg [⟨some 7, none, 0, 0, .mv (.t 0)⟩,
  ⟨some 8, none, 0, 0, .bin .geq (.t 7) (.k (.int .u64 65536))⟩])
 (.cond (.t 8)
 (.seq (.reg [⟨some 9, none, 0, 0, .mv (.t 0)⟩,
  ⟨some 10, none, 0, 0, .bin .shr (.t 9) (.k (.int .u64 16))⟩,
  ⟨some 0, none, 0, 0, .mv (.t 10)⟩])
 (.reg [⟨some 11, none, 0, 0, .mv (.t 2)⟩,
  ⟨some 12, none, 0, 0, .bin .add (.t 11) (.k (.int .i64 16))⟩,
  ⟨some 2, none, 0, 0, .mv (.t 12)⟩]))
 .skip))
 (.seq (.seq (.reg [⟨some 13, none, 0, 0, .mv (.t 0)⟩,
  ⟨some 14, none, 0, 0, .bin .geq (.t 13) (.k (.int .u64 256))⟩])
 (.cond (.t 14)
 (.seq (.reg [⟨some 15, none, 0, 0, .mv (.t 0)⟩,
  ⟨some 16, none, 0, 0, .bin .shr (.t 15) (.k (.int .u64 8))⟩,
  ⟨some 0, none, 0, 0, .mv (.t 16)⟩])
 (.reg [⟨some 17, none, 0, 0, .mv (.t 2)⟩,
  ⟨some 18, none, 0, 0, .bin .add (.t 17) (.k (.int .i64 8))⟩,
  ⟨some 2, none, 0, 0, .mv (.t 18)⟩]))
 .skip))
 (.seq (.reg [⟨some 19, none, 0, 0, .mv (.t 2)⟩,
  ⟨some 20, none, 0, 0, .mv (.t 0)⟩,
  ⟨some 21, none, 0, 0, .cv .u8 (.t 20)⟩,
  ⟨some 22, none, 0, 0, .ids (.k (.str [0, 1, 2, 2, 3, 3, 3, 3, 4, 4, 4, 4, 4, 4, 4, 4, 5, 5, 5, 5, 5, 5, 5, 5, 5, 5, 5, 5, 5, 5, 5, 5, 6, 6, 6, 6, 6, 6, 6, 6, 6, 6, 6, 6, 6, 6, 6, 6, 6, 6, 6, 6, 6, 6, 6, 6, 6, 6, 6, 6, 6, 6, 6, 6, 7, 7, 7, 7, 7, 7, 7, 7, 7, 7, 7, 7, 7, 7, 7, 7, 7, 7, 7, 7, 7, 7, 7, 7, 7, 7, 7, 7, 7, 7, 7, 7, 7, 7, 7, 7, 7, 7, 7, 7, 7, 7, 7, 7, 7, 7, 7, 7, 7, 7, 7, 7, 7, 7, 7, 7, 7, 7, 7, 7, 7, 7, 7, 7, 8, 8, 8, 8, 8, 8, 8, 8, 8, 8, 8, 8, 8, 8, 8, 8, 8, 8, 8, 8, 8, 8, 8, 8, 8, 8, 8, 8, 8, 8, 8, 8, 8, 8, 8, 8, 8, 8, 8, 8, 8, 8, 8, 8, 8, 8, 8, 8, 8, 8, 8, 8, 8, 8, 8, 8, 8, 8, 8, 8, 8, 8, 8, 8, 8, 8, 8, 8, 8, 8, 8, 8, 8, 8, 8, 8, 8, 8, 8, 8, 8, 8, 8, 8, 8, 8, 8, 8, 8, 8, 8, 8, 8, 8, 8, 8, 8, 8, 8, 8, 8, 8, 8, 8, 8, 8, 8, 8, 8, 8, 8, 8, 8, 8, 8, 8, 8, 8, 8, 8, 8, 8, 8, 8, 8, 8, 8, 8])) (.t 21)⟩,
  ⟨some 23, none, 0, 0, .cv .i64 (.t 22)⟩,
  ⟨some 24, none, 0, 0, .bin .add (.t 19) (.t 23)⟩,
  ⟨some 2, none, 0, 0, .mv (.t 24)⟩])
 .ret))))) }
theorem ok119 : okFun Tryd.prog gl 119 h119 = true := by kernel_rfl
/- 120: math/bits.TrailingZeros32 -/
def h120 : Fn := { np := 1, res := [.t 2], body :=
 (.seq (.reg [⟨some 2, none, 0, 0, .mv (.k (.int .i64 0))⟩])
 (.seq (.seq (.reg [⟨some 3, none, 0, 0, .mv (.t 0)⟩,
  ⟨some 4, none, 0, 0, .bin .eql (.t 3) (.k (.int .u32 0))⟩])
 (.cond (.t 4)
 (.seq (.reg [⟨some 2, none, 0, 0, .mv (.k (.int .i64 32))⟩])
 .ret)
 .skip))
 (.seq (.reg [⟨some 5, none, 0, 0, .mv (.t 0)⟩,
  ⟨some 6, none, 0, 0, .mv (.t 0)⟩,
  ⟨some 7, none, 0, 0, .un .neg (.t 6)⟩,
  ⟨some 8, none, 0, 0, .bin .and (.t 5) (.t 7)⟩,
  ⟨some 9, none, 0, 0, .bin .mul (.t 8) (.k (.int .u32 125613361))⟩,
  ⟨some 10, none, 0, 0, .bin .shr (.t 9) (.k (.int .u64 27))⟩,
  ⟨some 11, none, 0, 0, .iada 32 1 (.g 0) (.t 10)⟩,
  ⟨some 12, none, 0, 0, .load false 1 (.t 11)⟩,
  ⟨some 13, none, 0, 0, .cv .i64 (.t 12)⟩,
  ⟨some 2, none, 0, 0, .mv (.t 13)⟩])
 .ret))) }
theorem ok120 : okFun Tryd.prog gl 120 h120 = true := by kernel_rfl
/- 121: math/bits.TrailingZeros64 -/
def h121 : Fn := { np := 1, res := [.t 2], body :=
 (.seq (.reg [⟨some 2, none, 0, 0, .mv (.k (.int .i64 0))⟩])
 (.seq (.seq (.reg [⟨some 3, none, 0, 0, .mv (.t 0)⟩,
  ⟨some 4, none, 0, 0, .bin .eql (.t 3) (.k (.int .u64 0))⟩])
 (.cond (.t 4)
 (.seq (.reg [⟨some 2, none, 0, 0, .mv (.k (.int .i64 64))⟩])
 .ret)
 .skip))
 (.seq (.reg [⟨some 5, none, 0, 0, .mv (.t 0)⟩,
  ⟨some 6, none, 0, 0, .mv (.t 0)⟩,
  ⟨some 7, none, 0, 0, .un .neg (.t 6)⟩,
  ⟨some 8, none, 0, 0, .bin .and (.t 5) (.t 7)⟩,
  ⟨some 9, none, 0, 0, .bin .mul (.t 8) (.k (.int .u64 285870213051353865))⟩,
  ⟨some 10, none, 0, 0, .bin .shr (.t 9) (.k (.int .u64 58))⟩,
  ⟨some 11, none, 0, 0, .iada 64 1 (.g 1) (.t 10)⟩,
  ⟨some 12, none, 0, 0, .load false 1 (.t 11)⟩,
  ⟨some 13, none, 0, 0, .cv .i64 (.t 12)⟩,
  ⟨some 2, none, 0, 0, .mv (.t 13)⟩])
 .ret))) }
theorem ok121 : okFun Tryd.prog gl 121 h121 = true := by kernel_rfl
/- 128: internal/stringslite.Cut -/
def h128 : Fn := { np := 2, res := [.t 4, .t 5, .t 6], body :=
 (.seq (.reg [⟨some 4, none, 0, 0, .mv (.k (.str []))⟩,
  ⟨some 5, none, 0, 0, .mv (.k (.str []))⟩,
  ⟨some 6, none, 0, 0, .mv (.k (.bool false))⟩])
 (.seq (.seq (.reg [⟨some 8, none, 0, 0, .mv (.t 0)⟩,
  ⟨some 9, none, 0, 0, .mv (.t 1)⟩,
  ⟨some 10, none, 0, 0, .call 139 [.t 8, .t 9]⟩,
  ⟨some 7, none, 0, 0, .mv (.t 10)⟩])
 (.seq (.reg [⟨some 11, none, 0, 0, .mv (.t 7)⟩,
  ⟨some 12, none, 0, 0, .bin .geq (.t 11) (.k (.int .i64 0))⟩])
 (.cond (.t 12)
 (.seq (.drw [⟨some 13, none, 0, 0, .mv (.t 0)⟩,
  ⟨some 14, none, 0, 0, .mv (.t 7)⟩,
  ⟨some 15, none, 0, 0, .sls (.t 13) none (some (.t 14))⟩,
  ⟨some 16, none, 0, 0, .mv (.t 0)⟩,
  ⟨some 17, none, 0, 0, .mv (.t 7)⟩,
  ⟨some 18, none, 0, 0, .mv (.t 1)⟩,
  ⟨some 19, none, 0, 0, .len true (.t 18)⟩,
  ⟨some 20, none, 0, 0, .bin .add (.t 17) (.t 19)⟩,
  ⟨some 21, none, 0, 0, .sls (.t 16) (some (.t 20)) none⟩,
  ⟨some 4, none, 0, 0, .mv (.t 15)⟩,
  ⟨some 5, none, 0, 0, .mv (.t 21)⟩,
  ⟨some 6, none, 0, 0, .mv (.k (.bool true))⟩])
 .ret)
 .skip)))
 (.seq (.reg [⟨some 22, none, 0, 0, .mv (.t 0)⟩,
  ⟨some 4, none, 0, 0, .mv (.t 22)⟩,
  ⟨some 5, none, 0, 0, .mv (.k (.str []))⟩,
  ⟨some 6, none, 0, 0, .mv (.k (.bool false))⟩])
 .ret))) }
theorem ok128 : okFun Tryd.prog gl 128 h128 = true := by kernel_rfl
/- 129: headgate/row.between -/
def h129 : Fn := { np := 1, res := [.t 2], body :=
 (.seq (.reg [⟨some 2, none, 0, 0, .mv (.k (.bool false))⟩])
 (.seq (.reg [⟨some 3, none, 0, 0, .mv (.t 0)⟩,
  ⟨some 4, none, 0, 0, .bin .eql (.t 3) (.k (.int .u8 32))⟩,
  ⟨some 5, none, 0, 0, .mv (.t 4)⟩,
  ⟨some 6, (some (5, false)), 0, 0, .mv (.t 0)⟩,
  ⟨some 7, (some (5, false)), 0, 0, .bin .eql (.t 6) (.k (.int .u8 44))⟩,
  ⟨some 8, none, 0, 0, .pick (.t 5) (.k (.bool true)) (.t 7)⟩,
  ⟨some 2, none, 0, 0, .mv (.t 8)⟩])
 .ret)) }
theorem ok129 : okFun Tryd.prog gl 129 h129 = true := by kernel_rfl
/- 130: headgate/row.word -/
def h130 : Fn := { np := 1, res := [.cell 2 true 6, .t 3], body :=
 (.seq (.reg [⟨some 2, none, 0, 0, .alloc [.int .i64 0, .int .i64 0, .str [], .bool false, .int .u64 0, .int .u64 0]⟩,
  ⟨some 3, none, 0, 0, .mv (.k (.bool false))⟩])
 (.seq (.reg [⟨some 4, none, 0, 0, .alloc [.int .i64 0, .int .i64 0, .str [], .bool false, .int .u64 0, .int .u64 0]⟩])
 (.seq (.block 0 (.seq (.block 3 (.seq (.block 2 (.seq (.block 1 (.seq (.seq (.seq (.reg [⟨some 15, none, 0, 0, .mv (.t 0)⟩,
  ⟨some 16, none, 0, 0, .call 109 [.t 15]⟩,
  ⟨some 14, none, 0, 0, .mv (.t 16)⟩])
 (.cond (.t 14)
 (.exit 1)
 .skip))
 (.seq (.seq (.reg [⟨some 18, none, 0, 0, .mv (.t 0)⟩,
  ⟨some 19, none, 0, 0, .ids (.t 18) (.k (.int .i64 0))⟩,
  ⟨some 20, none, 0, 0, .bin .eql (.t 19) (.k (.int .u8 45))⟩,
  ⟨some 17, none, 0, 0, .mv (.t 20)⟩])
 (.cond (.t 17)
 (.exit 2)
 .skip))
 (.seq (.reg [⟨some 22, none, 0, 0, .mv (.t 0)⟩,
  ⟨some 23, none, 0, 0, .ids (.t 22) (.k (.int .i64 0))⟩,
  ⟨some 24, none, 0, 0, .bin .eql (.t 23) (.k (.int .u8 43))⟩,
  ⟨some 21, none, 0, 0, .mv (.t 24)⟩])
 (.cond (.t 21)
 (.exit 3)
 .skip))))
 (.exit 0)))
 (.seq (.seq (.reg [⟨some 25, none, 0, 0, .mv (.t 0)⟩,
  ⟨some 26, none, 0, 0, .build [.int .i64 0, .int .i64 0, .str [], .bool false, .int .u64 0, .int .u64 0] [(1, 1, .k (.int .i64 1)), (2, 1, .t 25)]⟩,
  ⟨none, none, 0, 0, .store true 6 (.t 2) (.t 26)⟩,
  ⟨some 3, none, 0, 0, .mv (.k (.bool true))⟩])
 .ret)
 (.exit 0))))
 (.reg [⟨some 27, none, 0, 0, .fadr 3 (.t 4)⟩,
  ⟨none, none, 0, 0, .store false 1 (.t 27) (.k (.bool true))⟩])))
 (.seq (.seq (.reg [⟨some 28, none, 0, 0, .mv (.t 0)⟩,
  ⟨some 29, none, 0, 0, .sls (.t 28) (some (.k (.int .i64 1))) none⟩,
  ⟨some 0, none, 0, 0, .mv (.t 29)⟩])
 (.seq (.reg [⟨some 31, none, 0, 0, .mv (.t 0)⟩,
  ⟨some 32, none, 0, 0, .call 58 [.t 31]⟩,
  ⟨some 30, none, 0, 0, .mv (.t 32)⟩,
  ⟨some 33, none, 0, 0, .ext (.t 30) 0⟩,
  ⟨some 34, none, 0, 0, .ext (.t 30) 1⟩,
  ⟨some 5, none, 0, 0, .mv (.t 33)⟩,
  ⟨some 6, none, 0, 0, .mv (.t 34)⟩])
 (.seq (.reg [⟨some 35, none, 0, 0, .mv (.t 5)⟩,
  ⟨some 36, none, 0, 0, .fadr 1 (.t 4)⟩,
  ⟨none, none, 0, 0, .store false 1 (.t 36) (.k (.int .i64 2))⟩,
  ⟨some 37, none, 0, 0, .fadr 4 (.t 4)⟩,
  ⟨none, none, 0, 0, .store false 1 (.t 37) (.t 35)⟩])
 (.seq (.drw [⟨some 38, none, 0, 0, .load true 6 (.t 4)⟩,
  ⟨some 39, none, 0, 0, .mv (.t 6)⟩,
  ⟨some 40, none, 0, 0, .mv (.t 39)⟩,
  ⟨some 41, (some (40, true)), 0, 0, .mv (.t 5)⟩,
  ⟨some 42, (some (40, true)), 0, 0, .bin .gtr (.t 41) (.k (.int .u64 0))⟩,
  ⟨some 43, (some (40, true)), 0, 0, .mv (.t 42)⟩,
  ⟨some 44, (some (43, false)), 0, 1, .fadr 3 (.t 4)⟩,
  ⟨some 45, (some (43, false)), 0, 1, .load false 1 (.t 44)⟩,
  ⟨some 46, (some (43, false)), 0, 1, .un .not (.t 45)⟩,
  ⟨some 47, (some (40, true)), 0, 1, .pick (.t 43) (.k (.bool true)) (.t 46)⟩,
  ⟨some 48, none, 0, 1, .pick (.t 40) (.t 47) (.k (.bool false))⟩,
  ⟨none, none, 0, 0, .store true 6 (.t 2) (.t 38)⟩,
  ⟨some 3, none, 1, 1, .mv (.t 48)⟩])
 .ret))))
 (.exit 0))))
 (.seq (.reg [⟨some 50, none, 0, 0, .mv (.t 0)⟩,
  ⟨some 51, none, 0, 0, .call 104 [.t 50, .k (.str [46, 46])]⟩,
  ⟨some 49, none, 0, 0, .mv (.t 51)⟩,
  ⟨some 52, none, 0, 0, .ext (.t 49) 0⟩,
  ⟨some 53, none, 0, 0, .ext (.t 49) 1⟩,
  ⟨some 54, none, 0, 0, .ext (.t 49) 2⟩,
  ⟨some 7, none, 0, 0, .mv (.t 52)⟩,
  ⟨some 8, none, 0, 0, .mv (.t 53)⟩,
  ⟨some 9, none, 0, 0, .mv (.t 54)⟩])
 (.seq (.reg [⟨some 56, none, 0, 0, .mv (.t 7)⟩,
  ⟨some 57, none, 0, 0, .call 58 [.t 56]⟩,
  ⟨some 55, none, 0, 0, .mv (.t 57)⟩,
  ⟨some 58, none, 0, 0, .ext (.t 55) 0⟩,
  ⟨some 59, none, 0, 0, .ext (.t 55) 1⟩,
  ⟨some 10, none, 0, 0, .mv (.t 58)⟩,
  ⟨some 11, none, 0, 0, .mv (.t 59)⟩])
 (.seq (.seq (.reg [⟨some 60, none, 0, 0, .mv (.t 9)⟩,
  ⟨some 61, none, 0, 0, .un .not (.t 60)⟩])
 (.cond (.t 61)
 (.seq (.reg [⟨some 62, none, 0, 0, .mv (.t 10)⟩,
  ⟨some 63, none, 0, 0, .build [.int .i64 0, .int .i64 0, .str [], .bool false, .int .u64 0, .int .u64 0] [(1, 1, .k (.int .i64 2)), (4, 1, .t 62)]⟩,
  ⟨some 64, none, 0, 0, .mv (.t 11)⟩,
  ⟨none, none, 0, 0, .store true 6 (.t 2) (.t 63)⟩,
  ⟨some 3, none, 0, 0, .mv (.t 64)⟩])
 .ret)
 .skip))
 (.seq (.reg [⟨some 66, none, 0, 0, .mv (.t 8)⟩,
  ⟨some 67, none, 0, 0, .call 58 [.t 66]⟩,
  ⟨some 65, none, 0, 0, .mv (.t 67)⟩,
  ⟨some 68, none, 0, 0, .ext (.t 65) 0⟩,
  ⟨some 69, none, 0, 0, .ext (.t 65) 1⟩,
  ⟨some 12, none, 0, 0, .mv (.t 68)⟩,
  ⟨some 13, none, 0, 0, .mv (.t 69)⟩])
 (.seq (.reg [⟨some 70, none, 0, 0, .mv (.t 10)⟩,
  ⟨some 71, none, 0, 0, .mv (.t 12)⟩,
  ⟨some 72, none, 0, 0, .build [.int .i64 0, .int .i64 0, .str [], .bool false, .int .u64 0, .int .u64 0] [(1, 1, .k (.int .i64 3)), (4, 1, .t 70), (5, 1, .t 71)]⟩,
  ⟨some 73, none, 0, 0, .mv (.t 11)⟩,
  ⟨some 74, none, 0, 0, .mv (.t 73)⟩,
  ⟨some 75, (some (74, true)), 0, 0, .mv (.t 13)⟩,
  ⟨some 76, none, 0, 0, .pick (.t 74) (.t 75) (.k (.bool false))⟩,
  ⟨some 77, none, 0, 0, .mv (.t 76)⟩,
  ⟨some 78, (some (77, true)), 0, 0, .mv (.t 10)⟩,
  ⟨some 79, (some (77, true)), 0, 0, .mv (.t 12)⟩,
  ⟨some 80, (some (77, true)), 0, 0, .bin .leq (.t 78) (.t 79)⟩,
  ⟨some 81, none, 0, 0, .pick (.t 77) (.t 80) (.k (.bool false))⟩,
  ⟨none, none, 0, 0, .store true 6 (.t 2) (.t 72)⟩,
  ⟨some 3, none, 0, 0, .mv (.t 81)⟩])
 .ret)))))))) }
theorem ok130 : okFun Tryd.prog gl 130 h130 = true := by kernel_rfl
/- 131: internal/stringslite.CutPrefix -/
def h131 : Fn := { np := 2, res := [.t 4, .t 5], body :=
 (.seq (.reg [⟨some 4, none, 0, 0, .mv (.k (.str []))⟩,
  ⟨some 5, none, 0, 0, .mv (.k (.bool false))⟩])
 (.seq (.seq (.reg [⟨some 6, none, 0, 0, .mv (.t 0)⟩,
  ⟨some 7, none, 0, 0, .mv (.t 1)⟩,
  ⟨some 8, none, 0, 0, .call 140 [.t 6, .t 7]⟩,
  ⟨some 9, none, 0, 0, .un .not (.t 8)⟩])
 (.cond (.t 9)
 (.seq (.reg [⟨some 10, none, 0, 0, .mv (.t 0)⟩,
  ⟨some 4, none, 0, 0, .mv (.t 10)⟩,
  ⟨some 5, none, 0, 0, .mv (.k (.bool false))⟩])
 .ret)
 .skip))
 (.seq (.reg [⟨some 11, none, 0, 0, .mv (.t 0)⟩,
  ⟨some 12, none, 0, 0, .mv (.t 1)⟩,
  ⟨some 13, none, 0, 0, .len true (.t 12)⟩,
  ⟨some 14, none, 0, 0, .sls (.t 11) (some (.t 13)) none⟩,
  ⟨some 4, none, 0, 0, .mv (.t 14)⟩,
  ⟨some 5, none, 0, 0, .mv (.k (.bool true))⟩])
 .ret))) }
theorem ok131 : okFun Tryd.prog gl 131 h131 = true := by kernel_rfl
/- 132: internal/stringslite.IndexByte -/
def h132 : Fn := { np := 2, res := [.t 4], body :=
 (.seq (.reg [⟨some 4, none, 0, 0, .mv (.k (.int .i64 0))⟩])
 (.seq (.reg [⟨some 5, none, 0, 0, .mv (.t 0)⟩,
  ⟨some 6, none, 0, 0, .mv (.t 1)⟩,
  ⟨some 7, none, 0, 0, .nat 0 [.t 5, .t 6]⟩,
  ⟨some 4, none, 0, 0, .mv (.t 7)⟩])
 .ret)) }
theorem ok132 : okFun Tryd.prog gl 132 h132 = true := by kernel_rfl
/- 133: strconv.FormatUint -/
def h133 : Fn := { np := 2, res := [.t 4], body :=
 (.seq (.reg [⟨some 4, none, 0, 0, .mv (.k (.str []))⟩])
 (.seq (.reg [⟨some 5, none, 0, 0, .mv (.t 0)⟩,
  ⟨some 6, none, 0, 0, .mv (.t 1)⟩,
  ⟨some 7, none, 0, 0, .call 142 [.t 5, .t 6]⟩,
  ⟨some 4, none, 0, 0, .mv (.t 7)⟩])
 .ret)) }
theorem ok133 : okFun Tryd.prog gl 133 h133 = true := by kernel_rfl
/- 134: headgate/row.letter -/
def h134 : Fn := { np := 1, res := [.t 2], body :=
 (.seq (.reg [⟨some 2, none, 0, 0, .mv (.k (.bool false))⟩])
 (.seq (.reg [⟨some 3, none, 0, 0, .mv (.t 0)⟩,
  ⟨some 4, none, 0, 0, .bin .geq (.t 3) (.k (.int .u8 97))⟩,
  ⟨some 5, none, 0, 0, .mv (.t 4)⟩,
  ⟨some 6, (some (5, true)), 0, 0, .mv (.t 0)⟩,
  ⟨some 7, (some (5, true)), 0, 0, .bin .leq (.t 6) (.k (.int .u8 122))⟩,
  ⟨some 8, none, 0, 0, .pick (.t 5) (.t 7) (.k (.bool false))⟩,
  ⟨some 2, none, 0, 0, .mv (.t 8)⟩])
 .ret)) }
theorem ok134 : okFun Tryd.prog gl 134 h134 = true := by kernel_rfl
/- 135: headgate/row.digit -/
def h135 : Fn := { np := 1, res := [.t 2], body :=
 (.seq (.reg [⟨some 2, none, 0, 0, .mv (.k (.bool false))⟩])
 (.seq (.reg [⟨some 3, none, 0, 0, .mv (.t 0)⟩,
  ⟨some 4, none, 0, 0, .bin .geq (.t 3) (.k (.int .u8 48))⟩,
  ⟨some 5, none, 0, 0, .mv (.t 4)⟩,
  ⟨some 6, (some (5, true)), 0, 0, .mv (.t 0)⟩,
  ⟨some 7, (some (5, true)), 0, 0, .bin .leq (.t 6) (.k (.int .u8 57))⟩,
  ⟨some 8, none, 0, 0, .pick (.t 5) (.t 7) (.k (.bool false))⟩,
  ⟨some 2, none, 0, 0, .mv (.t 8)⟩])
 .ret)) }
theorem ok135 : okFun Tryd.prog gl 135 h135 = true := by kernel_rfl
/- 139: internal/stringslite.Index -/
def h139l0 : C := (.keep [0, 1, 5, 6, 7, 8, 9, 10] (.seq (.seq (.reg [⟨some 57, none, 0, 0, .mv (.t 8)⟩,
  ⟨some 58, none, 0, 0, .mv (.t 9)⟩,
  ⟨some 59, none, 0, 0, .bin .lss (.t 57) (.t 58)⟩])
 (.cond (.t 59)
 .skip
 (.exit 1)))
 (.block 2 (.seq (.seq (.reg [⟨some 60, none, 0, 0, .mv (.t 0)⟩,
  ⟨some 61, none, 0, 0, .mv (.t 8)⟩,
  ⟨some 62, none, 0, 0, .ids (.t 60) (.t 61)⟩,
  ⟨some 63, none, 0, 0, .mv (.t 6)⟩,
  ⟨some 64, none, 0, 0, .bin .neq (.t 62) (.t 63)⟩])
 (.cond (.t 64)
 (.seq (.reg [⟨some 65, none, 0, 0, .mv (.t 0)⟩,
  ⟨some 66, none, 0, 0, .mv (.t 8)⟩,
  ⟨some 67, none, 0, 0, .bin .add (.t 66) (.k (.int .i64 1))⟩,
  ⟨some 68, none, 0, 0, .mv (.t 9)⟩,
  ⟨some 69, none, 0, 0, .sls (.t 65) (some (.t 67)) (some (.t 68))⟩,
  ⟨some 70, none, 0, 0, .mv (.t 6)⟩,
  ⟨some 71, none, 0, 0, .call 132 [.t 69, .t 70]⟩,
  ⟨some 11, none, 0, 0, .mv (.t 71)⟩])
 (.seq (.seq (.reg [⟨some 72, none, 0, 0, .mv (.t 11)⟩,
  ⟨some 73, none, 0, 0, .bin .lss (.t 72) (.k (.int .i64 0))⟩])
 (.cond (.t 73)
 (.seq (.reg [⟨some 4, none, 0, 0, .mv (.k (.int .i64 (-1)))⟩])
 .ret)
 .skip))
 (.reg [⟨some 74, none, 0, 0, .mv (.t 8)⟩,
  ⟨some 75, none, 0, 0, .mv (.t 11)⟩,
  ⟨some 76, none, 0, 0, .bin .add (.t 75) (.k (.int .i64 1))⟩,
  ⟨some 77, none, 0, 0, .bin .add (.t 74) (.t 76)⟩,
  ⟨some 8, none, 0, 0, .mv (.t 77)⟩])))
 .skip))
 (.seq (.seq (.reg [⟨some 78, none, 0, 0, .mv (.t 0)⟩,
  ⟨some 79, none, 0, 0, .mv (.t 8)⟩,
  ⟨some 80, none, 0, 0, .bin .add (.t 79) (.k (.int .i64 1))⟩,
  ⟨some 81, none, 0, 0, .ids (.t 78) (.t 80)⟩,
  ⟨some 82, none, 0, 0, .mv (.t 7)⟩,
  ⟨some 83, none, 0, 0, .bin .eql (.t 81) (.t 82)⟩,
  ⟨some 84, none, 0, 0, .mv (.t 83)⟩,
  ⟨some 85, (some (84, true)), 0, 0, .mv (.t 0)⟩,
  ⟨some 86, (some (84, true)), 0, 0, .mv (.t 8)⟩,
  ⟨some 87, (some (84, true)), 0, 0, .mv (.t 8)⟩,
  ⟨some 88, (some (84, true)), 0, 0, .mv (.t 5)⟩,
  ⟨some 89, (some (84, true)), 0, 0, .bin .add (.t 87) (.t 88)⟩,
  ⟨some 90, (some (84, true)), 0, 0, .sls (.t 85) (some (.t 86)) (some (.t 89))⟩,
  ⟨some 91, (some (84, true)), 0, 0, .mv (.t 1)⟩,
  ⟨some 92, (some (84, true)), 0, 0, .bin .eql (.t 90) (.t 91)⟩,
  ⟨some 93, none, 0, 0, .pick (.t 84) (.t 92) (.k (.bool false))⟩])
 (.cond (.t 93)
 (.seq (.reg [⟨some 94, none, 0, 0, .mv (.t 8)⟩,
  ⟨some 4, none, 0, 0, .mv (.t 94)⟩])
 .ret)
 .skip))
 (.seq (.reg [⟨some 95, none, 0, 0, .mv (.t 8)⟩,
  ⟨some 96, none, 0, 0, .bin .add (.t 95) (.k (.int .i64 1))⟩,
  ⟨some 8, none, 0, 0, .mv (.t 96)⟩])
 (.seq (.reg [⟨some 97, none, 0, 0, .mv (.t 10)⟩,
  ⟨some 98, none, 0, 0, .bin .add (.t 97) (.k (.int .i64 1))⟩,
  ⟨some 10, none, 0, 0, .mv (.t 98)⟩])
 (.seq (.reg [⟨some 99, none, 0, 0, .mv (.t 5)⟩,
  ⟨some 100, none, 0, 0, .load false 1 (.g 2)⟩,
  ⟨some 101, none, 0, 0, .bin .leq (.t 99) (.t 100)⟩,
  ⟨some 102, none, 0, 0, .mv (.t 101)⟩,
  ⟨some 103, (some (102, true)), 0, 0, .mv (.t 10)⟩,
  ⟨some 104, (some (102, true)), 0, 0, .mv (.t 8)⟩,
  ⟨some 105, (some (102, true)), 0, 0, .call 144 [.t 104]⟩,
  ⟨some 106, (some (102, true)), 0, 0, .bin .gtr (.t 103) (.t 105)⟩,
  ⟨some 107, none, 0, 0, .pick (.t 102) (.t 106) (.k (.bool false))⟩])
 (.cond (.t 107)
 (.seq (.reg [⟨some 108, none, 0, 0, .mv (.t 0)⟩,
  ⟨some 109, none, 0, 0, .mv (.t 8)⟩,
  ⟨some 110, none, 0, 0, .sls (.t 108) (some (.t 109)) none⟩,
  ⟨some 111, none, 0, 0, .mv (.t 1)⟩,
  ⟨some 112, none, 0, 0, .nat 4 [.t 110, .t 111]⟩,
  ⟨some 12, none, 0, 0, .mv (.t 112)⟩])
 (.seq (.seq (.reg [⟨some 113, none, 0, 0, .mv (.t 12)⟩,
  ⟨some 114, none, 0, 0, .bin .geq (.t 113) (.k (.int .i64 0))⟩])
 (.cond (.t 114)
 (.seq (.reg [⟨some 115, none, 0, 0, .mv (.t 12)⟩,
  ⟨some 116, none, 0, 0, .mv (.t 8)⟩,
  ⟨some 117, none, 0, 0, .bin .add (.t 115) (.t 116)⟩,
  ⟨some 4, none, 0, 0, .mv (.t 117)⟩])
 .ret)
 .skip))
 (.seq (.reg [⟨some 4, none, 0, 0, .mv (.k (.int .i64 (-1)))⟩])
 .ret)))
 (.seq (.reg [⟨some 118, none, 0, 0, .mv (.t 5)⟩,
  ⟨some 119, none, 0, 0, .load false 1 (.g 2)⟩,
  ⟨some 120, none, 0, 0, .bin .gtr (.t 118) (.t 119)⟩,
  ⟨some 121, none, 0, 0, .mv (.t 120)⟩,
  ⟨some 122, (some (121, true)), 0, 0, .mv (.t 10)⟩,
  ⟨some 123, (some (121, true)), 0, 0, .mv (.t 8)⟩,
  ⟨some 124, (some (121, true)), 0, 0, .bin .shr (.t 123) (.k (.int .u64 4))⟩,
  ⟨some 125, (some (121, true)), 0, 0, .bin .add (.k (.int .i64 4)) (.t 124)⟩,
  ⟨some 126, (some (121, true)), 0, 0, .bin .geq (.t 122) (.t 125)⟩,
  ⟨some 127, none, 0, 0, .pick (.t 121) (.t 126) (.k (.bool false))⟩,
  ⟨some 128, none, 0, 0, .mv (.t 127)⟩,
  ⟨some 129, (some (128, true)), 0, 0, .mv (.t 8)⟩,
  ⟨some 130, (some (128, true)), 0, 0, .mv (.t 9)⟩,
  ⟨some 131, (some (128, true)), 0, 0, .bin .lss (.t 129) (.t 130)⟩,
  ⟨some 132, none, 0, 0, .pick (.t 128) (.t 131) (.k (.bool false))⟩])
 (.cond (.t 132)
 (.seq (.reg [⟨some 133, none, 0, 0, .mv (.t 0)⟩,
  ⟨some 134, none, 0, 0, .mv (.t 8)⟩,
  ⟨some 135, none, 0, 0, .sls (.t 133) (some (.t 134)) none⟩,
  ⟨some 136, none, 0, 0, .mv (.t 1)⟩,
  ⟨some 137, none, 0, 0, .call 145 [.t 135, .t 136]⟩,
  ⟨some 13, none, 0, 0, .mv (.t 137)⟩])
 (.seq (.seq (.reg [⟨some 138, none, 0, 0, .mv (.t 13)⟩,
  ⟨some 139, none, 0, 0, .bin .lss (.t 138) (.k (.int .i64 0))⟩])
 (.cond (.t 139)
 (.seq (.reg [⟨some 4, none, 0, 0, .mv (.k (.int .i64 (-1)))⟩])
 .ret)
 .skip))
 (.seq (.reg [⟨some 140, none, 0, 0, .mv (.t 8)⟩,
  ⟨some 141, none, 0, 0, .mv (.t 13)⟩,
  ⟨some 142, none, 0, 0, .bin .add (.t 140) (.t 141)⟩,
  ⟨some 4, none, 0, 0, .mv (.t 142)⟩])
 .ret)))
 .skip)))))))))))
def h139 : Fn := { np := 2, res := [.t 4], body :=
 (.seq (.reg [⟨some 4, none, 0, 0, .mv (.k (.int .i64 0))⟩])
 (.seq (.reg [⟨some 14, none, 0, 0, .mv (.t 1)⟩,
  ⟨some 15, none, 0, 0, .len true (.t 14)⟩,
  ⟨some 5, none, 0, 0, .mv (.t 15)⟩])
 (.seq (.block 0 (.seq (.reg [⟨some 17, none, 0, 0, .mv (.t 5)⟩,
  ⟨some 18, none, 0, 0, .bin .eql (.t 17) (.k (.int .i64 0))⟩,
  ⟨some 19, none, 0, 0, .mv (.t 18)⟩,
  ⟨some 20, (some (19, false)), 0, 0, .mv (.t 1)⟩,
  ⟨some 21, (some (19, false)), 0, 0, .mv (.t 0)⟩,
  ⟨some 22, (some (19, false)), 0, 0, .bin .eql (.t 20) (.t 21)⟩,
  ⟨some 23, none, 0, 0, .pick (.t 19) (.k (.bool true)) (.t 22)⟩,
  ⟨some 16, none, 0, 0, .mv (.t 23)⟩])
 (.cond (.t 16)
 (.seq (.reg [⟨some 4, none, 0, 0, .mv (.k (.int .i64 0))⟩])
 .ret)
 (.seq (.reg [⟨some 25, none, 0, 0, .mv (.t 5)⟩,
  ⟨some 26, none, 0, 0, .bin .eql (.t 25) (.k (.int .i64 1))⟩,
  ⟨some 24, none, 0, 0, .mv (.t 26)⟩])
 (.cond (.t 24)
 (.seq (.reg [⟨some 27, none, 0, 0, .mv (.t 0)⟩,
  ⟨some 28, none, 0, 0, .mv (.t 1)⟩,
  ⟨some 29, none, 0, 0, .ids (.t 28) (.k (.int .i64 0))⟩,
  ⟨some 30, none, 0, 0, .call 132 [.t 27, .t 29]⟩,
  ⟨some 4, none, 0, 0, .mv (.t 30)⟩])
 .ret)
 (.seq (.reg [⟨some 32, none, 0, 0, .mv (.t 5)⟩,
  ⟨some 33, none, 0, 0, .mv (.t 0)⟩,
  ⟨some 34, none, 0, 0, .len true (.t 33)⟩,
  ⟨some 35, none, 0, 0, .bin .geq (.t 32) (.t 34)⟩,
  ⟨some 31, none, 0, 0, .mv (.t 35)⟩])
 (.cond (.t 31)
 (.seq (.reg [⟨some 4, none, 0, 0, .mv (.k (.int .i64 (-1)))⟩])
 .ret)
 (.seq (.reg [⟨some 37, none, 0, 0, .mv (.t 5)⟩,
  ⟨some 38, none, 0, 0, .load false 1 (.g 2)⟩,
  ⟨some 39, none, 0, 0, .bin .leq (.t 37) (.t 38)⟩,
  ⟨some 40, none, 0, 0, .mv (.t 39)⟩,
  ⟨some 41, (some (40, true)), 0, 0, .mv (.t 0)⟩,
  ⟨some 42, (some (40, true)), 0, 0, .len true (.t 41)⟩,
  ⟨some 43, (some (40, true)), 0, 0, .bin .leq (.t 42) (.k (.int .i64 64))⟩,
  ⟨some 44, none, 0, 0, .pick (.t 40) (.t 43) (.k (.bool false))⟩,
  ⟨some 36, none, 0, 0, .mv (.t 44)⟩])
 (.cond (.t 36)
 (.seq (.reg [⟨some 45, none, 0, 0, .mv (.t 0)⟩,
  ⟨some 46, none, 0, 0, .mv (.t 1)⟩,
  ⟨some 47, none, 0, 0, .nat 4 [.t 45, .t 46]⟩,
  ⟨some 4, none, 0, 0, .mv (.t 47)⟩])
 .ret)
 .skip)))))))))
 (.seq (.reg [⟨some 48, none, 0, 0, .mv (.t 1)⟩,
  ⟨some 49, none, 0, 0, .ids (.t 48) (.k (.int .i64 0))⟩,
  ⟨some 6, none, 0, 0, .mv (.t 49)⟩])
 (.seq (.reg [⟨some 50, none, 0, 0, .mv (.t 1)⟩,
  ⟨some 51, none, 0, 0, .ids (.t 50) (.k (.int .i64 1))⟩,
  ⟨some 7, none, 0, 0, .mv (.t 51)⟩])
 (.seq (.reg [⟨some 8, none, 0, 0, .mv (.k (.int .i64 0))⟩])
 (.seq (.reg [⟨some 52, none, 0, 0, .mv (.t 0)⟩,
  ⟨some 53, none, 0, 0, .len true (.t 52)⟩,
  ⟨some 54, none, 0, 0, .mv (.t 5)⟩,
  ⟨some 55, none, 0, 0, .bin .sub (.t 53) (.t 54)⟩,
  ⟨some 56, none, 0, 0, .bin .add (.t 55) (.k (.int .i64 1))⟩,
  ⟨some 9, none, 0, 0, .mv (.t 56)⟩])
 (.seq (.reg [⟨some 10, none, 0, 0, .mv (.k (.int .i64 0))⟩])
 (.seq (.block 1 (.loop h139l0))
 (.seq (.reg [⟨some 4, none, 0, 0, .mv (.k (.int .i64 (-1)))⟩])
 .ret)))))))))) }
theorem ok139 : okFun Tryd.prog gl 139 h139 = true := by kernel_rfl
/- 140: internal/stringslite.HasPrefix -/
def h140 : Fn := { np := 2, res := [.t 4], body :=
 (.seq (.reg [⟨some 4, none, 0, 0, .mv (.k (.bool false))⟩])
 (.seq (.reg [⟨some 5, none, 0, 0, .mv (.t 0)⟩,
  ⟨some 6, none, 0, 0, .len true (.t 5)⟩,
  ⟨some 7, none, 0, 0, .mv (.t 1)⟩,
  ⟨some 8, none, 0, 0, .len true (.t 7)⟩,
  ⟨some 9, none, 0, 0, .bin .geq (.t 6) (.t 8)⟩,
  ⟨some 10, none, 0, 0, .mv (.t 9)⟩,
  ⟨some 11, (some (10, true)), 0, 0, .mv (.t 0)⟩,
  ⟨some 12, (some (10, true)), 0, 0, .mv (.t 1)⟩,
  ⟨some 13, (some (10, true)), 0, 0, .len true (.t 12)⟩,
  ⟨some 14, (some (10, true)), 0, 0, .sls (.t 11) none (some (.t 13))⟩,
  ⟨some 15, (some (10, true)), 0, 0, .mv (.t 1)⟩,
  ⟨some 16, (some (10, true)), 0, 0, .bin .eql (.t 14) (.t 15)⟩,
  ⟨some 17, none, 0, 0, .pick (.t 10) (.t 16) (.k (.bool false))⟩,
  ⟨some 4, none, 0, 0, .mv (.t 17)⟩])
 .ret)) }
theorem ok140 : okFun Tryd.prog gl 140 h140 = true := by kernel_rfl
/- 142: internal/strconv.FormatUint -/
def h142 : Fn := { np := 2, res := [.t 4], body :=
 (.seq (.reg [⟨some 4, none, 0, 0, .mv (.k (.str []))⟩])
 (.seq (.seq (.reg [⟨some 9, none, 0, 0, .mv (.t 1)⟩,
  ⟨some 10, none, 0, 0, .bin .eql (.t 9) (.k (.int .i64 10))⟩])
 (.cond (.t 10)
 (.seq (.seq (.reg [⟨some 11, none, 0, 0, .mv (.t 0)⟩,
  ⟨some 12, none, 0, 0, .bin .lss (.t 11) (.k (.int .u64 100))⟩])
 (.cond (.t 12)
 (.seq (.reg [⟨some 13, none, 0, 0, .mv (.t 0)⟩,
  ⟨some 14, none, 0, 0, .cv .i64 (.t 13)⟩,
  ⟨some 15, none, 0, 0, .call 146 [.t 14]⟩,
  ⟨some 4, none, 0, 0, .mv (.t 15)⟩])
 .ret)
 .skip))
 (.seq (.reg [⟨some 5, none, 0, 0, .alloc [.int .u8 0, .int .u8 0, .int .u8 0, .int .u8 0, .int .u8 0, .int .u8 0, .int .u8 0, .int .u8 0, .int .u8 0, .int .u8 0, .int .u8 0, .int .u8 0, .int .u8 0, .int .u8 0, .int .u8 0, .int .u8 0, .int .u8 0, .int .u8 0, .int .u8 0, .int .u8 0, .int .u8 0, .int .u8 0, .int .u8 0, .int .u8 0]⟩])
 (.seq (.reg [⟨some 16, none, 0, 0, .mv (.t 0)⟩,
  ⟨some 17, none, 0, 0, .call 147 [.t 16]⟩,
  ⟨some 6, none, 0, 0, .mv (.t 17)⟩])
 (.seq (.reg [⟨some 18, none, 0, 0, .mv (.t 6)⟩,
  ⟨some 19, none, 0, 0, .slp 24 1 (.t 5) none (some (.t 18)) none⟩,
  ⟨some 20, none, 0, 0, .mv (.t 0)⟩,
  ⟨some 21, none, 0, 0, .call 148 [.t 19, .t 20]⟩])
 (.seq (.reg [⟨some 22, none, 0, 0, .mv (.t 6)⟩,
  ⟨some 23, none, 0, 0, .slp 24 1 (.t 5) none (some (.t 22)) none⟩,
  ⟨some 24, none, 0, 0, .b2s (.t 23)⟩,
  ⟨some 4, none, 0, 0, .mv (.t 24)⟩])
 .ret)))))
 .skip))
 (.seq (.reg [⟨some 26, none, 0, 0, .mv (.t 0)⟩,
  ⟨some 27, none, 0, 0, .mv (.t 1)⟩,
  ⟨some 28, none, 0, 0, .call 149 [.k (.nils), .t 26, .t 27, .k (.bool false), .k (.bool false)]⟩,
  ⟨some 25, none, 0, 0, .mv (.t 28)⟩,
  ⟨some 29, none, 0, 0, .ext (.t 25) 0⟩,
  ⟨some 30, none, 0, 0, .ext (.t 25) 1⟩,
  ⟨some 7, none, 0, 0, .mv (.t 29)⟩,
  ⟨some 8, none, 0, 0, .mv (.t 30)⟩])
 (.seq (.reg [⟨some 31, none, 0, 0, .mv (.t 8)⟩,
  ⟨some 4, none, 0, 0, .mv (.t 31)⟩])
 .ret)))) }
theorem ok142 : okFun Tryd.prog gl 142 h142 = true := by kernel_rfl
/- 144: internal/bytealg.Cutover -/
def h144 : Fn := { np := 1, res := [.t 2], body :=
 (.seq (.reg [⟨some 2, none, 0, 0, .mv (.k (.int .i64 0))⟩])
 (.seq (.reg [⟨some 3, none, 0, 0, .mv (.t 0)⟩,
  ⟨some 4, none, 0, 0, .bin .add (.t 3) (.k (.int .i64 16))⟩,
  ⟨some 5, none, 0, 0, .bin .quo (.t 4) (.k (.int .i64 8))⟩,
  ⟨some 2, none, 0, 0, .mv (.t 5)⟩])
 .ret)) }
theorem ok144 : okFun Tryd.prog gl 144 h144 = true := by kernel_rfl
/- 145: internal/bytealg.IndexRabinKarp(string) -/
def h145l0 : C := (.keep [0, 1, 5, 6, 7, 8, 9] (.seq (.seq (.reg [⟨some 18, none, 0, 0, .mv (.t 9)⟩,
  ⟨some 19, none, 0, 0, .mv (.t 7)⟩,
  ⟨some 20, none, 0, 0, .bin .lss (.t 18) (.t 19)⟩])
 (.cond (.t 20)
 .skip
 (.exit 0)))
 (.seq (.block 1 (.reg [⟨some 23, none, 0, 0, .mv (.t 8)⟩,
  ⟨some 24, none, 0, 0, .bin .mul (.t 23) (.k (.int .u32 16777619))⟩,
  ⟨some 25, none, 0, 0, .mv (.t 0)⟩,
  ⟨some 26, none, 0, 0, .mv (.t 9)⟩,
  ⟨some 27, none, 0, 0, .ids (.t 25) (.t 26)⟩,
  ⟨some 28, none, 0, 0, .cv .u32 (.t 27)⟩,
  ⟨some 29, none, 0, 0, .bin .add (.t 24) (.t 28)⟩,
  ⟨some 8, none, 0, 0, .mv (.t 29)⟩]))
 (.reg [⟨some 21, none, 0, 0, .mv (.t 9)⟩,
  ⟨some 22, none, 0, 0, .bin .add (.t 21) (.k (.int .i64 1))⟩,
  ⟨some 9, none, 0, 0, .mv (.t 22)⟩]))))
def h145l1 : C := (.keep [0, 1, 5, 6, 7, 8, 10] (.seq (.seq (.reg [⟨some 41, none, 0, 0, .mv (.t 10)⟩,
  ⟨some 42, none, 0, 0, .mv (.t 0)⟩,
  ⟨some 43, none, 0, 0, .len true (.t 42)⟩,
  ⟨some 44, none, 0, 0, .bin .lss (.t 41) (.t 43)⟩])
 (.cond (.t 44)
 .skip
 (.exit 2)))
 (.block 3 (.seq (.reg [⟨some 45, none, 0, 0, .mv (.t 8)⟩,
  ⟨some 46, none, 0, 0, .bin .mul (.t 45) (.k (.int .u32 16777619))⟩,
  ⟨some 8, none, 0, 0, .mv (.t 46)⟩])
 (.seq (.reg [⟨some 47, none, 0, 0, .mv (.t 8)⟩,
  ⟨some 48, none, 0, 0, .mv (.t 0)⟩,
  ⟨some 49, none, 0, 0, .mv (.t 10)⟩,
  ⟨some 50, none, 0, 0, .ids (.t 48) (.t 49)⟩,
  ⟨some 51, none, 0, 0, .cv .u32 (.t 50)⟩,
  ⟨some 52, none, 0, 0, .bin .add (.t 47) (.t 51)⟩,
  ⟨some 8, none, 0, 0, .mv (.t 52)⟩])
 (.seq (.reg [⟨some 53, none, 0, 0, .mv (.t 8)⟩,
  ⟨some 54, none, 0, 0, .mv (.t 6)⟩,
  ⟨some 55, none, 0, 0, .mv (.t 0)⟩,
  ⟨some 56, none, 0, 0, .mv (.t 10)⟩,
  ⟨some 57, none, 0, 0, .mv (.t 7)⟩,
  ⟨some 58, none, 0, 0, .bin .sub (.t 56) (.t 57)⟩,
  ⟨some 59, none, 0, 0, .ids (.t 55) (.t 58)⟩,
  ⟨some 60, none, 0, 0, .cv .u32 (.t 59)⟩,
  ⟨some 61, none, 0, 0, .bin .mul (.t 54) (.t 60)⟩,
  ⟨some 62, none, 0, 0, .bin .sub (.t 53) (.t 61)⟩,
  ⟨some 8, none, 0, 0, .mv (.t 62)⟩])
 (.seq (.reg [⟨some 63, none, 0, 0, .mv (.t 10)⟩,
  ⟨some 64, none, 0, 0, .bin .add (.t 63) (.k (.int .i64 1))⟩,
  ⟨some 10, none, 0, 0, .mv (.t 64)⟩])
 (.seq (.reg [⟨some 65, none, 0, 0, .mv (.t 8)⟩,
  ⟨some 66, none, 0, 0, .mv (.t 5)⟩,
  ⟨some 67, none, 0, 0, .bin .eql (.t 65) (.t 66)⟩,
  ⟨some 68, none, 0, 0, .mv (.t 67)⟩,
  ⟨some 69, (some (68, true)), 0, 0, .mv (.t 0)⟩,
  ⟨some 70, (some (68, true)), 0, 0, .mv (.t 10)⟩,
  ⟨some 71, (some (68, true)), 0, 0, .mv (.t 7)⟩,
  ⟨some 72, (some (68, true)), 0, 0, .bin .sub (.t 70) (.t 71)⟩,
  ⟨some 73, (some (68, true)), 0, 0, .mv (.t 10)⟩,
  ⟨some 74, (some (68, true)), 0, 0, .sls (.t 69) (some (.t 72)) (some (.t 73))⟩,
  ⟨some 75, (some (68, true)), 0, 0, .mv (.t 1)⟩,
  ⟨some 76, (some (68, true)), 0, 0, .bin .eql (.t 74) (.t 75)⟩,
  ⟨some 77, none, 0, 0, .pick (.t 68) (.t 76) (.k (.bool false))⟩])
 (.cond (.t 77)
 (.seq (.reg [⟨some 78, none, 0, 0, .mv (.t 10)⟩,
  ⟨some 79, none, 0, 0, .mv (.t 7)⟩,
  ⟨some 80, none, 0, 0, .bin .sub (.t 78) (.t 79)⟩,
  ⟨some 4, none, 0, 0, .mv (.t 80)⟩])
 .ret)
 .skip)))))))))
def h145 : Fn := { np := 2, res := [.t 4], body :=
 (.seq (.reg [⟨some 4, none, 0, 0, .mv (.k (.int .i64 0))⟩])
 (.seq (.reg [⟨some 12, none, 0, 0, .mv (.t 1)⟩,
  ⟨some 13, none, 0, 0, .call 150 [.t 12]⟩,
  ⟨some 11, none, 0, 0, .mv (.t 13)⟩,
  ⟨some 14, none, 0, 0, .ext (.t 11) 0⟩,
  ⟨some 15, none, 0, 0, .ext (.t 11) 1⟩,
  ⟨some 5, none, 0, 0, .mv (.t 14)⟩,
  ⟨some 6, none, 0, 0, .mv (.t 15)⟩])
 (.seq (.reg [⟨some 16, none, 0, 0, .mv (.t 1)⟩,
  ⟨some 17, none, 0, 0, .len true (.t 16)⟩,
  ⟨some 7, none, 0, 0, .mv (.t 17)⟩])
 (.seq (.reg [⟨some 8, none, 0, 0, .mv (.k (.int .u32 0))⟩])
 (.seq (.seq (.reg [⟨some 9, none, 0, 0, .mv (.k (.int .i64 0))⟩])
 (.block 0 (.loop h145l0)))
 (.seq (.seq (.reg [⟨some 30, none, 0, 0, .mv (.t 8)⟩,
  ⟨some 31, none, 0, 0, .mv (.t 5)⟩,
  ⟨some 32, none, 0, 0, .bin .eql (.t 30) (.t 31)⟩,
  ⟨some 33, none, 0, 0, .mv (.t 32)⟩,
  ⟨some 34, (some (33, true)), 0, 0, .mv (.t 0)⟩,
  ⟨some 35, (some (33, true)), 0, 0, .mv (.t 7)⟩,
  ⟨some 36, (some (33, true)), 0, 0, .sls (.t 34) none (some (.t 35))⟩,
  ⟨some 37, (some (33, true)), 0, 0, .mv (.t 1)⟩,
  ⟨some 38, (some (33, true)), 0, 0, .bin .eql (.t 36) (.t 37)⟩,
  ⟨some 39, none, 0, 0, .pick (.t 33) (.t 38) (.k (.bool false))⟩])
 (.cond (.t 39)
 (.seq (.reg [⟨some 4, none, 0, 0, .mv (.k (.int .i64 0))⟩])
 .ret)
 .skip))
 (.seq (.seq (.reg [⟨some 40, none, 0, 0, .mv (.t 7)⟩,
  ⟨some 10, none, 0, 0, .mv (.t 40)⟩])
 (.block 2 (.loop h145l1)))
 (.seq (.reg [⟨some 4, none, 0, 0, .mv (.k (.int .i64 (-1)))⟩])
 .ret)))))))) }
theorem ok145 : okFun Tryd.prog gl 145 h145 = true := by kernel_rfl
/- 146: internal/strconv.small -/
def h146 : Fn := { np := 1, res := [.t 2], body :=
 (.seq (.reg [⟨some 2, none, 0, 0, .mv (.k (.str []))⟩])
 (.seq (.seq (.reg [⟨some 3, none, 0, 0, .mv (.t 0)⟩,
  ⟨some 4, none, 0, 0, .bin .lss (.t 3) (.k (.int .i64 10))⟩])
 (.cond (.t 4)
 (.seq (.reg [⟨some 5, none, 0, 0, .mv (.t 0)⟩,
  ⟨some 6, none, 0, 0, .mv (.t 0)⟩,
  ⟨some 7, none, 0, 0, .bin .add (.t 6) (.k (.int .i64 1))⟩,
  ⟨some 8, none, 0, 0, .sls (.k (.str [48, 49, 50, 51, 52, 53, 54, 55, 56, 57, 97, 98, 99, 100, 101, 102, 103, 104, 105, 106, 107, 108, 109, 110, 111, 112, 113, 114, 115, 116, 117, 118, 119, 120, 121, 122])) (some (.t 5)) (some (.t 7))⟩,
  ⟨some 2, none, 0, 0, .mv (.t 8)⟩])
 .ret)
 .skip))
 (.seq (.reg [⟨some 9, none, 0, 0, .mv (.t 0)⟩,
  ⟨some 10, none, 0, 0, .bin .mul (.t 9) (.k (.int .i64 2))⟩,
  ⟨some 11, none, 0, 0, .mv (.t 0)⟩,
  ⟨some 12, none, 0, 0, .bin .mul (.t 11) (.k (.int .i64 2))⟩,
  ⟨some 13, none, 0, 0, .bin .add (.t 12) (.k (.int .i64 2))⟩,
  ⟨some 14, none, 0, 0, .sls (.k (.str [48, 48, 48, 49, 48, 50, 48, 51, 48, 52, 48, 53, 48, 54, 48, 55, 48, 56, 48, 57, 49, 48, 49, 49, 49, 50, 49, 51, 49, 52, 49, 53, 49, 54, 49, 55, 49, 56, 49, 57, 50, 48, 50, 49, 50, 50, 50, 51, 50, 52, 50, 53, 50, 54, 50, 55, 50, 56, 50, 57, 51, 48, 51, 49, 51, 50, 51, 51, 51, 52, 51, 53, 51, 54, 51, 55, 51, 56, 51, 57, 52, 48, 52, 49, 52, 50, 52, 51, 52, 52, 52, 53, 52, 54, 52, 55, 52, 56, 52, 57, 53, 48, 53, 49, 53, 50, 53, 51, 53, 52, 53, 53, 53, 54, 53, 55, 53, 56, 53, 57, 54, 48, 54, 49, 54, 50, 54, 51, 54, 52, 54, 53, 54, 54, 54, 55, 54, 56, 54, 57, 55, 48, 55, 49, 55, 50, 55, 51, 55, 52, 55, 53, 55, 54, 55, 55, 55, 56, 55, 57, 56, 48, 56, 49, 56, 50, 56, 51, 56, 52, 56, 53, 56, 54, 56, 55, 56, 56, 56, 57, 57, 48, 57, 49, 57, 50, 57, 51, 57, 52, 57, 53, 57, 54, 57, 55, 57, 56, 57, 57])) (some (.t 10)) (some (.t 13))⟩,
  ⟨some 2, none, 0, 0, .mv (.t 14)⟩])
 .ret))) }
theorem ok146 : okFun Tryd.prog gl 146 h146 = true := by kernel_rfl
/- 147: internal/strconv.numDigits -/
def h147 : Fn := { np := 1, res := [.t 2], body :=
 (.seq (.reg [⟨some 2, none, 0, 0, .mv (.k (.int .i64 0))⟩])
 (.seq (.reg [⟨some 4, none, 0, 0, .mv (.t 0)⟩,
  ⟨some 5, none, 0, 0, .call 119 [.t 4]⟩,
  ⟨some 6, none, 0, 0, .call 151 [.t 5]⟩,
  ⟨some 3, none, 0, 0, .mv (.t 6)⟩])
 (.seq (.reg [⟨some 7, none, 0, 0, .mv (.t 3)⟩,
  ⟨some 8, none, 0, 0, .mv (.t 0)⟩,
  ⟨some 9, none, 0, 0, .mv (.t 3)⟩,
  ⟨some 10, none, 0, 0, .iada 20 1 (.g 3) (.t 9)⟩,
  ⟨some 11, none, 0, 0, .load false 1 (.t 10)⟩,
  ⟨some 12, none, 0, 0, .bin .geq (.t 8) (.t 11)⟩,
  ⟨some 13, none, 0, 0, .call 152 [.t 12]⟩,
  ⟨some 14, none, 0, 0, .bin .add (.t 7) (.t 13)⟩,
  ⟨some 2, none, 0, 0, .mv (.t 14)⟩])
 .ret))) }
theorem ok147 : okFun Tryd.prog gl 147 h147 = true := by kernel_rfl
/- 148: internal/strconv.formatBase10 -/
def h148l0 : C := (.keep [0, 1, 4] (.seq (.seq (.reg [⟨some 19, none, 0, 0, .mv (.t 4)⟩,
  ⟨some 20, none, 0, 0, .bin .geq (.t 19) (.k (.int .i64 8))⟩])
 (.cond (.t 20)
 .skip
 (.exit 0)))
 (.block 1 (.seq (.reg [⟨some 21, none, 0, 0, .mv (.t 1)⟩,
  ⟨some 22, none, 0, 0, .bin .rem (.t 21) (.k (.int .u64 100000000))⟩,
  ⟨some 23, none, 0, 0, .cv .u32 (.t 22)⟩,
  ⟨some 5, none, 0, 0, .mv (.t 23)⟩])
 (.seq (.reg [⟨some 24, none, 0, 0, .mv (.t 1)⟩,
  ⟨some 25, none, 0, 0, .bin .quo (.t 24) (.k (.int .u64 100000000))⟩,
  ⟨some 1, none, 0, 0, .mv (.t 25)⟩])
 (.seq (.reg [⟨some 26, none, 0, 0, .mv (.t 5)⟩,
  ⟨some 27, none, 0, 0, .bin .quo (.t 26) (.k (.int .u32 10000))⟩,
  ⟨some 28, none, 0, 0, .mv (.t 5)⟩,
  ⟨some 29, none, 0, 0, .bin .rem (.t 28) (.k (.int .u32 10000))⟩,
  ⟨some 6, none, 0, 0, .mv (.t 27)⟩,
  ⟨some 7, none, 0, 0, .mv (.t 29)⟩])
 (.seq (.reg [⟨some 30, none, 0, 0, .mv (.t 7)⟩,
  ⟨some 31, none, 0, 0, .bin .quo (.t 30) (.k (.int .u32 100))⟩,
  ⟨some 32, none, 0, 0, .bin .mul (.t 31) (.k (.int .u32 2))⟩,
  ⟨some 33, none, 0, 0, .mv (.t 7)⟩,
  ⟨some 34, none, 0, 0, .bin .rem (.t 33) (.k (.int .u32 100))⟩,
  ⟨some 35, none, 0, 0, .bin .mul (.t 34) (.k (.int .u32 2))⟩,
  ⟨some 8, none, 0, 0, .mv (.t 32)⟩,
  ⟨some 9, none, 0, 0, .mv (.t 35)⟩])
 (.seq (.reg [⟨some 36, none, 0, 0, .mv (.t 6)⟩,
  ⟨some 37, none, 0, 0, .bin .quo (.t 36) (.k (.int .u32 100))⟩,
  ⟨some 38, none, 0, 0, .bin .mul (.t 37) (.k (.int .u32 2))⟩,
  ⟨some 39, none, 0, 0, .mv (.t 6)⟩,
  ⟨some 40, none, 0, 0, .bin .rem (.t 39) (.k (.int .u32 100))⟩,
  ⟨some 41, none, 0, 0, .bin .mul (.t 40) (.k (.int .u32 2))⟩,
  ⟨some 10, none, 0, 0, .mv (.t 38)⟩,
  ⟨some 11, none, 0, 0, .mv (.t 41)⟩])
 (.seq (.drw [⟨some 42, none, 0, 0, .mv (.t 0)⟩,
  ⟨some 43, none, 0, 0, .mv (.t 4)⟩,
  ⟨some 44, none, 0, 0, .bin .sub (.t 43) (.k (.int .i64 1))⟩,
  ⟨some 45, none, 0, 1, .mv (.t 0)⟩,
  ⟨some 46, none, 0, 1, .mv (.t 4)⟩,
  ⟨some 47, none, 0, 1, .bin .sub (.t 46) (.k (.int .i64 2))⟩,
  ⟨some 48, none, 0, 0, .mv (.t 9)⟩,
  ⟨some 49, none, 0, 0, .bin .add (.t 48) (.k (.int .u32 1))⟩,
  ⟨some 50, none, 0, 0, .ids (.k (.str [48, 48, 48, 49, 48, 50, 48, 51, 48, 52, 48, 53, 48, 54, 48, 55, 48, 56, 48, 57, 49, 48, 49, 49, 49, 50, 49, 51, 49, 52, 49, 53, 49, 54, 49, 55, 49, 56, 49, 57, 50, 48, 50, 49, 50, 50, 50, 51, 50, 52, 50, 53, 50, 54, 50, 55, 50, 56, 50, 57, 51, 48, 51, 49, 51, 50, 51, 51, 51, 52, 51, 53, 51, 54, 51, 55, 51, 56, 51, 57, 52, 48, 52, 49, 52, 50, 52, 51, 52, 52, 52, 53, 52, 54, 52, 55, 52, 56, 52, 57, 53, 48, 53, 49, 53, 50, 53, 51, 53, 52, 53, 53, 53, 54, 53, 55, 53, 56, 53, 57, 54, 48, 54, 49, 54, 50, 54, 51, 54, 52, 54, 53, 54, 54, 54, 55, 54, 56, 54, 57, 55, 48, 55, 49, 55, 50, 55, 51, 55, 52, 55, 53, 55, 54, 55, 55, 55, 56, 55, 57, 56, 48, 56, 49, 56, 50, 56, 51, 56, 52, 56, 53, 56, 54, 56, 55, 56, 56, 56, 57, 57, 48, 57, 49, 57, 50, 57, 51, 57, 52, 57, 53, 57, 54, 57, 55, 57, 56, 57, 57])) (.t 49)⟩,
  ⟨some 51, none, 0, 1, .mv (.t 9)⟩,
  ⟨some 52, none, 0, 1, .ids (.k (.str [48, 48, 48, 49, 48, 50, 48, 51, 48, 52, 48, 53, 48, 54, 48, 55, 48, 56, 48, 57, 49, 48, 49, 49, 49, 50, 49, 51, 49, 52, 49, 53, 49, 54, 49, 55, 49, 56, 49, 57, 50, 48, 50, 49, 50, 50, 50, 51, 50, 52, 50, 53, 50, 54, 50, 55, 50, 56, 50, 57, 51, 48, 51, 49, 51, 50, 51, 51, 51, 52, 51, 53, 51, 54, 51, 55, 51, 56, 51, 57, 52, 48, 52, 49, 52, 50, 52, 51, 52, 52, 52, 53, 52, 54, 52, 55, 52, 56, 52, 57, 53, 48, 53, 49, 53, 50, 53, 51, 53, 52, 53, 53, 53, 54, 53, 55, 53, 56, 53, 57, 54, 48, 54, 49, 54, 50, 54, 51, 54, 52, 54, 53, 54, 54, 54, 55, 54, 56, 54, 57, 55, 48, 55, 49, 55, 50, 55, 51, 55, 52, 55, 53, 55, 54, 55, 55, 55, 56, 55, 57, 56, 48, 56, 49, 56, 50, 56, 51, 56, 52, 56, 53, 56, 54, 56, 55, 56, 56, 56, 57, 57, 48, 57, 49, 57, 50, 57, 51, 57, 52, 57, 53, 57, 54, 57, 55, 57, 56, 57, 57])) (.t 51)⟩,
  ⟨some 53, none, 0, 0, .iadr 1 (.t 42) (.t 44)⟩,
  ⟨none, none, 0, 0, .store false 1 (.t 53) (.t 50)⟩,
  ⟨some 54, none, 1, 1, .iadr 1 (.t 45) (.t 47)⟩,
  ⟨none, none, 0, 0, .store false 1 (.t 54) (.t 52)⟩])
 (.seq (.drw [⟨some 55, none, 0, 0, .mv (.t 0)⟩,
  ⟨some 56, none, 0, 0, .mv (.t 4)⟩,
  ⟨some 57, none, 0, 0, .bin .sub (.t 56) (.k (.int .i64 3))⟩,
  ⟨some 58, none, 0, 1, .mv (.t 0)⟩,
  ⟨some 59, none, 0, 1, .mv (.t 4)⟩,
  ⟨some 60, none, 0, 1, .bin .sub (.t 59) (.k (.int .i64 4))⟩,
  ⟨some 61, none, 0, 0, .mv (.t 8)⟩,
  ⟨some 62, none, 0, 0, .bin .add (.t 61) (.k (.int .u32 1))⟩,
  ⟨some 63, none, 0, 0, .ids (.k (.str [48, 48, 48, 49, 48, 50, 48, 51, 48, 52, 48, 53, 48, 54, 48, 55, 48, 56, 48, 57, 49, 48, 49, 49, 49, 50, 49, 51, 49, 52, 49, 53, 49, 54, 49, 55, 49, 56, 49, 57, 50, 48, 50, 49, 50, 50, 50, 51, 50, 52, 50, 53, 50, 54, 50, 55, 50, 56, 50, 57, 51, 48, 51, 49, 51, 50, 51, 51, 51, 52, 51, 53, 51, 54, 51, 55, 51, 56, 51, 57, 52, 48, 52, 49, 52, 50, 52, 51, 52, 52, 52, 53, 52, 54, 52, 55, 52, 56, 52, 57, 53, 48, 53, 49, 53, 50, 53, 51, 53, 52, 53, 53, 53, 54, 53, 55, 53, 56, 53, 57, 54, 48, 54, 49, 54, 50, 54, 51, 54, 52, 54, 53, 54, 54, 54, 55, 54, 56, 54, 57, 55, 48, 55, 49, 55, 50, 55, 51, 55, 52, 55, 53, 55, 54, 55, 55, 55, 56, 55, 57, 56, 48, 56, 49, 56, 50, 56, 51, 56, 52, 56, 53, 56, 54, 56, 55, 56, 56, 56, 57, 57, 48, 57, 49, 57, 50, 57, 51, 57, 52, 57, 53, 57, 54, 57, 55, 57, 56, 57, 57])) (.t 62)⟩,
  ⟨some 64, none, 0, 1, .mv (.t 8)⟩,
  ⟨some 65, none, 0, 1, .ids (.k (.str [48, 48, 48, 49, 48, 50, 48, 51, 48, 52, 48, 53, 48, 54, 48, 55, 48, 56, 48, 57, 49, 48, 49, 49, 49, 50, 49, 51, 49, 52, 49, 53, 49, 54, 49, 55, 49, 56, 49, 57, 50, 48, 50, 49, 50, 50, 50, 51, 50, 52, 50, 53, 50, 54, 50, 55, 50, 56, 50, 57, 51, 48, 51, 49, 51, 50, 51, 51, 51, 52, 51, 53, 51, 54, 51, 55, 51, 56, 51, 57, 52, 48, 52, 49, 52, 50, 52, 51, 52, 52, 52, 53, 52, 54, 52, 55, 52, 56, 52, 57, 53, 48, 53, 49, 53, 50, 53, 51, 53, 52, 53, 53, 53, 54, 53, 55, 53, 56, 53, 57, 54, 48, 54, 49, 54, 50, 54, 51, 54, 52, 54, 53, 54, 54, 54, 55, 54, 56, 54, 57, 55, 48, 55, 49, 55, 50, 55, 51, 55, 52, 55, 53, 55, 54, 55, 55, 55, 56, 55, 57, 56, 48, 56, 49, 56, 50, 56, 51, 56, 52, 56, 53, 56, 54, 56, 55, 56, 56, 56, 57, 57, 48, 57, 49, 57, 50, 57, 51, 57, 52, 57, 53, 57, 54, 57, 55, 57, 56, 57, 57])) (.t 64)⟩,
  ⟨some 66, none, 0, 0, .iadr 1 (.t 55) (.t 57)⟩,
  ⟨none, none, 0, 0, .store false 1 (.t 66) (.t 63)⟩,
  ⟨some 67, none, 1, 1, .iadr 1 (.t 58) (.t 60)⟩,
  ⟨none, none, 0, 0, .store false 1 (.t 67) (.t 65)⟩])
 (.seq (.drw [⟨some 68, none, 0, 0, .mv (.t 0)⟩,
  ⟨some 69, none, 0, 0, .mv (.t 4)⟩,
  ⟨some 70, none, 0, 0, .bin .sub (.t 69) (.k (.int .i64 5))⟩,
  ⟨some 71, none, 0, 1, .mv (.t 0)⟩,
  ⟨some 72, none, 0, 1, .mv (.t 4)⟩,
  ⟨some 73, none, 0, 1, .bin .sub (.t 72) (.k (.int .i64 6))⟩,
  ⟨some 74, none, 0, 0, .mv (.t 11)⟩,
  ⟨some 75, none, 0, 0, .bin .add (.t 74) (.k (.int .u32 1))⟩,
  ⟨some 76, none, 0, 0, .ids (.k (.str [48, 48, 48, 49, 48, 50, 48, 51, 48, 52, 48, 53, 48, 54, 48, 55, 48, 56, 48, 57, 49, 48, 49, 49, 49, 50, 49, 51, 49, 52, 49, 53, 49, 54, 49, 55, 49, 56, 49, 57, 50, 48, 50, 49, 50, 50, 50, 51, 50, 52, 50, 53, 50, 54, 50, 55, 50, 56, 50, 57, 51, 48, 51, 49, 51, 50, 51, 51, 51, 52, 51, 53, 51, 54, 51, 55, 51, 56, 51, 57, 52, 48, 52, 49, 52, 50, 52, 51, 52, 52, 52, 53, 52, 54, 52, 55, 52, 56, 52, 57, 53, 48, 53, 49, 53, 50, 53, 51, 53, 52, 53, 53, 53, 54, 53, 55, 53, 56, 53, 57, 54, 48, 54, 49, 54, 50, 54, 51, 54, 52, 54, 53, 54, 54, 54, 55, 54, 56, 54, 57, 55, 48, 55, 49, 55, 50, 55, 51, 55, 52, 55, 53, 55, 54, 55, 55, 55, 56, 55, 57, 56, 48, 56, 49, 56, 50, 56, 51, 56, 52, 56, 53, 56, 54, 56, 55, 56, 56, 56, 57, 57, 48, 57, 49, 57, 50, 57, 51, 57, 52, 57, 53, 57, 54, 57, 55, 57, 56, 57, 57])) (.t 75)⟩,
  ⟨some 77, none, 0, 1, .mv (.t 11)⟩,
  ⟨some 78, none, 0, 1, .ids (.k (.str [48, 48, 48, 49, 48, 50, 48, 51, 48, 52, 48, 53, 48, 54, 48, 55, 48, 56, 48, 57, 49, 48, 49, 49, 49, 50, 49, 51, 49, 52, 49, 53, 49, 54, 49, 55, 49, 56, 49, 57, 50, 48, 50, 49, 50, 50, 50, 51, 50, 52, 50, 53, 50, 54, 50, 55, 50, 56, 50, 57, 51, 48, 51, 49, 51, 50, 51, 51, 51, 52, 51, 53, 51, 54, 51, 55, 51, 56, 51, 57, 52, 48, 52, 49, 52, 50, 52, 51, 52, 52, 52, 53, 52, 54, 52, 55, 52, 56, 52, 57, 53, 48, 53, 49, 53, 50, 53, 51, 53, 52, 53, 53, 53, 54, 53, 55, 53, 56, 53, 57, 54, 48, 54, 49, 54, 50, 54, 51, 54, 52, 54, 53, 54, 54, 54, 55, 54, 56, 54, 57, 55, 48, 55, 49, 55, 50, 55, 51, 55, 52, 55, 53, 55, 54, 55, 55, 55, 56, 55, 57, 56, 48, 56, 49, 56, 50, 56, 51, 56, 52, 56, 53, 56, 54, 56, 55, 56, 56, 56, 57, 57, 48, 57, 49, 57, 50, 57, 51, 57, 52, 57, 53, 57, 54, 57, 55, 57, 56, 57, 57])) (.t 77)⟩,
  ⟨some 79, none, 0, 0, .iadr 1 (.t 68) (.t 70)⟩,
  ⟨none, none, 0, 0, .store false 1 (.t 79) (.t 76)⟩,
  ⟨some 80, none, 1, 1, .iadr 1 (.t 71) (.t 73)⟩,
  ⟨none, none, 0, 0, .store false 1 (.t 80) (.t 78)⟩])
 (.seq (.drw [⟨some 81, none, 0, 0, .mv (.t 0)⟩,
  ⟨some 82, none, 0, 0, .mv (.t 4)⟩,
  ⟨some 83, none, 0, 0, .bin .sub (.t 82) (.k (.int .i64 7))⟩,
  ⟨some 84, none, 0, 1, .mv (.t 0)⟩,
  ⟨some 85, none, 0, 1, .mv (.t 4)⟩,
  ⟨some 86, none, 0, 1, .bin .sub (.t 85) (.k (.int .i64 8))⟩,
  ⟨some 87, none, 0, 0, .mv (.t 10)⟩,
  ⟨some 88, none, 0, 0, .bin .add (.t 87) (.k (.int .u32 1))⟩,
  ⟨some 89, none, 0, 0, .ids (.k (.str [48, 48, 48, 49, 48, 50, 48, 51, 48, 52, 48, 53, 48, 54, 48, 55, 48, 56, 48, 57, 49, 48, 49, 49, 49, 50, 49, 51, 49, 52, 49, 53, 49, 54, 49, 55, 49, 56, 49, 57, 50, 48, 50, 49, 50, 50, 50, 51, 50, 52, 50, 53, 50, 54, 50, 55, 50, 56, 50, 57, 51, 48, 51, 49, 51, 50, 51, 51, 51, 52, 51, 53, 51, 54, 51, 55, 51, 56, 51, 57, 52, 48, 52, 49, 52, 50, 52, 51, 52, 52, 52, 53, 52, 54, 52, 55, 52, 56, 52, 57, 53, 48, 53, 49, 53, 50, 53, 51, 53, 52, 53, 53, 53, 54, 53, 55, 53, 56, 53, 57, 54, 48, 54, 49, 54, 50, 54, 51, 54, 52, 54, 53, 54, 54, 54, 55, 54, 56, 54, 57, 55, 48, 55, 49, 55, 50, 55, 51, 55, 52, 55, 53, 55, 54, 55, 55, 55, 56, 55, 57, 56, 48, 56, 49, 56, 50, 56, 51, 56, 52, 56, 53, 56, 54, 56, 55, 56, 56, 56, 57, 57, 48, 57, 49, 57, 50, 57, 51, 57, 52, 57, 53, 57, 54, 57, 55, 57, 56, 57, 57])) (.t 88)⟩,
  ⟨some 90, none, 0, 1, .mv (.t 10)⟩,
  ⟨some 91, none, 0, 1, .ids (.k (.str [48, 48, 48, 49, 48, 50, 48, 51, 48, 52, 48, 53, 48, 54, 48, 55, 48, 56, 48, 57, 49, 48, 49, 49, 49, 50, 49, 51, 49, 52, 49, 53, 49, 54, 49, 55, 49, 56, 49, 57, 50, 48, 50, 49, 50, 50, 50, 51, 50, 52, 50, 53, 50, 54, 50, 55, 50, 56, 50, 57, 51, 48, 51, 49, 51, 50, 51, 51, 51, 52, 51, 53, 51, 54, 51, 55, 51, 56, 51, 57, 52, 48, 52, 49, 52, 50, 52, 51, 52, 52, 52, 53, 52, 54, 52, 55, 52, 56, 52, 57, 53, 48, 53, 49, 53, 50, 53, 51, 53, 52, 53, 53, 53, 54, 53, 55, 53, 56, 53, 57, 54, 48, 54, 49, 54, 50, 54, 51, 54, 52, 54, 53, 54, 54, 54, 55, 54, 56, 54, 57, 55, 48, 55, 49, 55, 50, 55, 51, 55, 52, 55, 53, 55, 54, 55, 55, 55, 56, 55, 57, 56, 48, 56, 49, 56, 50, 56, 51, 56, 52, 56, 53, 56, 54, 56, 55, 56, 56, 56, 57, 57, 48, 57, 49, 57, 50, 57, 51, 57, 52, 57, 53, 57, 54, 57, 55, 57, 56, 57, 57])) (.t 90)⟩,
  ⟨some 92, none, 0, 0, .iadr 1 (.t 81) (.t 83)⟩,
  ⟨none, none, 0, 0, .store false 1 (.t 92) (.t 89)⟩,
  ⟨some 93, none, 1, 1, .iadr 1 (.t 84) (.t 86)⟩,
  ⟨none, none, 0, 0, .store false 1 (.t 93) (.t 91)⟩])
 (.reg [⟨some 94, none, 0, 0, .mv (.t 4)⟩,
  ⟨some 95, none, 0, 0, .bin .sub (.t 94) (.k (.int .i64 8))⟩,
  ⟨some 4, none, 0, 0, .mv (.t 95)⟩])))))))))))))
def h148 : Fn := { np := 2, res := [], body :=
 (.seq (.reg [⟨some 17, none, 0, 0, .mv (.t 0)⟩,
  ⟨some 18, none, 0, 0, .len false (.t 17)⟩,
  ⟨some 4, none, 0, 0, .mv (.t 18)⟩])
 (.seq (.block 0 (.loop h148l0))
 (.seq (.reg [⟨some 96, none, 0, 0, .mv (.t 1)⟩,
  ⟨some 97, none, 0, 0, .cv .u32 (.t 96)⟩,
  ⟨some 12, none, 0, 0, .mv (.t 97)⟩])
 (.seq (.seq (.reg [⟨some 98, none, 0, 0, .mv (.t 4)⟩,
  ⟨some 99, none, 0, 0, .bin .geq (.t 98) (.k (.int .i64 4))⟩])
 (.cond (.t 99)
 (.seq (.reg [⟨some 100, none, 0, 0, .mv (.t 12)⟩,
  ⟨some 101, none, 0, 0, .bin .rem (.t 100) (.k (.int .u32 10000))⟩,
  ⟨some 13, none, 0, 0, .mv (.t 101)⟩])
 (.seq (.reg [⟨some 102, none, 0, 0, .mv (.t 12)⟩,
  ⟨some 103, none, 0, 0, .bin .quo (.t 102) (.k (.int .u32 10000))⟩,
  ⟨some 12, none, 0, 0, .mv (.t 103)⟩])
 (.seq (.reg [⟨some 104, none, 0, 0, .mv (.t 13)⟩,
  ⟨some 105, none, 0, 0, .bin .quo (.t 104) (.k (.int .u32 100))⟩,
  ⟨some 106, none, 0, 0, .bin .mul (.t 105) (.k (.int .u32 2))⟩,
  ⟨some 107, none, 0, 0, .mv (.t 13)⟩,
  ⟨some 108, none, 0, 0, .bin .rem (.t 107) (.k (.int .u32 100))⟩,
  ⟨some 109, none, 0, 0, .bin .mul (.t 108) (.k (.int .u32 2))⟩,
  ⟨some 14, none, 0, 0, .mv (.t 106)⟩,
  ⟨some 15, none, 0, 0, .mv (.t 109)⟩])
 (.seq (.drw [⟨some 110, none, 0, 0, .mv (.t 0)⟩,
  ⟨some 111, none, 0, 0, .mv (.t 4)⟩,
  ⟨some 112, none, 0, 0, .bin .sub (.t 111) (.k (.int .i64 1))⟩,
  ⟨some 113, none, 0, 1, .mv (.t 0)⟩,
  ⟨some 114, none, 0, 1, .mv (.t 4)⟩,
  ⟨some 115, none, 0, 1, .bin .sub (.t 114) (.k (.int .i64 2))⟩,
  ⟨some 116, none, 0, 0, .mv (.t 15)⟩,
  ⟨some 117, none, 0, 0, .bin .add (.t 116) (.k (.int .u32 1))⟩,
  ⟨some 118, none, 0, 0, .ids (.k (.str [48, 48, 48, 49, 48, 50, 48, 51, 48, 52, 48, 53, 48, 54, 48, 55, 48, 56, 48, 57, 49, 48, 49, 49, 49, 50, 49, 51, 49, 52, 49, 53, 49, 54, 49, 55, 49, 56, 49, 57, 50, 48, 50, 49, 50, 50, 50, 51, 50, 52, 50, 53, 50, 54, 50, 55, 50, 56, 50, 57, 51, 48, 51, 49, 51, 50, 51, 51, 51, 52, 51, 53, 51, 54, 51, 55, 51, 56, 51, 57, 52, 48, 52, 49, 52, 50, 52, 51, 52, 52, 52, 53, 52, 54, 52, 55, 52, 56, 52, 57, 53, 48, 53, 49, 53, 50, 53, 51, 53, 52, 53, 53, 53, 54, 53, 55, 53, 56, 53, 57, 54, 48, 54, 49, 54, 50, 54, 51, 54, 52, 54, 53, 54, 54, 54, 55, 54, 56, 54, 57, 55, 48, 55, 49, 55, 50, 55, 51, 55, 52, 55, 53, 55, 54, 55, 55, 55, 56, 55, 57, 56, 48, 56, 49, 56, 50, 56, 51, 56, 52, 56, 53, 56, 54, 56, 55, 56, 56, 56, 57, 57, 48, 57, 49, 57, 50, 57, 51, 57, 52, 57, 53, 57, 54, 57, 55, 57, 56, 57, 57])) (.t 117)⟩,
  ⟨some 119, none, 0, 1, .mv (.t 15)⟩,
  ⟨some 120, none, 0, 1, .ids (.k (.str [48, 48, 48, 49, 48, 50, 48, 51, 48, 52, 48, 53, 48, 54, 48, 55, 48, 56, 48, 57, 49, 48, 49, 49, 49, 50, 49, 51, 49, 52, 49, 53, 49, 54, 49, 55, 49, 56, 49, 57, 50, 48, 50, 49, 50, 50, 50, 51, 50, 52, 50, 53, 50, 54, 50, 55, 50, 56, 50, 57, 51, 48, 51, 49, 51, 50, 51, 51, 51, 52, 51, 53, 51, 54, 51, 55, 51, 56, 51, 57, 52, 48, 52, 49, 52, 50, 52, 51, 52, 52, 52, 53, 52, 54, 52, 55, 52, 56, 52, 57, 53, 48, 53, 49, 53, 50, 53, 51, 53, 52, 53, 53, 53, 54, 53, 55, 53, 56, 53, 57, 54, 48, 54, 49, 54, 50, 54, 51, 54, 52, 54, 53, 54, 54, 54, 55, 54, 56, 54, 57, 55, 48, 55, 49, 55, 50, 55, 51, 55, 52, 55, 53, 55, 54, 55, 55, 55, 56, 55, 57, 56, 48, 56, 49, 56, 50, 56, 51, 56, 52, 56, 53, 56, 54, 56, 55, 56, 56, 56, 57, 57, 48, 57, 49, 57, 50, 57, 51, 57, 52, 57, 53, 57, 54, 57, 55, 57, 56, 57, 57])) (.t 119)⟩,
  ⟨some 121, none, 0, 0, .iadr 1 (.t 110) (.t 112)⟩,
  ⟨none, none, 0, 0, .store false 1 (.t 121) (.t 118)⟩,
  ⟨some 122, none, 1, 1, .iadr 1 (.t 113) (.t 115)⟩,
  ⟨none, none, 0, 0, .store false 1 (.t 122) (.t 120)⟩])
 (.seq (.drw [⟨some 123, none, 0, 0, .mv (.t 0)⟩,
  ⟨some 124, none, 0, 0, .mv (.t 4)⟩,
  ⟨some 125, none, 0, 0, .bin .sub (.t 124) (.k (.int .i64 3))⟩,
  ⟨some 126, none, 0, 1, .mv (.t 0)⟩,
  ⟨some 127, none, 0, 1, .mv (.t 4)⟩,
  ⟨some 128, none, 0, 1, .bin .sub (.t 127) (.k (.int .i64 4))⟩,
  ⟨some 129, none, 0, 0, .mv (.t 14)⟩,
  ⟨some 130, none, 0, 0, .bin .add (.t 129) (.k (.int .u32 1))⟩,
  ⟨some 131, none, 0, 0, .ids (.k (.str [48, 48, 48, 49, 48, 50, 48, 51, 48, 52, 48, 53, 48, 54, 48, 55, 48, 56, 48, 57, 49, 48, 49, 49, 49, 50, 49, 51, 49, 52, 49, 53, 49, 54, 49, 55, 49, 56, 49, 57, 50, 48, 50, 49, 50, 50, 50, 51, 50, 52, 50, 53, 50, 54, 50, 55, 50, 56, 50, 57, 51, 48, 51, 49, 51, 50, 51, 51, 51, 52, 51, 53, 51, 54, 51, 55, 51, 56, 51, 57, 52, 48, 52, 49, 52, 50, 52, 51, 52, 52, 52, 53, 52, 54, 52, 55, 52, 56, 52, 57, 53, 48, 53, 49, 53, 50, 53, 51, 53, 52, 53, 53, 53, 54, 53, 55, 53, 56, 53, 57, 54, 48, 54, 49, 54, 50, 54, 51, 54, 52, 54, 53, 54, 54, 54, 55, 54, 56, 54, 57, 55, 48, 55, 49, 55, 50, 55, 51, 55, 52, 55, 53, 55, 54, 55, 55, 55, 56, 55, 57, 56, 48, 56, 49, 56, 50, 56, 51, 56, 52, 56, 53, 56, 54, 56, 55, 56, 56, 56, 57, 57, 48, 57, 49, 57, 50, 57, 51, 57, 52, 57, 53, 57, 54, 57, 55, 57, 56, 57, 57])) (.t 130)⟩,
  ⟨some 132, none, 0, 1, .mv (.t 14)⟩,
  ⟨some 133, none, 0, 1, .ids (.k (.str [48, 48, 48, 49, 48, 50, 48, 51, 48, 52, 48, 53, 48, 54, 48, 55, 48, 56, 48, 57, 49, 48, 49, 49, 49, 50, 49, 51, 49, 52, 49, 53, 49, 54, 49, 55, 49, 56, 49, 57, 50, 48, 50, 49, 50, 50, 50, 51, 50, 52, 50, 53, 50, 54, 50, 55, 50, 56, 50, 57, 51, 48, 51, 49, 51, 50, 51, 51, 51, 52, 51, 53, 51, 54, 51, 55, 51, 56, 51, 57, 52, 48, 52, 49, 52, 50, 52, 51, 52, 52, 52, 53, 52, 54, 52, 55, 52, 56, 52, 57, 53, 48, 53, 49, 53, 50, 53, 51, 53, 52, 53, 53, 53, 54, 53, 55, 53, 56, 53, 57, 54, 48, 54, 49, 54, 50, 54, 51, 54, 52, 54, 53, 54, 54, 54, 55, 54, 56, 54, 57, 55, 48, 55, 49, 55, 50, 55, 51, 55, 52, 55, 53, 55, 54, 55, 55, 55, 56, 55, 57, 56, 48, 56, 49, 56, 50, 56, 51, 56, 52, 56, 53, 56, 54, 56, 55, 56, 56, 56, 57, 57, 48, 57, 49, 57, 50, 57, 51, 57, 52, 57, 53, 57, 54, 57, 55, 57, 56, 57, 57])) (.t 132)⟩,
  ⟨some 134, none, 0, 0, .iadr 1 (.t 123) (.t 125)⟩,
  ⟨none, none, 0, 0, .store false 1 (.t 134) (.t 131)⟩,
  ⟨some 135, none, 1, 1, .iadr 1 (.t 126) (.t 128)⟩,
  ⟨none, none, 0, 0, .store false 1 (.t 135) (.t 133)⟩])
 (.reg [⟨some 136, none, 0, 0, .mv (.t 4)⟩,
  ⟨some 137, none, 0, 0, .bin .sub (.t 136) (.k (.int .i64 4))⟩,
  ⟨some 4, none, 0, 0, .mv (.t 137)⟩]))))))
 .skip))
 (.seq (.seq (.reg [⟨some 138, none, 0, 0, .mv (.t 4)⟩,
  ⟨some 139, none, 0, 0, .bin .geq (.t 138) (.k (.int .i64 2))⟩])
 (.cond (.t 139)
 (.seq (.reg [⟨some 140, none, 0, 0, .mv (.t 12)⟩,
  ⟨some 141, none, 0, 0, .bin .rem (.t 140) (.k (.int .u32 100))⟩,
  ⟨some 142, none, 0, 0, .bin .mul (.t 141) (.k (.int .u32 2))⟩,
  ⟨some 16, none, 0, 0, .mv (.t 142)⟩])
 (.seq (.reg [⟨some 143, none, 0, 0, .mv (.t 12)⟩,
  ⟨some 144, none, 0, 0, .bin .quo (.t 143) (.k (.int .u32 100))⟩,
  ⟨some 12, none, 0, 0, .mv (.t 144)⟩])
 (.seq (.drw [⟨some 145, none, 0, 0, .mv (.t 0)⟩,
  ⟨some 146, none, 0, 0, .mv (.t 4)⟩,
  ⟨some 147, none, 0, 0, .bin .sub (.t 146) (.k (.int .i64 1))⟩,
  ⟨some 148, none, 0, 1, .mv (.t 0)⟩,
  ⟨some 149, none, 0, 1, .mv (.t 4)⟩,
  ⟨some 150, none, 0, 1, .bin .sub (.t 149) (.k (.int .i64 2))⟩,
  ⟨some 151, none, 0, 0, .mv (.t 16)⟩,
  ⟨some 152, none, 0, 0, .bin .add (.t 151) (.k (.int .u32 1))⟩,
  ⟨some 153, none, 0, 0, .ids (.k (.str [48, 48, 48, 49, 48, 50, 48, 51, 48, 52, 48, 53, 48, 54, 48, 55, 48, 56, 48, 57, 49, 48, 49, 49, 49, 50, 49, 51, 49, 52, 49, 53, 49, 54, 49, 55, 49, 56, 49, 57, 50, 48, 50, 49, 50, 50, 50, 51, 50, 52, 50, 53, 50, 54, 50, 55, 50, 56, 50, 57, 51, 48, 51, 49, 51, 50, 51, 51, 51, 52, 51, 53, 51, 54, 51, 55, 51, 56, 51, 57, 52, 48, 52, 49, 52, 50, 52, 51, 52, 52, 52, 53, 52, 54, 52, 55, 52, 56, 52, 57, 53, 48, 53, 49, 53, 50, 53, 51, 53, 52, 53, 53, 53, 54, 53, 55, 53, 56, 53, 57, 54, 48, 54, 49, 54, 50, 54, 51, 54, 52, 54, 53, 54, 54, 54, 55, 54, 56, 54, 57, 55, 48, 55, 49, 55, 50, 55, 51, 55, 52, 55, 53, 55, 54, 55, 55, 55, 56, 55, 57, 56, 48, 56, 49, 56, 50, 56, 51, 56, 52, 56, 53, 56, 54, 56, 55, 56, 56, 56, 57, 57, 48, 57, 49, 57, 50, 57, 51, 57, 52, 57, 53, 57, 54, 57, 55, 57, 56, 57, 57])) (.t 152)⟩,
  ⟨some 154, none, 0, 1, .mv (.t 16)⟩,
  ⟨some 155, none, 0, 1, .ids (.k (.str [48, 48, 48, 49, 48, 50, 48, 51, 48, 52, 48, 53, 48, 54, 48, 55, 48, 56, 48, 57, 49, 48, 49, 49, 49, 50, 49, 51, 49, 52, 49, 53, 49, 54, 49, 55, 49, 56, 49, 57, 50, 48, 50, 49, 50, 50, 50, 51, 50, 52, 50, 53, 50, 54, 50, 55, 50, 56, 50, 57, 51, 48, 51, 49, 51, 50, 51, 51, 51, 52, 51, 53, 51, 54, 51, 55, 51, 56, 51, 57, 52, 48, 52, 49, 52, 50, 52, 51, 52, 52, 52, 53, 52, 54, 52, 55, 52, 56, 52, 57, 53, 48, 53, 49, 53, 50, 53, 51, 53, 52, 53, 53, 53, 54, 53, 55, 53, 56, 53, 57, 54, 48, 54, 49, 54, 50, 54, 51, 54, 52, 54, 53, 54, 54, 54, 55, 54, 56, 54, 57, 55, 48, 55, 49, 55, 50, 55, 51, 55, 52, 55, 53, 55, 54, 55, 55, 55, 56, 55, 57, 56, 48, 56, 49, 56, 50, 56, 51, 56, 52, 56, 53, 56, 54, 56, 55, 56, 56, 56, 57, 57, 48, 57, 49, 57, 50, 57, 51, 57, 52, 57, 53, 57, 54, 57, 55, 57, 56, 57, 57])) (.t 154)⟩,
  ⟨some 156, none, 0, 0, .iadr 1 (.t 145) (.t 147)⟩,
  ⟨none, none, 0, 0, .store false 1 (.t 156) (.t 153)⟩,
  ⟨some 157, none, 1, 1, .iadr 1 (.t 148) (.t 150)⟩,
  ⟨none, none, 0, 0, .store false 1 (.t 157) (.t 155)⟩])
 (.reg [⟨some 158, none, 0, 0, .mv (.t 4)⟩,
  ⟨some 159, none, 0, 0, .bin .sub (.t 158) (.k (.int .i64 2))⟩,
  ⟨some 4, none, 0, 0, .mv (.t 159)⟩]))))
 .skip))
 (.seq (.reg [⟨some 160, none, 0, 0, .mv (.t 4)⟩,
  ⟨some 161, none, 0, 0, .bin .gtr (.t 160) (.k (.int .i64 0))⟩])
 (.cond (.t 161)
 (.reg [⟨some 162, none, 0, 0, .mv (.t 0)⟩,
  ⟨some 163, none, 0, 0, .mv (.t 12)⟩,
  ⟨some 164, none, 0, 0, .bin .add (.k (.int .u32 48)) (.t 163)⟩,
  ⟨some 165, none, 0, 0, .cv .u8 (.t 164)⟩,
  ⟨some 166, none, 0, 0, .iadr 1 (.t 162) (.k (.int .i64 0))⟩,
  ⟨none, none, 0, 0, .store false 1 (.t 166) (.t 165)⟩])
 .skip))))))) }
theorem ok148 : okFun Tryd.prog gl 148 h148 = true := by kernel_rfl
/- 149: internal/strconv.formatBits -/
def h149l0 : C := (.keep [0, 1, 3, 4, 10, 11, 12, 13, 14, 15, 16] (.seq (.seq (.reg [⟨some 44, none, 0, 0, .mv (.t 1)⟩,
  ⟨some 45, none, 0, 0, .mv (.t 15)⟩,
  ⟨some 46, none, 0, 0, .bin .geq (.t 44) (.t 45)⟩])
 (.cond (.t 46)
 .skip
 (.exit 0)))
 (.block 1 (.seq (.reg [⟨some 47, none, 0, 0, .mv (.t 13)⟩,
  ⟨some 48, none, 0, 0, .bin .sub (.t 47) (.k (.int .i64 1))⟩,
  ⟨some 13, none, 0, 0, .mv (.t 48)⟩])
 (.seq (.reg [⟨some 49, none, 0, 0, .mv (.t 13)⟩,
  ⟨some 50, none, 0, 0, .mv (.t 1)⟩,
  ⟨some 51, none, 0, 0, .mv (.t 16)⟩,
  ⟨some 52, none, 0, 0, .bin .and (.t 50) (.t 51)⟩,
  ⟨some 53, none, 0, 0, .ids (.k (.str [48, 49, 50, 51, 52, 53, 54, 55, 56, 57, 97, 98, 99, 100, 101, 102, 103, 104, 105, 106, 107, 108, 109, 110, 111, 112, 113, 114, 115, 116, 117, 118, 119, 120, 121, 122])) (.t 52)⟩,
  ⟨some 54, none, 0, 0, .iada 65 1 (.t 12) (.t 49)⟩,
  ⟨none, none, 0, 0, .store false 1 (.t 54) (.t 53)⟩])
 (.reg [⟨some 55, none, 0, 0, .mv (.t 1)⟩,
  ⟨some 56, none, 0, 0, .mv (.t 14)⟩,
  ⟨some 57, none, 0, 0, .bin .shr (.t 55) (.t 56)⟩,
  ⟨some 1, none, 0, 0, .mv (.t 57)⟩]))))))
def h149l1 : C := (.keep [0, 1, 3, 4, 10, 11, 12, 13, 17] (.seq (.seq (.reg [⟨some 66, none, 0, 0, .mv (.t 1)⟩,
  ⟨some 67, none, 0, 0, .mv (.t 17)⟩,
  ⟨some 68, none, 0, 0, .bin .geq (.t 66) (.t 67)⟩])
 (.cond (.t 68)
 .skip
 (.exit 2)))
 (.block 3 (.seq (.reg [⟨some 69, none, 0, 0, .mv (.t 13)⟩,
  ⟨some 70, none, 0, 0, .bin .sub (.t 69) (.k (.int .i64 1))⟩,
  ⟨some 13, none, 0, 0, .mv (.t 70)⟩])
 (.seq (.reg [⟨some 71, none, 0, 0, .mv (.t 1)⟩,
  ⟨some 72, none, 0, 0, .mv (.t 17)⟩,
  ⟨some 73, none, 0, 0, .bin .quo (.t 71) (.t 72)⟩,
  ⟨some 18, none, 0, 0, .mv (.t 73)⟩])
 (.seq (.reg [⟨some 74, none, 0, 0, .mv (.t 13)⟩,
  ⟨some 75, none, 0, 0, .mv (.t 1)⟩,
  ⟨some 76, none, 0, 0, .mv (.t 18)⟩,
  ⟨some 77, none, 0, 0, .mv (.t 17)⟩,
  ⟨some 78, none, 0, 0, .bin .mul (.t 76) (.t 77)⟩,
  ⟨some 79, none, 0, 0, .bin .sub (.t 75) (.t 78)⟩,
  ⟨some 80, none, 0, 0, .ids (.k (.str [48, 49, 50, 51, 52, 53, 54, 55, 56, 57, 97, 98, 99, 100, 101, 102, 103, 104, 105, 106, 107, 108, 109, 110, 111, 112, 113, 114, 115, 116, 117, 118, 119, 120, 121, 122])) (.t 79)⟩,
  ⟨some 81, none, 0, 0, .iada 65 1 (.t 12) (.t 74)⟩,
  ⟨none, none, 0, 0, .store false 1 (.t 81) (.t 80)⟩])
 (.reg [⟨some 82, none, 0, 0, .mv (.t 18)⟩,
  ⟨some 1, none, 0, 0, .mv (.t 82)⟩])))))))
def h149 : Fn := { np := 5, res := [.t 10, .t 11], body :=
 (.seq (.reg [⟨some 10, none, 0, 0, .mv (.k (.nils))⟩,
  ⟨some 11, none, 0, 0, .mv (.k (.str []))⟩])
 (.seq (.seq (.reg [⟨some 19, none, 0, 0, .mv (.t 2)⟩,
  ⟨some 20, none, 0, 0, .bin .lss (.t 19) (.k (.int .i64 2))⟩,
  ⟨some 21, none, 0, 0, .mv (.t 20)⟩,
  ⟨some 22, (some (21, false)), 0, 0, .mv (.t 2)⟩,
  ⟨some 23, (some (21, false)), 0, 0, .bin .eql (.t 22) (.k (.int .i64 10))⟩,
  ⟨some 24, none, 0, 0, .pick (.t 21) (.k (.bool true)) (.t 23)⟩,
  ⟨some 25, none, 0, 0, .mv (.t 24)⟩,
  ⟨some 26, (some (25, false)), 0, 0, .mv (.t 2)⟩,
  ⟨some 27, (some (25, false)), 0, 0, .bin .gtr (.t 26) (.k (.int .i64 36))⟩,
  ⟨some 28, none, 0, 0, .pick (.t 25) (.k (.bool true)) (.t 27)⟩])
 (.cond (.t 28)
 .bad
 .skip))
 (.seq (.reg [⟨some 12, none, 0, 0, .alloc [.int .u8 0, .int .u8 0, .int .u8 0, .int .u8 0, .int .u8 0, .int .u8 0, .int .u8 0, .int .u8 0, .int .u8 0, .int .u8 0, .int .u8 0, .int .u8 0, .int .u8 0, .int .u8 0, .int .u8 0, .int .u8 0, .int .u8 0, .int .u8 0, .int .u8 0, .int .u8 0, .int .u8 0, .int .u8 0, .int .u8 0, .int .u8 0, .int .u8 0, .int .u8 0, .int .u8 0, .int .u8 0, .int .u8 0, .int .u8 0, .int .u8 0, .int .u8 0, .int .u8 0, .int .u8 0, .int .u8 0, .int .u8 0, .int .u8 0, .int .u8 0, .int .u8 0, .int .u8 0, .int .u8 0, .int .u8 0, .int .u8 0, .int .u8 0, .int .u8 0, .int .u8 0, .int .u8 0, .int .u8 0, .int .u8 0, .int .u8 0, .int .u8 0, .int .u8 0, .int .u8 0, .int .u8 0, .int .u8 0, .int .u8 0, .int .u8 0, .int .u8 0, .int .u8 0, .int .u8 0, .int .u8 0, .int .u8 0, .int .u8 0, .int .u8 0, .int .u8 0]⟩])
 (.seq (.reg [⟨some 13, none, 0, 0, .mv (.k (.int .i64 65))⟩])
 (.seq (.seq (.reg [⟨some 30, none, 0, 0, .mv (.t 3)⟩])
 (.cond (.t 30)
 (.reg [⟨some 31, none, 0, 0, .mv (.t 1)⟩,
  ⟨some 32, none, 0, 0, .un .neg (.t 31)⟩,
  ⟨some 1, none, 0, 0, .mv (.t 32)⟩])
 .skip))
 (.seq (.seq (.reg [⟨some 33, none, 0, 0, .mv (.t 2)⟩,
  ⟨some 34, none, 0, 0, .call 153 [.t 33]⟩])
 (.cond (.t 34)
 (.seq (.reg [⟨some 35, none, 0, 0, .mv (.t 2)⟩,
  ⟨some 36, none, 0, 0, .cv .u64 (.t 35)⟩,
  ⟨some 37, none, 0, 0, .call 89 [.t 36]⟩,
  ⟨some 38, none, 0, 0, .cv .u64 (.t 37)⟩,
  ⟨some 14, none, 0, 0, .mv (.t 38)⟩])
 (.seq (.reg [⟨some 39, none, 0, 0, .mv (.t 2)⟩,
  ⟨some 40, none, 0, 0, .cv .u64 (.t 39)⟩,
  ⟨some 15, none, 0, 0, .mv (.t 40)⟩])
 (.seq (.reg [⟨some 41, none, 0, 0, .mv (.t 2)⟩,
  ⟨some 42, none, 0, 0, .cv .u64 (.t 41)⟩,
  ⟨some 43, none, 0, 0, .bin .sub (.t 42) (.k (.int .u64 1))⟩,
  ⟨some 16, none, 0, 0, .mv (.t 43)⟩])
 (.seq (.block 0 (.loop h149l0))
 (.seq (.reg [⟨some 58, none, 0, 0, .mv (.t 13)⟩,
  ⟨some 59, none, 0, 0, .bin .sub (.t 58) (.k (.int .i64 1))⟩,
  ⟨some 13, none, 0, 0, .mv (.t 59)⟩])
 (.reg [⟨some 60, none, 0, 0, .mv (.t 13)⟩,
  ⟨some 61, none, 0, 0, .mv (.t 1)⟩,
  ⟨some 62, none, 0, 0, .ids (.k (.str [48, 49, 50, 51, 52, 53, 54, 55, 56, 57, 97, 98, 99, 100, 101, 102, 103, 104, 105, 106, 107, 108, 109, 110, 111, 112, 113, 114, 115, 116, 117, 118, 119, 120, 121, 122])) (.t 61)⟩,
  ⟨some 63, none, 0, 0, .iada 65 1 (.t 12) (.t 60)⟩,
  ⟨none, none, 0, 0, .store false 1 (.t 63) (.t 62)⟩]))))))
 (.seq (.reg [⟨some 64, none, 0, 0, .mv (.t 2)⟩,
  ⟨some 65, none, 0, 0, .cv .u64 (.t 64)⟩,
  ⟨some 17, none, 0, 0, .mv (.t 65)⟩])
 (.seq (.block 2 (.loop h149l1))
 (.seq (.reg [⟨some 83, none, 0, 0, .mv (.t 13)⟩,
  ⟨some 84, none, 0, 0, .bin .sub (.t 83) (.k (.int .i64 1))⟩,
  ⟨some 13, none, 0, 0, .mv (.t 84)⟩])
 (.reg [⟨some 85, none, 0, 0, .mv (.t 13)⟩,
  ⟨some 86, none, 0, 0, .mv (.t 1)⟩,
  ⟨some 87, none, 0, 0, .ids (.k (.str [48, 49, 50, 51, 52, 53, 54, 55, 56, 57, 97, 98, 99, 100, 101, 102, 103, 104, 105, 106, 107, 108, 109, 110, 111, 112, 113, 114, 115, 116, 117, 118, 119, 120, 121, 122])) (.t 86)⟩,
  ⟨some 88, none, 0, 0, .iada 65 1 (.t 12) (.t 85)⟩,
  ⟨none, none, 0, 0, .store false 1 (.t 88) (.t 87)⟩]))))))
 (.seq (.seq (.reg [⟨some 89, none, 0, 0, .mv (.t 3)⟩])
 (.cond (.t 89)
 (.seq (.reg [⟨some 90, none, 0, 0, .mv (.t 13)⟩,
  ⟨some 91, none, 0, 0, .bin .sub (.t 90) (.k (.int .i64 1))⟩,
  ⟨some 13, none, 0, 0, .mv (.t 91)⟩])
 (.reg [⟨some 92, none, 0, 0, .mv (.t 13)⟩,
  ⟨some 93, none, 0, 0, .iada 65 1 (.t 12) (.t 92)⟩,
  ⟨none, none, 0, 0, .store false 1 (.t 93) (.k (.int .u8 45))⟩]))
 .skip))
 (.seq (.seq (.reg [⟨some 94, none, 0, 0, .mv (.t 4)⟩])
 (.cond (.t 94)
 (.seq (.reg [⟨some 95, none, 0, 0, .mv (.t 0)⟩,
  ⟨some 96, none, 0, 0, .mv (.t 13)⟩,
  ⟨some 97, none, 0, 0, .slp 65 1 (.t 12) (some (.t 96)) none none⟩,
  ⟨some 98, none, 0, 0, .app 1 1 [.int .u8 0] (.t 95) (.t 97)⟩,
  ⟨some 10, none, 0, 0, .mv (.t 98)⟩])
 .ret)
 .skip))
 (.seq (.reg [⟨some 99, none, 0, 0, .mv (.t 13)⟩,
  ⟨some 100, none, 0, 0, .slp 65 1 (.t 12) (some (.t 99)) none none⟩,
  ⟨some 101, none, 0, 0, .b2s (.t 100)⟩,
  ⟨some 11, none, 0, 0, .mv (.t 101)⟩])
 .ret))))))))) }
theorem ok149 : okFun Tryd.prog gl 149 h149 = true := by kernel_rfl
/- 150: internal/bytealg.hashStr(string) -/
def h150l0 : C := (.keep [0, 4, 5] (.seq (.seq (.reg [⟨some 9, none, 0, 0, .mv (.t 5)⟩,
  ⟨some 10, none, 0, 0, .mv (.t 0)⟩,
  ⟨some 11, none, 0, 0, .len true (.t 10)⟩,
  ⟨some 12, none, 0, 0, .bin .lss (.t 9) (.t 11)⟩])
 (.cond (.t 12)
 .skip
 (.exit 0)))
 (.seq (.block 1 (.reg [⟨some 15, none, 0, 0, .mv (.t 4)⟩,
  ⟨some 16, none, 0, 0, .bin .mul (.t 15) (.k (.int .u32 16777619))⟩,
  ⟨some 17, none, 0, 0, .mv (.t 0)⟩,
  ⟨some 18, none, 0, 0, .mv (.t 5)⟩,
  ⟨some 19, none, 0, 0, .ids (.t 17) (.t 18)⟩,
  ⟨some 20, none, 0, 0, .cv .u32 (.t 19)⟩,
  ⟨some 21, none, 0, 0, .bin .add (.t 16) (.t 20)⟩,
  ⟨some 4, none, 0, 0, .mv (.t 21)⟩]))
 (.reg [⟨some 13, none, 0, 0, .mv (.t 5)⟩,
  ⟨some 14, none, 0, 0, .bin .add (.t 13) (.k (.int .i64 1))⟩,
  ⟨some 5, none, 0, 0, .mv (.t 14)⟩]))))
def h150l1 : C := (.keep [4, 6, 7, 8] (.seq (.seq (.reg [⟨some 24, none, 0, 0, .mv (.t 8)⟩,
  ⟨some 25, none, 0, 0, .bin .gtr (.t 24) (.k (.int .i64 0))⟩])
 (.cond (.t 25)
 .skip
 (.exit 2)))
 (.seq (.block 3 (.seq (.seq (.reg [⟨some 28, none, 0, 0, .mv (.t 8)⟩,
  ⟨some 29, none, 0, 0, .bin .and (.t 28) (.k (.int .i64 1))⟩,
  ⟨some 30, none, 0, 0, .bin .neq (.t 29) (.k (.int .i64 0))⟩])
 (.cond (.t 30)
 (.reg [⟨some 31, none, 0, 0, .mv (.t 6)⟩,
  ⟨some 32, none, 0, 0, .mv (.t 7)⟩,
  ⟨some 33, none, 0, 0, .bin .mul (.t 31) (.t 32)⟩,
  ⟨some 6, none, 0, 0, .mv (.t 33)⟩])
 .skip))
 (.reg [⟨some 34, none, 0, 0, .mv (.t 7)⟩,
  ⟨some 35, none, 0, 0, .mv (.t 7)⟩,
  ⟨some 36, none, 0, 0, .bin .mul (.t 34) (.t 35)⟩,
  ⟨some 7, none, 0, 0, .mv (.t 36)⟩])))
 (.reg [⟨some 26, none, 0, 0, .mv (.t 8)⟩,
  ⟨some 27, none, 0, 0, .bin .shr (.t 26) (.k (.int .u64 1))⟩,
  ⟨some 8, none, 0, 0, .mv (.t 27)⟩]))))
def h150 : Fn := { np := 1, res := [.t 2, .t 3], body :=
 (.seq (.reg [⟨some 2, none, 0, 0, .mv (.k (.int .u32 0))⟩,
  ⟨some 3, none, 0, 0, .mv (.k (.int .u32 0))⟩])
 (.seq (.reg [⟨some 4, none, 0, 0, .mv (.k (.int .u32 0))⟩])
 (.seq (.seq (.reg [⟨some 5, none, 0, 0, .mv (.k (.int .i64 0))⟩])
 (.block 0 (.loop h150l0)))
 (.seq (.reg [⟨some 6, none, 0, 0, .mv (.k (.int .u32 1))⟩,
  ⟨some 7, none, 0, 0, .mv (.k (.int .u32 16777619))⟩])
 (.seq (.seq (.reg [⟨some 22, none, 0, 0, .mv (.t 0)⟩,
  ⟨some 23, none, 0, 0, .len true (.t 22)⟩,
  ⟨some 8, none, 0, 0, .mv (.t 23)⟩])
 (.block 2 (.loop h150l1)))
 (.seq (.reg [⟨some 37, none, 0, 0, .mv (.t 4)⟩,
  ⟨some 38, none, 0, 0, .mv (.t 6)⟩,
  ⟨some 2, none, 0, 0, .mv (.t 37)⟩,
  ⟨some 3, none, 0, 0, .mv (.t 38)⟩])
 .ret)))))) }
theorem ok150 : okFun Tryd.prog gl 150 h150 = true := by kernel_rfl
/- 151: internal/strconv.log10Pow2 -/
def h151 : Fn := { np := 1, res := [.t 2], body :=
 (.seq (.reg [⟨some 2, none, 0, 0, .mv (.k (.int .i64 0))⟩])
 (.seq (.reg [⟨some 3, none, 0, 0, .mv (.t 0)⟩,
  ⟨some 4, none, 0, 0, .bin .mul (.t 3) (.k (.int .i64 78913))⟩,
  ⟨some 5, none, 0, 0, .bin .shr (.t 4) (.k (.int .u64 18))⟩,
  ⟨some 2, none, 0, 0, .mv (.t 5)⟩])
 .ret)) }
theorem ok151 : okFun Tryd.prog gl 151 h151 = true := by kernel_rfl
/- 152: internal/strconv.bool2(int) -/
def h152 : Fn := { np := 1, res := [.t 2], body :=
 (.seq (.reg [⟨some 2, none, 0, 0, .mv (.k (.int .i64 0))⟩])
 (.seq (.seq (.reg [⟨some 3, none, 0, 0, .mv (.t 0)⟩])
 (.cond (.t 3)
 (.seq (.reg [⟨some 2, none, 0, 0, .mv (.k (.int .i64 1))⟩])
 .ret)
 .skip))
 (.seq (.reg [⟨some 2, none, 0, 0, .mv (.k (.int .i64 0))⟩])
 .ret))) }
theorem ok152 : okFun Tryd.prog gl 152 h152 = true := by kernel_rfl
/- 153: internal/strconv.isPowerOfTwo -/
def h153 : Fn := { np := 1, res := [.t 2], body :=
 (.seq (.reg [⟨some 2, none, 0, 0, .mv (.k (.bool false))⟩])
 (.seq (.reg [⟨some 3, none, 0, 0, .mv (.t 0)⟩,
  ⟨some 4, none, 0, 0, .mv (.t 0)⟩,
  ⟨some 5, none, 0, 0, .bin .sub (.t 4) (.k (.int .i64 1))⟩,
  ⟨some 6, none, 0, 0, .bin .and (.t 3) (.t 5)⟩,
  ⟨some 7, none, 0, 0, .bin .eql (.t 6) (.k (.int .i64 0))⟩,
  ⟨some 2, none, 0, 0, .mv (.t 7)⟩])
 .ret)) }
theorem ok153 : okFun Tryd.prog gl 153 h153 = true := by kernel_rfl
def tab : Tab := (.node (.node (.node (.node (.node (.node (.node .nil (some h63) .nil) none .nil) none .nil) none (.node (.node (.node (.node .nil (some h135) .nil) none .nil) none .nil) none (.node (.node (.node .nil (some h151) .nil) none .nil) none (.node .nil (some h119) .nil)))) none (.node (.node (.node (.node (.node .nil (some h131) .nil) (some h67) .nil) none .nil) none (.node (.node (.node .nil (some h147) .nil) none .nil) none .nil)) (some h11) (.node (.node (.node (.node .nil (some h139) .nil) none .nil) none (.node .nil (some h107) .nil)) none (.node .nil (some h59) .nil)))) none (.node (.node (.node (.node (.node (.node .nil (some h129) .nil) (some h65) .nil) none .nil) none (.node (.node (.node .nil (some h145) .nil) none .nil) none .nil)) none (.node (.node .nil none (.node .nil (some h105) .nil)) none (.node (.node (.node .nil (some h153) .nil) (some h89) .nil) (some h57) (.node .nil (some h121) .nil)))) none (.node (.node (.node (.node (.node .nil (some h133) .nil) (some h69) .nil) none .nil) none (.node (.node (.node .nil (some h149) .nil) none .nil) none .nil)) none (.node (.node .nil none (.node .nil (some h109) .nil)) none (.node .nil (some h61) .nil))))) none (.node (.node (.node (.node (.node (.node (.node .nil (some h128) .nil) (some h64) .nil) none .nil) none (.node (.node (.node .nil (some h144) .nil) none .nil) none .nil)) none (.node (.node .nil none (.node .nil (some h104) .nil)) none (.node (.node (.node .nil (some h152) .nil) none .nil) (some h56) (.node .nil (some h120) .nil)))) none (.node (.node (.node (.node (.node .nil (some h132) .nil) (some h68) .nil) none .nil) none (.node (.node (.node .nil (some h148) .nil) none .nil) none .nil)) none (.node (.node (.node (.node .nil (some h140) .nil) none .nil) none (.node .nil (some h108) .nil)) none (.node .nil (some h60) .nil)))) none (.node (.node (.node (.node (.node (.node .nil (some h130) .nil) (some h66) .nil) none .nil) none (.node (.node (.node .nil (some h146) .nil) none .nil) none .nil)) none (.node (.node .nil none (.node .nil (some h106) .nil)) none (.node .nil (some h58) .nil))) none (.node (.node (.node (.node (.node .nil (some h134) .nil) none .nil) none .nil) none (.node (.node (.node .nil (some h150) .nil) none .nil) none .nil)) none (.node (.node (.node (.node .nil (some h142) .nil) none .nil) none .nil) none (.node .nil (some h62) .nil))))))
def tabL : List (Nat × Fn) := [(11, h11), (56, h56), (57, h57), (58, h58), (59, h59), (60, h60), (61, h61), (62, h62), (63, h63), (64, h64), (65, h65), (66, h66), (67, h67), (68, h68), (69, h69), (89, h89), (104, h104), (105, h105), (106, h106), (107, h107), (108, h108), (109, h109), (119, h119), (120, h120), (121, h121), (128, h128), (129, h129), (130, h130), (131, h131), (132, h132), (133, h133), (134, h134), (135, h135), (139, h139), (140, h140), (142, h142), (144, h144), (145, h145), (146, h146), (147, h147), (148, h148), (149, h149), (150, h150), (151, h151), (152, h152), (153, h153)]
theorem tab_eq : tab = mkT tabL := by kernel_rfl
theorem tab_ok : TabOk Tryd.prog gl tab := by
  rw [tab_eq]
  exact mkT_ok (.cons ok11 trivial (.cons ok56 trivial (.cons ok57 trivial (.cons ok58 trivial (.cons ok59 trivial (.cons ok60 trivial (.cons ok61 trivial (.cons ok62 trivial (.cons ok63 trivial (.cons ok64 trivial (.cons ok65 trivial (.cons ok66 trivial (.cons ok67 trivial (.cons ok68 trivial (.cons ok69 trivial (.cons ok89 trivial (.cons ok104 trivial (.cons ok105 trivial (.cons ok106 trivial (.cons ok107 trivial (.cons ok108 trivial (.cons ok109 trivial (.cons ok119 trivial (.cons ok120 trivial (.cons ok121 trivial (.cons ok128 trivial (.cons ok129 trivial (.cons ok130 trivial (.cons ok131 trivial (.cons ok132 trivial (.cons ok133 trivial (.cons ok134 trivial (.cons ok135 trivial (.cons ok139 trivial (.cons ok140 trivial (.cons ok142 trivial (.cons ok144 trivial (.cons ok145 trivial (.cons ok146 trivial (.cons ok147 trivial (.cons ok148 trivial (.cons ok149 trivial (.cons ok150 trivial (.cons ok151 trivial (.cons ok152 trivial (.cons ok153 trivial .nil))))))))))))))))))))))))))))))))))))))))))))))
end Go.YtnpoikgkhhpdgaaDoorH
