/-
  The codes of the functions for the heap machine, printed by a program; each is checked against the loaded function.
-/
import Derived.Test.YtccnbjlbbiachaaHmT
import Derived.Test.YtccnbjlbbiachaaProg
namespace Go.YtccnbjlbbiachaaH
open Go.Proofs
def gl : List Nat := []
/- 2: gosem.cut.init -/
def h2 : Fn := { np := 0, res := [], body :=
 (.reg [⟨some 0, none, 0, 0, .call 1 []⟩]) }
theorem ok2 : okFun Try.prog gl 2 h2 = true := by kernel_rfl
/- 3: headgate/headgatelaw38.RoundsKnown -/
def h3 : Fn := { np := 0, res := [.t 0], body :=
 (.seq (.reg [⟨some 0, none, 0, 0, .mv (.k (.bool false))⟩])
 (.seq (.reg [⟨some 20, none, 0, 0, .bsl 1 [.int .i64 0] 1 [(0, .k (.int .i64 1))]⟩,
  ⟨some 21, none, 0, 0, .build [.nils, .nils] [(0, 1, .t 20)]⟩,
  ⟨some 1, none, 0, 0, .alloc [.nils, .nils]⟩,
  ⟨none, none, 0, 0, .store true 2 (.t 1) (.t 21)⟩])
 (.seq (.reg [⟨some 22, none, 0, 0, .call 9 [.k (.int .i64 2), .k (.int .i64 2)]⟩,
  ⟨some 23, none, 0, 0, .call 9 [.k (.int .i64 1), .k (.int .i64 0)]⟩,
  ⟨some 24, none, 0, 0, .call 9 [.k (.int .i64 3), .k (.int .i64 1)]⟩,
  ⟨some 25, none, 0, 0, .bsl 2 [.int .i64 0, .int .i64 0] 3 [(0, .t 22), (1, .t 23), (2, .t 24)]⟩,
  ⟨some 2, none, 0, 0, .mv (.t 25)⟩])
 (.seq (.reg [⟨some 27, none, 0, 0, .load true 2 (.t 1)⟩,
  ⟨some 28, none, 0, 0, .mv (.t 2)⟩,
  ⟨some 29, none, 0, 0, .call 10 [.t 27, .t 28]⟩,
  ⟨some 26, none, 0, 0, .mv (.t 29)⟩,
  ⟨some 30, none, 0, 0, .ext (.t 26) 0⟩,
  ⟨some 31, none, 0, 0, .ext (.t 26) 1⟩,
  ⟨some 32, none, 0, 0, .ext (.t 26) 2⟩,
  ⟨some 3, none, 0, 0, .mv (.t 30)⟩,
  ⟨some 4, none, 0, 0, .mv (.t 31)⟩,
  ⟨some 5, none, 0, 0, .mv (.t 32)⟩])
 (.seq (.reg [⟨some 33, none, 0, 0, .call 9 [.k (.int .i64 2), .k (.int .i64 1)]⟩,
  ⟨some 34, none, 0, 0, .call 9 [.k (.int .i64 4), .k (.int .i64 5)]⟩,
  ⟨some 35, none, 0, 0, .bsl 2 [.int .i64 0, .int .i64 0] 2 [(0, .t 33), (1, .t 34)]⟩,
  ⟨some 36, none, 0, 0, .bsl 1 [.int .i64 0] 2 [(0, .k (.int .i64 0)), (1, .k (.int .i64 0))]⟩,
  ⟨some 37, none, 0, 0, .call 11 [.t 36]⟩,
  ⟨some 38, none, 0, 0, .app 2 16 [.int .i64 0, .int .i64 0] (.t 35) (.t 37)⟩,
  ⟨some 6, none, 0, 0, .mv (.t 38)⟩])
 (.seq (.reg [⟨some 40, none, 0, 0, .build [.nils, .nils] []⟩,
  ⟨some 41, none, 0, 0, .mv (.t 6)⟩,
  ⟨some 42, none, 0, 0, .call 10 [.t 40, .t 41]⟩,
  ⟨some 39, none, 0, 0, .mv (.t 42)⟩,
  ⟨some 43, none, 0, 0, .ext (.t 39) 0⟩,
  ⟨some 44, none, 0, 0, .ext (.t 39) 1⟩,
  ⟨some 45, none, 0, 0, .ext (.t 39) 2⟩,
  ⟨some 7, none, 0, 0, .mv (.t 43)⟩,
  ⟨some 8, none, 0, 0, .mv (.t 44)⟩,
  ⟨some 9, none, 0, 0, .mv (.t 45)⟩])
 (.seq (.reg [⟨some 47, none, 0, 0, .build [.nils, .nils] []⟩,
  ⟨some 48, none, 0, 0, .call 9 [.k (.int .i64 3), .k (.int .i64 1)]⟩,
  ⟨some 49, none, 0, 0, .bsl 2 [.int .i64 0, .int .i64 0] 1 [(0, .t 48)]⟩,
  ⟨some 50, none, 0, 0, .call 12 [.t 47, .t 49]⟩,
  ⟨some 46, none, 0, 0, .mv (.t 50)⟩,
  ⟨some 51, none, 0, 0, .ext (.t 46) 0⟩,
  ⟨some 52, none, 0, 0, .ext (.t 46) 1⟩,
  ⟨some 10, none, 0, 0, .mv (.t 51)⟩,
  ⟨some 11, none, 0, 0, .mv (.t 52)⟩])
 (.seq (.reg [⟨some 54, none, 0, 0, .build [.nils, .nils] []⟩,
  ⟨some 55, none, 0, 0, .bsl 1 [.int .i64 0] 1 [(0, .k (.int .i64 9))]⟩,
  ⟨some 56, none, 0, 0, .call 11 [.t 55]⟩,
  ⟨some 57, none, 0, 0, .call 12 [.t 54, .t 56]⟩,
  ⟨some 53, none, 0, 0, .mv (.t 57)⟩,
  ⟨some 58, none, 0, 0, .ext (.t 53) 0⟩,
  ⟨some 59, none, 0, 0, .ext (.t 53) 1⟩,
  ⟨some 12, none, 0, 0, .mv (.t 58)⟩,
  ⟨some 13, none, 0, 0, .mv (.t 59)⟩])
 (.seq (.reg [⟨some 61, none, 0, 0, .bsl 1 [.int .i64 0] 1 [(0, .k (.int .i64 5))]⟩,
  ⟨some 62, none, 0, 0, .build [.nils, .nils] [(1, 1, .t 61)]⟩,
  ⟨some 63, none, 0, 0, .call 9 [.k (.int .i64 4), .k (.int .i64 5)]⟩,
  ⟨some 64, none, 0, 0, .bsl 2 [.int .i64 0, .int .i64 0] 1 [(0, .t 63)]⟩,
  ⟨some 65, none, 0, 0, .call 12 [.t 62, .t 64]⟩,
  ⟨some 60, none, 0, 0, .mv (.t 65)⟩,
  ⟨some 66, none, 0, 0, .ext (.t 60) 0⟩,
  ⟨some 67, none, 0, 0, .ext (.t 60) 1⟩,
  ⟨some 14, none, 0, 0, .mv (.t 66)⟩,
  ⟨some 15, none, 0, 0, .mv (.t 67)⟩])
 (.seq (.reg [⟨some 69, none, 0, 0, .bsl 1 [.int .i64 0] 2 [(0, .k (.int .i64 1)), (1, .k (.int .i64 3))]⟩,
  ⟨some 70, none, 0, 0, .bsl 1 [.int .i64 0] 1 [(0, .k (.int .i64 5))]⟩,
  ⟨some 71, none, 0, 0, .build [.nils, .nils] [(0, 1, .t 69), (1, 1, .t 70)]⟩,
  ⟨some 72, none, 0, 0, .call 13 [.t 71]⟩,
  ⟨some 68, none, 0, 0, .mv (.t 72)⟩,
  ⟨some 73, none, 0, 0, .ext (.t 68) 0⟩,
  ⟨some 74, none, 0, 0, .ext (.t 68) 1⟩,
  ⟨some 16, none, 0, 0, .mv (.t 73)⟩,
  ⟨some 17, none, 0, 0, .mv (.t 74)⟩])
 (.seq (.drw [⟨some 75, none, 0, 1, .load true 2 (.t 1)⟩,
  ⟨some 76, none, 0, 0, .bsl 1 [.int .i64 0] 5 [(0, .k (.int .i64 0)), (1, .k (.int .i64 1)), (2, .k (.int .i64 0)), (3, .k (.int .i64 1)), (4, .k (.int .i64 1))]⟩,
  ⟨some 77, none, 0, 0, .call 11 [.t 76]⟩,
  ⟨some 78, none, 0, 1, .bsl 1 [.int .i64 0] 2 [(0, .k (.int .i64 2)), (1, .k (.int .i64 4))]⟩,
  ⟨some 79, none, 0, 0, .call 14 [.t 75, .t 77, .t 78]⟩,
  ⟨some 80, none, 2, 2, .mv (.t 79)⟩,
  ⟨some 81, (some (80, true)), 2, 2, .load true 2 (.t 1)⟩,
  ⟨some 82, (some (80, true)), 2, 2, .mv (.t 2)⟩,
  ⟨some 83, (some (80, true)), 2, 2, .bsl 1 [.int .i64 0] 1 [(0, .k (.int .i64 3))]⟩,
  ⟨some 84, (some (80, true)), 0, 0, .call 14 [.t 81, .t 82, .t 83]⟩,
  ⟨some 85, none, 3, 3, .pick (.t 80) (.t 84) (.k (.bool false))⟩,
  ⟨some 86, none, 3, 3, .mv (.t 85)⟩,
  ⟨some 87, (some (86, true)), 3, 3, .build [.nils, .nils] []⟩,
  ⟨some 88, (some (86, true)), 3, 3, .mv (.t 6)⟩,
  ⟨some 89, (some (86, true)), 3, 3, .bsl 1 [.int .i64 0] 1 [(0, .k (.int .i64 3))]⟩,
  ⟨some 90, (some (86, true)), 0, 0, .call 14 [.t 87, .t 88, .t 89]⟩,
  ⟨some 91, none, 4, 4, .pick (.t 86) (.t 90) (.k (.bool false))⟩,
  ⟨some 92, none, 4, 4, .mv (.t 91)⟩,
  ⟨some 93, (some (92, true)), 4, 4, .mv (.t 5)⟩,
  ⟨some 94, (some (92, true)), 4, 4, .bin .eql (.t 93) (.k (.int .i64 0))⟩,
  ⟨some 95, none, 4, 4, .pick (.t 92) (.t 94) (.k (.bool false))⟩,
  ⟨some 96, none, 4, 4, .mv (.t 95)⟩,
  ⟨some 97, (some (96, true)), 4, 4, .mv (.t 3)⟩,
  ⟨some 98, (some (96, true)), 4, 4, .bsl 1 [.int .i64 0] 2 [(0, .k (.int .i64 0)), (1, .k (.int .i64 2))]⟩,
  ⟨some 99, (some (96, true)), 0, 0, .call 15 [.t 97, .t 98]⟩,
  ⟨some 100, none, 5, 5, .pick (.t 96) (.t 99) (.k (.bool false))⟩,
  ⟨some 101, none, 5, 5, .mv (.t 100)⟩,
  ⟨some 102, (some (101, true)), 5, 5, .mv (.t 4)⟩,
  ⟨some 103, (some (101, true)), 5, 5, .len false (.t 102)⟩,
  ⟨some 104, (some (101, true)), 5, 5, .bin .eql (.t 103) (.k (.int .i64 0))⟩,
  ⟨some 105, none, 5, 5, .pick (.t 101) (.t 104) (.k (.bool false))⟩,
  ⟨some 106, none, 5, 5, .mv (.t 105)⟩,
  ⟨some 107, (some (106, true)), 5, 5, .mv (.t 9)⟩,
  ⟨some 108, (some (106, true)), 5, 5, .bin .eql (.t 107) (.k (.int .i64 0))⟩,
  ⟨some 109, none, 5, 5, .pick (.t 106) (.t 108) (.k (.bool false))⟩,
  ⟨some 110, none, 5, 5, .mv (.t 109)⟩,
  ⟨some 111, (some (110, true)), 5, 5, .mv (.t 7)⟩,
  ⟨some 112, (some (110, true)), 5, 5, .bsl 1 [.int .i64 0] 1 [(0, .k (.int .i64 1))]⟩,
  ⟨some 113, (some (110, true)), 0, 0, .call 15 [.t 111, .t 112]⟩,
  ⟨some 114, none, 6, 6, .pick (.t 110) (.t 113) (.k (.bool false))⟩,
  ⟨some 115, none, 6, 6, .mv (.t 114)⟩,
  ⟨some 116, (some (115, true)), 6, 6, .mv (.t 8)⟩,
  ⟨some 117, (some (115, true)), 6, 6, .bsl 1 [.int .i64 0] 1 [(0, .k (.int .i64 5))]⟩,
  ⟨some 118, (some (115, true)), 0, 0, .call 15 [.t 116, .t 117]⟩,
  ⟨some 119, none, 7, 7, .pick (.t 115) (.t 118) (.k (.bool false))⟩,
  ⟨some 18, none, 7, 7, .mv (.t 119)⟩])
 (.seq (.reg [⟨some 120, none, 0, 0, .mv (.t 10)⟩,
  ⟨some 121, none, 0, 0, .bin .eql (.t 120) (.k (.int .i64 9))⟩,
  ⟨some 122, none, 0, 0, .mv (.t 121)⟩,
  ⟨some 123, (some (122, true)), 0, 0, .mv (.t 11)⟩,
  ⟨some 124, (some (122, true)), 0, 0, .bin .eql (.t 123) (.k (.int .i64 0))⟩,
  ⟨some 125, none, 0, 0, .pick (.t 122) (.t 124) (.k (.bool false))⟩,
  ⟨some 126, none, 0, 0, .mv (.t 125)⟩,
  ⟨some 127, (some (126, true)), 0, 0, .mv (.t 12)⟩,
  ⟨some 128, (some (126, true)), 0, 0, .bin .eql (.t 127) (.k (.int .i64 2))⟩,
  ⟨some 129, none, 0, 0, .pick (.t 126) (.t 128) (.k (.bool false))⟩,
  ⟨some 130, none, 0, 0, .mv (.t 129)⟩,
  ⟨some 131, (some (130, true)), 0, 0, .mv (.t 13)⟩,
  ⟨some 132, (some (130, true)), 0, 0, .bin .eql (.t 131) (.k (.int .i64 0))⟩,
  ⟨some 133, none, 0, 0, .pick (.t 130) (.t 132) (.k (.bool false))⟩,
  ⟨some 134, none, 0, 0, .mv (.t 133)⟩,
  ⟨some 135, (some (134, true)), 0, 0, .mv (.t 14)⟩,
  ⟨some 136, (some (134, true)), 0, 0, .bin .eql (.t 135) (.k (.int .i64 9))⟩,
  ⟨some 137, none, 0, 0, .pick (.t 134) (.t 136) (.k (.bool false))⟩,
  ⟨some 138, none, 0, 0, .mv (.t 137)⟩,
  ⟨some 139, (some (138, true)), 0, 0, .mv (.t 15)⟩,
  ⟨some 140, (some (138, true)), 0, 0, .bin .eql (.t 139) (.k (.int .i64 0))⟩,
  ⟨some 141, none, 0, 0, .pick (.t 138) (.t 140) (.k (.bool false))⟩,
  ⟨some 142, none, 0, 0, .mv (.t 141)⟩,
  ⟨some 143, (some (142, true)), 0, 0, .bsl 1 [.int .i64 0] 2 [(0, .k (.int .i64 2)), (1, .k (.int .i64 1))]⟩,
  ⟨some 144, (some (142, true)), 0, 0, .build [.nils, .nils] [(0, 1, .t 143)]⟩,
  ⟨some 145, (some (142, true)), 0, 0, .call 16 [.t 144]⟩,
  ⟨some 146, (some (142, true)), 0, 0, .bin .eql (.t 145) (.k (.int .i64 8))⟩,
  ⟨some 147, none, 0, 0, .pick (.t 142) (.t 146) (.k (.bool false))⟩,
  ⟨some 19, none, 0, 0, .mv (.t 147)⟩])
 (.seq (.reg [⟨some 148, none, 0, 0, .call 17 []⟩,
  ⟨some 149, none, 0, 0, .mv (.t 148)⟩,
  ⟨some 150, (some (149, true)), 0, 0, .mv (.t 18)⟩,
  ⟨some 151, none, 0, 0, .pick (.t 149) (.t 150) (.k (.bool false))⟩,
  ⟨some 152, none, 0, 0, .mv (.t 151)⟩,
  ⟨some 153, (some (152, true)), 0, 0, .mv (.t 19)⟩,
  ⟨some 154, none, 0, 0, .pick (.t 152) (.t 153) (.k (.bool false))⟩,
  ⟨some 155, none, 0, 0, .mv (.t 154)⟩,
  ⟨some 156, (some (155, true)), 0, 0, .mv (.t 17)⟩,
  ⟨some 157, (some (155, true)), 0, 0, .bin .eql (.t 156) (.k (.int .i64 0))⟩,
  ⟨some 158, none, 0, 0, .pick (.t 155) (.t 157) (.k (.bool false))⟩,
  ⟨some 159, none, 0, 0, .mv (.t 158)⟩,
  ⟨some 160, (some (159, true)), 0, 0, .mv (.t 16)⟩,
  ⟨some 161, (some (159, true)), 0, 0, .len false (.t 160)⟩,
  ⟨some 162, (some (159, true)), 0, 0, .bin .eql (.t 161) (.k (.int .i64 4))⟩,
  ⟨some 163, none, 0, 0, .pick (.t 159) (.t 162) (.k (.bool false))⟩,
  ⟨some 164, none, 0, 0, .mv (.t 163)⟩,
  ⟨some 165, (some (164, true)), 0, 0, .mv (.t 16)⟩,
  ⟨some 166, (some (164, true)), 0, 0, .iadr 5 (.t 165) (.k (.int .i64 2))⟩,
  ⟨some 167, (some (164, true)), 0, 0, .load true 5 (.t 166)⟩,
  ⟨some 168, (some (164, true)), 0, 0, .build [.int .i64 0, .int .i64 0, .int .i64 0, .int .i64 0, .int .u64 0] [(0, 1, .k (.int .i64 9)), (1, 1, .k (.int .i64 3))]⟩,
  ⟨some 169, (some (164, true)), 0, 0, .eqa false [1, 1, 1, 1, 1] (.t 167) (.t 168)⟩,
  ⟨some 170, none, 0, 0, .pick (.t 164) (.t 169) (.k (.bool false))⟩,
  ⟨some 0, none, 0, 0, .mv (.t 170)⟩])
 .ret))))))))))))) }
theorem ok3 : okFun Try.prog gl 3 h3 = true := by kernel_rfl
/- 4: headgate/headgatelaw38.RoundsChecks -/
def h4l0 : C := (.keep [1, 2, 5, 6, 13, 14, 15] (.seq (.seq (.reg [⟨some 93, none, 0, 0, .mv (.t 15)⟩,
  ⟨some 94, none, 0, 0, .mv (.t 13)⟩,
  ⟨some 95, none, 0, 0, .len false (.t 94)⟩,
  ⟨some 96, none, 0, 0, .bin .lss (.t 93) (.t 95)⟩])
 (.cond (.t 96)
 .skip
 (.exit 0)))
 (.seq (.block 1 (.seq (.drw [⟨some 99, none, 0, 0, .mv (.t 13)⟩,
  ⟨some 100, none, 0, 0, .mv (.t 15)⟩,
  ⟨some 101, none, 0, 0, .iadr 5 (.t 99) (.t 100)⟩,
  ⟨some 102, none, 0, 0, .load true 5 (.t 101)⟩,
  ⟨some 103, none, 0, 0, .mv (.t 14)⟩,
  ⟨some 104, none, 0, 0, .mv (.t 15)⟩,
  ⟨some 105, none, 0, 0, .iadr 5 (.t 103) (.t 104)⟩,
  ⟨some 106, none, 0, 0, .load true 5 (.t 105)⟩,
  ⟨some 107, none, 0, 0, .eqa true [1, 1, 1, 1, 1] (.t 102) (.t 106)⟩])
 (.cond (.t 107)
 (.seq (.reg [⟨some 4, none, 0, 0, .mv (.k (.bool false))⟩])
 .ret)
 .skip)))
 (.reg [⟨some 97, none, 0, 0, .mv (.t 15)⟩,
  ⟨some 98, none, 0, 0, .bin .add (.t 97) (.k (.int .i64 1))⟩,
  ⟨some 15, none, 0, 0, .mv (.t 98)⟩]))))
def h4 : Fn := { np := 2, res := [.t 4], body :=
 (.seq (.reg [⟨some 2, none, 0, 0, .box true 2 (.t 0)⟩,
  ⟨some 4, none, 0, 0, .mv (.k (.bool false))⟩])
 (.seq (.seq (.reg [⟨some 16, none, 0, 0, .load true 2 (.t 2)⟩,
  ⟨some 17, none, 0, 0, .mv (.t 1)⟩,
  ⟨some 18, none, 0, 0, .call 18 [.t 16, .t 17]⟩,
  ⟨some 19, none, 0, 0, .un .not (.t 18)⟩])
 (.cond (.t 19)
 (.seq (.reg [⟨some 20, none, 0, 0, .call 17 []⟩,
  ⟨some 4, none, 0, 0, .mv (.t 20)⟩])
 .ret)
 .skip))
 (.seq (.reg [⟨some 21, none, 0, 0, .load true 2 (.t 2)⟩,
  ⟨some 22, none, 0, 0, .call 19 [.t 21]⟩,
  ⟨some 23, none, 0, 0, .mv (.t 1)⟩,
  ⟨some 24, none, 0, 0, .call 20 [.t 23]⟩,
  ⟨some 5, none, 0, 0, .alloc [.nils, .nils]⟩,
  ⟨none, none, 0, 0, .store true 2 (.t 5) (.t 22)⟩,
  ⟨some 6, none, 0, 0, .mv (.t 24)⟩])
 (.seq (.reg [⟨some 26, none, 0, 0, .load true 2 (.t 5)⟩,
  ⟨some 27, none, 0, 0, .mv (.t 6)⟩,
  ⟨some 28, none, 0, 0, .call 12 [.t 26, .t 27]⟩,
  ⟨some 25, none, 0, 0, .mv (.t 28)⟩,
  ⟨some 29, none, 0, 0, .ext (.t 25) 0⟩,
  ⟨some 30, none, 0, 0, .ext (.t 25) 1⟩,
  ⟨some 7, none, 0, 0, .mv (.t 29)⟩,
  ⟨some 8, none, 0, 0, .mv (.t 30)⟩])
 (.seq (.reg [⟨some 32, none, 0, 0, .load true 2 (.t 2)⟩,
  ⟨some 33, none, 0, 0, .mv (.t 1)⟩,
  ⟨some 34, none, 0, 0, .call 21 [.t 32, .t 33]⟩,
  ⟨some 31, none, 0, 0, .mv (.t 34)⟩,
  ⟨some 35, none, 0, 0, .ext (.t 31) 0⟩,
  ⟨some 36, none, 0, 0, .ext (.t 31) 1⟩,
  ⟨some 9, none, 0, 0, .mv (.t 35)⟩,
  ⟨some 10, none, 0, 0, .mv (.t 36)⟩])
 (.seq (.seq (.drw [⟨some 37, none, 0, 0, .mv (.t 7)⟩,
  ⟨some 38, none, 0, 0, .mv (.t 9)⟩,
  ⟨some 39, none, 0, 0, .bin .neq (.t 37) (.t 38)⟩,
  ⟨some 40, none, 0, 0, .mv (.t 39)⟩,
  ⟨some 41, (some (40, false)), 0, 0, .mv (.t 8)⟩,
  ⟨some 42, (some (40, false)), 0, 0, .mv (.t 10)⟩,
  ⟨some 43, (some (40, false)), 0, 0, .bin .neq (.t 41) (.t 42)⟩,
  ⟨some 44, none, 0, 0, .pick (.t 40) (.k (.bool true)) (.t 43)⟩,
  ⟨some 45, none, 0, 0, .mv (.t 44)⟩,
  ⟨some 46, (some (45, false)), 0, 0, .load true 2 (.t 5)⟩,
  ⟨some 47, (some (45, false)), 0, 0, .call 16 [.t 46]⟩,
  ⟨some 48, (some (45, false)), 0, 1, .load true 2 (.t 2)⟩,
  ⟨some 49, (some (45, false)), 0, 0, .call 22 [.t 48]⟩,
  ⟨some 50, (some (45, false)), 2, 2, .bin .neq (.t 47) (.t 49)⟩,
  ⟨some 51, none, 2, 2, .pick (.t 45) (.k (.bool true)) (.t 50)⟩])
 (.cond (.t 51)
 (.seq (.reg [⟨some 4, none, 0, 0, .mv (.k (.bool false))⟩])
 .ret)
 .skip))
 (.seq (.reg [⟨some 53, none, 0, 0, .load true 2 (.t 5)⟩,
  ⟨some 54, none, 0, 0, .mv (.t 6)⟩,
  ⟨some 55, none, 0, 0, .call 23 [.t 53, .t 54]⟩,
  ⟨some 52, none, 0, 0, .mv (.t 55)⟩,
  ⟨some 56, none, 0, 0, .ext (.t 52) 0⟩,
  ⟨some 57, none, 0, 0, .ext (.t 52) 1⟩,
  ⟨some 11, none, 0, 0, .alloc [.nils, .nils]⟩,
  ⟨none, none, 0, 0, .store true 2 (.t 11) (.t 56)⟩,
  ⟨some 7, none, 0, 0, .mv (.t 57)⟩])
 (.seq (.reg [⟨some 59, none, 0, 0, .load true 2 (.t 2)⟩,
  ⟨some 60, none, 0, 0, .mv (.t 1)⟩,
  ⟨some 61, none, 0, 0, .call 24 [.t 59, .t 60]⟩,
  ⟨some 58, none, 0, 0, .mv (.t 61)⟩,
  ⟨some 62, none, 0, 0, .ext (.t 58) 0⟩,
  ⟨some 63, none, 0, 0, .ext (.t 58) 1⟩,
  ⟨some 12, none, 0, 0, .alloc [.nils, .nils]⟩,
  ⟨none, none, 0, 0, .store true 2 (.t 12) (.t 62)⟩,
  ⟨some 9, none, 0, 0, .mv (.t 63)⟩])
 (.seq (.seq (.reg [⟨some 64, none, 0, 0, .load true 2 (.t 11)⟩,
  ⟨some 65, none, 0, 0, .load true 2 (.t 12)⟩,
  ⟨some 66, none, 0, 0, .call 25 [.t 64, .t 65]⟩,
  ⟨some 67, none, 0, 0, .un .not (.t 66)⟩,
  ⟨some 68, none, 0, 0, .mv (.t 67)⟩,
  ⟨some 69, (some (68, false)), 0, 0, .mv (.t 7)⟩,
  ⟨some 70, (some (68, false)), 0, 0, .mv (.t 9)⟩,
  ⟨some 71, (some (68, false)), 0, 0, .bin .neq (.t 69) (.t 70)⟩,
  ⟨some 72, none, 0, 0, .pick (.t 68) (.k (.bool true)) (.t 71)⟩])
 (.cond (.t 72)
 (.seq (.reg [⟨some 4, none, 0, 0, .mv (.k (.bool false))⟩])
 .ret)
 .skip))
 (.seq (.reg [⟨some 74, none, 0, 0, .load true 2 (.t 5)⟩,
  ⟨some 75, none, 0, 0, .call 13 [.t 74]⟩,
  ⟨some 73, none, 0, 0, .mv (.t 75)⟩,
  ⟨some 76, none, 0, 0, .ext (.t 73) 0⟩,
  ⟨some 77, none, 0, 0, .ext (.t 73) 1⟩,
  ⟨some 13, none, 0, 0, .mv (.t 76)⟩,
  ⟨some 7, none, 0, 0, .mv (.t 77)⟩])
 (.seq (.reg [⟨some 79, none, 0, 0, .load true 2 (.t 2)⟩,
  ⟨some 80, none, 0, 0, .call 26 [.t 79]⟩,
  ⟨some 78, none, 0, 0, .mv (.t 80)⟩,
  ⟨some 81, none, 0, 0, .ext (.t 78) 0⟩,
  ⟨some 82, none, 0, 0, .ext (.t 78) 1⟩,
  ⟨some 14, none, 0, 0, .mv (.t 81)⟩,
  ⟨some 9, none, 0, 0, .mv (.t 82)⟩])
 (.seq (.seq (.reg [⟨some 83, none, 0, 0, .mv (.t 13)⟩,
  ⟨some 84, none, 0, 0, .len false (.t 83)⟩,
  ⟨some 85, none, 0, 0, .mv (.t 14)⟩,
  ⟨some 86, none, 0, 0, .len false (.t 85)⟩,
  ⟨some 87, none, 0, 0, .bin .neq (.t 84) (.t 86)⟩,
  ⟨some 88, none, 0, 0, .mv (.t 87)⟩,
  ⟨some 89, (some (88, false)), 0, 0, .mv (.t 7)⟩,
  ⟨some 90, (some (88, false)), 0, 0, .mv (.t 9)⟩,
  ⟨some 91, (some (88, false)), 0, 0, .bin .neq (.t 89) (.t 90)⟩,
  ⟨some 92, none, 0, 0, .pick (.t 88) (.k (.bool true)) (.t 91)⟩])
 (.cond (.t 92)
 (.seq (.reg [⟨some 4, none, 0, 0, .mv (.k (.bool false))⟩])
 .ret)
 .skip))
 (.seq (.seq (.reg [⟨some 15, none, 0, 0, .mv (.k (.int .i64 0))⟩])
 (.block 0 (.loop h4l0)))
 (.seq (.reg [⟨some 108, none, 0, 0, .load true 2 (.t 5)⟩,
  ⟨some 109, none, 0, 0, .load true 2 (.t 2)⟩,
  ⟨some 110, none, 0, 0, .call 25 [.t 108, .t 109]⟩,
  ⟨some 111, none, 0, 0, .mv (.t 110)⟩,
  ⟨some 112, (some (111, true)), 0, 0, .mv (.t 6)⟩,
  ⟨some 113, (some (111, true)), 0, 0, .mv (.t 1)⟩,
  ⟨some 114, (some (111, true)), 0, 0, .call 27 [.t 112, .t 113]⟩,
  ⟨some 115, none, 0, 0, .pick (.t 111) (.t 114) (.k (.bool false))⟩,
  ⟨some 116, none, 0, 0, .mv (.t 115)⟩,
  ⟨some 117, (some (116, true)), 0, 0, .call 17 []⟩,
  ⟨some 118, none, 0, 0, .pick (.t 116) (.t 117) (.k (.bool false))⟩,
  ⟨some 4, none, 0, 0, .mv (.t 118)⟩])
 .ret)))))))))))))) }
theorem ok4 : okFun Try.prog gl 4 h4 = true := by kernel_rfl
/- 5: headgate/headgatelaw38.RoundsPrefix -/
def h5l0 : C := (.keep [5, 6, 7, 8, 12, 13, 14, 15] (.seq (.seq (.reg [⟨some 93, none, 0, 0, .mv (.t 15)⟩,
  ⟨some 94, none, 0, 0, .mv (.t 8)⟩,
  ⟨some 95, none, 0, 0, .mv (.t 13)⟩,
  ⟨some 96, none, 0, 0, .iadr 1 (.t 94) (.t 95)⟩,
  ⟨some 97, none, 0, 0, .load false 1 (.t 96)⟩,
  ⟨some 98, none, 0, 0, .bin .lss (.t 93) (.t 97)⟩,
  ⟨some 99, none, 0, 0, .mv (.t 98)⟩,
  ⟨some 100, (some (99, true)), 0, 0, .mv (.t 15)⟩,
  ⟨some 101, (some (99, true)), 0, 0, .mv (.t 7)⟩,
  ⟨some 102, (some (99, true)), 0, 0, .len false (.t 101)⟩,
  ⟨some 103, (some (99, true)), 0, 0, .bin .lss (.t 100) (.t 102)⟩,
  ⟨some 104, none, 0, 0, .pick (.t 99) (.t 103) (.k (.bool false))⟩])
 (.cond (.t 104)
 .skip
 (.exit 2)))
 (.seq (.block 3 (.drw [⟨some 107, none, 0, 0, .mv (.t 14)⟩,
  ⟨some 108, none, 0, 0, .mv (.t 107)⟩,
  ⟨some 109, (some (108, false)), 0, 1, .mv (.t 7)⟩,
  ⟨some 110, (some (108, false)), 0, 1, .mv (.t 15)⟩,
  ⟨some 111, (some (108, false)), 0, 1, .iadr 2 (.t 109) (.t 110)⟩,
  ⟨some 112, (some (108, false)), 0, 1, .load true 2 (.t 111)⟩,
  ⟨some 113, (some (108, false)), 0, 0, .call 9 [.k (.int .i64 1), .k (.int .i64 0)]⟩,
  ⟨some 114, (some (108, false)), 1, 1, .eqa false [1, 1] (.t 112) (.t 113)⟩,
  ⟨some 115, none, 1, 1, .pick (.t 108) (.k (.bool true)) (.t 114)⟩,
  ⟨some 14, none, 1, 1, .mv (.t 115)⟩]))
 (.reg [⟨some 105, none, 0, 0, .mv (.t 15)⟩,
  ⟨some 106, none, 0, 0, .bin .add (.t 105) (.k (.int .i64 1))⟩,
  ⟨some 15, none, 0, 0, .mv (.t 106)⟩]))))
def h5l1 : C := (.keep [5, 6, 7, 8, 12, 13] (.seq (.seq (.reg [⟨some 86, none, 0, 0, .mv (.t 13)⟩,
  ⟨some 87, none, 0, 0, .mv (.t 8)⟩,
  ⟨some 88, none, 0, 0, .len false (.t 87)⟩,
  ⟨some 89, none, 0, 0, .bin .lss (.t 86) (.t 88)⟩])
 (.cond (.t 89)
 .skip
 (.exit 0)))
 (.seq (.block 1 (.seq (.reg [⟨some 14, none, 0, 0, .mv (.k (.bool false))⟩])
 (.seq (.seq (.reg [⟨some 92, none, 0, 0, .mv (.t 12)⟩,
  ⟨some 15, none, 0, 0, .mv (.t 92)⟩])
 (.block 2 (.loop h5l0)))
 (.seq (.seq (.reg [⟨some 116, none, 0, 0, .mv (.t 14)⟩,
  ⟨some 117, none, 0, 0, .un .not (.t 116)⟩,
  ⟨some 118, none, 0, 0, .mv (.t 117)⟩,
  ⟨some 119, (some (118, false)), 0, 0, .mv (.t 8)⟩,
  ⟨some 120, (some (118, false)), 0, 0, .mv (.t 13)⟩,
  ⟨some 121, (some (118, false)), 0, 0, .iadr 1 (.t 119) (.t 120)⟩,
  ⟨some 122, (some (118, false)), 0, 0, .load false 1 (.t 121)⟩,
  ⟨some 123, (some (118, false)), 0, 0, .mv (.t 12)⟩,
  ⟨some 124, (some (118, false)), 0, 0, .bin .leq (.t 122) (.t 123)⟩,
  ⟨some 125, none, 0, 0, .pick (.t 118) (.k (.bool true)) (.t 124)⟩,
  ⟨some 126, none, 0, 0, .mv (.t 125)⟩,
  ⟨some 127, (some (126, false)), 0, 0, .mv (.t 8)⟩,
  ⟨some 128, (some (126, false)), 0, 0, .mv (.t 13)⟩,
  ⟨some 129, (some (126, false)), 0, 0, .iadr 1 (.t 127) (.t 128)⟩,
  ⟨some 130, (some (126, false)), 0, 0, .load false 1 (.t 129)⟩,
  ⟨some 131, (some (126, false)), 0, 0, .mv (.t 7)⟩,
  ⟨some 132, (some (126, false)), 0, 0, .len false (.t 131)⟩,
  ⟨some 133, (some (126, false)), 0, 0, .bin .gtr (.t 130) (.t 132)⟩,
  ⟨some 134, none, 0, 0, .pick (.t 126) (.k (.bool true)) (.t 133)⟩])
 (.cond (.t 134)
 (.seq (.reg [⟨some 4, none, 0, 0, .mv (.k (.bool false))⟩])
 .ret)
 .skip))
 (.reg [⟨some 135, none, 0, 0, .mv (.t 8)⟩,
  ⟨some 136, none, 0, 0, .mv (.t 13)⟩,
  ⟨some 137, none, 0, 0, .iadr 1 (.t 135) (.t 136)⟩,
  ⟨some 138, none, 0, 0, .load false 1 (.t 137)⟩,
  ⟨some 12, none, 0, 0, .mv (.t 138)⟩])))))
 (.reg [⟨some 90, none, 0, 0, .mv (.t 13)⟩,
  ⟨some 91, none, 0, 0, .bin .add (.t 90) (.k (.int .i64 1))⟩,
  ⟨some 13, none, 0, 0, .mv (.t 91)⟩]))))
def h5l2 : C := (.keep [5, 16, 17, 19, 21] (.seq (.seq (.reg [⟨some 158, none, 0, 0, .mv (.t 21)⟩,
  ⟨some 159, none, 0, 0, .mv (.t 16)⟩,
  ⟨some 160, none, 0, 0, .len false (.t 159)⟩,
  ⟨some 161, none, 0, 0, .bin .lss (.t 158) (.t 160)⟩])
 (.cond (.t 161)
 .skip
 (.exit 4)))
 (.seq (.block 5 (.seq (.drw [⟨some 164, none, 0, 0, .mv (.t 16)⟩,
  ⟨some 165, none, 0, 0, .mv (.t 21)⟩,
  ⟨some 166, none, 0, 0, .iadr 1 (.t 164) (.t 165)⟩,
  ⟨some 167, none, 0, 0, .load false 1 (.t 166)⟩,
  ⟨some 168, none, 0, 0, .bin .neq (.t 167) (.k (.int .i64 0))⟩,
  ⟨some 169, none, 0, 0, .mv (.t 168)⟩,
  ⟨some 170, (some (169, true)), 0, 0, .fadr 0 (.t 19)⟩,
  ⟨some 171, (some (169, true)), 0, 0, .load false 1 (.t 170)⟩,
  ⟨some 172, (some (169, true)), 0, 0, .mv (.t 16)⟩,
  ⟨some 173, (some (169, true)), 0, 0, .mv (.t 21)⟩,
  ⟨some 174, (some (169, true)), 0, 0, .iadr 1 (.t 172) (.t 173)⟩,
  ⟨some 175, (some (169, true)), 0, 0, .load false 1 (.t 174)⟩,
  ⟨some 176, (some (169, true)), 0, 0, .call 31 [.t 171, .t 175]⟩,
  ⟨some 177, (some (169, true)), 1, 1, .un .not (.t 176)⟩,
  ⟨some 178, none, 1, 1, .pick (.t 169) (.t 177) (.k (.bool false))⟩])
 (.cond (.t 178)
 (.seq (.reg [⟨some 4, none, 0, 0, .mv (.k (.bool false))⟩])
 .ret)
 .skip)))
 (.reg [⟨some 162, none, 0, 0, .mv (.t 21)⟩,
  ⟨some 163, none, 0, 0, .bin .add (.t 162) (.k (.int .i64 1))⟩,
  ⟨some 21, none, 0, 0, .mv (.t 163)⟩]))))
def h5l3 : C := (.keep [5, 16, 17, 19, 22] (.seq (.seq (.reg [⟨some 179, none, 0, 0, .mv (.t 22)⟩,
  ⟨some 180, none, 0, 0, .mv (.t 17)⟩,
  ⟨some 181, none, 0, 0, .len false (.t 180)⟩,
  ⟨some 182, none, 0, 0, .bin .lss (.t 179) (.t 181)⟩])
 (.cond (.t 182)
 .skip
 (.exit 6)))
 (.seq (.block 7 (.seq (.drw [⟨some 185, none, 0, 0, .fadr 1 (.t 19)⟩,
  ⟨some 186, none, 0, 0, .load false 1 (.t 185)⟩,
  ⟨some 187, none, 0, 0, .mv (.t 17)⟩,
  ⟨some 188, none, 0, 0, .mv (.t 22)⟩,
  ⟨some 189, none, 0, 0, .iadr 1 (.t 187) (.t 188)⟩,
  ⟨some 190, none, 0, 0, .load false 1 (.t 189)⟩,
  ⟨some 191, none, 0, 0, .call 31 [.t 186, .t 190]⟩,
  ⟨some 192, none, 1, 1, .un .not (.t 191)⟩])
 (.cond (.t 192)
 (.seq (.reg [⟨some 4, none, 0, 0, .mv (.k (.bool false))⟩])
 .ret)
 .skip)))
 (.reg [⟨some 183, none, 0, 0, .mv (.t 22)⟩,
  ⟨some 184, none, 0, 0, .bin .add (.t 183) (.k (.int .i64 1))⟩,
  ⟨some 22, none, 0, 0, .mv (.t 184)⟩]))))
def h5 : Fn := { np := 2, res := [.t 4], body :=
 (.seq (.reg [⟨some 4, none, 0, 0, .mv (.k (.bool false))⟩])
 (.seq (.reg [⟨some 23, none, 0, 0, .call 3 []⟩,
  ⟨some 5, none, 0, 0, .mv (.t 23)⟩])
 (.seq (.reg [⟨some 25, none, 0, 0, .mv (.t 0)⟩,
  ⟨some 26, none, 0, 0, .call 28 [.t 25]⟩,
  ⟨some 24, none, 0, 0, .mv (.t 26)⟩,
  ⟨some 27, none, 0, 0, .ext (.t 24) 0⟩,
  ⟨some 28, none, 0, 0, .ext (.t 24) 1⟩,
  ⟨some 6, none, 0, 0, .alloc [.nils, .nils]⟩,
  ⟨none, none, 0, 0, .store true 2 (.t 6) (.t 27)⟩,
  ⟨some 7, none, 0, 0, .mv (.t 28)⟩])
 (.seq (.reg [⟨some 29, none, 0, 0, .mv (.t 1)⟩,
  ⟨some 30, none, 0, 0, .mv (.t 7)⟩,
  ⟨some 31, none, 0, 0, .len false (.t 30)⟩,
  ⟨some 32, none, 0, 0, .bin .add (.t 31) (.k (.int .i64 1))⟩,
  ⟨some 33, none, 0, 0, .call 29 [.t 29, .t 32]⟩,
  ⟨some 1, none, 0, 0, .mv (.t 33)⟩])
 (.seq (.reg [⟨some 35, none, 0, 0, .load true 2 (.t 6)⟩,
  ⟨some 36, none, 0, 0, .mv (.t 7)⟩,
  ⟨some 37, none, 0, 0, .call 30 [.t 35, .t 36]⟩,
  ⟨some 34, none, 0, 0, .mv (.t 37)⟩,
  ⟨some 38, none, 0, 0, .ext (.t 34) 0⟩,
  ⟨some 39, none, 0, 0, .ext (.t 34) 1⟩,
  ⟨some 8, none, 0, 0, .mv (.t 38)⟩,
  ⟨some 9, none, 0, 0, .mv (.t 39)⟩])
 (.seq (.drw [⟨some 41, none, 0, 0, .load true 2 (.t 6)⟩,
  ⟨some 42, none, 0, 0, .mv (.t 7)⟩,
  ⟨some 43, none, 0, 0, .mv (.t 1)⟩,
  ⟨some 44, none, 0, 0, .sl 2 (.t 42) none (some (.t 43)) none⟩,
  ⟨some 45, none, 0, 0, .call 30 [.t 41, .t 44]⟩,
  ⟨some 40, none, 1, 1, .mv (.t 45)⟩,
  ⟨some 46, none, 1, 1, .ext (.t 40) 0⟩,
  ⟨some 47, none, 1, 1, .ext (.t 40) 1⟩,
  ⟨some 10, none, 1, 1, .mv (.t 46)⟩,
  ⟨some 11, none, 1, 1, .mv (.t 47)⟩])
 (.seq (.seq (.reg [⟨some 48, none, 0, 0, .mv (.t 9)⟩,
  ⟨some 49, none, 0, 0, .bin .neq (.t 48) (.k (.int .i64 0))⟩,
  ⟨some 50, none, 0, 0, .mv (.t 49)⟩,
  ⟨some 51, (some (50, false)), 0, 0, .mv (.t 11)⟩,
  ⟨some 52, (some (50, false)), 0, 0, .bin .neq (.t 51) (.k (.int .i64 0))⟩,
  ⟨some 53, none, 0, 0, .pick (.t 50) (.k (.bool true)) (.t 52)⟩,
  ⟨some 54, none, 0, 0, .mv (.t 53)⟩,
  ⟨some 55, (some (54, false)), 0, 0, .mv (.t 10)⟩,
  ⟨some 56, (some (54, false)), 0, 0, .len false (.t 55)⟩,
  ⟨some 57, (some (54, false)), 0, 0, .mv (.t 8)⟩,
  ⟨some 58, (some (54, false)), 0, 0, .len false (.t 57)⟩,
  ⟨some 59, (some (54, false)), 0, 0, .bin .gtr (.t 56) (.t 58)⟩,
  ⟨some 60, none, 0, 0, .pick (.t 54) (.k (.bool true)) (.t 59)⟩,
  ⟨some 61, none, 0, 0, .mv (.t 60)⟩,
  ⟨some 62, (some (61, false)), 0, 0, .mv (.t 10)⟩,
  ⟨some 63, (some (61, false)), 0, 0, .mv (.t 8)⟩,
  ⟨some 64, (some (61, false)), 0, 0, .mv (.t 10)⟩,
  ⟨some 65, (some (61, false)), 0, 0, .len false (.t 64)⟩,
  ⟨some 66, (some (61, false)), 0, 0, .sl 1 (.t 63) none (some (.t 65)) none⟩,
  ⟨some 67, (some (61, false)), 0, 0, .call 15 [.t 62, .t 66]⟩,
  ⟨some 68, (some (61, false)), 0, 0, .un .not (.t 67)⟩,
  ⟨some 69, none, 0, 0, .pick (.t 61) (.k (.bool true)) (.t 68)⟩,
  ⟨some 70, none, 0, 0, .mv (.t 69)⟩,
  ⟨some 71, (some (70, false)), 0, 0, .mv (.t 8)⟩,
  ⟨some 72, (some (70, false)), 0, 0, .len false (.t 71)⟩,
  ⟨some 73, (some (70, false)), 0, 0, .mv (.t 10)⟩,
  ⟨some 74, (some (70, false)), 0, 0, .len false (.t 73)⟩,
  ⟨some 75, (some (70, false)), 0, 0, .bin .gtr (.t 72) (.t 74)⟩,
  ⟨some 76, (some (70, false)), 0, 0, .mv (.t 75)⟩,
  ⟨some 77, (some (76, true)), 0, 0, .mv (.t 8)⟩,
  ⟨some 78, (some (76, true)), 0, 0, .mv (.t 10)⟩,
  ⟨some 79, (some (76, true)), 0, 0, .len false (.t 78)⟩,
  ⟨some 80, (some (76, true)), 0, 0, .iadr 1 (.t 77) (.t 79)⟩,
  ⟨some 81, (some (76, true)), 0, 0, .load false 1 (.t 80)⟩,
  ⟨some 82, (some (76, true)), 0, 0, .mv (.t 1)⟩,
  ⟨some 83, (some (76, true)), 0, 0, .bin .leq (.t 81) (.t 82)⟩,
  ⟨some 84, (some (70, false)), 0, 0, .pick (.t 76) (.t 83) (.k (.bool false))⟩,
  ⟨some 85, none, 0, 0, .pick (.t 70) (.k (.bool true)) (.t 84)⟩])
 (.cond (.t 85)
 (.seq (.reg [⟨some 4, none, 0, 0, .mv (.k (.bool false))⟩])
 .ret)
 .skip))
 (.seq (.reg [⟨some 12, none, 0, 0, .mv (.k (.int .i64 0))⟩])
 (.seq (.seq (.reg [⟨some 13, none, 0, 0, .mv (.k (.int .i64 0))⟩])
 (.block 0 (.loop h5l1)))
 (.seq (.reg [⟨some 140, none, 0, 0, .load true 2 (.t 6)⟩,
  ⟨some 141, none, 0, 0, .mv (.t 7)⟩,
  ⟨some 142, none, 0, 0, .call 10 [.t 140, .t 141]⟩,
  ⟨some 139, none, 0, 0, .mv (.t 142)⟩,
  ⟨some 143, none, 0, 0, .ext (.t 139) 0⟩,
  ⟨some 144, none, 0, 0, .ext (.t 139) 1⟩,
  ⟨some 145, none, 0, 0, .ext (.t 139) 2⟩,
  ⟨some 16, none, 0, 0, .mv (.t 143)⟩,
  ⟨some 17, none, 0, 0, .mv (.t 144)⟩,
  ⟨some 18, none, 0, 0, .mv (.t 145)⟩])
 (.seq (.reg [⟨some 147, none, 0, 0, .load true 2 (.t 6)⟩,
  ⟨some 148, none, 0, 0, .mv (.t 7)⟩,
  ⟨some 149, none, 0, 0, .call 23 [.t 147, .t 148]⟩,
  ⟨some 146, none, 0, 0, .mv (.t 149)⟩,
  ⟨some 150, none, 0, 0, .ext (.t 146) 0⟩,
  ⟨some 151, none, 0, 0, .ext (.t 146) 1⟩,
  ⟨some 19, none, 0, 0, .alloc [.nils, .nils]⟩,
  ⟨none, none, 0, 0, .store true 2 (.t 19) (.t 150)⟩,
  ⟨some 20, none, 0, 0, .mv (.t 151)⟩])
 (.seq (.seq (.reg [⟨some 152, none, 0, 0, .mv (.t 18)⟩,
  ⟨some 153, none, 0, 0, .bin .neq (.t 152) (.k (.int .i64 0))⟩,
  ⟨some 154, none, 0, 0, .mv (.t 153)⟩,
  ⟨some 155, (some (154, false)), 0, 0, .mv (.t 20)⟩,
  ⟨some 156, (some (154, false)), 0, 0, .bin .neq (.t 155) (.k (.int .i64 0))⟩,
  ⟨some 157, none, 0, 0, .pick (.t 154) (.k (.bool true)) (.t 156)⟩])
 (.cond (.t 157)
 (.seq (.reg [⟨some 4, none, 0, 0, .mv (.k (.bool false))⟩])
 .ret)
 .skip))
 (.seq (.seq (.reg [⟨some 21, none, 0, 0, .mv (.k (.int .i64 0))⟩])
 (.block 4 (.loop h5l2)))
 (.seq (.seq (.reg [⟨some 22, none, 0, 0, .mv (.k (.int .i64 0))⟩])
 (.block 6 (.loop h5l3)))
 (.seq (.reg [⟨some 193, none, 0, 0, .mv (.t 5)⟩,
  ⟨some 194, none, 0, 0, .mv (.t 193)⟩,
  ⟨some 195, (some (194, true)), 0, 0, .mv (.t 16)⟩,
  ⟨some 196, (some (194, true)), 0, 0, .len false (.t 195)⟩,
  ⟨some 197, (some (194, true)), 0, 0, .mv (.t 17)⟩,
  ⟨some 198, (some (194, true)), 0, 0, .len false (.t 197)⟩,
  ⟨some 199, (some (194, true)), 0, 0, .bin .add (.t 196) (.t 198)⟩,
  ⟨some 200, (some (194, true)), 0, 0, .bin .gtr (.t 199) (.k (.int .i64 0))⟩,
  ⟨some 201, none, 0, 0, .pick (.t 194) (.t 200) (.k (.bool false))⟩,
  ⟨some 4, none, 0, 0, .mv (.t 201)⟩])
 .ret))))))))))))))) }
theorem ok5 : okFun Try.prog gl 5 h5 = true := by kernel_rfl
/- 6: headgate/headgatelaw38.RoundsFair -/
def h6l0 : C := (.keep [1, 5, 8, 12, 13] (.seq (.seq (.reg [⟨some 62, none, 0, 0, .mv (.t 13)⟩,
  ⟨some 63, none, 0, 0, .fadr 1 (.t 8)⟩,
  ⟨some 64, none, 0, 0, .load false 1 (.t 63)⟩,
  ⟨some 65, none, 0, 0, .len false (.t 64)⟩,
  ⟨some 66, none, 0, 0, .bin .lss (.t 62) (.t 65)⟩])
 (.cond (.t 66)
 .skip
 (.exit 0)))
 (.seq (.block 1 (.reg [⟨some 69, none, 0, 0, .mv (.t 12)⟩,
  ⟨some 70, none, 0, 0, .fadr 1 (.t 8)⟩,
  ⟨some 71, none, 0, 0, .load false 1 (.t 70)⟩,
  ⟨some 72, none, 0, 0, .mv (.t 13)⟩,
  ⟨some 73, none, 0, 0, .iadr 1 (.t 71) (.t 72)⟩,
  ⟨some 74, none, 0, 0, .load false 1 (.t 73)⟩,
  ⟨some 75, none, 0, 0, .call 9 [.k (.int .i64 5), .t 74]⟩,
  ⟨some 76, none, 0, 0, .bsl 2 [.int .i64 0, .int .i64 0] 1 [(0, .t 75)]⟩,
  ⟨some 77, none, 0, 0, .app 2 16 [.int .i64 0, .int .i64 0] (.t 69) (.t 76)⟩,
  ⟨some 12, none, 0, 0, .mv (.t 77)⟩]))
 (.reg [⟨some 67, none, 0, 0, .mv (.t 13)⟩,
  ⟨some 68, none, 0, 0, .bin .add (.t 67) (.k (.int .i64 1))⟩,
  ⟨some 13, none, 0, 0, .mv (.t 68)⟩]))))
def h6l1 : C := (.keep [1, 5, 8, 12, 14, 15] (.seq (.seq (.reg [⟨some 78, none, 0, 0, .mv (.t 12)⟩,
  ⟨some 79, none, 0, 0, .len false (.t 78)⟩,
  ⟨some 80, none, 0, 0, .bin .gtr (.t 79) (.k (.int .i64 0))⟩])
 (.cond (.t 80)
 .skip
 (.exit 2)))
 (.seq (.block 3 (.seq (.reg [⟨some 83, none, 0, 0, .mv (.t 1)⟩,
  ⟨some 84, none, 0, 0, .mv (.t 15)⟩,
  ⟨some 85, none, 0, 0, .call 32 [.t 83, .t 84]⟩,
  ⟨some 86, none, 0, 0, .mv (.t 12)⟩,
  ⟨some 87, none, 0, 0, .len false (.t 86)⟩,
  ⟨some 88, none, 0, 0, .call 29 [.t 85, .t 87]⟩,
  ⟨some 16, none, 0, 0, .mv (.t 88)⟩])
 (.seq (.reg [⟨some 89, none, 0, 0, .mv (.t 14)⟩,
  ⟨some 90, none, 0, 0, .mv (.t 12)⟩,
  ⟨some 91, none, 0, 0, .mv (.t 16)⟩,
  ⟨some 92, none, 0, 0, .iadr 2 (.t 90) (.t 91)⟩,
  ⟨some 93, none, 0, 0, .load true 2 (.t 92)⟩,
  ⟨some 94, none, 0, 0, .bsl 2 [.int .i64 0, .int .i64 0] 1 [(0, .t 93)]⟩,
  ⟨some 95, none, 0, 0, .app 2 16 [.int .i64 0, .int .i64 0] (.t 89) (.t 94)⟩,
  ⟨some 14, none, 0, 0, .mv (.t 95)⟩])
 (.drw [⟨some 96, none, 0, 0, .mv (.t 12)⟩,
  ⟨some 97, none, 0, 0, .mv (.t 16)⟩,
  ⟨some 98, none, 0, 0, .sl 2 (.t 96) none (some (.t 97)) none⟩,
  ⟨some 99, none, 0, 0, .call 20 [.t 98]⟩,
  ⟨some 100, none, 0, 1, .mv (.t 12)⟩,
  ⟨some 101, none, 0, 1, .mv (.t 16)⟩,
  ⟨some 102, none, 0, 1, .bin .add (.t 101) (.k (.int .i64 1))⟩,
  ⟨some 103, none, 0, 1, .sl 2 (.t 100) (some (.t 102)) none none⟩,
  ⟨some 104, none, 0, 0, .app 2 16 [.int .i64 0, .int .i64 0] (.t 99) (.t 103)⟩,
  ⟨some 12, none, 2, 2, .mv (.t 104)⟩]))))
 (.reg [⟨some 81, none, 0, 0, .mv (.t 15)⟩,
  ⟨some 82, none, 0, 0, .bin .add (.t 81) (.k (.int .i64 1))⟩,
  ⟨some 15, none, 0, 0, .mv (.t 82)⟩]))))
def h6 : Fn := { np := 2, res := [.t 4], body :=
 (.seq (.reg [⟨some 4, none, 0, 0, .mv (.k (.bool false))⟩])
 (.seq (.reg [⟨some 21, none, 0, 0, .call 3 []⟩,
  ⟨some 5, none, 0, 0, .mv (.t 21)⟩])
 (.seq (.reg [⟨some 23, none, 0, 0, .mv (.t 0)⟩,
  ⟨some 24, none, 0, 0, .call 28 [.t 23]⟩,
  ⟨some 22, none, 0, 0, .mv (.t 24)⟩,
  ⟨some 25, none, 0, 0, .ext (.t 22) 0⟩,
  ⟨some 26, none, 0, 0, .ext (.t 22) 1⟩,
  ⟨some 6, none, 0, 0, .alloc [.nils, .nils]⟩,
  ⟨none, none, 0, 0, .store true 2 (.t 6) (.t 25)⟩,
  ⟨some 7, none, 0, 0, .mv (.t 26)⟩])
 (.seq (.reg [⟨some 28, none, 0, 0, .load true 2 (.t 6)⟩,
  ⟨some 29, none, 0, 0, .mv (.t 7)⟩,
  ⟨some 30, none, 0, 0, .call 23 [.t 28, .t 29]⟩,
  ⟨some 27, none, 0, 0, .mv (.t 30)⟩,
  ⟨some 31, none, 0, 0, .ext (.t 27) 0⟩,
  ⟨some 32, none, 0, 0, .ext (.t 27) 1⟩,
  ⟨some 8, none, 0, 0, .alloc [.nils, .nils]⟩,
  ⟨none, none, 0, 0, .store true 2 (.t 8) (.t 31)⟩,
  ⟨some 9, none, 0, 0, .mv (.t 32)⟩])
 (.seq (.reg [⟨some 34, none, 0, 0, .load true 2 (.t 8)⟩,
  ⟨some 35, none, 0, 0, .call 13 [.t 34]⟩,
  ⟨some 33, none, 0, 0, .mv (.t 35)⟩,
  ⟨some 36, none, 0, 0, .ext (.t 33) 0⟩,
  ⟨some 37, none, 0, 0, .ext (.t 33) 1⟩,
  ⟨some 10, none, 0, 0, .mv (.t 36)⟩,
  ⟨some 11, none, 0, 0, .mv (.t 37)⟩])
 (.seq (.seq (.reg [⟨some 38, none, 0, 0, .mv (.t 9)⟩,
  ⟨some 39, none, 0, 0, .bin .neq (.t 38) (.k (.int .i64 0))⟩,
  ⟨some 40, none, 0, 0, .mv (.t 39)⟩,
  ⟨some 41, (some (40, false)), 0, 0, .mv (.t 11)⟩,
  ⟨some 42, (some (40, false)), 0, 0, .bin .neq (.t 41) (.k (.int .i64 0))⟩,
  ⟨some 43, none, 0, 0, .pick (.t 40) (.k (.bool true)) (.t 42)⟩,
  ⟨some 44, none, 0, 0, .mv (.t 43)⟩,
  ⟨some 45, (some (44, false)), 0, 0, .mv (.t 10)⟩,
  ⟨some 46, (some (44, false)), 0, 0, .len false (.t 45)⟩,
  ⟨some 47, (some (44, false)), 0, 0, .fadr 0 (.t 8)⟩,
  ⟨some 48, (some (44, false)), 0, 0, .load false 1 (.t 47)⟩,
  ⟨some 49, (some (44, false)), 0, 0, .len false (.t 48)⟩,
  ⟨some 50, (some (44, false)), 0, 0, .fadr 1 (.t 8)⟩,
  ⟨some 51, (some (44, false)), 0, 0, .load false 1 (.t 50)⟩,
  ⟨some 52, (some (44, false)), 0, 0, .len false (.t 51)⟩,
  ⟨some 53, (some (44, false)), 0, 0, .bin .add (.t 49) (.t 52)⟩,
  ⟨some 54, (some (44, false)), 0, 0, .bin .add (.t 53) (.k (.int .i64 1))⟩,
  ⟨some 55, (some (44, false)), 0, 0, .bin .neq (.t 46) (.t 54)⟩,
  ⟨some 56, none, 0, 0, .pick (.t 44) (.k (.bool true)) (.t 55)⟩])
 (.cond (.t 56)
 (.seq (.reg [⟨some 4, none, 0, 0, .mv (.k (.bool false))⟩])
 .ret)
 .skip))
 (.seq (.reg [⟨some 57, none, 0, 0, .bsl 1 [.int .i64 0] 1 [(0, .k (.int .i64 0))]⟩,
  ⟨some 58, none, 0, 0, .fadr 0 (.t 8)⟩,
  ⟨some 59, none, 0, 0, .load false 1 (.t 58)⟩,
  ⟨some 60, none, 0, 0, .app 1 8 [.int .i64 0] (.t 57) (.t 59)⟩,
  ⟨some 61, none, 0, 0, .call 11 [.t 60]⟩,
  ⟨some 12, none, 0, 0, .mv (.t 61)⟩])
 (.seq (.seq (.reg [⟨some 13, none, 0, 0, .mv (.k (.int .i64 0))⟩])
 (.block 0 (.loop h6l0)))
 (.seq (.reg [⟨some 14, none, 0, 0, .mv (.k (.nils))⟩])
 (.seq (.seq (.reg [⟨some 15, none, 0, 0, .mv (.k (.int .i64 0))⟩])
 (.block 2 (.loop h6l1)))
 (.seq (.reg [⟨some 106, none, 0, 0, .load true 2 (.t 8)⟩,
  ⟨some 107, none, 0, 0, .mv (.t 14)⟩,
  ⟨some 108, none, 0, 0, .call 33 [.t 106, .t 107]⟩,
  ⟨some 105, none, 0, 0, .mv (.t 108)⟩,
  ⟨some 109, none, 0, 0, .ext (.t 105) 0⟩,
  ⟨some 110, none, 0, 0, .ext (.t 105) 1⟩,
  ⟨some 17, none, 0, 0, .mv (.t 109)⟩,
  ⟨some 18, none, 0, 0, .mv (.t 110)⟩])
 (.seq (.drw [⟨some 112, none, 0, 0, .load true 2 (.t 8)⟩,
  ⟨some 113, none, 0, 0, .mv (.t 14)⟩,
  ⟨some 114, none, 0, 0, .mv (.t 14)⟩,
  ⟨some 115, none, 0, 0, .len false (.t 114)⟩,
  ⟨some 116, none, 0, 0, .bin .sub (.t 115) (.k (.int .i64 1))⟩,
  ⟨some 117, none, 0, 0, .sl 2 (.t 113) none (some (.t 116)) none⟩,
  ⟨some 118, none, 0, 0, .call 33 [.t 112, .t 117]⟩,
  ⟨some 111, none, 1, 1, .mv (.t 118)⟩,
  ⟨some 119, none, 1, 1, .ext (.t 111) 0⟩,
  ⟨some 120, none, 1, 1, .ext (.t 111) 1⟩,
  ⟨some 19, none, 1, 1, .mv (.t 119)⟩,
  ⟨some 20, none, 1, 1, .mv (.t 120)⟩])
 (.seq (.reg [⟨some 121, none, 0, 0, .mv (.t 5)⟩,
  ⟨some 122, none, 0, 0, .mv (.t 121)⟩,
  ⟨some 123, (some (122, true)), 0, 0, .mv (.t 18)⟩,
  ⟨some 124, (some (122, true)), 0, 0, .bin .eql (.t 123) (.k (.int .i64 0))⟩,
  ⟨some 125, none, 0, 0, .pick (.t 122) (.t 124) (.k (.bool false))⟩,
  ⟨some 126, none, 0, 0, .mv (.t 125)⟩,
  ⟨some 127, (some (126, true)), 0, 0, .mv (.t 20)⟩,
  ⟨some 128, (some (126, true)), 0, 0, .bin .eql (.t 127) (.k (.int .i64 0))⟩,
  ⟨some 129, none, 0, 0, .pick (.t 126) (.t 128) (.k (.bool false))⟩,
  ⟨some 130, none, 0, 0, .mv (.t 129)⟩,
  ⟨some 131, (some (130, true)), 0, 0, .mv (.t 17)⟩,
  ⟨some 132, none, 0, 0, .pick (.t 130) (.t 131) (.k (.bool false))⟩,
  ⟨some 133, none, 0, 0, .mv (.t 132)⟩,
  ⟨some 134, (some (133, true)), 0, 0, .mv (.t 19)⟩,
  ⟨some 135, (some (133, true)), 0, 0, .un .not (.t 134)⟩,
  ⟨some 136, none, 0, 0, .pick (.t 133) (.t 135) (.k (.bool false))⟩,
  ⟨some 4, none, 0, 0, .mv (.t 136)⟩])
 .ret))))))))))))) }
theorem ok6 : okFun Try.prog gl 6 h6 = true := by kernel_rfl
/- 7: headgate/headgatelaw38.RoundsCuts -/
def h7 : Fn := { np := 4, res := [.t 8], body :=
 (.seq (.reg [⟨some 4, none, 0, 0, .box true 2 (.t 0)⟩,
  ⟨some 8, none, 0, 0, .mv (.k (.bool false))⟩])
 (.seq (.seq (.reg [⟨some 23, none, 0, 0, .load true 2 (.t 4)⟩,
  ⟨some 24, none, 0, 0, .mv (.t 1)⟩,
  ⟨some 25, none, 0, 0, .call 18 [.t 23, .t 24]⟩,
  ⟨some 26, none, 0, 0, .un .not (.t 25)⟩])
 (.cond (.t 26)
 (.seq (.reg [⟨some 27, none, 0, 0, .call 17 []⟩,
  ⟨some 8, none, 0, 0, .mv (.t 27)⟩])
 .ret)
 .skip))
 (.seq (.reg [⟨some 28, none, 0, 0, .load true 2 (.t 4)⟩,
  ⟨some 29, none, 0, 0, .call 19 [.t 28]⟩,
  ⟨some 30, none, 0, 0, .mv (.t 1)⟩,
  ⟨some 31, none, 0, 0, .call 20 [.t 30]⟩,
  ⟨some 9, none, 0, 0, .alloc [.nils, .nils]⟩,
  ⟨none, none, 0, 0, .store true 2 (.t 9) (.t 29)⟩,
  ⟨some 10, none, 0, 0, .mv (.t 31)⟩])
 (.seq (.reg [⟨some 33, none, 0, 0, .load true 2 (.t 9)⟩,
  ⟨some 34, none, 0, 0, .mv (.t 10)⟩,
  ⟨some 35, none, 0, 0, .call 30 [.t 33, .t 34]⟩,
  ⟨some 32, none, 0, 0, .mv (.t 35)⟩,
  ⟨some 36, none, 0, 0, .ext (.t 32) 0⟩,
  ⟨some 37, none, 0, 0, .ext (.t 32) 1⟩,
  ⟨some 11, none, 0, 0, .mv (.t 36)⟩,
  ⟨some 12, none, 0, 0, .mv (.t 37)⟩])
 (.seq (.reg [⟨some 39, none, 0, 0, .load true 2 (.t 4)⟩,
  ⟨some 40, none, 0, 0, .mv (.t 1)⟩,
  ⟨some 41, none, 0, 0, .call 34 [.t 39, .t 40]⟩,
  ⟨some 38, none, 0, 0, .mv (.t 41)⟩,
  ⟨some 42, none, 0, 0, .ext (.t 38) 0⟩,
  ⟨some 43, none, 0, 0, .ext (.t 38) 1⟩,
  ⟨some 13, none, 0, 0, .mv (.t 42)⟩,
  ⟨some 14, none, 0, 0, .mv (.t 43)⟩])
 (.seq (.seq (.reg [⟨some 44, none, 0, 0, .mv (.t 11)⟩,
  ⟨some 45, none, 0, 0, .mv (.t 13)⟩,
  ⟨some 46, none, 0, 0, .call 15 [.t 44, .t 45]⟩,
  ⟨some 47, none, 0, 0, .un .not (.t 46)⟩,
  ⟨some 48, none, 0, 0, .mv (.t 47)⟩,
  ⟨some 49, (some (48, false)), 0, 0, .mv (.t 12)⟩,
  ⟨some 50, (some (48, false)), 0, 0, .mv (.t 14)⟩,
  ⟨some 51, (some (48, false)), 0, 0, .bin .neq (.t 49) (.t 50)⟩,
  ⟨some 52, none, 0, 0, .pick (.t 48) (.k (.bool true)) (.t 51)⟩])
 (.cond (.t 52)
 (.seq (.reg [⟨some 8, none, 0, 0, .mv (.k (.bool false))⟩])
 .ret)
 .skip))
 (.seq (.reg [⟨some 54, none, 0, 0, .load true 2 (.t 9)⟩,
  ⟨some 55, none, 0, 0, .mv (.t 10)⟩,
  ⟨some 56, none, 0, 0, .call 10 [.t 54, .t 55]⟩,
  ⟨some 53, none, 0, 0, .mv (.t 56)⟩,
  ⟨some 57, none, 0, 0, .ext (.t 53) 0⟩,
  ⟨some 58, none, 0, 0, .ext (.t 53) 1⟩,
  ⟨some 59, none, 0, 0, .ext (.t 53) 2⟩,
  ⟨some 11, none, 0, 0, .mv (.t 57)⟩,
  ⟨some 15, none, 0, 0, .mv (.t 58)⟩,
  ⟨some 12, none, 0, 0, .mv (.t 59)⟩])
 (.seq (.reg [⟨some 61, none, 0, 0, .load true 2 (.t 4)⟩,
  ⟨some 62, none, 0, 0, .mv (.t 1)⟩,
  ⟨some 63, none, 0, 0, .call 35 [.t 61, .t 62]⟩,
  ⟨some 60, none, 0, 0, .mv (.t 63)⟩,
  ⟨some 64, none, 0, 0, .ext (.t 60) 0⟩,
  ⟨some 65, none, 0, 0, .ext (.t 60) 1⟩,
  ⟨some 66, none, 0, 0, .ext (.t 60) 2⟩,
  ⟨some 13, none, 0, 0, .mv (.t 64)⟩,
  ⟨some 16, none, 0, 0, .mv (.t 65)⟩,
  ⟨some 14, none, 0, 0, .mv (.t 66)⟩])
 (.seq (.seq (.reg [⟨some 67, none, 0, 0, .mv (.t 11)⟩,
  ⟨some 68, none, 0, 0, .mv (.t 13)⟩,
  ⟨some 69, none, 0, 0, .call 15 [.t 67, .t 68]⟩,
  ⟨some 70, none, 0, 0, .un .not (.t 69)⟩,
  ⟨some 71, none, 0, 0, .mv (.t 70)⟩,
  ⟨some 72, (some (71, false)), 0, 0, .mv (.t 15)⟩,
  ⟨some 73, (some (71, false)), 0, 0, .mv (.t 16)⟩,
  ⟨some 74, (some (71, false)), 0, 0, .call 15 [.t 72, .t 73]⟩,
  ⟨some 75, (some (71, false)), 0, 0, .un .not (.t 74)⟩,
  ⟨some 76, none, 0, 0, .pick (.t 71) (.k (.bool true)) (.t 75)⟩,
  ⟨some 77, none, 0, 0, .mv (.t 76)⟩,
  ⟨some 78, (some (77, false)), 0, 0, .mv (.t 12)⟩,
  ⟨some 79, (some (77, false)), 0, 0, .mv (.t 14)⟩,
  ⟨some 80, (some (77, false)), 0, 0, .bin .neq (.t 78) (.t 79)⟩,
  ⟨some 81, none, 0, 0, .pick (.t 77) (.k (.bool true)) (.t 80)⟩])
 (.cond (.t 81)
 (.seq (.reg [⟨some 8, none, 0, 0, .mv (.k (.bool false))⟩])
 .ret)
 .skip))
 (.seq (.reg [⟨some 83, none, 0, 0, .load true 2 (.t 9)⟩,
  ⟨some 84, none, 0, 0, .mv (.t 10)⟩,
  ⟨some 85, none, 0, 0, .call 33 [.t 83, .t 84]⟩,
  ⟨some 82, none, 0, 0, .mv (.t 85)⟩,
  ⟨some 86, none, 0, 0, .ext (.t 82) 0⟩,
  ⟨some 87, none, 0, 0, .ext (.t 82) 1⟩,
  ⟨some 17, none, 0, 0, .mv (.t 86)⟩,
  ⟨some 12, none, 0, 0, .mv (.t 87)⟩])
 (.seq (.reg [⟨some 89, none, 0, 0, .load true 2 (.t 4)⟩,
  ⟨some 90, none, 0, 0, .mv (.t 1)⟩,
  ⟨some 91, none, 0, 0, .call 36 [.t 89, .t 90]⟩,
  ⟨some 88, none, 0, 0, .mv (.t 91)⟩,
  ⟨some 92, none, 0, 0, .ext (.t 88) 0⟩,
  ⟨some 93, none, 0, 0, .ext (.t 88) 1⟩,
  ⟨some 18, none, 0, 0, .mv (.t 92)⟩,
  ⟨some 14, none, 0, 0, .mv (.t 93)⟩])
 (.seq (.reg [⟨some 95, none, 0, 0, .load true 2 (.t 9)⟩,
  ⟨some 96, none, 0, 0, .mv (.t 10)⟩,
  ⟨some 97, none, 0, 0, .mv (.t 2)⟩,
  ⟨some 98, none, 0, 0, .mv (.t 3)⟩,
  ⟨some 99, none, 0, 0, .call 37 [.t 95, .t 96, .t 97, .t 98]⟩,
  ⟨some 94, none, 0, 0, .mv (.t 99)⟩,
  ⟨some 100, none, 0, 0, .ext (.t 94) 0⟩,
  ⟨some 101, none, 0, 0, .ext (.t 94) 1⟩,
  ⟨some 19, none, 0, 0, .mv (.t 100)⟩,
  ⟨some 20, none, 0, 0, .mv (.t 101)⟩])
 (.seq (.reg [⟨some 103, none, 0, 0, .load true 2 (.t 4)⟩,
  ⟨some 104, none, 0, 0, .mv (.t 1)⟩,
  ⟨some 105, none, 0, 0, .mv (.t 2)⟩,
  ⟨some 106, none, 0, 0, .mv (.t 3)⟩,
  ⟨some 107, none, 0, 0, .call 38 [.t 103, .t 104, .t 105, .t 106]⟩,
  ⟨some 102, none, 0, 0, .mv (.t 107)⟩,
  ⟨some 108, none, 0, 0, .ext (.t 102) 0⟩,
  ⟨some 109, none, 0, 0, .ext (.t 102) 1⟩,
  ⟨some 21, none, 0, 0, .mv (.t 108)⟩,
  ⟨some 22, none, 0, 0, .mv (.t 109)⟩])
 (.seq (.reg [⟨some 110, none, 0, 0, .mv (.t 17)⟩,
  ⟨some 111, none, 0, 0, .mv (.t 18)⟩,
  ⟨some 112, none, 0, 0, .eqb false 0 (.t 110) (.t 111)⟩,
  ⟨some 113, none, 0, 0, .mv (.t 112)⟩,
  ⟨some 114, (some (113, true)), 0, 0, .mv (.t 12)⟩,
  ⟨some 115, (some (113, true)), 0, 0, .mv (.t 14)⟩,
  ⟨some 116, (some (113, true)), 0, 0, .bin .eql (.t 114) (.t 115)⟩,
  ⟨some 117, none, 0, 0, .pick (.t 113) (.t 116) (.k (.bool false))⟩,
  ⟨some 118, none, 0, 0, .mv (.t 117)⟩,
  ⟨some 119, (some (118, true)), 0, 0, .mv (.t 19)⟩,
  ⟨some 120, (some (118, true)), 0, 0, .mv (.t 21)⟩,
  ⟨some 121, (some (118, true)), 0, 0, .bin .eql (.t 119) (.t 120)⟩,
  ⟨some 122, none, 0, 0, .pick (.t 118) (.t 121) (.k (.bool false))⟩,
  ⟨some 123, none, 0, 0, .mv (.t 122)⟩,
  ⟨some 124, (some (123, true)), 0, 0, .mv (.t 20)⟩,
  ⟨some 125, (some (123, true)), 0, 0, .mv (.t 22)⟩,
  ⟨some 126, (some (123, true)), 0, 0, .bin .eql (.t 124) (.t 125)⟩,
  ⟨some 127, none, 0, 0, .pick (.t 123) (.t 126) (.k (.bool false))⟩,
  ⟨some 128, none, 0, 0, .mv (.t 127)⟩,
  ⟨some 129, (some (128, true)), 0, 0, .load true 2 (.t 9)⟩,
  ⟨some 130, (some (128, true)), 0, 0, .load true 2 (.t 4)⟩,
  ⟨some 131, (some (128, true)), 0, 0, .call 25 [.t 129, .t 130]⟩,
  ⟨some 132, none, 0, 0, .pick (.t 128) (.t 131) (.k (.bool false))⟩,
  ⟨some 133, none, 0, 0, .mv (.t 132)⟩,
  ⟨some 134, (some (133, true)), 0, 0, .mv (.t 10)⟩,
  ⟨some 135, (some (133, true)), 0, 0, .mv (.t 1)⟩,
  ⟨some 136, (some (133, true)), 0, 0, .call 27 [.t 134, .t 135]⟩,
  ⟨some 137, none, 0, 0, .pick (.t 133) (.t 136) (.k (.bool false))⟩,
  ⟨some 138, none, 0, 0, .mv (.t 137)⟩,
  ⟨some 139, (some (138, true)), 0, 0, .call 17 []⟩,
  ⟨some 140, none, 0, 0, .pick (.t 138) (.t 139) (.k (.bool false))⟩,
  ⟨some 8, none, 0, 0, .mv (.t 140)⟩])
 .ret)))))))))))))) }
theorem ok7 : okFun Try.prog gl 7 h7 = true := by kernel_rfl
/- 8: headgate/headgatelaw38.RoundsAnew -/
def h8l0 : C := (.keep [1, 5, 8, 10, 12, 13, 14] (.seq (.seq (.reg [⟨some 47, none, 0, 0, .mv (.t 14)⟩,
  ⟨some 48, none, 0, 0, .mv (.t 8)⟩,
  ⟨some 49, none, 0, 0, .len false (.t 48)⟩,
  ⟨some 50, none, 0, 0, .bin .lss (.t 47) (.t 49)⟩])
 (.cond (.t 50)
 .skip
 (.exit 0)))
 (.seq (.block 1 (.seq (.seq (.reg [⟨some 53, none, 0, 0, .mv (.t 13)⟩,
  ⟨some 54, none, 0, 0, .mv (.t 1)⟩,
  ⟨some 55, none, 0, 0, .bin .geq (.t 53) (.t 54)⟩])
 (.cond (.t 55)
 (.reg [⟨some 56, none, 0, 0, .mv (.t 12)⟩,
  ⟨some 57, none, 0, 0, .bin .add (.t 56) (.k (.int .i64 1))⟩,
  ⟨some 12, none, 0, 0, .mv (.t 57)⟩])
 .skip))
 (.reg [⟨some 58, none, 0, 0, .mv (.t 8)⟩,
  ⟨some 59, none, 0, 0, .mv (.t 14)⟩,
  ⟨some 60, none, 0, 0, .iadr 1 (.t 58) (.t 59)⟩,
  ⟨some 61, none, 0, 0, .load false 1 (.t 60)⟩,
  ⟨some 13, none, 0, 0, .mv (.t 61)⟩])))
 (.reg [⟨some 51, none, 0, 0, .mv (.t 14)⟩,
  ⟨some 52, none, 0, 0, .bin .add (.t 51) (.k (.int .i64 1))⟩,
  ⟨some 14, none, 0, 0, .mv (.t 52)⟩]))))
def h8 : Fn := { np := 2, res := [.t 4], body :=
 (.seq (.reg [⟨some 4, none, 0, 0, .mv (.k (.bool false))⟩])
 (.seq (.reg [⟨some 15, none, 0, 0, .call 3 []⟩,
  ⟨some 5, none, 0, 0, .mv (.t 15)⟩])
 (.seq (.reg [⟨some 17, none, 0, 0, .mv (.t 0)⟩,
  ⟨some 18, none, 0, 0, .call 28 [.t 17]⟩,
  ⟨some 16, none, 0, 0, .mv (.t 18)⟩,
  ⟨some 19, none, 0, 0, .ext (.t 16) 0⟩,
  ⟨some 20, none, 0, 0, .ext (.t 16) 1⟩,
  ⟨some 6, none, 0, 0, .alloc [.nils, .nils]⟩,
  ⟨none, none, 0, 0, .store true 2 (.t 6) (.t 19)⟩,
  ⟨some 7, none, 0, 0, .mv (.t 20)⟩])
 (.seq (.reg [⟨some 21, none, 0, 0, .mv (.t 1)⟩,
  ⟨some 22, none, 0, 0, .mv (.t 7)⟩,
  ⟨some 23, none, 0, 0, .len false (.t 22)⟩,
  ⟨some 24, none, 0, 0, .bin .add (.t 23) (.k (.int .i64 1))⟩,
  ⟨some 25, none, 0, 0, .call 29 [.t 21, .t 24]⟩,
  ⟨some 1, none, 0, 0, .mv (.t 25)⟩])
 (.seq (.reg [⟨some 27, none, 0, 0, .load true 2 (.t 6)⟩,
  ⟨some 28, none, 0, 0, .mv (.t 7)⟩,
  ⟨some 29, none, 0, 0, .call 30 [.t 27, .t 28]⟩,
  ⟨some 26, none, 0, 0, .mv (.t 29)⟩,
  ⟨some 30, none, 0, 0, .ext (.t 26) 0⟩,
  ⟨some 31, none, 0, 0, .ext (.t 26) 1⟩,
  ⟨some 8, none, 0, 0, .mv (.t 30)⟩,
  ⟨some 9, none, 0, 0, .mv (.t 31)⟩])
 (.seq (.reg [⟨some 33, none, 0, 0, .load true 2 (.t 6)⟩,
  ⟨some 34, none, 0, 0, .mv (.t 7)⟩,
  ⟨some 35, none, 0, 0, .mv (.t 1)⟩,
  ⟨some 36, none, 0, 0, .mv (.t 7)⟩,
  ⟨some 37, none, 0, 0, .len false (.t 36)⟩,
  ⟨some 38, none, 0, 0, .call 37 [.t 33, .t 34, .t 35, .t 37]⟩,
  ⟨some 32, none, 0, 0, .mv (.t 38)⟩,
  ⟨some 39, none, 0, 0, .ext (.t 32) 0⟩,
  ⟨some 40, none, 0, 0, .ext (.t 32) 1⟩,
  ⟨some 10, none, 0, 0, .mv (.t 39)⟩,
  ⟨some 11, none, 0, 0, .mv (.t 40)⟩])
 (.seq (.seq (.reg [⟨some 41, none, 0, 0, .mv (.t 9)⟩,
  ⟨some 42, none, 0, 0, .bin .neq (.t 41) (.k (.int .i64 0))⟩,
  ⟨some 43, none, 0, 0, .mv (.t 42)⟩,
  ⟨some 44, (some (43, false)), 0, 0, .mv (.t 11)⟩,
  ⟨some 45, (some (43, false)), 0, 0, .bin .neq (.t 44) (.k (.int .i64 0))⟩,
  ⟨some 46, none, 0, 0, .pick (.t 43) (.k (.bool true)) (.t 45)⟩])
 (.cond (.t 46)
 (.seq (.reg [⟨some 4, none, 0, 0, .mv (.k (.bool false))⟩])
 .ret)
 .skip))
 (.seq (.reg [⟨some 12, none, 0, 0, .mv (.k (.int .i64 0))⟩,
  ⟨some 13, none, 0, 0, .mv (.k (.int .i64 0))⟩])
 (.seq (.seq (.reg [⟨some 14, none, 0, 0, .mv (.k (.int .i64 0))⟩])
 (.block 0 (.loop h8l0)))
 (.seq (.reg [⟨some 62, none, 0, 0, .mv (.t 5)⟩,
  ⟨some 63, none, 0, 0, .mv (.t 62)⟩,
  ⟨some 64, (some (63, true)), 0, 0, .mv (.t 10)⟩,
  ⟨some 65, (some (63, true)), 0, 0, .mv (.t 8)⟩,
  ⟨some 66, (some (63, true)), 0, 0, .len false (.t 65)⟩,
  ⟨some 67, (some (63, true)), 0, 0, .bin .leq (.t 64) (.t 66)⟩,
  ⟨some 68, none, 0, 0, .pick (.t 63) (.t 67) (.k (.bool false))⟩,
  ⟨some 69, none, 0, 0, .mv (.t 68)⟩,
  ⟨some 70, (some (69, true)), 0, 0, .mv (.t 10)⟩,
  ⟨some 71, (some (69, true)), 0, 0, .mv (.t 12)⟩,
  ⟨some 72, (some (69, true)), 0, 0, .bin .geq (.t 70) (.t 71)⟩,
  ⟨some 73, none, 0, 0, .pick (.t 69) (.t 72) (.k (.bool false))⟩,
  ⟨some 4, none, 0, 0, .mv (.t 73)⟩])
 .ret)))))))))) }
theorem ok8 : okFun Try.prog gl 8 h8 = true := by kernel_rfl
/- 9: headgate/headgatelaw38.entry -/
def h9 : Fn := { np := 2, res := [.cell 4 true 2], body :=
 (.seq (.reg [⟨some 4, none, 0, 0, .alloc [.int .i64 0, .int .i64 0]⟩])
 (.seq (.reg [⟨some 5, none, 0, 0, .mv (.t 0)⟩,
  ⟨some 6, none, 0, 0, .mv (.t 1)⟩,
  ⟨some 7, none, 0, 0, .build [.int .i64 0, .int .i64 0] [(0, 1, .t 5), (1, 1, .t 6)]⟩,
  ⟨none, none, 0, 0, .store true 2 (.t 4) (.t 7)⟩])
 .ret)) }
theorem ok9 : okFun Try.prog gl 9 h9 = true := by kernel_rfl
/- 10: headgate/rounds.Owed -/
def h10 : Fn := { np := 2, res := [.t 4, .t 5, .t 6], body :=
 (.seq (.reg [⟨some 2, none, 0, 0, .box true 2 (.t 0)⟩,
  ⟨some 4, none, 0, 0, .mv (.k (.nils))⟩,
  ⟨some 5, none, 0, 0, .mv (.k (.nils))⟩,
  ⟨some 6, none, 0, 0, .mv (.k (.int .i64 0))⟩])
 (.seq (.seq (.reg [⟨some 12, none, 0, 0, .load true 2 (.t 2)⟩,
  ⟨some 13, none, 0, 0, .mv (.t 1)⟩,
  ⟨some 14, none, 0, 0, .call 12 [.t 12, .t 13]⟩,
  ⟨some 11, none, 0, 0, .mv (.t 14)⟩,
  ⟨some 15, none, 0, 0, .ext (.t 11) 0⟩,
  ⟨some 16, none, 0, 0, .ext (.t 11) 1⟩,
  ⟨some 7, none, 0, 0, .mv (.t 15)⟩,
  ⟨some 8, none, 0, 0, .mv (.t 16)⟩])
 (.seq (.reg [⟨some 17, none, 0, 0, .mv (.t 7)⟩,
  ⟨some 18, none, 0, 0, .bin .neq (.t 17) (.k (.int .i64 0))⟩])
 (.cond (.t 18)
 (.seq (.reg [⟨some 19, none, 0, 0, .mv (.t 7)⟩,
  ⟨some 4, none, 0, 0, .mv (.k (.nils))⟩,
  ⟨some 5, none, 0, 0, .mv (.k (.nils))⟩,
  ⟨some 6, none, 0, 0, .mv (.t 19)⟩])
 .ret)
 .skip)))
 (.seq (.reg [⟨some 21, none, 0, 0, .load true 2 (.t 2)⟩,
  ⟨some 22, none, 0, 0, .mv (.t 1)⟩,
  ⟨some 23, none, 0, 0, .call 39 [.t 21, .t 22]⟩,
  ⟨some 20, none, 0, 0, .mv (.t 23)⟩,
  ⟨some 24, none, 0, 0, .ext (.t 20) 0⟩,
  ⟨some 25, none, 0, 0, .ext (.t 20) 1⟩,
  ⟨some 10, none, 0, 0, .alloc [.int .u16 0, .bool false, .bool false, .bool false, .bool false, .bool false, .bool false, .bool false, .bool false, .bool false, .bool false, .bool false, .bool false, .bool false, .bool false, .bool false, .bool false, .bool false, .bool false, .bool false, .bool false, .bool false, .bool false, .bool false, .bool false, .bool false, .bool false, .bool false, .bool false, .bool false, .bool false, .bool false, .bool false, .bool false, .bool false, .bool false, .bool false, .bool false, .bool false, .bool false, .bool false, .bool false, .bool false, .bool false, .bool false, .bool false, .bool false, .bool false, .bool false, .bool false, .bool false, .bool false, .bool false, .bool false, .bool false, .bool false, .bool false, .bool false, .bool false, .bool false, .bool false, .bool false, .bool false, .bool false, .bool false, .bool false, .bool false, .bool false, .bool false, .bool false, .bool false, .bool false, .bool false, .bool false, .bool false, .bool false, .bool false, .bool false, .bool false, .bool false, .bool false, .bool false, .bool false, .bool false, .bool false, .bool false, .bool false, .bool false, .bool false, .bool false, .bool false, .bool false, .bool false, .bool false, .bool false, .bool false, .bool false, .bool false, .bool false, .bool false, .bool false, .bool false, .bool false, .bool false, .bool false, .bool false, .bool false, .bool false, .bool false, .bool false, .bool false, .bool false, .bool false, .bool false, .bool false, .bool false, .bool false, .bool false, .bool false, .bool false, .bool false, .bool false, .bool false, .bool false, .bool false, .bool false, .bool false, .bool false, .bool false, .bool false, .bool false, .bool false, .bool false, .bool false, .bool false, .bool false, .bool false, .bool false, .bool false, .bool false, .bool false, .bool false, .bool false, .bool false, .bool false, .bool false, .bool false, .bool false, .bool false, .bool false, .bool false, .bool false, .bool false, .bool false, .bool false, .bool false, .bool false, .bool false, .bool false, .bool false, .bool false, .bool false, .bool false, .bool false, .bool false, .bool false, .bool false, .bool false, .bool false, .bool false, .bool false, .bool false, .bool false, .bool false, .bool false, .bool false, .bool false, .bool false, .bool false, .bool false, .bool false, .bool false, .bool false, .bool false, .bool false, .bool false, .bool false, .bool false, .bool false, .bool false, .bool false, .bool false, .bool false, .bool false, .bool false, .bool false, .bool false, .bool false, .bool false, .bool false, .bool false, .bool false, .bool false, .bool false, .bool false, .bool false, .bool false, .bool false, .bool false, .bool false, .bool false, .bool false, .bool false, .bool false, .bool false, .bool false, .bool false, .bool false, .bool false, .bool false, .bool false, .bool false, .bool false, .bool false, .bool false, .bool false, .bool false, .bool false, .bool false, .bool false, .bool false, .bool false, .bool false, .bool false, .bool false, .bool false, .bool false, .bool false, .bool false, .bool false, .bool false, .bool false, .bool false, .bool false, .bool false, .bool false, .bool false, .bool false, .bool false, .bool false, .bool false, .bool false, .bool false, .bool false, .bool false, .bool false, .bool false, .int .i64 0]⟩,
  ⟨some 9, none, 0, 0, .mv (.t 24)⟩,
  ⟨none, none, 0, 0, .store true 258 (.t 10) (.t 25)⟩])
 (.seq (.drw [⟨some 26, none, 0, 0, .fadr 0 (.t 10)⟩,
  ⟨some 27, none, 0, 0, .fadr 0 (.t 26)⟩,
  ⟨some 28, none, 0, 0, .load false 1 (.t 27)⟩,
  ⟨some 29, none, 0, 0, .call 40 [.t 28]⟩,
  ⟨some 30, none, 0, 1, .fadr 0 (.t 10)⟩,
  ⟨some 31, none, 0, 1, .load true 257 (.t 30)⟩,
  ⟨some 32, none, 0, 0, .call 41 [.t 31]⟩,
  ⟨some 4, none, 2, 2, .mv (.t 29)⟩,
  ⟨some 5, none, 2, 2, .mv (.t 32)⟩,
  ⟨some 6, none, 2, 2, .mv (.k (.int .i64 0))⟩])
 .ret)))) }
theorem ok10 : okFun Try.prog gl 10 h10 = true := by kernel_rfl
/- 11: headgate/headgatelaw38.picks -/
def h11l0 : C := (.keep [0, 3, 4] (.seq (.seq (.reg [⟨some 5, none, 0, 0, .mv (.t 4)⟩,
  ⟨some 6, none, 0, 0, .mv (.t 0)⟩,
  ⟨some 7, none, 0, 0, .len false (.t 6)⟩,
  ⟨some 8, none, 0, 0, .bin .lss (.t 5) (.t 7)⟩])
 (.cond (.t 8)
 .skip
 (.exit 0)))
 (.seq (.block 1 (.reg [⟨some 11, none, 0, 0, .mv (.t 3)⟩,
  ⟨some 12, none, 0, 0, .mv (.t 0)⟩,
  ⟨some 13, none, 0, 0, .mv (.t 4)⟩,
  ⟨some 14, none, 0, 0, .iadr 1 (.t 12) (.t 13)⟩,
  ⟨some 15, none, 0, 0, .load false 1 (.t 14)⟩,
  ⟨some 16, none, 0, 0, .call 9 [.k (.int .i64 1), .t 15]⟩,
  ⟨some 17, none, 0, 0, .bsl 2 [.int .i64 0, .int .i64 0] 1 [(0, .t 16)]⟩,
  ⟨some 18, none, 0, 0, .app 2 16 [.int .i64 0, .int .i64 0] (.t 11) (.t 17)⟩,
  ⟨some 3, none, 0, 0, .mv (.t 18)⟩]))
 (.reg [⟨some 9, none, 0, 0, .mv (.t 4)⟩,
  ⟨some 10, none, 0, 0, .bin .add (.t 9) (.k (.int .i64 1))⟩,
  ⟨some 4, none, 0, 0, .mv (.t 10)⟩]))))
def h11 : Fn := { np := 1, res := [.t 2], body :=
 (.seq (.reg [⟨some 2, none, 0, 0, .mv (.k (.nils))⟩])
 (.seq (.reg [⟨some 3, none, 0, 0, .mv (.k (.nils))⟩])
 (.seq (.seq (.reg [⟨some 4, none, 0, 0, .mv (.k (.int .i64 0))⟩])
 (.block 0 (.loop h11l0)))
 (.seq (.reg [⟨some 19, none, 0, 0, .mv (.t 3)⟩,
  ⟨some 2, none, 0, 0, .mv (.t 19)⟩])
 .ret)))) }
theorem ok11 : okFun Try.prog gl 11 h11 = true := by kernel_rfl
/- 12: headgate/rounds.Valid -/
def h12l0 : C := (.keep [7, 21, 22, 23] (.seq (.reg [⟨some 24, none, 0, 0, .bin .lss (.t 23) (.t 22)⟩])
 (.seq (.cond (.t 24)
 .skip
 (.exit 0))
 (.seq (.block 1 (.seq (.reg [⟨some 25, none, 0, 0, .mv (.t 23)⟩,
  ⟨some 26, none, 0, 0, .iadr 2 (.t 21) (.t 23)⟩,
  ⟨some 27, none, 0, 0, .load true 2 (.t 26)⟩,
  ⟨some 9, none, 0, 0, .alloc [.int .i64 0, .int .i64 0]⟩,
  ⟨some 8, none, 0, 0, .mv (.t 25)⟩,
  ⟨none, none, 0, 0, .store true 2 (.t 9) (.t 27)⟩])
 (.seq (.reg [⟨some 28, none, 0, 0, .load true 2 (.t 9)⟩,
  ⟨some 29, none, 0, 0, .call 43 [.t 7, .t 28]⟩,
  ⟨some 10, none, 0, 0, .mv (.t 29)⟩])
 (.seq (.reg [⟨some 30, none, 0, 0, .mv (.t 10)⟩,
  ⟨some 31, none, 0, 0, .bin .neq (.t 30) (.k (.int .i64 0))⟩])
 (.cond (.t 31)
 (.seq (.reg [⟨some 32, none, 0, 0, .mv (.t 10)⟩,
  ⟨some 33, none, 0, 0, .mv (.t 8)⟩,
  ⟨some 4, none, 0, 0, .mv (.t 32)⟩,
  ⟨some 5, none, 0, 0, .mv (.t 33)⟩])
 .ret)
 .skip)))))
 (.reg [⟨some 34, none, 0, 0, .bin .add (.t 23) (.k (.int .i64 1))⟩,
  ⟨some 23, none, 0, 0, .mv (.t 34)⟩])))))
def h12 : Fn := { np := 2, res := [.t 4, .t 5], body :=
 (.seq (.reg [⟨some 2, none, 0, 0, .box true 2 (.t 0)⟩,
  ⟨some 4, none, 0, 0, .mv (.k (.int .i64 0))⟩,
  ⟨some 5, none, 0, 0, .mv (.k (.int .i64 0))⟩])
 (.seq (.seq (.reg [⟨some 11, none, 0, 0, .load true 2 (.t 2)⟩,
  ⟨some 12, none, 0, 0, .call 16 [.t 11]⟩,
  ⟨some 6, none, 0, 0, .mv (.t 12)⟩])
 (.seq (.reg [⟨some 13, none, 0, 0, .mv (.t 6)⟩,
  ⟨some 14, none, 0, 0, .bin .neq (.t 13) (.k (.int .i64 0))⟩])
 (.cond (.t 14)
 (.seq (.reg [⟨some 15, none, 0, 0, .mv (.t 6)⟩,
  ⟨some 4, none, 0, 0, .mv (.t 15)⟩,
  ⟨some 5, none, 0, 0, .mv (.k (.int .i64 0))⟩])
 .ret)
 .skip)))
 (.seq (.seq (.reg [⟨some 16, none, 0, 0, .mv (.t 1)⟩,
  ⟨some 17, none, 0, 0, .len false (.t 16)⟩,
  ⟨some 18, none, 0, 0, .bin .gtr (.t 17) (.k (.int .i64 5000))⟩])
 (.cond (.t 18)
 (.seq (.reg [⟨some 4, none, 0, 0, .mv (.k (.int .i64 5))⟩,
  ⟨some 5, none, 0, 0, .mv (.k (.int .i64 0))⟩])
 .ret)
 .skip))
 (.seq (.reg [⟨some 19, none, 0, 0, .load true 2 (.t 2)⟩,
  ⟨some 20, none, 0, 0, .call 42 [.t 19]⟩,
  ⟨some 7, none, 0, 0, .alloc [.int .u16 0, .bool false, .bool false, .bool false, .bool false, .bool false, .bool false, .bool false, .bool false, .bool false, .bool false, .bool false, .bool false, .bool false, .bool false, .bool false, .bool false, .bool false, .bool false, .bool false, .bool false, .bool false, .bool false, .bool false, .bool false, .bool false, .bool false, .bool false, .bool false, .bool false, .bool false, .bool false, .bool false, .bool false, .bool false, .bool false, .bool false, .bool false, .bool false, .bool false, .bool false, .bool false, .bool false, .bool false, .bool false, .bool false, .bool false, .bool false, .bool false, .bool false, .bool false, .bool false, .bool false, .bool false, .bool false, .bool false, .bool false, .bool false, .bool false, .bool false, .bool false, .bool false, .bool false, .bool false, .bool false, .bool false, .bool false, .bool false, .bool false, .bool false, .bool false, .bool false, .bool false, .bool false, .bool false, .bool false, .bool false, .bool false, .bool false, .bool false, .bool false, .bool false, .bool false, .bool false, .bool false, .bool false, .bool false, .bool false, .bool false, .bool false, .bool false, .bool false, .bool false, .bool false, .bool false, .bool false, .bool false, .bool false, .bool false, .bool false, .bool false, .bool false, .bool false, .bool false, .bool false, .bool false, .bool false, .bool false, .bool false, .bool false, .bool false, .bool false, .bool false, .bool false, .bool false, .bool false, .bool false, .bool false, .bool false, .bool false, .bool false, .bool false, .bool false, .bool false, .bool false, .bool false, .bool false, .bool false, .bool false, .bool false, .bool false, .bool false, .bool false, .bool false, .bool false, .bool false, .bool false, .bool false, .bool false, .bool false, .bool false, .bool false, .bool false, .bool false, .bool false, .bool false, .bool false, .bool false, .bool false, .bool false, .bool false, .bool false, .bool false, .bool false, .bool false, .bool false, .bool false, .bool false, .bool false, .bool false, .bool false, .bool false, .bool false, .bool false, .bool false, .bool false, .bool false, .bool false, .bool false, .bool false, .bool false, .bool false, .bool false, .bool false, .bool false, .bool false, .bool false, .bool false, .bool false, .bool false, .bool false, .bool false, .bool false, .bool false, .bool false, .bool false, .bool false, .bool false, .bool false, .bool false, .bool false, .bool false, .bool false, .bool false, .bool false, .bool false, .bool false, .bool false, .bool false, .bool false, .bool false, .bool false, .bool false, .bool false, .bool false, .bool false, .bool false, .bool false, .bool false, .bool false, .bool false, .bool false, .bool false, .bool false, .bool false, .bool false, .bool false, .bool false, .bool false, .bool false, .bool false, .bool false, .bool false, .bool false, .bool false, .bool false, .bool false, .bool false, .bool false, .bool false, .bool false, .bool false, .bool false, .bool false, .bool false, .bool false, .bool false, .bool false, .bool false, .bool false, .bool false, .bool false, .bool false, .bool false, .bool false, .bool false, .bool false, .bool false, .bool false, .bool false, .bool false, .bool false, .bool false, .bool false, .bool false, .bool false, .bool false]⟩,
  ⟨none, none, 0, 0, .store true 257 (.t 7) (.t 20)⟩])
 (.seq (.seq (.reg [⟨some 21, none, 0, 0, .mv (.t 1)⟩,
  ⟨some 22, none, 0, 0, .len false (.t 21)⟩,
  ⟨some 23, none, 0, 0, .mv (.k (.int .i64 0))⟩])
 (.block 0 (.loop h12l0)))
 (.seq (.reg [⟨some 4, none, 0, 0, .mv (.k (.int .i64 0))⟩,
  ⟨some 5, none, 0, 0, .mv (.k (.int .i64 0))⟩])
 .ret)))))) }
theorem ok12 : okFun Try.prog gl 12 h12 = true := by kernel_rfl
/- 13: headgate/rounds.Fair -/
def h13l0 : C := (.keep [5, 20, 21, 22] (.seq (.reg [⟨some 23, none, 0, 0, .bin .lss (.t 22) (.t 21)⟩])
 (.seq (.cond (.t 23)
 .skip
 (.exit 0))
 (.seq (.block 1 (.seq (.reg [⟨some 24, none, 0, 0, .iadr 1 (.t 20) (.t 22)⟩,
  ⟨some 25, none, 0, 0, .load false 1 (.t 24)⟩,
  ⟨some 7, none, 0, 0, .mv (.t 25)⟩])
 (.reg [⟨some 26, none, 0, 0, .mv (.t 5)⟩,
  ⟨some 27, none, 0, 0, .mv (.t 7)⟩,
  ⟨some 28, none, 0, 0, .build [.int .i64 0, .int .i64 0, .int .i64 0, .int .i64 0, .int .u64 0] [(0, 1, .k (.int .i64 9)), (1, 1, .t 27)]⟩,
  ⟨some 29, none, 0, 0, .bsl 5 [.int .i64 0, .int .i64 0, .int .i64 0, .int .i64 0, .int .u64 0] 1 [(0, .t 28)]⟩,
  ⟨some 30, none, 0, 0, .app 5 40 [.int .i64 0, .int .i64 0, .int .i64 0, .int .i64 0, .int .u64 0] (.t 26) (.t 29)⟩,
  ⟨some 5, none, 0, 0, .mv (.t 30)⟩])))
 (.reg [⟨some 31, none, 0, 0, .bin .add (.t 22) (.k (.int .i64 1))⟩,
  ⟨some 22, none, 0, 0, .mv (.t 31)⟩])))))
def h13 : Fn := { np := 1, res := [.t 2, .t 3], body :=
 (.seq (.reg [⟨some 1, none, 0, 0, .box true 2 (.t 0)⟩,
  ⟨some 2, none, 0, 0, .mv (.k (.nils))⟩,
  ⟨some 3, none, 0, 0, .mv (.k (.int .i64 0))⟩])
 (.seq (.seq (.reg [⟨some 8, none, 0, 0, .load true 2 (.t 1)⟩,
  ⟨some 9, none, 0, 0, .call 16 [.t 8]⟩,
  ⟨some 4, none, 0, 0, .mv (.t 9)⟩])
 (.seq (.reg [⟨some 10, none, 0, 0, .mv (.t 4)⟩,
  ⟨some 11, none, 0, 0, .bin .neq (.t 10) (.k (.int .i64 0))⟩])
 (.cond (.t 11)
 (.seq (.reg [⟨some 12, none, 0, 0, .mv (.t 4)⟩,
  ⟨some 2, none, 0, 0, .mv (.k (.nils))⟩,
  ⟨some 3, none, 0, 0, .mv (.t 12)⟩])
 .ret)
 .skip)))
 (.seq (.reg [⟨some 13, none, 0, 0, .build [.int .i64 0, .int .i64 0, .int .i64 0, .int .i64 0, .int .u64 0] [(0, 1, .k (.int .i64 10))]⟩,
  ⟨some 14, none, 0, 0, .bsl 5 [.int .i64 0, .int .i64 0, .int .i64 0, .int .i64 0, .int .u64 0] 1 [(0, .t 13)]⟩,
  ⟨some 15, none, 0, 0, .fadr 1 (.t 1)⟩,
  ⟨some 16, none, 0, 0, .load false 1 (.t 15)⟩,
  ⟨some 17, none, 0, 0, .len false (.t 16)⟩,
  ⟨some 18, none, 0, 0, .call 44 [.t 14, .t 17]⟩,
  ⟨some 5, none, 0, 0, .mv (.t 18)⟩])
 (.seq (.seq (.reg [⟨some 19, none, 0, 0, .fadr 0 (.t 1)⟩,
  ⟨some 20, none, 0, 0, .load false 1 (.t 19)⟩,
  ⟨some 21, none, 0, 0, .len false (.t 20)⟩,
  ⟨some 22, none, 0, 0, .mv (.k (.int .i64 0))⟩])
 (.block 0 (.loop h13l0)))
 (.seq (.reg [⟨some 32, none, 0, 0, .mv (.t 5)⟩,
  ⟨some 33, none, 0, 0, .build [.int .i64 0, .int .i64 0, .int .i64 0, .int .i64 0, .int .u64 0] [(0, 1, .k (.int .i64 9))]⟩,
  ⟨some 34, none, 0, 0, .bsl 5 [.int .i64 0, .int .i64 0, .int .i64 0, .int .i64 0, .int .u64 0] 1 [(0, .t 33)]⟩,
  ⟨some 35, none, 0, 0, .app 5 40 [.int .i64 0, .int .i64 0, .int .i64 0, .int .i64 0, .int .u64 0] (.t 32) (.t 34)⟩,
  ⟨some 2, none, 0, 0, .mv (.t 35)⟩,
  ⟨some 3, none, 0, 0, .mv (.k (.int .i64 0))⟩])
 .ret))))) }
theorem ok13 : okFun Try.prog gl 13 h13 = true := by kernel_rfl
/- 14: headgate/headgatelaw38.ends -/
def h14 : Fn := { np := 3, res := [.t 6], body :=
 (.seq (.reg [⟨some 3, none, 0, 0, .box true 2 (.t 0)⟩,
  ⟨some 6, none, 0, 0, .mv (.k (.bool false))⟩])
 (.seq (.reg [⟨some 10, none, 0, 0, .load true 2 (.t 3)⟩,
  ⟨some 11, none, 0, 0, .mv (.t 1)⟩,
  ⟨some 12, none, 0, 0, .call 30 [.t 10, .t 11]⟩,
  ⟨some 9, none, 0, 0, .mv (.t 12)⟩,
  ⟨some 13, none, 0, 0, .ext (.t 9) 0⟩,
  ⟨some 14, none, 0, 0, .ext (.t 9) 1⟩,
  ⟨some 7, none, 0, 0, .mv (.t 13)⟩,
  ⟨some 8, none, 0, 0, .mv (.t 14)⟩])
 (.seq (.reg [⟨some 15, none, 0, 0, .mv (.t 8)⟩,
  ⟨some 16, none, 0, 0, .bin .eql (.t 15) (.k (.int .i64 0))⟩,
  ⟨some 17, none, 0, 0, .mv (.t 16)⟩,
  ⟨some 18, (some (17, true)), 0, 0, .mv (.t 7)⟩,
  ⟨some 19, (some (17, true)), 0, 0, .mv (.t 2)⟩,
  ⟨some 20, (some (17, true)), 0, 0, .call 15 [.t 18, .t 19]⟩,
  ⟨some 21, none, 0, 0, .pick (.t 17) (.t 20) (.k (.bool false))⟩,
  ⟨some 6, none, 0, 0, .mv (.t 21)⟩])
 .ret))) }
theorem ok14 : okFun Try.prog gl 14 h14 = true := by kernel_rfl
/- 15: headgate/headgatekit.SameInts -/
def h15l0 : C := (.keep [0, 1, 5] (.seq (.seq (.reg [⟨some 11, none, 0, 0, .mv (.t 5)⟩,
  ⟨some 12, none, 0, 0, .mv (.t 0)⟩,
  ⟨some 13, none, 0, 0, .len false (.t 12)⟩,
  ⟨some 14, none, 0, 0, .bin .lss (.t 11) (.t 13)⟩])
 (.cond (.t 14)
 .skip
 (.exit 0)))
 (.seq (.block 1 (.seq (.drw [⟨some 17, none, 0, 0, .mv (.t 0)⟩,
  ⟨some 18, none, 0, 0, .mv (.t 5)⟩,
  ⟨some 19, none, 0, 0, .iadr 1 (.t 17) (.t 18)⟩,
  ⟨some 20, none, 0, 0, .load false 1 (.t 19)⟩,
  ⟨some 21, none, 0, 0, .mv (.t 1)⟩,
  ⟨some 22, none, 0, 0, .mv (.t 5)⟩,
  ⟨some 23, none, 0, 0, .iadr 1 (.t 21) (.t 22)⟩,
  ⟨some 24, none, 0, 0, .load false 1 (.t 23)⟩,
  ⟨some 25, none, 0, 0, .bin .neq (.t 20) (.t 24)⟩])
 (.cond (.t 25)
 (.seq (.reg [⟨some 4, none, 0, 0, .mv (.k (.bool false))⟩])
 .ret)
 .skip)))
 (.reg [⟨some 15, none, 0, 0, .mv (.t 5)⟩,
  ⟨some 16, none, 0, 0, .bin .add (.t 15) (.k (.int .i64 1))⟩,
  ⟨some 5, none, 0, 0, .mv (.t 16)⟩]))))
def h15 : Fn := { np := 2, res := [.t 4], body :=
 (.seq (.reg [⟨some 4, none, 0, 0, .mv (.k (.bool false))⟩])
 (.seq (.seq (.reg [⟨some 6, none, 0, 0, .mv (.t 0)⟩,
  ⟨some 7, none, 0, 0, .len false (.t 6)⟩,
  ⟨some 8, none, 0, 0, .mv (.t 1)⟩,
  ⟨some 9, none, 0, 0, .len false (.t 8)⟩,
  ⟨some 10, none, 0, 0, .bin .neq (.t 7) (.t 9)⟩])
 (.cond (.t 10)
 (.seq (.reg [⟨some 4, none, 0, 0, .mv (.k (.bool false))⟩])
 .ret)
 .skip))
 (.seq (.seq (.reg [⟨some 5, none, 0, 0, .mv (.k (.int .i64 0))⟩])
 (.block 0 (.loop h15l0)))
 (.seq (.reg [⟨some 4, none, 0, 0, .mv (.k (.bool true))⟩])
 .ret)))) }
theorem ok15 : okFun Try.prog gl 15 h15 = true := by kernel_rfl
/- 16: headgate/rounds.Check -/
def h16l0 : C := (.keep [4, 13, 14, 18, 19, 20] (.seq (.reg [⟨some 21, none, 0, 0, .bin .lss (.t 20) (.t 19)⟩])
 (.seq (.cond (.t 21)
 .skip
 (.exit 2))
 (.seq (.block 3 (.seq (.reg [⟨some 22, none, 0, 0, .mv (.t 20)⟩,
  ⟨some 23, none, 0, 0, .iadr 1 (.t 18) (.t 20)⟩,
  ⟨some 24, none, 0, 0, .load false 1 (.t 23)⟩,
  ⟨some 5, none, 0, 0, .mv (.t 22)⟩,
  ⟨some 6, none, 0, 0, .mv (.t 24)⟩])
 (.seq (.seq (.reg [⟨some 25, none, 0, 0, .mv (.t 6)⟩,
  ⟨some 26, none, 0, 0, .fadr 1 (.t 4)⟩,
  ⟨some 27, none, 0, 0, .load false 1 (.t 26)⟩,
  ⟨some 28, none, 0, 0, .bin .lss (.t 25) (.t 27)⟩,
  ⟨some 29, none, 0, 0, .mv (.t 28)⟩,
  ⟨some 30, (some (29, false)), 0, 0, .mv (.t 6)⟩,
  ⟨some 31, (some (29, false)), 0, 0, .fadr 2 (.t 4)⟩,
  ⟨some 32, (some (29, false)), 0, 0, .load false 1 (.t 31)⟩,
  ⟨some 33, (some (29, false)), 0, 0, .bin .gtr (.t 30) (.t 32)⟩,
  ⟨some 34, none, 0, 0, .pick (.t 29) (.k (.bool true)) (.t 33)⟩])
 (.cond (.t 34)
 (.seq (.reg [⟨some 2, none, 0, 0, .mv (.k (.int .i64 2))⟩])
 .ret)
 .skip))
 (.seq (.reg [⟨some 35, none, 0, 0, .mv (.t 5)⟩,
  ⟨some 36, none, 0, 0, .bin .gtr (.t 35) (.k (.int .i64 0))⟩,
  ⟨some 37, none, 0, 0, .mv (.t 36)⟩,
  ⟨some 38, (some (37, true)), 0, 0, .mv (.t 6)⟩,
  ⟨some 39, (some (37, true)), 0, 0, .fadr 0 (.t 4)⟩,
  ⟨some 40, (some (37, true)), 0, 0, .load false 1 (.t 39)⟩,
  ⟨some 41, (some (37, true)), 0, 0, .mv (.t 5)⟩,
  ⟨some 42, (some (37, true)), 0, 0, .bin .sub (.t 41) (.k (.int .i64 1))⟩,
  ⟨some 43, (some (37, true)), 0, 0, .iadr 1 (.t 40) (.t 42)⟩,
  ⟨some 44, (some (37, true)), 0, 0, .load false 1 (.t 43)⟩,
  ⟨some 45, (some (37, true)), 0, 0, .bin .leq (.t 38) (.t 44)⟩,
  ⟨some 46, none, 0, 0, .pick (.t 37) (.t 45) (.k (.bool false))⟩])
 (.cond (.t 46)
 (.seq (.reg [⟨some 2, none, 0, 0, .mv (.k (.int .i64 8))⟩])
 .ret)
 .skip)))))
 (.reg [⟨some 47, none, 0, 0, .bin .add (.t 20) (.k (.int .i64 1))⟩,
  ⟨some 20, none, 0, 0, .mv (.t 47)⟩])))))
def h16l1 : C := (.keep [13, 14] (.seq (.reg [⟨some 15, none, 0, 0, .bin .lss (.t 14) (.k (.int .i64 2))⟩])
 (.seq (.cond (.t 15)
 .skip
 (.exit 0))
 (.seq (.block 1 (.seq (.reg [⟨some 16, none, 0, 0, .ida 2 3 true (.t 13) (.t 14)⟩,
  ⟨some 4, none, 0, 0, .alloc [.nils, .int .i64 0, .int .i64 0]⟩,
  ⟨none, none, 0, 0, .store true 3 (.t 4) (.t 16)⟩])
 (.seq (.reg [⟨some 17, none, 0, 0, .fadr 0 (.t 4)⟩,
  ⟨some 18, none, 0, 0, .load false 1 (.t 17)⟩,
  ⟨some 19, none, 0, 0, .len false (.t 18)⟩,
  ⟨some 20, none, 0, 0, .mv (.k (.int .i64 0))⟩])
 (.block 2 (.loop h16l0)))))
 (.reg [⟨some 48, none, 0, 0, .bin .add (.t 14) (.k (.int .i64 1))⟩,
  ⟨some 14, none, 0, 0, .mv (.t 48)⟩])))))
def h16 : Fn := { np := 1, res := [.t 2], body :=
 (.seq (.reg [⟨some 1, none, 0, 0, .box true 2 (.t 0)⟩,
  ⟨some 2, none, 0, 0, .mv (.k (.int .i64 0))⟩])
 (.seq (.seq (.reg [⟨some 7, none, 0, 0, .fadr 0 (.t 1)⟩,
  ⟨some 8, none, 0, 0, .load false 1 (.t 7)⟩,
  ⟨some 9, none, 0, 0, .build [.nils, .int .i64 0, .int .i64 0] [(0, 1, .t 8), (1, 1, .k (.int .i64 1)), (2, 1, .k (.int .i64 8))]⟩,
  ⟨some 10, none, 0, 0, .fadr 1 (.t 1)⟩,
  ⟨some 11, none, 0, 0, .load false 1 (.t 10)⟩,
  ⟨some 12, none, 0, 0, .build [.nils, .int .i64 0, .int .i64 0] [(0, 1, .t 11), (1, 1, .k (.int .i64 0)), (2, 1, .k (.int .i64 255))]⟩,
  ⟨some 13, none, 0, 0, .build [.nils, .int .i64 0, .int .i64 0, .nils, .int .i64 0, .int .i64 0] [(0, 3, .t 9), (3, 3, .t 12)]⟩,
  ⟨some 14, none, 0, 0, .mv (.k (.int .i64 0))⟩])
 (.block 0 (.loop h16l1)))
 (.seq (.reg [⟨some 2, none, 0, 0, .mv (.k (.int .i64 0))⟩])
 .ret))) }
theorem ok16 : okFun Try.prog gl 16 h16 = true := by kernel_rfl
/- 17: headgate/headgatelaw38.awake -/
def h17 : Fn := { np := 0, res := [.t 0], body :=
 (.seq (.reg [⟨some 0, none, 0, 0, .mv (.k (.bool false))⟩])
 (.seq (.reg [⟨some 10, none, 0, 0, .bsl 1 [.int .i64 0] 1 [(0, .k (.int .i64 1))]⟩,
  ⟨some 11, none, 0, 0, .bsl 1 [.int .i64 0] 1 [(0, .k (.int .i64 5))]⟩,
  ⟨some 12, none, 0, 0, .build [.nils, .nils] [(0, 1, .t 10), (1, 1, .t 11)]⟩,
  ⟨some 1, none, 0, 0, .alloc [.nils, .nils]⟩,
  ⟨none, none, 0, 0, .store true 2 (.t 1) (.t 12)⟩])
 (.seq (.reg [⟨some 13, none, 0, 0, .bsl 1 [.int .i64 0] 2 [(0, .k (.int .i64 0)), (1, .k (.int .i64 1))]⟩,
  ⟨some 14, none, 0, 0, .call 11 [.t 13]⟩,
  ⟨some 15, none, 0, 0, .call 9 [.k (.int .i64 5), .k (.int .i64 5)]⟩,
  ⟨some 16, none, 0, 0, .bsl 2 [.int .i64 0, .int .i64 0] 1 [(0, .t 15)]⟩,
  ⟨some 17, none, 0, 0, .app 2 16 [.int .i64 0, .int .i64 0] (.t 14) (.t 16)⟩,
  ⟨some 2, none, 0, 0, .mv (.t 17)⟩])
 (.seq (.reg [⟨some 19, none, 0, 0, .load true 2 (.t 1)⟩,
  ⟨some 20, none, 0, 0, .mv (.t 2)⟩,
  ⟨some 21, none, 0, 0, .call 33 [.t 19, .t 20]⟩,
  ⟨some 18, none, 0, 0, .mv (.t 21)⟩,
  ⟨some 22, none, 0, 0, .ext (.t 18) 0⟩,
  ⟨some 23, none, 0, 0, .ext (.t 18) 1⟩,
  ⟨some 3, none, 0, 0, .mv (.t 22)⟩,
  ⟨some 4, none, 0, 0, .mv (.t 23)⟩])
 (.seq (.drw [⟨some 25, none, 0, 1, .load true 2 (.t 1)⟩,
  ⟨some 26, none, 0, 0, .bsl 1 [.int .i64 0] 2 [(0, .k (.int .i64 0)), (1, .k (.int .i64 1))]⟩,
  ⟨some 27, none, 0, 0, .call 11 [.t 26]⟩,
  ⟨some 28, none, 0, 0, .call 10 [.t 25, .t 27]⟩,
  ⟨some 24, none, 2, 2, .mv (.t 28)⟩,
  ⟨some 29, none, 2, 2, .ext (.t 24) 0⟩,
  ⟨some 30, none, 2, 2, .ext (.t 24) 1⟩,
  ⟨some 31, none, 2, 2, .ext (.t 24) 2⟩,
  ⟨some 5, none, 2, 2, .mv (.t 29)⟩,
  ⟨some 6, none, 2, 2, .mv (.t 30)⟩,
  ⟨some 7, none, 2, 2, .mv (.t 31)⟩])
 (.seq (.reg [⟨some 33, none, 0, 0, .load true 2 (.t 1)⟩,
  ⟨some 34, none, 0, 0, .call 13 [.t 33]⟩,
  ⟨some 32, none, 0, 0, .mv (.t 34)⟩,
  ⟨some 35, none, 0, 0, .ext (.t 32) 0⟩,
  ⟨some 36, none, 0, 0, .ext (.t 32) 1⟩,
  ⟨some 8, none, 0, 0, .mv (.t 35)⟩,
  ⟨some 9, none, 0, 0, .mv (.t 36)⟩])
 (.seq (.reg [⟨some 37, none, 0, 0, .build [.nils, .nils] []⟩,
  ⟨some 38, none, 0, 0, .bsl 1 [.int .i64 0] 2 [(0, .k (.int .i64 0)), (1, .k (.int .i64 0))]⟩,
  ⟨some 39, none, 0, 0, .call 11 [.t 38]⟩,
  ⟨some 40, none, 0, 0, .bsl 1 [.int .i64 0] 2 [(0, .k (.int .i64 1)), (1, .k (.int .i64 2))]⟩,
  ⟨some 41, none, 0, 0, .call 14 [.t 37, .t 39, .t 40]⟩,
  ⟨some 42, none, 0, 0, .mv (.t 41)⟩,
  ⟨some 43, (some (42, true)), 0, 0, .load true 2 (.t 1)⟩,
  ⟨some 44, (some (42, true)), 0, 0, .mv (.t 2)⟩,
  ⟨some 45, (some (42, true)), 0, 0, .bsl 1 [.int .i64 0] 1 [(0, .k (.int .i64 3))]⟩,
  ⟨some 46, (some (42, true)), 0, 0, .call 14 [.t 43, .t 44, .t 45]⟩,
  ⟨some 47, none, 0, 0, .pick (.t 42) (.t 46) (.k (.bool false))⟩,
  ⟨some 48, none, 0, 0, .mv (.t 47)⟩,
  ⟨some 49, (some (48, true)), 0, 0, .mv (.t 4)⟩,
  ⟨some 50, (some (48, true)), 0, 0, .bin .eql (.t 49) (.k (.int .i64 0))⟩,
  ⟨some 51, none, 0, 0, .pick (.t 48) (.t 50) (.k (.bool false))⟩,
  ⟨some 52, none, 0, 0, .mv (.t 51)⟩,
  ⟨some 53, (some (52, true)), 0, 0, .mv (.t 3)⟩,
  ⟨some 54, none, 0, 0, .pick (.t 52) (.t 53) (.k (.bool false))⟩,
  ⟨some 55, none, 0, 0, .mv (.t 54)⟩,
  ⟨some 56, (some (55, true)), 0, 0, .mv (.t 7)⟩,
  ⟨some 57, (some (55, true)), 0, 0, .bin .eql (.t 56) (.k (.int .i64 0))⟩,
  ⟨some 58, none, 0, 0, .pick (.t 55) (.t 57) (.k (.bool false))⟩,
  ⟨some 59, none, 0, 0, .mv (.t 58)⟩,
  ⟨some 60, (some (59, true)), 0, 0, .mv (.t 5)⟩,
  ⟨some 61, (some (59, true)), 0, 0, .len false (.t 60)⟩,
  ⟨some 62, (some (59, true)), 0, 0, .bin .eql (.t 61) (.k (.int .i64 0))⟩,
  ⟨some 63, none, 0, 0, .pick (.t 59) (.t 62) (.k (.bool false))⟩,
  ⟨some 64, none, 0, 0, .mv (.t 63)⟩,
  ⟨some 65, (some (64, true)), 0, 0, .mv (.t 6)⟩,
  ⟨some 66, (some (64, true)), 0, 0, .bsl 1 [.int .i64 0] 1 [(0, .k (.int .i64 5))]⟩,
  ⟨some 67, (some (64, true)), 0, 0, .call 15 [.t 65, .t 66]⟩,
  ⟨some 68, none, 0, 0, .pick (.t 64) (.t 67) (.k (.bool false))⟩,
  ⟨some 69, none, 0, 0, .mv (.t 68)⟩,
  ⟨some 70, (some (69, true)), 0, 0, .mv (.t 9)⟩,
  ⟨some 71, (some (69, true)), 0, 0, .bin .eql (.t 70) (.k (.int .i64 0))⟩,
  ⟨some 72, none, 0, 0, .pick (.t 69) (.t 71) (.k (.bool false))⟩,
  ⟨some 73, none, 0, 0, .mv (.t 72)⟩,
  ⟨some 74, (some (73, true)), 0, 0, .mv (.t 8)⟩,
  ⟨some 75, (some (73, true)), 0, 0, .len false (.t 74)⟩,
  ⟨some 76, (some (73, true)), 0, 0, .bin .eql (.t 75) (.k (.int .i64 3))⟩,
  ⟨some 77, none, 0, 0, .pick (.t 73) (.t 76) (.k (.bool false))⟩,
  ⟨some 78, none, 0, 0, .mv (.t 77)⟩,
  ⟨some 79, (some (78, true)), 0, 0, .mv (.t 8)⟩,
  ⟨some 80, (some (78, true)), 0, 0, .iadr 5 (.t 79) (.k (.int .i64 0))⟩,
  ⟨some 81, (some (78, true)), 0, 0, .load true 5 (.t 80)⟩,
  ⟨some 82, (some (78, true)), 0, 0, .build [.int .i64 0, .int .i64 0, .int .i64 0, .int .i64 0, .int .u64 0] [(0, 1, .k (.int .i64 10))]⟩,
  ⟨some 83, (some (78, true)), 0, 0, .eqa false [1, 1, 1, 1, 1] (.t 81) (.t 82)⟩,
  ⟨some 84, none, 0, 0, .pick (.t 78) (.t 83) (.k (.bool false))⟩,
  ⟨some 85, none, 0, 0, .mv (.t 84)⟩,
  ⟨some 86, (some (85, true)), 0, 0, .mv (.t 8)⟩,
  ⟨some 87, (some (85, true)), 0, 0, .iadr 5 (.t 86) (.k (.int .i64 1))⟩,
  ⟨some 88, (some (85, true)), 0, 0, .load true 5 (.t 87)⟩,
  ⟨some 89, (some (85, true)), 0, 0, .build [.int .i64 0, .int .i64 0, .int .i64 0, .int .i64 0, .int .u64 0] [(0, 1, .k (.int .i64 9)), (1, 1, .k (.int .i64 1))]⟩,
  ⟨some 90, (some (85, true)), 0, 0, .eqa false [1, 1, 1, 1, 1] (.t 88) (.t 89)⟩,
  ⟨some 91, none, 0, 0, .pick (.t 85) (.t 90) (.k (.bool false))⟩,
  ⟨some 92, none, 0, 0, .mv (.t 91)⟩,
  ⟨some 93, (some (92, true)), 0, 0, .mv (.t 8)⟩,
  ⟨some 94, (some (92, true)), 0, 0, .iadr 5 (.t 93) (.k (.int .i64 2))⟩,
  ⟨some 95, (some (92, true)), 0, 0, .load true 5 (.t 94)⟩,
  ⟨some 96, (some (92, true)), 0, 0, .build [.int .i64 0, .int .i64 0, .int .i64 0, .int .i64 0, .int .u64 0] [(0, 1, .k (.int .i64 9))]⟩,
  ⟨some 97, (some (92, true)), 0, 0, .eqa false [1, 1, 1, 1, 1] (.t 95) (.t 96)⟩,
  ⟨some 98, none, 0, 0, .pick (.t 92) (.t 97) (.k (.bool false))⟩,
  ⟨some 0, none, 0, 0, .mv (.t 98)⟩])
 .ret))))))) }
theorem ok17 : okFun Try.prog gl 17 h17 = true := by kernel_rfl
/- 18: headgate/headgatelaw38.light -/
def h18 : Fn := { np := 2, res := [.t 4], body :=
 (.seq (.reg [⟨some 2, none, 0, 0, .box true 2 (.t 0)⟩,
  ⟨some 4, none, 0, 0, .mv (.k (.bool false))⟩])
 (.seq (.reg [⟨some 5, none, 0, 0, .fadr 0 (.t 2)⟩,
  ⟨some 6, none, 0, 0, .load false 1 (.t 5)⟩,
  ⟨some 7, none, 0, 0, .len false (.t 6)⟩,
  ⟨some 8, none, 0, 0, .bin .leq (.t 7) (.k (.int .i64 20))⟩,
  ⟨some 9, none, 0, 0, .mv (.t 8)⟩,
  ⟨some 10, (some (9, true)), 0, 0, .fadr 1 (.t 2)⟩,
  ⟨some 11, (some (9, true)), 0, 0, .load false 1 (.t 10)⟩,
  ⟨some 12, (some (9, true)), 0, 0, .len false (.t 11)⟩,
  ⟨some 13, (some (9, true)), 0, 0, .bin .leq (.t 12) (.k (.int .i64 300))⟩,
  ⟨some 14, none, 0, 0, .pick (.t 9) (.t 13) (.k (.bool false))⟩,
  ⟨some 15, none, 0, 0, .mv (.t 14)⟩,
  ⟨some 16, (some (15, true)), 0, 0, .mv (.t 1)⟩,
  ⟨some 17, (some (15, true)), 0, 0, .len false (.t 16)⟩,
  ⟨some 18, (some (15, true)), 0, 0, .bin .leq (.t 17) (.k (.int .i64 200))⟩,
  ⟨some 19, (some (15, true)), 0, 0, .mv (.t 18)⟩,
  ⟨some 20, (some (19, false)), 0, 0, .mv (.t 1)⟩,
  ⟨some 21, (some (19, false)), 0, 0, .len false (.t 20)⟩,
  ⟨some 22, (some (19, false)), 0, 0, .bin .gtr (.t 21) (.k (.int .i64 5000))⟩,
  ⟨some 23, (some (19, false)), 0, 0, .mv (.t 22)⟩,
  ⟨some 24, (some (23, true)), 0, 0, .mv (.t 1)⟩,
  ⟨some 25, (some (23, true)), 0, 0, .len false (.t 24)⟩,
  ⟨some 26, (some (23, true)), 0, 0, .bin .leq (.t 25) (.k (.int .i64 5010))⟩,
  ⟨some 27, (some (19, false)), 0, 0, .pick (.t 23) (.t 26) (.k (.bool false))⟩,
  ⟨some 28, (some (15, true)), 0, 0, .pick (.t 19) (.k (.bool true)) (.t 27)⟩,
  ⟨some 29, none, 0, 0, .pick (.t 15) (.t 28) (.k (.bool false))⟩,
  ⟨some 4, none, 0, 0, .mv (.t 29)⟩])
 .ret)) }
theorem ok18 : okFun Try.prog gl 18 h18 = true := by kernel_rfl
/- 19: headgate/headgatelaw38.own -/
def h19 : Fn := { np := 1, res := [.cell 2 true 2], body :=
 (.seq (.reg [⟨some 1, none, 0, 0, .box true 2 (.t 0)⟩,
  ⟨some 2, none, 0, 0, .alloc [.nils, .nils]⟩])
 (.seq (.drw [⟨some 3, none, 0, 0, .fadr 0 (.t 1)⟩,
  ⟨some 4, none, 0, 0, .load false 1 (.t 3)⟩,
  ⟨some 5, none, 0, 0, .call 45 [.t 4]⟩,
  ⟨some 6, none, 0, 1, .fadr 1 (.t 1)⟩,
  ⟨some 7, none, 0, 1, .load false 1 (.t 6)⟩,
  ⟨some 8, none, 0, 0, .call 45 [.t 7]⟩,
  ⟨some 9, none, 2, 2, .build [.nils, .nils] [(0, 1, .t 5), (1, 1, .t 8)]⟩,
  ⟨none, none, 0, 0, .store true 2 (.t 2) (.t 9)⟩])
 .ret)) }
theorem ok19 : okFun Try.prog gl 19 h19 = true := by kernel_rfl
/- 20: headgate/headgatelaw38.log -/
def h20 : Fn := { np := 1, res := [.t 2], body :=
 (.seq (.reg [⟨some 2, none, 0, 0, .mv (.k (.nils))⟩])
 (.seq (.reg [⟨some 3, none, 0, 0, .bsl 2 [.int .i64 0, .int .i64 0] 0 []⟩,
  ⟨some 4, none, 0, 0, .mv (.t 0)⟩,
  ⟨some 5, none, 0, 0, .app 2 16 [.int .i64 0, .int .i64 0] (.t 3) (.t 4)⟩,
  ⟨some 2, none, 0, 0, .mv (.t 5)⟩])
 .ret)) }
theorem ok20 : okFun Try.prog gl 20 h20 = true := by kernel_rfl
/- 21: headgate/headgateref38.Valid -/
def h21l0 : C := (.keep [1, 2, 7] (.seq (.seq (.reg [⟨some 16, none, 0, 0, .mv (.t 7)⟩,
  ⟨some 17, none, 0, 0, .mv (.t 1)⟩,
  ⟨some 18, none, 0, 0, .len false (.t 17)⟩,
  ⟨some 19, none, 0, 0, .bin .lss (.t 16) (.t 18)⟩])
 (.cond (.t 19)
 .skip
 (.exit 0)))
 (.seq (.block 1 (.seq (.drw [⟨some 23, none, 0, 0, .load true 2 (.t 2)⟩,
  ⟨some 24, none, 0, 0, .mv (.t 1)⟩,
  ⟨some 25, none, 0, 0, .mv (.t 7)⟩,
  ⟨some 26, none, 0, 0, .iadr 2 (.t 24) (.t 25)⟩,
  ⟨some 27, none, 0, 0, .load true 2 (.t 26)⟩,
  ⟨some 28, none, 0, 0, .call 46 [.t 23, .t 27]⟩,
  ⟨some 22, none, 1, 1, .mv (.t 28)⟩,
  ⟨some 29, none, 1, 1, .ext (.t 22) 0⟩,
  ⟨some 30, none, 1, 2, .ext (.t 22) 1⟩,
  ⟨none, none, 0, 0, .store true 2 (.t 2) (.t 29)⟩,
  ⟨some 6, none, 2, 2, .mv (.t 30)⟩])
 (.seq (.reg [⟨some 31, none, 0, 0, .mv (.t 6)⟩,
  ⟨some 32, none, 0, 0, .bin .neq (.t 31) (.k (.int .i64 0))⟩])
 (.cond (.t 32)
 (.seq (.reg [⟨some 33, none, 0, 0, .mv (.t 6)⟩,
  ⟨some 34, none, 0, 0, .mv (.t 7)⟩,
  ⟨some 4, none, 0, 0, .mv (.t 33)⟩,
  ⟨some 5, none, 0, 0, .mv (.t 34)⟩])
 .ret)
 .skip))))
 (.reg [⟨some 20, none, 0, 0, .mv (.t 7)⟩,
  ⟨some 21, none, 0, 0, .bin .add (.t 20) (.k (.int .i64 1))⟩,
  ⟨some 7, none, 0, 0, .mv (.t 21)⟩]))))
def h21 : Fn := { np := 2, res := [.t 4, .t 5], body :=
 (.seq (.reg [⟨some 2, none, 0, 0, .box true 2 (.t 0)⟩,
  ⟨some 4, none, 0, 0, .mv (.k (.int .i64 0))⟩,
  ⟨some 5, none, 0, 0, .mv (.k (.int .i64 0))⟩])
 (.seq (.reg [⟨some 8, none, 0, 0, .load true 2 (.t 2)⟩,
  ⟨some 9, none, 0, 0, .call 22 [.t 8]⟩,
  ⟨some 6, none, 0, 0, .mv (.t 9)⟩])
 (.seq (.seq (.reg [⟨some 10, none, 0, 0, .mv (.t 6)⟩,
  ⟨some 11, none, 0, 0, .bin .neq (.t 10) (.k (.int .i64 0))⟩])
 (.cond (.t 11)
 (.seq (.reg [⟨some 12, none, 0, 0, .mv (.t 6)⟩,
  ⟨some 4, none, 0, 0, .mv (.t 12)⟩,
  ⟨some 5, none, 0, 0, .mv (.k (.int .i64 0))⟩])
 .ret)
 .skip))
 (.seq (.seq (.reg [⟨some 13, none, 0, 0, .mv (.t 1)⟩,
  ⟨some 14, none, 0, 0, .len false (.t 13)⟩,
  ⟨some 15, none, 0, 0, .bin .gtr (.t 14) (.k (.int .i64 5000))⟩])
 (.cond (.t 15)
 (.seq (.reg [⟨some 4, none, 0, 0, .mv (.k (.int .i64 5))⟩,
  ⟨some 5, none, 0, 0, .mv (.k (.int .i64 0))⟩])
 .ret)
 .skip))
 (.seq (.seq (.reg [⟨some 7, none, 0, 0, .mv (.k (.int .i64 0))⟩])
 (.block 0 (.loop h21l0)))
 (.seq (.reg [⟨some 4, none, 0, 0, .mv (.k (.int .i64 0))⟩,
  ⟨some 5, none, 0, 0, .mv (.k (.int .i64 0))⟩])
 .ret)))))) }
theorem ok21 : okFun Try.prog gl 21 h21 = true := by kernel_rfl
/- 22: headgate/headgateref38.Check -/
def h22 : Fn := { np := 1, res := [.t 2], body :=
 (.seq (.reg [⟨some 1, none, 0, 0, .box true 2 (.t 0)⟩,
  ⟨some 2, none, 0, 0, .mv (.k (.int .i64 0))⟩])
 (.seq (.reg [⟨some 4, none, 0, 0, .fadr 0 (.t 1)⟩,
  ⟨some 5, none, 0, 0, .load false 1 (.t 4)⟩,
  ⟨some 6, none, 0, 0, .call 47 [.t 5, .k (.int .i64 1), .k (.int .i64 8)]⟩,
  ⟨some 3, none, 0, 0, .mv (.t 6)⟩])
 (.seq (.seq (.reg [⟨some 7, none, 0, 0, .mv (.t 3)⟩,
  ⟨some 8, none, 0, 0, .bin .eql (.t 7) (.k (.int .i64 0))⟩])
 (.cond (.t 8)
 (.reg [⟨some 9, none, 0, 0, .fadr 1 (.t 1)⟩,
  ⟨some 10, none, 0, 0, .load false 1 (.t 9)⟩,
  ⟨some 11, none, 0, 0, .call 47 [.t 10, .k (.int .i64 0), .k (.int .i64 255)]⟩,
  ⟨some 3, none, 0, 0, .mv (.t 11)⟩])
 .skip))
 (.seq (.reg [⟨some 12, none, 0, 0, .mv (.t 3)⟩,
  ⟨some 2, none, 0, 0, .mv (.t 12)⟩])
 .ret)))) }
theorem ok22 : okFun Try.prog gl 22 h22 = true := by kernel_rfl
/- 23: headgate/rounds.After -/
def h23l0 : C := (.keep [4, 8, 23, 24, 25] (.seq (.reg [⟨some 26, none, 0, 0, .bin .lss (.t 25) (.t 24)⟩])
 (.seq (.cond (.t 26)
 .skip
 (.exit 0))
 (.seq (.block 1 (.seq (.reg [⟨some 27, none, 0, 0, .iadr 2 (.t 23) (.t 25)⟩,
  ⟨some 28, none, 0, 0, .load true 2 (.t 27)⟩,
  ⟨some 10, none, 0, 0, .alloc [.int .i64 0, .int .i64 0]⟩,
  ⟨none, none, 0, 0, .store true 2 (.t 10) (.t 28)⟩])
 (.reg [⟨some 29, none, 0, 0, .load true 2 (.t 10)⟩,
  ⟨some 30, none, 0, 0, .call 43 [.t 8, .t 29]⟩])))
 (.reg [⟨some 31, none, 0, 0, .bin .add (.t 25) (.k (.int .i64 1))⟩,
  ⟨some 25, none, 0, 0, .mv (.t 31)⟩])))))
def h23 : Fn := { np := 2, res := [.cell 4 true 2, .t 5], body :=
 (.seq (.reg [⟨some 2, none, 0, 0, .box true 2 (.t 0)⟩,
  ⟨some 4, none, 0, 0, .alloc [.nils, .nils]⟩,
  ⟨some 5, none, 0, 0, .mv (.k (.int .i64 0))⟩])
 (.seq (.seq (.reg [⟨some 12, none, 0, 0, .load true 2 (.t 2)⟩,
  ⟨some 13, none, 0, 0, .mv (.t 1)⟩,
  ⟨some 14, none, 0, 0, .call 12 [.t 12, .t 13]⟩,
  ⟨some 11, none, 0, 0, .mv (.t 14)⟩,
  ⟨some 15, none, 0, 0, .ext (.t 11) 0⟩,
  ⟨some 16, none, 0, 0, .ext (.t 11) 1⟩,
  ⟨some 6, none, 0, 0, .mv (.t 15)⟩,
  ⟨some 7, none, 0, 0, .mv (.t 16)⟩])
 (.seq (.reg [⟨some 17, none, 0, 0, .mv (.t 6)⟩,
  ⟨some 18, none, 0, 0, .bin .neq (.t 17) (.k (.int .i64 0))⟩])
 (.cond (.t 18)
 (.seq (.reg [⟨some 19, none, 0, 0, .build [.nils, .nils] []⟩,
  ⟨some 20, none, 0, 0, .mv (.t 6)⟩,
  ⟨none, none, 0, 0, .store true 2 (.t 4) (.t 19)⟩,
  ⟨some 5, none, 0, 0, .mv (.t 20)⟩])
 .ret)
 .skip)))
 (.seq (.reg [⟨some 21, none, 0, 0, .load true 2 (.t 2)⟩,
  ⟨some 22, none, 0, 0, .call 42 [.t 21]⟩,
  ⟨some 8, none, 0, 0, .alloc [.int .u16 0, .bool false, .bool false, .bool false, .bool false, .bool false, .bool false, .bool false, .bool false, .bool false, .bool false, .bool false, .bool false, .bool false, .bool false, .bool false, .bool false, .bool false, .bool false, .bool false, .bool false, .bool false, .bool false, .bool false, .bool false, .bool false, .bool false, .bool false, .bool false, .bool false, .bool false, .bool false, .bool false, .bool false, .bool false, .bool false, .bool false, .bool false, .bool false, .bool false, .bool false, .bool false, .bool false, .bool false, .bool false, .bool false, .bool false, .bool false, .bool false, .bool false, .bool false, .bool false, .bool false, .bool false, .bool false, .bool false, .bool false, .bool false, .bool false, .bool false, .bool false, .bool false, .bool false, .bool false, .bool false, .bool false, .bool false, .bool false, .bool false, .bool false, .bool false, .bool false, .bool false, .bool false, .bool false, .bool false, .bool false, .bool false, .bool false, .bool false, .bool false, .bool false, .bool false, .bool false, .bool false, .bool false, .bool false, .bool false, .bool false, .bool false, .bool false, .bool false, .bool false, .bool false, .bool false, .bool false, .bool false, .bool false, .bool false, .bool false, .bool false, .bool false, .bool false, .bool false, .bool false, .bool false, .bool false, .bool false, .bool false, .bool false, .bool false, .bool false, .bool false, .bool false, .bool false, .bool false, .bool false, .bool false, .bool false, .bool false, .bool false, .bool false, .bool false, .bool false, .bool false, .bool false, .bool false, .bool false, .bool false, .bool false, .bool false, .bool false, .bool false, .bool false, .bool false, .bool false, .bool false, .bool false, .bool false, .bool false, .bool false, .bool false, .bool false, .bool false, .bool false, .bool false, .bool false, .bool false, .bool false, .bool false, .bool false, .bool false, .bool false, .bool false, .bool false, .bool false, .bool false, .bool false, .bool false, .bool false, .bool false, .bool false, .bool false, .bool false, .bool false, .bool false, .bool false, .bool false, .bool false, .bool false, .bool false, .bool false, .bool false, .bool false, .bool false, .bool false, .bool false, .bool false, .bool false, .bool false, .bool false, .bool false, .bool false, .bool false, .bool false, .bool false, .bool false, .bool false, .bool false, .bool false, .bool false, .bool false, .bool false, .bool false, .bool false, .bool false, .bool false, .bool false, .bool false, .bool false, .bool false, .bool false, .bool false, .bool false, .bool false, .bool false, .bool false, .bool false, .bool false, .bool false, .bool false, .bool false, .bool false, .bool false, .bool false, .bool false, .bool false, .bool false, .bool false, .bool false, .bool false, .bool false, .bool false, .bool false, .bool false, .bool false, .bool false, .bool false, .bool false, .bool false, .bool false, .bool false, .bool false, .bool false, .bool false, .bool false, .bool false, .bool false, .bool false, .bool false, .bool false, .bool false, .bool false, .bool false, .bool false, .bool false, .bool false, .bool false, .bool false, .bool false, .bool false, .bool false, .bool false, .bool false, .bool false, .bool false, .bool false]⟩,
  ⟨none, none, 0, 0, .store true 257 (.t 8) (.t 22)⟩])
 (.seq (.seq (.reg [⟨some 23, none, 0, 0, .mv (.t 1)⟩,
  ⟨some 24, none, 0, 0, .len false (.t 23)⟩,
  ⟨some 25, none, 0, 0, .mv (.k (.int .i64 0))⟩])
 (.block 0 (.loop h23l0)))
 (.seq (.reg [⟨some 32, none, 0, 0, .load true 257 (.t 8)⟩,
  ⟨some 33, none, 0, 0, .call 48 [.t 32]⟩,
  ⟨none, none, 0, 0, .store true 2 (.t 4) (.t 33)⟩,
  ⟨some 5, none, 0, 0, .mv (.k (.int .i64 0))⟩])
 .ret))))) }
theorem ok23 : okFun Try.prog gl 23 h23 = true := by kernel_rfl
/- 24: headgate/headgateref38.After -/
def h24l0 : C := (.keep [1, 2, 4, 8] (.seq (.seq (.reg [⟨some 19, none, 0, 0, .mv (.t 8)⟩,
  ⟨some 20, none, 0, 0, .mv (.t 1)⟩,
  ⟨some 21, none, 0, 0, .len false (.t 20)⟩,
  ⟨some 22, none, 0, 0, .bin .lss (.t 19) (.t 21)⟩])
 (.cond (.t 22)
 .skip
 (.exit 0)))
 (.seq (.block 1 (.drw [⟨some 26, none, 0, 0, .load true 2 (.t 2)⟩,
  ⟨some 27, none, 0, 0, .mv (.t 1)⟩,
  ⟨some 28, none, 0, 0, .mv (.t 8)⟩,
  ⟨some 29, none, 0, 0, .iadr 2 (.t 27) (.t 28)⟩,
  ⟨some 30, none, 0, 0, .load true 2 (.t 29)⟩,
  ⟨some 31, none, 0, 0, .call 46 [.t 26, .t 30]⟩,
  ⟨some 25, none, 1, 1, .mv (.t 31)⟩,
  ⟨some 32, none, 1, 1, .ext (.t 25) 0⟩,
  ⟨some 33, none, 1, 2, .ext (.t 25) 1⟩,
  ⟨none, none, 0, 0, .store true 2 (.t 2) (.t 32)⟩]))
 (.reg [⟨some 23, none, 0, 0, .mv (.t 8)⟩,
  ⟨some 24, none, 0, 0, .bin .add (.t 23) (.k (.int .i64 1))⟩,
  ⟨some 8, none, 0, 0, .mv (.t 24)⟩]))))
def h24 : Fn := { np := 2, res := [.cell 4 true 2, .t 5], body :=
 (.seq (.reg [⟨some 2, none, 0, 0, .box true 2 (.t 0)⟩,
  ⟨some 4, none, 0, 0, .alloc [.nils, .nils]⟩,
  ⟨some 5, none, 0, 0, .mv (.k (.int .i64 0))⟩])
 (.seq (.reg [⟨some 10, none, 0, 0, .load true 2 (.t 2)⟩,
  ⟨some 11, none, 0, 0, .mv (.t 1)⟩,
  ⟨some 12, none, 0, 0, .call 21 [.t 10, .t 11]⟩,
  ⟨some 9, none, 0, 0, .mv (.t 12)⟩,
  ⟨some 13, none, 0, 0, .ext (.t 9) 0⟩,
  ⟨some 14, none, 0, 0, .ext (.t 9) 1⟩,
  ⟨some 6, none, 0, 0, .mv (.t 13)⟩,
  ⟨some 7, none, 0, 0, .mv (.t 14)⟩])
 (.seq (.seq (.reg [⟨some 15, none, 0, 0, .mv (.t 6)⟩,
  ⟨some 16, none, 0, 0, .bin .neq (.t 15) (.k (.int .i64 0))⟩])
 (.cond (.t 16)
 (.seq (.reg [⟨some 17, none, 0, 0, .build [.nils, .nils] []⟩,
  ⟨some 18, none, 0, 0, .mv (.t 6)⟩,
  ⟨none, none, 0, 0, .store true 2 (.t 4) (.t 17)⟩,
  ⟨some 5, none, 0, 0, .mv (.t 18)⟩])
 .ret)
 .skip))
 (.seq (.seq (.reg [⟨some 8, none, 0, 0, .mv (.k (.int .i64 0))⟩])
 (.block 0 (.loop h24l0)))
 (.seq (.drw [⟨some 34, none, 0, 0, .bsl 1 [.int .i64 0] 0 []⟩,
  ⟨some 35, none, 0, 0, .fadr 0 (.t 2)⟩,
  ⟨some 36, none, 0, 0, .load false 1 (.t 35)⟩,
  ⟨some 37, none, 0, 0, .app 1 8 [.int .i64 0] (.t 34) (.t 36)⟩,
  ⟨some 38, none, 0, 1, .bsl 1 [.int .i64 0] 0 []⟩,
  ⟨some 39, none, 0, 1, .fadr 1 (.t 2)⟩,
  ⟨some 40, none, 0, 1, .load false 1 (.t 39)⟩,
  ⟨some 41, none, 0, 0, .app 1 8 [.int .i64 0] (.t 38) (.t 40)⟩,
  ⟨some 42, none, 2, 2, .build [.nils, .nils] [(0, 1, .t 37), (1, 1, .t 41)]⟩,
  ⟨none, none, 0, 0, .store true 2 (.t 4) (.t 42)⟩,
  ⟨some 5, none, 3, 3, .mv (.k (.int .i64 0))⟩])
 .ret))))) }
theorem ok24 : okFun Try.prog gl 24 h24 = true := by kernel_rfl
/- 25: headgate/headgatelaw38.same -/
def h25 : Fn := { np := 2, res := [.t 4], body :=
 (.seq (.reg [⟨some 2, none, 0, 0, .box true 2 (.t 0)⟩,
  ⟨some 3, none, 0, 0, .box true 2 (.t 1)⟩,
  ⟨some 4, none, 0, 0, .mv (.k (.bool false))⟩])
 (.seq (.reg [⟨some 5, none, 0, 0, .fadr 0 (.t 2)⟩,
  ⟨some 6, none, 0, 0, .load false 1 (.t 5)⟩,
  ⟨some 7, none, 0, 0, .fadr 0 (.t 3)⟩,
  ⟨some 8, none, 0, 0, .load false 1 (.t 7)⟩,
  ⟨some 9, none, 0, 0, .call 15 [.t 6, .t 8]⟩,
  ⟨some 10, none, 0, 0, .mv (.t 9)⟩,
  ⟨some 11, (some (10, true)), 0, 0, .fadr 1 (.t 2)⟩,
  ⟨some 12, (some (10, true)), 0, 0, .load false 1 (.t 11)⟩,
  ⟨some 13, (some (10, true)), 0, 0, .fadr 1 (.t 3)⟩,
  ⟨some 14, (some (10, true)), 0, 0, .load false 1 (.t 13)⟩,
  ⟨some 15, (some (10, true)), 0, 0, .call 15 [.t 12, .t 14]⟩,
  ⟨some 16, none, 0, 0, .pick (.t 10) (.t 15) (.k (.bool false))⟩,
  ⟨some 4, none, 0, 0, .mv (.t 16)⟩])
 .ret)) }
theorem ok25 : okFun Try.prog gl 25 h25 = true := by kernel_rfl
/- 26: headgate/headgateref38.Fair -/
def h26l0 : C := (.keep [1, 5, 6] (.seq (.seq (.reg [⟨some 13, none, 0, 0, .mv (.t 6)⟩,
  ⟨some 14, none, 0, 0, .fadr 1 (.t 1)⟩,
  ⟨some 15, none, 0, 0, .load false 1 (.t 14)⟩,
  ⟨some 16, none, 0, 0, .len false (.t 15)⟩,
  ⟨some 17, none, 0, 0, .bin .lss (.t 13) (.t 16)⟩])
 (.cond (.t 17)
 .skip
 (.exit 0)))
 (.seq (.block 1 (.reg [⟨some 20, none, 0, 0, .mv (.t 5)⟩,
  ⟨some 21, none, 0, 0, .build [.int .i64 0, .int .i64 0, .int .i64 0, .int .i64 0, .int .u64 0] [(0, 1, .k (.int .i64 10))]⟩,
  ⟨some 22, none, 0, 0, .bsl 5 [.int .i64 0, .int .i64 0, .int .i64 0, .int .i64 0, .int .u64 0] 1 [(0, .t 21)]⟩,
  ⟨some 23, none, 0, 0, .app 5 40 [.int .i64 0, .int .i64 0, .int .i64 0, .int .i64 0, .int .u64 0] (.t 20) (.t 22)⟩,
  ⟨some 5, none, 0, 0, .mv (.t 23)⟩]))
 (.reg [⟨some 18, none, 0, 0, .mv (.t 6)⟩,
  ⟨some 19, none, 0, 0, .bin .add (.t 18) (.k (.int .i64 1))⟩,
  ⟨some 6, none, 0, 0, .mv (.t 19)⟩]))))
def h26l1 : C := (.keep [1, 5, 7] (.seq (.seq (.reg [⟨some 24, none, 0, 0, .mv (.t 7)⟩,
  ⟨some 25, none, 0, 0, .fadr 0 (.t 1)⟩,
  ⟨some 26, none, 0, 0, .load false 1 (.t 25)⟩,
  ⟨some 27, none, 0, 0, .len false (.t 26)⟩,
  ⟨some 28, none, 0, 0, .bin .lss (.t 24) (.t 27)⟩])
 (.cond (.t 28)
 .skip
 (.exit 2)))
 (.seq (.block 3 (.reg [⟨some 31, none, 0, 0, .mv (.t 5)⟩,
  ⟨some 32, none, 0, 0, .fadr 0 (.t 1)⟩,
  ⟨some 33, none, 0, 0, .load false 1 (.t 32)⟩,
  ⟨some 34, none, 0, 0, .mv (.t 7)⟩,
  ⟨some 35, none, 0, 0, .iadr 1 (.t 33) (.t 34)⟩,
  ⟨some 36, none, 0, 0, .load false 1 (.t 35)⟩,
  ⟨some 37, none, 0, 0, .build [.int .i64 0, .int .i64 0, .int .i64 0, .int .i64 0, .int .u64 0] [(0, 1, .k (.int .i64 9)), (1, 1, .t 36)]⟩,
  ⟨some 38, none, 0, 0, .bsl 5 [.int .i64 0, .int .i64 0, .int .i64 0, .int .i64 0, .int .u64 0] 1 [(0, .t 37)]⟩,
  ⟨some 39, none, 0, 0, .app 5 40 [.int .i64 0, .int .i64 0, .int .i64 0, .int .i64 0, .int .u64 0] (.t 31) (.t 38)⟩,
  ⟨some 5, none, 0, 0, .mv (.t 39)⟩]))
 (.reg [⟨some 29, none, 0, 0, .mv (.t 7)⟩,
  ⟨some 30, none, 0, 0, .bin .add (.t 29) (.k (.int .i64 1))⟩,
  ⟨some 7, none, 0, 0, .mv (.t 30)⟩]))))
def h26 : Fn := { np := 1, res := [.t 2, .t 3], body :=
 (.seq (.reg [⟨some 1, none, 0, 0, .box true 2 (.t 0)⟩,
  ⟨some 2, none, 0, 0, .mv (.k (.nils))⟩,
  ⟨some 3, none, 0, 0, .mv (.k (.int .i64 0))⟩])
 (.seq (.reg [⟨some 8, none, 0, 0, .load true 2 (.t 1)⟩,
  ⟨some 9, none, 0, 0, .call 22 [.t 8]⟩,
  ⟨some 4, none, 0, 0, .mv (.t 9)⟩])
 (.seq (.seq (.reg [⟨some 10, none, 0, 0, .mv (.t 4)⟩,
  ⟨some 11, none, 0, 0, .bin .neq (.t 10) (.k (.int .i64 0))⟩])
 (.cond (.t 11)
 (.seq (.reg [⟨some 12, none, 0, 0, .mv (.t 4)⟩,
  ⟨some 2, none, 0, 0, .mv (.k (.nils))⟩,
  ⟨some 3, none, 0, 0, .mv (.t 12)⟩])
 .ret)
 .skip))
 (.seq (.reg [⟨some 5, none, 0, 0, .mv (.k (.nils))⟩])
 (.seq (.seq (.reg [⟨some 6, none, 0, 0, .mv (.k (.int .i64 0))⟩])
 (.block 0 (.loop h26l0)))
 (.seq (.seq (.reg [⟨some 7, none, 0, 0, .mv (.k (.int .i64 0))⟩])
 (.block 2 (.loop h26l1)))
 (.seq (.reg [⟨some 40, none, 0, 0, .mv (.t 5)⟩,
  ⟨some 41, none, 0, 0, .build [.int .i64 0, .int .i64 0, .int .i64 0, .int .i64 0, .int .u64 0] [(0, 1, .k (.int .i64 9))]⟩,
  ⟨some 42, none, 0, 0, .bsl 5 [.int .i64 0, .int .i64 0, .int .i64 0, .int .i64 0, .int .u64 0] 1 [(0, .t 41)]⟩,
  ⟨some 43, none, 0, 0, .app 5 40 [.int .i64 0, .int .i64 0, .int .i64 0, .int .i64 0, .int .u64 0] (.t 40) (.t 42)⟩,
  ⟨some 2, none, 0, 0, .mv (.t 43)⟩,
  ⟨some 3, none, 0, 0, .mv (.k (.int .i64 0))⟩])
 .ret))))))) }
theorem ok26 : okFun Try.prog gl 26 h26 = true := by kernel_rfl
/- 27: headgate/headgatelaw38.unchanged -/
def h27l0 : C := (.keep [0, 1, 5] (.seq (.seq (.reg [⟨some 11, none, 0, 0, .mv (.t 5)⟩,
  ⟨some 12, none, 0, 0, .mv (.t 0)⟩,
  ⟨some 13, none, 0, 0, .len false (.t 12)⟩,
  ⟨some 14, none, 0, 0, .bin .lss (.t 11) (.t 13)⟩])
 (.cond (.t 14)
 .skip
 (.exit 0)))
 (.seq (.block 1 (.seq (.drw [⟨some 17, none, 0, 0, .mv (.t 0)⟩,
  ⟨some 18, none, 0, 0, .mv (.t 5)⟩,
  ⟨some 19, none, 0, 0, .iadr 2 (.t 17) (.t 18)⟩,
  ⟨some 20, none, 0, 0, .load true 2 (.t 19)⟩,
  ⟨some 21, none, 0, 0, .mv (.t 1)⟩,
  ⟨some 22, none, 0, 0, .mv (.t 5)⟩,
  ⟨some 23, none, 0, 0, .iadr 2 (.t 21) (.t 22)⟩,
  ⟨some 24, none, 0, 0, .load true 2 (.t 23)⟩,
  ⟨some 25, none, 0, 0, .eqa true [1, 1] (.t 20) (.t 24)⟩])
 (.cond (.t 25)
 (.seq (.reg [⟨some 4, none, 0, 0, .mv (.k (.bool false))⟩])
 .ret)
 .skip)))
 (.reg [⟨some 15, none, 0, 0, .mv (.t 5)⟩,
  ⟨some 16, none, 0, 0, .bin .add (.t 15) (.k (.int .i64 1))⟩,
  ⟨some 5, none, 0, 0, .mv (.t 16)⟩]))))
def h27 : Fn := { np := 2, res := [.t 4], body :=
 (.seq (.reg [⟨some 4, none, 0, 0, .mv (.k (.bool false))⟩])
 (.seq (.seq (.reg [⟨some 6, none, 0, 0, .mv (.t 0)⟩,
  ⟨some 7, none, 0, 0, .len false (.t 6)⟩,
  ⟨some 8, none, 0, 0, .mv (.t 1)⟩,
  ⟨some 9, none, 0, 0, .len false (.t 8)⟩,
  ⟨some 10, none, 0, 0, .bin .neq (.t 7) (.t 9)⟩])
 (.cond (.t 10)
 (.seq (.reg [⟨some 4, none, 0, 0, .mv (.k (.bool false))⟩])
 .ret)
 .skip))
 (.seq (.seq (.reg [⟨some 5, none, 0, 0, .mv (.k (.int .i64 0))⟩])
 (.block 0 (.loop h27l0)))
 (.seq (.reg [⟨some 4, none, 0, 0, .mv (.k (.bool true))⟩])
 .ret)))) }
theorem ok27 : okFun Try.prog gl 27 h27 = true := by kernel_rfl
/- 28: headgate/headgatelaw38.made -/
def h28l0 : C := (.keep [0, 2, 4, 5, 6, 7, 8] (.seq (.seq (.reg [⟨some 19, none, 0, 0, .mv (.t 8)⟩,
  ⟨some 20, none, 0, 0, .mv (.t 0)⟩,
  ⟨some 21, none, 0, 0, .len false (.t 20)⟩,
  ⟨some 22, none, 0, 0, .bin .lss (.t 19) (.t 21)⟩,
  ⟨some 23, none, 0, 0, .mv (.t 22)⟩,
  ⟨some 24, (some (23, true)), 0, 0, .mv (.t 8)⟩,
  ⟨some 25, (some (23, true)), 0, 0, .bin .lss (.t 24) (.k (.int .i64 60))⟩,
  ⟨some 26, none, 0, 0, .pick (.t 23) (.t 25) (.k (.bool false))⟩])
 (.cond (.t 26)
 .skip
 (.exit 0)))
 (.seq (.block 1 (.seq (.reg [⟨some 29, none, 0, 0, .mv (.t 0)⟩,
  ⟨some 30, none, 0, 0, .mv (.t 8)⟩,
  ⟨some 31, none, 0, 0, .iadr 1 (.t 29) (.t 30)⟩,
  ⟨some 32, none, 0, 0, .load false 1 (.t 31)⟩,
  ⟨some 33, none, 0, 0, .call 29 [.t 32, .k (.int .i64 1048576)]⟩,
  ⟨some 9, none, 0, 0, .mv (.t 33)⟩])
 (.seq (.reg [⟨some 34, none, 0, 0, .mv (.t 9)⟩,
  ⟨some 35, none, 0, 0, .bin .quo (.t 34) (.k (.int .i64 8))⟩,
  ⟨some 36, none, 0, 0, .bin .rem (.t 35) (.k (.int .i64 4))⟩,
  ⟨some 37, none, 0, 0, .bin .add (.k (.int .i64 1)) (.t 36)⟩,
  ⟨some 38, none, 0, 0, .mv (.t 9)⟩,
  ⟨some 39, none, 0, 0, .bin .quo (.t 38) (.k (.int .i64 8))⟩,
  ⟨some 40, none, 0, 0, .bin .rem (.t 39) (.k (.int .i64 4))⟩,
  ⟨some 10, none, 0, 0, .mv (.t 37)⟩,
  ⟨some 11, none, 0, 0, .mv (.t 40)⟩])
 (.seq (.reg [⟨some 41, none, 0, 0, .mv (.t 9)⟩,
  ⟨some 42, none, 0, 0, .bin .rem (.t 41) (.k (.int .i64 8))⟩])
 (.block 2 (.seq (.reg [⟨some 49, none, 0, 0, .bin .eql (.t 42) (.k (.int .i64 0))⟩,
  ⟨some 48, none, 0, 0, .mv (.t 49)⟩])
 (.cond (.t 48)
 (.seq (.reg [⟨some 50, none, 0, 0, .mv (.t 10)⟩,
  ⟨some 51, none, 0, 0, .call 9 [.k (.int .i64 2), .t 50]⟩,
  ⟨some 12, none, 0, 0, .alloc [.int .i64 0, .int .i64 0]⟩,
  ⟨none, none, 0, 0, .store true 2 (.t 12) (.t 51)⟩])
 (.seq (.seq (.reg [⟨some 52, none, 0, 0, .mv (.t 10)⟩,
  ⟨some 53, none, 0, 0, .iada 5 1 (.t 5) (.t 52)⟩,
  ⟨some 54, none, 0, 0, .load false 1 (.t 53)⟩])
 (.cond (.t 54)
 (.reg [⟨some 55, none, 0, 0, .mv (.t 10)⟩,
  ⟨some 56, none, 0, 0, .call 9 [.k (.int .i64 3), .t 55]⟩,
  ⟨none, none, 0, 0, .store true 2 (.t 12) (.t 56)⟩])
 .skip))
 (.seq (.reg [⟨some 57, none, 0, 0, .mv (.t 10)⟩,
  ⟨some 58, none, 0, 0, .mv (.t 10)⟩,
  ⟨some 59, none, 0, 0, .iada 5 1 (.t 5) (.t 58)⟩,
  ⟨some 60, none, 0, 0, .load false 1 (.t 59)⟩,
  ⟨some 61, none, 0, 0, .un .not (.t 60)⟩,
  ⟨some 62, none, 0, 0, .iada 5 1 (.t 5) (.t 57)⟩,
  ⟨none, none, 0, 0, .store false 1 (.t 62) (.t 61)⟩])
 (.reg [⟨some 63, none, 0, 0, .mv (.t 7)⟩,
  ⟨some 64, none, 0, 0, .load true 2 (.t 12)⟩,
  ⟨some 65, none, 0, 0, .bsl 2 [.int .i64 0, .int .i64 0] 1 [(0, .t 64)]⟩,
  ⟨some 66, none, 0, 0, .app 2 16 [.int .i64 0, .int .i64 0] (.t 63) (.t 65)⟩,
  ⟨some 7, none, 0, 0, .mv (.t 66)⟩]))))
 (.seq (.seq (.reg [⟨some 68, none, 0, 0, .bin .eql (.t 42) (.k (.int .i64 1))⟩,
  ⟨some 67, none, 0, 0, .mv (.t 68)⟩])
 (.cond (.t 67)
 .skip
 (.reg [⟨some 69, none, 0, 0, .bin .eql (.t 42) (.k (.int .i64 2))⟩,
  ⟨some 67, none, 0, 0, .mv (.t 69)⟩])))
 (.cond (.t 67)
 (.seq (.reg [⟨some 70, none, 0, 0, .mv (.t 11)⟩,
  ⟨some 71, none, 0, 0, .call 9 [.k (.int .i64 4), .t 70]⟩,
  ⟨some 13, none, 0, 0, .alloc [.int .i64 0, .int .i64 0]⟩,
  ⟨none, none, 0, 0, .store true 2 (.t 13) (.t 71)⟩])
 (.seq (.seq (.reg [⟨some 72, none, 0, 0, .mv (.t 11)⟩,
  ⟨some 73, none, 0, 0, .iada 4 1 (.t 6) (.t 72)⟩,
  ⟨some 74, none, 0, 0, .load false 1 (.t 73)⟩])
 (.cond (.t 74)
 (.reg [⟨some 75, none, 0, 0, .mv (.t 11)⟩,
  ⟨some 76, none, 0, 0, .call 9 [.k (.int .i64 5), .t 75]⟩,
  ⟨none, none, 0, 0, .store true 2 (.t 13) (.t 76)⟩])
 .skip))
 (.seq (.reg [⟨some 77, none, 0, 0, .mv (.t 11)⟩,
  ⟨some 78, none, 0, 0, .mv (.t 11)⟩,
  ⟨some 79, none, 0, 0, .iada 4 1 (.t 6) (.t 78)⟩,
  ⟨some 80, none, 0, 0, .load false 1 (.t 79)⟩,
  ⟨some 81, none, 0, 0, .un .not (.t 80)⟩,
  ⟨some 82, none, 0, 0, .iada 4 1 (.t 6) (.t 77)⟩,
  ⟨none, none, 0, 0, .store false 1 (.t 82) (.t 81)⟩])
 (.reg [⟨some 83, none, 0, 0, .mv (.t 7)⟩,
  ⟨some 84, none, 0, 0, .load true 2 (.t 13)⟩,
  ⟨some 85, none, 0, 0, .bsl 2 [.int .i64 0, .int .i64 0] 1 [(0, .t 84)]⟩,
  ⟨some 86, none, 0, 0, .app 2 16 [.int .i64 0, .int .i64 0] (.t 83) (.t 85)⟩,
  ⟨some 7, none, 0, 0, .mv (.t 86)⟩]))))
 (.seq (.seq (.reg [⟨some 88, none, 0, 0, .bin .eql (.t 42) (.k (.int .i64 3))⟩,
  ⟨some 87, none, 0, 0, .mv (.t 88)⟩])
 (.cond (.t 87)
 .skip
 (.reg [⟨some 89, none, 0, 0, .bin .eql (.t 42) (.k (.int .i64 4))⟩,
  ⟨some 87, none, 0, 0, .mv (.t 89)⟩])))
 (.cond (.t 87)
 (.reg [⟨some 90, none, 0, 0, .mv (.t 7)⟩,
  ⟨some 91, none, 0, 0, .call 9 [.k (.int .i64 1), .k (.int .i64 0)]⟩,
  ⟨some 92, none, 0, 0, .bsl 2 [.int .i64 0, .int .i64 0] 1 [(0, .t 91)]⟩,
  ⟨some 93, none, 0, 0, .app 2 16 [.int .i64 0, .int .i64 0] (.t 90) (.t 92)⟩,
  ⟨some 7, none, 0, 0, .mv (.t 93)⟩])
 (.reg [⟨some 43, none, 0, 0, .mv (.t 7)⟩,
  ⟨some 44, none, 0, 0, .mv (.t 10)⟩,
  ⟨some 45, none, 0, 0, .call 9 [.k (.int .i64 1), .t 44]⟩,
  ⟨some 46, none, 0, 0, .bsl 2 [.int .i64 0, .int .i64 0] 1 [(0, .t 45)]⟩,
  ⟨some 47, none, 0, 0, .app 2 16 [.int .i64 0, .int .i64 0] (.t 43) (.t 46)⟩,
  ⟨some 7, none, 0, 0, .mv (.t 47)⟩]))))))))))))
 (.reg [⟨some 27, none, 0, 0, .mv (.t 8)⟩,
  ⟨some 28, none, 0, 0, .bin .add (.t 27) (.k (.int .i64 1))⟩,
  ⟨some 8, none, 0, 0, .mv (.t 28)⟩]))))
def h28 : Fn := { np := 1, res := [.cell 2 true 2, .t 3], body :=
 (.seq (.reg [⟨some 2, none, 0, 0, .alloc [.nils, .nils]⟩,
  ⟨some 3, none, 0, 0, .mv (.k (.nils))⟩])
 (.seq (.reg [⟨some 14, none, 0, 0, .bsl 1 [.int .i64 0] 1 [(0, .k (.int .i64 2))]⟩,
  ⟨some 15, none, 0, 0, .bsl 1 [.int .i64 0] 1 [(0, .k (.int .i64 1))]⟩,
  ⟨some 16, none, 0, 0, .build [.nils, .nils] [(0, 1, .t 14), (1, 1, .t 15)]⟩,
  ⟨some 4, none, 0, 0, .alloc [.nils, .nils]⟩,
  ⟨none, none, 0, 0, .store true 2 (.t 4) (.t 16)⟩])
 (.seq (.reg [⟨some 5, none, 0, 0, .alloc [.bool false, .bool false, .bool false, .bool false, .bool false]⟩])
 (.seq (.reg [⟨some 6, none, 0, 0, .alloc [.bool false, .bool false, .bool false, .bool false]⟩])
 (.seq (.reg [⟨some 17, none, 0, 0, .iada 5 1 (.t 5) (.k (.int .i64 2))⟩,
  ⟨none, none, 0, 0, .store false 1 (.t 17) (.k (.bool true))⟩])
 (.seq (.reg [⟨some 18, none, 0, 0, .iada 4 1 (.t 6) (.k (.int .i64 1))⟩,
  ⟨none, none, 0, 0, .store false 1 (.t 18) (.k (.bool true))⟩])
 (.seq (.reg [⟨some 7, none, 0, 0, .mv (.k (.nils))⟩])
 (.seq (.seq (.reg [⟨some 8, none, 0, 0, .mv (.k (.int .i64 0))⟩])
 (.block 0 (.loop h28l0)))
 (.seq (.reg [⟨some 94, none, 0, 0, .load true 2 (.t 4)⟩,
  ⟨some 95, none, 0, 0, .mv (.t 7)⟩,
  ⟨none, none, 0, 0, .store true 2 (.t 2) (.t 94)⟩,
  ⟨some 3, none, 0, 0, .mv (.t 95)⟩])
 .ret))))))))) }
theorem ok28 : okFun Try.prog gl 28 h28 = true := by kernel_rfl
/- 29: headgate/headgatekit.Mod -/
def h29 : Fn := { np := 2, res := [.t 4], body :=
 (.seq (.reg [⟨some 4, none, 0, 0, .mv (.k (.int .i64 0))⟩])
 (.seq (.seq (.reg [⟨some 5, none, 0, 0, .mv (.t 1)⟩,
  ⟨some 6, none, 0, 0, .bin .lss (.t 5) (.k (.int .i64 1))⟩])
 (.cond (.t 6)
 (.seq (.reg [⟨some 4, none, 0, 0, .mv (.k (.int .i64 0))⟩])
 .ret)
 .skip))
 (.seq (.reg [⟨some 7, none, 0, 0, .mv (.t 0)⟩,
  ⟨some 8, none, 0, 0, .mv (.t 1)⟩,
  ⟨some 9, none, 0, 0, .bin .rem (.t 7) (.t 8)⟩,
  ⟨some 0, none, 0, 0, .mv (.t 9)⟩])
 (.seq (.seq (.reg [⟨some 10, none, 0, 0, .mv (.t 0)⟩,
  ⟨some 11, none, 0, 0, .bin .lss (.t 10) (.k (.int .i64 0))⟩])
 (.cond (.t 11)
 (.reg [⟨some 12, none, 0, 0, .mv (.t 0)⟩,
  ⟨some 13, none, 0, 0, .mv (.t 1)⟩,
  ⟨some 14, none, 0, 0, .bin .add (.t 12) (.t 13)⟩,
  ⟨some 0, none, 0, 0, .mv (.t 14)⟩])
 .skip))
 (.seq (.reg [⟨some 15, none, 0, 0, .mv (.t 0)⟩,
  ⟨some 4, none, 0, 0, .mv (.t 15)⟩])
 .ret))))) }
theorem ok29 : okFun Try.prog gl 29 h29 = true := by kernel_rfl
/- 30: headgate/rounds.Ends -/
def h30 : Fn := { np := 2, res := [.t 4, .t 5], body :=
 (.seq (.reg [⟨some 2, none, 0, 0, .box true 2 (.t 0)⟩,
  ⟨some 4, none, 0, 0, .mv (.k (.nils))⟩,
  ⟨some 5, none, 0, 0, .mv (.k (.int .i64 0))⟩])
 (.seq (.seq (.reg [⟨some 11, none, 0, 0, .load true 2 (.t 2)⟩,
  ⟨some 12, none, 0, 0, .mv (.t 1)⟩,
  ⟨some 13, none, 0, 0, .call 12 [.t 11, .t 12]⟩,
  ⟨some 10, none, 0, 0, .mv (.t 13)⟩,
  ⟨some 14, none, 0, 0, .ext (.t 10) 0⟩,
  ⟨some 15, none, 0, 0, .ext (.t 10) 1⟩,
  ⟨some 6, none, 0, 0, .mv (.t 14)⟩,
  ⟨some 7, none, 0, 0, .mv (.t 15)⟩])
 (.seq (.reg [⟨some 16, none, 0, 0, .mv (.t 6)⟩,
  ⟨some 17, none, 0, 0, .bin .neq (.t 16) (.k (.int .i64 0))⟩])
 (.cond (.t 17)
 (.seq (.reg [⟨some 18, none, 0, 0, .mv (.t 6)⟩,
  ⟨some 4, none, 0, 0, .mv (.k (.nils))⟩,
  ⟨some 5, none, 0, 0, .mv (.t 18)⟩])
 .ret)
 .skip)))
 (.seq (.reg [⟨some 20, none, 0, 0, .load true 2 (.t 2)⟩,
  ⟨some 21, none, 0, 0, .mv (.t 1)⟩,
  ⟨some 22, none, 0, 0, .call 39 [.t 20, .t 21]⟩,
  ⟨some 19, none, 0, 0, .mv (.t 22)⟩,
  ⟨some 23, none, 0, 0, .ext (.t 19) 0⟩,
  ⟨some 24, none, 0, 0, .ext (.t 19) 1⟩,
  ⟨some 9, none, 0, 0, .alloc [.int .u16 0, .bool false, .bool false, .bool false, .bool false, .bool false, .bool false, .bool false, .bool false, .bool false, .bool false, .bool false, .bool false, .bool false, .bool false, .bool false, .bool false, .bool false, .bool false, .bool false, .bool false, .bool false, .bool false, .bool false, .bool false, .bool false, .bool false, .bool false, .bool false, .bool false, .bool false, .bool false, .bool false, .bool false, .bool false, .bool false, .bool false, .bool false, .bool false, .bool false, .bool false, .bool false, .bool false, .bool false, .bool false, .bool false, .bool false, .bool false, .bool false, .bool false, .bool false, .bool false, .bool false, .bool false, .bool false, .bool false, .bool false, .bool false, .bool false, .bool false, .bool false, .bool false, .bool false, .bool false, .bool false, .bool false, .bool false, .bool false, .bool false, .bool false, .bool false, .bool false, .bool false, .bool false, .bool false, .bool false, .bool false, .bool false, .bool false, .bool false, .bool false, .bool false, .bool false, .bool false, .bool false, .bool false, .bool false, .bool false, .bool false, .bool false, .bool false, .bool false, .bool false, .bool false, .bool false, .bool false, .bool false, .bool false, .bool false, .bool false, .bool false, .bool false, .bool false, .bool false, .bool false, .bool false, .bool false, .bool false, .bool false, .bool false, .bool false, .bool false, .bool false, .bool false, .bool false, .bool false, .bool false, .bool false, .bool false, .bool false, .bool false, .bool false, .bool false, .bool false, .bool false, .bool false, .bool false, .bool false, .bool false, .bool false, .bool false, .bool false, .bool false, .bool false, .bool false, .bool false, .bool false, .bool false, .bool false, .bool false, .bool false, .bool false, .bool false, .bool false, .bool false, .bool false, .bool false, .bool false, .bool false, .bool false, .bool false, .bool false, .bool false, .bool false, .bool false, .bool false, .bool false, .bool false, .bool false, .bool false, .bool false, .bool false, .bool false, .bool false, .bool false, .bool false, .bool false, .bool false, .bool false, .bool false, .bool false, .bool false, .bool false, .bool false, .bool false, .bool false, .bool false, .bool false, .bool false, .bool false, .bool false, .bool false, .bool false, .bool false, .bool false, .bool false, .bool false, .bool false, .bool false, .bool false, .bool false, .bool false, .bool false, .bool false, .bool false, .bool false, .bool false, .bool false, .bool false, .bool false, .bool false, .bool false, .bool false, .bool false, .bool false, .bool false, .bool false, .bool false, .bool false, .bool false, .bool false, .bool false, .bool false, .bool false, .bool false, .bool false, .bool false, .bool false, .bool false, .bool false, .bool false, .bool false, .bool false, .bool false, .bool false, .bool false, .bool false, .bool false, .bool false, .bool false, .bool false, .bool false, .bool false, .bool false, .bool false, .bool false, .bool false, .bool false, .bool false, .bool false, .bool false, .bool false, .bool false, .bool false, .bool false, .bool false, .bool false, .bool false, .bool false, .bool false, .bool false, .bool false, .bool false, .bool false, .bool false, .bool false, .bool false, .int .i64 0]⟩,
  ⟨some 8, none, 0, 0, .mv (.t 23)⟩,
  ⟨none, none, 0, 0, .store true 258 (.t 9) (.t 24)⟩])
 (.seq (.reg [⟨some 25, none, 0, 0, .mv (.t 8)⟩,
  ⟨some 4, none, 0, 0, .mv (.t 25)⟩,
  ⟨some 5, none, 0, 0, .mv (.k (.int .i64 0))⟩])
 .ret)))) }
theorem ok30 : okFun Try.prog gl 30 h30 = true := by kernel_rfl
/- 31: headgate/headgatekit.Has -/
def h31l0 : C := (.keep [0, 1, 5] (.seq (.seq (.reg [⟨some 6, none, 0, 0, .mv (.t 5)⟩,
  ⟨some 7, none, 0, 0, .mv (.t 0)⟩,
  ⟨some 8, none, 0, 0, .len false (.t 7)⟩,
  ⟨some 9, none, 0, 0, .bin .lss (.t 6) (.t 8)⟩])
 (.cond (.t 9)
 .skip
 (.exit 0)))
 (.seq (.block 1 (.seq (.reg [⟨some 12, none, 0, 0, .mv (.t 0)⟩,
  ⟨some 13, none, 0, 0, .mv (.t 5)⟩,
  ⟨some 14, none, 0, 0, .iadr 1 (.t 12) (.t 13)⟩,
  ⟨some 15, none, 0, 0, .load false 1 (.t 14)⟩,
  ⟨some 16, none, 0, 0, .mv (.t 1)⟩,
  ⟨some 17, none, 0, 0, .bin .eql (.t 15) (.t 16)⟩])
 (.cond (.t 17)
 (.seq (.reg [⟨some 4, none, 0, 0, .mv (.k (.bool true))⟩])
 .ret)
 .skip)))
 (.reg [⟨some 10, none, 0, 0, .mv (.t 5)⟩,
  ⟨some 11, none, 0, 0, .bin .add (.t 10) (.k (.int .i64 1))⟩,
  ⟨some 5, none, 0, 0, .mv (.t 11)⟩]))))
def h31 : Fn := { np := 2, res := [.t 4], body :=
 (.seq (.reg [⟨some 4, none, 0, 0, .mv (.k (.bool false))⟩])
 (.seq (.seq (.reg [⟨some 5, none, 0, 0, .mv (.k (.int .i64 0))⟩])
 (.block 0 (.loop h31l0)))
 (.seq (.reg [⟨some 4, none, 0, 0, .mv (.k (.bool false))⟩])
 .ret))) }
theorem ok31 : okFun Try.prog gl 31 h31 = true := by kernel_rfl
/- 32: headgate/headgatekit.At -/
def h32 : Fn := { np := 2, res := [.t 4], body :=
 (.seq (.reg [⟨some 4, none, 0, 0, .mv (.k (.int .i64 0))⟩])
 (.seq (.seq (.reg [⟨some 5, none, 0, 0, .mv (.t 1)⟩,
  ⟨some 6, none, 0, 0, .bin .lss (.t 5) (.k (.int .i64 0))⟩,
  ⟨some 7, none, 0, 0, .mv (.t 6)⟩,
  ⟨some 8, (some (7, false)), 0, 0, .mv (.t 1)⟩,
  ⟨some 9, (some (7, false)), 0, 0, .mv (.t 0)⟩,
  ⟨some 10, (some (7, false)), 0, 0, .len false (.t 9)⟩,
  ⟨some 11, (some (7, false)), 0, 0, .bin .geq (.t 8) (.t 10)⟩,
  ⟨some 12, none, 0, 0, .pick (.t 7) (.k (.bool true)) (.t 11)⟩])
 (.cond (.t 12)
 (.seq (.reg [⟨some 4, none, 0, 0, .mv (.k (.int .i64 0))⟩])
 .ret)
 .skip))
 (.seq (.reg [⟨some 13, none, 0, 0, .mv (.t 0)⟩,
  ⟨some 14, none, 0, 0, .mv (.t 1)⟩,
  ⟨some 15, none, 0, 0, .iadr 1 (.t 13) (.t 14)⟩,
  ⟨some 16, none, 0, 0, .load false 1 (.t 15)⟩,
  ⟨some 4, none, 0, 0, .mv (.t 16)⟩])
 .ret))) }
theorem ok32 : okFun Try.prog gl 32 h32 = true := by kernel_rfl
/- 33: headgate/rounds.Is -/
def h33 : Fn := { np := 2, res := [.t 4, .t 5], body :=
 (.seq (.reg [⟨some 2, none, 0, 0, .box true 2 (.t 0)⟩,
  ⟨some 4, none, 0, 0, .mv (.k (.bool false))⟩,
  ⟨some 5, none, 0, 0, .mv (.k (.int .i64 0))⟩])
 (.seq (.reg [⟨some 9, none, 0, 0, .load true 2 (.t 2)⟩,
  ⟨some 10, none, 0, 0, .mv (.t 1)⟩,
  ⟨some 11, none, 0, 0, .call 30 [.t 9, .t 10]⟩,
  ⟨some 8, none, 0, 0, .mv (.t 11)⟩,
  ⟨some 12, none, 0, 0, .ext (.t 8) 0⟩,
  ⟨some 13, none, 0, 0, .ext (.t 8) 1⟩,
  ⟨some 6, none, 0, 0, .mv (.t 12)⟩,
  ⟨some 7, none, 0, 0, .mv (.t 13)⟩])
 (.seq (.reg [⟨some 14, none, 0, 0, .mv (.t 6)⟩,
  ⟨some 15, none, 0, 0, .mv (.t 1)⟩,
  ⟨some 16, none, 0, 0, .len false (.t 15)⟩,
  ⟨some 17, none, 0, 0, .bsl 1 [.int .i64 0] 1 [(0, .t 16)]⟩,
  ⟨some 18, none, 0, 0, .call 49 [.t 14, .t 17]⟩,
  ⟨some 19, none, 0, 0, .mv (.t 7)⟩,
  ⟨some 4, none, 0, 0, .mv (.t 18)⟩,
  ⟨some 5, none, 0, 0, .mv (.t 19)⟩])
 .ret))) }
theorem ok33 : okFun Try.prog gl 33 h33 = true := by kernel_rfl
/- 34: headgate/headgateref38.Ends -/
def h34 : Fn := { np := 2, res := [.t 4, .t 5], body :=
 (.seq (.reg [⟨some 2, none, 0, 0, .box true 2 (.t 0)⟩,
  ⟨some 4, none, 0, 0, .mv (.k (.nils))⟩,
  ⟨some 5, none, 0, 0, .mv (.k (.int .i64 0))⟩])
 (.seq (.reg [⟨some 11, none, 0, 0, .load true 2 (.t 2)⟩,
  ⟨some 12, none, 0, 0, .mv (.t 1)⟩,
  ⟨some 13, none, 0, 0, .call 21 [.t 11, .t 12]⟩,
  ⟨some 10, none, 0, 0, .mv (.t 13)⟩,
  ⟨some 14, none, 0, 0, .ext (.t 10) 0⟩,
  ⟨some 15, none, 0, 0, .ext (.t 10) 1⟩,
  ⟨some 6, none, 0, 0, .mv (.t 14)⟩,
  ⟨some 7, none, 0, 0, .mv (.t 15)⟩])
 (.seq (.seq (.reg [⟨some 16, none, 0, 0, .mv (.t 6)⟩,
  ⟨some 17, none, 0, 0, .bin .neq (.t 16) (.k (.int .i64 0))⟩])
 (.cond (.t 17)
 (.seq (.reg [⟨some 18, none, 0, 0, .mv (.t 6)⟩,
  ⟨some 4, none, 0, 0, .mv (.k (.nils))⟩,
  ⟨some 5, none, 0, 0, .mv (.t 18)⟩])
 .ret)
 .skip))
 (.seq (.reg [⟨some 20, none, 0, 0, .load true 2 (.t 2)⟩,
  ⟨some 21, none, 0, 0, .mv (.t 1)⟩,
  ⟨some 22, none, 0, 0, .call 50 [.t 20, .t 21]⟩,
  ⟨some 19, none, 0, 0, .mv (.t 22)⟩,
  ⟨some 23, none, 0, 0, .ext (.t 19) 0⟩,
  ⟨some 24, none, 0, 0, .ext (.t 19) 1⟩,
  ⟨some 9, none, 0, 0, .alloc [.nils, .nils]⟩,
  ⟨some 8, none, 0, 0, .mv (.t 23)⟩,
  ⟨none, none, 0, 0, .store true 2 (.t 9) (.t 24)⟩])
 (.seq (.reg [⟨some 25, none, 0, 0, .mv (.t 8)⟩,
  ⟨some 4, none, 0, 0, .mv (.t 25)⟩,
  ⟨some 5, none, 0, 0, .mv (.k (.int .i64 0))⟩])
 .ret))))) }
theorem ok34 : okFun Try.prog gl 34 h34 = true := by kernel_rfl
/- 35: headgate/headgateref38.Owed -/
def h35 : Fn := { np := 2, res := [.t 4, .t 5, .t 6], body :=
 (.seq (.reg [⟨some 2, none, 0, 0, .box true 2 (.t 0)⟩,
  ⟨some 4, none, 0, 0, .mv (.k (.nils))⟩,
  ⟨some 5, none, 0, 0, .mv (.k (.nils))⟩,
  ⟨some 6, none, 0, 0, .mv (.k (.int .i64 0))⟩])
 (.seq (.reg [⟨some 12, none, 0, 0, .load true 2 (.t 2)⟩,
  ⟨some 13, none, 0, 0, .mv (.t 1)⟩,
  ⟨some 14, none, 0, 0, .call 21 [.t 12, .t 13]⟩,
  ⟨some 11, none, 0, 0, .mv (.t 14)⟩,
  ⟨some 15, none, 0, 0, .ext (.t 11) 0⟩,
  ⟨some 16, none, 0, 0, .ext (.t 11) 1⟩,
  ⟨some 7, none, 0, 0, .mv (.t 15)⟩,
  ⟨some 8, none, 0, 0, .mv (.t 16)⟩])
 (.seq (.seq (.reg [⟨some 17, none, 0, 0, .mv (.t 7)⟩,
  ⟨some 18, none, 0, 0, .bin .neq (.t 17) (.k (.int .i64 0))⟩])
 (.cond (.t 18)
 (.seq (.reg [⟨some 19, none, 0, 0, .mv (.t 7)⟩,
  ⟨some 4, none, 0, 0, .mv (.k (.nils))⟩,
  ⟨some 5, none, 0, 0, .mv (.k (.nils))⟩,
  ⟨some 6, none, 0, 0, .mv (.t 19)⟩])
 .ret)
 .skip))
 (.seq (.reg [⟨some 21, none, 0, 0, .load true 2 (.t 2)⟩,
  ⟨some 22, none, 0, 0, .mv (.t 1)⟩,
  ⟨some 23, none, 0, 0, .call 50 [.t 21, .t 22]⟩,
  ⟨some 20, none, 0, 0, .mv (.t 23)⟩,
  ⟨some 24, none, 0, 0, .ext (.t 20) 0⟩,
  ⟨some 25, none, 0, 0, .ext (.t 20) 1⟩,
  ⟨some 10, none, 0, 0, .alloc [.nils, .nils]⟩,
  ⟨some 9, none, 0, 0, .mv (.t 24)⟩,
  ⟨none, none, 0, 0, .store true 2 (.t 10) (.t 25)⟩])
 (.seq (.drw [⟨some 26, none, 0, 0, .fadr 0 (.t 10)⟩,
  ⟨some 27, none, 0, 0, .load false 1 (.t 26)⟩,
  ⟨some 28, none, 0, 0, .fadr 1 (.t 10)⟩,
  ⟨some 29, none, 0, 0, .load false 1 (.t 28)⟩,
  ⟨some 4, none, 0, 0, .mv (.t 27)⟩,
  ⟨some 5, none, 0, 0, .mv (.t 29)⟩,
  ⟨some 6, none, 0, 0, .mv (.k (.int .i64 0))⟩])
 .ret))))) }
theorem ok35 : okFun Try.prog gl 35 h35 = true := by kernel_rfl
/- 36: headgate/headgateref38.Is -/
def h36 : Fn := { np := 2, res := [.t 4, .t 5], body :=
 (.seq (.reg [⟨some 2, none, 0, 0, .box true 2 (.t 0)⟩,
  ⟨some 4, none, 0, 0, .mv (.k (.bool false))⟩,
  ⟨some 5, none, 0, 0, .mv (.k (.int .i64 0))⟩])
 (.seq (.reg [⟨some 9, none, 0, 0, .load true 2 (.t 2)⟩,
  ⟨some 10, none, 0, 0, .mv (.t 1)⟩,
  ⟨some 11, none, 0, 0, .call 34 [.t 9, .t 10]⟩,
  ⟨some 8, none, 0, 0, .mv (.t 11)⟩,
  ⟨some 12, none, 0, 0, .ext (.t 8) 0⟩,
  ⟨some 13, none, 0, 0, .ext (.t 8) 1⟩,
  ⟨some 6, none, 0, 0, .mv (.t 12)⟩,
  ⟨some 7, none, 0, 0, .mv (.t 13)⟩])
 (.seq (.reg [⟨some 14, none, 0, 0, .mv (.t 6)⟩,
  ⟨some 15, none, 0, 0, .len false (.t 14)⟩,
  ⟨some 16, none, 0, 0, .bin .eql (.t 15) (.k (.int .i64 1))⟩,
  ⟨some 17, none, 0, 0, .mv (.t 16)⟩,
  ⟨some 18, (some (17, true)), 0, 0, .mv (.t 6)⟩,
  ⟨some 19, (some (17, true)), 0, 0, .iadr 1 (.t 18) (.k (.int .i64 0))⟩,
  ⟨some 20, (some (17, true)), 0, 0, .load false 1 (.t 19)⟩,
  ⟨some 21, (some (17, true)), 0, 0, .mv (.t 1)⟩,
  ⟨some 22, (some (17, true)), 0, 0, .len false (.t 21)⟩,
  ⟨some 23, (some (17, true)), 0, 0, .bin .eql (.t 20) (.t 22)⟩,
  ⟨some 24, none, 0, 0, .pick (.t 17) (.t 23) (.k (.bool false))⟩,
  ⟨some 25, none, 0, 0, .mv (.t 7)⟩,
  ⟨some 4, none, 0, 0, .mv (.t 24)⟩,
  ⟨some 5, none, 0, 0, .mv (.t 25)⟩])
 .ret))) }
theorem ok36 : okFun Try.prog gl 36 h36 = true := by kernel_rfl
/- 37: headgate/rounds.Within -/
def h37 : Fn := { np := 4, res := [.t 8, .t 9], body :=
 (.seq (.reg [⟨some 4, none, 0, 0, .box true 2 (.t 0)⟩,
  ⟨some 8, none, 0, 0, .mv (.k (.int .i64 0))⟩,
  ⟨some 9, none, 0, 0, .mv (.k (.int .i64 0))⟩])
 (.seq (.seq (.reg [⟨some 17, none, 0, 0, .load true 2 (.t 4)⟩,
  ⟨some 18, none, 0, 0, .mv (.t 1)⟩,
  ⟨some 19, none, 0, 0, .call 12 [.t 17, .t 18]⟩,
  ⟨some 16, none, 0, 0, .mv (.t 19)⟩,
  ⟨some 20, none, 0, 0, .ext (.t 16) 0⟩,
  ⟨some 21, none, 0, 0, .ext (.t 16) 1⟩,
  ⟨some 10, none, 0, 0, .mv (.t 20)⟩,
  ⟨some 11, none, 0, 0, .mv (.t 21)⟩])
 (.seq (.reg [⟨some 22, none, 0, 0, .mv (.t 10)⟩,
  ⟨some 23, none, 0, 0, .bin .neq (.t 22) (.k (.int .i64 0))⟩])
 (.cond (.t 23)
 (.seq (.reg [⟨some 24, none, 0, 0, .mv (.t 10)⟩,
  ⟨some 8, none, 0, 0, .mv (.k (.int .i64 0))⟩,
  ⟨some 9, none, 0, 0, .mv (.t 24)⟩])
 .ret)
 .skip)))
 (.seq (.seq (.reg [⟨some 25, none, 0, 0, .mv (.t 2)⟩,
  ⟨some 26, none, 0, 0, .bin .lss (.t 25) (.k (.int .i64 0))⟩,
  ⟨some 27, none, 0, 0, .mv (.t 26)⟩,
  ⟨some 28, (some (27, false)), 0, 0, .mv (.t 3)⟩,
  ⟨some 29, (some (27, false)), 0, 0, .mv (.t 2)⟩,
  ⟨some 30, (some (27, false)), 0, 0, .bin .lss (.t 28) (.t 29)⟩,
  ⟨some 31, none, 0, 0, .pick (.t 27) (.k (.bool true)) (.t 30)⟩,
  ⟨some 32, none, 0, 0, .mv (.t 31)⟩,
  ⟨some 33, (some (32, false)), 0, 0, .mv (.t 3)⟩,
  ⟨some 34, (some (32, false)), 0, 0, .mv (.t 1)⟩,
  ⟨some 35, (some (32, false)), 0, 0, .len false (.t 34)⟩,
  ⟨some 36, (some (32, false)), 0, 0, .bin .gtr (.t 33) (.t 35)⟩,
  ⟨some 37, none, 0, 0, .pick (.t 32) (.k (.bool true)) (.t 36)⟩])
 (.cond (.t 37)
 (.seq (.reg [⟨some 8, none, 0, 0, .mv (.k (.int .i64 0))⟩,
  ⟨some 9, none, 0, 0, .mv (.k (.int .i64 2))⟩])
 .ret)
 .skip))
 (.seq (.drw [⟨some 39, none, 0, 0, .load true 2 (.t 4)⟩,
  ⟨some 40, none, 0, 0, .mv (.t 1)⟩,
  ⟨some 41, none, 0, 0, .mv (.t 2)⟩,
  ⟨some 42, none, 0, 0, .sl 2 (.t 40) none (some (.t 41)) none⟩,
  ⟨some 43, none, 0, 0, .call 23 [.t 39, .t 42]⟩,
  ⟨some 38, none, 1, 1, .mv (.t 43)⟩,
  ⟨some 44, none, 1, 1, .ext (.t 38) 0⟩,
  ⟨some 45, none, 1, 2, .ext (.t 38) 1⟩,
  ⟨some 12, none, 0, 1, .alloc [.nils, .nils]⟩,
  ⟨none, none, 0, 0, .store true 2 (.t 12) (.t 44)⟩,
  ⟨some 13, none, 2, 2, .mv (.t 45)⟩])
 (.seq (.drw [⟨some 47, none, 0, 0, .load true 2 (.t 12)⟩,
  ⟨some 48, none, 0, 0, .mv (.t 1)⟩,
  ⟨some 49, none, 0, 0, .mv (.t 2)⟩,
  ⟨some 50, none, 0, 0, .mv (.t 3)⟩,
  ⟨some 51, none, 0, 0, .sl 2 (.t 48) (some (.t 49)) (some (.t 50)) none⟩,
  ⟨some 52, none, 0, 0, .call 39 [.t 47, .t 51]⟩,
  ⟨some 46, none, 1, 1, .mv (.t 52)⟩,
  ⟨some 53, none, 1, 1, .ext (.t 46) 0⟩,
  ⟨some 54, none, 1, 1, .ext (.t 46) 1⟩,
  ⟨some 15, none, 0, 1, .alloc [.int .u16 0, .bool false, .bool false, .bool false, .bool false, .bool false, .bool false, .bool false, .bool false, .bool false, .bool false, .bool false, .bool false, .bool false, .bool false, .bool false, .bool false, .bool false, .bool false, .bool false, .bool false, .bool false, .bool false, .bool false, .bool false, .bool false, .bool false, .bool false, .bool false, .bool false, .bool false, .bool false, .bool false, .bool false, .bool false, .bool false, .bool false, .bool false, .bool false, .bool false, .bool false, .bool false, .bool false, .bool false, .bool false, .bool false, .bool false, .bool false, .bool false, .bool false, .bool false, .bool false, .bool false, .bool false, .bool false, .bool false, .bool false, .bool false, .bool false, .bool false, .bool false, .bool false, .bool false, .bool false, .bool false, .bool false, .bool false, .bool false, .bool false, .bool false, .bool false, .bool false, .bool false, .bool false, .bool false, .bool false, .bool false, .bool false, .bool false, .bool false, .bool false, .bool false, .bool false, .bool false, .bool false, .bool false, .bool false, .bool false, .bool false, .bool false, .bool false, .bool false, .bool false, .bool false, .bool false, .bool false, .bool false, .bool false, .bool false, .bool false, .bool false, .bool false, .bool false, .bool false, .bool false, .bool false, .bool false, .bool false, .bool false, .bool false, .bool false, .bool false, .bool false, .bool false, .bool false, .bool false, .bool false, .bool false, .bool false, .bool false, .bool false, .bool false, .bool false, .bool false, .bool false, .bool false, .bool false, .bool false, .bool false, .bool false, .bool false, .bool false, .bool false, .bool false, .bool false, .bool false, .bool false, .bool false, .bool false, .bool false, .bool false, .bool false, .bool false, .bool false, .bool false, .bool false, .bool false, .bool false, .bool false, .bool false, .bool false, .bool false, .bool false, .bool false, .bool false, .bool false, .bool false, .bool false, .bool false, .bool false, .bool false, .bool false, .bool false, .bool false, .bool false, .bool false, .bool false, .bool false, .bool false, .bool false, .bool false, .bool false, .bool false, .bool false, .bool false, .bool false, .bool false, .bool false, .bool false, .bool false, .bool false, .bool false, .bool false, .bool false, .bool false, .bool false, .bool false, .bool false, .bool false, .bool false, .bool false, .bool false, .bool false, .bool false, .bool false, .bool false, .bool false, .bool false, .bool false, .bool false, .bool false, .bool false, .bool false, .bool false, .bool false, .bool false, .bool false, .bool false, .bool false, .bool false, .bool false, .bool false, .bool false, .bool false, .bool false, .bool false, .bool false, .bool false, .bool false, .bool false, .bool false, .bool false, .bool false, .bool false, .bool false, .bool false, .bool false, .bool false, .bool false, .bool false, .bool false, .bool false, .bool false, .bool false, .bool false, .bool false, .bool false, .bool false, .bool false, .bool false, .bool false, .bool false, .bool false, .bool false, .bool false, .bool false, .bool false, .bool false, .bool false, .bool false, .bool false, .bool false, .bool false, .bool false, .bool false, .bool false, .bool false, .int .i64 0]⟩,
  ⟨some 14, none, 1, 1, .mv (.t 53)⟩,
  ⟨none, none, 0, 0, .store true 258 (.t 15) (.t 54)⟩])
 (.seq (.reg [⟨some 55, none, 0, 0, .mv (.t 14)⟩,
  ⟨some 56, none, 0, 0, .len false (.t 55)⟩,
  ⟨some 8, none, 0, 0, .mv (.t 56)⟩,
  ⟨some 9, none, 0, 0, .mv (.k (.int .i64 0))⟩])
 .ret)))))) }
theorem ok37 : okFun Try.prog gl 37 h37 = true := by kernel_rfl
/- 38: headgate/headgateref38.Within -/
def h38 : Fn := { np := 4, res := [.t 8, .t 9], body :=
 (.seq (.reg [⟨some 4, none, 0, 0, .box true 2 (.t 0)⟩,
  ⟨some 8, none, 0, 0, .mv (.k (.int .i64 0))⟩,
  ⟨some 9, none, 0, 0, .mv (.k (.int .i64 0))⟩])
 (.seq (.reg [⟨some 17, none, 0, 0, .load true 2 (.t 4)⟩,
  ⟨some 18, none, 0, 0, .mv (.t 1)⟩,
  ⟨some 19, none, 0, 0, .call 21 [.t 17, .t 18]⟩,
  ⟨some 16, none, 0, 0, .mv (.t 19)⟩,
  ⟨some 20, none, 0, 0, .ext (.t 16) 0⟩,
  ⟨some 21, none, 0, 0, .ext (.t 16) 1⟩,
  ⟨some 10, none, 0, 0, .mv (.t 20)⟩,
  ⟨some 11, none, 0, 0, .mv (.t 21)⟩])
 (.seq (.seq (.reg [⟨some 22, none, 0, 0, .mv (.t 10)⟩,
  ⟨some 23, none, 0, 0, .bin .neq (.t 22) (.k (.int .i64 0))⟩])
 (.cond (.t 23)
 (.seq (.reg [⟨some 24, none, 0, 0, .mv (.t 10)⟩,
  ⟨some 8, none, 0, 0, .mv (.k (.int .i64 0))⟩,
  ⟨some 9, none, 0, 0, .mv (.t 24)⟩])
 .ret)
 .skip))
 (.seq (.seq (.reg [⟨some 25, none, 0, 0, .mv (.t 2)⟩,
  ⟨some 26, none, 0, 0, .bin .lss (.t 25) (.k (.int .i64 0))⟩,
  ⟨some 27, none, 0, 0, .mv (.t 26)⟩,
  ⟨some 28, (some (27, false)), 0, 0, .mv (.t 2)⟩,
  ⟨some 29, (some (27, false)), 0, 0, .mv (.t 3)⟩,
  ⟨some 30, (some (27, false)), 0, 0, .bin .gtr (.t 28) (.t 29)⟩,
  ⟨some 31, none, 0, 0, .pick (.t 27) (.k (.bool true)) (.t 30)⟩,
  ⟨some 32, none, 0, 0, .mv (.t 31)⟩,
  ⟨some 33, (some (32, false)), 0, 0, .mv (.t 3)⟩,
  ⟨some 34, (some (32, false)), 0, 0, .mv (.t 1)⟩,
  ⟨some 35, (some (32, false)), 0, 0, .len false (.t 34)⟩,
  ⟨some 36, (some (32, false)), 0, 0, .bin .gtr (.t 33) (.t 35)⟩,
  ⟨some 37, none, 0, 0, .pick (.t 32) (.k (.bool true)) (.t 36)⟩])
 (.cond (.t 37)
 (.seq (.reg [⟨some 8, none, 0, 0, .mv (.k (.int .i64 0))⟩,
  ⟨some 9, none, 0, 0, .mv (.k (.int .i64 2))⟩])
 .ret)
 .skip))
 (.seq (.drw [⟨some 39, none, 0, 0, .load true 2 (.t 4)⟩,
  ⟨some 40, none, 0, 0, .mv (.t 1)⟩,
  ⟨some 41, none, 0, 0, .mv (.t 2)⟩,
  ⟨some 42, none, 0, 0, .sl 2 (.t 40) none (some (.t 41)) none⟩,
  ⟨some 43, none, 0, 0, .call 24 [.t 39, .t 42]⟩,
  ⟨some 38, none, 1, 1, .mv (.t 43)⟩,
  ⟨some 44, none, 1, 1, .ext (.t 38) 0⟩,
  ⟨some 45, none, 1, 2, .ext (.t 38) 1⟩,
  ⟨some 12, none, 0, 1, .alloc [.nils, .nils]⟩,
  ⟨none, none, 0, 0, .store true 2 (.t 12) (.t 44)⟩,
  ⟨some 13, none, 2, 2, .mv (.t 45)⟩])
 (.seq (.drw [⟨some 47, none, 0, 0, .load true 2 (.t 12)⟩,
  ⟨some 48, none, 0, 0, .mv (.t 1)⟩,
  ⟨some 49, none, 0, 0, .mv (.t 2)⟩,
  ⟨some 50, none, 0, 0, .mv (.t 3)⟩,
  ⟨some 51, none, 0, 0, .sl 2 (.t 48) (some (.t 49)) (some (.t 50)) none⟩,
  ⟨some 52, none, 0, 0, .call 50 [.t 47, .t 51]⟩,
  ⟨some 46, none, 1, 1, .mv (.t 52)⟩,
  ⟨some 53, none, 1, 1, .ext (.t 46) 0⟩,
  ⟨some 54, none, 1, 1, .ext (.t 46) 1⟩,
  ⟨some 15, none, 0, 1, .alloc [.nils, .nils]⟩,
  ⟨some 14, none, 1, 1, .mv (.t 53)⟩,
  ⟨none, none, 0, 0, .store true 2 (.t 15) (.t 54)⟩])
 (.seq (.reg [⟨some 55, none, 0, 0, .mv (.t 14)⟩,
  ⟨some 56, none, 0, 0, .len false (.t 55)⟩,
  ⟨some 8, none, 0, 0, .mv (.t 56)⟩,
  ⟨some 9, none, 0, 0, .mv (.k (.int .i64 0))⟩])
 .ret))))))) }
theorem ok38 : okFun Try.prog gl 38 h38 = true := by kernel_rfl
/- 39: headgate/rounds.ends -/
def h39 : Fn := { np := 2, res := [.t 4, .cell 5 true 258], body :=
 (.seq (.reg [⟨some 2, none, 0, 0, .box true 2 (.t 0)⟩,
  ⟨some 4, none, 0, 0, .mv (.k (.nils))⟩,
  ⟨some 5, none, 0, 0, .alloc [.int .u16 0, .bool false, .bool false, .bool false, .bool false, .bool false, .bool false, .bool false, .bool false, .bool false, .bool false, .bool false, .bool false, .bool false, .bool false, .bool false, .bool false, .bool false, .bool false, .bool false, .bool false, .bool false, .bool false, .bool false, .bool false, .bool false, .bool false, .bool false, .bool false, .bool false, .bool false, .bool false, .bool false, .bool false, .bool false, .bool false, .bool false, .bool false, .bool false, .bool false, .bool false, .bool false, .bool false, .bool false, .bool false, .bool false, .bool false, .bool false, .bool false, .bool false, .bool false, .bool false, .bool false, .bool false, .bool false, .bool false, .bool false, .bool false, .bool false, .bool false, .bool false, .bool false, .bool false, .bool false, .bool false, .bool false, .bool false, .bool false, .bool false, .bool false, .bool false, .bool false, .bool false, .bool false, .bool false, .bool false, .bool false, .bool false, .bool false, .bool false, .bool false, .bool false, .bool false, .bool false, .bool false, .bool false, .bool false, .bool false, .bool false, .bool false, .bool false, .bool false, .bool false, .bool false, .bool false, .bool false, .bool false, .bool false, .bool false, .bool false, .bool false, .bool false, .bool false, .bool false, .bool false, .bool false, .bool false, .bool false, .bool false, .bool false, .bool false, .bool false, .bool false, .bool false, .bool false, .bool false, .bool false, .bool false, .bool false, .bool false, .bool false, .bool false, .bool false, .bool false, .bool false, .bool false, .bool false, .bool false, .bool false, .bool false, .bool false, .bool false, .bool false, .bool false, .bool false, .bool false, .bool false, .bool false, .bool false, .bool false, .bool false, .bool false, .bool false, .bool false, .bool false, .bool false, .bool false, .bool false, .bool false, .bool false, .bool false, .bool false, .bool false, .bool false, .bool false, .bool false, .bool false, .bool false, .bool false, .bool false, .bool false, .bool false, .bool false, .bool false, .bool false, .bool false, .bool false, .bool false, .bool false, .bool false, .bool false, .bool false, .bool false, .bool false, .bool false, .bool false, .bool false, .bool false, .bool false, .bool false, .bool false, .bool false, .bool false, .bool false, .bool false, .bool false, .bool false, .bool false, .bool false, .bool false, .bool false, .bool false, .bool false, .bool false, .bool false, .bool false, .bool false, .bool false, .bool false, .bool false, .bool false, .bool false, .bool false, .bool false, .bool false, .bool false, .bool false, .bool false, .bool false, .bool false, .bool false, .bool false, .bool false, .bool false, .bool false, .bool false, .bool false, .bool false, .bool false, .bool false, .bool false, .bool false, .bool false, .bool false, .bool false, .bool false, .bool false, .bool false, .bool false, .bool false, .bool false, .bool false, .bool false, .bool false, .bool false, .bool false, .bool false, .bool false, .bool false, .bool false, .bool false, .bool false, .bool false, .bool false, .bool false, .bool false, .bool false, .bool false, .bool false, .bool false, .bool false, .bool false, .bool false, .bool false, .bool false, .bool false, .bool false, .int .i64 0]⟩])
 (.seq (.reg [⟨some 6, none, 0, 0, .alloc [.nils]⟩])
 (.seq (.reg [⟨some 7, none, 0, 0, .alloc [.int .u16 0, .bool false, .bool false, .bool false, .bool false, .bool false, .bool false, .bool false, .bool false, .bool false, .bool false, .bool false, .bool false, .bool false, .bool false, .bool false, .bool false, .bool false, .bool false, .bool false, .bool false, .bool false, .bool false, .bool false, .bool false, .bool false, .bool false, .bool false, .bool false, .bool false, .bool false, .bool false, .bool false, .bool false, .bool false, .bool false, .bool false, .bool false, .bool false, .bool false, .bool false, .bool false, .bool false, .bool false, .bool false, .bool false, .bool false, .bool false, .bool false, .bool false, .bool false, .bool false, .bool false, .bool false, .bool false, .bool false, .bool false, .bool false, .bool false, .bool false, .bool false, .bool false, .bool false, .bool false, .bool false, .bool false, .bool false, .bool false, .bool false, .bool false, .bool false, .bool false, .bool false, .bool false, .bool false, .bool false, .bool false, .bool false, .bool false, .bool false, .bool false, .bool false, .bool false, .bool false, .bool false, .bool false, .bool false, .bool false, .bool false, .bool false, .bool false, .bool false, .bool false, .bool false, .bool false, .bool false, .bool false, .bool false, .bool false, .bool false, .bool false, .bool false, .bool false, .bool false, .bool false, .bool false, .bool false, .bool false, .bool false, .bool false, .bool false, .bool false, .bool false, .bool false, .bool false, .bool false, .bool false, .bool false, .bool false, .bool false, .bool false, .bool false, .bool false, .bool false, .bool false, .bool false, .bool false, .bool false, .bool false, .bool false, .bool false, .bool false, .bool false, .bool false, .bool false, .bool false, .bool false, .bool false, .bool false, .bool false, .bool false, .bool false, .bool false, .bool false, .bool false, .bool false, .bool false, .bool false, .bool false, .bool false, .bool false, .bool false, .bool false, .bool false, .bool false, .bool false, .bool false, .bool false, .bool false, .bool false, .bool false, .bool false, .bool false, .bool false, .bool false, .bool false, .bool false, .bool false, .bool false, .bool false, .bool false, .bool false, .bool false, .bool false, .bool false, .bool false, .bool false, .bool false, .bool false, .bool false, .bool false, .bool false, .bool false, .bool false, .bool false, .bool false, .bool false, .bool false, .bool false, .bool false, .bool false, .bool false, .bool false, .bool false, .bool false, .bool false, .bool false, .bool false, .bool false, .bool false, .bool false, .bool false, .bool false, .bool false, .bool false, .bool false, .bool false, .bool false, .bool false, .bool false, .bool false, .bool false, .bool false, .bool false, .bool false, .bool false, .bool false, .bool false, .bool false, .bool false, .bool false, .bool false, .bool false, .bool false, .bool false, .bool false, .bool false, .bool false, .bool false, .bool false, .bool false, .bool false, .bool false, .bool false, .bool false, .bool false, .bool false, .bool false, .bool false, .bool false, .bool false, .bool false, .bool false, .bool false, .bool false, .bool false, .bool false, .bool false, .bool false, .bool false, .bool false, .bool false, .bool false, .bool false, .bool false, .bool false, .bool false, .int .i64 0]⟩])
 (.seq (.seq (.reg [⟨some 9, none, 0, 0, .load true 2 (.t 2)⟩,
  ⟨some 10, none, 0, 0, .mv (.t 1)⟩,
  ⟨some 11, none, 0, 0, .call 51 [.t 9, .t 10, .t 7]⟩])
 (.block 0 (.rf (.t 11) [12]
 (.reg [⟨some 8, none, 0, 0, .mv (.t 12)⟩])
 (.block 1 (.reg [⟨some 13, none, 0, 0, .load false 1 (.t 6)⟩,
  ⟨some 14, none, 0, 0, .mv (.t 8)⟩,
  ⟨some 15, none, 0, 0, .bsl 1 [.int .i64 0] 1 [(0, .t 14)]⟩,
  ⟨some 16, none, 0, 0, .app 1 8 [.int .i64 0] (.t 13) (.t 15)⟩,
  ⟨none, none, 0, 0, .store false 1 (.t 6) (.t 16)⟩])))))
 (.seq (.drw [⟨some 17, none, 0, 0, .load false 1 (.t 6)⟩,
  ⟨some 18, none, 0, 0, .load true 258 (.t 7)⟩,
  ⟨some 4, none, 0, 0, .mv (.t 17)⟩,
  ⟨none, none, 0, 0, .store true 258 (.t 5) (.t 18)⟩])
 .ret))))) }
theorem ok39 : okFun Try.prog gl 39 h39 = true := by kernel_rfl
/- 40: (headgate/rounds.procs).members -/
def h40l0 : C := (.keep [0, 3, 5] (.seq (.reg [⟨some 6, none, 0, 0, .bin .lss (.t 5) (.k (.int .i64 9))⟩])
 (.seq (.cond (.t 6)
 .skip
 (.exit 0))
 (.seq (.block 1 (.seq (.reg [⟨some 7, none, 0, 0, .mv (.t 5)⟩,
  ⟨some 4, none, 0, 0, .mv (.t 7)⟩])
 (.seq (.reg [⟨some 8, none, 0, 0, .mv (.t 0)⟩,
  ⟨some 9, none, 0, 0, .mv (.t 4)⟩,
  ⟨some 10, none, 0, 0, .call 52 [.t 9]⟩,
  ⟨some 11, none, 0, 0, .bin .and (.t 8) (.t 10)⟩,
  ⟨some 12, none, 0, 0, .bin .neq (.t 11) (.k (.int .u16 0))⟩])
 (.cond (.t 12)
 (.reg [⟨some 13, none, 0, 0, .mv (.t 3)⟩,
  ⟨some 14, none, 0, 0, .mv (.t 4)⟩,
  ⟨some 15, none, 0, 0, .bsl 1 [.int .i64 0] 1 [(0, .t 14)]⟩,
  ⟨some 16, none, 0, 0, .app 1 8 [.int .i64 0] (.t 13) (.t 15)⟩,
  ⟨some 3, none, 0, 0, .mv (.t 16)⟩])
 .skip))))
 (.reg [⟨some 17, none, 0, 0, .bin .add (.t 5) (.k (.int .i64 1))⟩,
  ⟨some 5, none, 0, 0, .mv (.t 17)⟩])))))
def h40 : Fn := { np := 1, res := [.t 2], body :=
 (.seq (.reg [⟨some 2, none, 0, 0, .mv (.k (.nils))⟩])
 (.seq (.reg [⟨some 3, none, 0, 0, .mv (.k (.nils))⟩])
 (.seq (.seq (.reg [⟨some 5, none, 0, 0, .mv (.k (.int .i64 0))⟩])
 (.block 0 (.loop h40l0)))
 (.seq (.reg [⟨some 18, none, 0, 0, .mv (.t 3)⟩,
  ⟨some 2, none, 0, 0, .mv (.t 18)⟩])
 .ret)))) }
theorem ok40 : okFun Try.prog gl 40 h40 = true := by kernel_rfl
/- 41: (headgate/rounds.state).slots -/
def h41l0 : C := (.keep [3, 7, 8] (.seq (.reg [⟨some 9, none, 0, 0, .bin .lss (.t 8) (.k (.int .i64 256))⟩])
 (.seq (.cond (.t 9)
 .skip
 (.exit 0))
 (.seq (.block 1 (.seq (.reg [⟨some 10, none, 0, 0, .mv (.t 8)⟩,
  ⟨some 11, none, 0, 0, .ida 256 1 false (.t 7) (.t 8)⟩,
  ⟨some 4, none, 0, 0, .mv (.t 10)⟩,
  ⟨some 5, none, 0, 0, .mv (.t 11)⟩])
 (.seq (.reg [⟨some 12, none, 0, 0, .mv (.t 5)⟩])
 (.cond (.t 12)
 (.reg [⟨some 13, none, 0, 0, .mv (.t 3)⟩,
  ⟨some 14, none, 0, 0, .mv (.t 4)⟩,
  ⟨some 15, none, 0, 0, .bsl 1 [.int .i64 0] 1 [(0, .t 14)]⟩,
  ⟨some 16, none, 0, 0, .app 1 8 [.int .i64 0] (.t 13) (.t 15)⟩,
  ⟨some 3, none, 0, 0, .mv (.t 16)⟩])
 .skip))))
 (.reg [⟨some 17, none, 0, 0, .bin .add (.t 8) (.k (.int .i64 1))⟩,
  ⟨some 8, none, 0, 0, .mv (.t 17)⟩])))))
def h41 : Fn := { np := 1, res := [.t 2], body :=
 (.seq (.reg [⟨some 1, none, 0, 0, .box true 257 (.t 0)⟩,
  ⟨some 2, none, 0, 0, .mv (.k (.nils))⟩])
 (.seq (.reg [⟨some 3, none, 0, 0, .mv (.k (.nils))⟩])
 (.seq (.seq (.reg [⟨some 6, none, 0, 0, .fadr 1 (.t 1)⟩,
  ⟨some 7, none, 0, 0, .load true 256 (.t 6)⟩,
  ⟨some 8, none, 0, 0, .mv (.k (.int .i64 0))⟩])
 (.block 0 (.loop h41l0)))
 (.seq (.reg [⟨some 18, none, 0, 0, .mv (.t 3)⟩,
  ⟨some 2, none, 0, 0, .mv (.t 18)⟩])
 .ret)))) }
theorem ok41 : okFun Try.prog gl 41 h41 = true := by kernel_rfl
/- 42: headgate/rounds.of -/
def h42l0 : C := (.keep [1, 2, 3, 9, 10, 11] (.seq (.reg [⟨some 12, none, 0, 0, .bin .lss (.t 11) (.t 10)⟩])
 (.seq (.cond (.t 12)
 .skip
 (.exit 0))
 (.seq (.block 1 (.seq (.reg [⟨some 13, none, 0, 0, .iadr 1 (.t 9) (.t 11)⟩,
  ⟨some 14, none, 0, 0, .load false 1 (.t 13)⟩,
  ⟨some 5, none, 0, 0, .mv (.t 14)⟩])
 (.drw [⟨some 15, none, 0, 1, .fadr 0 (.t 3)⟩,
  ⟨some 16, none, 0, 1, .load false 1 (.t 15)⟩,
  ⟨some 17, none, 0, 0, .mv (.t 5)⟩,
  ⟨some 18, none, 0, 0, .call 52 [.t 17]⟩,
  ⟨some 19, none, 1, 1, .bin .or (.t 16) (.t 18)⟩,
  ⟨some 20, none, 1, 1, .fadr 0 (.t 3)⟩,
  ⟨none, none, 0, 0, .store false 1 (.t 20) (.t 19)⟩])))
 (.reg [⟨some 21, none, 0, 0, .bin .add (.t 11) (.k (.int .i64 1))⟩,
  ⟨some 11, none, 0, 0, .mv (.t 21)⟩])))))
def h42l1 : C := (.keep [2, 3, 23, 24, 25] (.seq (.reg [⟨some 26, none, 0, 0, .bin .lss (.t 25) (.t 24)⟩])
 (.seq (.cond (.t 26)
 .skip
 (.exit 2))
 (.seq (.block 3 (.seq (.reg [⟨some 27, none, 0, 0, .iadr 1 (.t 23) (.t 25)⟩,
  ⟨some 28, none, 0, 0, .load false 1 (.t 27)⟩,
  ⟨some 7, none, 0, 0, .mv (.t 28)⟩])
 (.reg [⟨some 29, none, 0, 0, .mv (.t 7)⟩,
  ⟨some 30, none, 0, 0, .fadr 1 (.t 3)⟩,
  ⟨some 31, none, 0, 0, .iada 256 1 (.t 30) (.t 29)⟩,
  ⟨none, none, 0, 0, .store false 1 (.t 31) (.k (.bool true))⟩])))
 (.reg [⟨some 32, none, 0, 0, .bin .add (.t 25) (.k (.int .i64 1))⟩,
  ⟨some 25, none, 0, 0, .mv (.t 32)⟩])))))
def h42 : Fn := { np := 1, res := [.cell 2 true 257], body :=
 (.seq (.reg [⟨some 1, none, 0, 0, .box true 2 (.t 0)⟩,
  ⟨some 2, none, 0, 0, .alloc [.int .u16 0, .bool false, .bool false, .bool false, .bool false, .bool false, .bool false, .bool false, .bool false, .bool false, .bool false, .bool false, .bool false, .bool false, .bool false, .bool false, .bool false, .bool false, .bool false, .bool false, .bool false, .bool false, .bool false, .bool false, .bool false, .bool false, .bool false, .bool false, .bool false, .bool false, .bool false, .bool false, .bool false, .bool false, .bool false, .bool false, .bool false, .bool false, .bool false, .bool false, .bool false, .bool false, .bool false, .bool false, .bool false, .bool false, .bool false, .bool false, .bool false, .bool false, .bool false, .bool false, .bool false, .bool false, .bool false, .bool false, .bool false, .bool false, .bool false, .bool false, .bool false, .bool false, .bool false, .bool false, .bool false, .bool false, .bool false, .bool false, .bool false, .bool false, .bool false, .bool false, .bool false, .bool false, .bool false, .bool false, .bool false, .bool false, .bool false, .bool false, .bool false, .bool false, .bool false, .bool false, .bool false, .bool false, .bool false, .bool false, .bool false, .bool false, .bool false, .bool false, .bool false, .bool false, .bool false, .bool false, .bool false, .bool false, .bool false, .bool false, .bool false, .bool false, .bool false, .bool false, .bool false, .bool false, .bool false, .bool false, .bool false, .bool false, .bool false, .bool false, .bool false, .bool false, .bool false, .bool false, .bool false, .bool false, .bool false, .bool false, .bool false, .bool false, .bool false, .bool false, .bool false, .bool false, .bool false, .bool false, .bool false, .bool false, .bool false, .bool false, .bool false, .bool false, .bool false, .bool false, .bool false, .bool false, .bool false, .bool false, .bool false, .bool false, .bool false, .bool false, .bool false, .bool false, .bool false, .bool false, .bool false, .bool false, .bool false, .bool false, .bool false, .bool false, .bool false, .bool false, .bool false, .bool false, .bool false, .bool false, .bool false, .bool false, .bool false, .bool false, .bool false, .bool false, .bool false, .bool false, .bool false, .bool false, .bool false, .bool false, .bool false, .bool false, .bool false, .bool false, .bool false, .bool false, .bool false, .bool false, .bool false, .bool false, .bool false, .bool false, .bool false, .bool false, .bool false, .bool false, .bool false, .bool false, .bool false, .bool false, .bool false, .bool false, .bool false, .bool false, .bool false, .bool false, .bool false, .bool false, .bool false, .bool false, .bool false, .bool false, .bool false, .bool false, .bool false, .bool false, .bool false, .bool false, .bool false, .bool false, .bool false, .bool false, .bool false, .bool false, .bool false, .bool false, .bool false, .bool false, .bool false, .bool false, .bool false, .bool false, .bool false, .bool false, .bool false, .bool false, .bool false, .bool false, .bool false, .bool false, .bool false, .bool false, .bool false, .bool false, .bool false, .bool false, .bool false, .bool false, .bool false, .bool false, .bool false, .bool false, .bool false, .bool false, .bool false, .bool false, .bool false, .bool false, .bool false, .bool false, .bool false, .bool false, .bool false, .bool false, .bool false]⟩])
 (.seq (.reg [⟨some 3, none, 0, 0, .alloc [.int .u16 0, .bool false, .bool false, .bool false, .bool false, .bool false, .bool false, .bool false, .bool false, .bool false, .bool false, .bool false, .bool false, .bool false, .bool false, .bool false, .bool false, .bool false, .bool false, .bool false, .bool false, .bool false, .bool false, .bool false, .bool false, .bool false, .bool false, .bool false, .bool false, .bool false, .bool false, .bool false, .bool false, .bool false, .bool false, .bool false, .bool false, .bool false, .bool false, .bool false, .bool false, .bool false, .bool false, .bool false, .bool false, .bool false, .bool false, .bool false, .bool false, .bool false, .bool false, .bool false, .bool false, .bool false, .bool false, .bool false, .bool false, .bool false, .bool false, .bool false, .bool false, .bool false, .bool false, .bool false, .bool false, .bool false, .bool false, .bool false, .bool false, .bool false, .bool false, .bool false, .bool false, .bool false, .bool false, .bool false, .bool false, .bool false, .bool false, .bool false, .bool false, .bool false, .bool false, .bool false, .bool false, .bool false, .bool false, .bool false, .bool false, .bool false, .bool false, .bool false, .bool false, .bool false, .bool false, .bool false, .bool false, .bool false, .bool false, .bool false, .bool false, .bool false, .bool false, .bool false, .bool false, .bool false, .bool false, .bool false, .bool false, .bool false, .bool false, .bool false, .bool false, .bool false, .bool false, .bool false, .bool false, .bool false, .bool false, .bool false, .bool false, .bool false, .bool false, .bool false, .bool false, .bool false, .bool false, .bool false, .bool false, .bool false, .bool false, .bool false, .bool false, .bool false, .bool false, .bool false, .bool false, .bool false, .bool false, .bool false, .bool false, .bool false, .bool false, .bool false, .bool false, .bool false, .bool false, .bool false, .bool false, .bool false, .bool false, .bool false, .bool false, .bool false, .bool false, .bool false, .bool false, .bool false, .bool false, .bool false, .bool false, .bool false, .bool false, .bool false, .bool false, .bool false, .bool false, .bool false, .bool false, .bool false, .bool false, .bool false, .bool false, .bool false, .bool false, .bool false, .bool false, .bool false, .bool false, .bool false, .bool false, .bool false, .bool false, .bool false, .bool false, .bool false, .bool false, .bool false, .bool false, .bool false, .bool false, .bool false, .bool false, .bool false, .bool false, .bool false, .bool false, .bool false, .bool false, .bool false, .bool false, .bool false, .bool false, .bool false, .bool false, .bool false, .bool false, .bool false, .bool false, .bool false, .bool false, .bool false, .bool false, .bool false, .bool false, .bool false, .bool false, .bool false, .bool false, .bool false, .bool false, .bool false, .bool false, .bool false, .bool false, .bool false, .bool false, .bool false, .bool false, .bool false, .bool false, .bool false, .bool false, .bool false, .bool false, .bool false, .bool false, .bool false, .bool false, .bool false, .bool false, .bool false, .bool false, .bool false, .bool false, .bool false, .bool false, .bool false, .bool false, .bool false, .bool false, .bool false, .bool false, .bool false, .bool false, .bool false, .bool false]⟩])
 (.seq (.seq (.reg [⟨some 8, none, 0, 0, .fadr 0 (.t 1)⟩,
  ⟨some 9, none, 0, 0, .load false 1 (.t 8)⟩,
  ⟨some 10, none, 0, 0, .len false (.t 9)⟩,
  ⟨some 11, none, 0, 0, .mv (.k (.int .i64 0))⟩])
 (.block 0 (.loop h42l0)))
 (.seq (.seq (.reg [⟨some 22, none, 0, 0, .fadr 1 (.t 1)⟩,
  ⟨some 23, none, 0, 0, .load false 1 (.t 22)⟩,
  ⟨some 24, none, 0, 0, .len false (.t 23)⟩,
  ⟨some 25, none, 0, 0, .mv (.k (.int .i64 0))⟩])
 (.block 2 (.loop h42l1)))
 (.seq (.reg [⟨some 33, none, 0, 0, .load true 257 (.t 3)⟩,
  ⟨none, none, 0, 0, .store true 257 (.t 2) (.t 33)⟩])
 .ret))))) }
theorem ok42 : okFun Try.prog gl 42 h42 = true := by kernel_rfl
/- 43: (*headgate/rounds.state).step -/
def h43 : Fn := { np := 2, res := [.t 4], body :=
 (.seq (.reg [⟨some 3, none, 0, 0, .box true 2 (.t 1)⟩,
  ⟨some 4, none, 0, 0, .mv (.k (.int .i64 0))⟩])
 (.seq (.reg [⟨some 5, none, 0, 0, .mv (.k (.int .i64 1))⟩,
  ⟨some 6, none, 0, 0, .mv (.k (.int .i64 8))⟩])
 (.seq (.seq (.reg [⟨some 7, none, 0, 0, .fadr 0 (.t 3)⟩,
  ⟨some 8, none, 0, 0, .load false 1 (.t 7)⟩])
 (.block 0 (.seq (.reg [⟨some 10, none, 0, 0, .bin .eql (.t 8) (.k (.int .i64 1))⟩,
  ⟨some 9, none, 0, 0, .mv (.t 10)⟩])
 (.cond (.t 9)
 (.reg [⟨some 5, none, 0, 0, .mv (.k (.int .i64 0))⟩])
 (.seq (.seq (.reg [⟨some 12, none, 0, 0, .bin .eql (.t 8) (.k (.int .i64 2))⟩,
  ⟨some 11, none, 0, 0, .mv (.t 12)⟩])
 (.cond (.t 11)
 .skip
 (.reg [⟨some 13, none, 0, 0, .bin .eql (.t 8) (.k (.int .i64 3))⟩,
  ⟨some 11, none, 0, 0, .mv (.t 13)⟩])))
 (.cond (.t 11)
 .skip
 (.seq (.seq (.reg [⟨some 15, none, 0, 0, .bin .eql (.t 8) (.k (.int .i64 4))⟩,
  ⟨some 14, none, 0, 0, .mv (.t 15)⟩])
 (.cond (.t 14)
 .skip
 (.reg [⟨some 16, none, 0, 0, .bin .eql (.t 8) (.k (.int .i64 5))⟩,
  ⟨some 14, none, 0, 0, .mv (.t 16)⟩])))
 (.cond (.t 14)
 (.reg [⟨some 5, none, 0, 0, .mv (.k (.int .i64 0))⟩,
  ⟨some 6, none, 0, 0, .mv (.k (.int .i64 255))⟩])
 (.seq (.reg [⟨some 4, none, 0, 0, .mv (.k (.int .i64 16))⟩])
 .ret)))))))))
 (.seq (.seq (.reg [⟨some 17, none, 0, 0, .fadr 1 (.t 3)⟩,
  ⟨some 18, none, 0, 0, .load false 1 (.t 17)⟩,
  ⟨some 19, none, 0, 0, .mv (.t 5)⟩,
  ⟨some 20, none, 0, 0, .bin .lss (.t 18) (.t 19)⟩,
  ⟨some 21, none, 0, 0, .mv (.t 20)⟩,
  ⟨some 22, (some (21, false)), 0, 0, .fadr 1 (.t 3)⟩,
  ⟨some 23, (some (21, false)), 0, 0, .load false 1 (.t 22)⟩,
  ⟨some 24, (some (21, false)), 0, 0, .mv (.t 6)⟩,
  ⟨some 25, (some (21, false)), 0, 0, .bin .gtr (.t 23) (.t 24)⟩,
  ⟨some 26, none, 0, 0, .pick (.t 21) (.k (.bool true)) (.t 25)⟩])
 (.cond (.t 26)
 (.seq (.reg [⟨some 4, none, 0, 0, .mv (.k (.int .i64 2))⟩])
 .ret)
 .skip))
 (.seq (.seq (.reg [⟨some 27, none, 0, 0, .fadr 0 (.t 3)⟩,
  ⟨some 28, none, 0, 0, .load false 1 (.t 27)⟩])
 (.block 1 (.seq (.seq (.reg [⟨some 30, none, 0, 0, .bin .eql (.t 28) (.k (.int .i64 2))⟩,
  ⟨some 29, none, 0, 0, .mv (.t 30)⟩])
 (.cond (.t 29)
 .skip
 (.reg [⟨some 31, none, 0, 0, .bin .eql (.t 28) (.k (.int .i64 3))⟩,
  ⟨some 29, none, 0, 0, .mv (.t 31)⟩])))
 (.cond (.t 29)
 (.seq (.seq (.drw [⟨some 32, none, 0, 1, .mv (.t 0)⟩,
  ⟨some 33, none, 0, 1, .nilc (.t 32)⟩,
  ⟨some 34, none, 0, 1, .fadr 0 (.t 33)⟩,
  ⟨some 35, none, 0, 1, .load false 1 (.t 34)⟩,
  ⟨some 36, none, 0, 0, .fadr 1 (.t 3)⟩,
  ⟨some 37, none, 0, 0, .load false 1 (.t 36)⟩,
  ⟨some 38, none, 0, 0, .call 52 [.t 37]⟩,
  ⟨some 39, none, 1, 1, .bin .and (.t 35) (.t 38)⟩,
  ⟨some 40, none, 1, 1, .bin .neq (.t 39) (.k (.int .u16 0))⟩,
  ⟨some 41, none, 0, 1, .fadr 0 (.t 3)⟩,
  ⟨some 42, none, 0, 1, .load false 1 (.t 41)⟩,
  ⟨some 43, none, 0, 1, .bin .eql (.t 42) (.k (.int .i64 3))⟩,
  ⟨some 44, none, 1, 1, .eqb true 0 (.t 40) (.t 43)⟩])
 (.cond (.t 44)
 (.seq (.reg [⟨some 4, none, 0, 0, .mv (.k (.int .i64 9))⟩])
 .ret)
 .skip))
 (.drw [⟨some 45, none, 0, 1, .mv (.t 0)⟩,
  ⟨some 46, none, 0, 1, .nilc (.t 45)⟩,
  ⟨some 47, none, 0, 1, .fadr 0 (.t 46)⟩,
  ⟨some 48, none, 0, 1, .load false 1 (.t 47)⟩,
  ⟨some 49, none, 0, 0, .fadr 1 (.t 3)⟩,
  ⟨some 50, none, 0, 0, .load false 1 (.t 49)⟩,
  ⟨some 51, none, 0, 0, .call 52 [.t 50]⟩,
  ⟨some 52, none, 1, 1, .bin .xor (.t 48) (.t 51)⟩,
  ⟨some 53, none, 1, 1, .nilc (.t 45)⟩,
  ⟨some 54, none, 1, 1, .fadr 0 (.t 53)⟩,
  ⟨none, none, 0, 0, .store false 1 (.t 54) (.t 52)⟩]))
 (.seq (.seq (.reg [⟨some 56, none, 0, 0, .bin .eql (.t 28) (.k (.int .i64 4))⟩,
  ⟨some 55, none, 0, 0, .mv (.t 56)⟩])
 (.cond (.t 55)
 .skip
 (.reg [⟨some 57, none, 0, 0, .bin .eql (.t 28) (.k (.int .i64 5))⟩,
  ⟨some 55, none, 0, 0, .mv (.t 57)⟩])))
 (.cond (.t 55)
 (.seq (.seq (.drw [⟨some 58, none, 0, 0, .mv (.t 0)⟩,
  ⟨some 59, none, 0, 0, .fadr 1 (.t 3)⟩,
  ⟨some 60, none, 0, 0, .load false 1 (.t 59)⟩,
  ⟨some 61, none, 0, 0, .nilc (.t 58)⟩,
  ⟨some 62, none, 0, 0, .fadr 1 (.t 61)⟩,
  ⟨some 63, none, 0, 0, .iada 256 1 (.t 62) (.t 60)⟩,
  ⟨some 64, none, 0, 0, .load false 1 (.t 63)⟩,
  ⟨some 65, none, 0, 0, .fadr 0 (.t 3)⟩,
  ⟨some 66, none, 0, 0, .load false 1 (.t 65)⟩,
  ⟨some 67, none, 0, 0, .bin .eql (.t 66) (.k (.int .i64 5))⟩,
  ⟨some 68, none, 0, 0, .eqb true 0 (.t 64) (.t 67)⟩])
 (.cond (.t 68)
 (.seq (.reg [⟨some 4, none, 0, 0, .mv (.k (.int .i64 9))⟩])
 .ret)
 .skip))
 (.drw [⟨some 69, none, 0, 0, .mv (.t 0)⟩,
  ⟨some 70, none, 0, 0, .fadr 1 (.t 3)⟩,
  ⟨some 71, none, 0, 0, .load false 1 (.t 70)⟩,
  ⟨some 72, none, 0, 0, .fadr 0 (.t 3)⟩,
  ⟨some 73, none, 0, 0, .load false 1 (.t 72)⟩,
  ⟨some 74, none, 0, 0, .bin .eql (.t 73) (.k (.int .i64 4))⟩,
  ⟨some 75, none, 0, 0, .nilc (.t 69)⟩,
  ⟨some 76, none, 0, 0, .fadr 1 (.t 75)⟩,
  ⟨some 77, none, 0, 0, .iada 256 1 (.t 76) (.t 71)⟩,
  ⟨none, none, 0, 0, .store false 1 (.t 77) (.t 74)⟩]))
 .skip))))))
 (.seq (.reg [⟨some 4, none, 0, 0, .mv (.k (.int .i64 0))⟩])
 .ret)))))) }
theorem ok43 : okFun Try.prog gl 43 h43 = true := by kernel_rfl
/- 44: slices.Repeat(()headgate/api.Command,headgate/api.Command) -/
def h44l0 : C := (.keep [7, 8] (.seq (.seq (.reg [⟨some 34, none, 0, 0, .mv (.t 8)⟩,
  ⟨some 35, none, 0, 0, .mv (.t 7)⟩,
  ⟨some 36, none, 0, 0, .len false (.t 35)⟩,
  ⟨some 37, none, 0, 0, .bin .lss (.t 34) (.t 36)⟩])
 (.cond (.t 37)
 .skip
 (.exit 0)))
 (.block 1 (.drw [⟨some 38, none, 0, 1, .mv (.t 8)⟩,
  ⟨some 39, none, 0, 0, .mv (.t 7)⟩,
  ⟨some 40, none, 0, 0, .mv (.t 8)⟩,
  ⟨some 41, none, 0, 0, .sl 5 (.t 39) (some (.t 40)) none none⟩,
  ⟨some 42, none, 0, 0, .mv (.t 7)⟩,
  ⟨some 43, none, 0, 0, .mv (.t 8)⟩,
  ⟨some 44, none, 0, 0, .sl 5 (.t 42) none (some (.t 43)) none⟩,
  ⟨some 45, none, 0, 0, .copy 5 (.t 41) (.t 44)⟩,
  ⟨some 46, none, 1, 1, .bin .add (.t 38) (.t 45)⟩,
  ⟨some 8, none, 1, 1, .mv (.t 46)⟩]))))
def h44 : Fn := { np := 2, res := [.t 4], body :=
 (.seq (.reg [⟨some 4, none, 0, 0, .mv (.k (.nils))⟩])
 (.seq (.seq (.reg [⟨some 9, none, 0, 0, .mv (.t 1)⟩,
  ⟨some 10, none, 0, 0, .bin .lss (.t 9) (.k (.int .i64 0))⟩])
 (.cond (.t 10)
 .bad
 .skip))
 (.seq (.reg [⟨some 13, none, 0, 0, .mv (.t 0)⟩,
  ⟨some 14, none, 0, 0, .len false (.t 13)⟩,
  ⟨some 15, none, 0, 0, .cv .u64 (.t 14)⟩,
  ⟨some 16, none, 0, 0, .mv (.t 1)⟩,
  ⟨some 17, none, 0, 0, .cv .u64 (.t 16)⟩,
  ⟨some 18, none, 0, 0, .call 53 [.t 15, .t 17]⟩,
  ⟨some 12, none, 0, 0, .mv (.t 18)⟩,
  ⟨some 19, none, 0, 0, .ext (.t 12) 0⟩,
  ⟨some 20, none, 0, 0, .ext (.t 12) 1⟩,
  ⟨some 5, none, 0, 0, .mv (.t 19)⟩,
  ⟨some 6, none, 0, 0, .mv (.t 20)⟩])
 (.seq (.seq (.reg [⟨some 21, none, 0, 0, .mv (.t 5)⟩,
  ⟨some 22, none, 0, 0, .bin .gtr (.t 21) (.k (.int .u64 0))⟩,
  ⟨some 23, none, 0, 0, .mv (.t 22)⟩,
  ⟨some 24, (some (23, false)), 0, 0, .mv (.t 6)⟩,
  ⟨some 25, (some (23, false)), 0, 0, .bin .gtr (.t 24) (.k (.int .u64 9223372036854775807))⟩,
  ⟨some 26, none, 0, 0, .pick (.t 23) (.k (.bool true)) (.t 25)⟩])
 (.cond (.t 26)
 .bad
 .skip))
 (.seq (.reg [⟨some 28, none, 0, 0, .mv (.t 6)⟩,
  ⟨some 29, none, 0, 0, .cv .i64 (.t 28)⟩,
  ⟨some 30, none, 0, 0, .mks 5 40 [.int .i64 0, .int .i64 0, .int .i64 0, .int .i64 0, .int .u64 0] (.t 29) (.t 29)⟩,
  ⟨some 7, none, 0, 0, .mv (.t 30)⟩])
 (.seq (.reg [⟨some 31, none, 0, 0, .mv (.t 7)⟩,
  ⟨some 32, none, 0, 0, .mv (.t 0)⟩,
  ⟨some 33, none, 0, 0, .copy 5 (.t 31) (.t 32)⟩,
  ⟨some 8, none, 0, 0, .mv (.t 33)⟩])
 (.seq (.block 0 (.loop h44l0))
 (.seq (.reg [⟨some 47, none, 0, 0, .mv (.t 7)⟩,
  ⟨some 4, none, 0, 0, .mv (.t 47)⟩])
 .ret)))))))) }
theorem ok44 : okFun Try.prog gl 44 h44 = true := by kernel_rfl
/- 45: headgate/headgatekit.OwnInts -/
def h45 : Fn := { np := 1, res := [.t 2], body :=
 (.seq (.reg [⟨some 2, none, 0, 0, .mv (.k (.nils))⟩])
 (.seq (.reg [⟨some 3, none, 0, 0, .bsl 1 [.int .i64 0] 0 []⟩,
  ⟨some 4, none, 0, 0, .mv (.t 0)⟩,
  ⟨some 5, none, 0, 0, .app 1 8 [.int .i64 0] (.t 3) (.t 4)⟩,
  ⟨some 2, none, 0, 0, .mv (.t 5)⟩])
 .ret)) }
theorem ok45 : okFun Try.prog gl 45 h45 = true := by kernel_rfl
/- 46: headgate/headgateref38.next -/
def h46 : Fn := { np := 2, res := [.cell 4 true 2, .t 5], body :=
 (.seq (.reg [⟨some 2, none, 0, 0, .box true 2 (.t 0)⟩,
  ⟨some 3, none, 0, 0, .box true 2 (.t 1)⟩,
  ⟨some 4, none, 0, 0, .alloc [.nils, .nils]⟩,
  ⟨some 5, none, 0, 0, .mv (.k (.int .i64 0))⟩])
 (.seq (.reg [⟨some 6, none, 0, 0, .mv (.k (.int .i64 1))⟩,
  ⟨some 7, none, 0, 0, .mv (.k (.int .i64 8))⟩])
 (.seq (.seq (.reg [⟨some 8, none, 0, 0, .fadr 0 (.t 3)⟩,
  ⟨some 9, none, 0, 0, .load false 1 (.t 8)⟩])
 (.block 0 (.seq (.reg [⟨some 12, none, 0, 0, .bin .eql (.t 9) (.k (.int .i64 1))⟩,
  ⟨some 11, none, 0, 0, .mv (.t 12)⟩])
 (.cond (.t 11)
 (.reg [⟨some 6, none, 0, 0, .mv (.k (.int .i64 0))⟩])
 (.seq (.seq (.reg [⟨some 14, none, 0, 0, .bin .eql (.t 9) (.k (.int .i64 2))⟩,
  ⟨some 13, none, 0, 0, .mv (.t 14)⟩])
 (.cond (.t 13)
 .skip
 (.reg [⟨some 15, none, 0, 0, .bin .eql (.t 9) (.k (.int .i64 3))⟩,
  ⟨some 13, none, 0, 0, .mv (.t 15)⟩])))
 (.cond (.t 13)
 .skip
 (.seq (.seq (.reg [⟨some 17, none, 0, 0, .bin .eql (.t 9) (.k (.int .i64 4))⟩,
  ⟨some 16, none, 0, 0, .mv (.t 17)⟩])
 (.cond (.t 16)
 .skip
 (.reg [⟨some 18, none, 0, 0, .bin .eql (.t 9) (.k (.int .i64 5))⟩,
  ⟨some 16, none, 0, 0, .mv (.t 18)⟩])))
 (.cond (.t 16)
 (.reg [⟨some 6, none, 0, 0, .mv (.k (.int .i64 0))⟩,
  ⟨some 7, none, 0, 0, .mv (.k (.int .i64 255))⟩])
 (.seq (.reg [⟨some 10, none, 0, 0, .load true 2 (.t 2)⟩,
  ⟨none, none, 0, 0, .store true 2 (.t 4) (.t 10)⟩,
  ⟨some 5, none, 0, 0, .mv (.k (.int .i64 16))⟩])
 .ret)))))))))
 (.seq (.seq (.reg [⟨some 19, none, 0, 0, .fadr 1 (.t 3)⟩,
  ⟨some 20, none, 0, 0, .load false 1 (.t 19)⟩,
  ⟨some 21, none, 0, 0, .mv (.t 6)⟩,
  ⟨some 22, none, 0, 0, .bin .lss (.t 20) (.t 21)⟩,
  ⟨some 23, none, 0, 0, .mv (.t 22)⟩,
  ⟨some 24, (some (23, false)), 0, 0, .fadr 1 (.t 3)⟩,
  ⟨some 25, (some (23, false)), 0, 0, .load false 1 (.t 24)⟩,
  ⟨some 26, (some (23, false)), 0, 0, .mv (.t 7)⟩,
  ⟨some 27, (some (23, false)), 0, 0, .bin .gtr (.t 25) (.t 26)⟩,
  ⟨some 28, none, 0, 0, .pick (.t 23) (.k (.bool true)) (.t 27)⟩])
 (.cond (.t 28)
 (.seq (.reg [⟨some 29, none, 0, 0, .load true 2 (.t 2)⟩,
  ⟨none, none, 0, 0, .store true 2 (.t 4) (.t 29)⟩,
  ⟨some 5, none, 0, 0, .mv (.k (.int .i64 2))⟩])
 .ret)
 .skip))
 (.seq (.seq (.reg [⟨some 30, none, 0, 0, .fadr 0 (.t 3)⟩,
  ⟨some 31, none, 0, 0, .load false 1 (.t 30)⟩])
 (.block 1 (.seq (.reg [⟨some 33, none, 0, 0, .bin .eql (.t 31) (.k (.int .i64 2))⟩,
  ⟨some 32, none, 0, 0, .mv (.t 33)⟩])
 (.cond (.t 32)
 (.seq (.seq (.reg [⟨some 34, none, 0, 0, .fadr 0 (.t 2)⟩,
  ⟨some 35, none, 0, 0, .load false 1 (.t 34)⟩,
  ⟨some 36, none, 0, 0, .fadr 1 (.t 3)⟩,
  ⟨some 37, none, 0, 0, .load false 1 (.t 36)⟩,
  ⟨some 38, none, 0, 0, .call 54 [.t 35, .t 37]⟩])
 (.cond (.t 38)
 (.seq (.reg [⟨some 39, none, 0, 0, .load true 2 (.t 2)⟩,
  ⟨none, none, 0, 0, .store true 2 (.t 4) (.t 39)⟩,
  ⟨some 5, none, 0, 0, .mv (.k (.int .i64 9))⟩])
 .ret)
 .skip))
 (.reg [⟨some 40, none, 0, 0, .fadr 0 (.t 2)⟩,
  ⟨some 41, none, 0, 0, .load false 1 (.t 40)⟩,
  ⟨some 42, none, 0, 0, .fadr 1 (.t 3)⟩,
  ⟨some 43, none, 0, 0, .load false 1 (.t 42)⟩,
  ⟨some 44, none, 0, 0, .call 55 [.t 41, .t 43]⟩,
  ⟨some 45, none, 0, 0, .fadr 0 (.t 2)⟩,
  ⟨none, none, 0, 0, .store false 1 (.t 45) (.t 44)⟩]))
 (.seq (.reg [⟨some 47, none, 0, 0, .bin .eql (.t 31) (.k (.int .i64 3))⟩,
  ⟨some 46, none, 0, 0, .mv (.t 47)⟩])
 (.cond (.t 46)
 (.seq (.seq (.reg [⟨some 48, none, 0, 0, .fadr 0 (.t 2)⟩,
  ⟨some 49, none, 0, 0, .load false 1 (.t 48)⟩,
  ⟨some 50, none, 0, 0, .fadr 1 (.t 3)⟩,
  ⟨some 51, none, 0, 0, .load false 1 (.t 50)⟩,
  ⟨some 52, none, 0, 0, .call 54 [.t 49, .t 51]⟩,
  ⟨some 53, none, 0, 0, .un .not (.t 52)⟩])
 (.cond (.t 53)
 (.seq (.reg [⟨some 54, none, 0, 0, .load true 2 (.t 2)⟩,
  ⟨none, none, 0, 0, .store true 2 (.t 4) (.t 54)⟩,
  ⟨some 5, none, 0, 0, .mv (.k (.int .i64 9))⟩])
 .ret)
 .skip))
 (.reg [⟨some 55, none, 0, 0, .fadr 0 (.t 2)⟩,
  ⟨some 56, none, 0, 0, .load false 1 (.t 55)⟩,
  ⟨some 57, none, 0, 0, .fadr 1 (.t 3)⟩,
  ⟨some 58, none, 0, 0, .load false 1 (.t 57)⟩,
  ⟨some 59, none, 0, 0, .call 56 [.t 56, .t 58]⟩,
  ⟨some 60, none, 0, 0, .fadr 0 (.t 2)⟩,
  ⟨none, none, 0, 0, .store false 1 (.t 60) (.t 59)⟩]))
 (.seq (.reg [⟨some 62, none, 0, 0, .bin .eql (.t 31) (.k (.int .i64 4))⟩,
  ⟨some 61, none, 0, 0, .mv (.t 62)⟩])
 (.cond (.t 61)
 (.seq (.seq (.reg [⟨some 63, none, 0, 0, .fadr 1 (.t 2)⟩,
  ⟨some 64, none, 0, 0, .load false 1 (.t 63)⟩,
  ⟨some 65, none, 0, 0, .fadr 1 (.t 3)⟩,
  ⟨some 66, none, 0, 0, .load false 1 (.t 65)⟩,
  ⟨some 67, none, 0, 0, .call 54 [.t 64, .t 66]⟩])
 (.cond (.t 67)
 (.seq (.reg [⟨some 68, none, 0, 0, .load true 2 (.t 2)⟩,
  ⟨none, none, 0, 0, .store true 2 (.t 4) (.t 68)⟩,
  ⟨some 5, none, 0, 0, .mv (.k (.int .i64 9))⟩])
 .ret)
 .skip))
 (.reg [⟨some 69, none, 0, 0, .fadr 1 (.t 2)⟩,
  ⟨some 70, none, 0, 0, .load false 1 (.t 69)⟩,
  ⟨some 71, none, 0, 0, .fadr 1 (.t 3)⟩,
  ⟨some 72, none, 0, 0, .load false 1 (.t 71)⟩,
  ⟨some 73, none, 0, 0, .call 55 [.t 70, .t 72]⟩,
  ⟨some 74, none, 0, 0, .fadr 1 (.t 2)⟩,
  ⟨none, none, 0, 0, .store false 1 (.t 74) (.t 73)⟩]))
 (.seq (.reg [⟨some 76, none, 0, 0, .bin .eql (.t 31) (.k (.int .i64 5))⟩,
  ⟨some 75, none, 0, 0, .mv (.t 76)⟩])
 (.cond (.t 75)
 (.seq (.seq (.reg [⟨some 77, none, 0, 0, .fadr 1 (.t 2)⟩,
  ⟨some 78, none, 0, 0, .load false 1 (.t 77)⟩,
  ⟨some 79, none, 0, 0, .fadr 1 (.t 3)⟩,
  ⟨some 80, none, 0, 0, .load false 1 (.t 79)⟩,
  ⟨some 81, none, 0, 0, .call 54 [.t 78, .t 80]⟩,
  ⟨some 82, none, 0, 0, .un .not (.t 81)⟩])
 (.cond (.t 82)
 (.seq (.reg [⟨some 83, none, 0, 0, .load true 2 (.t 2)⟩,
  ⟨none, none, 0, 0, .store true 2 (.t 4) (.t 83)⟩,
  ⟨some 5, none, 0, 0, .mv (.k (.int .i64 9))⟩])
 .ret)
 .skip))
 (.reg [⟨some 84, none, 0, 0, .fadr 1 (.t 2)⟩,
  ⟨some 85, none, 0, 0, .load false 1 (.t 84)⟩,
  ⟨some 86, none, 0, 0, .fadr 1 (.t 3)⟩,
  ⟨some 87, none, 0, 0, .load false 1 (.t 86)⟩,
  ⟨some 88, none, 0, 0, .call 56 [.t 85, .t 87]⟩,
  ⟨some 89, none, 0, 0, .fadr 1 (.t 2)⟩,
  ⟨none, none, 0, 0, .store false 1 (.t 89) (.t 88)⟩]))
 .skip))))))))))
 (.seq (.reg [⟨some 90, none, 0, 0, .load true 2 (.t 2)⟩,
  ⟨none, none, 0, 0, .store true 2 (.t 4) (.t 90)⟩,
  ⟨some 5, none, 0, 0, .mv (.k (.int .i64 0))⟩])
 .ret)))))) }
theorem ok46 : okFun Try.prog gl 46 h46 = true := by kernel_rfl
/- 47: headgate/headgateref38.ascending -/
def h47l0 : C := (.keep [0, 1, 2, 7] (.seq (.seq (.reg [⟨some 8, none, 0, 0, .mv (.t 7)⟩,
  ⟨some 9, none, 0, 0, .mv (.t 0)⟩,
  ⟨some 10, none, 0, 0, .len false (.t 9)⟩,
  ⟨some 11, none, 0, 0, .bin .lss (.t 8) (.t 10)⟩])
 (.cond (.t 11)
 .skip
 (.exit 0)))
 (.seq (.block 1 (.seq (.seq (.reg [⟨some 14, none, 0, 0, .mv (.t 0)⟩,
  ⟨some 15, none, 0, 0, .mv (.t 7)⟩,
  ⟨some 16, none, 0, 0, .iadr 1 (.t 14) (.t 15)⟩,
  ⟨some 17, none, 0, 0, .load false 1 (.t 16)⟩,
  ⟨some 18, none, 0, 0, .mv (.t 1)⟩,
  ⟨some 19, none, 0, 0, .bin .lss (.t 17) (.t 18)⟩,
  ⟨some 20, none, 0, 0, .mv (.t 19)⟩,
  ⟨some 21, (some (20, false)), 0, 0, .mv (.t 0)⟩,
  ⟨some 22, (some (20, false)), 0, 0, .mv (.t 7)⟩,
  ⟨some 23, (some (20, false)), 0, 0, .iadr 1 (.t 21) (.t 22)⟩,
  ⟨some 24, (some (20, false)), 0, 0, .load false 1 (.t 23)⟩,
  ⟨some 25, (some (20, false)), 0, 0, .mv (.t 2)⟩,
  ⟨some 26, (some (20, false)), 0, 0, .bin .gtr (.t 24) (.t 25)⟩,
  ⟨some 27, none, 0, 0, .pick (.t 20) (.k (.bool true)) (.t 26)⟩])
 (.cond (.t 27)
 (.seq (.reg [⟨some 6, none, 0, 0, .mv (.k (.int .i64 2))⟩])
 .ret)
 .skip))
 (.seq (.drw [⟨some 28, none, 0, 0, .mv (.t 7)⟩,
  ⟨some 29, none, 0, 0, .bin .gtr (.t 28) (.k (.int .i64 0))⟩,
  ⟨some 30, none, 0, 0, .mv (.t 29)⟩,
  ⟨some 31, (some (30, true)), 0, 0, .mv (.t 0)⟩,
  ⟨some 32, (some (30, true)), 0, 0, .mv (.t 7)⟩,
  ⟨some 33, (some (30, true)), 0, 0, .iadr 1 (.t 31) (.t 32)⟩,
  ⟨some 34, (some (30, true)), 0, 0, .load false 1 (.t 33)⟩,
  ⟨some 35, (some (30, true)), 0, 0, .mv (.t 0)⟩,
  ⟨some 36, (some (30, true)), 0, 0, .mv (.t 7)⟩,
  ⟨some 37, (some (30, true)), 0, 0, .bin .sub (.t 36) (.k (.int .i64 1))⟩,
  ⟨some 38, (some (30, true)), 0, 0, .iadr 1 (.t 35) (.t 37)⟩,
  ⟨some 39, (some (30, true)), 0, 0, .load false 1 (.t 38)⟩,
  ⟨some 40, (some (30, true)), 0, 0, .bin .leq (.t 34) (.t 39)⟩,
  ⟨some 41, none, 0, 0, .pick (.t 30) (.t 40) (.k (.bool false))⟩])
 (.cond (.t 41)
 (.seq (.reg [⟨some 6, none, 0, 0, .mv (.k (.int .i64 8))⟩])
 .ret)
 .skip))))
 (.reg [⟨some 12, none, 0, 0, .mv (.t 7)⟩,
  ⟨some 13, none, 0, 0, .bin .add (.t 12) (.k (.int .i64 1))⟩,
  ⟨some 7, none, 0, 0, .mv (.t 13)⟩]))))
def h47 : Fn := { np := 3, res := [.t 6], body :=
 (.seq (.reg [⟨some 6, none, 0, 0, .mv (.k (.int .i64 0))⟩])
 (.seq (.seq (.reg [⟨some 7, none, 0, 0, .mv (.k (.int .i64 0))⟩])
 (.block 0 (.loop h47l0)))
 (.seq (.reg [⟨some 6, none, 0, 0, .mv (.k (.int .i64 0))⟩])
 .ret))) }
theorem ok47 : okFun Try.prog gl 47 h47 = true := by kernel_rfl
/- 48: (headgate/rounds.state).moment -/
def h48 : Fn := { np := 1, res := [.cell 2 true 2], body :=
 (.seq (.reg [⟨some 1, none, 0, 0, .box true 257 (.t 0)⟩,
  ⟨some 2, none, 0, 0, .alloc [.nils, .nils]⟩])
 (.seq (.drw [⟨some 3, none, 0, 0, .fadr 0 (.t 1)⟩,
  ⟨some 4, none, 0, 0, .load false 1 (.t 3)⟩,
  ⟨some 5, none, 0, 0, .call 40 [.t 4]⟩,
  ⟨some 6, none, 0, 1, .load true 257 (.t 1)⟩,
  ⟨some 7, none, 0, 0, .call 41 [.t 6]⟩,
  ⟨some 8, none, 2, 2, .build [.nils, .nils] [(0, 1, .t 5), (1, 1, .t 7)]⟩,
  ⟨none, none, 0, 0, .store true 2 (.t 2) (.t 8)⟩])
 .ret)) }
theorem ok48 : okFun Try.prog gl 48 h48 = true := by kernel_rfl
/- 49: slices.Equal(()int,int) -/
def h49l0 : C := (.keep [0, 1, 12, 13] (.seq (.reg [⟨some 14, none, 0, 0, .bin .lss (.t 13) (.t 12)⟩])
 (.seq (.cond (.t 14)
 .skip
 (.exit 0))
 (.seq (.block 1 (.seq (.reg [⟨some 15, none, 0, 0, .mv (.t 13)⟩,
  ⟨some 5, none, 0, 0, .mv (.t 15)⟩])
 (.seq (.drw [⟨some 16, none, 0, 0, .mv (.t 0)⟩,
  ⟨some 17, none, 0, 0, .mv (.t 5)⟩,
  ⟨some 18, none, 0, 0, .iadr 1 (.t 16) (.t 17)⟩,
  ⟨some 19, none, 0, 0, .load false 1 (.t 18)⟩,
  ⟨some 20, none, 0, 0, .mv (.t 1)⟩,
  ⟨some 21, none, 0, 0, .mv (.t 5)⟩,
  ⟨some 22, none, 0, 0, .iadr 1 (.t 20) (.t 21)⟩,
  ⟨some 23, none, 0, 0, .load false 1 (.t 22)⟩,
  ⟨some 24, none, 0, 0, .bin .neq (.t 19) (.t 23)⟩])
 (.cond (.t 24)
 (.seq (.reg [⟨some 4, none, 0, 0, .mv (.k (.bool false))⟩])
 .ret)
 .skip))))
 (.reg [⟨some 25, none, 0, 0, .bin .add (.t 13) (.k (.int .i64 1))⟩,
  ⟨some 13, none, 0, 0, .mv (.t 25)⟩])))))
def h49 : Fn := { np := 2, res := [.t 4], body :=
 (.seq (.reg [⟨some 4, none, 0, 0, .mv (.k (.bool false))⟩])
 (.seq (.seq (.reg [⟨some 6, none, 0, 0, .mv (.t 0)⟩,
  ⟨some 7, none, 0, 0, .len false (.t 6)⟩,
  ⟨some 8, none, 0, 0, .mv (.t 1)⟩,
  ⟨some 9, none, 0, 0, .len false (.t 8)⟩,
  ⟨some 10, none, 0, 0, .bin .neq (.t 7) (.t 9)⟩])
 (.cond (.t 10)
 (.seq (.reg [⟨some 4, none, 0, 0, .mv (.k (.bool false))⟩])
 .ret)
 .skip))
 (.seq (.seq (.reg [⟨some 11, none, 0, 0, .mv (.t 0)⟩,
  ⟨some 12, none, 0, 0, .len false (.t 11)⟩,
  ⟨some 13, none, 0, 0, .mv (.k (.int .i64 0))⟩])
 (.block 0 (.loop h49l0)))
 (.seq (.reg [⟨some 4, none, 0, 0, .mv (.k (.bool true))⟩])
 .ret)))) }
theorem ok49 : okFun Try.prog gl 49 h49 = true := by kernel_rfl
/- 50: headgate/headgateref38.cut -/
def h50l0 : C := (.keep [1, 2, 5, 6, 7, 8] (.seq (.seq (.reg [⟨some 11, none, 0, 0, .mv (.t 8)⟩,
  ⟨some 12, none, 0, 0, .mv (.t 1)⟩,
  ⟨some 13, none, 0, 0, .len false (.t 12)⟩,
  ⟨some 14, none, 0, 0, .bin .lss (.t 11) (.t 13)⟩])
 (.cond (.t 14)
 .skip
 (.exit 0)))
 (.seq (.block 1 (.seq (.drw [⟨some 18, none, 0, 0, .load true 2 (.t 2)⟩,
  ⟨some 19, none, 0, 0, .mv (.t 1)⟩,
  ⟨some 20, none, 0, 0, .mv (.t 8)⟩,
  ⟨some 21, none, 0, 0, .iadr 2 (.t 19) (.t 20)⟩,
  ⟨some 22, none, 0, 0, .load true 2 (.t 21)⟩,
  ⟨some 23, none, 0, 0, .call 46 [.t 18, .t 22]⟩,
  ⟨some 17, none, 1, 1, .mv (.t 23)⟩,
  ⟨some 24, none, 1, 1, .ext (.t 17) 0⟩,
  ⟨some 25, none, 1, 2, .ext (.t 17) 1⟩,
  ⟨none, none, 0, 0, .store true 2 (.t 2) (.t 24)⟩])
 (.seq (.drw [⟨some 26, none, 0, 0, .load true 2 (.t 7)⟩,
  ⟨some 27, none, 0, 0, .mv (.t 1)⟩,
  ⟨some 28, none, 0, 0, .mv (.t 8)⟩,
  ⟨some 29, none, 0, 0, .iadr 2 (.t 27) (.t 28)⟩,
  ⟨some 30, none, 0, 0, .load true 2 (.t 29)⟩,
  ⟨some 31, none, 0, 0, .call 58 [.t 26, .t 30]⟩,
  ⟨none, none, 0, 0, .store true 2 (.t 7) (.t 31)⟩])
 (.seq (.reg [⟨some 32, none, 0, 0, .fadr 0 (.t 7)⟩,
  ⟨some 33, none, 0, 0, .load false 1 (.t 32)⟩,
  ⟨some 34, none, 0, 0, .len false (.t 33)⟩,
  ⟨some 35, none, 0, 0, .bin .eql (.t 34) (.k (.int .i64 0))⟩,
  ⟨some 36, none, 0, 0, .mv (.t 35)⟩,
  ⟨some 37, (some (36, true)), 0, 0, .fadr 1 (.t 7)⟩,
  ⟨some 38, (some (36, true)), 0, 0, .load false 1 (.t 37)⟩,
  ⟨some 39, (some (36, true)), 0, 0, .len false (.t 38)⟩,
  ⟨some 40, (some (36, true)), 0, 0, .bin .eql (.t 39) (.k (.int .i64 0))⟩,
  ⟨some 41, none, 0, 0, .pick (.t 36) (.t 40) (.k (.bool false))⟩])
 (.cond (.t 41)
 (.seq (.reg [⟨some 42, none, 0, 0, .mv (.t 6)⟩,
  ⟨some 43, none, 0, 0, .mv (.t 8)⟩,
  ⟨some 44, none, 0, 0, .bin .add (.t 43) (.k (.int .i64 1))⟩,
  ⟨some 45, none, 0, 0, .bsl 1 [.int .i64 0] 1 [(0, .t 44)]⟩,
  ⟨some 46, none, 0, 0, .app 1 8 [.int .i64 0] (.t 42) (.t 45)⟩,
  ⟨some 6, none, 0, 0, .mv (.t 46)⟩])
 (.reg [⟨some 47, none, 0, 0, .load true 2 (.t 2)⟩,
  ⟨some 48, none, 0, 0, .call 57 [.t 47]⟩,
  ⟨none, none, 0, 0, .store true 2 (.t 7) (.t 48)⟩]))
 .skip)))))
 (.reg [⟨some 15, none, 0, 0, .mv (.t 8)⟩,
  ⟨some 16, none, 0, 0, .bin .add (.t 15) (.k (.int .i64 1))⟩,
  ⟨some 8, none, 0, 0, .mv (.t 16)⟩]))))
def h50 : Fn := { np := 2, res := [.t 4, .cell 5 true 2], body :=
 (.seq (.reg [⟨some 2, none, 0, 0, .box true 2 (.t 0)⟩,
  ⟨some 4, none, 0, 0, .mv (.k (.nils))⟩,
  ⟨some 5, none, 0, 0, .alloc [.nils, .nils]⟩])
 (.seq (.reg [⟨some 6, none, 0, 0, .mv (.k (.nils))⟩])
 (.seq (.reg [⟨some 9, none, 0, 0, .load true 2 (.t 2)⟩,
  ⟨some 10, none, 0, 0, .call 57 [.t 9]⟩,
  ⟨some 7, none, 0, 0, .alloc [.nils, .nils]⟩,
  ⟨none, none, 0, 0, .store true 2 (.t 7) (.t 10)⟩])
 (.seq (.seq (.reg [⟨some 8, none, 0, 0, .mv (.k (.int .i64 0))⟩])
 (.block 0 (.loop h50l0)))
 (.seq (.drw [⟨some 49, none, 0, 0, .mv (.t 6)⟩,
  ⟨some 50, none, 0, 0, .load true 2 (.t 7)⟩,
  ⟨some 4, none, 0, 0, .mv (.t 49)⟩,
  ⟨none, none, 0, 0, .store true 2 (.t 5) (.t 50)⟩])
 .ret))))) }
theorem ok50 : okFun Try.prog gl 50 h50 = true := by kernel_rfl
/- 51: headgate/rounds.walk -/
def h51 : Fn := { np := 3, res := [.t 6], body :=
 (.seq (.reg [⟨some 3, none, 0, 0, .box true 2 (.t 0)⟩,
  ⟨some 4, none, 0, 0, .box false 1 (.t 1)⟩,
  ⟨some 5, none, 0, 0, .box false 1 (.t 2)⟩,
  ⟨some 6, none, 0, 0, .mv (.k (.nilf))⟩])
 (.seq (.reg [⟨some 7, none, 0, 0, .mkfn 59 [.t 3, .t 5, .t 4]⟩,
  ⟨some 6, none, 0, 0, .mv (.t 7)⟩])
 .ret)) }
theorem ok51 : okFun Try.prog gl 51 h51 = true := by kernel_rfl
/- 52: headgate/rounds.bit -/
def h52 : Fn := { np := 1, res := [.t 2], body :=
 (.seq (.reg [⟨some 2, none, 0, 0, .mv (.k (.int .u16 0))⟩])
 (.seq (.reg [⟨some 3, none, 0, 0, .mv (.t 0)⟩,
  ⟨some 4, none, 0, 0, .cv .u64 (.t 3)⟩,
  ⟨some 5, none, 0, 0, .bin .shl (.k (.int .u16 1)) (.t 4)⟩,
  ⟨some 2, none, 0, 0, .mv (.t 5)⟩])
 .ret)) }
theorem ok52 : okFun Try.prog gl 52 h52 = true := by kernel_rfl
/- 53: math/bits.Mul -/
def h53 : Fn := { np := 2, res := [.t 4, .t 5], body :=
 (.seq (.reg [⟨some 4, none, 0, 0, .mv (.k (.int .u64 0))⟩,
  ⟨some 5, none, 0, 0, .mv (.k (.int .u64 0))⟩])
 (.seq (.cond (.k (.bool false))
 (.seq (.reg [⟨some 11, none, 0, 0, .mv (.t 0)⟩,
  ⟨some 12, none, 0, 0, .cv .u32 (.t 11)⟩,
  ⟨some 13, none, 0, 0, .mv (.t 1)⟩,
  ⟨some 14, none, 0, 0, .cv .u32 (.t 13)⟩,
  ⟨some 15, none, 0, 0, .call 62 [.t 12, .t 14]⟩,
  ⟨some 10, none, 0, 0, .mv (.t 15)⟩,
  ⟨some 16, none, 0, 0, .ext (.t 10) 0⟩,
  ⟨some 17, none, 0, 0, .ext (.t 10) 1⟩,
  ⟨some 6, none, 0, 0, .mv (.t 16)⟩,
  ⟨some 7, none, 0, 0, .mv (.t 17)⟩])
 (.seq (.reg [⟨some 18, none, 0, 0, .mv (.t 6)⟩,
  ⟨some 19, none, 0, 0, .cv .u64 (.t 18)⟩,
  ⟨some 20, none, 0, 0, .mv (.t 7)⟩,
  ⟨some 21, none, 0, 0, .cv .u64 (.t 20)⟩,
  ⟨some 4, none, 0, 0, .mv (.t 19)⟩,
  ⟨some 5, none, 0, 0, .mv (.t 21)⟩])
 .ret))
 .skip)
 (.seq (.reg [⟨some 23, none, 0, 0, .mv (.t 0)⟩,
  ⟨some 24, none, 0, 0, .mv (.t 1)⟩,
  ⟨some 25, none, 0, 0, .call 63 [.t 23, .t 24]⟩,
  ⟨some 22, none, 0, 0, .mv (.t 25)⟩,
  ⟨some 26, none, 0, 0, .ext (.t 22) 0⟩,
  ⟨some 27, none, 0, 0, .ext (.t 22) 1⟩,
  ⟨some 8, none, 0, 0, .mv (.t 26)⟩,
  ⟨some 9, none, 0, 0, .mv (.t 27)⟩])
 (.seq (.reg [⟨some 28, none, 0, 0, .mv (.t 8)⟩,
  ⟨some 29, none, 0, 0, .mv (.t 9)⟩,
  ⟨some 4, none, 0, 0, .mv (.t 28)⟩,
  ⟨some 5, none, 0, 0, .mv (.t 29)⟩])
 .ret)))) }
theorem ok53 : okFun Try.prog gl 53 h53 = true := by kernel_rfl
/- 54: headgate/headgateref38.has -/
def h54l0 : C := (.keep [0, 1, 5] (.seq (.seq (.reg [⟨some 6, none, 0, 0, .mv (.t 5)⟩,
  ⟨some 7, none, 0, 0, .mv (.t 0)⟩,
  ⟨some 8, none, 0, 0, .len false (.t 7)⟩,
  ⟨some 9, none, 0, 0, .bin .lss (.t 6) (.t 8)⟩])
 (.cond (.t 9)
 .skip
 (.exit 0)))
 (.seq (.block 1 (.seq (.reg [⟨some 12, none, 0, 0, .mv (.t 0)⟩,
  ⟨some 13, none, 0, 0, .mv (.t 5)⟩,
  ⟨some 14, none, 0, 0, .iadr 1 (.t 12) (.t 13)⟩,
  ⟨some 15, none, 0, 0, .load false 1 (.t 14)⟩,
  ⟨some 16, none, 0, 0, .mv (.t 1)⟩,
  ⟨some 17, none, 0, 0, .bin .eql (.t 15) (.t 16)⟩])
 (.cond (.t 17)
 (.seq (.reg [⟨some 4, none, 0, 0, .mv (.k (.bool true))⟩])
 .ret)
 .skip)))
 (.reg [⟨some 10, none, 0, 0, .mv (.t 5)⟩,
  ⟨some 11, none, 0, 0, .bin .add (.t 10) (.k (.int .i64 1))⟩,
  ⟨some 5, none, 0, 0, .mv (.t 11)⟩]))))
def h54 : Fn := { np := 2, res := [.t 4], body :=
 (.seq (.reg [⟨some 4, none, 0, 0, .mv (.k (.bool false))⟩])
 (.seq (.seq (.reg [⟨some 5, none, 0, 0, .mv (.k (.int .i64 0))⟩])
 (.block 0 (.loop h54l0)))
 (.seq (.reg [⟨some 4, none, 0, 0, .mv (.k (.bool false))⟩])
 .ret))) }
theorem ok54 : okFun Try.prog gl 54 h54 = true := by kernel_rfl
/- 55: headgate/headgateref38.with -/
def h55l0 : C := (.keep [0, 1, 5] (.seq (.seq (.reg [⟨some 6, none, 0, 0, .mv (.t 5)⟩,
  ⟨some 7, none, 0, 0, .mv (.t 0)⟩,
  ⟨some 8, none, 0, 0, .len false (.t 7)⟩,
  ⟨some 9, none, 0, 0, .bin .lss (.t 6) (.t 8)⟩,
  ⟨some 10, none, 0, 0, .mv (.t 9)⟩,
  ⟨some 11, (some (10, true)), 0, 0, .mv (.t 0)⟩,
  ⟨some 12, (some (10, true)), 0, 0, .mv (.t 5)⟩,
  ⟨some 13, (some (10, true)), 0, 0, .iadr 1 (.t 11) (.t 12)⟩,
  ⟨some 14, (some (10, true)), 0, 0, .load false 1 (.t 13)⟩,
  ⟨some 15, (some (10, true)), 0, 0, .mv (.t 1)⟩,
  ⟨some 16, (some (10, true)), 0, 0, .bin .lss (.t 14) (.t 15)⟩,
  ⟨some 17, none, 0, 0, .pick (.t 10) (.t 16) (.k (.bool false))⟩])
 (.cond (.t 17)
 .skip
 (.exit 0)))
 (.block 1 (.reg [⟨some 18, none, 0, 0, .mv (.t 5)⟩,
  ⟨some 19, none, 0, 0, .bin .add (.t 18) (.k (.int .i64 1))⟩,
  ⟨some 5, none, 0, 0, .mv (.t 19)⟩]))))
def h55 : Fn := { np := 2, res := [.t 4], body :=
 (.seq (.reg [⟨some 4, none, 0, 0, .mv (.k (.nils))⟩])
 (.seq (.reg [⟨some 5, none, 0, 0, .mv (.k (.int .i64 0))⟩])
 (.seq (.block 0 (.loop h55l0))
 (.seq (.drw [⟨some 20, none, 0, 0, .bsl 1 [.int .i64 0] 0 []⟩,
  ⟨some 21, none, 0, 0, .mv (.t 0)⟩,
  ⟨some 22, none, 0, 0, .mv (.t 5)⟩,
  ⟨some 23, none, 0, 0, .sl 1 (.t 21) none (some (.t 22)) none⟩,
  ⟨some 24, none, 0, 0, .app 1 8 [.int .i64 0] (.t 20) (.t 23)⟩,
  ⟨some 25, none, 0, 1, .mv (.t 1)⟩,
  ⟨some 26, none, 0, 1, .bsl 1 [.int .i64 0] 1 [(0, .t 25)]⟩,
  ⟨some 27, none, 0, 0, .app 1 8 [.int .i64 0] (.t 24) (.t 26)⟩,
  ⟨some 28, none, 0, 2, .mv (.t 0)⟩,
  ⟨some 29, none, 0, 2, .mv (.t 5)⟩,
  ⟨some 30, none, 0, 2, .sl 1 (.t 28) (some (.t 29)) none none⟩,
  ⟨some 31, none, 0, 0, .app 1 8 [.int .i64 0] (.t 27) (.t 30)⟩,
  ⟨some 4, none, 3, 3, .mv (.t 31)⟩])
 .ret)))) }
theorem ok55 : okFun Try.prog gl 55 h55 = true := by kernel_rfl
/- 56: headgate/headgateref38.without -/
def h56l0 : C := (.keep [0, 1, 5, 6] (.seq (.seq (.reg [⟨some 7, none, 0, 0, .mv (.t 6)⟩,
  ⟨some 8, none, 0, 0, .mv (.t 0)⟩,
  ⟨some 9, none, 0, 0, .len false (.t 8)⟩,
  ⟨some 10, none, 0, 0, .bin .lss (.t 7) (.t 9)⟩])
 (.cond (.t 10)
 .skip
 (.exit 0)))
 (.seq (.block 1 (.seq (.reg [⟨some 13, none, 0, 0, .mv (.t 0)⟩,
  ⟨some 14, none, 0, 0, .mv (.t 6)⟩,
  ⟨some 15, none, 0, 0, .iadr 1 (.t 13) (.t 14)⟩,
  ⟨some 16, none, 0, 0, .load false 1 (.t 15)⟩,
  ⟨some 17, none, 0, 0, .mv (.t 1)⟩,
  ⟨some 18, none, 0, 0, .bin .neq (.t 16) (.t 17)⟩])
 (.cond (.t 18)
 (.reg [⟨some 19, none, 0, 0, .mv (.t 5)⟩,
  ⟨some 20, none, 0, 0, .mv (.t 0)⟩,
  ⟨some 21, none, 0, 0, .mv (.t 6)⟩,
  ⟨some 22, none, 0, 0, .iadr 1 (.t 20) (.t 21)⟩,
  ⟨some 23, none, 0, 0, .load false 1 (.t 22)⟩,
  ⟨some 24, none, 0, 0, .bsl 1 [.int .i64 0] 1 [(0, .t 23)]⟩,
  ⟨some 25, none, 0, 0, .app 1 8 [.int .i64 0] (.t 19) (.t 24)⟩,
  ⟨some 5, none, 0, 0, .mv (.t 25)⟩])
 .skip)))
 (.reg [⟨some 11, none, 0, 0, .mv (.t 6)⟩,
  ⟨some 12, none, 0, 0, .bin .add (.t 11) (.k (.int .i64 1))⟩,
  ⟨some 6, none, 0, 0, .mv (.t 12)⟩]))))
def h56 : Fn := { np := 2, res := [.t 4], body :=
 (.seq (.reg [⟨some 4, none, 0, 0, .mv (.k (.nils))⟩])
 (.seq (.reg [⟨some 5, none, 0, 0, .mv (.k (.nils))⟩])
 (.seq (.seq (.reg [⟨some 6, none, 0, 0, .mv (.k (.int .i64 0))⟩])
 (.block 0 (.loop h56l0)))
 (.seq (.reg [⟨some 26, none, 0, 0, .mv (.t 5)⟩,
  ⟨some 4, none, 0, 0, .mv (.t 26)⟩])
 .ret)))) }
theorem ok56 : okFun Try.prog gl 56 h56 = true := by kernel_rfl
/- 57: headgate/headgateref38.owed -/
def h57 : Fn := { np := 1, res := [.cell 2 true 2], body :=
 (.seq (.reg [⟨some 1, none, 0, 0, .box true 2 (.t 0)⟩,
  ⟨some 2, none, 0, 0, .alloc [.nils, .nils]⟩])
 (.seq (.drw [⟨some 3, none, 0, 0, .bsl 1 [.int .i64 0] 1 [(0, .k (.int .i64 0))]⟩,
  ⟨some 4, none, 0, 0, .fadr 0 (.t 1)⟩,
  ⟨some 5, none, 0, 0, .load false 1 (.t 4)⟩,
  ⟨some 6, none, 0, 0, .app 1 8 [.int .i64 0] (.t 3) (.t 5)⟩,
  ⟨some 7, none, 0, 1, .bsl 1 [.int .i64 0] 0 []⟩,
  ⟨some 8, none, 0, 1, .fadr 1 (.t 1)⟩,
  ⟨some 9, none, 0, 1, .load false 1 (.t 8)⟩,
  ⟨some 10, none, 0, 0, .app 1 8 [.int .i64 0] (.t 7) (.t 9)⟩,
  ⟨some 11, none, 2, 2, .build [.nils, .nils] [(0, 1, .t 6), (1, 1, .t 10)]⟩,
  ⟨none, none, 0, 0, .store true 2 (.t 2) (.t 11)⟩])
 .ret)) }
theorem ok57 : okFun Try.prog gl 57 h57 = true := by kernel_rfl
/- 58: headgate/headgateref38.paid -/
def h58 : Fn := { np := 2, res := [.cell 4 true 2], body :=
 (.seq (.reg [⟨some 2, none, 0, 0, .box true 2 (.t 0)⟩,
  ⟨some 3, none, 0, 0, .box true 2 (.t 1)⟩,
  ⟨some 4, none, 0, 0, .alloc [.nils, .nils]⟩])
 (.seq (.seq (.reg [⟨some 5, none, 0, 0, .fadr 0 (.t 3)⟩,
  ⟨some 6, none, 0, 0, .load false 1 (.t 5)⟩])
 (.block 0 (.seq (.seq (.reg [⟨some 8, none, 0, 0, .bin .eql (.t 6) (.k (.int .i64 1))⟩,
  ⟨some 7, none, 0, 0, .mv (.t 8)⟩])
 (.cond (.t 7)
 .skip
 (.reg [⟨some 9, none, 0, 0, .bin .eql (.t 6) (.k (.int .i64 3))⟩,
  ⟨some 7, none, 0, 0, .mv (.t 9)⟩])))
 (.cond (.t 7)
 (.reg [⟨some 10, none, 0, 0, .fadr 0 (.t 2)⟩,
  ⟨some 11, none, 0, 0, .load false 1 (.t 10)⟩,
  ⟨some 12, none, 0, 0, .fadr 1 (.t 3)⟩,
  ⟨some 13, none, 0, 0, .load false 1 (.t 12)⟩,
  ⟨some 14, none, 0, 0, .call 56 [.t 11, .t 13]⟩,
  ⟨some 15, none, 0, 0, .fadr 0 (.t 2)⟩,
  ⟨none, none, 0, 0, .store false 1 (.t 15) (.t 14)⟩])
 (.seq (.reg [⟨some 17, none, 0, 0, .bin .eql (.t 6) (.k (.int .i64 5))⟩,
  ⟨some 16, none, 0, 0, .mv (.t 17)⟩])
 (.cond (.t 16)
 (.reg [⟨some 18, none, 0, 0, .fadr 1 (.t 2)⟩,
  ⟨some 19, none, 0, 0, .load false 1 (.t 18)⟩,
  ⟨some 20, none, 0, 0, .fadr 1 (.t 3)⟩,
  ⟨some 21, none, 0, 0, .load false 1 (.t 20)⟩,
  ⟨some 22, none, 0, 0, .call 56 [.t 19, .t 21]⟩,
  ⟨some 23, none, 0, 0, .fadr 1 (.t 2)⟩,
  ⟨none, none, 0, 0, .store false 1 (.t 23) (.t 22)⟩])
 .skip))))))
 (.seq (.reg [⟨some 24, none, 0, 0, .load true 2 (.t 2)⟩,
  ⟨none, none, 0, 0, .store true 2 (.t 4) (.t 24)⟩])
 .ret))) }
theorem ok58 : okFun Try.prog gl 58 h58 = true := by kernel_rfl
/- 59: headgate/rounds.walk-1 -/
def h59l0 : C := (.keep [0, 2, 5, 14, 15, 16] (.seq (.reg [⟨some 17, none, 0, 0, .bin .lss (.t 16) (.t 15)⟩])
 (.seq (.cond (.t 17)
 .skip
 (.exit 0))
 (.seq (.block 1 (.seq (.reg [⟨some 18, none, 0, 0, .mv (.t 16)⟩,
  ⟨some 19, none, 0, 0, .iadr 2 (.t 14) (.t 16)⟩,
  ⟨some 20, none, 0, 0, .load true 2 (.t 19)⟩,
  ⟨some 7, none, 0, 0, .alloc [.int .i64 0, .int .i64 0]⟩,
  ⟨some 6, none, 0, 0, .mv (.t 18)⟩,
  ⟨none, none, 0, 0, .store true 2 (.t 7) (.t 20)⟩])
 (.seq (.reg [⟨some 21, none, 0, 0, .load true 2 (.t 7)⟩,
  ⟨some 22, none, 0, 0, .call 43 [.t 5, .t 21]⟩])
 (.seq (.reg [⟨some 23, none, 0, 0, .load false 1 (.t 2)⟩,
  ⟨some 24, none, 0, 0, .load true 2 (.t 7)⟩,
  ⟨some 25, none, 0, 0, .call 61 [.t 23, .t 24]⟩])
 (.seq (.seq (.reg [⟨some 26, none, 0, 0, .load false 1 (.t 2)⟩,
  ⟨some 27, none, 0, 0, .nilc (.t 26)⟩,
  ⟨some 28, none, 0, 0, .fadr 257 (.t 27)⟩,
  ⟨some 29, none, 0, 0, .load false 1 (.t 28)⟩,
  ⟨some 30, none, 0, 0, .bin .gtr (.t 29) (.k (.int .i64 0))⟩])
 (.cond (.t 30)
 (.exit 1)
 .skip))
 (.seq (.drw [⟨some 31, none, 0, 1, .load false 1 (.t 2)⟩,
  ⟨some 32, none, 0, 0, .load true 257 (.t 5)⟩,
  ⟨some 33, none, 0, 0, .call 60 [.t 32]⟩,
  ⟨some 34, none, 1, 1, .nilc (.t 31)⟩,
  ⟨none, none, 0, 0, .store true 258 (.t 34) (.t 33)⟩])
 (.seq (.reg [⟨some 35, none, 0, 0, .mv (.t 0)⟩,
  ⟨some 36, none, 0, 0, .mv (.t 6)⟩,
  ⟨some 37, none, 0, 0, .bin .add (.t 36) (.k (.int .i64 1))⟩,
  ⟨some 38, none, 0, 0, .callv (.t 35) [.t 37]⟩,
  ⟨some 39, none, 0, 0, .un .not (.t 38)⟩])
 (.cond (.t 39)
 .ret
 .skip))))))))
 (.reg [⟨some 40, none, 0, 0, .bin .add (.t 16) (.k (.int .i64 1))⟩,
  ⟨some 16, none, 0, 0, .mv (.t 40)⟩])))))
def h59 : Fn := { np := 4, res := [], body :=
 (.seq (.reg [⟨some 8, none, 0, 0, .load true 2 (.t 1)⟩,
  ⟨some 9, none, 0, 0, .call 42 [.t 8]⟩,
  ⟨some 5, none, 0, 0, .alloc [.int .u16 0, .bool false, .bool false, .bool false, .bool false, .bool false, .bool false, .bool false, .bool false, .bool false, .bool false, .bool false, .bool false, .bool false, .bool false, .bool false, .bool false, .bool false, .bool false, .bool false, .bool false, .bool false, .bool false, .bool false, .bool false, .bool false, .bool false, .bool false, .bool false, .bool false, .bool false, .bool false, .bool false, .bool false, .bool false, .bool false, .bool false, .bool false, .bool false, .bool false, .bool false, .bool false, .bool false, .bool false, .bool false, .bool false, .bool false, .bool false, .bool false, .bool false, .bool false, .bool false, .bool false, .bool false, .bool false, .bool false, .bool false, .bool false, .bool false, .bool false, .bool false, .bool false, .bool false, .bool false, .bool false, .bool false, .bool false, .bool false, .bool false, .bool false, .bool false, .bool false, .bool false, .bool false, .bool false, .bool false, .bool false, .bool false, .bool false, .bool false, .bool false, .bool false, .bool false, .bool false, .bool false, .bool false, .bool false, .bool false, .bool false, .bool false, .bool false, .bool false, .bool false, .bool false, .bool false, .bool false, .bool false, .bool false, .bool false, .bool false, .bool false, .bool false, .bool false, .bool false, .bool false, .bool false, .bool false, .bool false, .bool false, .bool false, .bool false, .bool false, .bool false, .bool false, .bool false, .bool false, .bool false, .bool false, .bool false, .bool false, .bool false, .bool false, .bool false, .bool false, .bool false, .bool false, .bool false, .bool false, .bool false, .bool false, .bool false, .bool false, .bool false, .bool false, .bool false, .bool false, .bool false, .bool false, .bool false, .bool false, .bool false, .bool false, .bool false, .bool false, .bool false, .bool false, .bool false, .bool false, .bool false, .bool false, .bool false, .bool false, .bool false, .bool false, .bool false, .bool false, .bool false, .bool false, .bool false, .bool false, .bool false, .bool false, .bool false, .bool false, .bool false, .bool false, .bool false, .bool false, .bool false, .bool false, .bool false, .bool false, .bool false, .bool false, .bool false, .bool false, .bool false, .bool false, .bool false, .bool false, .bool false, .bool false, .bool false, .bool false, .bool false, .bool false, .bool false, .bool false, .bool false, .bool false, .bool false, .bool false, .bool false, .bool false, .bool false, .bool false, .bool false, .bool false, .bool false, .bool false, .bool false, .bool false, .bool false, .bool false, .bool false, .bool false, .bool false, .bool false, .bool false, .bool false, .bool false, .bool false, .bool false, .bool false, .bool false, .bool false, .bool false, .bool false, .bool false, .bool false, .bool false, .bool false, .bool false, .bool false, .bool false, .bool false, .bool false, .bool false, .bool false, .bool false, .bool false, .bool false, .bool false, .bool false, .bool false, .bool false, .bool false, .bool false, .bool false, .bool false, .bool false, .bool false, .bool false, .bool false, .bool false, .bool false, .bool false, .bool false, .bool false, .bool false, .bool false, .bool false, .bool false, .bool false, .bool false, .bool false, .bool false]⟩,
  ⟨none, none, 0, 0, .store true 257 (.t 5) (.t 9)⟩])
 (.seq (.drw [⟨some 10, none, 0, 1, .load false 1 (.t 2)⟩,
  ⟨some 11, none, 0, 0, .load true 257 (.t 5)⟩,
  ⟨some 12, none, 0, 0, .call 60 [.t 11]⟩,
  ⟨some 13, none, 1, 1, .nilc (.t 10)⟩,
  ⟨none, none, 0, 0, .store true 258 (.t 13) (.t 12)⟩])
 (.seq (.reg [⟨some 14, none, 0, 0, .load false 1 (.t 3)⟩,
  ⟨some 15, none, 0, 0, .len false (.t 14)⟩,
  ⟨some 16, none, 0, 0, .mv (.k (.int .i64 0))⟩])
 (.block 0 (.loop h59l0))))) }
theorem ok59 : okFun Try.prog gl 59 h59 = true := by kernel_rfl
/- 60: headgate/rounds.owes -/
def h60 : Fn := { np := 1, res := [.cell 2 true 258], body :=
 (.seq (.reg [⟨some 1, none, 0, 0, .box true 257 (.t 0)⟩,
  ⟨some 2, none, 0, 0, .alloc [.int .u16 0, .bool false, .bool false, .bool false, .bool false, .bool false, .bool false, .bool false, .bool false, .bool false, .bool false, .bool false, .bool false, .bool false, .bool false, .bool false, .bool false, .bool false, .bool false, .bool false, .bool false, .bool false, .bool false, .bool false, .bool false, .bool false, .bool false, .bool false, .bool false, .bool false, .bool false, .bool false, .bool false, .bool false, .bool false, .bool false, .bool false, .bool false, .bool false, .bool false, .bool false, .bool false, .bool false, .bool false, .bool false, .bool false, .bool false, .bool false, .bool false, .bool false, .bool false, .bool false, .bool false, .bool false, .bool false, .bool false, .bool false, .bool false, .bool false, .bool false, .bool false, .bool false, .bool false, .bool false, .bool false, .bool false, .bool false, .bool false, .bool false, .bool false, .bool false, .bool false, .bool false, .bool false, .bool false, .bool false, .bool false, .bool false, .bool false, .bool false, .bool false, .bool false, .bool false, .bool false, .bool false, .bool false, .bool false, .bool false, .bool false, .bool false, .bool false, .bool false, .bool false, .bool false, .bool false, .bool false, .bool false, .bool false, .bool false, .bool false, .bool false, .bool false, .bool false, .bool false, .bool false, .bool false, .bool false, .bool false, .bool false, .bool false, .bool false, .bool false, .bool false, .bool false, .bool false, .bool false, .bool false, .bool false, .bool false, .bool false, .bool false, .bool false, .bool false, .bool false, .bool false, .bool false, .bool false, .bool false, .bool false, .bool false, .bool false, .bool false, .bool false, .bool false, .bool false, .bool false, .bool false, .bool false, .bool false, .bool false, .bool false, .bool false, .bool false, .bool false, .bool false, .bool false, .bool false, .bool false, .bool false, .bool false, .bool false, .bool false, .bool false, .bool false, .bool false, .bool false, .bool false, .bool false, .bool false, .bool false, .bool false, .bool false, .bool false, .bool false, .bool false, .bool false, .bool false, .bool false, .bool false, .bool false, .bool false, .bool false, .bool false, .bool false, .bool false, .bool false, .bool false, .bool false, .bool false, .bool false, .bool false, .bool false, .bool false, .bool false, .bool false, .bool false, .bool false, .bool false, .bool false, .bool false, .bool false, .bool false, .bool false, .bool false, .bool false, .bool false, .bool false, .bool false, .bool false, .bool false, .bool false, .bool false, .bool false, .bool false, .bool false, .bool false, .bool false, .bool false, .bool false, .bool false, .bool false, .bool false, .bool false, .bool false, .bool false, .bool false, .bool false, .bool false, .bool false, .bool false, .bool false, .bool false, .bool false, .bool false, .bool false, .bool false, .bool false, .bool false, .bool false, .bool false, .bool false, .bool false, .bool false, .bool false, .bool false, .bool false, .bool false, .bool false, .bool false, .bool false, .bool false, .bool false, .bool false, .bool false, .bool false, .bool false, .bool false, .bool false, .bool false, .bool false, .bool false, .bool false, .bool false, .bool false, .bool false, .bool false, .bool false, .int .i64 0]⟩])
 (.seq (.drw [⟨some 3, none, 0, 1, .fadr 0 (.t 1)⟩,
  ⟨some 4, none, 0, 1, .load false 1 (.t 3)⟩,
  ⟨some 5, none, 0, 0, .call 52 [.k (.int .i64 0)]⟩,
  ⟨some 6, none, 1, 1, .bin .or (.t 4) (.t 5)⟩,
  ⟨some 7, none, 1, 1, .fadr 0 (.t 1)⟩,
  ⟨none, none, 0, 0, .store false 1 (.t 7) (.t 6)⟩])
 (.seq (.drw [⟨some 8, none, 0, 2, .load true 257 (.t 1)⟩,
  ⟨some 9, none, 0, 0, .fadr 0 (.t 1)⟩,
  ⟨some 10, none, 0, 0, .load false 1 (.t 9)⟩,
  ⟨some 11, none, 0, 0, .call 40 [.t 10]⟩,
  ⟨some 12, none, 1, 2, .len false (.t 11)⟩,
  ⟨some 13, none, 0, 1, .load true 257 (.t 1)⟩,
  ⟨some 14, none, 0, 0, .call 41 [.t 13]⟩,
  ⟨some 15, none, 2, 2, .len false (.t 14)⟩,
  ⟨some 16, none, 2, 2, .bin .add (.t 12) (.t 15)⟩,
  ⟨some 17, none, 2, 2, .build [.int .u16 0, .bool false, .bool false, .bool false, .bool false, .bool false, .bool false, .bool false, .bool false, .bool false, .bool false, .bool false, .bool false, .bool false, .bool false, .bool false, .bool false, .bool false, .bool false, .bool false, .bool false, .bool false, .bool false, .bool false, .bool false, .bool false, .bool false, .bool false, .bool false, .bool false, .bool false, .bool false, .bool false, .bool false, .bool false, .bool false, .bool false, .bool false, .bool false, .bool false, .bool false, .bool false, .bool false, .bool false, .bool false, .bool false, .bool false, .bool false, .bool false, .bool false, .bool false, .bool false, .bool false, .bool false, .bool false, .bool false, .bool false, .bool false, .bool false, .bool false, .bool false, .bool false, .bool false, .bool false, .bool false, .bool false, .bool false, .bool false, .bool false, .bool false, .bool false, .bool false, .bool false, .bool false, .bool false, .bool false, .bool false, .bool false, .bool false, .bool false, .bool false, .bool false, .bool false, .bool false, .bool false, .bool false, .bool false, .bool false, .bool false, .bool false, .bool false, .bool false, .bool false, .bool false, .bool false, .bool false, .bool false, .bool false, .bool false, .bool false, .bool false, .bool false, .bool false, .bool false, .bool false, .bool false, .bool false, .bool false, .bool false, .bool false, .bool false, .bool false, .bool false, .bool false, .bool false, .bool false, .bool false, .bool false, .bool false, .bool false, .bool false, .bool false, .bool false, .bool false, .bool false, .bool false, .bool false, .bool false, .bool false, .bool false, .bool false, .bool false, .bool false, .bool false, .bool false, .bool false, .bool false, .bool false, .bool false, .bool false, .bool false, .bool false, .bool false, .bool false, .bool false, .bool false, .bool false, .bool false, .bool false, .bool false, .bool false, .bool false, .bool false, .bool false, .bool false, .bool false, .bool false, .bool false, .bool false, .bool false, .bool false, .bool false, .bool false, .bool false, .bool false, .bool false, .bool false, .bool false, .bool false, .bool false, .bool false, .bool false, .bool false, .bool false, .bool false, .bool false, .bool false, .bool false, .bool false, .bool false, .bool false, .bool false, .bool false, .bool false, .bool false, .bool false, .bool false, .bool false, .bool false, .bool false, .bool false, .bool false, .bool false, .bool false, .bool false, .bool false, .bool false, .bool false, .bool false, .bool false, .bool false, .bool false, .bool false, .bool false, .bool false, .bool false, .bool false, .bool false, .bool false, .bool false, .bool false, .bool false, .bool false, .bool false, .bool false, .bool false, .bool false, .bool false, .bool false, .bool false, .bool false, .bool false, .bool false, .bool false, .bool false, .bool false, .bool false, .bool false, .bool false, .bool false, .bool false, .bool false, .bool false, .bool false, .bool false, .bool false, .bool false, .bool false, .bool false, .bool false, .bool false, .bool false, .bool false, .bool false, .bool false, .bool false, .bool false, .bool false, .bool false, .bool false, .bool false, .bool false, .bool false, .bool false, .bool false, .bool false, .bool false, .int .i64 0] [(0, 257, .t 8), (257, 1, .t 16)]⟩,
  ⟨none, none, 0, 0, .store true 258 (.t 2) (.t 17)⟩])
 .ret))) }
theorem ok60 : okFun Try.prog gl 60 h60 = true := by kernel_rfl
/- 61: (*headgate/rounds.debt).pay -/
def h61 : Fn := { np := 2, res := [], body :=
 (.seq (.reg [⟨some 3, none, 0, 0, .box true 2 (.t 1)⟩])
 (.seq (.reg [⟨some 4, none, 0, 0, .fadr 0 (.t 3)⟩,
  ⟨some 5, none, 0, 0, .load false 1 (.t 4)⟩])
 (.block 0 (.seq (.seq (.reg [⟨some 7, none, 0, 0, .bin .eql (.t 5) (.k (.int .i64 1))⟩,
  ⟨some 6, none, 0, 0, .mv (.t 7)⟩])
 (.cond (.t 6)
 .skip
 (.reg [⟨some 8, none, 0, 0, .bin .eql (.t 5) (.k (.int .i64 3))⟩,
  ⟨some 6, none, 0, 0, .mv (.t 8)⟩])))
 (.cond (.t 6)
 (.seq (.drw [⟨some 9, none, 0, 1, .mv (.t 0)⟩,
  ⟨some 10, none, 0, 1, .nilc (.t 9)⟩,
  ⟨some 11, none, 0, 1, .fadr 0 (.t 10)⟩,
  ⟨some 12, none, 0, 1, .fadr 0 (.t 11)⟩,
  ⟨some 13, none, 0, 1, .load false 1 (.t 12)⟩,
  ⟨some 14, none, 0, 0, .fadr 1 (.t 3)⟩,
  ⟨some 15, none, 0, 0, .load false 1 (.t 14)⟩,
  ⟨some 16, none, 0, 0, .call 52 [.t 15]⟩,
  ⟨some 17, none, 1, 1, .bin .and (.t 13) (.t 16)⟩,
  ⟨some 18, none, 1, 1, .bin .neq (.t 17) (.k (.int .u16 0))⟩])
 (.cond (.t 18)
 (.seq (.drw [⟨some 19, none, 0, 1, .mv (.t 0)⟩,
  ⟨some 20, none, 0, 1, .nilc (.t 19)⟩,
  ⟨some 21, none, 0, 1, .fadr 0 (.t 20)⟩,
  ⟨some 22, none, 0, 1, .fadr 0 (.t 21)⟩,
  ⟨some 23, none, 0, 1, .load false 1 (.t 22)⟩,
  ⟨some 24, none, 0, 0, .fadr 1 (.t 3)⟩,
  ⟨some 25, none, 0, 0, .load false 1 (.t 24)⟩,
  ⟨some 26, none, 0, 0, .call 52 [.t 25]⟩,
  ⟨some 27, none, 1, 1, .bin .andNot (.t 23) (.t 26)⟩,
  ⟨some 28, none, 1, 1, .nilc (.t 19)⟩,
  ⟨some 29, none, 1, 1, .fadr 0 (.t 28)⟩,
  ⟨some 30, none, 1, 1, .fadr 0 (.t 29)⟩,
  ⟨none, none, 0, 0, .store false 1 (.t 30) (.t 27)⟩])
 (.reg [⟨some 31, none, 0, 0, .mv (.t 0)⟩,
  ⟨some 32, none, 0, 0, .nilc (.t 31)⟩,
  ⟨some 33, none, 0, 0, .fadr 257 (.t 32)⟩,
  ⟨some 34, none, 0, 0, .load false 1 (.t 33)⟩,
  ⟨some 35, none, 0, 0, .bin .sub (.t 34) (.k (.int .i64 1))⟩,
  ⟨some 36, none, 0, 0, .nilc (.t 31)⟩,
  ⟨some 37, none, 0, 0, .fadr 257 (.t 36)⟩,
  ⟨none, none, 0, 0, .store false 1 (.t 37) (.t 35)⟩]))
 .skip))
 (.seq (.reg [⟨some 39, none, 0, 0, .bin .eql (.t 5) (.k (.int .i64 5))⟩,
  ⟨some 38, none, 0, 0, .mv (.t 39)⟩])
 (.cond (.t 38)
 (.seq (.drw [⟨some 40, none, 0, 0, .mv (.t 0)⟩,
  ⟨some 41, none, 0, 0, .fadr 1 (.t 3)⟩,
  ⟨some 42, none, 0, 0, .load false 1 (.t 41)⟩,
  ⟨some 43, none, 0, 0, .nilc (.t 40)⟩,
  ⟨some 44, none, 0, 0, .fadr 0 (.t 43)⟩,
  ⟨some 45, none, 0, 0, .fadr 1 (.t 44)⟩,
  ⟨some 46, none, 0, 0, .iada 256 1 (.t 45) (.t 42)⟩,
  ⟨some 47, none, 0, 0, .load false 1 (.t 46)⟩])
 (.cond (.t 47)
 (.seq (.drw [⟨some 48, none, 0, 0, .mv (.t 0)⟩,
  ⟨some 49, none, 0, 0, .fadr 1 (.t 3)⟩,
  ⟨some 50, none, 0, 0, .load false 1 (.t 49)⟩,
  ⟨some 51, none, 0, 0, .nilc (.t 48)⟩,
  ⟨some 52, none, 0, 0, .fadr 0 (.t 51)⟩,
  ⟨some 53, none, 0, 0, .fadr 1 (.t 52)⟩,
  ⟨some 54, none, 0, 0, .iada 256 1 (.t 53) (.t 50)⟩,
  ⟨none, none, 0, 0, .store false 1 (.t 54) (.k (.bool false))⟩])
 (.reg [⟨some 55, none, 0, 0, .mv (.t 0)⟩,
  ⟨some 56, none, 0, 0, .nilc (.t 55)⟩,
  ⟨some 57, none, 0, 0, .fadr 257 (.t 56)⟩,
  ⟨some 58, none, 0, 0, .load false 1 (.t 57)⟩,
  ⟨some 59, none, 0, 0, .bin .sub (.t 58) (.k (.int .i64 1))⟩,
  ⟨some 60, none, 0, 0, .nilc (.t 55)⟩,
  ⟨some 61, none, 0, 0, .fadr 257 (.t 60)⟩,
  ⟨none, none, 0, 0, .store false 1 (.t 61) (.t 59)⟩]))
 .skip))
 .skip))))))) }
theorem ok61 : okFun Try.prog gl 61 h61 = true := by kernel_rfl
/- 62: math/bits.Mul32 -/
def h62 : Fn := { np := 2, res := [.t 4, .t 5], body :=
 (.seq (.reg [⟨some 4, none, 0, 0, .mv (.k (.int .u32 0))⟩,
  ⟨some 5, none, 0, 0, .mv (.k (.int .u32 0))⟩])
 (.seq (.reg [⟨some 7, none, 0, 0, .mv (.t 0)⟩,
  ⟨some 8, none, 0, 0, .cv .u64 (.t 7)⟩,
  ⟨some 9, none, 0, 0, .mv (.t 1)⟩,
  ⟨some 10, none, 0, 0, .cv .u64 (.t 9)⟩,
  ⟨some 11, none, 0, 0, .bin .mul (.t 8) (.t 10)⟩,
  ⟨some 6, none, 0, 0, .mv (.t 11)⟩])
 (.seq (.reg [⟨some 12, none, 0, 0, .mv (.t 6)⟩,
  ⟨some 13, none, 0, 0, .bin .shr (.t 12) (.k (.int .u64 32))⟩,
  ⟨some 14, none, 0, 0, .cv .u32 (.t 13)⟩,
  ⟨some 15, none, 0, 0, .mv (.t 6)⟩,
  ⟨some 16, none, 0, 0, .cv .u32 (.t 15)⟩,
  ⟨some 4, none, 0, 0, .mv (.t 14)⟩,
  ⟨some 5, none, 0, 0, .mv (.t 16)⟩])
 .ret))) }
theorem ok62 : okFun Try.prog gl 62 h62 = true := by kernel_rfl
/- 63: math/bits.Mul64 -/
def h63 : Fn := { np := 2, res := [.t 4, .t 5], body :=
 (.seq (.reg [⟨some 4, none, 0, 0, .mv (.k (.int .u64 0))⟩,
  ⟨some 5, none, 0, 0, .mv (.k (.int .u64 0))⟩])
 (.seq (.reg [⟨some 14, none, 0, 0, .mv (.t 0)⟩,
  ⟨some 15, none, 0, 0, .bin .and (.t 14) (.k (.int .u64 4294967295))⟩,
  ⟨some 6, none, 0, 0, .mv (.t 15)⟩])
 (.seq (.reg [⟨some 16, none, 0, 0, .mv (.t 0)⟩,
  ⟨some 17, none, 0, 0, .bin .shr (.t 16) (.k (.int .u64 32))⟩,
  ⟨some 7, none, 0, 0, .mv (.t 17)⟩])
 (.seq (.reg [⟨some 18, none, 0, 0, .mv (.t 1)⟩,
  ⟨some 19, none, 0, 0, .bin .and (.t 18) (.k (.int .u64 4294967295))⟩,
  ⟨some 8, none, 0, 0, .mv (.t 19)⟩])
 (.seq (.reg [⟨some 20, none, 0, 0, .mv (.t 1)⟩,
  ⟨some 21, none, 0, 0, .bin .shr (.t 20) (.k (.int .u64 32))⟩,
  ⟨some 9, none, 0, 0, .mv (.t 21)⟩])
 (.seq (.reg [⟨some 22, none, 0, 0, .mv (.t 6)⟩,
  ⟨some 23, none, 0, 0, .mv (.t 8)⟩,
  ⟨some 24, none, 0, 0, .bin .mul (.t 22) (.t 23)⟩,
  ⟨some 10, none, 0, 0, .mv (.t 24)⟩])
 (.seq (.reg [⟨some 25, none, 0, 0, .mv (.t 7)⟩,
  ⟨some 26, none, 0, 0, .mv (.t 8)⟩,
  ⟨some 27, none, 0, 0, .bin .mul (.t 25) (.t 26)⟩,
  ⟨some 28, none, 0, 0, .mv (.t 10)⟩,
  ⟨some 29, none, 0, 0, .bin .shr (.t 28) (.k (.int .u64 32))⟩,
  ⟨some 30, none, 0, 0, .bin .add (.t 27) (.t 29)⟩,
  ⟨some 11, none, 0, 0, .mv (.t 30)⟩])
 (.seq (.reg [⟨some 31, none, 0, 0, .mv (.t 11)⟩,
  ⟨some 32, none, 0, 0, .bin .and (.t 31) (.k (.int .u64 4294967295))⟩,
  ⟨some 12, none, 0, 0, .mv (.t 32)⟩])
 (.seq (.reg [⟨some 33, none, 0, 0, .mv (.t 11)⟩,
  ⟨some 34, none, 0, 0, .bin .shr (.t 33) (.k (.int .u64 32))⟩,
  ⟨some 13, none, 0, 0, .mv (.t 34)⟩])
 (.seq (.reg [⟨some 35, none, 0, 0, .mv (.t 12)⟩,
  ⟨some 36, none, 0, 0, .mv (.t 6)⟩,
  ⟨some 37, none, 0, 0, .mv (.t 9)⟩,
  ⟨some 38, none, 0, 0, .bin .mul (.t 36) (.t 37)⟩,
  ⟨some 39, none, 0, 0, .bin .add (.t 35) (.t 38)⟩,
  ⟨some 12, none, 0, 0, .mv (.t 39)⟩])
 (.seq (.reg [⟨some 40, none, 0, 0, .mv (.t 7)⟩,
  ⟨some 41, none, 0, 0, .mv (.t 9)⟩,
  ⟨some 42, none, 0, 0, .bin .mul (.t 40) (.t 41)⟩,
  ⟨some 43, none, 0, 0, .mv (.t 13)⟩,
  ⟨some 44, none, 0, 0, .bin .add (.t 42) (.t 43)⟩,
  ⟨some 45, none, 0, 0, .mv (.t 12)⟩,
  ⟨some 46, none, 0, 0, .bin .shr (.t 45) (.k (.int .u64 32))⟩,
  ⟨some 47, none, 0, 0, .bin .add (.t 44) (.t 46)⟩,
  ⟨some 4, none, 0, 0, .mv (.t 47)⟩])
 (.seq (.reg [⟨some 48, none, 0, 0, .mv (.t 0)⟩,
  ⟨some 49, none, 0, 0, .mv (.t 1)⟩,
  ⟨some 50, none, 0, 0, .bin .mul (.t 48) (.t 49)⟩,
  ⟨some 5, none, 0, 0, .mv (.t 50)⟩])
 .ret)))))))))))) }
theorem ok63 : okFun Try.prog gl 63 h63 = true := by kernel_rfl
def tab : Tab := (.node (.node (.node (.node (.node (.node (.node .nil (some h63) .nil) (some h31) .nil) (some h15) (.node .nil (some h47) .nil)) (some h7) (.node (.node .nil (some h39) .nil) (some h23) (.node .nil (some h55) .nil))) (some h3) (.node (.node (.node .nil (some h35) .nil) (some h19) (.node .nil (some h51) .nil)) (some h11) (.node (.node .nil (some h43) .nil) (some h27) (.node .nil (some h59) .nil)))) none (.node (.node (.node (.node .nil (some h33) .nil) (some h17) (.node .nil (some h49) .nil)) (some h9) (.node (.node .nil (some h41) .nil) (some h25) (.node .nil (some h57) .nil))) (some h5) (.node (.node (.node .nil (some h37) .nil) (some h21) (.node .nil (some h53) .nil)) (some h13) (.node (.node .nil (some h45) .nil) (some h29) (.node .nil (some h61) .nil))))) none (.node (.node (.node (.node (.node .nil (some h32) .nil) (some h16) (.node .nil (some h48) .nil)) (some h8) (.node (.node .nil (some h40) .nil) (some h24) (.node .nil (some h56) .nil))) (some h4) (.node (.node (.node .nil (some h36) .nil) (some h20) (.node .nil (some h52) .nil)) (some h12) (.node (.node .nil (some h44) .nil) (some h28) (.node .nil (some h60) .nil)))) (some h2) (.node (.node (.node (.node .nil (some h34) .nil) (some h18) (.node .nil (some h50) .nil)) (some h10) (.node (.node .nil (some h42) .nil) (some h26) (.node .nil (some h58) .nil))) (some h6) (.node (.node (.node .nil (some h38) .nil) (some h22) (.node .nil (some h54) .nil)) (some h14) (.node (.node .nil (some h46) .nil) (some h30) (.node .nil (some h62) .nil))))))
def tabL : List (Nat × Fn) := [(2, h2), (3, h3), (4, h4), (5, h5), (6, h6), (7, h7), (8, h8), (9, h9), (10, h10), (11, h11), (12, h12), (13, h13), (14, h14), (15, h15), (16, h16), (17, h17), (18, h18), (19, h19), (20, h20), (21, h21), (22, h22), (23, h23), (24, h24), (25, h25), (26, h26), (27, h27), (28, h28), (29, h29), (30, h30), (31, h31), (32, h32), (33, h33), (34, h34), (35, h35), (36, h36), (37, h37), (38, h38), (39, h39), (40, h40), (41, h41), (42, h42), (43, h43), (44, h44), (45, h45), (46, h46), (47, h47), (48, h48), (49, h49), (50, h50), (51, h51), (52, h52), (53, h53), (54, h54), (55, h55), (56, h56), (57, h57), (58, h58), (59, h59), (60, h60), (61, h61), (62, h62), (63, h63)]
theorem tab_eq : tab = mkT tabL := by kernel_rfl
theorem tab_ok : TabOk Try.prog gl tab := by
  rw [tab_eq]
  exact mkT_ok (.cons ok2 (.cons ok3 (.cons ok4 (.cons ok5 (.cons ok6 (.cons ok7 (.cons ok8 (.cons ok9 (.cons ok10 (.cons ok11 (.cons ok12 (.cons ok13 (.cons ok14 (.cons ok15 (.cons ok16 (.cons ok17 (.cons ok18 (.cons ok19 (.cons ok20 (.cons ok21 (.cons ok22 (.cons ok23 (.cons ok24 (.cons ok25 (.cons ok26 (.cons ok27 (.cons ok28 (.cons ok29 (.cons ok30 (.cons ok31 (.cons ok32 (.cons ok33 (.cons ok34 (.cons ok35 (.cons ok36 (.cons ok37 (.cons ok38 (.cons ok39 (.cons ok40 (.cons ok41 (.cons ok42 (.cons ok43 (.cons ok44 (.cons ok45 (.cons ok46 (.cons ok47 (.cons ok48 (.cons ok49 (.cons ok50 (.cons ok51 (.cons ok52 (.cons ok53 (.cons ok54 (.cons ok55 (.cons ok56 (.cons ok57 (.cons ok58 (.cons ok59 (.cons ok60 (.cons ok61 (.cons ok62 (.cons ok63 .nil))))))))))))))))))))))))))))))))))))))))))))))))))))))))))))))
end Go.YtccnbjlbbiachaaH
