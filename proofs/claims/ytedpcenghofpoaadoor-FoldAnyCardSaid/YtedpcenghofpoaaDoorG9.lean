/-
  A law of this seat's translation, compacted, held against the loaded program by the kernel. Printed by wip/tools/Gex.lean.
  A law of this seat's translation, compacted, held against the loaded program by the kernel. Printed by wip/tools/Gex.lean.
  Orders, steps and what is left, against the reference: the laws' contracts. Own work.
-/
import Derived.Test.YtedpcenghofpoaaDoorC1
import Derived.Test.YtedpcenghofpoaaDoorG8
namespace Go.Proofs.YtedpcenghofpoaaDoor
open Go Fw
def A4 : ACode := .seq (.reg [⟨some 1, none, .boxi (.t 0)⟩, ⟨some 2, none, .mv (.c (.bool false))⟩])
  (.seq (.seq (.reg [⟨some 16, none, .load true 2 (.t 1)⟩, ⟨some 17, none, .pcall 14 [.t 16]⟩])
  (.cond (.t 17) (.seq (.reg [⟨some 18, none, .pcall 15 []⟩, ⟨some 2, none, .mv (.t 18)⟩])
  (.ret)) (.skip)))
  (.seq (.reg [⟨some 19, none, .load true 2 (.t 1)⟩, ⟨some 20, none, .pcall 16 [.t 19]⟩, ⟨some 3, none, .alloc [.nilsl, .str (bs [])]⟩, ⟨none, none, .store 2 (.t 3) (.t 20)⟩])
  (.seq (.reg [⟨some 22, none, .load true 2 (.t 1)⟩, ⟨some 23, none, .pcall 23 [.t 22]⟩, ⟨some 21, none, .mv (.t 23)⟩, ⟨some 24, none, .extract (.t 21) 0⟩, ⟨some 25, none, .extract (.t 21) 1⟩, ⟨some 4, none, .mv (.t 24)⟩, ⟨some 5, none, .mv (.t 25)⟩])
  (.seq (.reg [⟨some 27, none, .load true 2 (.t 3)⟩, ⟨some 28, none, .pcall 24 [.t 27]⟩, ⟨some 26, none, .mv (.t 28)⟩, ⟨some 29, none, .extract (.t 26) 0⟩, ⟨some 30, none, .extract (.t 26) 1⟩, ⟨some 6, none, .mv (.t 29)⟩, ⟨some 7, none, .mv (.t 30)⟩])
  (.seq (.reg [⟨some 32, none, .load true 2 (.t 1)⟩, ⟨some 33, none, .pcall 25 [.t 32]⟩, ⟨some 31, none, .mv (.t 33)⟩, ⟨some 34, none, .extract (.t 31) 0⟩, ⟨some 35, none, .extract (.t 31) 1⟩, ⟨some 8, none, .mv (.t 34)⟩, ⟨some 9, none, .mv (.t 35)⟩])
  (.seq (.reg [⟨some 37, none, .load true 2 (.t 3)⟩, ⟨some 38, none, .pcall 26 [.t 37]⟩, ⟨some 36, none, .mv (.t 38)⟩, ⟨some 39, none, .extract (.t 36) 0⟩, ⟨some 40, none, .extract (.t 36) 1⟩, ⟨some 10, none, .mv (.t 39)⟩, ⟨some 11, none, .mv (.t 40)⟩])
  (.seq (.reg [⟨some 42, none, .faddr false 1 0 (.t 1)⟩, ⟨some 43, none, .load false 1 (.t 42)⟩, ⟨some 44, none, .pcall 27 [.t 43]⟩, ⟨some 41, none, .mv (.t 44)⟩, ⟨some 45, none, .extract (.t 41) 0⟩, ⟨some 46, none, .extract (.t 41) 1⟩, ⟨some 12, none, .mv (.t 45)⟩, ⟨some 13, none, .mv (.t 46)⟩])
  (.seq (.reg [⟨some 48, none, .faddr false 1 0 (.t 1)⟩, ⟨some 49, none, .load false 1 (.t 48)⟩, ⟨some 50, none, .pcall 28 [.t 49]⟩, ⟨some 47, none, .mv (.t 50)⟩, ⟨some 51, none, .extract (.t 47) 0⟩, ⟨some 52, none, .extract (.t 47) 1⟩, ⟨some 14, none, .mv (.t 51)⟩, ⟨some 15, none, .mv (.t 52)⟩])
  (.seq (.reg [⟨some 53, none, .mv (.t 4)⟩, ⟨some 54, none, .mv (.t 6)⟩, ⟨some 55, none, .pcall 29 [.t 53, .t 54]⟩, ⟨some 56, none, .mv (.t 55)⟩, ⟨some 57, some (56, true), .mv (.t 5)⟩, ⟨some 58, some (56, true), .mv (.t 7)⟩, ⟨some 59, some (56, true), .bin 0 .eql (.t 57) (.t 58)⟩, ⟨some 60, none, .pick (.t 56) (.t 59) (.c (.bool false))⟩, ⟨some 61, none, .mv (.t 60)⟩, ⟨some 62, some (61, true), .mv (.t 8)⟩, ⟨some 63, some (61, true), .mv (.t 10)⟩, ⟨some 64, some (61, true), .bin 0 .eql (.t 62) (.t 63)⟩, ⟨some 65, none, .pick (.t 61) (.t 64) (.c (.bool false))⟩, ⟨some 66, none, .mv (.t 65)⟩, ⟨some 67, some (66, true), .mv (.t 9)⟩, ⟨some 68, some (66, true), .mv (.t 11)⟩, ⟨some 69, some (66, true), .bin 0 .eql (.t 67) (.t 68)⟩, ⟨some 70, none, .pick (.t 66) (.t 69) (.c (.bool false))⟩, ⟨some 71, none, .mv (.t 70)⟩, ⟨some 72, some (71, true), .mv (.t 12)⟩, ⟨some 73, some (71, true), .mv (.t 14)⟩, ⟨some 74, some (71, true), .bin 0 .eql (.t 72) (.t 73)⟩, ⟨some 75, none, .pick (.t 71) (.t 74) (.c (.bool false))⟩, ⟨some 76, none, .mv (.t 75)⟩, ⟨some 77, some (76, true), .mv (.t 13)⟩, ⟨some 78, some (76, true), .mv (.t 15)⟩, ⟨some 79, some (76, true), .bin 0 .eql (.t 77) (.t 78)⟩, ⟨some 80, none, .pick (.t 76) (.t 79) (.c (.bool false))⟩, ⟨some 81, none, .mv (.t 80)⟩, ⟨some 82, some (81, true), .pcall 15 []⟩, ⟨some 83, none, .pick (.t 81) (.t 82) (.c (.bool false))⟩, ⟨some 2, none, .mv (.t 83)⟩])
  (.ret))))))))))
def R4 : List ARes := [.t 2]
theorem ok4 : FnOk Tryd.prog 4 [] pureFns A4 R4 84 := ⟨⟨Tryd.f4, _, Tryd.func4, rfl, rfl, by kernel_rfl, by kernel_rfl⟩, by kernel_rfl⟩
end Go.Proofs.YtedpcenghofpoaaDoor
namespace Go.Proofs.YtedpcenghofpoaaDoor
open Go Fw
def A5 : ACode := .seq (.reg [⟨some 3, none, .boxi (.t 0)⟩, ⟨some 6, none, .mv (.c (.bool false))⟩])
  (.seq (.seq (.reg [⟨some 24, none, .load true 2 (.t 3)⟩, ⟨some 25, none, .pcall 14 [.t 24]⟩, ⟨some 26, none, .mv (.t 25)⟩, ⟨some 27, some (26, false), .mv (.t 2)⟩, ⟨some 28, some (26, false), .len false (.t 27)⟩, ⟨some 29, some (26, false), .bin 0 .gtr (.t 28) (.c (.int .i64 30))⟩, ⟨some 30, none, .pick (.t 26) (.c (.bool true)) (.t 29)⟩])
  (.cond (.t 30) (.seq (.reg [⟨some 31, none, .pcall 15 []⟩, ⟨some 6, none, .mv (.t 31)⟩])
  (.ret)) (.skip)))
  (.seq (.reg [⟨some 32, none, .load true 2 (.t 3)⟩, ⟨some 33, none, .pcall 16 [.t 32]⟩, ⟨some 7, none, .alloc [.nilsl, .str (bs [])]⟩, ⟨none, none, .store 2 (.t 7) (.t 33)⟩])
  (.seq (.reg [⟨some 35, none, .load true 2 (.t 3)⟩, ⟨some 36, none, .pcall 30 [.t 35]⟩, ⟨some 34, none, .mv (.t 36)⟩, ⟨some 37, none, .extract (.t 34) 0⟩, ⟨some 38, none, .extract (.t 34) 1⟩, ⟨some 8, none, .mv (.t 37)⟩, ⟨some 9, none, .mv (.t 38)⟩])
  (.seq (.reg [⟨some 40, none, .load true 2 (.t 7)⟩, ⟨some 41, none, .pcall 31 [.t 40]⟩, ⟨some 39, none, .mv (.t 41)⟩, ⟨some 42, none, .extract (.t 39) 0⟩, ⟨some 43, none, .extract (.t 39) 1⟩, ⟨some 10, none, .mv (.t 42)⟩, ⟨some 11, none, .mv (.t 43)⟩])
  (.seq (.reg [⟨some 45, none, .load true 2 (.t 3)⟩, ⟨some 46, none, .mv (.t 1)⟩, ⟨some 47, none, .pcall 32 [.t 45, .t 46]⟩, ⟨some 44, none, .mv (.t 47)⟩, ⟨some 48, none, .extract (.t 44) 0⟩, ⟨some 49, none, .extract (.t 44) 1⟩, ⟨some 12, none, .alloc [.nilsl, .str (bs [])]⟩, ⟨none, none, .store 2 (.t 12) (.t 48)⟩, ⟨some 13, none, .mv (.t 49)⟩])
  (.seq (.reg [⟨some 51, none, .load true 2 (.t 7)⟩, ⟨some 52, none, .mv (.t 1)⟩, ⟨some 53, none, .pcall 33 [.t 51, .t 52]⟩, ⟨some 50, none, .mv (.t 53)⟩, ⟨some 54, none, .extract (.t 50) 0⟩, ⟨some 55, none, .extract (.t 50) 1⟩, ⟨some 14, none, .alloc [.nilsl, .str (bs [])]⟩, ⟨none, none, .store 2 (.t 14) (.t 54)⟩, ⟨some 15, none, .mv (.t 55)⟩])
  (.seq (.seq (.regd [⟨some 56, none, .mv (.t 8)⟩, ⟨some 57, none, .mv (.t 10)⟩, ⟨some 58, none, .pcall 29 [.t 56, .t 57]⟩, ⟨some 59, none, .un .not (.t 58)⟩, ⟨some 60, none, .mv (.t 59)⟩, ⟨some 61, some (60, false), .mv (.t 9)⟩, ⟨some 62, some (60, false), .mv (.t 11)⟩, ⟨some 63, some (60, false), .bin 0 .neq (.t 61) (.t 62)⟩, ⟨some 64, none, .pick (.t 60) (.c (.bool true)) (.t 63)⟩, ⟨some 65, none, .mv (.t 64)⟩, ⟨some 66, some (65, false), .faddr false 1 0 (.t 12)⟩, ⟨some 67, some (65, false), .load false 1 (.t 66)⟩, ⟨some 68, some (65, false), .faddr false 1 0 (.t 14)⟩, ⟨some 69, some (65, false), .load false 1 (.t 68)⟩, ⟨some 70, some (65, false), .pcall 29 [.t 67, .t 69]⟩, ⟨some 71, some (65, false), .un .not (.t 70)⟩, ⟨some 72, none, .pick (.t 65) (.c (.bool true)) (.t 71)⟩, ⟨some 73, none, .mv (.t 72)⟩, ⟨some 74, some (73, false), .faddr false 1 1 (.t 12)⟩, ⟨some 75, some (73, false), .load false 1 (.t 74)⟩, ⟨some 76, some (73, false), .faddr false 1 1 (.t 14)⟩, ⟨some 77, some (73, false), .load false 1 (.t 76)⟩, ⟨some 78, some (73, false), .bin 0 .neq (.t 75) (.t 77)⟩, ⟨some 79, none, .pick (.t 73) (.c (.bool true)) (.t 78)⟩, ⟨some 80, none, .mv (.t 79)⟩, ⟨some 81, some (80, false), .mv (.t 13)⟩, ⟨some 82, some (80, false), .mv (.t 15)⟩, ⟨some 83, some (80, false), .bin 0 .neq (.t 81) (.t 82)⟩, ⟨some 84, none, .pick (.t 80) (.c (.bool true)) (.t 83)⟩, ⟨some 85, none, .mv (.t 84)⟩, ⟨some 86, some (85, false), .load true 2 (.t 3)⟩, ⟨some 87, some (85, false), .mv (.t 2)⟩, ⟨some 88, some (85, false), .pcall 34 [.t 86, .t 87]⟩, ⟨some 89, some (85, false), .load true 2 (.t 7)⟩, ⟨some 90, some (85, false), .mv (.t 2)⟩, ⟨some 91, some (85, false), .pcall 35 [.t 89, .t 90]⟩, ⟨some 92, some (85, false), .bin 0 .neq (.t 88) (.t 91)⟩, ⟨some 93, none, .pick (.t 85) (.c (.bool true)) (.t 92)⟩])
  (.cond (.t 93) (.seq (.reg [⟨some 6, none, .mv (.c (.bool false))⟩])
  (.ret)) (.skip)))
  (.seq (.reg [⟨some 95, none, .load true 2 (.t 3)⟩, ⟨some 96, none, .pcall 36 [.t 95]⟩, ⟨some 94, none, .mv (.t 96)⟩, ⟨some 97, none, .extract (.t 94) 0⟩, ⟨some 98, none, .extract (.t 94) 1⟩, ⟨some 16, none, .mv (.t 97)⟩, ⟨some 17, none, .mv (.t 98)⟩])
  (.seq (.reg [⟨some 100, none, .load true 2 (.t 3)⟩, ⟨some 101, none, .pcall 37 [.t 100]⟩, ⟨some 99, none, .mv (.t 101)⟩, ⟨some 102, none, .extract (.t 99) 0⟩, ⟨some 103, none, .extract (.t 99) 1⟩, ⟨some 18, none, .alloc [.nilsl, .str (bs [])]⟩, ⟨none, none, .store 2 (.t 18) (.t 102)⟩, ⟨some 19, none, .mv (.t 103)⟩])
  (.seq (.reg [⟨some 105, none, .load true 2 (.t 7)⟩, ⟨some 106, none, .pcall 38 [.t 105]⟩, ⟨some 104, none, .mv (.t 106)⟩, ⟨some 107, none, .extract (.t 104) 0⟩, ⟨some 108, none, .extract (.t 104) 1⟩, ⟨some 20, none, .alloc [.nilsl, .str (bs [])]⟩, ⟨none, none, .store 2 (.t 20) (.t 107)⟩, ⟨some 21, none, .mv (.t 108)⟩])
  (.seq (.seq (.reg [⟨some 109, none, .mv (.t 21)⟩, ⟨some 110, none, .bin 0 .neq (.t 109) (.c (.int .i64 0))⟩])
  (.cond (.t 110) (.seq (.reg [⟨some 111, none, .mv (.t 17)⟩, ⟨some 112, none, .mv (.t 21)⟩, ⟨some 113, none, .bin 0 .eql (.t 111) (.t 112)⟩, ⟨some 114, none, .mv (.t 113)⟩, ⟨some 115, some (114, true), .mv (.t 19)⟩, ⟨some 116, some (114, true), .mv (.t 21)⟩, ⟨some 117, some (114, true), .bin 0 .eql (.t 115) (.t 116)⟩, ⟨some 118, none, .pick (.t 114) (.t 117) (.c (.bool false))⟩, ⟨some 119, none, .mv (.t 118)⟩, ⟨some 120, some (119, true), .mv (.t 16)⟩, ⟨some 121, some (119, true), .len false (.t 120)⟩, ⟨some 122, some (119, true), .bin 0 .eql (.t 121) (.c (.int .i64 0))⟩, ⟨some 123, none, .pick (.t 119) (.t 122) (.c (.bool false))⟩, ⟨some 124, none, .mv (.t 123)⟩, ⟨some 125, some (124, true), .faddr false 1 0 (.t 18)⟩, ⟨some 126, some (124, true), .load false 1 (.t 125)⟩, ⟨some 127, some (124, true), .len false (.t 126)⟩, ⟨some 128, some (124, true), .bin 0 .eql (.t 127) (.c (.int .i64 0))⟩, ⟨some 129, none, .pick (.t 124) (.t 128) (.c (.bool false))⟩, ⟨some 130, none, .mv (.t 129)⟩, ⟨some 131, some (130, true), .faddr false 1 1 (.t 18)⟩, ⟨some 132, some (130, true), .load false 1 (.t 131)⟩, ⟨some 133, some (130, true), .bin 0 .eql (.t 132) (.c (.str (bs [])))⟩, ⟨some 134, none, .pick (.t 130) (.t 133) (.c (.bool false))⟩, ⟨some 135, none, .mv (.t 134)⟩, ⟨some 136, some (135, true), .pcall 15 []⟩, ⟨some 137, none, .pick (.t 135) (.t 136) (.c (.bool false))⟩, ⟨some 6, none, .mv (.t 137)⟩])
  (.ret)) (.skip)))
  (.seq (.reg [⟨some 139, none, .load true 2 (.t 18)⟩, ⟨some 140, none, .pcall 16 [.t 139]⟩, ⟨some 141, none, .pcall 31 [.t 140]⟩, ⟨some 138, none, .mv (.t 141)⟩, ⟨some 142, none, .extract (.t 138) 0⟩, ⟨some 143, none, .extract (.t 138) 1⟩, ⟨some 22, none, .mv (.t 142)⟩, ⟨some 23, none, .mv (.t 143)⟩])
  (.seq (.seq (.reg [⟨some 144, none, .mv (.t 19)⟩, ⟨some 145, none, .bin 0 .neq (.t 144) (.c (.int .i64 0))⟩, ⟨some 146, none, .mv (.t 145)⟩, ⟨some 147, some (146, false), .mv (.t 23)⟩, ⟨some 148, some (146, false), .bin 0 .neq (.t 147) (.c (.int .i64 0))⟩, ⟨some 149, none, .pick (.t 146) (.c (.bool true)) (.t 148)⟩, ⟨some 150, none, .mv (.t 149)⟩, ⟨some 151, some (150, false), .mv (.t 22)⟩, ⟨some 152, some (150, false), .len false (.t 151)⟩, ⟨some 153, some (150, false), .bin 0 .gtr (.t 152) (.c (.int .i64 0))⟩, ⟨some 154, none, .pick (.t 150) (.c (.bool true)) (.t 153)⟩, ⟨some 155, none, .mv (.t 154)⟩, ⟨some 156, some (155, false), .faddr false 1 0 (.t 18)⟩, ⟨some 157, some (155, false), .load false 1 (.t 156)⟩, ⟨some 158, some (155, false), .len false (.t 157)⟩, ⟨some 159, some (155, false), .bin 0 .eql (.t 158) (.c (.int .i64 1))⟩, ⟨some 160, some (155, false), .faddr false 1 0 (.t 20)⟩, ⟨some 161, some (155, false), .load false 1 (.t 160)⟩, ⟨some 162, some (155, false), .len false (.t 161)⟩, ⟨some 163, some (155, false), .bin 0 .eql (.t 162) (.c (.int .i64 1))⟩, ⟨some 164, some (155, false), .bin 1 .neq (.t 159) (.t 163)⟩, ⟨some 165, none, .pick (.t 155) (.c (.bool true)) (.t 164)⟩])
  (.cond (.t 165) (.seq (.reg [⟨some 6, none, .mv (.c (.bool false))⟩])
  (.ret)) (.skip)))
  (.seq (.seq (.reg [⟨some 166, none, .faddr false 1 0 (.t 20)⟩, ⟨some 167, none, .load false 1 (.t 166)⟩, ⟨some 168, none, .len false (.t 167)⟩, ⟨some 169, none, .bin 0 .gtr (.t 168) (.c (.int .i64 1))⟩])
  (.cond (.t 169) (.seq (.reg [⟨some 170, none, .mv (.t 17)⟩, ⟨some 171, none, .bin 0 .eql (.t 170) (.c (.int .i64 14))⟩, ⟨some 172, none, .mv (.t 171)⟩, ⟨some 173, some (172, true), .mv (.t 16)⟩, ⟨some 174, some (172, true), .len false (.t 173)⟩, ⟨some 175, some (172, true), .bin 0 .eql (.t 174) (.c (.int .i64 0))⟩, ⟨some 176, none, .pick (.t 172) (.t 175) (.c (.bool false))⟩, ⟨some 177, none, .mv (.t 176)⟩, ⟨some 178, some (177, true), .pcall 15 []⟩, ⟨some 179, none, .pick (.t 177) (.t 178) (.c (.bool false))⟩, ⟨some 6, none, .mv (.t 179)⟩])
  (.ret)) (.skip)))
  (.seq (.reg [⟨some 180, none, .mv (.t 17)⟩, ⟨some 181, none, .bin 0 .eql (.t 180) (.c (.int .i64 0))⟩, ⟨some 182, none, .mv (.t 181)⟩, ⟨some 183, some (182, true), .load true 2 (.t 7)⟩, ⟨some 184, some (182, true), .mv (.t 16)⟩, ⟨some 185, some (182, true), .pcall 35 [.t 183, .t 184]⟩, ⟨some 186, some (182, true), .bin 0 .eql (.t 185) (.c (.int .i64 0))⟩, ⟨some 187, none, .pick (.t 182) (.t 186) (.c (.bool false))⟩, ⟨some 188, none, .mv (.t 187)⟩, ⟨some 189, some (188, true), .pcall 15 []⟩, ⟨some 190, none, .pick (.t 188) (.t 189) (.c (.bool false))⟩, ⟨some 6, none, .mv (.t 190)⟩])
  (.ret))))))))))))))))
def R5 : List ARes := [.t 6]
theorem ok5 : FnOk Tryd.prog 5 [] pureFns A5 R5 191 := ⟨⟨Tryd.f5, _, Tryd.func5, rfl, rfl, by kernel_rfl, by kernel_rfl⟩, by kernel_rfl⟩
end Go.Proofs.YtedpcenghofpoaaDoor
set_option linter.unusedVariables false
set_option linter.unusedSimpArgs false
namespace Go.Proofs.YtedpcenghofpoaaDoor
open Go Fw

theorem ordV_is {l : List Int} {f : List UInt8} : ∃ p q, ∃ e : Int, ordV l f = .tup [p, .int .i64 e] ∧ asI p = some q := by
  unfold ordV
  split
  · exact ⟨_, _, _, rfl, rfl⟩
  · rename_i hc
    have hc : chk l f = 0 := by simpa using hc
    obtain ⟨m1, m2, _, _⟩ := meas_0 (chk_0 hc).1
    split
    · exact ⟨_, _, _, rfl, rfl⟩
    · refine ⟨_, _, _, rfl, asI_outV (l := (foldL l f).head?.getD []) ?_⟩
      cases hf : foldL l f with
      | nil => simp
      | cons o r =>
        have : o ∈ permsL l.length := (List.mem_filter.1 (show o ∈ foldL l f by rw [hf]; simp)).1
        have := (perms_ok this).1
        simp; omega
theorem cntV_is {l : List Int} {f : List UInt8} : ∃ a b : Int, cntV l f = .tup [.int .i64 a, .int .i64 b] := by
  unfold cntV; split <;> exact ⟨_, _, rfl⟩
theorem allV_is {l : List Int} : ∃ a b : Int, allV l = .tup [.int .i64 a, .int .i64 b] := by
  unfold allV; split <;> exact ⟨_, _, rfl⟩
theorem p4_big {y : AV} {n : Nat} (hn : alenK false y = some (.int .i64 (n : Int))) (hl : y.leaf = true) (f : List UInt8) (hbig : 30 < n ∨ 30 < f.length) : PCall Tryd.prog 4 [.agg [y, .str (bs f)]] (.bool true) := by
  obtain ⟨C, hC, h15, h14⟩ := ctxB hn hl f
  refine PCall.of hC ok4 (by simp) rfl fun hs hb => ?_
  obtain ⟨hc, hst⟩ := leaf_cells hl
  simp only [A4, R4]
  have : (decide (30 < n) || decide (30 < f.length)) = true := by rw [Bool.or_eq_true, decide_eq_true_eq, decide_eq_true_eq]; exact hbig
  rw [this] at h14
  simp [hst, h14, h15]
theorem p4 {y : AV} {l : List Int} (hy : asI y = some l) (hsh : y.share = y) (hp : y.plain = true) (f : List UInt8) (h1 : l.length ≤ 30) (h2 : f.length ≤ 30) : PCall Tryd.prog 4 [.agg [y, .str (bs f)]] (.bool true) := by
  obtain ⟨C, hC, h15, h14, h16, up⟩ := ctxS (alen_of hy) (asI_leaf hy) hsh hp f
  have : (decide (30 < l.length) || decide (30 < f.length)) = false := by rw [Bool.or_eq_false_iff, decide_eq_false_iff_not, decide_eq_false_iff_not]; omega
  rw [this] at h14
  obtain ⟨p, q, e, ho, hpq⟩ := ordV_is (l := l) (f := f)
  obtain ⟨a, b, hcv⟩ := cntV_is (l := l) (f := f)
  obtain ⟨c, d, hav⟩ := allV_is (l := l)
  have q23 : C 23 [.agg [y, .str (bs f)]] = some (ordV l f) := by rw [up 23 (by decide) (by decide) (by decide)]; exact CA_23 hy
  have q24 : C 24 [.agg [y, .str (bs f)]] = some (ordV l f) := by rw [up 24 (by decide) (by decide) (by decide)]; exact CA_24 hy
  have q25 : C 25 [.agg [y, .str (bs f)]] = some (cntV l f) := by rw [up 25 (by decide) (by decide) (by decide)]; exact CA_25 hy
  have q26 : C 26 [.agg [y, .str (bs f)]] = some (cntV l f) := by rw [up 26 (by decide) (by decide) (by decide)]; exact CA_26 hy
  have q27 : C 27 [y] = some (allV l) := by rw [up 27 (by decide) (by decide) (by decide)]; exact CA_27 hy
  have q28 : C 28 [y] = some (allV l) := by rw [up 28 (by decide) (by decide) (by decide)]; exact CA_28 hy
  have q29 : C 29 [p, p] = some (.bool true) := by rw [up 29 (by decide) (by decide) (by decide), CA_29 hpq hpq]; simp
  rw [ho] at q23 q24
  rw [hcv] at q25 q26
  rw [hav] at q27 q28
  obtain ⟨hc, hst⟩ := leaf_cells (asI_leaf hy)
  refine PCall.of hC ok4 (by simp) rfl fun hs hb => ?_
  simp only [A4, R4]
  simp [hst, h14, h16, q23, q24, q25, q26, q27, q28, q29, h15, asI_ld hy]
theorem orders_typed (xs : List AV) (h : Typed [TStr] xs) : PCall Tryd.prog 4 xs (.bool true) := by
  obtain ⟨x, rfl, hx⟩ := h.one
  obtain ⟨y, f, rfl, hy⟩ := str_typed hx
  obtain ⟨n, hn, hl, h1⟩ := ints_typed hy
  by_cases hf : 30 < f.length
  · exact p4_big hn hl f (.inr hf)
  rcases h1 with h1 | ⟨h1, hs1, l, hl1, hl2⟩
  · exact p4_big hn hl f (.inl h1)
  exact p4 hl1 hs1 (ints_plain hy) f (by omega) (by omega)
/-! what is left -/
theorem redS_left : ∀ (n : Nat) (l : List Int) (f : List UInt8), chk l f = 0 → l.length ≤ n → chk (redS n l f).2.1 (redS n l f).2.2 = 0 ∧ fstC (redS n l f).2.1 (redS n l f).2.2 = none
  | 0, l, f, hc, hn => by
    obtain ⟨m1, _, _, _⟩ := meas_0 (chk_0 hc).1
    omega
  | n + 1, l, f, hc, hn => by
    cases hf : fstC l f with
    | none => rw [redS_stop hf]; exact ⟨hc, hf⟩
    | some i =>
      obtain ⟨hil, hcan⟩ := fstC_some hf
      obtain ⟨h1, h2⟩ := chk_step hc hil hcan
      rw [redS_step hf]
      exact redS_left n _ _ h1 (by omega)
theorem foldl_run : ∀ (n : Nat) (l : List Int) (f : List UInt8), chk l f = 0 → (redS n l f).1.foldl (fun s i => if s.1 = 0 then doR s.2.1 s.2.2 i else s) ((0 : Int), l, f) = (0, (redS n l f).2)
  | 0, l, f, hc => rfl
  | n + 1, l, f, hc => by
    cases hf : fstC l f with
    | none => rw [redS_stop hf]; rfl
    | some i =>
      obtain ⟨hil, hcan⟩ := fstC_some hf
      obtain ⟨h1, h2⟩ := chk_step hc hil hcan
      rw [redS_step hf]
      have hd : doR l f (i : Int) = (0, stepL l f i) := by
        have := (canB_spec hcan).1
        simp [doR, hc, hcan, this, hil]
      simp only [List.foldl_cons, if_true, hd]
      exact foldl_run n _ _ h1
theorem runS_red {l : List Int} {f : List UInt8} (hc : chk l f = 0) (n : Nat) : runS l f (redS n l f).1 = (0, (redS n l f).2) := by
  unfold runS
  rw [hc]
  exact foldl_run n l f hc
theorem canL_stuck {l : List Int} {f : List UInt8} (h : fstC l f = none) : canL l f l.length = [] := canL_nil h
theorem p5_big {y z : AV} {n m : Nat} (hn : alenK false y = some (.int .i64 (n : Int))) (hl : y.leaf = true) (f : List UInt8) (i : Int) (hm : alenK false z = some (.int .i64 (m : Int))) (hbig : 30 < n ∨ 30 < f.length ∨ 30 < m) : PCall Tryd.prog 5 [.agg [y, .str (bs f)], .int .i64 i, z] (.bool true) := by
  obtain ⟨C, hC, h15, h14⟩ := ctxB hn hl f
  refine PCall.of hC ok5 (by simp) rfl fun hs hb => ?_
  obtain ⟨hc, hst⟩ := leaf_cells hl
  simp only [A5, R5]
  by_cases hb1 : 30 < n ∨ 30 < f.length
  · have : (decide (30 < n) || decide (30 < f.length)) = true := by rw [Bool.or_eq_true, decide_eq_true_eq, decide_eq_true_eq]; exact hb1
    rw [this] at h14
    simp [hst, h14, h15]
  · have : (decide (30 < n) || decide (30 < f.length)) = false := by rw [Bool.or_eq_false_iff, decide_eq_false_iff_not, decide_eq_false_iff_not]; omega
    rw [this] at h14
    simp [hst, h14, h15, hm, show (30 : Int) < (m : Int) by omega]
theorem n0 (n : Nat) : ¬ n = n + 1 + 1 ∧ ¬ n = n + 1 + 1 + 1 ∧ ¬ n = n + 1 + 1 + 1 + 1 ∧ ¬ n + 1 = n + 1 + 1 + 1 ∧ ¬ n + 1 = n + 1 + 1 + 1 + 1 ∧ ¬ n + 1 + 1 = n + 1 + 1 + 1 + 1 := by omega
theorem canV_is {l : List Int} {f : List UInt8} : ∃ p q, ∃ e : Int, canV l f = .tup [p, .int .i64 e] ∧ asI p = some q := by
  unfold canV
  split
  · rename_i hc
    obtain ⟨m1, m2, _, _⟩ := meas_0 (chk_0 hc).1
    exact ⟨_, _, _, rfl, asI_outV (l := canL l f l.length) (by have := canL_len l f l.length; omega)⟩
  · exact ⟨_, _, _, rfl, rfl⟩
theorem canI {l : List Int} {f : List UInt8} (hc : chk l f = 0) (hf : fstC l f = none) : canV l f = .tup [.nilsl, .int .i64 0] := by
  unfold canV
  rw [if_pos hc, canL_stuck hf]
  rfl
set_option maxRecDepth 100000 in
theorem p5 {y z : AV} {l ss : List Int} (hy : asI y = some l) (hsh : y.share = y) (hp : y.plain = true) (hyo : l ≠ [] → y = outV 1 (ints l)) (f : List UInt8) (i : Int) (hz : asI z = some ss) (h1 : l.length ≤ 30) (h2 : f.length ≤ 30) (h3 : ss.length ≤ 30) :
    PCall Tryd.prog 5 [.agg [y, .str (bs f)], .int .i64 i, z] (.bool true) := by
  have h38 : PCall Tryd.prog 38 [.agg [y, .str (bs f)]] (stkV l f) := p38 hy f fun hc => by
    obtain ⟨m1, m2, _, _⟩ := meas_0 (chk_0 hc).1
    have hne : l ≠ [] := by intro e; rw [e] at m1; simp at m1
    rw [hsh]; exact hyo hne
  obtain ⟨C1', hC1, h15, n1⟩ := ctx_pt CAok 15 _ _ p15
  obtain ⟨C2', hC2, h14, n2⟩ := ctx_pt hC1 14 _ _ (p14 (alen_of hy) (asI_leaf hy) f)
  obtain ⟨C3', hC3, q38, n3⟩ := ctx_pt hC2 38 _ _ h38
  obtain ⟨C, hC, h16', n4⟩ := ctx_fam hC3 16 (fun q : {q : AV × List UInt8 // q.1.leaf = true ∧ q.1.plain = true ∧ q.1.share = q.1} => [.agg [q.1.1, .str (bs q.1.2)]]) (fun q => .agg [q.1.1, .str (bs q.1.2)]) (fun q => by
    have := p16 q.2.1 (by rw [q.2.2.2]; simp only [AV.plain, plainL, q.2.2.1]; rfl) q.1.2
    rw [q.2.2.2] at this
    exact this) (fun i j e => by injection e)
  have h16 : ∀ (y : AV) (f : List UInt8), y.leaf = true → y.plain = true → y.share = y → C 16 [.agg [y, .str (bs f)]] = some (.agg [y, .str (bs f)]) := fun y f a b c => h16' ⟨(y, f), a, b, c⟩
  have up : ∀ g, ¬ g = 15 → ¬ g = 14 → ¬ g = 38 → ¬ g = 16 → C g = CA g := fun g a b c d => by rw [n4 g d, n3 g c, n2 g b, n1 g a]
  have h15 : C 15 [] = some (.bool true) := by rw [n4 15 (by decide), n3 15 (by decide), n2 15 (by decide)]; exact h15
  have h14 : C 14 [.agg [y, .str (bs f)]] = some (.bool false) := by
    rw [n4 14 (by decide), n3 14 (by decide), h14]
    have : (decide (30 < l.length) || decide (30 < f.length)) = false := by rw [Bool.or_eq_false_iff, decide_eq_false_iff_not, decide_eq_false_iff_not]; omega
    rw [this]
  have q38 : C 38 [.agg [y, .str (bs f)]] = some (stkV l f) := by rw [n4 38 (by decide)]; exact q38
  have g16 := h16 y f (asI_leaf hy) hp hsh
  have q30 : C 30 [.agg [y, .str (bs f)]] = some (canV l f) := by rw [up 30 (by decide) (by decide) (by decide) (by decide)]; exact CA_30 hy
  have q31 : C 31 [.agg [y, .str (bs f)]] = some (canV l f) := by rw [up 31 (by decide) (by decide) (by decide) (by decide)]; exact CA_31 hy
  have q32 : C 32 [.agg [y, .str (bs f)], .int .i64 i] = some (doV (doR l f i)) := by rw [up 32 (by decide) (by decide) (by decide) (by decide)]; exact CA_32 hy i
  have q33 : C 33 [.agg [y, .str (bs f)], .int .i64 i] = some (doV (doR l f i)) := by rw [up 33 (by decide) (by decide) (by decide) (by decide)]; exact CA_33 hy i
  have q34 : C 34 [.agg [y, .str (bs f)], z] = some (.int .i64 (verE l f ss)) := by rw [up 34 (by decide) (by decide) (by decide) (by decide)]; exact CA_34 hy hz
  have q35 : C 35 [.agg [y, .str (bs f)], z] = some (.int .i64 (verE l f ss)) := by rw [up 35 (by decide) (by decide) (by decide) (by decide)]; exact CA_35 hy hz
  have q36 : C 36 [.agg [y, .str (bs f)]] = some (stpV l f) := by rw [up 36 (by decide) (by decide) (by decide) (by decide)]; exact CA_36 hy
  have q37 : C 37 [.agg [y, .str (bs f)]] = some (stkV l f) := by rw [up 37 (by decide) (by decide) (by decide) (by decide)]; exact CA_37 hy
  have q29 : ∀ {p : AV} {q : List Int}, asI p = some q → C 29 [p, p] = some (.bool true) := fun {p q} h => by rw [up 29 (by decide) (by decide) (by decide) (by decide), CA_29 h h]; simp
  obtain ⟨p, q, e, hcv, hpq⟩ := canV_is (l := l) (f := f)
  rw [hcv] at q30 q31
  have n29 := q29 hpq
  have hdl : (doR l f i).2.1.length ≤ 30 := by have := doR_len l f i; omega
  have hdi := asI_outV (l := (doR l f i).2.1) (by omega)
  have d29 := q29 hdi
  have hdv : doV (doR l f i) = .tup [.agg [outV 1 (ints (doR l f i).2.1), .str (bs (doR l f i).2.2)], .int .i64 (doR l f i).1] := rfl
  rw [hdv] at q32 q33
  have hone := one_outV (doR l f i).2.1
  generalize outV 1 (ints (doR l f i).2.1) = dz at q32 q33 d29 hone hdi
  generalize (doR l f i).2.2 = df at q32 q33
  generalize (doR l f i).1 = de at q32 q33
  obtain ⟨hc, hst⟩ := leaf_cells (asI_leaf hy)
  by_cases hck : chk l f = 0
  rotate_left
  · have hsv : stkV l f = .tup [.agg [.nilsl, .str (bs [])], .int .i64 (chk l f)] := by unfold stkV; rw [if_neg hck]; rfl
    have htv : stpV l f = .tup [.nilsl, .int .i64 (chk l f)] := by unfold stpV; rw [if_neg hck]
    rw [hsv] at q37 q38
    rw [htv] at q36
    generalize chk l f = ce at *
    refine PCall.of hC ok5 (by simp) rfl fun hs hb => ?_
    simp only [A5, R5]
    simp [hst, h14, alen_of hz, show ¬ (30 : Int) < (ss.length : Int) by omega, g16, q30, q31, q32, q33, n29, d29, q34, q35, q36, q37, q38, fa, la, apart, n0 hs.nh, hck, h15]
  obtain ⟨hl0, hl1⟩ := redS_left l.length l f hck (Nat.le_refl _)
  obtain ⟨hms, _, _⟩ := chk_0 hl0
  obtain ⟨m1, m2, _, _⟩ := meas_0 hms
  have hli := asI_outV (l := (redS l.length l f).2.1) (by omega)
  have g16b := h16 (outV 1 (ints (redS l.length l f).2.1)) (redS l.length l f).2.2 (outV_leaf _) (plain_outV _) (share_outV _)
  have q31b : C 31 [.agg [outV 1 (ints (redS l.length l f).2.1), .str (bs (redS l.length l f).2.2)]] = some (.tup [.nilsl, .int .i64 0]) := by
    rw [up 31 (by decide) (by decide) (by decide) (by decide), CA_31 hli, canI hl0 hl1]
  have hsv : stkV l f = .tup [.agg [outV 1 (ints (redS l.length l f).2.1), .str (bs (redS l.length l f).2.2)], .int .i64 0] := by unfold stkV; rw [if_pos hck]; rfl
  rw [hsv] at q37 q38
  have hal := alen_of hli
  have hon2 := one_outV (redS l.length l f).2.1
  have hrun := runS_red hck l.length
  by_cases hlong : 1 < (redS l.length l f).2.1.length
  · have htv : stpV l f = .tup [.nilsl, .int .i64 14] := by unfold stpV; rw [if_pos hck, if_pos hlong]
    rw [htv] at q36
    have hln : ¬ ((redS l.length l f).2.1.length : Int) = 1 := by omega
    have hln' : ¬ (redS l.length l f).2.1.length = 1 := by omega
    have hl2 : (1 : Int) < ((redS l.length l f).2.1.length : Int) := by omega
    generalize outV 1 (ints (redS l.length l f).2.1) = lz at *
    generalize (redS l.length l f).2.1.length = ll at *
    generalize (redS l.length l f).2.2 = lf at *
    refine PCall.of hC ok5 (by simp) rfl fun hs hb => ?_
    simp only [A5, R5]
    simp [hst, h14, alen_of hz, show ¬ (30 : Int) < (ss.length : Int) by omega, g16, q30, q31, q32, q33, n29, d29, q34, q35, q36, q37, q38, fa, la, apart, n0 hs.nh, g16b, q31b, hal, hlong, hl2, hln, hln', h15]
  · have hl1' : (redS l.length l f).2.1.length = 1 := by omega
    have htv : stpV l f = .tup [outV 1 (ints (redS l.length l f).1), .int .i64 0] := by unfold stpV; rw [if_pos hck, if_neg hlong]
    rw [htv] at q36
    have hsi := asI_outV (l := (redS l.length l f).1) (by have := redS_len l.length l f hck; omega)
    have hver : verE l f (redS l.length l f).1 = 0 := by unfold verE; rw [hrun]; simp; omega
    have q35b : C 35 [.agg [y, .str (bs f)], outV 1 (ints (redS l.length l f).1)] = some (.int .i64 0) := by
      rw [up 35 (by decide) (by decide) (by decide) (by decide), CA_35 hy hsi, hver]
    rw [hl1'] at hal
    generalize outV 1 (ints (redS l.length l f).2.1) = lz at *
    generalize outV 1 (ints (redS l.length l f).1) = sz at *
    generalize (redS l.length l f).2.2 = lf at *
    refine PCall.of hC ok5 (by simp) rfl fun hs hb => ?_
    simp only [A5, R5]
    simp [hst, h14, alen_of hz, show ¬ (30 : Int) < (ss.length : Int) by omega, g16, q30, q31, q32, q33, n29, d29, q34, q35, q36, q37, q38, fa, la, apart, n0 hs.nh, g16b, q31b, hal, q35b, h15]
theorem steps_typed (xs : List AV) (h : Typed [TStr, .int .i64, .sl (.int .i64)] xs) : PCall Tryd.prog 5 xs (.bool true) := by
  obtain ⟨x, o, z, rfl, hx, ho, hz⟩ := h.three
  obtain ⟨y, f, rfl, hy⟩ := str_typed hx
  obtain ⟨i, rfl, _⟩ := shv_int ho
  obtain ⟨n, hn, hl, h1⟩ := ints_typed hy
  obtain ⟨m, hm, _, h2⟩ := ints_typed hz
  by_cases hf : 30 < f.length
  · exact p5_big hn hl f i hm (.inr (.inl hf))
  rcases h1 with h1 | ⟨h1, hs1, l, hl1, hl2⟩
  · exact p5_big hn hl f i hm (.inl h1)
  rcases h2 with h2 | ⟨h2, hs2, ss, hs3, hs4⟩
  · exact p5_big hn hl f i hm (.inr (.inr h2))
  refine p5 hl1 hs1 (ints_plain hy) (fun hne => ?_) f i hs3 (by omega) (by omega) (by omega)
  obtain ⟨l', hl', _, _⟩ := shv_intsK hy
  rcases asI_inv hl1 with ⟨_, h'⟩ | ⟨c, h'⟩
  · exact absurd h' hne
  · rcases hl' with ⟨h'', _⟩ | h''
    · rw [h'] at h''; cases h''
    · rw [h'] at h''
      injection h'' with _ _ h3
      subst h3
      rw [h', outV_ne (by intro e; exact hne (by simpa [ints] using e))]
end Go.Proofs.YtedpcenghofpoaaDoor
