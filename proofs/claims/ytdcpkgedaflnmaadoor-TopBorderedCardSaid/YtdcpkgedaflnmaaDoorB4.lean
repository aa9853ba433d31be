/-
  Functions of this seat's translation, compacted, each held against the loaded program by the kernel. Printed by wip/tools/Gex.lean.
-/
import Derived.Test.YtdcpkgedaflnmaaDoorProg
import Derived.Test.YtdcpkgedaflnmaaDoorFx2
import Derived.KernelRfl
namespace Go.Proofs.YtdcpkgedaflnmaaDoor.Bt
open Go Fw
def pureFns : List Nat := [0,1,2,3,4,5,6,7,8,9,10,11,12,13,14,15,16,17,18,19,20,21,22,23,24,25,26,27,28,29,30,31,32,33,34,35,36,37,38,39,40,41,42,43,44,45,46,47,48,49,50,51,52,53,54,55,56,57,58,59,60,61,62,63,64,65,66,67,68,69,70,71,72,73,74,75,76,77,78,79,80,81,82,83,84,85,86,87,88,89,90,91,92,93,94,95,96,97,98,99,100,101,102,103,104,105,106,107,108,109,110,111,112,113,114,115,116,117,118,119,120,121,122,123,124,125,126,127,128,129,130,131,132,133,134,135,136,137,138,139,140,141,142,143,144,145,146,147,148,149,150,151,152,153,154,155,156,157,158,159,160,161,162,163,164,165,166,167,168,169,170,171,172,173,174,175,176,177,178,179,180,181]
def A3 : ACode := .seq (.reg [⟨some 2, none, .mv (.c (.bool false))⟩])
  (.seq (.reg [⟨some 17, none, .mv (.t 0)⟩, ⟨some 18, none, .pcall 6 [.t 17, .c (.int .i64 7), .c (.int .i64 22)]⟩, ⟨some 3, none, .mv (.t 18)⟩])
  (.seq (.reg [⟨some 19, none, .mv (.t 3)⟩, ⟨some 20, none, .mv (.t 3)⟩, ⟨some 21, none, .len false (.t 20)⟩, ⟨some 22, none, .bin 0 .sub (.t 21) (.c (.int .i64 1))⟩, ⟨some 23, none, .iaddrS 1 (.t 19) (.t 22)⟩, ⟨some 24, none, .load false 1 (.t 23)⟩, ⟨some 25, none, .bin 0 .add (.t 24) (.c (.int .i64 1))⟩, ⟨some 4, none, .mv (.t 25)⟩])
  (.seq (.reg [⟨some 27, none, .mv (.t 3)⟩, ⟨some 28, none, .mv (.t 4)⟩, ⟨some 29, none, .pcall 8 [.t 27, .t 28]⟩, ⟨some 30, none, .pcall 7 [.t 29]⟩, ⟨some 26, none, .mv (.t 30)⟩, ⟨some 31, none, .extract (.t 26) 0⟩, ⟨some 32, none, .extract (.t 26) 1⟩, ⟨some 5, none, .mv (.t 31)⟩, ⟨some 6, none, .mv (.t 32)⟩])
  (.seq (.reg [⟨some 34, none, .mv (.t 3)⟩, ⟨some 35, none, .pcall 9 [.t 34]⟩, ⟨some 33, none, .mv (.t 35)⟩, ⟨some 36, none, .extract (.t 33) 0⟩, ⟨some 37, none, .extract (.t 33) 1⟩, ⟨some 38, none, .extract (.t 33) 2⟩, ⟨some 7, none, .alloc [.int .i64 0, .int .i64 0]⟩, ⟨some 8, none, .alloc [.int .i64 0, .int .i64 0]⟩, ⟨none, none, .store 2 (.t 7) (.t 36)⟩, ⟨none, none, .store 2 (.t 8) (.t 37)⟩, ⟨some 9, none, .mv (.t 38)⟩])
  (.seq (.reg [⟨some 40, none, .mv (.t 3)⟩, ⟨some 41, none, .pcall 10 [.t 40]⟩, ⟨some 39, none, .mv (.t 41)⟩, ⟨some 42, none, .extract (.t 39) 0⟩, ⟨some 43, none, .extract (.t 39) 1⟩, ⟨some 10, none, .mv (.t 42)⟩, ⟨some 11, none, .mv (.t 43)⟩])
  (.seq (.seq (.reg [⟨some 44, none, .mv (.t 6)⟩, ⟨some 45, none, .bin 0 .neq (.t 44) (.c (.int .i64 0))⟩, ⟨some 46, none, .mv (.t 45)⟩, ⟨some 47, some (46, false), .mv (.t 11)⟩, ⟨some 48, some (46, false), .bin 0 .neq (.t 47) (.c (.int .i64 0))⟩, ⟨some 49, none, .pick (.t 46) (.c (.bool true)) (.t 48)⟩, ⟨some 50, none, .mv (.t 49)⟩, ⟨some 51, some (50, false), .mv (.t 5)⟩, ⟨some 52, some (50, false), .len false (.t 51)⟩, ⟨some 53, some (50, false), .bin 0 .lss (.t 52) (.c (.int .i64 2))⟩, ⟨some 54, none, .pick (.t 50) (.c (.bool true)) (.t 53)⟩, ⟨some 55, none, .mv (.t 54)⟩, ⟨some 56, some (55, false), .mv (.t 5)⟩, ⟨some 57, some (55, false), .mv (.t 5)⟩, ⟨some 58, some (55, false), .len false (.t 57)⟩, ⟨some 59, some (55, false), .bin 0 .sub (.t 58) (.c (.int .i64 1))⟩, ⟨some 60, some (55, false), .iaddrS 1 (.t 56) (.t 59)⟩, ⟨some 61, some (55, false), .load false 1 (.t 60)⟩, ⟨some 62, some (55, false), .mv (.t 4)⟩, ⟨some 63, some (55, false), .bin 0 .neq (.t 61) (.t 62)⟩, ⟨some 64, none, .pick (.t 55) (.c (.bool true)) (.t 63)⟩, ⟨some 65, none, .mv (.t 64)⟩, ⟨some 66, some (65, false), .mv (.t 5)⟩, ⟨some 67, some (65, false), .mv (.t 5)⟩, ⟨some 68, some (65, false), .len false (.t 67)⟩, ⟨some 69, some (65, false), .bin 0 .sub (.t 68) (.c (.int .i64 2))⟩, ⟨some 70, some (65, false), .iaddrS 1 (.t 66) (.t 69)⟩, ⟨some 71, some (65, false), .load false 1 (.t 70)⟩, ⟨some 72, some (65, false), .mv (.t 4)⟩, ⟨some 73, some (65, false), .bin 0 .sub (.t 72) (.c (.int .i64 1))⟩, ⟨some 74, some (65, false), .bin 0 .neq (.t 71) (.t 73)⟩, ⟨some 75, none, .pick (.t 65) (.c (.bool true)) (.t 74)⟩])
  (.cond (.t 75) (.seq (.reg [⟨some 2, none, .mv (.c (.bool false))⟩])
  (.ret)) (.skip)))
  (.seq (.seq (.reg [⟨some 76, none, .mv (.t 9)⟩, ⟨some 77, none, .bin 0 .eql (.t 76) (.c (.int .i64 5))⟩, ⟨some 78, none, .mv (.t 77)⟩, ⟨some 79, some (78, true), .mv (.t 5)⟩, ⟨some 80, some (78, true), .len false (.t 79)⟩, ⟨some 81, some (78, true), .bin 0 .neq (.t 80) (.c (.int .i64 2))⟩, ⟨some 82, none, .pick (.t 78) (.t 81) (.c (.bool false))⟩])
  (.cond (.t 82) (.seq (.reg [⟨some 2, none, .mv (.c (.bool false))⟩])
  (.ret)) (.skip)))
  (.seq (.seq (.reg [⟨some 83, none, .mv (.t 5)⟩, ⟨some 84, none, .mv (.t 5)⟩, ⟨some 85, none, .len false (.t 84)⟩, ⟨some 86, none, .bin 0 .sub (.t 85) (.c (.int .i64 1))⟩, ⟨some 87, none, .slice 1 (.t 83) none (some (.t 86)) none⟩, ⟨some 88, none, .len false (.t 87)⟩, ⟨some 89, none, .mv (.c (.int .i64 0))⟩])
  (.block 0 (.loop (.seq (.reg [⟨some 90, none, .bin 0 .lss (.t 89) (.t 88)⟩])
  (.seq (.cond (.t 90) (.skip) (.exit 0))
  (.seq (.block 1 (.seq (.reg [⟨some 91, none, .iaddrS 1 (.t 87) (.t 89)⟩, ⟨some 92, none, .load false 1 (.t 91)⟩, ⟨some 13, none, .mv (.t 92)⟩])
  (.seq (.reg [⟨some 14, none, .mv (.c (.bool false))⟩])
  (.seq (.seq (.reg [⟨some 93, none, .mv (.t 10)⟩, ⟨some 94, none, .len false (.t 93)⟩, ⟨some 95, none, .mv (.c (.int .i64 0))⟩])
  (.block 2 (.loop (.seq (.reg [⟨some 96, none, .bin 0 .lss (.t 95) (.t 94)⟩])
  (.seq (.cond (.t 96) (.skip) (.exit 2))
  (.seq (.block 3 (.seq (.reg [⟨some 97, none, .iaddrS 1 (.t 93) (.t 95)⟩, ⟨some 98, none, .load false 1 (.t 97)⟩, ⟨some 16, none, .mv (.t 98)⟩])
  (.reg [⟨some 99, none, .mv (.t 14)⟩, ⟨some 100, none, .mv (.t 99)⟩, ⟨some 101, some (100, false), .mv (.t 13)⟩, ⟨some 102, some (100, false), .mv (.t 16)⟩, ⟨some 103, some (100, false), .bin 0 .eql (.t 101) (.t 102)⟩, ⟨some 104, none, .pick (.t 100) (.c (.bool true)) (.t 103)⟩, ⟨some 14, none, .mv (.t 104)⟩])))
  (.reg [⟨some 105, none, .bin 0 .add (.t 95) (.c (.int .i64 1))⟩, ⟨some 95, none, .mv (.t 105)⟩])))))))
  (.seq (.reg [⟨some 106, none, .mv (.t 14)⟩, ⟨some 107, none, .un .not (.t 106)⟩])
  (.cond (.t 107) (.seq (.reg [⟨some 2, none, .mv (.c (.bool false))⟩])
  (.ret)) (.skip)))))))
  (.reg [⟨some 108, none, .bin 0 .add (.t 89) (.c (.int .i64 1))⟩, ⟨some 89, none, .mv (.t 108)⟩])))))))
  (.seq (.reg [⟨some 109, none, .pcall 11 []⟩, ⟨some 2, none, .mv (.t 109)⟩])
  (.ret))))))))))
def R3 : List ARes := [.t 2]
theorem ok3 : FnOk Tryd.prog 3 [] pureFns A3 R3 110 := ⟨⟨Tryd.f3, _, Tryd.func3, rfl, rfl, by kernel_rfl, by kernel_rfl⟩, by kernel_rfl⟩
def A6 : ACode := .seq (.reg [⟨some 6, none, .mv (.c (.nilsl))⟩])
  (.seq (.reg [⟨some 10, none, .buildSl 1 [.c (.int .i64 0)]⟩, ⟨some 7, none, .mv (.t 10)⟩])
  (.seq (.seq (.reg [⟨some 8, none, .mv (.c (.int .i64 0))⟩])
  (.block 0 (.loop (.seq (.seq (.reg [⟨some 11, none, .mv (.t 8)⟩, ⟨some 12, none, .mv (.t 0)⟩, ⟨some 13, none, .len false (.t 12)⟩, ⟨some 14, none, .bin 0 .lss (.t 11) (.t 13)⟩, ⟨some 15, none, .mv (.t 14)⟩, ⟨some 16, some (15, true), .mv (.t 7)⟩, ⟨some 17, some (15, true), .len false (.t 16)⟩, ⟨some 18, some (15, true), .bin 0 .lss (.t 17) (.c (.int .i64 5))⟩, ⟨some 19, none, .pick (.t 15) (.t 18) (.c (.bool false))⟩])
  (.cond (.t 19) (.skip) (.exit 0)))
  (.seq (.block 1 (.seq (.regd [⟨some 22, none, .mv (.t 7)⟩, ⟨some 23, none, .mv (.t 7)⟩, ⟨some 24, none, .len false (.t 23)⟩, ⟨some 25, none, .bin 0 .sub (.t 24) (.c (.int .i64 1))⟩, ⟨some 26, none, .iaddrS 1 (.t 22) (.t 25)⟩, ⟨some 27, none, .load false 1 (.t 26)⟩, ⟨some 28, none, .bin 0 .add (.t 27) (.c (.int .i64 1))⟩, ⟨some 29, none, .mv (.t 0)⟩, ⟨some 30, none, .mv (.t 8)⟩, ⟨some 31, none, .iaddrS 1 (.t 29) (.t 30)⟩, ⟨some 32, none, .load false 1 (.t 31)⟩, ⟨some 33, none, .conv .i64 (.t 32)⟩, ⟨some 34, none, .mv (.t 1)⟩, ⟨some 35, none, .bin 0 .rem (.t 33) (.t 34)⟩, ⟨some 36, none, .bin 0 .add (.t 28) (.t 35)⟩, ⟨some 9, none, .mv (.t 36)⟩])
  (.seq (.reg [⟨some 37, none, .mv (.t 9)⟩, ⟨some 38, none, .mv (.t 2)⟩, ⟨some 39, none, .bin 0 .leq (.t 37) (.t 38)⟩])
  (.cond (.t 39) (.reg [⟨some 40, none, .mv (.t 7)⟩, ⟨some 41, none, .mv (.t 9)⟩, ⟨some 42, none, .buildSl 1 [.t 41]⟩, ⟨some 43, none, .append 1 (.t 40) (.t 42)⟩, ⟨some 7, none, .mv (.t 43)⟩]) (.skip)))))
  (.reg [⟨some 20, none, .mv (.t 8)⟩, ⟨some 21, none, .bin 0 .add (.t 20) (.c (.int .i64 1))⟩, ⟨some 8, none, .mv (.t 21)⟩]))))))
  (.seq (.seq (.reg [⟨some 44, none, .mv (.t 7)⟩, ⟨some 45, none, .len false (.t 44)⟩, ⟨some 46, none, .bin 0 .lss (.t 45) (.c (.int .i64 2))⟩])
  (.cond (.t 46) (.reg [⟨some 47, none, .mv (.t 7)⟩, ⟨some 48, none, .buildSl 1 [.c (.int .i64 2)]⟩, ⟨some 49, none, .append 1 (.t 47) (.t 48)⟩, ⟨some 7, none, .mv (.t 49)⟩]) (.skip)))
  (.seq (.reg [⟨some 50, none, .mv (.t 7)⟩, ⟨some 6, none, .mv (.t 50)⟩])
  (.ret)))))
def R6 : List ARes := [.t 6]
theorem ok6 : FnOk Tryd.prog 6 [] pureFns A6 R6 51 := ⟨⟨Tryd.f6, _, Tryd.func6, rfl, rfl, by kernel_rfl, by kernel_rfl⟩, by kernel_rfl⟩
def A7 : ACode := .seq (.reg [⟨some 2, none, .mv (.c (.nilsl))⟩, ⟨some 3, none, .mv (.c (.int .i64 0))⟩])
  (.seq (.seq (.reg [⟨some 5, none, .mv (.t 0)⟩, ⟨some 6, none, .pcall 24 [.t 5]⟩, ⟨some 4, none, .mv (.t 6)⟩])
  (.seq (.reg [⟨some 7, none, .mv (.t 4)⟩, ⟨some 8, none, .bin 0 .neq (.t 7) (.c (.int .i64 0))⟩])
  (.cond (.t 8) (.seq (.reg [⟨some 9, none, .mv (.t 4)⟩, ⟨some 2, none, .mv (.c (.nilsl))⟩, ⟨some 3, none, .mv (.t 9)⟩])
  (.ret)) (.skip))))
  (.seq (.reg [⟨some 10, none, .mv (.t 0)⟩, ⟨some 11, none, .pcall 26 [.t 10]⟩, ⟨some 12, none, .pcall 25 [.t 11]⟩, ⟨some 2, none, .mv (.t 12)⟩, ⟨some 3, none, .mv (.c (.int .i64 0))⟩])
  (.ret)))
def R7 : List ARes := [.t 2, .t 3]
theorem ok7 : FnOk Tryd.prog 7 [] pureFns A7 R7 13 := ⟨⟨Tryd.f7, _, Tryd.func7, rfl, rfl, by kernel_rfl, by kernel_rfl⟩, by kernel_rfl⟩
def A8 : ACode := .seq (.reg [⟨some 4, none, .mv (.c (.str (bs [])))⟩])
  (.seq (.reg [⟨some 5, none, .mv (.c (.str (bs [])))⟩])
  (.seq (.seq (.reg [⟨some 6, none, .mv (.c (.int .i64 0))⟩])
  (.block 0 (.loop (.seq (.seq (.reg [⟨some 10, none, .mv (.t 6)⟩, ⟨some 11, none, .mv (.t 1)⟩, ⟨some 12, none, .bin 0 .lss (.t 10) (.t 11)⟩])
  (.cond (.t 12) (.skip) (.exit 0)))
  (.seq (.block 1 (.seq (.reg [⟨some 7, none, .mv (.c (.str (bs [97])))⟩])
  (.seq (.seq (.reg [⟨some 15, none, .mv (.t 0)⟩, ⟨some 16, none, .len false (.t 15)⟩, ⟨some 17, none, .mv (.c (.int .i64 0))⟩])
  (.block 2 (.loop (.seq (.reg [⟨some 18, none, .bin 0 .lss (.t 17) (.t 16)⟩])
  (.seq (.cond (.t 18) (.skip) (.exit 2))
  (.seq (.block 3 (.seq (.reg [⟨some 19, none, .iaddrS 1 (.t 15) (.t 17)⟩, ⟨some 20, none, .load false 1 (.t 19)⟩, ⟨some 9, none, .mv (.t 20)⟩])
  (.seq (.reg [⟨some 21, none, .mv (.t 9)⟩, ⟨some 22, none, .mv (.t 6)⟩, ⟨some 23, none, .bin 0 .eql (.t 21) (.t 22)⟩])
  (.cond (.t 23) (.reg [⟨some 7, none, .mv (.c (.str (bs [98])))⟩]) (.skip)))))
  (.reg [⟨some 24, none, .bin 0 .add (.t 17) (.c (.int .i64 1))⟩, ⟨some 17, none, .mv (.t 24)⟩])))))))
  (.reg [⟨some 25, none, .mv (.t 5)⟩, ⟨some 26, none, .mv (.t 7)⟩, ⟨some 27, none, .bin 0 .add (.t 25) (.t 26)⟩, ⟨some 5, none, .mv (.t 27)⟩]))))
  (.reg [⟨some 13, none, .mv (.t 6)⟩, ⟨some 14, none, .bin 0 .add (.t 13) (.c (.int .i64 1))⟩, ⟨some 6, none, .mv (.t 14)⟩]))))))
  (.seq (.reg [⟨some 28, none, .mv (.t 5)⟩, ⟨some 4, none, .mv (.t 28)⟩])
  (.ret))))
def R8 : List ARes := [.t 4]
theorem ok8 : FnOk Tryd.prog 8 [] pureFns A8 R8 29 := ⟨⟨Tryd.f8, _, Tryd.func8, rfl, rfl, by kernel_rfl, by kernel_rfl⟩, by kernel_rfl⟩
def A26 : ACode := .seq (.reg [⟨some 1, none, .boxi (.t 0)⟩, ⟨some 2, none, .mv (.c (.nilfn))⟩])
  (.seq (.reg [⟨some 3, none, .mkfn (.func 51) [] [.t 1]⟩, ⟨some 2, none, .mv (.t 3)⟩])
  (.ret))
def R26 : List ARes := [.t 2]
theorem ok26 : FnOk Tryd.prog 26 [] pureFns A26 R26 4 := ⟨⟨Tryd.f26, _, Tryd.func26, rfl, rfl, by kernel_rfl, by kernel_rfl⟩, by kernel_rfl⟩

end Go.Proofs.YtdcpkgedaflnmaaDoor.Bt
