/-
  Functions of this seat's translation, compacted, each held against the loaded program by the kernel (names by an earlier seat's numbers). Printed by wip/tools/Gex.lean.
-/
import Derived.Test.YtdcpkgedaflnmaaDoorProg
import Derived.Test.YtdcpkgedaflnmaaDoorFx2
import Derived.KernelRfl
namespace Go.Proofs.YtdcpkgedaflnmaaDoor.Xs
open Go Fw
def pureFns : List Nat := [0,1,2,3,4,5,6,7,8,9,10,11,12,13,14,15,16,17,18,19,20,21,22,23,24,25,26,27,28,30,31,32,33,34,35,36,37,38,39,40,41,42,43,44,45,46,47,48,49,50,51,52,53,54,55,56,57,58,59,60,61,62,63,64,65,66,67,68,69,71,72,73,74,75,76,77,78,79,80,81,82,83,84,85,86,87,88,89,90,91,92,93,94,95,96,97,98,99,101,102,103,104,105,106,107,108,109,110,112,113,114,115,116,117,118,119,120,121,122,123,124,125,126,127,128,129,130,131,132,133,134,135,136,137,138,139,140,141,142,143,144,145,146,147,148,149,150,151,152,153,154,155,156,157,158,159,160,161,162,163,164,165,166,167,168,169,170,171,172,173,174,175,176,177,178,179,180,181,182,183,184,185,186,187,188,189,190,191]
def A79 : ACode := .seq (.reg [⟨some 4, none, .mv (.c (.int .i64 0))⟩])
  (.seq (.seq (.reg [⟨some 6, none, .mv (.t 0)⟩, ⟨some 7, none, .len false (.t 6)⟩, ⟨some 8, none, .mv (.c (.int .i64 0))⟩])
  (.block 0 (.loop (.seq (.reg [⟨some 9, none, .bin 0 .lss (.t 8) (.t 7)⟩])
  (.seq (.cond (.t 9) (.skip) (.exit 0))
  (.seq (.block 1 (.seq (.reg [⟨some 10, none, .mv (.t 8)⟩, ⟨some 5, none, .mv (.t 10)⟩])
  (.seq (.reg [⟨some 11, none, .mv (.t 1)⟩, ⟨some 12, none, .mv (.t 0)⟩, ⟨some 13, none, .mv (.t 5)⟩, ⟨some 14, none, .iaddrS 1 (.t 12) (.t 13)⟩, ⟨some 15, none, .load false 1 (.t 14)⟩, ⟨some 16, none, .bin 0 .eql (.t 11) (.t 15)⟩])
  (.cond (.t 16) (.seq (.reg [⟨some 17, none, .mv (.t 5)⟩, ⟨some 4, none, .mv (.t 17)⟩])
  (.ret)) (.skip)))))
  (.reg [⟨some 18, none, .bin 0 .add (.t 8) (.c (.int .i64 1))⟩, ⟨some 8, none, .mv (.t 18)⟩])))))))
  (.seq (.reg [⟨some 4, none, .mv (.c (.int .i64 (-1)))⟩])
  (.ret)))
def R79 : List ARes := [.t 4]
theorem ok79 : FnOk Tryd.prog 93 [] pureFns A79 R79 19 := ⟨⟨Tryd.f93, _, Tryd.func93, rfl, rfl, by kernel_rfl, by kernel_rfl⟩, by kernel_rfl⟩
def A80 : ACode := .seq (.reg [⟨some 4, none, .mv (.c (.bool false))⟩])
  (.seq (.reg [⟨some 5, none, .mv (.t 0)⟩, ⟨some 6, none, .pcall 121 [.t 5]⟩, ⟨some 7, none, .mv (.t 6)⟩, ⟨some 8, some (7, true), .mv (.t 1)⟩, ⟨some 9, some (7, true), .pcall 121 [.t 8]⟩, ⟨some 10, some (7, true), .un .not (.t 9)⟩, ⟨some 11, none, .pick (.t 7) (.t 10) (.c (.bool false))⟩, ⟨some 12, none, .mv (.t 11)⟩, ⟨some 13, some (12, false), .mv (.t 0)⟩, ⟨some 14, some (12, false), .mv (.t 1)⟩, ⟨some 15, some (12, false), .bin 0 .lss (.t 13) (.t 14)⟩, ⟨some 16, none, .pick (.t 12) (.c (.bool true)) (.t 15)⟩, ⟨some 4, none, .mv (.t 16)⟩])
  (.ret))
def R80 : List ARes := [.t 4]
theorem ok80 : FnOk Tryd.prog 94 [] pureFns A80 R80 17 := ⟨⟨Tryd.f94, _, Tryd.func94, rfl, rfl, by kernel_rfl, by kernel_rfl⟩, by kernel_rfl⟩
def A81 : ACode := .seq (.reg [⟨some 2, none, .mv (.c (.bool false))⟩])
  (.seq (.reg [⟨some 3, none, .mv (.t 0)⟩, ⟨some 4, none, .mv (.t 0)⟩, ⟨some 5, none, .bin 0 .neq (.t 3) (.t 4)⟩, ⟨some 2, none, .mv (.t 5)⟩])
  (.ret))
def R81 : List ARes := [.t 2]
theorem ok81 : FnOk Tryd.prog 95 [] pureFns A81 R81 6 := ⟨⟨Tryd.f95, _, Tryd.func95, rfl, rfl, by kernel_rfl, by kernel_rfl⟩, by kernel_rfl⟩
def A87 : ACode := .seq (.reg [⟨some 2, none, .mv (.c (.bool false))⟩])
  (.seq (.reg [⟨some 3, none, .mv (.t 0)⟩, ⟨some 4, none, .mv (.t 0)⟩, ⟨some 5, none, .bin 0 .neq (.t 3) (.t 4)⟩, ⟨some 2, none, .mv (.t 5)⟩])
  (.ret))
def R87 : List ARes := [.t 2]
theorem ok87 : FnOk Tryd.prog 121 [] pureFns A87 R87 6 := ⟨⟨Tryd.f121, _, Tryd.func121, rfl, rfl, by kernel_rfl, by kernel_rfl⟩, by kernel_rfl⟩
def A17 : ACode := .seq (.reg [⟨some 2, none, .alloc [.int .i64 0, .int .i64 0]⟩, ⟨some 3, none, .alloc [.int .i64 0, .int .i64 0]⟩, ⟨some 4, none, .mv (.c (.int .i64 0))⟩])
  (.seq (.seq (.reg [⟨some 7, none, .mv (.t 0)⟩, ⟨some 8, none, .pcall 27 [.t 7]⟩, ⟨some 5, none, .mv (.t 8)⟩])
  (.seq (.reg [⟨some 9, none, .mv (.t 5)⟩, ⟨some 10, none, .bin 0 .neq (.t 9) (.c (.int .i64 0))⟩])
  (.cond (.t 10) (.seq (.rega [[], [], [], [0, 0], [1, 3, 0, 1, 3], [2, 4, 0, 1, 2, 3, 4]] [⟨some 11, none, .load true 2 (.t 2)⟩, ⟨some 12, none, .load true 2 (.t 3)⟩, ⟨some 13, none, .mv (.t 5)⟩, ⟨none, none, .store 2 (.t 2) (.t 11)⟩, ⟨none, none, .store 2 (.t 3) (.t 12)⟩, ⟨some 4, none, .mv (.t 13)⟩])
  (.ret)) (.skip))))
  (.seq (.reg [⟨some 15, none, .mv (.t 0)⟩, ⟨some 16, none, .len false (.t 15)⟩, ⟨some 17, none, .mv (.t 0)⟩, ⟨some 18, none, .pcall 30 [.t 17]⟩, ⟨some 19, none, .pcall 28 [.t 16, .c (.fn (.func 29) [] []), .t 18]⟩, ⟨some 14, none, .mv (.t 19)⟩, ⟨some 20, none, .extract (.t 14) 0⟩, ⟨some 21, none, .extract (.t 14) 1⟩, ⟨some 22, none, .extract (.t 14) 2⟩, ⟨none, none, .store 2 (.t 2) (.t 20)⟩, ⟨none, none, .store 2 (.t 3) (.t 21)⟩, ⟨some 6, none, .mv (.t 22)⟩])
  (.seq (.seq (.reg [⟨some 23, none, .mv (.t 6)⟩, ⟨some 24, none, .un .not (.t 23)⟩])
  (.cond (.t 24) (.seq (.rega [[], [], [0, 0], [1, 2, 0, 1, 2], [3, 0, 1, 2, 3]] [⟨some 25, none, .load true 2 (.t 2)⟩, ⟨some 26, none, .load true 2 (.t 3)⟩, ⟨none, none, .store 2 (.t 2) (.t 25)⟩, ⟨none, none, .store 2 (.t 3) (.t 26)⟩, ⟨some 4, none, .mv (.c (.int .i64 5))⟩])
  (.ret)) (.skip)))
  (.seq (.rega [[], [], [0, 0], [1, 2, 0, 1, 2], [3, 0, 1, 2, 3]] [⟨some 27, none, .load true 2 (.t 2)⟩, ⟨some 28, none, .load true 2 (.t 3)⟩, ⟨none, none, .store 2 (.t 2) (.t 27)⟩, ⟨none, none, .store 2 (.t 3) (.t 28)⟩, ⟨some 4, none, .mv (.c (.int .i64 0))⟩])
  (.ret)))))
def R17 : List ARes := [.cell true 2 2, .cell true 2 3, .t 4]
theorem ok17 : FnOk Tryd.prog 9 [] pureFns A17 R17 29 := ⟨⟨Tryd.f9, _, Tryd.func9, rfl, rfl, by kernel_rfl, by kernel_rfl⟩, by kernel_rfl⟩
def A19 : ACode := .seq (.reg [⟨some 2, none, .mv (.c (.nilsl))⟩, ⟨some 3, none, .mv (.c (.int .i64 0))⟩])
  (.seq (.seq (.reg [⟨some 5, none, .mv (.t 0)⟩, ⟨some 6, none, .pcall 27 [.t 5]⟩, ⟨some 4, none, .mv (.t 6)⟩])
  (.seq (.reg [⟨some 7, none, .mv (.t 4)⟩, ⟨some 8, none, .bin 0 .neq (.t 7) (.c (.int .i64 0))⟩])
  (.cond (.t 8) (.seq (.reg [⟨some 9, none, .mv (.t 4)⟩, ⟨some 2, none, .mv (.c (.nilsl))⟩, ⟨some 3, none, .mv (.t 9)⟩])
  (.ret)) (.skip))))
  (.seq (.reg [⟨some 10, none, .mv (.t 0)⟩, ⟨some 11, none, .pcall 31 [.t 10, .c (.bool true)]⟩, ⟨some 2, none, .mv (.t 11)⟩, ⟨some 3, none, .mv (.c (.int .i64 0))⟩])
  (.ret)))
def R19 : List ARes := [.t 2, .t 3]
theorem ok19 : FnOk Tryd.prog 10 [] pureFns A19 R19 12 := ⟨⟨Tryd.f10, _, Tryd.func10, rfl, rfl, by kernel_rfl, by kernel_rfl⟩, by kernel_rfl⟩
def A24 : ACode := .seq (.reg [⟨some 2, none, .mv (.c (.int .i64 0))⟩])
  (.seq (.block 0 (.seq (.reg [⟨some 4, none, .mv (.t 0)⟩, ⟨some 5, none, .len false (.t 4)⟩, ⟨some 6, none, .bin 0 .lss (.t 5) (.c (.int .i64 2))⟩, ⟨some 3, none, .mv (.t 6)⟩])
  (.cond (.t 3) (.seq (.reg [⟨some 2, none, .mv (.c (.int .i64 1))⟩])
  (.ret)) (.seq (.reg [⟨some 8, none, .mv (.t 0)⟩, ⟨some 9, none, .len false (.t 8)⟩, ⟨some 10, none, .bin 0 .gtr (.t 9) (.c (.int .i64 8))⟩, ⟨some 7, none, .mv (.t 10)⟩])
  (.cond (.t 7) (.seq (.reg [⟨some 2, none, .mv (.c (.int .i64 2))⟩])
  (.ret)) (.skip))))))
  (.seq (.reg [⟨some 11, none, .mv (.t 0)⟩, ⟨some 12, none, .pcall 53 [.t 11, .c (.int .i64 0), .c (.int .i64 60)]⟩, ⟨some 2, none, .mv (.t 12)⟩])
  (.ret)))
def R24 : List ARes := [.t 2]
theorem ok24 : FnOk Tryd.prog 27 [] pureFns A24 R24 13 := ⟨⟨Tryd.f27, _, Tryd.func27, rfl, rfl, by kernel_rfl, by kernel_rfl⟩, by kernel_rfl⟩
def A45 : ACode := .seq (.reg [⟨some 3, none, .boxi (.t 0)⟩, ⟨some 4, none, .boxi (.t 1)⟩, ⟨some 5, none, .boxi (.t 2)⟩, ⟨some 6, none, .alloc [.int .i64 0, .int .i64 0]⟩, ⟨some 7, none, .alloc [.int .i64 0, .int .i64 0]⟩, ⟨some 8, none, .alloc [.bool false]⟩])
  (.seq (.reg [⟨some 9, none, .load false 1 (.t 4)⟩, ⟨some 10, none, .load false 1 (.t 3)⟩, ⟨some 11, none, .mkfn (.func 54) [] [.t 4, .t 3, .t 5, .t 6, .t 7, .t 8]⟩, ⟨some 12, none, .callv (.t 9) [.t 10, .t 11]⟩])
  (.seq (.rega [[], [], [], [0, 0], [1, 3, 0, 1, 3], [2, 4, 0, 1, 2, 3, 4]] [⟨some 13, none, .load true 2 (.t 6)⟩, ⟨some 14, none, .load true 2 (.t 7)⟩, ⟨some 15, none, .load false 1 (.t 8)⟩, ⟨none, none, .store 2 (.t 6) (.t 13)⟩, ⟨none, none, .store 2 (.t 7) (.t 14)⟩, ⟨none, none, .store 1 (.t 8) (.t 15)⟩])
  (.ret)))
def R45 : List ARes := [.cell true 2 6, .cell true 2 7, .cell false 1 8]
theorem ok45 : FnOk Tryd.prog 28 [] pureFns A45 R45 16 := ⟨⟨Tryd.f28, _, Tryd.func28, rfl, rfl, by kernel_rfl, by kernel_rfl⟩, by kernel_rfl⟩
def A46 : ACode := .seq (.reg [⟨some 6, none, .mv (.t 0)⟩, ⟨some 7, none, .mv (.c (.int .i64 0))⟩])
  (.block 0 (.loop (.seq (.reg [⟨some 8, none, .bin 0 .lss (.t 7) (.t 6)⟩])
  (.seq (.cond (.t 8) (.skip) (.exit 0))
  (.seq (.block 1 (.seq (.reg [⟨some 9, none, .mv (.t 7)⟩, ⟨some 4, none, .mv (.t 9)⟩])
  (.seq (.reg [⟨some 10, none, .mv (.t 4)⟩, ⟨some 11, none, .bin 0 .add (.t 10) (.c (.int .i64 1))⟩, ⟨some 5, none, .mv (.t 11)⟩])
  (.block 2 (.loop (.seq (.seq (.reg [⟨some 12, none, .mv (.t 5)⟩, ⟨some 13, none, .mv (.t 0)⟩, ⟨some 14, none, .bin 0 .lss (.t 12) (.t 13)⟩])
  (.cond (.t 14) (.skip) (.exit 2)))
  (.seq (.block 3 (.seq (.reg [⟨some 17, none, .mv (.t 1)⟩, ⟨some 18, none, .mv (.t 4)⟩, ⟨some 19, none, .mv (.t 5)⟩, ⟨some 20, none, .build [.int .i64 0, .int .i64 0] [(0, 1, (.t 18)), (1, 1, (.t 19))]⟩, ⟨some 21, none, .callv (.t 17) [.t 20]⟩, ⟨some 22, none, .un .not (.t 21)⟩])
  (.cond (.t 22) (.ret) (.skip))))
  (.reg [⟨some 15, none, .mv (.t 5)⟩, ⟨some 16, none, .bin 0 .add (.t 15) (.c (.int .i64 1))⟩, ⟨some 5, none, .mv (.t 16)⟩]))))))))
  (.reg [⟨some 23, none, .bin 0 .add (.t 7) (.c (.int .i64 1))⟩, ⟨some 7, none, .mv (.t 23)⟩]))))))
def R46 : List ARes := []
theorem ok46 : FnOk Tryd.prog 29 [] pureFns A46 R46 24 := ⟨⟨Tryd.f29, _, Tryd.func29, rfl, rfl, by kernel_rfl, by kernel_rfl⟩, by kernel_rfl⟩
def A47 : ACode := .seq (.reg [⟨some 1, none, .boxi (.t 0)⟩, ⟨some 2, none, .mv (.c (.nilfn))⟩])
  (.seq (.reg [⟨some 3, none, .mkfn (.func 56) [] [.t 1]⟩, ⟨some 2, none, .mv (.t 3)⟩])
  (.ret))
def R47 : List ARes := [.t 2]
theorem ok47 : FnOk Tryd.prog 30 [] pureFns A47 R47 4 := ⟨⟨Tryd.f30, _, Tryd.func30, rfl, rfl, by kernel_rfl, by kernel_rfl⟩, by kernel_rfl⟩
def A50 : ACode := .seq (.reg [⟨some 4, none, .mv (.c (.nilsl))⟩])
  (.seq (.reg [⟨some 5, none, .mv (.c (.nilsl))⟩])
  (.seq (.reg [⟨some 8, none, .mv (.t 0)⟩, ⟨some 9, none, .pcall 57 [.t 8]⟩, ⟨some 6, none, .alloc (List.replicate 61 (.bool false))⟩, ⟨none, none, .store 61 (.t 6) (.t 9)⟩])
  (.seq (.seq (.reg [⟨some 7, none, .mv (.c (.int .i64 1))⟩])
  (.block 0 (.loop (.seq (.seq (.reg [⟨some 10, none, .mv (.t 7)⟩, ⟨some 11, none, .mv (.t 0)⟩, ⟨some 12, none, .pcall 58 [.t 11]⟩, ⟨some 13, none, .bin 0 .leq (.t 10) (.t 12)⟩])
  (.cond (.t 13) (.skip) (.exit 0)))
  (.seq (.block 1 (.seq (.reg [⟨some 16, none, .mv (.t 7)⟩, ⟨some 17, none, .iaddrA 61 false 1 (.t 6) (.t 16)⟩, ⟨some 18, none, .load false 1 (.t 17)⟩, ⟨some 19, none, .mv (.t 1)⟩, ⟨some 20, none, .bin 1 .eql (.t 18) (.t 19)⟩])
  (.cond (.t 20) (.reg [⟨some 21, none, .mv (.t 5)⟩, ⟨some 22, none, .mv (.t 7)⟩, ⟨some 23, none, .buildSl 1 [.t 22]⟩, ⟨some 24, none, .append 1 (.t 21) (.t 23)⟩, ⟨some 5, none, .mv (.t 24)⟩]) (.skip))))
  (.reg [⟨some 14, none, .mv (.t 7)⟩, ⟨some 15, none, .bin 0 .add (.t 14) (.c (.int .i64 1))⟩, ⟨some 7, none, .mv (.t 15)⟩]))))))
  (.seq (.reg [⟨some 25, none, .mv (.t 5)⟩, ⟨some 4, none, .mv (.t 25)⟩])
  (.ret)))))
def R50 : List ARes := [.t 4]
theorem ok50 : FnOk Tryd.prog 31 [] pureFns A50 R50 26 := ⟨⟨Tryd.f31, _, Tryd.func31, rfl, rfl, by kernel_rfl, by kernel_rfl⟩, by kernel_rfl⟩
def A52 : ACode := .seq (.reg [⟨some 6, none, .mv (.c (.int .i64 0))⟩])
  (.seq (.reg [⟨some 10, none, .mv (.t 1)⟩, ⟨some 11, none, .bin 0 .sub (.t 10) (.c (.int .i64 1))⟩, ⟨some 7, none, .mv (.t 11)⟩])
  (.seq (.seq (.reg [⟨some 12, none, .mv (.t 0)⟩, ⟨some 13, none, .len false (.t 12)⟩, ⟨some 14, none, .mv (.c (.int .i64 0))⟩])
  (.block 0 (.loop (.seq (.reg [⟨some 15, none, .bin 0 .lss (.t 14) (.t 13)⟩])
  (.seq (.cond (.t 15) (.skip) (.exit 0))
  (.seq (.block 1 (.seq (.reg [⟨some 16, none, .iaddrS 1 (.t 12) (.t 14)⟩, ⟨some 17, none, .load false 1 (.t 16)⟩, ⟨some 9, none, .mv (.t 17)⟩])
  (.seq (.block 2 (.seq (.reg [⟨some 19, none, .mv (.t 1)⟩, ⟨some 20, none, .mv (.t 9)⟩, ⟨some 21, none, .mv (.t 2)⟩, ⟨some 22, none, .pcall 59 [.t 19, .t 20, .t 21]⟩, ⟨some 23, none, .un .not (.t 22)⟩, ⟨some 18, none, .mv (.t 23)⟩])
  (.cond (.t 18) (.seq (.reg [⟨some 6, none, .mv (.c (.int .i64 4))⟩])
  (.ret)) (.seq (.reg [⟨some 25, none, .mv (.t 9)⟩, ⟨some 26, none, .mv (.t 7)⟩, ⟨some 27, none, .bin 0 .leq (.t 25) (.t 26)⟩, ⟨some 24, none, .mv (.t 27)⟩])
  (.cond (.t 24) (.seq (.reg [⟨some 6, none, .mv (.c (.int .i64 7))⟩])
  (.ret)) (.skip))))))
  (.reg [⟨some 28, none, .mv (.t 9)⟩, ⟨some 7, none, .mv (.t 28)⟩]))))
  (.reg [⟨some 29, none, .bin 0 .add (.t 14) (.c (.int .i64 1))⟩, ⟨some 14, none, .mv (.t 29)⟩])))))))
  (.seq (.reg [⟨some 6, none, .mv (.c (.int .i64 0))⟩])
  (.ret))))
def R52 : List ARes := [.t 6]
theorem ok52 : FnOk Tryd.prog 53 [] pureFns A52 R52 30 := ⟨⟨Tryd.f53, _, Tryd.func53, rfl, rfl, by kernel_rfl, by kernel_rfl⟩, by kernel_rfl⟩
def A54 : ACode := .seq (.reg [⟨some 6, none, .mv (.c (.bool false))⟩])
  (.seq (.reg [⟨some 7, none, .mv (.t 0)⟩, ⟨some 8, none, .mv (.t 1)⟩, ⟨some 9, none, .bin 0 .leq (.t 7) (.t 8)⟩, ⟨some 10, none, .mv (.t 9)⟩, ⟨some 11, some (10, true), .mv (.t 1)⟩, ⟨some 12, some (10, true), .mv (.t 2)⟩, ⟨some 13, some (10, true), .bin 0 .leq (.t 11) (.t 12)⟩, ⟨some 14, none, .pick (.t 10) (.t 13) (.c (.bool false))⟩, ⟨some 6, none, .mv (.t 14)⟩])
  (.ret))
def R54 : List ARes := [.t 6]
theorem ok54 : FnOk Tryd.prog 59 [] pureFns A54 R54 15 := ⟨⟨Tryd.f59, _, Tryd.func59, rfl, rfl, by kernel_rfl, by kernel_rfl⟩, by kernel_rfl⟩
def A63 : ACode := .seq (.reg [⟨some 6, none, .mv (.c (.nilsl))⟩])
  (.jump (.seq (.reg [⟨some 8, none, .buildSl 1 [.c (.int .i64 0)]⟩, ⟨some 7, none, .mv (.t 8)⟩])
  (.seq (.label 0)
  (.seq (.seq (.reg [⟨some 9, none, .mv (.t 7)⟩, ⟨some 10, none, .len false (.t 9)⟩, ⟨some 11, none, .mv (.t 0)⟩, ⟨some 12, none, .bin 0 .eql (.t 10) (.t 11)⟩])
  (.cond (.t 12) (.seq (.reg [⟨some 13, none, .mv (.t 7)⟩, ⟨some 6, none, .mv (.t 13)⟩])
  (.ret)) (.skip)))
  (.seq (.regd [⟨some 14, none, .mv (.t 7)⟩, ⟨some 15, none, .mv (.t 7)⟩, ⟨some 16, none, .len false (.t 15)⟩, ⟨some 17, none, .mv (.t 7)⟩, ⟨some 18, none, .len false (.t 17)⟩, ⟨some 19, none, .slice 1 (.t 14) none (some (.t 16)) (some (.t 18))⟩, ⟨some 20, none, .mv (.t 7)⟩, ⟨some 21, none, .mv (.t 7)⟩, ⟨some 22, none, .len false (.t 21)⟩, ⟨some 23, none, .bin 0 .sub (.t 22) (.c (.int .i64 1))⟩, ⟨some 24, none, .iaddrS 1 (.t 20) (.t 23)⟩, ⟨some 25, none, .load false 1 (.t 24)⟩, ⟨some 26, none, .bin 0 .add (.t 25) (.c (.int .i64 1))⟩, ⟨some 27, none, .buildSl 1 [.t 26]⟩, ⟨some 28, none, .mem (.appx 1) [.t 19, .t 27]⟩, ⟨some 7, none, .mv (.t 28)⟩])
  (.seq (.label 1)
  (.seq (.block 0 (.loop (.seq (.seq (.reg [⟨some 29, none, .mv (.t 7)⟩, ⟨some 30, none, .mv (.t 7)⟩, ⟨some 31, none, .len false (.t 30)⟩, ⟨some 32, none, .bin 0 .sub (.t 31) (.c (.int .i64 1))⟩, ⟨some 33, none, .iaddrS 1 (.t 29) (.t 32)⟩, ⟨some 34, none, .load false 1 (.t 33)⟩, ⟨some 35, none, .mv (.t 1)⟩, ⟨some 36, none, .bin 0 .leq (.t 34) (.t 35)⟩])
  (.cond (.t 36) (.skip) (.exit 0)))
  (.block 1 (.seq (.seq (.reg [⟨some 37, none, .mv (.t 2)⟩, ⟨some 38, none, .mv (.t 7)⟩, ⟨some 39, none, .callv (.t 37) [.t 38]⟩])
  (.cond (.t 39) (.goto 0) (.skip)))
  (.reg [⟨some 40, none, .mv (.t 7)⟩, ⟨some 41, none, .mv (.t 7)⟩, ⟨some 42, none, .len false (.t 41)⟩, ⟨some 43, none, .bin 0 .sub (.t 42) (.c (.int .i64 1))⟩, ⟨some 44, none, .iaddrS 1 (.t 40) (.t 43)⟩, ⟨some 45, none, .load false 1 (.t 44)⟩, ⟨some 46, none, .bin 0 .add (.t 45) (.c (.int .i64 1))⟩, ⟨some 47, none, .iaddrS 1 (.t 40) (.t 43)⟩, ⟨none, none, .store 1 (.t 47) (.t 46)⟩]))))))
  (.seq (.reg [⟨some 48, none, .mv (.t 7)⟩, ⟨some 49, none, .mv (.t 7)⟩, ⟨some 50, none, .len false (.t 49)⟩, ⟨some 51, none, .bin 0 .sub (.t 50) (.c (.int .i64 1))⟩, ⟨some 52, none, .slice 1 (.t 48) none (some (.t 51)) none⟩, ⟨some 7, none, .mv (.t 52)⟩])
  (.seq (.seq (.reg [⟨some 53, none, .mv (.t 7)⟩, ⟨some 54, none, .len false (.t 53)⟩, ⟨some 55, none, .bin 0 .eql (.t 54) (.c (.int .i64 1))⟩])
  (.cond (.t 55) (.seq (.reg [⟨some 6, none, .mv (.c (.nilsl))⟩])
  (.ret)) (.skip)))
  (.seq (.reg [⟨some 56, none, .mv (.t 7)⟩, ⟨some 57, none, .mv (.t 7)⟩, ⟨some 58, none, .len false (.t 57)⟩, ⟨some 59, none, .bin 0 .sub (.t 58) (.c (.int .i64 1))⟩, ⟨some 60, none, .iaddrS 1 (.t 56) (.t 59)⟩, ⟨some 61, none, .load false 1 (.t 60)⟩, ⟨some 62, none, .bin 0 .add (.t 61) (.c (.int .i64 1))⟩, ⟨some 63, none, .iaddrS 1 (.t 56) (.t 59)⟩, ⟨none, none, .store 1 (.t 63) (.t 62)⟩])
  (.goto 1)))))))))) 0 (.seq (.skip)
  (.seq (.seq (.reg [⟨some 9, none, .mv (.t 7)⟩, ⟨some 10, none, .len false (.t 9)⟩, ⟨some 11, none, .mv (.t 0)⟩, ⟨some 12, none, .bin 0 .eql (.t 10) (.t 11)⟩])
  (.cond (.t 12) (.seq (.reg [⟨some 13, none, .mv (.t 7)⟩, ⟨some 6, none, .mv (.t 13)⟩])
  (.ret)) (.skip)))
  (.seq (.regd [⟨some 14, none, .mv (.t 7)⟩, ⟨some 15, none, .mv (.t 7)⟩, ⟨some 16, none, .len false (.t 15)⟩, ⟨some 17, none, .mv (.t 7)⟩, ⟨some 18, none, .len false (.t 17)⟩, ⟨some 19, none, .slice 1 (.t 14) none (some (.t 16)) (some (.t 18))⟩, ⟨some 20, none, .mv (.t 7)⟩, ⟨some 21, none, .mv (.t 7)⟩, ⟨some 22, none, .len false (.t 21)⟩, ⟨some 23, none, .bin 0 .sub (.t 22) (.c (.int .i64 1))⟩, ⟨some 24, none, .iaddrS 1 (.t 20) (.t 23)⟩, ⟨some 25, none, .load false 1 (.t 24)⟩, ⟨some 26, none, .bin 0 .add (.t 25) (.c (.int .i64 1))⟩, ⟨some 27, none, .buildSl 1 [.t 26]⟩, ⟨some 28, none, .mem (.appx 1) [.t 19, .t 27]⟩, ⟨some 7, none, .mv (.t 28)⟩])
  (.seq (.label 1)
  (.seq (.block 0 (.loop (.seq (.seq (.reg [⟨some 29, none, .mv (.t 7)⟩, ⟨some 30, none, .mv (.t 7)⟩, ⟨some 31, none, .len false (.t 30)⟩, ⟨some 32, none, .bin 0 .sub (.t 31) (.c (.int .i64 1))⟩, ⟨some 33, none, .iaddrS 1 (.t 29) (.t 32)⟩, ⟨some 34, none, .load false 1 (.t 33)⟩, ⟨some 35, none, .mv (.t 1)⟩, ⟨some 36, none, .bin 0 .leq (.t 34) (.t 35)⟩])
  (.cond (.t 36) (.skip) (.exit 0)))
  (.block 1 (.seq (.seq (.reg [⟨some 37, none, .mv (.t 2)⟩, ⟨some 38, none, .mv (.t 7)⟩, ⟨some 39, none, .callv (.t 37) [.t 38]⟩])
  (.cond (.t 39) (.goto 0) (.skip)))
  (.reg [⟨some 40, none, .mv (.t 7)⟩, ⟨some 41, none, .mv (.t 7)⟩, ⟨some 42, none, .len false (.t 41)⟩, ⟨some 43, none, .bin 0 .sub (.t 42) (.c (.int .i64 1))⟩, ⟨some 44, none, .iaddrS 1 (.t 40) (.t 43)⟩, ⟨some 45, none, .load false 1 (.t 44)⟩, ⟨some 46, none, .bin 0 .add (.t 45) (.c (.int .i64 1))⟩, ⟨some 47, none, .iaddrS 1 (.t 40) (.t 43)⟩, ⟨none, none, .store 1 (.t 47) (.t 46)⟩]))))))
  (.seq (.reg [⟨some 48, none, .mv (.t 7)⟩, ⟨some 49, none, .mv (.t 7)⟩, ⟨some 50, none, .len false (.t 49)⟩, ⟨some 51, none, .bin 0 .sub (.t 50) (.c (.int .i64 1))⟩, ⟨some 52, none, .slice 1 (.t 48) none (some (.t 51)) none⟩, ⟨some 7, none, .mv (.t 52)⟩])
  (.seq (.seq (.reg [⟨some 53, none, .mv (.t 7)⟩, ⟨some 54, none, .len false (.t 53)⟩, ⟨some 55, none, .bin 0 .eql (.t 54) (.c (.int .i64 1))⟩])
  (.cond (.t 55) (.seq (.reg [⟨some 6, none, .mv (.c (.nilsl))⟩])
  (.ret)) (.skip)))
  (.seq (.reg [⟨some 56, none, .mv (.t 7)⟩, ⟨some 57, none, .mv (.t 7)⟩, ⟨some 58, none, .len false (.t 57)⟩, ⟨some 59, none, .bin 0 .sub (.t 58) (.c (.int .i64 1))⟩, ⟨some 60, none, .iaddrS 1 (.t 56) (.t 59)⟩, ⟨some 61, none, .load false 1 (.t 60)⟩, ⟨some 62, none, .bin 0 .add (.t 61) (.c (.int .i64 1))⟩, ⟨some 63, none, .iaddrS 1 (.t 56) (.t 59)⟩, ⟨none, none, .store 1 (.t 63) (.t 62)⟩])
  (.goto 1))))))))) 1 (.seq (.skip)
  (.seq (.block 0 (.loop (.seq (.seq (.reg [⟨some 29, none, .mv (.t 7)⟩, ⟨some 30, none, .mv (.t 7)⟩, ⟨some 31, none, .len false (.t 30)⟩, ⟨some 32, none, .bin 0 .sub (.t 31) (.c (.int .i64 1))⟩, ⟨some 33, none, .iaddrS 1 (.t 29) (.t 32)⟩, ⟨some 34, none, .load false 1 (.t 33)⟩, ⟨some 35, none, .mv (.t 1)⟩, ⟨some 36, none, .bin 0 .leq (.t 34) (.t 35)⟩])
  (.cond (.t 36) (.skip) (.exit 0)))
  (.block 1 (.seq (.seq (.reg [⟨some 37, none, .mv (.t 2)⟩, ⟨some 38, none, .mv (.t 7)⟩, ⟨some 39, none, .callv (.t 37) [.t 38]⟩])
  (.cond (.t 39) (.goto 0) (.skip)))
  (.reg [⟨some 40, none, .mv (.t 7)⟩, ⟨some 41, none, .mv (.t 7)⟩, ⟨some 42, none, .len false (.t 41)⟩, ⟨some 43, none, .bin 0 .sub (.t 42) (.c (.int .i64 1))⟩, ⟨some 44, none, .iaddrS 1 (.t 40) (.t 43)⟩, ⟨some 45, none, .load false 1 (.t 44)⟩, ⟨some 46, none, .bin 0 .add (.t 45) (.c (.int .i64 1))⟩, ⟨some 47, none, .iaddrS 1 (.t 40) (.t 43)⟩, ⟨none, none, .store 1 (.t 47) (.t 46)⟩]))))))
  (.seq (.reg [⟨some 48, none, .mv (.t 7)⟩, ⟨some 49, none, .mv (.t 7)⟩, ⟨some 50, none, .len false (.t 49)⟩, ⟨some 51, none, .bin 0 .sub (.t 50) (.c (.int .i64 1))⟩, ⟨some 52, none, .slice 1 (.t 48) none (some (.t 51)) none⟩, ⟨some 7, none, .mv (.t 52)⟩])
  (.seq (.seq (.reg [⟨some 53, none, .mv (.t 7)⟩, ⟨some 54, none, .len false (.t 53)⟩, ⟨some 55, none, .bin 0 .eql (.t 54) (.c (.int .i64 1))⟩])
  (.cond (.t 55) (.seq (.reg [⟨some 6, none, .mv (.c (.nilsl))⟩])
  (.ret)) (.skip)))
  (.seq (.reg [⟨some 56, none, .mv (.t 7)⟩, ⟨some 57, none, .mv (.t 7)⟩, ⟨some 58, none, .len false (.t 57)⟩, ⟨some 59, none, .bin 0 .sub (.t 58) (.c (.int .i64 1))⟩, ⟨some 60, none, .iaddrS 1 (.t 56) (.t 59)⟩, ⟨some 61, none, .load false 1 (.t 60)⟩, ⟨some 62, none, .bin 0 .add (.t 61) (.c (.int .i64 1))⟩, ⟨some 63, none, .iaddrS 1 (.t 56) (.t 59)⟩, ⟨none, none, .store 1 (.t 63) (.t 62)⟩])
  (.goto 1)))))))
def R63 : List ARes := [.t 6]
theorem ok63 : FnOk Tryd.prog 60 [28] pureFns A63 R63 64 := ⟨⟨Tryd.f60, _, Tryd.func60, rfl, rfl, by kernel_rfl, by kernel_rfl⟩, by kernel_rfl⟩
def A64 : ACode := .seq (.reg [⟨some 1, none, .boxi (.t 0)⟩, ⟨some 2, none, .mv (.c (.bool false))⟩])
  (.seq (.reg [⟨some 5, none, .load false 1 (.t 1)⟩, ⟨some 6, none, .load false 1 (.t 1)⟩, ⟨some 7, none, .len false (.t 6)⟩, ⟨some 8, none, .bin 0 .sub (.t 7) (.c (.int .i64 1))⟩, ⟨some 9, none, .slice 1 (.t 5) none (some (.t 8)) none⟩, ⟨some 3, none, .alloc [.nilsl]⟩, ⟨none, none, .store 1 (.t 3) (.t 9)⟩])
  (.seq (.reg [⟨some 10, none, .load false 1 (.t 3)⟩, ⟨some 11, none, .pcall 57 [.t 10]⟩, ⟨some 4, none, .alloc (List.replicate 61 (.bool false))⟩, ⟨none, none, .store 61 (.t 4) (.t 11)⟩])
  (.seq (.reg [⟨some 12, none, .load false 1 (.t 3)⟩, ⟨some 13, none, .mkfn (.func 87) [] [.t 4, .t 1, .t 3]⟩, ⟨some 14, none, .hcall 70 [.t 12, .t 13]⟩, ⟨some 15, none, .un .not (.t 14)⟩, ⟨some 2, none, .mv (.t 15)⟩])
  (.ret))))
def R64 : List ARes := [.t 2]
theorem ok64 : FnOk Tryd.prog 61 [] pureFns A64 R64 16 := ⟨⟨Tryd.f61, _, Tryd.func61, rfl, rfl, by kernel_rfl, by kernel_rfl⟩, by kernel_rfl⟩
def A32 : ACode := .seq (.reg [⟨some 2, none, .mv (.c (.nilsl))⟩, ⟨some 3, none, .mv (.c (.int .i64 0))⟩])
  (.seq (.seq (.reg [⟨some 6, none, .mv (.t 0)⟩, ⟨some 7, none, .pcall 59 [.c (.int .i64 2), .t 6, .c (.int .i64 7)]⟩, ⟨some 8, none, .un .not (.t 7)⟩])
  (.cond (.t 8) (.seq (.reg [⟨some 2, none, .mv (.c (.nilsl))⟩, ⟨some 3, none, .mv (.c (.int .i64 4))⟩])
  (.ret)) (.skip)))
  (.seq (.reg [⟨some 9, none, .mv (.t 0)⟩, ⟨some 10, none, .mv (.t 0)⟩, ⟨some 11, none, .bin 0 .sub (.t 10) (.c (.int .i64 1))⟩, ⟨some 12, none, .bin 0 .mul (.t 9) (.t 11)⟩, ⟨some 13, none, .bin 0 .quo (.t 12) (.c (.int .i64 2))⟩, ⟨some 4, none, .mv (.t 13)⟩])
  (.seq (.reg [⟨some 14, none, .mv (.t 0)⟩, ⟨some 15, none, .mv (.t 4)⟩, ⟨some 16, none, .pcall 60 [.t 14, .t 15, .c (.fn (.func 61) [] [])]⟩, ⟨some 5, none, .mv (.t 16)⟩])
  (.seq (.block 0 (.loop (.seq (.seq (.reg [⟨some 17, none, .mv (.t 5)⟩, ⟨some 18, none, .bin 2 .eql (.t 17) (.c (.nilsl))⟩])
  (.cond (.t 18) (.skip) (.exit 0)))
  (.block 1 (.seq (.reg [⟨some 19, none, .mv (.t 4)⟩, ⟨some 20, none, .bin 0 .add (.t 19) (.c (.int .i64 1))⟩, ⟨some 4, none, .mv (.t 20)⟩])
  (.reg [⟨some 21, none, .mv (.t 0)⟩, ⟨some 22, none, .mv (.t 4)⟩, ⟨some 23, none, .pcall 60 [.t 21, .t 22, .c (.fn (.func 61) [] [])]⟩, ⟨some 5, none, .mv (.t 23)⟩]))))))
  (.seq (.reg [⟨some 24, none, .mv (.t 5)⟩, ⟨some 2, none, .mv (.t 24)⟩, ⟨some 3, none, .mv (.c (.int .i64 0))⟩])
  (.ret))))))
def R32 : List ARes := [.t 2, .t 3]
theorem ok32 : FnOk Tryd.prog 32 [] pureFns A32 R32 25 := ⟨⟨Tryd.f32, _, Tryd.func32, rfl, rfl, by kernel_rfl, by kernel_rfl⟩, by kernel_rfl⟩
def A71 : ACode := .seq (.reg [⟨some 2, none, .mv (.c (.int .i64 0))⟩])
  (.seq (.regd [⟨some 3, none, .mv (.t 0)⟩, ⟨some 4, none, .mv (.t 0)⟩, ⟨some 5, none, .len false (.t 4)⟩, ⟨some 6, none, .bin 0 .sub (.t 5) (.c (.int .i64 1))⟩, ⟨some 7, none, .iaddrS 1 (.t 3) (.t 6)⟩, ⟨some 8, none, .load false 1 (.t 7)⟩, ⟨some 9, none, .mv (.t 0)⟩, ⟨some 10, none, .iaddrS 1 (.t 9) (.c (.int .i64 0))⟩, ⟨some 11, none, .load false 1 (.t 10)⟩, ⟨some 12, none, .bin 0 .sub (.t 8) (.t 11)⟩, ⟨some 2, none, .mv (.t 12)⟩])
  (.ret))
def R71 : List ARes := [.t 2]
theorem ok71 : FnOk Tryd.prog 58 [] pureFns A71 R71 13 := ⟨⟨Tryd.f58, _, Tryd.func58, rfl, rfl, by kernel_rfl, by kernel_rfl⟩, by kernel_rfl⟩
def A73 : ACode := .seq (.reg [⟨some 7, none, .boxi (.t 0)⟩, ⟨some 8, none, .mv (.c (.bool false))⟩])
  (.seq (.reg [⟨some 9, none, .load false 1 (.t 1)⟩, ⟨some 10, none, .load false 1 (.t 2)⟩, ⟨some 11, none, .mkfn (.func 55) [] [.t 7, .t 3, .t 4, .t 5, .t 6]⟩, ⟨some 12, none, .callv (.t 9) [.t 10, .t 11]⟩])
  (.seq (.reg [⟨some 13, none, .load false 1 (.t 6)⟩, ⟨some 14, none, .un .not (.t 13)⟩, ⟨some 8, none, .mv (.t 14)⟩])
  (.ret)))
def R73 : List ARes := [.t 8]
theorem ok73 : FnOk Tryd.prog 54 [] pureFns A73 R73 15 := ⟨⟨Tryd.f54, _, Tryd.func54, rfl, rfl, by kernel_rfl, by kernel_rfl⟩, by kernel_rfl⟩
def A74 : ACode := .seq (.reg [⟨some 6, none, .boxi (.t 0)⟩, ⟨some 7, none, .mv (.c (.bool false))⟩])
  (.seq (.seq (.rega [[], [], [0, 1], [2], [3], [3], [4, 5, 3, 3], [3], [3], [7, 8, 6, 3], [6, 9, 3], [3, 10]] [⟨some 8, none, .load true 2 (.t 1)⟩, ⟨some 9, none, .load true 2 (.t 6)⟩, ⟨some 10, none, .bin 12 .neq (.t 8) (.t 9)⟩, ⟨some 11, none, .mv (.t 10)⟩, ⟨some 12, some (11, true), .load false 1 (.t 2)⟩, ⟨some 13, some (11, true), .load true 2 (.t 1)⟩, ⟨some 14, some (11, true), .callv (.t 12) [.t 13]⟩, ⟨some 15, some (11, true), .load false 1 (.t 2)⟩, ⟨some 16, some (11, true), .load true 2 (.t 6)⟩, ⟨some 17, some (11, true), .callv (.t 15) [.t 16]⟩, ⟨some 18, some (11, true), .bin 0 .eql (.t 14) (.t 17)⟩, ⟨some 19, none, .pick (.t 11) (.t 18) (.c (.bool false))⟩])
  (.cond (.t 19) (.rega [[], [], [0, 0], [1, 2, 0, 1, 2], [3, 0, 1, 2, 3]] [⟨some 20, none, .load true 2 (.t 1)⟩, ⟨some 21, none, .load true 2 (.t 6)⟩, ⟨none, none, .store 2 (.t 3) (.t 20)⟩, ⟨none, none, .store 2 (.t 4) (.t 21)⟩, ⟨none, none, .store 1 (.t 5) (.c (.bool true))⟩]) (.skip)))
  (.seq (.reg [⟨some 22, none, .load false 1 (.t 5)⟩, ⟨some 23, none, .un .not (.t 22)⟩, ⟨some 7, none, .mv (.t 23)⟩])
  (.ret)))
def R74 : List ARes := [.t 7]
theorem ok74 : FnOk Tryd.prog 55 [] pureFns A74 R74 24 := ⟨⟨Tryd.f55, _, Tryd.func55, rfl, rfl, by kernel_rfl, by kernel_rfl⟩, by kernel_rfl⟩
def A75 : ACode := .seq (.reg [⟨some 2, none, .boxi (.t 0)⟩, ⟨some 3, none, .mv (.c (.int .i64 0))⟩])
  (.seq (.regd [⟨some 4, none, .load false 1 (.t 1)⟩, ⟨some 5, none, .iaddrA 2 false 1 (.t 2) (.c (.int .i64 1))⟩, ⟨some 6, none, .load false 1 (.t 5)⟩, ⟨some 7, none, .iaddrS 1 (.t 4) (.t 6)⟩, ⟨some 8, none, .load false 1 (.t 7)⟩, ⟨some 9, none, .load false 1 (.t 1)⟩, ⟨some 10, none, .iaddrA 2 false 1 (.t 2) (.c (.int .i64 0))⟩, ⟨some 11, none, .load false 1 (.t 10)⟩, ⟨some 12, none, .iaddrS 1 (.t 9) (.t 11)⟩, ⟨some 13, none, .load false 1 (.t 12)⟩, ⟨some 14, none, .bin 0 .sub (.t 8) (.t 13)⟩, ⟨some 3, none, .mv (.t 14)⟩])
  (.ret))
def R75 : List ARes := [.t 3]
theorem ok75 : FnOk Tryd.prog 56 [] pureFns A75 R75 15 := ⟨⟨Tryd.f56, _, Tryd.func56, rfl, rfl, by kernel_rfl, by kernel_rfl⟩, by kernel_rfl⟩
def A76 : ACode := .seq (.reg [⟨some 1, none, .boxi (.t 0)⟩, ⟨some 2, none, .alloc (List.replicate 61 (.bool false))⟩])
  (.seq (.reg [⟨some 3, none, .alloc (List.replicate 61 (.bool false))⟩])
  (.seq (.reg [⟨some 4, none, .load false 1 (.t 1)⟩, ⟨some 5, none, .len false (.t 4)⟩, ⟨some 6, none, .mkfn (.func 86) [] [.t 3, .t 1]⟩, ⟨some 7, none, .hcall 29 [.t 5, .t 6]⟩])
  (.seq (.reg [⟨some 8, none, .load true 61 (.t 3)⟩, ⟨none, none, .store 61 (.t 2) (.t 8)⟩])
  (.ret))))
def R76 : List ARes := [.cell true 61 2]
theorem ok76 : FnOk Tryd.prog 57 [] pureFns A76 R76 9 := ⟨⟨Tryd.f57, _, Tryd.func57, rfl, rfl, by kernel_rfl, by kernel_rfl⟩, by kernel_rfl⟩
def A83 : ACode := .seq (.reg [⟨some 4, none, .mv (.c (.bool false))⟩])
  (.seq (.reg [⟨some 5, none, .mv (.t 0)⟩, ⟨some 6, none, .mv (.t 1)⟩, ⟨some 7, none, .hcall 100 [.t 5, .t 6]⟩, ⟨some 8, none, .bin 0 .geq (.t 7) (.c (.int .i64 0))⟩, ⟨some 4, none, .mv (.t 8)⟩])
  (.ret))
def R83 : List ARes := [.t 4]
theorem ok83 : FnOk Tryd.prog 70 [] pureFns A83 R83 9 := ⟨⟨Tryd.f70, _, Tryd.func70, rfl, rfl, by kernel_rfl, by kernel_rfl⟩, by kernel_rfl⟩
def A84 : ACode := .seq (.reg [⟨some 5, none, .mv (.c (.bool false))⟩])
  (.seq (.reg [⟨some 6, none, .load false 1 (.t 2)⟩, ⟨some 7, none, .load false 1 (.t 3)⟩, ⟨some 8, none, .len false (.t 7)⟩, ⟨some 9, none, .iaddrS 1 (.t 6) (.t 8)⟩, ⟨some 10, none, .load false 1 (.t 9)⟩, ⟨some 11, none, .mv (.t 0)⟩, ⟨some 12, none, .bin 0 .sub (.t 10) (.t 11)⟩, ⟨some 13, none, .iaddrA 61 false 1 (.t 1) (.t 12)⟩, ⟨some 14, none, .load false 1 (.t 13)⟩, ⟨some 5, none, .mv (.t 14)⟩])
  (.ret))
def R84 : List ARes := [.t 5]
theorem ok84 : FnOk Tryd.prog 87 [] pureFns A84 R84 15 := ⟨⟨Tryd.f87, _, Tryd.func87, rfl, rfl, by kernel_rfl, by kernel_rfl⟩, by kernel_rfl⟩
def A86 : ACode := .seq (.reg [⟨some 3, none, .boxi (.t 0)⟩, ⟨some 4, none, .mv (.c (.bool false))⟩])
  (.seq (.regd [⟨some 5, none, .load false 1 (.t 2)⟩, ⟨some 6, none, .pcall 30 [.t 5]⟩, ⟨some 7, none, .load true 2 (.t 3)⟩, ⟨some 8, none, .callv (.t 6) [.t 7]⟩, ⟨some 9, none, .iaddrA 61 false 1 (.t 1) (.t 8)⟩, ⟨none, none, .store 1 (.t 9) (.c (.bool true))⟩])
  (.seq (.reg [⟨some 4, none, .mv (.c (.bool true))⟩])
  (.ret)))
def R86 : List ARes := [.t 4]
theorem ok86 : FnOk Tryd.prog 86 [] pureFns A86 R86 10 := ⟨⟨Tryd.f86, _, Tryd.func86, rfl, rfl, by kernel_rfl, by kernel_rfl⟩, by kernel_rfl⟩
def A88 : ACode := .seq (.reg [⟨some 4, none, .mv (.c (.int .i64 0))⟩])
  (.seq (.seq (.reg [⟨some 6, none, .mv (.t 0)⟩, ⟨some 7, none, .len false (.t 6)⟩, ⟨some 8, none, .mv (.c (.int .i64 0))⟩])
  (.block 0 (.loop (.seq (.reg [⟨some 9, none, .bin 0 .lss (.t 8) (.t 7)⟩])
  (.seq (.cond (.t 9) (.skip) (.exit 0))
  (.seq (.block 1 (.seq (.reg [⟨some 10, none, .mv (.t 8)⟩, ⟨some 5, none, .mv (.t 10)⟩])
  (.seq (.reg [⟨some 11, none, .mv (.t 1)⟩, ⟨some 12, none, .mv (.t 0)⟩, ⟨some 13, none, .mv (.t 5)⟩, ⟨some 14, none, .iaddrS 1 (.t 12) (.t 13)⟩, ⟨some 15, none, .load false 1 (.t 14)⟩, ⟨some 16, none, .callv (.t 11) [.t 15]⟩])
  (.cond (.t 16) (.seq (.reg [⟨some 17, none, .mv (.t 5)⟩, ⟨some 4, none, .mv (.t 17)⟩])
  (.ret)) (.skip)))))
  (.reg [⟨some 18, none, .bin 0 .add (.t 8) (.c (.int .i64 1))⟩, ⟨some 8, none, .mv (.t 18)⟩])))))))
  (.seq (.reg [⟨some 4, none, .mv (.c (.int .i64 (-1)))⟩])
  (.ret)))
def R88 : List ARes := [.t 4]
theorem ok88 : FnOk Tryd.prog 100 [] pureFns A88 R88 19 := ⟨⟨Tryd.f100, _, Tryd.func100, rfl, rfl, by kernel_rfl, by kernel_rfl⟩, by kernel_rfl⟩

end Go.Proofs.YtdcpkgedaflnmaaDoor.Xs
