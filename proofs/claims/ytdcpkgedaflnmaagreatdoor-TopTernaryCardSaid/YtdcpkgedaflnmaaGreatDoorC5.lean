/-
  Functions of this seat's translation, compacted, each held against the loaded program by the kernel. Printed by wip/tools/Gex.lean.
  Functions of this seat's translation, compacted, each held against the loaded program by the kernel. Printed by wip/tools/Gex.lean.
-/
import Derived.Test.YtdcpkgedaflnmaaGreatDoorProg
import Derived.Test.YtdcpkgedaflnmaaGreatDoorFx2
import Derived.KernelRfl
namespace Go.Proofs.YtdcpkgedaflnmaaGreatDoor.Ik
open Go Fw
def pureFns : List Nat := [0,1,2,3,4,5,6,7,8,9,10,11,12,13,14,15,16,17,18,19,20,21,22,23,24,25,26,27,28,29,30,31,32,33,34,35,36,37,38,39,40,41,42,43,44,45,46,47,48,49,50,51,52,53,54,55,56,57,58,59,60,61,62,63,64,65,66,67,68,69,70,71,72,73,74,75,76,77,78,79,80,81,82,83,85,86,87,88,89,90,91,92,93,94,95,96,97,98,99,100,101,102,103,104,105,106,107,108,109,110,111,112,113,114,115,116,117,118,119,120,121,122,123,124,126,127,128,129,130,131,132,133,134,135,136,137,138,139,140,141,142,143,144,145,146,147,148,149,150,151,152,153,154,155,156,157,158,159,160,161,162,163,164,165,166,167,168,169,170,171,172,173,174,175,176,177,178,179,180,181,182,183,184,185,186,187,188,189,190,191,192,193,194,195,196,197,198,199,200,201,202,203,204,205,206]
def A45 : ACode := .seq (.reg [⟨some 2, none, .mv (.c (.nilsl))⟩])
  (.seq (.reg [⟨some 3, none, .mv (.c (.nilsl))⟩])
  (.seq (.reg [⟨some 6, none, .mv (.t 0)⟩, ⟨some 7, none, .mkfn (.func 99) [.t 6] []⟩, ⟨some 4, none, .mv (.t 7)⟩])
  (.seq (.seq (.reg [⟨some 8, none, .mv (.c (.int .i64 0))⟩])
  (.block 0 (.loop (.seq (.reg [⟨some 9, none, .bin 0 .lss (.t 8) (.c (.int .i64 7))⟩])
  (.seq (.cond (.t 9) (.skip) (.exit 0))
  (.seq (.block 1 (.seq (.reg [⟨some 10, none, .mv (.t 8)⟩, ⟨some 5, none, .mv (.t 10)⟩])
  (.seq (.reg [⟨some 11, none, .mv (.t 4)⟩, ⟨some 12, none, .mv (.t 5)⟩, ⟨some 13, none, .callv (.t 11) [.t 12]⟩])
  (.cond (.t 13) (.reg [⟨some 14, none, .mv (.t 3)⟩, ⟨some 15, none, .mv (.t 5)⟩, ⟨some 16, none, .buildSl 1 [.t 15]⟩, ⟨some 17, none, .append 1 (.t 14) (.t 16)⟩, ⟨some 3, none, .mv (.t 17)⟩]) (.skip)))))
  (.reg [⟨some 18, none, .bin 0 .add (.t 8) (.c (.int .i64 1))⟩, ⟨some 8, none, .mv (.t 18)⟩])))))))
  (.seq (.reg [⟨some 19, none, .mv (.t 3)⟩, ⟨some 2, none, .mv (.t 19)⟩])
  (.ret)))))
def R45 : List ARes := [.t 2]
theorem ok45 : FnOk Tryz.prog 45 [] pureFns A45 R45 20 := ⟨⟨Tryz.f45, _, Tryz.func45, rfl, rfl, by kernel_rfl, by kernel_rfl⟩, by kernel_rfl⟩
def A46 : ACode := .seq (.reg [⟨some 1, none, .boxi (.t 0)⟩, ⟨some 2, none, .mv (.c (.int .i64 0))⟩])
  (.seq (.block 0 (.seq (.reg [⟨some 6, none, .faddr false 1 0 (.t 1)⟩, ⟨some 7, none, .load false 1 (.t 6)⟩, ⟨some 8, none, .pcall 98 [.c (.int .i64 2), .t 7, .c (.int .i64 7)]⟩, ⟨some 9, none, .un .not (.t 8)⟩, ⟨some 5, none, .mv (.t 9)⟩])
  (.cond (.t 5) (.seq (.reg [⟨some 2, none, .mv (.c (.int .i64 4))⟩])
  (.ret)) (.seq (.reg [⟨some 11, none, .faddr false 1 1 (.t 1)⟩, ⟨some 12, none, .load false 1 (.t 11)⟩, ⟨some 13, none, .len false (.t 12)⟩, ⟨some 14, none, .bin 0 .eql (.t 13) (.c (.int .i64 0))⟩, ⟨some 10, none, .mv (.t 14)⟩])
  (.cond (.t 10) (.seq (.reg [⟨some 2, none, .mv (.c (.int .i64 1))⟩])
  (.ret)) (.seq (.reg [⟨some 16, none, .faddr false 1 1 (.t 1)⟩, ⟨some 17, none, .load false 1 (.t 16)⟩, ⟨some 18, none, .len false (.t 17)⟩, ⟨some 19, none, .bin 0 .gtr (.t 18) (.c (.int .i64 6))⟩, ⟨some 15, none, .mv (.t 19)⟩])
  (.cond (.t 15) (.seq (.reg [⟨some 2, none, .mv (.c (.int .i64 2))⟩])
  (.ret)) (.skip))))))))
  (.seq (.seq (.reg [⟨some 20, none, .faddr false 1 1 (.t 1)⟩, ⟨some 21, none, .load false 1 (.t 20)⟩, ⟨some 22, none, .len false (.t 21)⟩, ⟨some 23, none, .mv (.c (.int .i64 0))⟩])
  (.block 1 (.loop (.seq (.reg [⟨some 24, none, .bin 0 .lss (.t 23) (.t 22)⟩])
  (.seq (.cond (.t 24) (.skip) (.exit 1))
  (.seq (.block 2 (.seq (.reg [⟨some 25, none, .iaddrS 1 (.t 21) (.t 23)⟩, ⟨some 26, none, .load false 1 (.t 25)⟩, ⟨some 4, none, .mv (.t 26)⟩])
  (.block 3 (.seq (.reg [⟨some 28, none, .mv (.t 4)⟩, ⟨some 29, none, .len false (.t 28)⟩, ⟨some 30, none, .faddr false 1 0 (.t 1)⟩, ⟨some 31, none, .load false 1 (.t 30)⟩, ⟨some 32, none, .bin 0 .neq (.t 29) (.t 31)⟩, ⟨some 27, none, .mv (.t 32)⟩])
  (.cond (.t 27) (.seq (.reg [⟨some 2, none, .mv (.c (.int .i64 3))⟩])
  (.ret)) (.seq (.reg [⟨some 34, none, .mv (.t 4)⟩, ⟨some 35, none, .mkfn (.func 100) [] [.t 1]⟩, ⟨some 36, none, .hcall 84 [.t 34, .t 35]⟩, ⟨some 33, none, .mv (.t 36)⟩])
  (.cond (.t 33) (.seq (.reg [⟨some 2, none, .mv (.c (.int .i64 4))⟩])
  (.ret)) (.skip))))))))
  (.reg [⟨some 37, none, .bin 0 .add (.t 23) (.c (.int .i64 1))⟩, ⟨some 23, none, .mv (.t 37)⟩])))))))
  (.seq (.reg [⟨some 2, none, .mv (.c (.int .i64 0))⟩])
  (.ret))))
def R46 : List ARes := [.t 2]
theorem ok46 : FnOk Tryz.prog 46 [] pureFns A46 R46 38 := ⟨⟨Tryz.f46, _, Tryz.func46, rfl, rfl, by kernel_rfl, by kernel_rfl⟩, by kernel_rfl⟩
def A47 : ACode := .seq (.reg [⟨some 4, none, .mv (.c (.int .u8 0))⟩])
  (.seq (.reg [⟨some 10, none, .mv (.t 1)⟩])
  (.block 0 (.seq (.reg [⟨some 27, none, .mem (.tass 166 (.int .i64 0)) [.t 10]⟩, ⟨some 28, none, .extract (.t 27) 1⟩, ⟨some 29, none, .extract (.t 27) 0⟩])
  (.cond (.t 28) (.seq (.reg [⟨some 5, none, .mv (.t 29)⟩])
  (.seq (.reg [⟨some 30, none, .mv (.t 0)⟩, ⟨some 31, none, .mv (.t 5)⟩, ⟨some 32, none, .pcall 101 [.t 31, .c (.int .i64 0)]⟩, ⟨some 33, none, .bin 0 .shl (.c (.int .u8 1)) (.t 32)⟩, ⟨some 34, none, .bin 0 .or (.t 30) (.t 33)⟩, ⟨some 4, none, .mv (.t 34)⟩])
  (.ret))) (.seq (.reg [⟨some 6, none, .mv (.t 10)⟩])
  (.seq (.reg [⟨some 11, none, .mv (.t 0)⟩, ⟨some 7, none, .mv (.t 11)⟩])
  (.seq (.seq (.reg [⟨some 12, none, .mv (.t 0)⟩, ⟨some 13, none, .pcall 45 [.t 12]⟩, ⟨some 14, none, .len false (.t 13)⟩, ⟨some 15, none, .mv (.c (.int .i64 0))⟩])
  (.block 1 (.loop (.seq (.reg [⟨some 16, none, .bin 0 .lss (.t 15) (.t 14)⟩])
  (.seq (.cond (.t 16) (.skip) (.exit 1))
  (.seq (.block 2 (.seq (.reg [⟨some 17, none, .iaddrS 1 (.t 13) (.t 15)⟩, ⟨some 18, none, .load false 1 (.t 17)⟩, ⟨some 9, none, .mv (.t 18)⟩])
  (.reg [⟨some 19, none, .mv (.t 7)⟩, ⟨some 20, none, .mv (.t 6)⟩, ⟨some 21, none, .mv (.t 9)⟩, ⟨some 22, none, .invk [.agg [.int .i64 166, .int .i64 101], .agg [.int .i64 169, .int .i64 199]] (.t 20) [.t 21]⟩, ⟨some 23, none, .bin 0 .shl (.c (.int .u8 1)) (.t 22)⟩, ⟨some 24, none, .bin 0 .or (.t 19) (.t 23)⟩, ⟨some 7, none, .mv (.t 24)⟩])))
  (.reg [⟨some 25, none, .bin 0 .add (.t 15) (.c (.int .i64 1))⟩, ⟨some 15, none, .mv (.t 25)⟩])))))))
  (.seq (.reg [⟨some 26, none, .mv (.t 7)⟩, ⟨some 4, none, .mv (.t 26)⟩])
  (.ret)))))))))
def R47 : List ARes := [.t 4]
theorem ok47 : FnOk Tryz.prog 47 [] pureFns A47 R47 35 := ⟨⟨Tryz.f47, _, Tryz.func47, rfl, rfl, by kernel_rfl, by kernel_rfl⟩, by kernel_rfl⟩
def A48 : ACode := .seq (.reg [⟨some 2, none, .boxi (.t 0)⟩, ⟨some 4, none, .mv (.c (.nilif))⟩])
  (.seq (.reg [⟨some 6, none, .faddr false 1 1 (.t 2)⟩, ⟨some 7, none, .load false 1 (.t 6)⟩, ⟨some 8, none, .mv (.t 1)⟩, ⟨some 9, none, .iaddrS 1 (.t 7) (.t 8)⟩, ⟨some 10, none, .load false 1 (.t 9)⟩, ⟨some 5, none, .mv (.t 10)⟩])
  (.seq (.seq (.reg [⟨some 11, none, .mv (.t 5)⟩, ⟨some 12, none, .pcall 102 [.t 11]⟩, ⟨some 13, none, .mv (.t 5)⟩, ⟨some 14, none, .pcall 103 [.t 13]⟩, ⟨some 15, none, .bin 0 .eql (.t 12) (.t 14)⟩])
  (.cond (.t 15) (.seq (.reg [⟨some 16, none, .mv (.t 5)⟩, ⟨some 17, none, .iaddrS 1 (.t 16) (.c (.int .i64 0))⟩, ⟨some 18, none, .load false 1 (.t 17)⟩, ⟨some 19, none, .mkif 166 (.t 18)⟩, ⟨some 4, none, .mv (.t 19)⟩])
  (.ret)) (.skip)))
  (.seq (.reg [⟨some 20, none, .mv (.t 5)⟩, ⟨some 21, none, .mkif 169 (.t 20)⟩, ⟨some 4, none, .mv (.t 21)⟩])
  (.ret))))
def R48 : List ARes := [.t 4]
theorem ok48 : FnOk Tryz.prog 48 [] pureFns A48 R48 22 := ⟨⟨Tryz.f48, _, Tryz.func48, rfl, rfl, by kernel_rfl, by kernel_rfl⟩, by kernel_rfl⟩
def A82 : ACode := .seq (.reg [⟨some 2, none, .mv (.c (.nilsl))⟩])
  (.seq (.reg [⟨some 3, none, .mv (.t 0)⟩, ⟨some 4, none, .mv (.t 0)⟩, ⟨some 5, none, .len false (.t 4)⟩, ⟨some 6, none, .mv (.t 0)⟩, ⟨some 7, none, .len false (.t 6)⟩, ⟨some 8, none, .slice 1 (.t 3) none (some (.t 5)) (some (.t 7))⟩, ⟨some 2, none, .mv (.t 8)⟩])
  (.ret))
def R82 : List ARes := [.t 2]
theorem ok82 : FnOk Tryz.prog 82 [] pureFns A82 R82 9 := ⟨⟨Tryz.f82, _, Tryz.func82, rfl, rfl, by kernel_rfl, by kernel_rfl⟩, by kernel_rfl⟩
def A84 : ACode := .seq (.reg [⟨some 4, none, .mv (.c (.bool false))⟩])
  (.seq (.reg [⟨some 5, none, .mv (.t 0)⟩, ⟨some 6, none, .mv (.t 1)⟩, ⟨some 7, none, .hcall 125 [.t 5, .t 6]⟩, ⟨some 8, none, .bin 0 .geq (.t 7) (.c (.int .i64 0))⟩, ⟨some 4, none, .mv (.t 8)⟩])
  (.ret))
def R84 : List ARes := [.t 4]
theorem ok84 : FnOk Tryz.prog 84 [] pureFns A84 R84 9 := ⟨⟨Tryz.f84, _, Tryz.func84, rfl, rfl, by kernel_rfl, by kernel_rfl⟩, by kernel_rfl⟩
def A89 : ACode := .seq (.reg [⟨some 2, none, .boxi (.t 0)⟩, ⟨some 4, none, .mv (.c (.nilsl))⟩, ⟨some 5, none, .mv (.c (.int .i64 0))⟩])
  (.seq (.seq (.reg [⟨some 11, none, .load true 2 (.t 2)⟩, ⟨some 12, none, .pcall 46 [.t 11]⟩, ⟨some 6, none, .mv (.t 12)⟩])
  (.seq (.reg [⟨some 13, none, .mv (.t 6)⟩, ⟨some 14, none, .bin 0 .neq (.t 13) (.c (.int .i64 0))⟩])
  (.cond (.t 14) (.seq (.reg [⟨some 15, none, .mv (.t 6)⟩, ⟨some 4, none, .mv (.c (.nilsl))⟩, ⟨some 5, none, .mv (.t 15)⟩])
  (.ret)) (.skip))))
  (.seq (.reg [⟨some 17, none, .load true 2 (.t 2)⟩, ⟨some 18, none, .mv (.t 1)⟩, ⟨some 19, none, .pcall 130 [.t 17, .t 18]⟩, ⟨some 16, none, .mv (.t 19)⟩, ⟨some 20, none, .extract (.t 16) 0⟩, ⟨some 21, none, .extract (.t 16) 1⟩, ⟨some 7, none, .mv (.t 20)⟩, ⟨some 8, none, .mv (.t 21)⟩])
  (.seq (.seq (.reg [⟨some 22, none, .mv (.t 8)⟩, ⟨some 23, none, .bin 0 .neq (.t 22) (.c (.int .i64 0))⟩])
  (.cond (.t 23) (.seq (.reg [⟨some 24, none, .mv (.t 8)⟩, ⟨some 4, none, .mv (.c (.nilsl))⟩, ⟨some 5, none, .mv (.t 24)⟩])
  (.ret)) (.skip)))
  (.seq (.reg [⟨some 26, none, .load true 2 (.t 2)⟩, ⟨some 27, none, .mv (.t 7)⟩, ⟨some 28, none, .pcall 131 [.t 26, .t 27]⟩, ⟨some 25, none, .mv (.t 28)⟩, ⟨some 29, none, .extract (.t 25) 0⟩, ⟨some 30, none, .extract (.t 25) 1⟩, ⟨some 9, none, .mv (.t 29)⟩, ⟨some 10, none, .mv (.t 30)⟩])
  (.seq (.seq (.reg [⟨some 31, none, .mv (.t 10)⟩, ⟨some 32, none, .un .not (.t 31)⟩])
  (.cond (.t 32) (.seq (.reg [⟨some 4, none, .mv (.c (.nilsl))⟩, ⟨some 5, none, .mv (.c (.int .i64 14))⟩])
  (.ret)) (.skip)))
  (.seq (.reg [⟨some 33, none, .mv (.t 9)⟩, ⟨some 4, none, .mv (.t 33)⟩, ⟨some 5, none, .mv (.c (.int .i64 0))⟩])
  (.ret)))))))
def R89 : List ARes := [.t 4, .t 5]
theorem ok89 : FnOk Tryz.prog 89 [] pureFns A89 R89 34 := ⟨⟨Tryz.f89, _, Tryz.func89, rfl, rfl, by kernel_rfl, by kernel_rfl⟩, by kernel_rfl⟩
def A98 : ACode := .seq (.reg [⟨some 6, none, .mv (.c (.bool false))⟩])
  (.seq (.reg [⟨some 7, none, .mv (.t 0)⟩, ⟨some 8, none, .mv (.t 1)⟩, ⟨some 9, none, .bin 0 .leq (.t 7) (.t 8)⟩, ⟨some 10, none, .mv (.t 9)⟩, ⟨some 11, some (10, true), .mv (.t 1)⟩, ⟨some 12, some (10, true), .mv (.t 2)⟩, ⟨some 13, some (10, true), .bin 0 .leq (.t 11) (.t 12)⟩, ⟨some 14, none, .pick (.t 10) (.t 13) (.c (.bool false))⟩, ⟨some 6, none, .mv (.t 14)⟩])
  (.ret))
def R98 : List ARes := [.t 6]
theorem ok98 : FnOk Tryz.prog 98 [] pureFns A98 R98 15 := ⟨⟨Tryz.f98, _, Tryz.func98, rfl, rfl, by kernel_rfl, by kernel_rfl⟩, by kernel_rfl⟩
def A99 : ACode := .seq (.reg [⟨some 4, none, .mv (.c (.bool false))⟩])
  (.seq (.reg [⟨some 5, none, .mv (.t 0)⟩, ⟨some 6, none, .mv (.t 1)⟩, ⟨some 7, none, .bin 0 .shr (.t 5) (.t 6)⟩, ⟨some 8, none, .bin 0 .and (.t 7) (.c (.int .u8 1))⟩, ⟨some 9, none, .bin 0 .eql (.t 8) (.c (.int .u8 1))⟩, ⟨some 4, none, .mv (.t 9)⟩])
  (.ret))
def R99 : List ARes := [.t 4]
theorem ok99 : FnOk Tryz.prog 99 [] pureFns A99 R99 10 := ⟨⟨Tryz.f99, _, Tryz.func99, rfl, rfl, by kernel_rfl, by kernel_rfl⟩, by kernel_rfl⟩
def A100 : ACode := .seq (.reg [⟨some 3, none, .mv (.c (.bool false))⟩])
  (.seq (.reg [⟨some 4, none, .mv (.t 0)⟩, ⟨some 5, none, .faddr false 1 0 (.t 1)⟩, ⟨some 6, none, .load false 1 (.t 5)⟩, ⟨some 7, none, .bin 0 .sub (.t 6) (.c (.int .i64 1))⟩, ⟨some 8, none, .pcall 98 [.c (.int .i64 0), .t 4, .t 7]⟩, ⟨some 9, none, .un .not (.t 8)⟩, ⟨some 3, none, .mv (.t 9)⟩])
  (.ret))
def R100 : List ARes := [.t 3]
theorem ok100 : FnOk Tryz.prog 100 [] pureFns A100 R100 10 := ⟨⟨Tryz.f100, _, Tryz.func100, rfl, rfl, by kernel_rfl, by kernel_rfl⟩, by kernel_rfl⟩
def A101 : ACode := .seq (.reg [⟨some 4, none, .mv (.c (.int .i64 0))⟩])
  (.seq (.reg [⟨some 5, none, .mv (.t 0)⟩, ⟨some 4, none, .mv (.t 5)⟩])
  (.ret))
def R101 : List ARes := [.t 4]
theorem ok101 : FnOk Tryz.prog 101 [] pureFns A101 R101 6 := ⟨⟨Tryz.f101, _, Tryz.func101, rfl, rfl, by kernel_rfl, by kernel_rfl⟩, by kernel_rfl⟩
def A102 : ACode := .seq (.reg [⟨some 2, none, .mv (.c (.int .i64 0))⟩])
  (.seq (.seq (.reg [⟨some 5, none, .mv (.t 0)⟩, ⟨some 6, none, .len false (.t 5)⟩, ⟨some 7, none, .bin 0 .lss (.t 6) (.c (.int .i64 1))⟩])
  (.cond (.t 7) (.reg [⟨some 8, none, .mkif 9 (.c (.str (bs [115, 108, 105, 99, 101, 115, 46, 77, 97, 120, 58, 32, 101, 109, 112, 116, 121, 32, 108, 105, 115, 116])))⟩, ⟨none, none, .panic (.t 8)⟩]) (.skip)))
  (.seq (.reg [⟨some 9, none, .mv (.t 0)⟩, ⟨some 10, none, .iaddrS 1 (.t 9) (.c (.int .i64 0))⟩, ⟨some 11, none, .load false 1 (.t 10)⟩, ⟨some 3, none, .mv (.t 11)⟩])
  (.seq (.seq (.reg [⟨some 4, none, .mv (.c (.int .i64 1))⟩])
  (.block 0 (.loop (.seq (.seq (.reg [⟨some 12, none, .mv (.t 4)⟩, ⟨some 13, none, .mv (.t 0)⟩, ⟨some 14, none, .len false (.t 13)⟩, ⟨some 15, none, .bin 0 .lss (.t 12) (.t 14)⟩])
  (.cond (.t 15) (.skip) (.exit 0)))
  (.seq (.block 1 (.reg [⟨some 18, none, .mv (.t 3)⟩, ⟨some 19, none, .mv (.t 0)⟩, ⟨some 20, none, .mv (.t 4)⟩, ⟨some 21, none, .iaddrS 1 (.t 19) (.t 20)⟩, ⟨some 22, none, .load false 1 (.t 21)⟩, ⟨some 23, none, .max (.t 18) (.t 22)⟩, ⟨some 3, none, .mv (.t 23)⟩]))
  (.reg [⟨some 16, none, .mv (.t 4)⟩, ⟨some 17, none, .bin 0 .add (.t 16) (.c (.int .i64 1))⟩, ⟨some 4, none, .mv (.t 17)⟩]))))))
  (.seq (.reg [⟨some 24, none, .mv (.t 3)⟩, ⟨some 2, none, .mv (.t 24)⟩])
  (.ret)))))
def R102 : List ARes := [.t 2]
theorem ok102 : FnOk Tryz.prog 102 [] pureFns A102 R102 25 := ⟨⟨Tryz.f102, _, Tryz.func102, rfl, rfl, by kernel_rfl, by kernel_rfl⟩, by kernel_rfl⟩
def A103 : ACode := .seq (.reg [⟨some 2, none, .mv (.c (.int .i64 0))⟩])
  (.seq (.seq (.reg [⟨some 5, none, .mv (.t 0)⟩, ⟨some 6, none, .len false (.t 5)⟩, ⟨some 7, none, .bin 0 .lss (.t 6) (.c (.int .i64 1))⟩])
  (.cond (.t 7) (.reg [⟨some 8, none, .mkif 9 (.c (.str (bs [115, 108, 105, 99, 101, 115, 46, 77, 105, 110, 58, 32, 101, 109, 112, 116, 121, 32, 108, 105, 115, 116])))⟩, ⟨none, none, .panic (.t 8)⟩]) (.skip)))
  (.seq (.reg [⟨some 9, none, .mv (.t 0)⟩, ⟨some 10, none, .iaddrS 1 (.t 9) (.c (.int .i64 0))⟩, ⟨some 11, none, .load false 1 (.t 10)⟩, ⟨some 3, none, .mv (.t 11)⟩])
  (.seq (.seq (.reg [⟨some 4, none, .mv (.c (.int .i64 1))⟩])
  (.block 0 (.loop (.seq (.seq (.reg [⟨some 12, none, .mv (.t 4)⟩, ⟨some 13, none, .mv (.t 0)⟩, ⟨some 14, none, .len false (.t 13)⟩, ⟨some 15, none, .bin 0 .lss (.t 12) (.t 14)⟩])
  (.cond (.t 15) (.skip) (.exit 0)))
  (.seq (.block 1 (.reg [⟨some 18, none, .mv (.t 3)⟩, ⟨some 19, none, .mv (.t 0)⟩, ⟨some 20, none, .mv (.t 4)⟩, ⟨some 21, none, .iaddrS 1 (.t 19) (.t 20)⟩, ⟨some 22, none, .load false 1 (.t 21)⟩, ⟨some 23, none, .min (.t 18) (.t 22)⟩, ⟨some 3, none, .mv (.t 23)⟩]))
  (.reg [⟨some 16, none, .mv (.t 4)⟩, ⟨some 17, none, .bin 0 .add (.t 16) (.c (.int .i64 1))⟩, ⟨some 4, none, .mv (.t 17)⟩]))))))
  (.seq (.reg [⟨some 24, none, .mv (.t 3)⟩, ⟨some 2, none, .mv (.t 24)⟩])
  (.ret)))))
def R103 : List ARes := [.t 2]
theorem ok103 : FnOk Tryz.prog 103 [] pureFns A103 R103 25 := ⟨⟨Tryz.f103, _, Tryz.func103, rfl, rfl, by kernel_rfl, by kernel_rfl⟩, by kernel_rfl⟩
def A125 : ACode := .seq (.reg [⟨some 4, none, .mv (.c (.int .i64 0))⟩])
  (.seq (.seq (.reg [⟨some 6, none, .mv (.t 0)⟩, ⟨some 7, none, .len false (.t 6)⟩, ⟨some 8, none, .mv (.c (.int .i64 0))⟩])
  (.block 0 (.loop (.seq (.reg [⟨some 9, none, .bin 0 .lss (.t 8) (.t 7)⟩])
  (.seq (.cond (.t 9) (.skip) (.exit 0))
  (.seq (.block 1 (.seq (.reg [⟨some 10, none, .mv (.t 8)⟩, ⟨some 5, none, .mv (.t 10)⟩])
  (.seq (.reg [⟨some 11, none, .mv (.t 1)⟩, ⟨some 12, none, .mv (.t 0)⟩, ⟨some 13, none, .mv (.t 5)⟩, ⟨some 14, none, .iaddrS 1 (.t 12) (.t 13)⟩, ⟨some 15, none, .load false 1 (.t 14)⟩, ⟨some 16, none, .callv (.t 11) [.t 15]⟩])
  (.cond (.t 16) (.seq (.reg [⟨some 17, none, .mv (.t 5)⟩, ⟨some 4, none, .mv (.t 17)⟩])
  (.ret)) (.skip)))))
  (.reg [⟨some 18, none, .bin 0 .add (.t 8) (.c (.int .i64 1))⟩, ⟨some 8, none, .mv (.t 18)⟩])))))))
  (.seq (.reg [⟨some 4, none, .mv (.c (.int .i64 (-1)))⟩])
  (.ret)))
def R125 : List ARes := [.t 4]
theorem ok125 : FnOk Tryz.prog 125 [] pureFns A125 R125 19 := ⟨⟨Tryz.f125, _, Tryz.func125, rfl, rfl, by kernel_rfl, by kernel_rfl⟩, by kernel_rfl⟩
def A130 : ACode := .seq (.reg [⟨some 2, none, .boxi (.t 0)⟩, ⟨some 4, none, .mv (.c (.int .u8 0))⟩, ⟨some 5, none, .mv (.c (.int .i64 0))⟩])
  (.seq (.reg [⟨some 6, none, .mv (.c (.int .u8 0))⟩])
  (.seq (.reg [⟨some 7, none, .mv (.c (.int .i64 (-1)))⟩])
  (.seq (.seq (.reg [⟨some 10, none, .mv (.t 1)⟩, ⟨some 11, none, .len false (.t 10)⟩, ⟨some 12, none, .mv (.c (.int .i64 0))⟩])
  (.block 0 (.loop (.seq (.reg [⟨some 13, none, .bin 0 .lss (.t 12) (.t 11)⟩])
  (.seq (.cond (.t 13) (.skip) (.exit 0))
  (.seq (.block 1 (.seq (.reg [⟨some 14, none, .iaddrS 1 (.t 10) (.t 12)⟩, ⟨some 15, none, .load false 1 (.t 14)⟩, ⟨some 9, none, .mv (.t 15)⟩])
  (.seq (.block 2 (.seq (.reg [⟨some 17, none, .mv (.t 9)⟩, ⟨some 18, none, .faddr false 1 0 (.t 2)⟩, ⟨some 19, none, .load false 1 (.t 18)⟩, ⟨some 20, none, .bin 0 .sub (.t 19) (.c (.int .i64 1))⟩, ⟨some 21, none, .pcall 98 [.c (.int .i64 0), .t 17, .t 20]⟩, ⟨some 22, none, .un .not (.t 21)⟩, ⟨some 16, none, .mv (.t 22)⟩])
  (.cond (.t 16) (.seq (.reg [⟨some 4, none, .mv (.c (.int .u8 0))⟩, ⟨some 5, none, .mv (.c (.int .i64 5))⟩])
  (.ret)) (.seq (.reg [⟨some 24, none, .mv (.t 9)⟩, ⟨some 25, none, .mv (.t 7)⟩, ⟨some 26, none, .bin 0 .leq (.t 24) (.t 25)⟩, ⟨some 23, none, .mv (.t 26)⟩])
  (.cond (.t 23) (.seq (.reg [⟨some 4, none, .mv (.c (.int .u8 0))⟩, ⟨some 5, none, .mv (.c (.int .i64 7))⟩])
  (.ret)) (.skip))))))
  (.reg [⟨some 27, none, .mv (.t 6)⟩, ⟨some 28, none, .mv (.t 9)⟩, ⟨some 29, none, .bin 0 .shl (.c (.int .u8 1)) (.t 28)⟩, ⟨some 30, none, .bin 0 .or (.t 27) (.t 29)⟩, ⟨some 31, none, .mv (.t 9)⟩, ⟨some 6, none, .mv (.t 30)⟩, ⟨some 7, none, .mv (.t 31)⟩]))))
  (.reg [⟨some 32, none, .bin 0 .add (.t 12) (.c (.int .i64 1))⟩, ⟨some 12, none, .mv (.t 32)⟩])))))))
  (.seq (.reg [⟨some 33, none, .mv (.t 6)⟩, ⟨some 4, none, .mv (.t 33)⟩, ⟨some 5, none, .mv (.c (.int .i64 0))⟩])
  (.ret)))))
def R130 : List ARes := [.t 4, .t 5]
theorem ok130 : FnOk Tryz.prog 130 [] pureFns A130 R130 34 := ⟨⟨Tryz.f130, _, Tryz.func130, rfl, rfl, by kernel_rfl, by kernel_rfl⟩, by kernel_rfl⟩
def A131 : ACode := .seq (.reg [⟨some 2, none, .boxi (.t 0)⟩, ⟨some 4, none, .mv (.c (.nilsl))⟩, ⟨some 5, none, .mv (.c (.bool false))⟩])
  (.seq (.reg [⟨some 13, none, .mem .mkmap []⟩, ⟨none, none, .mem (.mupd 0) [.t 13, .c (.int .u8 1), .c (.bool true)]⟩, ⟨some 14, none, .mv (.t 13)⟩, ⟨some 6, none, .mv (.t 14)⟩])
  (.seq (.reg [⟨some 15, none, .buildSl 1 [.c (.int .u8 1)]⟩, ⟨some 7, none, .mv (.t 15)⟩])
  (.seq (.reg [⟨some 16, none, .buildSl 1 [.c (.nilsl)]⟩, ⟨some 8, none, .mv (.t 16)⟩])
  (.seq (.block 0 (.loop (.seq (.seq (.reg [⟨some 17, none, .mv (.t 7)⟩, ⟨some 18, none, .len false (.t 17)⟩, ⟨some 19, none, .bin 0 .gtr (.t 18) (.c (.int .i64 0))⟩])
  (.cond (.t 19) (.skip) (.exit 0)))
  (.block 1 (.seq (.regd [⟨some 20, none, .mv (.t 7)⟩, ⟨some 21, none, .iaddrS 1 (.t 20) (.c (.int .i64 0))⟩, ⟨some 22, none, .load false 1 (.t 21)⟩, ⟨some 23, none, .mv (.t 8)⟩, ⟨some 24, none, .iaddrS 1 (.t 23) (.c (.int .i64 0))⟩, ⟨some 25, none, .load false 1 (.t 24)⟩, ⟨some 9, none, .mv (.t 22)⟩, ⟨some 10, none, .mv (.t 25)⟩])
  (.seq (.regd [⟨some 26, none, .mv (.t 7)⟩, ⟨some 27, none, .slice 1 (.t 26) (some (.c (.int .i64 1))) none none⟩, ⟨some 28, none, .mv (.t 8)⟩, ⟨some 29, none, .slice 1 (.t 28) (some (.c (.int .i64 1))) none none⟩, ⟨some 7, none, .mv (.t 27)⟩, ⟨some 8, none, .mv (.t 29)⟩])
  (.seq (.seq (.reg [⟨some 30, none, .mv (.t 9)⟩, ⟨some 31, none, .mv (.t 1)⟩, ⟨some 32, none, .bin 0 .and (.t 30) (.t 31)⟩, ⟨some 33, none, .mv (.t 1)⟩, ⟨some 34, none, .bin 0 .eql (.t 32) (.t 33)⟩])
  (.cond (.t 34) (.seq (.reg [⟨some 35, none, .mv (.t 10)⟩, ⟨some 4, none, .mv (.t 35)⟩, ⟨some 5, none, .mv (.c (.bool true))⟩])
  (.ret)) (.skip)))
  (.seq (.reg [⟨some 36, none, .faddr false 1 1 (.t 2)⟩, ⟨some 37, none, .load false 1 (.t 36)⟩, ⟨some 38, none, .len false (.t 37)⟩, ⟨some 39, none, .mv (.c (.int .i64 0))⟩])
  (.block 2 (.loop (.seq (.reg [⟨some 40, none, .bin 0 .lss (.t 39) (.t 38)⟩])
  (.seq (.cond (.t 40) (.skip) (.exit 2))
  (.seq (.block 3 (.seq (.reg [⟨some 41, none, .mv (.t 39)⟩, ⟨some 11, none, .mv (.t 41)⟩])
  (.seq (.reg [⟨some 42, none, .mv (.t 9)⟩, ⟨some 43, none, .load true 2 (.t 2)⟩, ⟨some 44, none, .mv (.t 11)⟩, ⟨some 45, none, .pcall 48 [.t 43, .t 44]⟩, ⟨some 46, none, .pcall 47 [.t 42, .t 45]⟩, ⟨some 12, none, .mv (.t 46)⟩])
  (.seq (.reg [⟨some 47, none, .mv (.t 6)⟩, ⟨some 48, none, .mv (.t 12)⟩, ⟨some 49, none, .mem (.look 0 false (.bool false)) [.t 47, .t 48]⟩, ⟨some 50, none, .un .not (.t 49)⟩])
  (.cond (.t 50) (.seq (.reg [⟨some 51, none, .mv (.t 6)⟩, ⟨some 52, none, .mv (.t 12)⟩, ⟨none, none, .mem (.mupd 0) [.t 51, .t 52, .c (.bool true)]⟩])
  (.reg [⟨some 53, none, .mv (.t 7)⟩, ⟨some 54, none, .mv (.t 12)⟩, ⟨some 55, none, .buildSl 1 [.t 54]⟩, ⟨some 56, none, .append 1 (.t 53) (.t 55)⟩, ⟨some 57, none, .mv (.t 8)⟩, ⟨some 58, none, .mv (.t 10)⟩, ⟨some 59, none, .pcall 82 [.t 58]⟩, ⟨some 60, none, .mv (.t 11)⟩, ⟨some 61, none, .buildSl 1 [.t 60]⟩, ⟨some 62, none, .append 1 (.t 59) (.t 61)⟩, ⟨some 63, none, .buildSl 1 [.t 62]⟩, ⟨some 64, none, .append 1 (.t 57) (.t 63)⟩, ⟨some 7, none, .mv (.t 56)⟩, ⟨some 8, none, .mv (.t 64)⟩])) (.skip))))))
  (.reg [⟨some 65, none, .bin 0 .add (.t 39) (.c (.int .i64 1))⟩, ⟨some 39, none, .mv (.t 65)⟩]))))))))))))))
  (.seq (.reg [⟨some 4, none, .mv (.c (.nilsl))⟩, ⟨some 5, none, .mv (.c (.bool false))⟩])
  (.ret))))))
def R131 : List ARes := [.t 4, .t 5]
theorem ok131 : FnOk Tryz.prog 131 [] pureFns A131 R131 66 := ⟨⟨Tryz.f131, _, Tryz.func131, rfl, rfl, by kernel_rfl, by kernel_rfl⟩, by kernel_rfl⟩
def A199 : ACode := .seq (.reg [⟨some 4, none, .mv (.c (.int .i64 0))⟩])
  (.seq (.reg [⟨some 5, none, .mv (.t 0)⟩, ⟨some 6, none, .mv (.t 1)⟩, ⟨some 7, none, .iaddrS 1 (.t 5) (.t 6)⟩, ⟨some 8, none, .load false 1 (.t 7)⟩, ⟨some 4, none, .mv (.t 8)⟩])
  (.ret))
def R199 : List ARes := [.t 4]
theorem ok199 : FnOk Tryz.prog 199 [] pureFns A199 R199 9 := ⟨⟨Tryz.f199, _, Tryz.func199, rfl, rfl, by kernel_rfl, by kernel_rfl⟩, by kernel_rfl⟩

end Go.Proofs.YtdcpkgedaflnmaaGreatDoor.Ik
namespace Go.Proofs.YtdcpkgedaflnmaaGreatDoor.Rp
open Go Fw
def pureFns : List Nat := [0,1,2,3,4,5,6,7,8,9,10,11,12,13,14,15,16,17,18,19,20,21,22,23,24,25,26,27,28,29,30,31,32,33,34,35,36,37,38,39,40,41,42,43,44,45,46,47,48,49,50,51,52,53,54,55,56,57,58,59,60,61,62,63,64,65,66,67,68,69,70,71,72,73,74,75,76,77,78,79,80,81,82,83,85,86,87,88,89,90,91,92,93,94,95,96,97,98,99,100,101,102,103,104,105,106,107,108,109,110,111,112,113,114,115,116,117,118,119,120,121,122,123,124,126,127,128,129,130,131,132,133,134,135,136,137,138,139,140,141,142,143,144,145,146,147,148,149,150,151,152,153,154,155,156,157,158,159,160,161,162,163,164,165,166,167,168,169,170,171,172,173,174,175,176,177,178,179,180,181,182,183,184,185,186,187,188,189,190,191,192,193,194,195,196,197,198,199,200,201,202,203,204,205,206]
def A9 : ACode := .seq (.reg [⟨some 0, none, .mv (.c (.bool false))⟩])
  (.seq (.reg [⟨some 5, none, .pcall 11 [.c (.str (bs [97, 98, 97, 98]))]⟩, ⟨some 4, none, .mv (.t 5)⟩, ⟨some 6, none, .extract (.t 4) 0⟩, ⟨some 7, none, .extract (.t 4) 1⟩, ⟨some 8, none, .extract (.t 4) 2⟩, ⟨some 1, none, .mv (.t 6)⟩, ⟨some 2, none, .mv (.t 7)⟩, ⟨some 3, none, .mv (.t 8)⟩])
  (.seq (.reg [⟨some 9, none, .mv (.t 3)⟩, ⟨some 10, none, .bin 0 .eql (.t 9) (.c (.int .i64 0))⟩, ⟨some 11, none, .mv (.t 10)⟩, ⟨some 12, some (11, true), .mv (.t 1)⟩, ⟨some 13, some (11, true), .bin 0 .eql (.t 12) (.c (.str (bs [97, 98])))⟩, ⟨some 14, none, .pick (.t 11) (.t 13) (.c (.bool false))⟩, ⟨some 15, none, .mv (.t 14)⟩, ⟨some 16, some (15, true), .mv (.t 2)⟩, ⟨some 17, some (15, true), .bin 0 .eql (.t 16) (.c (.int .i64 2))⟩, ⟨some 18, none, .pick (.t 15) (.t 17) (.c (.bool false))⟩, ⟨some 19, none, .mv (.t 18)⟩, ⟨some 20, some (19, true), .pcall 25 []⟩, ⟨some 21, none, .pick (.t 19) (.t 20) (.c (.bool false))⟩, ⟨some 22, none, .mv (.t 21)⟩, ⟨some 23, some (22, true), .pcall 37 []⟩, ⟨some 24, none, .pick (.t 22) (.t 23) (.c (.bool false))⟩, ⟨some 0, none, .mv (.t 24)⟩])
  (.ret)))
def R9 : List ARes := [.t 0]
theorem ok9 : FnOk Tryz.prog 9 [] pureFns A9 R9 25 := ⟨⟨Tryz.f9, _, Tryz.func9, rfl, rfl, by kernel_rfl, by kernel_rfl⟩, by kernel_rfl⟩
def A37 : ACode := .seq (.reg [⟨some 0, none, .mv (.c (.bool false))⟩])
  (.seq (.reg [⟨some 8, none, .pcall 32 [.c (.int .i64 5), .c (.int .i64 2)]⟩, ⟨some 7, none, .mv (.t 8)⟩, ⟨some 9, none, .extract (.t 7) 0⟩, ⟨some 10, none, .extract (.t 7) 1⟩, ⟨some 1, none, .mv (.t 9)⟩, ⟨some 2, none, .mv (.t 10)⟩])
  (.seq (.seq (.reg [⟨some 11, none, .mv (.t 2)⟩, ⟨some 12, none, .bin 0 .neq (.t 11) (.c (.int .i64 0))⟩, ⟨some 13, none, .mv (.t 12)⟩, ⟨some 14, some (13, false), .mv (.t 1)⟩, ⟨some 15, some (13, false), .len false (.t 14)⟩, ⟨some 16, some (13, false), .bin 0 .neq (.t 15) (.c (.int .i64 5))⟩, ⟨some 17, none, .pick (.t 13) (.c (.bool true)) (.t 16)⟩])
  (.cond (.t 17) (.seq (.reg [⟨some 0, none, .mv (.c (.bool false))⟩])
  (.ret)) (.skip)))
  (.seq (.reg [⟨some 19, none, .mv (.t 1)⟩, ⟨some 20, none, .buildSl 1 [.c (.int .i64 1), .c (.int .i64 2)]⟩, ⟨some 21, none, .pcall 59 [.t 19, .t 20]⟩, ⟨some 18, none, .mv (.t 21)⟩, ⟨some 22, none, .extract (.t 18) 0⟩, ⟨some 23, none, .extract (.t 18) 1⟩, ⟨some 3, none, .mv (.t 22)⟩, ⟨some 4, none, .mv (.t 23)⟩])
  (.seq (.reg [⟨some 25, none, .buildSl 1 [.c (.int .i64 1), .c (.int .i64 1), .c (.int .i64 3), .c (.int .i64 3), .c (.int .i64 4)]⟩, ⟨some 26, none, .buildSl 1 [.c (.int .i64 2), .c (.int .i64 3), .c (.int .i64 2), .c (.int .i64 3), .c (.int .i64 4)]⟩, ⟨some 27, none, .buildSl 1 [.c (.int .i64 4), .c (.int .i64 4), .c (.int .i64 4), .c (.int .i64 4), .c (.int .i64 4)]⟩, ⟨some 28, none, .buildSl 1 [.t 25, .t 26, .t 27]⟩, ⟨some 29, none, .build [.int .i64 0, .nilsl] [(0, 1, (.c (.int .i64 5))), (1, 1, (.t 28))]⟩, ⟨some 30, none, .buildSl 1 [.c (.int .i64 3), .c (.int .i64 4)]⟩, ⟨some 31, none, .pcall 89 [.t 29, .t 30]⟩, ⟨some 24, none, .mv (.t 31)⟩, ⟨some 32, none, .extract (.t 24) 0⟩, ⟨some 33, none, .extract (.t 24) 1⟩, ⟨some 5, none, .mv (.t 32)⟩, ⟨some 6, none, .mv (.t 33)⟩])
  (.seq (.reg [⟨some 34, none, .mv (.t 4)⟩, ⟨some 35, none, .bin 0 .eql (.t 34) (.c (.int .i64 0))⟩, ⟨some 36, none, .mv (.t 35)⟩, ⟨some 37, some (36, true), .mv (.t 6)⟩, ⟨some 38, some (36, true), .bin 0 .eql (.t 37) (.c (.int .i64 0))⟩, ⟨some 39, none, .pick (.t 36) (.t 38) (.c (.bool false))⟩, ⟨some 40, none, .mv (.t 39)⟩, ⟨some 41, some (40, true), .mv (.t 3)⟩, ⟨some 42, some (40, true), .bin 0 .eql (.t 41) (.c (.int .i64 2))⟩, ⟨some 43, none, .pick (.t 40) (.t 42) (.c (.bool false))⟩, ⟨some 44, none, .mv (.t 43)⟩, ⟨some 45, some (44, true), .mv (.t 5)⟩, ⟨some 46, some (44, true), .len false (.t 45)⟩, ⟨some 47, some (44, true), .bin 0 .eql (.t 46) (.c (.int .i64 3))⟩, ⟨some 48, none, .pick (.t 44) (.t 47) (.c (.bool false))⟩, ⟨some 0, none, .mv (.t 48)⟩])
  (.ret))))))
def R37 : List ARes := [.t 0]
theorem ok37 : FnOk Tryz.prog 37 [] pureFns A37 R37 49 := ⟨⟨Tryz.f37, _, Tryz.func37, rfl, rfl, by kernel_rfl, by kernel_rfl⟩, by kernel_rfl⟩
end Go.Proofs.YtdcpkgedaflnmaaGreatDoor.Rp
