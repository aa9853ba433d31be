/-
  Functions of this seat's translation, compacted, each held against the loaded program by the kernel (names by an earlier seat's numbers). Printed by wip/tools/Gex.lean.
  Functions of this seat's translation, compacted, each held against the loaded program by the kernel (names by an earlier seat's numbers). Printed by wip/tools/Gex.lean.
  Functions of this seat's translation, compacted, each held against the loaded program by the kernel (names by an earlier seat's numbers). Printed by wip/tools/Gex.lean.
  Functions of this seat's translation, compacted, each held against the loaded program by the kernel (names by an earlier seat's numbers). Printed by wip/tools/Gex.lean.
-/
import Derived.Test.YtdcpkgedaflnmaaGreatDoorProg
import Derived.Test.YtdcpkgedaflnmaaGreatDoorFx2
import Derived.KernelRfl
namespace Go.Proofs.YtdcpkgedaflnmaaGreatDoor.Fo
open Go Fw
def pureFns : List Nat := [0,1,2,3,4,5,6,7,8,9,10,11,12,13,14,15,16,17,18,19,20,21,22,23,24,25,26,27,28,29,30,31,32,33,34,35,36,37,38,39,40,41,42,43,44,45,46,47,48,49,50,51,52,53,54,55,56,57,58,59,60,61,62,63,64,69,70,71,72,73,75,76,77,78,79,80,81,82,83,84,85,86,87,88,89,90,91,92,93,94,95,96,97,98,99,100,101,102,103,104,105,106,107,108,109,110,111,112,113,114,115,116,117,118,120,121,122,123,124,125,126,127,128,129,130,131,132,133,134,135,136,137,139,140,141,142,145,146,147,148,149,150,151,152,153,154,155,156,158,159,160,161,162,163,164,165,166,167,168,169,170,171,172,173,174,175,176,177,178,179,180,181,182,183,184,185,186,187,188,189,190,191,192,193,194,195,196,197,198,199,200,201,202,203,204,205,206]
def A19 : ACode := .seq (.reg [⟨some 1, none, .boxi (.t 0)⟩, ⟨some 2, none, .mv (.c (.int .i64 0))⟩])
  (.seq (.reg [⟨some 4, none, .faddr false 1 0 (.t 1)⟩, ⟨some 5, none, .load false 1 (.t 4)⟩, ⟨some 6, none, .pcall 117 [.t 5]⟩, ⟨some 3, none, .mv (.t 6)⟩])
  (.seq (.seq (.reg [⟨some 7, none, .mv (.t 3)⟩, ⟨some 8, none, .bin 0 .eql (.t 7) (.c (.int .i64 0))⟩, ⟨some 9, none, .mv (.t 8)⟩, ⟨some 10, some (9, true), .faddr false 1 1 (.t 1)⟩, ⟨some 11, some (9, true), .load false 1 (.t 10)⟩, ⟨some 12, some (9, true), .len true (.t 11)⟩, ⟨some 13, some (9, true), .faddr false 1 0 (.t 1)⟩, ⟨some 14, some (9, true), .load false 1 (.t 13)⟩, ⟨some 15, some (9, true), .len false (.t 14)⟩, ⟨some 16, some (9, true), .bin 0 .sub (.t 15) (.c (.int .i64 1))⟩, ⟨some 17, some (9, true), .bin 0 .neq (.t 12) (.t 16)⟩, ⟨some 18, some (9, true), .mv (.t 17)⟩, ⟨some 19, some (18, false), .faddr false 1 1 (.t 1)⟩, ⟨some 20, some (18, false), .load false 1 (.t 19)⟩, ⟨some 21, some (18, false), .pcall 118 [.t 20, .c (.str (bs [109, 118]))]⟩, ⟨some 22, some (18, false), .bin 0 .neq (.t 21) (.c (.str (bs [])))⟩, ⟨some 23, some (9, true), .pick (.t 18) (.c (.bool true)) (.t 22)⟩, ⟨some 24, none, .pick (.t 9) (.t 23) (.c (.bool false))⟩])
  (.cond (.t 24) (.seq (.reg [⟨some 2, none, .mv (.c (.int .i64 9))⟩])
  (.ret)) (.skip)))
  (.seq (.reg [⟨some 25, none, .mv (.t 3)⟩, ⟨some 2, none, .mv (.t 25)⟩])
  (.ret))))
def R19 : List ARes := [.t 2]
theorem ok19 : FnOk Tryz.prog 64 [] pureFns A19 R19 26 := ⟨⟨Tryz.f64, _, Tryz.func64, rfl, rfl, by kernel_rfl, by kernel_rfl⟩, by kernel_rfl⟩
def A23 : ACode := .seq (.reg [⟨some 1, none, .boxi (.t 0)⟩, ⟨some 2, none, .mv (.c (.nilsl))⟩, ⟨some 3, none, .mv (.c (.int .i64 0))⟩])
  (.seq (.seq (.reg [⟨some 6, none, .load true 2 (.t 1)⟩, ⟨some 7, none, .pcall 64 [.t 6]⟩, ⟨some 4, none, .mv (.t 7)⟩])
  (.seq (.reg [⟨some 8, none, .mv (.t 4)⟩, ⟨some 9, none, .bin 0 .neq (.t 8) (.c (.int .i64 0))⟩])
  (.cond (.t 9) (.seq (.reg [⟨some 10, none, .mv (.t 4)⟩, ⟨some 2, none, .mv (.c (.nilsl))⟩, ⟨some 3, none, .mv (.t 10)⟩])
  (.ret)) (.skip))))
  (.seq (.reg [⟨some 5, none, .alloc [.nilsl]⟩])
  (.seq (.reg [⟨some 11, none, .faddr false 1 0 (.t 1)⟩, ⟨some 12, none, .load false 1 (.t 11)⟩, ⟨some 13, none, .mkfn (.func 68) [] [.t 1, .t 5]⟩, ⟨some 14, none, .hcall 67 [.t 12, .t 13]⟩])
  (.seq (.seq (.reg [⟨some 15, none, .load false 1 (.t 5)⟩, ⟨some 16, none, .bin 2 .eql (.t 15) (.c (.nilsl))⟩])
  (.cond (.t 16) (.seq (.reg [⟨some 2, none, .mv (.c (.nilsl))⟩, ⟨some 3, none, .mv (.c (.int .i64 14))⟩])
  (.ret)) (.skip)))
  (.seq (.reg [⟨some 17, none, .load false 1 (.t 5)⟩, ⟨some 2, none, .mv (.t 17)⟩, ⟨some 3, none, .mv (.c (.int .i64 0))⟩])
  (.ret))))))
def R23 : List ARes := [.t 2, .t 3]
theorem ok23 : FnOk Tryz.prog 27 [] pureFns A23 R23 18 := ⟨⟨Tryz.f27, _, Tryz.func27, rfl, rfl, by kernel_rfl, by kernel_rfl⟩, by kernel_rfl⟩
def A45 : ACode := .seq (.reg [⟨some 2, none, .mv (.c (.nilptr))⟩])
  (.seq (.reg [⟨some 8, none, .mem .mkmap []⟩, ⟨some 9, none, .build [.int .i64 0, .int .i64 0, .int .i64 0, .int .i64 0, .int .i64 0, .int .i64 0, .int .i64 0, .int .i64 0, .int .i64 0, .int .i64 0, .int .i64 0, .int .i64 0, .int .i64 0, .int .i64 0, .int .i64 0, .int .i64 0, .int .i64 0, .int .i64 0, .int .i64 0, .int .i64 0, .int .i64 0, .nilmp] [(21, 1, (.t 8))]⟩, ⟨some 10, none, .boxm (.t 9)⟩, ⟨some 3, none, .mv (.t 10)⟩])
  (.seq (.reg [⟨some 4, none, .mv (.c (.int .i64 0))⟩])
  (.seq (.seq (.reg [⟨some 11, none, .mv (.t 0)⟩, ⟨some 12, none, .len false (.t 11)⟩, ⟨some 13, none, .mv (.c (.int .i64 0))⟩])
  (.block 0 (.loop (.seq (.reg [⟨some 14, none, .bin 0 .lss (.t 13) (.t 12)⟩])
  (.seq (.cond (.t 14) (.skip) (.exit 0))
  (.seq (.block 1 (.seq (.reg [⟨some 15, none, .mv (.t 13)⟩, ⟨some 16, none, .iaddrS 1 (.t 11) (.t 13)⟩, ⟨some 17, none, .load false 1 (.t 16)⟩, ⟨some 5, none, .mv (.t 15)⟩, ⟨some 6, none, .mv (.t 17)⟩])
  (.seq (.reg [⟨some 18, none, .mv (.t 4)⟩, ⟨some 19, none, .mv (.t 6)⟩, ⟨some 20, none, .bin 0 .add (.t 18) (.t 19)⟩, ⟨some 7, none, .mv (.t 20)⟩])
  (.seq (.seq (.reg [⟨some 21, none, .mv (.t 5)⟩, ⟨some 22, none, .bin 0 .rem (.t 21) (.c (.int .i64 2))⟩, ⟨some 23, none, .bin 0 .eql (.t 22) (.c (.int .i64 1))⟩])
  (.cond (.t 23) (.reg [⟨some 24, none, .mv (.t 4)⟩, ⟨some 25, none, .mv (.t 6)⟩, ⟨some 26, none, .bin 0 .sub (.t 24) (.t 25)⟩, ⟨some 7, none, .mv (.t 26)⟩]) (.skip)))
  (.seq (.reg [⟨some 27, none, .mv (.t 3)⟩, ⟨some 28, none, .mv (.t 5)⟩, ⟨some 29, none, .mv (.t 4)⟩, ⟨some 30, none, .mv (.t 7)⟩, ⟨some 31, none, .min (.t 29) (.t 30)⟩, ⟨some 32, none, .mv (.t 4)⟩, ⟨some 33, none, .mv (.t 7)⟩, ⟨some 34, none, .max (.t 32) (.t 33)⟩, ⟨some 35, none, .build [.int .i64 0, .int .i64 0] [(0, 1, (.t 31)), (1, 1, (.t 34))]⟩, ⟨some 36, none, .nilchk (.t 27)⟩, ⟨some 37, none, .faddr true 14 0 (.t 36)⟩, ⟨some 38, none, .iaddrA 7 true 2 (.t 37) (.t 28)⟩, ⟨none, none, .store 2 (.t 38) (.t 35)⟩])
  (.seq (.reg [⟨some 39, none, .mv (.t 3)⟩, ⟨some 40, none, .mv (.t 5)⟩, ⟨some 41, none, .mv (.t 7)⟩, ⟨some 42, none, .mv (.t 7)⟩, ⟨some 43, none, .nilchk (.t 39)⟩, ⟨some 44, none, .faddr true 7 14 (.t 43)⟩, ⟨some 45, none, .iaddrA 7 false 1 (.t 44) (.t 40)⟩, ⟨none, none, .store 1 (.t 45) (.t 41)⟩, ⟨some 4, none, .mv (.t 42)⟩])
  (.seq (.reg [⟨some 46, none, .mv (.t 5)⟩, ⟨some 47, none, .bin 0 .add (.t 46) (.c (.int .i64 1))⟩, ⟨some 48, none, .mv (.t 0)⟩, ⟨some 49, none, .len false (.t 48)⟩, ⟨some 50, none, .bin 0 .lss (.t 47) (.t 49)⟩])
  (.cond (.t 50) (.regd [⟨some 51, none, .mv (.t 3)⟩, ⟨some 52, none, .nilchk (.t 51)⟩, ⟨some 53, none, .faddr false 1 21 (.t 52)⟩, ⟨some 54, none, .load false 1 (.t 53)⟩, ⟨some 55, none, .mv (.t 7)⟩, ⟨some 56, none, .mv (.t 5)⟩, ⟨some 57, none, .bin 0 .rem (.t 56) (.c (.int .i64 2))⟩, ⟨some 58, none, .build [.int .i64 0, .int .i64 0] [(0, 1, (.t 55)), (1, 1, (.t 57))]⟩, ⟨some 59, none, .mv (.t 3)⟩, ⟨some 60, none, .nilchk (.t 59)⟩, ⟨some 61, none, .faddr false 1 21 (.t 60)⟩, ⟨some 62, none, .load false 1 (.t 61)⟩, ⟨some 63, none, .mv (.t 7)⟩, ⟨some 64, none, .mv (.t 5)⟩, ⟨some 65, none, .bin 0 .rem (.t 64) (.c (.int .i64 2))⟩, ⟨some 66, none, .build [.int .i64 0, .int .i64 0] [(0, 1, (.t 63)), (1, 1, (.t 65))]⟩, ⟨some 67, none, .mem (.look 12 false (.nilsl)) [.t 62, .t 66]⟩, ⟨some 68, none, .mv (.t 5)⟩, ⟨some 69, none, .buildSl 1 [.t 68]⟩, ⟨some 70, none, .append 1 (.t 67) (.t 69)⟩, ⟨none, none, .mem (.mupd 12) [.t 54, .t 58, .t 70]⟩]) (.skip)))))))))
  (.reg [⟨some 71, none, .bin 0 .add (.t 13) (.c (.int .i64 1))⟩, ⟨some 13, none, .mv (.t 71)⟩])))))))
  (.seq (.reg [⟨some 72, none, .mv (.t 3)⟩, ⟨some 2, none, .mv (.t 72)⟩])
  (.ret)))))
def R45 : List ARes := [.t 2]
theorem ok45 : FnOk Tryz.prog 65 [10] pureFns A45 R45 73 := ⟨⟨Tryz.f65, _, Tryz.func65, rfl, rfl, by kernel_rfl, by kernel_rfl⟩, by kernel_rfl⟩
def A48 : ACode := .seq (.reg [⟨some 2, none, .mv (.c (.int .i64 0))⟩])
  (.seq (.block 0 (.seq (.reg [⟨some 7, none, .mv (.t 0)⟩, ⟨some 8, none, .len false (.t 7)⟩, ⟨some 9, none, .bin 0 .eql (.t 8) (.c (.int .i64 0))⟩, ⟨some 6, none, .mv (.t 9)⟩])
  (.cond (.t 6) (.seq (.reg [⟨some 2, none, .mv (.c (.int .i64 1))⟩])
  (.ret)) (.seq (.reg [⟨some 11, none, .mv (.t 0)⟩, ⟨some 12, none, .len false (.t 11)⟩, ⟨some 13, none, .bin 0 .gtr (.t 12) (.c (.int .i64 7))⟩, ⟨some 10, none, .mv (.t 13)⟩])
  (.cond (.t 10) (.seq (.reg [⟨some 2, none, .mv (.c (.int .i64 2))⟩])
  (.ret)) (.skip))))))
  (.seq (.reg [⟨some 3, none, .mv (.c (.int .i64 0))⟩])
  (.seq (.seq (.reg [⟨some 14, none, .mv (.t 0)⟩, ⟨some 15, none, .len false (.t 14)⟩, ⟨some 16, none, .mv (.c (.int .i64 0))⟩])
  (.block 1 (.loop (.seq (.reg [⟨some 17, none, .bin 0 .lss (.t 16) (.t 15)⟩])
  (.seq (.cond (.t 17) (.skip) (.exit 1))
  (.seq (.block 2 (.seq (.reg [⟨some 18, none, .iaddrS 1 (.t 14) (.t 16)⟩, ⟨some 19, none, .load false 1 (.t 18)⟩, ⟨some 5, none, .mv (.t 19)⟩])
  (.seq (.seq (.reg [⟨some 20, none, .mv (.t 5)⟩, ⟨some 21, none, .pcall 71 [.c (.int .i64 1), .t 20, .c (.int .i64 350)]⟩, ⟨some 22, none, .un .not (.t 21)⟩])
  (.cond (.t 22) (.seq (.reg [⟨some 2, none, .mv (.c (.int .i64 3))⟩])
  (.ret)) (.skip)))
  (.reg [⟨some 23, none, .mv (.t 3)⟩, ⟨some 24, none, .mv (.t 5)⟩, ⟨some 25, none, .bin 0 .add (.t 23) (.t 24)⟩, ⟨some 3, none, .mv (.t 25)⟩]))))
  (.reg [⟨some 26, none, .bin 0 .add (.t 16) (.c (.int .i64 1))⟩, ⟨some 16, none, .mv (.t 26)⟩])))))))
  (.seq (.seq (.reg [⟨some 27, none, .mv (.t 3)⟩, ⟨some 28, none, .bin 0 .gtr (.t 27) (.c (.int .i64 350))⟩])
  (.cond (.t 28) (.seq (.reg [⟨some 2, none, .mv (.c (.int .i64 16))⟩])
  (.ret)) (.skip)))
  (.seq (.reg [⟨some 2, none, .mv (.c (.int .i64 0))⟩])
  (.ret))))))
def R48 : List ARes := [.t 2]
theorem ok48 : FnOk Tryz.prog 117 [] pureFns A48 R48 29 := ⟨⟨Tryz.f117, _, Tryz.func117, rfl, rfl, by kernel_rfl, by kernel_rfl⟩, by kernel_rfl⟩
def A49 : ACode := .seq (.reg [⟨some 4, none, .mv (.c (.str (bs [])))⟩])
  (.seq (.seq (.reg [⟨some 7, none, .mv (.t 0)⟩, ⟨some 8, none, .bin 0 .eql (.t 7) (.c (.str (bs [])))⟩, ⟨some 9, none, .mv (.t 8)⟩, ⟨some 10, some (9, false), .mv (.t 1)⟩, ⟨some 11, some (9, false), .bin 0 .eql (.t 10) (.c (.str (bs [])))⟩, ⟨some 12, none, .pick (.t 9) (.c (.bool true)) (.t 11)⟩])
  (.cond (.t 12) (.seq (.reg [⟨some 13, none, .mv (.t 0)⟩, ⟨some 4, none, .mv (.t 13)⟩])
  (.ret)) (.skip)))
  (.seq (.seq (.reg [⟨some 14, none, .mv (.t 1)⟩, ⟨some 15, none, .len true (.t 14)⟩, ⟨some 16, none, .bin 0 .eql (.t 15) (.c (.int .i64 1))⟩, ⟨some 17, none, .mv (.t 16)⟩, ⟨some 18, some (17, true), .mv (.t 1)⟩, ⟨some 19, some (17, true), .mem .sidx [.t 18, .c (.int .i64 0)]⟩, ⟨some 20, some (17, true), .bin 0 .lss (.t 19) (.c (.int .u8 128))⟩, ⟨some 21, none, .pick (.t 17) (.t 20) (.c (.bool false))⟩])
  (.cond (.t 21) (.seq (.regd [⟨some 22, none, .mv (.t 0)⟩, ⟨some 23, none, .mv (.t 1)⟩, ⟨some 24, none, .mem .sidx [.t 23, .c (.int .i64 0)]⟩, ⟨some 25, none, .pcall 141 [.t 22, .t 24]⟩, ⟨some 26, none, .mv (.t 1)⟩, ⟨some 27, none, .mem .sidx [.t 26, .c (.int .i64 0)]⟩, ⟨some 28, none, .pcall 140 [.t 25, .t 27]⟩, ⟨some 4, none, .mv (.t 28)⟩])
  (.ret)) (.skip)))
  (.seq (.seq (.reg [⟨some 30, none, .mv (.t 1)⟩, ⟨some 31, none, .pcall 142 [.t 30]⟩, ⟨some 29, none, .mv (.t 31)⟩, ⟨some 32, none, .extract (.t 29) 0⟩, ⟨some 33, none, .extract (.t 29) 1⟩, ⟨some 5, none, .alloc (List.replicate 256 (.bool false))⟩, ⟨none, none, .store 256 (.t 5) (.t 32)⟩, ⟨some 6, none, .mv (.t 33)⟩])
  (.seq (.reg [⟨some 34, none, .mv (.t 6)⟩])
  (.cond (.t 34) (.seq (.reg [⟨some 35, none, .mv (.t 0)⟩, ⟨some 36, none, .hcall 144 [.t 35, .t 5]⟩, ⟨some 37, none, .hcall 143 [.t 36, .t 5]⟩, ⟨some 4, none, .mv (.t 37)⟩])
  (.ret)) (.skip))))
  (.seq (.reg [⟨some 38, none, .mv (.t 0)⟩, ⟨some 39, none, .mv (.t 1)⟩, ⟨some 40, none, .pcall 146 [.t 38, .t 39]⟩, ⟨some 41, none, .mv (.t 1)⟩, ⟨some 42, none, .pcall 145 [.t 40, .t 41]⟩, ⟨some 4, none, .mv (.t 42)⟩])
  (.ret)))))
def R49 : List ARes := [.t 4]
theorem ok49 : FnOk Tryz.prog 118 [] pureFns A49 R49 43 := ⟨⟨Tryz.f118, _, Tryz.func118, rfl, rfl, by kernel_rfl, by kernel_rfl⟩, by kernel_rfl⟩
def A51 : ACode := .seq (.reg [⟨some 6, none, .mv (.c (.bool false))⟩])
  (.seq (.reg [⟨some 7, none, .mv (.t 0)⟩, ⟨some 8, none, .mv (.t 1)⟩, ⟨some 9, none, .bin 0 .leq (.t 7) (.t 8)⟩, ⟨some 10, none, .mv (.t 9)⟩, ⟨some 11, some (10, true), .mv (.t 1)⟩, ⟨some 12, some (10, true), .mv (.t 2)⟩, ⟨some 13, some (10, true), .bin 0 .leq (.t 11) (.t 12)⟩, ⟨some 14, none, .pick (.t 10) (.t 13) (.c (.bool false))⟩, ⟨some 6, none, .mv (.t 14)⟩])
  (.ret))
def R51 : List ARes := [.t 6]
theorem ok51 : FnOk Tryz.prog 71 [] pureFns A51 R51 15 := ⟨⟨Tryz.f71, _, Tryz.func71, rfl, rfl, by kernel_rfl, by kernel_rfl⟩, by kernel_rfl⟩
def A52 : ACode := .seq (.reg [⟨some 4, none, .mv (.c (.bool false))⟩])
  (.seq (.reg [⟨some 5, none, .mv (.t 0)⟩, ⟨some 6, none, .mv (.t 1)⟩, ⟨some 7, none, .pcall 115 [.t 5, .t 6]⟩, ⟨some 8, none, .bin 0 .geq (.t 7) (.c (.int .i64 0))⟩, ⟨some 4, none, .mv (.t 8)⟩])
  (.ret))
def R52 : List ARes := [.t 4]
theorem ok52 : FnOk Tryz.prog 72 [] pureFns A52 R52 9 := ⟨⟨Tryz.f72, _, Tryz.func72, rfl, rfl, by kernel_rfl, by kernel_rfl⟩, by kernel_rfl⟩
def A54 : ACode := .seq (.reg [⟨some 4, none, .boxi (.t 1)⟩, ⟨some 6, none, .mv (.c (.bool false))⟩])
  (.scope (.seq (.reg [⟨some 7, none, .mv (.c (.bool true))⟩])
  (.seq (.label 0)
  (.seq (.seq (.reg [⟨some 12, none, .mv (.t 2)⟩, ⟨some 13, none, .bin 0 .sub (.t 12) (.c (.int .i64 1))⟩, ⟨some 14, none, .mv (.c (.int .i64 0))⟩])
  (.block 0 (.loop (.seq (.reg [⟨some 15, none, .bin 0 .lss (.t 14) (.t 13)⟩])
  (.seq (.cond (.t 15) (.skip) (.exit 0))
  (.seq (.block 1 (.seq (.reg [⟨some 16, none, .mv (.t 14)⟩, ⟨some 8, none, .mv (.t 16)⟩])
  (.seq (.seq (.reg [⟨some 17, none, .mv (.t 2)⟩, ⟨some 18, none, .mv (.c (.int .i64 0))⟩])
  (.block 2 (.loop (.seq (.reg [⟨some 19, none, .bin 0 .lss (.t 18) (.t 17)⟩])
  (.seq (.cond (.t 19) (.skip) (.exit 2))
  (.seq (.block 3 (.seq (.reg [⟨some 20, none, .mv (.t 18)⟩, ⟨some 9, none, .mv (.t 20)⟩])
  (.seq (.regd [⟨some 21, none, .mv (.t 0)⟩, ⟨some 22, none, .mv (.t 9)⟩, ⟨some 23, none, .nilchk (.t 21)⟩, ⟨some 24, none, .faddr true 14 0 (.t 23)⟩, ⟨some 25, none, .iaddrA 7 true 2 (.t 24) (.t 22)⟩, ⟨some 26, none, .faddr false 1 0 (.t 25)⟩, ⟨some 27, none, .load false 1 (.t 26)⟩, ⟨some 28, none, .mv (.t 0)⟩, ⟨some 29, none, .mv (.t 8)⟩, ⟨some 30, none, .nilchk (.t 28)⟩, ⟨some 31, none, .faddr true 7 14 (.t 30)⟩, ⟨some 32, none, .iaddrA 7 false 1 (.t 31) (.t 29)⟩, ⟨some 33, none, .load false 1 (.t 32)⟩, ⟨some 34, none, .bin 0 .lss (.t 27) (.t 33)⟩, ⟨some 35, none, .mv (.t 34)⟩, ⟨some 36, some (35, true), .mv (.t 0)⟩, ⟨some 37, some (35, true), .mv (.t 8)⟩, ⟨some 38, some (35, true), .nilchk (.t 36)⟩, ⟨some 39, some (35, true), .faddr true 7 14 (.t 38)⟩, ⟨some 40, some (35, true), .iaddrA 7 false 1 (.t 39) (.t 37)⟩, ⟨some 41, some (35, true), .load false 1 (.t 40)⟩, ⟨some 42, some (35, true), .mv (.t 0)⟩, ⟨some 43, some (35, true), .mv (.t 9)⟩, ⟨some 44, some (35, true), .nilchk (.t 42)⟩, ⟨some 45, some (35, true), .faddr true 14 0 (.t 44)⟩, ⟨some 46, some (35, true), .iaddrA 7 true 2 (.t 45) (.t 43)⟩, ⟨some 47, some (35, true), .faddr false 1 1 (.t 46)⟩, ⟨some 48, some (35, true), .load false 1 (.t 47)⟩, ⟨some 49, some (35, true), .bin 0 .lss (.t 41) (.t 48)⟩, ⟨some 50, none, .pick (.t 35) (.t 49) (.c (.bool false))⟩, ⟨some 51, none, .mv (.t 50)⟩, ⟨some 52, some (51, true), .load true 7 (.t 4)⟩, ⟨some 53, some (51, true), .mv (.t 9)⟩, ⟨some 54, some (51, true), .mv (.t 8)⟩, ⟨some 55, some (51, true), .pcall 124 [.t 52, .t 53, .t 54]⟩, ⟨some 56, none, .pick (.t 51) (.t 55) (.c (.bool false))⟩])
  (.cond (.t 56) (.seq (.reg [⟨some 7, none, .mv (.c (.bool false))⟩])
  (.exit 0)) (.skip)))))
  (.reg [⟨some 57, none, .bin 0 .add (.t 18) (.c (.int .i64 1))⟩, ⟨some 18, none, .mv (.t 57)⟩])))))))
  (.seq (.regd [⟨some 58, none, .mv (.t 0)⟩, ⟨some 59, none, .nilchk (.t 58)⟩, ⟨some 60, none, .faddr false 1 21 (.t 59)⟩, ⟨some 61, none, .load false 1 (.t 60)⟩, ⟨some 62, none, .mv (.t 0)⟩, ⟨some 63, none, .mv (.t 8)⟩, ⟨some 64, none, .nilchk (.t 62)⟩, ⟨some 65, none, .faddr true 7 14 (.t 64)⟩, ⟨some 66, none, .iaddrA 7 false 1 (.t 65) (.t 63)⟩, ⟨some 67, none, .load false 1 (.t 66)⟩, ⟨some 68, none, .mv (.t 8)⟩, ⟨some 69, none, .bin 0 .rem (.t 68) (.c (.int .i64 2))⟩, ⟨some 70, none, .build [.int .i64 0, .int .i64 0] [(0, 1, (.t 67)), (1, 1, (.t 69))]⟩, ⟨some 71, none, .mem (.look 12 false (.nilsl)) [.t 61, .t 70]⟩, ⟨some 72, none, .len false (.t 71)⟩, ⟨some 73, none, .mv (.c (.int .i64 0))⟩])
  (.block 4 (.loop (.seq (.reg [⟨some 74, none, .bin 0 .lss (.t 73) (.t 72)⟩])
  (.seq (.cond (.t 74) (.skip) (.exit 4))
  (.seq (.block 5 (.seq (.reg [⟨some 75, none, .iaddrS 1 (.t 71) (.t 73)⟩, ⟨some 76, none, .load false 1 (.t 75)⟩, ⟨some 11, none, .mv (.t 76)⟩])
  (.seq (.regd [⟨some 77, none, .mv (.t 11)⟩, ⟨some 78, none, .mv (.t 8)⟩, ⟨some 79, none, .bin 0 .neq (.t 77) (.t 78)⟩, ⟨some 80, none, .mv (.t 79)⟩, ⟨some 81, some (80, true), .load true 7 (.t 4)⟩, ⟨some 82, some (80, true), .mv (.t 11)⟩, ⟨some 83, some (80, true), .mv (.t 8)⟩, ⟨some 84, some (80, true), .pcall 124 [.t 81, .t 82, .t 83]⟩, ⟨some 85, some (80, true), .load true 7 (.t 4)⟩, ⟨some 86, some (80, true), .mv (.t 11)⟩, ⟨some 87, some (80, true), .bin 0 .add (.t 86) (.c (.int .i64 1))⟩, ⟨some 88, some (80, true), .mv (.t 8)⟩, ⟨some 89, some (80, true), .pcall 124 [.t 85, .t 87, .t 88]⟩, ⟨some 90, some (80, true), .bin 1 .neq (.t 84) (.t 89)⟩, ⟨some 91, none, .pick (.t 80) (.t 90) (.c (.bool false))⟩])
  (.cond (.t 91) (.seq (.reg [⟨some 7, none, .mv (.c (.bool false))⟩])
  (.exit 0)) (.skip)))))
  (.reg [⟨some 92, none, .bin 0 .add (.t 73) (.c (.int .i64 1))⟩, ⟨some 73, none, .mv (.t 92)⟩]))))))))))
  (.reg [⟨some 93, none, .bin 0 .add (.t 14) (.c (.int .i64 1))⟩, ⟨some 14, none, .mv (.t 93)⟩])))))))
  (.seq (.reg [⟨some 94, none, .mv (.t 7)⟩, ⟨some 6, none, .mv (.t 94)⟩])
  (.ret))))))
def R54 : List ARes := [.t 6]
theorem ok54 : FnOk Tryz.prog 74 [] pureFns A54 R54 95 := ⟨⟨Tryz.f74, _, Tryz.func74, rfl, rfl, by kernel_rfl, by kernel_rfl⟩, by kernel_rfl⟩
def A59 : ACode := .seq (.reg [⟨some 2, none, .boxi (.t 0)⟩, ⟨some 3, none, .boxi (.t 1)⟩])
  (.seq (.reg [⟨some 7, none, .load false 1 (.t 2)⟩, ⟨some 8, none, .hcall 65 [.t 7]⟩, ⟨some 4, none, .alloc [.nilptr]⟩, ⟨none, none, .store 1 (.t 4) (.t 8)⟩])
  (.seq (.reg [⟨some 5, none, .alloc [.int .i64 0, .int .i64 0, .int .i64 0, .int .i64 0, .int .i64 0, .int .i64 0, .int .i64 0]⟩])
  (.seq (.reg [⟨some 6, none, .alloc [.nilfn]⟩])
  (.seq (.reg [⟨some 9, none, .mkfn (.func 119) [] [.t 2, .t 4, .t 5, .t 3, .t 6]⟩, ⟨none, none, .store 1 (.t 6) (.t 9)⟩])
  (.reg [⟨some 10, none, .load false 1 (.t 6)⟩, ⟨some 11, none, .callv (.t 10) [.c (.nilsl)]⟩])))))
def R59 : List ARes := []
theorem ok59 : FnOk Tryz.prog 67 [] pureFns A59 R59 12 := ⟨⟨Tryz.f67, _, Tryz.func67, rfl, rfl, by kernel_rfl, by kernel_rfl⟩, by kernel_rfl⟩
def A60 : ACode := .seq (.reg [⟨some 6, none, .mv (.c (.bool false))⟩])
  (.seq (.seq (.reg [⟨some 7, none, .mv (.t 1)⟩, ⟨some 8, none, .faddr false 1 1 (.t 2)⟩, ⟨some 9, none, .load false 1 (.t 8)⟩, ⟨some 10, none, .bin 0 .eql (.t 7) (.t 9)⟩])
  (.cond (.t 10) (.reg [⟨some 11, none, .mv (.t 0)⟩, ⟨some 12, none, .pcall 69 [.t 11]⟩, ⟨none, none, .store 1 (.t 3) (.t 12)⟩]) (.skip)))
  (.seq (.reg [⟨some 13, none, .load false 1 (.t 3)⟩, ⟨some 14, none, .bin 2 .eql (.t 13) (.c (.nilsl))⟩, ⟨some 6, none, .mv (.t 14)⟩])
  (.ret)))
def R60 : List ARes := [.t 6]
theorem ok60 : FnOk Tryz.prog 68 [] pureFns A60 R60 15 := ⟨⟨Tryz.f68, _, Tryz.func68, rfl, rfl, by kernel_rfl, by kernel_rfl⟩, by kernel_rfl⟩
def A61 : ACode := .seq (.reg [⟨some 2, none, .mv (.c (.nilsl))⟩])
  (.seq (.seq (.reg [⟨some 3, none, .mv (.t 0)⟩, ⟨some 4, none, .bin 2 .eql (.t 3) (.c (.nilsl))⟩])
  (.cond (.t 4) (.seq (.reg [⟨some 2, none, .mv (.c (.nilsl))⟩])
  (.ret)) (.skip)))
  (.seq (.reg [⟨some 5, none, .buildSl 1 []⟩, ⟨some 6, none, .mv (.t 0)⟩, ⟨some 7, none, .append 1 (.t 5) (.t 6)⟩, ⟨some 2, none, .mv (.t 7)⟩])
  (.ret)))
def R61 : List ARes := [.t 2]
theorem ok61 : FnOk Tryz.prog 69 [] pureFns A61 R61 8 := ⟨⟨Tryz.f69, _, Tryz.func69, rfl, rfl, by kernel_rfl, by kernel_rfl⟩, by kernel_rfl⟩
def A66 : ACode := .seq (.reg [⟨some 2, none, .boxi (.t 0)⟩, ⟨some 4, none, .mv (.c (.bool false))⟩])
  (.seq (.reg [⟨some 6, none, .faddr false 1 0 (.t 2)⟩, ⟨some 7, none, .load false 1 (.t 6)⟩, ⟨some 5, none, .mv (.t 7)⟩])
  (.seq (.block 0 (.seq (.reg [⟨some 9, none, .mv (.t 5)⟩, ⟨some 10, none, .len false (.t 9)⟩, ⟨some 11, none, .bin 0 .eql (.t 10) (.c (.int .i64 1))⟩, ⟨some 8, none, .mv (.t 11)⟩])
  (.cond (.t 8) (.seq (.reg [⟨some 4, none, .mv (.c (.bool false))⟩])
  (.ret)) (.seq (.seq (.regd [⟨some 13, none, .mv (.t 1)⟩, ⟨some 14, none, .bin 0 .gtr (.t 13) (.c (.int .i64 0))⟩, ⟨some 15, none, .mv (.t 14)⟩, ⟨some 16, some (15, true), .mv (.t 5)⟩, ⟨some 17, some (15, true), .mv (.t 1)⟩, ⟨some 18, some (15, true), .iaddrS 1 (.t 16) (.t 17)⟩, ⟨some 19, some (15, true), .load false 1 (.t 18)⟩, ⟨some 20, some (15, true), .mv (.t 5)⟩, ⟨some 21, some (15, true), .mv (.t 1)⟩, ⟨some 22, some (15, true), .bin 0 .sub (.t 21) (.c (.int .i64 1))⟩, ⟨some 23, some (15, true), .iaddrS 1 (.t 20) (.t 22)⟩, ⟨some 24, some (15, true), .load false 1 (.t 23)⟩, ⟨some 25, some (15, true), .bin 0 .gtr (.t 19) (.t 24)⟩, ⟨some 26, none, .pick (.t 15) (.t 25) (.c (.bool false))⟩, ⟨some 12, none, .mv (.t 26)⟩])
  (.cond (.t 12) (.skip) (.regd [⟨some 27, none, .mv (.t 1)⟩, ⟨some 28, none, .bin 0 .add (.t 27) (.c (.int .i64 1))⟩, ⟨some 29, none, .mv (.t 5)⟩, ⟨some 30, none, .len false (.t 29)⟩, ⟨some 31, none, .bin 0 .lss (.t 28) (.t 30)⟩, ⟨some 32, none, .mv (.t 31)⟩, ⟨some 33, some (32, true), .mv (.t 5)⟩, ⟨some 34, some (32, true), .mv (.t 1)⟩, ⟨some 35, some (32, true), .iaddrS 1 (.t 33) (.t 34)⟩, ⟨some 36, some (32, true), .load false 1 (.t 35)⟩, ⟨some 37, some (32, true), .mv (.t 5)⟩, ⟨some 38, some (32, true), .mv (.t 1)⟩, ⟨some 39, some (32, true), .bin 0 .add (.t 38) (.c (.int .i64 1))⟩, ⟨some 40, some (32, true), .iaddrS 1 (.t 37) (.t 39)⟩, ⟨some 41, some (32, true), .load false 1 (.t 40)⟩, ⟨some 42, some (32, true), .bin 0 .gtr (.t 36) (.t 41)⟩, ⟨some 43, none, .pick (.t 32) (.t 42) (.c (.bool false))⟩, ⟨some 12, none, .mv (.t 43)⟩])))
  (.cond (.t 12) (.seq (.reg [⟨some 4, none, .mv (.c (.bool false))⟩])
  (.ret)) (.skip))))))
  (.seq (.regd [⟨some 44, none, .mv (.t 1)⟩, ⟨some 45, none, .bin 0 .eql (.t 44) (.c (.int .i64 0))⟩, ⟨some 46, none, .mv (.t 45)⟩, ⟨some 47, some (46, false), .mv (.t 1)⟩, ⟨some 48, some (46, false), .bin 0 .add (.t 47) (.c (.int .i64 1))⟩, ⟨some 49, some (46, false), .mv (.t 5)⟩, ⟨some 50, some (46, false), .len false (.t 49)⟩, ⟨some 51, some (46, false), .bin 0 .eql (.t 48) (.t 50)⟩, ⟨some 52, none, .pick (.t 46) (.c (.bool true)) (.t 51)⟩, ⟨some 53, none, .mv (.t 52)⟩, ⟨some 54, some (53, false), .faddr false 1 1 (.t 2)⟩, ⟨some 55, some (53, false), .load false 1 (.t 54)⟩, ⟨some 56, some (53, false), .mv (.t 1)⟩, ⟨some 57, some (53, false), .bin 0 .sub (.t 56) (.c (.int .i64 1))⟩, ⟨some 58, some (53, false), .mem .sidx [.t 55, .t 57]⟩, ⟨some 59, some (53, false), .faddr false 1 1 (.t 2)⟩, ⟨some 60, some (53, false), .load false 1 (.t 59)⟩, ⟨some 61, some (53, false), .mv (.t 1)⟩, ⟨some 62, some (53, false), .mem .sidx [.t 60, .t 61]⟩, ⟨some 63, some (53, false), .bin 0 .neq (.t 58) (.t 62)⟩, ⟨some 64, none, .pick (.t 53) (.c (.bool true)) (.t 63)⟩, ⟨some 4, none, .mv (.t 64)⟩])
  (.ret))))
def R66 : List ARes := [.t 4]
theorem ok66 : FnOk Tryz.prog 147 [] pureFns A66 R66 65 := ⟨⟨Tryz.f147, _, Tryz.func147, rfl, rfl, by kernel_rfl, by kernel_rfl⟩, by kernel_rfl⟩
def A68 : ACode := .seq (.reg [⟨some 2, none, .mv (.c (.nilsl))⟩])
  (.seq (.reg [⟨some 3, none, .mv (.c (.int .i64 0))⟩])
  (.seq (.seq (.reg [⟨some 9, none, .mv (.t 0)⟩, ⟨some 10, none, .len false (.t 9)⟩, ⟨some 11, none, .mv (.c (.int .i64 0))⟩])
  (.block 0 (.loop (.seq (.reg [⟨some 12, none, .bin 0 .lss (.t 11) (.t 10)⟩])
  (.seq (.cond (.t 12) (.skip) (.exit 0))
  (.seq (.block 1 (.seq (.reg [⟨some 13, none, .iaddrS 1 (.t 9) (.t 11)⟩, ⟨some 14, none, .load false 1 (.t 13)⟩, ⟨some 5, none, .mv (.t 14)⟩])
  (.seq (.reg [⟨some 15, none, .mv (.t 3)⟩, ⟨some 16, none, .mv (.t 5)⟩, ⟨some 17, none, .len false (.t 16)⟩, ⟨some 18, none, .bin 0 .add (.t 15) (.t 17)⟩, ⟨some 3, none, .mv (.t 18)⟩])
  (.seq (.reg [⟨some 19, none, .mv (.t 3)⟩, ⟨some 20, none, .bin 0 .lss (.t 19) (.c (.int .i64 0))⟩])
  (.cond (.t 20) (.reg [⟨some 21, none, .mkif 9 (.c (.str (bs [108, 101, 110, 32, 111, 117, 116, 32, 111, 102, 32, 114, 97, 110, 103, 101])))⟩, ⟨none, none, .panic (.t 21)⟩]) (.skip))))))
  (.reg [⟨some 22, none, .bin 0 .add (.t 11) (.c (.int .i64 1))⟩, ⟨some 11, none, .mv (.t 22)⟩])))))))
  (.seq (.reg [⟨some 23, none, .mv (.t 3)⟩, ⟨some 24, none, .hcall 138 [.c (.nilsl), .t 23]⟩, ⟨some 6, none, .mv (.t 24)⟩])
  (.seq (.seq (.reg [⟨some 25, none, .mv (.t 0)⟩, ⟨some 26, none, .len false (.t 25)⟩, ⟨some 27, none, .mv (.c (.int .i64 0))⟩])
  (.block 2 (.loop (.seq (.reg [⟨some 28, none, .bin 0 .lss (.t 27) (.t 26)⟩])
  (.seq (.cond (.t 28) (.skip) (.exit 2))
  (.seq (.block 3 (.seq (.reg [⟨some 29, none, .iaddrS 1 (.t 25) (.t 27)⟩, ⟨some 30, none, .load false 1 (.t 29)⟩, ⟨some 8, none, .mv (.t 30)⟩])
  (.reg [⟨some 31, none, .mv (.t 6)⟩, ⟨some 32, none, .mv (.t 8)⟩, ⟨some 33, none, .append 1 (.t 31) (.t 32)⟩, ⟨some 6, none, .mv (.t 33)⟩])))
  (.reg [⟨some 34, none, .bin 0 .add (.t 27) (.c (.int .i64 1))⟩, ⟨some 27, none, .mv (.t 34)⟩])))))))
  (.seq (.reg [⟨some 35, none, .mv (.t 6)⟩, ⟨some 2, none, .mv (.t 35)⟩])
  (.ret))))))
def R68 : List ARes := [.t 2]
theorem ok68 : FnOk Tryz.prog 112 [] pureFns A68 R68 36 := ⟨⟨Tryz.f112, _, Tryz.func112, rfl, rfl, by kernel_rfl, by kernel_rfl⟩, by kernel_rfl⟩
def A77 : ACode := .seq (.reg [⟨some 2, none, .alloc (List.replicate 256 (.bool false))⟩, ⟨some 3, none, .mv (.c (.bool false))⟩])
  (.seq (.seq (.reg [⟨some 4, none, .mv (.c (.int .i64 0))⟩])
  (.block 0 (.loop (.seq (.seq (.reg [⟨some 6, none, .mv (.t 4)⟩, ⟨some 7, none, .mv (.t 0)⟩, ⟨some 8, none, .len true (.t 7)⟩, ⟨some 9, none, .bin 0 .lss (.t 6) (.t 8)⟩])
  (.cond (.t 9) (.skip) (.exit 0)))
  (.seq (.block 1 (.seq (.reg [⟨some 12, none, .mv (.t 0)⟩, ⟨some 13, none, .mv (.t 4)⟩, ⟨some 14, none, .mem .sidx [.t 12, .t 13]⟩, ⟨some 5, none, .mv (.t 14)⟩])
  (.seq (.seq (.reg [⟨some 15, none, .mv (.t 5)⟩, ⟨some 16, none, .bin 0 .geq (.t 15) (.c (.int .u8 128))⟩])
  (.cond (.t 16) (.seq (.reg [⟨some 17, none, .load true 256 (.t 2)⟩, ⟨none, none, .store 256 (.t 2) (.t 17)⟩, ⟨some 3, none, .mv (.c (.bool false))⟩])
  (.ret)) (.skip)))
  (.reg [⟨some 18, none, .mv (.t 5)⟩, ⟨some 19, none, .iaddrA 256 false 1 (.t 2) (.t 18)⟩, ⟨none, none, .store 1 (.t 19) (.c (.bool true))⟩]))))
  (.reg [⟨some 10, none, .mv (.t 4)⟩, ⟨some 11, none, .bin 0 .add (.t 10) (.c (.int .i64 1))⟩, ⟨some 4, none, .mv (.t 11)⟩]))))))
  (.seq (.reg [⟨some 20, none, .load true 256 (.t 2)⟩, ⟨none, none, .store 256 (.t 2) (.t 20)⟩, ⟨some 3, none, .mv (.c (.bool true))⟩])
  (.ret)))
def R77 : List ARes := [.cell true 256 2, .t 3]
theorem ok77 : FnOk Tryz.prog 142 [] pureFns A77 R77 21 := ⟨⟨Tryz.f142, _, Tryz.func142, rfl, rfl, by kernel_rfl, by kernel_rfl⟩, by kernel_rfl⟩
def A78 : ACode := .seq (.reg [⟨some 4, none, .mv (.c (.str (bs [])))⟩])
  (.seq (.block 0 (.loop (.seq (.seq (.reg [⟨some 5, none, .mv (.t 0)⟩, ⟨some 6, none, .len true (.t 5)⟩, ⟨some 7, none, .bin 0 .gtr (.t 6) (.c (.int .i64 0))⟩])
  (.cond (.t 7) (.skip) (.exit 0)))
  (.block 1 (.seq (.seq (.reg [⟨some 8, none, .mv (.t 1)⟩, ⟨some 9, none, .mv (.t 0)⟩, ⟨some 10, none, .mem .sidx [.t 9, .c (.int .i64 0)]⟩, ⟨some 11, none, .hcall 157 [.t 8, .t 10]⟩, ⟨some 12, none, .un .not (.t 11)⟩])
  (.cond (.t 12) (.exit 0) (.skip)))
  (.reg [⟨some 13, none, .mv (.t 0)⟩, ⟨some 14, none, .mem (.ssl true false) [.t 13, .c (.int .i64 1)]⟩, ⟨some 0, none, .mv (.t 14)⟩]))))))
  (.seq (.reg [⟨some 15, none, .mv (.t 0)⟩, ⟨some 4, none, .mv (.t 15)⟩])
  (.ret)))
def R78 : List ARes := [.t 4]
theorem ok78 : FnOk Tryz.prog 143 [] pureFns A78 R78 16 := ⟨⟨Tryz.f143, _, Tryz.func143, rfl, rfl, by kernel_rfl, by kernel_rfl⟩, by kernel_rfl⟩
def A79 : ACode := .seq (.reg [⟨some 4, none, .mv (.c (.str (bs [])))⟩])
  (.seq (.block 0 (.loop (.seq (.seq (.reg [⟨some 5, none, .mv (.t 0)⟩, ⟨some 6, none, .len true (.t 5)⟩, ⟨some 7, none, .bin 0 .gtr (.t 6) (.c (.int .i64 0))⟩])
  (.cond (.t 7) (.skip) (.exit 0)))
  (.block 1 (.seq (.seq (.reg [⟨some 8, none, .mv (.t 1)⟩, ⟨some 9, none, .mv (.t 0)⟩, ⟨some 10, none, .mv (.t 0)⟩, ⟨some 11, none, .len true (.t 10)⟩, ⟨some 12, none, .bin 0 .sub (.t 11) (.c (.int .i64 1))⟩, ⟨some 13, none, .mem .sidx [.t 9, .t 12]⟩, ⟨some 14, none, .hcall 157 [.t 8, .t 13]⟩, ⟨some 15, none, .un .not (.t 14)⟩])
  (.cond (.t 15) (.exit 0) (.skip)))
  (.reg [⟨some 16, none, .mv (.t 0)⟩, ⟨some 17, none, .mv (.t 0)⟩, ⟨some 18, none, .len true (.t 17)⟩, ⟨some 19, none, .bin 0 .sub (.t 18) (.c (.int .i64 1))⟩, ⟨some 20, none, .mem (.ssl false true) [.t 16, .t 19]⟩, ⟨some 0, none, .mv (.t 20)⟩]))))))
  (.seq (.reg [⟨some 21, none, .mv (.t 0)⟩, ⟨some 4, none, .mv (.t 21)⟩])
  (.ret)))
def R79 : List ARes := [.t 4]
theorem ok79 : FnOk Tryz.prog 144 [] pureFns A79 R79 22 := ⟨⟨Tryz.f144, _, Tryz.func144, rfl, rfl, by kernel_rfl, by kernel_rfl⟩, by kernel_rfl⟩
def A82 : ACode := .seq (.reg [⟨some 4, none, .mv (.c (.int .i64 0))⟩])
  (.seq (.seq (.reg [⟨some 6, none, .mv (.t 0)⟩, ⟨some 7, none, .len false (.t 6)⟩, ⟨some 8, none, .mv (.c (.int .i64 0))⟩])
  (.block 0 (.loop (.seq (.reg [⟨some 9, none, .bin 0 .lss (.t 8) (.t 7)⟩])
  (.seq (.cond (.t 9) (.skip) (.exit 0))
  (.seq (.block 1 (.seq (.reg [⟨some 10, none, .mv (.t 8)⟩, ⟨some 5, none, .mv (.t 10)⟩])
  (.seq (.reg [⟨some 11, none, .mv (.t 1)⟩, ⟨some 12, none, .mv (.t 0)⟩, ⟨some 13, none, .mv (.t 5)⟩, ⟨some 14, none, .iaddrS 1 (.t 12) (.t 13)⟩, ⟨some 15, none, .load false 1 (.t 14)⟩, ⟨some 16, none, .bin 0 .eql (.t 11) (.t 15)⟩])
  (.cond (.t 16) (.seq (.reg [⟨some 17, none, .mv (.t 5)⟩, ⟨some 4, none, .mv (.t 17)⟩])
  (.ret)) (.skip)))))
  (.reg [⟨some 18, none, .bin 0 .add (.t 8) (.c (.int .i64 1))⟩, ⟨some 8, none, .mv (.t 18)⟩])))))))
  (.seq (.reg [⟨some 4, none, .mv (.c (.int .i64 (-1)))⟩])
  (.ret)))
def R82 : List ARes := [.t 4]
theorem ok82 : FnOk Tryz.prog 115 [] pureFns A82 R82 19 := ⟨⟨Tryz.f115, _, Tryz.func115, rfl, rfl, by kernel_rfl, by kernel_rfl⟩, by kernel_rfl⟩
def A85 : ACode := .seq (.reg [⟨some 3, none, .boxi (.t 0)⟩, ⟨some 6, none, .mv (.c (.bool false))⟩])
  (.seq (.regd [⟨some 9, none, .mv (.t 2)⟩, ⟨some 10, none, .iaddrA 7 false 1 (.t 3) (.t 9)⟩, ⟨some 11, none, .load false 1 (.t 10)⟩, ⟨some 12, none, .mv (.t 2)⟩, ⟨some 13, none, .bin 0 .add (.t 12) (.c (.int .i64 1))⟩, ⟨some 14, none, .iaddrA 7 false 1 (.t 3) (.t 13)⟩, ⟨some 15, none, .load false 1 (.t 14)⟩, ⟨some 7, none, .mv (.t 11)⟩, ⟨some 8, none, .mv (.t 15)⟩])
  (.seq (.reg [⟨some 16, none, .mv (.t 7)⟩, ⟨some 17, none, .mv (.t 8)⟩, ⟨some 18, none, .min (.t 16) (.t 17)⟩, ⟨some 19, none, .mv (.t 1)⟩, ⟨some 20, none, .iaddrA 7 false 1 (.t 3) (.t 19)⟩, ⟨some 21, none, .load false 1 (.t 20)⟩, ⟨some 22, none, .bin 0 .lss (.t 18) (.t 21)⟩, ⟨some 23, none, .mv (.t 22)⟩, ⟨some 24, some (23, true), .mv (.t 1)⟩, ⟨some 25, some (23, true), .iaddrA 7 false 1 (.t 3) (.t 24)⟩, ⟨some 26, some (23, true), .load false 1 (.t 25)⟩, ⟨some 27, some (23, true), .mv (.t 7)⟩, ⟨some 28, some (23, true), .mv (.t 8)⟩, ⟨some 29, some (23, true), .max (.t 27) (.t 28)⟩, ⟨some 30, some (23, true), .bin 0 .lss (.t 26) (.t 29)⟩, ⟨some 31, none, .pick (.t 23) (.t 30) (.c (.bool false))⟩, ⟨some 6, none, .mv (.t 31)⟩])
  (.ret)))
def R85 : List ARes := [.t 6]
theorem ok85 : FnOk Tryz.prog 124 [] pureFns A85 R85 32 := ⟨⟨Tryz.f124, _, Tryz.func124, rfl, rfl, by kernel_rfl, by kernel_rfl⟩, by kernel_rfl⟩
def A87 : ACode := .seq (.reg [⟨some 7, none, .mv (.c (.bool false))⟩])
  (.seq (.seq (.reg [⟨some 9, none, .mv (.t 0)⟩, ⟨some 10, none, .len false (.t 9)⟩, ⟨some 11, none, .load false 1 (.t 1)⟩, ⟨some 12, none, .len false (.t 11)⟩, ⟨some 13, none, .bin 0 .eql (.t 10) (.t 12)⟩])
  (.cond (.t 13) (.seq (.regd [⟨some 14, none, .load false 1 (.t 2)⟩, ⟨some 15, none, .load true 7 (.t 3)⟩, ⟨some 16, none, .load false 1 (.t 1)⟩, ⟨some 17, none, .len false (.t 16)⟩, ⟨some 18, none, .hcall 74 [.t 14, .t 15, .t 17]⟩, ⟨some 19, none, .un .not (.t 18)⟩, ⟨some 20, none, .mv (.t 19)⟩, ⟨some 21, some (20, false), .load false 1 (.t 4)⟩, ⟨some 22, some (20, false), .mv (.t 0)⟩, ⟨some 23, some (20, false), .load true 7 (.t 3)⟩, ⟨some 24, some (20, false), .load false 1 (.t 1)⟩, ⟨some 25, some (20, false), .len false (.t 24)⟩, ⟨some 26, some (20, false), .pcall 73 [.t 23, .t 25]⟩, ⟨some 27, some (20, false), .callv (.t 21) [.t 22, .t 26]⟩, ⟨some 28, none, .pick (.t 20) (.c (.bool true)) (.t 27)⟩, ⟨some 7, none, .mv (.t 28)⟩])
  (.ret)) (.skip)))
  (.seq (.seq (.reg [⟨some 29, none, .load false 1 (.t 1)⟩, ⟨some 30, none, .len false (.t 29)⟩, ⟨some 31, none, .mv (.c (.int .i64 0))⟩])
  (.block 0 (.loop (.seq (.reg [⟨some 32, none, .bin 0 .lss (.t 31) (.t 30)⟩])
  (.seq (.cond (.t 32) (.skip) (.exit 0))
  (.seq (.block 1 (.seq (.reg [⟨some 33, none, .mv (.t 31)⟩, ⟨some 8, none, .mv (.t 33)⟩])
  (.seq (.reg [⟨some 34, none, .mv (.t 0)⟩, ⟨some 35, none, .mv (.t 8)⟩, ⟨some 36, none, .pcall 72 [.t 34, .t 35]⟩, ⟨some 37, none, .un .not (.t 36)⟩])
  (.cond (.t 37) (.seq (.reg [⟨some 38, none, .mv (.t 8)⟩, ⟨some 39, none, .mv (.t 0)⟩, ⟨some 40, none, .len false (.t 39)⟩, ⟨some 41, none, .iaddrA 7 false 1 (.t 3) (.t 38)⟩, ⟨none, none, .store 1 (.t 41) (.t 40)⟩])
  (.seq (.regd [⟨some 42, none, .load false 1 (.t 5)⟩, ⟨some 43, none, .mv (.t 0)⟩, ⟨some 44, none, .pcall 82 [.t 43]⟩, ⟨some 45, none, .mv (.t 8)⟩, ⟨some 46, none, .buildSl 1 [.t 45]⟩, ⟨some 47, none, .append 1 (.t 44) (.t 46)⟩, ⟨some 48, none, .callv (.t 42) [.t 47]⟩, ⟨some 49, none, .un .not (.t 48)⟩])
  (.cond (.t 49) (.seq (.reg [⟨some 7, none, .mv (.c (.bool false))⟩])
  (.ret)) (.skip)))) (.skip)))))
  (.reg [⟨some 50, none, .bin 0 .add (.t 31) (.c (.int .i64 1))⟩, ⟨some 31, none, .mv (.t 50)⟩])))))))
  (.seq (.reg [⟨some 7, none, .mv (.c (.bool true))⟩])
  (.ret))))
def R87 : List ARes := [.t 7]
theorem ok87 : FnOk Tryz.prog 119 [] pureFns A87 R87 51 := ⟨⟨Tryz.f119, _, Tryz.func119, rfl, rfl, by kernel_rfl, by kernel_rfl⟩, by kernel_rfl⟩
def A88 : ACode := .seq (.reg [⟨some 2, none, .mv (.c (.nilsl))⟩])
  (.seq (.reg [⟨some 3, none, .mv (.t 0)⟩, ⟨some 4, none, .mv (.t 0)⟩, ⟨some 5, none, .len false (.t 4)⟩, ⟨some 6, none, .mv (.t 0)⟩, ⟨some 7, none, .len false (.t 6)⟩, ⟨some 8, none, .slice 1 (.t 3) none (some (.t 5)) (some (.t 7))⟩, ⟨some 2, none, .mv (.t 8)⟩])
  (.ret))
def R88 : List ARes := [.t 2]
theorem ok88 : FnOk Tryz.prog 82 [] pureFns A88 R88 9 := ⟨⟨Tryz.f82, _, Tryz.func82, rfl, rfl, by kernel_rfl, by kernel_rfl⟩, by kernel_rfl⟩
def A89 : ACode := .seq (.reg [⟨some 4, none, .mv (.c (.nilsl))⟩])
  (.seq (.seq (.reg [⟨some 5, none, .mv (.t 1)⟩, ⟨some 6, none, .bin 0 .lss (.t 5) (.c (.int .i64 0))⟩])
  (.cond (.t 6) (.reg [⟨some 7, none, .mkif 9 (.c (.str (bs [99, 97, 110, 110, 111, 116, 32, 98, 101, 32, 110, 101, 103, 97, 116, 105, 118, 101])))⟩, ⟨none, none, .panic (.t 7)⟩]) (.skip)))
  (.seq (.seq (.reg [⟨some 8, none, .mv (.t 1)⟩, ⟨some 9, none, .mv (.t 0)⟩, ⟨some 10, none, .cap (.t 9)⟩, ⟨some 11, none, .mv (.t 0)⟩, ⟨some 12, none, .len false (.t 11)⟩, ⟨some 13, none, .bin 0 .sub (.t 10) (.t 12)⟩, ⟨some 14, none, .bin 0 .sub (.t 8) (.t 13)⟩, ⟨some 1, none, .mv (.t 14)⟩])
  (.seq (.reg [⟨some 15, none, .mv (.t 1)⟩, ⟨some 16, none, .bin 0 .gtr (.t 15) (.c (.int .i64 0))⟩])
  (.cond (.t 16) (.reg [⟨some 17, none, .mv (.t 0)⟩, ⟨some 18, none, .mv (.t 0)⟩, ⟨some 19, none, .cap (.t 18)⟩, ⟨some 20, none, .slice 1 (.t 17) none (some (.t 19)) none⟩, ⟨some 21, none, .mv (.t 1)⟩, ⟨some 22, none, .appz 1 (.t 20) (.t 21)⟩, ⟨some 23, none, .mv (.t 0)⟩, ⟨some 24, none, .len false (.t 23)⟩, ⟨some 25, none, .slice 1 (.t 22) none (some (.t 24)) none⟩, ⟨some 0, none, .mv (.t 25)⟩]) (.skip))))
  (.seq (.reg [⟨some 26, none, .mv (.t 0)⟩, ⟨some 4, none, .mv (.t 26)⟩])
  (.ret))))
def R89 : List ARes := [.t 4]
theorem ok89 : FnOk Tryz.prog 138 [] pureFns A89 R89 27 := ⟨⟨Tryz.f138, _, Tryz.func138, rfl, rfl, by kernel_rfl, by kernel_rfl⟩, by kernel_rfl⟩
def A90 : ACode := .seq (.reg [⟨some 4, none, .mv (.c (.bool false))⟩])
  (.seq (.reg [⟨some 5, none, .mv (.t 0)⟩, ⟨some 6, none, .mv (.t 1)⟩, ⟨some 7, none, .nilchk (.t 5)⟩, ⟨some 8, none, .iaddrA 256 false 1 (.t 7) (.t 6)⟩, ⟨some 9, none, .load false 1 (.t 8)⟩, ⟨some 4, none, .mv (.t 9)⟩])
  (.ret))
def R90 : List ARes := [.t 4]
theorem ok90 : FnOk Tryz.prog 157 [] pureFns A90 R90 10 := ⟨⟨Tryz.f157, _, Tryz.func157, rfl, rfl, by kernel_rfl, by kernel_rfl⟩, by kernel_rfl⟩

end Go.Proofs.YtdcpkgedaflnmaaGreatDoor.Fo
namespace Go.Proofs.YtdcpkgedaflnmaaGreatDoor.Tr
open Go Fw
def pureFns : List Nat := [0,1,2,3,4,5,6,7,8,9,10,11,12,13,14,15,16,17,18,19,20,21,22,23,24,25,26,27,28,29,30,31,32,33,34,35,36,37,38,39,40,41,42,43,44,45,46,47,48,49,50,51,52,53,54,55,56,57,58,59,60,61,62,63,64,65,66,67,68,69,70,71,72,73,74,75,76,77,78,79,80,81,82,83,84,85,86,87,88,89,90,91,92,93,94,95,96,97,98,99,100,101,102,103,104,105,106,107,108,109,110,111,112,113,114,115,116,117,118,119,120,121,122,123,124,125,126,127,128,129,130,131,132,133,134,135,136,137,138,139,140,141,142,143,144,145,146,147,148,149,150,151,152,153,154,155,156,157,158,159,160,161,162,163,164,165,167,168,169,170,171,172,173,174,175,176,177,178,179,180,181,182,183,184,185,186,187,188,189,190,191,192,193,194,195,196,197,198,199,200,201,202,203,204,205,206]
def A23 : ACode := .seq (.reg [⟨some 2, none, .mv (.c (.int .i64 0))⟩, ⟨some 3, none, .mv (.c (.int .i64 0))⟩])
  (.seq (.reg [⟨some 7, none, .mv (.t 0)⟩, ⟨some 8, none, .pcall 139 [.t 7]⟩, ⟨some 6, none, .mv (.t 8)⟩, ⟨some 9, none, .extract (.t 6) 0⟩, ⟨some 10, none, .extract (.t 6) 1⟩, ⟨some 4, none, .mv (.t 9)⟩, ⟨some 5, none, .mv (.t 10)⟩])
  (.seq (.seq (.reg [⟨some 11, none, .mv (.t 5)⟩, ⟨some 12, none, .bin 0 .neq (.t 11) (.c (.int .i64 0))⟩])
  (.cond (.t 12) (.seq (.reg [⟨some 13, none, .mv (.t 5)⟩, ⟨some 2, none, .mv (.c (.int .i64 0))⟩, ⟨some 3, none, .mv (.t 13)⟩])
  (.ret)) (.skip)))
  (.seq (.reg [⟨some 14, none, .mv (.t 4)⟩, ⟨some 15, none, .len false (.t 14)⟩, ⟨some 16, none, .bin 0 .sub (.t 15) (.c (.int .i64 1))⟩, ⟨some 2, none, .mv (.t 16)⟩, ⟨some 3, none, .mv (.c (.int .i64 0))⟩])
  (.ret))))
def R23 : List ARes := [.t 2, .t 3]
theorem ok23 : FnOk Tryz.prog 116 [] pureFns A23 R23 17 := ⟨⟨Tryz.f116, _, Tryz.func116, rfl, rfl, by kernel_rfl, by kernel_rfl⟩, by kernel_rfl⟩
def A25 : ACode := .seq (.reg [⟨some 2, none, .mv (.c (.nilsl))⟩, ⟨some 3, none, .mv (.c (.int .i64 0))⟩])
  (.seq (.seq (.reg [⟨some 4, none, .mv (.t 0)⟩, ⟨some 5, none, .pcall 155 [.c (.int .i64 1), .t 4, .c (.int .i64 46)]⟩, ⟨some 6, none, .un .not (.t 5)⟩])
  (.cond (.t 6) (.seq (.reg [⟨some 2, none, .mv (.c (.nilsl))⟩, ⟨some 3, none, .mv (.c (.int .i64 3))⟩])
  (.ret)) (.skip)))
  (.seq (.reg [⟨some 7, none, .mv (.t 0)⟩, ⟨some 8, none, .build [.int .i64 0, .nilsl, .bool false] [(0, 1, (.t 7))]⟩, ⟨some 9, none, .pcall 156 [.t 8]⟩, ⟨some 2, none, .mv (.t 9)⟩, ⟨some 3, none, .mv (.c (.int .i64 0))⟩])
  (.ret)))
def R25 : List ARes := [.t 2, .t 3]
theorem ok25 : FnOk Tryz.prog 139 [] pureFns A25 R25 10 := ⟨⟨Tryz.f139, _, Tryz.func139, rfl, rfl, by kernel_rfl, by kernel_rfl⟩, by kernel_rfl⟩
def A47 : ACode := .seq (.reg [⟨some 4, none, .alloc [.int .i64 0, .int .i64 0]⟩, ⟨some 5, none, .mv (.c (.bool false))⟩])
  (.seq (.seq (.reg [⟨some 9, none, .mv (.t 0)⟩, ⟨some 10, none, .len false (.t 9)⟩, ⟨some 11, none, .bin 0 .sub (.t 10) (.c (.int .i64 1))⟩, ⟨some 6, none, .mv (.t 11)⟩])
  (.block 0 (.loop (.seq (.seq (.reg [⟨some 12, none, .mv (.t 6)⟩, ⟨some 13, none, .bin 0 .geq (.t 12) (.c (.int .i64 0))⟩])
  (.cond (.t 13) (.skip) (.exit 0)))
  (.seq (.block 1 (.seq (.regd [⟨some 17, none, .mv (.t 0)⟩, ⟨some 18, none, .mv (.t 6)⟩, ⟨some 19, none, .bin 0 .add (.t 18) (.c (.int .i64 1))⟩, ⟨some 20, none, .slice 1 (.t 17) none (some (.t 19)) none⟩, ⟨some 21, none, .mv (.t 1)⟩, ⟨some 22, none, .mv (.t 0)⟩, ⟨some 23, none, .mv (.t 6)⟩, ⟨some 24, none, .iaddrS 1 (.t 22) (.t 23)⟩, ⟨some 25, none, .load false 1 (.t 24)⟩, ⟨some 26, none, .bin 0 .sub (.t 21) (.t 25)⟩, ⟨some 27, none, .pcall 178 [.t 20, .t 26]⟩, ⟨some 16, none, .mv (.t 27)⟩, ⟨some 28, none, .extract (.t 16) 0⟩, ⟨some 29, none, .extract (.t 16) 1⟩, ⟨some 7, none, .mv (.t 28)⟩, ⟨some 8, none, .mv (.t 29)⟩])
  (.seq (.reg [⟨some 30, none, .mv (.t 8)⟩])
  (.cond (.t 30) (.seq (.reg [⟨some 31, none, .mv (.t 6)⟩, ⟨some 32, none, .mv (.t 7)⟩, ⟨some 33, none, .build [.int .i64 0, .int .i64 0] [(0, 1, (.t 31)), (1, 1, (.t 32))]⟩, ⟨none, none, .store 2 (.t 4) (.t 33)⟩, ⟨some 5, none, .mv (.c (.bool true))⟩])
  (.ret)) (.skip)))))
  (.reg [⟨some 14, none, .mv (.t 6)⟩, ⟨some 15, none, .bin 0 .sub (.t 14) (.c (.int .i64 1))⟩, ⟨some 6, none, .mv (.t 15)⟩]))))))
  (.seq (.reg [⟨some 34, none, .build [.int .i64 0, .int .i64 0] []⟩, ⟨none, none, .store 2 (.t 4) (.t 34)⟩, ⟨some 5, none, .mv (.c (.bool false))⟩])
  (.ret)))
def R47 : List ARes := [.cell true 2 4, .t 5]
theorem ok47 : FnOk Tryz.prog 172 [] pureFns A47 R47 35 := ⟨⟨Tryz.f172, _, Tryz.func172, rfl, rfl, by kernel_rfl, by kernel_rfl⟩, by kernel_rfl⟩
def A50 : ACode := .seq (.reg [⟨some 6, none, .mv (.c (.bool false))⟩])
  (.seq (.reg [⟨some 7, none, .mv (.t 0)⟩, ⟨some 8, none, .mv (.t 1)⟩, ⟨some 9, none, .bin 0 .leq (.t 7) (.t 8)⟩, ⟨some 10, none, .mv (.t 9)⟩, ⟨some 11, some (10, true), .mv (.t 1)⟩, ⟨some 12, some (10, true), .mv (.t 2)⟩, ⟨some 13, some (10, true), .bin 0 .leq (.t 11) (.t 12)⟩, ⟨some 14, none, .pick (.t 10) (.t 13) (.c (.bool false))⟩, ⟨some 6, none, .mv (.t 14)⟩])
  (.ret))
def R50 : List ARes := [.t 6]
theorem ok50 : FnOk Tryz.prog 155 [] pureFns A50 R50 15 := ⟨⟨Tryz.f155, _, Tryz.func155, rfl, rfl, by kernel_rfl, by kernel_rfl⟩, by kernel_rfl⟩
def A54 : ACode := .seq (.reg [⟨some 4, none, .boxi (.t 0)⟩])
  (.seq (.reg [⟨some 12, none, .mv (.t 1)⟩, ⟨some 13, none, .mv (.t 1)⟩, ⟨some 14, none, .len false (.t 13)⟩, ⟨some 15, none, .bin 0 .sub (.t 14) (.c (.int .i64 1))⟩, ⟨some 16, none, .iaddrS 1 (.t 12) (.t 15)⟩, ⟨some 17, none, .load false 1 (.t 16)⟩, ⟨some 8, none, .mv (.t 17)⟩])
  (.seq (.block 0 (.seq (.reg [⟨some 19, none, .mv (.t 2)⟩, ⟨some 20, none, .bin 0 .eql (.t 19) (.c (.int .i64 0))⟩, ⟨some 21, none, .mv (.t 20)⟩, ⟨some 22, some (21, true), .mv (.t 8)⟩, ⟨some 23, some (21, true), .faddr false 1 0 (.t 4)⟩, ⟨some 24, some (21, true), .load false 1 (.t 23)⟩, ⟨some 25, some (21, true), .bin 0 .eql (.t 22) (.t 24)⟩, ⟨some 26, none, .pick (.t 21) (.t 25) (.c (.bool false))⟩, ⟨some 18, none, .mv (.t 26)⟩])
  (.cond (.t 18) (.seq (.reg [⟨some 27, none, .mv (.t 3)⟩, ⟨some 28, none, .mv (.t 1)⟩, ⟨some 29, none, .callv (.t 27) [.t 28]⟩])
  (.ret)) (.seq (.regd [⟨some 31, none, .mv (.t 2)⟩, ⟨some 32, none, .bin 0 .eql (.t 31) (.c (.int .i64 0))⟩, ⟨some 33, none, .mv (.t 32)⟩, ⟨some 34, some (33, false), .mv (.t 8)⟩, ⟨some 35, some (33, false), .mv (.t 2)⟩, ⟨some 36, some (33, false), .bin 0 .shl (.t 34) (.t 35)⟩, ⟨some 37, some (33, false), .faddr false 1 0 (.t 4)⟩, ⟨some 38, some (33, false), .load false 1 (.t 37)⟩, ⟨some 39, some (33, false), .bin 0 .lss (.t 36) (.t 38)⟩, ⟨some 40, none, .pick (.t 33) (.c (.bool true)) (.t 39)⟩, ⟨some 30, none, .mv (.t 40)⟩])
  (.cond (.t 30) (.ret) (.skip))))))
  (.seq (.reg [⟨some 41, none, .mv (.t 8)⟩, ⟨some 42, none, .bin 0 .add (.t 41) (.c (.int .i64 1))⟩, ⟨some 9, none, .mv (.t 42)⟩])
  (.block 1 (.loop (.seq (.seq (.reg [⟨some 43, none, .mv (.t 9)⟩, ⟨some 44, none, .faddr false 1 0 (.t 4)⟩, ⟨some 45, none, .load false 1 (.t 44)⟩, ⟨some 46, none, .mv (.t 8)⟩, ⟨some 47, none, .bin 0 .mul (.c (.int .i64 2)) (.t 46)⟩, ⟨some 48, none, .min (.t 45) (.t 47)⟩, ⟨some 49, none, .bin 0 .leq (.t 43) (.t 48)⟩])
  (.cond (.t 49) (.skip) (.exit 1)))
  (.seq (.block 2 (.seq (.reg [⟨some 53, none, .mv (.t 1)⟩, ⟨some 54, none, .mv (.t 9)⟩, ⟨some 55, none, .pcall 172 [.t 53, .t 54]⟩, ⟨some 52, none, .mv (.t 55)⟩, ⟨some 56, none, .extract (.t 52) 0⟩, ⟨some 57, none, .extract (.t 52) 1⟩, ⟨some 10, none, .alloc [.int .i64 0, .int .i64 0]⟩, ⟨none, none, .store 2 (.t 10) (.t 56)⟩, ⟨some 11, none, .mv (.t 57)⟩])
  (.seq (.reg [⟨some 58, none, .mv (.t 11)⟩, ⟨some 59, none, .mv (.t 58)⟩, ⟨some 60, some (59, true), .faddr false 1 2 (.t 4)⟩, ⟨some 61, some (59, true), .load false 1 (.t 60)⟩, ⟨some 62, some (59, true), .un .not (.t 61)⟩, ⟨some 63, some (59, true), .mv (.t 62)⟩, ⟨some 64, some (63, false), .iaddrA 2 false 1 (.t 10) (.c (.int .i64 0))⟩, ⟨some 65, some (63, false), .load false 1 (.t 64)⟩, ⟨some 66, some (63, false), .mv (.t 1)⟩, ⟨some 67, some (63, false), .len false (.t 66)⟩, ⟨some 68, some (63, false), .bin 0 .sub (.t 67) (.c (.int .i64 1))⟩, ⟨some 69, some (63, false), .bin 0 .eql (.t 65) (.t 68)⟩, ⟨some 70, some (59, true), .pick (.t 63) (.c (.bool true)) (.t 69)⟩, ⟨some 71, none, .pick (.t 59) (.t 70) (.c (.bool false))⟩, ⟨some 72, none, .mv (.t 71)⟩, ⟨some 73, some (72, true), .faddr false 1 1 (.t 4)⟩, ⟨some 74, some (72, true), .load false 1 (.t 73)⟩, ⟨some 75, some (72, true), .mv (.t 9)⟩, ⟨some 76, some (72, true), .pcall 72 [.t 74, .t 75]⟩, ⟨some 77, some (72, true), .un .not (.t 76)⟩, ⟨some 78, none, .pick (.t 72) (.t 77) (.c (.bool false))⟩])
  (.cond (.t 78) (.regl [⟨some 79, none, .load true 3 (.t 4)⟩, ⟨some 80, none, .mv (.t 1)⟩, ⟨some 81, none, .pcall 82 [.t 80]⟩, ⟨some 82, none, .mv (.t 9)⟩, ⟨some 83, none, .buildSl 1 [.t 82]⟩, ⟨some 84, none, .append 1 (.t 81) (.t 83)⟩, ⟨some 85, none, .mv (.t 2)⟩, ⟨some 86, none, .bin 0 .sub (.t 85) (.c (.int .i64 1))⟩, ⟨some 87, none, .mv (.t 3)⟩, ⟨some 88, none, .hcall 166 [.t 79, .t 84, .t 86, .t 87]⟩]) (.skip)))))
  (.reg [⟨some 50, none, .mv (.t 9)⟩, ⟨some 51, none, .bin 0 .add (.t 50) (.c (.int .i64 1))⟩, ⟨some 9, none, .mv (.t 51)⟩]))))))))
def R54 : List ARes := []
theorem ok54 : FnOk Tryz.prog 166 [] pureFns A54 R54 89 := ⟨⟨Tryz.f166, _, Tryz.func166, rfl, rfl, by kernel_rfl, by kernel_rfl⟩, by kernel_rfl⟩
def A62 : ACode := .seq (.reg [⟨some 2, none, .mv (.c (.nilsl))⟩])
  (.seq (.seq (.reg [⟨some 3, none, .mv (.t 0)⟩, ⟨some 4, none, .bin 2 .eql (.t 3) (.c (.nilsl))⟩])
  (.cond (.t 4) (.seq (.reg [⟨some 2, none, .mv (.c (.nilsl))⟩])
  (.ret)) (.skip)))
  (.seq (.reg [⟨some 5, none, .buildSl 1 []⟩, ⟨some 6, none, .mv (.t 0)⟩, ⟨some 7, none, .append 1 (.t 5) (.t 6)⟩, ⟨some 2, none, .mv (.t 7)⟩])
  (.ret)))
def R62 : List ARes := [.t 2]
theorem ok62 : FnOk Tryz.prog 69 [] pureFns A62 R62 8 := ⟨⟨Tryz.f69, _, Tryz.func69, rfl, rfl, by kernel_rfl, by kernel_rfl⟩, by kernel_rfl⟩
def A63 : ACode := .seq (.reg [⟨some 4, none, .mv (.c (.int .i64 0))⟩, ⟨some 5, none, .mv (.c (.bool false))⟩])
  (.seq (.reg [⟨some 10, none, .mv (.t 0)⟩, ⟨some 11, none, .len false (.t 10)⟩, ⟨some 6, none, .mv (.t 11)⟩])
  (.seq (.reg [⟨some 12, none, .mv (.t 6)⟩, ⟨some 7, none, .mv (.c (.int .i64 0))⟩, ⟨some 8, none, .mv (.t 12)⟩])
  (.seq (.block 0 (.loop (.seq (.seq (.reg [⟨some 13, none, .mv (.t 7)⟩, ⟨some 14, none, .mv (.t 8)⟩, ⟨some 15, none, .bin 0 .lss (.t 13) (.t 14)⟩])
  (.cond (.t 15) (.skip) (.exit 0)))
  (.block 1 (.seq (.reg [⟨some 16, none, .mv (.t 7)⟩, ⟨some 17, none, .mv (.t 8)⟩, ⟨some 18, none, .bin 0 .add (.t 16) (.t 17)⟩, ⟨some 19, none, .conv .u64 (.t 18)⟩, ⟨some 20, none, .bin 0 .shr (.t 19) (.c (.int .u64 1))⟩, ⟨some 21, none, .conv .i64 (.t 20)⟩, ⟨some 9, none, .mv (.t 21)⟩])
  (.seq (.reg [⟨some 22, none, .mv (.t 0)⟩, ⟨some 23, none, .mv (.t 9)⟩, ⟨some 24, none, .iaddrS 1 (.t 22) (.t 23)⟩, ⟨some 25, none, .load false 1 (.t 24)⟩, ⟨some 26, none, .mv (.t 1)⟩, ⟨some 27, none, .pcall 180 [.t 25, .t 26]⟩])
  (.cond (.t 27) (.reg [⟨some 28, none, .mv (.t 9)⟩, ⟨some 29, none, .bin 0 .add (.t 28) (.c (.int .i64 1))⟩, ⟨some 7, none, .mv (.t 29)⟩]) (.reg [⟨some 30, none, .mv (.t 9)⟩, ⟨some 8, none, .mv (.t 30)⟩]))))))))
  (.seq (.reg [⟨some 31, none, .mv (.t 7)⟩, ⟨some 32, none, .mv (.t 7)⟩, ⟨some 33, none, .mv (.t 6)⟩, ⟨some 34, none, .bin 0 .lss (.t 32) (.t 33)⟩, ⟨some 35, none, .mv (.t 34)⟩, ⟨some 36, some (35, true), .mv (.t 0)⟩, ⟨some 37, some (35, true), .mv (.t 7)⟩, ⟨some 38, some (35, true), .iaddrS 1 (.t 36) (.t 37)⟩, ⟨some 39, some (35, true), .load false 1 (.t 38)⟩, ⟨some 40, some (35, true), .mv (.t 1)⟩, ⟨some 41, some (35, true), .bin 0 .eql (.t 39) (.t 40)⟩, ⟨some 42, some (35, true), .mv (.t 41)⟩, ⟨some 43, some (42, false), .mv (.t 0)⟩, ⟨some 44, some (42, false), .mv (.t 7)⟩, ⟨some 45, some (42, false), .iaddrS 1 (.t 43) (.t 44)⟩, ⟨some 46, some (42, false), .load false 1 (.t 45)⟩, ⟨some 47, some (42, false), .pcall 181 [.t 46]⟩, ⟨some 48, some (42, false), .mv (.t 47)⟩, ⟨some 49, some (48, true), .mv (.t 1)⟩, ⟨some 50, some (48, true), .pcall 181 [.t 49]⟩, ⟨some 51, some (42, false), .pick (.t 48) (.t 50) (.c (.bool false))⟩, ⟨some 52, some (35, true), .pick (.t 42) (.c (.bool true)) (.t 51)⟩, ⟨some 53, none, .pick (.t 35) (.t 52) (.c (.bool false))⟩, ⟨some 4, none, .mv (.t 31)⟩, ⟨some 5, none, .mv (.t 53)⟩])
  (.ret)))))
def R63 : List ARes := [.t 4, .t 5]
theorem ok63 : FnOk Tryz.prog 178 [] pureFns A63 R63 54 := ⟨⟨Tryz.f178, _, Tryz.func178, rfl, rfl, by kernel_rfl, by kernel_rfl⟩, by kernel_rfl⟩
def A65 : ACode := .seq (.reg [⟨some 4, none, .mv (.c (.bool false))⟩])
  (.seq (.reg [⟨some 5, none, .mv (.t 0)⟩, ⟨some 6, none, .mv (.t 1)⟩, ⟨some 7, none, .pcall 115 [.t 5, .t 6]⟩, ⟨some 8, none, .bin 0 .geq (.t 7) (.c (.int .i64 0))⟩, ⟨some 4, none, .mv (.t 8)⟩])
  (.ret))
def R65 : List ARes := [.t 4]
theorem ok65 : FnOk Tryz.prog 72 [] pureFns A65 R65 9 := ⟨⟨Tryz.f72, _, Tryz.func72, rfl, rfl, by kernel_rfl, by kernel_rfl⟩, by kernel_rfl⟩
def A67 : ACode := .reg [⟨some 2, none, .mv (.t 0)⟩, ⟨some 3, none, .pcall 69 [.t 2]⟩, ⟨some 4, none, .mkif 24 (.t 3)⟩, ⟨none, none, .panic (.t 4)⟩]
def R67 : List ARes := []
theorem ok67 : FnOk Tryz.prog 167 [] pureFns A67 R67 5 := ⟨⟨Tryz.f167, _, Tryz.func167, rfl, rfl, by kernel_rfl, by kernel_rfl⟩, by kernel_rfl⟩
def A69 : ACode := .seq (.reg [⟨some 2, none, .mv (.c (.nilsl))⟩])
  (.seq (.reg [⟨some 3, none, .mv (.t 0)⟩, ⟨some 4, none, .mv (.t 0)⟩, ⟨some 5, none, .len false (.t 4)⟩, ⟨some 6, none, .mv (.t 0)⟩, ⟨some 7, none, .len false (.t 6)⟩, ⟨some 8, none, .slice 1 (.t 3) none (some (.t 5)) (some (.t 7))⟩, ⟨some 2, none, .mv (.t 8)⟩])
  (.ret))
def R69 : List ARes := [.t 2]
theorem ok69 : FnOk Tryz.prog 82 [] pureFns A69 R69 9 := ⟨⟨Tryz.f82, _, Tryz.func82, rfl, rfl, by kernel_rfl, by kernel_rfl⟩, by kernel_rfl⟩
def A71 : ACode := .seq (.reg [⟨some 4, none, .mv (.c (.bool false))⟩])
  (.seq (.reg [⟨some 5, none, .mv (.t 0)⟩, ⟨some 6, none, .pcall 183 [.t 5]⟩, ⟨some 7, none, .mv (.t 6)⟩, ⟨some 8, some (7, true), .mv (.t 1)⟩, ⟨some 9, some (7, true), .pcall 183 [.t 8]⟩, ⟨some 10, some (7, true), .un .not (.t 9)⟩, ⟨some 11, none, .pick (.t 7) (.t 10) (.c (.bool false))⟩, ⟨some 12, none, .mv (.t 11)⟩, ⟨some 13, some (12, false), .mv (.t 0)⟩, ⟨some 14, some (12, false), .mv (.t 1)⟩, ⟨some 15, some (12, false), .bin 0 .lss (.t 13) (.t 14)⟩, ⟨some 16, none, .pick (.t 12) (.c (.bool true)) (.t 15)⟩, ⟨some 4, none, .mv (.t 16)⟩])
  (.ret))
def R71 : List ARes := [.t 4]
theorem ok71 : FnOk Tryz.prog 180 [] pureFns A71 R71 17 := ⟨⟨Tryz.f180, _, Tryz.func180, rfl, rfl, by kernel_rfl, by kernel_rfl⟩, by kernel_rfl⟩
def A72 : ACode := .seq (.reg [⟨some 2, none, .mv (.c (.bool false))⟩])
  (.seq (.reg [⟨some 3, none, .mv (.t 0)⟩, ⟨some 4, none, .mv (.t 0)⟩, ⟨some 5, none, .bin 0 .neq (.t 3) (.t 4)⟩, ⟨some 2, none, .mv (.t 5)⟩])
  (.ret))
def R72 : List ARes := [.t 2]
theorem ok72 : FnOk Tryz.prog 181 [] pureFns A72 R72 6 := ⟨⟨Tryz.f181, _, Tryz.func181, rfl, rfl, by kernel_rfl, by kernel_rfl⟩, by kernel_rfl⟩
def A73 : ACode := .seq (.reg [⟨some 4, none, .mv (.c (.int .i64 0))⟩])
  (.seq (.seq (.reg [⟨some 6, none, .mv (.t 0)⟩, ⟨some 7, none, .len false (.t 6)⟩, ⟨some 8, none, .mv (.c (.int .i64 0))⟩])
  (.block 0 (.loop (.seq (.reg [⟨some 9, none, .bin 0 .lss (.t 8) (.t 7)⟩])
  (.seq (.cond (.t 9) (.skip) (.exit 0))
  (.seq (.block 1 (.seq (.reg [⟨some 10, none, .mv (.t 8)⟩, ⟨some 5, none, .mv (.t 10)⟩])
  (.seq (.reg [⟨some 11, none, .mv (.t 1)⟩, ⟨some 12, none, .mv (.t 0)⟩, ⟨some 13, none, .mv (.t 5)⟩, ⟨some 14, none, .iaddrS 1 (.t 12) (.t 13)⟩, ⟨some 15, none, .load false 1 (.t 14)⟩, ⟨some 16, none, .bin 0 .eql (.t 11) (.t 15)⟩])
  (.cond (.t 16) (.seq (.reg [⟨some 17, none, .mv (.t 5)⟩, ⟨some 4, none, .mv (.t 17)⟩])
  (.ret)) (.skip)))))
  (.reg [⟨some 18, none, .bin 0 .add (.t 8) (.c (.int .i64 1))⟩, ⟨some 8, none, .mv (.t 18)⟩])))))))
  (.seq (.reg [⟨some 4, none, .mv (.c (.int .i64 (-1)))⟩])
  (.ret)))
def R73 : List ARes := [.t 4]
theorem ok73 : FnOk Tryz.prog 115 [] pureFns A73 R73 19 := ⟨⟨Tryz.f115, _, Tryz.func115, rfl, rfl, by kernel_rfl, by kernel_rfl⟩, by kernel_rfl⟩
def A74 : ACode := .seq (.reg [⟨some 2, none, .mv (.c (.bool false))⟩])
  (.seq (.reg [⟨some 3, none, .mv (.t 0)⟩, ⟨some 4, none, .mv (.t 0)⟩, ⟨some 5, none, .bin 0 .neq (.t 3) (.t 4)⟩, ⟨some 2, none, .mv (.t 5)⟩])
  (.ret))
def R74 : List ARes := [.t 2]
theorem ok74 : FnOk Tryz.prog 183 [] pureFns A74 R74 6 := ⟨⟨Tryz.f183, _, Tryz.func183, rfl, rfl, by kernel_rfl, by kernel_rfl⟩, by kernel_rfl⟩

end Go.Proofs.YtdcpkgedaflnmaaGreatDoor.Tr
namespace Go.Proofs.YtdcpkgedaflnmaaGreatDoor.Se
open Go Fw
def pureFns : List Nat := [0,1,2,3,4,5,6,7,8,9,10,11,12,13,14,15,16,17,18,19,20,21,22,23,24,25,26,27,28,29,30,31,32,33,34,35,36,37,38,39,40,41,42,43,44,45,46,47,48,49,50,51,52,53,54,55,56,57,58,59,60,61,62,63,64,65,66,67,68,69,70,71,72,73,74,75,76,77,78,79,80,81,82,83,85,86,87,88,89,90,91,92,93,94,95,96,97,98,99,100,101,102,103,104,105,106,107,108,109,111,113,114,115,116,117,118,119,120,121,122,123,124,126,127,128,129,130,131,132,133,134,135,136,139,140,141,142,143,144,145,146,147,148,149,150,151,152,153,154,155,156,157,158,159,160,161,162,163,164,165,166,167,168,169,170,171,172,173,174,175,176,177,178,179,180,181,182,183,184,185,186,187,188,189,190,191,192,193,194,195,196,197,198,199,200,201,202,203,204,205,206]
def A15 : ACode := .seq (.reg [⟨some 4, none, .mv (.c (.int .i64 0))⟩, ⟨some 5, none, .mv (.c (.int .i64 0))⟩])
  (.seq (.seq (.reg [⟨some 7, none, .mv (.t 0)⟩, ⟨some 8, none, .mv (.t 1)⟩, ⟨some 9, none, .pcall 50 [.t 7, .t 8]⟩, ⟨some 6, none, .mv (.t 9)⟩])
  (.seq (.reg [⟨some 10, none, .mv (.t 6)⟩, ⟨some 11, none, .bin 0 .neq (.t 10) (.c (.int .i64 0))⟩])
  (.cond (.t 11) (.seq (.reg [⟨some 12, none, .mv (.t 6)⟩, ⟨some 4, none, .mv (.c (.int .i64 0))⟩, ⟨some 5, none, .mv (.t 12)⟩])
  (.ret)) (.skip))))
  (.seq (.reg [⟨some 13, none, .mv (.t 0)⟩, ⟨some 14, none, .mv (.t 1)⟩, ⟨some 15, none, .pcall 51 [.t 13, .c (.int .i64 0), .t 14]⟩, ⟨some 4, none, .mv (.t 15)⟩, ⟨some 5, none, .mv (.c (.int .i64 0))⟩])
  (.ret)))
def R15 : List ARes := [.t 4, .t 5]
theorem ok15 : FnOk Tryz.prog 17 [] pureFns A15 R15 16 := ⟨⟨Tryz.f17, _, Tryz.func17, rfl, rfl, by kernel_rfl, by kernel_rfl⟩, by kernel_rfl⟩
def A34 : ACode := .seq (.reg [⟨some 4, none, .mv (.c (.nilsl))⟩])
  (.seq (.reg [⟨some 5, none, .mv (.c (.nilsl))⟩, ⟨some 6, none, .mv (.c (.nilsl))⟩])
  (.seq (.seq (.reg [⟨some 7, none, .mv (.c (.int .i64 0))⟩])
  (.block 0 (.loop (.seq (.seq (.reg [⟨some 10, none, .mv (.t 7)⟩, ⟨some 11, none, .mv (.t 0)⟩, ⟨some 12, none, .bin 0 .lss (.t 10) (.t 11)⟩])
  (.cond (.t 12) (.skip) (.exit 0)))
  (.seq (.block 1 (.reg [⟨some 15, none, .mv (.t 5)⟩, ⟨some 16, none, .mv (.t 7)⟩, ⟨some 17, none, .buildSl 1 [.t 16]⟩, ⟨some 18, none, .append 1 (.t 15) (.t 17)⟩, ⟨some 5, none, .mv (.t 18)⟩]))
  (.reg [⟨some 13, none, .mv (.t 7)⟩, ⟨some 14, none, .bin 0 .add (.t 13) (.c (.int .i64 1))⟩, ⟨some 7, none, .mv (.t 14)⟩]))))))
  (.seq (.seq (.reg [⟨some 8, none, .mv (.c (.int .i64 0))⟩])
  (.block 2 (.loop (.seq (.seq (.reg [⟨some 19, none, .mv (.t 5)⟩, ⟨some 20, none, .len false (.t 19)⟩, ⟨some 21, none, .bin 0 .gtr (.t 20) (.c (.int .i64 0))⟩])
  (.cond (.t 21) (.skip) (.exit 2)))
  (.seq (.block 3 (.seq (.reg [⟨some 9, none, .mv (.c (.int .i64 0))⟩])
  (.seq (.seq (.reg [⟨some 24, none, .mv (.t 8)⟩, ⟨some 25, none, .mv (.t 1)⟩, ⟨some 26, none, .len false (.t 25)⟩, ⟨some 27, none, .bin 0 .lss (.t 24) (.t 26)⟩])
  (.cond (.t 27) (.reg [⟨some 28, none, .mv (.t 1)⟩, ⟨some 29, none, .mv (.t 8)⟩, ⟨some 30, none, .iaddrS 1 (.t 28) (.t 29)⟩, ⟨some 31, none, .load false 1 (.t 30)⟩, ⟨some 32, none, .conv .i64 (.t 31)⟩, ⟨some 33, none, .mv (.t 5)⟩, ⟨some 34, none, .len false (.t 33)⟩, ⟨some 35, none, .bin 0 .rem (.t 32) (.t 34)⟩, ⟨some 9, none, .mv (.t 35)⟩]) (.skip)))
  (.seq (.reg [⟨some 36, none, .mv (.t 6)⟩, ⟨some 37, none, .mv (.t 5)⟩, ⟨some 38, none, .mv (.t 9)⟩, ⟨some 39, none, .iaddrS 1 (.t 37) (.t 38)⟩, ⟨some 40, none, .load false 1 (.t 39)⟩, ⟨some 41, none, .buildSl 1 [.t 40]⟩, ⟨some 42, none, .append 1 (.t 36) (.t 41)⟩, ⟨some 6, none, .mv (.t 42)⟩])
  (.regd [⟨some 43, none, .buildSl 1 []⟩, ⟨some 44, none, .mv (.t 5)⟩, ⟨some 45, none, .mv (.t 9)⟩, ⟨some 46, none, .slice 1 (.t 44) none (some (.t 45)) none⟩, ⟨some 47, none, .append 1 (.t 43) (.t 46)⟩, ⟨some 48, none, .mv (.t 5)⟩, ⟨some 49, none, .mv (.t 9)⟩, ⟨some 50, none, .bin 0 .add (.t 49) (.c (.int .i64 1))⟩, ⟨some 51, none, .slice 1 (.t 48) (some (.t 50)) none none⟩, ⟨some 52, none, .append 1 (.t 47) (.t 51)⟩, ⟨some 5, none, .mv (.t 52)⟩])))))
  (.reg [⟨some 22, none, .mv (.t 8)⟩, ⟨some 23, none, .bin 0 .add (.t 22) (.c (.int .i64 1))⟩, ⟨some 8, none, .mv (.t 23)⟩]))))))
  (.seq (.reg [⟨some 53, none, .mv (.t 6)⟩, ⟨some 4, none, .mv (.t 53)⟩])
  (.ret)))))
def R34 : List ARes := [.t 4]
theorem ok34 : FnOk Tryz.prog 49 [] pureFns A34 R34 54 := ⟨⟨Tryz.f49, _, Tryz.func49, rfl, rfl, by kernel_rfl, by kernel_rfl⟩, by kernel_rfl⟩
def A38 : ACode := .seq (.reg [⟨some 2, none, .boxi (.t 0)⟩, ⟨some 4, none, .mv (.c (.int .i64 0))⟩])
  (.seq (.reg [⟨some 6, none, .load false 1 (.t 2)⟩, ⟨some 7, none, .pcall 57 [.t 6]⟩, ⟨some 5, none, .mv (.t 7)⟩])
  (.seq (.block 0 (.seq (.reg [⟨some 9, none, .mv (.t 5)⟩, ⟨some 10, none, .bin 0 .neq (.t 9) (.c (.int .i64 0))⟩, ⟨some 8, none, .mv (.t 10)⟩])
  (.cond (.t 8) (.seq (.reg [⟨some 11, none, .mv (.t 5)⟩, ⟨some 4, none, .mv (.t 11)⟩])
  (.ret)) (.seq (.reg [⟨some 13, none, .mv (.t 1)⟩, ⟨some 14, none, .len false (.t 13)⟩, ⟨some 15, none, .bin 0 .gtr (.t 14) (.c (.int .i64 12))⟩, ⟨some 12, none, .mv (.t 15)⟩])
  (.cond (.t 12) (.seq (.reg [⟨some 4, none, .mv (.c (.int .i64 2))⟩])
  (.ret)) (.seq (.reg [⟨some 17, none, .mv (.t 1)⟩, ⟨some 18, none, .mkfn (.func 104) [] [.t 2]⟩, ⟨some 19, none, .hcall 84 [.t 17, .t 18]⟩, ⟨some 16, none, .mv (.t 19)⟩])
  (.cond (.t 16) (.seq (.reg [⟨some 4, none, .mv (.c (.int .i64 4))⟩])
  (.ret)) (.skip))))))))
  (.seq (.reg [⟨some 4, none, .mv (.c (.int .i64 0))⟩])
  (.ret))))
def R38 : List ARes := [.t 4]
theorem ok38 : FnOk Tryz.prog 50 [] pureFns A38 R38 20 := ⟨⟨Tryz.f50, _, Tryz.func50, rfl, rfl, by kernel_rfl, by kernel_rfl⟩, by kernel_rfl⟩
def A39 : ACode := .seq (.reg [⟨some 3, none, .boxi (.t 0)⟩, ⟨some 6, none, .mv (.c (.int .i64 0))⟩])
  (.seq (.reg [⟨some 7, none, .mv (.t 1)⟩, ⟨some 8, none, .mv (.t 2)⟩, ⟨some 9, none, .mkfn (.func 105) [] [.t 3]⟩, ⟨some 10, none, .pcall 60 [.t 7, .t 8, .t 9]⟩, ⟨some 6, none, .mv (.t 10)⟩])
  (.ret))
def R39 : List ARes := [.t 6]
theorem ok39 : FnOk Tryz.prog 51 [] pureFns A39 R39 11 := ⟨⟨Tryz.f51, _, Tryz.func51, rfl, rfl, by kernel_rfl, by kernel_rfl⟩, by kernel_rfl⟩
def A40 : ACode := .seq (.reg [⟨some 4, none, .mv (.c (.nilsl))⟩, ⟨some 5, none, .mv (.c (.int .i64 0))⟩])
  (.seq (.block 0 (.seq (.reg [⟨some 10, none, .mv (.t 0)⟩, ⟨some 11, none, .pcall 58 [.c (.int .i64 2), .t 10, .c (.int .i64 10)]⟩, ⟨some 12, none, .un .not (.t 11)⟩, ⟨some 13, none, .mv (.t 12)⟩, ⟨some 14, some (13, false), .mv (.t 1)⟩, ⟨some 15, some (13, false), .mv (.t 0)⟩, ⟨some 16, some (13, false), .bin 0 .sub (.t 15) (.c (.int .i64 1))⟩, ⟨some 17, some (13, false), .pcall 58 [.c (.int .i64 1), .t 14, .t 16]⟩, ⟨some 18, some (13, false), .un .not (.t 17)⟩, ⟨some 19, none, .pick (.t 13) (.c (.bool true)) (.t 18)⟩, ⟨some 9, none, .mv (.t 19)⟩])
  (.cond (.t 9) (.seq (.reg [⟨some 4, none, .mv (.c (.nilsl))⟩, ⟨some 5, none, .mv (.c (.int .i64 4))⟩])
  (.ret)) (.seq (.reg [⟨some 21, none, .mv (.t 0)⟩, ⟨some 22, none, .mv (.t 1)⟩, ⟨some 23, none, .pcall 79 [.t 21, .t 22]⟩, ⟨some 24, none, .bin 0 .gtr (.t 23) (.c (.int .i64 1))⟩, ⟨some 20, none, .mv (.t 24)⟩])
  (.cond (.t 20) (.seq (.reg [⟨some 4, none, .mv (.c (.nilsl))⟩, ⟨some 5, none, .mv (.c (.int .i64 12))⟩])
  (.ret)) (.skip))))))
  (.seq (.reg [⟨some 25, none, .mv (.t 0)⟩, ⟨some 26, none, .make false 1 [.nilsl] (.t 25) (.t 25)⟩, ⟨some 6, none, .mv (.t 26)⟩])
  (.seq (.seq (.reg [⟨some 27, none, .mv (.t 6)⟩, ⟨some 28, none, .len false (.t 27)⟩, ⟨some 29, none, .mv (.c (.int .i64 0))⟩])
  (.block 1 (.loop (.seq (.reg [⟨some 30, none, .bin 0 .lss (.t 29) (.t 28)⟩])
  (.seq (.cond (.t 30) (.skip) (.exit 1))
  (.seq (.block 2 (.seq (.reg [⟨some 31, none, .mv (.t 29)⟩, ⟨some 7, none, .mv (.t 31)⟩])
  (.seq (.reg [⟨some 32, none, .mv (.t 0)⟩, ⟨some 33, none, .mv (.c (.int .i64 0))⟩])
  (.block 3 (.loop (.seq (.reg [⟨some 34, none, .bin 0 .lss (.t 33) (.t 32)⟩])
  (.seq (.cond (.t 34) (.skip) (.exit 3))
  (.seq (.block 4 (.seq (.reg [⟨some 35, none, .mv (.t 33)⟩, ⟨some 8, none, .mv (.t 35)⟩])
  (.regd [⟨some 36, none, .mv (.t 6)⟩, ⟨some 37, none, .mv (.t 7)⟩, ⟨some 38, none, .mv (.t 6)⟩, ⟨some 39, none, .mv (.t 7)⟩, ⟨some 40, none, .iaddrS 1 (.t 38) (.t 39)⟩, ⟨some 41, none, .load false 1 (.t 40)⟩, ⟨some 42, none, .mv (.t 1)⟩, ⟨some 43, none, .mv (.t 7)⟩, ⟨some 44, none, .bin 0 .mul (.t 42) (.t 43)⟩, ⟨some 45, none, .mv (.t 8)⟩, ⟨some 46, none, .bin 0 .add (.t 44) (.t 45)⟩, ⟨some 47, none, .mv (.t 0)⟩, ⟨some 48, none, .bin 0 .rem (.t 46) (.t 47)⟩, ⟨some 49, none, .buildSl 1 [.t 48]⟩, ⟨some 50, none, .append 1 (.t 41) (.t 49)⟩, ⟨some 51, none, .iaddrS 1 (.t 36) (.t 37)⟩, ⟨none, none, .store 1 (.t 51) (.t 50)⟩])))
  (.reg [⟨some 52, none, .bin 0 .add (.t 33) (.c (.int .i64 1))⟩, ⟨some 33, none, .mv (.t 52)⟩])))))))))
  (.reg [⟨some 53, none, .bin 0 .add (.t 29) (.c (.int .i64 1))⟩, ⟨some 29, none, .mv (.t 53)⟩])))))))
  (.seq (.reg [⟨some 54, none, .mv (.t 6)⟩, ⟨some 4, none, .mv (.t 54)⟩, ⟨some 5, none, .mv (.c (.int .i64 0))⟩])
  (.ret)))))
def R40 : List ARes := [.t 4, .t 5]
theorem ok40 : FnOk Tryz.prog 32 [] pureFns A40 R40 55 := ⟨⟨Tryz.f32, _, Tryz.func32, rfl, rfl, by kernel_rfl, by kernel_rfl⟩, by kernel_rfl⟩
def A69 : ACode := .seq (.reg [⟨some 2, none, .mv (.c (.int .i64 0))⟩])
  (.seq (.reg [⟨some 4, none, .mv (.t 0)⟩, ⟨some 5, none, .len false (.t 4)⟩, ⟨some 3, none, .alloc [.int .i64 0]⟩, ⟨none, none, .store 1 (.t 3) (.t 5)⟩])
  (.seq (.block 0 (.seq (.reg [⟨some 7, none, .load false 1 (.t 3)⟩, ⟨some 8, none, .pcall 58 [.c (.int .i64 2), .t 7, .c (.int .i64 10)]⟩, ⟨some 9, none, .un .not (.t 8)⟩, ⟨some 10, none, .mv (.t 9)⟩, ⟨some 11, some (10, false), .mv (.t 0)⟩, ⟨some 12, some (10, false), .mkfn (.func 111) [] [.t 3]⟩, ⟨some 13, some (10, false), .hcall 110 [.t 11, .t 12]⟩, ⟨some 14, none, .pick (.t 10) (.c (.bool true)) (.t 13)⟩, ⟨some 6, none, .mv (.t 14)⟩])
  (.cond (.t 6) (.seq (.reg [⟨some 2, none, .mv (.c (.int .i64 3))⟩])
  (.ret)) (.seq (.reg [⟨some 16, none, .mv (.t 0)⟩, ⟨some 17, none, .hcall 112 [.t 16]⟩, ⟨some 18, none, .mkfn (.func 113) [] [.t 3]⟩, ⟨some 19, none, .hcall 84 [.t 17, .t 18]⟩, ⟨some 15, none, .mv (.t 19)⟩])
  (.cond (.t 15) (.seq (.reg [⟨some 2, none, .mv (.c (.int .i64 4))⟩])
  (.ret)) (.seq (.reg [⟨some 21, none, .mv (.t 0)⟩, ⟨some 22, none, .pcall 114 [.t 21]⟩, ⟨some 20, none, .mv (.t 22)⟩])
  (.cond (.t 20) (.seq (.reg [⟨some 2, none, .mv (.c (.int .i64 6))⟩])
  (.ret)) (.skip))))))))
  (.seq (.reg [⟨some 2, none, .mv (.c (.int .i64 0))⟩])
  (.ret))))
def R69 : List ARes := [.t 2]
theorem ok69 : FnOk Tryz.prog 57 [] pureFns A69 R69 23 := ⟨⟨Tryz.f57, _, Tryz.func57, rfl, rfl, by kernel_rfl, by kernel_rfl⟩, by kernel_rfl⟩
def A70 : ACode := .seq (.reg [⟨some 4, none, .mv (.c (.bool false))⟩])
  (.seq (.reg [⟨some 5, none, .mv (.t 0)⟩, ⟨some 6, none, .mv (.t 1)⟩, ⟨some 7, none, .hcall 125 [.t 5, .t 6]⟩, ⟨some 8, none, .bin 0 .geq (.t 7) (.c (.int .i64 0))⟩, ⟨some 4, none, .mv (.t 8)⟩])
  (.ret))
def R70 : List ARes := [.t 4]
theorem ok70 : FnOk Tryz.prog 84 [] pureFns A70 R70 9 := ⟨⟨Tryz.f84, _, Tryz.func84, rfl, rfl, by kernel_rfl, by kernel_rfl⟩, by kernel_rfl⟩
def A71 : ACode := .seq (.reg [⟨some 3, none, .mv (.c (.bool false))⟩])
  (.seq (.reg [⟨some 4, none, .mv (.t 0)⟩, ⟨some 5, none, .load false 1 (.t 1)⟩, ⟨some 6, none, .len false (.t 5)⟩, ⟨some 7, none, .bin 0 .sub (.t 6) (.c (.int .i64 1))⟩, ⟨some 8, none, .pcall 58 [.c (.int .i64 0), .t 4, .t 7]⟩, ⟨some 9, none, .un .not (.t 8)⟩, ⟨some 3, none, .mv (.t 9)⟩])
  (.ret))
def R71 : List ARes := [.t 3]
theorem ok71 : FnOk Tryz.prog 104 [] pureFns A71 R71 10 := ⟨⟨Tryz.f104, _, Tryz.func104, rfl, rfl, by kernel_rfl, by kernel_rfl⟩, by kernel_rfl⟩
def A72 : ACode := .seq (.reg [⟨some 6, none, .mv (.c (.bool false))⟩])
  (.seq (.reg [⟨some 7, none, .mv (.t 0)⟩, ⟨some 8, none, .mv (.t 1)⟩, ⟨some 9, none, .bin 0 .leq (.t 7) (.t 8)⟩, ⟨some 10, none, .mv (.t 9)⟩, ⟨some 11, some (10, true), .mv (.t 1)⟩, ⟨some 12, some (10, true), .mv (.t 2)⟩, ⟨some 13, some (10, true), .bin 0 .leq (.t 11) (.t 12)⟩, ⟨some 14, none, .pick (.t 10) (.t 13) (.c (.bool false))⟩, ⟨some 6, none, .mv (.t 14)⟩])
  (.ret))
def R72 : List ARes := [.t 6]
theorem ok72 : FnOk Tryz.prog 58 [] pureFns A72 R72 15 := ⟨⟨Tryz.f58, _, Tryz.func58, rfl, rfl, by kernel_rfl, by kernel_rfl⟩, by kernel_rfl⟩
def A73 : ACode := .seq (.reg [⟨some 6, none, .mv (.c (.int .i64 0))⟩])
  (.seq (.seq (.reg [⟨some 9, none, .mv (.t 1)⟩, ⟨some 10, none, .len false (.t 9)⟩, ⟨some 11, none, .mv (.c (.int .i64 0))⟩])
  (.block 0 (.loop (.seq (.reg [⟨some 12, none, .bin 0 .lss (.t 11) (.t 10)⟩])
  (.seq (.cond (.t 12) (.skip) (.exit 0))
  (.seq (.block 1 (.seq (.reg [⟨some 13, none, .iaddrS 1 (.t 9) (.t 11)⟩, ⟨some 14, none, .load false 1 (.t 13)⟩, ⟨some 8, none, .mv (.t 14)⟩])
  (.reg [⟨some 15, none, .mv (.t 2)⟩, ⟨some 16, none, .mv (.t 0)⟩, ⟨some 17, none, .mv (.t 8)⟩, ⟨some 18, none, .callv (.t 15) [.t 16, .t 17]⟩, ⟨some 0, none, .mv (.t 18)⟩])))
  (.reg [⟨some 19, none, .bin 0 .add (.t 11) (.c (.int .i64 1))⟩, ⟨some 11, none, .mv (.t 19)⟩])))))))
  (.seq (.reg [⟨some 20, none, .mv (.t 0)⟩, ⟨some 6, none, .mv (.t 20)⟩])
  (.ret)))
def R73 : List ARes := [.t 6]
theorem ok73 : FnOk Tryz.prog 60 [] pureFns A73 R73 21 := ⟨⟨Tryz.f60, _, Tryz.func60, rfl, rfl, by kernel_rfl, by kernel_rfl⟩, by kernel_rfl⟩
def A74 : ACode := .seq (.reg [⟨some 5, none, .mv (.c (.int .i64 0))⟩])
  (.seq (.reg [⟨some 6, none, .load false 1 (.t 2)⟩, ⟨some 7, none, .mv (.t 0)⟩, ⟨some 8, none, .iaddrS 1 (.t 6) (.t 7)⟩, ⟨some 9, none, .load false 1 (.t 8)⟩, ⟨some 10, none, .mv (.t 1)⟩, ⟨some 11, none, .iaddrS 1 (.t 9) (.t 10)⟩, ⟨some 12, none, .load false 1 (.t 11)⟩, ⟨some 5, none, .mv (.t 12)⟩])
  (.ret))
def R74 : List ARes := [.t 5]
theorem ok74 : FnOk Tryz.prog 105 [] pureFns A74 R74 13 := ⟨⟨Tryz.f105, _, Tryz.func105, rfl, rfl, by kernel_rfl, by kernel_rfl⟩, by kernel_rfl⟩
def A75 : ACode := .seq (.reg [⟨some 4, none, .mv (.c (.int .i64 0))⟩])
  (.seq (.block 0 (.loop (.seq (.seq (.reg [⟨some 5, none, .mv (.t 1)⟩, ⟨some 6, none, .bin 0 .gtr (.t 5) (.c (.int .i64 0))⟩])
  (.cond (.t 6) (.skip) (.exit 0)))
  (.block 1 (.regd [⟨some 7, none, .mv (.t 1)⟩, ⟨some 8, none, .mv (.t 0)⟩, ⟨some 9, none, .mv (.t 1)⟩, ⟨some 10, none, .bin 0 .rem (.t 8) (.t 9)⟩, ⟨some 0, none, .mv (.t 7)⟩, ⟨some 1, none, .mv (.t 10)⟩])))))
  (.seq (.reg [⟨some 11, none, .mv (.t 0)⟩, ⟨some 4, none, .mv (.t 11)⟩])
  (.ret)))
def R75 : List ARes := [.t 4]
theorem ok75 : FnOk Tryz.prog 79 [] pureFns A75 R75 12 := ⟨⟨Tryz.f79, _, Tryz.func79, rfl, rfl, by kernel_rfl, by kernel_rfl⟩, by kernel_rfl⟩
def A96 : ACode := .seq (.reg [⟨some 4, none, .mv (.c (.bool false))⟩])
  (.seq (.reg [⟨some 5, none, .mv (.t 0)⟩, ⟨some 6, none, .mv (.t 1)⟩, ⟨some 7, none, .hcall 137 [.t 5, .t 6]⟩, ⟨some 8, none, .bin 0 .geq (.t 7) (.c (.int .i64 0))⟩, ⟨some 4, none, .mv (.t 8)⟩])
  (.ret))
def R96 : List ARes := [.t 4]
theorem ok96 : FnOk Tryz.prog 110 [] pureFns A96 R96 9 := ⟨⟨Tryz.f110, _, Tryz.func110, rfl, rfl, by kernel_rfl, by kernel_rfl⟩, by kernel_rfl⟩
def A97 : ACode := .seq (.reg [⟨some 3, none, .mv (.c (.bool false))⟩])
  (.seq (.reg [⟨some 4, none, .mv (.t 0)⟩, ⟨some 5, none, .len false (.t 4)⟩, ⟨some 6, none, .load false 1 (.t 1)⟩, ⟨some 7, none, .bin 0 .neq (.t 5) (.t 6)⟩, ⟨some 3, none, .mv (.t 7)⟩])
  (.ret))
def R97 : List ARes := [.t 3]
theorem ok97 : FnOk Tryz.prog 111 [] pureFns A97 R97 8 := ⟨⟨Tryz.f111, _, Tryz.func111, rfl, rfl, by kernel_rfl, by kernel_rfl⟩, by kernel_rfl⟩
def A98 : ACode := .seq (.reg [⟨some 3, none, .mv (.c (.bool false))⟩])
  (.seq (.reg [⟨some 4, none, .mv (.t 0)⟩, ⟨some 5, none, .load false 1 (.t 1)⟩, ⟨some 6, none, .bin 0 .sub (.t 5) (.c (.int .i64 1))⟩, ⟨some 7, none, .pcall 58 [.c (.int .i64 0), .t 4, .t 6]⟩, ⟨some 8, none, .un .not (.t 7)⟩, ⟨some 3, none, .mv (.t 8)⟩])
  (.ret))
def R98 : List ARes := [.t 3]
theorem ok98 : FnOk Tryz.prog 113 [] pureFns A98 R98 9 := ⟨⟨Tryz.f113, _, Tryz.func113, rfl, rfl, by kernel_rfl, by kernel_rfl⟩, by kernel_rfl⟩
def A99 : ACode := .seq (.reg [⟨some 2, none, .mv (.c (.bool false))⟩])
  (.scope (.seq (.reg [⟨some 3, none, .mv (.c (.bool false))⟩])
  (.seq (.label 0)
  (.seq (.seq (.reg [⟨some 10, none, .mv (.t 0)⟩, ⟨some 11, none, .len false (.t 10)⟩, ⟨some 12, none, .mv (.c (.int .i64 0))⟩])
  (.block 0 (.loop (.seq (.reg [⟨some 13, none, .bin 0 .lss (.t 12) (.t 11)⟩])
  (.seq (.cond (.t 13) (.skip) (.exit 0))
  (.seq (.block 1 (.seq (.reg [⟨some 14, none, .mv (.t 12)⟩, ⟨some 4, none, .mv (.t 14)⟩])
  (.seq (.reg [⟨some 5, none, .alloc [.bool false, .bool false, .bool false, .bool false, .bool false, .bool false, .bool false, .bool false, .bool false, .bool false]⟩, ⟨some 6, none, .alloc [.bool false, .bool false, .bool false, .bool false, .bool false, .bool false, .bool false, .bool false, .bool false, .bool false]⟩])
  (.seq (.reg [⟨some 15, none, .mv (.t 0)⟩, ⟨some 16, none, .len false (.t 15)⟩, ⟨some 17, none, .mv (.c (.int .i64 0))⟩])
  (.block 2 (.loop (.seq (.reg [⟨some 18, none, .bin 0 .lss (.t 17) (.t 16)⟩])
  (.seq (.cond (.t 18) (.skip) (.exit 2))
  (.seq (.block 3 (.seq (.reg [⟨some 19, none, .mv (.t 17)⟩, ⟨some 7, none, .mv (.t 19)⟩])
  (.seq (.regd [⟨some 20, none, .mv (.t 0)⟩, ⟨some 21, none, .mv (.t 4)⟩, ⟨some 22, none, .iaddrS 1 (.t 20) (.t 21)⟩, ⟨some 23, none, .load false 1 (.t 22)⟩, ⟨some 24, none, .mv (.t 7)⟩, ⟨some 25, none, .iaddrS 1 (.t 23) (.t 24)⟩, ⟨some 26, none, .load false 1 (.t 25)⟩, ⟨some 27, none, .mv (.t 0)⟩, ⟨some 28, none, .mv (.t 7)⟩, ⟨some 29, none, .iaddrS 1 (.t 27) (.t 28)⟩, ⟨some 30, none, .load false 1 (.t 29)⟩, ⟨some 31, none, .mv (.t 4)⟩, ⟨some 32, none, .iaddrS 1 (.t 30) (.t 31)⟩, ⟨some 33, none, .load false 1 (.t 32)⟩, ⟨some 8, none, .mv (.t 26)⟩, ⟨some 9, none, .mv (.t 33)⟩])
  (.seq (.seq (.reg [⟨some 34, none, .mv (.t 8)⟩, ⟨some 35, none, .iaddrA 10 false 1 (.t 5) (.t 34)⟩, ⟨some 36, none, .load false 1 (.t 35)⟩, ⟨some 37, none, .mv (.t 36)⟩, ⟨some 38, some (37, false), .mv (.t 9)⟩, ⟨some 39, some (37, false), .iaddrA 10 false 1 (.t 6) (.t 38)⟩, ⟨some 40, some (37, false), .load false 1 (.t 39)⟩, ⟨some 41, none, .pick (.t 37) (.c (.bool true)) (.t 40)⟩])
  (.cond (.t 41) (.seq (.reg [⟨some 3, none, .mv (.c (.bool true))⟩])
  (.exit 0)) (.skip)))
  (.reg [⟨some 42, none, .mv (.t 8)⟩, ⟨some 43, none, .mv (.t 9)⟩, ⟨some 44, none, .iaddrA 10 false 1 (.t 5) (.t 42)⟩, ⟨none, none, .store 1 (.t 44) (.c (.bool true))⟩, ⟨some 45, none, .iaddrA 10 false 1 (.t 6) (.t 43)⟩, ⟨none, none, .store 1 (.t 45) (.c (.bool true))⟩])))))
  (.reg [⟨some 46, none, .bin 0 .add (.t 17) (.c (.int .i64 1))⟩, ⟨some 17, none, .mv (.t 46)⟩]))))))))))
  (.reg [⟨some 47, none, .bin 0 .add (.t 12) (.c (.int .i64 1))⟩, ⟨some 12, none, .mv (.t 47)⟩])))))))
  (.seq (.reg [⟨some 48, none, .mv (.t 3)⟩, ⟨some 2, none, .mv (.t 48)⟩])
  (.ret))))))
def R99 : List ARes := [.t 2]
theorem ok99 : FnOk Tryz.prog 114 [] pureFns A99 R99 49 := ⟨⟨Tryz.f114, _, Tryz.func114, rfl, rfl, by kernel_rfl, by kernel_rfl⟩, by kernel_rfl⟩
def A100 : ACode := .seq (.reg [⟨some 4, none, .mv (.c (.int .i64 0))⟩])
  (.seq (.seq (.reg [⟨some 6, none, .mv (.t 0)⟩, ⟨some 7, none, .len false (.t 6)⟩, ⟨some 8, none, .mv (.c (.int .i64 0))⟩])
  (.block 0 (.loop (.seq (.reg [⟨some 9, none, .bin 0 .lss (.t 8) (.t 7)⟩])
  (.seq (.cond (.t 9) (.skip) (.exit 0))
  (.seq (.block 1 (.seq (.reg [⟨some 10, none, .mv (.t 8)⟩, ⟨some 5, none, .mv (.t 10)⟩])
  (.seq (.reg [⟨some 11, none, .mv (.t 1)⟩, ⟨some 12, none, .mv (.t 0)⟩, ⟨some 13, none, .mv (.t 5)⟩, ⟨some 14, none, .iaddrS 1 (.t 12) (.t 13)⟩, ⟨some 15, none, .load false 1 (.t 14)⟩, ⟨some 16, none, .callv (.t 11) [.t 15]⟩])
  (.cond (.t 16) (.seq (.reg [⟨some 17, none, .mv (.t 5)⟩, ⟨some 4, none, .mv (.t 17)⟩])
  (.ret)) (.skip)))))
  (.reg [⟨some 18, none, .bin 0 .add (.t 8) (.c (.int .i64 1))⟩, ⟨some 8, none, .mv (.t 18)⟩])))))))
  (.seq (.reg [⟨some 4, none, .mv (.c (.int .i64 (-1)))⟩])
  (.ret)))
def R100 : List ARes := [.t 4]
theorem ok100 : FnOk Tryz.prog 125 [] pureFns A100 R100 19 := ⟨⟨Tryz.f125, _, Tryz.func125, rfl, rfl, by kernel_rfl, by kernel_rfl⟩, by kernel_rfl⟩
def A122 : ACode := .seq (.reg [⟨some 4, none, .mv (.c (.int .i64 0))⟩])
  (.seq (.seq (.reg [⟨some 6, none, .mv (.t 0)⟩, ⟨some 7, none, .len false (.t 6)⟩, ⟨some 8, none, .mv (.c (.int .i64 0))⟩])
  (.block 0 (.loop (.seq (.reg [⟨some 9, none, .bin 0 .lss (.t 8) (.t 7)⟩])
  (.seq (.cond (.t 9) (.skip) (.exit 0))
  (.seq (.block 1 (.seq (.reg [⟨some 10, none, .mv (.t 8)⟩, ⟨some 5, none, .mv (.t 10)⟩])
  (.seq (.reg [⟨some 11, none, .mv (.t 1)⟩, ⟨some 12, none, .mv (.t 0)⟩, ⟨some 13, none, .mv (.t 5)⟩, ⟨some 14, none, .iaddrS 1 (.t 12) (.t 13)⟩, ⟨some 15, none, .load false 1 (.t 14)⟩, ⟨some 16, none, .callv (.t 11) [.t 15]⟩])
  (.cond (.t 16) (.seq (.reg [⟨some 17, none, .mv (.t 5)⟩, ⟨some 4, none, .mv (.t 17)⟩])
  (.ret)) (.skip)))))
  (.reg [⟨some 18, none, .bin 0 .add (.t 8) (.c (.int .i64 1))⟩, ⟨some 8, none, .mv (.t 18)⟩])))))))
  (.seq (.reg [⟨some 4, none, .mv (.c (.int .i64 (-1)))⟩])
  (.ret)))
def R122 : List ARes := [.t 4]
theorem ok122 : FnOk Tryz.prog 137 [] pureFns A122 R122 19 := ⟨⟨Tryz.f137, _, Tryz.func137, rfl, rfl, by kernel_rfl, by kernel_rfl⟩, by kernel_rfl⟩

end Go.Proofs.YtdcpkgedaflnmaaGreatDoor.Se
namespace Go.Proofs.YtdcpkgedaflnmaaGreatDoor.Cw
open Go Fw
def pureFns : List Nat := [0,1,2,3,4,5,6,7,8,9,10,11,12,13,14,15,16,17,18,19,20,21,22,23,24,25,26,27,28,29,30,31,32,33,34,35,36,37,38,39,40,41,42,43,44,45,46,47,48,49,50,51,52,53,54,55,56,57,58,59,60,61,62,63,64,65,66,67,68,69,70,71,72,73,74,75,76,77,78,79,80,81,82,83,84,85,86,87,88,89,90,91,92,93,94,95,96,97,98,99,100,101,102,103,104,105,106,107,108,109,110,111,112,113,114,115,116,117,118,119,120,121,122,123,124,125,126,127,128,129,130,131,132,133,134,135,136,137,138,139,140,141,142,143,144,145,146,147,148,149,150,151,152,153,154,155,156,157,158,159,160,161,162,163,164,165,166,167,168,169,170,171,172,173,174,175,176,177,178,179,180,181,182,183,184,185,186,187,188,189,190,191,192,193,194,195,196,197,198,199,200,201,202,203,204,205,206]
def A16 : ACode := .seq (.reg [⟨some 0, none, .mv (.c (.bool false))⟩])
  (.seq (.reg [⟨some 10, none, .pcall 32 [.c (.int .i64 5), .c (.int .i64 2)]⟩, ⟨some 9, none, .mv (.t 10)⟩, ⟨some 11, none, .extract (.t 9) 0⟩, ⟨some 12, none, .extract (.t 9) 1⟩, ⟨some 1, none, .mv (.t 11)⟩, ⟨some 2, none, .mv (.t 12)⟩])
  (.seq (.reg [⟨some 14, none, .mv (.t 1)⟩, ⟨some 15, none, .buildSl 1 [.c (.int .i64 1), .c (.int .i64 2)]⟩, ⟨some 16, none, .pcall 17 [.t 14, .t 15]⟩, ⟨some 13, none, .mv (.t 16)⟩, ⟨some 17, none, .extract (.t 13) 0⟩, ⟨some 18, none, .extract (.t 13) 1⟩, ⟨some 3, none, .mv (.t 17)⟩, ⟨some 4, none, .mv (.t 18)⟩])
  (.seq (.reg [⟨some 20, none, .buildSl 1 [.c (.int .i64 3), .c (.int .i64 1), .c (.int .i64 2)]⟩, ⟨some 21, none, .build [.nilsl, .str (bs [])] [(0, 1, (.t 20)), (1, 1, (.c (.str (bs [118, 109]))))]⟩, ⟨some 22, none, .pcall 27 [.t 21]⟩, ⟨some 19, none, .mv (.t 22)⟩, ⟨some 23, none, .extract (.t 19) 0⟩, ⟨some 24, none, .extract (.t 19) 1⟩, ⟨some 5, none, .mv (.t 23)⟩, ⟨some 6, none, .mv (.t 24)⟩])
  (.seq (.reg [⟨some 26, none, .pcall 116 [.c (.int .i64 23)]⟩, ⟨some 25, none, .mv (.t 26)⟩, ⟨some 27, none, .extract (.t 25) 0⟩, ⟨some 28, none, .extract (.t 25) 1⟩, ⟨some 7, none, .mv (.t 27)⟩, ⟨some 8, none, .mv (.t 28)⟩])
  (.seq (.reg [⟨some 29, none, .mv (.t 2)⟩, ⟨some 30, none, .bin 0 .eql (.t 29) (.c (.int .i64 0))⟩, ⟨some 31, none, .mv (.t 30)⟩, ⟨some 32, some (31, true), .mv (.t 4)⟩, ⟨some 33, some (31, true), .bin 0 .eql (.t 32) (.c (.int .i64 0))⟩, ⟨some 34, none, .pick (.t 31) (.t 33) (.c (.bool false))⟩, ⟨some 35, none, .mv (.t 34)⟩, ⟨some 36, some (35, true), .mv (.t 6)⟩, ⟨some 37, some (35, true), .bin 0 .eql (.t 36) (.c (.int .i64 0))⟩, ⟨some 38, none, .pick (.t 35) (.t 37) (.c (.bool false))⟩, ⟨some 39, none, .mv (.t 38)⟩, ⟨some 40, some (39, true), .mv (.t 8)⟩, ⟨some 41, some (39, true), .bin 0 .eql (.t 40) (.c (.int .i64 0))⟩, ⟨some 42, none, .pick (.t 39) (.t 41) (.c (.bool false))⟩, ⟨some 43, none, .mv (.t 42)⟩, ⟨some 44, some (43, true), .mv (.t 3)⟩, ⟨some 45, some (43, true), .bin 0 .eql (.t 44) (.c (.int .i64 4))⟩, ⟨some 46, none, .pick (.t 43) (.t 45) (.c (.bool false))⟩, ⟨some 47, none, .mv (.t 46)⟩, ⟨some 48, some (47, true), .mv (.t 5)⟩, ⟨some 49, some (47, true), .len false (.t 48)⟩, ⟨some 50, some (47, true), .bin 0 .eql (.t 49) (.c (.int .i64 3))⟩, ⟨some 51, none, .pick (.t 47) (.t 50) (.c (.bool false))⟩, ⟨some 52, none, .mv (.t 51)⟩, ⟨some 53, some (52, true), .mv (.t 5)⟩, ⟨some 54, some (52, true), .iaddrS 1 (.t 53) (.c (.int .i64 1))⟩, ⟨some 55, some (52, true), .load false 1 (.t 54)⟩, ⟨some 56, some (52, true), .bin 0 .eql (.t 55) (.c (.int .i64 1))⟩, ⟨some 57, none, .pick (.t 52) (.t 56) (.c (.bool false))⟩, ⟨some 58, none, .mv (.t 57)⟩, ⟨some 59, some (58, true), .mv (.t 7)⟩, ⟨some 60, some (58, true), .bin 0 .eql (.t 59) (.c (.int .i64 6))⟩, ⟨some 61, none, .pick (.t 58) (.t 60) (.c (.bool false))⟩, ⟨some 0, none, .mv (.t 61)⟩])
  (.ret))))))
def R16 : List ARes := [.t 0]
theorem ok16 : FnOk Tryz.prog 63 [] pureFns A16 R16 62 := ⟨⟨Tryz.f63, _, Tryz.func63, rfl, rfl, by kernel_rfl, by kernel_rfl⟩, by kernel_rfl⟩

end Go.Proofs.YtdcpkgedaflnmaaGreatDoor.Cw
