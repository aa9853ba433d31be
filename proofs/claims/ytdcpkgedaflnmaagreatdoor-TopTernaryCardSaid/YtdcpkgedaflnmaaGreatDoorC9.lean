/-
  Functions of this seat's translation, compacted, each held against the loaded program by the kernel. Printed by wip/tools/Gex.lean.
  The pieces of letters.Count, each held against the loaded program by the kernel. Printed by wip/tools/Gey.lean.
-/
import Derived.Test.YtdcpkgedaflnmaaGreatDoorProg
import Derived.Test.YtdcpkgedaflnmaaGreatDoorFx2
import Derived.KernelRfl
import Derived.Test.YtdcpkgedaflnmaaGreatDoorFx6
namespace Go.Proofs.YtdcpkgedaflnmaaGreatDoor.Wm
open Go Fw
def pureFns : List Nat := [0,1,2,3,4,5,6,7,8,9,10,11,12,13,14,15,16,17,18,19,20,21,22,23,24,25,26,27,28,29,30,31,32,33,34,35,36,37,38,39,40,41,42,43,44,45,46,47,48,49,50,51,52,53,54,55,56,57,58,59,60,61,62,63,64,65,66,67,68,69,70,71,72,73,74,75,76,77,78,79,80,82,83,85,86,87,88,89,90,91,92,93,94,95,96,97,98,99,100,101,102,103,104,105,106,107,108,109,111,112,113,114,115,116,117,118,119,120,121,122,123,124,126,127,128,129,130,131,132,133,134,135,136,138,139,140,141,142,143,144,145,146,147,148,149,150,151,152,153,154,155,156,157,158,159,160,161,162,163,164,165,166,167,168,169,170,171,172,173,174,175,176,177,178,179,180,181,182,183,184,185,186,187,188,189,190,191,192,193,194,195,196,197,198,199,200,201,202,203,204,205,206]
def A36 : ACode := .seq (.reg [⟨some 0, none, .mv (.c (.bool false))⟩])
  (.seq (.reg [⟨some 6, none, .buildSl 1 [.c (.int .i64 1), .c (.int .i64 3), .c (.int .i64 9)]⟩, ⟨some 7, none, .pcall 33 [.t 6, .c (.int .i64 5)]⟩, ⟨some 5, none, .mv (.t 7)⟩, ⟨some 8, none, .extract (.t 5) 0⟩, ⟨some 9, none, .extract (.t 5) 1⟩, ⟨some 1, none, .mv (.t 8)⟩, ⟨some 2, none, .mv (.t 9)⟩])
  (.seq (.reg [⟨some 11, none, .buildSl 1 [.c (.int .i64 0), .c (.int .i64 0), .c (.int .i64 0)]⟩, ⟨some 12, none, .buildSl 1 [.c (.int .i64 1), .c (.int .i64 1), .c (.int .i64 1)]⟩, ⟨some 13, none, .buildSl 1 [.c (.int .i64 2), .c (.int .i64 2), .c (.int .i64 2)]⟩, ⟨some 14, none, .buildSl 1 [.t 11, .t 12, .t 13]⟩, ⟨some 15, none, .build [.int .i64 0, .nilsl] [(0, 1, (.c (.int .i64 3))), (1, 1, (.t 14))]⟩, ⟨some 16, none, .pcall 87 [.t 15]⟩, ⟨some 10, none, .mv (.t 16)⟩, ⟨some 17, none, .extract (.t 10) 0⟩, ⟨some 18, none, .extract (.t 10) 1⟩, ⟨some 3, none, .mv (.t 17)⟩, ⟨some 4, none, .mv (.t 18)⟩])
  (.seq (.reg [⟨some 19, none, .mv (.t 2)⟩, ⟨some 20, none, .bin 0 .eql (.t 19) (.c (.int .i64 0))⟩, ⟨some 21, none, .mv (.t 20)⟩, ⟨some 22, some (21, true), .mv (.t 4)⟩, ⟨some 23, some (21, true), .bin 0 .eql (.t 22) (.c (.int .i64 0))⟩, ⟨some 24, none, .pick (.t 21) (.t 23) (.c (.bool false))⟩, ⟨some 25, none, .mv (.t 24)⟩, ⟨some 26, some (25, true), .mv (.t 1)⟩, ⟨some 27, some (25, true), .len false (.t 26)⟩, ⟨some 28, some (25, true), .bin 0 .eql (.t 27) (.c (.int .i64 3))⟩, ⟨some 29, none, .pick (.t 25) (.t 28) (.c (.bool false))⟩, ⟨some 30, none, .mv (.t 29)⟩, ⟨some 31, some (30, true), .mv (.t 1)⟩, ⟨some 32, some (30, true), .iaddrS 1 (.t 31) (.c (.int .i64 0))⟩, ⟨some 33, some (30, true), .load false 1 (.t 32)⟩, ⟨some 34, some (30, true), .bin 0 .eql (.t 33) (.c (.int .i64 (-1)))⟩, ⟨some 35, none, .pick (.t 30) (.t 34) (.c (.bool false))⟩, ⟨some 36, none, .mv (.t 35)⟩, ⟨some 37, some (36, true), .mv (.t 1)⟩, ⟨some 38, some (36, true), .iaddrS 1 (.t 37) (.c (.int .i64 2))⟩, ⟨some 39, some (36, true), .load false 1 (.t 38)⟩, ⟨some 40, some (36, true), .bin 0 .eql (.t 39) (.c (.int .i64 1))⟩, ⟨some 41, none, .pick (.t 36) (.t 40) (.c (.bool false))⟩, ⟨some 42, none, .mv (.t 41)⟩, ⟨some 43, some (42, true), .mv (.t 3)⟩, ⟨some 44, some (42, true), .bin 0 .eql (.t 43) (.c (.int .i64 3))⟩, ⟨some 45, none, .pick (.t 42) (.t 44) (.c (.bool false))⟩, ⟨some 46, none, .mv (.t 45)⟩, ⟨some 47, some (46, true), .pcall 88 []⟩, ⟨some 48, none, .pick (.t 46) (.t 47) (.c (.bool false))⟩, ⟨some 0, none, .mv (.t 48)⟩])
  (.ret))))
def R36 : List ARes := [.t 0]
theorem ok36 : FnOk Tryz.prog 36 [] pureFns A36 R36 49 := ⟨⟨Tryz.f36, _, Tryz.func36, rfl, rfl, by kernel_rfl, by kernel_rfl⟩, by kernel_rfl⟩
def A88 : ACode := .seq (.reg [⟨some 0, none, .mv (.c (.bool false))⟩])
  (.seq (.reg [⟨some 4, none, .build [.int .i64 0, .int .i64 0] [(0, 1, (.c (.int .i64 0))), (1, 1, (.c (.int .i64 2)))]⟩, ⟨some 5, none, .build [.int .i64 0, .int .i64 0] [(0, 1, (.c (.int .i64 0))), (1, 1, (.c (.int .i64 3)))]⟩, ⟨some 6, none, .build [.int .i64 0, .int .i64 0] [(0, 1, (.c (.int .i64 1))), (1, 1, (.c (.int .i64 3)))]⟩, ⟨some 7, none, .buildSl 2 [.t 4, .t 5, .t 6]⟩, ⟨some 8, none, .build [.int .i64 0, .nilsl] [(0, 1, (.c (.int .i64 4))), (1, 1, (.t 7))]⟩, ⟨some 9, none, .pcall 129 [.t 8, .c (.str (bs [100, 97, 99, 98]))]⟩, ⟨some 3, none, .mv (.t 9)⟩, ⟨some 10, none, .extract (.t 3) 0⟩, ⟨some 11, none, .extract (.t 3) 1⟩, ⟨some 1, none, .mv (.t 10)⟩, ⟨some 2, none, .mv (.t 11)⟩])
  (.seq (.reg [⟨some 12, none, .mv (.t 2)⟩, ⟨some 13, none, .bin 0 .eql (.t 12) (.c (.int .i64 0))⟩, ⟨some 14, none, .mv (.t 13)⟩, ⟨some 15, some (14, true), .mv (.t 1)⟩, ⟨some 16, some (14, true), .bin 0 .eql (.t 15) (.c (.int .i64 3))⟩, ⟨some 17, none, .pick (.t 14) (.t 16) (.c (.bool false))⟩, ⟨some 18, none, .mv (.t 17)⟩, ⟨some 19, some (18, true), .pcall 9 []⟩, ⟨some 20, none, .pick (.t 18) (.t 19) (.c (.bool false))⟩, ⟨some 0, none, .mv (.t 20)⟩])
  (.ret)))
def R88 : List ARes := [.t 0]
theorem ok88 : FnOk Tryz.prog 88 [] pureFns A88 R88 21 := ⟨⟨Tryz.f88, _, Tryz.func88, rfl, rfl, by kernel_rfl, by kernel_rfl⟩, by kernel_rfl⟩
def A87 : ACode := .seq (.reg [⟨some 1, none, .boxi (.t 0)⟩, ⟨some 2, none, .mv (.c (.int .i64 0))⟩, ⟨some 3, none, .mv (.c (.int .i64 0))⟩])
  (.seq (.reg [⟨some 10, none, .load true 2 (.t 1)⟩, ⟨some 11, none, .pcall 126 [.t 10]⟩, ⟨some 4, none, .mv (.t 11)⟩])
  (.seq (.block 0 (.seq (.reg [⟨some 13, none, .mv (.t 4)⟩, ⟨some 14, none, .bin 0 .neq (.t 13) (.c (.int .i64 0))⟩, ⟨some 12, none, .mv (.t 14)⟩])
  (.cond (.t 12) (.seq (.reg [⟨some 15, none, .mv (.t 4)⟩, ⟨some 2, none, .mv (.c (.int .i64 0))⟩, ⟨some 3, none, .mv (.t 15)⟩])
  (.ret)) (.seq (.reg [⟨some 17, none, .faddr false 1 1 (.t 1)⟩, ⟨some 18, none, .load false 1 (.t 17)⟩, ⟨some 19, none, .len false (.t 18)⟩, ⟨some 20, none, .bin 0 .eql (.t 19) (.c (.int .i64 1))⟩, ⟨some 16, none, .mv (.t 20)⟩])
  (.cond (.t 16) (.seq (.reg [⟨some 2, none, .mv (.c (.int .i64 0))⟩, ⟨some 3, none, .mv (.c (.int .i64 14))⟩])
  (.ret)) (.skip))))))
  (.seq (.reg [⟨some 21, none, .load true 2 (.t 1)⟩, ⟨some 22, none, .pcall 127 [.t 21]⟩, ⟨some 5, none, .mv (.t 22)⟩])
  (.seq (.seq (.reg [⟨some 23, none, .faddr false 1 1 (.t 1)⟩, ⟨some 24, none, .load false 1 (.t 23)⟩, ⟨some 25, none, .len false (.t 24)⟩, ⟨some 26, none, .mv (.c (.int .i64 0))⟩])
  (.block 1 (.loop (.seq (.reg [⟨some 27, none, .bin 0 .lss (.t 26) (.t 25)⟩])
  (.seq (.cond (.t 27) (.skip) (.exit 1))
  (.seq (.block 2 (.seq (.reg [⟨some 28, none, .mv (.t 26)⟩, ⟨some 29, none, .iaddrS 1 (.t 24) (.t 26)⟩, ⟨some 30, none, .load false 1 (.t 29)⟩, ⟨some 6, none, .mv (.t 28)⟩, ⟨some 7, none, .mv (.t 30)⟩])
  (.seq (.reg [⟨some 31, none, .faddr false 1 1 (.t 1)⟩, ⟨some 32, none, .load false 1 (.t 31)⟩, ⟨some 33, none, .mv (.t 6)⟩, ⟨some 34, none, .slice 1 (.t 32) none (some (.t 33)) none⟩, ⟨some 35, none, .len false (.t 34)⟩, ⟨some 36, none, .mv (.c (.int .i64 0))⟩])
  (.block 3 (.loop (.seq (.reg [⟨some 37, none, .bin 0 .lss (.t 36) (.t 35)⟩])
  (.seq (.cond (.t 37) (.skip) (.exit 3))
  (.seq (.block 4 (.seq (.reg [⟨some 38, none, .iaddrS 1 (.t 34) (.t 36)⟩, ⟨some 39, none, .load false 1 (.t 38)⟩, ⟨some 9, none, .mv (.t 39)⟩])
  (.reg [⟨some 40, none, .mv (.t 5)⟩, ⟨some 41, none, .mv (.t 7)⟩, ⟨some 42, none, .mv (.t 9)⟩, ⟨some 43, none, .pcall 128 [.t 41, .t 42]⟩, ⟨some 44, none, .min (.t 40) (.t 43)⟩, ⟨some 5, none, .mv (.t 44)⟩])))
  (.reg [⟨some 45, none, .bin 0 .add (.t 36) (.c (.int .i64 1))⟩, ⟨some 36, none, .mv (.t 45)⟩])))))))))
  (.reg [⟨some 46, none, .bin 0 .add (.t 26) (.c (.int .i64 1))⟩, ⟨some 26, none, .mv (.t 46)⟩])))))))
  (.seq (.reg [⟨some 47, none, .mv (.t 5)⟩, ⟨some 2, none, .mv (.t 47)⟩, ⟨some 3, none, .mv (.c (.int .i64 0))⟩])
  (.ret))))))
def R87 : List ARes := [.t 2, .t 3]
theorem ok87 : FnOk Tryz.prog 87 [] pureFns A87 R87 48 := ⟨⟨Tryz.f87, _, Tryz.func87, rfl, rfl, by kernel_rfl, by kernel_rfl⟩, by kernel_rfl⟩
def A126 : ACode := .seq (.reg [⟨some 1, none, .boxi (.t 0)⟩, ⟨some 2, none, .mv (.c (.int .i64 0))⟩])
  (.seq (.block 0 (.seq (.reg [⟨some 7, none, .faddr false 1 0 (.t 1)⟩, ⟨some 8, none, .load false 1 (.t 7)⟩, ⟨some 9, none, .pcall 149 [.c (.int .i64 2), .t 8, .c (.int .i64 4)]⟩, ⟨some 10, none, .un .not (.t 9)⟩, ⟨some 6, none, .mv (.t 10)⟩])
  (.cond (.t 6) (.seq (.reg [⟨some 2, none, .mv (.c (.int .i64 4))⟩])
  (.ret)) (.seq (.reg [⟨some 12, none, .faddr false 1 1 (.t 1)⟩, ⟨some 13, none, .load false 1 (.t 12)⟩, ⟨some 14, none, .len false (.t 13)⟩, ⟨some 15, none, .bin 0 .eql (.t 14) (.c (.int .i64 0))⟩, ⟨some 11, none, .mv (.t 15)⟩])
  (.cond (.t 11) (.seq (.reg [⟨some 2, none, .mv (.c (.int .i64 1))⟩])
  (.ret)) (.seq (.reg [⟨some 17, none, .faddr false 1 1 (.t 1)⟩, ⟨some 18, none, .load false 1 (.t 17)⟩, ⟨some 19, none, .len false (.t 18)⟩, ⟨some 20, none, .bin 0 .gtr (.t 19) (.c (.int .i64 10))⟩, ⟨some 16, none, .mv (.t 20)⟩])
  (.cond (.t 16) (.seq (.reg [⟨some 2, none, .mv (.c (.int .i64 2))⟩])
  (.ret)) (.seq (.reg [⟨some 22, none, .load true 2 (.t 1)⟩, ⟨some 23, none, .pcall 127 [.t 22]⟩, ⟨some 24, none, .pcall 149 [.c (.int .i64 1), .t 23, .c (.int .i64 8)]⟩, ⟨some 25, none, .un .not (.t 24)⟩, ⟨some 26, none, .mv (.t 25)⟩, ⟨some 27, some (26, false), .faddr false 1 1 (.t 1)⟩, ⟨some 28, some (26, false), .load false 1 (.t 27)⟩, ⟨some 29, some (26, false), .mkfn (.func 150) [] [.t 1]⟩, ⟨some 30, some (26, false), .hcall 110 [.t 28, .t 29]⟩, ⟨some 31, none, .pick (.t 26) (.c (.bool true)) (.t 30)⟩, ⟨some 21, none, .mv (.t 31)⟩])
  (.cond (.t 21) (.seq (.reg [⟨some 2, none, .mv (.c (.int .i64 3))⟩])
  (.ret)) (.skip))))))))))
  (.seq (.seq (.reg [⟨some 32, none, .faddr false 1 1 (.t 1)⟩, ⟨some 33, none, .load false 1 (.t 32)⟩, ⟨some 34, none, .len false (.t 33)⟩, ⟨some 35, none, .mv (.c (.int .i64 0))⟩])
  (.block 1 (.loop (.seq (.reg [⟨some 36, none, .bin 0 .lss (.t 35) (.t 34)⟩])
  (.seq (.cond (.t 36) (.skip) (.exit 1))
  (.seq (.block 2 (.seq (.reg [⟨some 37, none, .iaddrS 1 (.t 33) (.t 35)⟩, ⟨some 38, none, .load false 1 (.t 37)⟩, ⟨some 4, none, .mv (.t 38)⟩])
  (.seq (.reg [⟨some 39, none, .load true 2 (.t 1)⟩, ⟨some 40, none, .mv (.t 4)⟩, ⟨some 41, none, .pcall 151 [.t 39, .t 40]⟩, ⟨some 5, none, .mv (.t 41)⟩])
  (.seq (.reg [⟨some 42, none, .mv (.t 5)⟩, ⟨some 43, none, .bin 0 .neq (.t 42) (.c (.int .i64 0))⟩])
  (.cond (.t 43) (.seq (.reg [⟨some 44, none, .mv (.t 5)⟩, ⟨some 2, none, .mv (.t 44)⟩])
  (.ret)) (.skip))))))
  (.reg [⟨some 45, none, .bin 0 .add (.t 35) (.c (.int .i64 1))⟩, ⟨some 35, none, .mv (.t 45)⟩])))))))
  (.seq (.reg [⟨some 2, none, .mv (.c (.int .i64 0))⟩])
  (.ret))))
def R126 : List ARes := [.t 2]
theorem ok126 : FnOk Tryz.prog 126 [] pureFns A126 R126 46 := ⟨⟨Tryz.f126, _, Tryz.func126, rfl, rfl, by kernel_rfl, by kernel_rfl⟩, by kernel_rfl⟩
def A127 : ACode := .seq (.reg [⟨some 1, none, .boxi (.t 0)⟩, ⟨some 2, none, .mv (.c (.int .i64 0))⟩])
  (.seq (.reg [⟨some 3, none, .faddr false 1 1 (.t 1)⟩, ⟨some 4, none, .load false 1 (.t 3)⟩, ⟨some 5, none, .iaddrS 1 (.t 4) (.c (.int .i64 0))⟩, ⟨some 6, none, .load false 1 (.t 5)⟩, ⟨some 7, none, .len false (.t 6)⟩, ⟨some 2, none, .mv (.t 7)⟩])
  (.ret))
def R127 : List ARes := [.t 2]
theorem ok127 : FnOk Tryz.prog 127 [] pureFns A127 R127 8 := ⟨⟨Tryz.f127, _, Tryz.func127, rfl, rfl, by kernel_rfl, by kernel_rfl⟩, by kernel_rfl⟩
def A128 : ACode := .seq (.reg [⟨some 4, none, .mv (.c (.int .i64 0))⟩])
  (.seq (.reg [⟨some 5, none, .mv (.c (.int .i64 0))⟩])
  (.seq (.seq (.reg [⟨some 8, none, .mv (.t 0)⟩, ⟨some 9, none, .len false (.t 8)⟩, ⟨some 10, none, .mv (.c (.int .i64 0))⟩])
  (.block 0 (.loop (.seq (.reg [⟨some 11, none, .bin 0 .lss (.t 10) (.t 9)⟩])
  (.seq (.cond (.t 11) (.skip) (.exit 0))
  (.seq (.block 1 (.seq (.reg [⟨some 12, none, .mv (.t 10)⟩, ⟨some 13, none, .iaddrS 1 (.t 8) (.t 10)⟩, ⟨some 14, none, .load false 1 (.t 13)⟩, ⟨some 6, none, .mv (.t 12)⟩, ⟨some 7, none, .mv (.t 14)⟩])
  (.seq (.reg [⟨some 15, none, .mv (.t 1)⟩, ⟨some 16, none, .mv (.t 6)⟩, ⟨some 17, none, .iaddrS 1 (.t 15) (.t 16)⟩, ⟨some 18, none, .load false 1 (.t 17)⟩, ⟨some 19, none, .mv (.t 7)⟩, ⟨some 20, none, .bin 0 .neq (.t 18) (.t 19)⟩])
  (.cond (.t 20) (.reg [⟨some 21, none, .mv (.t 5)⟩, ⟨some 22, none, .bin 0 .add (.t 21) (.c (.int .i64 1))⟩, ⟨some 5, none, .mv (.t 22)⟩]) (.skip)))))
  (.reg [⟨some 23, none, .bin 0 .add (.t 10) (.c (.int .i64 1))⟩, ⟨some 10, none, .mv (.t 23)⟩])))))))
  (.seq (.reg [⟨some 24, none, .mv (.t 5)⟩, ⟨some 4, none, .mv (.t 24)⟩])
  (.ret))))
def R128 : List ARes := [.t 4]
theorem ok128 : FnOk Tryz.prog 128 [] pureFns A128 R128 25 := ⟨⟨Tryz.f128, _, Tryz.func128, rfl, rfl, by kernel_rfl, by kernel_rfl⟩, by kernel_rfl⟩
def A149 : ACode := .seq (.reg [⟨some 6, none, .mv (.c (.bool false))⟩])
  (.seq (.reg [⟨some 7, none, .mv (.t 0)⟩, ⟨some 8, none, .mv (.t 1)⟩, ⟨some 9, none, .bin 0 .leq (.t 7) (.t 8)⟩, ⟨some 10, none, .mv (.t 9)⟩, ⟨some 11, some (10, true), .mv (.t 1)⟩, ⟨some 12, some (10, true), .mv (.t 2)⟩, ⟨some 13, some (10, true), .bin 0 .leq (.t 11) (.t 12)⟩, ⟨some 14, none, .pick (.t 10) (.t 13) (.c (.bool false))⟩, ⟨some 6, none, .mv (.t 14)⟩])
  (.ret))
def R149 : List ARes := [.t 6]
theorem ok149 : FnOk Tryz.prog 149 [] pureFns A149 R149 15 := ⟨⟨Tryz.f149, _, Tryz.func149, rfl, rfl, by kernel_rfl, by kernel_rfl⟩, by kernel_rfl⟩
def A150 : ACode := .seq (.reg [⟨some 3, none, .mv (.c (.bool false))⟩])
  (.seq (.reg [⟨some 4, none, .mv (.t 0)⟩, ⟨some 5, none, .len false (.t 4)⟩, ⟨some 6, none, .load true 2 (.t 1)⟩, ⟨some 7, none, .pcall 127 [.t 6]⟩, ⟨some 8, none, .bin 0 .neq (.t 5) (.t 7)⟩, ⟨some 3, none, .mv (.t 8)⟩])
  (.ret))
def R150 : List ARes := [.t 3]
theorem ok150 : FnOk Tryz.prog 150 [] pureFns A150 R150 9 := ⟨⟨Tryz.f150, _, Tryz.func150, rfl, rfl, by kernel_rfl, by kernel_rfl⟩, by kernel_rfl⟩
def A151 : ACode := .seq (.reg [⟨some 2, none, .boxi (.t 0)⟩, ⟨some 4, none, .mv (.c (.int .i64 0))⟩])
  (.seq (.block 0 (.seq (.reg [⟨some 6, none, .mv (.t 1)⟩, ⟨some 7, none, .len false (.t 6)⟩, ⟨some 8, none, .load true 2 (.t 2)⟩, ⟨some 9, none, .pcall 127 [.t 8]⟩, ⟨some 10, none, .bin 0 .neq (.t 7) (.t 9)⟩, ⟨some 5, none, .mv (.t 10)⟩])
  (.cond (.t 5) (.seq (.reg [⟨some 4, none, .mv (.c (.int .i64 3))⟩])
  (.ret)) (.seq (.reg [⟨some 12, none, .mv (.t 1)⟩, ⟨some 13, none, .mkfn (.func 162) [] [.t 2]⟩, ⟨some 14, none, .hcall 84 [.t 12, .t 13]⟩, ⟨some 11, none, .mv (.t 14)⟩])
  (.cond (.t 11) (.seq (.reg [⟨some 4, none, .mv (.c (.int .i64 4))⟩])
  (.ret)) (.skip))))))
  (.seq (.reg [⟨some 4, none, .mv (.c (.int .i64 0))⟩])
  (.ret)))
def R151 : List ARes := [.t 4]
theorem ok151 : FnOk Tryz.prog 151 [] pureFns A151 R151 15 := ⟨⟨Tryz.f151, _, Tryz.func151, rfl, rfl, by kernel_rfl, by kernel_rfl⟩, by kernel_rfl⟩
def A162 : ACode := .seq (.reg [⟨some 3, none, .mv (.c (.bool false))⟩])
  (.seq (.reg [⟨some 4, none, .mv (.t 0)⟩, ⟨some 5, none, .faddr false 1 0 (.t 1)⟩, ⟨some 6, none, .load false 1 (.t 5)⟩, ⟨some 7, none, .bin 0 .sub (.t 6) (.c (.int .i64 1))⟩, ⟨some 8, none, .pcall 149 [.c (.int .i64 0), .t 4, .t 7]⟩, ⟨some 9, none, .un .not (.t 8)⟩, ⟨some 3, none, .mv (.t 9)⟩])
  (.ret))
def R162 : List ARes := [.t 3]
theorem ok162 : FnOk Tryz.prog 162 [] pureFns A162 R162 10 := ⟨⟨Tryz.f162, _, Tryz.func162, rfl, rfl, by kernel_rfl, by kernel_rfl⟩, by kernel_rfl⟩
def A84 : ACode := .seq (.reg [⟨some 4, none, .mv (.c (.bool false))⟩])
  (.seq (.reg [⟨some 5, none, .mv (.t 0)⟩, ⟨some 6, none, .mv (.t 1)⟩, ⟨some 7, none, .hcall 125 [.t 5, .t 6]⟩, ⟨some 8, none, .bin 0 .geq (.t 7) (.c (.int .i64 0))⟩, ⟨some 4, none, .mv (.t 8)⟩])
  (.ret))
def R84 : List ARes := [.t 4]
theorem ok84 : FnOk Tryz.prog 84 [] pureFns A84 R84 9 := ⟨⟨Tryz.f84, _, Tryz.func84, rfl, rfl, by kernel_rfl, by kernel_rfl⟩, by kernel_rfl⟩
def A125 : ACode := .seq (.reg [⟨some 4, none, .mv (.c (.int .i64 0))⟩])
  (.seq (.seq (.reg [⟨some 6, none, .mv (.t 0)⟩, ⟨some 7, none, .len false (.t 6)⟩, ⟨some 8, none, .mv (.c (.int .i64 0))⟩])
  (.block 0 (.loop (.seq (.reg [⟨some 9, none, .bin 0 .lss (.t 8) (.t 7)⟩])
  (.seq (.cond (.t 9) (.skip) (.exit 0))
  (.seq (.block 1 (.seq (.reg [⟨some 10, none, .mv (.t 8)⟩, ⟨some 5, none, .mv (.t 10)⟩])
  (.seq (.reg [⟨some 11, none, .mv (.t 1)⟩, ⟨some 12, none, .mv (.t 0)⟩, ⟨some 13, none, .mv (.t 5)⟩, ⟨some 14, none, .iaddrS 1 (.t 12) (.t 13)⟩, ⟨some 15, none, .load false 1 (.t 14)⟩, ⟨some 16, none, .callv (.t 11) [.t 15]⟩])
  (.cond (.t 16) (.seq (.reg [⟨some 17, none, .mv (.t 5)⟩, ⟨some 4, none, .mv (.t 17)⟩])
  (.ret)) (.skip)))))
  (.reg [⟨some 18, none, .bin 0 .add (.t 8) (.c (.int .i64 1))⟩, ⟨some 8, none, .mv (.t 18)⟩])))))))
  (.seq (.reg [⟨some 4, none, .mv (.c (.int .i64 (-1)))⟩])
  (.ret)))
def R125 : List ARes := [.t 4]
theorem ok125 : FnOk Tryz.prog 125 [] pureFns A125 R125 19 := ⟨⟨Tryz.f125, _, Tryz.func125, rfl, rfl, by kernel_rfl, by kernel_rfl⟩, by kernel_rfl⟩
def A110 : ACode := .seq (.reg [⟨some 4, none, .mv (.c (.bool false))⟩])
  (.seq (.reg [⟨some 5, none, .mv (.t 0)⟩, ⟨some 6, none, .mv (.t 1)⟩, ⟨some 7, none, .hcall 137 [.t 5, .t 6]⟩, ⟨some 8, none, .bin 0 .geq (.t 7) (.c (.int .i64 0))⟩, ⟨some 4, none, .mv (.t 8)⟩])
  (.ret))
def R110 : List ARes := [.t 4]
theorem ok110 : FnOk Tryz.prog 110 [] pureFns A110 R110 9 := ⟨⟨Tryz.f110, _, Tryz.func110, rfl, rfl, by kernel_rfl, by kernel_rfl⟩, by kernel_rfl⟩
def A137 : ACode := .seq (.reg [⟨some 4, none, .mv (.c (.int .i64 0))⟩])
  (.seq (.seq (.reg [⟨some 6, none, .mv (.t 0)⟩, ⟨some 7, none, .len false (.t 6)⟩, ⟨some 8, none, .mv (.c (.int .i64 0))⟩])
  (.block 0 (.loop (.seq (.reg [⟨some 9, none, .bin 0 .lss (.t 8) (.t 7)⟩])
  (.seq (.cond (.t 9) (.skip) (.exit 0))
  (.seq (.block 1 (.seq (.reg [⟨some 10, none, .mv (.t 8)⟩, ⟨some 5, none, .mv (.t 10)⟩])
  (.seq (.reg [⟨some 11, none, .mv (.t 1)⟩, ⟨some 12, none, .mv (.t 0)⟩, ⟨some 13, none, .mv (.t 5)⟩, ⟨some 14, none, .iaddrS 1 (.t 12) (.t 13)⟩, ⟨some 15, none, .load false 1 (.t 14)⟩, ⟨some 16, none, .callv (.t 11) [.t 15]⟩])
  (.cond (.t 16) (.seq (.reg [⟨some 17, none, .mv (.t 5)⟩, ⟨some 4, none, .mv (.t 17)⟩])
  (.ret)) (.skip)))))
  (.reg [⟨some 18, none, .bin 0 .add (.t 8) (.c (.int .i64 1))⟩, ⟨some 8, none, .mv (.t 18)⟩])))))))
  (.seq (.reg [⟨some 4, none, .mv (.c (.int .i64 (-1)))⟩])
  (.ret)))
def R137 : List ARes := [.t 4]
theorem ok137 : FnOk Tryz.prog 137 [] pureFns A137 R137 19 := ⟨⟨Tryz.f137, _, Tryz.func137, rfl, rfl, by kernel_rfl, by kernel_rfl⟩, by kernel_rfl⟩
def A152 : ACode := .seq (.reg [⟨some 2, none, .boxi (.t 0)⟩, ⟨some 4, none, .alloc [.int .u64 0, .int .u64 0, .int .u64 0, .int .u64 0, .int .u64 0, .int .u64 0]⟩, ⟨some 5, none, .mv (.c (.int .i64 0))⟩])
  (.seq (.reg [⟨some 6, none, .alloc [.int .u64 0, .int .u64 0, .int .u64 0, .int .u64 0, .int .u64 0, .int .u64 0]⟩])
  (.seq (.seq (.reg [⟨some 14, none, .load true 2 (.t 2)⟩, ⟨some 15, none, .pcall 163 [.t 14]⟩, ⟨some 7, none, .mv (.t 15)⟩])
  (.seq (.reg [⟨some 16, none, .mv (.t 7)⟩, ⟨some 17, none, .bin 0 .neq (.t 16) (.c (.int .i64 0))⟩])
  (.cond (.t 17) (.seq (.reg [⟨some 18, none, .load true 6 (.t 6)⟩, ⟨some 19, none, .mv (.t 7)⟩, ⟨none, none, .store 6 (.t 4) (.t 18)⟩, ⟨some 5, none, .mv (.t 19)⟩])
  (.ret)) (.skip))))
  (.seq (.seq (.reg [⟨some 20, none, .faddr false 1 0 (.t 2)⟩, ⟨some 21, none, .load false 1 (.t 20)⟩, ⟨some 22, none, .mv (.c (.int .i64 0))⟩])
  (.block 0 (.loop (.seq (.reg [⟨some 23, none, .bin 0 .lss (.t 22) (.t 21)⟩])
  (.seq (.cond (.t 23) (.skip) (.exit 0))
  (.seq (.block 1 (.seq (.reg [⟨some 24, none, .mv (.t 22)⟩, ⟨some 8, none, .mv (.t 24)⟩])
  (.reg [⟨some 25, none, .mv (.t 8)⟩, ⟨some 26, none, .faddr false 1 0 (.t 2)⟩, ⟨some 27, none, .load false 1 (.t 26)⟩, ⟨some 28, none, .bin 0 .shl (.c (.int .u64 1)) (.t 27)⟩, ⟨some 29, none, .bin 0 .sub (.t 28) (.c (.int .u64 1))⟩, ⟨some 30, none, .iaddrA 6 false 1 (.t 6) (.t 25)⟩, ⟨none, none, .store 1 (.t 30) (.t 29)⟩])))
  (.reg [⟨some 31, none, .bin 0 .add (.t 22) (.c (.int .i64 1))⟩, ⟨some 22, none, .mv (.t 31)⟩])))))))
  (.seq (.seq (.reg [⟨some 32, none, .faddr false 1 1 (.t 2)⟩, ⟨some 33, none, .load false 1 (.t 32)⟩, ⟨some 34, none, .len false (.t 33)⟩, ⟨some 35, none, .mv (.c (.int .i64 0))⟩])
  (.block 2 (.loop (.seq (.reg [⟨some 36, none, .bin 0 .lss (.t 35) (.t 34)⟩])
  (.seq (.cond (.t 36) (.skip) (.exit 2))
  (.seq (.block 3 (.seq (.reg [⟨some 37, none, .iaddrS 2 (.t 33) (.t 35)⟩, ⟨some 38, none, .load true 2 (.t 37)⟩, ⟨some 10, none, .alloc [.int .i64 0, .int .i64 0]⟩, ⟨none, none, .store 2 (.t 10) (.t 38)⟩])
  (.seq (.regd [⟨some 39, none, .iaddrA 2 false 1 (.t 10) (.c (.int .i64 0))⟩, ⟨some 40, none, .load false 1 (.t 39)⟩, ⟨some 41, none, .iaddrA 6 false 1 (.t 6) (.t 40)⟩, ⟨some 42, none, .load false 1 (.t 41)⟩, ⟨some 43, none, .iaddrA 2 false 1 (.t 10) (.c (.int .i64 1))⟩, ⟨some 44, none, .load false 1 (.t 43)⟩, ⟨some 45, none, .bin 0 .shl (.c (.int .u64 1)) (.t 44)⟩, ⟨some 46, none, .bin 0 .andNot (.t 42) (.t 45)⟩, ⟨some 47, none, .iaddrA 6 false 1 (.t 6) (.t 40)⟩, ⟨none, none, .store 1 (.t 47) (.t 46)⟩])
  (.regd [⟨some 48, none, .iaddrA 2 false 1 (.t 10) (.c (.int .i64 1))⟩, ⟨some 49, none, .load false 1 (.t 48)⟩, ⟨some 50, none, .iaddrA 6 false 1 (.t 6) (.t 49)⟩, ⟨some 51, none, .load false 1 (.t 50)⟩, ⟨some 52, none, .iaddrA 2 false 1 (.t 10) (.c (.int .i64 0))⟩, ⟨some 53, none, .load false 1 (.t 52)⟩, ⟨some 54, none, .bin 0 .shl (.c (.int .u64 1)) (.t 53)⟩, ⟨some 55, none, .bin 0 .andNot (.t 51) (.t 54)⟩, ⟨some 56, none, .iaddrA 6 false 1 (.t 6) (.t 49)⟩, ⟨none, none, .store 1 (.t 56) (.t 55)⟩]))))
  (.reg [⟨some 57, none, .bin 0 .add (.t 35) (.c (.int .i64 1))⟩, ⟨some 35, none, .mv (.t 57)⟩])))))))
  (.seq (.seq (.reg [⟨some 58, none, .mv (.t 1)⟩, ⟨some 59, none, .len false (.t 58)⟩, ⟨some 60, none, .mv (.c (.int .i64 0))⟩])
  (.block 4 (.loop (.seq (.reg [⟨some 61, none, .bin 0 .lss (.t 60) (.t 59)⟩])
  (.seq (.cond (.t 61) (.skip) (.exit 4))
  (.seq (.block 5 (.seq (.reg [⟨some 62, none, .iaddrS 1 (.t 58) (.t 60)⟩, ⟨some 63, none, .load false 1 (.t 62)⟩, ⟨some 12, none, .mv (.t 63)⟩])
  (.seq (.seq (.reg [⟨some 64, none, .mv (.t 12)⟩, ⟨some 65, none, .len true (.t 64)⟩, ⟨some 66, none, .bin 0 .gtr (.t 65) (.c (.int .i64 14))⟩])
  (.cond (.t 66) (.seq (.reg [⟨some 67, none, .load true 6 (.t 6)⟩, ⟨none, none, .store 6 (.t 4) (.t 67)⟩, ⟨some 5, none, .mv (.c (.int .i64 19))⟩])
  (.ret)) (.skip)))
  (.seq (.reg [⟨some 68, none, .mv (.t 12)⟩, ⟨some 69, none, .len true (.t 68)⟩, ⟨some 70, none, .mv (.c (.int .i64 0))⟩])
  (.block 6 (.loop (.seq (.reg [⟨some 71, none, .bin 0 .lss (.t 70) (.t 69)⟩])
  (.seq (.cond (.t 71) (.skip) (.exit 6))
  (.seq (.block 7 (.seq (.reg [⟨some 72, none, .mv (.t 70)⟩, ⟨some 13, none, .mv (.t 72)⟩])
  (.seq (.regd [⟨some 73, none, .mv (.t 12)⟩, ⟨some 74, none, .mv (.t 13)⟩, ⟨some 75, none, .mem .sidx [.t 73, .t 74]⟩, ⟨some 76, none, .conv .i64 (.t 75)⟩, ⟨some 77, none, .faddr false 1 0 (.t 2)⟩, ⟨some 78, none, .load false 1 (.t 77)⟩, ⟨some 79, none, .bin 0 .add (.c (.int .i64 97)) (.t 78)⟩, ⟨some 80, none, .bin 0 .sub (.t 79) (.c (.int .i64 1))⟩, ⟨some 81, none, .pcall 164 [.c (.int .i64 97), .t 76, .t 80]⟩, ⟨some 82, none, .un .not (.t 81)⟩])
  (.cond (.t 82) (.seq (.reg [⟨some 83, none, .load true 6 (.t 6)⟩, ⟨none, none, .store 6 (.t 4) (.t 83)⟩, ⟨some 5, none, .mv (.c (.int .i64 9))⟩])
  (.ret)) (.skip)))))
  (.reg [⟨some 84, none, .bin 0 .add (.t 70) (.c (.int .i64 1))⟩, ⟨some 70, none, .mv (.t 84)⟩]))))))))))
  (.reg [⟨some 85, none, .bin 0 .add (.t 60) (.c (.int .i64 1))⟩, ⟨some 60, none, .mv (.t 85)⟩])))))))
  (.seq (.reg [⟨some 86, none, .load true 6 (.t 6)⟩, ⟨none, none, .store 6 (.t 4) (.t 86)⟩, ⟨some 5, none, .mv (.c (.int .i64 0))⟩])
  (.ret)))))))
def R152 : List ARes := [.cell true 6 4, .t 5]
theorem ok152 : FnOk Tryz.prog 152 [] pureFns A152 R152 87 := ⟨⟨Tryz.f152, _, Tryz.func152, rfl, rfl, by kernel_rfl, by kernel_rfl⟩, by kernel_rfl⟩
def A153 : ACode := .seq (.reg [⟨some 3, none, .boxi (.t 0)⟩, ⟨some 6, none, .mv (.c (.bool false))⟩])
  (.seq (.reg [⟨some 7, none, .mv (.t 1)⟩, ⟨some 8, none, .bin 0 .sub (.t 7) (.c (.int .u8 97))⟩, ⟨some 9, none, .iaddrA 6 false 1 (.t 3) (.t 8)⟩, ⟨some 10, none, .load false 1 (.t 9)⟩, ⟨some 11, none, .mv (.t 2)⟩, ⟨some 12, none, .bin 0 .sub (.t 11) (.c (.int .u8 97))⟩, ⟨some 13, none, .bin 0 .shr (.t 10) (.t 12)⟩, ⟨some 14, none, .bin 0 .and (.t 13) (.c (.int .u64 1))⟩, ⟨some 15, none, .bin 0 .eql (.t 14) (.c (.int .u64 1))⟩, ⟨some 6, none, .mv (.t 15)⟩])
  (.ret))
def R153 : List ARes := [.t 6]
theorem ok153 : FnOk Tryz.prog 153 [] pureFns A153 R153 16 := ⟨⟨Tryz.f153, _, Tryz.func153, rfl, rfl, by kernel_rfl, by kernel_rfl⟩, by kernel_rfl⟩
def A163 : ACode := .seq (.reg [⟨some 1, none, .boxi (.t 0)⟩, ⟨some 2, none, .mv (.c (.int .i64 0))⟩])
  (.seq (.block 0 (.seq (.reg [⟨some 8, none, .faddr false 1 0 (.t 1)⟩, ⟨some 9, none, .load false 1 (.t 8)⟩, ⟨some 10, none, .pcall 164 [.c (.int .i64 1), .t 9, .c (.int .i64 6)]⟩, ⟨some 11, none, .un .not (.t 10)⟩, ⟨some 7, none, .mv (.t 11)⟩])
  (.cond (.t 7) (.seq (.reg [⟨some 2, none, .mv (.c (.int .i64 3))⟩])
  (.ret)) (.seq (.reg [⟨some 13, none, .faddr false 1 1 (.t 1)⟩, ⟨some 14, none, .load false 1 (.t 13)⟩, ⟨some 15, none, .len false (.t 14)⟩, ⟨some 16, none, .bin 0 .gtr (.t 15) (.c (.int .i64 15))⟩, ⟨some 12, none, .mv (.t 16)⟩])
  (.cond (.t 12) (.seq (.reg [⟨some 2, none, .mv (.c (.int .i64 2))⟩])
  (.ret)) (.skip))))))
  (.seq (.seq (.reg [⟨some 17, none, .faddr false 1 1 (.t 1)⟩, ⟨some 18, none, .load false 1 (.t 17)⟩, ⟨some 19, none, .len false (.t 18)⟩, ⟨some 20, none, .mv (.c (.int .i64 0))⟩])
  (.block 1 (.loop (.seq (.reg [⟨some 21, none, .bin 0 .lss (.t 20) (.t 19)⟩])
  (.seq (.cond (.t 21) (.skip) (.exit 1))
  (.seq (.block 2 (.seq (.reg [⟨some 22, none, .mv (.t 20)⟩, ⟨some 23, none, .iaddrS 2 (.t 18) (.t 20)⟩, ⟨some 24, none, .load true 2 (.t 23)⟩, ⟨some 4, none, .alloc [.int .i64 0, .int .i64 0]⟩, ⟨some 3, none, .mv (.t 22)⟩, ⟨none, none, .store 2 (.t 4) (.t 24)⟩])
  (.seq (.regd [⟨some 25, none, .iaddrA 2 false 1 (.t 4) (.c (.int .i64 0))⟩, ⟨some 26, none, .load false 1 (.t 25)⟩, ⟨some 27, none, .iaddrA 2 false 1 (.t 4) (.c (.int .i64 1))⟩, ⟨some 28, none, .load false 1 (.t 27)⟩, ⟨some 5, none, .mv (.t 26)⟩, ⟨some 6, none, .mv (.t 28)⟩])
  (.block 3 (.seq (.reg [⟨some 30, none, .mv (.t 5)⟩, ⟨some 31, none, .faddr false 1 0 (.t 1)⟩, ⟨some 32, none, .load false 1 (.t 31)⟩, ⟨some 33, none, .bin 0 .sub (.t 32) (.c (.int .i64 1))⟩, ⟨some 34, none, .pcall 164 [.c (.int .i64 0), .t 30, .t 33]⟩, ⟨some 35, none, .un .not (.t 34)⟩, ⟨some 36, none, .mv (.t 35)⟩, ⟨some 37, some (36, false), .mv (.t 6)⟩, ⟨some 38, some (36, false), .faddr false 1 0 (.t 1)⟩, ⟨some 39, some (36, false), .load false 1 (.t 38)⟩, ⟨some 40, some (36, false), .bin 0 .sub (.t 39) (.c (.int .i64 1))⟩, ⟨some 41, some (36, false), .pcall 164 [.c (.int .i64 0), .t 37, .t 40]⟩, ⟨some 42, some (36, false), .un .not (.t 41)⟩, ⟨some 43, none, .pick (.t 36) (.c (.bool true)) (.t 42)⟩, ⟨some 29, none, .mv (.t 43)⟩])
  (.cond (.t 29) (.seq (.reg [⟨some 2, none, .mv (.c (.int .i64 5))⟩])
  (.ret)) (.seq (.reg [⟨some 45, none, .mv (.t 5)⟩, ⟨some 46, none, .mv (.t 6)⟩, ⟨some 47, none, .bin 0 .eql (.t 45) (.t 46)⟩, ⟨some 44, none, .mv (.t 47)⟩])
  (.cond (.t 44) (.seq (.reg [⟨some 2, none, .mv (.c (.int .i64 20))⟩])
  (.ret)) (.seq (.regd [⟨some 49, none, .faddr false 1 1 (.t 1)⟩, ⟨some 50, none, .load false 1 (.t 49)⟩, ⟨some 51, none, .mv (.t 3)⟩, ⟨some 52, none, .slice 2 (.t 50) none (some (.t 51)) none⟩, ⟨some 53, none, .load true 2 (.t 4)⟩, ⟨some 54, none, .pcall 171 [.t 52, .t 53]⟩, ⟨some 55, none, .mv (.t 54)⟩, ⟨some 56, some (55, false), .faddr false 1 1 (.t 1)⟩, ⟨some 57, some (55, false), .load false 1 (.t 56)⟩, ⟨some 58, some (55, false), .mv (.t 3)⟩, ⟨some 59, some (55, false), .slice 2 (.t 57) none (some (.t 58)) none⟩, ⟨some 60, some (55, false), .mv (.t 6)⟩, ⟨some 61, some (55, false), .mv (.t 5)⟩, ⟨some 62, some (55, false), .build [.int .i64 0, .int .i64 0] [(0, 1, (.t 60)), (1, 1, (.t 61))]⟩, ⟨some 63, some (55, false), .pcall 171 [.t 59, .t 62]⟩, ⟨some 64, none, .pick (.t 55) (.c (.bool true)) (.t 63)⟩, ⟨some 48, none, .mv (.t 64)⟩])
  (.cond (.t 48) (.seq (.reg [⟨some 2, none, .mv (.c (.int .i64 6))⟩])
  (.ret)) (.skip)))))))))))
  (.reg [⟨some 65, none, .bin 0 .add (.t 20) (.c (.int .i64 1))⟩, ⟨some 20, none, .mv (.t 65)⟩])))))))
  (.seq (.reg [⟨some 2, none, .mv (.c (.int .i64 0))⟩])
  (.ret))))
def R163 : List ARes := [.t 2]
theorem ok163 : FnOk Tryz.prog 163 [] pureFns A163 R163 66 := ⟨⟨Tryz.f163, _, Tryz.func163, rfl, rfl, by kernel_rfl, by kernel_rfl⟩, by kernel_rfl⟩
def A164 : ACode := .seq (.reg [⟨some 6, none, .mv (.c (.bool false))⟩])
  (.seq (.reg [⟨some 7, none, .mv (.t 0)⟩, ⟨some 8, none, .mv (.t 1)⟩, ⟨some 9, none, .bin 0 .leq (.t 7) (.t 8)⟩, ⟨some 10, none, .mv (.t 9)⟩, ⟨some 11, some (10, true), .mv (.t 1)⟩, ⟨some 12, some (10, true), .mv (.t 2)⟩, ⟨some 13, some (10, true), .bin 0 .leq (.t 11) (.t 12)⟩, ⟨some 14, none, .pick (.t 10) (.t 13) (.c (.bool false))⟩, ⟨some 6, none, .mv (.t 14)⟩])
  (.ret))
def R164 : List ARes := [.t 6]
theorem ok164 : FnOk Tryz.prog 164 [] pureFns A164 R164 15 := ⟨⟨Tryz.f164, _, Tryz.func164, rfl, rfl, by kernel_rfl, by kernel_rfl⟩, by kernel_rfl⟩
def A171 : ACode := .seq (.reg [⟨some 3, none, .boxi (.t 1)⟩, ⟨some 4, none, .mv (.c (.bool false))⟩])
  (.seq (.reg [⟨some 5, none, .mv (.t 0)⟩, ⟨some 6, none, .load true 2 (.t 3)⟩, ⟨some 7, none, .pcall 177 [.t 5, .t 6]⟩, ⟨some 8, none, .bin 0 .geq (.t 7) (.c (.int .i64 0))⟩, ⟨some 4, none, .mv (.t 8)⟩])
  (.ret))
def R171 : List ARes := [.t 4]
theorem ok171 : FnOk Tryz.prog 171 [] pureFns A171 R171 9 := ⟨⟨Tryz.f171, _, Tryz.func171, rfl, rfl, by kernel_rfl, by kernel_rfl⟩, by kernel_rfl⟩
def A177 : ACode := .seq (.reg [⟨some 3, none, .boxi (.t 1)⟩, ⟨some 4, none, .mv (.c (.int .i64 0))⟩])
  (.seq (.seq (.reg [⟨some 6, none, .mv (.t 0)⟩, ⟨some 7, none, .len false (.t 6)⟩, ⟨some 8, none, .mv (.c (.int .i64 0))⟩])
  (.block 0 (.loop (.seq (.reg [⟨some 9, none, .bin 0 .lss (.t 8) (.t 7)⟩])
  (.seq (.cond (.t 9) (.skip) (.exit 0))
  (.seq (.block 1 (.seq (.reg [⟨some 10, none, .mv (.t 8)⟩, ⟨some 5, none, .mv (.t 10)⟩])
  (.seq (.regd [⟨some 11, none, .load true 2 (.t 3)⟩, ⟨some 12, none, .mv (.t 0)⟩, ⟨some 13, none, .mv (.t 5)⟩, ⟨some 14, none, .iaddrS 2 (.t 12) (.t 13)⟩, ⟨some 15, none, .load true 2 (.t 14)⟩, ⟨some 16, none, .bin 12 .eql (.t 11) (.t 15)⟩])
  (.cond (.t 16) (.seq (.reg [⟨some 17, none, .mv (.t 5)⟩, ⟨some 4, none, .mv (.t 17)⟩])
  (.ret)) (.skip)))))
  (.reg [⟨some 18, none, .bin 0 .add (.t 8) (.c (.int .i64 1))⟩, ⟨some 8, none, .mv (.t 18)⟩])))))))
  (.seq (.reg [⟨some 4, none, .mv (.c (.int .i64 (-1)))⟩])
  (.ret)))
def R177 : List ARes := [.t 4]
theorem ok177 : FnOk Tryz.prog 177 [] pureFns A177 R177 19 := ⟨⟨Tryz.f177, _, Tryz.func177, rfl, rfl, by kernel_rfl, by kernel_rfl⟩, by kernel_rfl⟩

end Go.Proofs.YtdcpkgedaflnmaaGreatDoor.Wm
namespace Go.Proofs.YtdcpkgedaflnmaaGreatDoor.Wm
open Go Fw
def P0 : ACode := .reg [⟨some 2, none, .boxi (.t 0)⟩, ⟨some 4, none, .mv (.c (.int .i64 0))⟩, ⟨some 5, none, .mv (.c (.int .i64 0))⟩]
theorem cP0 : cvtC Tryz.prog 101 [] pureFns (cIn [0] (Tryz.f129.body.getD .skip)) = some P0 := by kernel_rfl
def P1 : ACode := .reg [⟨some 17, none, .load true 2 (.t 2)⟩, ⟨some 18, none, .mv (.t 1)⟩, ⟨some 19, none, .buildSl 1 [.t 18]⟩, ⟨some 20, none, .pcall 152 [.t 17, .t 19]⟩, ⟨some 16, none, .mv (.t 20)⟩, ⟨some 21, none, .extract (.t 16) 0⟩, ⟨some 22, none, .extract (.t 16) 1⟩, ⟨some 6, none, .alloc [.int .u64 0, .int .u64 0, .int .u64 0, .int .u64 0, .int .u64 0, .int .u64 0]⟩, ⟨none, none, .store 6 (.t 6) (.t 21)⟩, ⟨some 7, none, .mv (.t 22)⟩]
theorem cP1 : cvtC Tryz.prog 101 [] pureFns (cIn [1, 0] (Tryz.f129.body.getD .skip)) = some P1 := by kernel_rfl
def P2 : ACode := .seq (.reg [⟨some 23, none, .mv (.t 7)⟩, ⟨some 24, none, .bin 0 .neq (.t 23) (.c (.int .i64 0))⟩])
  (.cond (.t 24) (.seq (.reg [⟨some 25, none, .mv (.t 7)⟩, ⟨some 4, none, .mv (.c (.int .i64 0))⟩, ⟨some 5, none, .mv (.t 25)⟩])
  (.ret)) (.skip))
theorem cP2 : cvtC Tryz.prog 101 [] pureFns (cIn [1, 1, 0] (Tryz.f129.body.getD .skip)) = some P2 := by kernel_rfl
def P4 : ACode := .reg [⟨some 8, none, .alloc [.int .u64 0, .int .u64 0, .int .u64 0, .int .u64 0, .int .u64 0, .int .u64 0, .int .u64 0, .int .u64 0, .int .u64 0, .int .u64 0, .int .u64 0, .int .u64 0, .int .u64 0, .int .u64 0]⟩]
theorem cP4 : cvtC Tryz.prog 101 [] pureFns (cIn [1, 1, 1, 0] (Tryz.f129.body.getD .skip)) = some P4 := by kernel_rfl
def P5 : ACode := .seq (.reg [⟨some 26, none, .mv (.t 1)⟩, ⟨some 27, none, .len true (.t 26)⟩, ⟨some 28, none, .mv (.c (.int .i64 0))⟩])
  (.block 0 (.loop (.seq (.reg [⟨some 29, none, .bin 0 .lss (.t 28) (.t 27)⟩])
  (.seq (.cond (.t 29) (.skip) (.exit 0))
  (.seq (.block 1 (.seq (.reg [⟨some 30, none, .mv (.t 28)⟩, ⟨some 9, none, .mv (.t 30)⟩])
  (.seq (.reg [⟨some 31, none, .mv (.t 9)⟩, ⟨some 32, none, .mv (.c (.int .i64 0))⟩])
  (.block 2 (.loop (.seq (.reg [⟨some 33, none, .bin 0 .lss (.t 32) (.t 31)⟩])
  (.seq (.cond (.t 33) (.skip) (.exit 2))
  (.seq (.block 3 (.seq (.reg [⟨some 34, none, .mv (.t 32)⟩, ⟨some 10, none, .mv (.t 34)⟩])
  (.seq (.regd [⟨some 35, none, .load true 6 (.t 6)⟩, ⟨some 36, none, .mv (.t 1)⟩, ⟨some 37, none, .mv (.t 10)⟩, ⟨some 38, none, .mem .sidx [.t 36, .t 37]⟩, ⟨some 39, none, .mv (.t 1)⟩, ⟨some 40, none, .mv (.t 9)⟩, ⟨some 41, none, .mem .sidx [.t 39, .t 40]⟩, ⟨some 42, none, .pcall 153 [.t 35, .t 38, .t 41]⟩])
  (.cond (.t 42) (.regd [⟨some 43, none, .mv (.t 9)⟩, ⟨some 44, none, .iaddrA 14 false 1 (.t 8) (.t 43)⟩, ⟨some 45, none, .load false 1 (.t 44)⟩, ⟨some 46, none, .mv (.t 10)⟩, ⟨some 47, none, .bin 0 .shl (.c (.int .u64 1)) (.t 46)⟩, ⟨some 48, none, .bin 0 .or (.t 45) (.t 47)⟩, ⟨some 49, none, .iaddrA 14 false 1 (.t 8) (.t 43)⟩, ⟨none, none, .store 1 (.t 49) (.t 48)⟩]) (.skip)))))
  (.reg [⟨some 50, none, .bin 0 .add (.t 32) (.c (.int .i64 1))⟩, ⟨some 32, none, .mv (.t 50)⟩])))))))))
  (.reg [⟨some 51, none, .bin 0 .add (.t 28) (.c (.int .i64 1))⟩, ⟨some 28, none, .mv (.t 51)⟩]))))))
theorem cP5 : cvtC Tryz.prog 101 [] pureFns (cIn [1, 1, 1, 1, 0] (Tryz.f129.body.getD .skip)) = some P5 := by kernel_rfl
def P15 : ACode := .reg [⟨some 52, none, .mem .mkmap []⟩, ⟨none, none, .mem (.mupd 0) [.t 52, .c (.int .u64 0), .c (.int .i64 1)]⟩, ⟨some 53, none, .mv (.t 52)⟩, ⟨some 11, none, .mv (.t 53)⟩]
theorem cP15 : cvtC Tryz.prog 101 [] pureFns (cIn [1, 1, 1, 1, 1, 0] (Tryz.f129.body.getD .skip)) = some P15 := by kernel_rfl
def P16 : ACode := .reg [⟨some 54, none, .mv (.t 1)⟩, ⟨some 55, none, .len true (.t 54)⟩, ⟨some 56, none, .mv (.c (.int .i64 0))⟩]
theorem cP16 : cvtC Tryz.prog 101 [] pureFns (cIn [1, 1, 1, 1, 1, 1, 0, 0] (Tryz.f129.body.getD .skip)) = some P16 := by kernel_rfl
def P17 : ACode := .reg [⟨some 57, none, .bin 0 .lss (.t 56) (.t 55)⟩]
theorem cP17 : cvtC Tryz.prog 101 [] pureFns (cIn [1, 1, 1, 1, 1, 1, 0, 1, 2, 2, 0] (Tryz.f129.body.getD .skip)) = some P17 := by kernel_rfl
def P17c : ACode := .cond (.t 57) (.skip) (.exit 4)
theorem cP17c : cvtC Tryz.prog 101 [] pureFns (cIn [1, 1, 1, 1, 1, 1, 0, 1, 2, 2, 1, 0] (Tryz.f129.body.getD .skip)) = some P17c := by kernel_rfl
def P18 : ACode := .reg [⟨some 58, none, .mem .mkmap []⟩, ⟨some 12, none, .mv (.t 58)⟩]
theorem cP18 : cvtC Tryz.prog 101 [] pureFns (cIn [1, 1, 1, 1, 1, 1, 0, 1, 2, 2, 1, 1, 0, 2, 0] (Tryz.f129.body.getD .skip)) = some P18 := by kernel_rfl
def P22 : ACode := .seq (.reg [⟨some 66, none, .mv (.t 1)⟩, ⟨some 67, none, .len true (.t 66)⟩, ⟨some 68, none, .mv (.c (.int .i64 0))⟩])
  (.block 8 (.loop (.seq (.reg [⟨some 69, none, .bin 0 .lss (.t 68) (.t 67)⟩])
  (.seq (.cond (.t 69) (.skip) (.exit 8))
  (.seq (.block 9 (.seq (.reg [⟨some 70, none, .mv (.t 68)⟩, ⟨some 15, none, .mv (.t 70)⟩])
  (.seq (.reg [⟨some 71, none, .mv (.t 13)⟩, ⟨some 72, none, .mv (.t 15)⟩, ⟨some 73, none, .bin 0 .shr (.t 71) (.t 72)⟩, ⟨some 74, none, .bin 0 .and (.t 73) (.c (.int .u64 1))⟩, ⟨some 75, none, .bin 0 .eql (.t 74) (.c (.int .u64 0))⟩, ⟨some 76, none, .mv (.t 75)⟩, ⟨some 77, some (76, true), .mv (.t 15)⟩, ⟨some 78, some (76, true), .iaddrA 14 false 1 (.t 8) (.t 77)⟩, ⟨some 79, some (76, true), .load false 1 (.t 78)⟩, ⟨some 80, some (76, true), .mv (.t 13)⟩, ⟨some 81, some (76, true), .bin 0 .andNot (.t 79) (.t 80)⟩, ⟨some 82, some (76, true), .bin 0 .eql (.t 81) (.c (.int .u64 0))⟩, ⟨some 83, none, .pick (.t 76) (.t 82) (.c (.bool false))⟩])
  (.cond (.t 83) (.reg [⟨some 84, none, .mv (.t 12)⟩, ⟨some 85, none, .mv (.t 13)⟩, ⟨some 86, none, .mv (.t 15)⟩, ⟨some 87, none, .bin 0 .shl (.c (.int .u64 1)) (.t 86)⟩, ⟨some 88, none, .bin 0 .or (.t 85) (.t 87)⟩, ⟨some 89, none, .mem (.look 0 false (.int .i64 0)) [.t 84, .t 88]⟩, ⟨some 90, none, .mv (.t 14)⟩, ⟨some 91, none, .bin 0 .add (.t 89) (.t 90)⟩, ⟨none, none, .mem (.mupd 0) [.t 84, .t 88, .t 91]⟩]) (.skip)))))
  (.reg [⟨some 92, none, .bin 0 .add (.t 68) (.c (.int .i64 1))⟩, ⟨some 68, none, .mv (.t 92)⟩]))))))
theorem cP22 : cvtC Tryz.prog 101 [] pureFns (cIn [1, 1, 1, 1, 1, 1, 0, 1, 2, 2, 1, 1, 0, 2, 1, 0, 1, 2, 2, 1, 1, 2, 1] (Tryz.f129.body.getD .skip)) = some P22 := by kernel_rfl
def P28 : ACode := .reg [⟨some 93, none, .mv (.t 12)⟩, ⟨some 11, none, .mv (.t 93)⟩]
theorem cP28 : cvtC Tryz.prog 101 [] pureFns (cIn [1, 1, 1, 1, 1, 1, 0, 1, 2, 2, 1, 1, 0, 2, 1, 1] (Tryz.f129.body.getD .skip)) = some P28 := by kernel_rfl
def P29 : ACode := .reg [⟨some 94, none, .bin 0 .add (.t 56) (.c (.int .i64 1))⟩, ⟨some 56, none, .mv (.t 94)⟩]
theorem cP29 : cvtC Tryz.prog 101 [] pureFns (cIn [1, 1, 1, 1, 1, 1, 0, 1, 2, 2, 1, 1, 1] (Tryz.f129.body.getD .skip)) = some P29 := by kernel_rfl
def P30 : ACode := .seq (.reg [⟨some 95, none, .mv (.t 11)⟩, ⟨some 96, none, .mv (.t 1)⟩, ⟨some 97, none, .len true (.t 96)⟩, ⟨some 98, none, .bin 0 .shl (.c (.int .u64 1)) (.t 97)⟩, ⟨some 99, none, .bin 0 .sub (.t 98) (.c (.int .u64 1))⟩, ⟨some 100, none, .mem (.look 0 false (.int .i64 0)) [.t 95, .t 99]⟩, ⟨some 4, none, .mv (.t 100)⟩, ⟨some 5, none, .mv (.c (.int .i64 0))⟩])
  (.ret)
theorem cP30 : cvtC Tryz.prog 101 [] pureFns (cIn [1, 1, 1, 1, 1, 1, 1] (Tryz.f129.body.getD .skip)) = some P30 := by kernel_rfl

/-- the function's code -/
noncomputable def B129 : Code := Tryz.f129.body.getD .skip
/-- how the pieces lie -/
theorem dec129 : B129 = .seq (cIn [0] B129) (.seq (cIn [1, 0] B129) (.seq (cIn [1, 1, 0] B129) (.seq (cIn [1, 1, 1, 0] B129) (.seq (cIn [1, 1, 1, 1, 0] B129) (.seq (cIn [1, 1, 1, 1, 1, 0] B129)
    (.seq (.seq (cIn [1, 1, 1, 1, 1, 1, 0, 0] B129) (.block 4 (.loop (cIn [1, 1, 1, 1, 1, 1, 0, 1, 2, 2] B129)))) (cIn [1, 1, 1, 1, 1, 1, 1] B129))))))) := by kernel_rfl
theorem decL : cIn [1, 1, 1, 1, 1, 1, 0, 1, 2, 2] B129 = .seq (cIn [1, 1, 1, 1, 1, 1, 0, 1, 2, 2, 0] B129) (.seq (cIn [1, 1, 1, 1, 1, 1, 0, 1, 2, 2, 1, 0] B129)
    (.seq (.block 5 (.seq (cIn [1, 1, 1, 1, 1, 1, 0, 1, 2, 2, 1, 1, 0, 2, 0] B129) (.seq (cIn [1, 1, 1, 1, 1, 1, 0, 1, 2, 2, 1, 1, 0, 2, 1, 0] B129) (cIn [1, 1, 1, 1, 1, 1, 0, 1, 2, 2, 1, 1, 0, 2, 1, 1] B129)))) (cIn [1, 1, 1, 1, 1, 1, 0, 1, 2, 2, 1, 1, 1] B129))) := by kernel_rfl
theorem decR : ∃ ia ib ic opsA opsB opsC, RmParts 101 229 11 59 60 61 62 63 64 65 13 14 opsA opsB opsC ∧ cIn [1, 1, 1, 1, 1, 1, 0, 1, 2, 2, 1, 1, 0, 2, 1, 0] B129 =
    .seq (.region ia opsA false) (.block 6 (.loop (.seq (.region ib opsB false) (.seq (.cond (.tmp 62) .skip (.exit 6)) (.block 7 (.seq (.region ic opsC false) (cIn [1, 1, 1, 1, 1, 1, 0, 1, 2, 2, 1, 1, 0, 2, 1, 0, 1, 2, 2, 1, 1, 2, 1] B129))))))) := by
  refine ⟨_, _, _, _, _, _, ?_, rfl⟩
  exact ⟨⟨_, _, rfl, ⟨rfl, rfl, rfl⟩, ⟨rfl, rfl, rfl⟩⟩, ⟨_, _, rfl, ⟨rfl, rfl, rfl⟩, ⟨rfl, rfl, rfl⟩⟩, ⟨_, _, _, _, _, rfl, ⟨rfl, rfl, rfl⟩, ⟨rfl, rfl, rfl⟩, ⟨rfl, rfl, rfl⟩, ⟨rfl, rfl, rfl⟩, ⟨rfl, rfl, rfl⟩⟩, by decide, by decide⟩
abbrev seqW (W1 W2 : Wp) : Wp := fun Q => W1 (thenQ (W2 Q) Q)
abbrev blkW (id : Nat) (W : Wp) : Wp := fun Q => W (blkQ id Q)
abbrev lpW (W : Wp) : Wp := fun Q s => ∃ m, loopW W m Q s
/-- a round of the letters -/
def rndW (C : PCtx) : Wp := seqW (awp Tryz.prog C P17) (seqW (awp Tryz.prog C P17c) (seqW (blkW 5 (seqW (awp Tryz.prog C P18) (seqW (rmW (awp Tryz.prog C P22) 11 59 60 61 62 63 64 65 13 14) (awp Tryz.prog C P28)))) (awp Tryz.prog C P29)))
/-- the whole function -/
def allW (C : PCtx) : Wp := seqW (awp Tryz.prog C P0) (seqW (awp Tryz.prog C P1) (seqW (awp Tryz.prog C P2) (seqW (awp Tryz.prog C P4) (seqW (awp Tryz.prog C P5) (seqW (awp Tryz.prog C P15) (seqW (seqW (awp Tryz.prog C P16) (blkW 4 (lpW (rndW C)))) (awp Tryz.prog C P30)))))))
theorem simR {C : PCtx} (hC : CtxOk Tryz.prog C) : Sim Tryz.prog 101 [] (cIn [1, 1, 1, 1, 1, 1, 0, 1, 2, 2, 1, 1, 0, 2, 1, 0] B129) (rmW (awp Tryz.prog C P22) 11 59 60 61 62 63 64 65 13 14) := by
  obtain ⟨ia, ib, ic, opsA, opsB, opsC, hp, e⟩ := decR
  rw [e]
  exact Sim.rmap Tryz.underlying229 hp (Sim.conv hC cP22)
theorem simL {C : PCtx} (hC : CtxOk Tryz.prog C) : Sim Tryz.prog 101 [] (cIn [1, 1, 1, 1, 1, 1, 0, 1, 2, 2] B129) (rndW C) := by
  rw [decL]
  exact Sim.seq (Sim.conv hC cP17) (Sim.seq (Sim.conv hC cP17c) (Sim.seq (Sim.block (Sim.seq (Sim.conv hC cP18) (Sim.seq (simR hC) (Sim.conv hC cP28)))) (Sim.conv hC cP29)))
theorem sim129 {C : PCtx} (hC : CtxOk Tryz.prog C) : Sim Tryz.prog 101 [] B129 (allW C) := by
  rw [dec129]
  exact Sim.seq (Sim.conv hC cP0) (Sim.seq (Sim.conv hC cP1) (Sim.seq (Sim.conv hC cP2) (Sim.seq (Sim.conv hC cP4) (Sim.seq (Sim.conv hC cP5) (Sim.seq (Sim.conv hC cP15) (Sim.seq (Sim.seq (Sim.conv hC cP16) (Sim.block (Sim.loop (simL hC)))) (Sim.conv hC cP30)))))))
end Go.Proofs.YtdcpkgedaflnmaaGreatDoor.Wm
