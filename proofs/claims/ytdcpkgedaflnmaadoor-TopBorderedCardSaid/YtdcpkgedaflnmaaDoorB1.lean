/-
  Functions of this seat's translation, compacted, each held against the loaded program by the kernel. Printed by wip/tools/Gex.lean.
-/
import Derived.Test.YtdcpkgedaflnmaaDoorProg
import Derived.Test.YtdcpkgedaflnmaaDoorFx2
import Derived.KernelRfl
namespace Go.Proofs.YtdcpkgedaflnmaaDoor.Bw
open Go Fw
def pureFns : List Nat := [0,1,2,3,4,5,6,7,8,9,10,11,12,13,14,15,16,17,18,19,20,21,22,23,24,25,26,27,28,29,30,31,32,33,34,35,36,37,38,39,40,41,42,43,44,45,46,47,48,49,50,51,52,53,54,55,56,57,58,59,60,61,62,63,64,65,66,67,68,69,72,73,74,75,76,77,78,79,80,81,82,83,85,86,87,88,89,90,91,92,93,94,95,99,101,102,103,104,105,106,107,108,109,110,112,113,114,115,116,117,119,120,121,123,124,125,126,127,128,129,130,131,135,136,137,138,139,140,141,142,143,144,145,146,149,150,151,152,153,154,155,156,157,158,159,160,161,162,163,164,165,166,167,168,169,170,171,172,173,174,175,176,177,178,179,180,181]
def A62 : ACode := .seq (.reg [⟨some 2, none, .boxi (.t 0)⟩, ⟨some 4, none, .mv (.c (.int .i64 0))⟩, ⟨some 5, none, .mv (.c (.int .i64 0))⟩])
  (.seq (.reg [⟨some 10, none, .load true 2 (.t 2)⟩, ⟨some 11, none, .pcall 88 [.t 10]⟩, ⟨some 6, none, .mv (.t 11)⟩])
  (.seq (.seq (.reg [⟨some 12, none, .mv (.t 6)⟩, ⟨some 13, none, .bin 0 .eql (.t 12) (.c (.int .i64 0))⟩])
  (.cond (.t 13) (.reg [⟨some 14, none, .load true 2 (.t 2)⟩, ⟨some 15, none, .mv (.t 1)⟩, ⟨some 16, none, .pcall 89 [.t 14, .t 15]⟩, ⟨some 6, none, .mv (.t 16)⟩]) (.skip)))
  (.seq (.seq (.reg [⟨some 17, none, .mv (.t 6)⟩, ⟨some 18, none, .bin 0 .neq (.t 17) (.c (.int .i64 0))⟩])
  (.cond (.t 18) (.seq (.reg [⟨some 19, none, .mv (.t 6)⟩, ⟨some 4, none, .mv (.c (.int .i64 0))⟩, ⟨some 5, none, .mv (.t 19)⟩])
  (.ret)) (.skip)))
  (.seq (.reg [⟨some 7, none, .mv (.c (.int .i64 1))⟩])
  (.seq (.seq (.reg [⟨some 20, none, .load true 2 (.t 2)⟩, ⟨some 21, none, .mv (.t 1)⟩, ⟨some 22, none, .pcall 90 [.t 20, .t 21]⟩, ⟨some 23, none, .mv (.c (.int .i64 0))⟩])
  (.block 0 (.loop (.seq (.reg [⟨some 24, none, .bin 0 .lss (.t 23) (.c (.int .i64 8))⟩])
  (.seq (.cond (.t 24) (.skip) (.exit 0))
  (.seq (.block 1 (.seq (.reg [⟨some 25, none, .index 8 false 1 (.t 22) (.t 23)⟩, ⟨some 9, none, .mv (.t 25)⟩])
  (.reg [⟨some 26, none, .mv (.t 7)⟩, ⟨some 27, none, .mem .glob []⟩, ⟨some 28, none, .mv (.t 9)⟩, ⟨some 29, none, .iaddrS 1 (.t 27) (.t 28)⟩, ⟨some 30, none, .load false 1 (.t 29)⟩, ⟨some 31, none, .max (.c (.int .i64 1)) (.t 30)⟩, ⟨some 32, none, .bin 0 .mul (.t 26) (.t 31)⟩, ⟨some 7, none, .mv (.t 32)⟩])))
  (.reg [⟨some 33, none, .bin 0 .add (.t 23) (.c (.int .i64 1))⟩, ⟨some 23, none, .mv (.t 33)⟩])))))))
  (.seq (.reg [⟨some 34, none, .mv (.t 7)⟩, ⟨some 4, none, .mv (.t 34)⟩, ⟨some 5, none, .mv (.c (.int .i64 0))⟩])
  (.ret)))))))
def R62 : List ARes := [.t 4, .t 5]
theorem ok62 : FnOk Tryd.prog 62 [] pureFns A62 R62 35 := ⟨⟨Tryd.f62, _, Tryd.func62, rfl, rfl, by kernel_rfl, by kernel_rfl⟩, by kernel_rfl⟩
def A88 : ACode := .seq (.reg [⟨some 1, none, .boxi (.t 0)⟩, ⟨some 2, none, .mv (.c (.int .i64 0))⟩])
  (.seq (.block 0 (.seq (.reg [⟨some 7, none, .faddr false 1 0 (.t 1)⟩, ⟨some 8, none, .load false 1 (.t 7)⟩, ⟨some 9, none, .pcall 112 [.c (.int .i64 2), .t 8, .c (.int .i64 4)]⟩, ⟨some 10, none, .un .not (.t 9)⟩, ⟨some 6, none, .mv (.t 10)⟩])
  (.cond (.t 6) (.seq (.reg [⟨some 2, none, .mv (.c (.int .i64 4))⟩])
  (.ret)) (.seq (.reg [⟨some 12, none, .faddr false 1 1 (.t 1)⟩, ⟨some 13, none, .load false 1 (.t 12)⟩, ⟨some 14, none, .len false (.t 13)⟩, ⟨some 15, none, .bin 0 .eql (.t 14) (.c (.int .i64 0))⟩, ⟨some 11, none, .mv (.t 15)⟩])
  (.cond (.t 11) (.seq (.reg [⟨some 2, none, .mv (.c (.int .i64 1))⟩])
  (.ret)) (.seq (.reg [⟨some 17, none, .faddr false 1 1 (.t 1)⟩, ⟨some 18, none, .load false 1 (.t 17)⟩, ⟨some 19, none, .len false (.t 18)⟩, ⟨some 20, none, .bin 0 .gtr (.t 19) (.c (.int .i64 10))⟩, ⟨some 16, none, .mv (.t 20)⟩])
  (.cond (.t 16) (.seq (.reg [⟨some 2, none, .mv (.c (.int .i64 2))⟩])
  (.ret)) (.seq (.reg [⟨some 22, none, .load true 2 (.t 1)⟩, ⟨some 23, none, .pcall 113 [.t 22]⟩, ⟨some 24, none, .pcall 112 [.c (.int .i64 1), .t 23, .c (.int .i64 8)]⟩, ⟨some 25, none, .un .not (.t 24)⟩, ⟨some 26, none, .mv (.t 25)⟩, ⟨some 27, some (26, false), .faddr false 1 1 (.t 1)⟩, ⟨some 28, some (26, false), .load false 1 (.t 27)⟩, ⟨some 29, some (26, false), .mkfn (.func 114) [] [.t 1]⟩, ⟨some 30, some (26, false), .hcall 96 [.t 28, .t 29]⟩, ⟨some 31, none, .pick (.t 26) (.c (.bool true)) (.t 30)⟩, ⟨some 21, none, .mv (.t 31)⟩])
  (.cond (.t 21) (.seq (.reg [⟨some 2, none, .mv (.c (.int .i64 3))⟩])
  (.ret)) (.skip))))))))))
  (.seq (.seq (.reg [⟨some 32, none, .faddr false 1 1 (.t 1)⟩, ⟨some 33, none, .load false 1 (.t 32)⟩, ⟨some 34, none, .len false (.t 33)⟩, ⟨some 35, none, .mv (.c (.int .i64 0))⟩])
  (.block 1 (.loop (.seq (.reg [⟨some 36, none, .bin 0 .lss (.t 35) (.t 34)⟩])
  (.seq (.cond (.t 36) (.skip) (.exit 1))
  (.seq (.block 2 (.seq (.reg [⟨some 37, none, .iaddrS 1 (.t 33) (.t 35)⟩, ⟨some 38, none, .load false 1 (.t 37)⟩, ⟨some 4, none, .mv (.t 38)⟩])
  (.seq (.reg [⟨some 39, none, .load true 2 (.t 1)⟩, ⟨some 40, none, .mv (.t 4)⟩, ⟨some 41, none, .pcall 115 [.t 39, .t 40]⟩, ⟨some 5, none, .mv (.t 41)⟩])
  (.seq (.reg [⟨some 42, none, .mv (.t 5)⟩, ⟨some 43, none, .bin 0 .neq (.t 42) (.c (.int .i64 0))⟩])
  (.cond (.t 43) (.seq (.reg [⟨some 44, none, .mv (.t 5)⟩, ⟨some 2, none, .mv (.t 44)⟩])
  (.ret)) (.skip))))))
  (.reg [⟨some 45, none, .bin 0 .add (.t 35) (.c (.int .i64 1))⟩, ⟨some 35, none, .mv (.t 45)⟩])))))))
  (.seq (.reg [⟨some 2, none, .mv (.c (.int .i64 0))⟩])
  (.ret))))
def R88 : List ARes := [.t 2]
theorem ok88 : FnOk Tryd.prog 88 [] pureFns A88 R88 46 := ⟨⟨Tryd.f88, _, Tryd.func88, rfl, rfl, by kernel_rfl, by kernel_rfl⟩, by kernel_rfl⟩
def A89 : ACode := .seq (.reg [⟨some 2, none, .boxi (.t 0)⟩, ⟨some 4, none, .mv (.c (.int .i64 0))⟩])
  (.seq (.seq (.reg [⟨some 8, none, .mv (.t 1)⟩, ⟨some 9, none, .len false (.t 8)⟩, ⟨some 10, none, .bin 0 .eql (.t 9) (.c (.int .i64 0))⟩])
  (.cond (.t 10) (.seq (.reg [⟨some 4, none, .mv (.c (.int .i64 1))⟩])
  (.ret)) (.skip)))
  (.seq (.reg [⟨some 5, none, .mv (.c (.int .i64 (-1)))⟩])
  (.seq (.seq (.reg [⟨some 11, none, .mv (.t 1)⟩, ⟨some 12, none, .len false (.t 11)⟩, ⟨some 13, none, .mv (.c (.int .i64 0))⟩])
  (.block 0 (.loop (.seq (.reg [⟨some 14, none, .bin 0 .lss (.t 13) (.t 12)⟩])
  (.seq (.cond (.t 14) (.skip) (.exit 0))
  (.seq (.block 1 (.seq (.reg [⟨some 15, none, .iaddrS 1 (.t 11) (.t 13)⟩, ⟨some 16, none, .load false 1 (.t 15)⟩, ⟨some 7, none, .mv (.t 16)⟩])
  (.seq (.block 2 (.seq (.reg [⟨some 18, none, .mv (.t 7)⟩, ⟨some 19, none, .faddr false 1 1 (.t 2)⟩, ⟨some 20, none, .load false 1 (.t 19)⟩, ⟨some 21, none, .len false (.t 20)⟩, ⟨some 22, none, .bin 0 .sub (.t 21) (.c (.int .i64 1))⟩, ⟨some 23, none, .pcall 112 [.c (.int .i64 0), .t 18, .t 22]⟩, ⟨some 24, none, .un .not (.t 23)⟩, ⟨some 17, none, .mv (.t 24)⟩])
  (.cond (.t 17) (.seq (.reg [⟨some 4, none, .mv (.c (.int .i64 5))⟩])
  (.ret)) (.seq (.reg [⟨some 26, none, .mv (.t 7)⟩, ⟨some 27, none, .mv (.t 5)⟩, ⟨some 28, none, .bin 0 .leq (.t 26) (.t 27)⟩, ⟨some 25, none, .mv (.t 28)⟩])
  (.cond (.t 25) (.seq (.reg [⟨some 4, none, .mv (.c (.int .i64 7))⟩])
  (.ret)) (.skip))))))
  (.reg [⟨some 29, none, .mv (.t 7)⟩, ⟨some 5, none, .mv (.t 29)⟩]))))
  (.reg [⟨some 30, none, .bin 0 .add (.t 13) (.c (.int .i64 1))⟩, ⟨some 13, none, .mv (.t 30)⟩])))))))
  (.seq (.reg [⟨some 4, none, .mv (.c (.int .i64 0))⟩])
  (.ret)))))
def R89 : List ARes := [.t 4]
theorem ok89 : FnOk Tryd.prog 89 [] pureFns A89 R89 31 := ⟨⟨Tryd.f89, _, Tryd.func89, rfl, rfl, by kernel_rfl, by kernel_rfl⟩, by kernel_rfl⟩
def A90 : ACode := .seq (.reg [⟨some 2, none, .boxi (.t 0)⟩, ⟨some 4, none, .alloc [.int .u8 0, .int .u8 0, .int .u8 0, .int .u8 0, .int .u8 0, .int .u8 0, .int .u8 0, .int .u8 0]⟩])
  (.seq (.reg [⟨some 5, none, .alloc [.int .u8 0, .int .u8 0, .int .u8 0, .int .u8 0, .int .u8 0, .int .u8 0, .int .u8 0, .int .u8 0]⟩])
  (.seq (.seq (.reg [⟨some 10, none, .mv (.t 1)⟩, ⟨some 11, none, .len false (.t 10)⟩, ⟨some 12, none, .mv (.c (.int .i64 0))⟩])
  (.block 0 (.loop (.seq (.reg [⟨some 13, none, .bin 0 .lss (.t 12) (.t 11)⟩])
  (.seq (.cond (.t 13) (.skip) (.exit 0))
  (.seq (.block 1 (.seq (.reg [⟨some 14, none, .iaddrS 1 (.t 10) (.t 12)⟩, ⟨some 15, none, .load false 1 (.t 14)⟩, ⟨some 7, none, .mv (.t 15)⟩])
  (.seq (.reg [⟨some 16, none, .faddr false 1 1 (.t 2)⟩, ⟨some 17, none, .load false 1 (.t 16)⟩, ⟨some 18, none, .mv (.t 7)⟩, ⟨some 19, none, .iaddrS 1 (.t 17) (.t 18)⟩, ⟨some 20, none, .load false 1 (.t 19)⟩, ⟨some 21, none, .buildSl 1 [.t 20]⟩, ⟨some 22, none, .pcall 116 [.t 21]⟩, ⟨some 23, none, .mv (.c (.int .i64 0))⟩])
  (.block 2 (.loop (.seq (.reg [⟨some 24, none, .bin 0 .lss (.t 23) (.c (.int .i64 8))⟩])
  (.seq (.cond (.t 24) (.skip) (.exit 2))
  (.seq (.block 3 (.seq (.reg [⟨some 25, none, .mv (.t 23)⟩, ⟨some 26, none, .index 8 false 1 (.t 22) (.t 23)⟩, ⟨some 8, none, .mv (.t 25)⟩, ⟨some 9, none, .mv (.t 26)⟩])
  (.reg [⟨some 27, none, .mv (.t 8)⟩, ⟨some 28, none, .iaddrA 8 false 1 (.t 5) (.t 27)⟩, ⟨some 29, none, .load false 1 (.t 28)⟩, ⟨some 30, none, .mv (.t 9)⟩, ⟨some 31, none, .bin 0 .or (.t 29) (.t 30)⟩, ⟨some 32, none, .iaddrA 8 false 1 (.t 5) (.t 27)⟩, ⟨none, none, .store 1 (.t 32) (.t 31)⟩])))
  (.reg [⟨some 33, none, .bin 0 .add (.t 23) (.c (.int .i64 1))⟩, ⟨some 23, none, .mv (.t 33)⟩])))))))))
  (.reg [⟨some 34, none, .bin 0 .add (.t 12) (.c (.int .i64 1))⟩, ⟨some 12, none, .mv (.t 34)⟩])))))))
  (.seq (.reg [⟨some 35, none, .load true 8 (.t 5)⟩, ⟨none, none, .store 8 (.t 4) (.t 35)⟩])
  (.ret))))
def R90 : List ARes := [.cell true 8 4]
theorem ok90 : FnOk Tryd.prog 90 [] pureFns A90 R90 36 := ⟨⟨Tryd.f90, _, Tryd.func90, rfl, rfl, by kernel_rfl, by kernel_rfl⟩, by kernel_rfl⟩
def A112 : ACode := .seq (.reg [⟨some 6, none, .mv (.c (.bool false))⟩])
  (.seq (.reg [⟨some 7, none, .mv (.t 0)⟩, ⟨some 8, none, .mv (.t 1)⟩, ⟨some 9, none, .bin 0 .leq (.t 7) (.t 8)⟩, ⟨some 10, none, .mv (.t 9)⟩, ⟨some 11, some (10, true), .mv (.t 1)⟩, ⟨some 12, some (10, true), .mv (.t 2)⟩, ⟨some 13, some (10, true), .bin 0 .leq (.t 11) (.t 12)⟩, ⟨some 14, none, .pick (.t 10) (.t 13) (.c (.bool false))⟩, ⟨some 6, none, .mv (.t 14)⟩])
  (.ret))
def R112 : List ARes := [.t 6]
theorem ok112 : FnOk Tryd.prog 112 [] pureFns A112 R112 15 := ⟨⟨Tryd.f112, _, Tryd.func112, rfl, rfl, by kernel_rfl, by kernel_rfl⟩, by kernel_rfl⟩
def A113 : ACode := .seq (.reg [⟨some 1, none, .boxi (.t 0)⟩, ⟨some 2, none, .mv (.c (.int .i64 0))⟩])
  (.seq (.reg [⟨some 3, none, .faddr false 1 1 (.t 1)⟩, ⟨some 4, none, .load false 1 (.t 3)⟩, ⟨some 5, none, .iaddrS 1 (.t 4) (.c (.int .i64 0))⟩, ⟨some 6, none, .load false 1 (.t 5)⟩, ⟨some 7, none, .len false (.t 6)⟩, ⟨some 2, none, .mv (.t 7)⟩])
  (.ret))
def R113 : List ARes := [.t 2]
theorem ok113 : FnOk Tryd.prog 113 [] pureFns A113 R113 8 := ⟨⟨Tryd.f113, _, Tryd.func113, rfl, rfl, by kernel_rfl, by kernel_rfl⟩, by kernel_rfl⟩
def A114 : ACode := .seq (.reg [⟨some 3, none, .mv (.c (.bool false))⟩])
  (.seq (.reg [⟨some 4, none, .mv (.t 0)⟩, ⟨some 5, none, .len false (.t 4)⟩, ⟨some 6, none, .load true 2 (.t 1)⟩, ⟨some 7, none, .pcall 113 [.t 6]⟩, ⟨some 8, none, .bin 0 .neq (.t 5) (.t 7)⟩, ⟨some 3, none, .mv (.t 8)⟩])
  (.ret))
def R114 : List ARes := [.t 3]
theorem ok114 : FnOk Tryd.prog 114 [] pureFns A114 R114 9 := ⟨⟨Tryd.f114, _, Tryd.func114, rfl, rfl, by kernel_rfl, by kernel_rfl⟩, by kernel_rfl⟩
def A115 : ACode := .seq (.reg [⟨some 2, none, .boxi (.t 0)⟩, ⟨some 4, none, .mv (.c (.int .i64 0))⟩])
  (.seq (.block 0 (.seq (.reg [⟨some 6, none, .mv (.t 1)⟩, ⟨some 7, none, .len false (.t 6)⟩, ⟨some 8, none, .load true 2 (.t 2)⟩, ⟨some 9, none, .pcall 113 [.t 8]⟩, ⟨some 10, none, .bin 0 .neq (.t 7) (.t 9)⟩, ⟨some 5, none, .mv (.t 10)⟩])
  (.cond (.t 5) (.seq (.reg [⟨some 4, none, .mv (.c (.int .i64 3))⟩])
  (.ret)) (.seq (.reg [⟨some 12, none, .mv (.t 1)⟩, ⟨some 13, none, .mkfn (.func 128) [] [.t 2]⟩, ⟨some 14, none, .hcall 70 [.t 12, .t 13]⟩, ⟨some 11, none, .mv (.t 14)⟩])
  (.cond (.t 11) (.seq (.reg [⟨some 4, none, .mv (.c (.int .i64 4))⟩])
  (.ret)) (.skip))))))
  (.seq (.reg [⟨some 4, none, .mv (.c (.int .i64 0))⟩])
  (.ret)))
def R115 : List ARes := [.t 4]
theorem ok115 : FnOk Tryd.prog 115 [] pureFns A115 R115 15 := ⟨⟨Tryd.f115, _, Tryd.func115, rfl, rfl, by kernel_rfl, by kernel_rfl⟩, by kernel_rfl⟩
def A116 : ACode := .seq (.reg [⟨some 2, none, .alloc [.int .u8 0, .int .u8 0, .int .u8 0, .int .u8 0, .int .u8 0, .int .u8 0, .int .u8 0, .int .u8 0]⟩])
  (.seq (.reg [⟨some 3, none, .alloc [.int .u8 0, .int .u8 0, .int .u8 0, .int .u8 0, .int .u8 0, .int .u8 0, .int .u8 0, .int .u8 0]⟩])
  (.seq (.seq (.reg [⟨some 8, none, .mv (.t 0)⟩, ⟨some 9, none, .len false (.t 8)⟩, ⟨some 10, none, .mv (.c (.int .i64 0))⟩])
  (.block 0 (.loop (.seq (.reg [⟨some 11, none, .bin 0 .lss (.t 10) (.t 9)⟩])
  (.seq (.cond (.t 11) (.skip) (.exit 0))
  (.seq (.block 1 (.seq (.reg [⟨some 12, none, .iaddrS 1 (.t 8) (.t 10)⟩, ⟨some 13, none, .load false 1 (.t 12)⟩, ⟨some 5, none, .mv (.t 13)⟩])
  (.seq (.reg [⟨some 14, none, .mv (.t 5)⟩, ⟨some 15, none, .len false (.t 14)⟩, ⟨some 16, none, .mv (.c (.int .i64 0))⟩])
  (.block 2 (.loop (.seq (.reg [⟨some 17, none, .bin 0 .lss (.t 16) (.t 15)⟩])
  (.seq (.cond (.t 17) (.skip) (.exit 2))
  (.seq (.block 3 (.seq (.reg [⟨some 18, none, .mv (.t 16)⟩, ⟨some 19, none, .iaddrS 1 (.t 14) (.t 16)⟩, ⟨some 20, none, .load false 1 (.t 19)⟩, ⟨some 6, none, .mv (.t 18)⟩, ⟨some 7, none, .mv (.t 20)⟩])
  (.regd [⟨some 21, none, .mv (.t 6)⟩, ⟨some 22, none, .iaddrA 8 false 1 (.t 3) (.t 21)⟩, ⟨some 23, none, .load false 1 (.t 22)⟩, ⟨some 24, none, .mv (.t 7)⟩, ⟨some 25, none, .bin 0 .shl (.c (.int .u8 1)) (.t 24)⟩, ⟨some 26, none, .bin 0 .or (.t 23) (.t 25)⟩, ⟨some 27, none, .iaddrA 8 false 1 (.t 3) (.t 21)⟩, ⟨none, none, .store 1 (.t 27) (.t 26)⟩])))
  (.reg [⟨some 28, none, .bin 0 .add (.t 16) (.c (.int .i64 1))⟩, ⟨some 16, none, .mv (.t 28)⟩])))))))))
  (.reg [⟨some 29, none, .bin 0 .add (.t 10) (.c (.int .i64 1))⟩, ⟨some 10, none, .mv (.t 29)⟩])))))))
  (.seq (.reg [⟨some 30, none, .load true 8 (.t 3)⟩, ⟨none, none, .store 8 (.t 2) (.t 30)⟩])
  (.ret))))
def R116 : List ARes := [.cell true 8 2]
theorem ok116 : FnOk Tryd.prog 116 [] pureFns A116 R116 31 := ⟨⟨Tryd.f116, _, Tryd.func116, rfl, rfl, by kernel_rfl, by kernel_rfl⟩, by kernel_rfl⟩
def A128 : ACode := .seq (.reg [⟨some 3, none, .mv (.c (.bool false))⟩])
  (.seq (.reg [⟨some 4, none, .mv (.t 0)⟩, ⟨some 5, none, .faddr false 1 0 (.t 1)⟩, ⟨some 6, none, .load false 1 (.t 5)⟩, ⟨some 7, none, .bin 0 .sub (.t 6) (.c (.int .i64 1))⟩, ⟨some 8, none, .pcall 112 [.c (.int .i64 0), .t 4, .t 7]⟩, ⟨some 9, none, .un .not (.t 8)⟩, ⟨some 3, none, .mv (.t 9)⟩])
  (.ret))
def R128 : List ARes := [.t 3]
theorem ok128 : FnOk Tryd.prog 128 [] pureFns A128 R128 10 := ⟨⟨Tryd.f128, _, Tryd.func128, rfl, rfl, by kernel_rfl, by kernel_rfl⟩, by kernel_rfl⟩
def A91 : ACode := .seq (.reg [⟨some 4, none, .mv (.c (.int .i64 0))⟩, ⟨some 5, none, .mv (.c (.int .i64 0))⟩])
  (.seq (.seq (.reg [⟨some 11, none, .mv (.t 0)⟩, ⟨some 12, none, .mv (.t 1)⟩, ⟨some 13, none, .pcall 117 [.t 11, .t 12]⟩, ⟨some 6, none, .mv (.t 13)⟩])
  (.seq (.reg [⟨some 14, none, .mv (.t 6)⟩, ⟨some 15, none, .bin 0 .neq (.t 14) (.c (.int .i64 0))⟩])
  (.cond (.t 15) (.seq (.reg [⟨some 16, none, .mv (.t 6)⟩, ⟨some 4, none, .mv (.c (.int .i64 0))⟩, ⟨some 5, none, .mv (.t 16)⟩])
  (.ret)) (.skip))))
  (.seq (.reg [⟨some 7, none, .mv (.c (.int .i64 0))⟩])
  (.seq (.seq (.reg [⟨some 17, none, .mv (.t 0)⟩, ⟨some 18, none, .mv (.t 1)⟩, ⟨some 19, none, .hcall 118 [.t 17, .t 18]⟩, ⟨some 20, none, .len false (.t 19)⟩, ⟨some 21, none, .mv (.c (.int .i64 0))⟩])
  (.block 0 (.loop (.seq (.reg [⟨some 22, none, .bin 0 .lss (.t 21) (.t 20)⟩])
  (.seq (.cond (.t 22) (.skip) (.exit 0))
  (.seq (.block 1 (.seq (.reg [⟨some 23, none, .iaddrS 2 (.t 19) (.t 21)⟩, ⟨some 24, none, .load true 2 (.t 23)⟩, ⟨some 9, none, .alloc [.int .i64 0, .nilfn]⟩, ⟨none, none, .store 2 (.t 9) (.t 24)⟩])
  (.seq (.reg [⟨some 25, none, .faddr false 1 0 (.t 9)⟩, ⟨some 26, none, .load false 1 (.t 25)⟩, ⟨some 27, none, .mv (.c (.int .i64 0))⟩])
  (.block 2 (.loop (.seq (.reg [⟨some 28, none, .bin 0 .lss (.t 27) (.t 26)⟩])
  (.seq (.cond (.t 28) (.skip) (.exit 2))
  (.seq (.block 3 (.seq (.reg [⟨some 29, none, .mv (.t 27)⟩, ⟨some 10, none, .mv (.t 29)⟩])
  (.reg [⟨some 30, none, .mv (.t 7)⟩, ⟨some 31, none, .faddr false 1 1 (.t 9)⟩, ⟨some 32, none, .load false 1 (.t 31)⟩, ⟨some 33, none, .mv (.t 10)⟩, ⟨some 34, none, .callv (.t 32) [.t 33]⟩, ⟨some 35, none, .max (.t 30) (.t 34)⟩, ⟨some 7, none, .mv (.t 35)⟩])))
  (.reg [⟨some 36, none, .bin 0 .add (.t 27) (.c (.int .i64 1))⟩, ⟨some 27, none, .mv (.t 36)⟩])))))))))
  (.reg [⟨some 37, none, .bin 0 .add (.t 21) (.c (.int .i64 1))⟩, ⟨some 21, none, .mv (.t 37)⟩])))))))
  (.seq (.reg [⟨some 38, none, .mv (.t 7)⟩, ⟨some 4, none, .mv (.t 38)⟩, ⟨some 5, none, .mv (.c (.int .i64 0))⟩])
  (.ret)))))
def R91 : List ARes := [.t 4, .t 5]
theorem ok91 : FnOk Tryd.prog 91 [] pureFns A91 R91 39 := ⟨⟨Tryd.f91, _, Tryd.func91, rfl, rfl, by kernel_rfl, by kernel_rfl⟩, by kernel_rfl⟩
def A117 : ACode := .seq (.reg [⟨some 4, none, .mv (.c (.int .i64 0))⟩])
  (.seq (.reg [⟨some 6, none, .mv (.t 0)⟩, ⟨some 7, none, .pcall 129 [.t 6]⟩, ⟨some 5, none, .mv (.t 7)⟩])
  (.seq (.seq (.reg [⟨some 8, none, .mv (.t 5)⟩, ⟨some 9, none, .bin 0 .eql (.t 8) (.c (.int .i64 0))⟩, ⟨some 10, none, .mv (.t 9)⟩, ⟨some 11, some (10, true), .mv (.t 1)⟩, ⟨some 12, some (10, true), .pcall 130 [.c (.int .i64 1), .t 11, .c (.int .i64 6)]⟩, ⟨some 13, some (10, true), .un .not (.t 12)⟩, ⟨some 14, none, .pick (.t 10) (.t 13) (.c (.bool false))⟩])
  (.cond (.t 14) (.seq (.reg [⟨some 4, none, .mv (.c (.int .i64 4))⟩])
  (.ret)) (.skip)))
  (.seq (.reg [⟨some 15, none, .mv (.t 5)⟩, ⟨some 4, none, .mv (.t 15)⟩])
  (.ret))))
def R117 : List ARes := [.t 4]
theorem ok117 : FnOk Tryd.prog 117 [] pureFns A117 R117 16 := ⟨⟨Tryd.f117, _, Tryd.func117, rfl, rfl, by kernel_rfl, by kernel_rfl⟩, by kernel_rfl⟩
def A118 : ACode := .seq (.reg [⟨some 3, none, .boxi (.t 1)⟩, ⟨some 4, none, .mv (.c (.nilsl))⟩])
  (.seq (.reg [⟨some 8, none, .mv (.t 0)⟩, ⟨some 9, none, .pcall 131 [.t 8]⟩, ⟨some 7, none, .mv (.t 9)⟩, ⟨some 10, none, .extract (.t 7) 0⟩, ⟨some 11, none, .extract (.t 7) 1⟩, ⟨some 5, none, .alloc [.nilsl]⟩, ⟨some 6, none, .alloc [.nilsl]⟩, ⟨none, none, .store 1 (.t 5) (.t 10)⟩, ⟨none, none, .store 1 (.t 6) (.t 11)⟩])
  (.seq (.reg [⟨some 12, none, .load false 1 (.t 5)⟩, ⟨some 13, none, .len false (.t 12)⟩, ⟨some 14, none, .mkfn (.func 132) [] [.t 5]⟩, ⟨some 15, none, .build [.int .i64 0, .nilfn] [(0, 1, (.t 13)), (1, 1, (.t 14))]⟩, ⟨some 16, none, .load false 1 (.t 6)⟩, ⟨some 17, none, .len false (.t 16)⟩, ⟨some 18, none, .mkfn (.func 133) [] [.t 6]⟩, ⟨some 19, none, .build [.int .i64 0, .nilfn] [(0, 1, (.t 17)), (1, 1, (.t 18))]⟩, ⟨some 20, none, .mkfn (.func 134) [] [.t 5, .t 3]⟩, ⟨some 21, none, .build [.int .i64 0, .nilfn] [(0, 1, (.c (.int .i64 1))), (1, 1, (.t 20))]⟩, ⟨some 22, none, .buildSl 2 [.t 15, .t 19, .t 21]⟩, ⟨some 4, none, .mv (.t 22)⟩])
  (.ret)))
def R118 : List ARes := [.t 4]
theorem ok118 : FnOk Tryd.prog 118 [] pureFns A118 R118 23 := ⟨⟨Tryd.f118, _, Tryd.func118, rfl, rfl, by kernel_rfl, by kernel_rfl⟩, by kernel_rfl⟩
def A129 : ACode := .seq (.reg [⟨some 1, none, .boxi (.t 0)⟩, ⟨some 2, none, .mv (.c (.int .i64 0))⟩])
  (.seq (.block 0 (.seq (.reg [⟨some 4, none, .load false 1 (.t 1)⟩, ⟨some 5, none, .len false (.t 4)⟩, ⟨some 6, none, .bin 0 .eql (.t 5) (.c (.int .i64 0))⟩, ⟨some 3, none, .mv (.t 6)⟩])
  (.cond (.t 3) (.seq (.reg [⟨some 2, none, .mv (.c (.int .i64 1))⟩])
  (.ret)) (.seq (.reg [⟨some 8, none, .load false 1 (.t 1)⟩, ⟨some 9, none, .len false (.t 8)⟩, ⟨some 10, none, .bin 0 .gtr (.t 9) (.c (.int .i64 6))⟩, ⟨some 7, none, .mv (.t 10)⟩])
  (.cond (.t 7) (.seq (.reg [⟨some 2, none, .mv (.c (.int .i64 2))⟩])
  (.ret)) (.seq (.reg [⟨some 12, none, .load false 1 (.t 1)⟩, ⟨some 13, none, .iaddrS 1 (.t 12) (.c (.int .i64 0))⟩, ⟨some 14, none, .load false 1 (.t 13)⟩, ⟨some 15, none, .len false (.t 14)⟩, ⟨some 16, none, .pcall 130 [.c (.int .i64 1), .t 15, .c (.int .i64 6)]⟩, ⟨some 17, none, .un .not (.t 16)⟩, ⟨some 18, none, .mv (.t 17)⟩, ⟨some 19, some (18, false), .load false 1 (.t 1)⟩, ⟨some 20, some (18, false), .mkfn (.func 145) [] [.t 1]⟩, ⟨some 21, some (18, false), .hcall 96 [.t 19, .t 20]⟩, ⟨some 22, none, .pick (.t 18) (.c (.bool true)) (.t 21)⟩, ⟨some 11, none, .mv (.t 22)⟩])
  (.cond (.t 11) (.seq (.reg [⟨some 2, none, .mv (.c (.int .i64 3))⟩])
  (.ret)) (.seq (.reg [⟨some 24, none, .load false 1 (.t 1)⟩, ⟨some 25, none, .hcall 84 [.t 24]⟩, ⟨some 26, none, .hcall 70 [.t 25, .c (.fn (.func 146) [] [])]⟩, ⟨some 23, none, .mv (.t 26)⟩])
  (.cond (.t 23) (.seq (.reg [⟨some 2, none, .mv (.c (.int .i64 4))⟩])
  (.ret)) (.skip))))))))))
  (.seq (.reg [⟨some 2, none, .mv (.c (.int .i64 0))⟩])
  (.ret)))
def R129 : List ARes := [.t 2]
theorem ok129 : FnOk Tryd.prog 129 [] pureFns A129 R129 27 := ⟨⟨Tryd.f129, _, Tryd.func129, rfl, rfl, by kernel_rfl, by kernel_rfl⟩, by kernel_rfl⟩
def A130 : ACode := .seq (.reg [⟨some 6, none, .mv (.c (.bool false))⟩])
  (.seq (.reg [⟨some 7, none, .mv (.t 0)⟩, ⟨some 8, none, .mv (.t 1)⟩, ⟨some 9, none, .bin 0 .leq (.t 7) (.t 8)⟩, ⟨some 10, none, .mv (.t 9)⟩, ⟨some 11, some (10, true), .mv (.t 1)⟩, ⟨some 12, some (10, true), .mv (.t 2)⟩, ⟨some 13, some (10, true), .bin 0 .leq (.t 11) (.t 12)⟩, ⟨some 14, none, .pick (.t 10) (.t 13) (.c (.bool false))⟩, ⟨some 6, none, .mv (.t 14)⟩])
  (.ret))
def R130 : List ARes := [.t 6]
theorem ok130 : FnOk Tryd.prog 130 [] pureFns A130 R130 15 := ⟨⟨Tryd.f130, _, Tryd.func130, rfl, rfl, by kernel_rfl, by kernel_rfl⟩, by kernel_rfl⟩
def A131 : ACode := .seq (.reg [⟨some 2, none, .mv (.c (.nilsl))⟩, ⟨some 3, none, .mv (.c (.nilsl))⟩])
  (.seq (.seq (.reg [⟨some 7, none, .mv (.t 0)⟩, ⟨some 8, none, .len false (.t 7)⟩, ⟨some 9, none, .mv (.c (.int .i64 0))⟩])
  (.block 0 (.loop (.seq (.reg [⟨some 10, none, .bin 0 .lss (.t 9) (.t 8)⟩])
  (.seq (.cond (.t 10) (.skip) (.exit 0))
  (.seq (.block 1 (.seq (.reg [⟨some 11, none, .iaddrS 1 (.t 7) (.t 9)⟩, ⟨some 12, none, .load false 1 (.t 11)⟩, ⟨some 5, none, .mv (.t 12)⟩])
  (.reg [⟨some 13, none, .mv (.t 2)⟩, ⟨some 14, none, .mv (.t 5)⟩, ⟨some 15, none, .pcall 136 [.t 14, .c (.fn (.func 137) [] [])]⟩, ⟨some 16, none, .buildSl 1 [.t 15]⟩, ⟨some 17, none, .append 1 (.t 13) (.t 16)⟩, ⟨some 2, none, .mv (.t 17)⟩])))
  (.reg [⟨some 18, none, .bin 0 .add (.t 9) (.c (.int .i64 1))⟩, ⟨some 9, none, .mv (.t 18)⟩])))))))
  (.seq (.seq (.reg [⟨some 19, none, .mv (.t 0)⟩, ⟨some 20, none, .iaddrS 1 (.t 19) (.c (.int .i64 0))⟩, ⟨some 21, none, .load false 1 (.t 20)⟩, ⟨some 22, none, .len false (.t 21)⟩, ⟨some 23, none, .mv (.c (.int .i64 0))⟩])
  (.block 2 (.loop (.seq (.reg [⟨some 24, none, .bin 0 .lss (.t 23) (.t 22)⟩])
  (.seq (.cond (.t 24) (.skip) (.exit 2))
  (.seq (.block 3 (.seq (.reg [⟨some 25, none, .mv (.t 23)⟩, ⟨some 6, none, .alloc [.int .i64 0]⟩, ⟨none, none, .store 1 (.t 6) (.t 25)⟩])
  (.reg [⟨some 26, none, .mv (.t 3)⟩, ⟨some 27, none, .mv (.t 0)⟩, ⟨some 28, none, .mkfn (.func 148) [] [.t 6]⟩, ⟨some 29, none, .hcall 147 [.t 27, .t 28]⟩, ⟨some 30, none, .buildSl 1 [.t 29]⟩, ⟨some 31, none, .append 1 (.t 26) (.t 30)⟩, ⟨some 3, none, .mv (.t 31)⟩])))
  (.reg [⟨some 32, none, .bin 0 .add (.t 23) (.c (.int .i64 1))⟩, ⟨some 23, none, .mv (.t 32)⟩])))))))
  (.seq (.reg [⟨some 33, none, .mv (.t 2)⟩, ⟨some 34, none, .mv (.t 3)⟩, ⟨some 2, none, .mv (.t 33)⟩, ⟨some 3, none, .mv (.t 34)⟩])
  (.ret))))
def R131 : List ARes := [.t 2, .t 3]
theorem ok131 : FnOk Tryd.prog 131 [] pureFns A131 R131 35 := ⟨⟨Tryd.f131, _, Tryd.func131, rfl, rfl, by kernel_rfl, by kernel_rfl⟩, by kernel_rfl⟩
def A132 : ACode := .seq (.reg [⟨some 3, none, .mv (.c (.int .i64 0))⟩])
  (.seq (.reg [⟨some 4, none, .load false 1 (.t 1)⟩, ⟨some 5, none, .mv (.t 0)⟩, ⟨some 6, none, .iaddrS 1 (.t 4) (.t 5)⟩, ⟨some 7, none, .load false 1 (.t 6)⟩, ⟨some 3, none, .mv (.t 7)⟩])
  (.ret))
def R132 : List ARes := [.t 3]
theorem ok132 : FnOk Tryd.prog 132 [] pureFns A132 R132 8 := ⟨⟨Tryd.f132, _, Tryd.func132, rfl, rfl, by kernel_rfl, by kernel_rfl⟩, by kernel_rfl⟩
def A133 : ACode := .seq (.reg [⟨some 3, none, .mv (.c (.int .i64 0))⟩])
  (.seq (.reg [⟨some 4, none, .load false 1 (.t 1)⟩, ⟨some 5, none, .mv (.t 0)⟩, ⟨some 6, none, .iaddrS 1 (.t 4) (.t 5)⟩, ⟨some 7, none, .load false 1 (.t 6)⟩, ⟨some 3, none, .mv (.t 7)⟩])
  (.ret))
def R133 : List ARes := [.t 3]
theorem ok133 : FnOk Tryd.prog 133 [] pureFns A133 R133 8 := ⟨⟨Tryd.f133, _, Tryd.func133, rfl, rfl, by kernel_rfl, by kernel_rfl⟩, by kernel_rfl⟩
def A134 : ACode := .seq (.reg [⟨some 4, none, .mv (.c (.int .i64 0))⟩])
  (.seq (.regd [⟨some 5, none, .load false 1 (.t 1)⟩, ⟨some 6, none, .pcall 136 [.t 5, .c (.fn (.func 137) [] [])]⟩, ⟨some 7, none, .load false 1 (.t 2)⟩, ⟨some 8, none, .pcall 135 [.t 6, .t 7]⟩, ⟨some 4, none, .mv (.t 8)⟩])
  (.ret))
def R134 : List ARes := [.t 4]
theorem ok134 : FnOk Tryd.prog 134 [] pureFns A134 R134 9 := ⟨⟨Tryd.f134, _, Tryd.func134, rfl, rfl, by kernel_rfl, by kernel_rfl⟩, by kernel_rfl⟩
def A135 : ACode := .seq (.reg [⟨some 4, none, .mv (.c (.int .i64 0))⟩])
  (.seq (.reg [⟨some 5, none, .mv (.t 0)⟩, ⟨some 6, none, .mv (.t 1)⟩, ⟨some 7, none, .bin 0 .add (.t 5) (.t 6)⟩, ⟨some 8, none, .bin 0 .sub (.t 7) (.c (.int .i64 1))⟩, ⟨some 9, none, .mv (.t 1)⟩, ⟨some 10, none, .bin 0 .quo (.t 8) (.t 9)⟩, ⟨some 4, none, .mv (.t 10)⟩])
  (.ret))
def R135 : List ARes := [.t 4]
theorem ok135 : FnOk Tryd.prog 135 [] pureFns A135 R135 11 := ⟨⟨Tryd.f135, _, Tryd.func135, rfl, rfl, by kernel_rfl, by kernel_rfl⟩, by kernel_rfl⟩
def A136 : ACode := .seq (.reg [⟨some 4, none, .mv (.c (.int .i64 0))⟩])
  (.seq (.reg [⟨some 5, none, .mv (.c (.int .i64 0))⟩])
  (.seq (.seq (.reg [⟨some 8, none, .mv (.t 0)⟩, ⟨some 9, none, .len false (.t 8)⟩, ⟨some 10, none, .mv (.c (.int .i64 0))⟩])
  (.block 0 (.loop (.seq (.reg [⟨some 11, none, .bin 0 .lss (.t 10) (.t 9)⟩])
  (.seq (.cond (.t 11) (.skip) (.exit 0))
  (.seq (.block 1 (.seq (.reg [⟨some 12, none, .iaddrS 1 (.t 8) (.t 10)⟩, ⟨some 13, none, .load false 1 (.t 12)⟩, ⟨some 7, none, .mv (.t 13)⟩])
  (.reg [⟨some 14, none, .mv (.t 5)⟩, ⟨some 15, none, .mv (.t 1)⟩, ⟨some 16, none, .mv (.t 7)⟩, ⟨some 17, none, .callv (.t 15) [.t 16]⟩, ⟨some 18, none, .bin 0 .add (.t 14) (.t 17)⟩, ⟨some 5, none, .mv (.t 18)⟩])))
  (.reg [⟨some 19, none, .bin 0 .add (.t 10) (.c (.int .i64 1))⟩, ⟨some 10, none, .mv (.t 19)⟩])))))))
  (.seq (.reg [⟨some 20, none, .mv (.t 5)⟩, ⟨some 4, none, .mv (.t 20)⟩])
  (.ret))))
def R136 : List ARes := [.t 4]
theorem ok136 : FnOk Tryd.prog 136 [] pureFns A136 R136 21 := ⟨⟨Tryd.f136, _, Tryd.func136, rfl, rfl, by kernel_rfl, by kernel_rfl⟩, by kernel_rfl⟩
def A137 : ACode := .seq (.reg [⟨some 2, none, .mv (.c (.int .i64 0))⟩])
  (.seq (.reg [⟨some 3, none, .mv (.t 0)⟩, ⟨some 2, none, .mv (.t 3)⟩])
  (.ret))
def R137 : List ARes := [.t 2]
theorem ok137 : FnOk Tryd.prog 137 [] pureFns A137 R137 4 := ⟨⟨Tryd.f137, _, Tryd.func137, rfl, rfl, by kernel_rfl, by kernel_rfl⟩, by kernel_rfl⟩
def A145 : ACode := .seq (.reg [⟨some 3, none, .mv (.c (.bool false))⟩])
  (.seq (.reg [⟨some 4, none, .mv (.t 0)⟩, ⟨some 5, none, .len false (.t 4)⟩, ⟨some 6, none, .load false 1 (.t 1)⟩, ⟨some 7, none, .iaddrS 1 (.t 6) (.c (.int .i64 0))⟩, ⟨some 8, none, .load false 1 (.t 7)⟩, ⟨some 9, none, .len false (.t 8)⟩, ⟨some 10, none, .bin 0 .neq (.t 5) (.t 9)⟩, ⟨some 3, none, .mv (.t 10)⟩])
  (.ret))
def R145 : List ARes := [.t 3]
theorem ok145 : FnOk Tryd.prog 145 [] pureFns A145 R145 11 := ⟨⟨Tryd.f145, _, Tryd.func145, rfl, rfl, by kernel_rfl, by kernel_rfl⟩, by kernel_rfl⟩
def A146 : ACode := .seq (.reg [⟨some 2, none, .mv (.c (.bool false))⟩])
  (.seq (.reg [⟨some 3, none, .mv (.t 0)⟩, ⟨some 4, none, .pcall 130 [.c (.int .i64 0), .t 3, .c (.int .i64 30)]⟩, ⟨some 5, none, .un .not (.t 4)⟩, ⟨some 2, none, .mv (.t 5)⟩])
  (.ret))
def R146 : List ARes := [.t 2]
theorem ok146 : FnOk Tryd.prog 146 [] pureFns A146 R146 6 := ⟨⟨Tryd.f146, _, Tryd.func146, rfl, rfl, by kernel_rfl, by kernel_rfl⟩, by kernel_rfl⟩
def A147 : ACode := .seq (.reg [⟨some 4, none, .mv (.c (.int .i64 0))⟩])
  (.seq (.reg [⟨some 5, none, .mv (.c (.int .i64 0))⟩])
  (.seq (.seq (.reg [⟨some 8, none, .mv (.t 0)⟩, ⟨some 9, none, .len false (.t 8)⟩, ⟨some 10, none, .mv (.c (.int .i64 0))⟩])
  (.block 0 (.loop (.seq (.reg [⟨some 11, none, .bin 0 .lss (.t 10) (.t 9)⟩])
  (.seq (.cond (.t 11) (.skip) (.exit 0))
  (.seq (.block 1 (.seq (.reg [⟨some 12, none, .iaddrS 1 (.t 8) (.t 10)⟩, ⟨some 13, none, .load false 1 (.t 12)⟩, ⟨some 7, none, .mv (.t 13)⟩])
  (.reg [⟨some 14, none, .mv (.t 5)⟩, ⟨some 15, none, .mv (.t 1)⟩, ⟨some 16, none, .mv (.t 7)⟩, ⟨some 17, none, .callv (.t 15) [.t 16]⟩, ⟨some 18, none, .bin 0 .add (.t 14) (.t 17)⟩, ⟨some 5, none, .mv (.t 18)⟩])))
  (.reg [⟨some 19, none, .bin 0 .add (.t 10) (.c (.int .i64 1))⟩, ⟨some 10, none, .mv (.t 19)⟩])))))))
  (.seq (.reg [⟨some 20, none, .mv (.t 5)⟩, ⟨some 4, none, .mv (.t 20)⟩])
  (.ret))))
def R147 : List ARes := [.t 4]
theorem ok147 : FnOk Tryd.prog 147 [] pureFns A147 R147 21 := ⟨⟨Tryd.f147, _, Tryd.func147, rfl, rfl, by kernel_rfl, by kernel_rfl⟩, by kernel_rfl⟩
def A148 : ACode := .seq (.reg [⟨some 3, none, .mv (.c (.int .i64 0))⟩])
  (.seq (.reg [⟨some 4, none, .mv (.t 0)⟩, ⟨some 5, none, .load false 1 (.t 1)⟩, ⟨some 6, none, .iaddrS 1 (.t 4) (.t 5)⟩, ⟨some 7, none, .load false 1 (.t 6)⟩, ⟨some 3, none, .mv (.t 7)⟩])
  (.ret))
def R148 : List ARes := [.t 3]
theorem ok148 : FnOk Tryd.prog 148 [] pureFns A148 R148 8 := ⟨⟨Tryd.f148, _, Tryd.func148, rfl, rfl, by kernel_rfl, by kernel_rfl⟩, by kernel_rfl⟩
def A163 : ACode := .seq (.reg [⟨some 2, none, .mv (.c (.int .i64 0))⟩])
  (.seq (.seq (.reg [⟨some 5, none, .mv (.t 0)⟩, ⟨some 6, none, .len false (.t 5)⟩, ⟨some 7, none, .bin 0 .lss (.t 6) (.c (.int .i64 1))⟩])
  (.cond (.t 7) (.reg [⟨some 8, none, .mkif 9 (.c (.str (bs [115, 108, 105, 99, 101, 115, 46, 77, 97, 120, 58, 32, 101, 109, 112, 116, 121, 32, 108, 105, 115, 116])))⟩, ⟨none, none, .panic (.t 8)⟩]) (.skip)))
  (.seq (.reg [⟨some 9, none, .mv (.t 0)⟩, ⟨some 10, none, .iaddrS 1 (.t 9) (.c (.int .i64 0))⟩, ⟨some 11, none, .load false 1 (.t 10)⟩, ⟨some 3, none, .mv (.t 11)⟩])
  (.seq (.seq (.reg [⟨some 4, none, .mv (.c (.int .i64 1))⟩])
  (.block 0 (.loop (.seq (.seq (.reg [⟨some 12, none, .mv (.t 4)⟩, ⟨some 13, none, .mv (.t 0)⟩, ⟨some 14, none, .len false (.t 13)⟩, ⟨some 15, none, .bin 0 .lss (.t 12) (.t 14)⟩])
  (.cond (.t 15) (.skip) (.exit 0)))
  (.seq (.block 1 (.reg [⟨some 18, none, .mv (.t 3)⟩, ⟨some 19, none, .mv (.t 0)⟩, ⟨some 20, none, .mv (.t 4)⟩, ⟨some 21, none, .iaddrS 1 (.t 19) (.t 20)⟩, ⟨some 22, none, .load false 1 (.t 21)⟩, ⟨some 23, none, .max (.t 18) (.t 22)⟩, ⟨some 3, none, .mv (.t 23)⟩]))
  (.reg [⟨some 16, none, .mv (.t 4)⟩, ⟨some 17, none, .bin 0 .add (.t 16) (.c (.int .i64 1))⟩, ⟨some 4, none, .mv (.t 17)⟩]))))))
  (.seq (.reg [⟨some 24, none, .mv (.t 3)⟩, ⟨some 2, none, .mv (.t 24)⟩])
  (.ret)))))
def R163 : List ARes := [.t 2]
theorem ok163 : FnOk Tryd.prog 163 [] pureFns A163 R163 25 := ⟨⟨Tryd.f163, _, Tryd.func163, rfl, rfl, by kernel_rfl, by kernel_rfl⟩, by kernel_rfl⟩
def A164 : ACode := .seq (.reg [⟨some 2, none, .mv (.c (.int .i64 0))⟩])
  (.seq (.seq (.reg [⟨some 5, none, .mv (.t 0)⟩, ⟨some 6, none, .len false (.t 5)⟩, ⟨some 7, none, .bin 0 .lss (.t 6) (.c (.int .i64 1))⟩])
  (.cond (.t 7) (.reg [⟨some 8, none, .mkif 9 (.c (.str (bs [115, 108, 105, 99, 101, 115, 46, 77, 105, 110, 58, 32, 101, 109, 112, 116, 121, 32, 108, 105, 115, 116])))⟩, ⟨none, none, .panic (.t 8)⟩]) (.skip)))
  (.seq (.reg [⟨some 9, none, .mv (.t 0)⟩, ⟨some 10, none, .iaddrS 1 (.t 9) (.c (.int .i64 0))⟩, ⟨some 11, none, .load false 1 (.t 10)⟩, ⟨some 3, none, .mv (.t 11)⟩])
  (.seq (.seq (.reg [⟨some 4, none, .mv (.c (.int .i64 1))⟩])
  (.block 0 (.loop (.seq (.seq (.reg [⟨some 12, none, .mv (.t 4)⟩, ⟨some 13, none, .mv (.t 0)⟩, ⟨some 14, none, .len false (.t 13)⟩, ⟨some 15, none, .bin 0 .lss (.t 12) (.t 14)⟩])
  (.cond (.t 15) (.skip) (.exit 0)))
  (.seq (.block 1 (.reg [⟨some 18, none, .mv (.t 3)⟩, ⟨some 19, none, .mv (.t 0)⟩, ⟨some 20, none, .mv (.t 4)⟩, ⟨some 21, none, .iaddrS 1 (.t 19) (.t 20)⟩, ⟨some 22, none, .load false 1 (.t 21)⟩, ⟨some 23, none, .min (.t 18) (.t 22)⟩, ⟨some 3, none, .mv (.t 23)⟩]))
  (.reg [⟨some 16, none, .mv (.t 4)⟩, ⟨some 17, none, .bin 0 .add (.t 16) (.c (.int .i64 1))⟩, ⟨some 4, none, .mv (.t 17)⟩]))))))
  (.seq (.reg [⟨some 24, none, .mv (.t 3)⟩, ⟨some 2, none, .mv (.t 24)⟩])
  (.ret)))))
def R164 : List ARes := [.t 2]
theorem ok164 : FnOk Tryd.prog 164 [] pureFns A164 R164 25 := ⟨⟨Tryd.f164, _, Tryd.func164, rfl, rfl, by kernel_rfl, by kernel_rfl⟩, by kernel_rfl⟩
def A119 : ACode := .seq (.reg [⟨some 4, none, .mv (.c (.int .i64 0))⟩, ⟨some 5, none, .mv (.c (.int .i64 0))⟩])
  (.seq (.seq (.reg [⟨some 7, none, .mv (.t 0)⟩, ⟨some 8, none, .pcall 138 [.c (.int .i64 1), .t 7, .c (.int .i64 6)]⟩, ⟨some 9, none, .un .not (.t 8)⟩, ⟨some 10, none, .mv (.t 9)⟩, ⟨some 11, some (10, false), .mv (.t 1)⟩, ⟨some 12, some (10, false), .pcall 138 [.c (.int .i64 1), .t 11, .c (.int .i64 6)]⟩, ⟨some 13, some (10, false), .un .not (.t 12)⟩, ⟨some 14, none, .pick (.t 10) (.c (.bool true)) (.t 13)⟩])
  (.cond (.t 14) (.seq (.reg [⟨some 4, none, .mv (.c (.int .i64 0))⟩, ⟨some 5, none, .mv (.c (.int .i64 4))⟩])
  (.ret)) (.skip)))
  (.seq (.reg [⟨some 6, none, .mv (.c (.int .i64 1))⟩])
  (.seq (.seq (.reg [⟨some 15, none, .mv (.t 1)⟩, ⟨some 16, none, .bin 0 .sub (.t 15) (.c (.int .i64 1))⟩, ⟨some 17, none, .mv (.c (.int .i64 0))⟩])
  (.block 0 (.loop (.seq (.reg [⟨some 18, none, .bin 0 .lss (.t 17) (.t 16)⟩])
  (.seq (.cond (.t 18) (.skip) (.exit 0))
  (.seq (.block 1 (.reg [⟨some 19, none, .mv (.t 6)⟩, ⟨some 20, none, .mv (.t 0)⟩, ⟨some 21, none, .bin 0 .mul (.t 19) (.t 20)⟩, ⟨some 6, none, .mv (.t 21)⟩]))
  (.reg [⟨some 22, none, .bin 0 .add (.t 17) (.c (.int .i64 1))⟩, ⟨some 17, none, .mv (.t 22)⟩])))))))
  (.seq (.seq (.reg [⟨some 23, none, .mv (.t 0)⟩, ⟨some 24, none, .bin 0 .sub (.t 23) (.c (.int .i64 1))⟩, ⟨some 25, none, .mv (.c (.int .i64 0))⟩])
  (.block 2 (.loop (.seq (.reg [⟨some 26, none, .bin 0 .lss (.t 25) (.t 24)⟩])
  (.seq (.cond (.t 26) (.skip) (.exit 2))
  (.seq (.block 3 (.reg [⟨some 27, none, .mv (.t 6)⟩, ⟨some 28, none, .mv (.t 1)⟩, ⟨some 29, none, .bin 0 .mul (.t 27) (.t 28)⟩, ⟨some 6, none, .mv (.t 29)⟩]))
  (.reg [⟨some 30, none, .bin 0 .add (.t 25) (.c (.int .i64 1))⟩, ⟨some 25, none, .mv (.t 30)⟩])))))))
  (.seq (.reg [⟨some 31, none, .mv (.t 6)⟩, ⟨some 4, none, .mv (.t 31)⟩, ⟨some 5, none, .mv (.c (.int .i64 0))⟩])
  (.ret))))))
def R119 : List ARes := [.t 4, .t 5]
theorem ok119 : FnOk Tryd.prog 119 [] pureFns A119 R119 32 := ⟨⟨Tryd.f119, _, Tryd.func119, rfl, rfl, by kernel_rfl, by kernel_rfl⟩, by kernel_rfl⟩
def A138 : ACode := .seq (.reg [⟨some 6, none, .mv (.c (.bool false))⟩])
  (.seq (.reg [⟨some 7, none, .mv (.t 0)⟩, ⟨some 8, none, .mv (.t 1)⟩, ⟨some 9, none, .bin 0 .leq (.t 7) (.t 8)⟩, ⟨some 10, none, .mv (.t 9)⟩, ⟨some 11, some (10, true), .mv (.t 1)⟩, ⟨some 12, some (10, true), .mv (.t 2)⟩, ⟨some 13, some (10, true), .bin 0 .leq (.t 11) (.t 12)⟩, ⟨some 14, none, .pick (.t 10) (.t 13) (.c (.bool false))⟩, ⟨some 6, none, .mv (.t 14)⟩])
  (.ret))
def R138 : List ARes := [.t 6]
theorem ok138 : FnOk Tryd.prog 138 [] pureFns A138 R138 15 := ⟨⟨Tryd.f138, _, Tryd.func138, rfl, rfl, by kernel_rfl, by kernel_rfl⟩, by kernel_rfl⟩
def A140 : ACode := .seq (.reg [⟨some 2, none, .boxi (.t 0)⟩, ⟨some 4, none, .mv (.c (.nilsl))⟩, ⟨some 5, none, .mv (.c (.int .i64 0))⟩])
  (.seq (.seq (.reg [⟨some 11, none, .load true 2 (.t 2)⟩, ⟨some 12, none, .pcall 149 [.t 11]⟩, ⟨some 6, none, .mv (.t 12)⟩])
  (.seq (.reg [⟨some 13, none, .mv (.t 6)⟩, ⟨some 14, none, .bin 0 .neq (.t 13) (.c (.int .i64 0))⟩])
  (.cond (.t 14) (.seq (.reg [⟨some 15, none, .mv (.t 6)⟩, ⟨some 4, none, .mv (.c (.nilsl))⟩, ⟨some 5, none, .mv (.t 15)⟩])
  (.ret)) (.skip))))
  (.seq (.reg [⟨some 17, none, .load true 2 (.t 2)⟩, ⟨some 18, none, .mv (.t 1)⟩, ⟨some 19, none, .pcall 150 [.t 17, .t 18]⟩, ⟨some 16, none, .mv (.t 19)⟩, ⟨some 20, none, .extract (.t 16) 0⟩, ⟨some 21, none, .extract (.t 16) 1⟩, ⟨some 7, none, .mv (.t 20)⟩, ⟨some 8, none, .mv (.t 21)⟩])
  (.seq (.seq (.reg [⟨some 22, none, .mv (.t 8)⟩, ⟨some 23, none, .bin 0 .neq (.t 22) (.c (.int .i64 0))⟩])
  (.cond (.t 23) (.seq (.reg [⟨some 24, none, .mv (.t 8)⟩, ⟨some 4, none, .mv (.c (.nilsl))⟩, ⟨some 5, none, .mv (.t 24)⟩])
  (.ret)) (.skip)))
  (.seq (.reg [⟨some 26, none, .load true 2 (.t 2)⟩, ⟨some 27, none, .mv (.t 7)⟩, ⟨some 28, none, .pcall 151 [.t 26, .t 27]⟩, ⟨some 25, none, .mv (.t 28)⟩, ⟨some 29, none, .extract (.t 25) 0⟩, ⟨some 30, none, .extract (.t 25) 1⟩, ⟨some 9, none, .mv (.t 29)⟩, ⟨some 10, none, .mv (.t 30)⟩])
  (.seq (.seq (.reg [⟨some 31, none, .mv (.t 10)⟩, ⟨some 32, none, .un .not (.t 31)⟩])
  (.cond (.t 32) (.seq (.reg [⟨some 4, none, .mv (.c (.nilsl))⟩, ⟨some 5, none, .mv (.c (.int .i64 14))⟩])
  (.ret)) (.skip)))
  (.seq (.reg [⟨some 33, none, .mv (.t 9)⟩, ⟨some 4, none, .mv (.t 33)⟩, ⟨some 5, none, .mv (.c (.int .i64 0))⟩])
  (.ret)))))))
def R140 : List ARes := [.t 4, .t 5]
theorem ok140 : FnOk Tryd.prog 140 [] pureFns A140 R140 34 := ⟨⟨Tryd.f140, _, Tryd.func140, rfl, rfl, by kernel_rfl, by kernel_rfl⟩, by kernel_rfl⟩
def A149 : ACode := .seq (.reg [⟨some 1, none, .boxi (.t 0)⟩, ⟨some 2, none, .mv (.c (.int .i64 0))⟩])
  (.seq (.block 0 (.seq (.reg [⟨some 6, none, .faddr false 1 0 (.t 1)⟩, ⟨some 7, none, .load false 1 (.t 6)⟩, ⟨some 8, none, .pcall 156 [.c (.int .i64 2), .t 7, .c (.int .i64 7)]⟩, ⟨some 9, none, .un .not (.t 8)⟩, ⟨some 5, none, .mv (.t 9)⟩])
  (.cond (.t 5) (.seq (.reg [⟨some 2, none, .mv (.c (.int .i64 4))⟩])
  (.ret)) (.seq (.reg [⟨some 11, none, .faddr false 1 1 (.t 1)⟩, ⟨some 12, none, .load false 1 (.t 11)⟩, ⟨some 13, none, .len false (.t 12)⟩, ⟨some 14, none, .bin 0 .eql (.t 13) (.c (.int .i64 0))⟩, ⟨some 10, none, .mv (.t 14)⟩])
  (.cond (.t 10) (.seq (.reg [⟨some 2, none, .mv (.c (.int .i64 1))⟩])
  (.ret)) (.seq (.reg [⟨some 16, none, .faddr false 1 1 (.t 1)⟩, ⟨some 17, none, .load false 1 (.t 16)⟩, ⟨some 18, none, .len false (.t 17)⟩, ⟨some 19, none, .bin 0 .gtr (.t 18) (.c (.int .i64 6))⟩, ⟨some 15, none, .mv (.t 19)⟩])
  (.cond (.t 15) (.seq (.reg [⟨some 2, none, .mv (.c (.int .i64 2))⟩])
  (.ret)) (.skip))))))))
  (.seq (.seq (.reg [⟨some 20, none, .faddr false 1 1 (.t 1)⟩, ⟨some 21, none, .load false 1 (.t 20)⟩, ⟨some 22, none, .len false (.t 21)⟩, ⟨some 23, none, .mv (.c (.int .i64 0))⟩])
  (.block 1 (.loop (.seq (.reg [⟨some 24, none, .bin 0 .lss (.t 23) (.t 22)⟩])
  (.seq (.cond (.t 24) (.skip) (.exit 1))
  (.seq (.block 2 (.seq (.reg [⟨some 25, none, .iaddrS 1 (.t 21) (.t 23)⟩, ⟨some 26, none, .load false 1 (.t 25)⟩, ⟨some 4, none, .mv (.t 26)⟩])
  (.block 3 (.seq (.reg [⟨some 28, none, .mv (.t 4)⟩, ⟨some 29, none, .len false (.t 28)⟩, ⟨some 30, none, .faddr false 1 0 (.t 1)⟩, ⟨some 31, none, .load false 1 (.t 30)⟩, ⟨some 32, none, .bin 0 .neq (.t 29) (.t 31)⟩, ⟨some 27, none, .mv (.t 32)⟩])
  (.cond (.t 27) (.seq (.reg [⟨some 2, none, .mv (.c (.int .i64 3))⟩])
  (.ret)) (.seq (.reg [⟨some 34, none, .mv (.t 4)⟩, ⟨some 35, none, .mkfn (.func 157) [] [.t 1]⟩, ⟨some 36, none, .hcall 70 [.t 34, .t 35]⟩, ⟨some 33, none, .mv (.t 36)⟩])
  (.cond (.t 33) (.seq (.reg [⟨some 2, none, .mv (.c (.int .i64 4))⟩])
  (.ret)) (.skip))))))))
  (.reg [⟨some 37, none, .bin 0 .add (.t 23) (.c (.int .i64 1))⟩, ⟨some 23, none, .mv (.t 37)⟩])))))))
  (.seq (.reg [⟨some 2, none, .mv (.c (.int .i64 0))⟩])
  (.ret))))
def R149 : List ARes := [.t 2]
theorem ok149 : FnOk Tryd.prog 149 [] pureFns A149 R149 38 := ⟨⟨Tryd.f149, _, Tryd.func149, rfl, rfl, by kernel_rfl, by kernel_rfl⟩, by kernel_rfl⟩
def A150 : ACode := .seq (.reg [⟨some 2, none, .boxi (.t 0)⟩, ⟨some 4, none, .mv (.c (.int .u8 0))⟩, ⟨some 5, none, .mv (.c (.int .i64 0))⟩])
  (.seq (.reg [⟨some 6, none, .mv (.c (.int .u8 0))⟩])
  (.seq (.reg [⟨some 7, none, .mv (.c (.int .i64 (-1)))⟩])
  (.seq (.seq (.reg [⟨some 10, none, .mv (.t 1)⟩, ⟨some 11, none, .len false (.t 10)⟩, ⟨some 12, none, .mv (.c (.int .i64 0))⟩])
  (.block 0 (.loop (.seq (.reg [⟨some 13, none, .bin 0 .lss (.t 12) (.t 11)⟩])
  (.seq (.cond (.t 13) (.skip) (.exit 0))
  (.seq (.block 1 (.seq (.reg [⟨some 14, none, .iaddrS 1 (.t 10) (.t 12)⟩, ⟨some 15, none, .load false 1 (.t 14)⟩, ⟨some 9, none, .mv (.t 15)⟩])
  (.seq (.block 2 (.seq (.reg [⟨some 17, none, .mv (.t 9)⟩, ⟨some 18, none, .faddr false 1 0 (.t 2)⟩, ⟨some 19, none, .load false 1 (.t 18)⟩, ⟨some 20, none, .bin 0 .sub (.t 19) (.c (.int .i64 1))⟩, ⟨some 21, none, .pcall 156 [.c (.int .i64 0), .t 17, .t 20]⟩, ⟨some 22, none, .un .not (.t 21)⟩, ⟨some 16, none, .mv (.t 22)⟩])
  (.cond (.t 16) (.seq (.reg [⟨some 4, none, .mv (.c (.int .u8 0))⟩, ⟨some 5, none, .mv (.c (.int .i64 5))⟩])
  (.ret)) (.seq (.reg [⟨some 24, none, .mv (.t 9)⟩, ⟨some 25, none, .mv (.t 7)⟩, ⟨some 26, none, .bin 0 .leq (.t 24) (.t 25)⟩, ⟨some 23, none, .mv (.t 26)⟩])
  (.cond (.t 23) (.seq (.reg [⟨some 4, none, .mv (.c (.int .u8 0))⟩, ⟨some 5, none, .mv (.c (.int .i64 7))⟩])
  (.ret)) (.skip))))))
  (.reg [⟨some 27, none, .mv (.t 6)⟩, ⟨some 28, none, .mv (.t 9)⟩, ⟨some 29, none, .bin 0 .shl (.c (.int .u8 1)) (.t 28)⟩, ⟨some 30, none, .bin 0 .or (.t 27) (.t 29)⟩, ⟨some 31, none, .mv (.t 9)⟩, ⟨some 6, none, .mv (.t 30)⟩, ⟨some 7, none, .mv (.t 31)⟩]))))
  (.reg [⟨some 32, none, .bin 0 .add (.t 12) (.c (.int .i64 1))⟩, ⟨some 12, none, .mv (.t 32)⟩])))))))
  (.seq (.reg [⟨some 33, none, .mv (.t 6)⟩, ⟨some 4, none, .mv (.t 33)⟩, ⟨some 5, none, .mv (.c (.int .i64 0))⟩])
  (.ret)))))
def R150 : List ARes := [.t 4, .t 5]
theorem ok150 : FnOk Tryd.prog 150 [] pureFns A150 R150 34 := ⟨⟨Tryd.f150, _, Tryd.func150, rfl, rfl, by kernel_rfl, by kernel_rfl⟩, by kernel_rfl⟩
def A151 : ACode := .seq (.reg [⟨some 2, none, .boxi (.t 0)⟩, ⟨some 4, none, .mv (.c (.nilsl))⟩, ⟨some 5, none, .mv (.c (.bool false))⟩])
  (.seq (.reg [⟨some 13, none, .mem .mkmap []⟩, ⟨none, none, .mem (.mupd 0) [.t 13, .c (.int .u8 1), .c (.bool true)]⟩, ⟨some 14, none, .mv (.t 13)⟩, ⟨some 6, none, .mv (.t 14)⟩])
  (.seq (.reg [⟨some 15, none, .buildSl 1 [.c (.int .u8 1)]⟩, ⟨some 7, none, .mv (.t 15)⟩])
  (.seq (.reg [⟨some 16, none, .buildSl 1 [.c (.nilsl)]⟩, ⟨some 8, none, .mv (.t 16)⟩])
  (.seq (.block 0 (.loop (.seq (.seq (.reg [⟨some 17, none, .mv (.t 7)⟩, ⟨some 18, none, .len false (.t 17)⟩, ⟨some 19, none, .bin 0 .gtr (.t 18) (.c (.int .i64 0))⟩])
  (.cond (.t 19) (.skip) (.exit 0)))
  (.block 1 (.seq (.regd [⟨some 20, none, .mv (.t 7)⟩, ⟨some 21, none, .iaddrS 1 (.t 20) (.c (.int .i64 0))⟩, ⟨some 22, none, .load false 1 (.t 21)⟩, ⟨some 23, none, .mv (.t 8)⟩, ⟨some 24, none, .iaddrS 1 (.t 23) (.c (.int .i64 0))⟩, ⟨some 25, none, .load false 1 (.t 24)⟩, ⟨some 9, none, .mv (.t 22)⟩, ⟨some 10, none, .mv (.t 25)⟩])
  (.seq (.regd [⟨some 26, none, .mv (.t 7)⟩, ⟨some 27, none, .slice 1 (.t 26) (some (.c (.int .i64 1))) none none⟩, ⟨some 28, none, .mv (.t 8)⟩, ⟨some 29, none, .slice 1 (.t 28) (some (.c (.int .i64 1))) none none⟩, ⟨some 7, none, .mv (.t 27)⟩, ⟨some 8, none, .mv (.t 29)⟩])
  (.seq (.seq (.reg [⟨some 30, none, .mv (.t 9)⟩, ⟨some 31, none, .mv (.t 1)⟩, ⟨some 32, none, .bin 0 .and (.t 30) (.t 31)⟩, ⟨some 33, none, .mv (.t 1)⟩, ⟨some 34, none, .bin 0 .eql (.t 32) (.t 33)⟩])
  (.cond (.t 34) (.seq (.reg [⟨some 35, none, .mv (.t 10)⟩, ⟨some 4, none, .mv (.t 35)⟩, ⟨some 5, none, .mv (.c (.bool true))⟩])
  (.ret)) (.skip)))
  (.seq (.reg [⟨some 36, none, .faddr false 1 1 (.t 2)⟩, ⟨some 37, none, .load false 1 (.t 36)⟩, ⟨some 38, none, .len false (.t 37)⟩, ⟨some 39, none, .mv (.c (.int .i64 0))⟩])
  (.block 2 (.loop (.seq (.reg [⟨some 40, none, .bin 0 .lss (.t 39) (.t 38)⟩])
  (.seq (.cond (.t 40) (.skip) (.exit 2))
  (.seq (.block 3 (.seq (.reg [⟨some 41, none, .mv (.t 39)⟩, ⟨some 11, none, .mv (.t 41)⟩])
  (.seq (.reg [⟨some 42, none, .mv (.t 9)⟩, ⟨some 43, none, .load true 2 (.t 2)⟩, ⟨some 44, none, .mv (.t 11)⟩, ⟨some 45, none, .pcall 159 [.t 43, .t 44]⟩, ⟨some 46, none, .pcall 158 [.t 42, .t 45]⟩, ⟨some 12, none, .mv (.t 46)⟩])
  (.seq (.reg [⟨some 47, none, .mv (.t 6)⟩, ⟨some 48, none, .mv (.t 12)⟩, ⟨some 49, none, .mem (.look 0 false (.bool false)) [.t 47, .t 48]⟩, ⟨some 50, none, .un .not (.t 49)⟩])
  (.cond (.t 50) (.seq (.reg [⟨some 51, none, .mv (.t 6)⟩, ⟨some 52, none, .mv (.t 12)⟩, ⟨none, none, .mem (.mupd 0) [.t 51, .t 52, .c (.bool true)]⟩])
  (.reg [⟨some 53, none, .mv (.t 7)⟩, ⟨some 54, none, .mv (.t 12)⟩, ⟨some 55, none, .buildSl 1 [.t 54]⟩, ⟨some 56, none, .append 1 (.t 53) (.t 55)⟩, ⟨some 57, none, .mv (.t 8)⟩, ⟨some 58, none, .mv (.t 10)⟩, ⟨some 59, none, .pcall 82 [.t 58]⟩, ⟨some 60, none, .mv (.t 11)⟩, ⟨some 61, none, .buildSl 1 [.t 60]⟩, ⟨some 62, none, .append 1 (.t 59) (.t 61)⟩, ⟨some 63, none, .buildSl 1 [.t 62]⟩, ⟨some 64, none, .append 1 (.t 57) (.t 63)⟩, ⟨some 7, none, .mv (.t 56)⟩, ⟨some 8, none, .mv (.t 64)⟩])) (.skip))))))
  (.reg [⟨some 65, none, .bin 0 .add (.t 39) (.c (.int .i64 1))⟩, ⟨some 39, none, .mv (.t 65)⟩]))))))))))))))
  (.seq (.reg [⟨some 4, none, .mv (.c (.nilsl))⟩, ⟨some 5, none, .mv (.c (.bool false))⟩])
  (.ret))))))
def R151 : List ARes := [.t 4, .t 5]
theorem ok151 : FnOk Tryd.prog 151 [] pureFns A151 R151 66 := ⟨⟨Tryd.f151, _, Tryd.func151, rfl, rfl, by kernel_rfl, by kernel_rfl⟩, by kernel_rfl⟩
def A156 : ACode := .seq (.reg [⟨some 6, none, .mv (.c (.bool false))⟩])
  (.seq (.reg [⟨some 7, none, .mv (.t 0)⟩, ⟨some 8, none, .mv (.t 1)⟩, ⟨some 9, none, .bin 0 .leq (.t 7) (.t 8)⟩, ⟨some 10, none, .mv (.t 9)⟩, ⟨some 11, some (10, true), .mv (.t 1)⟩, ⟨some 12, some (10, true), .mv (.t 2)⟩, ⟨some 13, some (10, true), .bin 0 .leq (.t 11) (.t 12)⟩, ⟨some 14, none, .pick (.t 10) (.t 13) (.c (.bool false))⟩, ⟨some 6, none, .mv (.t 14)⟩])
  (.ret))
def R156 : List ARes := [.t 6]
theorem ok156 : FnOk Tryd.prog 156 [] pureFns A156 R156 15 := ⟨⟨Tryd.f156, _, Tryd.func156, rfl, rfl, by kernel_rfl, by kernel_rfl⟩, by kernel_rfl⟩
def A157 : ACode := .seq (.reg [⟨some 3, none, .mv (.c (.bool false))⟩])
  (.seq (.reg [⟨some 4, none, .mv (.t 0)⟩, ⟨some 5, none, .faddr false 1 0 (.t 1)⟩, ⟨some 6, none, .load false 1 (.t 5)⟩, ⟨some 7, none, .bin 0 .sub (.t 6) (.c (.int .i64 1))⟩, ⟨some 8, none, .pcall 156 [.c (.int .i64 0), .t 4, .t 7]⟩, ⟨some 9, none, .un .not (.t 8)⟩, ⟨some 3, none, .mv (.t 9)⟩])
  (.ret))
def R157 : List ARes := [.t 3]
theorem ok157 : FnOk Tryd.prog 157 [] pureFns A157 R157 10 := ⟨⟨Tryd.f157, _, Tryd.func157, rfl, rfl, by kernel_rfl, by kernel_rfl⟩, by kernel_rfl⟩
def A158 : ACode := .seq (.reg [⟨some 4, none, .mv (.c (.int .u8 0))⟩])
  (.seq (.reg [⟨some 10, none, .mv (.t 1)⟩])
  (.block 0 (.seq (.reg [⟨some 27, none, .mem (.tass 193 (.int .i64 0)) [.t 10]⟩, ⟨some 28, none, .extract (.t 27) 1⟩, ⟨some 29, none, .extract (.t 27) 0⟩])
  (.cond (.t 28) (.seq (.reg [⟨some 5, none, .mv (.t 29)⟩])
  (.seq (.reg [⟨some 30, none, .mv (.t 0)⟩, ⟨some 31, none, .mv (.t 5)⟩, ⟨some 32, none, .pcall 161 [.t 31, .c (.int .i64 0)]⟩, ⟨some 33, none, .bin 0 .shl (.c (.int .u8 1)) (.t 32)⟩, ⟨some 34, none, .bin 0 .or (.t 30) (.t 33)⟩, ⟨some 4, none, .mv (.t 34)⟩])
  (.ret))) (.seq (.reg [⟨some 6, none, .mv (.t 10)⟩])
  (.seq (.reg [⟨some 11, none, .mv (.t 0)⟩, ⟨some 7, none, .mv (.t 11)⟩])
  (.seq (.seq (.reg [⟨some 12, none, .mv (.t 0)⟩, ⟨some 13, none, .pcall 162 [.t 12]⟩, ⟨some 14, none, .len false (.t 13)⟩, ⟨some 15, none, .mv (.c (.int .i64 0))⟩])
  (.block 1 (.loop (.seq (.reg [⟨some 16, none, .bin 0 .lss (.t 15) (.t 14)⟩])
  (.seq (.cond (.t 16) (.skip) (.exit 1))
  (.seq (.block 2 (.seq (.reg [⟨some 17, none, .iaddrS 1 (.t 13) (.t 15)⟩, ⟨some 18, none, .load false 1 (.t 17)⟩, ⟨some 9, none, .mv (.t 18)⟩])
  (.reg [⟨some 19, none, .mv (.t 7)⟩, ⟨some 20, none, .mv (.t 6)⟩, ⟨some 21, none, .mv (.t 9)⟩, ⟨some 22, none, .invk [.agg [.int .i64 193, .int .i64 161], .agg [.int .i64 194, .int .i64 184]] (.t 20) [.t 21]⟩, ⟨some 23, none, .bin 0 .shl (.c (.int .u8 1)) (.t 22)⟩, ⟨some 24, none, .bin 0 .or (.t 19) (.t 23)⟩, ⟨some 7, none, .mv (.t 24)⟩])))
  (.reg [⟨some 25, none, .bin 0 .add (.t 15) (.c (.int .i64 1))⟩, ⟨some 15, none, .mv (.t 25)⟩])))))))
  (.seq (.reg [⟨some 26, none, .mv (.t 7)⟩, ⟨some 4, none, .mv (.t 26)⟩])
  (.ret)))))))))
def R158 : List ARes := [.t 4]
theorem ok158 : FnOk Tryd.prog 158 [] pureFns A158 R158 35 := ⟨⟨Tryd.f158, _, Tryd.func158, rfl, rfl, by kernel_rfl, by kernel_rfl⟩, by kernel_rfl⟩
def A159 : ACode := .seq (.reg [⟨some 2, none, .boxi (.t 0)⟩, ⟨some 4, none, .mv (.c (.nilif))⟩])
  (.seq (.reg [⟨some 6, none, .faddr false 1 1 (.t 2)⟩, ⟨some 7, none, .load false 1 (.t 6)⟩, ⟨some 8, none, .mv (.t 1)⟩, ⟨some 9, none, .iaddrS 1 (.t 7) (.t 8)⟩, ⟨some 10, none, .load false 1 (.t 9)⟩, ⟨some 5, none, .mv (.t 10)⟩])
  (.seq (.seq (.reg [⟨some 11, none, .mv (.t 5)⟩, ⟨some 12, none, .pcall 163 [.t 11]⟩, ⟨some 13, none, .mv (.t 5)⟩, ⟨some 14, none, .pcall 164 [.t 13]⟩, ⟨some 15, none, .bin 0 .eql (.t 12) (.t 14)⟩])
  (.cond (.t 15) (.seq (.reg [⟨some 16, none, .mv (.t 5)⟩, ⟨some 17, none, .iaddrS 1 (.t 16) (.c (.int .i64 0))⟩, ⟨some 18, none, .load false 1 (.t 17)⟩, ⟨some 19, none, .mkif 193 (.t 18)⟩, ⟨some 4, none, .mv (.t 19)⟩])
  (.ret)) (.skip)))
  (.seq (.reg [⟨some 20, none, .mv (.t 5)⟩, ⟨some 21, none, .mkif 194 (.t 20)⟩, ⟨some 4, none, .mv (.t 21)⟩])
  (.ret))))
def R159 : List ARes := [.t 4]
theorem ok159 : FnOk Tryd.prog 159 [] pureFns A159 R159 22 := ⟨⟨Tryd.f159, _, Tryd.func159, rfl, rfl, by kernel_rfl, by kernel_rfl⟩, by kernel_rfl⟩
def A161 : ACode := .seq (.reg [⟨some 4, none, .mv (.c (.int .i64 0))⟩])
  (.seq (.reg [⟨some 5, none, .mv (.t 0)⟩, ⟨some 4, none, .mv (.t 5)⟩])
  (.ret))
def R161 : List ARes := [.t 4]
theorem ok161 : FnOk Tryd.prog 161 [] pureFns A161 R161 6 := ⟨⟨Tryd.f161, _, Tryd.func161, rfl, rfl, by kernel_rfl, by kernel_rfl⟩, by kernel_rfl⟩
def A162 : ACode := .seq (.reg [⟨some 2, none, .mv (.c (.nilsl))⟩])
  (.seq (.reg [⟨some 3, none, .mv (.c (.nilsl))⟩])
  (.seq (.reg [⟨some 6, none, .mv (.t 0)⟩, ⟨some 7, none, .mkfn (.func 166) [.t 6] []⟩, ⟨some 4, none, .mv (.t 7)⟩])
  (.seq (.seq (.reg [⟨some 8, none, .mv (.c (.int .i64 0))⟩])
  (.block 0 (.loop (.seq (.reg [⟨some 9, none, .bin 0 .lss (.t 8) (.c (.int .i64 7))⟩])
  (.seq (.cond (.t 9) (.skip) (.exit 0))
  (.seq (.block 1 (.seq (.reg [⟨some 10, none, .mv (.t 8)⟩, ⟨some 5, none, .mv (.t 10)⟩])
  (.seq (.reg [⟨some 11, none, .mv (.t 4)⟩, ⟨some 12, none, .mv (.t 5)⟩, ⟨some 13, none, .callv (.t 11) [.t 12]⟩])
  (.cond (.t 13) (.reg [⟨some 14, none, .mv (.t 3)⟩, ⟨some 15, none, .mv (.t 5)⟩, ⟨some 16, none, .buildSl 1 [.t 15]⟩, ⟨some 17, none, .append 1 (.t 14) (.t 16)⟩, ⟨some 3, none, .mv (.t 17)⟩]) (.skip)))))
  (.reg [⟨some 18, none, .bin 0 .add (.t 8) (.c (.int .i64 1))⟩, ⟨some 8, none, .mv (.t 18)⟩])))))))
  (.seq (.reg [⟨some 19, none, .mv (.t 3)⟩, ⟨some 2, none, .mv (.t 19)⟩])
  (.ret)))))
def R162 : List ARes := [.t 2]
theorem ok162 : FnOk Tryd.prog 162 [] pureFns A162 R162 20 := ⟨⟨Tryd.f162, _, Tryd.func162, rfl, rfl, by kernel_rfl, by kernel_rfl⟩, by kernel_rfl⟩
def A166 : ACode := .seq (.reg [⟨some 4, none, .mv (.c (.bool false))⟩])
  (.seq (.reg [⟨some 5, none, .mv (.t 0)⟩, ⟨some 6, none, .mv (.t 1)⟩, ⟨some 7, none, .bin 0 .shr (.t 5) (.t 6)⟩, ⟨some 8, none, .bin 0 .and (.t 7) (.c (.int .u8 1))⟩, ⟨some 9, none, .bin 0 .eql (.t 8) (.c (.int .u8 1))⟩, ⟨some 4, none, .mv (.t 9)⟩])
  (.ret))
def R166 : List ARes := [.t 4]
theorem ok166 : FnOk Tryd.prog 166 [] pureFns A166 R166 10 := ⟨⟨Tryd.f166, _, Tryd.func166, rfl, rfl, by kernel_rfl, by kernel_rfl⟩, by kernel_rfl⟩
def A184 : ACode := .seq (.reg [⟨some 4, none, .mv (.c (.int .i64 0))⟩])
  (.seq (.reg [⟨some 5, none, .mv (.t 0)⟩, ⟨some 6, none, .mv (.t 1)⟩, ⟨some 7, none, .iaddrS 1 (.t 5) (.t 6)⟩, ⟨some 8, none, .load false 1 (.t 7)⟩, ⟨some 4, none, .mv (.t 8)⟩])
  (.ret))
def R184 : List ARes := [.t 4]
theorem ok184 : FnOk Tryd.prog 184 [] pureFns A184 R184 9 := ⟨⟨Tryd.f184, _, Tryd.func184, rfl, rfl, by kernel_rfl, by kernel_rfl⟩, by kernel_rfl⟩
def A33 : ACode := .seq (.reg [⟨some 0, none, .mv (.c (.bool false))⟩])
  (.seq (.reg [⟨some 4, none, .buildSl 1 [.c (.int .i64 0), .c (.int .i64 0), .c (.int .i64 0)]⟩, ⟨some 5, none, .buildSl 1 [.c (.int .i64 1), .c (.int .i64 1), .c (.int .i64 1)]⟩, ⟨some 6, none, .buildSl 1 [.c (.int .i64 2), .c (.int .i64 2), .c (.int .i64 2)]⟩, ⟨some 7, none, .buildSl 1 [.t 4, .t 5, .t 6]⟩, ⟨some 8, none, .build [.int .i64 0, .nilsl] [(0, 1, (.c (.int .i64 3))), (1, 1, (.t 7))]⟩, ⟨some 9, none, .buildSl 1 [.c (.int .i64 0), .c (.int .i64 1)]⟩, ⟨some 10, none, .pcall 62 [.t 8, .t 9]⟩, ⟨some 3, none, .mv (.t 10)⟩, ⟨some 11, none, .extract (.t 3) 0⟩, ⟨some 12, none, .extract (.t 3) 1⟩, ⟨some 1, none, .mv (.t 11)⟩, ⟨some 2, none, .mv (.t 12)⟩])
  (.seq (.reg [⟨some 13, none, .mv (.t 2)⟩, ⟨some 14, none, .bin 0 .eql (.t 13) (.c (.int .i64 0))⟩, ⟨some 15, none, .mv (.t 14)⟩, ⟨some 16, some (15, true), .mv (.t 1)⟩, ⟨some 17, some (15, true), .bin 0 .eql (.t 16) (.c (.int .i64 8))⟩, ⟨some 18, none, .pick (.t 15) (.t 17) (.c (.bool false))⟩, ⟨some 19, none, .mv (.t 18)⟩, ⟨some 20, some (19, true), .pcall 63 []⟩, ⟨some 21, none, .pick (.t 19) (.t 20) (.c (.bool false))⟩, ⟨some 0, none, .mv (.t 21)⟩])
  (.ret)))
def R33 : List ARes := [.t 0]
theorem ok33 : FnOk Tryd.prog 33 [] pureFns A33 R33 22 := ⟨⟨Tryd.f33, _, Tryd.func33, rfl, rfl, by kernel_rfl, by kernel_rfl⟩, by kernel_rfl⟩
def A63 : ACode := .seq (.reg [⟨some 0, none, .mv (.c (.bool false))⟩])
  (.seq (.reg [⟨some 4, none, .buildSl 1 [.c (.int .i64 2), .c (.int .i64 1)]⟩, ⟨some 5, none, .buildSl 1 [.c (.int .i64 0), .c (.int .i64 3)]⟩, ⟨some 6, none, .buildSl 1 [.t 4, .t 5]⟩, ⟨some 7, none, .pcall 91 [.t 6, .c (.int .i64 2)]⟩, ⟨some 3, none, .mv (.t 7)⟩, ⟨some 8, none, .extract (.t 3) 0⟩, ⟨some 9, none, .extract (.t 3) 1⟩, ⟨some 1, none, .mv (.t 8)⟩, ⟨some 2, none, .mv (.t 9)⟩])
  (.seq (.reg [⟨some 10, none, .mv (.t 2)⟩, ⟨some 11, none, .bin 0 .eql (.t 10) (.c (.int .i64 0))⟩, ⟨some 12, none, .mv (.t 11)⟩, ⟨some 13, some (12, true), .mv (.t 1)⟩, ⟨some 14, some (12, true), .bin 0 .eql (.t 13) (.c (.int .i64 4))⟩, ⟨some 15, none, .pick (.t 12) (.t 14) (.c (.bool false))⟩, ⟨some 16, none, .mv (.t 15)⟩, ⟨some 17, some (16, true), .pcall 92 []⟩, ⟨some 18, none, .pick (.t 16) (.t 17) (.c (.bool false))⟩, ⟨some 0, none, .mv (.t 18)⟩])
  (.ret)))
def R63 : List ARes := [.t 0]
theorem ok63 : FnOk Tryd.prog 63 [] pureFns A63 R63 19 := ⟨⟨Tryd.f63, _, Tryd.func63, rfl, rfl, by kernel_rfl, by kernel_rfl⟩, by kernel_rfl⟩
def A92 : ACode := .seq (.reg [⟨some 0, none, .mv (.c (.bool false))⟩])
  (.seq (.reg [⟨some 4, none, .pcall 119 [.c (.int .i64 2), .c (.int .i64 3)]⟩, ⟨some 3, none, .mv (.t 4)⟩, ⟨some 5, none, .extract (.t 3) 0⟩, ⟨some 6, none, .extract (.t 3) 1⟩, ⟨some 1, none, .mv (.t 5)⟩, ⟨some 2, none, .mv (.t 6)⟩])
  (.seq (.reg [⟨some 7, none, .mv (.t 2)⟩, ⟨some 8, none, .bin 0 .eql (.t 7) (.c (.int .i64 0))⟩, ⟨some 9, none, .mv (.t 8)⟩, ⟨some 10, some (9, true), .mv (.t 1)⟩, ⟨some 11, some (9, true), .bin 0 .eql (.t 10) (.c (.int .i64 12))⟩, ⟨some 12, none, .pick (.t 9) (.t 11) (.c (.bool false))⟩, ⟨some 13, none, .mv (.t 12)⟩, ⟨some 14, some (13, true), .pcall 120 []⟩, ⟨some 15, none, .pick (.t 13) (.t 14) (.c (.bool false))⟩, ⟨some 0, none, .mv (.t 15)⟩])
  (.ret)))
def R92 : List ARes := [.t 0]
theorem ok92 : FnOk Tryd.prog 92 [] pureFns A92 R92 16 := ⟨⟨Tryd.f92, _, Tryd.func92, rfl, rfl, by kernel_rfl, by kernel_rfl⟩, by kernel_rfl⟩
def A120 : ACode := .seq (.reg [⟨some 0, none, .mv (.c (.bool false))⟩])
  (.seq (.reg [⟨some 8, none, .pcall 40 [.c (.int .i64 5), .c (.int .i64 2)]⟩, ⟨some 7, none, .mv (.t 8)⟩, ⟨some 9, none, .extract (.t 7) 0⟩, ⟨some 10, none, .extract (.t 7) 1⟩, ⟨some 1, none, .mv (.t 9)⟩, ⟨some 2, none, .mv (.t 10)⟩])
  (.seq (.seq (.reg [⟨some 11, none, .mv (.t 2)⟩, ⟨some 12, none, .bin 0 .neq (.t 11) (.c (.int .i64 0))⟩, ⟨some 13, none, .mv (.t 12)⟩, ⟨some 14, some (13, false), .mv (.t 1)⟩, ⟨some 15, some (13, false), .len false (.t 14)⟩, ⟨some 16, some (13, false), .bin 0 .neq (.t 15) (.c (.int .i64 5))⟩, ⟨some 17, none, .pick (.t 13) (.c (.bool true)) (.t 16)⟩])
  (.cond (.t 17) (.seq (.reg [⟨some 0, none, .mv (.c (.bool false))⟩])
  (.ret)) (.skip)))
  (.seq (.reg [⟨some 19, none, .mv (.t 1)⟩, ⟨some 20, none, .buildSl 1 [.c (.int .i64 1), .c (.int .i64 2)]⟩, ⟨some 21, none, .pcall 139 [.t 19, .t 20]⟩, ⟨some 18, none, .mv (.t 21)⟩, ⟨some 22, none, .extract (.t 18) 0⟩, ⟨some 23, none, .extract (.t 18) 1⟩, ⟨some 3, none, .mv (.t 22)⟩, ⟨some 4, none, .mv (.t 23)⟩])
  (.seq (.reg [⟨some 25, none, .buildSl 1 [.c (.int .i64 1), .c (.int .i64 1), .c (.int .i64 3), .c (.int .i64 3), .c (.int .i64 4)]⟩, ⟨some 26, none, .buildSl 1 [.c (.int .i64 2), .c (.int .i64 3), .c (.int .i64 2), .c (.int .i64 3), .c (.int .i64 4)]⟩, ⟨some 27, none, .buildSl 1 [.c (.int .i64 4), .c (.int .i64 4), .c (.int .i64 4), .c (.int .i64 4), .c (.int .i64 4)]⟩, ⟨some 28, none, .buildSl 1 [.t 25, .t 26, .t 27]⟩, ⟨some 29, none, .build [.int .i64 0, .nilsl] [(0, 1, (.c (.int .i64 5))), (1, 1, (.t 28))]⟩, ⟨some 30, none, .buildSl 1 [.c (.int .i64 3), .c (.int .i64 4)]⟩, ⟨some 31, none, .pcall 140 [.t 29, .t 30]⟩, ⟨some 24, none, .mv (.t 31)⟩, ⟨some 32, none, .extract (.t 24) 0⟩, ⟨some 33, none, .extract (.t 24) 1⟩, ⟨some 5, none, .mv (.t 32)⟩, ⟨some 6, none, .mv (.t 33)⟩])
  (.seq (.reg [⟨some 34, none, .mv (.t 4)⟩, ⟨some 35, none, .bin 0 .eql (.t 34) (.c (.int .i64 0))⟩, ⟨some 36, none, .mv (.t 35)⟩, ⟨some 37, some (36, true), .mv (.t 6)⟩, ⟨some 38, some (36, true), .bin 0 .eql (.t 37) (.c (.int .i64 0))⟩, ⟨some 39, none, .pick (.t 36) (.t 38) (.c (.bool false))⟩, ⟨some 40, none, .mv (.t 39)⟩, ⟨some 41, some (40, true), .mv (.t 3)⟩, ⟨some 42, some (40, true), .bin 0 .eql (.t 41) (.c (.int .i64 2))⟩, ⟨some 43, none, .pick (.t 40) (.t 42) (.c (.bool false))⟩, ⟨some 44, none, .mv (.t 43)⟩, ⟨some 45, some (44, true), .mv (.t 5)⟩, ⟨some 46, some (44, true), .len false (.t 45)⟩, ⟨some 47, some (44, true), .bin 0 .eql (.t 46) (.c (.int .i64 3))⟩, ⟨some 48, none, .pick (.t 44) (.t 47) (.c (.bool false))⟩, ⟨some 0, none, .mv (.t 48)⟩])
  (.ret))))))
def R120 : List ARes := [.t 0]
theorem ok120 : FnOk Tryd.prog 120 [] pureFns A120 R120 49 := ⟨⟨Tryd.f120, _, Tryd.func120, rfl, rfl, by kernel_rfl, by kernel_rfl⟩, by kernel_rfl⟩
def A11 : ACode := .seq (.reg [⟨some 0, none, .mv (.c (.bool false))⟩])
  (.seq (.reg [⟨some 4, none, .pcall 32 [.c (.int .i64 4)]⟩, ⟨some 3, none, .mv (.t 4)⟩, ⟨some 5, none, .extract (.t 3) 0⟩, ⟨some 6, none, .extract (.t 3) 1⟩, ⟨some 1, none, .mv (.t 5)⟩, ⟨some 2, none, .mv (.t 6)⟩])
  (.seq (.reg [⟨some 7, none, .mv (.t 2)⟩, ⟨some 8, none, .bin 0 .eql (.t 7) (.c (.int .i64 0))⟩, ⟨some 9, none, .mv (.t 8)⟩, ⟨some 10, some (9, true), .mv (.t 1)⟩, ⟨some 11, some (9, true), .len false (.t 10)⟩, ⟨some 12, some (9, true), .bin 0 .eql (.t 11) (.c (.int .i64 4))⟩, ⟨some 13, none, .pick (.t 9) (.t 12) (.c (.bool false))⟩, ⟨some 14, none, .mv (.t 13)⟩, ⟨some 15, some (14, true), .mv (.t 1)⟩, ⟨some 16, some (14, true), .iaddrS 1 (.t 15) (.c (.int .i64 3))⟩, ⟨some 17, some (14, true), .load false 1 (.t 16)⟩, ⟨some 18, some (14, true), .bin 0 .eql (.t 17) (.c (.int .i64 6))⟩, ⟨some 19, none, .pick (.t 14) (.t 18) (.c (.bool false))⟩, ⟨some 20, none, .mv (.t 19)⟩, ⟨some 21, some (20, true), .pcall 33 []⟩, ⟨some 22, none, .pick (.t 20) (.t 21) (.c (.bool false))⟩, ⟨some 0, none, .mv (.t 22)⟩])
  (.ret)))
def R11 : List ARes := [.t 0]
theorem ok11 : FnOk Tryd.prog 11 [] pureFns A11 R11 23 := ⟨⟨Tryd.f11, _, Tryd.func11, rfl, rfl, by kernel_rfl, by kernel_rfl⟩, by kernel_rfl⟩
def A96 : ACode := .seq (.reg [⟨some 4, none, .mv (.c (.bool false))⟩])
  (.seq (.reg [⟨some 5, none, .mv (.t 0)⟩, ⟨some 6, none, .mv (.t 1)⟩, ⟨some 7, none, .hcall 122 [.t 5, .t 6]⟩, ⟨some 8, none, .bin 0 .geq (.t 7) (.c (.int .i64 0))⟩, ⟨some 4, none, .mv (.t 8)⟩])
  (.ret))
def R96 : List ARes := [.t 4]
theorem ok96 : FnOk Tryd.prog 96 [] pureFns A96 R96 9 := ⟨⟨Tryd.f96, _, Tryd.func96, rfl, rfl, by kernel_rfl, by kernel_rfl⟩, by kernel_rfl⟩
def A122 : ACode := .seq (.reg [⟨some 4, none, .mv (.c (.int .i64 0))⟩])
  (.seq (.seq (.reg [⟨some 6, none, .mv (.t 0)⟩, ⟨some 7, none, .len false (.t 6)⟩, ⟨some 8, none, .mv (.c (.int .i64 0))⟩])
  (.block 0 (.loop (.seq (.reg [⟨some 9, none, .bin 0 .lss (.t 8) (.t 7)⟩])
  (.seq (.cond (.t 9) (.skip) (.exit 0))
  (.seq (.block 1 (.seq (.reg [⟨some 10, none, .mv (.t 8)⟩, ⟨some 5, none, .mv (.t 10)⟩])
  (.seq (.reg [⟨some 11, none, .mv (.t 1)⟩, ⟨some 12, none, .mv (.t 0)⟩, ⟨some 13, none, .mv (.t 5)⟩, ⟨some 14, none, .iaddrS 1 (.t 12) (.t 13)⟩, ⟨some 15, none, .load false 1 (.t 14)⟩, ⟨some 16, none, .callv (.t 11) [.t 15]⟩])
  (.cond (.t 16) (.seq (.reg [⟨some 17, none, .mv (.t 5)⟩, ⟨some 4, none, .mv (.t 17)⟩])
  (.ret)) (.skip)))))
  (.reg [⟨some 18, none, .bin 0 .add (.t 8) (.c (.int .i64 1))⟩, ⟨some 8, none, .mv (.t 18)⟩])))))))
  (.seq (.reg [⟨some 4, none, .mv (.c (.int .i64 (-1)))⟩])
  (.ret)))
def R122 : List ARes := [.t 4]
theorem ok122 : FnOk Tryd.prog 122 [] pureFns A122 R122 19 := ⟨⟨Tryd.f122, _, Tryd.func122, rfl, rfl, by kernel_rfl, by kernel_rfl⟩, by kernel_rfl⟩
def A70 : ACode := .seq (.reg [⟨some 4, none, .mv (.c (.bool false))⟩])
  (.seq (.reg [⟨some 5, none, .mv (.t 0)⟩, ⟨some 6, none, .mv (.t 1)⟩, ⟨some 7, none, .hcall 100 [.t 5, .t 6]⟩, ⟨some 8, none, .bin 0 .geq (.t 7) (.c (.int .i64 0))⟩, ⟨some 4, none, .mv (.t 8)⟩])
  (.ret))
def R70 : List ARes := [.t 4]
theorem ok70 : FnOk Tryd.prog 70 [] pureFns A70 R70 9 := ⟨⟨Tryd.f70, _, Tryd.func70, rfl, rfl, by kernel_rfl, by kernel_rfl⟩, by kernel_rfl⟩
def A100 : ACode := .seq (.reg [⟨some 4, none, .mv (.c (.int .i64 0))⟩])
  (.seq (.seq (.reg [⟨some 6, none, .mv (.t 0)⟩, ⟨some 7, none, .len false (.t 6)⟩, ⟨some 8, none, .mv (.c (.int .i64 0))⟩])
  (.block 0 (.loop (.seq (.reg [⟨some 9, none, .bin 0 .lss (.t 8) (.t 7)⟩])
  (.seq (.cond (.t 9) (.skip) (.exit 0))
  (.seq (.block 1 (.seq (.reg [⟨some 10, none, .mv (.t 8)⟩, ⟨some 5, none, .mv (.t 10)⟩])
  (.seq (.reg [⟨some 11, none, .mv (.t 1)⟩, ⟨some 12, none, .mv (.t 0)⟩, ⟨some 13, none, .mv (.t 5)⟩, ⟨some 14, none, .iaddrS 1 (.t 12) (.t 13)⟩, ⟨some 15, none, .load false 1 (.t 14)⟩, ⟨some 16, none, .callv (.t 11) [.t 15]⟩])
  (.cond (.t 16) (.seq (.reg [⟨some 17, none, .mv (.t 5)⟩, ⟨some 4, none, .mv (.t 17)⟩])
  (.ret)) (.skip)))))
  (.reg [⟨some 18, none, .bin 0 .add (.t 8) (.c (.int .i64 1))⟩, ⟨some 8, none, .mv (.t 18)⟩])))))))
  (.seq (.reg [⟨some 4, none, .mv (.c (.int .i64 (-1)))⟩])
  (.ret)))
def R100 : List ARes := [.t 4]
theorem ok100 : FnOk Tryd.prog 100 [] pureFns A100 R100 19 := ⟨⟨Tryd.f100, _, Tryd.func100, rfl, rfl, by kernel_rfl, by kernel_rfl⟩, by kernel_rfl⟩
def A94 : ACode := .seq (.reg [⟨some 4, none, .mv (.c (.bool false))⟩])
  (.seq (.reg [⟨some 5, none, .mv (.t 0)⟩, ⟨some 6, none, .pcall 121 [.t 5]⟩, ⟨some 7, none, .mv (.t 6)⟩, ⟨some 8, some (7, true), .mv (.t 1)⟩, ⟨some 9, some (7, true), .pcall 121 [.t 8]⟩, ⟨some 10, some (7, true), .un .not (.t 9)⟩, ⟨some 11, none, .pick (.t 7) (.t 10) (.c (.bool false))⟩, ⟨some 12, none, .mv (.t 11)⟩, ⟨some 13, some (12, false), .mv (.t 0)⟩, ⟨some 14, some (12, false), .mv (.t 1)⟩, ⟨some 15, some (12, false), .bin 0 .lss (.t 13) (.t 14)⟩, ⟨some 16, none, .pick (.t 12) (.c (.bool true)) (.t 15)⟩, ⟨some 4, none, .mv (.t 16)⟩])
  (.ret))
def R94 : List ARes := [.t 4]
theorem ok94 : FnOk Tryd.prog 94 [] pureFns A94 R94 17 := ⟨⟨Tryd.f94, _, Tryd.func94, rfl, rfl, by kernel_rfl, by kernel_rfl⟩, by kernel_rfl⟩
def A95 : ACode := .seq (.reg [⟨some 2, none, .mv (.c (.bool false))⟩])
  (.seq (.reg [⟨some 3, none, .mv (.t 0)⟩, ⟨some 4, none, .mv (.t 0)⟩, ⟨some 5, none, .bin 0 .neq (.t 3) (.t 4)⟩, ⟨some 2, none, .mv (.t 5)⟩])
  (.ret))
def R95 : List ARes := [.t 2]
theorem ok95 : FnOk Tryd.prog 95 [] pureFns A95 R95 6 := ⟨⟨Tryd.f95, _, Tryd.func95, rfl, rfl, by kernel_rfl, by kernel_rfl⟩, by kernel_rfl⟩
def A121 : ACode := .seq (.reg [⟨some 2, none, .mv (.c (.bool false))⟩])
  (.seq (.reg [⟨some 3, none, .mv (.t 0)⟩, ⟨some 4, none, .mv (.t 0)⟩, ⟨some 5, none, .bin 0 .neq (.t 3) (.t 4)⟩, ⟨some 2, none, .mv (.t 5)⟩])
  (.ret))
def R121 : List ARes := [.t 2]
theorem ok121 : FnOk Tryd.prog 121 [] pureFns A121 R121 6 := ⟨⟨Tryd.f121, _, Tryd.func121, rfl, rfl, by kernel_rfl, by kernel_rfl⟩, by kernel_rfl⟩
def A82 : ACode := .seq (.reg [⟨some 2, none, .mv (.c (.nilsl))⟩])
  (.seq (.reg [⟨some 3, none, .mv (.t 0)⟩, ⟨some 4, none, .mv (.t 0)⟩, ⟨some 5, none, .len false (.t 4)⟩, ⟨some 6, none, .mv (.t 0)⟩, ⟨some 7, none, .len false (.t 6)⟩, ⟨some 8, none, .slice 1 (.t 3) none (some (.t 5)) (some (.t 7))⟩, ⟨some 2, none, .mv (.t 8)⟩])
  (.ret))
def R82 : List ARes := [.t 2]
theorem ok82 : FnOk Tryd.prog 82 [] pureFns A82 R82 9 := ⟨⟨Tryd.f82, _, Tryd.func82, rfl, rfl, by kernel_rfl, by kernel_rfl⟩, by kernel_rfl⟩
def A84 : ACode := .seq (.reg [⟨some 2, none, .mv (.c (.nilsl))⟩])
  (.seq (.reg [⟨some 3, none, .mv (.c (.int .i64 0))⟩])
  (.seq (.seq (.reg [⟨some 9, none, .mv (.t 0)⟩, ⟨some 10, none, .len false (.t 9)⟩, ⟨some 11, none, .mv (.c (.int .i64 0))⟩])
  (.block 0 (.loop (.seq (.reg [⟨some 12, none, .bin 0 .lss (.t 11) (.t 10)⟩])
  (.seq (.cond (.t 12) (.skip) (.exit 0))
  (.seq (.block 1 (.seq (.reg [⟨some 13, none, .iaddrS 1 (.t 9) (.t 11)⟩, ⟨some 14, none, .load false 1 (.t 13)⟩, ⟨some 5, none, .mv (.t 14)⟩])
  (.seq (.reg [⟨some 15, none, .mv (.t 3)⟩, ⟨some 16, none, .mv (.t 5)⟩, ⟨some 17, none, .len false (.t 16)⟩, ⟨some 18, none, .bin 0 .add (.t 15) (.t 17)⟩, ⟨some 3, none, .mv (.t 18)⟩])
  (.seq (.reg [⟨some 19, none, .mv (.t 3)⟩, ⟨some 20, none, .bin 0 .lss (.t 19) (.c (.int .i64 0))⟩])
  (.cond (.t 20) (.reg [⟨some 21, none, .mkif 9 (.c (.str (bs [108, 101, 110, 32, 111, 117, 116, 32, 111, 102, 32, 114, 97, 110, 103, 101])))⟩, ⟨none, none, .panic (.t 21)⟩]) (.skip))))))
  (.reg [⟨some 22, none, .bin 0 .add (.t 11) (.c (.int .i64 1))⟩, ⟨some 11, none, .mv (.t 22)⟩])))))))
  (.seq (.reg [⟨some 23, none, .mv (.t 3)⟩, ⟨some 24, none, .hcall 111 [.c (.nilsl), .t 23]⟩, ⟨some 6, none, .mv (.t 24)⟩])
  (.seq (.seq (.reg [⟨some 25, none, .mv (.t 0)⟩, ⟨some 26, none, .len false (.t 25)⟩, ⟨some 27, none, .mv (.c (.int .i64 0))⟩])
  (.block 2 (.loop (.seq (.reg [⟨some 28, none, .bin 0 .lss (.t 27) (.t 26)⟩])
  (.seq (.cond (.t 28) (.skip) (.exit 2))
  (.seq (.block 3 (.seq (.reg [⟨some 29, none, .iaddrS 1 (.t 25) (.t 27)⟩, ⟨some 30, none, .load false 1 (.t 29)⟩, ⟨some 8, none, .mv (.t 30)⟩])
  (.reg [⟨some 31, none, .mv (.t 6)⟩, ⟨some 32, none, .mv (.t 8)⟩, ⟨some 33, none, .append 1 (.t 31) (.t 32)⟩, ⟨some 6, none, .mv (.t 33)⟩])))
  (.reg [⟨some 34, none, .bin 0 .add (.t 27) (.c (.int .i64 1))⟩, ⟨some 27, none, .mv (.t 34)⟩])))))))
  (.seq (.reg [⟨some 35, none, .mv (.t 6)⟩, ⟨some 2, none, .mv (.t 35)⟩])
  (.ret))))))
def R84 : List ARes := [.t 2]
theorem ok84 : FnOk Tryd.prog 84 [] pureFns A84 R84 36 := ⟨⟨Tryd.f84, _, Tryd.func84, rfl, rfl, by kernel_rfl, by kernel_rfl⟩, by kernel_rfl⟩
def A111 : ACode := .seq (.reg [⟨some 4, none, .mv (.c (.nilsl))⟩])
  (.seq (.seq (.reg [⟨some 5, none, .mv (.t 1)⟩, ⟨some 6, none, .bin 0 .lss (.t 5) (.c (.int .i64 0))⟩])
  (.cond (.t 6) (.reg [⟨some 7, none, .mkif 9 (.c (.str (bs [99, 97, 110, 110, 111, 116, 32, 98, 101, 32, 110, 101, 103, 97, 116, 105, 118, 101])))⟩, ⟨none, none, .panic (.t 7)⟩]) (.skip)))
  (.seq (.seq (.reg [⟨some 8, none, .mv (.t 1)⟩, ⟨some 9, none, .mv (.t 0)⟩, ⟨some 10, none, .cap (.t 9)⟩, ⟨some 11, none, .mv (.t 0)⟩, ⟨some 12, none, .len false (.t 11)⟩, ⟨some 13, none, .bin 0 .sub (.t 10) (.t 12)⟩, ⟨some 14, none, .bin 0 .sub (.t 8) (.t 13)⟩, ⟨some 1, none, .mv (.t 14)⟩])
  (.seq (.reg [⟨some 15, none, .mv (.t 1)⟩, ⟨some 16, none, .bin 0 .gtr (.t 15) (.c (.int .i64 0))⟩])
  (.cond (.t 16) (.reg [⟨some 17, none, .mv (.t 0)⟩, ⟨some 18, none, .mv (.t 0)⟩, ⟨some 19, none, .cap (.t 18)⟩, ⟨some 20, none, .slice 1 (.t 17) none (some (.t 19)) none⟩, ⟨some 21, none, .mv (.t 1)⟩, ⟨some 22, none, .appz 1 (.t 20) (.t 21)⟩, ⟨some 23, none, .mv (.t 0)⟩, ⟨some 24, none, .len false (.t 23)⟩, ⟨some 25, none, .slice 1 (.t 22) none (some (.t 24)) none⟩, ⟨some 0, none, .mv (.t 25)⟩]) (.skip))))
  (.seq (.reg [⟨some 26, none, .mv (.t 0)⟩, ⟨some 4, none, .mv (.t 26)⟩])
  (.ret))))
def R111 : List ARes := [.t 4]
theorem ok111 : FnOk Tryd.prog 111 [] pureFns A111 R111 27 := ⟨⟨Tryd.f111, _, Tryd.func111, rfl, rfl, by kernel_rfl, by kernel_rfl⟩, by kernel_rfl⟩
def A139 : ACode := .seq (.reg [⟨some 4, none, .mv (.c (.int .i64 0))⟩, ⟨some 5, none, .mv (.c (.int .i64 0))⟩])
  (.seq (.reg [⟨some 9, none, .mv (.t 0)⟩, ⟨some 10, none, .mv (.t 1)⟩, ⟨some 11, none, .pcall 15 [.t 9, .t 10]⟩, ⟨some 8, none, .mv (.t 11)⟩, ⟨some 12, none, .extract (.t 8) 0⟩, ⟨some 13, none, .extract (.t 8) 1⟩, ⟨some 6, none, .mv (.t 12)⟩, ⟨some 7, none, .mv (.t 13)⟩])
  (.seq (.seq (.reg [⟨some 14, none, .mv (.t 7)⟩, ⟨some 15, none, .bin 0 .neq (.t 14) (.c (.int .i64 0))⟩])
  (.cond (.t 15) (.seq (.reg [⟨some 16, none, .mv (.t 7)⟩, ⟨some 4, none, .mv (.c (.int .i64 0))⟩, ⟨some 5, none, .mv (.t 16)⟩])
  (.ret)) (.skip)))
  (.seq (.reg [⟨some 17, none, .mv (.t 0)⟩, ⟨some 18, none, .mv (.t 6)⟩, ⟨some 19, none, .iaddrS 1 (.t 17) (.t 18)⟩, ⟨some 20, none, .load false 1 (.t 19)⟩, ⟨some 21, none, .pcall 93 [.t 20, .c (.int .i64 0)]⟩, ⟨some 4, none, .mv (.t 21)⟩, ⟨some 5, none, .mv (.c (.int .i64 0))⟩])
  (.ret))))
def R139 : List ARes := [.t 4, .t 5]
theorem ok139 : FnOk Tryd.prog 139 [] pureFns A139 R139 22 := ⟨⟨Tryd.f139, _, Tryd.func139, rfl, rfl, by kernel_rfl, by kernel_rfl⟩, by kernel_rfl⟩
def A69 : ACode := .seq (.reg [⟨some 2, none, .mv (.c (.int .i64 0))⟩])
  (.seq (.reg [⟨some 4, none, .mv (.t 0)⟩, ⟨some 5, none, .len false (.t 4)⟩, ⟨some 3, none, .alloc [.int .i64 0]⟩, ⟨none, none, .store 1 (.t 3) (.t 5)⟩])
  (.seq (.block 0 (.seq (.reg [⟨some 7, none, .load false 1 (.t 3)⟩, ⟨some 8, none, .pcall 72 [.c (.int .i64 2), .t 7, .c (.int .i64 10)]⟩, ⟨some 9, none, .un .not (.t 8)⟩, ⟨some 10, none, .mv (.t 9)⟩, ⟨some 11, some (10, false), .mv (.t 0)⟩, ⟨some 12, some (10, false), .mkfn (.func 97) [] [.t 3]⟩, ⟨some 13, some (10, false), .hcall 96 [.t 11, .t 12]⟩, ⟨some 14, none, .pick (.t 10) (.c (.bool true)) (.t 13)⟩, ⟨some 6, none, .mv (.t 14)⟩])
  (.cond (.t 6) (.seq (.reg [⟨some 2, none, .mv (.c (.int .i64 3))⟩])
  (.ret)) (.seq (.reg [⟨some 16, none, .mv (.t 0)⟩, ⟨some 17, none, .hcall 84 [.t 16]⟩, ⟨some 18, none, .mkfn (.func 98) [] [.t 3]⟩, ⟨some 19, none, .hcall 70 [.t 17, .t 18]⟩, ⟨some 15, none, .mv (.t 19)⟩])
  (.cond (.t 15) (.seq (.reg [⟨some 2, none, .mv (.c (.int .i64 4))⟩])
  (.ret)) (.seq (.reg [⟨some 21, none, .mv (.t 0)⟩, ⟨some 22, none, .pcall 99 [.t 21]⟩, ⟨some 20, none, .mv (.t 22)⟩])
  (.cond (.t 20) (.seq (.reg [⟨some 2, none, .mv (.c (.int .i64 6))⟩])
  (.ret)) (.skip))))))))
  (.seq (.reg [⟨some 2, none, .mv (.c (.int .i64 0))⟩])
  (.ret))))
def R69 : List ARes := [.t 2]
theorem ok69 : FnOk Tryd.prog 69 [] pureFns A69 R69 23 := ⟨⟨Tryd.f69, _, Tryd.func69, rfl, rfl, by kernel_rfl, by kernel_rfl⟩, by kernel_rfl⟩
def A97 : ACode := .seq (.reg [⟨some 3, none, .mv (.c (.bool false))⟩])
  (.seq (.reg [⟨some 4, none, .mv (.t 0)⟩, ⟨some 5, none, .len false (.t 4)⟩, ⟨some 6, none, .load false 1 (.t 1)⟩, ⟨some 7, none, .bin 0 .neq (.t 5) (.t 6)⟩, ⟨some 3, none, .mv (.t 7)⟩])
  (.ret))
def R97 : List ARes := [.t 3]
theorem ok97 : FnOk Tryd.prog 97 [] pureFns A97 R97 8 := ⟨⟨Tryd.f97, _, Tryd.func97, rfl, rfl, by kernel_rfl, by kernel_rfl⟩, by kernel_rfl⟩
def A98 : ACode := .seq (.reg [⟨some 3, none, .mv (.c (.bool false))⟩])
  (.seq (.reg [⟨some 4, none, .mv (.t 0)⟩, ⟨some 5, none, .load false 1 (.t 1)⟩, ⟨some 6, none, .bin 0 .sub (.t 5) (.c (.int .i64 1))⟩, ⟨some 7, none, .pcall 72 [.c (.int .i64 0), .t 4, .t 6]⟩, ⟨some 8, none, .un .not (.t 7)⟩, ⟨some 3, none, .mv (.t 8)⟩])
  (.ret))
def R98 : List ARes := [.t 3]
theorem ok98 : FnOk Tryd.prog 98 [] pureFns A98 R98 9 := ⟨⟨Tryd.f98, _, Tryd.func98, rfl, rfl, by kernel_rfl, by kernel_rfl⟩, by kernel_rfl⟩
def A99 : ACode := .seq (.reg [⟨some 2, none, .mv (.c (.bool false))⟩])
  (.scope (.seq (.reg [⟨some 3, none, .mv (.c (.bool false))⟩])
  (.seq (.label 0)
  (.seq (.seq (.reg [⟨some 10, none, .mv (.t 0)⟩, ⟨some 11, none, .len false (.t 10)⟩, ⟨some 12, none, .mv (.c (.int .i64 0))⟩])
  (.block 0 (.loop (.seq (.reg [⟨some 13, none, .bin 0 .lss (.t 12) (.t 11)⟩])
  (.seq (.cond (.t 13) (.skip) (.exit 0))
  (.seq (.block 1 (.seq (.reg [⟨some 14, none, .mv (.t 12)⟩, ⟨some 4, none, .mv (.t 14)⟩])
  (.seq (.reg [⟨some 5, none, .alloc [.bool false, .bool false, .bool false, .bool false, .bool false, .bool false, .bool false, .bool false, .bool false, .bool false]⟩, ⟨some 6, none, .alloc [.bool false, .bool false, .bool false, .bool false, .bool false, .bool false, .bool false, .bool false, .bool false, .bool false]⟩])
  (.seq (.reg [⟨some 15, none, .mv (.t 0)⟩, ⟨some 16, none, .len false (.t 15)⟩, ⟨some 17, none, .mv (.c (.int .i64 0))⟩])
  (.block 2 (.loop (.seq (.reg [⟨some 18, none, .bin 0 .lss (.t 17) (.t 16)⟩])
  (.seq (.cond (.t 18) (.skip) (.exit 2))
  (.seq (.block 3 (.seq (.reg [⟨some 19, none, .mv (.t 17)⟩, ⟨some 7, none, .mv (.t 19)⟩])
  (.seq (.regd [⟨some 20, none, .mv (.t 0)⟩, ⟨some 21, none, .mv (.t 4)⟩, ⟨some 22, none, .iaddrS 1 (.t 20) (.t 21)⟩, ⟨some 23, none, .load false 1 (.t 22)⟩, ⟨some 24, none, .mv (.t 7)⟩, ⟨some 25, none, .iaddrS 1 (.t 23) (.t 24)⟩, ⟨some 26, none, .load false 1 (.t 25)⟩, ⟨some 27, none, .mv (.t 0)⟩, ⟨some 28, none, .mv (.t 7)⟩, ⟨some 29, none, .iaddrS 1 (.t 27) (.t 28)⟩, ⟨some 30, none, .load false 1 (.t 29)⟩, ⟨some 31, none, .mv (.t 4)⟩, ⟨some 32, none, .iaddrS 1 (.t 30) (.t 31)⟩, ⟨some 33, none, .load false 1 (.t 32)⟩, ⟨some 8, none, .mv (.t 26)⟩, ⟨some 9, none, .mv (.t 33)⟩])
  (.seq (.seq (.reg [⟨some 34, none, .mv (.t 8)⟩, ⟨some 35, none, .iaddrA 10 false 1 (.t 5) (.t 34)⟩, ⟨some 36, none, .load false 1 (.t 35)⟩, ⟨some 37, none, .mv (.t 36)⟩, ⟨some 38, some (37, false), .mv (.t 9)⟩, ⟨some 39, some (37, false), .iaddrA 10 false 1 (.t 6) (.t 38)⟩, ⟨some 40, some (37, false), .load false 1 (.t 39)⟩, ⟨some 41, none, .pick (.t 37) (.c (.bool true)) (.t 40)⟩])
  (.cond (.t 41) (.seq (.reg [⟨some 3, none, .mv (.c (.bool true))⟩])
  (.exit 0)) (.skip)))
  (.reg [⟨some 42, none, .mv (.t 8)⟩, ⟨some 43, none, .mv (.t 9)⟩, ⟨some 44, none, .iaddrA 10 false 1 (.t 5) (.t 42)⟩, ⟨none, none, .store 1 (.t 44) (.c (.bool true))⟩, ⟨some 45, none, .iaddrA 10 false 1 (.t 6) (.t 43)⟩, ⟨none, none, .store 1 (.t 45) (.c (.bool true))⟩])))))
  (.reg [⟨some 46, none, .bin 0 .add (.t 17) (.c (.int .i64 1))⟩, ⟨some 17, none, .mv (.t 46)⟩]))))))))))
  (.reg [⟨some 47, none, .bin 0 .add (.t 12) (.c (.int .i64 1))⟩, ⟨some 12, none, .mv (.t 47)⟩])))))))
  (.seq (.reg [⟨some 48, none, .mv (.t 3)⟩, ⟨some 2, none, .mv (.t 48)⟩])
  (.ret))))))
def R99 : List ARes := [.t 2]
theorem ok99 : FnOk Tryd.prog 99 [] pureFns A99 R99 49 := ⟨⟨Tryd.f99, _, Tryd.func99, rfl, rfl, by kernel_rfl, by kernel_rfl⟩, by kernel_rfl⟩
def A38 : ACode := .seq (.reg [⟨some 2, none, .boxi (.t 0)⟩, ⟨some 4, none, .mv (.c (.int .i64 0))⟩])
  (.seq (.reg [⟨some 6, none, .load false 1 (.t 2)⟩, ⟨some 7, none, .pcall 69 [.t 6]⟩, ⟨some 5, none, .mv (.t 7)⟩])
  (.seq (.block 0 (.seq (.reg [⟨some 9, none, .mv (.t 5)⟩, ⟨some 10, none, .bin 0 .neq (.t 9) (.c (.int .i64 0))⟩, ⟨some 8, none, .mv (.t 10)⟩])
  (.cond (.t 8) (.seq (.reg [⟨some 11, none, .mv (.t 5)⟩, ⟨some 4, none, .mv (.t 11)⟩])
  (.ret)) (.seq (.reg [⟨some 13, none, .mv (.t 1)⟩, ⟨some 14, none, .len false (.t 13)⟩, ⟨some 15, none, .bin 0 .gtr (.t 14) (.c (.int .i64 12))⟩, ⟨some 12, none, .mv (.t 15)⟩])
  (.cond (.t 12) (.seq (.reg [⟨some 4, none, .mv (.c (.int .i64 2))⟩])
  (.ret)) (.seq (.reg [⟨some 17, none, .mv (.t 1)⟩, ⟨some 18, none, .mkfn (.func 71) [] [.t 2]⟩, ⟨some 19, none, .hcall 70 [.t 17, .t 18]⟩, ⟨some 16, none, .mv (.t 19)⟩])
  (.cond (.t 16) (.seq (.reg [⟨some 4, none, .mv (.c (.int .i64 4))⟩])
  (.ret)) (.skip))))))))
  (.seq (.reg [⟨some 4, none, .mv (.c (.int .i64 0))⟩])
  (.ret))))
def R38 : List ARes := [.t 4]
theorem ok38 : FnOk Tryd.prog 38 [] pureFns A38 R38 20 := ⟨⟨Tryd.f38, _, Tryd.func38, rfl, rfl, by kernel_rfl, by kernel_rfl⟩, by kernel_rfl⟩
def A71 : ACode := .seq (.reg [⟨some 3, none, .mv (.c (.bool false))⟩])
  (.seq (.reg [⟨some 4, none, .mv (.t 0)⟩, ⟨some 5, none, .load false 1 (.t 1)⟩, ⟨some 6, none, .len false (.t 5)⟩, ⟨some 7, none, .bin 0 .sub (.t 6) (.c (.int .i64 1))⟩, ⟨some 8, none, .pcall 72 [.c (.int .i64 0), .t 4, .t 7]⟩, ⟨some 9, none, .un .not (.t 8)⟩, ⟨some 3, none, .mv (.t 9)⟩])
  (.ret))
def R71 : List ARes := [.t 3]
theorem ok71 : FnOk Tryd.prog 71 [] pureFns A71 R71 10 := ⟨⟨Tryd.f71, _, Tryd.func71, rfl, rfl, by kernel_rfl, by kernel_rfl⟩, by kernel_rfl⟩
def A39 : ACode := .seq (.reg [⟨some 3, none, .boxi (.t 0)⟩, ⟨some 6, none, .mv (.c (.int .i64 0))⟩])
  (.seq (.reg [⟨some 7, none, .mv (.t 1)⟩, ⟨some 8, none, .mv (.t 2)⟩, ⟨some 9, none, .mkfn (.func 74) [] [.t 3]⟩, ⟨some 10, none, .pcall 73 [.t 7, .t 8, .t 9]⟩, ⟨some 6, none, .mv (.t 10)⟩])
  (.ret))
def R39 : List ARes := [.t 6]
theorem ok39 : FnOk Tryd.prog 39 [] pureFns A39 R39 11 := ⟨⟨Tryd.f39, _, Tryd.func39, rfl, rfl, by kernel_rfl, by kernel_rfl⟩, by kernel_rfl⟩
def A73 : ACode := .seq (.reg [⟨some 6, none, .mv (.c (.int .i64 0))⟩])
  (.seq (.seq (.reg [⟨some 9, none, .mv (.t 1)⟩, ⟨some 10, none, .len false (.t 9)⟩, ⟨some 11, none, .mv (.c (.int .i64 0))⟩])
  (.block 0 (.loop (.seq (.reg [⟨some 12, none, .bin 0 .lss (.t 11) (.t 10)⟩])
  (.seq (.cond (.t 12) (.skip) (.exit 0))
  (.seq (.block 1 (.seq (.reg [⟨some 13, none, .iaddrS 1 (.t 9) (.t 11)⟩, ⟨some 14, none, .load false 1 (.t 13)⟩, ⟨some 8, none, .mv (.t 14)⟩])
  (.reg [⟨some 15, none, .mv (.t 2)⟩, ⟨some 16, none, .mv (.t 0)⟩, ⟨some 17, none, .mv (.t 8)⟩, ⟨some 18, none, .callv (.t 15) [.t 16, .t 17]⟩, ⟨some 0, none, .mv (.t 18)⟩])))
  (.reg [⟨some 19, none, .bin 0 .add (.t 11) (.c (.int .i64 1))⟩, ⟨some 11, none, .mv (.t 19)⟩])))))))
  (.seq (.reg [⟨some 20, none, .mv (.t 0)⟩, ⟨some 6, none, .mv (.t 20)⟩])
  (.ret)))
def R73 : List ARes := [.t 6]
theorem ok73 : FnOk Tryd.prog 73 [] pureFns A73 R73 21 := ⟨⟨Tryd.f73, _, Tryd.func73, rfl, rfl, by kernel_rfl, by kernel_rfl⟩, by kernel_rfl⟩
def A74 : ACode := .seq (.reg [⟨some 5, none, .mv (.c (.int .i64 0))⟩])
  (.seq (.reg [⟨some 6, none, .load false 1 (.t 2)⟩, ⟨some 7, none, .mv (.t 0)⟩, ⟨some 8, none, .iaddrS 1 (.t 6) (.t 7)⟩, ⟨some 9, none, .load false 1 (.t 8)⟩, ⟨some 10, none, .mv (.t 1)⟩, ⟨some 11, none, .iaddrS 1 (.t 9) (.t 10)⟩, ⟨some 12, none, .load false 1 (.t 11)⟩, ⟨some 5, none, .mv (.t 12)⟩])
  (.ret))
def R74 : List ARes := [.t 5]
theorem ok74 : FnOk Tryd.prog 74 [] pureFns A74 R74 13 := ⟨⟨Tryd.f74, _, Tryd.func74, rfl, rfl, by kernel_rfl, by kernel_rfl⟩, by kernel_rfl⟩
def A72 : ACode := .seq (.reg [⟨some 6, none, .mv (.c (.bool false))⟩])
  (.seq (.reg [⟨some 7, none, .mv (.t 0)⟩, ⟨some 8, none, .mv (.t 1)⟩, ⟨some 9, none, .bin 0 .leq (.t 7) (.t 8)⟩, ⟨some 10, none, .mv (.t 9)⟩, ⟨some 11, some (10, true), .mv (.t 1)⟩, ⟨some 12, some (10, true), .mv (.t 2)⟩, ⟨some 13, some (10, true), .bin 0 .leq (.t 11) (.t 12)⟩, ⟨some 14, none, .pick (.t 10) (.t 13) (.c (.bool false))⟩, ⟨some 6, none, .mv (.t 14)⟩])
  (.ret))
def R72 : List ARes := [.t 6]
theorem ok72 : FnOk Tryd.prog 72 [] pureFns A72 R72 15 := ⟨⟨Tryd.f72, _, Tryd.func72, rfl, rfl, by kernel_rfl, by kernel_rfl⟩, by kernel_rfl⟩
def A15 : ACode := .seq (.reg [⟨some 4, none, .mv (.c (.int .i64 0))⟩, ⟨some 5, none, .mv (.c (.int .i64 0))⟩])
  (.seq (.seq (.reg [⟨some 7, none, .mv (.t 0)⟩, ⟨some 8, none, .mv (.t 1)⟩, ⟨some 9, none, .pcall 38 [.t 7, .t 8]⟩, ⟨some 6, none, .mv (.t 9)⟩])
  (.seq (.reg [⟨some 10, none, .mv (.t 6)⟩, ⟨some 11, none, .bin 0 .neq (.t 10) (.c (.int .i64 0))⟩])
  (.cond (.t 11) (.seq (.reg [⟨some 12, none, .mv (.t 6)⟩, ⟨some 4, none, .mv (.c (.int .i64 0))⟩, ⟨some 5, none, .mv (.t 12)⟩])
  (.ret)) (.skip))))
  (.seq (.reg [⟨some 13, none, .mv (.t 0)⟩, ⟨some 14, none, .mv (.t 1)⟩, ⟨some 15, none, .pcall 39 [.t 13, .c (.int .i64 0), .t 14]⟩, ⟨some 4, none, .mv (.t 15)⟩, ⟨some 5, none, .mv (.c (.int .i64 0))⟩])
  (.ret)))
def R15 : List ARes := [.t 4, .t 5]
theorem ok15 : FnOk Tryd.prog 15 [] pureFns A15 R15 16 := ⟨⟨Tryd.f15, _, Tryd.func15, rfl, rfl, by kernel_rfl, by kernel_rfl⟩, by kernel_rfl⟩
def A93 : ACode := .seq (.reg [⟨some 4, none, .mv (.c (.int .i64 0))⟩])
  (.seq (.seq (.reg [⟨some 6, none, .mv (.t 0)⟩, ⟨some 7, none, .len false (.t 6)⟩, ⟨some 8, none, .mv (.c (.int .i64 0))⟩])
  (.block 0 (.loop (.seq (.reg [⟨some 9, none, .bin 0 .lss (.t 8) (.t 7)⟩])
  (.seq (.cond (.t 9) (.skip) (.exit 0))
  (.seq (.block 1 (.seq (.reg [⟨some 10, none, .mv (.t 8)⟩, ⟨some 5, none, .mv (.t 10)⟩])
  (.seq (.reg [⟨some 11, none, .mv (.t 1)⟩, ⟨some 12, none, .mv (.t 0)⟩, ⟨some 13, none, .mv (.t 5)⟩, ⟨some 14, none, .iaddrS 1 (.t 12) (.t 13)⟩, ⟨some 15, none, .load false 1 (.t 14)⟩, ⟨some 16, none, .bin 0 .eql (.t 11) (.t 15)⟩])
  (.cond (.t 16) (.seq (.reg [⟨some 17, none, .mv (.t 5)⟩, ⟨some 4, none, .mv (.t 17)⟩])
  (.ret)) (.skip)))))
  (.reg [⟨some 18, none, .bin 0 .add (.t 8) (.c (.int .i64 1))⟩, ⟨some 8, none, .mv (.t 18)⟩])))))))
  (.seq (.reg [⟨some 4, none, .mv (.c (.int .i64 (-1)))⟩])
  (.ret)))
def R93 : List ARes := [.t 4]
theorem ok93 : FnOk Tryd.prog 93 [] pureFns A93 R93 19 := ⟨⟨Tryd.f93, _, Tryd.func93, rfl, rfl, by kernel_rfl, by kernel_rfl⟩, by kernel_rfl⟩

end Go.Proofs.YtdcpkgedaflnmaaDoor.Bw
