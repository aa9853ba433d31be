/-
  Functions of this seat's translation, compacted, each held against the loaded program by the kernel (names by an earlier seat's numbers). Printed by wip/tools/Gex.lean.
  Functions of this seat's translation, compacted, each held against the loaded program by the kernel. Printed by wip/tools/Gex.lean.
-/
import Derived.Test.YtdcpkgedaflnmaaDoorProg
import Derived.Test.YtdcpkgedaflnmaaDoorFx2
import Derived.KernelRfl
namespace Go.Proofs.YtdcpkgedaflnmaaDoor.Fo
open Go Fw
end Go.Proofs.YtdcpkgedaflnmaaDoor.Fo
namespace Go.Proofs.YtdcpkgedaflnmaaDoor.Se
open Go Fw
def pureFns : List Nat := [0,1,2,3,4,5,6,7,8,9,10,11,12,13,14,15,16,17,18,19,20,21,22,23,24,25,26,27,28,29,30,31,32,33,34,35,36,37,38,39,40,41,42,43,44,45,46,47,48,49,50,51,52,53,54,55,56,57,58,59,60,61,62,63,64,65,66,67,68,69,71,72,73,74,75,76,77,78,79,80,81,82,83,85,86,87,88,89,90,91,92,93,94,95,97,98,99,101,102,103,104,105,106,107,108,109,110,112,113,114,115,116,117,118,119,120,121,123,124,125,126,127,128,129,130,131,132,133,134,135,136,137,138,139,140,141,142,143,144,145,146,147,148,149,150,151,152,153,154,155,156,157,158,159,160,161,162,163,164,165,166,167,168,169,170,171,172,173,174,175,176,177,178,179,180,181,182,183,184,185,186,187,188,189,190,191]
def A40 : ACode := .seq (.reg [⟨some 4, none, .mv (.c (.nilsl))⟩, ⟨some 5, none, .mv (.c (.int .i64 0))⟩])
  (.seq (.block 0 (.seq (.reg [⟨some 10, none, .mv (.t 0)⟩, ⟨some 11, none, .pcall 72 [.c (.int .i64 2), .t 10, .c (.int .i64 10)]⟩, ⟨some 12, none, .un .not (.t 11)⟩, ⟨some 13, none, .mv (.t 12)⟩, ⟨some 14, some (13, false), .mv (.t 1)⟩, ⟨some 15, some (13, false), .mv (.t 0)⟩, ⟨some 16, some (13, false), .bin 0 .sub (.t 15) (.c (.int .i64 1))⟩, ⟨some 17, some (13, false), .pcall 72 [.c (.int .i64 1), .t 14, .t 16]⟩, ⟨some 18, some (13, false), .un .not (.t 17)⟩, ⟨some 19, none, .pick (.t 13) (.c (.bool true)) (.t 18)⟩, ⟨some 9, none, .mv (.t 19)⟩])
  (.cond (.t 9) (.seq (.reg [⟨some 4, none, .mv (.c (.nilsl))⟩, ⟨some 5, none, .mv (.c (.int .i64 4))⟩])
  (.ret)) (.seq (.reg [⟨some 21, none, .mv (.t 0)⟩, ⟨some 22, none, .mv (.t 1)⟩, ⟨some 23, none, .pcall 75 [.t 21, .t 22]⟩, ⟨some 24, none, .bin 0 .gtr (.t 23) (.c (.int .i64 1))⟩, ⟨some 20, none, .mv (.t 24)⟩])
  (.cond (.t 20) (.seq (.reg [⟨some 4, none, .mv (.c (.nilsl))⟩, ⟨some 5, none, .mv (.c (.int .i64 12))⟩])
  (.ret)) (.skip))))))
  (.seq (.reg [⟨some 25, none, .mv (.t 0)⟩, ⟨some 26, none, .make false 1 [.nilsl] (.t 25) (.t 25)⟩, ⟨some 6, none, .mv (.t 26)⟩])
  (.seq (.seq (.reg [⟨some 27, none, .mv (.t 6)⟩, ⟨some 28, none, .len false (.t 27)⟩, ⟨some 29, none, .mv (.c (.int .i64 0))⟩])
  (.block 1 (.loop (.seq (.reg [⟨some 30, none, .bin 0 .lss (.t 29) (.t 28)⟩])
  (.seq (.cond (.t 30) (.skip) (.exit 1))
  (.seq (.block 2 (.seq (.reg [⟨some 31, none, .mv (.t 29)⟩, ⟨some 7, none, .mv (.t 31)⟩])
  (.seq (.reg [⟨some 32, none, .mv (.t 0)⟩, ⟨some 33, none, .mv (.c (.int .i64 0))⟩])
  (.block 3 (.loop (.seq (.reg [⟨some 34, none, .bin 0 .lss (.t 33) (.t 32)⟩])
  (.seq (.cond (.t 34) (.skip) (.exit 3))
  (.seq (.block 4 (.seq (.reg [⟨some 35, none, .mv (.t 33)⟩, ⟨some 8, none, .mv (.t 35)⟩])
  (.regd [⟨some 36, none, .mv (.t 6)⟩, ⟨some 37, none, .mv (.t 7)⟩, ⟨some 38, none, .mv (.t 6)⟩, ⟨some 39, none, .mv (.t 7)⟩, ⟨some 40, none, .iaddrS 1 (.t 38) (.t 39)⟩, ⟨some 41, none, .load false 1 (.t 40)⟩, ⟨some 42, none, .mv (.t 1)⟩, ⟨some 43, none, .mv (.t 7)⟩, ⟨some 44, none, .bin 0 .mul (.t 42) (.t 43)⟩, ⟨some 45, none, .mv (.t 8)⟩, ⟨some 46, none, .bin 0 .add (.t 44) (.t 45)⟩, ⟨some 47, none, .mv (.t 0)⟩, ⟨some 48, none, .bin 0 .rem (.t 46) (.t 47)⟩, ⟨some 49, none, .buildSl 1 [.t 48]⟩, ⟨some 50, none, .append 1 (.t 41) (.t 49)⟩, ⟨some 51, none, .iaddrS 1 (.t 36) (.t 37)⟩, ⟨none, none, .store 1 (.t 51) (.t 50)⟩])))
  (.reg [⟨some 52, none, .bin 0 .add (.t 33) (.c (.int .i64 1))⟩, ⟨some 33, none, .mv (.t 52)⟩])))))))))
  (.reg [⟨some 53, none, .bin 0 .add (.t 29) (.c (.int .i64 1))⟩, ⟨some 29, none, .mv (.t 53)⟩])))))))
  (.seq (.reg [⟨some 54, none, .mv (.t 6)⟩, ⟨some 4, none, .mv (.t 54)⟩, ⟨some 5, none, .mv (.c (.int .i64 0))⟩])
  (.ret)))))
def R40 : List ARes := [.t 4, .t 5]
theorem ok40 : FnOk Tryd.prog 40 [] pureFns A40 R40 55 := ⟨⟨Tryd.f40, _, Tryd.func40, rfl, rfl, by kernel_rfl, by kernel_rfl⟩, by kernel_rfl⟩
def A72 : ACode := .seq (.reg [⟨some 6, none, .mv (.c (.bool false))⟩])
  (.seq (.reg [⟨some 7, none, .mv (.t 0)⟩, ⟨some 8, none, .mv (.t 1)⟩, ⟨some 9, none, .bin 0 .leq (.t 7) (.t 8)⟩, ⟨some 10, none, .mv (.t 9)⟩, ⟨some 11, some (10, true), .mv (.t 1)⟩, ⟨some 12, some (10, true), .mv (.t 2)⟩, ⟨some 13, some (10, true), .bin 0 .leq (.t 11) (.t 12)⟩, ⟨some 14, none, .pick (.t 10) (.t 13) (.c (.bool false))⟩, ⟨some 6, none, .mv (.t 14)⟩])
  (.ret))
def R72 : List ARes := [.t 6]
theorem ok72 : FnOk Tryd.prog 72 [] pureFns A72 R72 15 := ⟨⟨Tryd.f72, _, Tryd.func72, rfl, rfl, by kernel_rfl, by kernel_rfl⟩, by kernel_rfl⟩
def A75 : ACode := .seq (.reg [⟨some 4, none, .mv (.c (.int .i64 0))⟩])
  (.seq (.block 0 (.loop (.seq (.seq (.reg [⟨some 5, none, .mv (.t 1)⟩, ⟨some 6, none, .bin 0 .gtr (.t 5) (.c (.int .i64 0))⟩])
  (.cond (.t 6) (.skip) (.exit 0)))
  (.block 1 (.regd [⟨some 7, none, .mv (.t 1)⟩, ⟨some 8, none, .mv (.t 0)⟩, ⟨some 9, none, .mv (.t 1)⟩, ⟨some 10, none, .bin 0 .rem (.t 8) (.t 9)⟩, ⟨some 0, none, .mv (.t 7)⟩, ⟨some 1, none, .mv (.t 10)⟩])))))
  (.seq (.reg [⟨some 11, none, .mv (.t 0)⟩, ⟨some 4, none, .mv (.t 11)⟩])
  (.ret)))
def R75 : List ARes := [.t 4]
theorem ok75 : FnOk Tryd.prog 75 [] pureFns A75 R75 12 := ⟨⟨Tryd.f75, _, Tryd.func75, rfl, rfl, by kernel_rfl, by kernel_rfl⟩, by kernel_rfl⟩
end Go.Proofs.YtdcpkgedaflnmaaDoor.Se
