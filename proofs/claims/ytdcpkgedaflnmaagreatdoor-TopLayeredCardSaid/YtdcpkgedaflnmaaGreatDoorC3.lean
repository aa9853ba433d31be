/-
  Functions of this seat's translation, compacted, each held against the loaded program by the kernel. Printed by wip/tools/Gex.lean.
  Functions of this seat's translation, compacted, each held against the loaded program by the kernel. Printed by wip/tools/Gex.lean.
-/
import Derived.Test.YtdcpkgedaflnmaaGreatDoorProg
import Derived.Test.YtdcpkgedaflnmaaGreatDoorFx2
import Derived.KernelRfl
namespace Go.Proofs.YtdcpkgedaflnmaaGreatDoor.Ct
open Go Fw
def pureFns : List Nat := [0,1,2,3,4,5,6,7,8,9,10,11,12,13,14,15,16,17,18,19,20,21,22,23,24,25,26,27,28,29,30,31,32,33,34,35,36,37,38,39,40,41,43,44,45,46,47,48,49,50,51,52,53,54,55,56,57,58,59,60,61,62,63,64,65,66,67,68,69,70,71,72,73,74,75,76,77,78,79,80,81,82,83,84,85,86,87,88,89,90,91,92,93,94,95,96,97,98,99,100,101,102,103,104,105,106,107,108,109,110,111,112,113,114,115,116,117,118,119,120,121,122,123,124,125,126,127,128,129,130,131,132,133,134,135,136,137,138,139,140,141,142,143,144,145,146,147,148,149,150,151,152,153,154,155,156,157,158,159,160,161,162,163,164,165,166,167,168,169,170,171,172,173,174,175,176,177,178,179,180,181,182,183,184,185,186,187,188,189,190,191,192,193,194,195,196,197,198,199,200,201,202,203,204,205,206]
def A12 : ACode := .seq (.reg [⟨some 6, none, .mv (.c (.int .i64 0))⟩, ⟨some 7, none, .mv (.c (.int .i64 0))⟩])
  (.seq (.seq (.reg [⟨some 9, none, .mv (.t 0)⟩, ⟨some 10, none, .mv (.t 1)⟩, ⟨some 11, none, .mv (.t 2)⟩, ⟨some 12, none, .pcall 41 [.t 9, .t 10, .t 11]⟩, ⟨some 8, none, .mv (.t 12)⟩])
  (.seq (.reg [⟨some 13, none, .mv (.t 8)⟩, ⟨some 14, none, .bin 0 .neq (.t 13) (.c (.int .i64 0))⟩])
  (.cond (.t 14) (.seq (.reg [⟨some 15, none, .mv (.t 8)⟩, ⟨some 6, none, .mv (.c (.int .i64 0))⟩, ⟨some 7, none, .mv (.t 15)⟩])
  (.ret)) (.skip))))
  (.seq (.reg [⟨some 16, none, .mv (.t 0)⟩, ⟨some 17, none, .mv (.t 1)⟩, ⟨some 18, none, .mv (.t 2)⟩, ⟨some 19, none, .hcall 42 [.t 16, .t 17, .t 18]⟩, ⟨some 20, none, .mv (.t 0)⟩, ⟨some 21, none, .mv (.t 1)⟩, ⟨some 22, none, .nilchk (.t 19)⟩, ⟨some 23, none, .iaddrA 13 true 65 (.t 22) (.t 20)⟩, ⟨some 24, none, .iaddrA 13 true 5 (.t 23) (.t 21)⟩, ⟨some 25, none, .faddr false 1 0 (.t 24)⟩, ⟨some 26, none, .load false 1 (.t 25)⟩, ⟨some 6, none, .mv (.t 26)⟩, ⟨some 7, none, .mv (.c (.int .i64 0))⟩])
  (.ret)))
def R12 : List ARes := [.t 6, .t 7]
theorem ok12 : FnOk Tryz.prog 12 [] pureFns A12 R12 27 := ⟨⟨Tryz.f12, _, Tryz.func12, rfl, rfl, by kernel_rfl, by kernel_rfl⟩, by kernel_rfl⟩
def A25 : ACode := .seq (.reg [⟨some 0, none, .mv (.c (.bool false))⟩])
  (.seq (.reg [⟨some 4, none, .build [.int .i64 0, .int .i64 0, .int .i64 0] [(0, 1, (.c (.int .i64 2))), (1, 1, (.c (.int .i64 2))), (2, 1, (.c (.int .i64 3)))]⟩, ⟨some 5, none, .build [.int .i64 0, .int .i64 0, .int .i64 0] [(0, 1, (.c (.int .i64 3))), (1, 1, (.c (.int .i64 1))), (2, 1, (.c (.int .i64 2)))]⟩, ⟨some 6, none, .buildSl 3 [.t 4, .t 5]⟩, ⟨some 7, none, .pcall 12 [.c (.int .i64 5), .c (.int .i64 4), .t 6]⟩, ⟨some 3, none, .mv (.t 7)⟩, ⟨some 8, none, .extract (.t 3) 0⟩, ⟨some 9, none, .extract (.t 3) 1⟩, ⟨some 1, none, .mv (.t 8)⟩, ⟨some 2, none, .mv (.t 9)⟩])
  (.seq (.reg [⟨some 10, none, .mv (.t 2)⟩, ⟨some 11, none, .bin 0 .eql (.t 10) (.c (.int .i64 0))⟩, ⟨some 12, none, .mv (.t 11)⟩, ⟨some 13, some (12, true), .mv (.t 1)⟩, ⟨some 14, some (12, true), .bin 0 .eql (.t 13) (.c (.int .i64 14))⟩, ⟨some 15, none, .pick (.t 12) (.t 14) (.c (.bool false))⟩, ⟨some 16, none, .mv (.t 15)⟩, ⟨some 17, some (16, true), .pcall 63 []⟩, ⟨some 18, none, .pick (.t 16) (.t 17) (.c (.bool false))⟩, ⟨some 0, none, .mv (.t 18)⟩])
  (.ret)))
def R25 : List ARes := [.t 0]
theorem ok25 : FnOk Tryz.prog 25 [] pureFns A25 R25 19 := ⟨⟨Tryz.f25, _, Tryz.func25, rfl, rfl, by kernel_rfl, by kernel_rfl⟩, by kernel_rfl⟩
def A41 : ACode := .seq (.reg [⟨some 6, none, .mv (.c (.int .i64 0))⟩])
  (.seq (.seq (.reg [⟨some 7, none, .mv (.t 0)⟩, ⟨some 8, none, .pcall 75 [.c (.int .i64 1), .t 7, .c (.int .i64 12)]⟩, ⟨some 9, none, .un .not (.t 8)⟩, ⟨some 10, none, .mv (.t 9)⟩, ⟨some 11, some (10, false), .mv (.t 1)⟩, ⟨some 12, some (10, false), .pcall 75 [.c (.int .i64 1), .t 11, .c (.int .i64 12)]⟩, ⟨some 13, some (10, false), .un .not (.t 12)⟩, ⟨some 14, none, .pick (.t 10) (.c (.bool true)) (.t 13)⟩])
  (.cond (.t 14) (.seq (.reg [⟨some 6, none, .mv (.c (.int .i64 3))⟩])
  (.ret)) (.skip)))
  (.seq (.reg [⟨some 15, none, .mv (.t 2)⟩, ⟨some 16, none, .pcall 93 [.t 15]⟩, ⟨some 6, none, .mv (.t 16)⟩])
  (.ret)))
def R41 : List ARes := [.t 6]
theorem ok41 : FnOk Tryz.prog 41 [] pureFns A41 R41 17 := ⟨⟨Tryz.f41, _, Tryz.func41, rfl, rfl, by kernel_rfl, by kernel_rfl⟩, by kernel_rfl⟩
def A42 : ACode := .seq (.reg [⟨some 6, none, .mv (.c (.nilptr))⟩])
  (.seq (.reg [⟨some 16, none, .build [.int .i64 0, .int .i64 0, .bool false, .bool false, .int .i64 0, .int .i64 0, .int .i64 0, .bool false, .bool false, .int .i64 0, .int .i64 0, .int .i64 0, .bool false, .bool false, .int .i64 0, .int .i64 0, .int .i64 0, .bool false, .bool false, .int .i64 0, .int .i64 0, .int .i64 0, .bool false, .bool false, .int .i64 0, .int .i64 0, .int .i64 0, .bool false, .bool false, .int .i64 0, .int .i64 0, .int .i64 0, .bool false, .bool false, .int .i64 0, .int .i64 0, .int .i64 0, .bool false, .bool false, .int .i64 0, .int .i64 0, .int .i64 0, .bool false, .bool false, .int .i64 0, .int .i64 0, .int .i64 0, .bool false, .bool false, .int .i64 0, .int .i64 0, .int .i64 0, .bool false, .bool false, .int .i64 0, .int .i64 0, .int .i64 0, .bool false, .bool false, .int .i64 0, .int .i64 0, .int .i64 0, .bool false, .bool false, .int .i64 0, .int .i64 0, .int .i64 0, .bool false, .bool false, .int .i64 0, .int .i64 0, .int .i64 0, .bool false, .bool false, .int .i64 0, .int .i64 0, .int .i64 0, .bool false, .bool false, .int .i64 0, .int .i64 0, .int .i64 0, .bool false, .bool false, .int .i64 0, .int .i64 0, .int .i64 0, .bool false, .bool false, .int .i64 0, .int .i64 0, .int .i64 0, .bool false, .bool false, .int .i64 0, .int .i64 0, .int .i64 0, .bool false, .bool false, .int .i64 0, .int .i64 0, .int .i64 0, .bool false, .bool false, .int .i64 0, .int .i64 0, .int .i64 0, .bool false, .bool false, .int .i64 0, .int .i64 0, .int .i64 0, .bool false, .bool false, .int .i64 0, .int .i64 0, .int .i64 0, .bool false, .bool false, .int .i64 0, .int .i64 0, .int .i64 0, .bool false, .bool false, .int .i64 0, .int .i64 0, .int .i64 0, .bool false, .bool false, .int .i64 0, .int .i64 0, .int .i64 0, .bool false, .bool false, .int .i64 0, .int .i64 0, .int .i64 0, .bool false, .bool false, .int .i64 0, .int .i64 0, .int .i64 0, .bool false, .bool false, .int .i64 0, .int .i64 0, .int .i64 0, .bool false, .bool false, .int .i64 0, .int .i64 0, .int .i64 0, .bool false, .bool false, .int .i64 0, .int .i64 0, .int .i64 0, .bool false, .bool false, .int .i64 0, .int .i64 0, .int .i64 0, .bool false, .bool false, .int .i64 0, .int .i64 0, .int .i64 0, .bool false, .bool false, .int .i64 0, .int .i64 0, .int .i64 0, .bool false, .bool false, .int .i64 0, .int .i64 0, .int .i64 0, .bool false, .bool false, .int .i64 0, .int .i64 0, .int .i64 0, .bool false, .bool false, .int .i64 0, .int .i64 0, .int .i64 0, .bool false, .bool false, .int .i64 0, .int .i64 0, .int .i64 0, .bool false, .bool false, .int .i64 0, .int .i64 0, .int .i64 0, .bool false, .bool false, .int .i64 0, .int .i64 0, .int .i64 0, .bool false, .bool false, .int .i64 0, .int .i64 0, .int .i64 0, .bool false, .bool false, .int .i64 0, .int .i64 0, .int .i64 0, .bool false, .bool false, .int .i64 0, .int .i64 0, .int .i64 0, .bool false, .bool false, .int .i64 0, .int .i64 0, .int .i64 0, .bool false, .bool false, .int .i64 0, .int .i64 0, .int .i64 0, .bool false, .bool false, .int .i64 0, .int .i64 0, .int .i64 0, .bool false, .bool false, .int .i64 0, .int .i64 0, .int .i64 0, .bool false, .bool false, .int .i64 0, .int .i64 0, .int .i64 0, .bool false, .bool false, .int .i64 0, .int .i64 0, .int .i64 0, .bool false, .bool false, .int .i64 0, .int .i64 0, .int .i64 0, .bool false, .bool false, .int .i64 0, .int .i64 0, .int .i64 0, .bool false, .bool false, .int .i64 0, .int .i64 0, .int .i64 0, .bool false, .bool false, .int .i64 0, .int .i64 0, .int .i64 0, .bool false, .bool false, .int .i64 0, .int .i64 0, .int .i64 0, .bool false, .bool false, .int .i64 0, .int .i64 0, .int .i64 0, .bool false, .bool false, .int .i64 0, .int .i64 0, .int .i64 0, .bool false, .bool false, .int .i64 0, .int .i64 0, .int .i64 0, .bool false, .bool false, .int .i64 0, .int .i64 0, .int .i64 0, .bool false, .bool false, .int .i64 0, .int .i64 0, .int .i64 0, .bool false, .bool false, .int .i64 0, .int .i64 0, .int .i64 0, .bool false, .bool false, .int .i64 0, .int .i64 0, .int .i64 0, .bool false, .bool false, .int .i64 0, .int .i64 0, .int .i64 0, .bool false, .bool false, .int .i64 0, .int .i64 0, .int .i64 0, .bool false, .bool false, .int .i64 0, .int .i64 0, .int .i64 0, .bool false, .bool false, .int .i64 0, .int .i64 0, .int .i64 0, .bool false, .bool false, .int .i64 0, .int .i64 0, .int .i64 0, .bool false, .bool false, .int .i64 0, .int .i64 0, .int .i64 0, .bool false, .bool false, .int .i64 0, .int .i64 0, .int .i64 0, .bool false, .bool false, .int .i64 0, .int .i64 0, .int .i64 0, .bool false, .bool false, .int .i64 0, .int .i64 0, .int .i64 0, .bool false, .bool false, .int .i64 0, .int .i64 0, .int .i64 0, .bool false, .bool false, .int .i64 0, .int .i64 0, .int .i64 0, .bool false, .bool false, .int .i64 0, .int .i64 0, .int .i64 0, .bool false, .bool false, .int .i64 0, .int .i64 0, .int .i64 0, .bool false, .bool false, .int .i64 0, .int .i64 0, .int .i64 0, .bool false, .bool false, .int .i64 0, .int .i64 0, .int .i64 0, .bool false, .bool false, .int .i64 0, .int .i64 0, .int .i64 0, .bool false, .bool false, .int .i64 0, .int .i64 0, .int .i64 0, .bool false, .bool false, .int .i64 0, .int .i64 0, .int .i64 0, .bool false, .bool false, .int .i64 0, .int .i64 0, .int .i64 0, .bool false, .bool false, .int .i64 0, .int .i64 0, .int .i64 0, .bool false, .bool false, .int .i64 0, .int .i64 0, .int .i64 0, .bool false, .bool false, .int .i64 0, .int .i64 0, .int .i64 0, .bool false, .bool false, .int .i64 0, .int .i64 0, .int .i64 0, .bool false, .bool false, .int .i64 0, .int .i64 0, .int .i64 0, .bool false, .bool false, .int .i64 0, .int .i64 0, .int .i64 0, .bool false, .bool false, .int .i64 0, .int .i64 0, .int .i64 0, .bool false, .bool false, .int .i64 0, .int .i64 0, .int .i64 0, .bool false, .bool false, .int .i64 0, .int .i64 0, .int .i64 0, .bool false, .bool false, .int .i64 0, .int .i64 0, .int .i64 0, .bool false, .bool false, .int .i64 0, .int .i64 0, .int .i64 0, .bool false, .bool false, .int .i64 0, .int .i64 0, .int .i64 0, .bool false, .bool false, .int .i64 0, .int .i64 0, .int .i64 0, .bool false, .bool false, .int .i64 0, .int .i64 0, .int .i64 0, .bool false, .bool false, .int .i64 0, .int .i64 0, .int .i64 0, .bool false, .bool false, .int .i64 0, .int .i64 0, .int .i64 0, .bool false, .bool false, .int .i64 0, .int .i64 0, .int .i64 0, .bool false, .bool false, .int .i64 0, .int .i64 0, .int .i64 0, .bool false, .bool false, .int .i64 0, .int .i64 0, .int .i64 0, .bool false, .bool false, .int .i64 0, .int .i64 0, .int .i64 0, .bool false, .bool false, .int .i64 0, .int .i64 0, .int .i64 0, .bool false, .bool false, .int .i64 0, .int .i64 0, .int .i64 0, .bool false, .bool false, .int .i64 0, .int .i64 0, .int .i64 0, .bool false, .bool false, .int .i64 0, .int .i64 0, .int .i64 0, .bool false, .bool false, .int .i64 0, .int .i64 0, .int .i64 0, .bool false, .bool false, .int .i64 0, .int .i64 0, .int .i64 0, .bool false, .bool false, .int .i64 0, .int .i64 0, .int .i64 0, .bool false, .bool false, .int .i64 0, .int .i64 0, .int .i64 0, .bool false, .bool false, .int .i64 0, .int .i64 0, .int .i64 0, .bool false, .bool false, .int .i64 0, .int .i64 0, .int .i64 0, .bool false, .bool false, .int .i64 0, .int .i64 0, .int .i64 0, .bool false, .bool false, .int .i64 0, .int .i64 0, .int .i64 0, .bool false, .bool false, .int .i64 0, .int .i64 0, .int .i64 0, .bool false, .bool false, .int .i64 0, .int .i64 0, .int .i64 0, .bool false, .bool false, .int .i64 0, .int .i64 0, .int .i64 0, .bool false, .bool false, .int .i64 0, .int .i64 0, .int .i64 0, .bool false, .bool false, .int .i64 0, .int .i64 0, .int .i64 0, .bool false, .bool false, .int .i64 0, .int .i64 0, .int .i64 0, .bool false, .bool false, .int .i64 0, .int .i64 0, .int .i64 0, .bool false, .bool false, .int .i64 0, .int .i64 0, .int .i64 0, .bool false, .bool false, .int .i64 0, .int .i64 0, .int .i64 0, .bool false, .bool false, .int .i64 0, .int .i64 0, .int .i64 0, .bool false, .bool false, .int .i64 0, .int .i64 0, .int .i64 0, .bool false, .bool false, .int .i64 0, .int .i64 0, .int .i64 0, .bool false, .bool false, .int .i64 0, .int .i64 0, .int .i64 0, .bool false, .bool false, .int .i64 0, .int .i64 0, .int .i64 0, .bool false, .bool false, .int .i64 0, .int .i64 0, .int .i64 0, .bool false, .bool false, .int .i64 0, .int .i64 0, .int .i64 0, .bool false, .bool false, .int .i64 0, .int .i64 0, .int .i64 0, .bool false, .bool false, .int .i64 0, .int .i64 0, .int .i64 0, .bool false, .bool false, .int .i64 0, .int .i64 0, .int .i64 0, .bool false, .bool false, .int .i64 0, .int .i64 0, .int .i64 0, .bool false, .bool false, .int .i64 0, .int .i64 0, .int .i64 0, .bool false, .bool false, .int .i64 0, .int .i64 0, .int .i64 0, .bool false, .bool false, .int .i64 0, .int .i64 0, .int .i64 0, .bool false, .bool false, .int .i64 0, .int .i64 0, .int .i64 0, .bool false, .bool false, .int .i64 0, .int .i64 0, .int .i64 0, .bool false, .bool false, .int .i64 0, .int .i64 0, .int .i64 0, .bool false, .bool false, .int .i64 0, .int .i64 0, .int .i64 0, .bool false, .bool false, .int .i64 0, .int .i64 0, .int .i64 0, .bool false, .bool false, .int .i64 0, .int .i64 0, .int .i64 0, .bool false, .bool false, .int .i64 0, .int .i64 0, .int .i64 0, .bool false, .bool false, .int .i64 0, .int .i64 0, .int .i64 0, .bool false, .bool false, .int .i64 0, .int .i64 0, .int .i64 0, .bool false, .bool false, .int .i64 0, .int .i64 0, .int .i64 0, .bool false, .bool false, .int .i64 0, .int .i64 0, .int .i64 0, .bool false, .bool false, .int .i64 0, .int .i64 0, .int .i64 0, .bool false, .bool false, .int .i64 0, .int .i64 0, .int .i64 0, .bool false, .bool false, .int .i64 0, .int .i64 0, .int .i64 0, .bool false, .bool false, .int .i64 0, .int .i64 0, .int .i64 0, .bool false, .bool false, .int .i64 0, .int .i64 0, .int .i64 0, .bool false, .bool false, .int .i64 0, .int .i64 0, .int .i64 0, .bool false, .bool false, .int .i64 0, .int .i64 0, .int .i64 0, .bool false, .bool false, .int .i64 0, .int .i64 0, .int .i64 0, .bool false, .bool false, .int .i64 0, .int .i64 0, .int .i64 0, .bool false, .bool false, .int .i64 0, .int .i64 0, .int .i64 0, .bool false, .bool false, .int .i64 0, .int .i64 0, .int .i64 0, .bool false, .bool false, .int .i64 0, .int .i64 0, .int .i64 0, .bool false, .bool false, .int .i64 0, .int .i64 0, .int .i64 0, .bool false, .bool false, .int .i64 0, .int .i64 0, .int .i64 0, .bool false, .bool false, .int .i64 0, .int .i64 0, .int .i64 0, .bool false, .bool false, .int .i64 0, .int .i64 0, .int .i64 0, .bool false, .bool false, .int .i64 0, .int .i64 0, .int .i64 0, .bool false, .bool false, .int .i64 0, .int .i64 0, .int .i64 0, .bool false, .bool false, .int .i64 0, .int .i64 0, .int .i64 0, .bool false, .bool false, .int .i64 0, .int .i64 0, .int .i64 0, .bool false, .bool false, .int .i64 0, .int .i64 0, .int .i64 0, .bool false, .bool false, .int .i64 0, .int .i64 0, .int .i64 0, .bool false, .bool false, .int .i64 0] []⟩, ⟨some 17, none, .boxm (.t 16)⟩, ⟨some 7, none, .mv (.t 17)⟩])
  (.seq (.seq (.reg [⟨some 8, none, .mv (.c (.int .i64 1))⟩])
  (.block 0 (.loop (.seq (.seq (.reg [⟨some 18, none, .mv (.t 8)⟩, ⟨some 19, none, .mv (.t 0)⟩, ⟨some 20, none, .bin 0 .leq (.t 18) (.t 19)⟩])
  (.cond (.t 20) (.skip) (.exit 0)))
  (.seq (.block 1 (.seq (.reg [⟨some 9, none, .mv (.c (.int .i64 1))⟩])
  (.block 2 (.loop (.seq (.seq (.reg [⟨some 23, none, .mv (.t 9)⟩, ⟨some 24, none, .mv (.t 1)⟩, ⟨some 25, none, .bin 0 .leq (.t 23) (.t 24)⟩])
  (.cond (.t 25) (.skip) (.exit 2)))
  (.seq (.block 3 (.seq (.reg [⟨some 28, none, .mv (.t 7)⟩, ⟨some 29, none, .mv (.t 8)⟩, ⟨some 30, none, .mv (.t 9)⟩, ⟨some 31, none, .nilchk (.t 28)⟩, ⟨some 32, none, .iaddrA 13 true 65 (.t 31) (.t 29)⟩, ⟨some 33, none, .iaddrA 13 true 5 (.t 32) (.t 30)⟩, ⟨some 10, none, .alloc [.nilptr]⟩, ⟨none, none, .store 1 (.t 10) (.t 33)⟩])
  (.seq (.seq (.reg [⟨some 35, none, .mv (.t 8)⟩, ⟨some 36, none, .mv (.t 9)⟩, ⟨some 37, none, .mv (.t 2)⟩, ⟨some 38, none, .pcall 94 [.t 35, .t 36, .t 37]⟩, ⟨some 34, none, .mv (.t 38)⟩, ⟨some 39, none, .extract (.t 34) 0⟩, ⟨some 40, none, .extract (.t 34) 1⟩, ⟨some 11, none, .mv (.t 39)⟩, ⟨some 12, none, .mv (.t 40)⟩])
  (.seq (.reg [⟨some 41, none, .mv (.t 11)⟩, ⟨some 42, none, .bin 0 .gtr (.t 41) (.c (.int .i64 0))⟩])
  (.cond (.t 42) (.reg [⟨some 43, none, .load false 1 (.t 10)⟩, ⟨some 44, none, .mv (.t 11)⟩, ⟨some 45, none, .build [.int .i64 0, .int .i64 0, .bool false, .bool false, .int .i64 0] [(0, 1, (.t 44)), (1, 1, (.c (.int .i64 1))), (2, 1, (.c (.bool true)))]⟩, ⟨some 46, none, .nilchk (.t 43)⟩, ⟨none, none, .store 5 (.t 46) (.t 45)⟩]) (.skip))))
  (.seq (.reg [⟨some 47, none, .mkfn (.func 95) [] [.t 10]⟩, ⟨some 13, none, .mv (.t 47)⟩])
  (.seq (.seq (.reg [⟨some 14, none, .mv (.c (.int .i64 1))⟩])
  (.block 4 (.loop (.seq (.seq (.reg [⟨some 48, none, .mv (.t 14)⟩, ⟨some 49, none, .mv (.t 8)⟩, ⟨some 50, none, .bin 0 .lss (.t 48) (.t 49)⟩])
  (.cond (.t 50) (.skip) (.exit 4)))
  (.seq (.block 5 (.regl [⟨some 53, none, .mv (.t 13)⟩, ⟨some 54, none, .mv (.t 7)⟩, ⟨some 55, none, .mv (.t 14)⟩, ⟨some 56, none, .mv (.t 9)⟩, ⟨some 57, none, .nilchk (.t 54)⟩, ⟨some 58, none, .iaddrA 13 true 65 (.t 57) (.t 55)⟩, ⟨some 59, none, .iaddrA 13 true 5 (.t 58) (.t 56)⟩, ⟨some 60, none, .load true 5 (.t 59)⟩, ⟨some 61, none, .mv (.t 7)⟩, ⟨some 62, none, .mv (.t 8)⟩, ⟨some 63, none, .mv (.t 14)⟩, ⟨some 64, none, .bin 0 .sub (.t 62) (.t 63)⟩, ⟨some 65, none, .mv (.t 9)⟩, ⟨some 66, none, .nilchk (.t 61)⟩, ⟨some 67, none, .iaddrA 13 true 65 (.t 66) (.t 64)⟩, ⟨some 68, none, .iaddrA 13 true 5 (.t 67) (.t 65)⟩, ⟨some 69, none, .load true 5 (.t 68)⟩, ⟨some 70, none, .mv (.t 14)⟩, ⟨some 71, none, .build [.bool false, .int .i64 0] [(0, 1, (.c (.bool true))), (1, 1, (.t 70))]⟩, ⟨some 72, none, .callv (.t 53) [.t 60, .t 69, .t 71]⟩]))
  (.reg [⟨some 51, none, .mv (.t 14)⟩, ⟨some 52, none, .bin 0 .add (.t 51) (.c (.int .i64 1))⟩, ⟨some 14, none, .mv (.t 52)⟩]))))))
  (.seq (.reg [⟨some 15, none, .mv (.c (.int .i64 1))⟩])
  (.block 6 (.loop (.seq (.seq (.reg [⟨some 73, none, .mv (.t 15)⟩, ⟨some 74, none, .mv (.t 9)⟩, ⟨some 75, none, .bin 0 .lss (.t 73) (.t 74)⟩])
  (.cond (.t 75) (.skip) (.exit 6)))
  (.seq (.block 7 (.regl [⟨some 78, none, .mv (.t 13)⟩, ⟨some 79, none, .mv (.t 7)⟩, ⟨some 80, none, .mv (.t 8)⟩, ⟨some 81, none, .mv (.t 15)⟩, ⟨some 82, none, .nilchk (.t 79)⟩, ⟨some 83, none, .iaddrA 13 true 65 (.t 82) (.t 80)⟩, ⟨some 84, none, .iaddrA 13 true 5 (.t 83) (.t 81)⟩, ⟨some 85, none, .load true 5 (.t 84)⟩, ⟨some 86, none, .mv (.t 7)⟩, ⟨some 87, none, .mv (.t 8)⟩, ⟨some 88, none, .mv (.t 9)⟩, ⟨some 89, none, .mv (.t 15)⟩, ⟨some 90, none, .bin 0 .sub (.t 88) (.t 89)⟩, ⟨some 91, none, .nilchk (.t 86)⟩, ⟨some 92, none, .iaddrA 13 true 65 (.t 91) (.t 87)⟩, ⟨some 93, none, .iaddrA 13 true 5 (.t 92) (.t 90)⟩, ⟨some 94, none, .load true 5 (.t 93)⟩, ⟨some 95, none, .mv (.t 15)⟩, ⟨some 96, none, .build [.bool false, .int .i64 0] [(0, 1, (.c (.bool false))), (1, 1, (.t 95))]⟩, ⟨some 97, none, .callv (.t 78) [.t 85, .t 94, .t 96]⟩]))
  (.reg [⟨some 76, none, .mv (.t 15)⟩, ⟨some 77, none, .bin 0 .add (.t 76) (.c (.int .i64 1))⟩, ⟨some 15, none, .mv (.t 77)⟩])))))))))))
  (.reg [⟨some 26, none, .mv (.t 9)⟩, ⟨some 27, none, .bin 0 .add (.t 26) (.c (.int .i64 1))⟩, ⟨some 9, none, .mv (.t 27)⟩])))))))
  (.reg [⟨some 21, none, .mv (.t 8)⟩, ⟨some 22, none, .bin 0 .add (.t 21) (.c (.int .i64 1))⟩, ⟨some 8, none, .mv (.t 22)⟩]))))))
  (.seq (.reg [⟨some 98, none, .mv (.t 7)⟩, ⟨some 6, none, .mv (.t 98)⟩])
  (.ret))))
def R42 : List ARes := [.t 6]
theorem ok42 : FnOk Tryz.prog 42 [17] pureFns A42 R42 99 := ⟨⟨Tryz.f42, _, Tryz.func42, rfl, rfl, by kernel_rfl, by kernel_rfl⟩, by kernel_rfl⟩
def A75 : ACode := .seq (.reg [⟨some 6, none, .mv (.c (.bool false))⟩])
  (.seq (.reg [⟨some 7, none, .mv (.t 0)⟩, ⟨some 8, none, .mv (.t 1)⟩, ⟨some 9, none, .bin 0 .leq (.t 7) (.t 8)⟩, ⟨some 10, none, .mv (.t 9)⟩, ⟨some 11, some (10, true), .mv (.t 1)⟩, ⟨some 12, some (10, true), .mv (.t 2)⟩, ⟨some 13, some (10, true), .bin 0 .leq (.t 11) (.t 12)⟩, ⟨some 14, none, .pick (.t 10) (.t 13) (.c (.bool false))⟩, ⟨some 6, none, .mv (.t 14)⟩])
  (.ret))
def R75 : List ARes := [.t 6]
theorem ok75 : FnOk Tryz.prog 75 [] pureFns A75 R75 15 := ⟨⟨Tryz.f75, _, Tryz.func75, rfl, rfl, by kernel_rfl, by kernel_rfl⟩, by kernel_rfl⟩
def A93 : ACode := .seq (.reg [⟨some 2, none, .mv (.c (.int .i64 0))⟩])
  (.seq (.block 0 (.seq (.reg [⟨some 4, none, .mv (.t 0)⟩, ⟨some 5, none, .len false (.t 4)⟩, ⟨some 6, none, .bin 0 .eql (.t 5) (.c (.int .i64 0))⟩, ⟨some 3, none, .mv (.t 6)⟩])
  (.cond (.t 3) (.seq (.reg [⟨some 2, none, .mv (.c (.int .i64 1))⟩])
  (.ret)) (.seq (.reg [⟨some 8, none, .mv (.t 0)⟩, ⟨some 9, none, .len false (.t 8)⟩, ⟨some 10, none, .bin 0 .gtr (.t 9) (.c (.int .i64 6))⟩, ⟨some 7, none, .mv (.t 10)⟩])
  (.cond (.t 7) (.seq (.reg [⟨some 2, none, .mv (.c (.int .i64 2))⟩])
  (.ret)) (.seq (.reg [⟨some 12, none, .mv (.t 0)⟩, ⟨some 13, none, .pcall 133 [.t 12, .c (.fn (.func 134) [] [])]⟩, ⟨some 11, none, .mv (.t 13)⟩])
  (.cond (.t 11) (.seq (.reg [⟨some 2, none, .mv (.c (.int .i64 3))⟩])
  (.ret)) (.skip))))))))
  (.seq (.reg [⟨some 2, none, .mv (.c (.int .i64 0))⟩])
  (.ret)))
def R93 : List ARes := [.t 2]
theorem ok93 : FnOk Tryz.prog 93 [] pureFns A93 R93 14 := ⟨⟨Tryz.f93, _, Tryz.func93, rfl, rfl, by kernel_rfl, by kernel_rfl⟩, by kernel_rfl⟩
def A94 : ACode := .seq (.reg [⟨some 6, none, .mv (.c (.int .i64 0))⟩, ⟨some 7, none, .mv (.c (.bool false))⟩])
  (.seq (.reg [⟨some 8, none, .mv (.c (.int .i64 0))⟩, ⟨some 9, none, .mv (.c (.bool false))⟩])
  (.seq (.seq (.reg [⟨some 12, none, .mv (.t 2)⟩, ⟨some 13, none, .len false (.t 12)⟩, ⟨some 14, none, .mv (.c (.int .i64 0))⟩])
  (.block 0 (.loop (.seq (.reg [⟨some 15, none, .bin 0 .lss (.t 14) (.t 13)⟩])
  (.seq (.cond (.t 15) (.skip) (.exit 0))
  (.seq (.block 1 (.seq (.reg [⟨some 16, none, .iaddrS 3 (.t 12) (.t 14)⟩, ⟨some 17, none, .load true 3 (.t 16)⟩, ⟨some 11, none, .alloc [.int .i64 0, .int .i64 0, .int .i64 0]⟩, ⟨none, none, .store 3 (.t 11) (.t 17)⟩])
  (.seq (.reg [⟨some 18, none, .faddr false 1 0 (.t 11)⟩, ⟨some 19, none, .load false 1 (.t 18)⟩, ⟨some 20, none, .mv (.t 0)⟩, ⟨some 21, none, .bin 0 .eql (.t 19) (.t 20)⟩, ⟨some 22, none, .mv (.t 21)⟩, ⟨some 23, some (22, true), .faddr false 1 1 (.t 11)⟩, ⟨some 24, some (22, true), .load false 1 (.t 23)⟩, ⟨some 25, some (22, true), .mv (.t 1)⟩, ⟨some 26, some (22, true), .bin 0 .eql (.t 24) (.t 25)⟩, ⟨some 27, none, .pick (.t 22) (.t 26) (.c (.bool false))⟩])
  (.cond (.t 27) (.reg [⟨some 28, none, .mv (.t 8)⟩, ⟨some 29, none, .faddr false 1 2 (.t 11)⟩, ⟨some 30, none, .load false 1 (.t 29)⟩, ⟨some 31, none, .max (.t 28) (.t 30)⟩, ⟨some 8, none, .mv (.t 31)⟩, ⟨some 9, none, .mv (.c (.bool true))⟩]) (.skip)))))
  (.reg [⟨some 32, none, .bin 0 .add (.t 14) (.c (.int .i64 1))⟩, ⟨some 14, none, .mv (.t 32)⟩])))))))
  (.seq (.reg [⟨some 33, none, .mv (.t 8)⟩, ⟨some 34, none, .mv (.t 9)⟩, ⟨some 6, none, .mv (.t 33)⟩, ⟨some 7, none, .mv (.t 34)⟩])
  (.ret))))
def R94 : List ARes := [.t 6, .t 7]
theorem ok94 : FnOk Tryz.prog 94 [] pureFns A94 R94 35 := ⟨⟨Tryz.f94, _, Tryz.func94, rfl, rfl, by kernel_rfl, by kernel_rfl⟩, by kernel_rfl⟩
def A95 : ACode := .seq (.reg [⟨some 4, none, .boxi (.t 0)⟩, ⟨some 5, none, .boxi (.t 1)⟩, ⟨some 6, none, .boxi (.t 2)⟩])
  (.seq (.reg [⟨some 8, none, .faddr false 1 0 (.t 4)⟩, ⟨some 9, none, .load false 1 (.t 8)⟩, ⟨some 10, none, .faddr false 1 0 (.t 5)⟩, ⟨some 11, none, .load false 1 (.t 10)⟩, ⟨some 12, none, .bin 0 .add (.t 9) (.t 11)⟩, ⟨some 13, none, .faddr false 1 1 (.t 4)⟩, ⟨some 14, none, .load false 1 (.t 13)⟩, ⟨some 15, none, .faddr false 1 1 (.t 5)⟩, ⟨some 16, none, .load false 1 (.t 15)⟩, ⟨some 17, none, .bin 0 .add (.t 14) (.t 16)⟩, ⟨some 18, none, .load true 2 (.t 6)⟩, ⟨some 19, none, .build [.int .i64 0, .int .i64 0, .bool false, .bool false, .int .i64 0] [(0, 1, (.t 12)), (1, 1, (.t 17)), (3, 2, (.t 18))]⟩, ⟨some 7, none, .alloc [.int .i64 0, .int .i64 0, .bool false, .bool false, .int .i64 0]⟩, ⟨none, none, .store 5 (.t 7) (.t 19)⟩])
  (.seq (.regd [⟨some 20, none, .load true 5 (.t 7)⟩, ⟨some 21, none, .load false 1 (.t 3)⟩, ⟨some 22, none, .nilchk (.t 21)⟩, ⟨some 23, none, .load true 5 (.t 22)⟩, ⟨some 24, none, .pcall 96 [.t 20, .t 23]⟩])
  (.cond (.t 24) (.reg [⟨some 25, none, .load false 1 (.t 3)⟩, ⟨some 26, none, .load true 5 (.t 7)⟩, ⟨some 27, none, .nilchk (.t 25)⟩, ⟨none, none, .store 5 (.t 27) (.t 26)⟩]) (.skip))))
def R95 : List ARes := []
theorem ok95 : FnOk Tryz.prog 95 [] pureFns A95 R95 28 := ⟨⟨Tryz.f95, _, Tryz.func95, rfl, rfl, by kernel_rfl, by kernel_rfl⟩, by kernel_rfl⟩
def A96 : ACode := .seq (.reg [⟨some 2, none, .boxi (.t 0)⟩, ⟨some 3, none, .boxi (.t 1)⟩, ⟨some 4, none, .mv (.c (.bool false))⟩])
  (.seq (.reg [⟨some 5, none, .faddr false 1 0 (.t 2)⟩, ⟨some 6, none, .load false 1 (.t 5)⟩, ⟨some 7, none, .faddr false 1 0 (.t 3)⟩, ⟨some 8, none, .load false 1 (.t 7)⟩, ⟨some 9, none, .bin 0 .gtr (.t 6) (.t 8)⟩, ⟨some 10, none, .mv (.t 9)⟩, ⟨some 11, some (10, false), .faddr false 1 0 (.t 2)⟩, ⟨some 12, some (10, false), .load false 1 (.t 11)⟩, ⟨some 13, some (10, false), .faddr false 1 0 (.t 3)⟩, ⟨some 14, some (10, false), .load false 1 (.t 13)⟩, ⟨some 15, some (10, false), .bin 0 .eql (.t 12) (.t 14)⟩, ⟨some 16, some (10, false), .mv (.t 15)⟩, ⟨some 17, some (16, true), .faddr false 1 1 (.t 2)⟩, ⟨some 18, some (16, true), .load false 1 (.t 17)⟩, ⟨some 19, some (16, true), .faddr false 1 1 (.t 3)⟩, ⟨some 20, some (16, true), .load false 1 (.t 19)⟩, ⟨some 21, some (16, true), .bin 0 .lss (.t 18) (.t 20)⟩, ⟨some 22, some (10, false), .pick (.t 16) (.t 21) (.c (.bool false))⟩, ⟨some 23, none, .pick (.t 10) (.c (.bool true)) (.t 22)⟩, ⟨some 4, none, .mv (.t 23)⟩])
  (.ret))
def R96 : List ARes := [.t 4]
theorem ok96 : FnOk Tryz.prog 96 [] pureFns A96 R96 24 := ⟨⟨Tryz.f96, _, Tryz.func96, rfl, rfl, by kernel_rfl, by kernel_rfl⟩, by kernel_rfl⟩
def A133 : ACode := .seq (.reg [⟨some 4, none, .mv (.c (.bool false))⟩])
  (.seq (.reg [⟨some 5, none, .mv (.t 0)⟩, ⟨some 6, none, .mv (.t 1)⟩, ⟨some 7, none, .pcall 154 [.t 5, .t 6]⟩, ⟨some 8, none, .bin 0 .geq (.t 7) (.c (.int .i64 0))⟩, ⟨some 4, none, .mv (.t 8)⟩])
  (.ret))
def R133 : List ARes := [.t 4]
theorem ok133 : FnOk Tryz.prog 133 [] pureFns A133 R133 9 := ⟨⟨Tryz.f133, _, Tryz.func133, rfl, rfl, by kernel_rfl, by kernel_rfl⟩, by kernel_rfl⟩
def A134 : ACode := .seq (.reg [⟨some 1, none, .boxi (.t 0)⟩, ⟨some 2, none, .mv (.c (.bool false))⟩])
  (.seq (.reg [⟨some 3, none, .faddr false 1 0 (.t 1)⟩, ⟨some 4, none, .load false 1 (.t 3)⟩, ⟨some 5, none, .pcall 75 [.c (.int .i64 1), .t 4, .c (.int .i64 12)]⟩, ⟨some 6, none, .un .not (.t 5)⟩, ⟨some 7, none, .mv (.t 6)⟩, ⟨some 8, some (7, false), .faddr false 1 1 (.t 1)⟩, ⟨some 9, some (7, false), .load false 1 (.t 8)⟩, ⟨some 10, some (7, false), .pcall 75 [.c (.int .i64 1), .t 9, .c (.int .i64 12)]⟩, ⟨some 11, some (7, false), .un .not (.t 10)⟩, ⟨some 12, none, .pick (.t 7) (.c (.bool true)) (.t 11)⟩, ⟨some 13, none, .mv (.t 12)⟩, ⟨some 14, some (13, false), .faddr false 1 2 (.t 1)⟩, ⟨some 15, some (13, false), .load false 1 (.t 14)⟩, ⟨some 16, some (13, false), .pcall 75 [.c (.int .i64 0), .t 15, .c (.int .i64 1000)]⟩, ⟨some 17, some (13, false), .un .not (.t 16)⟩, ⟨some 18, none, .pick (.t 13) (.c (.bool true)) (.t 17)⟩, ⟨some 2, none, .mv (.t 18)⟩])
  (.ret))
def R134 : List ARes := [.t 2]
theorem ok134 : FnOk Tryz.prog 134 [] pureFns A134 R134 19 := ⟨⟨Tryz.f134, _, Tryz.func134, rfl, rfl, by kernel_rfl, by kernel_rfl⟩, by kernel_rfl⟩
def A154 : ACode := .seq (.reg [⟨some 4, none, .mv (.c (.int .i64 0))⟩])
  (.seq (.seq (.reg [⟨some 6, none, .mv (.t 0)⟩, ⟨some 7, none, .len false (.t 6)⟩, ⟨some 8, none, .mv (.c (.int .i64 0))⟩])
  (.block 0 (.loop (.seq (.reg [⟨some 9, none, .bin 0 .lss (.t 8) (.t 7)⟩])
  (.seq (.cond (.t 9) (.skip) (.exit 0))
  (.seq (.block 1 (.seq (.reg [⟨some 10, none, .mv (.t 8)⟩, ⟨some 5, none, .mv (.t 10)⟩])
  (.seq (.reg [⟨some 11, none, .mv (.t 1)⟩, ⟨some 12, none, .mv (.t 0)⟩, ⟨some 13, none, .mv (.t 5)⟩, ⟨some 14, none, .iaddrS 3 (.t 12) (.t 13)⟩, ⟨some 15, none, .load true 3 (.t 14)⟩, ⟨some 16, none, .callv (.t 11) [.t 15]⟩])
  (.cond (.t 16) (.seq (.reg [⟨some 17, none, .mv (.t 5)⟩, ⟨some 4, none, .mv (.t 17)⟩])
  (.ret)) (.skip)))))
  (.reg [⟨some 18, none, .bin 0 .add (.t 8) (.c (.int .i64 1))⟩, ⟨some 8, none, .mv (.t 18)⟩])))))))
  (.seq (.reg [⟨some 4, none, .mv (.c (.int .i64 (-1)))⟩])
  (.ret)))
def R154 : List ARes := [.t 4]
theorem ok154 : FnOk Tryz.prog 154 [] pureFns A154 R154 19 := ⟨⟨Tryz.f154, _, Tryz.func154, rfl, rfl, by kernel_rfl, by kernel_rfl⟩, by kernel_rfl⟩

end Go.Proofs.YtdcpkgedaflnmaaGreatDoor.Ct
namespace Go.Proofs.YtdcpkgedaflnmaaGreatDoor.Cq
open Go Fw
def pureFns : List Nat := [0,1,2,3,4,5,6,7,8,9,10,11,12,13,14,15,16,17,18,19,20,21,22,23,24,25,26,27,28,29,30,31,32,33,34,35,36,37,38,39,40,41,43,44,45,46,47,48,49,50,51,52,53,54,56,57,58,59,60,61,62,63,64,65,66,67,68,69,70,71,72,73,74,75,76,77,78,79,80,81,82,83,84,85,86,87,88,89,90,91,92,93,94,95,96,97,98,99,100,101,102,103,104,105,106,107,108,109,110,111,112,113,114,115,116,117,118,119,120,121,122,123,124,125,126,127,128,129,130,131,132,133,134,135,137,138,139,140,141,142,143,144,145,146,147,148,149,150,151,152,153,154,155,156,157,158,159,160,161,162,163,164,165,166,167,168,169,170,171,172,173,174,175,176,177,178,179,180,181,182,183,184,185,186,187,188,189,190,191,192,193,194,195,196,197,198,199,200,201,202,203,204,205,206]
def A21 : ACode := .seq (.reg [⟨some 2, none, .boxi (.t 0)⟩, ⟨some 3, none, .boxi (.t 1)⟩, ⟨some 4, none, .mv (.c (.int .i64 0))⟩])
  (.seq (.seq (.reg [⟨some 10, none, .load true 3 (.t 2)⟩, ⟨some 11, none, .pcall 31 [.t 10]⟩, ⟨some 5, none, .mv (.t 11)⟩])
  (.seq (.reg [⟨some 12, none, .mv (.t 5)⟩, ⟨some 13, none, .bin 0 .neq (.t 12) (.c (.int .i64 0))⟩])
  (.cond (.t 13) (.seq (.reg [⟨some 14, none, .mv (.t 5)⟩, ⟨some 4, none, .mv (.t 14)⟩])
  (.ret)) (.skip))))
  (.seq (.reg [⟨some 6, none, .alloc [.int .i64 0]⟩, ⟨some 7, none, .alloc [.bool false]⟩, ⟨none, none, .store 1 (.t 6) (.c (.int .i64 0))⟩, ⟨none, none, .store 1 (.t 7) (.c (.bool false))⟩])
  (.seq (.reg [⟨some 16, none, .load true 3 (.t 2)⟩, ⟨some 17, none, .mkfn (.func 56) [] [.t 6, .t 3, .t 7]⟩, ⟨some 18, none, .hcall 55 [.t 16, .t 17]⟩, ⟨some 15, none, .mv (.t 18)⟩, ⟨some 19, none, .extract (.t 15) 0⟩, ⟨some 20, none, .extract (.t 15) 1⟩, ⟨some 8, none, .alloc [.int .i64 0, .int .i64 0, .int .i64 0, .int .i64 0, .nilsl]⟩, ⟨none, none, .store 5 (.t 8) (.t 19)⟩, ⟨some 9, none, .mv (.t 20)⟩])
  (.seq (.block 0 (.seq (.reg [⟨some 22, none, .load false 1 (.t 7)⟩, ⟨some 21, none, .mv (.t 22)⟩])
  (.cond (.t 21) (.seq (.reg [⟨some 4, none, .mv (.c (.int .i64 22))⟩])
  (.ret)) (.seq (.reg [⟨some 24, none, .mv (.t 9)⟩, ⟨some 25, none, .un .not (.t 24)⟩, ⟨some 23, none, .mv (.t 25)⟩])
  (.cond (.t 23) (.seq (.reg [⟨some 4, none, .mv (.c (.int .i64 13))⟩])
  (.ret)) (.seq (.reg [⟨some 27, none, .load false 1 (.t 6)⟩, ⟨some 28, none, .load false 1 (.t 3)⟩, ⟨some 29, none, .len false (.t 28)⟩, ⟨some 30, none, .bin 0 .lss (.t 27) (.t 29)⟩, ⟨some 26, none, .mv (.t 30)⟩])
  (.cond (.t 26) (.seq (.reg [⟨some 4, none, .mv (.c (.int .i64 21))⟩])
  (.ret)) (.skip))))))))
  (.seq (.reg [⟨some 4, none, .mv (.c (.int .i64 0))⟩])
  (.ret))))))
def R21 : List ARes := [.t 4]
theorem ok21 : FnOk Tryz.prog 21 [] pureFns A21 R21 31 := ⟨⟨Tryz.f21, _, Tryz.func21, rfl, rfl, by kernel_rfl, by kernel_rfl⟩, by kernel_rfl⟩
def A30 : ACode := .seq (.reg [⟨some 1, none, .boxi (.t 0)⟩, ⟨some 2, none, .alloc [.int .i64 0, .int .i64 0, .int .i64 0, .int .i64 0]⟩, ⟨some 3, none, .mv (.c (.int .i64 0))⟩])
  (.seq (.seq (.reg [⟨some 8, none, .load true 3 (.t 1)⟩, ⟨some 9, none, .pcall 31 [.t 8]⟩, ⟨some 4, none, .mv (.t 9)⟩])
  (.seq (.reg [⟨some 10, none, .mv (.t 4)⟩, ⟨some 11, none, .bin 0 .neq (.t 10) (.c (.int .i64 0))⟩])
  (.cond (.t 11) (.seq (.reg [⟨some 12, none, .build [.int .i64 0, .int .i64 0, .int .i64 0, .int .i64 0] []⟩, ⟨some 13, none, .mv (.t 4)⟩, ⟨none, none, .store 4 (.t 2) (.t 12)⟩, ⟨some 3, none, .mv (.t 13)⟩])
  (.ret)) (.skip))))
  (.seq (.reg [⟨some 15, none, .load true 3 (.t 1)⟩, ⟨some 16, none, .pcall 54 [.t 15]⟩, ⟨some 14, none, .mv (.t 16)⟩, ⟨some 17, none, .extract (.t 14) 0⟩, ⟨some 18, none, .extract (.t 14) 1⟩, ⟨some 19, none, .extract (.t 14) 2⟩, ⟨some 6, none, .alloc [.int .i64 0, .int .i64 0, .int .i64 0, .int .i64 0, .nilsl]⟩, ⟨some 5, none, .mv (.t 17)⟩, ⟨none, none, .store 5 (.t 6) (.t 18)⟩, ⟨some 7, none, .mv (.t 19)⟩])
  (.seq (.seq (.reg [⟨some 20, none, .mv (.t 7)⟩])
  (.cond (.t 20) (.seq (.reg [⟨some 21, none, .build [.int .i64 0, .int .i64 0, .int .i64 0, .int .i64 0] []⟩, ⟨none, none, .store 4 (.t 2) (.t 21)⟩, ⟨some 3, none, .mv (.c (.int .i64 14))⟩])
  (.ret)) (.skip)))
  (.seq (.reg [⟨some 22, none, .faddr true 4 0 (.t 6)⟩, ⟨some 23, none, .load true 4 (.t 22)⟩, ⟨none, none, .store 4 (.t 2) (.t 23)⟩, ⟨some 3, none, .mv (.c (.int .i64 0))⟩])
  (.ret)))))
def R30 : List ARes := [.cell true 4 2, .t 3]
theorem ok30 : FnOk Tryz.prog 30 [] pureFns A30 R30 24 := ⟨⟨Tryz.f30, _, Tryz.func30, rfl, rfl, by kernel_rfl, by kernel_rfl⟩, by kernel_rfl⟩
def A31 : ACode := .seq (.reg [⟨some 1, none, .boxi (.t 0)⟩, ⟨some 2, none, .mv (.c (.int .i64 0))⟩])
  (.seq (.block 0 (.seq (.reg [⟨some 10, none, .faddr false 1 0 (.t 1)⟩, ⟨some 11, none, .load false 1 (.t 10)⟩, ⟨some 12, none, .pcall 75 [.c (.int .i64 1), .t 11, .c (.int .i64 12)]⟩, ⟨some 13, none, .un .not (.t 12)⟩, ⟨some 14, none, .mv (.t 13)⟩, ⟨some 15, some (14, false), .faddr false 1 1 (.t 1)⟩, ⟨some 16, some (14, false), .load false 1 (.t 15)⟩, ⟨some 17, some (14, false), .pcall 75 [.c (.int .i64 1), .t 16, .c (.int .i64 12)]⟩, ⟨some 18, some (14, false), .un .not (.t 17)⟩, ⟨some 19, none, .pick (.t 14) (.c (.bool true)) (.t 18)⟩, ⟨some 9, none, .mv (.t 19)⟩])
  (.cond (.t 9) (.seq (.reg [⟨some 2, none, .mv (.c (.int .i64 3))⟩])
  (.ret)) (.seq (.reg [⟨some 21, none, .faddr false 1 2 (.t 1)⟩, ⟨some 22, none, .load false 1 (.t 21)⟩, ⟨some 23, none, .len false (.t 22)⟩, ⟨some 24, none, .bin 0 .gtr (.t 23) (.c (.int .i64 10))⟩, ⟨some 20, none, .mv (.t 24)⟩])
  (.cond (.t 20) (.seq (.reg [⟨some 2, none, .mv (.c (.int .i64 2))⟩])
  (.ret)) (.skip))))))
  (.seq (.seq (.reg [⟨some 25, none, .faddr false 1 2 (.t 1)⟩, ⟨some 26, none, .load false 1 (.t 25)⟩, ⟨some 27, none, .len false (.t 26)⟩, ⟨some 28, none, .mv (.c (.int .i64 0))⟩])
  (.block 1 (.loop (.seq (.reg [⟨some 29, none, .bin 0 .lss (.t 28) (.t 27)⟩])
  (.seq (.cond (.t 29) (.skip) (.exit 1))
  (.seq (.block 2 (.seq (.reg [⟨some 30, none, .iaddrS 4 (.t 26) (.t 28)⟩, ⟨some 31, none, .load true 4 (.t 30)⟩, ⟨some 4, none, .alloc [.int .i64 0, .int .i64 0, .int .i64 0, .int .i64 0]⟩, ⟨none, none, .store 4 (.t 4) (.t 31)⟩])
  (.block 3 (.seq (.reg [⟨some 33, none, .faddr false 1 2 (.t 4)⟩, ⟨some 34, none, .load false 1 (.t 33)⟩, ⟨some 35, none, .bin 0 .lss (.t 34) (.c (.int .i64 1))⟩, ⟨some 36, none, .mv (.t 35)⟩, ⟨some 37, some (36, false), .faddr false 1 3 (.t 4)⟩, ⟨some 38, some (36, false), .load false 1 (.t 37)⟩, ⟨some 39, some (36, false), .bin 0 .lss (.t 38) (.c (.int .i64 1))⟩, ⟨some 40, none, .pick (.t 36) (.c (.bool true)) (.t 39)⟩, ⟨some 32, none, .mv (.t 40)⟩])
  (.cond (.t 32) (.seq (.reg [⟨some 2, none, .mv (.c (.int .i64 3))⟩])
  (.ret)) (.seq (.reg [⟨some 42, none, .faddr false 1 0 (.t 4)⟩, ⟨some 43, none, .load false 1 (.t 42)⟩, ⟨some 44, none, .faddr false 1 0 (.t 1)⟩, ⟨some 45, none, .load false 1 (.t 44)⟩, ⟨some 46, none, .pcall 75 [.c (.int .i64 0), .t 43, .t 45]⟩, ⟨some 47, none, .un .not (.t 46)⟩, ⟨some 48, none, .mv (.t 47)⟩, ⟨some 49, some (48, false), .faddr false 1 1 (.t 4)⟩, ⟨some 50, some (48, false), .load false 1 (.t 49)⟩, ⟨some 51, some (48, false), .faddr false 1 1 (.t 1)⟩, ⟨some 52, some (48, false), .load false 1 (.t 51)⟩, ⟨some 53, some (48, false), .pcall 75 [.c (.int .i64 0), .t 50, .t 52]⟩, ⟨some 54, some (48, false), .un .not (.t 53)⟩, ⟨some 55, none, .pick (.t 48) (.c (.bool true)) (.t 54)⟩, ⟨some 56, none, .mv (.t 55)⟩, ⟨some 57, some (56, false), .faddr false 1 2 (.t 4)⟩, ⟨some 58, some (56, false), .load false 1 (.t 57)⟩, ⟨some 59, some (56, false), .faddr false 1 0 (.t 1)⟩, ⟨some 60, some (56, false), .load false 1 (.t 59)⟩, ⟨some 61, some (56, false), .faddr false 1 0 (.t 4)⟩, ⟨some 62, some (56, false), .load false 1 (.t 61)⟩, ⟨some 63, some (56, false), .bin 0 .sub (.t 60) (.t 62)⟩, ⟨some 64, some (56, false), .bin 0 .gtr (.t 58) (.t 63)⟩, ⟨some 65, none, .pick (.t 56) (.c (.bool true)) (.t 64)⟩, ⟨some 66, none, .mv (.t 65)⟩, ⟨some 67, some (66, false), .faddr false 1 3 (.t 4)⟩, ⟨some 68, some (66, false), .load false 1 (.t 67)⟩, ⟨some 69, some (66, false), .faddr false 1 1 (.t 1)⟩, ⟨some 70, some (66, false), .load false 1 (.t 69)⟩, ⟨some 71, some (66, false), .faddr false 1 1 (.t 4)⟩, ⟨some 72, some (66, false), .load false 1 (.t 71)⟩, ⟨some 73, some (66, false), .bin 0 .sub (.t 70) (.t 72)⟩, ⟨some 74, some (66, false), .bin 0 .gtr (.t 68) (.t 73)⟩, ⟨some 75, none, .pick (.t 66) (.c (.bool true)) (.t 74)⟩, ⟨some 41, none, .mv (.t 75)⟩])
  (.cond (.t 41) (.seq (.reg [⟨some 2, none, .mv (.c (.int .i64 16))⟩])
  (.ret)) (.skip))))))))
  (.reg [⟨some 76, none, .bin 0 .add (.t 28) (.c (.int .i64 1))⟩, ⟨some 28, none, .mv (.t 76)⟩])))))))
  (.seq (.seq (.reg [⟨some 77, none, .faddr false 1 2 (.t 1)⟩, ⟨some 78, none, .load false 1 (.t 77)⟩, ⟨some 79, none, .len false (.t 78)⟩, ⟨some 80, none, .mv (.c (.int .i64 0))⟩])
  (.block 4 (.loop (.seq (.reg [⟨some 81, none, .bin 0 .lss (.t 80) (.t 79)⟩])
  (.seq (.cond (.t 81) (.skip) (.exit 4))
  (.seq (.block 5 (.seq (.reg [⟨some 82, none, .mv (.t 80)⟩, ⟨some 83, none, .iaddrS 4 (.t 78) (.t 80)⟩, ⟨some 84, none, .load true 4 (.t 83)⟩, ⟨some 6, none, .alloc [.int .i64 0, .int .i64 0, .int .i64 0, .int .i64 0]⟩, ⟨some 5, none, .mv (.t 82)⟩, ⟨none, none, .store 4 (.t 6) (.t 84)⟩])
  (.seq (.reg [⟨some 85, none, .faddr false 1 2 (.t 1)⟩, ⟨some 86, none, .load false 1 (.t 85)⟩, ⟨some 87, none, .mv (.t 5)⟩, ⟨some 88, none, .slice 4 (.t 86) none (some (.t 87)) none⟩, ⟨some 89, none, .len false (.t 88)⟩, ⟨some 90, none, .mv (.c (.int .i64 0))⟩])
  (.block 6 (.loop (.seq (.reg [⟨some 91, none, .bin 0 .lss (.t 90) (.t 89)⟩])
  (.seq (.cond (.t 91) (.skip) (.exit 6))
  (.seq (.block 7 (.seq (.reg [⟨some 92, none, .iaddrS 4 (.t 88) (.t 90)⟩, ⟨some 93, none, .load true 4 (.t 92)⟩, ⟨some 8, none, .alloc [.int .i64 0, .int .i64 0, .int .i64 0, .int .i64 0]⟩, ⟨none, none, .store 4 (.t 8) (.t 93)⟩])
  (.seq (.reg [⟨some 94, none, .load true 4 (.t 6)⟩, ⟨some 95, none, .load true 4 (.t 8)⟩, ⟨some 96, none, .pcall 77 [.c (.fn (.func 76) [] []), .t 94, .t 95]⟩, ⟨some 97, none, .mv (.t 96)⟩, ⟨some 98, some (97, true), .load true 4 (.t 6)⟩, ⟨some 99, some (97, true), .load true 4 (.t 8)⟩, ⟨some 100, some (97, true), .pcall 77 [.c (.fn (.func 78) [] []), .t 98, .t 99]⟩, ⟨some 101, none, .pick (.t 97) (.t 100) (.c (.bool false))⟩])
  (.cond (.t 101) (.seq (.reg [⟨some 2, none, .mv (.c (.int .i64 12))⟩])
  (.ret)) (.skip)))))
  (.reg [⟨some 102, none, .bin 0 .add (.t 90) (.c (.int .i64 1))⟩, ⟨some 90, none, .mv (.t 102)⟩])))))))))
  (.reg [⟨some 103, none, .bin 0 .add (.t 80) (.c (.int .i64 1))⟩, ⟨some 80, none, .mv (.t 103)⟩])))))))
  (.seq (.reg [⟨some 2, none, .mv (.c (.int .i64 0))⟩])
  (.ret)))))
def R31 : List ARes := [.t 2]
theorem ok31 : FnOk Tryz.prog 31 [] pureFns A31 R31 104 := ⟨⟨Tryz.f31, _, Tryz.func31, rfl, rfl, by kernel_rfl, by kernel_rfl⟩, by kernel_rfl⟩
def A54 : ACode := .seq (.reg [⟨some 1, none, .boxi (.t 0)⟩, ⟨some 2, none, .alloc [.nilsl]⟩, ⟨some 3, none, .alloc [.int .i64 0, .int .i64 0, .int .i64 0, .int .i64 0, .nilsl]⟩, ⟨some 4, none, .mv (.c (.bool false))⟩])
  (.seq (.reg [⟨some 6, none, .load true 3 (.t 1)⟩, ⟨some 7, none, .mkfn (.func 106) [] [.t 2]⟩, ⟨some 8, none, .hcall 55 [.t 6, .t 7]⟩, ⟨some 5, none, .mv (.t 8)⟩, ⟨some 9, none, .extract (.t 5) 0⟩, ⟨some 10, none, .extract (.t 5) 1⟩, ⟨none, none, .store 5 (.t 3) (.t 9)⟩, ⟨some 4, none, .mv (.t 10)⟩])
  (.seq (.rega [[], [], [], [0, 0], [1, 3, 0, 1, 3], [2, 4, 0, 1, 2, 3, 4]] [⟨some 11, none, .load false 1 (.t 2)⟩, ⟨some 12, none, .load true 5 (.t 3)⟩, ⟨some 13, none, .mv (.t 4)⟩, ⟨none, none, .store 1 (.t 2) (.t 11)⟩, ⟨none, none, .store 5 (.t 3) (.t 12)⟩, ⟨some 4, none, .mv (.t 13)⟩])
  (.ret)))
def R54 : List ARes := [.cell false 1 2, .cell true 5 3, .t 4]
theorem ok54 : FnOk Tryz.prog 54 [] pureFns A54 R54 14 := ⟨⟨Tryz.f54, _, Tryz.func54, rfl, rfl, by kernel_rfl, by kernel_rfl⟩, by kernel_rfl⟩
def A55 : ACode := .seq (.reg [⟨some 2, none, .boxi (.t 0)⟩, ⟨some 4, none, .alloc [.int .i64 0, .int .i64 0, .int .i64 0, .int .i64 0, .nilsl]⟩, ⟨some 5, none, .mv (.c (.bool false))⟩])
  (.seq (.reg [⟨some 13, none, .load true 3 (.t 2)⟩, ⟨some 14, none, .pcall 108 [.t 13]⟩, ⟨some 15, none, .mem (.litm 5) [.t 14]⟩, ⟨some 6, none, .mv (.t 15)⟩])
  (.seq (.block 0 (.loop (.seq (.seq (.reg [⟨some 16, none, .mv (.t 6)⟩, ⟨some 17, none, .len false (.t 16)⟩, ⟨some 18, none, .bin 0 .gtr (.t 17) (.c (.int .i64 0))⟩])
  (.cond (.t 18) (.skip) (.exit 0)))
  (.block 1 (.seq (.reg [⟨some 19, none, .mv (.t 6)⟩, ⟨some 20, none, .mv (.t 6)⟩, ⟨some 21, none, .len false (.t 20)⟩, ⟨some 22, none, .bin 0 .sub (.t 21) (.c (.int .i64 1))⟩, ⟨some 23, none, .iaddrS 5 (.t 19) (.t 22)⟩, ⟨some 24, none, .load true 5 (.t 23)⟩, ⟨some 7, none, .alloc [.int .i64 0, .int .i64 0, .int .i64 0, .int .i64 0, .nilsl]⟩, ⟨none, none, .store 5 (.t 7) (.t 24)⟩])
  (.seq (.reg [⟨some 25, none, .mv (.t 6)⟩, ⟨some 26, none, .mv (.t 6)⟩, ⟨some 27, none, .len false (.t 26)⟩, ⟨some 28, none, .bin 0 .sub (.t 27) (.c (.int .i64 1))⟩, ⟨some 29, none, .mem (.popm 5) [.t 25, .t 28]⟩, ⟨some 6, none, .mv (.t 29)⟩])
  (.seq (.seq (.reg [⟨some 30, none, .faddr false 1 4 (.t 7)⟩, ⟨some 31, none, .load false 1 (.t 30)⟩, ⟨some 32, none, .len false (.t 31)⟩, ⟨some 33, none, .bin 0 .lss (.t 32) (.c (.int .i64 2))⟩])
  (.cond (.t 33) (.exit 1) (.skip)))
  (.seq (.reg [⟨some 35, none, .mv (.t 1)⟩, ⟨some 36, none, .load true 5 (.t 7)⟩, ⟨some 37, none, .callv (.t 35) [.t 36]⟩, ⟨some 34, none, .mv (.t 37)⟩, ⟨some 38, none, .extract (.t 34) 0⟩, ⟨some 39, none, .extract (.t 34) 1⟩, ⟨some 8, none, .alloc [.bool false, .int .i64 0]⟩, ⟨none, none, .store 2 (.t 8) (.t 38)⟩, ⟨some 9, none, .mv (.t 39)⟩])
  (.seq (.reg [⟨some 41, none, .load true 5 (.t 7)⟩, ⟨some 42, none, .load true 2 (.t 8)⟩, ⟨some 43, none, .pcall 109 [.t 41, .t 42]⟩, ⟨some 40, none, .mv (.t 43)⟩, ⟨some 44, none, .extract (.t 40) 0⟩, ⟨some 45, none, .extract (.t 40) 1⟩, ⟨some 46, none, .extract (.t 40) 2⟩, ⟨some 10, none, .alloc [.int .i64 0, .int .i64 0, .int .i64 0, .int .i64 0, .nilsl]⟩, ⟨some 11, none, .alloc [.int .i64 0, .int .i64 0, .int .i64 0, .int .i64 0, .nilsl]⟩, ⟨none, none, .store 5 (.t 10) (.t 44)⟩, ⟨none, none, .store 5 (.t 11) (.t 45)⟩, ⟨some 12, none, .mv (.t 46)⟩])
  (.seq (.seq (.reg [⟨some 47, none, .mv (.t 9)⟩, ⟨some 48, none, .un .not (.t 47)⟩, ⟨some 49, none, .mv (.t 48)⟩, ⟨some 50, some (49, false), .mv (.t 12)⟩, ⟨some 51, some (49, false), .un .not (.t 50)⟩, ⟨some 52, none, .pick (.t 49) (.c (.bool true)) (.t 51)⟩])
  (.cond (.t 52) (.seq (.reg [⟨some 53, none, .load true 5 (.t 7)⟩, ⟨none, none, .store 5 (.t 4) (.t 53)⟩, ⟨some 5, none, .mv (.c (.bool false))⟩])
  (.ret)) (.skip)))
  (.reg [⟨some 54, none, .mv (.t 6)⟩, ⟨some 55, none, .load true 5 (.t 11)⟩, ⟨some 56, none, .load true 5 (.t 10)⟩, ⟨some 57, none, .buildSl 5 [.t 55, .t 56]⟩, ⟨some 58, none, .appm 5 (.t 54) (.t 57)⟩, ⟨some 6, none, .mv (.t 58)⟩])))))))))))
  (.seq (.reg [⟨some 59, none, .build [.int .i64 0, .int .i64 0, .int .i64 0, .int .i64 0, .nilsl] []⟩, ⟨none, none, .store 5 (.t 4) (.t 59)⟩, ⟨some 5, none, .mv (.c (.bool true))⟩])
  (.ret))))
def R55 : List ARes := [.cell true 5 4, .t 5]
theorem ok55 : FnOk Tryz.prog 55 [15, 29, 58] pureFns A55 R55 60 := ⟨⟨Tryz.f55, _, Tryz.func55, rfl, rfl, by kernel_rfl, by kernel_rfl⟩, by kernel_rfl⟩
def A56 : ACode := .seq (.reg [⟨some 4, none, .boxi (.t 0)⟩, ⟨some 5, none, .alloc [.bool false, .int .i64 0]⟩, ⟨some 6, none, .mv (.c (.bool false))⟩])
  (.seq (.seq (.reg [⟨some 7, none, .load false 1 (.t 1)⟩, ⟨some 8, none, .load false 1 (.t 2)⟩, ⟨some 9, none, .len false (.t 8)⟩, ⟨some 10, none, .bin 0 .eql (.t 7) (.t 9)⟩])
  (.cond (.t 10) (.seq (.reg [⟨none, none, .store 1 (.t 3) (.c (.bool true))⟩])
  (.seq (.reg [⟨some 11, none, .build [.bool false, .int .i64 0] []⟩, ⟨none, none, .store 2 (.t 5) (.t 11)⟩, ⟨some 6, none, .mv (.c (.bool false))⟩])
  (.ret))) (.skip)))
  (.seq (.reg [⟨some 12, none, .load false 1 (.t 1)⟩, ⟨some 13, none, .bin 0 .add (.t 12) (.c (.int .i64 1))⟩, ⟨none, none, .store 1 (.t 1) (.t 13)⟩])
  (.seq (.reg [⟨some 14, none, .load false 1 (.t 2)⟩, ⟨some 15, none, .load false 1 (.t 1)⟩, ⟨some 16, none, .bin 0 .sub (.t 15) (.c (.int .i64 1))⟩, ⟨some 17, none, .iaddrS 2 (.t 14) (.t 16)⟩, ⟨some 18, none, .load true 2 (.t 17)⟩, ⟨none, none, .store 2 (.t 5) (.t 18)⟩, ⟨some 6, none, .mv (.c (.bool true))⟩])
  (.ret))))
def R56 : List ARes := [.cell true 2 5, .t 6]
theorem ok56 : FnOk Tryz.prog 56 [] pureFns A56 R56 19 := ⟨⟨Tryz.f56, _, Tryz.func56, rfl, rfl, by kernel_rfl, by kernel_rfl⟩, by kernel_rfl⟩
def A76 : ACode := .seq (.reg [⟨some 1, none, .boxi (.t 0)⟩, ⟨some 2, none, .mv (.c (.int .i64 0))⟩, ⟨some 3, none, .mv (.c (.int .i64 0))⟩])
  (.seq (.regd [⟨some 4, none, .faddr false 1 0 (.t 1)⟩, ⟨some 5, none, .load false 1 (.t 4)⟩, ⟨some 6, none, .faddr false 1 0 (.t 1)⟩, ⟨some 7, none, .load false 1 (.t 6)⟩, ⟨some 8, none, .faddr false 1 2 (.t 1)⟩, ⟨some 9, none, .load false 1 (.t 8)⟩, ⟨some 10, none, .bin 0 .add (.t 7) (.t 9)⟩, ⟨some 2, none, .mv (.t 5)⟩, ⟨some 3, none, .mv (.t 10)⟩])
  (.ret))
def R76 : List ARes := [.t 2, .t 3]
theorem ok76 : FnOk Tryz.prog 76 [] pureFns A76 R76 11 := ⟨⟨Tryz.f76, _, Tryz.func76, rfl, rfl, by kernel_rfl, by kernel_rfl⟩, by kernel_rfl⟩
def A77 : ACode := .seq (.reg [⟨some 4, none, .boxi (.t 1)⟩, ⟨some 5, none, .boxi (.t 2)⟩, ⟨some 6, none, .mv (.c (.bool false))⟩])
  (.seq (.reg [⟨some 12, none, .mv (.t 0)⟩, ⟨some 13, none, .load true 4 (.t 4)⟩, ⟨some 14, none, .callv (.t 12) [.t 13]⟩, ⟨some 11, none, .mv (.t 14)⟩, ⟨some 15, none, .extract (.t 11) 0⟩, ⟨some 16, none, .extract (.t 11) 1⟩, ⟨some 7, none, .mv (.t 15)⟩, ⟨some 8, none, .mv (.t 16)⟩])
  (.seq (.reg [⟨some 18, none, .mv (.t 0)⟩, ⟨some 19, none, .load true 4 (.t 5)⟩, ⟨some 20, none, .callv (.t 18) [.t 19]⟩, ⟨some 17, none, .mv (.t 20)⟩, ⟨some 21, none, .extract (.t 17) 0⟩, ⟨some 22, none, .extract (.t 17) 1⟩, ⟨some 9, none, .mv (.t 21)⟩, ⟨some 10, none, .mv (.t 22)⟩])
  (.seq (.reg [⟨some 23, none, .mv (.t 7)⟩, ⟨some 24, none, .mv (.t 10)⟩, ⟨some 25, none, .bin 0 .lss (.t 23) (.t 24)⟩, ⟨some 26, none, .mv (.t 25)⟩, ⟨some 27, some (26, true), .mv (.t 9)⟩, ⟨some 28, some (26, true), .mv (.t 8)⟩, ⟨some 29, some (26, true), .bin 0 .lss (.t 27) (.t 28)⟩, ⟨some 30, none, .pick (.t 26) (.t 29) (.c (.bool false))⟩, ⟨some 6, none, .mv (.t 30)⟩])
  (.ret))))
def R77 : List ARes := [.t 6]
theorem ok77 : FnOk Tryz.prog 77 [] pureFns A77 R77 31 := ⟨⟨Tryz.f77, _, Tryz.func77, rfl, rfl, by kernel_rfl, by kernel_rfl⟩, by kernel_rfl⟩
def A78 : ACode := .seq (.reg [⟨some 1, none, .boxi (.t 0)⟩, ⟨some 2, none, .mv (.c (.int .i64 0))⟩, ⟨some 3, none, .mv (.c (.int .i64 0))⟩])
  (.seq (.regd [⟨some 4, none, .faddr false 1 1 (.t 1)⟩, ⟨some 5, none, .load false 1 (.t 4)⟩, ⟨some 6, none, .faddr false 1 1 (.t 1)⟩, ⟨some 7, none, .load false 1 (.t 6)⟩, ⟨some 8, none, .faddr false 1 3 (.t 1)⟩, ⟨some 9, none, .load false 1 (.t 8)⟩, ⟨some 10, none, .bin 0 .add (.t 7) (.t 9)⟩, ⟨some 2, none, .mv (.t 5)⟩, ⟨some 3, none, .mv (.t 10)⟩])
  (.ret))
def R78 : List ARes := [.t 2, .t 3]
theorem ok78 : FnOk Tryz.prog 78 [] pureFns A78 R78 11 := ⟨⟨Tryz.f78, _, Tryz.func78, rfl, rfl, by kernel_rfl, by kernel_rfl⟩, by kernel_rfl⟩
def A106 : ACode := .seq (.reg [⟨some 2, none, .boxi (.t 0)⟩, ⟨some 3, none, .alloc [.bool false, .int .i64 0]⟩, ⟨some 4, none, .mv (.c (.bool false))⟩])
  (.seq (.reg [⟨some 6, none, .load true 5 (.t 2)⟩, ⟨some 7, none, .pcall 107 [.t 6]⟩, ⟨some 5, none, .mv (.t 7)⟩])
  (.seq (.seq (.reg [⟨some 8, none, .mv (.t 5)⟩, ⟨some 9, none, .len false (.t 8)⟩, ⟨some 10, none, .bin 0 .eql (.t 9) (.c (.int .i64 0))⟩])
  (.cond (.t 10) (.seq (.reg [⟨some 11, none, .build [.bool false, .int .i64 0] []⟩, ⟨none, none, .store 2 (.t 3) (.t 11)⟩, ⟨some 4, none, .mv (.c (.bool false))⟩])
  (.ret)) (.skip)))
  (.seq (.regd [⟨some 12, none, .load false 1 (.t 1)⟩, ⟨some 13, none, .mv (.t 5)⟩, ⟨some 14, none, .iaddrS 2 (.t 13) (.c (.int .i64 0))⟩, ⟨some 15, none, .load true 2 (.t 14)⟩, ⟨some 16, none, .buildSl 2 [.t 15]⟩, ⟨some 17, none, .append 2 (.t 12) (.t 16)⟩, ⟨none, none, .store 1 (.t 1) (.t 17)⟩])
  (.seq (.reg [⟨some 18, none, .mv (.t 5)⟩, ⟨some 19, none, .iaddrS 2 (.t 18) (.c (.int .i64 0))⟩, ⟨some 20, none, .load true 2 (.t 19)⟩, ⟨none, none, .store 2 (.t 3) (.t 20)⟩, ⟨some 4, none, .mv (.c (.bool true))⟩])
  (.ret)))))
def R106 : List ARes := [.cell true 2 3, .t 4]
theorem ok106 : FnOk Tryz.prog 106 [] pureFns A106 R106 21 := ⟨⟨Tryz.f106, _, Tryz.func106, rfl, rfl, by kernel_rfl, by kernel_rfl⟩, by kernel_rfl⟩
def A107 : ACode := .seq (.reg [⟨some 1, none, .boxi (.t 0)⟩, ⟨some 2, none, .mv (.c (.nilsl))⟩])
  (.seq (.reg [⟨some 3, none, .mv (.c (.nilsl))⟩])
  (.seq (.seq (.reg [⟨some 10, none, .buildSl 1 [.c (.bool true), .c (.bool false)]⟩, ⟨some 11, none, .len false (.t 10)⟩, ⟨some 12, none, .mv (.c (.int .i64 0))⟩])
  (.block 0 (.loop (.seq (.reg [⟨some 13, none, .bin 0 .lss (.t 12) (.t 11)⟩])
  (.seq (.cond (.t 13) (.skip) (.exit 0))
  (.seq (.block 1 (.seq (.reg [⟨some 14, none, .iaddrS 1 (.t 10) (.t 12)⟩, ⟨some 15, none, .load false 1 (.t 14)⟩, ⟨some 5, none, .mv (.t 15)⟩])
  (.seq (.reg [⟨some 16, none, .mv (.c (.int .i64 0))⟩])
  (.block 2 (.loop (.seq (.reg [⟨some 17, none, .bin 0 .lss (.t 16) (.c (.int .i64 12))⟩])
  (.seq (.cond (.t 17) (.skip) (.exit 2))
  (.seq (.block 3 (.seq (.reg [⟨some 18, none, .mv (.t 16)⟩, ⟨some 6, none, .mv (.t 18)⟩])
  (.seq (.reg [⟨some 20, none, .load true 5 (.t 1)⟩, ⟨some 21, none, .mv (.t 5)⟩, ⟨some 22, none, .mv (.t 6)⟩, ⟨some 23, none, .build [.bool false, .int .i64 0] [(0, 1, (.t 21)), (1, 1, (.t 22))]⟩, ⟨some 24, none, .pcall 109 [.t 20, .t 23]⟩, ⟨some 19, none, .mv (.t 24)⟩, ⟨some 25, none, .extract (.t 19) 0⟩, ⟨some 26, none, .extract (.t 19) 1⟩, ⟨some 27, none, .extract (.t 19) 2⟩, ⟨some 7, none, .alloc [.int .i64 0, .int .i64 0, .int .i64 0, .int .i64 0, .nilsl]⟩, ⟨some 8, none, .alloc [.int .i64 0, .int .i64 0, .int .i64 0, .int .i64 0, .nilsl]⟩, ⟨none, none, .store 5 (.t 7) (.t 25)⟩, ⟨none, none, .store 5 (.t 8) (.t 26)⟩, ⟨some 9, none, .mv (.t 27)⟩])
  (.seq (.reg [⟨some 28, none, .mv (.t 9)⟩])
  (.cond (.t 28) (.reg [⟨some 29, none, .mv (.t 3)⟩, ⟨some 30, none, .mv (.t 5)⟩, ⟨some 31, none, .mv (.t 6)⟩, ⟨some 32, none, .build [.bool false, .int .i64 0] [(0, 1, (.t 30)), (1, 1, (.t 31))]⟩, ⟨some 33, none, .buildSl 2 [.t 32]⟩, ⟨some 34, none, .append 2 (.t 29) (.t 33)⟩, ⟨some 3, none, .mv (.t 34)⟩]) (.skip))))))
  (.reg [⟨some 35, none, .bin 0 .add (.t 16) (.c (.int .i64 1))⟩, ⟨some 16, none, .mv (.t 35)⟩])))))))))
  (.reg [⟨some 36, none, .bin 0 .add (.t 12) (.c (.int .i64 1))⟩, ⟨some 12, none, .mv (.t 36)⟩])))))))
  (.seq (.reg [⟨some 37, none, .mv (.t 3)⟩, ⟨some 2, none, .mv (.t 37)⟩])
  (.ret))))
def R107 : List ARes := [.t 2]
theorem ok107 : FnOk Tryz.prog 107 [] pureFns A107 R107 38 := ⟨⟨Tryz.f107, _, Tryz.func107, rfl, rfl, by kernel_rfl, by kernel_rfl⟩, by kernel_rfl⟩
def A108 : ACode := .seq (.reg [⟨some 1, none, .boxi (.t 0)⟩, ⟨some 2, none, .alloc [.int .i64 0, .int .i64 0, .int .i64 0, .int .i64 0, .nilsl]⟩])
  (.seq (.reg [⟨some 3, none, .faddr false 1 0 (.t 1)⟩, ⟨some 4, none, .load false 1 (.t 3)⟩, ⟨some 5, none, .faddr false 1 1 (.t 1)⟩, ⟨some 6, none, .load false 1 (.t 5)⟩, ⟨some 7, none, .build [.int .i64 0, .int .i64 0, .int .i64 0, .int .i64 0] [(0, 1, (.c (.int .i64 0))), (1, 1, (.c (.int .i64 0))), (2, 1, (.t 4)), (3, 1, (.t 6))]⟩, ⟨some 8, none, .faddr false 1 2 (.t 1)⟩, ⟨some 9, none, .load false 1 (.t 8)⟩, ⟨some 10, none, .build [.int .i64 0, .int .i64 0, .int .i64 0, .int .i64 0, .nilsl] [(0, 4, (.t 7)), (4, 1, (.t 9))]⟩, ⟨none, none, .store 5 (.t 2) (.t 10)⟩])
  (.ret))
def R108 : List ARes := [.cell true 5 2]
theorem ok108 : FnOk Tryz.prog 108 [] pureFns A108 R108 11 := ⟨⟨Tryz.f108, _, Tryz.func108, rfl, rfl, by kernel_rfl, by kernel_rfl⟩, by kernel_rfl⟩
def A109 : ACode := .seq (.reg [⟨some 2, none, .boxi (.t 0)⟩, ⟨some 3, none, .boxi (.t 1)⟩, ⟨some 4, none, .alloc [.int .i64 0, .int .i64 0, .int .i64 0, .int .i64 0, .nilsl]⟩, ⟨some 5, none, .alloc [.int .i64 0, .int .i64 0, .int .i64 0, .int .i64 0, .nilsl]⟩, ⟨some 6, none, .mv (.c (.bool false))⟩])
  (.seq (.reg [⟨some 15, none, .load true 2 (.t 3)⟩, ⟨some 16, none, .pcall 135 [.t 15]⟩, ⟨some 7, none, .mv (.t 16)⟩])
  (.seq (.reg [⟨some 18, none, .mv (.t 7)⟩, ⟨some 19, none, .faddr true 4 0 (.t 2)⟩, ⟨some 20, none, .load true 4 (.t 19)⟩, ⟨some 21, none, .callv (.t 18) [.t 20]⟩, ⟨some 17, none, .mv (.t 21)⟩, ⟨some 22, none, .extract (.t 17) 0⟩, ⟨some 23, none, .extract (.t 17) 1⟩, ⟨some 8, none, .mv (.t 22)⟩, ⟨some 9, none, .mv (.t 23)⟩])
  (.seq (.seq (.reg [⟨some 24, none, .mv (.t 8)⟩, ⟨some 25, none, .bin 0 .add (.t 24) (.c (.int .i64 1))⟩, ⟨some 26, none, .faddr false 1 1 (.t 3)⟩, ⟨some 27, none, .load false 1 (.t 26)⟩, ⟨some 28, none, .mv (.t 9)⟩, ⟨some 29, none, .bin 0 .sub (.t 28) (.c (.int .i64 1))⟩, ⟨some 30, none, .pcall 75 [.t 25, .t 27, .t 29]⟩, ⟨some 31, none, .un .not (.t 30)⟩])
  (.cond (.t 31) (.seq (.reg [⟨some 32, none, .build [.int .i64 0, .int .i64 0, .int .i64 0, .int .i64 0, .nilsl] []⟩, ⟨some 33, none, .build [.int .i64 0, .int .i64 0, .int .i64 0, .int .i64 0, .nilsl] []⟩, ⟨none, none, .store 5 (.t 4) (.t 32)⟩, ⟨none, none, .store 5 (.t 5) (.t 33)⟩, ⟨some 6, none, .mv (.c (.bool false))⟩])
  (.ret)) (.skip)))
  (.seq (.reg [⟨some 34, none, .faddr false 1 4 (.t 2)⟩, ⟨some 35, none, .load false 1 (.t 34)⟩, ⟨some 36, none, .hcall 136 [.t 35]⟩, ⟨some 10, none, .mv (.t 36)⟩])
  (.seq (.reg [⟨some 11, none, .mv (.c (.int .i64 0))⟩])
  (.seq (.seq (.reg [⟨some 37, none, .mv (.t 10)⟩, ⟨some 38, none, .len false (.t 37)⟩, ⟨some 39, none, .mv (.c (.int .i64 0))⟩])
  (.block 0 (.loop (.seq (.reg [⟨some 40, none, .bin 0 .lss (.t 39) (.t 38)⟩])
  (.seq (.cond (.t 40) (.skip) (.exit 0))
  (.seq (.block 1 (.seq (.reg [⟨some 41, none, .mv (.t 39)⟩, ⟨some 12, none, .mv (.t 41)⟩])
  (.seq (.reg [⟨some 43, none, .mv (.t 7)⟩, ⟨some 44, none, .mv (.t 10)⟩, ⟨some 45, none, .mv (.t 12)⟩, ⟨some 46, none, .iaddrS 4 (.t 44) (.t 45)⟩, ⟨some 47, none, .load true 4 (.t 46)⟩, ⟨some 48, none, .callv (.t 43) [.t 47]⟩, ⟨some 42, none, .mv (.t 48)⟩, ⟨some 49, none, .extract (.t 42) 0⟩, ⟨some 50, none, .extract (.t 42) 1⟩, ⟨some 13, none, .mv (.t 49)⟩, ⟨some 14, none, .mv (.t 50)⟩])
  (.seq (.seq (.reg [⟨some 51, none, .mv (.t 13)⟩, ⟨some 52, none, .faddr false 1 1 (.t 3)⟩, ⟨some 53, none, .load false 1 (.t 52)⟩, ⟨some 54, none, .bin 0 .lss (.t 51) (.t 53)⟩, ⟨some 55, none, .mv (.t 54)⟩, ⟨some 56, some (55, true), .faddr false 1 1 (.t 3)⟩, ⟨some 57, some (55, true), .load false 1 (.t 56)⟩, ⟨some 58, some (55, true), .mv (.t 14)⟩, ⟨some 59, some (55, true), .bin 0 .lss (.t 57) (.t 58)⟩, ⟨some 60, none, .pick (.t 55) (.t 59) (.c (.bool false))⟩])
  (.cond (.t 60) (.seq (.reg [⟨some 61, none, .build [.int .i64 0, .int .i64 0, .int .i64 0, .int .i64 0, .nilsl] []⟩, ⟨some 62, none, .build [.int .i64 0, .int .i64 0, .int .i64 0, .int .i64 0, .nilsl] []⟩, ⟨none, none, .store 5 (.t 4) (.t 61)⟩, ⟨none, none, .store 5 (.t 5) (.t 62)⟩, ⟨some 6, none, .mv (.c (.bool false))⟩])
  (.ret)) (.skip)))
  (.seq (.reg [⟨some 63, none, .mv (.t 14)⟩, ⟨some 64, none, .faddr false 1 1 (.t 3)⟩, ⟨some 65, none, .load false 1 (.t 64)⟩, ⟨some 66, none, .bin 0 .leq (.t 63) (.t 65)⟩])
  (.cond (.t 66) (.seq (.regd [⟨some 67, none, .mv (.t 10)⟩, ⟨some 68, none, .mv (.t 12)⟩, ⟨some 69, none, .mv (.t 10)⟩, ⟨some 70, none, .mv (.t 11)⟩, ⟨some 71, none, .mv (.t 10)⟩, ⟨some 72, none, .mv (.t 11)⟩, ⟨some 73, none, .iaddrS 4 (.t 71) (.t 72)⟩, ⟨some 74, none, .load true 4 (.t 73)⟩, ⟨some 75, none, .mv (.t 10)⟩, ⟨some 76, none, .mv (.t 12)⟩, ⟨some 77, none, .iaddrS 4 (.t 75) (.t 76)⟩, ⟨some 78, none, .load true 4 (.t 77)⟩, ⟨some 79, none, .iaddrS 4 (.t 67) (.t 68)⟩, ⟨none, none, .store 4 (.t 79) (.t 74)⟩, ⟨some 80, none, .iaddrS 4 (.t 69) (.t 70)⟩, ⟨none, none, .store 4 (.t 80) (.t 78)⟩])
  (.reg [⟨some 81, none, .mv (.t 11)⟩, ⟨some 82, none, .bin 0 .add (.t 81) (.c (.int .i64 1))⟩, ⟨some 11, none, .mv (.t 82)⟩])) (.skip)))))))
  (.reg [⟨some 83, none, .bin 0 .add (.t 39) (.c (.int .i64 1))⟩, ⟨some 39, none, .mv (.t 83)⟩])))))))
  (.seq (.rega [[], [0], [], [], [], [2, 3, 4], [1, 5], [], [7], [], [], [9, 10], [8, 11], [6, 0, 1, 2, 3, 4, 5, 6], [12, 13, 0, 1, 2, 3, 4, 5, 6, 7, 8, 9, 10, 11, 12, 13]] [⟨some 84, none, .faddr true 4 0 (.t 2)⟩, ⟨some 85, none, .load true 4 (.t 84)⟩, ⟨some 86, none, .mv (.t 10)⟩, ⟨some 87, none, .mv (.t 11)⟩, ⟨some 88, none, .mv (.t 11)⟩, ⟨some 89, none, .slice 4 (.t 86) none (some (.t 87)) (some (.t 88))⟩, ⟨some 90, none, .build [.int .i64 0, .int .i64 0, .int .i64 0, .int .i64 0, .nilsl] [(0, 4, (.t 85)), (4, 1, (.t 89))]⟩, ⟨some 91, none, .faddr true 4 0 (.t 2)⟩, ⟨some 92, none, .load true 4 (.t 91)⟩, ⟨some 93, none, .mv (.t 10)⟩, ⟨some 94, none, .mv (.t 11)⟩, ⟨some 95, none, .slice 4 (.t 93) (some (.t 94)) none none⟩, ⟨some 96, none, .build [.int .i64 0, .int .i64 0, .int .i64 0, .int .i64 0, .nilsl] [(0, 4, (.t 92)), (4, 1, (.t 95))]⟩, ⟨none, none, .store 5 (.t 4) (.t 90)⟩, ⟨none, none, .store 5 (.t 5) (.t 96)⟩])
  (.seq (.seq (.reg [⟨some 97, none, .faddr false 1 0 (.t 3)⟩, ⟨some 98, none, .load false 1 (.t 97)⟩])
  (.cond (.t 98) (.rega [[], [0], [], [2], [3], [1, 4], [], [6], [], [8], [9], [], [11], [12], [10, 13], [], [15], [14, 16], [0, 1, 2, 3, 4, 5], [18, 0, 1, 2, 3, 4, 5], [19, 5, 0, 1, 2, 3, 4, 5], [0, 1, 2, 3, 4, 5, 6, 7, 18, 19, 20], [21, 0, 1, 2, 3, 4, 5, 6, 7, 18, 19, 20], [22, 7, 20, 0, 1, 2, 3, 4, 5, 6, 7, 18, 19, 20], [0, 1, 2, 3, 4, 5, 6, 7, 8, 9, 10, 11, 12, 13, 14, 15, 16, 17, 18, 19, 20, 21, 22, 23], [24, 0, 1, 2, 3, 4, 5, 6, 7, 8, 9, 10, 11, 12, 13, 14, 15, 16, 17, 18, 19, 20, 21, 22, 23], [25, 17, 23, 0, 1, 2, 3, 4, 5, 6, 7, 8, 9, 10, 11, 12, 13, 14, 15, 16, 17, 18, 19, 20, 21, 22, 23]] [⟨some 99, none, .faddr false 1 1 (.t 3)⟩, ⟨some 100, none, .load false 1 (.t 99)⟩, ⟨some 101, none, .faddr true 4 0 (.t 2)⟩, ⟨some 102, none, .faddr false 1 0 (.t 101)⟩, ⟨some 103, none, .load false 1 (.t 102)⟩, ⟨some 104, none, .bin 0 .sub (.t 100) (.t 103)⟩, ⟨some 105, none, .faddr false 1 1 (.t 3)⟩, ⟨some 106, none, .load false 1 (.t 105)⟩, ⟨some 107, none, .faddr true 4 0 (.t 2)⟩, ⟨some 108, none, .faddr false 1 0 (.t 107)⟩, ⟨some 109, none, .load false 1 (.t 108)⟩, ⟨some 110, none, .faddr true 4 0 (.t 2)⟩, ⟨some 111, none, .faddr false 1 2 (.t 110)⟩, ⟨some 112, none, .load false 1 (.t 111)⟩, ⟨some 113, none, .bin 0 .add (.t 109) (.t 112)⟩, ⟨some 114, none, .faddr false 1 1 (.t 3)⟩, ⟨some 115, none, .load false 1 (.t 114)⟩, ⟨some 116, none, .bin 0 .sub (.t 113) (.t 115)⟩, ⟨some 117, none, .faddr true 4 0 (.t 4)⟩, ⟨some 118, none, .faddr false 1 2 (.t 117)⟩, ⟨none, none, .store 1 (.t 118) (.t 104)⟩, ⟨some 119, none, .faddr true 4 0 (.t 5)⟩, ⟨some 120, none, .faddr false 1 0 (.t 119)⟩, ⟨none, none, .store 1 (.t 120) (.t 106)⟩, ⟨some 121, none, .faddr true 4 0 (.t 5)⟩, ⟨some 122, none, .faddr false 1 2 (.t 121)⟩, ⟨none, none, .store 1 (.t 122) (.t 116)⟩]) (.rega [[], [0], [], [2], [3], [1, 4], [], [6], [], [8], [9], [], [11], [12], [10, 13], [], [15], [14, 16], [0, 1, 2, 3, 4, 5], [18, 0, 1, 2, 3, 4, 5], [19, 5, 0, 1, 2, 3, 4, 5], [0, 1, 2, 3, 4, 5, 6, 7, 18, 19, 20], [21, 0, 1, 2, 3, 4, 5, 6, 7, 18, 19, 20], [22, 7, 20, 0, 1, 2, 3, 4, 5, 6, 7, 18, 19, 20], [0, 1, 2, 3, 4, 5, 6, 7, 8, 9, 10, 11, 12, 13, 14, 15, 16, 17, 18, 19, 20, 21, 22, 23], [24, 0, 1, 2, 3, 4, 5, 6, 7, 8, 9, 10, 11, 12, 13, 14, 15, 16, 17, 18, 19, 20, 21, 22, 23], [25, 17, 23, 0, 1, 2, 3, 4, 5, 6, 7, 8, 9, 10, 11, 12, 13, 14, 15, 16, 17, 18, 19, 20, 21, 22, 23]] [⟨some 123, none, .faddr false 1 1 (.t 3)⟩, ⟨some 124, none, .load false 1 (.t 123)⟩, ⟨some 125, none, .faddr true 4 0 (.t 2)⟩, ⟨some 126, none, .faddr false 1 1 (.t 125)⟩, ⟨some 127, none, .load false 1 (.t 126)⟩, ⟨some 128, none, .bin 0 .sub (.t 124) (.t 127)⟩, ⟨some 129, none, .faddr false 1 1 (.t 3)⟩, ⟨some 130, none, .load false 1 (.t 129)⟩, ⟨some 131, none, .faddr true 4 0 (.t 2)⟩, ⟨some 132, none, .faddr false 1 1 (.t 131)⟩, ⟨some 133, none, .load false 1 (.t 132)⟩, ⟨some 134, none, .faddr true 4 0 (.t 2)⟩, ⟨some 135, none, .faddr false 1 3 (.t 134)⟩, ⟨some 136, none, .load false 1 (.t 135)⟩, ⟨some 137, none, .bin 0 .add (.t 133) (.t 136)⟩, ⟨some 138, none, .faddr false 1 1 (.t 3)⟩, ⟨some 139, none, .load false 1 (.t 138)⟩, ⟨some 140, none, .bin 0 .sub (.t 137) (.t 139)⟩, ⟨some 141, none, .faddr true 4 0 (.t 4)⟩, ⟨some 142, none, .faddr false 1 3 (.t 141)⟩, ⟨none, none, .store 1 (.t 142) (.t 128)⟩, ⟨some 143, none, .faddr true 4 0 (.t 5)⟩, ⟨some 144, none, .faddr false 1 1 (.t 143)⟩, ⟨none, none, .store 1 (.t 144) (.t 130)⟩, ⟨some 145, none, .faddr true 4 0 (.t 5)⟩, ⟨some 146, none, .faddr false 1 3 (.t 145)⟩, ⟨none, none, .store 1 (.t 146) (.t 140)⟩])))
  (.seq (.rega [[], [], [], [2], [3], [4], [4], [6, 4], [5, 7, 4], [4, 8], [0, 4, 0], [1, 10, 0, 1, 10], [9, 11, 0, 1, 2, 3, 4, 5, 6, 7, 8, 9, 10, 11]] [⟨some 147, none, .load true 5 (.t 4)⟩, ⟨some 148, none, .load true 5 (.t 5)⟩, ⟨some 149, none, .mv (.t 11)⟩, ⟨some 150, none, .bin 0 .gtr (.t 149) (.c (.int .i64 0))⟩, ⟨some 151, none, .mv (.t 150)⟩, ⟨some 152, some (151, true), .mv (.t 11)⟩, ⟨some 153, some (151, true), .mv (.t 10)⟩, ⟨some 154, some (151, true), .len false (.t 153)⟩, ⟨some 155, some (151, true), .bin 0 .lss (.t 152) (.t 154)⟩, ⟨some 156, none, .pick (.t 151) (.t 155) (.c (.bool false))⟩, ⟨none, none, .store 5 (.t 4) (.t 147)⟩, ⟨none, none, .store 5 (.t 5) (.t 148)⟩, ⟨some 6, none, .mv (.t 156)⟩])
  (.ret))))))))))
def R109 : List ARes := [.cell true 5 4, .cell true 5 5, .t 6]
theorem ok109 : FnOk Tryz.prog 109 [] pureFns A109 R109 157 := ⟨⟨Tryz.f109, _, Tryz.func109, rfl, rfl, by kernel_rfl, by kernel_rfl⟩, by kernel_rfl⟩
def A135 : ACode := .seq (.reg [⟨some 1, none, .boxi (.t 0)⟩, ⟨some 2, none, .mv (.c (.nilfn))⟩])
  (.seq (.seq (.reg [⟨some 3, none, .faddr false 1 0 (.t 1)⟩, ⟨some 4, none, .load false 1 (.t 3)⟩])
  (.cond (.t 4) (.seq (.reg [⟨some 2, none, .mv (.c (.fn (.func 76) [] []))⟩])
  (.ret)) (.skip)))
  (.seq (.reg [⟨some 2, none, .mv (.c (.fn (.func 78) [] []))⟩])
  (.ret)))
def R135 : List ARes := [.t 2]
theorem ok135 : FnOk Tryz.prog 135 [] pureFns A135 R135 5 := ⟨⟨Tryz.f135, _, Tryz.func135, rfl, rfl, by kernel_rfl, by kernel_rfl⟩, by kernel_rfl⟩
def A136 : ACode := .seq (.reg [⟨some 2, none, .mv (.c (.nilsl))⟩])
  (.seq (.seq (.reg [⟨some 3, none, .mv (.t 0)⟩, ⟨some 4, none, .bin 2 .eql (.t 3) (.c (.nilsl))⟩])
  (.cond (.t 4) (.seq (.reg [⟨some 2, none, .mv (.c (.nilsl))⟩])
  (.ret)) (.skip)))
  (.seq (.reg [⟨some 5, none, .buildSl 4 []⟩, ⟨some 6, none, .mv (.t 0)⟩, ⟨some 7, none, .appm 4 (.t 5) (.t 6)⟩, ⟨some 2, none, .mv (.t 7)⟩])
  (.ret)))
def R136 : List ARes := [.t 2]
theorem ok136 : FnOk Tryz.prog 136 [7] pureFns A136 R136 8 := ⟨⟨Tryz.f136, _, Tryz.func136, rfl, rfl, by kernel_rfl, by kernel_rfl⟩, by kernel_rfl⟩

end Go.Proofs.YtdcpkgedaflnmaaGreatDoor.Cq
