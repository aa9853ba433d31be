/-
  Functions of this seat's translation, compacted, each held against the loaded program by the kernel. Printed by wip/tools/Gex.lean.
  Functions of this seat's translation, compacted, each held against the loaded program by the kernel. Printed by wip/tools/Gex.lean.
-/
import Derived.Test.YtdcpkgedaflnmaaGreatDoorProg
import Derived.Test.YtdcpkgedaflnmaaGreatDoorFx2
import Derived.KernelRfl
namespace Go.Proofs.YtdcpkgedaflnmaaGreatDoor.Ct
open Go Fw
def pureFns : List Nat := [0,1,2,3,4,5,6,7,8,9,10,11,12,13,14,15,16,17,18,19,20,21,22,23,24,25,26,27,28,29,30,31,32,33,34,35,36,37,38,39,40,41,43,44,45,46,47,48,49,50,51,52,53,54,55,56,57,58,59,60,61,62,63,64,65,66,67,68,69,70,71,72,73,74,75,76,77,78,79,80,81,82,83,84,85,86,87,88,89,90,91,92,93,94,95,96,97,98,99,100,101,102,103,104,105,106,107,108,109,110,111,112,113,114,115,116,117,118,119,120,121,122,123,124,125,126,127,128,129,130,131,132,133,134,135,136,137,138,139,140,141,142,143,144,145,146,147,148,149,150,151,152,153,154,155,156,157,158,159,160,161,162,163,164,165,166,167,168,169,170,171,172,173,174,175,176,177,178,179,180,181,182,183,184,185,186,187,188,189,190,191,192,193,194,195,196,197,198,199,200,201,202,203,204,205,206]
def A12 : ACode := .seq (.reg [⟨some 6, none, .mv (.c (.int .i64 0))⟩, ⟨some 7, none, .mv (.c (.int .i64 0))⟩])
  (.seq (.seq (.reg [⟨some 9, none, .mv (.t 0)⟩, ⟨some 10, none, .mv (.t 1)⟩, ⟨some 11, none, .mv (.t 2)⟩, ⟨some 12, none, .pcall 41 [.t 9, .t 10, .t 11]⟩, ⟨some 8, none, .mv (.t 12)⟩])
  (.seq (.reg [⟨some 13, none, .mv (.t 8)⟩, ⟨some 14, none, .bin 0 .neq (.t 13) (.c (.int .i64 0))⟩])
  (.cond (.t 14) (.seq (.reg [⟨some 15, none, .mv (.t 8)⟩, ⟨some 6, none, .mv (.c (.int .i64 0))⟩, ⟨some 7, none, .mv (.t 15)⟩])
  (.ret)) (.skip))))
  (.seq (.reg [⟨some 16, none, .mv (.t 0)⟩, ⟨some 17, none, .mv (.t 1)⟩, ⟨some 18, none, .mv (.t 2)⟩, ⟨some 19, none, .hcall 42 [.t 16, .t 17, .t 18]⟩, ⟨some 20, none, .mv (.t 0)⟩, ⟨some 21, none, .mv (.t 1)⟩, ⟨some 22, none, .nilchk (.t 19)⟩, ⟨some 23, none, .iaddrA 13 true 65 (.t 22) (.t 20)⟩, ⟨some 24, none, .iaddrA 13 true 5 (.t 23) (.t 21)⟩, ⟨some 25, none, .faddr false 1 0 (.t 24)⟩, ⟨some 26, none, .load false 1 (.t 25)⟩, ⟨some 6, none, .mv (.t 26)⟩, ⟨some 7, none, .mv (.c (.int .i64 0))⟩])
  (.ret)))
def R12 : List ARes := [.t 6, .t 7]
theorem ok12 : FnOk Tryz.prog 12 [] pureFns A12 R12 27 := ⟨⟨Tryz.f12, _, Tryz.func12, rfl, rfl, by kernel_rfl, by kernel_rfl⟩, by kernel_rfl⟩
def A25 : ACode := .seq (.reg [⟨some 0, none, .mv (.c (.bool false))⟩])
  (.seq (.reg [⟨some 4, none, .build [.int .i64 0, .int .i64 0, .int .i64 0] [(0, 1, (.c (.int .i64 2))), (1, 1, (.c (.int .i64 2))), (2, 1, (.c (.int .i64 3)))]⟩, ⟨some 5, none, .build [.int .i64 0, .int .i64 0, .int .i64 0] [(0, 1, (.c (.int .i64 3))), (1, 1, (.c (.int .i64 1))), (2, 1, (.c (.int .i64 2)))]⟩, ⟨some 6, none, .buildSl 3 [.t 4, .t 5]⟩, ⟨some 7, none, .pcall 12 [.c (.int .i64 5), .c (.int .i64 4), .t 6]⟩, ⟨some 3, none, .mv (.t 7)⟩, ⟨some 8, none, .extract (.t 3) 0⟩, ⟨some 9, none, .extract (.t 3) 1⟩, ⟨some 1, none, .mv (.t 8)⟩, ⟨some 2, none, .mv (.t 9)⟩])
  (.seq (.reg [⟨some 10, none, .mv (.t 2)⟩, ⟨some 11, none, .bin 0 .eql (.t 10) (.c (.int .i64 0))⟩, ⟨some 12, none, .mv (.t 11)⟩, ⟨some 13, some (12, true), .mv (.t 1)⟩, ⟨some 14, some (12, true), .bin 0 .eql (.t 13) (.c (.int .i64 14))⟩, ⟨some 15, none, .pick (.t 12) (.t 14) (.c (.bool false))⟩, ⟨some 16, none, .mv (.t 15)⟩, ⟨some 17, some (16, true), .pcall 63 []⟩, ⟨some 18, none, .pick (.t 16) (.t 17) (.c (.bool false))⟩, ⟨some 0, none, .mv (.t 18)⟩])
  (.ret)))
def R25 : List ARes := [.t 0]
theorem ok25 : FnOk Tryz.prog 25 [] pureFns A25 R25 19 := ⟨⟨Tryz.f25, _, Tryz.func25, rfl, rfl, by kernel_rfl, by kernel_rfl⟩, by kernel_rfl⟩
def A41 : ACode := .seq (.reg [⟨some 6, none, .mv (.c (.int .i64 0))⟩])
  (.seq (.seq (.reg [⟨some 7, none, .mv (.t 0)⟩, ⟨some 8, none, .pcall 75 [.c (.int .i64 1), .t 7, .c (.int .i64 12)]⟩, ⟨some 9, none, .un .not (.t 8)⟩, ⟨some 10, none, .mv (.t 9)⟩, ⟨some 11, some (10, false), .mv (.t 1)⟩, ⟨some 12, some (10, false), .pcall 75 [.c (.int .i64 1), .t 11, .c (.int .i64 12)]⟩, ⟨some 13, some (10, false), .un .not (.t 12)⟩, ⟨some 14, none, .pick (.t 10) (.c (.bool true)) (.t 13)⟩])
  (.cond (.t 14) (.seq (.reg [⟨some 6, none, .mv (.c (.int .i64 3))⟩])
  (.ret)) (.skip)))
  (.seq (.reg [⟨some 15, none, .mv (.t 2)⟩, ⟨some 16, none, .pcall 93 [.t 15]⟩, ⟨some 6, none, .mv (.t 16)⟩])
  (.ret)))
def R41 : List ARes := [.t 6]
theorem ok41 : FnOk Tryz.prog 41 [] pureFns A41 R41 17 := ⟨⟨Tryz.f41, _, Tryz.func41, rfl, rfl, by kernel_rfl, by kernel_rfl⟩, by kernel_rfl⟩
def A42 : ACode := .seq (.reg [⟨some 6, none, .mv (.c (.nilptr))⟩])
  (.seq (.reg [⟨some 16, none, .build [.int .i64 0, .int .i64 0, .bool false, .bool false, .int .i64 0, .int .i64 0, .int .i64 0, .bool false, .bool false, .int .i64 0, .int .i64 0, .int .i64 0, .bool false, .bool false, .int .i64 0, .int .i64 0, .int .i64 0, .bool false, .bool false, .int .i64 0, .int .i64 0, .int .i64 0, .bool false, .bool false, .int .i64 0, .int .i64 0, .int .i64 0, .bool false, .bool false, .int .i64 0, .int .i64 0, .int .i64 0, .bool false, .bool false, .int .i64 0, .int .i64 0, .int .i64 0, .bool false, .bool false, .int .i64 0, .int .i64 0, .int .i64 0, .bool false, .bool false, .int .i64 0, .int .i64 0, .int .i64 0, .bool false, .bool false, .int .i64 0, .int .i64 0, .int .i64 0, .bool false, .bool false, .int .i64 0, .int .i64 0, .int .i64 0, .bool false, .bool false, .int .i64 0, .int .i64 0, .int .i64 0, .bool false, .bool false, .int .i64 0, .int .i64 0, .int .i64 0, .bool false, .bool false, .int .i64 0, .int .i64 0, .int .i64 0, .bool false, .bool false, .int .i64 0, .int .i64 0, .int .i64 0, .bool false, .bool false, .int .i64 0, .int .i64 0, .int .i64 0, .bool false, .bool false, .int .i64 0, .int .i64 0, .int .i64 0, .bool false, .bool false, .int .i64 0, .int .i64 0, .int .i64 0, .bool false, .bool false, .int .i64 0, .int .i64 0, .int .i64 0, .bool false, .bool false, .int .i64 0, .int .i64 0, .int .i64 0, .bool false, .bool false, .int .i64 0, .int .i64 0, .int .i64 0, .bool false, .bool false, .int .i64 0, .int .i64 0, .int .i64 0, .bool false, .bool false, .int .i64 0, .int .i64 0, .int .i64 0, .bool false, .bool false, .int .i64 0, .int .i64 0, .int .i64 0, .bool false, .bool false, .int .i64 0, .int .i64 0, .int .i64 0, .bool false, .bool false, .int .i64 0, .int .i64 0, .int .i64 0, .bool false, .bool false, .int .i64 0, .int .i64 0, .int .i64 0, .bool false, .bool false, .int .i64 0, .int .i64 0, .int .i64 0, .bool false, .bool false, .int .i64 0, .int .i64 0, .int .i64 0, .bool false, .bool false, .int .i64 0, .int .i64 0, .int .i64 0, .bool false, .bool false, .int .i64 0, .int .i64 0, .int .i64 0, .bool false, .bool false, .int .i64 0, .int .i64 0, .int .i64 0, .bool false, .bool false, .int .i64 0, .int .i64 0, .int .i64 0, .bool false, .bool false, .int .i64 0, .int .i64 0, .int .i64 0, .bool false, .bool false, .int .i64 0, .int .i64 0, .int .i64 0, .bool false, .bool false, .int .i64 0, .int .i64 0, .int .i64 0, .bool false, .bool false, .int .i64 0, .int .i64 0, .int .i64 0, .bool false, .bool false, .int .i64 0, .int .i64 0, .int .i64 0, .bool false, .bool false, .int .i64 0, .int .i64 0, .int .i64 0, .bool false, .bool false, .int .i64 0, .int .i64 0, .int .i64 0, .bool false, .bool false, .int .i64 0, .int .i64 0, .int .i64 0, .bool false, .bool false, .int .i64 0, .int .i64 0, .int .i64 0, .bool false, .bool false, .int .i64 0, .int .i64 0, .int .i64 0, .bool false, .bool false, .int .i64 0, .int .i64 0, .int .i64 0, .bool false, .bool false, .int .i64 0, .int .i64 0, .int .i64 0, .bool false, .bool false, .int .i64 0, .int .i64 0, .int .i64 0, .bool false, .bool false, .int .i64 0, .int .i64 0, .int .i64 0, .bool false, .bool false, .int .i64 0, .int .i64 0, .int .i64 0, .bool false, .bool false, .int .i64 0, .int .i64 0, .int .i64 0, .bool false, .bool false, .int .i64 0, .int .i64 0, .int .i64 0, .bool false, .bool false, .int .i64 0, .int .i64 0, .int .i64 0, .bool false, .bool false, .int .i64 0, .int .i64 0, .int .i64 0, .bool false, .bool false, .int .i64 0, .int .i64 0, .int .i64 0, .bool false, .bool false, .int .i64 0, .int .i64 0, .int .i64 0, .bool false, .bool false, .int .i64 0, .int .i64 0, .int .i64 0, .bool false, .bool false, .int .i64 0, .int .i64 0, .int .i64 0, .bool false, .bool false, .int .i64 0, .int .i64 0, .int .i64 0, .bool false, .bool false, .int .i64 0, .int .i64 0, .int .i64 0, .bool false, .bool false, .int .i64 0, .int .i64 0, .int .i64 0, .bool false, .bool false, .int .i64 0, .int .i64 0, .int .i64 0, .bool false, .bool false, .int .i64 0, .int .i64 0, .int .i64 0, .bool false, .bool false, .int .i64 0, .int .i64 0, .int .i64 0, .bool false, .bool false, .int .i64 0, .int .i64 0, .int .i64 0, .bool false, .bool false, .int .i64 0, .int .i64 0, .int .i64 0, .bool false, .bool false, .int .i64 0, .int .i64 0, .int .i64 0, .bool false, .bool false, .int .i64 0, .int .i64 0, .int .i64 0, .bool false, .bool false, .int .i64 0, .int .i64 0, .int .i64 0, .bool false, .bool false, .int .i64 0, .int .i64 0, .int .i64 0, .bool false, .bool false, .int .i64 0, .int .i64 0, .int .i64 0, .bool false, .bool false, .int .i64 0, .int .i64 0, .int .i64 0, .bool false, .bool false, .int .i64 0, .int .i64 0, .int .i64 0, .bool false, .bool false, .int .i64 0, .int .i64 0, .int .i64 0, .bool false, .bool false, .int .i64 0, .int .i64 0, .int .i64 0, .bool false, .bool false, .int .i64 0, .int .i64 0, .int .i64 0, .bool false, .bool false, .int .i64 0, .int .i64 0, .int .i64 0, .bool false, .bool false, .int .i64 0, .int .i64 0, .int .i64 0, .bool false, .bool false, .int .i64 0, .int .i64 0, .int .i64 0, .bool false, .bool false, .int .i64 0, .int .i64 0, .int .i64 0, .bool false, .bool false, .int .i64 0, .int .i64 0, .int .i64 0, .bool false, .bool false, .int .i64 0, .int .i64 0, .int .i64 0, .bool false, .bool false, .int .i64 0, .int .i64 0, .int .i64 0, .bool false, .bool false, .int .i64 0, .int .i64 0, .int .i64 0, .bool false, .bool false, .int .i64 0, .int .i64 0, .int .i64 0, .bool false, .bool false, .int .i64 0, .int .i64 0, .int .i64 0, .bool false, .bool false, .int .i64 0, .int .i64 0, .int .i64 0, .bool false, .bool false, .int .i64 0, .int .i64 0, .int .i64 0, .bool false, .bool false, .int .i64 0, .int .i64 0, .int .i64 0, .bool false, .bool false, .int .i64 0, .int .i64 0, .int .i64 0, .bool false, .bool false, .int .i64 0, .int .i64 0, .int .i64 0, .bool false, .bool false, .int .i64 0, .int .i64 0, .int .i64 0, .bool false, .bool false, .int .i64 0, .int .i64 0, .int .i64 0, .bool false, .bool false, .int .i64 0, .int .i64 0, .int .i64 0, .bool false, .bool false, .int .i64 0, .int .i64 0, .int .i64 0, .bool false, .bool false, .int .i64 0, .int .i64 0, .int .i64 0, .bool false, .bool false, .int .i64 0, .int .i64 0, .int .i64 0, .bool false, .bool false, .int .i64 0, .int .i64 0, .int .i64 0, .bool false, .bool false, .int .i64 0, .int .i64 0, .int .i64 0, .bool false, .bool false, .int .i64 0, .int .i64 0, .int .i64 0, .bool false, .bool false, .int .i64 0, .int .i64 0, .int .i64 0, .bool false, .bool false, .int .i64 0, .int .i64 0, .int .i64 0, .bool false, .bool false, .int .i64 0, .int .i64 0, .int .i64 0, .bool false, .bool false, .int .i64 0, .int .i64 0, .int .i64 0, .bool false, .bool false, .int .i64 0, .int .i64 0, .int .i64 0, .bool false, .bool false, .int .i64 0, .int .i64 0, .int .i64 0, .bool false, .bool false, .int .i64 0, .int .i64 0, .int .i64 0, .bool false, .bool false, .int .i64 0, .int .i64 0, .int .i64 0, .bool false, .bool false, .int .i64 0, .int .i64 0, .int .i64 0, .bool false, .bool false, .int .i64 0, .int .i64 0, .int .i64 0, .bool false, .bool false, .int .i64 0, .int .i64 0, .int .i64 0, .bool false, .bool false, .int .i64 0, .int .i64 0, .int .i64 0, .bool false, .bool false, .int .i64 0, .int .i64 0, .int .i64 0, .bool false, .bool false, .int .i64 0, .int .i64 0, .int .i64 0, .bool false, .bool false, .int .i64 0, .int .i64 0, .int .i64 0, .bool false, .bool false, .int .i64 0, .int .i64 0, .int .i64 0, .bool false, .bool false, .int .i64 0, .int .i64 0, .int .i64 0, .bool false, .bool false, .int .i64 0, .int .i64 0, .int .i64 0, .bool false, .bool false, .int .i64 0, .int .i64 0, .int .i64 0, .bool false, .bool false, .int .i64 0, .int .i64 0, .int .i64 0, .bool false, .bool false, .int .i64 0, .int .i64 0, .int .i64 0, .bool false, .bool false, .int .i64 0, .int .i64 0, .int .i64 0, .bool false, .bool false, .int .i64 0, .int .i64 0, .int .i64 0, .bool false, .bool false, .int .i64 0, .int .i64 0, .int .i64 0, .bool false, .bool false, .int .i64 0, .int .i64 0, .int .i64 0, .bool false, .bool false, .int .i64 0, .int .i64 0, .int .i64 0, .bool false, .bool false, .int .i64 0, .int .i64 0, .int .i64 0, .bool false, .bool false, .int .i64 0, .int .i64 0, .int .i64 0, .bool false, .bool false, .int .i64 0, .int .i64 0, .int .i64 0, .bool false, .bool false, .int .i64 0, .int .i64 0, .int .i64 0, .bool false, .bool false, .int .i64 0, .int .i64 0, .int .i64 0, .bool false, .bool false, .int .i64 0, .int .i64 0, .int .i64 0, .bool false, .bool false, .int .i64 0, .int .i64 0, .int .i64 0, .bool false, .bool false, .int .i64 0, .int .i64 0, .int .i64 0, .bool false, .bool false, .int .i64 0, .int .i64 0, .int .i64 0, .bool false, .bool false, .int .i64 0, .int .i64 0, .int .i64 0, .bool false, .bool false, .int .i64 0, .int .i64 0, .int .i64 0, .bool false, .bool false, .int .i64 0, .int .i64 0, .int .i64 0, .bool false, .bool false, .int .i64 0, .int .i64 0, .int .i64 0, .bool false, .bool false, .int .i64 0, .int .i64 0, .int .i64 0, .bool false, .bool false, .int .i64 0, .int .i64 0, .int .i64 0, .bool false, .bool false, .int .i64 0, .int .i64 0, .int .i64 0, .bool false, .bool false, .int .i64 0, .int .i64 0, .int .i64 0, .bool false, .bool false, .int .i64 0, .int .i64 0, .int .i64 0, .bool false, .bool false, .int .i64 0, .int .i64 0, .int .i64 0, .bool false, .bool false, .int .i64 0, .int .i64 0, .int .i64 0, .bool false, .bool false, .int .i64 0, .int .i64 0, .int .i64 0, .bool false, .bool false, .int .i64 0, .int .i64 0, .int .i64 0, .bool false, .bool false, .int .i64 0, .int .i64 0, .int .i64 0, .bool false, .bool false, .int .i64 0, .int .i64 0, .int .i64 0, .bool false, .bool false, .int .i64 0, .int .i64 0, .int .i64 0, .bool false, .bool false, .int .i64 0, .int .i64 0, .int .i64 0, .bool false, .bool false, .int .i64 0, .int .i64 0, .int .i64 0, .bool false, .bool false, .int .i64 0, .int .i64 0, .int .i64 0, .bool false, .bool false, .int .i64 0, .int .i64 0, .int .i64 0, .bool false, .bool false, .int .i64 0, .int .i64 0, .int .i64 0, .bool false, .bool false, .int .i64 0, .int .i64 0, .int .i64 0, .bool false, .bool false, .int .i64 0, .int .i64 0, .int .i64 0, .bool false, .bool false, .int .i64 0, .int .i64 0, .int .i64 0, .bool false, .bool false, .int .i64 0, .int .i64 0, .int .i64 0, .bool false, .bool false, .int .i64 0, .int .i64 0, .int .i64 0, .bool false, .bool false, .int .i64 0, .int .i64 0, .int .i64 0, .bool false, .bool false, .int .i64 0, .int .i64 0, .int .i64 0, .bool false, .bool false, .int .i64 0, .int .i64 0, .int .i64 0, .bool false, .bool false, .int .i64 0, .int .i64 0, .int .i64 0, .bool false, .bool false, .int .i64 0, .int .i64 0, .int .i64 0, .bool false, .bool false, .int .i64 0, .int .i64 0, .int .i64 0, .bool false, .bool false, .int .i64 0, .int .i64 0, .int .i64 0, .bool false, .bool false, .int .i64 0, .int .i64 0, .int .i64 0, .bool false, .bool false, .int .i64 0, .int .i64 0, .int .i64 0, .bool false, .bool false, .int .i64 0] []⟩, ⟨some 17, none, .boxm (.t 16)⟩, ⟨some 7, none, .mv (.t 17)⟩])
  (.seq (.seq (.reg [⟨some 8, none, .mv (.c (.int .i64 1))⟩])
  (.block 0 (.loop (.seq (.seq (.reg [⟨some 18, none, .mv (.t 8)⟩, ⟨some 19, none, .mv (.t 0)⟩, ⟨some 20, none, .bin 0 .leq (.t 18) (.t 19)⟩])
  (.cond (.t 20) (.skip) (.exit 0)))
  (.seq (.block 1 (.seq (.reg [⟨some 9, none, .mv (.c (.int .i64 1))⟩])
  (.block 2 (.loop (.seq (.seq (.reg [⟨some 23, none, .mv (.t 9)⟩, ⟨some 24, none, .mv (.t 1)⟩, ⟨some 25, none, .bin 0 .leq (.t 23) (.t 24)⟩])
  (.cond (.t 25) (.skip) (.exit 2)))
  (.seq (.block 3 (.seq (.reg [⟨some 28, none, .mv (.t 7)⟩, ⟨some 29, none, .mv (.t 8)⟩, ⟨some 30, none, .mv (.t 9)⟩, ⟨some 31, none, .nilchk (.t 28)⟩, ⟨some 32, none, .iaddrA 13 true 65 (.t 31) (.t 29)⟩, ⟨some 33, none, .iaddrA 13 true 5 (.t 32) (.t 30)⟩, ⟨some 10, none, .alloc [.nilptr]⟩, ⟨none, none, .store 1 (.t 10) (.t 33)⟩])
  (.seq (.seq (.reg [⟨some 35, none, .mv (.t 8)⟩, ⟨some 36, none, .mv (.t 9)⟩, ⟨some 37, none, .mv (.t 2)⟩, ⟨some 38, none, .pcall 94 [.t 35, .t 36, .t 37]⟩, ⟨some 34, none, .mv (.t 38)⟩, ⟨some 39, none, .extract (.t 34) 0⟩, ⟨some 40, none, .extract (.t 34) 1⟩, ⟨some 11, none, .mv (.t 39)⟩, ⟨some 12, none, .mv (.t 40)⟩])
  (.seq (.reg [⟨some 41, none, .mv (.t 11)⟩, ⟨some 42, none, .bin 0 .gtr (.t 41) (.c (.int .i64 0))⟩])
  (.cond (.t 42) (.reg [⟨some 43, none, .load false 1 (.t 10)⟩, ⟨some 44, none, .mv (.t 11)⟩, ⟨some 45, none, .build [.int .i64 0, .int .i64 0, .bool false, .bool false, .int .i64 0] [(0, 1, (.t 44)), (1, 1, (.c (.int .i64 1))), (2, 1, (.c (.bool true)))]⟩, ⟨some 46, none, .nilchk (.t 43)⟩, ⟨none, none, .store 5 (.t 46) (.t 45)⟩]) (.skip))))
  (.seq (.reg [⟨some 47, none, .mkfn (.func 95) [] [.t 10]⟩, ⟨some 13, none, .mv (.t 47)⟩])
  (.seq (.seq (.reg [⟨some 14, none, .mv (.c (.int .i64 1))⟩])
  (.block 4 (.loop (.seq (.seq (.reg [⟨some 48, none, .mv (.t 14)⟩, ⟨some 49, none, .mv (.t 8)⟩, ⟨some 50, none, .bin 0 .lss (.t 48) (.t 49)⟩])
  (.cond (.t 50) (.skip) (.exit 4)))
  (.seq (.block 5 (.regl [⟨some 53, none, .mv (.t 13)⟩, ⟨some 54, none, .mv (.t 7)⟩, ⟨some 55, none, .mv (.t 14)⟩, ⟨some 56, none, .mv (.t 9)⟩, ⟨some 57, none, .nilchk (.t 54)⟩, ⟨some 58, none, .iaddrA 13 true 65 (.t 57) (.t 55)⟩, ⟨some 59, none, .iaddrA 13 true 5 (.t 58) (.t 56)⟩, ⟨some 60, none, .load true 5 (.t 59)⟩, ⟨some 61, none, .mv (.t 7)⟩, ⟨some 62, none, .mv (.t 8)⟩, ⟨some 63, none, .mv (.t 14)⟩, ⟨some 64, none, .bin 0 .sub (.t 62) (.t 63)⟩, ⟨some 65, none, .mv (.t 9)⟩, ⟨some 66, none, .nilchk (.t 61)⟩, ⟨some 67, none, .iaddrA 13 true 65 (.t 66) (.t 64)⟩, ⟨some 68, none, .iaddrA 13 true 5 (.t 67) (.t 65)⟩, ⟨some 69, none, .load true 5 (.t 68)⟩, ⟨some 70, none, .mv (.t 14)⟩, ⟨some 71, none, .build [.bool false, .int .i64 0] [(0, 1, (.c (.bool true))), (1, 1, (.t 70))]⟩, ⟨some 72, none, .callv (.t 53) [.t 60, .t 69, .t 71]⟩]))
  (.reg [⟨some 51, none, .mv (.t 14)⟩, ⟨some 52, none, .bin 0 .add (.t 51) (.c (.int .i64 1))⟩, ⟨some 14, none, .mv (.t 52)⟩]))))))
  (.seq (.reg [⟨some 15, none, .mv (.c (.int .i64 1))⟩])
  (.block 6 (.loop (.seq (.seq (.reg [⟨some 73, none, .mv (.t 15)⟩, ⟨some 74, none, .mv (.t 9)⟩, ⟨some 75, none, .bin 0 .lss (.t 73) (.t 74)⟩])
  (.cond (.t 75) (.skip) (.exit 6)))
  (.seq (.block 7 (.regl [⟨some 78, none, .mv (.t 13)⟩, ⟨some 79, none, .mv (.t 7)⟩, ⟨some 80, none, .mv (.t 8)⟩, ⟨some 81, none, .mv (.t 15)⟩, ⟨some 82, none, .nilchk (.t 79)⟩, ⟨some 83, none, .iaddrA 13 true 65 (.t 82) (.t 80)⟩, ⟨some 84, none, .iaddrA 13 true 5 (.t 83) (.t 81)⟩, ⟨some 85, none, .load true 5 (.t 84)⟩, ⟨some 86, none, .mv (.t 7)⟩, ⟨some 87, none, .mv (.t 8)⟩, ⟨some 88, none, .mv (.t 9)⟩, ⟨some 89, none, .mv (.t 15)⟩, ⟨some 90, none, .bin 0 .sub (.t 88) (.t 89)⟩, ⟨some 91, none, .nilchk (.t 86)⟩, ⟨some 92, none, .iaddrA 13 true 65 (.t 91) (.t 87)⟩, ⟨some 93, none, .iaddrA 13 true 5 (.t 92) (.t 90)⟩, ⟨some 94, none, .load true 5 (.t 93)⟩, ⟨some 95, none, .mv (.t 15)⟩, ⟨some 96, none, .build [.bool false, .int .i64 0] [(0, 1, (.c (.bool false))), (1, 1, (.t 95))]⟩, ⟨some 97, none, .callv (.t 78) [.t 85, .t 94, .t 96]⟩]))
  (.reg [⟨some 76, none, .mv (.t 15)⟩, ⟨some 77, none, .bin 0 .add (.t 76) (.c (.int .i64 1))⟩, ⟨some 15, none, .mv (.t 77)⟩])))))))))))
  (.reg [⟨some 26, none, .mv (.t 9)⟩, ⟨some 27, none, .bin 0 .add (.t 26) (.c (.int .i64 1))⟩, ⟨some 9, none, .mv (.t 27)⟩])))))))
  (.reg [⟨some 21, none, .mv (.t 8)⟩, ⟨some 22, none, .bin 0 .add (.t 21) (.c (.int .i64 1))⟩, ⟨some 8, none, .mv (.t 22)⟩]))))))
  (.seq (.reg [⟨some 98, none, .mv (.t 7)⟩, ⟨some 6, none, .mv (.t 98)⟩])
  (.ret))))
def R42 : List ARes := [.t 6]
theorem ok42 : FnOk Tryz.prog 42 [17] pureFns A42 R42 99 := ⟨⟨Tryz.f42, _, Tryz.func42, rfl, rfl, by kernel_rfl, by kernel_rfl⟩, by kernel_rfl⟩
def A75 : ACode := .seq (.reg [⟨some 6, none, .mv (.c (.bool false))⟩])
  (.seq (.reg [⟨some 7, none, .mv (.t 0)⟩, ⟨some 8, none, .mv (.t 1)⟩, ⟨some 9, none, .bin 0 .leq (.t 7) (.t 8)⟩, ⟨some 10, none, .mv (.t 9)⟩, ⟨some 11, some (10, true), .mv (.t 1)⟩, ⟨some 12, some (10, true), .mv (.t 2)⟩, ⟨some 13, some (10, true), .bin 0 .leq (.t 11) (.t 12)⟩, ⟨some 14, none, .pick (.t 10) (.t 13) (.c (.bool false))⟩, ⟨some 6, none, .mv (.t 14)⟩])
  (.ret))
def R75 : List ARes := [.t 6]
theorem ok75 : FnOk Tryz.prog 75 [] pureFns A75 R75 15 := ⟨⟨Tryz.f75, _, Tryz.func75, rfl, rfl, by kernel_rfl, by kernel_rfl⟩, by kernel_rfl⟩
def A93 : ACode := .seq (.reg [⟨some 2, none, .mv (.c (.int .i64 0))⟩])
  (.seq (.block 0 (.seq (.reg [⟨some 4, none, .mv (.t 0)⟩, ⟨some 5, none, .len false (.t 4)⟩, ⟨some 6, none, .bin 0 .eql (.t 5) (.c (.int .i64 0))⟩, ⟨some 3, none, .mv (.t 6)⟩])
  (.cond (.t 3) (.seq (.reg [⟨some 2, none, .mv (.c (.int .i64 1))⟩])
  (.ret)) (.seq (.reg [⟨some 8, none, .mv (.t 0)⟩, ⟨some 9, none, .len false (.t 8)⟩, ⟨some 10, none, .bin 0 .gtr (.t 9) (.c (.int .i64 6))⟩, ⟨some 7, none, .mv (.t 10)⟩])
  (.cond (.t 7) (.seq (.reg [⟨some 2, none, .mv (.c (.int .i64 2))⟩])
  (.ret)) (.seq (.reg [⟨some 12, none, .mv (.t 0)⟩, ⟨some 13, none, .pcall 133 [.t 12, .c (.fn (.func 134) [] [])]⟩, ⟨some 11, none, .mv (.t 13)⟩])
  (.cond (.t 11) (.seq (.reg [⟨some 2, none, .mv (.c (.int .i64 3))⟩])
  (.ret)) (.skip))))))))
  (.seq (.reg [⟨some 2, none, .mv (.c (.int .i64 0))⟩])
  (.ret)))
def R93 : List ARes := [.t 2]
theorem ok93 : FnOk Tryz.prog 93 [] pureFns A93 R93 14 := ⟨⟨Tryz.f93, _, Tryz.func93, rfl, rfl, by kernel_rfl, by kernel_rfl⟩, by kernel_rfl⟩
def A94 : ACode := .seq (.reg [⟨some 6, none, .mv (.c (.int .i64 0))⟩, ⟨some 7, none, .mv (.c (.bool false))⟩])
  (.seq (.reg [⟨some 8, none, .mv (.c (.int .i64 0))⟩, ⟨some 9, none, .mv (.c (.bool false))⟩])
  (.seq (.seq (.reg [⟨some 12, none, .mv (.t 2)⟩, ⟨some 13, none, .len false (.t 12)⟩, ⟨some 14, none, .mv (.c (.int .i64 0))⟩])
  (.block 0 (.loop (.seq (.reg [⟨some 15, none, .bin 0 .lss (.t 14) (.t 13)⟩])
  (.seq (.cond (.t 15) (.skip) (.exit 0))
  (.seq (.block 1 (.seq (.reg [⟨some 16, none, .iaddrS 3 (.t 12) (.t 14)⟩, ⟨some 17, none, .load true 3 (.t 16)⟩, ⟨some 11, none, .alloc [.int .i64 0, .int .i64 0, .int .i64 0]⟩, ⟨none, none, .store 3 (.t 11) (.t 17)⟩])
  (.seq (.reg [⟨some 18, none, .faddr false 1 0 (.t 11)⟩, ⟨some 19, none, .load false 1 (.t 18)⟩, ⟨some 20, none, .mv (.t 0)⟩, ⟨some 21, none, .bin 0 .eql (.t 19) (.t 20)⟩, ⟨some 22, none, .mv (.t 21)⟩, ⟨some 23, some (22, true), .faddr false 1 1 (.t 11)⟩, ⟨some 24, some (22, true), .load false 1 (.t 23)⟩, ⟨some 25, some (22, true), .mv (.t 1)⟩, ⟨some 26, some (22, true), .bin 0 .eql (.t 24) (.t 25)⟩, ⟨some 27, none, .pick (.t 22) (.t 26) (.c (.bool false))⟩])
  (.cond (.t 27) (.reg [⟨some 28, none, .mv (.t 8)⟩, ⟨some 29, none, .faddr false 1 2 (.t 11)⟩, ⟨some 30, none, .load false 1 (.t 29)⟩, ⟨some 31, none, .max (.t 28) (.t 30)⟩, ⟨some 8, none, .mv (.t 31)⟩, ⟨some 9, none, .mv (.c (.bool true))⟩]) (.skip)))))
  (.reg [⟨some 32, none, .bin 0 .add (.t 14) (.c (.int .i64 1))⟩, ⟨some 14, none, .mv (.t 32)⟩])))))))
  (.seq (.reg [⟨some 33, none, .mv (.t 8)⟩, ⟨some 34, none, .mv (.t 9)⟩, ⟨some 6, none, .mv (.t 33)⟩, ⟨some 7, none, .mv (.t 34)⟩])
  (.ret))))
def R94 : List ARes := [.t 6, .t 7]
theorem ok94 : FnOk Tryz.prog 94 [] pureFns A94 R94 35 := ⟨⟨Tryz.f94, _, Tryz.func94, rfl, rfl, by kernel_rfl, by kernel_rfl⟩, by kernel_rfl⟩
def A95 : ACode := .seq (.reg [⟨some 4, none, .boxi (.t 0)⟩, ⟨some 5, none, .boxi (.t 1)⟩, ⟨some 6, none, .boxi (.t 2)⟩])
  (.seq (.reg [⟨some 8, none, .faddr false 1 0 (.t 4)⟩, ⟨some 9, none, .load false 1 (.t 8)⟩, ⟨some 10, none, .faddr false 1 0 (.t 5)⟩, ⟨some 11, none, .load false 1 (.t 10)⟩, ⟨some 12, none, .bin 0 .add (.t 9) (.t 11)⟩, ⟨some 13, none, .faddr false 1 1 (.t 4)⟩, ⟨some 14, none, .load false 1 (.t 13)⟩, ⟨some 15, none, .faddr false 1 1 (.t 5)⟩, ⟨some 16, none, .load false 1 (.t 15)⟩, ⟨some 17, none, .bin 0 .add (.t 14) (.t 16)⟩, ⟨some 18, none, .load true 2 (.t 6)⟩, ⟨some 19, none, .build [.int .i64 0, .int .i64 0, .bool false, .bool false, .int .i64 0] [(0, 1, (.t 12)), (1, 1, (.t 17)), (3, 2, (.t 18))]⟩, ⟨some 7, none, .alloc [.int .i64 0, .int .i64 0, .bool false, .bool false, .int .i64 0]⟩, ⟨none, none, .store 5 (.t 7) (.t 19)⟩])
  (.seq (.regd [⟨some 20, none, .load true 5 (.t 7)⟩, ⟨some 21, none, .load false 1 (.t 3)⟩, ⟨some 22, none, .nilchk (.t 21)⟩, ⟨some 23, none, .load true 5 (.t 22)⟩, ⟨some 24, none, .pcall 96 [.t 20, .t 23]⟩])
  (.cond (.t 24) (.reg [⟨some 25, none, .load false 1 (.t 3)⟩, ⟨some 26, none, .load true 5 (.t 7)⟩, ⟨some 27, none, .nilchk (.t 25)⟩, ⟨none, none, .store 5 (.t 27) (.t 26)⟩]) (.skip))))
def R95 : List ARes := []
theorem ok95 : FnOk Tryz.prog 95 [] pureFns A95 R95 28 := ⟨⟨Tryz.f95, _, Tryz.func95, rfl, rfl, by kernel_rfl, by kernel_rfl⟩, by kernel_rfl⟩
def A96 : ACode := .seq (.reg [⟨some 2, none, .boxi (.t 0)⟩, ⟨some 3, none, .boxi (.t 1)⟩, ⟨some 4, none, .mv (.c (.bool false))⟩])
  (.seq (.reg [⟨some 5, none, .faddr false 1 0 (.t 2)⟩, ⟨some 6, none, .load false 1 (.t 5)⟩, ⟨some 7, none, .faddr false 1 0 (.t 3)⟩, ⟨some 8, none, .load false 1 (.t 7)⟩, ⟨some 9, none, .bin 0 .gtr (.t 6) (.t 8)⟩, ⟨some 10, none, .mv (.t 9)⟩, ⟨some 11, some (10, false), .faddr false 1 0 (.t 2)⟩, ⟨some 12, some (10, false), .load false 1 (.t 11)⟩, ⟨some 13, some (10, false), .faddr false 1 0 (.t 3)⟩, ⟨some 14, some (10, false), .load false 1 (.t 13)⟩, ⟨some 15, some (10, false), .bin 0 .eql (.t 12) (.t 14)⟩, ⟨some 16, some (10, false), .mv (.t 15)⟩, ⟨some 17, some (16, true), .faddr false 1 1 (.t 2)⟩, ⟨some 18, some (16, true), .load false 1 (.t 17)⟩, ⟨some 19, some (16, true), .faddr false 1 1 (.t 3)⟩, ⟨some 20, some (16, true), .load false 1 (.t 19)⟩, ⟨some 21, some (16, true), .bin 0 .lss (.t 18) (.t 20)⟩, ⟨some 22, some (10, false), .pick (.t 16) (.t 21) (.c (.bool false))⟩, ⟨some 23, none, .pick (.t 10) (.c (.bool true)) (.t 22)⟩, ⟨some 4, none, .mv (.t 23)⟩])
  (.ret))
def R96 : List ARes := [.t 4]
theorem ok96 : FnOk Tryz.prog 96 [] pureFns A96 R96 24 := ⟨⟨Tryz.f96, _, Tryz.func96, rfl, rfl, by kernel_rfl, by kernel_rfl⟩, by kernel_rfl⟩
def A133 : ACode := .seq (.reg [⟨some 4, none, .mv (.c (.bool false))⟩])
  (.seq (.reg [⟨some 5, none, .mv (.t 0)⟩, ⟨some 6, none, .mv (.t 1)⟩, ⟨some 7, none, .pcall 154 [.t 5, .t 6]⟩, ⟨some 8, none, .bin 0 .geq (.t 7) (.c (.int .i64 0))⟩, ⟨some 4, none, .mv (.t 8)⟩])
  (.ret))
def R133 : List ARes := [.t 4]
theorem ok133 : FnOk Tryz.prog 133 [] pureFns A133 R133 9 := ⟨⟨Tryz.f133, _, Tryz.func133, rfl, rfl, by kernel_rfl, by kernel_rfl⟩, by kernel_rfl⟩
def A134 : ACode := .seq (.reg [⟨some 1, none, .boxi (.t 0)⟩, ⟨some 2, none, .mv (.c (.bool false))⟩])
  (.seq (.reg [⟨some 3, none, .faddr false 1 0 (.t 1)⟩, ⟨some 4, none, .load false 1 (.t 3)⟩, ⟨some 5, none, .pcall 75 [.c (.int .i64 1), .t 4, .c (.int .i64 12)]⟩, ⟨some 6, none, .un .not (.t 5)⟩, ⟨some 7, none, .mv (.t 6)⟩, ⟨some 8, some (7, false), .faddr false 1 1 (.t 1)⟩, ⟨some 9, some (7, false), .load false 1 (.t 8)⟩, ⟨some 10, some (7, false), .pcall 75 [.c (.int .i64 1), .t 9, .c (.int .i64 12)]⟩, ⟨some 11, some (7, false), .un .not (.t 10)⟩, ⟨some 12, none, .pick (.t 7) (.c (.bool true)) (.t 11)⟩, ⟨some 13, none, .mv (.t 12)⟩, ⟨some 14, some (13, false), .faddr false 1 2 (.t 1)⟩, ⟨some 15, some (13, false), .load false 1 (.t 14)⟩, ⟨some 16, some (13, false), .pcall 75 [.c (.int .i64 0), .t 15, .c (.int .i64 1000)]⟩, ⟨some 17, some (13, false), .un .not (.t 16)⟩, ⟨some 18, none, .pick (.t 13) (.c (.bool true)) (.t 17)⟩, ⟨some 2, none, .mv (.t 18)⟩])
  (.ret))
def R134 : List ARes := [.t 2]
theorem ok134 : FnOk Tryz.prog 134 [] pureFns A134 R134 19 := ⟨⟨Tryz.f134, _, Tryz.func134, rfl, rfl, by kernel_rfl, by kernel_rfl⟩, by kernel_rfl⟩
def A154 : ACode := .seq (.reg [⟨some 4, none, .mv (.c (.int .i64 0))⟩])
  (.seq (.seq (.reg [⟨some 6, none, .mv (.t 0)⟩, ⟨some 7, none, .len false (.t 6)⟩, ⟨some 8, none, .mv (.c (.int .i64 0))⟩])
  (.block 0 (.loop (.seq (.reg [⟨some 9, none, .bin 0 .lss (.t 8) (.t 7)⟩])
  (.seq (.cond (.t 9) (.skip) (.exit 0))
  (.seq (.block 1 (.seq (.reg [⟨some 10, none, .mv (.t 8)⟩, ⟨some 5, none, .mv (.t 10)⟩])
  (.seq (.reg [⟨some 11, none, .mv (.t 1)⟩, ⟨some 12, none, .mv (.t 0)⟩, ⟨some 13, none, .mv (.t 5)⟩, ⟨some 14, none, .iaddrS 3 (.t 12) (.t 13)⟩, ⟨some 15, none, .load true 3 (.t 14)⟩, ⟨some 16, none, .callv (.t 11) [.t 15]⟩])
  (.cond (.t 16) (.seq (.reg [⟨some 17, none, .mv (.t 5)⟩, ⟨some 4, none, .mv (.t 17)⟩])
  (.ret)) (.skip)))))
  (.reg [⟨some 18, none, .bin 0 .add (.t 8) (.c (.int .i64 1))⟩, ⟨some 8, none, .mv (.t 18)⟩])))))))
  (.seq (.reg [⟨some 4, none, .mv (.c (.int .i64 (-1)))⟩])
  (.ret)))
def R154 : List ARes := [.t 4]
theorem ok154 : FnOk Tryz.prog 154 [] pureFns A154 R154 19 := ⟨⟨Tryz.f154, _, Tryz.func154, rfl, rfl, by kernel_rfl, by kernel_rfl⟩, by kernel_rfl⟩

end Go.Proofs.YtdcpkgedaflnmaaGreatDoor.Ct
namespace Go.Proofs.YtdcpkgedaflnmaaGreatDoor.Sn
open Go Fw
def pureFns : List Nat := [0,1,2,3,4,5,6,7,8,9,10,11,12,13,14,15,16,17,18,19,20,21,22,23,24,25,26,27,28,29,30,31,32,33,34,35,36,37,38,39,40,41,42,43,44,45,46,47,48,49,50,51,52,53,54,55,56,57,58,60,61,62,63,64,65,66,67,68,69,70,71,72,73,74,75,76,77,78,79,80,81,82,83,85,86,87,88,89,90,91,92,93,94,95,96,97,98,99,100,101,102,103,104,105,106,107,108,109,111,113,114,115,116,117,118,119,120,121,122,123,124,126,127,128,129,130,131,132,133,134,135,136,137,139,140,141,142,143,144,145,146,147,148,149,150,151,152,153,154,155,156,157,158,159,160,161,162,163,164,165,166,167,168,169,170,171,172,173,174,175,176,177,178,179,180,181,182,183,184,185,186,187,188,189,190,191,192,193,194,195,196,197,198,199,200,201,202,203,204,205,206]
def A22 : ACode := .seq (.reg [⟨some 6, none, .mv (.c (.nilsl))⟩, ⟨some 7, none, .mv (.c (.int .i64 0))⟩])
  (.seq (.reg [⟨some 12, none, .mv (.t 0)⟩, ⟨some 13, none, .pcall 57 [.t 12]⟩, ⟨some 8, none, .mv (.t 13)⟩])
  (.seq (.block 0 (.seq (.reg [⟨some 15, none, .mv (.t 8)⟩, ⟨some 16, none, .bin 0 .neq (.t 15) (.c (.int .i64 0))⟩, ⟨some 14, none, .mv (.t 16)⟩])
  (.cond (.t 14) (.seq (.reg [⟨some 17, none, .mv (.t 8)⟩, ⟨some 6, none, .mv (.c (.nilsl))⟩, ⟨some 7, none, .mv (.t 17)⟩])
  (.ret)) (.seq (.reg [⟨some 19, none, .mv (.t 1)⟩, ⟨some 20, none, .pcall 58 [.c (.int .i64 2), .t 19, .c (.int .i64 12)]⟩, ⟨some 21, none, .un .not (.t 20)⟩, ⟨some 18, none, .mv (.t 21)⟩])
  (.cond (.t 18) (.seq (.reg [⟨some 6, none, .mv (.c (.nilsl))⟩, ⟨some 7, none, .mv (.c (.int .i64 3))⟩])
  (.ret)) (.seq (.reg [⟨some 23, none, .mv (.t 2)⟩, ⟨some 24, none, .bin 0 .lss (.t 23) (.c (.int .i64 0))⟩, ⟨some 22, none, .mv (.t 24)⟩])
  (.cond (.t 22) (.seq (.reg [⟨some 6, none, .mv (.c (.nilsl))⟩, ⟨some 7, none, .mv (.c (.int .i64 4))⟩])
  (.ret)) (.skip))))))))
  (.seq (.reg [⟨some 25, none, .mv (.t 1)⟩, ⟨some 26, none, .bin 0 .sub (.t 25) (.c (.int .i64 1))⟩, ⟨some 27, none, .make false 1 [.int .i64 0] (.t 26) (.t 26)⟩, ⟨some 9, none, .mv (.t 27)⟩])
  (.seq (.seq (.reg [⟨some 28, none, .mv (.t 9)⟩, ⟨some 29, none, .len false (.t 28)⟩, ⟨some 30, none, .mv (.c (.int .i64 0))⟩])
  (.block 1 (.loop (.seq (.reg [⟨some 31, none, .bin 0 .lss (.t 30) (.t 29)⟩])
  (.seq (.cond (.t 31) (.skip) (.exit 1))
  (.seq (.block 2 (.seq (.reg [⟨some 32, none, .mv (.t 30)⟩, ⟨some 10, none, .mv (.t 32)⟩])
  (.seq (.reg [⟨some 33, none, .mv (.t 9)⟩, ⟨some 34, none, .mv (.t 9)⟩, ⟨some 35, none, .len false (.t 34)⟩, ⟨some 36, none, .bin 0 .sub (.t 35) (.c (.int .i64 1))⟩, ⟨some 37, none, .mv (.t 10)⟩, ⟨some 38, none, .bin 0 .sub (.t 36) (.t 37)⟩, ⟨some 39, none, .mv (.t 2)⟩, ⟨some 40, none, .mv (.t 0)⟩, ⟨some 41, none, .len false (.t 40)⟩, ⟨some 42, none, .bin 0 .rem (.t 39) (.t 41)⟩, ⟨some 43, none, .iaddrS 1 (.t 33) (.t 38)⟩, ⟨none, none, .store 1 (.t 43) (.t 42)⟩])
  (.reg [⟨some 44, none, .mv (.t 2)⟩, ⟨some 45, none, .mv (.t 0)⟩, ⟨some 46, none, .len false (.t 45)⟩, ⟨some 47, none, .bin 0 .quo (.t 44) (.t 46)⟩, ⟨some 2, none, .mv (.t 47)⟩]))))
  (.reg [⟨some 48, none, .bin 0 .add (.t 30) (.c (.int .i64 1))⟩, ⟨some 30, none, .mv (.t 48)⟩])))))))
  (.seq (.seq (.reg [⟨some 49, none, .mv (.t 2)⟩, ⟨some 50, none, .bin 0 .gtr (.t 49) (.c (.int .i64 0))⟩])
  (.cond (.t 50) (.seq (.reg [⟨some 6, none, .mv (.c (.nilsl))⟩, ⟨some 7, none, .mv (.c (.int .i64 4))⟩])
  (.ret)) (.skip)))
  (.seq (.reg [⟨some 52, none, .mv (.t 0)⟩, ⟨some 53, none, .mv (.t 9)⟩, ⟨some 54, none, .hcall 59 [.t 52, .t 53]⟩, ⟨some 51, none, .mv (.t 54)⟩, ⟨some 55, none, .extract (.t 51) 0⟩, ⟨some 56, none, .extract (.t 51) 1⟩, ⟨some 11, none, .mv (.t 55)⟩, ⟨some 8, none, .mv (.t 56)⟩])
  (.seq (.reg [⟨some 57, none, .mv (.t 9)⟩, ⟨some 58, none, .mv (.t 11)⟩, ⟨some 59, none, .buildSl 1 [.t 58]⟩, ⟨some 60, none, .append 1 (.t 57) (.t 59)⟩, ⟨some 61, none, .mv (.t 8)⟩, ⟨some 6, none, .mv (.t 60)⟩, ⟨some 7, none, .mv (.t 61)⟩])
  (.ret))))))))
def R22 : List ARes := [.t 6, .t 7]
theorem ok22 : FnOk Tryz.prog 22 [] pureFns A22 R22 62 := ⟨⟨Tryz.f22, _, Tryz.func22, rfl, rfl, by kernel_rfl, by kernel_rfl⟩, by kernel_rfl⟩
def A23 : ACode := .seq (.reg [⟨some 2, none, .boxi (.t 0)⟩, ⟨some 4, none, .mv (.c (.int .i64 0))⟩, ⟨some 5, none, .mv (.c (.int .i64 0))⟩])
  (.seq (.seq (.reg [⟨some 7, none, .load false 1 (.t 2)⟩, ⟨some 8, none, .mv (.t 1)⟩, ⟨some 9, none, .pcall 24 [.t 7, .t 8]⟩, ⟨some 6, none, .mv (.t 9)⟩])
  (.seq (.reg [⟨some 10, none, .mv (.t 6)⟩, ⟨some 11, none, .bin 0 .neq (.t 10) (.c (.int .i64 0))⟩])
  (.cond (.t 11) (.seq (.reg [⟨some 12, none, .mv (.t 6)⟩, ⟨some 4, none, .mv (.c (.int .i64 0))⟩, ⟨some 5, none, .mv (.t 12)⟩])
  (.ret)) (.skip))))
  (.seq (.reg [⟨some 13, none, .mv (.t 1)⟩, ⟨some 14, none, .mv (.t 1)⟩, ⟨some 15, none, .len false (.t 14)⟩, ⟨some 16, none, .bin 0 .sub (.t 15) (.c (.int .i64 1))⟩, ⟨some 17, none, .slice 1 (.t 13) none (some (.t 16)) none⟩, ⟨some 18, none, .mkfn (.func 61) [] [.t 2]⟩, ⟨some 19, none, .pcall 60 [.c (.int .i64 0), .t 17, .t 18]⟩, ⟨some 4, none, .mv (.t 19)⟩, ⟨some 5, none, .mv (.c (.int .i64 0))⟩])
  (.ret)))
def R23 : List ARes := [.t 4, .t 5]
theorem ok23 : FnOk Tryz.prog 23 [] pureFns A23 R23 20 := ⟨⟨Tryz.f23, _, Tryz.func23, rfl, rfl, by kernel_rfl, by kernel_rfl⟩, by kernel_rfl⟩
def A24 : ACode := .seq (.reg [⟨some 4, none, .mv (.c (.int .i64 0))⟩])
  (.seq (.reg [⟨some 6, none, .mv (.t 0)⟩, ⟨some 7, none, .mv (.t 1)⟩, ⟨some 8, none, .pcall 62 [.t 6, .t 7]⟩, ⟨some 5, none, .mv (.t 8)⟩])
  (.seq (.seq (.reg [⟨some 9, none, .mv (.t 5)⟩, ⟨some 10, none, .bin 0 .eql (.t 9) (.c (.int .i64 0))⟩, ⟨some 11, none, .mv (.t 10)⟩, ⟨some 12, some (11, true), .mv (.t 0)⟩, ⟨some 13, some (11, true), .mv (.t 1)⟩, ⟨some 14, some (11, true), .pcall 51 [.t 12, .c (.int .i64 0), .t 13]⟩, ⟨some 15, some (11, true), .bin 0 .neq (.t 14) (.c (.int .i64 0))⟩, ⟨some 16, none, .pick (.t 11) (.t 15) (.c (.bool false))⟩])
  (.cond (.t 16) (.seq (.reg [⟨some 4, none, .mv (.c (.int .i64 13))⟩])
  (.ret)) (.skip)))
  (.seq (.reg [⟨some 17, none, .mv (.t 5)⟩, ⟨some 4, none, .mv (.t 17)⟩])
  (.ret))))
def R24 : List ARes := [.t 4]
theorem ok24 : FnOk Tryz.prog 24 [] pureFns A24 R24 18 := ⟨⟨Tryz.f24, _, Tryz.func24, rfl, rfl, by kernel_rfl, by kernel_rfl⟩, by kernel_rfl⟩
def A59 : ACode := .seq (.reg [⟨some 4, none, .mv (.c (.int .i64 0))⟩, ⟨some 5, none, .mv (.c (.int .i64 0))⟩])
  (.seq (.reg [⟨some 9, none, .mv (.t 0)⟩, ⟨some 10, none, .mv (.t 1)⟩, ⟨some 11, none, .pcall 17 [.t 9, .t 10]⟩, ⟨some 8, none, .mv (.t 11)⟩, ⟨some 12, none, .extract (.t 8) 0⟩, ⟨some 13, none, .extract (.t 8) 1⟩, ⟨some 6, none, .mv (.t 12)⟩, ⟨some 7, none, .mv (.t 13)⟩])
  (.seq (.seq (.reg [⟨some 14, none, .mv (.t 7)⟩, ⟨some 15, none, .bin 0 .neq (.t 14) (.c (.int .i64 0))⟩])
  (.cond (.t 15) (.seq (.reg [⟨some 16, none, .mv (.t 7)⟩, ⟨some 4, none, .mv (.c (.int .i64 0))⟩, ⟨some 5, none, .mv (.t 16)⟩])
  (.ret)) (.skip)))
  (.seq (.reg [⟨some 17, none, .mv (.t 0)⟩, ⟨some 18, none, .mv (.t 6)⟩, ⟨some 19, none, .iaddrS 1 (.t 17) (.t 18)⟩, ⟨some 20, none, .load false 1 (.t 19)⟩, ⟨some 21, none, .pcall 115 [.t 20, .c (.int .i64 0)]⟩, ⟨some 4, none, .mv (.t 21)⟩, ⟨some 5, none, .mv (.c (.int .i64 0))⟩])
  (.ret))))
def R59 : List ARes := [.t 4, .t 5]
theorem ok59 : FnOk Tryz.prog 59 [] pureFns A59 R59 22 := ⟨⟨Tryz.f59, _, Tryz.func59, rfl, rfl, by kernel_rfl, by kernel_rfl⟩, by kernel_rfl⟩
def A60 : ACode := .seq (.reg [⟨some 6, none, .mv (.c (.int .i64 0))⟩])
  (.seq (.seq (.reg [⟨some 9, none, .mv (.t 1)⟩, ⟨some 10, none, .len false (.t 9)⟩, ⟨some 11, none, .mv (.c (.int .i64 0))⟩])
  (.block 0 (.loop (.seq (.reg [⟨some 12, none, .bin 0 .lss (.t 11) (.t 10)⟩])
  (.seq (.cond (.t 12) (.skip) (.exit 0))
  (.seq (.block 1 (.seq (.reg [⟨some 13, none, .iaddrS 1 (.t 9) (.t 11)⟩, ⟨some 14, none, .load false 1 (.t 13)⟩, ⟨some 8, none, .mv (.t 14)⟩])
  (.reg [⟨some 15, none, .mv (.t 2)⟩, ⟨some 16, none, .mv (.t 0)⟩, ⟨some 17, none, .mv (.t 8)⟩, ⟨some 18, none, .callv (.t 15) [.t 16, .t 17]⟩, ⟨some 0, none, .mv (.t 18)⟩])))
  (.reg [⟨some 19, none, .bin 0 .add (.t 11) (.c (.int .i64 1))⟩, ⟨some 11, none, .mv (.t 19)⟩])))))))
  (.seq (.reg [⟨some 20, none, .mv (.t 0)⟩, ⟨some 6, none, .mv (.t 20)⟩])
  (.ret)))
def R60 : List ARes := [.t 6]
theorem ok60 : FnOk Tryz.prog 60 [] pureFns A60 R60 21 := ⟨⟨Tryz.f60, _, Tryz.func60, rfl, rfl, by kernel_rfl, by kernel_rfl⟩, by kernel_rfl⟩
def A61 : ACode := .seq (.reg [⟨some 5, none, .mv (.c (.int .i64 0))⟩])
  (.seq (.reg [⟨some 6, none, .mv (.t 0)⟩, ⟨some 7, none, .load false 1 (.t 2)⟩, ⟨some 8, none, .len false (.t 7)⟩, ⟨some 9, none, .bin 0 .mul (.t 6) (.t 8)⟩, ⟨some 10, none, .mv (.t 1)⟩, ⟨some 11, none, .bin 0 .add (.t 9) (.t 10)⟩, ⟨some 5, none, .mv (.t 11)⟩])
  (.ret))
def R61 : List ARes := [.t 5]
theorem ok61 : FnOk Tryz.prog 61 [] pureFns A61 R61 12 := ⟨⟨Tryz.f61, _, Tryz.func61, rfl, rfl, by kernel_rfl, by kernel_rfl⟩, by kernel_rfl⟩
def A62 : ACode := .seq (.reg [⟨some 4, none, .mv (.c (.int .i64 0))⟩])
  (.seq (.seq (.reg [⟨some 6, none, .mv (.t 0)⟩, ⟨some 7, none, .pcall 57 [.t 6]⟩, ⟨some 5, none, .mv (.t 7)⟩])
  (.seq (.reg [⟨some 8, none, .mv (.t 5)⟩, ⟨some 9, none, .bin 0 .neq (.t 8) (.c (.int .i64 0))⟩])
  (.cond (.t 9) (.seq (.reg [⟨some 10, none, .mv (.t 5)⟩, ⟨some 4, none, .mv (.t 10)⟩])
  (.ret)) (.skip))))
  (.seq (.seq (.reg [⟨some 11, none, .mv (.t 1)⟩, ⟨some 12, none, .len false (.t 11)⟩, ⟨some 13, none, .bin 0 .lss (.t 12) (.c (.int .i64 2))⟩])
  (.cond (.t 13) (.seq (.reg [⟨some 4, none, .mv (.c (.int .i64 1))⟩])
  (.ret)) (.skip)))
  (.seq (.reg [⟨some 14, none, .mv (.t 0)⟩, ⟨some 15, none, .mv (.t 1)⟩, ⟨some 16, none, .pcall 50 [.t 14, .t 15]⟩, ⟨some 4, none, .mv (.t 16)⟩])
  (.ret))))
def R62 : List ARes := [.t 4]
theorem ok62 : FnOk Tryz.prog 62 [] pureFns A62 R62 17 := ⟨⟨Tryz.f62, _, Tryz.func62, rfl, rfl, by kernel_rfl, by kernel_rfl⟩, by kernel_rfl⟩
def A115 : ACode := .seq (.reg [⟨some 4, none, .mv (.c (.int .i64 0))⟩])
  (.seq (.seq (.reg [⟨some 6, none, .mv (.t 0)⟩, ⟨some 7, none, .len false (.t 6)⟩, ⟨some 8, none, .mv (.c (.int .i64 0))⟩])
  (.block 0 (.loop (.seq (.reg [⟨some 9, none, .bin 0 .lss (.t 8) (.t 7)⟩])
  (.seq (.cond (.t 9) (.skip) (.exit 0))
  (.seq (.block 1 (.seq (.reg [⟨some 10, none, .mv (.t 8)⟩, ⟨some 5, none, .mv (.t 10)⟩])
  (.seq (.reg [⟨some 11, none, .mv (.t 1)⟩, ⟨some 12, none, .mv (.t 0)⟩, ⟨some 13, none, .mv (.t 5)⟩, ⟨some 14, none, .iaddrS 1 (.t 12) (.t 13)⟩, ⟨some 15, none, .load false 1 (.t 14)⟩, ⟨some 16, none, .bin 0 .eql (.t 11) (.t 15)⟩])
  (.cond (.t 16) (.seq (.reg [⟨some 17, none, .mv (.t 5)⟩, ⟨some 4, none, .mv (.t 17)⟩])
  (.ret)) (.skip)))))
  (.reg [⟨some 18, none, .bin 0 .add (.t 8) (.c (.int .i64 1))⟩, ⟨some 8, none, .mv (.t 18)⟩])))))))
  (.seq (.reg [⟨some 4, none, .mv (.c (.int .i64 (-1)))⟩])
  (.ret)))
def R115 : List ARes := [.t 4]
theorem ok115 : FnOk Tryz.prog 115 [] pureFns A115 R115 19 := ⟨⟨Tryz.f115, _, Tryz.func115, rfl, rfl, by kernel_rfl, by kernel_rfl⟩, by kernel_rfl⟩

end Go.Proofs.YtdcpkgedaflnmaaGreatDoor.Sn
