/-
  The law of one more brace, compacted, its copied list mutable; held against the loaded program by the kernel. Printed by wip/tools/Gen.lean (spec 11:67, 17 a call with memory).
  One more brace, a rod for a cable, rows for columns: theory. Own work.
  The law of one more brace: a copy that may be stored into. Own work.
  The law of one more brace: the walk. Own work.
-/
import Derived.Test.YtecbbbocjmdfgaaG0
import Derived.Test.YtecbbbocjmdfgaaFw4
namespace Go.Proofs.Ytecbbbocjmdfgaa
open Go Fw
def pureM : List Nat := [0,1,2,3,4,5,6,7,8,9,10,11,12,13,14,15,18,19,20,21,22,23,24,25,26,27,28,29,30,31,33,34,35,36,37,40,43,44,45,46,47,48,49,50,51,52,53,54,55,56,57,58,59,60,61,62,66,68,69,70,71,72,74,75,76,77,78,80,81,100038,100039]
def A11m : ACode := .seq (.reg [⟨some 3, none, .boxi (.t 0)⟩, ⟨some 4, none, .boxi (.t 1)⟩, ⟨some 6, none, .mv (.c (.bool false))⟩])
  (.seq (.reg [⟨some 30, none, .load true 3 (.t 3)⟩, ⟨some 31, none, .pcall 37 [.t 30, .c (.bool true)]⟩, ⟨some 7, none, .alloc [.int .i64 0, .int .i64 0, .nilsl]⟩, ⟨none, none, .store 3 (.t 7) (.t 31)⟩])
  (.seq (.rega [[], [0], [], [2], [], [], [5], [4, 6], [], [8], [9], [], [11], [10, 12], [], [14], [15], [], [17], [16, 18], [], [20], [21], [22], [13, 19, 23], [24], [7, 25, 7], [1, 3, 26], [], [28, 27, 26, 0, 1, 2, 3, 4, 5, 6, 7, 8, 9, 10, 11, 12, 13, 14, 15, 16, 17, 18, 19, 20, 21, 22, 23, 24, 25, 26, 27, 28]] [⟨some 32, none, .faddr false 1 0 (.t 7)⟩, ⟨some 33, none, .load false 1 (.t 32)⟩, ⟨some 34, none, .faddr false 1 1 (.t 7)⟩, ⟨some 35, none, .load false 1 (.t 34)⟩, ⟨some 36, none, .buildSl 3 []⟩, ⟨some 37, none, .faddr false 1 2 (.t 7)⟩, ⟨some 38, none, .load false 1 (.t 37)⟩, ⟨some 39, none, .append 3 (.t 36) (.t 38)⟩, ⟨some 40, none, .iaddrA 3 false 1 (.t 4) (.c (.int .i64 0))⟩, ⟨some 41, none, .load false 1 (.t 40)⟩, ⟨some 42, none, .conv .i64 (.t 41)⟩, ⟨some 43, none, .faddr false 1 0 (.t 7)⟩, ⟨some 44, none, .load false 1 (.t 43)⟩, ⟨some 45, none, .bin 0 .rem (.t 42) (.t 44)⟩, ⟨some 46, none, .iaddrA 3 false 1 (.t 4) (.c (.int .i64 1))⟩, ⟨some 47, none, .load false 1 (.t 46)⟩, ⟨some 48, none, .conv .i64 (.t 47)⟩, ⟨some 49, none, .faddr false 1 1 (.t 7)⟩, ⟨some 50, none, .load false 1 (.t 49)⟩, ⟨some 51, none, .bin 0 .rem (.t 48) (.t 50)⟩, ⟨some 52, none, .iaddrA 3 false 1 (.t 4) (.c (.int .i64 2))⟩, ⟨some 53, none, .load false 1 (.t 52)⟩, ⟨some 54, none, .conv .i64 (.t 53)⟩, ⟨some 55, none, .bin 0 .rem (.t 54) (.c (.int .i64 3))⟩, ⟨some 56, none, .build [.int .i64 0, .int .i64 0, .int .i64 0] [(0, 1, (.t 45)), (1, 1, (.t 51)), (2, 1, (.t 55))]⟩, ⟨some 57, none, .buildSl 3 [.t 56]⟩, ⟨some 58, none, .append 3 (.t 39) (.t 57)⟩, ⟨some 59, none, .build [.int .i64 0, .int .i64 0, .nilsl] [(0, 1, (.t 33)), (1, 1, (.t 35)), (2, 1, (.t 58))]⟩, ⟨some 8, none, .alloc [.int .i64 0, .int .i64 0, .nilsl]⟩, ⟨none, none, .store 3 (.t 8) (.t 59)⟩])
  (.seq (.rega [[], [0], [], [2], [], [], [5], [4, 6], [1, 3, 7], [], [9, 8, 7, 0, 1, 2, 3, 4, 5, 6, 7, 8, 9]] [⟨some 60, none, .faddr false 1 0 (.t 7)⟩, ⟨some 61, none, .load false 1 (.t 60)⟩, ⟨some 62, none, .faddr false 1 1 (.t 7)⟩, ⟨some 63, none, .load false 1 (.t 62)⟩, ⟨some 64, none, .buildSl 3 []⟩, ⟨some 65, none, .faddr false 1 2 (.t 7)⟩, ⟨some 66, none, .load false 1 (.t 65)⟩, ⟨some 67, none, .appm 3 (.t 64) (.t 66)⟩, ⟨some 68, none, .build [.int .i64 0, .int .i64 0, .nilsl] [(0, 1, (.t 61)), (1, 1, (.t 63)), (2, 1, (.t 67))]⟩, ⟨some 9, none, .alloc [.int .i64 0, .int .i64 0, .nilsl]⟩, ⟨none, none, .store 3 (.t 9) (.t 68)⟩])
  (.seq (.seq (.reg [⟨some 69, none, .faddr false 1 2 (.t 9)⟩, ⟨some 70, none, .load false 1 (.t 69)⟩, ⟨some 71, none, .len false (.t 70)⟩, ⟨some 72, none, .bin 0 .gtr (.t 71) (.c (.int .i64 0))⟩])
  (.cond (.t 72) (.regd [⟨some 73, none, .faddr false 1 2 (.t 9)⟩, ⟨some 74, none, .load false 1 (.t 73)⟩, ⟨some 75, none, .mv (.t 2)⟩, ⟨some 76, none, .conv .i64 (.t 75)⟩, ⟨some 77, none, .faddr false 1 2 (.t 9)⟩, ⟨some 78, none, .load false 1 (.t 77)⟩, ⟨some 79, none, .len false (.t 78)⟩, ⟨some 80, none, .bin 0 .rem (.t 76) (.t 79)⟩, ⟨some 81, none, .iaddrS 3 (.t 74) (.t 80)⟩, ⟨some 82, none, .faddr false 1 2 (.t 81)⟩, ⟨none, none, .store 1 (.t 82) (.c (.int .i64 0))⟩]) (.skip)))
  (.seq (.reg [⟨some 83, none, .faddr false 1 1 (.t 7)⟩, ⟨some 84, none, .load false 1 (.t 83)⟩, ⟨some 85, none, .faddr false 1 0 (.t 7)⟩, ⟨some 86, none, .load false 1 (.t 85)⟩, ⟨some 87, none, .build [.int .i64 0, .int .i64 0, .nilsl] [(0, 1, (.t 84)), (1, 1, (.t 86))]⟩, ⟨some 10, none, .alloc [.int .i64 0, .int .i64 0, .nilsl]⟩, ⟨none, none, .store 3 (.t 10) (.t 87)⟩])
  (.seq (.seq (.reg [⟨some 88, none, .faddr false 1 2 (.t 7)⟩, ⟨some 89, none, .load false 1 (.t 88)⟩, ⟨some 90, none, .len false (.t 89)⟩, ⟨some 91, none, .bin 0 .sub (.t 90) (.c (.int .i64 1))⟩, ⟨some 11, none, .mv (.t 91)⟩])
  (.block 0 (.loop (.seq (.seq (.reg [⟨some 92, none, .mv (.t 11)⟩, ⟨some 93, none, .bin 0 .geq (.t 92) (.c (.int .i64 0))⟩])
  (.cond (.t 93) (.skip) (.exit 0)))
  (.seq (.block 1 (.seq (.reg [⟨some 96, none, .faddr false 1 2 (.t 7)⟩, ⟨some 97, none, .load false 1 (.t 96)⟩, ⟨some 98, none, .mv (.t 11)⟩, ⟨some 99, none, .iaddrS 3 (.t 97) (.t 98)⟩, ⟨some 100, none, .load true 3 (.t 99)⟩, ⟨some 12, none, .alloc [.int .i64 0, .int .i64 0, .int .i64 0]⟩, ⟨none, none, .store 3 (.t 12) (.t 100)⟩])
  (.seq (.reg [⟨some 101, none, .faddr false 1 2 (.t 12)⟩, ⟨some 102, none, .load false 1 (.t 101)⟩, ⟨some 13, none, .mv (.t 102)⟩])
  (.seq (.seq (.reg [⟨some 103, none, .mv (.t 13)⟩, ⟨some 104, none, .bin 0 .neq (.t 103) (.c (.int .i64 0))⟩])
  (.cond (.t 104) (.reg [⟨some 105, none, .mv (.t 13)⟩, ⟨some 106, none, .bin 0 .sub (.c (.int .i64 3)) (.t 105)⟩, ⟨some 13, none, .mv (.t 106)⟩]) (.skip)))
  (.reg [⟨some 107, none, .faddr false 1 2 (.t 10)⟩, ⟨some 108, none, .load false 1 (.t 107)⟩, ⟨some 109, none, .faddr false 1 1 (.t 12)⟩, ⟨some 110, none, .load false 1 (.t 109)⟩, ⟨some 111, none, .faddr false 1 0 (.t 12)⟩, ⟨some 112, none, .load false 1 (.t 111)⟩, ⟨some 113, none, .mv (.t 13)⟩, ⟨some 114, none, .build [.int .i64 0, .int .i64 0, .int .i64 0] [(0, 1, (.t 110)), (1, 1, (.t 112)), (2, 1, (.t 113))]⟩, ⟨some 115, none, .buildSl 3 [.t 114]⟩, ⟨some 116, none, .append 3 (.t 108) (.t 115)⟩, ⟨some 117, none, .faddr false 1 2 (.t 10)⟩, ⟨none, none, .store 1 (.t 117) (.t 116)⟩])))))
  (.reg [⟨some 94, none, .mv (.t 11)⟩, ⟨some 95, none, .bin 0 .sub (.t 94) (.c (.int .i64 1))⟩, ⟨some 11, none, .mv (.t 95)⟩]))))))
  (.seq (.reg [⟨some 119, none, .load true 3 (.t 7)⟩, ⟨some 120, none, .hcall 17 [.t 119]⟩, ⟨some 118, none, .mv (.t 120)⟩, ⟨some 121, none, .extract (.t 118) 0⟩, ⟨some 122, none, .extract (.t 118) 1⟩, ⟨some 14, none, .mv (.t 121)⟩, ⟨some 15, none, .mv (.t 122)⟩])
  (.seq (.reg [⟨some 124, none, .load true 3 (.t 8)⟩, ⟨some 125, none, .hcall 17 [.t 124]⟩, ⟨some 123, none, .mv (.t 125)⟩, ⟨some 126, none, .extract (.t 123) 0⟩, ⟨some 127, none, .extract (.t 123) 1⟩, ⟨some 16, none, .mv (.t 126)⟩, ⟨some 17, none, .mv (.t 127)⟩])
  (.seq (.reg [⟨some 129, none, .load true 3 (.t 9)⟩, ⟨some 130, none, .hcall 17 [.t 129]⟩, ⟨some 128, none, .mv (.t 130)⟩, ⟨some 131, none, .extract (.t 128) 0⟩, ⟨some 132, none, .extract (.t 128) 1⟩, ⟨some 18, none, .mv (.t 131)⟩, ⟨some 19, none, .mv (.t 132)⟩])
  (.seq (.reg [⟨some 134, none, .load true 3 (.t 10)⟩, ⟨some 135, none, .hcall 17 [.t 134]⟩, ⟨some 133, none, .mv (.t 135)⟩, ⟨some 136, none, .extract (.t 133) 0⟩, ⟨some 137, none, .extract (.t 133) 1⟩, ⟨some 20, none, .mv (.t 136)⟩, ⟨some 21, none, .mv (.t 137)⟩])
  (.seq (.reg [⟨some 139, none, .load true 3 (.t 7)⟩, ⟨some 140, none, .pcall 19 [.t 139]⟩, ⟨some 138, none, .mv (.t 140)⟩, ⟨some 141, none, .extract (.t 138) 0⟩, ⟨some 142, none, .extract (.t 138) 1⟩, ⟨some 22, none, .mv (.t 141)⟩, ⟨some 23, none, .mv (.t 142)⟩])
  (.seq (.reg [⟨some 144, none, .load true 3 (.t 8)⟩, ⟨some 145, none, .pcall 19 [.t 144]⟩, ⟨some 143, none, .mv (.t 145)⟩, ⟨some 146, none, .extract (.t 143) 0⟩, ⟨some 147, none, .extract (.t 143) 1⟩, ⟨some 24, none, .mv (.t 146)⟩, ⟨some 25, none, .mv (.t 147)⟩])
  (.seq (.reg [⟨some 149, none, .load true 3 (.t 9)⟩, ⟨some 150, none, .pcall 19 [.t 149]⟩, ⟨some 148, none, .mv (.t 150)⟩, ⟨some 151, none, .extract (.t 148) 0⟩, ⟨some 152, none, .extract (.t 148) 1⟩, ⟨some 26, none, .mv (.t 151)⟩, ⟨some 27, none, .mv (.t 152)⟩])
  (.seq (.reg [⟨some 154, none, .load true 3 (.t 10)⟩, ⟨some 155, none, .pcall 19 [.t 154]⟩, ⟨some 153, none, .mv (.t 155)⟩, ⟨some 156, none, .extract (.t 153) 0⟩, ⟨some 157, none, .extract (.t 153) 1⟩, ⟨some 28, none, .mv (.t 156)⟩, ⟨some 29, none, .mv (.t 157)⟩])
  (.seq (.seq (.reg [⟨some 158, none, .mv (.t 15)⟩, ⟨some 159, none, .bin 0 .neq (.t 158) (.c (.int .i64 0))⟩, ⟨some 160, none, .mv (.t 159)⟩, ⟨some 161, some (160, false), .mv (.t 17)⟩, ⟨some 162, some (160, false), .bin 0 .neq (.t 161) (.c (.int .i64 0))⟩, ⟨some 163, none, .pick (.t 160) (.c (.bool true)) (.t 162)⟩, ⟨some 164, none, .mv (.t 163)⟩, ⟨some 165, some (164, false), .mv (.t 19)⟩, ⟨some 166, some (164, false), .bin 0 .neq (.t 165) (.c (.int .i64 0))⟩, ⟨some 167, none, .pick (.t 164) (.c (.bool true)) (.t 166)⟩, ⟨some 168, none, .mv (.t 167)⟩, ⟨some 169, some (168, false), .mv (.t 21)⟩, ⟨some 170, some (168, false), .bin 0 .neq (.t 169) (.c (.int .i64 0))⟩, ⟨some 171, none, .pick (.t 168) (.c (.bool true)) (.t 170)⟩, ⟨some 172, none, .mv (.t 171)⟩, ⟨some 173, some (172, false), .mv (.t 23)⟩, ⟨some 174, some (172, false), .bin 0 .neq (.t 173) (.c (.int .i64 0))⟩, ⟨some 175, none, .pick (.t 172) (.c (.bool true)) (.t 174)⟩, ⟨some 176, none, .mv (.t 175)⟩, ⟨some 177, some (176, false), .mv (.t 25)⟩, ⟨some 178, some (176, false), .bin 0 .neq (.t 177) (.c (.int .i64 0))⟩, ⟨some 179, none, .pick (.t 176) (.c (.bool true)) (.t 178)⟩, ⟨some 180, none, .mv (.t 179)⟩, ⟨some 181, some (180, false), .mv (.t 27)⟩, ⟨some 182, some (180, false), .bin 0 .neq (.t 181) (.c (.int .i64 0))⟩, ⟨some 183, none, .pick (.t 180) (.c (.bool true)) (.t 182)⟩, ⟨some 184, none, .mv (.t 183)⟩, ⟨some 185, some (184, false), .mv (.t 29)⟩, ⟨some 186, some (184, false), .bin 0 .neq (.t 185) (.c (.int .i64 0))⟩, ⟨some 187, none, .pick (.t 184) (.c (.bool true)) (.t 186)⟩])
  (.cond (.t 187) (.seq (.reg [⟨some 6, none, .mv (.c (.bool false))⟩])
  (.ret)) (.skip)))
  (.seq (.reg [⟨some 188, none, .mv (.t 14)⟩, ⟨some 189, none, .un .not (.t 188)⟩, ⟨some 190, none, .mv (.t 189)⟩, ⟨some 191, some (190, false), .mv (.t 16)⟩, ⟨some 192, some (190, false), .mv (.t 191)⟩, ⟨some 193, some (192, true), .mv (.t 18)⟩, ⟨some 194, some (190, false), .pick (.t 192) (.t 193) (.c (.bool false))⟩, ⟨some 195, none, .pick (.t 190) (.c (.bool true)) (.t 194)⟩, ⟨some 196, none, .mv (.t 195)⟩, ⟨some 197, some (196, true), .mv (.t 14)⟩, ⟨some 198, some (196, true), .mv (.t 20)⟩, ⟨some 199, some (196, true), .bin 1 .eql (.t 197) (.t 198)⟩, ⟨some 200, none, .pick (.t 196) (.t 199) (.c (.bool false))⟩, ⟨some 201, none, .mv (.t 200)⟩, ⟨some 202, some (201, true), .mv (.t 24)⟩, ⟨some 203, some (201, true), .len false (.t 202)⟩, ⟨some 204, some (201, true), .mv (.t 22)⟩, ⟨some 205, some (201, true), .len false (.t 204)⟩, ⟨some 206, some (201, true), .bin 0 .leq (.t 203) (.t 205)⟩, ⟨some 207, none, .pick (.t 201) (.t 206) (.c (.bool false))⟩, ⟨some 208, none, .mv (.t 207)⟩, ⟨some 209, some (208, true), .mv (.t 26)⟩, ⟨some 210, some (208, true), .len false (.t 209)⟩, ⟨some 211, some (208, true), .mv (.t 22)⟩, ⟨some 212, some (208, true), .len false (.t 211)⟩, ⟨some 213, some (208, true), .bin 0 .leq (.t 210) (.t 212)⟩, ⟨some 214, none, .pick (.t 208) (.t 213) (.c (.bool false))⟩, ⟨some 215, none, .mv (.t 214)⟩, ⟨some 216, some (215, true), .mv (.t 28)⟩, ⟨some 217, some (215, true), .len false (.t 216)⟩, ⟨some 218, some (215, true), .mv (.t 22)⟩, ⟨some 219, some (215, true), .len false (.t 218)⟩, ⟨some 220, some (215, true), .bin 0 .eql (.t 217) (.t 219)⟩, ⟨some 221, none, .pick (.t 215) (.t 220) (.c (.bool false))⟩, ⟨some 222, none, .mv (.t 221)⟩, ⟨some 223, some (222, true), .pcall 15 []⟩, ⟨some 224, none, .pick (.t 222) (.t 223) (.c (.bool false))⟩, ⟨some 6, none, .mv (.t 224)⟩])
  (.ret)))))))))))))))))
def R11m : List ARes := [.t 6]
theorem ok11m : FnOk Try.prog 11 [67] pureM A11m R11m 225 := ⟨⟨Try.f11, _, Try.func11, rfl, rfl, by kernel_rfl, by kernel_rfl⟩, by kernel_rfl⟩

end Go.Proofs.Ytecbbbocjmdfgaa
set_option linter.unusedVariables false
set_option linter.unusedSimpArgs false
namespace Go.Proofs.Ytecbbbocjmdfgaa
open Go Fw

theorem nodup_le : ∀ {M N : List Nat}, M.Nodup → (∀ x ∈ M, x ∈ N) → M.length ≤ N.length
  | [], N, _, _ => Nat.zero_le _
  | a :: M, N, h, hs => by
    obtain ⟨h1, h2⟩ := List.nodup_cons.1 h
    have ha := hs a (by simp)
    have := nodup_le (M := M) (N := N.erase a) h2 fun x hx => (List.mem_erase_of_ne (fun e => h1 (by rw [← e]; exact hx))).2 (hs x (by simp [hx]))
    rw [List.length_erase_of_mem ha] at this
    have hpos : 0 < N.length := List.length_pos_of_mem ha
    rw [List.length_cons]; omega
def repB (B : Nat → Nat → Bool) (i : Nat) : Bool := !(List.range i).any fun j => B j i
theorem nc_reps {B : Nat → Nat → Bool} {n : Nat} : nc B n = ((List.range n).filter (repB B)).length := by
  unfold nc; rw [List.countP_eq_length_filter]; rfl
/-- pairwise apart, so no more than pieces -/
theorem nc_ge {B : Nat → Nat → Bool} {n : Nat} (h : Eqv B n) : ∀ (L : List Nat), (∀ x ∈ L, x < n) → L.Pairwise (fun x y => B x y = false) → L.length ≤ nc B n := by
  have key : ∀ (L : List Nat), (∀ x ∈ L, x < n) → L.Pairwise (fun x y => B x y = false) → ∃ M : List Nat, M.length = L.length ∧ M.Nodup ∧ (∀ m ∈ M, m ∈ (List.range n).filter (repB B)) ∧ ∀ m ∈ M, ∃ x ∈ L, B m x = true := by
    intro L
    induction L with
    | nil => intro _ _; exact ⟨[], rfl, List.nodup_nil, by simp, by simp⟩
    | cons a L ih =>
      intro hl hp
      obtain ⟨p1, p2⟩ := List.pairwise_cons.1 hp
      obtain ⟨M, m1, m2, m3, m4⟩ := ih (fun x hx => hl x (by simp [hx])) p2
      have ha := hl a (by simp)
      obtain ⟨ra, r1, r2, r3⟩ := least_of (p := fun x => B x a = true) (h.refl a ha)
      have hra : ra < n := by omega
      refine ⟨ra :: M, by simp [m1], List.nodup_cons.2 ⟨fun hm => ?_, m2⟩, fun m hm => ?_, fun m hm => ?_⟩
      · obtain ⟨x, hx, hb⟩ := m4 ra hm
        have hxn := hl x (by simp [hx])
        have := h.trans a ra x ha hra hxn (h.symm ra a hra ha r2) hb
        rw [p1 x hx] at this; cases this
      · rcases List.mem_cons.1 hm with rfl | hm
        · rw [List.mem_filter]
          refine ⟨by simpa using hra, ?_⟩
          show (!(List.range m).any fun j => B j m) = true
          rw [rep_iff]
          intro j hj
          cases hb : B j m with
          | false => rfl
          | true => exact absurd (h.trans j m a (by omega) hra ha hb r2) (r3 j hj)
        · exact m3 m hm
      · rcases List.mem_cons.1 hm with rfl | hm
        · exact ⟨a, by simp, r2⟩
        · obtain ⟨x, hx, hb⟩ := m4 m hm
          exact ⟨x, by simp [hx], hb⟩
  intro L hl hp
  obtain ⟨M, m1, m2, m3, _⟩ := key L hl hp
  rw [← m1, nc_reps]
  exact nodup_le m2 m3
theorem reps_apart {B : Nat → Nat → Bool} {n : Nat} : ((List.range n).filter (repB B)).Pairwise (fun x y => B x y = false) := by
  refine (List.Pairwise.imp_of_mem ?_ (List.Pairwise.filter (repB B) (List.pairwise_lt_range (n := n))))
  intro x y hx hy hxy
  have := (List.mem_filter.1 hy).2
  exact rep_iff.1 this x hxy
/-- pieces under other names -/
theorem nc_le_of {B B' : Nat → Nat → Bool} {n : Nat} (h' : Eqv B' n) {f : Nat → Nat} (hf : ∀ x, x < n → f x < n) (hb : ∀ x y, x < n → y < n → B x y = false → B' (f x) (f y) = false) : nc B n ≤ nc B' n := by
  have := nc_ge h' (((List.range n).filter (repB B)).map f) (fun z hz => by
    obtain ⟨x, hx, rfl⟩ := List.mem_map.1 hz
    exact hf x (by simpa using (List.mem_filter.1 hx).1)) (by
    rw [List.pairwise_map]
    refine List.Pairwise.imp_of_mem ?_ (reps_apart (B := B) (n := n))
    intro x y hx hy h
    exact hb x y (by simpa using (List.mem_filter.1 hx).1) (by simpa using (List.mem_filter.1 hy).1) h)
  rw [List.length_map, ← nc_reps] at this
  exact this
/-- a map that keeps arrows, back and forth: no more pieces there -/
theorem gm_le_of {R R' : Rk} (h : OkR R) (h' : OkR R') (hn : nR R = nR R') {f g : Nat → Nat} (hf : ∀ x, x < nR R → f x < nR R) (hg : ∀ x, x < nR R → g (f x) = x) (hE : ∀ x y, Ed R' x y → Ed R (g x) (g y)) : (gmR R).length ≤ (gmR R').length := by
  have hR : ∀ x y, Rt (Ed R') x y → Rt (Ed R) (g x) (g y) := fun x y k => by
    induction k with
    | refl => exact .refl _
    | tail _ e ih => exact ih.tail (hE _ _ e)
  rw [gm_len h, gm_len h', ← hn]
  have he := eqv_both h'
  rw [← hn] at he
  refine nc_le_of he hf fun x y hx hy hb => ?_
  cases hb2 : bothM (rcR R') (f x) (f y) with
  | false => rfl
  | true =>
    have := (both_iff h' (by rw [← hn]; exact hf x hx) (by rw [← hn]; exact hf y hy)).1 hb2
    have k1 := hR _ _ this.1
    have k2 := hR _ _ this.2
    rw [hg x hx, hg y hy] at k1 k2
    rw [(both_iff h hx hy).2 ⟨k1, k2⟩] at hb; cases hb
theorem gm_more {R R' : Rk} (h : OkR R) (h' : OkR R') (hn : nR R' = nR R) (hE : ∀ x y, Ed R x y → Ed R' x y) : (gmR R').length ≤ (gmR R).length :=
  gm_le_of (f := id) (g := id) h' h hn (fun _ hx => hx) (fun _ _ => rfl) hE
def firL (l : List Br) (k : Nat) : List Br := l.set k ((l.getD k (0, 0, 0)).1, (l.getD k (0, 0, 0)).2.1, 0)
theorem fir_ok {R : Rk} (h : OkR R) {k : Nat} (hk : k < R.b.length) : OkR (rkL R (firL R.b k)) := by
  refine ⟨h.r1, h.r6, h.c1, h.c6, fun b hb => ?_⟩
  rcases List.mem_or_eq_of_mem_set hb with hb | rfl
  · exact h.b b hb
  · obtain ⟨k1, k2, k3, k4, k5, k6⟩ := h.b _ (getD_mem hk)
    exact ⟨k1, k2, k3, k4, by show (0 : Int) ≤ 0; decide, by show (0 : Int) ≤ 2; decide⟩
theorem gm_firm {R : Rk} (h : OkR R) {k : Nat} (hk : k < R.b.length) : (gmR (rkL R (firL R.b k))).length ≤ (gmR R).length := by
  refine gm_more h (fir_ok h hk) rfl fun x y he => ?_
  obtain ⟨b, hb, he⟩ := he
  obtain ⟨j, hj, rfl⟩ := List.getElem_of_mem hb
  by_cases hjk : j = k
  · subst hjk
    have hgd : R.b.getD j (0, 0, 0) = R.b[j] := by rw [List.getD_eq_getElem?_getD, List.getElem?_eq_getElem hj]; rfl
    refine ⟨(R.b[j].1, R.b[j].2.1, 0), ?_, ?_⟩
    · show _ ∈ firL R.b j
      rw [firL, hgd]
      exact List.mem_iff_getElem.2 ⟨j, by simpa using hj, by simp⟩
    · rcases he with ⟨_, h1, h2⟩ | ⟨_, h1, h2⟩
      · exact .inl ⟨by show (0 : Int) ≠ 2; decide, h1, h2⟩
      · exact .inr ⟨by show (0 : Int) ≠ 1; decide, h1, h2⟩
  · refine ⟨R.b[j], ?_, he⟩
    show _ ∈ firL R.b k
    rw [firL]
    exact List.mem_iff_getElem.2 ⟨j, by simpa using hj, by rw [List.getElem_set_ne (fun e => hjk e.symm)]⟩
/-- rows for columns -/
def trB (b : Br) : Br := (b.2.1, b.1, if b.2.2 = 0 then 0 else 3 - b.2.2)
def trR (R : Rk) : Rk := ⟨R.c, R.r, R.b.reverse.map trB⟩
theorem tr_ok {R : Rk} (h : OkR R) : OkR (trR R) := by
  refine ⟨h.c1, h.c6, h.r1, h.r6, fun b hb => ?_⟩
  obtain ⟨d, hd, rfl⟩ := List.mem_map.1 hb
  obtain ⟨k1, k2, k3, k4, k5, k6⟩ := h.b d (List.mem_reverse.1 hd)
  refine ⟨k3, k4, k1, k2, ?_, ?_⟩
  · show (0 : Int) ≤ (if d.2.2 = 0 then 0 else 3 - d.2.2); split <;> omega
  · show (if d.2.2 = 0 then 0 else 3 - d.2.2) ≤ (2 : Int); split <;> omega
def swI (r c x : Nat) : Nat := if x < r then c + x else x - r
theorem gm_tr {R : Rk} (h : OkR R) : (gmR (trR R)).length = (gmR R).length := by
  have hr1 := h.r1
  have hc1 := h.c1
  have hn : nR R = R.r.toNat + R.c.toNat := rfl
  have hn' : nR (trR R) = R.c.toNat + R.r.toNat := rfl
  obtain ⟨r, hr⟩ : ∃ r, r = R.r.toNat := ⟨_, rfl⟩
  obtain ⟨c, hc⟩ : ∃ c, c = R.c.toNat := ⟨_, rfl⟩
  have hsw : ∀ a b x, x < a + b → swI b a (swI a b x) = x ∧ swI a b x < a + b := by
    intro a b x hx
    unfold swI
    by_cases h1 : x < a
    · rw [if_pos h1, if_neg (by omega)]; omega
    · rw [if_neg h1, if_pos (by omega)]; omega
  refine Nat.le_antisymm ?_ ?_
  · refine gm_le_of (f := swI c r) (g := swI r c) (tr_ok h) h (by omega) (fun x hx => by have := hsw c r x (by omega); omega) (fun x hx => (hsw c r x (by omega)).1) fun x y he => ?_
    obtain ⟨b, hb, he⟩ := he
    obtain ⟨k1, k2, k3, k4, k5, k6⟩ := h.b b hb
    refine ⟨trB b, List.mem_map.2 ⟨b, List.mem_reverse.2 hb, rfl⟩, ?_⟩
    have e0 : (trB b).1.toNat = b.2.1.toNat := rfl
    have e1 : (trB b).2.1.toNat = b.1.toNat := rfl
    have e2 : (trR R).r.toNat = c := hc.symm
    have e3 : (trB b).2.2 = if b.2.2 = 0 then 0 else 3 - b.2.2 := rfl
    unfold edge
    rw [e0, e1, e2, e3]
    rcases he with ⟨g, rfl, rfl⟩ | ⟨g, rfl, rfl⟩
    · right
      refine ⟨by split <;> omega, ?_, ?_⟩
      · unfold swI; rw [if_pos (by omega)]
      · unfold swI; rw [if_neg (by omega)]; omega
    · left
      refine ⟨by split <;> omega, ?_, ?_⟩
      · unfold swI; rw [if_neg (by omega)]; omega
      · unfold swI; rw [if_pos (by omega)]
  · refine gm_le_of (f := swI r c) (g := swI c r) h (tr_ok h) (by omega) (fun x hx => by have := hsw r c x (by omega); omega) (fun x hx => (hsw r c x (by omega)).1) fun x y he => ?_
    obtain ⟨b', hb', he⟩ := he
    obtain ⟨b, hb, rfl⟩ := List.mem_map.1 hb'
    have hb := List.mem_reverse.1 hb
    obtain ⟨k1, k2, k3, k4, k5, k6⟩ := h.b b hb
    refine ⟨b, hb, ?_⟩
    have e0 : (trB b).1.toNat = b.2.1.toNat := rfl
    have e1 : (trB b).2.1.toNat = b.1.toNat := rfl
    have e2 : (trR R).r.toNat = c := hc.symm
    have e3 : (trB b).2.2 = if b.2.2 = 0 then 0 else 3 - b.2.2 := rfl
    unfold edge at he ⊢
    rw [e0, e1, e2, e3] at he
    rcases he with ⟨g, rfl, rfl⟩ | ⟨g, rfl, rfl⟩
    · right
      refine ⟨by split at g <;> omega, ?_, ?_⟩
      · unfold swI; rw [if_pos (by omega)]; omega
      · unfold swI; rw [if_neg (by omega)]; omega
    · left
      refine ⟨by split at g <;> omega, ?_, ?_⟩
      · unfold swI; rw [if_neg (by omega)]; omega
      · unfold swI; rw [if_pos (by omega)]; omega
end Go.Proofs.Ytecbbbocjmdfgaa
set_option linter.unusedVariables false
set_option linter.unusedSimpArgs false
namespace Go.Proofs.Ytecbbbocjmdfgaa
open Go Fw

theorem appm_nil {hs : HS} {y : AV} (hy : asB y = some []) : aappm 3 hs (.sl 3 [] .exact) y = some (.sl 3 [] .exact, hs) := by
  rcases (asB_inv hy).2.1 with ⟨rfl, _⟩ | ⟨c, rfl⟩
  · rfl
  · rfl
theorem appm_brs {hs : HS} {y : AV} {l : List Br} (hy : asB y = some l) (hne : l ≠ []) (hl : l.length ≤ 1000) :
    aappm 3 hs (.sl 3 [] .exact) y = some (.msl true 3 hs.nh 0 l.length false, { hs with heap := fun i => if i = hs.nh then some (flat (brs l)) else hs.heap i, nh := hs.nh + 1 }) := by
  rcases (asB_inv hy).2.1 with ⟨rfl, rfl⟩ | ⟨c, rfl⟩
  · exact absurd rfl hne
  · have h1 : brs l ≠ [] := fun h => hne (List.map_eq_nil_iff.1 h)
    have h2 : (brs l).length = l.length := by simp [brs]
    simp only [aappm, aelemsH, aelems]
    rw [if_pos ⟨trivial, by simp [aszOk], by rw [h2]; omega⟩, if_neg h1, h2]
/-- the call of a pure function, as a call with memory -/
theorem PCall.fc {P : Program} {f : FuncId} {args : List AV} {r : AV} (h : PCall P f args r) (hs : HS) (hok : callOk P f = true) : FCall P f args hs fun e hs' => e = .ret r ∧ hs' = hs :=
  ⟨hok, fun c w vs hi hv => (h.sound hi hv).mono fun e w' ⟨v, c', h1, h2, h3, h4⟩ => ⟨.ret r, hs, c', ⟨rfl, rfl⟩, by subst h1; exact h2, h3, h4⟩⟩
/-- a rack, copied into memory that may be stored into -/
structure FW11 (R : Rk) (s0 s : AS) : Prop where
  env : ∀ k, k < 60 → k ≠ 9 → s.env k = s0.env k
  low : ∀ k, k < s0.hs.nh → s.hs.heap k = s0.hs.heap k
  nh : s0.hs.nh ≤ s.hs.nh
  ex : ∃ p i, s.env 9 = .ref p 0 ∧ s0.hs.nh ≤ p ∧ p < s.hs.nh ∧ s0.hs.nh ≤ i ∧ i < s.hs.nh ∧ p ≠ i ∧ s.hs.heap p = some [.int .i64 R.r, .int .i64 R.c, .msl true 3 i 0 R.b.length false] ∧ s.hs.heap i = some (flat (brs R.b))
theorem reg11 {C : PCtx} {R : Rk} {q : Nat} {y0 : AV} {s : AS} {Q : AEx → AS → Prop} (hy : asB y0 = some R.b) (hne : R.b ≠ []) (hl : R.b.length ≤ 1000) (e7 : s.env 7 = .ref q 0) (hq : s.hs.heap q = some [.int .i64 R.r, .int .i64 R.c, y0]) (hlt : q < s.hs.nh)
    (h2 : ∀ s', FW11 R s s' → At (Q .normal s')) : At (anyW Try.prog C [[], [0], [], [2], [], [], [5], [4, 6], [1, 3, 7], [], [9, 8, 7, 0, 1, 2, 3, 4, 5, 6, 7, 8, 9]] [⟨some 60, none, .faddr false 1 0 (.t 7)⟩, ⟨some 61, none, .load false 1 (.t 60)⟩, ⟨some 62, none, .faddr false 1 1 (.t 7)⟩, ⟨some 63, none, .load false 1 (.t 62)⟩, ⟨some 64, none, .buildSl 3 []⟩, ⟨some 65, none, .faddr false 1 2 (.t 7)⟩, ⟨some 66, none, .load false 1 (.t 65)⟩, ⟨some 67, none, .appm 3 (.t 64) (.t 66)⟩, ⟨some 68, none, .build [.int .i64 0, .int .i64 0, .nilsl] [(0, 1, (.t 61)), (1, 1, (.t 63)), (2, 1, (.t 67))]⟩, ⟨some 9, none, .alloc [.int .i64 0, .int .i64 0, .nilsl]⟩, ⟨none, none, .store 3 (.t 9) (.t 68)⟩] 11 [] Q s) := by
  have cp := fun hs : HS => appm_brs (hs := hs) hy hne hl
  refine At.any_to (FW11 R s) ?_ h2
  refine At.any_q 0 endN_p rfl rfl rfl ?_
  simp [e7, fa]
  refine At.any_r 1 endN_p rfl rfl ⟨q, 0, by simp, by simpa using hlt⟩ ?_
  simp [la, hq, apart]
  refine At.any_q 2 endN_p rfl rfl rfl ?_
  simp [e7, fa]
  refine At.any_r 3 endN_p rfl rfl ⟨q, 1, by simp, by simpa using hlt⟩ ?_
  simp [la, hq, apart]
  refine At.any_q 4 endN_p rfl rfl rfl ?_
  simp [astoAll]
  refine At.any_q 5 endN_p rfl rfl rfl ?_
  simp [e7, fa]
  refine At.any_r 6 endN_p rfl rfl ⟨q, 2, by simp, by simpa using hlt⟩ ?_
  simp [la, hq, apart]
  refine At.any_2 7 9 rfl rfl rfl ?_ ?_
  · simp [cp]
    refine At.any_q 8 endN_p rfl rfl rfl ?_
    simp [afill, si, ci, sm, cm, setL]
    refine At.any_o 9 rfl rfl ?_
    simp
    refine At.any_o 10 rfl rfl ?_
    simp [astore, sa, ca, sm, cm, setL]
    refine At.any_e rfl ?_
    simp
    exact At.of ⟨fun k hk hd => by have hm : ∀ m, 60 ≤ m → ¬ k = m := fun m h e => (by omega); simp [env_none, hm, hd], fun k hk => by simp [show ¬ k = s.hs.nh + 1 by omega, show ¬ k = s.hs.nh by omega], by simp; omega, s.hs.nh + 1, s.hs.nh, by simp [env_none], by simp, by simp, by simp, by simp; omega, by simp, by simp, by simp⟩
  · simp
    refine At.any_o 7 rfl rfl ?_
    simp [cp]
    refine At.any_q 8 endN_p rfl rfl rfl ?_
    simp [afill, si, ci, sm, cm, setL]
    refine At.any_o 10 rfl rfl ?_
    simp [astore, sa, ca, sm, cm, setL]
    refine At.any_e rfl ?_
    simp
    exact At.of ⟨fun k hk hd => by have hm : ∀ m, 60 ≤ m → ¬ k = m := fun m h e => (by omega); simp [env_none, hm, hd], fun k hk => by simp [show ¬ k = s.hs.nh + 1 by omega, show ¬ k = s.hs.nh by omega], by simp; omega, s.hs.nh, s.hs.nh + 1, by simp [env_none], by simp, by simp; omega, by simp, by simp, by simp, by simp, by simp⟩
/-- a rack with one more brace, copied -/
structure FW12 (R : Rk) (b : Br) (s0 s : AS) : Prop where
  env : ∀ k, k < 32 → k ≠ 8 → s.env k = s0.env k
  low : ∀ k, k < s0.hs.nh → s.hs.heap k = s0.hs.heap k
  nh : s0.hs.nh ≤ s.hs.nh
  ex : ∃ p y, s.env 8 = .ref p 0 ∧ s0.hs.nh ≤ p ∧ p < s.hs.nh ∧ s.hs.heap p = some [.int .i64 R.r, .int .i64 R.c, y] ∧ OwB s.hs y (R.b ++ [b])
theorem reg12 {C : PCtx} {R : Rk} {q : Nat} {y0 z : AV} {n0 n1 n2 : Int} {b : Br} {s : AS} {Q : AEx → AS → Prop} (hy : asB y0 = some R.b) (hl : R.b.length ≤ 900) (e7 : s.env 7 = .ref q 0) (e4 : s.env 4 = .ptr z) (hq : s.hs.heap q = some [.int .i64 R.r, .int .i64 R.c, y0]) (hlt : q < s.hs.nh)
    (ix0 : aidxA 3 false 1 (.ptr z) (.int .i64 0) = some (.ptr (.int .u8 n0))) (ix1 : aidxA 3 false 1 (.ptr z) (.int .i64 1) = some (.ptr (.int .u8 n1))) (ix2 : aidxA 3 false 1 (.ptr z) (.int .i64 2) = some (.ptr (.int .u8 n2)))
    (cv0 : IntKind.i64.wrap n0 = n0) (cv1 : IntKind.i64.wrap n1 = n1) (cv2 : IntKind.i64.wrap n2 = n2)
    (rm0 : abin 0 .rem (.int .i64 n0) (.int .i64 R.r) = some (.int .i64 b.1)) (rm1 : abin 0 .rem (.int .i64 n1) (.int .i64 R.c) = some (.int .i64 b.2.1)) (rm2 : n2.tmod 3 = b.2.2)
    (h2 : ∀ s', FW12 R b s s' → At (Q .normal s')) : At (anyW Try.prog C [[], [0], [], [2], [], [], [5], [4, 6], [], [8], [9], [], [11], [10, 12], [], [14], [15], [], [17], [16, 18], [], [20], [21], [22], [13, 19, 23], [24], [7, 25, 7], [1, 3, 26], [], [28, 27, 26, 0, 1, 2, 3, 4, 5, 6, 7, 8, 9, 10, 11, 12, 13, 14, 15, 16, 17, 18, 19, 20, 21, 22, 23, 24, 25, 26, 27, 28]] [⟨some 32, none, .faddr false 1 0 (.t 7)⟩, ⟨some 33, none, .load false 1 (.t 32)⟩, ⟨some 34, none, .faddr false 1 1 (.t 7)⟩, ⟨some 35, none, .load false 1 (.t 34)⟩, ⟨some 36, none, .buildSl 3 []⟩, ⟨some 37, none, .faddr false 1 2 (.t 7)⟩, ⟨some 38, none, .load false 1 (.t 37)⟩, ⟨some 39, none, .append 3 (.t 36) (.t 38)⟩, ⟨some 40, none, .iaddrA 3 false 1 (.t 4) (.c (.int .i64 0))⟩, ⟨some 41, none, .load false 1 (.t 40)⟩, ⟨some 42, none, .conv .i64 (.t 41)⟩, ⟨some 43, none, .faddr false 1 0 (.t 7)⟩, ⟨some 44, none, .load false 1 (.t 43)⟩, ⟨some 45, none, .bin 0 .rem (.t 42) (.t 44)⟩, ⟨some 46, none, .iaddrA 3 false 1 (.t 4) (.c (.int .i64 1))⟩, ⟨some 47, none, .load false 1 (.t 46)⟩, ⟨some 48, none, .conv .i64 (.t 47)⟩, ⟨some 49, none, .faddr false 1 1 (.t 7)⟩, ⟨some 50, none, .load false 1 (.t 49)⟩, ⟨some 51, none, .bin 0 .rem (.t 48) (.t 50)⟩, ⟨some 52, none, .iaddrA 3 false 1 (.t 4) (.c (.int .i64 2))⟩, ⟨some 53, none, .load false 1 (.t 52)⟩, ⟨some 54, none, .conv .i64 (.t 53)⟩, ⟨some 55, none, .bin 0 .rem (.t 54) (.c (.int .i64 3))⟩, ⟨some 56, none, .build [.int .i64 0, .int .i64 0, .int .i64 0] [(0, 1, (.t 45)), (1, 1, (.t 51)), (2, 1, (.t 55))]⟩, ⟨some 57, none, .buildSl 3 [.t 56]⟩, ⟨some 58, none, .append 3 (.t 39) (.t 57)⟩, ⟨some 59, none, .build [.int .i64 0, .int .i64 0, .nilsl] [(0, 1, (.t 33)), (1, 1, (.t 35)), (2, 1, (.t 58))]⟩, ⟨some 8, none, .alloc [.int .i64 0, .int .i64 0, .nilsl]⟩, ⟨none, none, .store 3 (.t 8) (.t 59)⟩] 30 [] Q s) := by
  have cp := fun hs : HS => copyO (hs := hs) hy (by omega)
  have hq3 : asV 3 (.sl 3 [.agg [.int .i64 b.1, .int .i64 b.2.1, .int .i64 b.2.2]] .exact) = some (brs [b]) := asV_sl (by simp)
  refine At.any_to (FW12 R b s) ?_ h2
  refine At.any_q 0 endN_p rfl rfl rfl ?_
  simp [e7, fa]
  refine At.any_r 1 endN_p rfl rfl ⟨q, 0, by simp, by simpa using hlt⟩ ?_
  simp [la, hq, apart]
  refine At.any_q 2 endN_p rfl rfl rfl ?_
  simp [e7, fa]
  refine At.any_r 3 endN_p rfl rfl ⟨q, 1, by simp, by simpa using hlt⟩ ?_
  simp [la, hq, apart]
  refine At.any_q 4 endN_p rfl rfl rfl ?_
  simp [astoAll]
  refine At.any_q 5 endN_p rfl rfl rfl ?_
  simp [e7, fa]
  refine At.any_r 6 endN_p rfl rfl ⟨q, 2, by simp, by simpa using hlt⟩ ?_
  simp [la, hq, apart]
  refine At.any_q 8 endN_p rfl rfl rfl ?_
  simp [e4, ix0]
  refine At.any_l 9 endN_p rfl rfl ⟨_, rfl⟩ ?_
  simp
  refine At.any_q 10 endN_p rfl rfl rfl ?_
  simp [cv0]
  refine At.any_q 11 endN_p rfl rfl rfl ?_
  simp [e7, fa]
  refine At.any_r 12 endN_p rfl rfl ⟨q, 0, by simp, by simpa using hlt⟩ ?_
  simp [la, hq, apart]
  refine At.any_q 13 endN_p rfl rfl rfl ?_
  simp [rm0]
  refine At.any_q 14 endN_p rfl rfl rfl ?_
  simp [e4, ix1]
  refine At.any_l 15 endN_p rfl rfl ⟨_, rfl⟩ ?_
  simp
  refine At.any_q 16 endN_p rfl rfl rfl ?_
  simp [cv1]
  refine At.any_q 17 endN_p rfl rfl rfl ?_
  simp [e7, fa]
  refine At.any_r 18 endN_p rfl rfl ⟨q, 1, by simp, by simpa using hlt⟩ ?_
  simp [la, hq, apart]
  refine At.any_q 19 endN_p rfl rfl rfl ?_
  simp [rm1]
  refine At.any_q 20 endN_p rfl rfl rfl ?_
  simp [e4, ix2]
  refine At.any_l 21 endN_p rfl rfl ⟨_, rfl⟩ ?_
  simp
  refine At.any_q 22 endN_p rfl rfl rfl ?_
  simp [cv2]
  refine At.any_q 23 endN_p rfl rfl rfl ?_
  simp [rm2]
  refine At.any_q 24 endN_p rfl rfl rfl ?_
  simp [afill, si, ci, setL]
  refine At.any_q 25 endN_p rfl rfl rfl ?_
  simp [astoAll, sa, ca]
  refine At.any_2 7 28 rfl rfl rfl ?_ ?_
  · obtain ⟨y1, hs1, b1, b2, b3⟩ := cp s.hs
    simp [b1]
    refine At.any_2 26 28 rfl rfl rfl ?_ ?_
    · obtain ⟨y2, hs2, d1, d2, d3⟩ := b2.app hq3 (by simp; omega)
      obtain ⟨c4, c5⟩ := d2.cells
      simp [d1]
      refine At.any_q 27 endN_p rfl rfl rfl ?_
      simp [afill, si, ci, c4, c5, setL]
      refine At.any_o 28 rfl rfl ?_
      simp
      refine At.any_o 29 rfl rfl ?_
      simp [astore, sa, ca, c4, c5, setL]
      refine At.any_e rfl ?_
      simp
      exact At.of ⟨fun k hk hd => by have hm : ∀ m, 32 ≤ m → ¬ k = m := fun m h e => (by omega); simp [env_none, hm, hd], fun k hk => by have z1 := d3.nh; have z2 := b3.nh; simp [show ¬ k = hs2.nh by omega, d3.heap, b3.heap], by have z1 := d3.nh; have z2 := b3.nh; simp; omega, hs2.nh, y2, by simp [env_none], by have z1 := d3.nh; have z2 := b3.nh; simp; omega, by simp, by simp, d2.cong rfl rfl⟩
    · obtain ⟨y2, hs2, d1, d2, d3⟩ := (b2.cong (hs' := ⟨fun k => if k = hs1.nh then some [.int .i64 0, .int .i64 0, .nilsl] else hs1.heap k, hs1.nh + 1, hs1.nt, hs1.tok⟩) rfl rfl).app hq3 (by simp; omega)
      obtain ⟨c4, c5⟩ := d2.cells
      simp
      refine At.any_o 26 rfl rfl ?_
      simp [d1]
      refine At.any_q 27 endN_p rfl rfl rfl ?_
      simp [afill, si, ci, c4, c5, setL]
      refine At.any_o 29 rfl rfl ?_
      simp [astore, sa, ca, c4, c5, setL, d3.heap]
      refine At.any_e rfl ?_
      simp
      exact At.of ⟨fun k hk hd => by have hm : ∀ m, 32 ≤ m → ¬ k = m := fun m h e => (by omega); simp [env_none, hm, hd], fun k hk => by have z1 := d3.nh; have z2 := b3.nh; simp at z1; simp [show ¬ k = hs1.nh by omega, d3.heap, b3.heap], by have z1 := d3.nh; have z2 := b3.nh; simp at z1; simp; omega, hs1.nh, y2, by simp [env_none], by have z2 := b3.nh; simp; omega, by have z1 := d3.nh; simp at z1; simp; omega, by simp [d3.heap], d2.cong rfl rfl⟩
  · simp
    obtain ⟨y1, hs1, b1, b2, b3⟩ := cp ⟨fun k => if k = s.hs.nh then some [.int .i64 0, .int .i64 0, .nilsl] else s.hs.heap k, s.hs.nh + 1, s.hs.nt, s.hs.tok⟩
    refine At.any_o 7 rfl rfl ?_
    simp [b1]
    obtain ⟨y2, hs2, d1, d2, d3⟩ := b2.app hq3 (by simp; omega)
    obtain ⟨c4, c5⟩ := d2.cells
    refine At.any_o 26 rfl rfl ?_
    simp [d1]
    refine At.any_q 27 endN_p rfl rfl rfl ?_
    simp [afill, si, ci, c4, c5, setL]
    refine At.any_o 29 rfl rfl ?_
    simp [astore, sa, ca, c4, c5, setL, d3.heap, b3.heap]
    refine At.any_e rfl ?_
    simp
    exact At.of ⟨fun k hk hd => by have hm : ∀ m, 32 ≤ m → ¬ k = m := fun m h e => (by omega); simp [env_none, hm, hd], fun k hk => by have z1 := d3.nh; have z2 := b3.nh; simp at z2; simp [show ¬ k = s.hs.nh by omega, d3.heap, b3.heap], by have z1 := d3.nh; have z2 := b3.nh; simp at z2; simp; omega, s.hs.nh, y2, by simp [env_none], by simp, by have z1 := d3.nh; have z2 := b3.nh; simp at z2; simp; omega, by simp [d3.heap, b3.heap], d2.cong rfl rfl⟩
end Go.Proofs.Ytecbbbocjmdfgaa
set_option linter.unusedVariables false
set_option linter.unusedSimpArgs false
namespace Go.Proofs.Ytecbbbocjmdfgaa
open Go Fw

noncomputable def D31 : PCtx := D26.add 19 SGpR
theorem D31ok : CtxOk Try.prog D31 := D26ok.add c19
@[simp] theorem D31_19 : D31 19 = SGpR := id rfl
@[simp] theorem D31_37 : D31 37 = SMade := id rfl
@[simp] theorem D31_15 : D31 15 = SWk := id rfl
/-- a rack, copied into memory that may be stored into, or without braces -/
structure FW13 (R : Rk) (s0 s : AS) : Prop where
  env : ∀ k, k < 60 → k ≠ 9 → s.env k = s0.env k
  low : ∀ k, k < s0.hs.nh → s.hs.heap k = s0.hs.heap k
  nh : s0.hs.nh ≤ s.hs.nh
  ex : ∃ p i z, s.env 9 = .ref p 0 ∧ s0.hs.nh ≤ p ∧ p < s.hs.nh ∧ s0.hs.nh ≤ i ∧ i < s.hs.nh ∧ s.hs.heap p = some [.int .i64 R.r, .int .i64 R.c, z] ∧
    ((R.b = [] ∧ z = .sl 3 [] .exact) ∨ (R.b ≠ [] ∧ z = .msl true 3 i 0 R.b.length false ∧ p ≠ i ∧ s.hs.heap i = some (flat (brs R.b))))
theorem reg11n {C : PCtx} {R : Rk} {q : Nat} {y0 : AV} {s : AS} {Q : AEx → AS → Prop} (hy : asB y0 = some R.b) (hne : R.b = []) (e7 : s.env 7 = .ref q 0) (hq : s.hs.heap q = some [.int .i64 R.r, .int .i64 R.c, y0]) (hlt : q < s.hs.nh)
    (h2 : ∀ s', FW13 R s s' → At (Q .normal s')) : At (anyW Try.prog C [[], [0], [], [2], [], [], [5], [4, 6], [1, 3, 7], [], [9, 8, 7, 0, 1, 2, 3, 4, 5, 6, 7, 8, 9]] [⟨some 60, none, .faddr false 1 0 (.t 7)⟩, ⟨some 61, none, .load false 1 (.t 60)⟩, ⟨some 62, none, .faddr false 1 1 (.t 7)⟩, ⟨some 63, none, .load false 1 (.t 62)⟩, ⟨some 64, none, .buildSl 3 []⟩, ⟨some 65, none, .faddr false 1 2 (.t 7)⟩, ⟨some 66, none, .load false 1 (.t 65)⟩, ⟨some 67, none, .appm 3 (.t 64) (.t 66)⟩, ⟨some 68, none, .build [.int .i64 0, .int .i64 0, .nilsl] [(0, 1, (.t 61)), (1, 1, (.t 63)), (2, 1, (.t 67))]⟩, ⟨some 9, none, .alloc [.int .i64 0, .int .i64 0, .nilsl]⟩, ⟨none, none, .store 3 (.t 9) (.t 68)⟩] 11 [] Q s) := by
  have cp := fun hs : HS => appm_nil (hs := hs) (hne ▸ hy)
  refine At.any_to (FW13 R s) ?_ h2
  refine At.any_q 0 endN_p rfl rfl rfl ?_
  simp [e7, fa]
  refine At.any_r 1 endN_p rfl rfl ⟨q, 0, by simp, by simpa using hlt⟩ ?_
  simp [la, hq, apart]
  refine At.any_q 2 endN_p rfl rfl rfl ?_
  simp [e7, fa]
  refine At.any_r 3 endN_p rfl rfl ⟨q, 1, by simp, by simpa using hlt⟩ ?_
  simp [la, hq, apart]
  refine At.any_q 4 endN_p rfl rfl rfl ?_
  simp [astoAll]
  refine At.any_q 5 endN_p rfl rfl rfl ?_
  simp [e7, fa]
  refine At.any_r 6 endN_p rfl rfl ⟨q, 2, by simp, by simpa using hlt⟩ ?_
  simp [la, hq, apart]
  refine At.any_2 7 9 rfl rfl rfl ?_ ?_
  · simp [cp]
    refine At.any_q 8 endN_p rfl rfl rfl ?_
    simp [afill, si, ci, setL]
    refine At.any_o 9 rfl rfl ?_
    simp
    refine At.any_o 10 rfl rfl ?_
    simp [astore, sa, ca, setL]
    refine At.any_e rfl ?_
    simp
    exact At.of ⟨fun k hk hd => by have hm : ∀ m, 60 ≤ m → ¬ k = m := fun m h e => (by omega); simp [env_none, hm, hd], fun k hk => by simp [show ¬ k = s.hs.nh by omega], by simp, s.hs.nh, s.hs.nh, _, by simp [env_none], by simp, by simp, by simp, by simp, by simp, .inl ⟨hne, rfl⟩⟩
  · simp
    refine At.any_o 7 rfl rfl ?_
    simp [cp]
    refine At.any_q 8 endN_p rfl rfl rfl ?_
    simp [afill, si, ci, setL]
    refine At.any_o 10 rfl rfl ?_
    simp [astore, sa, ca, setL]
    refine At.any_e rfl ?_
    simp
    exact At.of ⟨fun k hk hd => by have hm : ∀ m, 60 ≤ m → ¬ k = m := fun m h e => (by omega); simp [env_none, hm, hd], fun k hk => by simp [show ¬ k = s.hs.nh by omega], by simp, s.hs.nh, s.hs.nh, _, by simp [env_none], by simp, by simp, by simp, by simp, by simp, .inl ⟨hne, rfl⟩⟩
theorem reg13 {C : PCtx} {R : Rk} {q : Nat} {y0 : AV} {s : AS} {Q : AEx → AS → Prop} (hy : asB y0 = some R.b) (hl : R.b.length ≤ 1000) (e7 : s.env 7 = .ref q 0) (hq : s.hs.heap q = some [.int .i64 R.r, .int .i64 R.c, y0]) (hlt : q < s.hs.nh)
    (h2 : ∀ s', FW13 R s s' → At (Q .normal s')) : At (anyW Try.prog C [[], [0], [], [2], [], [], [5], [4, 6], [1, 3, 7], [], [9, 8, 7, 0, 1, 2, 3, 4, 5, 6, 7, 8, 9]] [⟨some 60, none, .faddr false 1 0 (.t 7)⟩, ⟨some 61, none, .load false 1 (.t 60)⟩, ⟨some 62, none, .faddr false 1 1 (.t 7)⟩, ⟨some 63, none, .load false 1 (.t 62)⟩, ⟨some 64, none, .buildSl 3 []⟩, ⟨some 65, none, .faddr false 1 2 (.t 7)⟩, ⟨some 66, none, .load false 1 (.t 65)⟩, ⟨some 67, none, .appm 3 (.t 64) (.t 66)⟩, ⟨some 68, none, .build [.int .i64 0, .int .i64 0, .nilsl] [(0, 1, (.t 61)), (1, 1, (.t 63)), (2, 1, (.t 67))]⟩, ⟨some 9, none, .alloc [.int .i64 0, .int .i64 0, .nilsl]⟩, ⟨none, none, .store 3 (.t 9) (.t 68)⟩] 11 [] Q s) := by
  by_cases hne : R.b = []
  · exact reg11n hy hne e7 hq hlt h2
  · refine reg11 hy hne hl e7 hq hlt fun s' ⟨f1, f2, f3, p, i, g1, g2, g3, g4, g5, g6, g7, g8⟩ => h2 s' ⟨f1, f2, f3, p, i, _, g1, g2, g3, g4, g5, g7, .inr ⟨hne, rfl, g6, g8⟩⟩
/-- the firm rack, as it lies in memory -/
def Firm (Rf : Rk) (p i : Nat) (hp : Nat → Option (List AV)) : Prop :=
  ∃ z, hp p = some [.int .i64 Rf.r, .int .i64 Rf.c, z] ∧ (asB z = some Rf.b ∨ (z = .msl true 3 i 0 Rf.b.length false ∧ p ≠ i ∧ hp i = some (flat (brs Rf.b))))
theorem Firm.cong {Rf : Rk} {p i : Nat} {hp hp' : Nat → Option (List AV)} (h : Firm Rf p i hp) (e1 : hp' p = hp p) (e2 : hp' i = hp i) : Firm Rf p i hp' := by
  obtain ⟨z, h1, h2⟩ := h
  exact ⟨z, by rw [e1]; exact h1, by rw [e2]; exact h2⟩
theorem flat_brs_len (l : List Br) : (flat (brs l)).length = l.length * 3 := by
  induction l with
  | nil => rfl
  | cons b l ih => 
    have : flat (brs (b :: l)) = [AV.int .i64 b.1, .int .i64 b.2.1, .int .i64 b.2.2] ++ flat (brs l) := rfl
    rw [this, List.length_append, ih]; simp; omega
theorem flat_brs_set : ∀ (l : List Br) (k : Nat), k < l.length → setL (flat (brs l)) (k * 3 + 2) [.int .i64 0] = flat (brs (firL l k))
  | [], k, h => absurd h (by simp)
  | b :: l, 0, _ => rfl
  | b :: l, k + 1, h => by
    have e1 : flat (brs (b :: l)) = .int .i64 b.1 :: .int .i64 b.2.1 :: .int .i64 b.2.2 :: flat (brs l) := rfl
    have e2 : firL (b :: l) (k + 1) = b :: firL l k := by simp [firL]
    have e3 : flat (brs (b :: firL l k)) = .int .i64 b.1 :: .int .i64 b.2.1 :: .int .i64 b.2.2 :: flat (brs (firL l k)) := rfl
    have ih := flat_brs_set l k (by simpa using h)
    rw [e1, e2, e3, ← ih, show (k + 1) * 3 + 2 = (k * 3 + 2) + 3 by omega]
    rfl
theorem mcont_brs (l : List Br) : mcont true 3 0 l.length (flat (brs l)) = some (brs l) := by
  unfold mcont
  rw [if_pos ⟨by rw [flat_brs_len]; omega, .inl rfl⟩]
  congr 1
  refine List.ext_getElem (by simp [brs]) fun k h1 h2 => ?_
  have key : ∀ (l : List Br) (k : Nat) (h : k < (brs l).length), ((flat (brs l)).drop (k * 3)).take 3 = (match (brs l)[k] with | .agg xs => xs | x => [x]) := by
    intro l
    induction l with
    | nil => intro k h; simp [brs] at h
    | cons b l ih =>
      intro k h
      have e1 : flat (brs (b :: l)) = .int .i64 b.1 :: .int .i64 b.2.1 :: .int .i64 b.2.2 :: flat (brs l) := rfl
      cases k with
      | zero => rfl
      | succ k =>
        have := ih k (by simpa [brs] using h)
        rw [e1, show (k + 1) * 3 = k * 3 + 3 by omega]
        exact this
  have hk : k < l.length := by simpa using h1
  have e : (brs l)[k] = .agg [.int .i64 l[k].1, .int .i64 l[k].2.1, .int .i64 l[k].2.2] := by simp [brs]
  have hkey := key l k h2
  rw [e] at hkey ⊢
  simp only [List.getElem_map, List.getElem_range, if_true, Nat.zero_add]
  rw [hkey]
theorem firm_stiff {Rf : Rk} {p i : Nat} {hs : HS} (h : Firm Rf p i hs.heap) (hl : Rf.b.length ≤ 1000) : ∃ z, hs.heap p = some [.int .i64 Rf.r, .int .i64 Rf.c, z] ∧
    FCall Try.prog 17 [.agg [.int .i64 Rf.r, .int .i64 Rf.c, z]] hs fun e hs' => e = .ret (stV Rf) ∧ (∃ z', hs'.heap p = some [.int .i64 Rf.r, .int .i64 Rf.c, z'] ∧ asB z' = some Rf.b) ∧ (∀ k, k ≠ p → k ≠ i → hs'.heap k = hs.heap k) ∧ hs'.nh = hs.nh := by
  obtain ⟨z, h1, h2⟩ := h
  refine ⟨z, h1, ?_⟩
  rcases h2 with h2 | ⟨rfl, hne, h3⟩
  · have := PCall.fc (p17 (asR_mk (r := Rf.r) (c := Rf.c) h2)) hs (by kernel_rfl)
    refine this.mono ?_
    rintro e hs' ⟨rfl, rfl⟩
    exact ⟨rfl, ⟨z, h1, h2⟩, fun _ _ _ => rfl, rfl⟩
  · have hz : asB (.sl 3 (brs Rf.b) .shared) = some Rf.b := asB_sl (by omega)
    have := FCall.thaw (p17 (asR_mk (r := Rf.r) (c := Rf.c) hz)) h3 (mcont_brs _) h1 hne (by kernel_rfl)
    refine this.mono ?_
    rintro e hs' ⟨rfl, rfl⟩
    exact ⟨rfl, ⟨_, by simp, hz⟩, fun k k1 k2 => by simp [k1, k2], rfl⟩
theorem At.cut {P : Program} {C : PCtx} {a : ACode} {Q : AEx → AS → Prop} {s : AS} (I : AS → Prop) (h1 : ∀ Q' : AEx → AS → Prop, (∀ s', I s' → At (Q' .normal s')) → At (awp P C a Q' s)) (h2 : ∀ s', I s' → At (Q .normal s')) : At (awp P C a Q s) := h1 Q h2
theorem At.appB {hs : HS} {y q : AV} {l m : List Br} {K : AV × HS → Prop} (hO : OwB hs y l) (hq : asV 3 q = some (brs m)) (hl : l.length + m.length ≤ 100000)
    (k : ∀ y' hs', OwB hs' y' (l ++ m) → SameMem hs hs' → At (K (y', hs'))) : At (optK (aappend 3 hs y q) K) := by
  obtain ⟨y', hs', h1, h2, h3⟩ := hO.app hq hl
  rw [h1]; exact k y' hs' h2 h3
/-- where the three racks lie -/
structure Mid11 (R : Rk) (bb : Br) (Rf : Rk) (q p8 p9 i : Nat) (y0 y8 : AV) (s : AS) : Prop where
  e6 : s.env 6 = .bool false
  e7 : s.env 7 = .ref q 0
  e8 : s.env 8 = .ref p8 0
  e9 : s.env 9 = .ref p9 0
  hq : s.hs.heap q = some [.int .i64 R.r, .int .i64 R.c, y0]
  h8 : s.hs.heap p8 = some [.int .i64 R.r, .int .i64 R.c, y8]
  firm : Firm Rf p9 i s.hs.heap
  l7 : q < s.hs.nh
  l8 : p8 < s.hs.nh
  l9 : p9 < s.hs.nh
  li : i < s.hs.nh
theorem msl_len {ag : Bool} {sz i off len : Nat} {ex : Bool} : alenK false (.msl ag sz i off len ex) = some (.int .i64 len) := rfl
def trT (R : Rk) (j : Nat) : List Br := (R.b.reverse.take j).map trB
set_option maxRecDepth 100000 in
theorem p11 {x : AV} {a b : Nat} {l : List Nt} (hx : IsSh x a b l) {n0 n1 n2 w : Int} (h0 : 0 ≤ n0 ∧ n0 ≤ 255) (h1 : 0 ≤ n1 ∧ n1 ≤ 255) (h2 : 0 ≤ n2 ∧ n2 ≤ 255) (hw : 0 ≤ w ∧ w ≤ 255) :
    PCall Try.prog 11 [x, .agg [.int .u8 n0, .int .u8 n1, .int .u8 n2], .int .u8 w] (.bool true) := by
  obtain ⟨R, hR⟩ : ∃ R, R = mkR a b l true := ⟨_, rfl⟩
  have hv : asR (mkV a b l true) = some R := by rw [hR]; exact asR_mkV a b l true
  have hok : OkR R := by rw [hR]; exact mkR_ok a b l true
  have hlen : R.b.length ≤ 9 := by rw [hR]; exact mkR_len a b l true
  have hS37 := SMade_i hx true
  obtain ⟨y0, hV, hy⟩ := asR_inv hv
  rw [hV] at hv hS37
  have sx : x.sto = true := by obtain ⟨⟨z, rfl, hz⟩, _⟩ := hx; rfl
  have lx : ∀ h, aload h true 3 (.ptr x) = some x := by obtain ⟨⟨z, rfl, hz⟩, _⟩ := hx; exact fun _ => rfl
  obtain ⟨hyc, hys⟩ := asB_cells hy
  have hlz : ∀ h, aload h false 1 (.ptr y0) = some y0 := by
    intro h
    rcases (asB_inv hy).2.1 with ⟨e, _⟩ | ⟨c, e⟩ <;> rw [e] <;> rfl
  have hr1 := hok.r1
  have hc1 := hok.c1
  have hr6 := hok.r6
  have hc6 := hok.c6
  obtain ⟨bb, hbb⟩ : ∃ bb : Br, bb = (n0.tmod R.r, n1.tmod R.c, n2.tmod 3) := ⟨_, rfl⟩
  have b0 : bb.1 = n0.tmod R.r := by rw [hbb]
  have b1 : bb.2.1 = n1.tmod R.c := by rw [hbb]
  have b2 : bb.2.2 = n2.tmod 3 := by rw [hbb]
  have hbok : okB R.r R.c bb := by
    have t0 := Int.tmod_lt_of_pos n0 (show 0 < R.r by omega)
    have t1 := Int.tmod_lt_of_pos n1 (show 0 < R.c by omega)
    have t2 := Int.tmod_lt_of_pos n2 (show (0 : Int) < 3 by omega)
    have s0 := Int.tmod_nonneg R.r h0.1
    have s1 := Int.tmod_nonneg R.c h1.1
    have s2 := Int.tmod_nonneg 3 h2.1
    refine ⟨?_, ?_, ?_, ?_, ?_, ?_⟩ <;> omega
  refine PCall.of D31ok ok11m (by simp) rfl fun hs' hba => ?_
  generalize hq : hs'.nh = q
  simp [A11m, R11m, sx, lx, D31_37, hS37, astoAll, afill, si, ci, sa, ca, setL, astore, env_none, hq, hyc, hys]
  refine reg12 (q := q) (R := R) (b := bb) (y0 := y0) (z := .agg [.int .u8 n0, .int .u8 n1, .int .u8 n2]) (n0 := n0) (n1 := n1) (n2 := n2) hy (by omega) ?_ ?_ ?_ ?_ rfl rfl rfl (wrap64 (by omega) (by omega)) (wrap64 (by omega) (by omega)) (wrap64 (by omega) (by omega)) ?_ ?_ b2.symm ?_
  · simp [env_none]
  · simp [env_none]
  · simp
  · simp
  · rw [abin_rem (by omega), b0]
  · rw [abin_rem (by omega), b1]
  rintro s2 ⟨g1, glow, gnh, p8, y8, g8, gp8a, gp8b, gp8, go8⟩
  have hO8 := go8.asb
  have q7 := g1 7 (by omega) (by omega)
  have q6 := g1 6 (by omega) (by omega)
  have q2 := g1 2 (by omega) (by omega)
  have qh := glow q (by simp)
  simp [env_none] at q7 q6 q2 qh gnh gp8a
  simp
  refine reg13 (q := q) (R := R) (y0 := y0) hy (by omega) q7 qh (by omega) ?_
  rintro s3 ⟨f1, flow, fnh, p9, i, z, f9, fp9a, fp9b, fia, fib, fp9, fz⟩
  have r7 := (f1 7 (by omega) (by omega)).trans q7
  have r6 := (f1 6 (by omega) (by omega)).trans q6
  have r2 := (f1 2 (by omega) (by omega)).trans q2
  have r8 := (f1 8 (by omega) (by omega)).trans g8
  have rh := (flow q (by omega)).trans qh
  have rh8 := (flow p8 (by omega)).trans gp8
  rw [At.thenQ_n, At.awp_seq]
  refine At.cut (fun s => ∃ Rf, OkR Rf ∧ Rf.r = R.r ∧ Rf.c = R.c ∧ Rf.b.length ≤ 9 ∧ (gmR Rf).length ≤ (gmR R).length ∧ Mid11 R bb Rf q p8 p9 i y0 y8 s) ?_ ?_
  · intro Q' hQ'
    rcases fz with ⟨hn, rfl⟩ | ⟨hn, rfl, hpi, hfi⟩
    · simp [f9, fa, la, fp9, apart]
      refine hQ' _ ⟨R, hok, rfl, rfl, hlen, Nat.le_refl _, ?_⟩
      refine ⟨?_, ?_, ?_, ?_, rh, rh8, ⟨_, fp9, .inl (by rw [hn]; rfl)⟩, ?_, ?_, ?_, ?_⟩ <;> simp [r6, r7, r8, f9] <;> omega
    · have hpos : 0 < R.b.length := List.length_pos_iff.2 hn
      obtain ⟨k, hk⟩ : ∃ k : Nat, k = w.toNat % R.b.length := ⟨_, rfl⟩
      have hkl : k < R.b.length := by rw [hk]; exact Nat.mod_lt _ hpos
      have hrem : w.tmod (R.b.length : Int) = (k : Int) := by
        obtain ⟨m, rfl⟩ : ∃ m : Nat, w = m := ⟨w.toNat, by omega⟩
        rw [hk]; rfl
      have hwr : IntKind.i64.wrap w = w := wrap64 (by omega) (by omega)
      have hne0 : ¬ (R.b.length : Int) = 0 := by omega
      have hix : aidxS 3 (.msl true 3 i 0 R.b.length false) (.int .i64 (k : Int)) = some (.ref i (k * 3)) := by
        simp only [aidxS]; rw [if_pos ⟨trivial, by omega, by omega⟩]; simp
      have hst := flat_brs_set R.b k hkl
      have hstore : ∀ hp : Nat → Option (List AV), hp i = some (flat (brs R.b)) → astore hp 1 (.ref i (k * 3 + 2)) (.int .i64 0) = some (fun j => if j = i then some (flat (brs (firL R.b k))) else hp j) := by
        intro hp h
        rw [← hst, store_cell h (by rw [flat_brs_len]; omega) rfl]; rfl
      have hrm : abin 0 .rem (.int .i64 w) (.int .i64 (R.b.length : Int)) = some (.int .i64 (k : Int)) := by rw [abin_rem hne0, hrem]
      simp [f9, fa, la, fp9, apart, msl_len, hpos, r2, hwr, hrm, hix, hstore _ hfi]
      refine hQ' _ ⟨rkL R (firL R.b k), fir_ok hok hkl, rfl, rfl, by show (firL R.b k).length ≤ 9; simp [firL]; omega, gm_firm hok hkl, ?_⟩
      refine ⟨?_, ?_, ?_, ?_, ?_, ?_, ⟨_, by simp [hpi, fp9, rkL]; rfl, .inr ⟨by simp [rkL, firL], hpi, by simp [rkL]⟩⟩, ?_, ?_, ?_, ?_⟩
      all_goals simp [r6, r7, r8, f9, rh, rh8, show ¬ q = i by omega, show ¬ p8 = i by omega]
      all_goals omega
  rintro s4 ⟨Rf, okf, efr, efc, hlf, hgf, ⟨e6, e7, e8, e9, hq4, h8, hfirm, l7, l8, l9, li⟩⟩
  generalize hp10 : s4.hs.nh = p10 at *
  have hwr1 : IntKind.i64.wrap ((R.b.length : Int) - 1) = (R.b.length : Int) - 1 := wrap64 (by omega) (by omega)
  simp [e7, fa, la, hq4, apart, afill, si, ci, setL, astore, sa, ca, env_none, hp10, show ¬ q = p10 by omega, blen hy, hwr1]
  refine At.loop (fun (j : Nat) s => j ≤ R.b.length ∧ s.env 6 = .bool false ∧ s.env 7 = .ref q 0 ∧ s.env 8 = .ref p8 0 ∧ s.env 9 = .ref p9 0 ∧ s.env 10 = .ref p10 0 ∧ s.env 11 = .int .i64 ((R.b.length : Int) - 1 - (j : Int)) ∧ p10 < s.hs.nh ∧ (∀ k, k < p10 → s.hs.heap k = s4.hs.heap k) ∧ ∃ y, s.hs.heap p10 = some [.int .i64 R.c, .int .i64 R.r, y] ∧ OwB s.hs y (trT R j)) (fun j => R.b.length - j) 0 ?_ ?_
  · have h0 : OwB s4.hs .nilsl [] := ⟨trivial, rfl, rfl, rfl⟩
    simp [e6, e7, e8, e9]
    refine ⟨fun k hk => by simp [show ¬ k = p10 by omega], ?_⟩
    exact h0.cong rfl rfl
  rintro N j s hN ⟨hj, e6, e7, e8, e9, e10, e11, hlt, hlow, y, hy10, hO⟩
  have hsq : s.hs.heap q = some [.int .i64 R.r, .int .i64 R.c, y0] := (hlow q (by omega)).trans hq4
  simp [e11]
  refine At.dec (fun hl1 => ?_) (fun hl1 => ?_)
  · obtain ⟨ix, hix⟩ : ∃ ix : Nat, ix = R.b.length - 1 - j := ⟨_, rfl⟩
    have hixl : ix < R.b.length := by omega
    have hixe : (R.b.length : Int) - 1 - (j : Int) = (ix : Int) := by omega
    have hbi := bidx hy hixl (k := .i64)
    have hrev : R.b.reverse.take (j + 1) = R.b.reverse.take j ++ [R.b[ix]] := by
      rw [take_snoc (show j < R.b.reverse.length by simp; omega)]
      congr 2
      rw [List.getElem_reverse]
      congr 1; omega
    have hst : trT R (j + 1) = trT R j ++ [trB R.b[ix]] := by rw [trT, hrev, List.map_append]; rfl
    have hwn : IntKind.i64.wrap ((ix : Int) - 1) = (R.b.length : Int) - 1 - ((j + 1 : Nat) : Int) := by rw [wrap64 (by omega) (by omega)]; omega
    obtain ⟨m1, m2, m3, m4, m5, m6⟩ : okB R.r R.c R.b[ix] := hok.b _ (List.getElem_mem hixl)
    obtain ⟨d, hd0⟩ : ∃ d, d = R.b[ix] := ⟨_, rfl⟩
    rw [← hd0] at hbi hst m1 m2 m3 m4 m5 m6
    rw [hixe] at e11
    have hlO : (trT R j).length + 1 ≤ 100000 := by simp [trT]; omega
    by_cases hd : d.2.2 = 0
    · have htr : trB d = (d.2.1, d.1, 0) := by simp [trB, hd]
      have hq3 : asV 3 (.sl 3 [.agg [.int .i64 d.2.1, .int .i64 d.1, .int .i64 0]] .exact) = some (brs [trB d]) := by rw [htr]; exact asV_sl (by simp)
      simp [e7, e10, e11, fa, la, lpa, hsq, apart, hlz, hbi, afill, si, ci, setL, astore, sa, ca, astoAll, env_none, hd, hy10, show ¬ p10 = s.hs.nh by omega]
      refine At.appB (hO.cong rfl rfl) hq3 hlO ?_
      rintro y' hs5 o1 o2
      obtain ⟨c1, c2⟩ := o1.cells
      have z1 := o2.nh
      simp at z1
      simp [e10, e11, fa, o2.heap, hy10, show ¬ p10 = s.hs.nh by omega, c1, c2, setL, astore, hwn]
      refine hN (j + 1) _ (by omega) ⟨by omega, ?_⟩
      rw [hst]
      simp [e6, e7, e8, e9, e10]
      refine ⟨by omega, fun k hk => ?_, o1.cong rfl rfl⟩
      simp [show ¬ k = p10 by omega, o2.heap, show ¬ k = s.hs.nh by omega]
      exact hlow k hk
    · have hk : IntKind.i64.wrap (3 - d.2.2) = 3 - d.2.2 := wrap64 (by omega) (by omega)
      have htr : trB d = (d.2.1, d.1, 3 - d.2.2) := by simp [trB, hd]
      have hq3 : asV 3 (.sl 3 [.agg [.int .i64 d.2.1, .int .i64 d.1, .int .i64 (3 - d.2.2)]] .exact) = some (brs [trB d]) := by rw [htr]; exact asV_sl (by simp)
      simp [e7, e10, e11, fa, la, lpa, hsq, apart, hlz, hbi, afill, si, ci, setL, astore, sa, ca, astoAll, env_none, hd, hk, hy10, show ¬ p10 = s.hs.nh by omega]
      refine At.appB (hO.cong rfl rfl) hq3 hlO ?_
      rintro y' hs5 o1 o2
      obtain ⟨c1, c2⟩ := o1.cells
      have z1 := o2.nh
      simp at z1
      simp [e10, e11, fa, o2.heap, hy10, show ¬ p10 = s.hs.nh by omega, c1, c2, setL, astore, hwn]
      refine hN (j + 1) _ (by omega) ⟨by omega, ?_⟩
      rw [hst]
      simp [e6, e7, e8, e9, e10]
      refine ⟨by omega, fun k hk => ?_, o1.cong rfl rfl⟩
      simp [show ¬ k = p10 by omega, o2.heap, show ¬ k = s.hs.nh by omega]
      exact hlow k hk
  · have hjl : j = R.b.length := by omega
    subst hjl
    have hO' : OwB s.hs y (trR R).b := by
      have : trT R R.b.length = (trR R).b := by rw [trT, List.take_of_length_le (by simp)]; rfl
      rw [← this]; exact hO
    have hs8 : s.hs.heap p8 = some [.int .i64 R.r, .int .i64 R.c, y8] := (hlow p8 (by omega)).trans h8
    have hf : Firm Rf p9 i s.hs.heap := hfirm.cong (hlow p9 (by omega)) (hlow i (by omega))
    obtain ⟨R8, hR8⟩ : ∃ R8 : Rk, R8 = ⟨R.r, R.c, R.b ++ [bb]⟩ := ⟨_, rfl⟩
    have ok8 : OkR R8 := by
      rw [hR8]
      refine ⟨hr1, hr6, hc1, hc6, fun d hd => ?_⟩
      rcases List.mem_append.1 hd with hd | hd
      · exact hok.b d hd
      · rw [List.mem_singleton.1 hd]; exact hbok
    have l8' : R8.b.length ≤ 10 := by rw [hR8]; simpa using hlen
    have g8' : (gmR R8).length ≤ (gmR R).length := gm_more hok ok8 (by rw [hR8]) fun x y ⟨d, hd, he⟩ => ⟨d, by rw [hR8]; exact List.mem_append_left _ hd, by rw [hR8]; exact he⟩
    have okt := tr_ok hok
    have lt' : (trR R).b.length ≤ 9 := by show (R.b.reverse.map trB).length ≤ 9; simpa using hlen
    have gt' := gm_tr hok
    have pa := gm_pos hok
    have p8' := gm_pos ok8
    have pf := gm_pos okf
    have hv8 : asR (.agg [.int .i64 R.r, .int .i64 R.c, y8]) = some R8 := by rw [hR8]; exact asR_mk hO8
    have hvt : asR (.agg [.int .i64 R.c, .int .i64 R.r, y]) = some (trR R) := asR_mk hO'.asb
    have hcall : ∀ {v : AV} {R' : Rk}, asR v = some R' → OkR R' → R'.b.length ≤ 24 → ∀ hs, FCall Try.prog 17 [v] hs fun e hs' => e = .ret (.tup [.bool (stM R'), .int .i64 0]) ∧ hs' = hs := by
      intro v R' hv' ok' hl' hs
      have := PCall.fc (p17 hv') hs (by kernel_rfl)
      rwa [stV_ok ok' hl'] at this
    have hG : ∀ {v : AV} {R' : Rk}, asR v = some R' → OkR R' → R'.b.length ≤ 24 → SGpR [v] = some (.tup [outV 2 (grs (gmR R')), .int .i64 0]) := by
      intro v R' hv' ok' hl'
      simp only [SGpR, hv', Option.map_some]
      rw [gpV, if_pos (chkR_zero.2 ⟨ok', hl'⟩), gp_eq ok']
    obtain ⟨z9, h9, hc9⟩ := firm_stiff hf (by omega)
    rw [stV_ok okf (by omega)] at hc9
    have hGa := hG hv hok (by omega)
    have hG8 := hG hv8 ok8 (by omega)
    have hGt := hG hvt okt (by omega)
    simp [e7, la, hsq, apart]
    refine At.hc (hcall hv hok (by omega) _) ?_ (fun v hs' h => by cases h.1)
    rintro v hs6 ⟨h, rfl⟩
    injection h with h; subst h
    simp [e8, la, hs8, apart]
    refine At.hc (hcall hv8 ok8 (by omega) _) ?_ (fun v hs' h => by cases h.1)
    rintro v hs6 ⟨h, rfl⟩
    injection h with h; subst h
    simp [e9, la, h9, apart]
    refine At.hc hc9 ?_ (fun v hs' h => by cases h.1)
    rintro v hs6 ⟨h, ⟨z', k9, hz'⟩, kl, knh⟩
    injection h with h; subst h
    have hvf : asR (.agg [.int .i64 Rf.r, .int .i64 Rf.c, z']) = some Rf := asR_mk hz'
    have hGf := hG hvf okf (by omega)
    have k7 := (kl q (by omega) (by omega)).trans hsq
    have k8 := (kl p8 (by omega) (by omega)).trans hs8
    have k10 := (kl p10 (by omega) (by omega)).trans hy10
    simp [e10, la, k10, apart]
    refine At.hc (hcall hvt okt (by omega) _) ?_ (fun v hs' h => by cases h.1)
    rintro v hs7 ⟨h, rfl⟩
    injection h with h; subst h
    generalize hga : (gmR R).length = ga at *
    generalize hgb : (gmR R8).length = gb at *
    generalize hgc : (gmR Rf).length = gc at *
    have e1 : stM R = decide (ga = 1) := by rw [stM, hga]
    have e2 : stM R8 = decide (gb = 1) := by rw [stM, hgb]
    have e3 : stM Rf = decide (gc = 1) := by rw [stM, hgc]
    have e4 : stM (trR R) = decide (ga = 1) := by rw [stM, gt']
    rw [e1, e2, e3, e4]
    by_cases h1 : ga = 1
    · subst h1
      have : gb = 1 := by omega
      subst this
      have : gc = 1 := by omega
      subst this
      simp [e6, e7, e8, e9, e10, la, k7, k8, k9, k10, apart, hGa, hG8, hGf, hGt, alen_outV, hga, hgb, hgc, gt', D31_15, SWk]
    · simp [e6, e7, e8, e9, e10, la, k7, k8, k9, k10, apart, hGa, hG8, hGf, hGt, alen_outV, hga, hgb, hgc, gt', D31_15, SWk, h1, g8', hgf]
theorem b3_typed {x : AV} (h : ShV (.ar 3 (.int .u8)) x) : ∃ n0 n1 n2, x = .agg [.int .u8 n0, .int .u8 n1, .int .u8 n2] ∧ (0 ≤ n0 ∧ n0 ≤ 255) ∧ (0 ≤ n1 ∧ n1 ≤ 255) ∧ (0 ≤ n2 ∧ n2 ≤ 255) := by
  obtain ⟨cs, rfl, g⟩ := shv_agg rfl h
  obtain ⟨ls, rfl, g1, g2⟩ := g
  match ls, g1 with
  | [p0, p1, p2], _ =>
    obtain ⟨u0, rfl, h0⟩ := sh_int (g2 p0 (by simp))
    obtain ⟨u1, rfl, h1⟩ := sh_int (g2 p1 (by simp))
    obtain ⟨u2, rfl, h2⟩ := sh_int (g2 p2 (by simp))
    exact ⟨u0, u1, u2, rfl, u8_bd h0, u8_bd h1, u8_bd h2⟩
theorem more_typed (xs : List AV) (h : Typed [TSh, .ar 3 (.int .u8), .int .u8] xs) : PCall Try.prog 11 xs (.bool true) := by
  obtain ⟨x, y, z, rfl, hx, hy, hz⟩ := h.three
  obtain ⟨a, b, l, hs⟩ := shelf_typed hx
  obtain ⟨n0, n1, n2, rfl, h0, h1, h2⟩ := b3_typed hy
  obtain ⟨n, rfl, hn⟩ := shv_int hz
  exact p11 hs h0 h1 h2 (u8_bd hn)
end Go.Proofs.Ytecbbbocjmdfgaa
