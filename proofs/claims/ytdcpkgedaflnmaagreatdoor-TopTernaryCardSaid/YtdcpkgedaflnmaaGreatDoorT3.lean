/-
  Marks and letters at the examples: evaluated. Own work.
  letters.Count at the example: the walk. Own work.
  Maps from numbers to numbers. Own work.
  letters.Count at the example: one entry of a round. Own work.
  letters.Count at the example: the rounds and the whole function. Own work.
-/
import Derived.Test.YtdcpkgedaflnmaaGreatDoorC9
import Derived.Test.YtdcpkgedaflnmaaGreatDoorFx3
import Derived.Test.YtdcpkgedaflnmaaGreatDoorFx4
import Derived.Test.YtdcpkgedaflnmaaGreatDoorFx5
set_option linter.unusedVariables false
namespace Go.Proofs.YtdcpkgedaflnmaaGreatDoor.Wm
open Go Fw

def T0 : FuncId → Option Entry
  | 87 => some (.code A87 R87 48)
  | 126 => some (.code A126 R126 46)
  | 127 => some (.code A127 R127 8)
  | 128 => some (.code A128 R128 25)
  | 149 => some (.code A149 R149 15)
  | 150 => some (.code A150 R150 9)
  | 151 => some (.code A151 R151 15)
  | 162 => some (.code A162 R162 10)
  | 84 => some (.code A84 R84 9)
  | 125 => some (.code A125 R125 19)
  | 110 => some (.code A110 R110 9)
  | 137 => some (.code A137 R137 19)
  | 152 => some (.code A152 R152 87)
  | 153 => some (.code A153 R153 16)
  | 163 => some (.code A163 R163 66)
  | 164 => some (.code A164 R164 15)
  | 171 => some (.code A171 R171 9)
  | 177 => some (.code A177 R177 19)
  | _ => none
theorem t0 : TOk Tryz.prog T0 := by
  intro f x h
  unfold T0 at h
  split at h <;> (try (cases h; done)) <;> (injection h with h; subst h) <;> first
    | exact ⟨_, _, ok87⟩ | exact ⟨_, _, ok126⟩ | exact ⟨_, _, ok127⟩ | exact ⟨_, _, ok128⟩ | exact ⟨_, _, ok149⟩ | exact ⟨_, _, ok150⟩ | exact ⟨_, _, ok151⟩ | exact ⟨_, _, ok162⟩ | exact ⟨_, _, ok84⟩ | exact ⟨_, _, ok125⟩ | exact ⟨_, _, ok110⟩ | exact ⟨_, _, ok137⟩ | exact ⟨_, _, ok152⟩ | exact ⟨_, _, ok153⟩ | exact ⟨_, _, ok163⟩ | exact ⟨_, _, ok164⟩ | exact ⟨_, _, ok171⟩ | exact ⟨_, _, ok177⟩
def eqV (v : AV) : AV → Bool
  | .tup [.int .i64 a, .int .i64 b] => (match v with | .tup [.int .i64 c, .int .i64 d] => a == c && b == d | _ => false)
  | _ => false
theorem eqV_int {c d : Int} {r : AV} (h : eqV (.tup [.int .i64 c, .int .i64 d]) r = true) : r = .tup [.int .i64 c, .int .i64 d] := by
  unfold eqV at h
  split at h
  · rename_i a b
    simp only [Bool.and_eq_true, beq_iff_eq] at h
    rw [h.1, h.2]
  · cases h
/-- the distance of the example -/
theorem p87 : PCall Tryz.prog 87 [.agg [.int .i64 3, .sl 1 [.sl 1 (ints [0, 0, 0]) .exact, .sl 1 (ints [1, 1, 1]) .exact, .sl 1 (ints [2, 2, 2]) .exact] .exact]] (.tup [.int .i64 3, .int .i64 0]) := by
  obtain ⟨r, h1, h2⟩ := evIs_sound t0 (L := 40) (n := 12) (f := 87) (args := [.agg [.int .i64 3, .sl 1 [.sl 1 (ints [0, 0, 0]) .exact, .sl 1 (ints [1, 1, 1]) .exact, .sl 1 (ints [2, 2, 2]) .exact] .exact]]) (ok := eqV (.tup [.int .i64 3, .int .i64 0])) (by decide +kernel)
  rw [← eqV_int h1]
  exact h2
/-- the office of the example -/
def offA : AV := .agg [.int .i64 4, .sl 2 [.agg [.int .i64 0, .int .i64 2], .agg [.int .i64 0, .int .i64 3], .agg [.int .i64 1, .int .i64 3]] .exact]
def numU : List AV → Option (List Int)
  | [] => some []
  | .int .u64 n :: xs => (numU xs).map (n :: ·)
  | _ => none
theorem numU_eq : ∀ {xs : List AV} {l : List Int}, numU xs = some l → xs = l.map (AV.int .u64)
  | [], l, h => by simp only [numU, Option.some.injEq] at h; subst h; rfl
  | x :: xs, l, h => by
    unfold numU at h
    split at h <;> (try (cases h; done))
    · rename_i e; cases e
    rename_i n xs' e
    injection e with e1 e2; subst e1; subst e2
    obtain ⟨l', h1, rfl⟩ := Option.map_eq_some_iff.1 h
    rw [numU_eq h1]; rfl
def isDesk (l : List Int) : AV → Bool
  | .tup [.agg xs, .int .i64 e] => decide (numU xs = some l) && decide (e = 0)
  | _ => false
theorem isDesk_eq {l : List Int} {r : AV} (h : isDesk l r = true) : r = .tup [.agg (l.map (AV.int .u64)), .int .i64 0] := by
  unfold isDesk at h
  split at h
  · rename_i xs e
    simp only [Bool.and_eq_true, decide_eq_true_eq] at h
    rw [numU_eq h.1, h.2]
  · cases h
def dskL : List Int := [3, 7, 14, 12, 0, 0]
def dskA : AV := .agg (dskL.map (AV.int .u64))
theorem p152 : PCall Tryz.prog 152 [offA, .sl 1 [.str (bs [100, 97, 99, 98])] .exact] (.tup [dskA, .int .i64 0]) := by
  obtain ⟨r, h1, h2⟩ := evIs_sound t0 (L := 40) (n := 12) (f := 152) (args := [offA, .sl 1 [.str (bs [100, 97, 99, 98])] .exact]) (ok := isDesk dskL) (by decide +kernel)
  rw [isDesk_eq h1] at h2
  exact h2
def isB (b : Bool) : AV → Bool
  | .bool c => c == b
  | _ => false
theorem isB_eq {b : Bool} {r : AV} (h : isB b r = true) : r = .bool b := by
  unfold isB at h
  split at h
  · simp only [beq_iff_eq] at h; rw [h]
  · cases h
/-- which letters of the log are bound -/
def bnd : Nat → Nat → Bool := fun k i => decide ((k, i) = (0, 2)) || decide ((k, i) = (1, 3)) || decide ((k, i) = (2, 3))
def logC : List Nat := [100, 97, 99, 98]
theorem ev153 {x y : Int} {b : Bool} (h : evIs T0 40 12 153 [dskA, .int .u8 x, .int .u8 y] (isB b) = true) : PCall Tryz.prog 153 [dskA, .int .u8 x, .int .u8 y] (.bool b) := by
  obtain ⟨r, h1, h2⟩ := evIs_sound t0 h
  rw [isB_eq h1] at h2
  exact h2
theorem p153 {k i : Nat} (hi : i < 4) (hk : k < i) : PCall Tryz.prog 153 [dskA, .int .u8 ((logC.getD k 0 : Nat) : Int), .int .u8 ((logC.getD i 0 : Nat) : Int)] (.bool (bnd k i)) := by
  have hc : (k = 0 ∧ i = 1) ∨ (k = 0 ∧ i = 2) ∨ (k = 1 ∧ i = 2) ∨ (k = 0 ∧ i = 3) ∨ (k = 1 ∧ i = 3) ∨ (k = 2 ∧ i = 3) := by omega
  rcases hc with ⟨rfl, rfl⟩ | ⟨rfl, rfl⟩ | ⟨rfl, rfl⟩ | ⟨rfl, rfl⟩ | ⟨rfl, rfl⟩ | ⟨rfl, rfl⟩ <;> exact ev153 (by decide +kernel)
end Go.Proofs.YtdcpkgedaflnmaaGreatDoor.Wm
set_option linter.unusedVariables false
set_option linter.unusedSimpArgs false
namespace Go.Proofs.YtdcpkgedaflnmaaGreatDoor.Wm
open Go Fw

def logL : List UInt8 := [100, 97, 99, 98]
theorem ctxL : ∃ C, CtxOk Tryz.prog C ∧ C 152 [offA, .sl 1 [.str (bs logL)] .exact] = some (.tup [dskA, .int .i64 0]) ∧ ∀ k i : Nat, i < 4 → k < i → C 153 [dskA, .int .u8 ((logC.getD k 0 : Nat) : Int), .int .u8 ((logC.getD i 0 : Nat) : Int)] = some (.bool (bnd k i)) := by
  obtain ⟨C1, hC1, k152, _⟩ := ctx_pt CtxOk.nil 152 _ _ p152
  obtain ⟨C, hC, k153, n2⟩ := ctx_fam hC1 153 (fun q : {q : Nat × Nat // q.2 < 4 ∧ q.1 < q.2} => [dskA, .int .u8 ((logC.getD q.1.1 0 : Nat) : Int), .int .u8 ((logC.getD q.1.2 0 : Nat) : Int)]) (fun q => .bool (bnd q.1.1 q.1.2)) (fun q => p153 q.2.1 q.2.2) (by
    rintro ⟨⟨a, b⟩, h1, h2⟩ ⟨⟨c, d⟩, h3, h4⟩ e
    simp only [List.cons.injEq, AV.int.injEq, and_true, true_and] at e
    obtain ⟨e1, e2⟩ := e
    have inj : ∀ x < 4, ∀ y < 4, logC.getD x 0 = logC.getD y 0 → x = y := by decide
    simp only at h1 h2 h3 h4
    have := inj a (by omega) c (by omega) (by omega)
    have := inj b (by omega) d (by omega) (by omega)
    subst_vars
    rfl)
  exact ⟨C, hC, by rw [n2 152 (by decide)]; exact k152, fun k i h1 h2 => k153 ⟨(k, i), h1, h2⟩⟩
theorem At.sq {W1 W2 : Wp} {Q : AEx → AS → Prop} {s : AS} : At (seqW W1 W2 Q s) = At (W1 (thenQ (W2 Q) Q) s) := rfl
theorem bd129 : Tryz.f129.body = some B129 := by kernel_rfl
theorem nt129 : Tryz.f129.ntmps = 101 := by kernel_rfl
theorem rs129 : cvRs Tryz.prog 101 Tryz.f129.results.toList = some [.t 4, .t 5] := by kernel_rfl
theorem ok129 : callOk Tryz.prog 129 = true := by kernel_rfl
theorem fc129 {C : PCtx} (hC : CtxOk Tryz.prog C) {args : List AV} (hn : args.length ≤ 101) {hs : HS} {R : AEnd → HS → Prop} (h : At (allW C (finQ [.t 4, .t 5] R) ⟨argEnv args, hs⟩)) : FCall Tryz.prog 129 args hs R :=
  FCall.of_sim Tryz.func129 bd129 nt129 (sim129 hC) rs129 ok129 hn h
/-- the needs of four letters -/
def tbL (a b : Int) : List AV := [.int .u64 0, .int .u64 0, .int .u64 a, .int .u64 b, .int .u64 0, .int .u64 0, .int .u64 0, .int .u64 0, .int .u64 0, .int .u64 0, .int .u64 0, .int .u64 0, .int .u64 0, .int .u64 0]
def fa (i k : Nat) : Int := if i < 2 ∨ (i = 2 ∧ k = 0) then 0 else 1
def fb (i k : Nat) : Int := if i < 3 ∨ (i = 3 ∧ k < 2) then 0 else if i = 3 ∧ k = 2 then 2 else 6
theorem dsk_sto : dskA.sto = true := by rfl
theorem dsk_cells : dskA.cells = dskL.map (AV.int .u64) := by simp [dskA, dskL, AV.cells]
theorem log_sto {b : ByteArray} : astoAll 1 [.str b] = true := rfl
theorem dsk_st {hp : Nat → Option (List AV)} {i : Nat} {ys : List AV} (h : hp i = some ys) (hl : ys.length = 6) : astore hp 6 (.ref i 0) dskA = some fun k => if k = i then some (dskL.map (AV.int .u64)) else hp k :=
  sto_agg h dsk_sto dsk_cells rfl hl
theorem off_sto : offA.sto = true := by rfl
theorem off_ld {hp : Nat → Option (List AV)} : aload hp true 2 (.ptr offA) = some offA := by simp [offA, aload, apart, AV.cells]
theorem lsx {hs : HS} {j : Nat} (h : j < 4) : amem .sidx hs [.str (bs logL), .int .i64 (j : Int)] = some (.int .u8 ((logC.getD j 0 : Nat) : Int), hs) := by
  have hj : j = 0 ∨ j = 1 ∨ j = 2 ∨ j = 3 := by omega
  rcases hj with rfl | rfl | rfl | rfl <;> exact sidx_nat (l := logL) (by decide)
theorem cases6 {i k : Nat} (h : i < 4) (hk : k < i) : (k = 0 ∧ i = 1) ∨ (k = 0 ∧ i = 2) ∨ (k = 1 ∧ i = 2) ∨ (k = 0 ∧ i = 3) ∨ (k = 1 ∧ i = 3) ∨ (k = 2 ∧ i = 3) := by omega
theorem nd_f {i k : Nat} (h : i < 4) (hk : k < i) (hb : bnd k i = false) : fa i (k + 1) = fa i k ∧ fb i (k + 1) = fb i k := by
  rcases cases6 h hk with ⟨rfl, rfl⟩ | ⟨rfl, rfl⟩ | ⟨rfl, rfl⟩ | ⟨rfl, rfl⟩ | ⟨rfl, rfl⟩ | ⟨rfl, rfl⟩ <;> revert hb <;> decide
theorem nd_n {i : Nat} (h : i < 4) : fa (i + 1) 0 = fa i i ∧ fb (i + 1) 0 = fb i i := by
  have hj : i = 0 ∨ i = 1 ∨ i = 2 ∨ i = 3 := by omega
  rcases hj with rfl | rfl | rfl | rfl <;> decide
theorem nd_t {i k : Nat} (h : i < 4) (hk : k < i) (hb : bnd k i = true) : ∃ x y z : Int, (tbL (fa i k) (fb i k))[i]? = some (.int .u64 x) ∧ abin 0 .shl (.int .u64 1) (.int .i64 (k : Int)) = some (.int .u64 z) ∧
    abin 0 .or (.int .u64 x) (.int .u64 z) = some (.int .u64 y) ∧ (tbL (fa i k) (fb i k)).set i (.int .u64 y) = tbL (fa i (k + 1)) (fb i (k + 1)) := by
  rcases cases6 h hk with ⟨rfl, rfl⟩ | ⟨rfl, rfl⟩ | ⟨rfl, rfl⟩ | ⟨rfl, rfl⟩ | ⟨rfl, rfl⟩ | ⟨rfl, rfl⟩ <;> first | (exact absurd hb (by decide)) | exact ⟨_, _, _, rfl, rfl, rfl, rfl⟩
/-- the state of the search for needs -/
structure NdI (q p : Nat) (i k : Nat) (s : AS) : Prop where
  e1 : s.env 1 = .str (bs logL)
  e6 : s.env 6 = .ref q 0
  h6 : s.hs.heap q = some (dskL.map (AV.int .u64))
  e8 : s.env 8 = .ref p 0
  h8 : s.hs.heap p = some (tbL (fa i k) (fb i k))
  nh : s.hs.nh = p + 1
section
variable {C : PCtx} (k153 : ∀ k i : Nat, i < 4 → k < i → C 153 [dskA, .int .u8 ((logC.getD k 0 : Nat) : Int), .int .u8 ((logC.getD i 0 : Nat) : Int)] = some (.bool (bnd k i)))
include k153
theorem w5 {q p : Nat} {s : AS} (e1 : s.env 1 = .str (bs logL)) (e6 : s.env 6 = .ref q 0) (h6 : s.hs.heap q = some (dskL.map (AV.int .u64))) (e8 : s.env 8 = .ref p 0) (h8 : s.hs.heap p = some (tbL 0 0)) (hpq : q < p) (hn : s.hs.nh = p + 1) :
    At (awp Tryz.prog C P5 (endN fun s => s.env 1 = .str (bs logL) ∧ s.env 8 = .ref p 0 ∧ s.hs.heap p = some (tbL 1 6) ∧ s.hs.nh = p + 1) s) := by
  simp [P5, e1, logL]
  refine At.loop (fun (i : Nat) s => i ≤ 4 ∧ NdI q p i 0 s ∧ s.env 27 = .int .i64 4 ∧ s.env 28 = .int .i64 (i : Int)) (fun i => 4 - i) 0 ?_ ?_
  · simp
    exact ⟨by simp [e1, logL], by simp [e6], by simp [h6], by simp [e8], by simp [h8, fa, fb], by simp [hn]⟩
  rintro N i s hN ⟨hi, hI, e27, e28⟩
  by_cases hlt : i < 4
  · have hlt' : (i : Int) < 4 := by omega
    have wi := wrap_nat1 (show i < _ by omega)
    simp [e27, e28, hlt', wi]
    refine At.loop (fun (k : Nat) s => k ≤ i ∧ NdI q p i k s ∧ s.env 9 = .int .i64 (i : Int) ∧ s.env 27 = .int .i64 4 ∧ s.env 28 = .int .i64 (i : Int) ∧ s.env 31 = .int .i64 (i : Int) ∧ s.env 32 = .int .i64 (k : Int)) (fun k => i - k) 0 ?_ ?_
    · simp [e27, e28]
      exact ⟨by simp [hI.e1], by simp [hI.e6], by simp [hI.h6], by simp [hI.e8], by simp [hI.h8], by simp [hI.nh]⟩
    rintro N2 k s hN2 ⟨hk, hK, e9, e27, e28, e31, e32⟩
    by_cases hkl : k < i
    · have hkl' : (k : Int) < (i : Int) := by omega
      have wk := wrap_nat1 (show k < _ by omega)
      have hld : aload s.hs.heap true 6 (.ref q 0) = some dskA := ld_agg hK.h6 rfl
      have h153 := k153 k i hlt hkl
      simp [e9, e27, e28, e31, e32, hkl', wk, hld, hK.e1, hK.e6, lsx (show k < 4 by omega), lsx hlt, -List.getD_eq_getElem?_getD]
      rw [h153]
      rcases hb : bnd k i with _ | _
      · obtain ⟨f1, f2⟩ := nd_f hlt hkl hb
        simp [e9, e27, e28, e31, e32, wk]
        refine hN2 (k + 1) _ (by omega) ⟨hkl, ⟨by simp [hK.e1], by simp [hK.e6], by simp [hK.h6], by simp [hK.e8], by simp [hK.h8, f1, f2], by simp [hK.nh]⟩, ?_⟩
        simp [e9, e27, e28, e31, e32]
      · obtain ⟨x, y, z, f1, f2, f3, f4⟩ := nd_t hlt hkl hb
        have hi14 : (i : Int) < 14 := by omega
        have hix : aidxA 14 false 1 (.ref p 0) (.int .i64 (i : Int)) = some (.ref p i) := by simp [aidxA, afaddr, hi14]
        have hl2 : aload s.hs.heap false 1 (.ref p i) = some (.int .u64 x) := ldc hK.h8 f1
        have hst : astore s.hs.heap 1 (.ref p i) (.int .u64 y) = some (fun j => if j = p then some (tbL (fa i (k + 1)) (fb i (k + 1))) else s.hs.heap j) := by
          rw [store_cell hK.h8 (show i < 14 by omega) rfl, f4]
        simp [e9, e27, e28, e31, e32, wk, hK.e8, hix, hl2, f2, f3, hst]
        refine hN2 (k + 1) _ (by omega) ⟨hkl, ⟨by simp [hK.e1], by simp [hK.e6], by simp [hK.h6, show ¬ q = p by omega], by simp [hK.e8], by simp [f4], by simp [hK.nh]⟩, ?_⟩
        simp [e9, e27, e28, e31, e32]
    · have hkl' : ¬ (k : Int) < (i : Int) := by omega
      obtain rfl : k = i := by omega
      obtain ⟨f1, f2⟩ := nd_n hlt
      simp [e28, e31, e32, wi]
      refine hN (k + 1) _ (by omega) ⟨by omega, ⟨by simp [hK.e1], by simp [hK.e6], by simp [hK.h6], by simp [hK.e8], by simp [hK.h8, f1, f2], by simp [hK.nh]⟩, ?_⟩
      simp [e27]
  · have hlt' : ¬ (i : Int) < 4 := by omega
    obtain rfl : i = 4 := by omega
    simp [e27, e28, hI.e1, hI.e8, hI.h8, hI.nh, fa, fb, logL]
end
end Go.Proofs.YtdcpkgedaflnmaaGreatDoor.Wm
set_option linter.unusedVariables false
set_option linter.unusedSimpArgs false
namespace Go.Proofs.YtdcpkgedaflnmaaGreatDoor.Wm
open Go Fw

def entN (es : List (Nat × Nat)) : List (AV × AV) := es.map fun q => (.int .u64 (q.1 : Int), .int .i64 (q.2 : Int))
/-- the number at a key -/
def lkN (es : List (Nat × Nat)) (k : Nat) : Option Nat := match es with
  | [] => none
  | q :: es => if k = q.1 then some q.2 else lkN es k
/-- a number laid at a key -/
def ptN (es : List (Nat × Nat)) (k : Nat) (v : Nat) : List (Nat × Nat) := match es with
  | [] => [(k, v)]
  | q :: es => if k = q.1 then (k, v) :: es else q :: ptN es k v
theorem akeq_N (a b : Nat) : akeq 0 (.int .u64 (a : Int)) (.int .u64 (b : Int)) = some (decide (a = b)) := by
  simp only [akeq, and_self, if_true]
  congr 1
  rw [Bool.eq_iff_iff, decide_eq_true_iff, decide_eq_true_iff]
  omega
theorem akey_N (a : Int) : akey 0 (.int .u64 a) = true := rfl
theorem alook_N (k : Nat) : ∀ (es : List (Nat × Nat)) (i : Nat), (lkN es k = none ∧ alook 0 (.int .u64 (k : Int)) (entN es) i = some none) ∨ ∃ v j, lkN es k = some v ∧ alook 0 (.int .u64 (k : Int)) (entN es) i = some (some (i + j, .int .i64 (v : Int))) ∧ ∀ u : Nat, entN (ptN es k u) = (entN es).set j (.int .u64 (k : Int), .int .i64 (u : Int))
  | [], i => .inl ⟨rfl, rfl⟩
  | q :: es, i => by
    simp only [lkN, entN, List.map_cons, alook, akeq_N]
    by_cases h : k = q.1
    · right
      refine ⟨q.2, 0, by rw [if_pos h], by simp [h], fun u => ?_⟩
      simp [ptN, h]
    · rw [if_neg h, decide_eq_false h]
      simp only
      rcases alook_N k es (i + 1) with ⟨h1, h2⟩ | ⟨v, j, h1, h2, h4⟩
      · exact .inl ⟨h1, h2⟩
      · right
        refine ⟨v, j + 1, h1, by rw [show i + (j + 1) = i + 1 + j by omega]; exact h2, fun u => ?_⟩
        simp only [ptN, h, if_false, List.map_cons, List.set_cons_succ]
        congr 1
        exact h4 u
theorem entN_new (k v : Nat) : ∀ (es : List (Nat × Nat)), lkN es k = none → entN (ptN es k v) = entN es ++ [(.int .u64 (k : Int), .int .i64 (v : Int))]
  | [], _ => rfl
  | q :: es, h => by
    simp only [lkN] at h
    split at h
    · cases h
    · rename_i hk
      simp only [ptN, hk, if_false, entN, List.map_cons, List.cons_append]
      congr 1
      exact entN_new k v es h
theorem amlook_N {mp : Nat → Option (List (AV × AV))} {j : Nat} {es : List (Nat × Nat)} (h : mp j = some (entN es)) (k : Nat) : amlook 0 false (.int .i64 0) mp (.mp j) (.int .u64 (k : Int)) = some (.int .i64 (((lkN es k).getD 0 : Nat) : Int)) := by
  simp only [amlook, aments, h, akey_N]
  rcases alook_N k es 0 with ⟨h1, h2⟩ | ⟨v, i, h1, h2, _⟩
  · rw [h2, h1]; rfl
  · rw [h2, h1]; rfl
theorem amupd_N {hs : HS} {j : Nat} {es : List (Nat × Nat)} (h : hs.mp j = some (entN es)) (k v : Nat) : amupd 0 hs (.mp j) (.int .u64 (k : Int)) (.int .i64 (v : Int)) = some { hs with mp := fun i => if i = j then some (entN (ptN es k v)) else hs.mp i } := by
  simp only [amupd, h, akey_N, AV.sto, Bool.and_self]
  rcases alook_N k es 0 with ⟨h1, h2⟩ | ⟨u, i, h1, h2, h4⟩
  · simp only [amput, h2, Option.map_some, entN_new k v es h1]
  · simp only [amput, h2, Option.map_some, Nat.zero_add, h4 v]
/-- one letter more, where it is free and its needs are met -/
def okN (j st : Nat) : Bool := decide ((st >>> j) % 2 = 0) && decide (([0, 0, 1, 6].getD j 0) &&& st = [0, 0, 1, 6].getD j 0)
def stpN (st num : Nat) (l : List (Nat × Nat)) (j : Nat) : List (Nat × Nat) := if okN j st = true then ptN l (st ||| 1 <<< j) ((lkN l (st ||| 1 <<< j)).getD 0 + num) else l
def rowN (st num : Nat) (l : List (Nat × Nat)) (n : Nat) : List (Nat × Nat) := (List.range n).foldl (stpN st num) l
theorem rowN_succ {st num : Nat} {l : List (Nat × Nat)} {n : Nat} : rowN st num l (n + 1) = stpN st num (rowN st num l n) n := by simp [rowN, List.range_succ]
end Go.Proofs.YtdcpkgedaflnmaaGreatDoor.Wm
set_option linter.unusedVariables false
set_option linter.unusedSimpArgs false
namespace Go.Proofs.YtdcpkgedaflnmaaGreatDoor.Wm
open Go Fw

def stN : List Nat := [0, 1, 2, 3, 5, 7]
theorem rdF {st j : Nat} (hst : st ∈ stN) (hj : j < 4) : ∃ (n x y w z : Int) (b1 b2 : Bool), (tbL 1 6)[j]? = some (.int .u64 n) ∧ abin 0 .shr (.int .u64 (st : Int)) (.int .i64 (j : Int)) = some (.int .u64 x) ∧ abin 0 .and (.int .u64 x) (.int .u64 1) = some (.int .u64 y) ∧
    abin 0 .eql (.int .u64 y) (.int .u64 0) = some (.bool b1) ∧ abin 0 .andNot (.int .u64 n) (.int .u64 (st : Int)) = some (.int .u64 w) ∧ abin 0 .eql (.int .u64 w) (.int .u64 0) = some (.bool b2) ∧ (b1 && b2) = okN j st ∧
    abin 0 .shl (.int .u64 1) (.int .i64 (j : Int)) = some (.int .u64 z) ∧ abin 0 .or (.int .u64 (st : Int)) (.int .u64 z) = some (.int .u64 ((st ||| 1 <<< j : Nat) : Int)) := by
  have hj4 : j = 0 ∨ j = 1 ∨ j = 2 ∨ j = 3 := by omega
  simp only [stN, List.mem_cons, List.not_mem_nil, or_false] at hst
  rcases hj4 with rfl | rfl | rfl | rfl <;> rcases hst with rfl | rfl | rfl | rfl | rfl | rfl <;> exact ⟨_, _, _, _, _, _, _, rfl, rfl, rfl, rfl, rfl, rfl, rfl, rfl, rfl⟩
/-- all but the map under way is as it was -/
structure KpN (nx : Nat) (s0 s : AS) : Prop where
  env : ∀ r, r < 66 → r ≠ 15 → s.env r = s0.env r
  heap : s.hs.heap = s0.hs.heap
  nh : s.hs.nh = s0.hs.nh
  mp : ∀ j, j ≠ nx → s.hs.mp j = s0.hs.mp j
def leN (l : List (Nat × Nat)) (B : Nat) : Prop := ∀ k, (lkN l k).getD 0 ≤ B
theorem lkN_pt (es : List (Nat × Nat)) (k k' v : Nat) : lkN (ptN es k v) k' = if k' = k then some v else lkN es k' := by
  induction es with
  | nil => simp [ptN, lkN]
  | cons q es ih =>
    simp only [ptN]
    split
    · rename_i h
      simp only [lkN]
      split
      · rfl
      · rename_i h2; rw [if_neg (by rw [← h]; exact h2)]
    · rename_i h
      simp only [lkN]
      rw [ih]
      split
      · rename_i h2
        rw [if_neg (by rw [h2]; exact fun e => h e.symm)]
      · rfl
theorem leN_pt {l : List (Nat × Nat)} {B k v : Nat} (h : leN l B) (hv : v ≤ B) : leN (ptN l k v) B := by
  intro k'
  rw [lkN_pt]
  split
  · simpa using hv
  · exact h k'
theorem leN_mono {l : List (Nat × Nat)} {A B : Nat} (h : leN l A) (hv : A ≤ B) : leN l B := fun k => Nat.le_trans (h k) hv
theorem leN_stp {st num A j : Nat} {l : List (Nat × Nat)} (h : leN l A) : leN (stpN st num l j) (A + num) := by
  unfold stpN
  split
  · exact leN_pt (leN_mono h (by omega)) (by have := h (st ||| 1 <<< j); omega)
  · exact leN_mono h (by omega)
theorem leN_row {st num A : Nat} {l : List (Nat × Nat)} (h : leN l A) : ∀ n, leN (rowN st num l n) (A + n * num)
  | 0 => by simpa [rowN] using h
  | n + 1 => by
    rw [rowN_succ]
    have := leN_stp (st := st) (num := num) (j := n) (leN_row (st := st) (num := num) h n)
    rw [Nat.succ_mul, ← Nat.add_assoc]
    exact this
theorem wrapS {a b : Nat} (h : a + b ≤ 1000) : IntKind.i64.wrap ((a : Int) + (b : Int)) = ((a + b : Nat) : Int) := by rw [wrap64 (by omega) (by omega)]; omega
theorem w22 {C : PCtx} {p nx st num : Nat} {l : List (Nat × Nat)} {s0 s : AS} (hst : st ∈ stN) (hnum : num ≤ 10) (hl : leN l 10) (hK0 : KpN nx s0 s) (e1 : s0.env 1 = .str (bs logL)) (e8 : s0.env 8 = .ref p 0) (h8 : s0.hs.heap p = some (tbL 1 6)) (e12 : s0.env 12 = .mp nx) (hm : s.hs.mp nx = some (entN l))
    (e13 : s0.env 13 = .int .u64 (st : Int)) (e14 : s0.env 14 = .int .i64 (num : Int)) : At (awp Tryz.prog C P22 (endN fun s' => KpN nx s0 s' ∧ s'.hs.mp nx = some (entN (rowN st num l 4))) s) := by
  have el : alenK true (s.env 1) = some (.int .i64 4) := by rw [hK0.env 1 (by decide) (by decide), e1]; rfl
  simp [P22, el]
  refine At.loop (fun (j : Nat) s => j ≤ 4 ∧ KpN nx s0 s ∧ s.hs.mp nx = some (entN (rowN st num l j)) ∧ s.env 67 = .int .i64 4 ∧ s.env 68 = .int .i64 (j : Int)) (fun j => 4 - j) 0 ?_ ?_
  · refine ⟨by omega, ⟨fun r hr h15 => ?_, ?_, ?_, fun j hj => ?_⟩, ?_, ?_, ?_⟩
    · have hne : ∀ d, 66 ≤ d → (r = d) = False := fun d hd => by simp; omega
      simp [hne, hK0.env r hr h15]
    · simp [hK0.heap]
    · simp [hK0.nh]
    · simp [hK0.mp j hj]
    · simp [hm, rowN]
    · simp
    · simp
  rintro N j s hN ⟨hj, hK, hmp, e67, e68⟩
  by_cases hlt : j < 4
  · have hlt' : (j : Int) < 4 := by omega
    have hj14 : (j : Int) < 14 := by omega
    have wj := wrap_nat1 (show j < _ by omega)
    obtain ⟨n, x, y, w, z, b1, b2, f1, f2, f3, f4, f5, f6, f7, f8, f9⟩ := rdF hst hlt
    have g13 : s.env 13 = .int .u64 (st : Int) := by rw [hK.env 13 (by decide) (by decide), e13]
    have g14 : s.env 14 = .int .i64 (num : Int) := by rw [hK.env 14 (by decide) (by decide), e14]
    have g12 : s.env 12 = .mp nx := by rw [hK.env 12 (by decide) (by decide), e12]
    have g8 : s.env 8 = .ref p 0 := by rw [hK.env 8 (by decide) (by decide), e8]
    have hix : aidxA 14 false 1 (.ref p 0) (.int .i64 (j : Int)) = some (.ref p j) := by simp [aidxA, afaddr, hj14]
    have hld : aload s.hs.heap false 1 (.ref p j) = some (.int .u64 n) := ldc (by rw [hK.heap]; exact h8) f1
    have hstp := rowN_succ (st := st) (num := num) (l := l) (n := j)
    unfold stpN at hstp
    have hkp : ∀ s' : AS, (∀ r, r < 66 → r ≠ 15 → s'.env r = s.env r) → s'.hs.heap = s.hs.heap → s'.hs.nh = s.hs.nh → (∀ j, j ≠ nx → s'.hs.mp j = s.hs.mp j) → KpN nx s0 s' := fun s' a1 a2 a3 a4 =>
      ⟨fun r hr h15 => (a1 r hr h15).trans (hK.env r hr h15), a2.trans hK.heap, a3.trans hK.nh, fun j hj => (a4 j hj).trans (hK.mp j hj)⟩
    have hgo : okN j st = false → ∀ s' : AS, (∀ r, r < 66 → r ≠ 15 → s'.env r = s.env r) → s'.hs = s.hs → s'.env 67 = s.env 67 → s'.env 68 = .int .i64 ((j : Int) + 1) → At (N s') := fun hok s' a1 a2 a3 a4 =>
      hN (j + 1) s' (by omega) ⟨by omega, hkp s' a1 (by rw [a2]) (by rw [a2]) (fun j _ => by rw [a2]), by rw [a2, hmp, hstp, if_neg (by rw [hok]; simp)], by rw [a3, e67], by rw [a4]; rfl⟩
    have hne : ∀ r : Nat, r < 66 → ∀ d, 66 ≤ d → (r = d) = False := fun r hr d hd => by simp; omega
    rcases b1 with _ | _
    · simp [e67, e68, hlt', wj, g13, f2, f3, f4]
      have hok : okN j st = false := by rw [← f7]; rfl
      exact hgo hok _ (fun r hr h15 => by simp [hne r hr, h15]) (by simp) (by simp) (by simp)
    rcases b2 with _ | _
    · simp [e67, e68, hlt', wj, g13, f2, f3, f4, g8, hix, hld, f5, f6]
      have hok : okN j st = false := by rw [← f7]; rfl
      exact hgo hok _ (fun r hr h15 => by simp [hne r hr, h15]) (by simp) (by simp) (by simp)
    · have hok : okN j st = true := by rw [← f7]; rfl
      rw [if_pos hok] at hstp
      have hle := leN_row (st := st) (num := num) hl j (st ||| 1 <<< j)
      have hjn : j * num ≤ 3 * 10 := Nat.mul_le_mul (by omega) hnum
      have hlk : amem (.look 0 false (.int .i64 0)) s.hs [.mp nx, .int .u64 ((st ||| 1 <<< j : Nat) : Int)] = some (.int .i64 (((lkN (rowN st num l j) (st ||| 1 <<< j)).getD 0 : Nat) : Int), s.hs) := by simp only [amem, amlook_N hmp, Option.map_some]
      obtain ⟨v, hv⟩ : ∃ v, v = (lkN (rowN st num l j) (st ||| 1 <<< j)).getD 0 := ⟨_, rfl⟩
      rw [← hv] at hlk hle hstp
      have hup : amem (.mupd 0) s.hs [.mp nx, .int .u64 ((st ||| 1 <<< j : Nat) : Int), .int .i64 ((v + num : Nat) : Int)] = some (.undef, { s.hs with mp := fun i => if i = nx then some (entN (rowN st num l (j + 1))) else s.hs.mp i }) := by
        simp only [amem, amupd_N hmp, Option.map_some, hstp]
      have hw := wrapS (a := v) (b := num) (by omega)
      obtain ⟨K, hK2⟩ : ∃ K : Int, K = ((st ||| 1 <<< j : Nat) : Int) := ⟨_, rfl⟩
      obtain ⟨V, hV⟩ : ∃ V : Int, V = (v : Int) := ⟨_, rfl⟩
      obtain ⟨U, hU⟩ : ∃ U : Int, U = ((v + num : Nat) : Int) := ⟨_, rfl⟩
      rw [← hK2] at f9 hlk hup
      rw [← hV] at hlk hw
      rw [← hU] at hup hw
      simp [e67, e68, hlt', wj, g13, f2, f3, f4, g8, hix, hld, f5, f6, g12, g14, f8, f9, hlk, hw, hup]
      refine hN (j + 1) _ (by omega) ⟨by omega, hkp _ (fun r hr h15 => by simp [hne r hr, h15]) (by simp) (by simp) (fun i hi => by simp [hi]), by simp, by simp [e67], by simp⟩
  · have hlt' : ¬ (j : Int) < 4 := by omega
    obtain rfl : j = 4 := by omega
    simp [e67, e68]
    refine ⟨⟨fun r hr h15 => ?_, ?_, ?_, fun j hj => ?_⟩, ?_⟩
    · have hne : ∀ d, 66 ≤ d → (r = d) = False := fun d hd => by simp; omega
      simp [hne, hK.env r hr h15]
    · simp [hK.heap]
    · simp [hK.nh]
    · simp [hK.mp j hj]
    · simp [hmp]
end Go.Proofs.YtdcpkgedaflnmaaGreatDoor.Wm
set_option linter.unusedVariables false
set_option linter.unusedSimpArgs false
namespace Go.Proofs.YtdcpkgedaflnmaaGreatDoor.Wm
open Go Fw

/-- the sets of each round, with their numbers -/
def rN (i : Nat) : List (Nat × Nat) := match i with
  | 0 => [(0, 1)]
  | 1 => [(1, 1), (2, 1)]
  | 2 => [(3, 2), (5, 1)]
  | 3 => [(7, 3)]
  | _ => [(15, 3)]
/-- the next map, when these entries have been handed out -/
def nxN (l : List (Nat × Nat)) (done : List Nat) : List (Nat × Nat) := done.foldr (fun j acc => rowN (l.getD j (0, 0)).1 (l.getD j (0, 0)).2 acc 4) []
/-- what may have been handed out -/
def dnL (l : List (Nat × Nat)) : List (List Nat) := if l.length = 1 then [[], [0]] else [[], [0], [1], [0, 1], [1, 0]]
theorem dn_cons0 : ∀ i < 4, ∀ done ∈ dnL (rN i), ∀ j < (rN i).length, j ∈ done ∨ j :: done ∈ dnL (rN i) := by decide
theorem dn_cons : ∀ i < 4, ∀ j < (rN i).length, ∀ done ∈ dnL (rN i), j ∉ done → j :: done ∈ dnL (rN i) := fun i hi j hj done hd hn => (dn_cons0 i hi done hd j hj).resolve_left hn
theorem dn_end : ∀ i < 4, ∀ done ∈ dnL (rN i), (∀ j < (rN i).length, j ∈ done) → nxN (rN i) done = rN (i + 1) := by decide
theorem dn_st : ∀ i < 4, ∀ j < (rN i).length, ((rN i).getD j (0, 0)).1 ∈ stN ∧ ((rN i).getD j (0, 0)).2 ≤ 10 := by decide
theorem lk_le {l : List (Nat × Nat)} {B : Nat} (h : ∀ q ∈ l, q.2 ≤ B) : leN l B := by
  intro k
  induction l with
  | nil => simp [lkN]
  | cons q l ih =>
    simp only [lkN]
    split
    · exact h q (List.mem_cons_self ..)
    · exact ih fun q hq => h q (List.mem_cons_of_mem _ hq)
theorem dn_le : ∀ i < 4, ∀ done ∈ dnL (rN i), ∀ q ∈ nxN (rN i) done, q.2 ≤ 10 := by decide
theorem ent_at {l : List (Nat × Nat)} {j : Nat} {p : AV × AV} (h : (entN l)[j]? = some p) : j < l.length ∧ p = (.int .u64 ((l.getD j (0, 0)).1 : Int), .int .i64 ((l.getD j (0, 0)).2 : Int)) := by
  simp only [entN, List.getElem?_map] at h
  rcases hj : l[j]? with _ | q
  · rw [hj] at h; cases h
  · rw [hj] at h
    have hl := (List.getElem?_eq_some_iff.1 hj).1
    refine ⟨hl, ?_⟩
    simp only [Option.map_some, Option.some.injEq] at h
    rw [← h]
    simp [List.getD_eq_getElem?_getD, hj]
/-- the head of a round -/
structure RdI (p : Nat) (i m : Nat) (s : AS) : Prop where
  e1 : s.env 1 = .str (bs logL)
  e8 : s.env 8 = .ref p 0
  h8 : s.hs.heap p = some (tbL 1 6)
  e11 : s.env 11 = .mp m
  hm : s.hs.mp m = some (entN (rN i))
  e55 : s.env 55 = .int .i64 4
  e56 : s.env 56 = .int .i64 (i : Int)
  mn : m < s.hs.nh
/-- within the round -/
structure RmJ (p i nx it : Nat) (done : List Nat) (s : AS) : Prop where
  dn : done ∈ dnL (rN i)
  e1 : s.env 1 = .str (bs logL)
  e8 : s.env 8 = .ref p 0
  h8 : s.hs.heap p = some (tbL 1 6)
  e12 : s.env 12 = .mp nx
  hm : s.hs.mp nx = some (entN (nxN (rN i) done))
  e55 : s.env 55 = .int .i64 4
  e56 : s.env 56 = .int .i64 (i : Int)
  e60 : s.env 60 = .ref it 0
  mn : nx < s.hs.nh
theorem w_body {C : PCtx} {p i nx it j : Nat} (hi : i < 4) {done : List Nat} {s : AS} {q : AV × AV} (hq : (entN (rN i))[j]? = some q) (hj : j ∉ done) (hJ : RmJ p i nx it done s) :
    At (awp Tryz.prog C P22 (endN (RmJ p i nx it (j :: done))) (((((((s.put (some 61) (.tup [.bool true, q.1, q.2])).put (some 62) (.bool true)).put (some 63) (.tup [q.1, q.2])).put (some 64) q.1).put (some 65) q.2).put (some 13) q.1).put (some 14) q.2)) := by
  obtain ⟨hl, rfl⟩ := ent_at hq
  obtain ⟨h1, h2⟩ := dn_st i hi j hl
  obtain ⟨s0, hs0⟩ : ∃ s0 : AS, s0 = (((((((s.put (some 61) (.tup [.bool true, .int .u64 (((rN i).getD j (0, 0)).1 : Int), .int .i64 (((rN i).getD j (0, 0)).2 : Int)])).put (some 62) (.bool true)).put (some 63) (.tup [.int .u64 (((rN i).getD j (0, 0)).1 : Int), .int .i64 (((rN i).getD j (0, 0)).2 : Int)])).put (some 64) (.int .u64 (((rN i).getD j (0, 0)).1 : Int))).put (some 65) (.int .i64 (((rN i).getD j (0, 0)).2 : Int))).put (some 13) (.int .u64 (((rN i).getD j (0, 0)).1 : Int))).put (some 14) (.int .i64 (((rN i).getD j (0, 0)).2 : Int))) := ⟨_, rfl⟩
  rw [← hs0]
  have hh : s0.hs = s.hs := by rw [hs0]; simp
  have he : ∀ r, r < 61 → r ≠ 13 → r ≠ 14 → s0.env r = s.env r := by
    intro r h3 h4 h5
    have hne : ∀ d, 61 ≤ d → (r = d) = False := fun d hd => by simp; omega
    rw [hs0]; simp [hne, h4, h5]
  have w := w22 (C := C) (p := p) (nx := nx) (l := nxN (rN i) done) (s0 := s0) (s := s0) h1 h2 (lk_le (dn_le i hi done hJ.dn)) ⟨fun _ _ _ => rfl, rfl, rfl, fun _ _ => rfl⟩ (by rw [he 1 (by decide) (by decide) (by decide), hJ.e1])
    (by rw [he 8 (by decide) (by decide) (by decide), hJ.e8]) (by rw [hh]; exact hJ.h8) (by rw [he 12 (by decide) (by decide) (by decide), hJ.e12]) (by rw [hh]; exact hJ.hm) (by rw [hs0]; simp) (by rw [hs0]; simp)
  refine awp_mono P22 (fun e s' h => ?_) s0 w
  cases e <;> first | exact h.elim | skip
  obtain ⟨hK, hm⟩ := h
  have he' : ∀ r, r < 61 → r ≠ 13 → r ≠ 14 → r ≠ 15 → s'.env r = s.env r := fun r h3 h4 h5 h6 => (hK.env r (by omega) h6).trans (he r h3 h4 h5)
  exact ⟨dn_cons i hi j hl done hJ.dn hj, by rw [he' 1 (by decide) (by decide) (by decide) (by decide), hJ.e1], by rw [he' 8 (by decide) (by decide) (by decide) (by decide), hJ.e8], by rw [hK.heap, hh, hJ.h8],
    by rw [he' 12 (by decide) (by decide) (by decide) (by decide), hJ.e12], hm, by rw [he' 55 (by decide) (by decide) (by decide) (by decide), hJ.e55], by rw [he' 56 (by decide) (by decide) (by decide) (by decide), hJ.e56],
    by rw [he' 60 (by decide) (by decide) (by decide) (by decide), hJ.e60], by rw [hK.nh, hh]; exact hJ.mn⟩
theorem At.rm {Wb : Wp} {tx tx' ti tn tb te tk' tv' tk tv : Nat} {Q : AEx → AS → Prop} {s : AS} (h : rmW Wb tx tx' ti tn tb te tk' tv' tk tv Q s) : At (rmW Wb tx tx' ti tn tb te tk' tv' tk tv Q s) := h
theorem w_round {C : PCtx} {p i m : Nat} {s : AS} {N : AS → Prop} {Q : AEx → AS → Prop} (hi : i < 4) (hI : RdI p i m s) (hN : ∀ m' s', RdI p (i + 1) m' s' → N s') : At (rndW C (thenQ N Q) s) := by
  have hi' : (i : Int) < 4 := by omega
  have wi := wrap_nat1 (show i < _ by omega)
  unfold rndW
  have hmk : amem .mkmap s.hs [] = some (.mp s.hs.nh, { s.hs with mp := fun j => if j = s.hs.nh then some [] else s.hs.mp j, nh := s.hs.nh + 1 }) := rfl
  simp [At.sq, P17, P17c, P18, hI.e55, hI.e56, hi', hmk]
  rw [At.sq]
  have hmn := hI.mn
  refine At.rm ⟨m, entN (rN i), RmJ p i s.hs.nh (s.hs.nh + 1), ?_, ?_, ?_, fun done s' hJ => hJ.e60, fun done j s' q hq hj hJ => w_body hi hq hj hJ, fun done s' hd hJ => ?_⟩
  · simp [hI.e11]
  · simp [hI.hm, show ¬ m = s.hs.nh by omega]
  · refine ⟨?_, by simp [hI.e1], by simp [hI.e8], by simp [hI.h8, HS.iter], by simp, ?_, by simp [hI.e55], by simp [hI.e56], by simp, ?_⟩
    · unfold dnL; split <;> simp
    · simp [HS.iter, show ¬ s.hs.nh = m by omega, nxN, entN]
    · simp only [HS.iter, put_hs]
      omega
  · have hall : ∀ j < (rN i).length, j ∈ done := fun j hj => hd j (by simpa [entN] using hj)
    have he := dn_end i hi done hJ.dn hall
    have hm := hJ.hm
    rw [he] at hm
    show At _
    simp [P28, P29, hJ.e12, hJ.e56, wi]
    refine hN s.hs.nh _ ⟨by simp [hJ.e1], by simp [hJ.e8], by simp [hJ.h8], by simp, by simp [hm], by simp [hJ.e55], by simp, by simp [hJ.mn]⟩
theorem w_out {C : PCtx} {p m : Nat} {s : AS} {N : AS → Prop} {Q : AEx → AS → Prop} (hI : RdI p 4 m s) (hQ : ∀ s', s'.env 1 = .str (bs logL) → s'.env 11 = .mp m → s'.hs.mp m = some (entN [(15, 3)]) → Q (.exit 4) s') : At (rndW C (thenQ N Q) s) := by
  unfold rndW
  simp [At.sq, P17, P17c, hI.e55, hI.e56]
  exact hQ _ (by simp [hI.e1]) (by simp [hI.e11]) (by simp [hI.hm, rN])
section
variable {C : PCtx} (hC : CtxOk Tryz.prog C) (k152 : C 152 [offA, .sl 1 [.str (bs logL)] .exact] = some (.tup [dskA, .int .i64 0])) (k153 : ∀ k i : Nat, i < 4 → k < i → C 153 [dskA, .int .u8 ((logC.getD k 0 : Nat) : Int), .int .u8 ((logC.getD i 0 : Nat) : Int)] = some (.bool (bnd k i)))
include hC k152 k153
theorem w129 {hs : HS} {R : AEnd → HS → Prop} (hR : ∀ hs', R (.ret (.tup [.int .i64 3, .int .i64 0])) hs') : At (allW C (finQ [.t 4, .t 5] R) ⟨argEnv [offA, .str (bs logL)], hs⟩) := by
  unfold allW
  rw [At.sq]
  simp [P0, argEnv, off_sto, At.sq, P1, off_ld, k152, log_sto]
  rw [dsk_st (ys := List.replicate 6 (.int .u64 0)) (hl := rfl) (h := by simp [List.replicate])]
  simp [At.sq, P2, P4]
  rw [At.sq]
  refine At.cut (fun s => s.env 1 = .str (bs logL) ∧ s.env 8 = .ref (hs.nh + 1) 0 ∧ s.hs.heap (hs.nh + 1) = some (tbL 1 6) ∧ s.hs.nh = hs.nh + 2) ?_ ?_
  · refine w5 k153 (q := hs.nh) rfl rfl ?_ rfl ?_ (by omega) rfl
    · simp
    · simp [tbL]
  rintro s ⟨e1, e8, h8, hn⟩
  show At _
  have hmk : amem .mkmap s.hs [] = some (.mp s.hs.nh, { s.hs with mp := fun j => if j = s.hs.nh then some [] else s.hs.mp j, nh := s.hs.nh + 1 }) := rfl
  obtain ⟨h1, hh1⟩ : ∃ h1 : HS, h1 = { s.hs with mp := fun j => if j = s.hs.nh then some [] else s.hs.mp j, nh := s.hs.nh + 1 } := ⟨_, rfl⟩
  rw [← hh1] at hmk
  have hup : amem (.mupd 0) h1 [.mp s.hs.nh, .int .u64 0, .int .i64 1] = some (.undef, { h1 with mp := fun i => if i = s.hs.nh then some (entN [(0, 1)]) else h1.mp i }) := by
    have := amupd_N (hs := h1) (j := s.hs.nh) (es := []) (by rw [hh1]; simp [entN]) 0 1
    simp only [amem]
    exact congrArg (Option.map _) this
  simp [At.sq, P15, P16, hmk, hup, e1]
  show At (∃ m, loopW (rndW C) m (blkQ 4 (thenQ (awp Tryz.prog C P30 (finQ [ARes.t 4, ARes.t 5] R)) (finQ [ARes.t 4, ARes.t 5] R))) _)
  refine loopW_of (fun h s hw => (simL hC).mono h s hw) (fun (x : Nat × Nat) s => x.1 ≤ 4 ∧ RdI (hs.nh + 1) x.1 x.2 s) (fun x => 4 - x.1) ?_ (x := (0, s.hs.nh)) ?_
  · rintro N ⟨i, m⟩ s' hN ⟨hi, hI⟩
    by_cases hlt : i < 4
    · exact w_round hlt hI fun m' s2 h2 => hN (i + 1, m') s2 (by simp only; omega) ⟨hlt, h2⟩
    · obtain rfl : i = 4 := by simp only at hi; omega
      refine w_out hI fun s2 e1 e11 hm => ?_
      have hlk : amem (.look 0 false (.int .i64 0)) s2.hs [.mp m, .int .u64 15] = some (.int .i64 3, s2.hs) := by
        have := amlook_N hm 15
        simp only [amem]
        exact congrArg (Option.map _) this
      have hsh : abin 0 .shl (.int .u64 1) (.int .i64 4) = some (.int .u64 16) := rfl
      have hsu : abin 0 .sub (.int .u64 16) (.int .u64 1) = some (.int .u64 15) := rfl
      have el : alenK true (.str (bs logL)) = some (.int .i64 4) := rfl
      show At _
      simp [P30, e1, e11, el, hsh, hsu, hlk]
      exact hR _
  · refine ⟨by simp, ⟨by simp [e1], by simp [e8], by simp [hh1, h8], by simp, by simp [rN], by simp [logL], by simp, by simp [hh1]⟩⟩
end
theorem p129 : PCall Tryz.prog 129 [offA, .str (bs logL)] (.tup [.int .i64 3, .int .i64 0]) := by
  obtain ⟨C, hC, k152, k153⟩ := ctxL
  refine PCall.mk ?_ ?_
  · simp [AV.plain, plainL]
  intro hs hb
  refine fc129 hC ?_ (w129 hC k152 k153 ?_)
  · exact Nat.le_add_left 2 99
  · intro hs'
    rfl
end Go.Proofs.YtdcpkgedaflnmaaGreatDoor.Wm
