/-
  Bit sets, racks by value, and contracts of the small functions. Own work.
  Frames: what can be reached, what keeps together. Own work.
  The frame of a rack. Own work.
  Checks of racks, twice; copies; stiffness. Own work.
  Groups of rows and columns. Own work.
  What can be reached, after the reference: a matrix of rows that are made one by one. Own work.
  Groups, after the reference. Own work.
  slices.Grow and slices.Concat. Own work.
  Copies of racks; stiffness after the reference; lists compared. Own work.
  Lists and groups compared; needed braces. Own work.
  Needed braces, twice. Own work.
  What can be reached: the matrix and the sets say the same. Own work.
  Sets that are closed under arrows. Own work.
  Frames and the reference's matrix: groups, stiffness, needed braces are the same. Own work.
  The groups are the same; stiffness. Own work.
  Stiffness, groups and needed braces: the rack's code and the reference agree. Own work.
  The law of stiffness, but for the examples. Own work.
-/
import Derived.Test.YtecbbbocjmdfgaaC1
import Derived.Test.YtecbbbocjmdfgaaFw4
set_option linter.unusedVariables false
set_option linter.unusedSimpArgs false
namespace Go.Proofs.Ytecbbbocjmdfgaa
open Go Fw

theorem wrap16 {n : Nat} (h : n < 65536) : IntKind.u16.wrap (n : Int) = n := by
  have : IntKind.u16.wrap (n : Int) = (n : Int) % 65536 := by simp [IntKind.wrap, IntKind.bits, IntKind.signed]
  rw [this]; omega
theorem bv16 {n : Nat} : BitVec.ofInt 16 (n : Int) = BitVec.ofNat 16 n := by
  apply BitVec.eq_of_toNat_eq
  simp
/-- a set of rows and columns -/
def u16 (n : Nat) : AV := .int .u16 (n : Int)
@[simp] theorem u16_share {n : Nat} : (u16 n).share = u16 n := by simp [u16]
@[simp] theorem u16_leaf {n : Nat} : (u16 n).leaf = true := id rfl
@[simp] theorem u16_sto {n : Nat} : (u16 n).sto = true := id rfl
@[simp] theorem u16_cells {n : Nat} : (u16 n).cells = [u16 n] := id rfl
@[simp] theorem u16_plain {n : Nat} : (u16 n).plain = true := id rfl
@[simp] theorem u16_frzC {h : Nat → Option (List AV)} {m n : Nat} : frzC (frzL h m) (u16 n) = u16 n := frzC_int
theorem u16_0 : AV.int .u16 0 = u16 0 := id rfl
theorem u16_inj {a b : Nat} (h : u16 a = u16 b) : a = b := by
  unfold u16 at h
  injection h with _ h
  omega
@[simp] theorem u16_eql {kd a b : Nat} : abin kd .eql (u16 a) (u16 b) = some (.bool (decide (a = b))) := by
  unfold u16
  rw [abin_eql]
  congr 2
  simp only [decide_eq_decide]
  omega
theorem or16 {kd a b : Nat} (ha : a < 65536) (hb : b < 65536) : abin kd .or (u16 a) (u16 b) = some (u16 (a ||| b)) := by
  have h : a ||| b < 65536 := Nat.or_lt_two_pow (n := 16) ha hb
  have e : (BitVec.ofInt 16 (a : Int) ||| BitVec.ofInt 16 (b : Int)).toNat = a ||| b := by
    rw [bv16, bv16, BitVec.toNat_or, BitVec.toNat_ofNat, BitVec.toNat_ofNat, Nat.mod_eq_of_lt ha, Nat.mod_eq_of_lt hb]
  show some (AV.int IntKind.u16 (IntKind.u16.wrap ((BitVec.ofInt 16 (a : Int) ||| BitVec.ofInt 16 (b : Int)).toNat : Int))) = _
  rw [e, wrap16 h]; rfl
theorem and16 {kd a b : Nat} (ha : a < 65536) (hb : b < 65536) : abin kd .and (u16 a) (u16 b) = some (u16 (a &&& b)) := by
  have h : a &&& b < 65536 := Nat.lt_of_le_of_lt Nat.and_le_left ha
  have e : (BitVec.ofInt 16 (a : Int) &&& BitVec.ofInt 16 (b : Int)).toNat = a &&& b := by
    rw [bv16, bv16, BitVec.toNat_and, BitVec.toNat_ofNat, BitVec.toNat_ofNat, Nat.mod_eq_of_lt ha, Nat.mod_eq_of_lt hb]
  show some (AV.int IntKind.u16 (IntKind.u16.wrap ((BitVec.ofInt 16 (a : Int) &&& BitVec.ofInt 16 (b : Int)).toNat : Int))) = _
  rw [e, wrap16 h]; rfl
theorem pow16 {n : Nat} (h : n < 16) : 2 ^ n < 65536 := by
  have := Nat.pow_lt_pow_right (a := 2) (by omega) h
  simpa using this
theorem shl16 {kd n : Nat} (h : n < 16) : abin kd .shl (.int .u16 1) (.int .i64 (n : Int)) = some (u16 (2 ^ n)) := by
  have h1 := pow16 h
  have := wrap16 h1
  rw [abin_shl (by omega)]
  simp only [Int.toNat_natCast, IntKind.bits, Nat.min_eq_left (Nat.le_of_lt h), Int.one_mul]
  rw [show ((2 : Int) ^ n) = ((2 ^ n : Nat) : Int) by simp, this]; rfl
theorem shr16 {kd a n : Nat} (h : n < 16) : abin kd .shr (u16 a) (.int .i64 (n : Int)) = some (u16 (a / 2 ^ n)) := by
  unfold u16
  rw [abin_shr (by omega)]
  simp only [Int.toNat_natCast, IntKind.bits, Nat.min_eq_left (Nat.le_of_lt h)]
  rw [Int.fdiv_eq_ediv_of_nonneg _ (by exact_mod_cast Nat.zero_le _)]
  norm_cast
theorem bit16 {kd a n : Nat} (ha : a < 65536) : abin kd .and (u16 (a / 2 ^ n)) (.int .u16 1) = some (u16 (a.testBit n).toNat) := by
  have h1 : a / 2 ^ n < 65536 := Nat.lt_of_le_of_lt (Nat.div_le_self _ _) ha
  have := and16 (kd := kd) h1 (show 1 < 65536 by omega)
  show abin kd .and (u16 (a / 2 ^ n)) (u16 1) = _
  rw [this, Nat.and_one_is_mod, Nat.testBit_eq_decide_div_mod_eq]
  rcases Nat.mod_two_eq_zero_or_one (a / 2 ^ n) with h | h <;> simp [h]
@[simp] theorem bitq {kd : Nat} {b : Bool} : abin kd .eql (u16 b.toNat) (.int .u16 1) = some (.bool b) := by
  show abin kd .eql (u16 b.toNat) (u16 1) = _
  rw [u16_eql]
  cases b <;> rfl
theorem full16 {kd n : Nat} (h : n < 16) : abin kd .sub (u16 (2 ^ n)) (.int .u16 1) = some (u16 (2 ^ n - 1)) := by
  have h1 := pow16 h
  have h2 : 0 < 2 ^ n := Nat.pow_pos (by omega)
  show some (AV.int IntKind.u16 (IntKind.u16.wrap (((2 ^ n : Nat) : Int) - 1))) = _
  rw [show (((2 ^ n : Nat) : Int) - 1) = ((2 ^ n - 1 : Nat) : Int) by omega, wrap16 (by omega)]; rfl

/-! racks -/
abbrev Br := Int × Int × Int
structure Rk where
  r : Int
  c : Int
  b : List Br
abbrev brs (l : List Br) : List AV := l.map fun b => .agg [.int .i64 b.1, .int .i64 b.2.1, .int .i64 b.2.2]
def deB : List AV → Option (List Br)
  | [] => some []
  | .agg [.int .i64 a, .int .i64 b, .int .i64 c] :: xs => (deB xs).map ((a, b, c) :: ·)
  | _ => none
theorem deB_inv : ∀ {xs : List AV} {l : List Br}, deB xs = some l → xs = brs l
  | [], l, h => by simp only [deB] at h; injection h with h; subst h; rfl
  | x :: xs, l, h => by
    unfold deB at h
    split at h <;> (try (cases h; done))
    · rename_i e; cases e
    · rename_i a b c ys e
      injection e with e1 e2
      subst e1; subst e2
      obtain ⟨l', h1, rfl⟩ := optmap_some h
      rw [deB_inv h1]; rfl
theorem deB_brs : ∀ l : List Br, deB (brs l) = some l
  | [] => rfl
  | (a, b, c) :: l => by
    have := deB_brs l
    simp only [brs, List.map_cons, deB] at this ⊢
    rw [this]; rfl
def asB (x : AV) : Option (List Br) := (asV 3 x).bind deB
theorem asB_inv {x : AV} {l : List Br} (h : asB x = some l) : asV 3 x = some (brs l) ∧ ((x = .nilsl ∧ l = []) ∨ ∃ c, x = .sl 3 (brs l) c) ∧ l.length < 4294967296 := by
  obtain ⟨ys, h1, h2⟩ := Option.bind_eq_some_iff.1 h
  have := deB_inv h2
  subst this
  obtain ⟨h3, h4⟩ := asV_inv h1
  refine ⟨h1, ?_, by simpa using h4⟩
  rcases h3 with ⟨e1, e2⟩ | ⟨c, e1⟩
  · exact .inl ⟨e1, List.map_eq_nil_iff.1 e2⟩
  · exact .inr ⟨c, e1⟩
theorem asB_sl {l : List Br} {c : Cap} (h : l.length < 4294967296) : asB (.sl 3 (brs l) c) = some l := by
  simp only [asB, asV, List.length_map, h, and_self, if_true, Option.bind_some, deB_brs]
@[simp] theorem asB_nil : asB .nilsl = some [] := id rfl
theorem asB_outV {l : List Br} (h : l.length < 4294967296) : asB (outV 3 (brs l)) = some l := by
  cases l with
  | nil => rfl
  | cons a r => exact asB_sl h
theorem blen {x : AV} {l : List Br} (h : asB x = some l) : alenK false x = some (.int .i64 l.length) := by
  rcases (asB_inv h).2.1 with ⟨rfl, rfl⟩ | ⟨c, rfl⟩ <;> simp
theorem bidx {x : AV} {l : List Br} (h : asB x = some l) {k : IntKind} {i : Nat} (hi : i < l.length) : aidxS 3 x (.int k (i : Int)) = some (.ptr (.agg [.int .i64 l[i].1, .int .i64 l[i].2.1, .int .i64 l[i].2.2])) := by
  rcases (asB_inv h).2.1 with ⟨rfl, rfl⟩ | ⟨c, rfl⟩
  · simp at hi
  · simp [aidxS, hi]
def asR : AV → Option Rk
  | .agg [.int .i64 r, .int .i64 c, x] => (asB x).map (⟨r, c, ·⟩)
  | _ => none
theorem asR_inv {x : AV} {R : Rk} (h : asR x = some R) : ∃ b, x = .agg [.int .i64 R.r, .int .i64 R.c, b] ∧ asB b = some R.b := by
  unfold asR at h
  split at h <;> (try (cases h; done))
  obtain ⟨l, h1, rfl⟩ := optmap_some h
  exact ⟨_, rfl, h1⟩
theorem asR_mk {r c : Int} {b : AV} {l : List Br} (h : asB b = some l) : asR (.agg [.int .i64 r, .int .i64 c, b]) = some ⟨r, c, l⟩ := by simp [asR, h]

/-! small functions -/
def btw (lo n hi : Int) : Bool := decide (lo ≤ n) && decide (n ≤ hi)
theorem p60 {C : PCtx} (hC : CtxOk Try.prog C) (lo n hi : Int) : PCall Try.prog 60 [.int .i64 lo, .int .i64 n, .int .i64 hi] (.bool (btw lo n hi)) := by
  refine PCall.of hC ok60 (by simp) rfl fun hs hb => ?_
  simp [A60, R60]
  refine At.dec (fun h => ?_) (fun h => ?_) <;> simp [h, btw]
theorem p76 {C : PCtx} (hC : CtxOk Try.prog C) (n lo hi : Int) : PCall Try.prog 76 [.int .i64 n, .int .i64 lo, .int .i64 hi] (.bool (btw lo n hi)) := by
  refine PCall.of hC ok76 (by simp) rfl fun hs hb => ?_
  simp [A76, R76]
  refine At.dec (fun h => ?_) (fun h => ?_) <;> simp [h, btw]
def SBtw : List AV → Option AV
  | [.int .i64 lo, .int .i64 n, .int .i64 hi] => some (.bool (btw lo n hi))
  | _ => none
def SIs : List AV → Option AV
  | [.int .i64 n, .int .i64 lo, .int .i64 hi] => some (.bool (btw lo n hi))
  | _ => none
theorem c60 {C : PCtx} (hC : CtxOk Try.prog C) : ∀ a r, SBtw a = some r → PCall Try.prog 60 a r := by
  intro a r h
  unfold SBtw at h
  split at h <;> (try (cases h; done))
  injection h with h; subst h
  exact p60 hC _ _ _
theorem c76 {C : PCtx} (hC : CtxOk Try.prog C) : ∀ a r, SIs a = some r → PCall Try.prog 76 a r := by
  intro a r h
  unfold SIs at h
  split at h <;> (try (cases h; done))
  injection h with h; subst h
  exact p76 hC _ _ _
def D0 : PCtx := (PCtx.nil.add 60 SBtw).add 76 SIs
theorem D0ok : CtxOk Try.prog D0 := (CtxOk.nil.add (c60 .nil)).add (c76 .nil)
@[simp] theorem D0_60 : D0 60 = SBtw := id rfl
@[simp] theorem D0_76 : D0 76 = SIs := id rfl
@[simp] theorem SBtw_i {lo n hi : Int} : SBtw [.int .i64 lo, .int .i64 n, .int .i64 hi] = some (.bool (btw lo n hi)) := id rfl
@[simp] theorem SIs_i {lo n hi : Int} : SIs [.int .i64 n, .int .i64 lo, .int .i64 hi] = some (.bool (btw lo n hi)) := id rfl
theorem p61 (n lo hi : Int) : PCall Try.prog 61 [.int .i64 n, .int .i64 lo, .int .i64 hi] (.bool (btw lo n hi)) := by
  refine PCall.of D0ok ok61 (by simp) rfl fun hs hb => ?_
  simp [A61, R61]
theorem c61 : ∀ a r, SIs a = some r → PCall Try.prog 61 a r := by
  intro a r h
  unfold SIs at h
  split at h <;> (try (cases h; done))
  injection h with h; subst h
  exact p61 _ _ _
theorem p56 {C : PCtx} (hC : CtxOk Try.prog C) {s i : Nat} (hs : s < 65536) (hi : i < 16) : PCall Try.prog 56 [u16 s, .int .i64 (i : Int)] (.bool (s.testBit i)) := by
  refine PCall.of hC ok56 (by simp) rfl fun hs' hb => ?_
  simp [A56, R56, shr16 hi, bit16 hs]
end Go.Proofs.Ytecbbbocjmdfgaa
set_option linter.unusedVariables false
set_option linter.unusedSimpArgs false
namespace Go.Proofs.Ytecbbbocjmdfgaa
open Go Fw

/-! lists of sets -/
abbrev us (l : List Nat) : List AV := l.map u16
def deU : List AV → Option (List Nat)
  | [] => some []
  | .int .u16 n :: xs => if 0 ≤ n ∧ n < 65536 then (deU xs).map (n.toNat :: ·) else none
  | _ => none
theorem deU_inv : ∀ {xs : List AV} {l : List Nat}, deU xs = some l → xs = us l ∧ ∀ a ∈ l, a < 65536
  | [], l, h => by simp only [deU] at h; injection h with h; subst h; exact ⟨rfl, by simp⟩
  | x :: xs, l, h => by
    unfold deU at h
    split at h <;> (try (cases h; done))
    · rename_i e; cases e
    · rename_i n ys e
      injection e with e1 e2
      subst e1; subst e2
      split at h <;> (try (cases h; done))
      rename_i hn
      obtain ⟨l', h1, rfl⟩ := optmap_some h
      obtain ⟨h2, h3⟩ := deU_inv h1
      refine ⟨?_, fun a ha => ?_⟩
      · rw [h2]
        show _ = u16 n.toNat :: us l'
        rw [u16, Int.toNat_of_nonneg hn.1]
      · rcases List.mem_cons.1 ha with rfl | ha
        · omega
        · exact h3 a ha
theorem deU_us : ∀ {l : List Nat}, (∀ a ∈ l, a < 65536) → deU (us l) = some l
  | [], _ => rfl
  | a :: l, h => by
    have h1 := h a (by simp)
    simp only [us, List.map_cons, u16, deU]
    rw [if_pos (by omega)]
    have := deU_us (l := l) fun b hb => h b (by simp [hb])
    simp only [us, u16] at this
    rw [this]
    simp
structure Fm where
  r : Nat
  c : Nat
  arr : List Nat
def asF : AV → Option Fm
  | .agg [.int .i64 r, .int .i64 c, _, .sl 1 xs _] => (deU xs).bind fun l => if 0 ≤ r ∧ 0 ≤ c ∧ r + c < 16 ∧ (l.length : Int) = r + c then some ⟨r.toNat, c.toNat, l⟩ else none
  | _ => none
structure IsF (x : AV) (F : Fm) : Prop where
  eq : ∃ b cp, x = .agg [.int .i64 (F.r : Int), .int .i64 (F.c : Int), b, .sl 1 (us F.arr) cp]
  lt : ∀ a ∈ F.arr, a < 65536
  sum : F.r + F.c < 16
  len : F.arr.length = F.r + F.c
theorem asF_inv {x : AV} {F : Fm} (h : asF x = some F) : IsF x F := by
  unfold asF at h
  split at h <;> (try (cases h; done))
  obtain ⟨l, h1, h2⟩ := Option.bind_eq_some_iff.1 h
  split at h2 <;> (try (cases h2; done))
  rename_i r c b xs cp hc
  injection h2 with h2; subst h2
  obtain ⟨rfl, h4⟩ := deU_inv h1
  refine ⟨⟨b, cp, ?_⟩, h4, by simp only; omega, by simp only; omega⟩
  simp only [Int.toNat_of_nonneg hc.1, Int.toNat_of_nonneg hc.2.1]
theorem asF_mk {F : Fm} {b : AV} {cp : Cap} (lt : ∀ a ∈ F.arr, a < 65536) (sum : F.r + F.c < 16) (len : F.arr.length = F.r + F.c) : asF (.agg [.int .i64 (F.r : Int), .int .i64 (F.c : Int), b, .sl 1 (us F.arr) cp]) = some F := by
  simp only [asF, deU_us lt, Option.bind_some, Int.toNat_natCast]
  rw [if_pos (by omega)]

def gt (l : List Nat) (k : Nat) : Nat := l.getD k 0
/-- one round: the first k arrows are followed -/
def inS (arr : List Nat) : Nat → Nat → Nat
  | 0, o => o
  | k + 1, o => if (inS arr k o).testBit k then inS arr k o ||| gt arr k else inS arr k o
def itS (arr : List Nat) : Nat → Nat → Nat
  | 0, o => o
  | m + 1, o => inS arr arr.length (itS arr m o)
def fromS (arr : List Nat) (i : Nat) : Nat := itS arr arr.length (2 ^ i)
theorem getD_lt {arr : List Nat} (h : ∀ a ∈ arr, a < 65536) (k : Nat) : gt arr k < 65536 := by
  rw [gt, List.getD_eq_getElem?_getD]
  rcases Nat.lt_or_ge k arr.length with hk | hk
  · rw [List.getElem?_eq_getElem hk]; exact h _ (List.getElem_mem hk)
  · rw [List.getElem?_eq_none hk]; simp
theorem inS_lt {arr : List Nat} (h : ∀ a ∈ arr, a < 65536) {o : Nat} (ho : o < 65536) : ∀ k, inS arr k o < 65536
  | 0 => ho
  | k + 1 => by
    simp only [inS]
    split
    · exact Nat.or_lt_two_pow (n := 16) (inS_lt h ho k) (getD_lt h k)
    · exact inS_lt h ho k
theorem itS_lt {arr : List Nat} (h : ∀ a ∈ arr, a < 65536) {o : Nat} (ho : o < 65536) : ∀ m, itS arr m o < 65536
  | 0 => ho
  | m + 1 => inS_lt h (itS_lt h ho m) _
theorem fromS_lt {arr : List Nat} (h : ∀ a ∈ arr, a < 65536) {i : Nat} (hi : i < 16) : fromS arr i < 65536 := itS_lt h (pow16 hi) _

def SHas : List AV → Option AV
  | [.int .u16 s, .int .i64 i] => if 0 ≤ s ∧ s < 65536 ∧ 0 ≤ i ∧ i < 16 then some (.bool (s.toNat.testBit i.toNat)) else none
  | _ => none
theorem SHas_i {s i : Nat} (hs : s < 65536) (hi : i < 16) : SHas [u16 s, .int .i64 (i : Int)] = some (.bool (s.testBit i)) := by
  simp only [u16, SHas]
  rw [if_pos (by omega)]
  simp
theorem c56 : ∀ a r, SHas a = some r → PCall Try.prog 56 a r := by
  intro a r h
  unfold SHas at h
  split at h <;> (try (cases h; done))
  split at h <;> (try (cases h; done))
  rename_i s i hc
  injection h with h; subst h
  have := p56 (C := PCtx.nil) CtxOk.nil (s := s.toNat) (i := i.toNat) (by omega) (by omega)
  rw [u16, Int.toNat_of_nonneg hc.1, Int.toNat_of_nonneg hc.2.2.1] at this
  exact this
def D1 : PCtx := (D0.add 61 SIs).add 56 SHas
theorem D1ok : CtxOk Try.prog D1 := (D0ok.add c61).add c56
@[simp] theorem D1_60 : D1 60 = SBtw := id rfl
@[simp] theorem D1_61 : D1 61 = SIs := id rfl
@[simp] theorem D1_56 : D1 56 = SHas := id rfl

theorem uidx {l : List Nat} {cp : Cap} {k : IntKind} {i : Nat} (hi : i < l.length) : aidxS 1 (.sl 1 (us l) cp) (.int k (i : Int)) = some (.ptr (u16 (gt l i))) := by
  simp [aidxS, hi, gt, List.getD]

theorem p74 {x : AV} {F : Fm} (hx : asF x = some F) {i : Nat} (hi : i < F.arr.length) : PCall Try.prog 74 [x, .int .i64 (i : Int)] (u16 (fromS F.arr i)) := by
  obtain ⟨⟨b, cp, rfl⟩, hlt, hs, hl⟩ := asF_inv hx
  refine PCall.of D1ok ok74 (by simp) (by simp) fun hs' hb => ?_
  simp [A74, R74, shl16 (show i < 16 by omega), AV.sto, afaddr, apart, AV.cells, aload]
  generalize hX : AV.agg [AV.int IntKind.i64 ↑F.r, AV.int IntKind.i64 ↑F.c, b, AV.sl 1 (us F.arr) cp] = X
  have hsto : X.cells = [AV.int IntKind.i64 ↑F.r, AV.int IntKind.i64 ↑F.c, b, AV.sl 1 (us F.arr) cp] := by rw [← hX]; rfl
  refine At.loop (fun (m : Nat) s => m ≤ F.arr.length ∧ s.env 2 = .ptr X ∧ s.env 12 = .int .i64 (F.arr.length : Int) ∧ s.env 13 = .int .i64 (m : Int) ∧ s.env 5 = u16 (itS F.arr m (2 ^ i))) (fun m => F.arr.length - m) 0 ?_ ?_
  · simp [itS]
  rintro N m s hN ⟨hm, e2, e12, e13, e5⟩
  simp [e2, e12, e13]
  refine At.dec (fun h => ?_) (fun h => ?_)
  · simp [e2, afaddr, apart, hsto, aload]
    refine At.loop (fun (k : Nat) s => k ≤ F.arr.length ∧ s.env 2 = .ptr X ∧ s.env 12 = .int .i64 (F.arr.length : Int) ∧ s.env 13 = .int .i64 (m : Int) ∧ s.env 16 = .sl 1 (us F.arr) cp ∧ s.env 17 = .int .i64 (F.arr.length : Int) ∧ s.env 18 = .int .i64 (k : Int) ∧ s.env 5 = u16 (inS F.arr k (itS F.arr m (2 ^ i)))) (fun k => F.arr.length - k) 0 ?_ ?_
    · simp [e2, e12, e13, e5, inS]
    rintro N' k s hN' ⟨hk, e2, e12, e13, e16, e17, e18, e5⟩
    have hlt' := inS_lt hlt (itS_lt hlt (pow16 (show i < 16 by omega)) m) k
    simp [e17, e18]
    refine At.dec (fun h => ?_) (fun h => ?_)
    · have hk' : k < F.arr.length := by omega
      simp [e16, e18, e5, uidx hk', apart, aload, SHas_i hlt' (show k < 16 by omega)]
      refine At.split (fun hb1 => ?_) (fun hb1 => ?_)
      · simp [e5, e18, or16 hlt' (getD_lt hlt k)]
        refine hN' (k + 1) _ (by omega) ⟨by omega, ?_⟩
        simp [e2, e12, e13, e16, e17, wrap_nat1 (show k < _ by omega), inS, hb1]
      · simp [e5, e18]
        refine hN' (k + 1) _ (by omega) ⟨by omega, ?_⟩
        simp [e2, e12, e13, e16, e17, e5, wrap_nat1 (show k < _ by omega), inS, hb1]
    · have : k = F.arr.length := by omega
      subst this
      simp [e13]
      refine hN (m + 1) _ (by omega) ⟨by omega, ?_⟩
      simp [e2, e12, e5, itS, wrap_nat1 (show m < _ by omega)]
  · have : m = F.arr.length := by omega
    subst this
    simp [e5, fromS]
theorem p75 {x : AV} {F : Fm} (hx : asF x = some F) : PCall Try.prog 75 [x] (u16 (2 ^ (F.r + F.c) - 1)) := by
  obtain ⟨⟨b, cp, rfl⟩, hlt, hs, hl⟩ := asF_inv hx
  refine PCall.of D1ok ok75 (by simp) (by simp) fun hs' hb => ?_
  have w : IntKind.i64.wrap ((F.r : Int) + (F.c : Int)) = ((F.r + F.c : Nat) : Int) := by rw [wrap64 (by omega) (by omega)]; omega
  have h1 := shl16 (kd := 0) hs
  rw [Int.natCast_add] at h1 w
  simp [A75, R75, AV.sto, afaddr, apart, AV.cells, aload, w, h1, full16 hs]
def SFrom : List AV → Option AV
  | [x, .int .i64 i] => (asF x).bind fun F => if 0 ≤ i ∧ i < F.arr.length then some (u16 (fromS F.arr i.toNat)) else none
  | _ => none
def SAll : List AV → Option AV
  | [x] => (asF x).map fun F => u16 (2 ^ (F.r + F.c) - 1)
  | _ => none
theorem c74 : ∀ a r, SFrom a = some r → PCall Try.prog 74 a r := by
  intro a r h
  unfold SFrom at h
  split at h <;> (try (cases h; done))
  rename_i x i
  obtain ⟨F, h1, h⟩ := Option.bind_eq_some_iff.1 h
  split at h <;> (try (cases h; done))
  rename_i hi
  injection h with h; subst h
  have := p74 h1 (i := i.toNat) (by omega)
  rw [Int.toNat_of_nonneg hi.1] at this
  exact this
theorem c75 : ∀ a r, SAll a = some r → PCall Try.prog 75 a r := by
  intro a r h
  unfold SAll at h
  split at h <;> (try (cases h; done))
  obtain ⟨F, h1, rfl⟩ := optmap_some h
  exact p75 h1
def D2 : PCtx := (D1.add 74 SFrom).add 75 SAll
theorem D2ok : CtxOk Try.prog D2 := (D1ok.add c74).add c75
@[simp] theorem D2_56 : D2 56 = SHas := id rfl
@[simp] theorem D2_60 : D2 60 = SBtw := id rfl
@[simp] theorem D2_61 : D2 61 = SIs := id rfl
@[simp] theorem D2_74 : D2 74 = SFrom := id rfl
@[simp] theorem D2_75 : D2 75 = SAll := id rfl
theorem SFrom_i {x : AV} {F : Fm} (hx : asF x = some F) {i : Nat} (hi : i < F.arr.length) : SFrom [x, .int .i64 (i : Int)] = some (u16 (fromS F.arr i)) := by
  simp only [SFrom, hx, Option.bind_some, Int.toNat_natCast]
  rw [if_pos (by omega)]
theorem SAll_i {x : AV} {F : Fm} (hx : asF x = some F) : SAll [x] = some (u16 (2 ^ (F.r + F.c) - 1)) := by simp [SAll, hx]

/-- what keeps together with i, among the first k -/
def togS (arr : List Nat) (i : Nat) : Nat → Nat
  | 0 => 0
  | k + 1 => if (fromS arr i).testBit k = true ∧ (fromS arr k).testBit i = true then togS arr i k ||| 2 ^ k else togS arr i k
theorem togS_lt {arr : List Nat} {i : Nat} : ∀ {k : Nat}, k ≤ 16 → togS arr i k < 65536
  | 0, _ => by simp [togS]
  | k + 1, hk => by
    simp only [togS]
    split
    · exact Nat.or_lt_two_pow (n := 16) (togS_lt (by omega)) (pow16 (by omega))
    · exact togS_lt (by omega)
theorem p57 {x : AV} {F : Fm} (hx : asF x = some F) {i : Nat} (hi : i < F.arr.length) : PCall Try.prog 57 [x, .int .i64 (i : Int)] (u16 (togS F.arr i F.arr.length)) := by
  have hF := asF_inv hx
  obtain ⟨⟨b, cp, hX⟩, hlt, hs, hl⟩ := hF
  refine PCall.of D2ok ok57 (by simp) (by simp) fun hs' hb => ?_
  have hst : x.sto = true := by rw [hX]; rfl
  have hld : ∀ h, aload h true 4 (.ptr x) = some x := by rw [hX]; intro h; rfl
  have hf3 : afaddr false 1 3 (.ptr x) = some (.ptr (.sl 1 (us F.arr) cp)) := by rw [hX]; rfl
  simp [A57, R57, hst, hld, hf3, SFrom_i hx hi]
  refine At.loop (fun (k : Nat) s => k ≤ F.arr.length ∧ s.env 1 = .int .i64 (i : Int) ∧ s.env 2 = .ptr x ∧ s.env 6 = u16 (fromS F.arr i) ∧ s.env 13 = .int .i64 (F.arr.length : Int) ∧ s.env 14 = .int .i64 (k : Int) ∧ s.env 5 = u16 (togS F.arr i k)) (fun k => F.arr.length - k) 0 ?_ ?_
  · simp [togS]; rfl
  rintro N k s hN ⟨hk, e1, e2, e6, e13, e14, e5⟩
  have hlt' := fromS_lt hlt (show i < 16 by omega)
  have hlt2 := togS_lt (arr := F.arr) (i := i) (k := k) (by omega)
  simp [e13, e14]
  refine At.dec (fun h => ?_) (fun h => ?_)
  · have hk' : k < F.arr.length := by omega
    have hlt3 := fromS_lt hlt (show k < 16 by omega)
    simp [e14, e6, SHas_i hlt' (show k < 16 by omega)]
    refine At.split (fun hb1 => ?_) (fun hb1 => ?_)
    · simp [hb1, e1, e2, hld, SFrom_i hx hk', SHas_i hlt3 (show i < 16 by omega)]
      refine At.split (fun hb2 => ?_) (fun hb2 => ?_)
      · simp [hb1, hb2, e5, e14, shl16 (show k < 16 by omega), or16 hlt2 (pow16 (show k < 16 by omega))]
        refine hN (k + 1) _ (by omega) ⟨by omega, ?_⟩
        simp [e1, e2, e6, e13, wrap_nat1 (show k < _ by omega), togS, hb1, hb2]
      · simp [hb1, hb2, e14]
        refine hN (k + 1) _ (by omega) ⟨by omega, ?_⟩
        simp [e1, e2, e5, e6, e13, wrap_nat1 (show k < _ by omega), togS, hb1, hb2]
    · simp [hb1, e14]
      refine hN (k + 1) _ (by omega) ⟨by omega, ?_⟩
      simp [e1, e2, e5, e6, e13, wrap_nat1 (show k < _ by omega), togS, hb1]
  · have : k = F.arr.length := by omega
    subst this
    simp [e5]
def STog : List AV → Option AV
  | [x, .int .i64 i] => (asF x).bind fun F => if 0 ≤ i ∧ i < F.arr.length then some (u16 (togS F.arr i.toNat F.arr.length)) else none
  | _ => none
theorem c57 : ∀ a r, STog a = some r → PCall Try.prog 57 a r := by
  intro a r h
  unfold STog at h
  split at h <;> (try (cases h; done))
  rename_i x i
  obtain ⟨F, h1, h⟩ := Option.bind_eq_some_iff.1 h
  split at h <;> (try (cases h; done))
  rename_i hi
  injection h with h; subst h
  have := p57 h1 (i := i.toNat) (by omega)
  rw [Int.toNat_of_nonneg hi.1] at this
  exact this
theorem STog_i {x : AV} {F : Fm} (hx : asF x = some F) {i : Nat} (hi : i < F.arr.length) : STog [x, .int .i64 (i : Int)] = some (u16 (togS F.arr i F.arr.length)) := by
  simp only [STog, hx, Option.bind_some, Int.toNat_natCast]
  rw [if_pos (by omega)]
def D3 : PCtx := D2.add 57 STog
theorem D3ok : CtxOk Try.prog D3 := D2ok.add c57
@[simp] theorem D3_56 : D3 56 = SHas := id rfl
@[simp] theorem D3_60 : D3 60 = SBtw := id rfl
@[simp] theorem D3_61 : D3 61 = SIs := id rfl
@[simp] theorem D3_74 : D3 74 = SFrom := id rfl
@[simp] theorem D3_75 : D3 75 = SAll := id rfl
@[simp] theorem D3_57 : D3 57 = STog := id rfl
/-- whether a frame is stiff -/
def stiffS (F : Fm) : Bool := decide (togS F.arr 0 F.arr.length = 2 ^ (F.r + F.c) - 1)
theorem p55 {x : AV} {F : Fm} (hx : asF x = some F) (h0 : 0 < F.arr.length) : PCall Try.prog 55 [x] (.bool (stiffS F)) := by
  have hF := asF_inv hx
  obtain ⟨⟨b, cp, hX⟩, hlt, hs, hl⟩ := hF
  refine PCall.of D3ok ok55 (by simp) rfl fun hs' hb => ?_
  have hst : x.sto = true := by rw [hX]; rfl
  have hld : ∀ h, aload h true 4 (.ptr x) = some x := by rw [hX]; intro h; rfl
  have ht := STog_i hx h0
  simp at ht
  simp [A55, R55, hst, hld, ht, SAll_i hx, stiffS]
def SStf : List AV → Option AV
  | [x] => (asF x).bind fun F => if 0 < F.arr.length then some (.bool (stiffS F)) else none
  | _ => none
theorem c55 : ∀ a r, SStf a = some r → PCall Try.prog 55 a r := by
  intro a r h
  unfold SStf at h
  split at h <;> (try (cases h; done))
  obtain ⟨F, h1, h⟩ := Option.bind_eq_some_iff.1 h
  split at h <;> (try (cases h; done))
  rename_i hi
  injection h with h; subst h
  exact p55 h1 hi
def D4 : PCtx := D3.add 55 SStf
theorem D4ok : CtxOk Try.prog D4 := D3ok.add c55
@[simp] theorem D4_56 : D4 56 = SHas := id rfl
@[simp] theorem D4_60 : D4 60 = SBtw := id rfl
@[simp] theorem D4_61 : D4 61 = SIs := id rfl
@[simp] theorem D4_74 : D4 74 = SFrom := id rfl
@[simp] theorem D4_75 : D4 75 = SAll := id rfl
@[simp] theorem D4_57 : D4 57 = STog := id rfl
@[simp] theorem D4_55 : D4 55 = SStf := id rfl
end Go.Proofs.Ytecbbbocjmdfgaa
set_option linter.unusedVariables false
set_option linter.unusedSimpArgs false
namespace Go.Proofs.Ytecbbbocjmdfgaa
open Go Fw

/-- a brace that lies in the rack -/
def okB (r c : Int) (b : Br) : Prop := 0 ≤ b.1 ∧ b.1 < r ∧ 0 ≤ b.2.1 ∧ b.2.1 < c ∧ 0 ≤ b.2.2 ∧ b.2.2 ≤ 2
instance (r c : Int) (b : Br) : Decidable (okB r c b) := by unfold okB; infer_instance
structure OkR (R : Rk) : Prop where
  r1 : 1 ≤ R.r
  r6 : R.r ≤ 6
  c1 : 1 ≤ R.c
  c6 : R.c ≤ 6
  b : ∀ b ∈ R.b, okB R.r R.c b
instance (R : Rk) : Decidable (OkR R) :=
  if h : (1 ≤ R.r ∧ R.r ≤ 6) ∧ (1 ≤ R.c ∧ R.c ≤ 6) ∧ ∀ b ∈ R.b, okB R.r R.c b then .isTrue ⟨h.1.1, h.1.2, h.2.1.1, h.2.1.2, h.2.2⟩
  else .isFalse fun k => h ⟨⟨k.r1, k.r6⟩, ⟨k.c1, k.c6⟩, k.b⟩
def arrB (r : Nat) (b : Br) (l : List Nat) : List Nat :=
  let l1 := if b.2.2 ≠ 2 then l.set b.1.toNat (gt l b.1.toNat ||| 2 ^ (r + b.2.1.toNat)) else l
  if b.2.2 ≠ 1 then l1.set (r + b.2.1.toNat) (gt l1 (r + b.2.1.toNat) ||| 2 ^ b.1.toNat) else l1
/-- the arrows after the first i braces, but one -/
def arrS (r n : Nat) (bs : List Br) (w : Int) : Nat → List Nat
  | 0 => List.replicate n 0
  | i + 1 => if (i : Int) = w then arrS r n bs w i else arrB r (bs.getD i (0, 0, 0)) (arrS r n bs w i)
theorem arrB_len {r : Nat} {b : Br} {l : List Nat} : (arrB r b l).length = l.length := by
  unfold arrB; simp only; split <;> split <;> simp
theorem arrS_len {r n : Nat} {bs : List Br} {w : Int} : ∀ i, (arrS r n bs w i).length = n
  | 0 => by simp [arrS]
  | i + 1 => by
    simp only [arrS]
    split
    · exact arrS_len i
    · rw [arrB_len]; exact arrS_len i
theorem set_lt {l : List Nat} {i v : Nat} (h : ∀ a ∈ l, a < 65536) (hv : v < 65536) : ∀ a ∈ l.set i v, a < 65536 := by
  intro a ha
  rcases List.mem_or_eq_of_mem_set ha with ha | rfl
  · exact h a ha
  · exact hv
theorem arrB_lt {r : Nat} {b : Br} {l : List Nat} (h : ∀ a ∈ l, a < 65536) (h1 : b.1.toNat < 16) (h2 : r + b.2.1.toNat < 16) : ∀ a ∈ arrB r b l, a < 65536 := by
  have hl1 : ∀ a ∈ (if b.2.2 ≠ 2 then l.set b.1.toNat (gt l b.1.toNat ||| 2 ^ (r + b.2.1.toNat)) else l), a < 65536 := by
    split
    · exact set_lt h (Nat.or_lt_two_pow (n := 16) (getD_lt h _) (pow16 h2))
    · exact h
  unfold arrB
  simp only
  split
  · exact set_lt hl1 (Nat.or_lt_two_pow (n := 16) (getD_lt hl1 _) (pow16 h1))
  · exact hl1
theorem okB_nat {r c : Int} {b : Br} (h : okB r c b) (hr : r ≤ 6) (hc : c ≤ 6) : b.1.toNat < 6 ∧ b.2.1.toNat < 6 := by
  obtain ⟨h1, h2, h3, h4, h5, h6⟩ := h
  omega
theorem arrS_lt {R : Rk} (h : OkR R) {n : Nat} {w : Int} : ∀ {i : Nat}, i ≤ R.b.length → ∀ a ∈ arrS R.r.toNat n R.b w i, a < 65536
  | 0, _ => by
    intro a ha
    simp only [arrS, List.mem_replicate] at ha
    omega
  | i + 1, hi => by
    simp only [arrS]
    have ih := arrS_lt h (n := n) (w := w) (i := i) (by omega)
    split
    · exact ih
    · have hb : R.b.getD i (0, 0, 0) ∈ R.b := by rw [List.getD_eq_getElem?_getD, List.getElem?_eq_getElem (by omega), Option.getD_some]; exact List.getElem_mem _
      have := okB_nat (h.b _ hb) h.r6 h.c6
      have := h.r6
      exact arrB_lt ih (by omega) (by omega)
def frF (R : Rk) (w : Int) : Fm := ⟨R.r.toNat, R.c.toNat, arrS R.r.toNat (R.r.toNat + R.c.toNat) R.b w R.b.length⟩
def brV : AV → AV
  | .agg [_, _, b] => b.share
  | _ => .nilsl
def frV (x : AV) (R : Rk) (w : Int) : AV := .agg [.int .i64 R.r, .int .i64 R.c, brV x, .sl 1 (us (frF R w).arr) .exact]
theorem asF_frV {x : AV} {R : Rk} (h : OkR R) (w : Int) : asF (frV x R w) = some (frF R w) := by
  have h1 := h.r1
  have h2 := h.c1
  have h3 := h.r6
  have h4 := h.c6
  have := asF_mk (F := frF R w) (b := brV x) (cp := .exact) (arrS_lt h (Nat.le_refl _)) (by simp only [frF]; omega) (by simp only [frF]; exact arrS_len _)
  rw [show ((frF R w).r : Int) = R.r by simp only [frF]; omega, show ((frF R w).c : Int) = R.c by simp only [frF]; omega] at this
  exact this

structure IA (X b : AV) (R : Rk) (w : Int) (q n a e : Nat) (done : List Nat) (s : AS) : Prop where
  e1 : s.env 1 = .int .i64 w
  e2 : s.env 2 = .ptr X
  e4 : s.env 4 = .ref q 0
  hq1 : s.hs.heap q = some [.int .i64 0, .int .i64 0, .nilsl, .nilsl]
  hq2 : q < s.hs.nh
  f0 : 0 ∈ done → s.env 10 = X
  f1 : 1 ∈ done → s.env 11 = .ptr (.int .i64 R.r)
  f2 : 2 ∈ done → s.env 12 = .int .i64 R.r
  f3 : 3 ∈ done → s.env 13 = .ptr (.int .i64 R.c)
  f4 : 4 ∈ done → s.env 14 = .int .i64 R.c
  f5 : 5 ∈ done → s.env 15 = .int .i64 (n : Int)
  f6 : 6 ∈ done → s.env 16 = .msl false 1 a 0 n true ∧ s.hs.heap a = some (List.replicate n (u16 0)) ∧ a < s.hs.nh ∧ ¬ a = q
  f8 : 8 ∈ done → s.env 5 = .ref e 0 ∧ e < s.hs.nh ∧ ¬ e = q
  f8' : 8 ∈ done → ¬ 9 ∈ done → s.hs.heap e = some [.int .i64 0, .int .i64 0, .nilsl, .nilsl]
  f68 : 6 ∈ done → 8 ∈ done → ¬ a = e
  f7 : 7 ∈ done → 6 ∈ done ∧ s.env 17 = .agg [.int .i64 R.r, .int .i64 R.c, b, .msl false 1 a 0 n true]
  f9 : 9 ∈ done → 7 ∈ done ∧ 8 ∈ done ∧ s.hs.heap e = some [.int .i64 R.r, .int .i64 R.c, b, .msl false 1 a 0 n true]

theorem p54 {x : AV} {R : Rk} (hx : asR x = some R) (h : OkR R) (w : Int) : PCall Try.prog 54 [x, .int .i64 w] (frV x R w) := by
  obtain ⟨b, rfl, hb⟩ := asR_inv hx
  obtain ⟨hb1, hb2, hb3⟩ := asB_inv hb
  have h1 := h.r1
  have h2 := h.c1
  have h3 := h.r6
  have h4 := h.c6
  have hbv : brV (.agg [.int .i64 R.r, .int .i64 R.c, b]) = b.share := rfl
  have hpl : (frV (.agg [.int .i64 R.r, .int .i64 R.c, b]) R w).plain = true := by
    have hu : ∀ l : List Nat, plainL (us l) = true := fun l => by
      induction l with
      | nil => rfl
      | cons a l ih => simp only [us, List.map_cons, plainL, u16_plain, Bool.true_and]; exact ih
    have hB : plainL (brs R.b) = true := by
      generalize R.b = l
      induction l with
      | nil => rfl
      | cons a l ih => simp only [brs, List.map_cons, plainL, AV.plain, Bool.true_and, Bool.and_true]; exact ih
    have hbs : plainL ((brs R.b).map AV.share) = true := by
      have : (brs R.b).map AV.share = brs R.b := by simp
      rw [this]; exact hB
    have : b.share.plain = true := by
      rcases hb2 with ⟨rfl, _⟩ | ⟨cp, rfl⟩
      · rfl
      · rw [share_sl]
        cases cp <;> simp only [Cap.share, AV.plain] <;> exact hbs
    simp only [frV, hbv, AV.plain, plainL, this, hu, Bool.and_self]
  refine PCall.ofZ D4ok ok54 (by simp) hpl fun hs' hbare => ?_
  generalize hX : AV.agg [.int .i64 R.r, .int .i64 R.c, b] = X at *
  have hst : X.sto = true := by rw [← hX]; rfl
  have hld : ∀ h, aload h true 3 (.ptr X) = some X := by rw [← hX]; intro h; rfl
  have hf0 : afaddr false 1 0 (.ptr X) = some (.ptr (.int .i64 R.r)) := by rw [← hX]; rfl
  have hf1 : afaddr false 1 1 (.ptr X) = some (.ptr (.int .i64 R.c)) := by rw [← hX]; rfl
  have hf2 : afaddr false 1 2 (.ptr X) = some (.ptr b) := by rw [← hX]; rfl
  have hcel : X.cells = [.int .i64 R.r, .int .i64 R.c, b] := by rw [← hX]; rfl
  have hbl : b.leaf = true := by rcases hb2 with ⟨rfl, _⟩ | ⟨cp, rfl⟩ <;> rfl
  have hfill : ∀ m : AV, m.leaf = true → afill [AV.int .i64 0, .int .i64 0, .nilsl, .nilsl] [(0, 3, X), (3, 1, m)] = some [.int .i64 R.r, .int .i64 R.c, b, m] := by
    intro m hm
    have h1 : m.sto = true := by cases m <;> first | rfl | (simp [AV.leaf] at hm)
    have h2 : m.cells = [m] := by cases m <;> first | rfl | (simp [AV.leaf] at hm)
    simp [afill, hst, hcel, h1, h2, setL]
  simp [A54, R54, hst]
  obtain ⟨n, hn⟩ : ∃ n : Nat, n = R.r.toNat + R.c.toNat := ⟨_, rfl⟩
  have hw : IntKind.i64.wrap (R.r + R.c) = (n : Int) := by rw [wrap64 (by omega) (by omega)]; omega
  have hn16 : n < 16 := by omega
  generalize hq : hs'.nh = q
  refine At.any_inv (fun done s => ∃ a e, IA X b R w q n a e done s) rfl rfl ⟨q, q, ?_⟩ ?_ ?_
  · constructor <;> simp [hq]
  · rintro done i s hi hnd hd ⟨a, e, ⟨e1, e2, e4, hq1, hq2, f0, f1, f2, f3, f4, f5, f6, f8, f8', f68, f7, f9⟩⟩
    have hi' : i = 0 ∨ i = 1 ∨ i = 2 ∨ i = 3 ∨ i = 4 ∨ i = 5 ∨ i = 6 ∨ i = 7 ∨ i = 8 ∨ i = 9 := by simp at hi; omega
    rcases hi' with rfl | rfl | rfl | rfl | rfl | rfl | rfl | rfl | rfl | rfl <;> simp at hd
    · simp [e2, hld]
      refine At.intro ⟨a, e, ?_⟩
      constructor <;> (try simp) <;> (try assumption)
    · simp [e2, hf0]
      refine At.intro ⟨a, e, ?_⟩
      constructor <;> (try simp) <;> (try assumption)
    · simp [f1 hd]
      refine At.intro ⟨a, e, ?_⟩
      constructor <;> (try simp) <;> (try assumption)
    · simp [e2, hf1]
      refine At.intro ⟨a, e, ?_⟩
      constructor <;> (try simp) <;> (try assumption)
    · simp [f3 hd]
      refine At.intro ⟨a, e, ?_⟩
      constructor <;> (try simp) <;> (try assumption)
    · simp [f2 hd.1, f4 hd.2, hw]
      refine At.intro ⟨a, e, ?_⟩
      constructor <;> (try simp) <;> (try assumption)
    · simp [f5 hd]
      have mk := amake_eq (z := AV.int .u16 0) (hs := s.hs) (k1 := .i64) (k2 := .i64) (n := n) (by omega)
      simp [mk]
      refine At.intro ⟨s.hs.nh, e, ?_⟩
      have n7 : 7 ∉ done := fun h => hnd (f7 h).1
      have n9 : 9 ∉ done := fun h => n7 (f9 h).1
      constructor <;> (try simp) <;> (try assumption)
      · rw [HS.blk_old hq2]; exact hq1
      · omega
      · exact ⟨.inr rfl, by omega⟩
      · exact fun h => ⟨(f8 h).1, by have := (f8 h).2.1; omega, (f8 h).2.2⟩
      · intro h h9
        rw [HS.blk_old (f8 h).2.1]; exact f8' h h9
      · intro h
        have := (f8 h).2.1; omega
      · exact fun h => absurd h n7
      · exact fun h => absurd h n9
    · simp [f0 hd.1, f6 hd.2, hfill _ (show (AV.msl false 1 a 0 n true).leaf = true from rfl)]
      refine At.intro ⟨a, e, ?_⟩
      constructor <;> (try simp) <;> (try assumption)
      · exact hd.2
      · exact fun h => (f9 h).2
    · simp
      refine At.intro ⟨a, s.hs.nh, ?_⟩
      have n9 : 9 ∉ done := fun h => hnd (f9 h).2.1
      constructor <;> (try simp) <;> (try assumption)
      · exact fun _ => hq1
      · omega
      · intro h
        obtain ⟨g1, g2, g3, g4⟩ := f6 h
        exact ⟨g1, by rw [if_neg (by omega)]; exact g2, by omega, g4⟩
      · omega
      · intro h
        have := (f6 h).2.2.1
        omega
    · have hs9 : astore s.hs.heap 4 (.ref e 0) (.agg [.int .i64 R.r, .int .i64 R.c, b, .msl false 1 a 0 n true]) = some (fun k => if k = e then some [.int .i64 R.r, .int .i64 R.c, b, .msl false 1 a 0 n true] else s.hs.heap k) := by
        simp [astore, f8' hd.1 hnd, setL, AV.sto, AV.cells]
      have f68' := f68 hd.2.2.2.2.2.2.2.2.1 hd.1
      have n1 := (f8 hd.1).2.2
      simp [f8 hd.1, f7 hd.2.1, hs9]
      refine At.intro ⟨a, e, ?_⟩
      constructor <;> (try simp [env_none, f68', Ne.symm n1]) <;> (try assumption)
      exact ⟨hd.2.1, hd.1⟩
  · rintro done s hall ⟨a, e, ⟨e1, e2, e4, hq1, hq2, f0, f1, f2, f3, f4, f5, f6, f8, f8', f68, f7, f9⟩⟩
    have d6 := hall 6 (by simp)
    have d8 := hall 8 (by simp)
    have d9 := hall 9 (by simp)
    obtain ⟨g1, g2, g3, g4⟩ := f6 d6
    obtain ⟨g5, g6, g7⟩ := f8 d8
    have g8 := (f9 d9).2.2
    have g9 := f68 d6 d8
    have hldb : ∀ h, aload h false 1 (.ptr b) = some b := by
      intro h
      rcases hb2 with ⟨rfl, _⟩ | ⟨cp, rfl⟩ <;> rfl
    simp [e2, hf2, hldb, blen hb]
    refine At.loop (fun (i : Nat) s => i ≤ R.b.length ∧ s.env 1 = .int .i64 w ∧ s.env 2 = .ptr X ∧ s.env 4 = .ref q 0 ∧ s.env 5 = .ref e 0 ∧ s.env 19 = b ∧ s.env 20 = .int .i64 (R.b.length : Int) ∧ s.env 21 = .int .i64 (i : Int) ∧
      s.hs.heap q = some [.int .i64 0, .int .i64 0, .nilsl, .nilsl] ∧ s.hs.heap e = some [.int .i64 R.r, .int .i64 R.c, b, .msl false 1 a 0 n true] ∧ s.hs.heap a = some (us (arrS R.r.toNat n R.b w i)) ∧ q < s.hs.nh ∧ e < s.hs.nh ∧ a < s.hs.nh) (fun i => R.b.length - i) 0 ?_ ?_
    · simp [e1, e2, e4, g5, hq1, g8, g2, hq2, g6, g3, arrS]
    rintro N i s hN ⟨hi, e1, e2, e4, e5, e19, e20, e21, hq1, hae, haa, hq2, hen, han⟩
    simp [e20, e21]
    refine At.dec (fun hlt => ?_) (fun hlt => ?_)
    · have hi' : i < R.b.length := by omega
      have hok := h.b _ (List.getElem_mem hi')
      obtain ⟨k1, k2, k3, k4, k5, k6⟩ := hok
      obtain ⟨ρ, hρ⟩ : ∃ ρ : Nat, R.b[i].1 = (ρ : Int) := ⟨R.b[i].1.toNat, by omega⟩
      obtain ⟨κ, hκ⟩ : ∃ κ : Nat, R.r + R.b[i].2.1 = (κ : Int) := ⟨(R.r + R.b[i].2.1).toNat, by omega⟩
      have hwk : IntKind.i64.wrap (κ : Int) = (κ : Int) := wrap64 (by omega) (by omega)
      have w1 := wrap_nat1 (show i < _ by omega)
      have ne1 : ¬ e = s.hs.nh := by omega
      have ne2 : ¬ a = s.hs.nh := by omega
      have ne3 : ¬ q = s.hs.nh := by omega
      have ne4 : ¬ s.hs.nh = a := by omega
      have ne5 : ¬ s.hs.nh = e := by omega
      have hA := arrS_len (r := R.r.toNat) (n := n) (bs := R.b) (w := w) i
      have hAl := arrS_lt h (n := n) (w := w) (i := i) (by omega)
      have hA1 : ρ < (arrS R.r.toNat n R.b w i).length := by omega
      have hA2 : κ < (arrS R.r.toNat n R.b w i).length := by omega
      have ca : ∀ xs : List AV, (AV.agg xs).cells = xs := fun _ => rfl
      have ci : ∀ (k : IntKind) (m : Int), (AV.int k m).cells = [.int k m] := fun _ _ => rfl
      have hg : ∀ (l : List Nat) (j : Nat), j < l.length → l[j]? = some (gt l j) := fun l j hj => by simp [gt, List.getD, hj]
      have hr1 : R.b[i].1.toNat = ρ := by omega
      have hr2 : R.r.toNat + R.b[i].2.1.toNat = κ := by omega
      have hgd : R.b.getD i (0, 0, 0) = R.b[i] := by simp [List.getD, hi']
      have sa : ∀ xs : List AV, (AV.agg xs).sto = true := fun _ => rfl
      by_cases hiw : (i : Int) = w
      · subst hiw
        simp [e1, e2, e19, e21, bidx hb hi', aload, apart, ca, ci, astore, sa, setL, afaddr, hcel, hρ, hκ, hwk]
        refine hN (i + 1) _ (by omega) ⟨by omega, ?_⟩
        simp [e1, e2, e4, e5, e19, e20, e21, w1, env_none, ne1, ne2, ne3, ne4, ne5, hq1, hae, haa, arrS]
        omega
      have hS : arrS R.r.toNat n R.b w (i + 1) = arrB R.r.toNat R.b[i] (arrS R.r.toNat n R.b w i) := by simp only [arrS, hiw, if_false, hgd]
      generalize hAA : arrS R.r.toNat n R.b w i = A at *
      have b1 : gt A ρ ||| 2 ^ κ < 65536 := Nat.or_lt_two_pow (n := 16) (getD_lt hAl _) (pow16 (by omega))
      have p1 := pow16 (show κ < 16 by omega)
      have p2 := pow16 (show ρ < 16 by omega)
      have q1 : κ < n := by omega
      have q2 : ρ < n := by omega
      have q3 : κ < 16 := by omega
      have q4 : ρ < 16 := by omega
      have q7 : κ + 1 ≤ n := by omega
      have q8 : ρ + 1 ≤ n := by omega
      have q5 : A[κ] < 65536 := hAl _ (List.getElem_mem hA2)
      have q6 : A[ρ] < 65536 := hAl _ (List.getElem_mem hA1)
      have gk : gt A κ = A[κ] := by simp [gt, List.getD, hA2]
      have gr : gt A ρ = A[ρ] := by simp [gt, List.getD, hA1]
      have hne : ρ ≠ κ := by omega
      by_cases hk2 : R.b[i].2.2 = 2
      · simp [e1, e2, e5, e19, e21, bidx hb hi', aload, apart, ca, ci, astore, sa, setL, afaddr, hcel, hρ, hκ, hwk, hiw, hk2, ne1, ne2, ne3, ne4, ne5, hae, haa, hA1, hA2, hA, shl16, or16, p1, p2, q1, q2, q3, q4, q5, q6, q7, q8, env_none]
        refine hN (i + 1) _ (by omega) ⟨by omega, ?_⟩
        simp [e1, e2, e4, e5, e19, e20, e21, w1, env_none, ne1, ne2, ne3, ne4, ne5, hq1, hae, haa, hS, arrB, hk2, hr1, hr2, gk, Ne.symm g4, Ne.symm g9]
        omega
      · by_cases hk1 : R.b[i].2.2 = 1
        · simp [e1, e2, e5, e19, e21, bidx hb hi', aload, apart, ca, ci, astore, sa, setL, afaddr, hcel, hρ, hκ, hwk, hiw, hk2, hk1, ne1, ne2, ne3, ne4, ne5, hae, haa, hA1, hA2, hA, shl16, or16, p1, p2, q1, q2, q3, q4, q5, q6, q7, q8, env_none]
          refine hN (i + 1) _ (by omega) ⟨by omega, ?_⟩
          simp [e1, e2, e4, e5, e19, e20, e21, w1, env_none, ne1, ne2, ne3, ne4, ne5, hq1, hae, haa, hS, arrB, hk2, hk1, hr1, hr2, gr, Ne.symm g4, Ne.symm g9]
          omega
        · simp [e1, e2, e5, e19, e21, bidx hb hi', aload, apart, ca, ci, astore, sa, setL, afaddr, hcel, hρ, hκ, hwk, hiw, hk2, hk1, ne1, ne2, ne3, ne4, ne5, hae, haa, hA1, hA2, hA, shl16, or16, p1, p2, q1, q2, q3, q4, q5, q6, q7, q8, env_none, Ne.symm g9, hne]
          have gk' : gt (A.set ρ (A[ρ] ||| 2 ^ κ)) κ = A[κ] := by simp [gt, List.getD, hA2, hne]
          refine hN (i + 1) _ (by omega) ⟨by omega, ?_⟩
          simp [e1, e2, e4, e5, e19, e20, e21, w1, env_none, ne1, ne2, ne3, ne4, ne5, hq1, hae, haa, hS, arrB, hk2, hk1, hr1, hr2, gr, gk', Ne.symm g4, Ne.symm g9]
          omega
    · have hie : i = R.b.length := by omega
      subst hie
      simp [e5, e4, aload, hae, apart, astore, hq1, AV.sto, AV.cells, setL, env_none, aResult_cs]
      have hm : ∀ hp : Nat → Option (List AV), hp a = some (us (arrS R.r.toNat n R.b w R.b.length)) → (frzL hp 2 (.msl false 1 a 0 n true)).share = .sl 1 (us (arrS R.r.toNat n R.b w R.b.length)) .exact := by
        intro hp hh
        rw [frzL_msl hh (mcont_full (by simp [arrS_len])), map_frz (fun x hx => by
          simp only [us, List.mem_map] at hx
          obtain ⟨m, _, rfl⟩ := hx
          exact .inl ⟨_, _, rfl⟩)]
        simp
      rw [hm _ (by simp [g4, haa])]
      have hbb : ∀ hp, frzL hp 2 b = b := by
        intro hp
        rcases hb2 with ⟨rfl, _⟩ | ⟨cp, rfl⟩ <;> simp
      rw [hbb, frV, hbv, frF, ← hn]
end Go.Proofs.Ytecbbbocjmdfgaa
set_option linter.unusedVariables false
set_option linter.unusedSimpArgs false
namespace Go.Proofs.Ytecbbbocjmdfgaa
open Go Fw

def rb : AV → AV
  | .agg [_, _, b] => b
  | _ => .nilsl
structure RkV (x : AV) (R : Rk) : Prop where
  eq : x = .agg [.int .i64 R.r, .int .i64 R.c, rb x]
  sto : x.sto = true
  ld : ∀ h, aload h true 3 (.ptr x) = some x
  f0 : afaddr false 1 0 (.ptr x) = some (.ptr (.int .i64 R.r))
  f1 : afaddr false 1 1 (.ptr x) = some (.ptr (.int .i64 R.c))
  f2 : afaddr false 1 2 (.ptr x) = some (.ptr (rb x))
  lb : ∀ h, aload h false 1 (.ptr (rb x)) = some (rb x)
  b : asB (rb x) = some R.b
theorem RkV.of {x : AV} {R : Rk} (h : asR x = some R) : RkV x R := by
  obtain ⟨b, rfl, hb⟩ := asR_inv h
  refine ⟨rfl, rfl, fun _ => rfl, rfl, rfl, rfl, fun _ => ?_, hb⟩
  show aload _ false 1 (.ptr b) = some b
  rcases (asB_inv hb).2.1 with ⟨rfl, _⟩ | ⟨cp, rfl⟩ <;> rfl

/-- the error of one brace -/
def braceE (r c : Int) (b : Br) : Int := if (btw 0 b.1 (r - 1) && btw 0 b.2.1 (c - 1)) = false then 5 else if btw 0 b.2.2 2 = false then 10 else 0
def chkB (r c : Int) : List Br → Int
  | [] => 0
  | b :: bs => if braceE r c b = 0 then chkB r c bs else braceE r c b
theorem chkB_hit {r c : Int} : ∀ {bs : List Br} {i : Nat} (hi : i < bs.length), (∀ (k : Nat) (hk : k < bs.length), k < i → braceE r c bs[k] = 0) → braceE r c bs[i] ≠ 0 → chkB r c bs = braceE r c bs[i]
  | b :: bs, 0, hi, _, h => by simp only [List.getElem_cons_zero] at h ⊢; simp only [chkB, if_neg h]
  | b :: bs, i + 1, hi, hb, h => by
    have h0 := hb 0 (by simp) (by omega)
    simp only [List.getElem_cons_zero] at h0
    simp only [List.getElem_cons_succ] at h ⊢
    simp only [chkB, h0, if_true]
    exact chkB_hit (by simpa using hi) (fun k hk hki => hb (k + 1) (by simpa using hk) (by omega)) h
theorem chkB_all {r c : Int} : ∀ {bs : List Br}, chkB r c bs = 0 ↔ ∀ b ∈ bs, braceE r c b = 0
  | [] => by simp [chkB]
  | b :: bs => by
    simp only [chkB]
    by_cases h : braceE r c b = 0
    · rw [if_pos h, chkB_all]; simp [h]
    · rw [if_neg h]; simp [h]
def chkR (R : Rk) : Int := if (btw 1 R.r 6 && btw 1 R.c 6) = false then 4 else if 24 < (R.b.length : Int) then 2 else chkB R.r R.c R.b
theorem braceE_ok {r c : Int} {b : Br} : braceE r c b = 0 ↔ okB r c b := by
  unfold braceE okB btw
  constructor
  · intro h
    split at h <;> (try (exact absurd h (by decide)))
    split at h <;> (try (exact absurd h (by decide)))
    rename_i h1 h2
    simp only [Bool.and_eq_false_imp, Bool.not_eq_false, Bool.and_eq_true, decide_eq_true_eq, Bool.and_eq_false_iff, not_or, decide_eq_false_iff_not] at h1 h2
    omega
  · rintro ⟨h1, h2, h3, h4, h5, h6⟩
    have e1 : decide (0 ≤ b.1) = true := by simpa using h1
    have e2 : decide (b.1 ≤ r - 1) = true := by simp; omega
    have e3 : decide (0 ≤ b.2.1) = true := by simpa using h3
    have e4 : decide (b.2.1 ≤ c - 1) = true := by simp; omega
    have e5 : decide (0 ≤ b.2.2) = true := by simpa using h5
    have e6 : decide (b.2.2 ≤ 2) = true := by simpa using h6
    simp [e1, e2, e3, e4, e5, e6]
theorem chkR_zero {R : Rk} : chkR R = 0 ↔ OkR R ∧ R.b.length ≤ 24 := by
  unfold chkR btw
  constructor
  · intro h
    split at h <;> (try (exact absurd h (by decide)))
    split at h <;> (try (exact absurd h (by decide)))
    rename_i h1 h2
    simp only [Bool.and_eq_false_imp, Bool.not_eq_false, Bool.and_eq_true, decide_eq_true_eq, Bool.and_eq_false_iff, not_or, decide_eq_false_iff_not] at h1
    rw [chkB_all] at h
    refine ⟨⟨by omega, by omega, by omega, by omega, fun b hb => braceE_ok.1 (h b hb)⟩, by omega⟩
  · rintro ⟨h, hl⟩
    have h1 := h.r1
    have h2 := h.r6
    have h3 := h.c1
    have h4 := h.c6
    have e : chkB R.r R.c R.b = 0 := chkB_all.2 fun b hb => braceE_ok.2 (h.b b hb)
    rw [if_neg (by simp; omega), if_neg (by omega), e]

theorem ca (xs : List AV) : (AV.agg xs).cells = xs := rfl
theorem ci (k : IntKind) (m : Int) : (AV.int k m).cells = [.int k m] := rfl
theorem sa (xs : List AV) : (AV.agg xs).sto = true := rfl
theorem fa (ag : Bool) (sz off i o : Nat) : afaddr ag sz off (.ref i o) = some (.ref i (o + off)) := rfl
theorem la (hp : Nat → Option (List AV)) (ag : Bool) (sz i o : Nat) : aload hp ag sz (.ref i o) = (hp i).bind fun ys => apart ag sz o ys := rfl
theorem lpa (hp : Nat → Option (List AV)) (ag : Bool) (sz : Nat) (xs : List AV) : aload hp ag sz (.ptr (.agg xs)) = apart ag sz 0 xs := rfl
theorem p25 {x : AV} {R : Rk} (hx : asR x = some R) : PCall Try.prog 25 [x] (.int .i64 (chkR R)) := by
  obtain ⟨v1, v2, v3, v4, v5, v6, v7, v8⟩ := RkV.of hx
  have hlen := (asB_inv v8).2.2
  refine PCall.of D4ok ok25 (by simp) rfl fun hs' hb => ?_
  cases h1 : btw 1 R.r 6 with
  | false => simp [A25, R25, v2, v4, v5, h1, chkR]
  | true =>
  cases h2 : btw 1 R.c 6 with
  | false => simp [A25, R25, v2, v4, v5, h1, h2, chkR]
  | true =>
  simp [A25, R25, v2, v4, v5, h1, h2, v6, v7, blen v8]
  refine At.dec (fun h3 => ?_) (fun h3 => ?_)
  · have : 24 < (R.b.length : Int) := by omega
    simp [chkR, h1, h2, this]
  have h3' : ¬ 24 < (R.b.length : Int) := by omega
  simp [v6, v7, blen v8]
  have hr : IntKind.i64.wrap (R.r - 1) = R.r - 1 := by simp [btw] at h1; exact wrap64 (by omega) (by omega)
  have hc : IntKind.i64.wrap (R.c - 1) = R.c - 1 := by simp [btw] at h2; exact wrap64 (by omega) (by omega)
  refine At.loop (fun (i : Nat) s => i ≤ R.b.length ∧ s.env 1 = .ptr x ∧ s.env 22 = rb x ∧ s.env 23 = .int .i64 (R.b.length : Int) ∧ s.env 24 = .int .i64 (i : Int) ∧ ∀ (k : Nat) (hk : k < R.b.length), k < i → braceE R.r R.c R.b[k] = 0) (fun i => R.b.length - i) 0 ?_ ?_
  · simp
  rintro N i s hN ⟨hi, e1, e22, e23, e24, hall⟩
  simp [e23, e24]
  refine At.dec (fun h4 => ?_) (fun h4 => ?_)
  · have hi' : i < R.b.length := by omega
    have res : ∀ e : Int, braceE R.r R.c R.b[i] = e → e ≠ 0 → chkR R = e := fun e he h0 => by
      simp only [chkR, h1, h2, Bool.and_self, Bool.true_eq_false, if_false, if_neg h3']
      rw [chkB_hit hi' hall (by rw [he]; exact h0), he]
    cases g1 : btw 0 R.b[i].1 (R.r - 1) with
    | false =>
      simp [e1, e22, e24, bidx v8 hi', la, lpa, apart, astore, ca, ci, sa, setL, fa, v4, v5, hr, hc, g1]
      exact (res 5 (by simp [braceE, g1]) (by decide)).symm
    | true =>
    cases g2 : btw 0 R.b[i].2.1 (R.c - 1) with
    | false =>
      simp [e1, e22, e24, bidx v8 hi', la, lpa, apart, astore, ca, ci, sa, setL, fa, v4, v5, hr, hc, g1, g2]
      exact (res 5 (by simp [braceE, g1, g2]) (by decide)).symm
    | true =>
    cases g3 : btw 0 R.b[i].2.2 2 with
    | false =>
      simp [e1, e22, e24, bidx v8 hi', la, lpa, apart, astore, ca, ci, sa, setL, fa, v4, v5, hr, hc, g1, g2, g3]
      exact (res 10 (by simp [braceE, g1, g2, g3]) (by decide)).symm
    | true =>
      simp [e1, e22, e24, bidx v8 hi', la, lpa, apart, astore, ca, ci, sa, setL, fa, v4, v5, hr, hc, g1, g2, g3]
      refine hN (i + 1) _ (by omega) ⟨by omega, ?_⟩
      simp [e1, e22, e23, wrap_nat1 (show i < _ by omega), env_none]
      intro k hk hki
      rcases Nat.lt_or_ge k i with h' | h'
      · exact hall k hk h'
      · have : k = i := by omega
        subst this
        simp [braceE, g1, g2, g3]
  · have hie : i = R.b.length := by omega
    subst hie
    have : chkB R.r R.c R.b = 0 := chkB_all.2 fun b hb => by
      obtain ⟨k, hk, rfl⟩ := List.getElem_of_mem hb
      exact hall k hk hk
    simp [chkR, h1, h2, h3', this]
theorem p26 {x : AV} {R : Rk} (hx : asR x = some R) : PCall Try.prog 26 [x] (.int .i64 (chkR R)) := by
  obtain ⟨v1, v2, v3, v4, v5, v6, v7, v8⟩ := RkV.of hx
  have hlen := (asB_inv v8).2.2
  refine PCall.of D4ok ok26 (by simp) rfl fun hs' hb => ?_
  cases h1 : btw 1 R.r 6 with
  | false => simp [A26, R26, v2, v4, v5, h1, chkR]
  | true =>
  cases h2 : btw 1 R.c 6 with
  | false => simp [A26, R26, v2, v4, v5, h1, h2, chkR]
  | true =>
  simp [A26, R26, v2, v4, v5, h1, h2, v6, v7, blen v8]
  refine At.dec (fun h3 => ?_) (fun h3 => ?_)
  · have : 24 < (R.b.length : Int) := by omega
    simp [chkR, h1, h2, this]
  have h3' : ¬ 24 < (R.b.length : Int) := by omega
  simp [v6, v7, blen v8]
  have hr : IntKind.i64.wrap (R.r - 1) = R.r - 1 := by simp [btw] at h1; exact wrap64 (by omega) (by omega)
  have hc : IntKind.i64.wrap (R.c - 1) = R.c - 1 := by simp [btw] at h2; exact wrap64 (by omega) (by omega)
  refine At.loop (fun (i : Nat) s => i ≤ R.b.length ∧ s.env 1 = .ptr x ∧ s.env 3 = .int .i64 (i : Int) ∧ ∀ (k : Nat) (hk : k < R.b.length), k < i → braceE R.r R.c R.b[k] = 0) (fun i => R.b.length - i) 0 ?_ ?_
  · simp
  rintro N i s hN ⟨hi, e1, e3, hall⟩
  simp [e1, e3, v6, v7, blen v8]
  refine At.dec (fun h4 => ?_) (fun h4 => ?_)
  · have hi' : i < R.b.length := by omega
    have res : ∀ e : Int, braceE R.r R.c R.b[i] = e → e ≠ 0 → chkR R = e := fun e he h0 => by
      simp only [chkR, h1, h2, Bool.and_self, Bool.true_eq_false, if_false, if_neg h3']
      rw [chkB_hit hi' hall (by rw [he]; exact h0), he]
    cases g1 : btw 0 R.b[i].1 (R.r - 1) with
    | false =>
      simp [e1, e3, v6, v7, bidx v8 hi', la, lpa, apart, astore, ca, ci, sa, setL, fa, v4, v5, hr, hc, g1]
      exact (res 5 (by simp [braceE, g1]) (by decide)).symm
    | true =>
    cases g2 : btw 0 R.b[i].2.1 (R.c - 1) with
    | false =>
      simp [e1, e3, v6, v7, bidx v8 hi', la, lpa, apart, astore, ca, ci, sa, setL, fa, v4, v5, hr, hc, g1, g2]
      exact (res 5 (by simp [braceE, g1, g2]) (by decide)).symm
    | true =>
    cases g3 : btw 0 R.b[i].2.2 2 with
    | false =>
      simp [e1, e3, v6, v7, bidx v8 hi', la, lpa, apart, astore, ca, ci, sa, setL, fa, v4, v5, hr, hc, g1, g2, g3]
      exact (res 10 (by simp [braceE, g1, g2, g3]) (by decide)).symm
    | true =>
      simp [e1, e3, v6, v7, bidx v8 hi', la, lpa, apart, astore, ca, ci, sa, setL, fa, v4, v5, hr, hc, g1, g2, g3]
      refine hN (i + 1) _ (by omega) ⟨by omega, ?_⟩
      simp [e1, wrap_nat1 (show i < _ by omega), env_none]
      intro k hk hki
      rcases Nat.lt_or_ge k i with h' | h'
      · exact hall k hk h'
      · have : k = i := by omega
        subst this
        simp [braceE, g1, g2, g3]
  · have hie : i = R.b.length := by omega
    subst hie
    have : chkB R.r R.c R.b = 0 := chkB_all.2 fun b hb => by
      obtain ⟨k, hk, rfl⟩ := List.getElem_of_mem hb
      exact hall k hk hk
    simp [chkR, h1, h2, h3', this]

def SChkR : List AV → Option AV
  | [x] => (asR x).map fun R => .int .i64 (chkR R)
  | _ => none
theorem SChkR_i {x : AV} {R : Rk} (hx : asR x = some R) : SChkR [x] = some (.int .i64 (chkR R)) := by simp [SChkR, hx]
theorem c25 : ∀ a r, SChkR a = some r → PCall Try.prog 25 a r := by
  intro a r h
  unfold SChkR at h
  split at h <;> (try (cases h; done))
  obtain ⟨R, h1, rfl⟩ := optmap_some h
  exact p25 h1
theorem c26 : ∀ a r, SChkR a = some r → PCall Try.prog 26 a r := by
  intro a r h
  unfold SChkR at h
  split at h <;> (try (cases h; done))
  obtain ⟨R, h1, rfl⟩ := optmap_some h
  exact p26 h1
def SFrame : List AV → Option AV
  | [x, .int .i64 w] => (asR x).bind fun R => if OkR R then some (frV x R w) else none
  | _ => none
theorem SFrame_i {x : AV} {R : Rk} (hx : asR x = some R) (h : OkR R) (w : Int) : SFrame [x, .int .i64 w] = some (frV x R w) := by simp [SFrame, hx, h]
theorem c54 : ∀ a r, SFrame a = some r → PCall Try.prog 54 a r := by
  intro a r h
  unfold SFrame at h
  split at h <;> (try (cases h; done))
  obtain ⟨R, h1, h2⟩ := Option.bind_eq_some_iff.1 h
  split at h2 <;> (try (cases h2; done))
  rename_i hok
  injection h2 with h2; subst h2
  exact p54 h1 hok _
def D5 : PCtx := ((D4.add 25 SChkR).add 26 SChkR).add 54 SFrame
theorem D5ok : CtxOk Try.prog D5 := ((D4ok.add c25).add c26).add c54
@[simp] theorem D5_56 : D5 56 = SHas := id rfl
@[simp] theorem D5_60 : D5 60 = SBtw := id rfl
@[simp] theorem D5_61 : D5 61 = SIs := id rfl
@[simp] theorem D5_74 : D5 74 = SFrom := id rfl
@[simp] theorem D5_75 : D5 75 = SAll := id rfl
@[simp] theorem D5_57 : D5 57 = STog := id rfl
@[simp] theorem D5_55 : D5 55 = SStf := id rfl
@[simp] theorem D5_25 : D5 25 = SChkR := id rfl
@[simp] theorem D5_26 : D5 26 = SChkR := id rfl
@[simp] theorem D5_54 : D5 54 = SFrame := id rfl
theorem SStf_i {x : AV} {R : Rk} (h : OkR R) (w : Int) : SStf [frV x R w] = some (.bool (stiffS (frF R w))) := by
  have h1 := h.r1
  have : 0 < (frF R w).arr.length := by simp only [frF, arrS_len]; omega
  simp [SStf, asF_frV h, this]

/-- is it stiff? -/
def stR (R : Rk) : Bool := stiffS (frF R (-1))
def stV (R : Rk) : AV := if chkR R = 0 then .tup [.bool (stR R), .int .i64 0] else .tup [.bool false, .int .i64 (chkR R)]
theorem p17 {x : AV} {R : Rk} (hx : asR x = some R) : PCall Try.prog 17 [x] (stV R) := by
  obtain ⟨v1, v2, v3, v4, v5, v6, v7, v8⟩ := RkV.of hx
  refine PCall.of D5ok ok17 (by simp) (by unfold stV; split <;> rfl) fun hs' hb => ?_
  simp [A17, R17, v2, v3, SChkR_i hx]
  refine At.decn (fun h => ?_) (fun h => ?_)
  · have hok := (chkR_zero.1 h).1
    simp [v3, SFrame_i hx hok, SStf_i hok, stV, h, stR]
  · simp [stV, h]
end Go.Proofs.Ytecbbbocjmdfgaa
set_option linter.unusedVariables false
set_option linter.unusedSimpArgs false
namespace Go.Proofs.Ytecbbbocjmdfgaa
open Go Fw

theorem out_cells {sz : Nat} {hs : HS} {x : AV} {l : List AV} (h : Outs sz hs x l) : x.cells = [x] ∧ x.sto = true ∧ x.leaf = true := by
  rcases h.inv with ⟨rfl, _⟩ | ⟨xs, k, rfl, _⟩ <;> exact ⟨rfl, rfl, rfl⟩
theorem out_share {sz : Nat} {hs : HS} {x : AV} {l : List AV} (h : Outs sz hs x l) : x.share = outV sz l := h.sh

theorem si (k : IntKind) (n : Int) : (AV.int k n).sto = true := rfl
abbrev Gp := List Int × List Int
abbrev grs (l : List Gp) : List AV := l.map fun g => .agg [outV 1 (ints g.1), outV 1 (ints g.2)]
/-- the rows, and the columns, of a set among the first k -/
def rowsK (s r : Nat) : Nat → List Int
  | 0 => []
  | k + 1 => if s.testBit k = true ∧ k < r then rowsK s r k ++ [(k : Int)] else rowsK s r k
def colsK (s r : Nat) : Nat → List Int
  | 0 => []
  | k + 1 => if s.testBit k = true ∧ ¬ k < r then colsK s r k ++ [((k - r : Nat) : Int)] else colsK s r k
theorem rowsK_len {s r : Nat} : ∀ k, (rowsK s r k).length ≤ k
  | 0 => by simp [rowsK]
  | k + 1 => by
    have := rowsK_len (s := s) (r := r) k
    simp only [rowsK]
    split
    · simp; omega
    · omega
theorem colsK_len {s r : Nat} : ∀ k, (colsK s r k).length ≤ k
  | 0 => by simp [colsK]
  | k + 1 => by
    have := colsK_len (s := s) (r := r) k
    simp only [colsK]
    split
    · simp; omega
    · omega
def grpS (arr : List Nat) (n r : Nat) : Nat → Nat × List Gp
  | 0 => (0, [])
  | i + 1 => if (grpS arr n r i).1.testBit i = true then grpS arr n r i else ((grpS arr n r i).1 ||| togS arr i n, (grpS arr n r i).2 ++ [(rowsK (togS arr i n) r n, colsK (togS arr i n) r n)])
theorem grpS_lt {arr : List Nat} {n r : Nat} (hn : n ≤ 16) : ∀ i, (grpS arr n r i).1 < 65536
  | 0 => by simp [grpS]
  | i + 1 => by
    simp only [grpS]
    split
    · exact grpS_lt hn i
    · exact Nat.or_lt_two_pow (n := 16) (grpS_lt hn i) (togS_lt hn)
theorem grpS_len {arr : List Nat} {n r : Nat} : ∀ i, (grpS arr n r i).2.length ≤ i
  | 0 => by simp [grpS]
  | i + 1 => by
    have := grpS_len (arr := arr) (n := n) (r := r) i
    simp only [grpS]
    split
    · omega
    · simp; omega
/-- the groups of a rack -/
def gpR (R : Rk) : List Gp := (grpS (frF R (-1)).arr (R.r.toNat + R.c.toNat) R.r.toNat (R.r.toNat + R.c.toNat)).2
def gpV (R : Rk) : AV := if chkR R = 0 then .tup [outV 2 (grs (gpR R)), .int .i64 0] else .tup [.nilsl, .int .i64 (chkR R)]
theorem plain_outI (l : List Int) : (outV 1 (ints l)).plain = true := by
  cases l with
  | nil => rfl
  | cons a l => exact plain_ints (a :: l)
theorem plain_grs (l : List Gp) : plainL (grs l) = true := by
  induction l with
  | nil => rfl
  | cons a l ih => simp only [grs, List.map_cons, plainL, AV.plain, plain_outI, Bool.and_self, Bool.true_and]; exact ih
theorem plain_outG (l : List Gp) : (outV 2 (grs l)).plain = true := by
  cases l with
  | nil => rfl
  | cons a l =>
    rw [outV_ne (by simp)]
    simp only [AV.plain]
    exact plain_grs _
theorem gpV_plain (R : Rk) : (gpV R).plain = true := by
  unfold gpV
  split
  · simp only [AV.plain, plainL, plain_outG, Bool.and_self]
  · rfl

theorem p19 {x : AV} {R : Rk} (hx : asR x = some R) : PCall Try.prog 19 [x] (gpV R) := by
  obtain ⟨v1, v2, v3, v4, v5, v6, v7, v8⟩ := RkV.of hx
  refine PCall.of D5ok ok19 (by simp) (gpV_plain R) fun hs' hb => ?_
  simp [A19, R19, v2, v3, SChkR_i hx]
  refine At.decn (fun h => ?_) (fun h => ?_)
  rotate_left
  · simp [gpV, h]
  have hok := (chkR_zero.1 h).1
  have hF := asF_frV (x := x) hok (-1)
  obtain ⟨n, hn⟩ : ∃ n : Nat, n = R.r.toNat + R.c.toNat := ⟨_, rfl⟩
  obtain ⟨r, hr⟩ : ∃ r : Nat, r = R.r.toNat := ⟨_, rfl⟩
  have h1 := hok.r1
  have h2 := hok.c1
  have h3 := hok.r6
  have h4 := hok.c6
  have hrr : R.r = (r : Int) := by omega
  have hgpR : gpR R = (grpS (frF R (-1)).arr n r n).2 := by rw [gpR, ← hn, ← hr]
  have hFl : (frF R (-1)).arr.length = n := by simp only [frF, arrS_len, hn]
  generalize hA : (frF R (-1)).arr = A at *
  have hV : frV x R (-1) = .agg [.int .i64 R.r, .int .i64 R.c, brV x, .sl 1 (us A) .exact] := by rw [frV, hA]
  have hog : (.tup [outV 2 (grs (grpS A n r n).2), .int .i64 0] : AV) = gpV R := by rw [gpV, if_pos h, hgpR]
  generalize gpV R = G at hog ⊢
  subst hog
  have hld3 : ∀ h xs c, aload h false 1 (.ptr (.sl 1 xs c)) = some (.sl 1 xs c) := fun _ _ _ => rfl
  generalize hq : hs'.nh = q
  generalize hbb : brV x = bb at *
  have hT : ∀ i : Nat, i < n → STog [.agg [.int .i64 R.r, .int .i64 R.c, bb, .sl 1 (us A) .exact], .int .i64 (i : Int)] = some (u16 (togS A i n)) := fun i hi => by
    rw [← hV]
    have := STog_i hF (i := i) (by rw [hA, hFl]; exact hi)
    rw [hA, hFl] at this
    exact this
  have hn16 : n < 16 := by omega
  simp [v3, SFrame_i hx hok, hV, hq, astore, sa, ca, setL, env_none, fa, la, apart, hFl]
  refine At.loop (fun (i : Nat) s => i ≤ n ∧ s.env 5 = .ref q 0 ∧ s.hs.heap q = some [.int .i64 R.r, .int .i64 R.c, bb, .sl 1 (us A) .exact] ∧ q < s.hs.nh ∧ s.env 7 = u16 (grpS A n r i).1 ∧ s.env 21 = .int .i64 (n : Int) ∧ s.env 22 = .int .i64 (i : Int) ∧ Outs 2 s.hs (s.env 6) (grs (grpS A n r i).2)) (fun i => n - i) 0 ?_ ?_
  · simp [hq, grpS, u16_0]
    exact .nil
  rintro N i s hN ⟨hi, e5, hh, hqn, e7, e21, e22, ho⟩
  simp [e21, e22]
  refine At.dec (fun hlt => ?_) (fun hlt => ?_)
  rotate_left
  · have : i = n := by omega
    subst this
    simp [ho.sh]
  have hd := grpS_lt (arr := A) (n := n) (r := r) (by omega) i
  have hs1 := togS_lt (arr := A) (i := i) (k := n) (by omega)
  simp [e22, e7, SHas_i hd (show i < 16 by omega)]
  refine At.split (fun hb1 => ?_) (fun hb1 => ?_)
  · simp [e22]
    refine hN (i + 1) _ (by omega) ⟨by omega, ?_⟩
    simp [e5, hh, hqn, e7, e21, wrap_nat1 (show i < _ by omega), grpS, hb1]
    exact ho
  have ne1 : ¬ q = s.hs.nh := by omega
  simp [e5, e7, e22, la, hh, apart, hT i hlt, or16 hd hs1, fa, ne1, hFl]
  generalize hD : grpS A n r i = D at *
  generalize hS : togS A i n = S at *
  refine At.loop (fun (k : Nat) s' => k ≤ n ∧ s'.env 5 = .ref q 0 ∧ s'.hs.heap q = some [.int .i64 R.r, .int .i64 R.c, bb, .sl 1 (us A) .exact] ∧ s'.hs.nh = s.hs.nh + 1 ∧ s'.env 7 = u16 (D.1 ||| S) ∧ s'.env 9 = u16 S ∧ s'.env 10 = .ref s.hs.nh 0 ∧ s'.env 21 = .int .i64 (n : Int) ∧ s'.env 22 = .int .i64 (i : Int) ∧ s'.env 36 = .int .i64 (n : Int) ∧ s'.env 37 = .int .i64 (k : Int) ∧
    Outs 2 s'.hs (s'.env 6) (grs D.2) ∧ ∃ x0 x1, s'.hs.heap s.hs.nh = some [x0, x1] ∧ Outs 1 s'.hs x0 (ints (rowsK S r k)) ∧ Outs 1 s'.hs x1 (ints (colsK S r k)) ∧ Apart x0 x1 ∧ Apart x0 (s'.env 6) ∧ Apart x1 (s'.env 6)) (fun k => n - k) 0 ?_ ?_
  · simp [e5, hh, e21, e22, ne1]
    exact ⟨ho.cong rfl rfl, .nilsl, .nilsl, ⟨rfl, rfl⟩, .nil, .nil, by simp, by simp, by simp⟩
  rintro N' k s' hN' ⟨hk, g5, gh, gn, g7, g9, g10, g21, g22, g36, g37, go, x0, x1, gx, o0, o1, a01, a0, a1⟩
  simp [g36, g37]
  refine At.dec (fun hlt2 => ?_) (fun hlt2 => ?_)
  · simp [g37, g9, SHas_i hs1 (show k < 16 by omega)]
    refine At.split (fun hb2 => ?_) (fun hb2 => ?_)
    · have hb3 : S.testBit k = false := by simpa using hb2
      simp [g37]
      refine hN' (k + 1) _ (by omega) ⟨by omega, ?_⟩
      simp [g5, gh, gn, g7, g9, g10, g21, g22, g36, wrap_nat1 (show k < _ by omega), rowsK, colsK, hb3]
      exact ⟨go, x0, x1, gx, o0, o1, a01, a0, a1⟩
    · have hb3 : S.testBit k = true := by simpa using hb2
      simp [g5, gh, g37, fa, la, apart, hrr]
      refine At.dec (fun hkr => ?_) (fun hkr => ?_)
      · have hkr' : k < r := by omega
        obtain ⟨y, hs2, b1, b2, b3, b4⟩ := add_apart o0 (by have := rowsK_len (s := S) (r := r) k; omega) (k : Int)
        obtain ⟨c1, c2, c3⟩ := out_cells b2
        have b5 : ∀ hs3 : HS, hs3.tok = hs2.tok → hs3.nt = hs2.nt → Outs 1 hs3 y (List.map (AV.int .i64) (rowsK S r k) ++ [AV.int .i64 (k : Int)]) := fun hs3 e1 e2 => by
          have := b2.cong e1 e2
          simpa [ints] using this
        obtain ⟨o1', y1⟩ := b4 o1 a01
        obtain ⟨go', y2⟩ := b4 go a0
        simp [g10, gx, g37, fa, la, apart, astoAll, si, ci, b1, astore, b3.heap, c1, c2, setL, env_none]
        refine hN' (k + 1) _ (by omega) ⟨by omega, ?_⟩
        simp [g5, gh, gn, g7, g9, g10, g21, g22, g36, g37, wrap_nat1 (show k < _ by omega), rowsK, colsK, hb3, hkr', ne1, env_none, b3.nh]
        exact ⟨go'.cong rfl rfl, y, x1, ⟨rfl, rfl⟩, b5 _ rfl rfl, o1'.cong rfl rfl, y1, y2, a1⟩
      · have hkr' : ¬ k < r := by omega
        have hw : IntKind.i64.wrap ((k : Int) - (r : Int)) = ((k - r : Nat) : Int) := by rw [wrap64 (by omega) (by omega)]; omega
        obtain ⟨y, hs2, b1, b2, b3, b4⟩ := add_apart o1 (by have := colsK_len (s := S) (r := r) k; omega) ((k - r : Nat) : Int)
        obtain ⟨c1, c2, c3⟩ := out_cells b2
        have b5 : ∀ hs3 : HS, hs3.tok = hs2.tok → hs3.nt = hs2.nt → Outs 1 hs3 y (List.map (AV.int .i64) (colsK S r k) ++ [AV.int .i64 ((k - r : Nat) : Int)]) := fun hs3 e1 e2 => by
          have := b2.cong e1 e2
          simpa [ints] using this
        obtain ⟨o0', y1⟩ := b4 o0 a01.symm
        obtain ⟨go', y2⟩ := b4 go a1
        simp [g10, gx, g37, g5, gh, hrr, fa, la, apart, astoAll, si, ci, hw, b1, astore, b3.heap, c1, c2, setL, env_none]
        refine hN' (k + 1) _ (by omega) ⟨by omega, ?_⟩
        simp [g5, gh, gn, g7, g9, g10, g21, g22, g36, g37, wrap_nat1 (show k < _ by omega), rowsK, colsK, hb3, hkr', ne1, env_none, b3.nh]
        exact ⟨go'.cong rfl rfl, x0, y, ⟨rfl, rfl⟩, o0'.cong rfl rfl, b5 _ rfl rfl, y1.symm, a0, y2⟩
  · have : k = n := by omega
    subst this
    have hl0 := grpS_len (arr := A) (n := k) (r := r) i
    rw [hD] at hl0
    obtain ⟨y, hs2, b1, b2, b3, b4⟩ := append_apart go (q := .sl 2 [.agg [x0, x1]] .exact) (ys := [.agg [x0, x1]]) (asV_sl (by simp)) (by simp; omega)
    simp [g10, gx, g22, la, apart, astoAll, sa, ca, b1, env_none]
    refine hN (i + 1) _ (by omega) ⟨by omega, ?_⟩
    simp [g5, gh, gn, b3.heap, b3.nh, g7, g21, wrap_nat1 (show i < _ by omega), grpS, hD, hS, hb1]
    refine ⟨by omega, ?_⟩
    simpa [o0.sh, o1.sh] using b2
end Go.Proofs.Ytecbbbocjmdfgaa
set_option linter.unusedVariables false
set_option linter.unusedSimpArgs false
namespace Go.Proofs.Ytecbbbocjmdfgaa
open Go Fw

abbrev Mx := Nat → Nat → Bool
def rowL (n : Nat) (f : Nat → Bool) : List AV := (List.range n).map fun k => .bool (f k)
def outL (n q m : Nat) : List AV := (List.range n).map fun j => if j < m then .msl false 1 (q + 1 + j) 0 n true else .nilsl
def upd (M : Mx) (a b : Nat) (v : Bool) : Mx := fun i j => if i = a ∧ j = b then v else M i j
@[simp] theorem rowL_len {n : Nat} {f : Nat → Bool} : (rowL n f).length = n := by simp [rowL]
@[simp] theorem outL_len {n q m : Nat} : (outL n q m).length = n := by simp [outL]
theorem rowL_get {n : Nat} {f : Nat → Bool} {o : Nat} (h : o < n) : (rowL n f)[o]? = some (.bool (f o)) := by simp [rowL, h]
theorem outL_get {n q m o : Nat} (h : o < n) (hm : o < m) : (outL n q m)[o]? = some (.msl false 1 (q + 1 + o) 0 n true) := by simp [outL, h, hm]
@[simp] theorem rowL_g {n : Nat} {f : Nat → Bool} {o : Nat} (h : o < (rowL n f).length) : (rowL n f)[o] = .bool (f o) := by simp [rowL]
@[simp] theorem outL_g {n q m o : Nat} (h : o < (outL n q m).length) (hm : o < m) : (outL n q m)[o] = .msl false 1 (q + 1 + o) 0 n true := by simp [outL, hm]
theorem rowL_set {n : Nat} {f : Nat → Bool} {o : Nat} {v : Bool} : (rowL n f).set o (.bool v) = rowL n (fun k => if k = o then v else f k) := by
  apply List.ext_getElem?
  intro j
  rw [List.getElem?_set]
  by_cases hj : j < n
  · rw [rowL_get hj, rowL_get hj]
    by_cases ho : o = j
    · subst ho; simp [hj]
    · have : ¬ j = o := fun e => ho e.symm
      simp [ho, this]
  · have h1 : (rowL n f)[j]? = none := List.getElem?_eq_none (by simp; omega)
    have h2 : (rowL n fun k => if k = o then v else f k)[j]? = none := List.getElem?_eq_none (by simp; omega)
    rw [h1, h2]
    split
    · rw [if_neg (by simp; omega)]
    · rfl
theorem outL_set {n q m : Nat} (h : m < n) : (outL n q m).set m (.msl false 1 (q + 1 + m) 0 n true) = outL n q (m + 1) := by
  apply List.ext_getElem?
  intro j
  rw [List.getElem?_set]
  by_cases hj : j < n
  · by_cases ho : m = j
    · subst ho; simp [outL, hj]
    · have : (j < m + 1) = (j < m) := by simp; omega
      simp [outL, hj, ho, this]
  · have h1 : (outL n q m)[j]? = none := List.getElem?_eq_none (by simp; omega)
    have h2 : (outL n q (m + 1))[j]? = none := List.getElem?_eq_none (by simp; omega)
    rw [h1, h2, if_neg (by omega)]
theorem outL_0 {n q : Nat} : List.replicate n AV.nilsl = outL n q 0 := by
  apply List.ext_getElem?
  intro j
  rcases Nat.lt_or_ge j n with h | h
  · simp [outL, h]
  · rw [List.getElem?_eq_none (by simpa using h), List.getElem?_eq_none (by simpa using h)]
theorem rowL_0 {n : Nat} : List.replicate n (AV.bool false) = rowL n fun _ => false := by
  apply List.ext_getElem?
  intro j
  rcases Nat.lt_or_ge j n with h | h
  · simp [rowL, h]
  · rw [List.getElem?_eq_none (by simpa using h), List.getElem?_eq_none (by simpa using h)]
theorem sm (ag : Bool) (sz i off len : Nat) (ex : Bool) : (AV.msl ag sz i off len ex).sto = true := rfl
theorem cm (ag : Bool) (sz i off len : Nat) (ex : Bool) : (AV.msl ag sz i off len ex).cells = [.msl ag sz i off len ex] := rfl
theorem sb (b : Bool) : (AV.bool b).sto = true := rfl
theorem cb (b : Bool) : (AV.bool b).cells = [.bool b] := rfl
/-- m rows of a matrix lie in memory -/
structure Mat (hs : HS) (q n m : Nat) (M : Mx) : Prop where
  out : hs.heap q = some (outL n q m)
  row : ∀ j, j < m → hs.heap (q + 1 + j) = some (rowL n (M j))
  nh : q + 1 + m ≤ hs.nh
theorem Mat.upd {hs : HS} {q n m : Nat} {M : Mx} (h : Mat hs q n m M) {a b : Nat} (ha : a < m) {v : Bool} : Mat (hs.upd (q + 1 + a) (rowL n (fun k => if k = b then v else M a k))) q n m (Ytecbbbocjmdfgaa.upd M a b v) := by
  refine ⟨?_, fun j hj => ?_, h.nh⟩
  · rw [HS.upd_ne (by omega)]; exact h.out
  · by_cases hja : j = a
    · subst hja
      rw [HS.upd_same]
      congr 2
      funext k
      simp [Ytecbbbocjmdfgaa.upd]
    · rw [HS.upd_ne (by omega), h.row j hj]
      congr 2
      funext k
      simp [Ytecbbbocjmdfgaa.upd, hja]
theorem Mat.upd1 {hs hs' : HS} {q n m : Nat} {M : Mx} (h : Mat hs q n m M) {a b : Nat} (ha : a < m) {v : Bool}
    (hh : ∀ i, i < hs.nh → hs'.heap i = if i = q + 1 + a then some (rowL n (fun k => if k = b then v else M a k)) else hs.heap i) (hn : hs.nh ≤ hs'.nh) : Mat hs' q n m (Ytecbbbocjmdfgaa.upd M a b v) := by
  have h0 := h.nh
  have h1 := h.upd (b := b) ha (v := v)
  refine ⟨?_, fun j hj => ?_, by omega⟩
  · rw [hh _ (by omega), if_neg (by omega)]; exact h.out
  · have := h1.row j hj
    rw [hh _ (by omega), ← this]
    simp only [HS.upd]
theorem Mat.upd2 {hs hs' : HS} {q n m : Nat} {M : Mx} (h : Mat hs q n m M) {a b : Nat} (ha : a < m) (hb : b < m) (hab : a ≠ b) {v : Bool}
    (hh : ∀ i, i < hs.nh → hs'.heap i = if i = q + 1 + b then some (rowL n (fun k => if k = a then v else M b k)) else if i = q + 1 + a then some (rowL n (fun k => if k = b then v else M a k)) else hs.heap i) (hn : hs.nh ≤ hs'.nh) :
    Mat hs' q n m (Ytecbbbocjmdfgaa.upd (Ytecbbbocjmdfgaa.upd M a b v) b a v) := by
  have h1 := h.upd (b := b) ha (v := v)
  refine h1.upd1 hb (fun i hi => ?_) hn
  rw [hh i hi]
  simp only [HS.upd]
  congr 3
  funext k
  simp [Ytecbbbocjmdfgaa.upd, Ne.symm hab]
theorem Mat.other {hs hs' : HS} {q n m : Nat} {M : Mx} (h : Mat hs q n m M) (hh : ∀ i, i < hs.nh → hs'.heap i = hs.heap i) (hn : hs.nh ≤ hs'.nh) : Mat hs' q n m M := by
  have h0 := h.nh
  exact ⟨by rw [hh _ (by omega)]; exact h.out, fun j hj => by rw [hh _ (by omega)]; exact h.row j hj, by omega⟩

def mxB (r : Nat) (b : Br) (M : Mx) : Mx :=
  let M1 := if b.2.2 ≠ 2 then upd M b.1.toNat (r + b.2.1.toNat) true else M
  if b.2.2 ≠ 1 then upd M1 (r + b.2.1.toNat) b.1.toNat true else M1
def mxS (r : Nat) (bs : List Br) : Nat → Mx
  | 0 => fun i j => decide (i = j)
  | i + 1 => mxB r (bs.getD i (0, 0, 0)) (mxS r bs i)
def fwB (M : Mx) (k a : Nat) : Nat → Mx
  | 0 => M
  | b + 1 => upd (fwB M k a b) a b (fwB M k a b a b || (fwB M k a b a k && fwB M k a b k b))
def fwA (n : Nat) (M : Mx) (k : Nat) : Nat → Mx
  | 0 => M
  | a + 1 => fwB (fwA n M k a) k a n
def fwK (n : Nat) (M : Mx) : Nat → Mx
  | 0 => M
  | k + 1 => fwA n (fwK n M k) k n
def rcR (R : Rk) : Mx := fwK (R.r.toNat + R.c.toNat) (mxS R.r.toNat R.b R.b.length) (R.r.toNat + R.c.toNat)
def mxV (n : Nat) (M : Mx) : AV := .sl 1 ((List.range n).map fun j => .sl 1 (rowL n (M j)) .exact) .exact

theorem p58 {x : AV} {R : Rk} (hx : asR x = some R) (h : OkR R) : PCall Try.prog 58 [x] (mxV (R.r.toNat + R.c.toNat) (rcR R)) := by
  obtain ⟨v1, v2, v3, v4, v5, v6, v7, v8⟩ := RkV.of hx
  have hlen := (asB_inv v8).2.2
  have h1 := h.r1
  have h2 := h.c1
  have h3 := h.r6
  have h4 := h.c6
  obtain ⟨n, hn⟩ : ∃ n : Nat, n = R.r.toNat + R.c.toNat := ⟨_, rfl⟩
  obtain ⟨r, hr⟩ : ∃ r : Nat, r = R.r.toNat := ⟨_, rfl⟩
  have hres : mxV (R.r.toNat + R.c.toNat) (rcR R) = mxV n (fwK n (mxS r R.b R.b.length) n) := by rw [rcR, hn, hr]
  rw [hres]
  have hpl : ∀ M, (mxV n M).plain = true := by
    intro M
    have hrow : ∀ f, plainL (rowL n f) = true := by
      intro f
      unfold rowL
      generalize List.range n = l
      induction l with
      | nil => rfl
      | cons a l ih => simp only [List.map_cons, plainL, AV.plain, Bool.true_and]; exact ih
    unfold mxV
    simp only [AV.plain]
    generalize List.range n = l
    induction l with
    | nil => rfl
    | cons a l ih => simp only [List.map_cons, plainL, AV.plain, hrow, Bool.true_and]; exact ih
  refine PCall.ofZ D5ok ok58 (by simp) (hpl _) fun hs' hb => ?_
  generalize hG : mxV n (fwK n (mxS r R.b R.b.length) n) = G
  have hw : IntKind.i64.wrap (R.r + R.c) = (n : Int) := by rw [wrap64 (by omega) (by omega)]; omega
  have mk0 := fun hs => amake_eq (z := AV.nilsl) (hs := hs) (k1 := .i64) (k2 := .i64) (n := n) (by omega)
  have mk1 := fun hs => amake_eq (z := AV.bool false) (hs := hs) (k1 := .i64) (k2 := .i64) (n := n) (by omega)
  generalize hq : hs'.nh = q
  simp [A58, R58, v2, v4, v5, hw, mk0, hq]
  refine At.loop (fun (i : Nat) s => i ≤ n ∧ s.env 1 = .ptr x ∧ s.env 3 = .int .i64 (n : Int) ∧ s.env 4 = .msl false 1 q 0 n true ∧ s.env 5 = .int .i64 (i : Int) ∧ s.hs.nh = q + 1 + i ∧ Mat s.hs q n i (fun a b => decide (a = b))) (fun i => n - i) 0 ?_ ?_
  · simp [hq]
    exact ⟨by rw [← hq, HS.blk_new]; rw [outL_0 (q := hs'.nh)], fun j hj => by omega, by simp [hq]⟩
  · rintro N i s hN ⟨hi, e1, e3, e4, e5, en, hM⟩
    simp [e3, e5]
    refine At.dec (fun hlt => ?_) (fun hlt => ?_)
    · have hi' : i < n := by omega
      have ne1 : ¬ q = q + 1 + i := by omega
      have ne2 : ¬ q + 1 + i = q := by omega
      simp [e1, e3, e4, e5, mk1, hi', astore, en, HS.blk, ne1, ne2, hM.out, la, apart, outL_get, setL, sm, cm, sb, cb, outL_set hi', rowL_0, rowL_set, show i + 1 ≤ n by omega, env_none]
      refine hN (i + 1) _ (by omega) ⟨by omega, ?_⟩
      simp [e1, e3, e4, e5, env_none, wrap_nat1 (show i < _ by omega)]
      refine ⟨by omega, ⟨by simp [ne1], fun j hj => ?_, by simp; omega⟩⟩
      by_cases hji : j = i
      · subst hji
        simp
        congr 1
        funext k
        by_cases hk : k = j
        · simp [hk]
        · have : ¬ j = k := fun e => hk e.symm
          simp [hk, this]
      · have n2 : ¬ q + 1 + j = q := by omega
        have n3 : ¬ q + 1 + j = q + 1 + i := by omega
        simp [n2, n3, hji, hM.row j (by omega)]
    · have : i = n := by omega
      subst this
      simp
      refine At.loop (fun (i' : Nat) s => i' ≤ R.b.length ∧ s.env 1 = .ptr x ∧ s.env 3 = .int .i64 (i : Int) ∧ s.env 4 = .msl false 1 q 0 i true ∧ s.env 6 = .int .i64 (i' : Int) ∧ Mat s.hs q i i (mxS r R.b i')) (fun i' => R.b.length - i') 0 ?_ ?_
      · simp [e1, e3, e4]
        exact hM
      rintro N2 j s hN2 ⟨hj, e1, e3, e4, e6, hM⟩
      simp [e1, e6, v6, v7, blen v8]
      refine At.dec (fun hlt2 => ?_) (fun hlt2 => ?_)
      · have hj' : j < R.b.length := by omega
        obtain ⟨k1, k2, k3, k4, k5, k6⟩ := h.b _ (List.getElem_mem hj')
        obtain ⟨ρ, hρ⟩ : ∃ ρ : Nat, R.b[j].1 = (ρ : Int) := ⟨R.b[j].1.toNat, by omega⟩
        obtain ⟨κ, hκ⟩ : ∃ κ : Nat, R.r + R.b[j].2.1 = (κ : Int) := ⟨(R.r + R.b[j].2.1).toNat, by omega⟩
        have hwk : IntKind.i64.wrap (κ : Int) = (κ : Int) := wrap64 (by omega) (by omega)
        have hr1 : R.b[j].1.toNat = ρ := by omega
        have hr2 : r + R.b[j].2.1.toNat = κ := by omega
        have hgd : R.b.getD j (0, 0, 0) = R.b[j] := by simp [List.getD, hj']
        have hS : mxS r R.b (j + 1) = mxB r R.b[j] (mxS r R.b j) := by simp only [mxS, hgd]
        have hlr : ρ < i := by omega
        have hlk : κ < i := by omega
        have hnh := hM.nh
        have n1 : ¬ q = s.hs.nh := by omega
        have n2 : ¬ q + 1 + ρ = s.hs.nh := by omega
        have n3 : ¬ q + 1 + κ = s.hs.nh := by omega
        have n4 : ¬ s.hs.nh = q + 1 + ρ := by omega
        have n5 : ¬ s.hs.nh = q + 1 + κ := by omega
        have n6 : ¬ q = q + 1 + ρ := by omega
        have n7 : ¬ q = q + 1 + κ := by omega
        have n8 : ¬ ρ = κ := by omega
        have w1 := wrap_nat1 (show j < _ by omega)
        generalize hMM : mxS r R.b j = M at *
        by_cases hk2 : R.b[j].2.2 = 2
        · simp [e1, e3, e4, e6, v4, v6, v7, bidx v8 hj', lpa, la, apart, astore, sa, ca, setL, fa, ci, hρ, hκ, hwk, hk2, n1, n2, n3, n4, n5, n6, n7, hM.out, hM.row ρ hlr, hM.row κ hlk, outL_get, hlr, hlk, sb, cb, rowL_set, show κ + 1 ≤ i by omega, show ρ + 1 ≤ i by omega, env_none]
          refine hN2 (j + 1) _ (by omega) ⟨by omega, ?_⟩
          simp [e1, e3, e4, e6, w1, env_none, hS, mxB, hk2, hr1, hr2]
          exact hM.upd1 hlk (fun i hi => by simp [Nat.ne_of_lt hi]) (by simp)
        · by_cases hk1 : R.b[j].2.2 = 1
          · simp [e1, e3, e4, e6, v4, v6, v7, bidx v8 hj', lpa, la, apart, astore, sa, ca, setL, fa, ci, hρ, hκ, hwk, hk2, hk1, n1, n2, n3, n4, n5, n6, n7, hM.out, hM.row ρ hlr, hM.row κ hlk, outL_get, hlr, hlk, sb, cb, rowL_set, show κ + 1 ≤ i by omega, show ρ + 1 ≤ i by omega, env_none]
            refine hN2 (j + 1) _ (by omega) ⟨by omega, ?_⟩
            simp [e1, e3, e4, e6, w1, env_none, hS, mxB, hk2, hk1, hr1, hr2]
            exact hM.upd1 hlr (fun i hi => by simp [Nat.ne_of_lt hi]) (by simp)
          · simp [e1, e3, e4, e6, v4, v6, v7, bidx v8 hj', lpa, la, apart, astore, sa, ca, setL, fa, ci, hρ, hκ, hwk, hk2, hk1, n1, n2, n3, n4, n5, n6, n7, n8, Ne.symm n8, hM.out, hM.row ρ hlr, hM.row κ hlk, outL_get, hlr, hlk, sb, cb, rowL_set, show κ + 1 ≤ i by omega, show ρ + 1 ≤ i by omega, env_none]
            refine hN2 (j + 1) _ (by omega) ⟨by omega, ?_⟩
            simp [e1, e3, e4, e6, w1, env_none, hS, mxB, hk2, hk1, hr1, hr2]
            exact hM.upd2 hlr hlk n8 (fun i hi => by simp [Nat.ne_of_lt hi]) (by simp)
      · have hjl : j = R.b.length := by omega
        subst hjl
        generalize hMM : mxS r R.b R.b.length = M0 at *
        simp
        refine At.loop (fun (k : Nat) s => k ≤ i ∧ s.env 3 = .int .i64 (i : Int) ∧ s.env 4 = .msl false 1 q 0 i true ∧ s.env 10 = .int .i64 (k : Int) ∧ Mat s.hs q i i (fwK i M0 k)) (fun k => i - k) 0 ?_ ?_
        · simp [e3, e4]; exact hM
        rintro N3 k s hN3 ⟨hk, e3, e4, e10, hM⟩
        simp [e3, e10]
        refine At.dec (fun hltk => ?_) (fun hltk => ?_)
        · simp [e3]
          refine At.loop (fun (a : Nat) s => a ≤ i ∧ s.env 3 = .int .i64 (i : Int) ∧ s.env 4 = .msl false 1 q 0 i true ∧ s.env 10 = .int .i64 (k : Int) ∧ s.env 11 = .int .i64 (a : Int) ∧ Mat s.hs q i i (fwA i (fwK i M0 k) k a)) (fun a => i - a) 0 ?_ ?_
          · simp [e3, e4, e10, fwA]; exact hM
          rintro N4 a s hN4 ⟨ha, e3, e4, e10, e11, hM⟩
          simp [e3, e11]
          refine At.dec (fun hlta => ?_) (fun hlta => ?_)
          · simp
            refine At.loop (fun (b : Nat) s => b ≤ i ∧ s.env 3 = .int .i64 (i : Int) ∧ s.env 4 = .msl false 1 q 0 i true ∧ s.env 10 = .int .i64 (k : Int) ∧ s.env 11 = .int .i64 (a : Int) ∧ s.env 12 = .int .i64 (b : Int) ∧ Mat s.hs q i i (fwB (fwA i (fwK i M0 k) k a) k a b)) (fun b => i - b) 0 ?_ ?_
            · simp [e3, e4, e10, e11, fwB]; exact hM
            rintro N5 b s hN5 ⟨hb, e3, e4, e10, e11, e12, hM⟩
            simp [e3, e12]
            refine At.dec (fun hltb => ?_) (fun hltb => ?_)
            · generalize hMM2 : fwB (fwA i (fwK i M0 k) k a) k a b = M at *
              have hltk' : k < i := by omega
              have hlta' : a < i := by omega
              have hltb' : b < i := by omega
              have n1 : ¬ q = q + 1 + a := by omega
              have hnh := hM.nh
              have done : ∀ (v : Bool) (s' : AS), (M a b || (M a k && M k b)) = v → s'.env 3 = .int .i64 (i : Int) → s'.env 4 = .msl false 1 q 0 i true → s'.env 10 = .int .i64 (k : Int) → s'.env 11 = .int .i64 (a : Int) → s'.env 12 = .int .i64 ((b : Int) + 1) → s'.hs = s.hs.upd (q + 1 + a) (rowL i (fun k => if k = b then v else M a k)) → At (N5 s') := by
                intro v s' hv g3 g4 g10 g11 g12 gh
                refine hN5 (b + 1) s' (by omega) ⟨by omega, g3, g4, g10, g11, by simpa using g12, ?_⟩
                rw [gh]
                simp only [fwB, hMM2, hv]
                exact hM.upd hlta'
              cases hb1 : M a b with
              | true =>
                simp [e4, e10, e11, e12, la, apart, hM.out, outL_g, hlta', hltb', hltk', hM.row a hlta', hM.row k hltk', hb1, astore, sb, cb, setL, rowL_set, show b + 1 ≤ i by omega]
                refine done true _ (by simp [hb1]) ?_ ?_ ?_ ?_ ?_ ?_ <;> simp [e3, e4, e10, e11, wrap_nat1 (show b < _ by omega), env_none]
                rfl
              | false =>
              cases hb2 : M a k with
              | false =>
                simp [e4, e10, e11, e12, la, apart, hM.out, outL_g, hlta', hltb', hltk', hM.row a hlta', hM.row k hltk', hb1, hb2, astore, sb, cb, setL, rowL_set, show b + 1 ≤ i by omega]
                refine done false _ (by simp [hb1, hb2]) ?_ ?_ ?_ ?_ ?_ ?_ <;> simp [e3, e4, e10, e11, wrap_nat1 (show b < _ by omega), env_none]
                rfl
              | true =>
              cases hb3 : M k b with
              | false =>
                simp [e4, e10, e11, e12, la, apart, hM.out, outL_g, hlta', hltb', hltk', hM.row a hlta', hM.row k hltk', hb1, hb2, hb3, astore, sb, cb, setL, rowL_set, show b + 1 ≤ i by omega]
                refine done false _ (by simp [hb1, hb2, hb3]) ?_ ?_ ?_ ?_ ?_ ?_ <;> simp [e3, e4, e10, e11, wrap_nat1 (show b < _ by omega), env_none]
                rfl
              | true =>
                simp [e4, e10, e11, e12, la, apart, hM.out, outL_g, hlta', hltb', hltk', hM.row a hlta', hM.row k hltk', hb1, hb2, hb3, astore, sb, cb, setL, rowL_set, show b + 1 ≤ i by omega]
                refine done true _ (by simp [hb1, hb2, hb3]) ?_ ?_ ?_ ?_ ?_ ?_ <;> simp [e3, e4, e10, e11, wrap_nat1 (show b < _ by omega), env_none]
                rfl
            · have : b = i := by omega
              subst this
              simp [e11]
              refine hN4 (a + 1) _ (by omega) ⟨by omega, ?_⟩
              simp [e3, e4, e10, wrap_nat1 (show a < _ by omega), fwA]
              exact hM
          · have : a = i := by omega
            subst this
            simp [e10]
            refine hN3 (k + 1) _ (by omega) ⟨by omega, ?_⟩
            simp [e3, e4, wrap_nat1 (show k < _ by omega), fwK]
            exact hM
        · have : k = i := by omega
          subst this
          simp [e4]
          rw [frzL_msl hM.out (mcont_full outL_len), ← hG]
          have hrows : (outL k q k).map (frzC (frzL s.hs.heap 1)) = (List.range k).map fun j => .sl 1 (rowL k (fwK k M0 k j)) .exact := by
            unfold outL
            rw [List.map_map]
            apply List.map_congr_left
            intro j hj
            have hj' : j < k := by simpa using hj
            simp only [Function.comp, hj', if_true, frzC_msl]
            rw [frzL_msl (hM.row j hj') (mcont_full rowL_len), map_frz (fun x hx => by
              simp only [rowL, List.mem_map] at hx
              obtain ⟨m, _, rfl⟩ := hx
              exact .inr ⟨_, rfl⟩)]
            rfl
          rw [hrows]
          have hsh : ∀ f, (rowL k f).map AV.share = rowL k f := by
            intro f
            unfold rowL
            rw [List.map_map]
            apply List.map_congr_left
            intro j _
            simp
          simp [mxV, List.map_map, Function.comp_def, hsh]
end Go.Proofs.Ytecbbbocjmdfgaa
set_option linter.unusedVariables false
set_option linter.unusedSimpArgs false
namespace Go.Proofs.Ytecbbbocjmdfgaa
open Go Fw

def deRow : List AV → Option (List Bool)
  | [] => some []
  | .bool b :: xs => (deRow xs).map (b :: ·)
  | _ => none
def SReach : List AV → Option AV
  | [x] => (asR x).bind fun R => if OkR R then some (mxV (R.r.toNat + R.c.toNat) (rcR R)) else none
  | _ => none
theorem SReach_i {x : AV} {R : Rk} (hx : asR x = some R) (h : OkR R) : SReach [x] = some (mxV (R.r.toNat + R.c.toNat) (rcR R)) := by simp [SReach, hx, h]
theorem c58 : ∀ a r, SReach a = some r → PCall Try.prog 58 a r := by
  intro a r h
  unfold SReach at h
  split at h <;> (try (cases h; done))
  obtain ⟨R, h1, h2⟩ := Option.bind_eq_some_iff.1 h
  split at h2 <;> (try (cases h2; done))
  rename_i hok
  injection h2 with h2; subst h2
  exact p58 h1 hok
def D6 : PCtx := D5.add 58 SReach
theorem D6ok : CtxOk Try.prog D6 := D5ok.add c58
@[simp] theorem D6_60 : D6 60 = SBtw := id rfl
@[simp] theorem D6_61 : D6 61 = SIs := id rfl
@[simp] theorem D6_57 : D6 57 = STog := id rfl
@[simp] theorem D6_55 : D6 55 = SStf := id rfl
@[simp] theorem D6_25 : D6 25 = SChkR := id rfl
@[simp] theorem D6_26 : D6 26 = SChkR := id rfl
@[simp] theorem D6_54 : D6 54 = SFrame := id rfl
@[simp] theorem D6_58 : D6 58 = SReach := id rfl

/-- rows and columns that keep together with i, from i on, m of them -/
def rgR (W : Nat → Bool) (i r : Nat) : Nat → List Int
  | 0 => []
  | m + 1 => if W (i + m) = true ∧ i + m < r then rgR W i r m ++ [((i + m : Nat) : Int)] else rgR W i r m
def rgC (W : Nat → Bool) (i r : Nat) : Nat → List Int
  | 0 => []
  | m + 1 => if W (i + m) = true ∧ ¬ i + m < r then rgC W i r m ++ [((i + m - r : Nat) : Int)] else rgC W i r m
def rgT (W : Nat → Bool) (i : Nat) (T : Nat → Bool) : Nat → Nat → Bool
  | 0 => T
  | m + 1 => if W (i + m) = true then fun j => decide (j = i + m) || rgT W i T m j else rgT W i T m
theorem rgR_len {W : Nat → Bool} {i r : Nat} : ∀ k, (rgR W i r k).length ≤ k
  | 0 => by simp [rgR]
  | k + 1 => by
    have := rgR_len (W := W) (i := i) (r := r) k
    simp only [rgR]
    split
    · simp; omega
    · omega
theorem rgC_len {W : Nat → Bool} {i r : Nat} : ∀ k, (rgC W i r k).length ≤ k
  | 0 => by simp [rgC]
  | k + 1 => by
    have := rgC_len (W := W) (i := i) (r := r) k
    simp only [rgC]
    split
    · simp; omega
    · omega
def bothM (M : Mx) (i k : Nat) : Bool := M i k && M k i
def grpM (M : Mx) (n r : Nat) : Nat → (Nat → Bool) × List Gp
  | 0 => (fun _ => false, [])
  | i + 1 => if (grpM M n r i).1 i = true then grpM M n r i else (rgT (bothM M i) i (grpM M n r i).1 (n - i), (grpM M n r i).2 ++ [(rgR (bothM M i) i r (n - i), rgC (bothM M i) i r (n - i))])
theorem grpM_len {M : Mx} {n r : Nat} : ∀ i, (grpM M n r i).2.length ≤ i
  | 0 => by simp [grpM]
  | i + 1 => by
    have := grpM_len (M := M) (n := n) (r := r) i
    simp only [grpM]
    split
    · omega
    · simp; omega
def gmR (R : Rk) : List Gp := (grpM (rcR R) (R.r.toNat + R.c.toNat) R.r.toNat (R.r.toNat + R.c.toNat)).2
def gmV (R : Rk) : AV := if chkR R = 0 then .tup [outV 2 (grs (gmR R)), .int .i64 0] else .tup [.nilsl, .int .i64 (chkR R)]
theorem gmV_plain (R : Rk) : (gmV R).plain = true := by
  unfold gmV
  split
  · simp only [AV.plain, plainL, plain_outG, Bool.and_self]
  · rfl
theorem midx {n : Nat} {M : Mx} {k : IntKind} {a : Nat} (ha : a < n) : aidxS 1 (mxV n M) (.int k (a : Int)) = some (.ptr (.sl 1 (rowL n (M a)) .exact)) := by
  simp [mxV, aidxS, ha]
theorem ridx {n : Nat} {f : Nat → Bool} {cp : Cap} {k : IntKind} {a : Nat} (ha : a < n) : aidxS 1 (.sl 1 (rowL n f) cp) (.int k (a : Int)) = some (.ptr (.bool (f a))) := by
  simp [aidxS, rowL_get ha]

theorem p20 {x : AV} {R : Rk} (hx : asR x = some R) : PCall Try.prog 20 [x] (gmV R) := by
  obtain ⟨v1, v2, v3, v4, v5, v6, v7, v8⟩ := RkV.of hx
  refine PCall.of D6ok ok20 (by simp) (gmV_plain R) fun hs' hb => ?_
  simp [A20, R20, v2, v3, SChkR_i hx]
  refine At.decn (fun h => ?_) (fun h => ?_)
  rotate_left
  · simp [gmV, h]
  have hok := (chkR_zero.1 h).1
  obtain ⟨n, hn⟩ : ∃ n : Nat, n = R.r.toNat + R.c.toNat := ⟨_, rfl⟩
  obtain ⟨r, hr⟩ : ∃ r : Nat, r = R.r.toNat := ⟨_, rfl⟩
  have h1 := hok.r1
  have h2 := hok.c1
  have h3 := hok.r6
  have h4 := hok.c6
  have hrr : R.r = (r : Int) := by omega
  have hR := SReach_i hx hok
  have hog : (.tup [outV 2 (grs (grpM (rcR R) n r n).2), .int .i64 0] : AV) = gmV R := by rw [gmV, if_pos h, gmR, hn, hr]
  generalize gmV R = G at hog ⊢
  subst hog
  rw [← hn] at hR
  generalize rcR R = M at *
  have hw : IntKind.i64.wrap (R.r + R.c) = (n : Int) := by rw [wrap64 (by omega) (by omega)]; omega
  have mk1 := fun hs => amake_eq (z := AV.bool false) (hs := hs) (k1 := .i64) (k2 := .i64) (n := n) (by omega)
  generalize hq : hs'.nh = q
  have lps : ∀ h sz xs c, aload h false 1 (.ptr (.sl sz xs c)) = some (.sl sz xs c) := fun _ _ _ _ => rfl
  have lpb : ∀ h b, aload h false 1 (.ptr (.bool b)) = some (.bool b) := fun _ _ => rfl
  simp [v3, v4, v5, hR, hw, mk1, hq]
  refine At.loop (fun (i : Nat) s => i ≤ n ∧ s.env 1 = .ptr x ∧ s.env 6 = mxV n M ∧ s.env 7 = .int .i64 (n : Int) ∧ s.env 8 = .msl false 1 q 0 n true ∧ s.env 9 = .int .i64 (i : Int) ∧ s.hs.heap q = some (rowL n (grpM M n r i).1) ∧ q < s.hs.nh ∧ Outs 2 s.hs (s.env 5) (grs (grpM M n r i).2)) (fun i => n - i) 0 ?_ ?_
  · simp [hq, grpM, HS.blk, rowL_0]
    exact .nil
  rintro N i s hN ⟨hi, e1, e6, e7, e8, e9, hh, hqn, ho⟩
  simp [e7, e9]
  refine At.dec (fun hlt => ?_) (fun hlt => ?_)
  rotate_left
  · have : i = n := by omega
    subst this
    simp [ho.sh]
  have hlt' : i < n := by omega
  simp [e8, e9, la, hh, apart, hlt']
  refine At.split (fun hb1 => ?_) (fun hb1 => ?_)
  · simp [e9]
    refine hN (i + 1) _ (by omega) ⟨by omega, ?_⟩
    simp [e1, e6, e7, e8, hqn, wrap_nat1 (show i < _ by omega), grpM, hb1, hh]
    exact ho
  have ne1 : ¬ q = s.hs.nh := by omega
  simp [e9, astore, sa, ca, setL, env_none]
  generalize hD : grpM M n r i = D at *
  generalize hW : bothM M i = W at *
  refine At.loop (fun (m : Nat) s' => i + m ≤ n ∧ s'.env 1 = .ptr x ∧ s'.env 6 = mxV n M ∧ s'.env 7 = .int .i64 (n : Int) ∧ s'.env 8 = .msl false 1 q 0 n true ∧ s'.env 9 = .int .i64 (i : Int) ∧ s'.env 10 = .ref s.hs.nh 0 ∧ s'.env 11 = .int .i64 ((i + m : Nat) : Int) ∧ s'.hs.heap q = some (rowL n (rgT W i D.1 m)) ∧ s'.hs.nh = s.hs.nh + 1 ∧
    Outs 2 s'.hs (s'.env 5) (grs D.2) ∧ ∃ x0 x1, s'.hs.heap s.hs.nh = some [x0, x1] ∧ Outs 1 s'.hs x0 (ints (rgR W i r m)) ∧ Outs 1 s'.hs x1 (ints (rgC W i r m)) ∧ Apart x0 x1 ∧ Apart x0 (s'.env 5) ∧ Apart x1 (s'.env 5)) (fun m => n - (i + m)) 0 ?_ ?_
  · simp [e1, e6, e7, e8, e9, hh, ne1, rgT, env_none]
    exact ⟨by omega, ho.cong rfl rfl, .nilsl, .nilsl, ⟨rfl, rfl⟩, .nil, .nil, by simp, by simp, by simp⟩
  rintro N' m s' hN' ⟨hm, g1, g6, g7, g8, g9, g10, g11, gh, gn, go, x0, x1, gx, o0, o1, a01, a0, a1⟩
  obtain ⟨k, hk⟩ : ∃ k : Nat, k = i + m := ⟨_, rfl⟩
  rw [← hk] at g11 hm
  simp [g7, g11]
  refine At.dec (fun hlt2 => ?_) (fun hlt2 => ?_)
  · have hk' : k < n := by omega
    have w1 := wrap_nat1 (show k < _ by omega)
    have hWk : W k = (M i k && M k i) := by rw [← hW]; rfl
    cases hb1 : M i k with
    | false =>
      have hWf : W (i + m) = false := by rw [← hk, hWk, hb1]; rfl
      simp [g6, g9, g11, midx hlt', lps, lpb, ridx hk', hb1]
      refine hN' (m + 1) _ (by omega) ⟨by omega, ?_⟩
      simp [g1, g6, g7, g8, g9, g10, g11, gh, gn, w1, rgT, rgR, rgC, hWf]
      exact ⟨by omega, go, x0, x1, gx, o0, o1, a01, a0, a1⟩
    | true =>
    cases hb2 : M k i with
    | false =>
      have hWf : W (i + m) = false := by rw [← hk, hWk, hb1, hb2]; rfl
      simp [g6, g9, g11, midx hlt', midx hk', lps, lpb, ridx hk', ridx hlt', hb1, hb2]
      refine hN' (m + 1) _ (by omega) ⟨by omega, ?_⟩
      simp [g1, g6, g7, g8, g9, g10, g11, gh, gn, w1, rgT, rgR, rgC, hWf]
      exact ⟨by omega, go, x0, x1, gx, o0, o1, a01, a0, a1⟩
    | true =>
    have hWk' : W k = true := by rw [hWk, hb1, hb2]; rfl
    by_cases hkr : k < r
    · obtain ⟨y, hs2, b1, b2, b3, b4⟩ := add_apart (hs := { s'.hs with heap := fun j => if j = q then some (rowL n (fun j => decide (j = k) || rgT W i D.1 m j)) else s'.hs.heap j }) (o0.cong rfl rfl) (by have := rgR_len (W := W) (i := i) (r := r) m; omega) (k : Int)
      obtain ⟨c1, c2, c3⟩ := out_cells b2
      have b5 : ∀ hs3 : HS, hs3.tok = hs2.tok → hs3.nt = hs2.nt → Outs 1 hs3 y (List.map (AV.int .i64) (rgR W i r m) ++ [AV.int .i64 (k : Int)]) := fun hs3 e1 e2 => by
        have := b2.cong e1 e2
        simpa [ints] using this
      obtain ⟨o1', y1⟩ := b4 (o1.cong rfl rfl) a01
      obtain ⟨go', y2⟩ := b4 (go.cong rfl rfl) a0
      have bh := b3.heap
      have bn := b3.nh
      simp only at bh bn
      have hkr2 : i + m < r := by omega
      have ckm : ((k : Nat) : Int) = (i : Int) + (m : Int) := by omega
      simp [g1, g6, g8, g9, g10, g11, midx hlt', midx hk', lps, lpb, ridx hk', ridx hlt', hb1, hb2, hk', la, apart, gh, astore, sb, cb, setL, rowL_set, show k + 1 ≤ n by omega, v4, hrr, hkr, env_none, Ne.symm ne1, gx, fa, astoAll, si, ci, b1, bh, c1, c2]
      refine hN' (m + 1) _ (by omega) ⟨by omega, ?_⟩
      simp [g1, g6, g7, g8, g9, g10, g11, gn, w1, rgT, rgR, rgC, hWk', hkr, ne1, env_none, bn, ← hk]
      refine ⟨by omega, go'.cong rfl rfl, y, x1, ⟨rfl, rfl⟩, b5 _ rfl rfl, o1'.cong rfl rfl, y1, y2, a1⟩
    · have hw3 : IntKind.i64.wrap ((k : Int) - (r : Int)) = ((k - r : Nat) : Int) := by rw [wrap64 (by omega) (by omega)]; omega
      obtain ⟨y, hs2, b1, b2, b3, b4⟩ := add_apart (hs := { s'.hs with heap := fun j => if j = q then some (rowL n (fun j => decide (j = k) || rgT W i D.1 m j)) else s'.hs.heap j }) (o1.cong rfl rfl) (by have := rgC_len (W := W) (i := i) (r := r) m; omega) ((k - r : Nat) : Int)
      obtain ⟨c1, c2, c3⟩ := out_cells b2
      have b5 : ∀ hs3 : HS, hs3.tok = hs2.tok → hs3.nt = hs2.nt → Outs 1 hs3 y (List.map (AV.int .i64) (rgC W i r m) ++ [AV.int .i64 ((k - r : Nat) : Int)]) := fun hs3 e1 e2 => by
        have := b2.cong e1 e2
        simpa [ints] using this
      obtain ⟨o0', y1⟩ := b4 (o0.cong rfl rfl) a01.symm
      obtain ⟨go', y2⟩ := b4 (go.cong rfl rfl) a1
      have bh := b3.heap
      have bn := b3.nh
      simp only at bh bn
      simp [g1, g6, g8, g9, g10, g11, midx hlt', midx hk', lps, lpb, ridx hk', ridx hlt', hb1, hb2, hk', la, apart, gh, astore, sb, cb, setL, rowL_set, show k + 1 ≤ n by omega, v4, hrr, hkr, hw3, env_none, Ne.symm ne1, gx, fa, astoAll, si, ci, b1, bh, c1, c2]
      refine hN' (m + 1) _ (by omega) ⟨by omega, ?_⟩
      simp [g1, g6, g7, g8, g9, g10, g11, gn, w1, rgT, rgR, rgC, hWk', hkr, ne1, env_none, bn, ← hk]
      refine ⟨by omega, go'.cong rfl rfl, x0, y, ⟨rfl, rfl⟩, o0'.cong rfl rfl, b5 _ rfl rfl, y1.symm, a0, y2⟩
  · have hm' : m = n - i := by omega
    subst hm'
    have hl0 := grpM_len (M := M) (n := n) (r := r) i
    rw [hD] at hl0
    obtain ⟨y, hs2, b1, b2, b3, b4⟩ := append_apart go (q := .sl 2 [.agg [x0, x1]] .exact) (ys := [.agg [x0, x1]]) (asV_sl (by simp)) (by simp; omega)
    simp [g10, gx, g9, la, apart, astoAll, sa, ca, b1, env_none]
    refine hN (i + 1) _ (by omega) ⟨by omega, ?_⟩
    simp [g1, g6, g7, g8, gh, gn, b3.heap, b3.nh, wrap_nat1 (show i < _ by omega), grpM, hD, hW, hb1]
    refine ⟨by omega, ?_⟩
    simpa [o0.sh, o1.sh] using b2
end Go.Proofs.Ytecbbbocjmdfgaa
set_option linter.unusedVariables false
set_option linter.unusedSimpArgs false
namespace Go.Proofs.Ytecbbbocjmdfgaa
open Go Fw

/-- a list of numbers under way that has room of its own -/
def Own1 (hs : HS) (x : AV) (l : List Int) : Prop := (x = .nilsl ∧ l = []) ∨ ∃ k, x = .sl 1 (ints l) (.own k) ∧ hs.tok k = true ∧ k < hs.nt
theorem own_append {hs : HS} {x q : AV} {l m : List Int} (h : Own1 hs x l) (hq : asI q = some m) (hl : l.length + m.length ≤ 1000000000) :
    ∃ y hs', aappend 1 hs x q = some (y, hs') ∧ Own1 hs' y (l ++ m) ∧ (x = .nilsl → m = [] → y = .nilsl) := by
  obtain ⟨e1, e2⟩ := elems_of (asI_asV hq)
  rcases h with ⟨rfl, rfl⟩ | ⟨k, rfl, h1, h2⟩
  · rw [append_eq (xs := []) rfl e1 rfl e2 (by simp [ints] at hl ⊢; omega)]
    split
    · rename_i hy
      have : m = [] := by simpa [ints] using hy
      subst this
      exact ⟨_, _, rfl, .inl ⟨rfl, rfl⟩, fun _ _ => rfl⟩
    · rename_i hy
      refine ⟨_, _, rfl, .inr ⟨hs.nt, by simp, by simp, by simp⟩, fun _ hm => absurd (by rw [hm]; rfl) hy⟩
  · rw [append_eq (xs := ints l) rfl e1 (by simp [aszOk]) e2 (by simp [ints]; omega)]
    split
    · rename_i hy
      have : m = [] := by simpa [ints] using hy
      subst this
      exact ⟨_, _, rfl, .inr ⟨k, by simp, h1, h2⟩, fun h => by cases h⟩
    · rename_i hy
      simp only [appP, h1, if_true]
      refine ⟨_, _, rfl, .inr ⟨hs.nt, by simp [ints], by simp, by simp⟩, fun h => by cases h⟩

/-- the lists one behind the other: the first i -/
def catL (ls : Nat → List Int) : Nat → List Int
  | 0 => []
  | i + 1 => catL ls i ++ ls i
theorem FCall.ofAt {P : Program} {C : PCtx} (hC : CtxOk P C) {f : FuncId} {muts : List Nat} {pu : List FuncId} {ac : ACode} {rs : List ARes} {n : Nat} (hf : FnOk P f muts pu ac rs n) {args : List AV} {hs : HS} {R : AEnd → HS → Prop} (hn : args.length ≤ n)
    (h : At (awp P C ac (finQ rs R) ⟨argEnv args, hs⟩)) : FCall P f args hs R := FCall.of_body hC hf hn h
theorem catL_le (ls : Nat → List Int) : ∀ {i j : Nat}, i ≤ j → (catL ls i).length ≤ (catL ls j).length
  | i, 0, h => by have : i = 0 := by omega
                  subst this; exact Nat.le_refl _
  | i, j + 1, h => by
    rcases Nat.lt_or_ge i (j + 1) with h' | h'
    · have := catL_le ls (i := i) (j := j) (by omega)
      simp only [catL, List.length_append]; omega
    · have : i = j + 1 := by omega
      subst this; exact Nat.le_refl _
theorem p79 (n : Nat) (hn : n ≤ 1000000) (hs : HS) : FCall Try.prog 79 [.nilsl, .int .i64 (n : Int)] hs fun e hs' => ∃ y, e = .ret y ∧ Own1 hs' y [] ∧ (n = 0 → y = .nilsl) ∧ (n ≠ 0 → y ≠ .nilsl) := by
  refine FCall.ofAt D6ok ok79 (by simp) ?_
  simp [A79, R79]
  refine At.dec (fun h => ?_) (fun h => ?_)
  · omega
  have w0 : IntKind.i64.wrap ((n : Int) - 0) = n := by rw [wrap64 (by omega) (by omega)]; omega
  have w1 : IntKind.i64.wrap ((n : Int)) = n := by rw [wrap64 (by omega) (by omega)]
  have w2 : IntKind.i64.wrap 0 = 0 := by decide
  simp [acap, w1, w2]
  refine At.dec (fun h2 => ?_) (fun h2 => ?_)
  · have hn0 : 0 < n := by omega
    have ha : aslice 1 .nilsl none (some (.int .i64 0)) none = some .nilsl := by simp [aslice, aidx, asliceN]
    have hg : ∀ m k, aslice 1 (.gsl 1 m k) none (some (.int .i64 0)) none = some (.sl 1 [] (.own k)) := fun m k => by simp [aslice, aidx]
    simp [acap, ha, hg, aappz, hn0, show (n : Int) ≤ 1000000 by omega]
    exact At.of ⟨.inr ⟨hs.nt, by simp [ints], by simp, by simp⟩, by omega⟩
  · have hn0 : n = 0 := by omega
    subst hn0
    simp
    exact At.of (.inl ⟨rfl, rfl⟩)

theorem p68 {xs : List AV} {c : Cap} {ls : Nat → List Int} (hx : ∀ (i : Nat) (h : i < xs.length), asI xs[i] = some (ls i)) (hlen : ∀ i, i ≤ xs.length → (catL ls i).length ≤ 1000000) (hxl : xs.length ≤ 1000) :
    PCall Try.prog 68 [.sl 1 xs c] (outV 1 (ints (catL ls xs.length))) := by
  refine PCall.of D6ok ok68 (by simp) (plain_outI _) fun hs' hb => ?_
  simp [A68, R68]
  have hidx : ∀ i (h : i < xs.length), aidxS 1 (.sl 1 xs c) (.int .i64 (i : Int)) = some (.ptr xs[i]) := fun i h => by simp [aidxS, h]
  have hld : ∀ (i : Nat) (h : i < xs.length) hp, aload hp false 1 (.ptr xs[i]) = some xs[i] := fun i h hp => by
    rcases asI_inv (hx i h) with ⟨e, _⟩ | ⟨c, e⟩ <;> rw [e] <;> rfl
  refine At.loop (fun (i : Nat) s => i ≤ xs.length ∧ s.env 0 = .sl 1 xs c ∧ s.env 3 = .int .i64 ((catL ls i).length : Int) ∧ s.env 9 = .sl 1 xs c ∧ s.env 10 = .int .i64 (xs.length : Int) ∧ s.env 11 = .int .i64 (i : Int)) (fun i => xs.length - i) 0 ?_ ?_
  · simp [catL]
  rintro N i s hN ⟨hi, e0, e3, e9, e10, e11⟩
  simp [e10, e11]
  refine At.dec (fun hlt => ?_) (fun hlt => ?_)
  · have hi' : i < xs.length := by omega
    have hl1 := hlen (i + 1) (by omega)
    simp only [catL, List.length_append] at hl1
    have w1 : IntKind.i64.wrap (((catL ls i).length : Int) + ((ls i).length : Int)) = ((catL ls i).length : Int) + ((ls i).length : Int) := wrap64 (by omega) (by omega)
    simp [e3, e9, e11, hidx i hi', hld i hi', alen_of (hx i hi'), w1]
    refine At.dec (fun h => ?_) (fun h => ?_)
    · omega
    · simp [e11]
      refine hN (i + 1) _ (by omega) ⟨by omega, ?_⟩
      simp [e0, e9, e10, catL, wrap_nat1 (show i < _ by omega)]
  · have : i = xs.length := by omega
    subst this
    have hln := hlen xs.length (Nat.le_refl _)
    simp [e3]
    refine At.hc (p79 _ hln s.hs) ?_ ?_
    · rintro v hs2 ⟨y, hv, ho, hy0, hy1⟩
      injection hv with hv; subst hv
      simp [e0]
      refine At.loop (fun (i : Nat) s => i ≤ xs.length ∧ s.env 25 = .sl 1 xs c ∧ s.env 26 = .int .i64 (xs.length : Int) ∧ s.env 27 = .int .i64 (i : Int) ∧ Own1 s.hs (s.env 6) (catL ls i) ∧ ((catL ls xs.length).length = 0 → s.env 6 = .nilsl)) (fun i => xs.length - i) 0 ?_ ?_
      · simp [catL]; exact ⟨ho, fun h => hy0 (by rw [h]; rfl)⟩
      rintro N2 i s hN2 ⟨hi, e25, e26, e27, ho, hz⟩
      simp [e26, e27]
      refine At.dec (fun hlt => ?_) (fun hlt => ?_)
      · have hi' : i < xs.length := by omega
        have hl1 := hlen (i + 1) (by omega)
        simp only [catL, List.length_append] at hl1
        obtain ⟨y2, hs3, b1, b2, b3⟩ := own_append ho (hx i hi') (by omega)
        simp [e25, e27, hidx i hi', hld i hi', b1]
        refine hN2 (i + 1) _ (by omega) ⟨by omega, ?_⟩
        simp [e25, e26, catL, wrap_nat1 (show i < _ by omega)]
        refine ⟨b2, fun h => b3 (hz (by rw [h]; rfl)) ?_⟩
        have := catL_le ls (i := i + 1) (j := xs.length) (by omega)
        rw [h] at this
        simp only [catL, List.length_append, List.length_nil] at this
        exact List.length_eq_zero_iff.1 (by omega)
      · have : i = xs.length := by omega
        subst this
        simp
        rcases ho with ⟨h1, h2⟩ | ⟨k, h1, h2⟩
        · rw [h1, h2]; rfl
        · have hne : catL ls xs.length ≠ [] := fun h => by
            have := hz (by rw [h]; rfl)
            rw [h1] at this; cases this
          rw [h1, outV_ne (by simpa [ints] using hne)]
          simp
    · rintro v hs2 ⟨y, hv, _⟩
      cases hv
end Go.Proofs.Ytecbbbocjmdfgaa
set_option linter.unusedVariables false
set_option linter.unusedSimpArgs false
namespace Go.Proofs.Ytecbbbocjmdfgaa
open Go Fw

def gvV (R : Rk) : AV := .agg [.int .i64 R.r, .int .i64 R.c, outV 3 (brs R.b)]
theorem plain_brs (l : List Br) : plainL (brs l) = true := by
  induction l with
  | nil => rfl
  | cons a l ih => simp only [brs, List.map_cons, plainL, AV.plain, Bool.true_and, Bool.and_true]; exact ih
theorem plain_outB (l : List Br) : (outV 3 (brs l)).plain = true := by
  cases l with
  | nil => rfl
  | cons a l => rw [outV_ne (by simp)]; simp only [AV.plain]; exact plain_brs _
theorem gvV_plain (R : Rk) : (gvV R).plain = true := by simp only [gvV, AV.plain, plainL, plain_outB, Bool.and_self]
theorem asR_gv {R : Rk} (h : R.b.length < 4294967296) : asR (gvV R) = some R := asR_mk (asB_outV h)
theorem brs_snoc (l : List Br) {i : Nat} (h : i < l.length) : brs (l.take (i + 1)) = brs (l.take i) ++ [.agg [.int .i64 l[i].1, .int .i64 l[i].2.1, .int .i64 l[i].2.2]] := by
  rw [take_snoc h]; exact List.map_append
theorem share_br (b : Br) : (AV.agg [.int .i64 b.1, .int .i64 b.2.1, .int .i64 b.2.2]).share = .agg [.int .i64 b.1, .int .i64 b.2.1, .int .i64 b.2.2] := by simp

theorem p16 {x : AV} {R : Rk} (hx : asR x = some R) (hl : R.b.length ≤ 1000) (hs' : HS) : FCall Try.prog 16 [x] hs' fun e hs2 => ∃ y, e = .ret (.agg [.int .i64 R.r, .int .i64 R.c, y]) ∧ Outs 3 hs2 y (brs R.b) ∧ HsExt hs' hs2 := by
  obtain ⟨v1, v2, v3, v4, v5, v6, v7, v8⟩ := RkV.of hx
  refine FCall.of_body D6ok ok16 (by simp) (At.i ?_)
  generalize hq : hs'.nh = q
  have nq : ¬ q = q + 1 := by omega
  have nq2 : ¬ q + 1 = q := by omega
  simp [A16, R16, v2, v4, v5, hq, afill, si, ci, sa, ca, setL, astore, env_none, nq, nq2]
  refine At.loop (fun (i : Nat) s => i ≤ R.b.length ∧ s.env 1 = .ptr x ∧ s.env 2 = .ref q 0 ∧ s.env 3 = .ref (q + 1) 0 ∧ s.env 4 = .int .i64 (i : Int) ∧ s.hs.heap q = some [.int .i64 0, .int .i64 0, .nilsl] ∧ HsExt hs' s.hs ∧
    ∃ y, s.hs.heap (q + 1) = some [.int .i64 R.r, .int .i64 R.c, y] ∧ Outs 3 s.hs y (brs (R.b.take i))) (fun i => R.b.length - i) 0 ?_ ?_
  · simp [nq, nq2]
    exact ⟨⟨by simp; omega, fun i hi => by simp [show ¬ i = q by omega, show ¬ i = q + 1 by omega]⟩, .nil⟩
  rintro N i s hN ⟨hi, e1, e2, e3, e4, hq0, hext, y, hq1, ho⟩
  simp [e1, e4, v6, v7, blen v8]
  refine At.dec (fun hlt => ?_) (fun hlt => ?_)
  · have hi' : i < R.b.length := by omega
    obtain ⟨y2, hs2, b1, b2, b3⟩ := append_outs ho (q := .sl 3 [.agg [.int .i64 R.b[i].1, .int .i64 R.b[i].2.1, .int .i64 R.b[i].2.2]] .exact) (ys := [.agg [.int .i64 R.b[i].1, .int .i64 R.b[i].2.1, .int .i64 R.b[i].2.2]]) (asV_sl (by simp)) (by simp; omega)
    obtain ⟨c1, c2, c3⟩ := out_cells b2
    rw [List.map_cons, List.map_nil, share_br, ← brs_snoc R.b hi'] at b2
    simp [e1, e3, e4, v6, v7, fa, la, lpa, hq1, apart, bidx v8 hi', astoAll, sa, ca, b1, b3.heap, astore, c1, c2, setL, env_none]
    refine hN (i + 1) _ (by omega) ⟨by omega, ?_⟩
    simp [e1, e2, e3, wrap_nat1 (show i < _ by omega), env_none, nq, hq0]
    have e : brs (R.b.take (i + 1)) = List.take (i + 1) (brs R.b) := List.map_take
    rw [e] at b2
    exact ⟨⟨by simp [b3.nh]; exact hext.nh, fun k hk => by simp [show ¬ k = q + 1 by omega]; exact hext.heap k hk⟩, b2.cong rfl rfl⟩
  · have : i = R.b.length := by omega
    subst this
    rw [List.take_length] at ho
    simp [e2, e3, la, hq1, hq0, apart, astore, sa, ca, setL, env_none, aResult_cs, nq]
    exact At.of ⟨ho.cong rfl rfl, ⟨by simp; exact hext.nh, fun k hk => by simp [show ¬ k = q by omega]; exact hext.heap k hk⟩⟩

def SGmR : List AV → Option AV
  | [x] => (asR x).map gmV
  | _ => none
theorem SGmR_i {x : AV} {R : Rk} (hx : asR x = some R) : SGmR [x] = some (gmV R) := by simp [SGmR, hx]
theorem c20 : ∀ a r, SGmR a = some r → PCall Try.prog 20 a r := by
  intro a r h
  unfold SGmR at h
  split at h <;> (try (cases h; done))
  obtain ⟨R, h1, rfl⟩ := optmap_some h
  exact p20 h1
def D7 : PCtx := D6.add 20 SGmR
theorem D7ok : CtxOk Try.prog D7 := D6ok.add c20
@[simp] theorem D7_20 : D7 20 = SGmR := id rfl
/-- stiff, after the reference -/
def smV (R : Rk) : AV := if chkR R = 0 then .tup [.bool (decide ((gmR R).length = 1)), .int .i64 0] else .tup [.bool false, .int .i64 (chkR R)]
theorem alen_outV {sz : Nat} {l : List AV} : alenK false (outV sz l) = some (.int .i64 l.length) := by
  cases l <;> simp [outV]
theorem p18 {x : AV} {R : Rk} (hx : asR x = some R) : PCall Try.prog 18 [x] (smV R) := by
  obtain ⟨v1, v2, v3, v4, v5, v6, v7, v8⟩ := RkV.of hx
  refine PCall.of D7ok ok18 (by simp) (by unfold smV; split <;> rfl) fun hs' hb => ?_
  by_cases h : chkR R = 0
  · simp [A18, R18, v2, v3, SGmR_i hx, gmV, h, smV, alen_outV]
    norm_cast
  · simp [A18, R18, v2, v3, SGmR_i hx, gmV, h, smV]
end Go.Proofs.Ytecbbbocjmdfgaa
set_option linter.unusedVariables false
set_option linter.unusedSimpArgs false
namespace Go.Proofs.Ytecbbbocjmdfgaa
open Go Fw

theorem p24 {C : PCtx} (hC : CtxOk Try.prog C) {x y : AV} {l m : List Int} (hx : asI x = some l) (hy : asI y = some m) : PCall Try.prog 24 [x, y] (.bool (decide (l = m))) := by
  have hl := asI_len hx
  have hm := asI_len hy
  refine PCall.of hC ok24 (by simp) rfl fun hs hb => ?_
  simp [A24, R24, alen_of hx, alen_of hy]
  refine At.decn (fun h => ?_) (fun h => ?_)
  · have h' : l.length = m.length := by omega
    simp
    refine At.loop (fun (i : Nat) s => i ≤ l.length ∧ s.env 0 = x ∧ s.env 1 = y ∧ s.env 5 = .int .i64 (i : Int) ∧ l.take i = m.take i) (fun i => l.length - i) 0 (by simp) ?_
    rintro N i s hN ⟨hi, e0, e1, e5, he⟩
    simp [e0, e5, alen_of hx]
    refine At.dec (fun hlt => ?_) (fun hlt => ?_)
    · have hi' : i < l.length := by omega
      have hi2 : i < m.length := by omega
      simp [e0, e1, e5, aidx_nat hx hi', aidx_nat hy hi2]
      refine At.decn (fun h2 => ?_) (fun h2 => ?_)
      · simp [e5]
        refine hN (i + 1) _ (by omega) ⟨by omega, ?_⟩
        simp [e0, e1, wrap_nat1 (show i < _ by omega)]
        exact take_eq_succ hi' hi2 he h2
      · have : l ≠ m := ne_of_get hi' hi2 h2
        simp [this]
    · have : i = l.length := by omega
      subst this
      have hlm : l = m := by
        rw [List.take_length, h', List.take_length] at he; exact he
      simp [hlm]
  · have : l ≠ m := fun e => h (by rw [e])
    simp [this]
def SNum : List AV → Option AV
  | [x, y] => match asI x, asI y with
    | some l, some m => some (.bool (decide (l = m)))
    | _, _ => none
  | _ => none
theorem SNum_i {x y : AV} {l m : List Int} (hx : asI x = some l) (hy : asI y = some m) : SNum [x, y] = some (.bool (decide (l = m))) := by simp [SNum, hx, hy]
theorem c24 : ∀ a r, SNum a = some r → PCall Try.prog 24 a r := by
  intro a r h
  unfold SNum at h
  split at h <;> (try (cases h; done))
  split at h <;> (try (cases h; done))
  rename_i l m h1 h2
  injection h with h; subst h
  exact p24 CtxOk.nil h1 h2
def deG : List AV → Option (List Gp)
  | [] => some []
  | .agg [a, b] :: xs => match asI a, asI b, deG xs with
    | some l, some m, some r => some ((l, m) :: r)
    | _, _, _ => none
  | _ => none
def asG (x : AV) : Option (List Gp) := (asV 2 x).bind deG
theorem deG_get : ∀ {xs : List AV} {l : List Gp}, deG xs = some l → xs.length = l.length ∧ ∀ (i : Nat) (h : i < l.length), ∃ a b, xs[i]? = some (.agg [a, b]) ∧ asI a = some l[i].1 ∧ asI b = some l[i].2
  | [], l, h => by simp only [deG] at h; injection h with h; subst h; exact ⟨rfl, fun i h => by simp at h⟩
  | x :: xs, l, h => by
    unfold deG at h
    split at h <;> (try (cases h; done))
    · rename_i e; cases e
    · rename_i a b ys e
      injection e with e1 e2
      subst e1; subst e2
      split at h <;> (try (cases h; done))
      rename_i l1 m1 r h1 h2 h3
      injection h with h; subst h
      obtain ⟨h4, h5⟩ := deG_get h3
      refine ⟨by simp [h4], fun i hi => ?_⟩
      cases i with
      | zero => exact ⟨a, b, rfl, h1, h2⟩
      | succ i =>
        obtain ⟨a', b', g1, g2, g3⟩ := h5 i (by simpa using hi)
        exact ⟨a', b', by simpa using g1, by simpa using g2, by simpa using g3⟩
theorem deG_grs : ∀ {l : List Gp}, (∀ g ∈ l, g.1.length < 4294967296 ∧ g.2.length < 4294967296) → deG (grs l) = some l
  | [], _ => rfl
  | (a, b) :: l, h => by
    have h0 := h (a, b) (by simp)
    have := deG_grs (l := l) fun g hg => h g (by simp [hg])
    simp only [grs, List.map_cons, deG, asI_outV h0.1, asI_outV h0.2] at this ⊢
    rw [this]
theorem asG_out {l : List Gp} (h : ∀ g ∈ l, g.1.length < 4294967296 ∧ g.2.length < 4294967296) (hl : l.length < 4294967296) : asG (outV 2 (grs l)) = some l := by
  cases l with
  | nil => rfl
  | cons a r =>
    rw [outV_ne (by simp), asG, asV_sl (by simpa using hl), Option.bind_some]
    exact deG_grs h
theorem glen {x : AV} {l : List Gp} (h : asG x = some l) : alenK false x = some (.int .i64 l.length) ∧ l.length < 4294967296 := by
  obtain ⟨xs, h1, h2⟩ := Option.bind_eq_some_iff.1 h
  obtain ⟨h3, h4⟩ := asV_inv h1
  have h5 := (deG_get h2).1
  rw [← h5]
  refine ⟨?_, h4⟩
  rcases h3 with ⟨rfl, rfl⟩ | ⟨c, rfl⟩ <;> simp
theorem gidx {x : AV} {l : List Gp} (h : asG x = some l) {k : IntKind} {i : Nat} (hi : i < l.length) : ∃ a b, aidxS 2 x (.int k (i : Int)) = some (.ptr (.agg [a, b])) ∧ asI a = some l[i].1 ∧ asI b = some l[i].2 := by
  obtain ⟨xs, h1, h2⟩ := Option.bind_eq_some_iff.1 h
  obtain ⟨h5, h6⟩ := deG_get h2
  obtain ⟨a, b, g1, g2, g3⟩ := h6 i hi
  refine ⟨a, b, ?_, g2, g3⟩
  rcases (asV_inv h1).1 with ⟨rfl, rfl⟩ | ⟨c, rfl⟩
  · simp at g1
  · simp [aidxS, g1]
def D8 : PCtx := D7.add 24 SNum
theorem D8ok : CtxOk Try.prog D8 := D7ok.add c24
@[simp] theorem D8_24 : D8 24 = SNum := id rfl
theorem p23 {x y : AV} {l m : List Gp} (hx : asG x = some l) (hy : asG y = some m) : PCall Try.prog 23 [x, y] (.bool (decide (l = m))) := by
  obtain ⟨gx, hl⟩ := glen hx
  obtain ⟨gy, hm⟩ := glen hy
  refine PCall.of D8ok ok23 (by simp) rfl fun hs hb => ?_
  simp [A23, R23, gx, gy]
  refine At.decn (fun h => ?_) (fun h => ?_)
  · have h' : l.length = m.length := by omega
    simp
    refine At.loop (fun (i : Nat) s => i ≤ l.length ∧ s.env 0 = x ∧ s.env 1 = y ∧ s.env 5 = .int .i64 (i : Int) ∧ l.take i = m.take i) (fun i => l.length - i) 0 (by simp) ?_
    rintro N i s hN ⟨hi, e0, e1, e5, he⟩
    simp [e0, e5, gx]
    refine At.dec (fun hlt => ?_) (fun hlt => ?_)
    · have hi' : i < l.length := by omega
      have hi2 : i < m.length := by omega
      obtain ⟨a, b, f1, f2, f3⟩ := gidx hx (k := .i64) hi'
      obtain ⟨c, d, g1, g2, g3⟩ := gidx hy (k := .i64) hi2
      have lI : ∀ {z : AV} {k : List Int} (h : asI z = some k) hp, aload hp false 1 (.ptr z) = some z := fun h hp => by
        rcases asI_inv h with ⟨rfl, _⟩ | ⟨c, rfl⟩ <;> rfl
      have fp0 : ∀ a b : AV, afaddr false 1 0 (.ptr (.agg [a, b])) = some (.ptr a) := fun _ _ => rfl
      have fp1 : ∀ a b : AV, afaddr false 1 1 (.ptr (.agg [a, b])) = some (.ptr b) := fun _ _ => rfl
      by_cases h1 : l[i].1 = m[i].1
      · by_cases h2 : l[i].2 = m[i].2
        · simp [e0, e1, e5, f1, g1, fp0, fp1, lI f2, lI f3, lI g2, lI g3, SNum_i f2 g2, SNum_i f3 g3, h1, h2]
          refine hN (i + 1) _ (by omega) ⟨by omega, ?_⟩
          simp [e0, e1, wrap_nat1 (show i < _ by omega)]
          exact take_eq_succ hi' hi2 he (Prod.ext h1 h2)
        · have : l ≠ m := ne_of_get hi' hi2 fun e => h2 (by rw [e])
          simp [e0, e1, e5, f1, g1, fp0, fp1, lI f2, lI f3, lI g2, lI g3, SNum_i f2 g2, SNum_i f3 g3, h1, h2, this]
      · have : l ≠ m := ne_of_get hi' hi2 fun e => h1 (by rw [e])
        simp [e0, e1, e5, f1, g1, fp0, fp1, lI f2, lI f3, lI g2, lI g3, SNum_i f2 g2, SNum_i f3 g3, h1, this]
    · have : i = l.length := by omega
      subst this
      have hlm : l = m := by
        rw [List.take_length, h', List.take_length] at he; exact he
      simp [hlm]
  · have : l ≠ m := fun e => h (by rw [e])
    simp [this]
end Go.Proofs.Ytecbbbocjmdfgaa
set_option linter.unusedVariables false
set_option linter.unusedSimpArgs false
namespace Go.Proofs.Ytecbbbocjmdfgaa
open Go Fw

/-- a fresh copy of two lists, one behind the other -/
def cpV (l : List AV) : AV := if l = [] then .sl 3 [] .exact else .sl 3 l .shared
theorem copy2 {hs : HS} {p q : AV} {xs ys : List AV} (hp : asV 3 p = some xs) (hq : asV 3 q = some ys) (hl : xs.length + ys.length ≤ 1000000000) (hx : ∀ x ∈ xs, x.share = x) (hy : ∀ x ∈ ys, x.share = x) :
    ∃ y1 hs1 y2 hs2, aappend 3 hs (.sl 3 [] .exact) p = some (y1, hs1) ∧ aappend 3 hs1 y1 q = some (y2, hs2) ∧ y2.share = cpV (xs ++ ys) ∧ y2.cells = [y2] ∧ y2.sto = true ∧ hs2.heap = hs.heap ∧ hs2.nh = hs.nh := by
  have mapid : ∀ {l : List AV}, (∀ x ∈ l, x.share = x) → l.map AV.share = l := fun {l} h => by
    have : l.map AV.share = l.map id := List.map_congr_left h
    rw [this, List.map_id]
  obtain ⟨e1, e2⟩ := elems_of hp
  obtain ⟨e3, e4⟩ := elems_of hq
  have first : ∀ hs : HS, ∀ {q : AV} {ys : List AV}, asV 3 q = some ys → ys.length ≤ 1000000000 → ys ≠ [] → ∃ hs1, aappend 3 hs (.sl 3 [] .exact) q = some (.sl 3 ys (.own hs.nt), hs1) ∧ hs1.tok hs.nt = true ∧ hs1.nt = hs.nt + 1 ∧ hs1.heap = hs.heap ∧ hs1.nh = hs.nh := by
    intro hs q ys hq hl hne
    obtain ⟨hs1, a1, a2, a3, a4, a5⟩ := append_exact (hs := hs) (xs := []) hq (by simp; omega) hne
    exact ⟨hs1, a1, a2, a5, a3.heap, a3.nh⟩
  have none : ∀ hs : HS, ∀ (p : AV) (xs : List AV), aelems p = some xs → aszOk 3 p = true → xs.length ≤ 1000000000 → ∀ {q : AV}, asV 3 q = some [] → aappend 3 hs p q = some (p, hs) := by
    intro hs p xs h1 h2 h3 q hq
    obtain ⟨e1, e2⟩ := elems_of hq
    rw [append_eq h1 e1 h2 e2 (by simp; omega), if_pos rfl]
  by_cases hxs : xs = []
  · subst hxs
    have n1 := none hs (.sl 3 [] .exact) [] rfl (by simp [aszOk]) (by simp) hp
    by_cases hys : ys = []
    · subst hys
      exact ⟨_, _, _, _, n1, none hs (.sl 3 [] .exact) [] rfl (by simp [aszOk]) (by simp) hq, by simp [cpV], rfl, rfl, rfl, rfl⟩
    · obtain ⟨hs1, a1, a2, a3, a4, a5⟩ := first hs hq (by omega) hys
      exact ⟨_, _, _, _, n1, a1, by simp [cpV, hys, mapid hy], rfl, rfl, a4, a5⟩
  · obtain ⟨hs1, a1, a2, a3, a4, a5⟩ := first hs hp (by omega) hxs
    by_cases hys : ys = []
    · subst hys
      exact ⟨_, _, _, _, a1, none hs1 _ xs rfl (by simp [aszOk]) (by omega) hq, by simp [cpV, hxs, mapid hx], rfl, rfl, a4, a5⟩
    · have hap : aappend 3 hs1 (.sl 3 xs (.own hs.nt)) q = some (.sl 3 (xs ++ ys) (.own hs1.nt), { hs1 with nt := hs1.nt + 1, tok := fun t => if t = hs1.nt then true else if t = hs.nt then false else hs1.tok t }) := by
        rw [append_eq (p := .sl 3 xs (.own hs.nt)) (xs := xs) rfl e3 (by simp [aszOk]) e4 (by omega), if_neg hys]
        simp only [appP, a2, if_true]
      exact ⟨_, _, _, _, a1, hap, by simp [cpV, hxs, mapid hx, mapid hy], rfl, rfl, a4, a5⟩
theorem brs_sh (l : List Br) : ∀ x ∈ brs l, x.share = x := by
  intro x hx
  obtain ⟨b, _, rfl⟩ := List.mem_map.1 hx
  exact share_br b
/-- the braces but one -/
def wo (l : List Br) (i : Nat) : List Br := l.take i ++ l.drop (i + 1)
def woV (R : Rk) (i : Nat) : AV := .agg [.int .i64 R.r, .int .i64 R.c, cpV (brs (wo R.b i))]
theorem asB_cp {l : List Br} (h : l.length < 4294967296) : asB (cpV (brs l)) = some l := by
  unfold cpV
  split
  · rename_i e
    have : l = [] := List.map_eq_nil_iff.1 e
    subst this; exact asB_sl (l := []) (by simp)
  · exact asB_sl h
theorem asR_wo {R : Rk} {i : Nat} (h : R.b.length < 4294967296) : asR (woV R i) = some ⟨R.r, R.c, wo R.b i⟩ := asR_mk (asB_cp (by simp [wo]; omega))
theorem plain_cp (l : List Br) : (cpV (brs l)).plain = true := by
  unfold cpV
  split
  · rfl
  · simp only [AV.plain]; exact plain_brs l
theorem p59 {x : AV} {R : Rk} (hx : asR x = some R) {i : Nat} (hi : i < R.b.length) (hl : R.b.length ≤ 1000) : PCall Try.prog 59 [x, .int .i64 (i : Int)] (woV R i) := by
  obtain ⟨v1, v2, v3, v4, v5, v6, v7, v8⟩ := RkV.of hx
  have hV := (asB_inv v8).1
  refine PCall.of D8ok ok59 (by simp) (by simp only [woV, AV.plain, plainL, plain_cp, Bool.and_self]) fun hs' hb => ?_
  have t1 := slice_take hV (n := i) (k := .i64) (by simp; omega)
  have t2 := slice_drop hV (n := i + 1) (k := .i64) (by simp; omega)
  rw [show ((i + 1 : Nat) : Int) = (i : Int) + 1 by omega] at t2
  have w1 : IntKind.i64.wrap ((i : Int) + 1) = (i : Int) + 1 := wrap64 (by omega) (by omega)
  have eT : (brs R.b).take i = brs (R.b.take i) := List.map_take.symm
  have eD : (brs R.b).drop (i + 1) = brs (R.b.drop (i + 1)) := List.map_drop.symm
  obtain ⟨y1, hs1, y2, hs2, a1, a2, a3, a4, a5, a6, a7⟩ := copy2 (hs := { hs' with heap := fun k => if k = hs'.nh then some [.int .i64 0, .int .i64 0, .nilsl] else hs'.heap k, nh := hs'.nh + 1 }) (asV_take hV i) (asV_drop hV (i + 1)) (by simp; omega) (by rw [eT]; exact brs_sh _) (by rw [eD]; exact brs_sh _)
  simp only at a6 a7
  simp [A59, R59, v2, v4, v5, v6, v7, astoAll, t1, t2, w1, a1, a2, afill, si, ci, a4, a5, setL, astore, a6, sa, ca, env_none, aResult_cs, la, apart]
  rw [a3, woV, wo, eT, eD, ← List.map_append]
def SWo : List AV → Option AV
  | [x, .int .i64 i] => (asR x).bind fun R => if 0 ≤ i ∧ i < R.b.length ∧ R.b.length ≤ 1000 then some (woV R i.toNat) else none
  | _ => none
theorem c59 : ∀ a r, SWo a = some r → PCall Try.prog 59 a r := by
  intro a r h
  unfold SWo at h
  split at h <;> (try (cases h; done))
  rename_i x i
  obtain ⟨R, h1, h⟩ := Option.bind_eq_some_iff.1 h
  split at h <;> (try (cases h; done))
  rename_i hi
  injection h with h; subst h
  have := p59 h1 (i := i.toNat) (by omega) hi.2.2
  rw [Int.toNat_of_nonneg hi.1] at this
  exact this
theorem SWo_i {x : AV} {R : Rk} (hx : asR x = some R) {i : Nat} (hi : i < R.b.length) (hl : R.b.length ≤ 1000) : SWo [x, .int .i64 (i : Int)] = some (woV R i) := by
  simp only [SWo, hx, Option.bind_some, Int.toNat_natCast]
  rw [if_pos (by omega)]
def SSm : List AV → Option AV
  | [x] => (asR x).map smV
  | _ => none
theorem SSm_i {x : AV} {R : Rk} (hx : asR x = some R) : SSm [x] = some (smV R) := by simp [SSm, hx]
theorem c18 : ∀ a r, SSm a = some r → PCall Try.prog 18 a r := by
  intro a r h
  unfold SSm at h
  split at h <;> (try (cases h; done))
  obtain ⟨R, h1, rfl⟩ := optmap_some h
  exact p18 h1
def SSt : List AV → Option AV
  | [x] => (asR x).map stV
  | _ => none
theorem SSt_i {x : AV} {R : Rk} (hx : asR x = some R) : SSt [x] = some (stV R) := by simp [SSt, hx]
theorem cs17 : ∀ a r, SSt a = some r → PCall Try.prog 17 a r := by
  intro a r h
  unfold SSt at h
  split at h <;> (try (cases h; done))
  obtain ⟨R, h1, rfl⟩ := optmap_some h
  exact p17 h1
def D9 : PCtx := ((D8.add 59 SWo).add 18 SSm).add 17 SSt
theorem D9ok : CtxOk Try.prog D9 := ((D8ok.add c59).add c18).add cs17
@[simp] theorem D9_59 : D9 59 = SWo := id rfl
@[simp] theorem D9_18 : D9 18 = SSm := id rfl
@[simp] theorem D9_17 : D9 17 = SSt := id rfl
@[simp] theorem D9_54 : D9 54 = SFrame := id rfl
@[simp] theorem D9_55 : D9 55 = SStf := id rfl
theorem OkR.wo {R : Rk} (h : OkR R) (i : Nat) : OkR ⟨R.r, R.c, Ytecbbbocjmdfgaa.wo R.b i⟩ :=
  ⟨h.r1, h.r6, h.c1, h.c6, fun b hb => h.b b (by
    rcases List.mem_append.1 hb with hb | hb
    · exact List.mem_of_mem_take hb
    · exact List.mem_of_mem_drop hb)⟩
def stM (R : Rk) : Bool := decide ((gmR R).length = 1)
/-- the places where something holds, among the first -/
def ndK (f : Nat → Bool) : Nat → List Int
  | 0 => []
  | i + 1 => if f i = true then ndK f i ++ [(i : Int)] else ndK f i
theorem ndK_len {f : Nat → Bool} : ∀ i, (ndK f i).length ≤ i
  | 0 => by simp [ndK]
  | i + 1 => by
    have := ndK_len (f := f) i
    simp only [ndK]
    split
    · simp; omega
    · omega
def nmV (R : Rk) : AV := if chkR R = 0 then (if stM R = true then .tup [outV 1 (ints (ndK (fun i => !stM ⟨R.r, R.c, wo R.b i⟩) R.b.length)), .int .i64 0] else .tup [.nilsl, .int .i64 22]) else .tup [.nilsl, .int .i64 (chkR R)]
def ndV (R : Rk) : AV := if chkR R = 0 then (if stR R = true then .tup [outV 1 (ints (ndK (fun i => !stiffS (frF R (i : Int))) R.b.length)), .int .i64 0] else .tup [.nilsl, .int .i64 22]) else .tup [.nilsl, .int .i64 (chkR R)]
theorem nmV_plain (R : Rk) : (nmV R).plain = true := by
  unfold nmV
  split
  · split
    · simp only [AV.plain, plainL, plain_outI, Bool.and_self]
    · rfl
  · rfl
theorem ndV_plain (R : Rk) : (ndV R).plain = true := by
  unfold ndV
  split
  · split
    · simp only [AV.plain, plainL, plain_outI, Bool.and_self]
    · rfl
  · rfl
theorem p22 {x : AV} {R : Rk} (hx : asR x = some R) : PCall Try.prog 22 [x] (nmV R) := by
  obtain ⟨v1, v2, v3, v4, v5, v6, v7, v8⟩ := RkV.of hx
  refine PCall.of D9ok ok22 (by simp) (nmV_plain R) fun hs' hb => ?_
  by_cases h : chkR R = 0
  rotate_left
  · simp [A22, R22, v2, v3, SSm_i hx, smV, h, nmV]
  obtain ⟨hok, hl⟩ := chkR_zero.1 h
  cases hst : stM R with
  | false =>
    have hst' : decide ((gmR R).length = 1) = false := hst
    simp [A22, R22, v2, v3, SSm_i hx, smV, h, nmV, hst', hst]
  | true =>
  have hst' : decide ((gmR R).length = 1) = true := hst
  have hres : nmV R = .tup [outV 1 (ints (ndK (fun i => !stM ⟨R.r, R.c, wo R.b i⟩) R.b.length)), .int .i64 0] := by rw [nmV, if_pos h, if_pos hst]
  rw [hres]
  simp [A22, R22, v2, v3, SSm_i hx, smV, h, hst']
  refine At.loop (fun (i : Nat) s => i ≤ R.b.length ∧ s.env 1 = .ptr x ∧ s.env 7 = .int .i64 (i : Int) ∧ Outs 1 s.hs (s.env 6) (ints (ndK (fun i => !stM ⟨R.r, R.c, wo R.b i⟩) i))) (fun i => R.b.length - i) 0 ?_ ?_
  · simp
    exact .nil
  rintro N i s hN ⟨hi, e1, e7, ho⟩
  simp [e1, e7, v6, v7, blen v8]
  refine At.dec (fun hlt => ?_) (fun hlt => ?_)
  · have hi' : i < R.b.length := by omega
    have hw := asR_wo (R := R) (i := i) (by omega)
    have hcw : chkR ⟨R.r, R.c, wo R.b i⟩ = 0 := chkR_zero.2 ⟨hok.wo i, by simp [wo]; omega⟩
    have hsm : SSm [woV R i] = some (.tup [.bool (stM ⟨R.r, R.c, wo R.b i⟩), .int .i64 0]) := by rw [SSm_i hw, smV, if_pos hcw, stM]
    cases hs1 : stM ⟨R.r, R.c, wo R.b i⟩ with
    | true =>
      simp [e1, e7, v3, SWo_i hx hi' (by omega), hsm, hs1]
      refine hN (i + 1) _ (by omega) ⟨by omega, ?_⟩
      simp [e1, wrap_nat1 (show i < _ by omega), ndK, hs1]
      exact ho
    | false =>
      obtain ⟨y, hs2, b1, b2, b3⟩ := ho.add1 (by have := ndK_len (f := fun i => !stM ⟨R.r, R.c, wo R.b i⟩) i; omega) (i : Int)
      simp [e1, e7, v3, SWo_i hx hi' (by omega), hsm, hs1, astoAll, si, ci, b1]
      refine hN (i + 1) _ (by omega) ⟨by omega, ?_⟩
      simp [e1, wrap_nat1 (show i < _ by omega), ndK, hs1]
      simpa [ints] using b2
  · have : i = R.b.length := by omega
    subst this
    simp [ho.sh]
theorem p21 {x : AV} {R : Rk} (hx : asR x = some R) : PCall Try.prog 21 [x] (ndV R) := by
  obtain ⟨v1, v2, v3, v4, v5, v6, v7, v8⟩ := RkV.of hx
  refine PCall.of D9ok ok21 (by simp) (ndV_plain R) fun hs' hb => ?_
  by_cases h : chkR R = 0
  rotate_left
  · simp [A21, R21, v2, v3, SSt_i hx, stV, h, ndV]
  obtain ⟨hok, hl⟩ := chkR_zero.1 h
  cases hst : stR R with
  | false => simp [A21, R21, v2, v3, SSt_i hx, stV, h, ndV, hst]
  | true =>
  have hres : ndV R = .tup [outV 1 (ints (ndK (fun i => !stiffS (frF R (i : Int))) R.b.length)), .int .i64 0] := by rw [ndV, if_pos h, if_pos hst]
  rw [hres]
  simp [A21, R21, v2, v3, SSt_i hx, stV, h, hst, v6, v7, blen v8]
  refine At.loop (fun (i : Nat) s => i ≤ R.b.length ∧ s.env 1 = .ptr x ∧ s.env 22 = .int .i64 (R.b.length : Int) ∧ s.env 23 = .int .i64 (i : Int) ∧ Outs 1 s.hs (s.env 6) (ints (ndK (fun i => !stiffS (frF R (i : Int))) i))) (fun i => R.b.length - i) 0 ?_ ?_
  · simp
    exact .nil
  rintro N i s hN ⟨hi, e1, e22, e23, ho⟩
  simp [e22, e23]
  refine At.dec (fun hlt => ?_) (fun hlt => ?_)
  · have hi' : i < R.b.length := by omega
    cases hs1 : stiffS (frF R (i : Int)) with
    | true =>
      simp [e1, e23, v3, SFrame_i hx hok, SStf_i hok, hs1]
      refine hN (i + 1) _ (by omega) ⟨by omega, ?_⟩
      simp [e1, e22, wrap_nat1 (show i < _ by omega), ndK, hs1]
      exact ho
    | false =>
      obtain ⟨y, hs2, b1, b2, b3⟩ := ho.add1 (by have := ndK_len (f := fun i => !stiffS (frF R (i : Int))) i; omega) (i : Int)
      simp [e1, e23, v3, SFrame_i hx hok, SStf_i hok, hs1, astoAll, si, ci, b1]
      refine hN (i + 1) _ (by omega) ⟨by omega, ?_⟩
      simp [e1, e22, wrap_nat1 (show i < _ by omega), ndK, hs1]
      simpa [ints] using b2
  · have : i = R.b.length := by omega
    subst this
    simp [ho.sh]
end Go.Proofs.Ytecbbbocjmdfgaa
set_option linter.unusedVariables false
set_option linter.unusedSimpArgs false
namespace Go.Proofs.Ytecbbbocjmdfgaa
open Go Fw

/-! the matrix -/
theorem fwB_eq (M : Mx) (k a : Nat) : ∀ (b i j : Nat), fwB M k a b i j = if i = a ∧ j < b then (M a j || (M a k && M k j)) else M i j
  | 0, i, j => by simp [fwB]
  | b + 1, i, j => by
    have ih := fwB_eq M k a b
    simp only [fwB, upd]
    have e1 : fwB M k a b a b = M a b := by rw [ih]; simp
    have e2 : fwB M k a b a k = M a k := by
      rw [ih]
      split
      · cases M a k <;> simp
      · rfl
    have e3 : fwB M k a b k b = M k b := by rw [ih]; simp
    rw [e1, e2, e3, ih]
    by_cases hi : i = a
    · subst hi
      by_cases hj : j = b
      · subst hj; simp
      · have : (j < b + 1) = (j < b) := by simp; omega
        simp [hj, this]
    · simp [hi]
theorem fwA_eq (n : Nat) (M : Mx) (k : Nat) : ∀ (a i j : Nat), fwA n M k a i j = if i < a ∧ j < n then (M i j || (M i k && M k j)) else M i j
  | 0, i, j => by simp [fwA]
  | a + 1, i, j => by
    have ih := fwA_eq n M k a
    simp only [fwA]
    rw [fwB_eq]
    have e1 : ∀ j, fwA n M k a a j = M a j := fun j => by rw [ih]; simp
    have e2 : ∀ j, fwA n M k a k j = M k j := fun j => by
      rw [ih]
      split
      · cases M k j <;> simp
      · rfl
    rw [e1, e1, e2, ih]
    by_cases hi : i = a
    · subst hi; simp
    · have : (i < a + 1) = (i < a) := by simp; omega
      simp [hi, this]
theorem fw_step (n : Nat) (M : Mx) {k i j : Nat} (hi : i < n) (hj : j < n) : fwA n M k n i j = (M i j || (M i k && M k j)) := by
  rw [fwA_eq]; simp [hi, hj]
theorem fw_out (n : Nat) (M : Mx) {k i j : Nat} (h : ¬ (i < n ∧ j < n)) : fwA n M k n i j = M i j := by
  rw [fwA_eq, if_neg h]
theorem fw_le (n : Nat) (M : Mx) : ∀ k i j, M i j = true → fwK n M k i j = true
  | 0, i, j, h => h
  | k + 1, i, j, h => by
    have ih := fw_le n M k i j h
    simp only [fwK]
    by_cases hc : i < n ∧ j < n
    · rw [fw_step n _ hc.1 hc.2, ih]; rfl
    · rw [fw_out n _ hc]; exact ih
theorem fw_sound (n : Nat) (M : Mx) {Q : Nat → Nat → Prop} (ht : ∀ a b c, Q a b → Q b c → Q a c) (h0 : ∀ a b, M a b = true → Q a b) : ∀ k i j, fwK n M k i j = true → Q i j
  | 0, i, j, h => h0 i j h
  | k + 1, i, j, h => by
    have ih := fw_sound n M ht h0 k
    simp only [fwK] at h
    by_cases hc : i < n ∧ j < n
    · rw [fw_step n _ hc.1 hc.2] at h
      simp only [Bool.or_eq_true, Bool.and_eq_true] at h
      rcases h with h | ⟨h1, h2⟩
      · exact ih i j h
      · exact ht i k j (ih i k h1) (ih k j h2)
    · rw [fw_out n _ hc] at h; exact ih i j h
theorem fw_trans (n : Nat) (M : Mx) : ∀ k, k ≤ n → ∀ m, m < k → ∀ a b, a < n → b < n → fwK n M k a m = true → fwK n M k m b = true → fwK n M k a b = true
  | 0, _, m, hm, _, _, _, _, _, _ => by omega
  | k + 1, hk, m, hm, a, b, ha, hb, h1, h2 => by
    have ih := fw_trans n M k (by omega)
    have hmn : m < n := by omega
    simp only [fwK] at h1 h2 ⊢
    rw [fw_step n _ ha hmn] at h1
    rw [fw_step n _ hmn hb] at h2
    rw [fw_step n _ ha hb]
    simp only [Bool.or_eq_true, Bool.and_eq_true] at h1 h2 ⊢
    have hkn : k < n := by omega
    rcases Nat.lt_or_ge m k with hmk | hmk
    · rcases h1 with h1 | ⟨h1, h1'⟩ <;> rcases h2 with h2 | ⟨h2, h2'⟩
      · exact .inl (ih m hmk a b ha hb h1 h2)
      · exact .inr ⟨ih m hmk a k ha hkn h1 h2, h2'⟩
      · exact .inr ⟨h1, ih m hmk k b hkn hb h1' h2⟩
      · exact .inr ⟨h1, h2'⟩
    · have : m = k := by omega
      subst this
      rcases h1 with h1 | ⟨h1, h1'⟩ <;> rcases h2 with h2 | ⟨h2, h2'⟩
      · exact .inr ⟨h1, h2⟩
      · exact .inr ⟨h1, h2'⟩
      · exact .inr ⟨h1, h2⟩
      · exact .inr ⟨h1, h2'⟩

/-! arrows -/
/-- an arrow of a brace -/
def edge (r : Nat) (b : Br) (x y : Nat) : Prop := (b.2.2 ≠ 2 ∧ x = b.1.toNat ∧ y = r + b.2.1.toNat) ∨ (b.2.2 ≠ 1 ∧ x = r + b.2.1.toNat ∧ y = b.1.toNat)
theorem mxB_spec (r : Nat) (b : Br) (M : Mx) (x y : Nat) : mxB r b M x y = true ↔ M x y = true ∨ edge r b x y := by
  unfold mxB edge
  generalize b.1.toNat = p
  generalize r + b.2.1.toNat = q
  generalize b.2.2 = t
  have hu : ∀ (M : Mx) (a b : Nat), upd M a b true x y = true ↔ M x y = true ∨ (x = a ∧ y = b) := by
    intro M a b
    unfold upd
    by_cases h : x = a ∧ y = b
    · rw [if_pos h]; simp [h]
    · rw [if_neg h]; simp [h]
  by_cases h2 : t = 2
  · subst h2
    simp [hu]
  · by_cases h1 : t = 1
    · subst h1
      simp [hu]
    · simp [h1, h2, hu]
      constructor
      · rintro ((h | h) | h)
        · exact .inl h
        · exact .inr (.inl h)
        · exact .inr (.inr h)
      · rintro (h | h | h)
        · exact .inl (.inl h)
        · exact .inl (.inr h)
        · exact .inr h
theorem mxS_spec (r : Nat) (bs : List Br) : ∀ (i : Nat), i ≤ bs.length → ∀ x y, mxS r bs i x y = true ↔ x = y ∨ ∃ (j : Nat) (h : j < bs.length), j < i ∧ edge r bs[j] x y
  | 0, _, x, y => by simp [mxS]
  | i + 1, hi, x, y => by
    have hgd : bs.getD i (0, 0, 0) = bs[i] := by simp [List.getD, show i < bs.length by omega]
    simp only [mxS, hgd, mxB_spec, mxS_spec r bs i (by omega)]
    constructor
    · rintro ((h | ⟨j, hj, h1, h2⟩) | h)
      · exact .inl h
      · exact .inr ⟨j, hj, by omega, h2⟩
      · exact .inr ⟨i, by omega, by omega, h⟩
    · rintro (h | ⟨j, hj, h1, h2⟩)
      · exact .inl (.inl h)
      · rcases Nat.lt_or_ge j i with h' | h'
        · exact .inl (.inr ⟨j, hj, h', h2⟩)
        · have : j = i := by omega
          subst this; exact .inr h2
end Go.Proofs.Ytecbbbocjmdfgaa
set_option linter.unusedVariables false
set_option linter.unusedSimpArgs false
namespace Go.Proofs.Ytecbbbocjmdfgaa
open Go Fw

theorem or_bit {a b x : Nat} : (a ||| b).testBit x = true ↔ a.testBit x = true ∨ b.testBit x = true := by
  rw [Nat.testBit_or, Bool.or_eq_true]
theorem pow_bit {i x : Nat} : (2 ^ i).testBit x = true ↔ i = x := by
  rw [Nat.testBit_two_pow]; simp
theorem inS_mono {arr : List Nat} {o : Nat} : ∀ k x, o.testBit x = true → (inS arr k o).testBit x = true
  | 0, x, h => h
  | k + 1, x, h => by
    have := inS_mono (arr := arr) k x h
    simp only [inS]
    split
    · exact or_bit.2 (.inl this)
    · exact this
theorem inS_step {arr : List Nat} {o : Nat} {k m : Nat} (h : k ≤ m) : ∀ x, (inS arr k o).testBit x = true → (inS arr m o).testBit x = true := by
  induction m with
  | zero => intro x hx; have : k = 0 := by omega
            subst this; exact hx
  | succ m ih =>
    intro x hx
    rcases Nat.lt_or_ge k (m + 1) with h' | h'
    · have := ih (by omega) x hx
      simp only [inS]
      split
      · exact or_bit.2 (.inl this)
      · exact this
    · have : k = m + 1 := by omega
      subst this; exact hx
theorem inS_sound {arr : List Nat} {P : Nat → Prop} (hP : ∀ a, P a → ∀ b, (gt arr a).testBit b = true → P b) {o : Nat} (ho : ∀ x, o.testBit x = true → P x) : ∀ k x, (inS arr k o).testBit x = true → P x
  | 0, x, h => ho x h
  | k + 1, x, h => by
    have ih := inS_sound hP ho k
    simp only [inS] at h
    split at h
    · rename_i hk
      rcases or_bit.1 h with h | h
      · exact ih x h
      · exact hP k (ih k hk) x h
    · exact ih x h
theorem itS_sound {arr : List Nat} {P : Nat → Prop} (hP : ∀ a, P a → ∀ b, (gt arr a).testBit b = true → P b) {o : Nat} (ho : ∀ x, o.testBit x = true → P x) : ∀ m x, (itS arr m o).testBit x = true → P x
  | 0 => ho
  | m + 1 => inS_sound hP (itS_sound hP ho m) _
theorem stable_closed {arr : List Nat} {o : Nat} (h : inS arr arr.length o = o) {a : Nat} (ha : a < arr.length) (hb : o.testBit a = true) : ∀ b, (gt arr a).testBit b = true → o.testBit b = true := by
  intro b hx
  rw [← h]
  refine inS_step (k := a + 1) (by omega) b ?_
  simp only [inS]
  rw [if_pos (inS_mono a a hb)]
  exact or_bit.2 (.inr hx)
/-- how many of the first n are in a set -/
def card (n o : Nat) : Nat := (List.range n).countP fun x => o.testBit x
theorem card_le (n o : Nat) : card n o ≤ n := by
  have := List.countP_le_length (p := fun x => o.testBit x) (l := List.range n)
  simpa [card] using this
theorem card_mono {n o o' : Nat} (h : ∀ x, o.testBit x = true → o'.testBit x = true) : card n o ≤ card n o' :=
  List.countP_mono_left fun x _ hx => h x hx
theorem card_lt {o o' : Nat} (h : ∀ x, o.testBit x = true → o'.testBit x = true) {x : Nat} (h1 : o.testBit x = false) (h2 : o'.testBit x = true) : ∀ {n : Nat}, x < n → card n o < card n o'
  | 0, hn => by omega
  | n + 1, hn => by
    have e : ∀ o, card (n + 1) o = card n o + (if o.testBit n = true then 1 else 0) := fun o => by
      simp only [card, List.range_succ, List.countP_append, List.countP_cons, List.countP_nil, Nat.zero_add]
    rw [e, e]
    rcases Nat.lt_or_ge x n with hx | hx
    · have ih := card_lt h h1 h2 hx
      have : (if o.testBit n = true then 1 else 0) ≤ (if o'.testBit n = true then 1 else 0) := by
        by_cases hb : o.testBit n = true
        · rw [if_pos hb, if_pos (h n hb)]; exact Nat.le_refl _
        · rw [if_neg hb]; exact Nat.zero_le _
      omega
    · have : x = n := by omega
      subst this
      have := card_mono (n := x) h
      rw [h1, h2]
      simp
      omega
theorem itS_stable {arr : List Nat} {i : Nat} (hi : i < arr.length) (hb : ∀ a, a < arr.length → ∀ b, (gt arr a).testBit b = true → b < arr.length) : ∀ m, inS arr arr.length (itS arr m (2 ^ i)) = itS arr m (2 ^ i) ∨ m + 1 ≤ card arr.length (itS arr m (2 ^ i))
  | 0 => by
    right
    have := card_lt (o := 0) (o' := 2 ^ i) (fun x hx => by simp at hx) (x := i) (by simp) (by simp [pow_bit]) hi
    simp only [itS]
    omega
  | m + 1 => by
    simp only [itS]
    rcases itS_stable hi hb m with h | h
    · left; rw [h, h]
    · by_cases hs : inS arr arr.length (itS arr m (2 ^ i)) = itS arr m (2 ^ i)
      · left; rw [hs, hs]
      · right
        have hmono := inS_mono (arr := arr) (o := itS arr m (2 ^ i)) arr.length
        obtain ⟨x, hx⟩ : ∃ x, (inS arr arr.length (itS arr m (2 ^ i))).testBit x ≠ (itS arr m (2 ^ i)).testBit x := by
          apply Classical.byContradiction
          intro hn
          apply hs
          apply Nat.eq_of_testBit_eq
          intro x
          apply Classical.byContradiction
          exact fun h => hn ⟨x, h⟩
        have h1 : (itS arr m (2 ^ i)).testBit x = false := by
          cases hc : (itS arr m (2 ^ i)).testBit x with
          | false => rfl
          | true => rw [hmono x hc, hc] at hx; exact absurd rfl hx
        have h2 : (inS arr arr.length (itS arr m (2 ^ i))).testBit x = true := by
          rw [h1] at hx
          cases hc : (inS arr arr.length (itS arr m (2 ^ i))).testBit x with
          | false => rw [hc] at hx; exact absurd rfl hx
          | true => rfl
        have hxn : x < arr.length := by
          have hP : ∀ a, a < arr.length → ∀ b, (gt arr a).testBit b = true → b < arr.length := hb
          exact itS_sound (arr := arr) (P := fun a => a < arr.length) hP (o := 2 ^ i) (fun y hy => by rw [pow_bit] at hy; omega) (m + 1) x (by simp only [itS]; exact h2)
        have := card_lt hmono h1 h2 hxn
        omega
/-- the sets and the matrix say the same -/
theorem from_spec {A : List Nat} {n : Nat} {M0 : Mx} {E : Nat → Nat → Prop} (hn : A.length = n) (hA : ∀ a, a < n → ∀ b, (gt A a).testBit b = true ↔ E a b) (hE : ∀ a b, E a b → a < n ∧ b < n)
    (hM : ∀ a b, M0 a b = true ↔ a = b ∨ E a b) {i : Nat} (hi : i < n) (k : Nat) : (fromS A i).testBit k = true ↔ fwK n M0 n i k = true := by
  subst hn
  have hb : ∀ a, a < A.length → ∀ b, (gt A a).testBit b = true → b < A.length := fun a ha b h => (hE a b ((hA a ha b).1 h)).2
  have hlt : ∀ x, (fromS A i).testBit x = true → x < A.length := fun x hx =>
    itS_sound (P := fun a => a < A.length) hb (o := 2 ^ i) (fun y hy => by rw [pow_bit] at hy; omega) _ x hx
  have hst : inS A A.length (fromS A i) = fromS A i := by
    rcases itS_stable hi hb A.length with h | h
    · exact h
    · have := card_le A.length (itS A A.length (2 ^ i)); omega
  constructor
  · intro h
    have hrefl : fwK A.length M0 A.length i i = true := fw_le _ _ _ _ _ ((hM i i).2 (.inl rfl))
    refine (itS_sound (P := fun a => a < A.length ∧ fwK A.length M0 A.length i a = true) (fun a ⟨ha, h1⟩ b h2 => ?_) (o := 2 ^ i) (fun y hy => ?_) A.length k h).2
    · have hEab := (hA a ha b).1 h2
      exact ⟨(hE a b hEab).2, fw_trans _ _ _ (Nat.le_refl _) a ha i b hi (hE a b hEab).2 h1 (fw_le _ _ _ _ _ ((hM a b).2 (.inr hEab)))⟩
    · rw [pow_bit] at hy; subst hy; exact ⟨hi, hrefl⟩
  · intro h
    have hself : (fromS A i).testBit i = true := by
      have : ∀ m, (itS A m (2 ^ i)).testBit i = true := by
        intro m
        induction m with
        | zero => simp [itS, pow_bit]
        | succ m ih => simp only [itS]; exact inS_mono _ _ ih
      exact this _
    exact fw_sound A.length M0 (Q := fun a b => (fromS A i).testBit a = true → (fromS A i).testBit b = true) (fun a b c h1 h2 h => h2 (h1 h)) (fun a b h0 ha => by
      rcases (hM a b).1 h0 with rfl | he
      · exact ha
      · exact stable_closed hst (hlt a ha) ha b ((hA a (hlt a ha) b).2 he)) A.length i k h hself
end Go.Proofs.Ytecbbbocjmdfgaa
set_option linter.unusedVariables false
set_option linter.unusedSimpArgs false
namespace Go.Proofs.Ytecbbbocjmdfgaa
open Go Fw

theorem gt_set {l : List Nat} {p v x : Nat} (hp : p < l.length) : gt (l.set p v) x = if x = p then v else gt l x := by
  unfold gt
  rw [List.getD_eq_getElem?_getD, List.getD_eq_getElem?_getD, List.getElem?_set]
  by_cases h : p = x
  · subst h; simp [hp]
  · have : ¬ x = p := fun e => h e.symm
    simp [h, this]
theorem arrB_spec {r : Nat} {b : Br} {l : List Nat} (hp : b.1.toNat < l.length) (hq : r + b.2.1.toNat < l.length) (x y : Nat) : (gt (arrB r b l) x).testBit y = true ↔ (gt l x).testBit y = true ∨ edge r b x y := by
  unfold arrB edge
  generalize b.1.toNat = p at *
  generalize r + b.2.1.toNat = q at *
  generalize b.2.2 = t
  have hs : ∀ (l : List Nat) (a c : Nat), a < l.length → ((gt (l.set a (gt l a ||| 2 ^ c)) x).testBit y = true ↔ (gt l x).testBit y = true ∨ (x = a ∧ y = c)) := by
    intro l a c ha
    rw [gt_set ha]
    by_cases h : x = a
    · subst h
      rw [if_pos rfl, or_bit, pow_bit]
      constructor
      · rintro (h | h)
        · exact .inl h
        · exact .inr ⟨rfl, h.symm⟩
      · rintro (h | ⟨_, h⟩)
        · exact .inl h
        · exact .inr h.symm
    · rw [if_neg h]
      simp [h]
  by_cases h2 : t = 2
  · subst h2
    simp [hs _ _ _ hq]
  · by_cases h1 : t = 1
    · subst h1
      simp [hs _ _ _ hp]
    · have hq' : q < (l.set p (gt l p ||| 2 ^ q)).length := by simpa using hq
      simp only [h1, h2, ne_eq, not_false_eq_true, if_true, true_and]
      rw [hs _ _ _ hq', hs _ _ _ hp, or_assoc]
/-- an arrow of the braces but one, among the first i -/
def arrow (r : Nat) (bs : List Br) (w : Int) (i : Nat) (x y : Nat) : Prop := ∃ (j : Nat) (h : j < bs.length), j < i ∧ (j : Int) ≠ w ∧ edge r bs[j] x y
theorem arrS_spec {R : Rk} (h : OkR R) {w : Int} : ∀ {i : Nat}, i ≤ R.b.length → ∀ x y, (gt (arrS R.r.toNat (R.r.toNat + R.c.toNat) R.b w i) x).testBit y = true ↔ arrow R.r.toNat R.b w i x y
  | 0, _, x, y => by
    have : gt (List.replicate (R.r.toNat + R.c.toNat) 0) x = 0 := by
      unfold gt
      rw [List.getD_eq_getElem?_getD, List.getElem?_replicate]
      split <;> rfl
    simp only [arrS, this, Nat.zero_testBit]
    constructor
    · intro h; cases h
    · rintro ⟨j, _, h, _⟩; omega
  | i + 1, hi, x, y => by
    have hgd : R.b.getD i (0, 0, 0) = R.b[i] := by simp [List.getD, show i < R.b.length by omega]
    have ih := arrS_spec h (w := w) (i := i) (by omega) x y
    have h1 := h.r1
    have h2 := h.c1
    obtain ⟨k1, k2, k3, k4, k5, k6⟩ := h.b _ (List.getElem_mem (show i < R.b.length by omega))
    simp only [arrS]
    by_cases hw : (i : Int) = w
    · rw [if_pos hw, ih]
      constructor
      · rintro ⟨j, hj, h1, h2, h3⟩; exact ⟨j, hj, by omega, h2, h3⟩
      · rintro ⟨j, hj, h1, h2, h3⟩
        have : j ≠ i := fun e => by subst e; exact h2 hw
        exact ⟨j, hj, by omega, h2, h3⟩
    · rw [if_neg hw, hgd, arrB_spec (by rw [arrS_len]; omega) (by rw [arrS_len]; omega), ih]
      constructor
      · rintro (⟨j, hj, h1, h2, h3⟩ | h3)
        · exact ⟨j, hj, by omega, h2, h3⟩
        · exact ⟨i, by omega, by omega, hw, h3⟩
      · rintro ⟨j, hj, h1, h2, h3⟩
        rcases Nat.lt_or_ge j i with h' | h'
        · exact .inl ⟨j, hj, h', h2, h3⟩
        · have : j = i := by omega
          subst this; exact .inr h3
theorem edge_lt {R : Rk} (h : OkR R) {b : Br} (hb : b ∈ R.b) {x y : Nat} (he : edge R.r.toNat b x y) : x < R.r.toNat + R.c.toNat ∧ y < R.r.toNat + R.c.toNat := by
  obtain ⟨k1, k2, k3, k4, k5, k6⟩ := h.b _ hb
  have h1 := h.r1
  have h2 := h.c1
  rcases he with ⟨_, e1, e2⟩ | ⟨_, e1, e2⟩ <;> omega
/-- from the frame of a rack without a brace: what the matrix of the braces that are left says -/
theorem from_mat {R R' : Rk} (h : OkR R) (w : Int) (hr : R'.r = R.r) (hc : R'.c = R.c) (hbs : ∀ x y, (∃ b ∈ R'.b, edge R.r.toNat b x y) ↔ arrow R.r.toNat R.b w R.b.length x y) {i : Nat} (hi : i < R.r.toNat + R.c.toNat) (k : Nat) :
    (fromS (frF R w).arr i).testBit k = true ↔ rcR R' i k = true := by
  have := from_spec (A := (frF R w).arr) (n := R.r.toNat + R.c.toNat) (M0 := mxS R'.r.toNat R'.b R'.b.length) (E := fun x y => arrow R.r.toNat R.b w R.b.length x y) (by simp only [frF, arrS_len])
    (fun a _ b => arrS_spec h (Nat.le_refl _) a b) (fun a b ⟨j, hj, _, _, he⟩ => edge_lt h (List.getElem_mem hj) he)
    (fun a b => by
      rw [mxS_spec _ _ _ (Nat.le_refl _), hr, ← hbs]
      constructor
      · rintro (h | ⟨j, hj, _, he⟩)
        · exact .inl h
        · exact .inr ⟨_, List.getElem_mem hj, he⟩
      · rintro (h | ⟨b, hb, he⟩)
        · exact .inl h
        · obtain ⟨j, hj, rfl⟩ := List.getElem_of_mem hb
          exact .inr ⟨j, hj, hj, he⟩) hi k
  rw [this, rcR, hr, hc]
theorem arrow_all {r : Nat} {bs : List Br} {x y : Nat} : (∃ b ∈ bs, edge r b x y) ↔ arrow r bs (-1) bs.length x y := by
  constructor
  · rintro ⟨b, hb, he⟩
    obtain ⟨j, hj, rfl⟩ := List.getElem_of_mem hb
    exact ⟨j, hj, hj, by omega, he⟩
  · rintro ⟨j, hj, _, _, he⟩
    exact ⟨_, List.getElem_mem hj, he⟩
theorem arrow_wo {r : Nat} {bs : List Br} {i : Nat} (hi : i < bs.length) {x y : Nat} : (∃ b ∈ wo bs i, edge r b x y) ↔ arrow r bs (i : Int) bs.length x y := by
  constructor
  · rintro ⟨b, hb, he⟩
    rcases List.mem_append.1 hb with hb | hb
    · obtain ⟨j, hj, rfl⟩ := List.getElem_of_mem hb
      rw [List.getElem_take] at he
      have : j < i := by simp at hj; omega
      exact ⟨j, by omega, by omega, by omega, he⟩
    · obtain ⟨j, hj, rfl⟩ := List.getElem_of_mem hb
      rw [List.getElem_drop] at he
      have hj' : j < bs.length - (i + 1) := by simpa using hj
      exact ⟨i + 1 + j, by omega, by omega, by omega, he⟩
  · rintro ⟨j, hj, _, hne, he⟩
    rcases Nat.lt_or_ge j i with h | h
    · refine ⟨bs[j], List.mem_append.2 (.inl ?_), he⟩
      exact List.mem_take_iff_getElem.2 ⟨j, by omega, rfl⟩
    · refine ⟨bs[j], List.mem_append.2 (.inr ?_), he⟩
      exact List.mem_drop_iff_getElem.2 ⟨j - (i + 1), by omega, by congr 1; omega⟩
end Go.Proofs.Ytecbbbocjmdfgaa
set_option linter.unusedVariables false
set_option linter.unusedSimpArgs false
namespace Go.Proofs.Ytecbbbocjmdfgaa
open Go Fw

/-- a matrix that is reflexive and transitive on the first n, and sets that say the same -/
structure Same (A : List Nat) (M : Mx) (n : Nat) : Prop where
  bit : ∀ i, i < n → ∀ k, (fromS A i).testBit k = true ↔ M i k = true
  refl : ∀ i, M i i = true
  trans : ∀ a b c, a < n → b < n → c < n → M a b = true → M b c = true → M a c = true
theorem both_symm {M : Mx} {i k : Nat} : bothM M i k = bothM M k i := by simp [bothM, Bool.and_comm]
theorem both_trans {A : List Nat} {M : Mx} {n : Nat} (h : Same A M n) {a b c : Nat} (ha : a < n) (hb : b < n) (hc : c < n) (h1 : bothM M a b = true) (h2 : bothM M b c = true) : bothM M a c = true := by
  simp only [bothM, Bool.and_eq_true] at *
  exact ⟨h.trans a b c ha hb hc h1.1 h2.1, h.trans c b a hc hb ha h2.2 h1.2⟩
theorem tog_bit {A : List Nat} {M : Mx} {n : Nat} (h : Same A M n) {i : Nat} (hi : i < n) : ∀ {k : Nat}, k ≤ n → ∀ x, (togS A i k).testBit x = true ↔ x < k ∧ bothM M i x = true
  | 0, _, x => by simp [togS]
  | k + 1, hk, x => by
    have ih := tog_bit h hi (k := k) (by omega) x
    have hc : ((fromS A i).testBit k = true ∧ (fromS A k).testBit i = true) ↔ bothM M i k = true := by
      rw [h.bit i hi, h.bit k (by omega)]; simp [bothM]
    simp only [togS]
    by_cases hb : bothM M i k = true
    · rw [if_pos (hc.2 hb), or_bit, pow_bit, ih]
      constructor
      · rintro (⟨h1, h2⟩ | rfl)
        · exact ⟨by omega, h2⟩
        · exact ⟨by omega, hb⟩
      · rintro ⟨h1, h2⟩
        rcases Nat.lt_or_ge x k with h' | h'
        · exact .inl ⟨h', h2⟩
        · exact .inr (by omega)
    · rw [if_neg (fun e => hb (hc.1 e)), ih]
      constructor
      · rintro ⟨h1, h2⟩; exact ⟨by omega, h2⟩
      · rintro ⟨h1, h2⟩
        refine ⟨?_, h2⟩
        rcases Nat.lt_or_ge x k with h' | h'
        · exact h'
        · have : x = k := by omega
          subst this; exact absurd h2 hb
theorem rowsK_nil {s r : Nat} : ∀ {k : Nat}, (∀ x, x < k → s.testBit x = false) → rowsK s r k = [] ∧ colsK s r k = []
  | 0, _ => ⟨rfl, rfl⟩
  | k + 1, h => by
    have ih := rowsK_nil (s := s) (r := r) (k := k) fun x hx => h x (by omega)
    have := h k (by omega)
    simp [rowsK, colsK, this, ih]
theorem rowsK_eq {s r i : Nat} {W : Nat → Bool} (h0 : ∀ x, x < i → s.testBit x = false) : ∀ {m : Nat}, (∀ x, i ≤ x → x < i + m → s.testBit x = W x) → rowsK s r (i + m) = rgR W i r m ∧ colsK s r (i + m) = rgC W i r m
  | 0, _ => rowsK_nil h0
  | m + 1, h => by
    have ih := rowsK_eq (r := r) h0 (m := m) fun x h1 h2 => h x h1 (by omega)
    have hb := h (i + m) (by omega) (by omega)
    constructor
    · show rowsK s r (i + m + 1) = _
      simp only [rowsK, rgR, hb, ih.1]
    · show colsK s r (i + m + 1) = _
      simp only [colsK, rgC, hb, ih.2]
theorem rgT_spec {W : Nat → Bool} {i : Nat} {T : Nat → Bool} : ∀ {m : Nat} (x : Nat), rgT W i T m x = true ↔ T x = true ∨ (i ≤ x ∧ x < i + m ∧ W x = true)
  | 0, x => by simp only [rgT]; constructor
               · exact fun h => .inl h
               · rintro (h | ⟨h1, h2, _⟩)
                 · exact h
                 · omega
  | m + 1, x => by
    have ih := rgT_spec (W := W) (i := i) (T := T) (m := m) x
    simp only [rgT]
    by_cases hw : W (i + m) = true
    · rw [if_pos hw]
      simp only [Bool.or_eq_true, decide_eq_true_eq, ih]
      constructor
      · rintro (rfl | h | ⟨h1, h2, h3⟩)
        · exact .inr ⟨by omega, by omega, hw⟩
        · exact .inl h
        · exact .inr ⟨h1, by omega, h3⟩
      · rintro (h | ⟨h1, h2, h3⟩)
        · exact .inr (.inl h)
        · rcases Nat.lt_or_ge x (i + m) with h' | h'
          · exact .inr (.inr ⟨h1, h', h3⟩)
          · exact .inl (by omega)
    · rw [if_neg hw, ih]
      constructor
      · rintro (h | ⟨h1, h2, h3⟩)
        · exact .inl h
        · exact .inr ⟨h1, by omega, h3⟩
      · rintro (h | ⟨h1, h2, h3⟩)
        · exact .inl h
        · refine .inr ⟨h1, ?_, h3⟩
          rcases Nat.lt_or_ge x (i + m) with h' | h'
          · exact h'
          · have : x = i + m := by omega
            subst this; exact absurd h3 hw
theorem grp_same {A : List Nat} {M : Mx} {n r : Nat} (h : Same A M n) : ∀ {i : Nat}, i ≤ n → (grpS A n r i).2 = (grpM M n r i).2 ∧ (∀ x, x < n → ((grpS A n r i).1.testBit x = true ↔ (grpM M n r i).1 x = true)) ∧
    ∀ x, x < n → ((grpM M n r i).1 x = true ↔ ∃ j, j < i ∧ bothM M j x = true)
  | 0, _ => by simp [grpS, grpM]
  | i + 1, hi => by
    obtain ⟨h1, h2, h3⟩ := grp_same h (i := i) (r := r) (by omega)
    have hin : i < n := by omega
    have hrefl : bothM M i i = true := by simp [bothM, h.refl i]
    simp only [grpS, grpM]
    by_cases ht : (grpM M n r i).1 i = true
    · rw [if_pos ht, if_pos ((h2 i hin).2 ht)]
      refine ⟨h1, h2, fun x hx => ?_⟩
      rw [h3 x hx]
      constructor
      · rintro ⟨j, hj, hb⟩; exact ⟨j, by omega, hb⟩
      · rintro ⟨j, hj, hb⟩
        rcases Nat.lt_or_ge j i with h' | h'
        · exact ⟨j, h', hb⟩
        · have : j = i := by omega
          subst this
          obtain ⟨k, hk, hkb⟩ := (h3 j hin).1 ht
          exact ⟨k, hk, both_trans h (by omega) hin hx hkb hb⟩
    · rw [if_neg ht, if_neg (fun e => ht ((h2 i hin).1 e))]
      have hlow : ∀ x, x < i → bothM M i x = false := by
        intro x hx
        cases hb : bothM M i x with
        | false => rfl
        | true =>
          exfalso
          exact ht ((h3 i hin).2 ⟨x, hx, by rw [both_symm]; exact hb⟩)
      have htb := tog_bit h hin (Nat.le_refl n)
      have e := rowsK_eq (s := togS A i n) (r := r) (i := i) (W := bothM M i) (fun x hx => by
        cases hb : (togS A i n).testBit x with
        | false => rfl
        | true => have := ((htb x).1 hb).2; rw [hlow x hx] at this; cases this) (m := n - i) (fun x hx1 hx2 => by
        have hxn : x < n := by omega
        cases hw : bothM M i x with
        | true => exact (htb x).2 ⟨hxn, hw⟩
        | false =>
          cases hb : (togS A i n).testBit x with
          | false => rfl
          | true => have := ((htb x).1 hb).2; rw [hw] at this; cases this)
      rw [show i + (n - i) = n by omega] at e
      refine ⟨by rw [h1, e.1, e.2], fun x hx => ?_, fun x hx => ?_⟩
      · rw [or_bit, htb, h2 x hx, rgT_spec]
        constructor
        · rintro (h | ⟨h, hb⟩)
          · exact .inl h
          · refine .inr ⟨?_, by omega, hb⟩
            rcases Nat.lt_or_ge x i with h' | h'
            · rw [hlow x h'] at hb; cases hb
            · exact h'
        · rintro (h | ⟨_, _, hb⟩)
          · exact .inl h
          · exact .inr ⟨hx, hb⟩
      · rw [rgT_spec, h3 x hx]
        constructor
        · rintro (⟨j, hj, hb⟩ | ⟨_, _, hb⟩)
          · exact ⟨j, by omega, hb⟩
          · exact ⟨i, by omega, hb⟩
        · rintro ⟨j, hj, hb⟩
          rcases Nat.lt_or_ge j i with h' | h'
          · exact .inl ⟨j, h', hb⟩
          · have : j = i := by omega
            subst this
            refine .inr ⟨?_, by omega, hb⟩
            rcases Nat.lt_or_ge x j with h' | h'
            · rw [hlow x h'] at hb; cases hb
            · exact h'
end Go.Proofs.Ytecbbbocjmdfgaa
set_option linter.unusedVariables false
set_option linter.unusedSimpArgs false
namespace Go.Proofs.Ytecbbbocjmdfgaa
open Go Fw

theorem stiff_iff {A : List Nat} {M : Mx} {n : Nat} (h : Same A M n) (hn : 0 < n) : togS A 0 n = 2 ^ n - 1 ↔ ∀ k, k < n → bothM M 0 k = true := by
  have htb := tog_bit h hn (Nat.le_refl n)
  constructor
  · intro e k hk
    refine ((htb k).1 ?_).2
    rw [e, Nat.testBit_two_pow_sub_one]; simpa using hk
  · intro ha
    apply Nat.eq_of_testBit_eq
    intro x
    rw [Nat.testBit_two_pow_sub_one]
    by_cases hx : x < n
    · rw [(htb x).2 ⟨hx, ha x hx⟩]; simp [hx]
    · cases hb : (togS A 0 n).testBit x with
      | true => exact absurd ((htb x).1 hb).1 hx
      | false => simp [hx]
theorem grpM_mono {M : Mx} {n r : Nat} : ∀ {i j : Nat}, i ≤ j → (grpM M n r i).2.length ≤ (grpM M n r j).2.length
  | i, 0, h => by have : i = 0 := by omega
                  subst this; exact Nat.le_refl _
  | i, j + 1, h => by
    rcases Nat.lt_or_ge i (j + 1) with h' | h'
    · have := grpM_mono (M := M) (n := n) (r := r) (i := i) (j := j) (by omega)
      simp only [grpM]
      split
      · exact this
      · simp; omega
    · have : i = j + 1 := by omega
      subst this; exact Nat.le_refl _
theorem one_iff {A : List Nat} {M : Mx} {n r : Nat} (h : Same A M n) (hn : 0 < n) : (grpM M n r n).2.length = 1 ↔ ∀ k, k < n → bothM M 0 k = true := by
  have hT := fun {i : Nat} (hi : i ≤ n) => (grp_same (r := r) h hi).2.2
  have h1 : (grpM M n r 1).2.length = 1 := by simp [grpM]
  constructor
  · intro e
    apply Classical.byContradiction
    intro hne
    have hex : ∃ k, k < n ∧ bothM M 0 k = false := by
      apply Classical.byContradiction
      intro hno
      apply hne
      intro k hk
      cases hb : bothM M 0 k with
      | true => rfl
      | false => exact absurd ⟨k, hk, hb⟩ hno
    -- the first such k
    have hmin : ∀ m, (∃ k, k < n ∧ k ≤ m ∧ bothM M 0 k = false) → ∃ k, k < n ∧ bothM M 0 k = false ∧ ∀ j, j < k → bothM M 0 j = true := by
      intro m
      induction m with
      | zero => rintro ⟨k, hk, hkm, hb⟩; exact ⟨k, hk, hb, fun j hj => by omega⟩
      | succ m ih =>
        rintro ⟨k, hk, hkm, hb⟩
        by_cases hsm : ∃ k, k < n ∧ k ≤ m ∧ bothM M 0 k = false
        · exact ih hsm
        · refine ⟨k, hk, hb, fun j hj => ?_⟩
          cases hbj : bothM M 0 j with
          | true => rfl
          | false => exact absurd ⟨j, by omega, by omega, hbj⟩ hsm
    obtain ⟨k0, hk0, hb0⟩ := hex
    obtain ⟨k, hk, hb, hall⟩ := hmin k0 ⟨k0, hk0, Nat.le_refl _, hb0⟩
    have hk1 : 1 ≤ k := by
      rcases Nat.eq_zero_or_pos k with h' | h'
      · subst h'; simp [bothM, h.refl 0] at hb
      · exact h'
    have hnt : ¬ (grpM M n r k).1 k = true := by
      rw [hT (by omega) k hk]
      rintro ⟨j, hj, hjb⟩
      have := both_trans h hn (by omega) hk (hall j hj) hjb
      rw [hb] at this; cases this
    have h2 : (grpM M n r (k + 1)).2.length = (grpM M n r k).2.length + 1 := by
      simp only [grpM]; rw [if_neg hnt]; simp
    have h3 := grpM_mono (M := M) (n := n) (r := r) (i := 1) (j := k) hk1
    have h4 := grpM_mono (M := M) (n := n) (r := r) (i := k + 1) (j := n) (by omega)
    omega
  · intro ha
    have : ∀ i, 1 ≤ i → i ≤ n → (grpM M n r i).2.length = 1 := by
      intro i
      induction i with
      | zero => intro h0; omega
      | succ i ih =>
        intro _ hi
        rcases Nat.eq_zero_or_pos i with h' | h'
        · subst h'; exact h1
        · have ht : (grpM M n r i).1 i = true := (hT (by omega) i (by omega)).2 ⟨0, h', ha i (by omega)⟩
          simp only [grpM]
          rw [if_pos ht]
          exact ih h' (by omega)
    exact this n hn (Nat.le_refl n)
theorem same_of {R R' : Rk} (h : OkR R) (w : Int) (hr : R'.r = R.r) (hc : R'.c = R.c) (hbs : ∀ x y, (∃ b ∈ R'.b, edge R.r.toNat b x y) ↔ arrow R.r.toNat R.b w R.b.length x y) : Same (frF R w).arr (rcR R') (R.r.toNat + R.c.toNat) where
  bit := fun i hi k => from_mat h w hr hc hbs hi k
  refl := fun i => fw_le _ _ _ _ _ ((mxS_spec _ _ _ (Nat.le_refl _) i i).2 (.inl rfl))
  trans := fun a b c ha hb hc' h1 h2 => by
    unfold rcR at *
    rw [hr, hc] at *
    exact fw_trans _ _ _ (Nat.le_refl _) b hb a c ha hc' h1 h2
theorem pos_n {R : Rk} (h : OkR R) : 0 < R.r.toNat + R.c.toNat := by have := h.r1; omega
theorem gp_eq {R : Rk} (h : OkR R) : gpR R = gmR R := by
  have hs := same_of h (-1) rfl rfl (fun x y => arrow_all)
  exact (grp_same hs (Nat.le_refl _)).1
theorem stiff_eq {R R' : Rk} (h : OkR R) (w : Int) (hr : R'.r = R.r) (hc : R'.c = R.c) (hbs : ∀ x y, (∃ b ∈ R'.b, edge R.r.toNat b x y) ↔ arrow R.r.toNat R.b w R.b.length x y) : stiffS (frF R w) = stM R' := by
  have hs := same_of h w hr hc hbs
  have hn := pos_n h
  unfold stiffS stM gmR
  have e1 : (frF R w).arr.length = R.r.toNat + R.c.toNat := by simp only [frF, arrS_len]
  have e2 : (frF R w).r + (frF R w).c = R.r.toNat + R.c.toNat := rfl
  rw [e1, e2, hr, hc, decide_eq_decide, stiff_iff hs hn, one_iff hs hn]
theorem st_eq {R : Rk} (h : OkR R) : stR R = stM R := stiff_eq h (-1) rfl rfl (fun x y => arrow_all)
theorem ndK_congr {f g : Nat → Bool} : ∀ {n : Nat}, (∀ i, i < n → f i = g i) → ndK f n = ndK g n
  | 0, _ => rfl
  | n + 1, h => by
    have ih := ndK_congr (f := f) (g := g) (n := n) fun i hi => h i (by omega)
    simp only [ndK, h n (by omega), ih]
theorem gpV_eq (R : Rk) : gpV R = gmV R := by
  unfold gpV gmV
  by_cases h : chkR R = 0
  · rw [if_pos h, if_pos h, gp_eq (chkR_zero.1 h).1]
  · rw [if_neg h, if_neg h]
theorem stV_eq (R : Rk) : stV R = smV R := by
  unfold stV smV
  by_cases h : chkR R = 0
  · rw [if_pos h, if_pos h, st_eq (chkR_zero.1 h).1]; rfl
  · rw [if_neg h, if_neg h]
theorem ndV_eq (R : Rk) : ndV R = nmV R := by
  unfold ndV nmV
  by_cases h : chkR R = 0
  · obtain ⟨hok, hl⟩ := chkR_zero.1 h
    rw [if_pos h, if_pos h, st_eq hok]
    have : ndK (fun i => !stiffS (frF R (i : Int))) R.b.length = ndK (fun i => !stM ⟨R.r, R.c, wo R.b i⟩) R.b.length := ndK_congr fun i hi => by
      rw [stiff_eq (R' := ⟨R.r, R.c, wo R.b i⟩) hok (i : Int) rfl rfl (fun x y => arrow_wo hi)]
    rw [this]
  · rw [if_neg h, if_neg h]
end Go.Proofs.Ytecbbbocjmdfgaa
set_option linter.unusedVariables false
set_option linter.unusedSimpArgs false
namespace Go.Proofs.Ytecbbbocjmdfgaa
open Go Fw

def SGp : List AV → Option AV
  | [x] => (asR x).map gpV
  | _ => none
theorem SGp_i {x : AV} {R : Rk} (hx : asR x = some R) : SGp [x] = some (gpV R) := by simp [SGp, hx]
theorem cs19 : ∀ a r, SGp a = some r → PCall Try.prog 19 a r := by
  intro a r h
  unfold SGp at h
  split at h <;> (try (cases h; done))
  obtain ⟨R, h1, rfl⟩ := optmap_some h
  exact p19 h1
def SNd : List AV → Option AV
  | [x] => (asR x).map ndV
  | _ => none
theorem SNd_i {x : AV} {R : Rk} (hx : asR x = some R) : SNd [x] = some (ndV R) := by simp [SNd, hx]
theorem c21 : ∀ a r, SNd a = some r → PCall Try.prog 21 a r := by
  intro a r h
  unfold SNd at h
  split at h <;> (try (cases h; done))
  obtain ⟨R, h1, rfl⟩ := optmap_some h
  exact p21 h1
def SNm : List AV → Option AV
  | [x] => (asR x).map nmV
  | _ => none
theorem SNm_i {x : AV} {R : Rk} (hx : asR x = some R) : SNm [x] = some (nmV R) := by simp [SNm, hx]
theorem c22 : ∀ a r, SNm a = some r → PCall Try.prog 22 a r := by
  intro a r h
  unfold SNm at h
  split at h <;> (try (cases h; done))
  obtain ⟨R, h1, rfl⟩ := optmap_some h
  exact p22 h1
def SGrs : List AV → Option AV
  | [x, y] => match asG x, asG y with
    | some l, some m => some (.bool (decide (l = m)))
    | _, _ => none
  | _ => none
theorem SGrs_i {x y : AV} {l m : List Gp} (hx : asG x = some l) (hy : asG y = some m) : SGrs [x, y] = some (.bool (decide (l = m))) := by simp [SGrs, hx, hy]
theorem c23 : ∀ a r, SGrs a = some r → PCall Try.prog 23 a r := by
  intro a r h
  unfold SGrs at h
  split at h <;> (try (cases h; done))
  split at h <;> (try (cases h; done))
  rename_i l m h1 h2
  injection h with h; subst h
  exact p23 h1 h2
def SWk : List AV → Option AV
  | [] => some (.bool true)
  | _ => none
@[simp] theorem SWk_i : SWk [] = some (.bool true) := id rfl
theorem c15 (h : PCall Try.prog 15 [] (.bool true)) : ∀ a r, SWk a = some r → PCall Try.prog 15 a r := by
  intro a r e
  unfold SWk at e
  split at e <;> (try (cases e; done))
  injection e with e; subst e
  exact h
def D10 : PCtx := (((((D9.add 19 SGp).add 21 SNd).add 22 SNm).add 23 SGrs).add 15 SWk)
theorem D10ok (h : PCall Try.prog 15 [] (.bool true)) : CtxOk Try.prog D10 := ((((D9ok.add cs19).add c21).add c22).add c23).add (c15 h)
@[simp] theorem D10_15 : D10 15 = SWk := id rfl
@[simp] theorem D10_17 : D10 17 = SSt := id rfl
@[simp] theorem D10_18 : D10 18 = SSm := id rfl
@[simp] theorem D10_19 : D10 19 = SGp := id rfl
@[simp] theorem D10_20 : D10 20 = SGmR := id rfl
@[simp] theorem D10_21 : D10 21 = SNd := id rfl
@[simp] theorem D10_22 : D10 22 = SNm := id rfl
@[simp] theorem D10_23 : D10 23 = SGrs := id rfl
@[simp] theorem D10_24 : D10 24 = SNum := id rfl
@[simp] theorem D10_25 : D10 25 = SChkR := id rfl
@[simp] theorem D10_26 : D10 26 = SChkR := id rfl

theorem stV_form (R : Rk) : ∃ a e, stV R = .tup [.bool a, .int .i64 e] := by
  unfold stV
  split
  · exact ⟨_, _, rfl⟩
  · exact ⟨_, _, rfl⟩
theorem gpR_ok {R : Rk} (hok : OkR R) : (∀ g ∈ gmR R, g.1.length < 4294967296 ∧ g.2.length < 4294967296) := by
  have key : ∀ (M : Mx) (n r i : Nat), ∀ g ∈ (grpM M n r i).2, g.1.length ≤ n ∧ g.2.length ≤ n := by
    intro M n r i
    induction i with
    | zero => simp [grpM]
    | succ i ih =>
      simp only [grpM]
      split
      · exact ih
      · intro g hg
        rcases List.mem_append.1 hg with hg | hg
        · exact ih g hg
        · simp only [List.mem_singleton] at hg
          subst hg
          exact ⟨Nat.le_trans (rgR_len _) (by omega), Nat.le_trans (rgC_len _) (by omega)⟩
  intro g hg
  have := key _ _ _ _ g hg
  have h1 := hok.r6
  have h2 := hok.c6
  omega
theorem gpV_form (R : Rk) : ∃ g e gs, gpV R = .tup [g, .int .i64 e] ∧ asG g = some gs := by
  rw [gpV_eq]
  unfold gmV
  split
  · rename_i h
    have hok := (chkR_zero.1 h).1
    have h1 := hok.r6
    have h2 := hok.c6
    refine ⟨_, _, gmR R, rfl, asG_out (gpR_ok hok) ?_⟩
    have := grpM_len (M := rcR R) (n := R.r.toNat + R.c.toNat) (r := R.r.toNat) (R.r.toNat + R.c.toNat)
    unfold gmR
    omega
  · exact ⟨_, _, [], rfl, rfl⟩
theorem ndV_form (R : Rk) : ∃ x e l, ndV R = .tup [x, .int .i64 e] ∧ asI x = some l := by
  unfold ndV
  split
  · rename_i h
    have hl := (chkR_zero.1 h).2
    split
    · refine ⟨_, _, _, rfl, asI_outV ?_⟩
      have := ndK_len (f := fun i => !stiffS (frF R (i : Int))) R.b.length
      omega
    · exact ⟨_, _, [], rfl, rfl⟩
  · exact ⟨_, _, [], rfl, rfl⟩
theorem asR_outs {hs : HS} {y : AV} {l : List Br} {r c : Int} (h : Outs 3 hs y (brs l)) (hl : l.length < 4294967296) : asR (.agg [.int .i64 r, .int .i64 c, y]) = some ⟨r, c, l⟩ := by
  refine asR_mk ?_
  rcases h.inv with ⟨rfl, e⟩ | ⟨xs, k, rfl, _, e, _⟩
  · have : l = [] := List.map_eq_nil_iff.1 e
    subst this; rfl
  · have hx : xs = brs l := by
      have h2 : ∀ {xs : List AV} {l : List Br}, xs.map AV.share = brs l → xs = brs l := by
        intro xs
        induction xs with
        | nil => intro l e; cases l with
          | nil => rfl
          | cons a l => cases e
        | cons x xs ih => intro l e; cases l with
          | nil => cases e
          | cons a l =>
            simp only [List.map_cons, List.cons.injEq] at e
            obtain ⟨e1, e2⟩ := e
            rw [ih e2]
            simp only [List.map_cons, List.cons.injEq, and_true]
            cases x <;> simp only [AV.share] at e1 <;> first | (cases e1; done) | skip
            rename_i cs
            injection e1 with e1
            match cs, e1 with
            | [u, v, w], e1 =>
              simp only [shareL, List.cons.injEq, and_true] at e1
              obtain ⟨h1, h2, h3⟩ := e1
              cases u <;> simp only [AV.share] at h1 <;> first | (cases h1; done) | skip
              cases v <;> simp only [AV.share] at h2 <;> first | (cases h2; done) | skip
              cases w <;> simp only [AV.share] at h3 <;> first | (cases h3; done) | skip
              rw [h1, h2, h3]
            | [], e1 => simp [shareL] at e1
            | [_], e1 => simp [shareL] at e1
            | [_, _], e1 => simp [shareL] at e1
            | _ :: _ :: _ :: _ :: _, e1 => simp [shareL] at e1
      exact h2 e
    subst hx
    exact asB_sl hl
theorem p3 (hwk : PCall Try.prog 15 [] (.bool true)) {x : AV} {R : Rk} (hx : asR x = some R) : PCall Try.prog 3 [x] (.bool true) := by
  obtain ⟨v1, v2, v3, v4, v5, v6, v7, v8⟩ := RkV.of hx
  refine PCall.of (D10ok hwk) ok3 (by simp) rfl fun hs' hb => ?_
  simp [A3, R3, v2, v3, v6, v7, blen v8]
  refine At.dec (fun h => ?_) (fun h => ?_)
  · simp
  have hl : R.b.length ≤ 1000 := by omega
  obtain ⟨a, e, hst⟩ := stV_form R
  obtain ⟨g, e2, gs, hgp, hgs⟩ := gpV_form R
  obtain ⟨nl, e3, ns, hnd, hns⟩ := ndV_form R
  have hsm : smV R = .tup [.bool a, .int .i64 e] := by rw [← stV_eq, hst]
  have hgm : gmV R = .tup [g, .int .i64 e2] := by rw [← gpV_eq, hgp]
  have hnm : nmV R = .tup [nl, .int .i64 e3] := by rw [← ndV_eq, hnd]
  simp [v3]
  refine At.hc (p16 hx hl _) ?_ ?_
  · rintro v hs2 ⟨y, hv, ho, hext⟩
    injection hv with hv; subst hv
    have hg := asR_outs (r := R.r) (c := R.c) ho (by omega)
    obtain ⟨c1, c2, c3⟩ := out_cells ho
    simp [v3, c1, c2, astore, sa, ca, setL, env_none, SSt_i hx, hst, la, apart, SSm_i hg, hsm, SGp_i hx, hgp, SGmR_i hg, hgm, SNd_i hx, hnd, SNm_i hg, hnm, SGrs_i hgs hgs, SNum_i hns hns, SChkR_i hx, SChkR_i hg]
  · rintro v hs2 ⟨y, hv, _⟩; cases hv
end Go.Proofs.Ytecbbbocjmdfgaa
