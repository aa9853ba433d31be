/-
  Tables: small functions, and that a table has no number twice in a row or in a column. Own work.
  Tables: checks. Own work.
  Tables: states after digits. Own work.
  Small numbers as arguments; rows that are made. Own work.
  Tables by numbers. Own work.
  Tables that are computed. Own work.
-/
import Derived.Test.YtdcpkgedaflnmaaDoorC1
import Derived.Test.YtdcpkgedaflnmaaDoorG1
import Derived.Test.YtdcpkgedaflnmaaDoorFx4
set_option linter.unusedVariables false
set_option linter.unusedSimpArgs false
namespace Go.Proofs.YtdcpkgedaflnmaaDoor.Se
open Go Fw

def btw (lo n hi : Int) : Bool := decide (lo ≤ n) && decide (n ≤ hi)
theorem p72 (lo n hi : Int) : PCall Tryd.prog 72 [.int .i64 lo, .int .i64 n, .int .i64 hi] (.bool (btw lo n hi)) := by
  refine PCall.of CtxOk.nil ok72 (by simp) rfl fun hs hb => ?_
  simp [A72, R72]
  refine At.dec (fun h => ?_) (fun h => ?_) <;> simp [h, btw]
theorem btw_iff {a b c : Int} : btw a b c = true ↔ a ≤ b ∧ b ≤ c := by simp [btw]
def SB : List AV → Option AV
  | [.int .i64 a, .int .i64 b, .int .i64 c] => some (.bool (btw a b c))
  | _ => none
theorem SB_ok : ∀ a r, SB a = some r → PCall Tryd.prog 72 a r := by
  intro a r e
  unfold SB at e
  split at e <;> (try (cases e; done))
  injection e with e; subst e; exact p72 _ _ _
@[simp] theorem SB_i {a b c : Int} : SB [.int .i64 a, .int .i64 b, .int .i64 c] = some (.bool (btw a b c)) := id rfl
def E1 : PCtx := PCtx.nil.add 72 SB
theorem E1ok : CtxOk Tryd.prog E1 := CtxOk.nil.add SB_ok
@[simp] theorem E1_72 : E1 72 = SB := id rfl

/-! matrices by places -/
/-- flags: whatever is not among the numbers is not set -/
def Flg (ys : List AV) (f : Nat → Int) (d : Nat) : Prop := ys.length = 10 ∧ ∀ (k : Nat) (h : k < ys.length), (∀ j, j < d → f j ≠ (k : Int)) → ys[k] = .bool false
theorem Flg.set {ys : List AV} {f : Nat → Int} {d k : Nat} (h : Flg ys f d) (hk : f d = (k : Int)) : Flg (ys.set k (.bool true)) f (d + 1) := by
  refine ⟨by rw [List.length_set]; exact h.1, fun i hi hn => ?_⟩
  have hik : i ≠ k := by
    intro e; subst e
    exact hn d (by omega) hk
  rw [List.getElem_set, if_neg (fun e => hik e.symm)]
  exact h.2 i (by simpa using hi) fun j hj => hn j (by omega)
def f10 : List AV := [.bool false, .bool false, .bool false, .bool false, .bool false, .bool false, .bool false, .bool false, .bool false, .bool false]
theorem Flg.new (f : Nat → Int) : Flg f10 f 0 := by
  refine ⟨rfl, fun k hk _ => ?_⟩
  have : k < 10 := hk
  match k, this with
  | 0, _ => rfl
  | 1, _ => rfl
  | 2, _ => rfl
  | 3, _ => rfl
  | 4, _ => rfl
  | 5, _ => rfl
  | 6, _ => rfl
  | 7, _ => rfl
  | 8, _ => rfl
  | 9, _ => rfl
end Go.Proofs.YtdcpkgedaflnmaaDoor.Se
set_option linter.unusedVariables false
set_option linter.unusedSimpArgs false
namespace Go.Proofs.YtdcpkgedaflnmaaDoor.Se
open Go Fw

/-- a list of values that stay -/
structure Lst (z : AV) (xs : List AV) : Prop where
  lt : xs.length < 4294967296
  len : alenK false z = some (.int .i64 (xs.length : Int))
  idx : ∀ (i : Nat) (h : i < xs.length), aidxS 1 z (.int .i64 (i : Int)) = some (.ptr xs[i])
  ld : ∀ (i : Nat) (h : i < xs.length) (hp : Nat → Option (List AV)), aload hp false 1 (.ptr xs[i]) = some xs[i]
theorem Lst.of {z : AV} {l : List Int} (h : asI z = some l) : Lst z (ints l) := by
  have e : (ints l).length = l.length := by simp [ints]
  refine ⟨by rw [e]; exact asI_len h, by rw [e]; exact alen_of h, fun i hi => ?_, fun i hi hp => ?_⟩
  · have := aidx_nat h (k := .i64) (i := i) (by omega)
    simpa [ints] using this
  · simp [ints]
end Go.Proofs.YtdcpkgedaflnmaaDoor.Se
set_option linter.unusedVariables false
set_option linter.unusedSimpArgs false
namespace Go.Proofs.YtdcpkgedaflnmaaDoor.Se
open Go Fw

end Go.Proofs.YtdcpkgedaflnmaaDoor.Se
set_option linter.unusedVariables false
set_option linter.unusedSimpArgs false
namespace Go.Proofs.YtdcpkgedaflnmaaDoor.Se
open Go Fw

def gI (l : List Int) (i : Nat) : Int := l.getD i 0
theorem gI_of {l : List Int} {i : Nat} (h : i < l.length) : gI l i = l[i] := by simp [gI, h]
def IsU8 (x : AV) (l : List Int) : Prop := (x = .nilsl ∧ l = [] ∨ x = .sl 1 (l.map (AV.int .u8)) .shared) ∧ ∀ a ∈ l, 0 ≤ a ∧ a ≤ 255
theorem IsU8.of {x : AV} (h : ShV (.sl (.int .u8)) x) : ∃ l, IsU8 x l := by
  obtain ⟨l, h1, h2, h3⟩ := shv_intsK h
  exact ⟨l, h1, fun a ha => u8_bd (h3 a ha)⟩
theorem IsU8.len {x : AV} {l : List Int} (h : IsU8 x l) : alenK false x = some (.int .i64 l.length) := by
  rcases h.1 with ⟨rfl, rfl⟩ | rfl
  · rfl
  · simp [alenK]
theorem IsU8.get {x : AV} {l : List Int} (h : IsU8 x l) {i : Nat} (hi : i < l.length) : aidxS 1 x (.int .i64 (i : Int)) = some (.ptr (.int .u8 (gI l i))) := by
  rcases h.1 with ⟨rfl, rfl⟩ | rfl
  · simp at hi
  · simp [aidxS, hi, gI_of hi]
theorem IsU8.leaf {x : AV} {l : List Int} (h : IsU8 x l) : x.leaf = true := by
  rcases h.1 with ⟨rfl, rfl⟩ | rfl <;> rfl
/-! a made matrix -/
def shR (l : List Int) : AV := .sl 1 (ints l) .shared
def madV (M : List (List Int)) : AV := .sl 1 (M.map shR) .exact
theorem madV_plain (M : List (List Int)) : (madV M).plain = true := by
  have : ∀ M : List (List Int), plainL (M.map shR) = true := by
    intro M
    induction M with
    | nil => rfl
    | cons a M ih => simp only [List.map_cons, plainL, Bool.and_eq_true]; exact ⟨plain_ints a, ih⟩
  exact this M
/-! lists that are copied by two appends -/
def OwnE (n0 : Nat) (hs : HS) (x : AV) (l : List Int) : Prop := x = .sl 1 (ints l) .exact ∨ ∃ k, x = .sl 1 (ints l) (.own k) ∧ hs.tok k = true ∧ k < hs.nt ∧ n0 ≤ k
structure Kp (n0 : Nat) (hs hs' : HS) : Prop where
  nt : hs.nt ≤ hs'.nt
  tok : ∀ k, k < n0 → hs.tok k = true → hs'.tok k = true
  mem : SameMem hs hs'
theorem Kp.refl (n0 : Nat) (hs : HS) : Kp n0 hs hs := ⟨Nat.le_refl _, fun _ _ h => h, .refl _⟩
theorem Kp.trans {n0 : Nat} {a b c : HS} (h : Kp n0 a b) (k : Kp n0 b c) : Kp n0 a c := ⟨Nat.le_trans h.nt k.nt, fun i hi ht => k.tok i hi (h.tok i hi ht), h.mem.trans k.mem⟩
theorem OwnE.add {n0 : Nat} {hs : HS} {x q : AV} {l m : List Int} (h : OwnE n0 hs x l) (hq : asI q = some m) (hn : n0 ≤ hs.nt) (hl : l.length + m.length ≤ 1000000) : ∃ y hs', aappend 1 hs x q = some (y, hs') ∧ OwnE n0 hs' y (l ++ m) ∧ Kp n0 hs hs' := by
  obtain ⟨e1, e2⟩ := elems_of (asI_asV hq)
  have ei : ints l ++ ints m = ints (l ++ m) := by simp [ints]
  have hl' : (ints l).length + (ints m).length ≤ 1073741824 := by simp [ints]; omega
  rcases h with rfl | ⟨k, rfl, h1, h2, h3⟩
  · rw [append_eq (xs := ints l) rfl e1 (by simp [aszOk]) e2 hl']
    split
    · rename_i hy
      have : m = [] := by simpa [ints] using hy
      subst this
      exact ⟨_, _, rfl, by rw [List.append_nil]; exact .inl rfl, .refl _ _⟩
    · refine ⟨_, _, rfl, .inr ⟨hs.nt, by rw [ei], by simp, by simp, hn⟩, ⟨by simp, fun j hj ht => by simp [ht], ⟨rfl, rfl⟩⟩⟩
  · rw [append_eq (xs := ints l) rfl e1 (by simp [aszOk]) e2 hl']
    split
    · rename_i hy
      have : m = [] := by simpa [ints] using hy
      subst this
      exact ⟨_, _, rfl, by rw [List.append_nil]; exact .inr ⟨k, rfl, h1, h2, h3⟩, .refl _ _⟩
    · simp only [appP, h1, if_true]
      refine ⟨_, _, rfl, .inr ⟨hs.nt, by rw [ei], by simp, by simp, hn⟩, ⟨by simp, fun j hj ht => ?_, ⟨rfl, rfl⟩⟩⟩
      have : ¬ j = k := by omega
      simp [ht, this]
theorem OwnE.asI {n0 : Nat} {hs : HS} {x : AV} {l : List Int} (h : OwnE n0 hs x l) (hl : l.length < 4294967296) : Fw.asI x = some l := by
  rcases h with rfl | ⟨k, rfl, _⟩ <;> exact asI_sl hl
end Go.Proofs.YtdcpkgedaflnmaaDoor.Se
set_option linter.unusedVariables false
set_option linter.unusedSimpArgs false
namespace Go.Proofs.YtdcpkgedaflnmaaDoor.Se
open Go Fw

theorem IsU8.inj {x : AV} {a b : List Int} (h : IsU8 x a) (k : IsU8 x b) : a = b := by
  rcases h.1 with ⟨rfl, rfl⟩ | rfl
  · rcases k.1 with ⟨_, rfl⟩ | e
    · rfl
    · cases e
  · rcases k.1 with ⟨e, _⟩ | e
    · cases e
    · injection e with e1 e2 e3
      have : ∀ {a b : List Int}, a.map (AV.int .u8) = b.map (AV.int .u8) → a = b := by
        intro a
        induction a with
        | nil => intro b h; cases b with | nil => rfl | cons c b => simp at h
        | cons c a ih =>
          intro b h
          cases b with
          | nil => simp at h
          | cons d b => simp at h; rw [h.1, ih (by simpa using h.2)]
      exact this e2
end Go.Proofs.YtdcpkgedaflnmaaDoor.Se
set_option linter.unusedVariables false
set_option linter.unusedSimpArgs false
namespace Go.Proofs.YtdcpkgedaflnmaaDoor.Se
open Go Fw

theorem p75 (a b : Nat) : PCall Tryd.prog 75 [.int .i64 (a : Int), .int .i64 (b : Int)] (.int .i64 (Nat.gcd a b : Int)) := by
  refine PCall.of CtxOk.nil ok75 (by simp) rfl fun hs hb => ?_
  simp [A75, R75]
  refine At.loop (fun (q : Nat × Nat) s => Nat.gcd a b = Nat.gcd q.1 q.2 ∧ s.env 0 = .int .i64 (q.1 : Int) ∧ s.env 1 = .int .i64 (q.2 : Int)) (fun q => q.2) (a, b) ?_ ?_
  · simp
  rintro N ⟨c, d⟩ s hN ⟨hg, e0, e1⟩
  simp only at hg e0 e1 hN
  simp [e1]
  refine At.dec (fun hlt => ?_) (fun hlt => ?_)
  · have hd : 0 < d := by omega
    have r9 : abin 0 .rem (.int .i64 (c : Int)) (.int .i64 (d : Int)) = some (.int .i64 ((c % d : Nat) : Int)) := rem64 hd
    have hm := Nat.mod_lt c hd
    have hgc : Nat.gcd a b = Nat.gcd d (c % d) := by rw [hg, Nat.gcd_comm c d, Nat.gcd_rec d c, Nat.gcd_comm]
    obtain ⟨w, hw⟩ : ∃ w : Int, w = ((c % d : Nat) : Int) := ⟨_, rfl⟩
    rw [← hw] at r9
    simp [e0, e1, r9, -abin_rem]
    refine hN (d, c % d) _ (by simpa using hm) ⟨hgc, ?_⟩
    simp [hw]
  · have : d = 0 := by omega
    subst this
    simp [e0, hg]
/-- the numbers of a computed table -/
def linR (b st s : Nat) : List Int := (List.range b).map fun d => ((st * s + d) % b : Nat)
def linT (b st : Nat) : List (List Int) := (List.range b).map (linR b st)
theorem linR_len (b st s : Nat) : (linR b st s).length = b := by simp [linR]
theorem linT_len (b st : Nat) : (linT b st).length = b := by simp [linT]
set_option maxHeartbeats 1000000 in
theorem p40 {n st : Nat} (h1 : 2 ≤ n) (hn : n ≤ 10) (hs1 : 1 ≤ st) (hs2 : st < n) (hg : Nat.gcd n st = 1) : PCall Tryd.prog 40 [.int .i64 (n : Int), .int .i64 (st : Int)] (.tup [madV (linT n st), .int .i64 0]) := by
  obtain ⟨C, hC, h75, hne⟩ := ctx_pt E1ok 75 _ _ (p75 n st)
  rw [hg] at h75
  have h72 : C 72 = SB := by rw [hne 72 (by decide)]; rfl
  have b1 : btw 2 (n : Int) 10 = true := btw_iff.2 ⟨by omega, by omega⟩
  have b2 : btw 1 (st : Int) ((n : Int) - 1) = true := btw_iff.2 ⟨by omega, by omega⟩
  have w1 : IntKind.i64.wrap ((n : Int) - 1) = (n : Int) - 1 := wrap64 (by omega) (by omega)
  have hmk : ∀ hs : HS, amake false 1 [.nilsl] hs (.int .i64 (n : Int)) (.int .i64 (n : Int)) = some (.msl false 1 hs.nh 0 n true, hs.blk (List.replicate n .nilsl)) := fun hs => amake_eq (by omega)
  refine PCall.ofZ hC ok40 (by simp) (by simp [AV.plain, plainL, madV_plain]) fun hs hb => ?_
  generalize hq : hs.nh = q at hmk
  simp [A40, R40, h75, h72, b1, b2, w1, hmk, hq]
  refine At.loop (fun (i : Nat) s => i ≤ n ∧ s.env 0 = .int .i64 (n : Int) ∧ s.env 1 = .int .i64 (st : Int) ∧ s.env 6 = .msl false 1 q 0 n true ∧ s.env 28 = .int .i64 (n : Int) ∧ s.env 29 = .int .i64 (i : Int) ∧
    ∃ cs, s.hs.heap q = some cs ∧ cs.length = n ∧ (∀ j (h : j < cs.length), j < i → ∃ k, cs[j] = .sl 1 (ints (linR n st j)) (.own k)) ∧ (∀ j (h : j < cs.length), i ≤ j → cs[j] = .nilsl)) (fun i => n - i) 0 ?_ ?_
  · exact ⟨by omega, by simp, by simp, by simp, by simp, by simp, List.replicate n .nilsl, by simp [← hq], by simp, fun j h hj => by omega, fun j h _ => by simp⟩
  rintro N i s hN ⟨hi, e0, e1, e6, e28, e29, cs, hh, hl, hd, hz⟩
  simp [e28, e29]
  refine At.dec (fun hlt => ?_) (fun hlt => ?_)
  · have hi' : i < n := by omega
    simp [e0, e29]
    refine At.loop (fun (k : Nat) s => k ≤ n ∧ s.env 0 = .int .i64 (n : Int) ∧ s.env 1 = .int .i64 (st : Int) ∧ s.env 6 = .msl false 1 q 0 n true ∧ s.env 28 = .int .i64 (n : Int) ∧ s.env 29 = .int .i64 (i : Int) ∧ s.env 7 = .int .i64 (i : Int) ∧ s.env 32 = .int .i64 (n : Int) ∧ s.env 33 = .int .i64 (k : Int) ∧
      ∃ cs, ∃ hl : cs.length = n, s.hs.heap q = some cs ∧ (∀ j (h : j < cs.length), j < i → ∃ k, cs[j] = .sl 1 (ints (linR n st j)) (.own k)) ∧ Outs 1 s.hs (cs[i]'(by omega)) (ints ((linR n st i).take k)) ∧ (∀ j (h : j < cs.length), i < j → cs[j] = .nilsl)) (fun k => n - k) 0 ?_ ?_
    · exact ⟨by omega, by simp [e0], by simp [e1], by simp [e6], by simp [e28], by simp [e29], by simp, by simp, by simp, cs, hl, by simp [hh], hd, by rw [hz i (by omega) (Nat.le_refl _)]; exact .nil, fun j h hj => hz j h (by omega)⟩
    rintro N2 k s2 hN2 ⟨hk, f0, f1, f6, f28, f29, f7, f32, f33, cs2, gl, gh, gd, go, gz⟩
    simp [f32, f33]
    refine At.dec (fun hlt2 => ?_) (fun hlt2 => ?_)
    · have hk' : k < n := by omega
      have hi2 : i < cs2.length := by omega
      have x1 : aidxS 1 (.msl false 1 q 0 n true) (.int .i64 (i : Int)) = some (.ref q i) := aidx_msln hi'
      have ld : aload s2.hs.heap false 1 (.ref q i) = some cs2[i] := load_cell gh hi2
      have hmul : st * i ≤ 100 := Nat.mul_le_mul (show st ≤ 10 by omega) (show i ≤ 10 by omega)
      have wm : IntKind.i64.wrap ((st : Int) * (i : Int)) = ((st * i : Nat) : Int) := by rw [← Int.natCast_mul]; exact wrap_nat (by omega)
      have wa : IntKind.i64.wrap (((st * i : Nat) : Int) + (k : Int)) = ((st * i + k : Nat) : Int) := by rw [wrap64 (by omega) (by omega)]; omega
      have r9 : abin 0 .rem (.int .i64 ((st * i + k : Nat) : Int)) (.int .i64 (n : Int)) = some (.int .i64 (((st * i + k) % n : Nat) : Int)) := rem64 (by omega)
      have hrl : ((linR n st i).take k).length ≤ 1000000 := by rw [List.length_take, linR_len]; omega
      obtain ⟨y, hs', ap, o2, sm⟩ := go.add1 hrl (((st * i + k) % n : Nat) : Int)
      have hnx : (linR n st i).take k ++ [(((st * i + k) % n : Nat) : Int)] = (linR n st i).take (k + 1) := by
        rw [take_snoc (by rw [linR_len]; omega)]
        congr 1
        simp [linR]
      rw [hnx] at o2
      have yl : y.leaf = true := by
        rcases o2.inv with ⟨rfl, _⟩ | ⟨xs, k', rfl, _⟩ <;> rfl
      have stt : astore hs'.heap 1 (.ref q i) y = _ := store_cell (by rw [sm.heap]; exact gh) hi2 yl
      generalize (((st * i + k) % n : Nat) : Int) = g2 at *
      generalize ((st * i + k : Nat) : Int) = g3 at *
      generalize ((st * i : Nat) : Int) = g4 at *
      simp [f0, f1, f6, f7, f33, x1, ld, wm, wa, r9, astoAll, ap, stt, -abin_rem]
      refine hN2 (k + 1) _ (by omega) ⟨by omega, by simp [f0], by simp [f1], by simp [f6], by simp [f28], by simp [f29], by simp [f7], by simp [f32], by simp [wrap_nat1 (show k < _ by omega)], cs2.set i y, by rw [List.length_set]; exact gl, by simp, fun j h hj => ?_, ?_, fun j h hj => ?_⟩
      · rw [List.length_set] at h
        rw [List.getElem_set_ne (by omega)]; exact gd j h hj
      · rw [List.getElem_set_self]
        exact o2.cong rfl rfl
      · rw [List.length_set] at h
        rw [List.getElem_set_ne (by omega)]; exact gz j h hj
    · have hk' : k = n := by omega
      simp [f29]
      refine hN (i + 1) _ (by omega) ⟨by omega, by simp [f0], by simp [f1], by simp [f6], by simp [f28], by simp [wrap_nat1 (show i < _ by omega)], cs2, by simp [gh], gl, fun j h hj => ?_, fun j h hj => gz j h (by omega)⟩
      by_cases hji : j = i
      · subst hji
        rw [hk', List.take_of_length_le (by rw [linR_len]; exact Nat.le_refl _)] at go
        rcases go.inv with ⟨_, h2⟩ | ⟨xs, k', h1, _, h3, _⟩
        · have := congrArg List.length h2
          rw [ints_len, linR_len, List.length_nil] at this
          omega
        · exact ⟨k', by rw [h1, share_ints_inv h3]⟩
      · exact gd j h (by omega)
  · have hi' : i = n := by omega
    subst hi'
    simp [e6]
    have hfr : (frzL s.hs.heap 2 (.msl false 1 q 0 i true)).share = madV (linT i st) := by
      rw [frzL_msl hh (mcont_full hl)]
      simp only [if_true, share_sl, madV, capshare_e, List.map_map]
      congr 1
      apply List.ext_getElem
      · simp [hl, linT_len]
      · intro j h1 h2
        have h3 : j < cs.length := by simpa using h1
        obtain ⟨k, hk⟩ := hd j h3 (by omega)
        have : frzC (frzL s.hs.heap 1) (.sl 1 (ints (linR i st j)) (.own k)) = .sl 1 (ints (linR i st j)) (.own k) := frzC_noM (noM_ints _ _ _) rfl
        simp [hk, this, linT, shR]
    simpa using hfr
/-! which tables are good -/
end Go.Proofs.YtdcpkgedaflnmaaDoor.Se
