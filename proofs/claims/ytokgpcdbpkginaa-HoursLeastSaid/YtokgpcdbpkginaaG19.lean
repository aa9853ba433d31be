/-
  HoursLeast, walked. Own work.
-/
import Derived.Test.YtokgpcdbpkginaaG18
import Derived.Test.YtokgpcdbpkginaaG5
import Derived.KernelRfl
set_option linter.unusedVariables false
set_option linter.unusedSimpArgs false
namespace Go.Proofs.Ytokgpcdbpkginaa
open Go Fw

def A6m : ACode := .seq (.reg [⟨some 1, none, .boxm (.t 0)⟩, ⟨some 2, none, .mv (.c (.bool false))⟩])
  (.seq (.reg [⟨some 14, none, .faddr false 1 0 (.t 1)⟩, ⟨some 15, none, .load false 1 (.t 14)⟩, ⟨some 16, none, .bin 0 .rem (.t 15) (.c (.int .u8 2))⟩, ⟨some 17, none, .faddr false 1 0 (.t 1)⟩, ⟨none, none, .store 1 (.t 17) (.t 16)⟩])
  (.seq (.reg [⟨some 18, none, .faddr false 1 1 (.t 1)⟩, ⟨some 19, none, .load false 1 (.t 18)⟩, ⟨some 20, none, .bin 0 .rem (.t 19) (.c (.int .u8 3))⟩, ⟨some 21, none, .faddr false 1 1 (.t 1)⟩, ⟨none, none, .store 1 (.t 21) (.t 20)⟩])
  (.seq (.reg [⟨some 23, none, .load true 19 (.t 1)⟩, ⟨some 24, none, .pcall 30 [.t 23, .c (.int .i64 2)]⟩, ⟨some 22, none, .mv (.t 24)⟩, ⟨some 25, none, .extract (.t 22) 0⟩, ⟨some 26, none, .extract (.t 22) 1⟩, ⟨some 4, none, .alloc [.int .i64 0]⟩, ⟨some 3, none, .mv (.t 25)⟩, ⟨none, none, .store 1 (.t 4) (.t 26)⟩])
  (.seq (.reg [⟨some 27, none, .mem .mkmap []⟩, ⟨some 5, none, .alloc [.nilmp]⟩, ⟨none, none, .store 1 (.t 5) (.t 27)⟩])
  (.seq (.reg [⟨some 6, none, .alloc [.nilfn]⟩])
  (.seq (.reg [⟨some 28, none, .mkfn (.func 31) [] [.t 5, .t 4, .t 6]⟩, ⟨none, none, .store 1 (.t 6) (.t 28)⟩])
  (.seq (.reg [⟨some 7, none, .alloc [.int .i64 0, .int .i64 0, .int .i64 0, .int .i64 0, .int .i64 0, .int .i64 0]⟩])
  (.seq (.seq (.reg [⟨some 29, none, .mv (.t 3)⟩, ⟨some 30, none, .len false (.t 29)⟩, ⟨some 31, none, .mv (.c (.int .i64 0))⟩])
  (.block 0 (.loop (.seq (.reg [⟨some 32, none, .bin 0 .lss (.t 31) (.t 30)⟩])
  (.seq (.cond (.t 32) (.skip) (.exit 0))
  (.seq (.block 1 (.seq (.reg [⟨some 33, none, .mv (.t 31)⟩, ⟨some 34, none, .iaddrS 1 (.t 29) (.t 31)⟩, ⟨some 35, none, .load false 1 (.t 34)⟩, ⟨some 8, none, .mv (.t 33)⟩, ⟨some 9, none, .mv (.t 35)⟩])
  (.seq (.reg [⟨some 36, none, .mv (.t 9)⟩, ⟨some 37, none, .len false (.t 36)⟩, ⟨some 38, none, .mv (.c (.int .i64 0))⟩])
  (.block 2 (.loop (.seq (.reg [⟨some 39, none, .bin 0 .lss (.t 38) (.t 37)⟩])
  (.seq (.cond (.t 39) (.skip) (.exit 2))
  (.seq (.block 3 (.seq (.reg [⟨some 40, none, .mv (.t 38)⟩, ⟨some 41, none, .iaddrS 1 (.t 36) (.t 38)⟩, ⟨some 42, none, .load false 1 (.t 41)⟩, ⟨some 10, none, .mv (.t 40)⟩, ⟨some 11, none, .mv (.t 42)⟩])
  (.reg [⟨some 43, none, .mv (.t 8)⟩, ⟨some 44, none, .bin 0 .mul (.c (.int .i64 3)) (.t 43)⟩, ⟨some 45, none, .mv (.t 10)⟩, ⟨some 46, none, .bin 0 .add (.t 44) (.t 45)⟩, ⟨some 47, none, .mv (.t 11)⟩, ⟨some 48, none, .iaddrA 6 false 1 (.t 7) (.t 46)⟩, ⟨none, none, .store 1 (.t 48) (.t 47)⟩])))
  (.reg [⟨some 49, none, .bin 0 .add (.t 38) (.c (.int .i64 1))⟩, ⟨some 38, none, .mv (.t 49)⟩])))))))))
  (.reg [⟨some 50, none, .bin 0 .add (.t 31) (.c (.int .i64 1))⟩, ⟨some 31, none, .mv (.t 50)⟩])))))))
  (.seq (.reg [⟨some 52, none, .mv (.t 3)⟩, ⟨some 53, none, .load false 1 (.t 4)⟩, ⟨some 54, none, .lcall 32 [.t 52, .t 53]⟩, ⟨some 51, none, .mv (.t 54)⟩, ⟨some 55, none, .extract (.t 51) 0⟩, ⟨some 56, none, .extract (.t 51) 1⟩, ⟨some 12, none, .mv (.t 55)⟩, ⟨some 13, none, .mv (.t 56)⟩])
  (.seq (.reg [⟨some 57, none, .mv (.t 13)⟩, ⟨some 58, none, .bin 0 .eql (.t 57) (.c (.int .i64 0))⟩, ⟨some 59, none, .mv (.t 58)⟩, ⟨some 60, some (59, true), .mv (.t 12)⟩, ⟨some 61, some (59, true), .load false 1 (.t 6)⟩, ⟨some 62, some (59, true), .load true 6 (.t 7)⟩, ⟨some 63, some (59, true), .callv (.t 61) [.t 62]⟩, ⟨some 64, some (59, true), .bin 0 .eql (.t 60) (.t 63)⟩, ⟨some 65, none, .pick (.t 59) (.t 64) (.c (.bool false))⟩, ⟨some 66, none, .mv (.t 65)⟩, ⟨some 67, some (66, true), .pcall 15 []⟩, ⟨some 68, none, .pick (.t 66) (.t 67) (.c (.bool false))⟩, ⟨some 2, none, .mv (.t 68)⟩])
  (.ret)))))))))))
def R6m : List ARes := [.t 2]
theorem ok6m : FnOk Try.prog 6 [1] pureFns A6m R6m 69 := ⟨⟨Try.f6, _, Try.func6, rfl, rfl, by kernel_rfl, by kernel_rfl⟩, by kernel_rfl⟩
theorem uL_set (u : Nat → Nat) {a n : Nat} : (uL u).set a (.int .u8 (n : Int)) = uL (fun t => if t = a then n else u t) := by
  apply List.ext_getElem
  · simp [uL_len]
  · intro t h1 h2
    rw [List.getElem_set]
    simp only [uL, List.getElem_map, List.getElem_range]
    by_cases e : a = t
    · subst e; rw [if_pos rfl, if_pos rfl]
    · rw [if_neg e, if_neg (Ne.symm e)]
theorem i6_put (v : Nat → Nat) {a n : Nat} : (i6 v).set a (.int .i64 (n : Int)) = i6 (fun t => if t = a then n else v t) := by
  apply List.ext_getElem
  · simp [i6_len]
  · intro t h1 h2
    rw [List.getElem_set, i6_get, i6_get]
    by_cases e : a = t
    · subst e; rw [if_pos rfl, if_pos rfl]
    · rw [if_neg e, if_neg (Ne.symm e)]
def u2 (u : Nat → Nat) (t : Nat) : Nat := if t = 1 then u 1 % 3 else if t = 0 then u 0 % 2 else u t
def hE (u : Nat → Nat) (t : Nat) : Nat := u2 u (3 + (4 * (t / 3) + t % 3)) % 3
theorem hE_lt (u : Nat → Nat) (t : Nat) : hE u t < 3 := Nat.mod_lt _ (by omega)
theorem mU_sm (u : Nat → Nat) (hc : cN (u2 u) ≤ 3) : mU (u2 u) 2 = smM (rN (u2 u)) (cN (u2 u)) (hE u) := by
  unfold mU rowU smM
  apply List.map_congr_left
  intro i _
  apply List.map_congr_left
  intro k hk
  have hk := List.mem_range.1 hk
  unfold hrN hE
  rw [show (3 * i + k) / 3 = i by omega, show (3 * i + k) % 3 = k by omega]
/-- filled: i rows, and k numbers of the next one -/
def pfN (C : Nat) (h : Nat → Nat) (i k t : Nat) : Nat := if (t / 3 < i ∧ t % 3 < C) ∨ (t / 3 = i ∧ t % 3 < k) then h t else 0
theorem MI.st {hs : HS} {kq sq fq km S b : Nat} {ys : List AV} (h : MI hs kq sq fq km S) (h1 : kq ≠ b) (h2 : sq ≠ b) (h3 : fq ≠ b) : MI ⟨fun k => if k = b then some ys else hs.heap k, hs.nh, hs.nt, hs.tok, hs.mp⟩ kq sq fq km S :=
  ⟨by simp only; rw [if_neg h1]; exact h.k, by simp only; rw [if_neg h2]; exact h.s, by simp only; rw [if_neg h3]; exact h.f, h.m, h.lk, h.ls, h.lf, h.lm⟩
set_option maxHeartbeats 2000000 in
theorem p6 (u : Nat → Nat) (hu : ∀ j, u j < 256) : PCall Try.prog 6 [benV u] (.bool true) := by
  have hu2 : ∀ j, u2 u j < 256 := fun j => by
    have := hu j
    unfold u2; split <;> (try split) <;> omega
  have q30 := p30 (u2 u) hu2 (most := 2) (by omega)
  have hx := isMU (u2 u) 2
  have hw := mU_ok (u2 u) (most := 2) (by omega)
  have hS := sN_bd (u2 u)
  have hR : 1 ≤ rN (u2 u) ∧ rN (u2 u) ≤ 2 := by unfold rN u2; simp; omega
  have hC : 1 ≤ cN (u2 u) ∧ cN (u2 u) ≤ 3 := by unfold cN u2; simp; omega
  have hml := mU_len (u2 u) 2
  have hms := mU_sm u hC.2
  have hshort := short_g6 hS hR hC (h := hE u) (fun t _ => hE_lt u t)
  rw [← hms] at hshort
  have hcols : cols (mU (u2 u) 2) = cN (u2 u) := by
    have := hw.len (i := 0) (by omega)
    rw [mU_get, rowU_len] at this; exact this.symm
  have hel : ∀ i k (h1 : i < (mU (u2 u) 2).length) (h2 : k < (mU (u2 u) 2)[i].length), k < 3 → (mU (u2 u) 2)[i][k] = (hE u (3 * i + k) : Int) := fun i k h1 h2 h3 => by
    have e1 : (mU (u2 u) 2)[i][k] = hrN (u2 u) 2 i k := by simp [mU, rowU]
    rw [e1]
    unfold hrN hE
    rw [show (3 * i + k) / 3 = i by omega, show (3 * i + k) % 3 = k by omega]
  generalize hM : mU (u2 u) 2 = m at *
  generalize hX : madV m = x at *
  generalize hRR : (fun i => shR (m.getD i [])) = R at *
  generalize hr : rN (u2 u) = r at *
  generalize hc : cN (u2 u) = c at *
  generalize hSN : sN (u2 u) = S at *
  have q32 := p32 hx (S : Int)
  rw [shV_ok hw (by omega)] at q32
  obtain ⟨E, hE', e30, e15, e32⟩ : ∃ E, CtxOk Try.prog E ∧ E 30 [benV (u2 u), .int .i64 2] = some (.tup [x, .int .i64 (S : Int)]) ∧ E 15 [] = some (.bool true) ∧ E 32 [x, .int .i64 (S : Int)] = some (.tup [.int .i64 (short m (S : Int)), .int .i64 0]) :=
    ⟨_, ((D0ok.pt q30).pt p15).pt q32, by simp, by simp, by simp⟩
  have a32 : ∀ hs, alcall E 32 hs [x, .int .i64 (S : Int)] = some (.tup [.int .i64 (short m (S : Int)), .int .i64 0]) := fun hs => alcall_of (by simp [hx.frz, e32]) rfl
  refine PCall.of hE' ok6m (by simp) rfl fun hs hb => ?_
  have hsb : (benV u).sto = true := rfl
  have hcb : (benV u).cells = uL u := rfl
  have l0 : ∀ (hp : Nat → Option (List AV)) q (w : Nat → Nat) t, hp q = some (uL w) → t < 19 → aload hp false 1 (.ref q t) = some (.int .u8 (w t : Int)) := fun hp q w t h ht => by
    rw [load_cell h (by rw [uL_len]; exact ht)]; simp [uL]
  have s0 : ∀ (hp : Nat → Option (List AV)) q (w : Nat → Nat) t n, hp q = some (uL w) → t < 19 → astore hp 1 (.ref q t) (.int .u8 ((n : Nat) : Int)) = some (fun k => if k = q then some (uL (fun j => if j = t then n else w j)) else hp k) := fun hp q w t n h ht => by
    rw [store_cell h (by rw [uL_len]; exact ht) rfl, uL_set]
  have lb : ∀ (hp : Nat → Option (List AV)) q (w : Nat → Nat), hp q = some (uL w) → aload hp true 19 (.ref q 0) = some (benV w) := fun hp q w h => by
    simp only [aload, h, Option.bind_some, apart, if_true, uL_len, Nat.zero_add, Nat.le_refl, List.drop_zero]
    rw [List.take_of_length_le (by rw [uL_len]; exact Nat.le_refl _)]; rfl
  have t0 : (u 0 : Int).tmod 2 = ((u 0 % 2 : Nat) : Int) := rfl
  have t1 : (u 1 : Int).tmod 3 = ((u 1 % 3 : Nat) : Int) := rfl
  generalize hn0 : u 0 % 2 = n0 at t0
  generalize hn1 : u 1 % 3 = n1 at t1
  generalize hq : hs.nh = q at *
  have a1 := l0 (fun i => if i = q then some (uL u) else hs.heap i) q u 0 (by simp) (by omega)
  have a2 := s0 (fun i => if i = q then some (uL u) else hs.heap i) q u 0 n0 (by simp) (by omega)
  have a3 := l0 (fun i => if i = q then some (uL fun j => if j = 0 then n0 else u j) else if i = q then some (uL u) else hs.heap i) q (fun j => if j = 0 then n0 else u j) 1 (by simp) (by omega)
  have a4 := s0 (fun i => if i = q then some (uL fun j => if j = 0 then n0 else u j) else if i = q then some (uL u) else hs.heap i) q (fun j => if j = 0 then n0 else u j) 1 n1 (by simp) (by omega)
  have hu2e : (fun j => if j = 1 then n1 else (fun j => if j = 0 then n0 else u j) j) = u2 u := by funext j; simp only [u2, hn0, hn1]
  rw [hu2e] at a4
  simp [A6m, R6m, hsb, hcb, hq, fa, a1, a2, a3, a4, t0, t1]
  rw [lb _ q (u2 u) (by simp)]
  generalize (fun k => if k = q then some (uL (u2 u)) else if k = q then some (uL fun j => if j = 0 then n0 else u j) else if k = q then some (uL u) else hs.heap k) = hp0
  have sF : ∀ (hp : Nat → Option (List AV)) (b : Nat) (y v : AV), v.leaf = true → astore (fun k => if k = b then some [y] else hp k) 1 (.ref b 0) v = some (fun k => if k = b then some [v] else if k = b then some [y] else hp k) := fun hp b y v hv => by
    have := store_cell (hp := fun k => if k = b then some [y] else hp k) (i := b) (o := 0) (ys := [y]) (v := v) (by simp) (by simp) hv
    simpa using this
  have lI : ∀ (k : IntKind) (n : Int), (AV.int k n).leaf = true := fun _ _ => rfl
  have lM : ∀ i, (AV.mp i).leaf = true := fun _ => rfl
  have lF : ∀ f xs ys, (AV.fn f xs ys).leaf = true := fun _ _ _ => rfl
  simp [e30, sF, lI, lM, lF, amem, hx.len]
  refine At.loop (fun (i : Nat) s => i ≤ m.length ∧ s.env 3 = x ∧ s.env 4 = .ref (q + 1) 0 ∧ s.env 6 = .ref (q + 1 + 1 + 1 + 1) 0 ∧ s.env 7 = .ref (q + 1 + 1 + 1 + 1 + 1) 0 ∧ s.env 29 = x ∧ s.env 30 = .int .i64 (m.length : Int) ∧ s.env 31 = .int .i64 (i : Int) ∧
    MI s.hs (q + 1 + 1 + 1) (q + 1) (q + 1 + 1 + 1 + 1) (q + 1 + 1) S ∧ s.hs.heap (q + 1 + 1 + 1 + 1 + 1) = some (i6 (pfN c (hE u) i 0))) (fun i => m.length - i) 0 ?_ ?_
  · refine ⟨by omega, by simp, by simp, by simp, by simp, by simp, by simp, by simp, ⟨by simp, by simp, by simp, ⟨[], by simp, fun e he => by simp at he⟩, by simp, by simp, by simp, by simp⟩, ?_⟩
    simp
    have : i6 (pfN c (hE u) 0 0) = i6 fun _ => 0 := i6_cong fun t _ => by unfold pfN; rw [if_neg (by omega)]
    rw [this]
    simp [i6, List.range_succ]
  rintro N i s hN ⟨hi, e3, e4, e6, e7, e29, e30', e31, mi, hbk⟩
  simp [e30', e31]
  refine At.dec (fun hlt => ?_) (fun hlt => ?_)
  · have hi' : i < m.length := by omega
    have hi2 : i < 2 := by omega
    have hrow := hw.rows hx hi'
    have hil := hw.len hi'
    rw [hcols] at hil
    simp [e29, e31, hx.get hi', hx.ld hi', alen_of hrow, hil]
    refine At.loop (fun (k : Nat) s => k ≤ c ∧ s.env 3 = x ∧ s.env 4 = .ref (q + 1) 0 ∧ s.env 6 = .ref (q + 1 + 1 + 1 + 1) 0 ∧ s.env 7 = .ref (q + 1 + 1 + 1 + 1 + 1) 0 ∧ s.env 29 = x ∧ s.env 30 = .int .i64 (m.length : Int) ∧ s.env 31 = .int .i64 (i : Int) ∧ s.env 8 = .int .i64 (i : Int) ∧ s.env 36 = R i ∧ s.env 37 = .int .i64 (c : Int) ∧ s.env 38 = .int .i64 (k : Int) ∧
      MI s.hs (q + 1 + 1 + 1) (q + 1) (q + 1 + 1 + 1 + 1) (q + 1 + 1) S ∧ s.hs.heap (q + 1 + 1 + 1 + 1 + 1) = some (i6 (pfN c (hE u) i k))) (fun k => c - k) 0 ?_ ?_
    · exact ⟨by omega, by simp [e3], by simp [e4], by simp [e6], by simp [e7], by simp [e29], by simp [e30'], by simp [e31], by simp, by simp, by simp, by simp, by simpa using mi, by simp [hbk]⟩
    clear e3 e4 e6 e7 e29 e30' e31 mi hbk
    rintro N2 k s hN2 ⟨hk, e3, e4, e6, e7, e29, e30', e31, e8, e36, e37, e38, mi, hbk⟩
    simp [e37, e38]
    refine At.dec (fun hlt2 => ?_) (fun hlt2 => ?_)
    · have hk' : k < c := by omega
      have hk3 : k < 3 := by omega
      have hkr : k < (m[i]).length := by omega
      have hval := hel i k hi' hkr hk3
      have hix := aidx_nat (k := .i64) hrow hkr
      rw [hval] at hix
      have w1 : IntKind.i64.wrap (3 * (i : Int)) = 3 * (i : Int) := wrap64 (by omega) (by omega)
      have w2 : IntKind.i64.wrap (3 * (i : Int) + (k : Int)) = 3 * (i : Int) + (k : Int) := wrap64 (by omega) (by omega)
      have xa : aidxA 6 false 1 (.ref (q + 1 + 1 + 1 + 1 + 1) 0) (.int .i64 (3 * (i : Int) + (k : Int))) = some (.ref (q + 1 + 1 + 1 + 1 + 1) (3 * i + k)) := by
        have := ix6 (c := q + 1 + 1 + 1 + 1 + 1) (t := 3 * i + k) (by omega)
        rw [Int.natCast_add, Int.natCast_mul] at this; exact this
      have st := store_cell (o := 3 * i + k) (v := .int .i64 (hE u (3 * i + k) : Int)) hbk (by rw [i6_len]; omega) rfl
      have hset : i6 (fun t => if t = 3 * i + k then hE u (3 * i + k) else pfN c (hE u) i k t) = i6 (pfN c (hE u) i (k + 1)) := i6_cong fun t ht => by
        unfold pfN
        by_cases e : t = 3 * i + k
        · subst e
          rw [if_pos rfl, if_pos (.inr ⟨by omega, by omega⟩)]
        · rw [if_neg e]
          by_cases h1 : (t / 3 < i ∧ t % 3 < c) ∨ (t / 3 = i ∧ t % 3 < k)
          · rw [if_pos h1, if_pos (by omega)]
          · rw [if_neg h1, if_neg (by omega)]
      rw [i6_put, hset] at st
      generalize hz : i6 (pfN c (hE u) i (k + 1)) = z at *
      simp [e7, e8, e36, e38, hix, w1, w2, xa, st]
      refine hN2 (k + 1) _ (by omega) ⟨by omega, by simp [e3], by simp [e4], by simp [e6], by simp [e7], by simp [e29], by simp [e30'], by simp [e31], by simp [e8], by simp [e36], by simp [e37], by simp [wrap_nat1 (show k < _ by omega)], by simpa using mi.st (b := q + 1 + 1 + 1 + 1 + 1) (ys := z) (by omega) (by omega) (by omega), by simp [hz]⟩
    · have hk' : k = c := by omega
      subst hk'
      have he : i6 (pfN k (hE u) i k) = i6 (pfN k (hE u) (i + 1) 0) := i6_cong fun t _ => by
        unfold pfN
        by_cases h1 : (t / 3 < i ∧ t % 3 < k) ∨ (t / 3 = i ∧ t % 3 < k)
        · rw [if_pos h1, if_pos (by omega)]
        · rw [if_neg h1, if_neg (by omega)]
      rw [he] at hbk
      simp [e31]
      exact hN (i + 1) _ (by omega) ⟨by omega, by simp [e3], by simp [e4], by simp [e6], by simp [e7], by simp [e29], by simp [e30'], by simp [wrap_nat1 (show i < _ by omega)], by simpa using mi, by simp [hbk]⟩
  · have hi' : i = m.length := by omega
    subst hi'
    have he : i6 (pfN c (hE u) m.length 0) = i6 (lfN r c (hE u)) := i6_cong fun t _ => by
      unfold pfN lfN
      by_cases h1 : t / 3 < r ∧ t % 3 < c
      · rw [if_pos (.inl ⟨by omega, h1.2⟩), if_pos h1]
      · rw [if_neg (by omega), if_neg h1]
    rw [he] at hbk
    have hans := ans6 (kq := q + 1 + 1 + 1) (sq := q + 1) (fq := q + 1 + 1 + 1 + 1) (km := q + 1 + 1) (S := S) (by omega) _ (lfN r c (hE u)) rfl (fun t _ => by
      have := hE_lt u t
      unfold lfN; split <;> omega)
    simp [e3, e4, e6, e7, load_one mi.s, load_one mi.f, a32, ld6 hbk]
    refine At.hc (hans _ (by simpa using mi)) ?_ (fun _ _ h => by cases h.1)
    rintro v hs2 ⟨hv, _⟩
    injection hv with hv; subst hv
    simp [hshort, e15]
theorem least_typed (xs : List AV) (h : Typed [TBe] xs) : PCall Try.prog 6 xs (.bool true) := by
  obtain ⟨x, rfl, h1⟩ := h.one
  obtain ⟨u, hu, rfl⟩ := ben_typed h1
  exact p6 u hu
end Go.Proofs.Ytokgpcdbpkginaa
