/-
  Shelves. Own work.
  All lists of small numbers, one after the other. Own work.
  Racks that no motion moves: all motions are tried. Own work.
  Rigid racks, walked. Own work.
  Rigid racks are the stiff ones. Own work.
  The law of needed braces. Own work.
  The law of stiff racks: sets that no arrow leaves. Own work.
-/
import Derived.Test.YtecbbbocjmdfgaaG4
import Derived.Test.YtecbbbocjmdfgaaFw4
set_option linter.unusedVariables false
set_option linter.unusedSimpArgs false
namespace Go.Proofs.Ytecbbbocjmdfgaa
open Go Fw

abbrev Nt := Nat × Nat × Nat
def t3 (t : Nt) : AV := .agg [.int .u8 (t.1 : Int), .int .u8 (t.2.1 : Int), .int .u8 (t.2.2 : Int)]
/-- a shelf that came in -/
structure IsSh (x : AV) (a b : Nat) (l : List Nt) : Prop where
  ex : ∃ z, x = .agg [.int .u8 (a : Int), .int .u8 (b : Int), z] ∧ (z = .nilsl ∧ l = [] ∨ z = .sl 3 (l.map t3) .shared)
  a2 : a ≤ 255
  b2 : b ≤ 255
  l2 : ∀ t ∈ l, t.1 ≤ 255 ∧ t.2.1 ≤ 255 ∧ t.2.2 ≤ 255
def TSh : Ty := .st (.fcons (.int .u8) (.fcons (.int .u8) (.fcons (.sl (.ar 3 (.int .u8))) .fnil)))
theorem three_u8 {x : AV} (h : ShV (.ar 3 (.int .u8)) x) : ∃ t : Nt, x = t3 t ∧ t.1 ≤ 255 ∧ t.2.1 ≤ 255 ∧ t.2.2 ≤ 255 := by
  obtain ⟨cs, rfl, g⟩ := shv_agg rfl h
  obtain ⟨ls, rfl, g1, g2⟩ := g
  match ls, g1 with
  | [p, q, r], _ =>
    obtain ⟨u, rfl, hu⟩ := sh_int (g2 p (by simp))
    obtain ⟨v, rfl, hv⟩ := sh_int (g2 q (by simp))
    obtain ⟨w, rfl, hw⟩ := sh_int (g2 r (by simp))
    obtain ⟨u1, u2⟩ := u8_bd hu
    obtain ⟨v1, v2⟩ := u8_bd hv
    obtain ⟨w1, w2⟩ := u8_bd hw
    refine ⟨(u.toNat, v.toNat, w.toNat), ?_, by simp; omega, by simp; omega, by simp; omega⟩
    simp only [t3, List.flatten_cons, List.flatten_nil, List.append_nil, List.cons_append, List.nil_append]
    rw [Int.toNat_of_nonneg u1, Int.toNat_of_nonneg v1, Int.toNat_of_nonneg w1]
theorem shelf_typed {x : AV} (h : ShV TSh x) : ∃ a b l, IsSh x a b l := by
  obtain ⟨cs, rfl, h1⟩ := shv_agg rfl h
  obtain ⟨u, v, rfl, hu, hv⟩ := sh_cons (show Sh (.fcons _ _) cs from h1)
  obtain ⟨u2, v2, rfl, hu2, hv2⟩ := sh_cons hv
  obtain ⟨u3, v3, rfl, hu3, hv3⟩ := sh_cons hv2
  obtain ⟨a, rfl, ha⟩ := sh_int hu
  obtain ⟨b, rfl, hb⟩ := sh_int hu2
  rw [sh_nil hv3]
  obtain ⟨a1, a2⟩ := u8_bd ha
  obtain ⟨b1, b2⟩ := u8_bd hb
  have lst : ∀ xs : List AV, (∀ y ∈ xs, ShV (.ar 3 (.int .u8)) y) → ∃ l : List Nt, xs = l.map t3 ∧ ∀ t ∈ l, t.1 ≤ 255 ∧ t.2.1 ≤ 255 ∧ t.2.2 ≤ 255 := by
    intro xs
    induction xs with
    | nil => intro _; exact ⟨[], rfl, by simp⟩
    | cons y xs ih =>
      intro h
      obtain ⟨t, rfl, ht⟩ := three_u8 (h y (by simp))
      obtain ⟨l, rfl, hl⟩ := ih fun z hz => h z (by simp [hz])
      exact ⟨t :: l, rfl, fun s hs => by
        rcases List.mem_cons.1 hs with rfl | hs
        · exact ht
        · exact hl s hs⟩
  rcases (show u3 = [.nilsl] ∨ ∃ xs, u3 = [.sl (Ty.ar 3 (.int .u8)).size xs .shared] ∧ xs.length ≤ Go.maxLen ∧ ∀ x ∈ xs, ShV (.ar 3 (.int .u8)) x from hu3) with rfl | ⟨xs, rfl, hl, hx⟩
  · exact ⟨a.toNat, b.toNat, [], ⟨.nilsl, by simp [Int.toNat_of_nonneg a1, Int.toNat_of_nonneg b1], .inl ⟨rfl, rfl⟩⟩, by omega, by omega, by simp⟩
  · obtain ⟨l, rfl, hb⟩ := lst xs hx
    exact ⟨a.toNat, b.toNat, l, ⟨.sl 3 (l.map t3) .shared, by rw [Int.toNat_of_nonneg a1, Int.toNat_of_nonneg b1]; rfl, .inr rfl⟩, by omega, by omega, hb⟩
/-- the rack of a shelf -/
def mkB (r c : Nat) (cab : Bool) (t : Nt) : Br := ((t.1 % r : Nat), (t.2.1 % c : Nat), if cab = true then ((t.2.2 % 3 : Nat) : Int) else 0)
def mkL (r c : Nat) (cab : Bool) (l : List Nt) (k : Nat) : List Br := (l.take k).map (mkB r c cab)
def mkR (a b : Nat) (l : List Nt) (cab : Bool) : Rk := ⟨(1 + a % 3 : Nat), (1 + b % 3 : Nat), mkL (1 + a % 3) (1 + b % 3) cab l 9⟩
theorem mkR_ok (a b : Nat) (l : List Nt) (cab : Bool) : OkR (mkR a b l cab) := by
  refine ⟨?_, ?_, ?_, ?_, ?_⟩
  · show (1 : Int) ≤ ((1 + a % 3 : Nat) : Int); omega
  · show ((1 + a % 3 : Nat) : Int) ≤ 6; omega
  · show (1 : Int) ≤ ((1 + b % 3 : Nat) : Int); omega
  · show ((1 + b % 3 : Nat) : Int) ≤ 6; omega
  · intro x hx
    obtain ⟨t, _, rfl⟩ := List.mem_map.1 hx
    have h1 := Nat.mod_lt t.1 (show 0 < 1 + a % 3 by omega)
    have h2 := Nat.mod_lt t.2.1 (show 0 < 1 + b % 3 by omega)
    refine ⟨Int.natCast_nonneg _, ?_, Int.natCast_nonneg _, ?_, ?_, ?_⟩
    · show ((t.1 % (1 + a % 3) : Nat) : Int) < ((1 + a % 3 : Nat) : Int); exact_mod_cast h1
    · show ((t.2.1 % (1 + b % 3) : Nat) : Int) < ((1 + b % 3 : Nat) : Int); exact_mod_cast h2
    · show 0 ≤ (if cab = true then ((t.2.2 % 3 : Nat) : Int) else 0); split <;> omega
    · show (if cab = true then ((t.2.2 % 3 : Nat) : Int) else 0) ≤ 2; split <;> omega
theorem mkR_len (a b : Nat) (l : List Nt) (cab : Bool) : (mkR a b l cab).b.length ≤ 9 := by simp [mkR, mkL]; omega
theorem mkR_chk (a b : Nat) (l : List Nt) (cab : Bool) : chkR (mkR a b l cab) = 0 := chkR_zero.2 ⟨mkR_ok a b l cab, by have := mkR_len a b l cab; omega⟩
theorem mkR_rod (a b : Nat) (l : List Nt) : allRod (mkR a b l false).b = true := by
  rw [allRod_iff]
  intro x hx
  obtain ⟨t, _, rfl⟩ := List.mem_map.1 hx
  rfl
def mkV (a b : Nat) (l : List Nt) (cab : Bool) : AV := gvV (mkR a b l cab)
theorem asR_mkV (a b : Nat) (l : List Nt) (cab : Bool) : asR (mkV a b l cab) = some (mkR a b l cab) := asR_gv (by have := mkR_len a b l cab; omega)
theorem p37 {x : AV} {a b : Nat} {l : List Nt} (hx : IsSh x a b l) (cab : Bool) : PCall Try.prog 37 [x, .bool cab] (mkV a b l cab) := by
  obtain ⟨⟨z, rfl, hz⟩, ha, hb, hl⟩ := hx
  refine PCall.of D18ok ok37 (by simp) (gvV_plain _) fun hs' hbb => ?_
  have s1 : (AV.agg [.int .u8 (a : Int), .int .u8 (b : Int), z]).sto = true := rfl
  have f0 : afaddr false 1 0 (.ptr (.agg [.int .u8 (a : Int), .int .u8 (b : Int), z])) = some (.ptr (.int .u8 (a : Int))) := by simp
  have f1 : afaddr false 1 1 (.ptr (.agg [.int .u8 (a : Int), .int .u8 (b : Int), z])) = some (.ptr (.int .u8 (b : Int))) := by simp
  have f2 : afaddr false 1 2 (.ptr (.agg [.int .u8 (a : Int), .int .u8 (b : Int), z])) = some (.ptr z) := by simp
  have lz : ∀ h, aload h false 1 (.ptr z) = some z := fun h => by rcases hz with ⟨rfl, _⟩ | rfl <;> rfl
  have nz : alenK false z = some (.int .i64 (l.length : Int)) := by rcases hz with ⟨rfl, rfl⟩ | rfl <;> simp
  have iz : ∀ i (h : i < l.length), aidxS 3 z (.int .i64 (i : Int)) = some (.ptr (t3 l[i])) := fun i h => by
    rcases hz with ⟨rfl, rfl⟩ | rfl
    · simp at h
    · simp [aidxS, h]
  generalize hX : AV.agg [.int .u8 (a : Int), .int .u8 (b : Int), z] = X at *
  obtain ⟨r, hr⟩ : ∃ r, r = 1 + a % 3 := ⟨_, rfl⟩
  obtain ⟨c, hc⟩ : ∃ c, c = 1 + b % 3 := ⟨_, rfl⟩
  have c8 : ∀ n : Nat, n ≤ 255 → IntKind.i64.wrap (n : Int) = (n : Int) := fun n h => wrap8 (by omega) (by omega)
  have ra : abin 0 .rem (.int .i64 (a : Int)) (.int .i64 3) = some (.int .i64 ((a % 3 : Nat) : Int)) := rem64 (kd := 0) (k := .i64) (a := a) (b := 3) (by decide)
  have rb' : abin 0 .rem (.int .i64 (b : Int)) (.int .i64 3) = some (.int .i64 ((b % 3 : Nat) : Int)) := rem64 (kd := 0) (k := .i64) (a := b) (b := 3) (by decide)
  have w1 : IntKind.i64.wrap (1 + ((a % 3 : Nat) : Int)) = (r : Int) := by rw [wrap64 (by omega) (by omega)]; omega
  have w2 : IntKind.i64.wrap (1 + ((b % 3 : Nat) : Int)) = (c : Int) := by rw [wrap64 (by omega) (by omega)]; omega
  have hmk : mkV a b l cab = .agg [.int .i64 (r : Int), .int .i64 (c : Int), outV 3 (brs (mkL r c cab l 9))] := by rw [mkV, gvV, mkR, ← hr, ← hc]
  rw [hmk]
  have hr0 : 0 < r := by omega
  have hc0 : 0 < c := by omega
  generalize a % 3 = a3 at *
  generalize b % 3 = b3 at *
  generalize hq : hs'.nh = q
  have nq : ¬ q = q + 1 := by omega
  have nq2 : ¬ q + 1 = q := by omega
  simp [A37, R37, s1, f0, f1, c8 a ha, c8 b hb, ra, rb', w1, w2, afill, si, ci, sa, ca, setL, astore, env_none, hq, nq, nq2]
  have ix0 : ∀ t : Nt, aidxA 3 false 1 (.ptr (t3 t)) (.int .i64 0) = some (.ptr (.int .u8 (t.1 : Int))) := fun _ => rfl
  have ix1 : ∀ t : Nt, aidxA 3 false 1 (.ptr (t3 t)) (.int .i64 1) = some (.ptr (.int .u8 (t.2.1 : Int))) := fun _ => rfl
  have ix2 : ∀ t : Nt, aidxA 3 false 1 (.ptr (t3 t)) (.int .i64 2) = some (.ptr (.int .u8 (t.2.2 : Int))) := fun _ => rfl
  refine At.loop (fun (k : Nat) s => k ≤ min 9 l.length ∧ s.env 1 = .bool cab ∧ s.env 2 = .ptr X ∧ s.env 4 = .ref q 0 ∧ s.env 5 = .ref (q + 1) 0 ∧ s.env 6 = .int .i64 (k : Int) ∧ s.hs.heap q = some [.int .i64 0, .int .i64 0, .nilsl] ∧ q + 1 < s.hs.nh ∧
    ∃ y, s.hs.heap (q + 1) = some [.int .i64 (r : Int), .int .i64 (c : Int), y] ∧ Outs 3 s.hs y (brs (mkL r c cab l k))) (fun k => 9 - k) 0 ?_ ?_
  · have : mkL r c cab l 0 = [] := by simp [mkL]
    simp [nq, nq2, this]
    exact .nil
  rintro N k s hN ⟨hk, e1, e2, e4, e5, e6, hh, hnh, y, hy, ho⟩
  by_cases hkl : k < l.length ∧ k < 9
  rotate_left
  · have hk2 : mkL r c cab l 9 = mkL r c cab l k := by
      unfold mkL
      congr 1
      by_cases h9 : k < 9
      · have : k = l.length := by omega
        rw [List.take_of_length_le (by omega), List.take_of_length_le (by omega)]
      · have : k = 9 := by omega
        rw [this]
    rw [hk2]
    obtain ⟨d1, d2, d3⟩ := out_cells ho
    by_cases h1 : (k : Int) < (l.length : Int)
    · have h9 : ¬ (k : Int) < 9 := by omega
      simp [e2, e4, e5, e6, f2, lz, nz, h1, h9, la, hy, hh, apart, astore, sa, ca, setL, env_none, nq, d1, d2]
      simp [AV.share, shareL, ho.sh]
    · simp [e2, e4, e5, e6, f2, lz, nz, h1, la, hy, hh, apart, astore, sa, ca, setL, env_none, nq, d1, d2]
      simp [AV.share, shareL, ho.sh]
  obtain ⟨hkl1, hkl2⟩ := hkl
  have h1 : (k : Int) < (l.length : Int) := by omega
  have h9 : (k : Int) < 9 := by omega
  obtain ⟨t, ht⟩ : ∃ t, t = l[k] := ⟨_, rfl⟩
  have hit := iz k hkl1
  rw [← ht] at hit
  obtain ⟨t1, t2, t3'⟩ := hl t (by rw [ht]; exact List.getElem_mem hkl1)
  have q1 := rem64 (kd := 0) (k := .i64) (a := t.1) (b := r) hr0
  have q2 := rem64 (kd := 0) (k := .i64) (a := t.2.1) (b := c) hc0
  have q3 : abin 0 .rem (.int .i64 (t.2.2 : Int)) (.int .i64 3) = some (.int .i64 ((t.2.2 % 3 : Nat) : Int)) := rem64 (kd := 0) (k := .i64) (a := t.2.2) (b := 3) (by decide)
  have hmb : mkL r c cab l (k + 1) = mkL r c cab l k ++ [mkB r c cab t] := by unfold mkL; rw [take_snoc hkl1, ht, List.map_append]; rfl
  have hmbt : mkB r c cab t = (((t.1 % r : Nat) : Int), ((t.2.1 % c : Nat) : Int), if cab = true then ((t.2.2 % 3 : Nat) : Int) else 0) := rfl
  have n1 : ¬ q + 1 = s.hs.nh := by omega
  have n2 : ¬ s.hs.nh = q + 1 := by omega
  have n3 : ¬ q = s.hs.nh := by omega
  have hlen : (mkL r c cab l k).length ≤ 9 := by unfold mkL; simp; omega
  generalize mkL r c cab l k = L at *
  have wt1 := c8 t.1 t1
  have wt2 := c8 t.2.1 t2
  have wt3 := c8 t.2.2 t3'
  generalize t.1 % r = u1 at *
  generalize t.2.1 % c = u2 at *
  generalize t.2.2 % 3 = u3 at *
  cases cab with
  | true =>
    rw [if_pos rfl] at hmbt
    obtain ⟨y2, hs2, b1, b2, b3⟩ := append_outs (hs := ⟨fun k => if k = s.hs.nh then some [.int .i64 (u1 : Int), .int .i64 (u2 : Int), .int .i64 (u3 : Int)] else if k = s.hs.nh then some [.int .i64 (u1 : Int), .int .i64 (u2 : Int), .int .i64 0] else if k = s.hs.nh then some [.int .i64 0, .int .i64 0, .int .i64 0] else s.hs.heap k, s.hs.nh + 1, s.hs.nt, s.hs.tok⟩) (ho.cong rfl rfl) (q := .sl 3 [.agg [.int .i64 (u1 : Int), .int .i64 (u2 : Int), .int .i64 (u3 : Int)]] .exact) (ys := [.agg [.int .i64 (u1 : Int), .int .i64 (u2 : Int), .int .i64 (u3 : Int)]]) (asV_sl (by simp)) (by simp; omega)
    obtain ⟨d1, d2, d3⟩ := out_cells b2
    have b3h := b3.heap
    have b3n := b3.nh
    simp only at b3h b3n
    simp [e1, e2, e5, e6, f2, lz, nz, h1, h9, hit, ix0, ix1, ix2, wt1, wt2, wt3, fa, la, lpa, hy, apart, q1, q2, q3, afill, si, ci, sa, ca, setL, astore, env_none, n1, n2, astoAll, b1, b3h, d1, d2]
    refine hN (k + 1) _ (by omega) ⟨by omega, ?_⟩
    simp [e1, e2, e4, e5, wrap_nat1 (show k < _ by omega), n1, n3, nq, hh, env_none]
    refine ⟨by omega, ?_⟩
    rw [hmb, hmbt]
    have := b2.cong (hs' := { heap := fun k => if k = q + 1 then some [.int .i64 (r : Int), .int .i64 (c : Int), y2] else hs2.heap k, nh := hs2.nh, nt := hs2.nt, tok := hs2.tok }) rfl rfl
    rw [b3h] at this
    simpa [brs] using this
  | false =>
    rw [if_neg (by decide)] at hmbt
    obtain ⟨y2, hs2, b1, b2, b3⟩ := append_outs (hs := ⟨fun k => if k = s.hs.nh then some [.int .i64 (u1 : Int), .int .i64 (u2 : Int), .int .i64 0] else if k = s.hs.nh then some [.int .i64 0, .int .i64 0, .int .i64 0] else s.hs.heap k, s.hs.nh + 1, s.hs.nt, s.hs.tok⟩) (ho.cong rfl rfl) (q := .sl 3 [.agg [.int .i64 (u1 : Int), .int .i64 (u2 : Int), .int .i64 0]] .exact) (ys := [.agg [.int .i64 (u1 : Int), .int .i64 (u2 : Int), .int .i64 0]]) (asV_sl (by simp)) (by simp; omega)
    obtain ⟨d1, d2, d3⟩ := out_cells b2
    have b3h := b3.heap
    have b3n := b3.nh
    simp only at b3h b3n
    simp [e1, e2, e5, e6, f2, lz, nz, h1, h9, hit, ix0, ix1, ix2, wt1, wt2, wt3, fa, la, lpa, hy, apart, q1, q2, q3, afill, si, ci, sa, ca, setL, astore, env_none, n1, n2, astoAll, b1, b3h, d1, d2]
    refine hN (k + 1) _ (by omega) ⟨by omega, ?_⟩
    simp [e1, e2, e4, e5, wrap_nat1 (show k < _ by omega), n1, n3, nq, hh, env_none]
    refine ⟨by omega, ?_⟩
    rw [hmb, hmbt]
    have := b2.cong (hs' := { heap := fun k => if k = q + 1 then some [.int .i64 (r : Int), .int .i64 (c : Int), y2] else hs2.heap k, nh := hs2.nh, nt := hs2.nt, tok := hs2.tok }) rfl rfl
    rw [b3h] at this
    simpa [brs] using this
end Go.Proofs.Ytecbbbocjmdfgaa
set_option linter.unusedVariables false
set_option linter.unusedSimpArgs false
namespace Go.Proofs.Ytecbbbocjmdfgaa
open Go Fw

/-- the k-th list: its digits -/
def dg (base : Nat) : Nat → Nat → List Nat
  | 0, _ => []
  | n + 1, k => k % base :: dg base n (k / base)
@[simp] theorem dg_len {base : Nat} : ∀ {n k : Nat}, (dg base n k).length = n
  | 0, _ => rfl
  | n + 1, k => by simp [dg, dg_len]
theorem dg_lt {base : Nat} (hb : 0 < base) : ∀ {n k : Nat}, ∀ d ∈ dg base n k, d < base
  | 0, _, d, h => by simp [dg] at h
  | n + 1, k, d, h => by
    rcases List.mem_cons.1 h with rfl | h
    · exact Nat.mod_lt _ hb
    · exact dg_lt hb d h
/-- the next list -/
def inc (most : Nat) : List Nat → Option (List Nat)
  | [] => none
  | d :: ds => if d = most then (inc most ds).map (0 :: ·) else some ((d + 1) :: ds)
theorem inc_dg {base most : Nat} (hb : base = most + 1) : ∀ {n k : Nat}, k < base ^ n → inc most (dg base n k) = if k + 1 < base ^ n then some (dg base n (k + 1)) else none
  | 0, k, h => by
    have : k = 0 := by simpa using h
    subst this
    simp [dg, inc]
  | n + 1, k, h => by
    have hb0 : 0 < base := by omega
    have hlt : k % base < base := Nat.mod_lt _ hb0
    have hdm := Nat.div_add_mod k base
    have hdm1 := Nat.div_add_mod (k + 1) base
    have hlt1 : (k + 1) % base < base := Nat.mod_lt _ hb0
    have hk : k / base < base ^ n := by
      rw [Nat.div_lt_iff_lt_mul hb0, ← Nat.pow_succ]; exact h
    have ih := inc_dg hb (n := n) (k := k / base) hk
    simp only [dg, inc]
    by_cases hm : k % base = most
    · rw [if_pos hm, ih]
      have e1 : (k + 1) % base = 0 ∧ (k + 1) / base = k / base + 1 := by
        have hk1 : k + 1 = base * (k / base + 1) := by rw [Nat.mul_add]; omega
        rw [hk1]
        exact ⟨Nat.mul_mod_right _ _, Nat.mul_div_cancel_left _ hb0⟩
      have e2 : k + 1 < base ^ (n + 1) ↔ k / base + 1 < base ^ n := by
        have hk1 : k + 1 = (k / base + 1) * base := by rw [Nat.add_mul, Nat.mul_comm]; omega
        rw [hk1, Nat.pow_succ]
        exact Nat.mul_lt_mul_right hb0
      rw [e1.1, e1.2]
      by_cases hlt2 : k / base + 1 < base ^ n
      · rw [if_pos hlt2, if_pos (e2.2 hlt2)]; rfl
      · rw [if_neg hlt2, if_neg (fun h => hlt2 (e2.1 h))]; rfl
    · rw [if_neg hm]
      have e1 : (k + 1) % base = k % base + 1 ∧ (k + 1) / base = k / base := by
        have hk1 : k + 1 = (k % base + 1) + base * (k / base) := by omega
        have hq : (k + 1) / base = k / base := by
          rw [hk1, Nat.add_mul_div_left _ _ hb0, Nat.div_eq_of_lt (by omega)]; omega
        refine ⟨?_, hq⟩
        rw [hq] at hdm1
        omega
      rw [if_pos, e1.1, e1.2]
      have h1 : k + 1 ≤ base * (k / base) + most := by omega
      have h2 : base * (k / base + 1) ≤ base * base ^ n := Nat.mul_le_mul_left _ hk
      rw [Nat.mul_add] at h2
      rw [Nat.pow_succ, Nat.mul_comm (base ^ n)]
      omega
theorem inc_skip {most : Nat} : ∀ {L : List Nat} {i : Nat}, i ≤ L.length → (∀ j (h : j < L.length), j < i → L[j] = most) → inc most L = (inc most (L.drop i)).map (List.replicate i 0 ++ ·)
  | L, 0, _, _ => by
    cases h : inc most L <;> simp [h]
  | [], i + 1, h, _ => by simp at h
  | d :: ds, i + 1, h, hm => by
    have h0 := hm 0 (by simp) (by omega)
    simp only [List.getElem_cons_zero] at h0
    have ih := inc_skip (L := ds) (i := i) (by simpa using h) (fun j hj hji => by
      have := hm (j + 1) (by simpa using hj) (by omega)
      rw [List.getElem_cons_succ] at this
      exact this)
    simp only [inc]
    rw [if_pos h0, ih]
    simp only [List.drop_succ_cons, Option.map_map]
    congr 1
theorem dg_zero {base : Nat} : ∀ {n : Nat}, dg base n 0 = List.replicate n 0
  | 0 => rfl
  | n + 1 => by simp [dg, dg_zero, List.replicate_succ]
/-- every list of small numbers is one of them -/
theorem dg_all {base : Nat} (hb : 0 < base) : ∀ {n : Nat} (l : List Nat), l.length = n → (∀ d ∈ l, d < base) → ∃ k, k < base ^ n ∧ dg base n k = l
  | 0, l, h, _ => ⟨0, by simp, by rw [List.length_eq_zero_iff.1 h]; rfl⟩
  | n + 1, l, h, hl => by
    match l, h with
    | d :: ds, h =>
      obtain ⟨k, hk, hd⟩ := dg_all hb (n := n) ds (by simpa using h) fun x hx => hl x (by simp [hx])
      have hd0 := hl d (by simp)
      refine ⟨d + base * k, ?_, ?_⟩
      · have : base * (k + 1) ≤ base * base ^ n := Nat.mul_le_mul_left _ hk
        rw [Nat.mul_add] at this
        rw [Nat.pow_succ, Nat.mul_comm (base ^ n)]
        omega
      · simp only [dg]
        rw [Nat.add_mul_mod_self_left, Nat.mod_eq_of_lt hd0, Nat.add_mul_div_left _ _ hb, Nat.div_eq_of_lt hd0, Nat.zero_add, hd]
abbrev nts (l : List Nat) : List Int := l.map fun (d : Nat) => (d : Int)
def lsV (l : List Nat) : List AV := ints (nts l)
theorem lsV_len {l : List Nat} : (lsV l).length = l.length := by simp [lsV, ints]
theorem lsV_get {l : List Nat} {i : Nat} (h : i < l.length) : (lsV l)[i]'(by rw [lsV_len]; exact h) = .int .i64 (l[i] : Int) := by simp [lsV, ints]
theorem lsV_set {l : List Nat} {i d : Nat} : (lsV l).set i (.int .i64 (d : Int)) = lsV (l.set i d) := by
  simp only [lsV, ints, nts, List.map_set]
theorem lsV_rep {n : Nat} : List.replicate n (AV.int .i64 0) = lsV (List.replicate n 0) := by simp [lsV, ints]
/-- the list as it stands after i numbers were set back -/
def stL (L : List Nat) (i : Nat) : List Nat := List.replicate i 0 ++ L.drop i
theorem stL_len {L : List Nat} {i : Nat} (h : i ≤ L.length) : (stL L i).length = L.length := by simp [stL]; omega
theorem stL_get {L : List Nat} {i : Nat} (h : i < L.length) : (stL L i)[i]'(by rw [stL_len (by omega)]; exact h) = L[i] := by
  simp only [stL]
  rw [List.getElem_append_right (by simp)]
  simp
theorem stL_set {L : List Nat} {i d : Nat} (h : i < L.length) : (stL L i).set i d = List.replicate i 0 ++ d :: L.drop (i + 1) := by
  unfold stL
  rw [List.set_append_right _ _ (by simp)]
  simp only [List.length_replicate, Nat.sub_self]
  rw [List.drop_eq_getElem_cons h]; rfl
theorem stL_succ {L : List Nat} {i : Nat} (h : i < L.length) : (stL L i).set i 0 = stL L (i + 1) := by
  rw [stL_set h, stL, List.replicate_succ', List.append_assoc]; rfl
theorem p41 {n most q : Nat} {f : FuncId} {xs ys : List AV} {hs0 : HS} (hn : n ≤ 1000) (hmost : most ≤ 1000) (J : Nat → HS → Prop) (hq : q = hs0.nh)
    (hJ : ∀ k hs hs', J k hs → (∀ i, i ≠ q → i < hs.nh → hs'.heap i = hs.heap i) → hs.nh ≤ hs'.nh → J k hs') (h0 : J 0 hs0)
    (hcb : ∀ k hs, k < (most + 1) ^ n → J k hs → hs.heap q = some (lsV (dg (most + 1) n k)) → q < hs.nh → FCall Try.prog f (xs ++ [.msl false 1 q 0 n true] ++ ys) hs fun e hs' => e = .ret (.tup []) ∧ J (k + 1) hs' ∧ hs'.heap q = hs.heap q ∧ hs.nh ≤ hs'.nh) :
    FCall Try.prog 41 [.int .i64 (n : Int), .int .i64 (most : Int), .fn (.func f) xs ys] hs0 fun e hs' => e = .ret (.tup []) ∧ J ((most + 1) ^ n) hs' ∧ hs0.nh ≤ hs'.nh := by
  refine FCall.of_body D18ok ok41 (by simp) (At.i ?_)
  have hmk := amake_eq (z := .int .i64 0) (hs := hs0) (k1 := .i64) (k2 := .i64) (n := n) (by omega)
  simp [A41, R41, hmk]
  have hpow : 0 < (most + 1) ^ n := Nat.pow_pos (by omega)
  refine At.loop (fun (k : Nat) s => k < (most + 1) ^ n ∧ s.env 0 = .int .i64 (n : Int) ∧ s.env 1 = .int .i64 (most : Int) ∧ s.env 2 = .fn (.func f) xs ys ∧ s.env 6 = .msl false 1 q 0 n true ∧ hs0.nh < s.hs.nh ∧ s.hs.heap q = some (lsV (dg (most + 1) n k)) ∧ J k s.hs) (fun k => (most + 1) ^ n - k) 0 ?_ ?_
  · refine ⟨hpow, by simp, by simp, by simp, by simp [hq], by simp, ?_, ?_⟩
    · simp [hq, dg_zero, lsV_rep]
    · refine hJ 0 hs0 _ h0 (fun i hi hlt => ?_) (by simp)
      simp
      rw [HS.blk_old hlt]
  rintro N k s hN ⟨hk, e0, e1, e2, e6, hnh, hh, hJk⟩
  simp [e2, e6]
  refine At.hc (R := fun e hs' => e = .ret (.tup []) ∧ J (k + 1) hs' ∧ hs'.heap q = s.hs.heap q ∧ s.hs.nh ≤ hs'.nh) ?_ ?_ ?_
  · have := hcb k s.hs hk hJk hh (by omega)
    simpa using this
  rotate_left
  · rintro v hs2 ⟨hv, _⟩; cases hv
  rintro v hs2 ⟨hv, hJ2, hh2, hnh2⟩
  injection hv with hv; subst hv
  rw [hh] at hh2
  have hinc := inc_dg (n := n) rfl hk
  have hdl := dg_lt (base := most + 1) (by omega) (n := n) (k := k)
  have hLn : (dg (most + 1) n k).length = n := dg_len
  generalize dg (most + 1) n k = L at *
  simp
  refine At.loop (fun (i : Nat) s' => i ≤ n ∧ s'.env 0 = .int .i64 (n : Int) ∧ s'.env 1 = .int .i64 (most : Int) ∧ s'.env 2 = .fn (.func f) xs ys ∧ s'.env 6 = .msl false 1 q 0 n true ∧ s'.env 7 = .int .i64 (i : Int) ∧ hs0.nh < s'.hs.nh ∧ s'.hs.heap q = some (lsV (stL L i)) ∧ J (k + 1) s'.hs ∧ ∀ j (h : j < L.length), j < i → L[j] = most) (fun i => n - i) 0 ?_ ?_
  · simp [e0, e1, e2, e6, hh2, stL, hJ2]
    omega
  rintro N2 i s2 hN2 ⟨hi, f0, f1, f2, f6, f7, hnh3, hh3, hJ3, hmo⟩
  by_cases hin : i < n
  · have hin' : (i : Int) < (n : Int) := by omega
    have hlen : (lsV (stL L i)).length = n := by rw [lsV_len, stL_len (by omega), hLn]
    have ld := load_cell hh3 (o := i) (by rw [hlen]; exact hin)
    rw [lsV_get (by rw [stL_len (by omega), hLn]; exact hin), stL_get (by omega)] at ld
    have hd := hdl L[i] (List.getElem_mem _)
    by_cases hm : L[i] = most
    · have hm' : ((L[i] : Int) = (most : Int)) := by omega
      have st := store_cell hh3 (o := i) (v := .int .i64 0) (by rw [hlen]; exact hin) rfl
      have : (lsV (stL L i)).set i (.int .i64 0) = lsV (stL L (i + 1)) := by
        have := lsV_set (l := stL L i) (i := i) (d := 0)
        rw [stL_succ (by omega)] at this
        exact this
      rw [this] at st
      simp [f0, f1, f6, f7, hin, ld, hm, st]
      refine hN2 (i + 1) _ (by omega) ⟨by omega, ?_⟩
      simp [f0, f1, f2, f6, wrap_nat1 (show i < _ by omega), hnh3, env_none]
      refine ⟨hJ _ _ _ hJ3 (fun j hj hlt => by simp [hj]) (Nat.le_refl _), fun j hj hji => ?_⟩
      by_cases hje : j = i
      · subst hje; exact hm
      · exact hmo j hj (by omega)
    · have hm' : ¬ ((L[i] : Int) = (most : Int)) := by omega
      have hni : ¬ ((i : Int) = (n : Int)) := by omega
      have hw : IntKind.i64.wrap ((L[i] : Int) + 1) = ((L[i] + 1 : Nat) : Int) := by rw [wrap64 (by omega) (by omega)]; omega
      have st := store_cell hh3 (o := i) (v := .int .i64 ((L[i] + 1 : Nat) : Int)) (by rw [hlen]; exact hin) rfl
      rw [lsV_set, stL_set (by omega)] at st
      have hs := inc_skip (L := L) (i := i) (by omega) hmo
      rw [List.drop_eq_getElem_cons (by omega : i < L.length)] at hs
      simp only [inc, if_neg hm, Option.map_some] at hs
      rw [hs] at hinc
      have hk1 : k + 1 < (most + 1) ^ n := by
        apply Classical.byContradiction
        intro hno
        rw [if_neg hno] at hinc; cases hinc
      rw [if_pos hk1] at hinc
      injection hinc with hinc
      rw [hinc] at st
      generalize L[i] = d at *
      rw [show ((d + 1 : Nat) : Int) = (d : Int) + 1 by omega] at st hw
      simp [f0, f1, f6, f7, hin, ld, hm', hni, hw, st]
      refine hN (k + 1) _ (by omega) ⟨hk1, by simp [f0], by simp [f1], by simp [f2], by simp [f6], by simp [hnh3], by simp, ?_⟩
      exact hJ _ _ _ hJ3 (fun j hj hlt => by simp [hj]) (by simp)
  · have hie : i = n := by omega
    subst hie
    have hs := inc_skip (L := L) (i := i) (by omega) hmo
    rw [List.drop_of_length_le (by omega)] at hs
    simp only [inc, Option.map_none] at hs
    rw [hs] at hinc
    have hk1 : k + 1 = (most + 1) ^ i := by
      by_cases h : k + 1 < (most + 1) ^ i
      · rw [if_pos h] at hinc; cases hinc
      · omega
    simp [f0, f7]
    rw [← hk1]
    exact At.of ⟨hJ3, by omega⟩
end Go.Proofs.Ytecbbbocjmdfgaa
set_option linter.unusedVariables false
set_option linter.unusedSimpArgs false
namespace Go.Proofs.Ytecbbbocjmdfgaa
open Go Fw

theorem p38 {x : AV} {l : List Int} (hx : asI x = some l) : PCall Try.prog 38 [x] (.bool (allEq l)) := by
  have hl := asI_len hx
  refine PCall.of D18ok ok38 (by simp) rfl fun hs' hb => ?_
  simp [A38, R38, alen_of hx]
  refine At.loop (fun (i : Nat) s => i ≤ l.length ∧ s.env 0 = x ∧ s.env 5 = x ∧ s.env 6 = .int .i64 (l.length : Int) ∧ s.env 7 = .int .i64 (i : Int) ∧ ∀ j (h : j < l.length), j < i → l[j] = l.getD 0 0) (fun i => l.length - i) 0 (by simp) ?_
  rintro N i s hN ⟨hi, e0, e5, e6, e7, hall⟩
  simp [e6, e7]
  refine At.dec (fun hlt => ?_) (fun hlt => ?_)
  · have hi' : i < l.length := by omega
    have h0 : 0 < l.length := by omega
    have z0 := aidx_nat hx h0 (k := .i64)
    rw [Int.natCast_zero, ← getD_of h0] at z0
    have zi := aidx_nat hx hi' (k := .i64)
    simp only [List.getD_eq_getElem?_getD] at z0 hall
    by_cases he : l[i] = l[0]?.getD 0
    · simp [e0, e5, e7, zi, z0, he]
      refine hN (i + 1) _ (by omega) ⟨by omega, ?_⟩
      simp [e0, e5, e6, wrap_nat1 (show i < _ by omega)]
      intro j hj hji
      by_cases hje : j = i
      · subst hje; exact he
      · exact hall j hj (by omega)
    · have hae : allEq l = false := by
        unfold allEq
        rw [List.all_eq_false]
        refine ⟨l[i], List.getElem_mem hi', ?_⟩
        simp only [decide_eq_true_eq, List.getD_eq_getElem?_getD]
        exact he
      simp [e0, e5, e7, zi, z0, he, hae]
  · have hae : allEq l = true := by
      unfold allEq
      rw [List.all_eq_true]
      intro n hn
      obtain ⟨j, hj, rfl⟩ := List.getElem_of_mem hn
      simpa using hall j hj (by omega)
    simp [hae]
/-- a brace that numbers keep -/
def okK (b : Br) (u w : Int) : Bool := (decide (b.2.2 = 1) && decide (u ≤ w)) || (decide (b.2.2 = 2) && decide (w ≤ u)) || decide (u = w)
/-- all braces but one are kept -/
def kpB (R : Rk) (l : List Int) (but : Int) : Bool := (List.range R.b.length).all fun i => decide ((i : Int) = but) || okK (R.b.getD i (0, 0, 0)) (l.getD (R.b.getD i (0, 0, 0)).1.toNat 0) (l.getD (R.r.toNat + (R.b.getD i (0, 0, 0)).2.1.toNat) 0)
theorem kp_iff {R : Rk} {l : List Int} {but : Int} : kpB R l but = true ↔ ∀ i (h : i < R.b.length), (i : Int) ≠ but → okK R.b[i] (l.getD R.b[i].1.toNat 0) (l.getD (R.r.toNat + R.b[i].2.1.toNat) 0) = true := by
  unfold kpB
  rw [List.all_eq_true]
  constructor
  · intro h i hi hne
    have := h i (by simpa using hi)
    rw [show R.b.getD i (0, 0, 0) = R.b[i] by rw [List.getD_eq_getElem?_getD, List.getElem?_eq_getElem hi]; rfl] at this
    simpa [hne] using this
  · intro h i hi
    have hi : i < R.b.length := by simpa using hi
    rw [show R.b.getD i (0, 0, 0) = R.b[i] by rw [List.getD_eq_getElem?_getD, List.getElem?_eq_getElem hi]; rfl]
    by_cases hne : (i : Int) = but
    · simp [hne]
    · rw [Bool.or_eq_true]; exact .inr (h i hi hne)
theorem p39 {x y : AV} {R : Rk} (hx : asR x = some R) (hok : OkR R) {l : List Int} (hy : asI y = some l) (hl : l.length = nR R) (but : Int) : PCall Try.prog 39 [x, y, .int .i64 but] (.bool (kpB R l but)) := by
  obtain ⟨v1, v2, v3, v4, v5, v6, v7, v8⟩ := RkV.of hx
  refine PCall.of D18ok ok39 (by simp) rfl fun hs' hb => ?_
  have hlen := (asB_inv v8).2.2
  have hr6 := hok.r6
  have hc6 := hok.c6
  have hnn : nR R = R.r.toNat + R.c.toNat := rfl
  simp [A39, R39, v2, v6, v7, blen v8]
  refine At.loop (fun (i : Nat) s => i ≤ R.b.length ∧ s.env 1 = y ∧ s.env 2 = .int .i64 but ∧ s.env 3 = .ptr x ∧ s.env 12 = rb x ∧ s.env 13 = .int .i64 (R.b.length : Int) ∧ s.env 14 = .int .i64 (i : Int) ∧ ∀ j (h : j < R.b.length), j < i → (j : Int) ≠ but → okK R.b[j] (l.getD R.b[j].1.toNat 0) (l.getD (R.r.toNat + R.b[j].2.1.toNat) 0) = true) (fun i => R.b.length - i) 0 (by simp) ?_
  rintro N i s hN ⟨hi, e1, e2, e3, e12, e13, e14, hall⟩
  simp [e13, e14]
  refine At.dec (fun hlt => ?_) (fun hlt => ?_)
  · have hi' : i < R.b.length := by omega
    obtain ⟨b, hbb⟩ : ∃ b, b = R.b[i] := ⟨_, rfl⟩
    obtain ⟨k1, k2, k3, k4, k5, k6⟩ : okB R.r R.c b := by rw [hbb]; exact hok.b _ (List.getElem_mem hi')
    obtain ⟨ρ, hρ⟩ : ∃ ρ : Nat, b.1 = (ρ : Int) := ⟨b.1.toNat, by omega⟩
    obtain ⟨κ, hκ⟩ : ∃ κ : Nat, b.2.1 = (κ : Int) := ⟨b.2.1.toNat, by omega⟩
    have hbi := bidx v8 hi' (k := .i64)
    rw [← hbb, hρ, hκ] at hbi
    have gl : ∀ h, aload h true 3 (.ptr (.agg [.int .i64 (ρ : Int), .int .i64 (κ : Int), .int .i64 b.2.2])) = some (.agg [.int .i64 (ρ : Int), .int .i64 (κ : Int), .int .i64 b.2.2]) := fun _ => rfl
    obtain ⟨τ, hτ⟩ : ∃ τ : Nat, τ = R.r.toNat + κ := ⟨_, rfl⟩
    have hws : IntKind.i64.wrap (R.r + (κ : Int)) = (τ : Int) := by rw [wrap64 (by omega) (by omega)]; omega
    have ga := aidx_nat hy (k := .i64) (i := ρ) (by omega)
    have gb := aidx_nat hy (k := .i64) (i := τ) (by omega)
    have hok1 : okK R.b[i] (l.getD R.b[i].1.toNat 0) (l.getD (R.r.toNat + R.b[i].2.1.toNat) 0) = okK b l[ρ] l[τ] := by
      rw [← hbb, hρ, hκ, Int.toNat_natCast, Int.toNat_natCast, ← hτ, getD_of, getD_of]
    generalize hu : l[ρ] = u at *
    generalize hw : l[τ] = w at *
    have hbad : ¬ ((i : Int) = but) → okK b u w = false → kpB R l but = false := by
      intro h1 h2
      cases hk : kpB R l but with
      | false => rfl
      | true =>
        have := kp_iff.1 hk i hi' h1
        rw [hok1, h2] at this; cases this
    have hstep : ((i : Int) = but ∨ okK b u w = true) → ∀ j (h : j < R.b.length), j < i + 1 → (j : Int) ≠ but → okK R.b[j] (l.getD R.b[j].1.toNat 0) (l.getD (R.r.toNat + R.b[j].2.1.toNat) 0) = true := by
      intro h j hj hji hne
      by_cases hje : j = i
      · subst hje
        rw [hok1]
        rcases h with h | h
        · exact absurd h hne
        · exact h
      · exact hall j hj (by omega) hne
    by_cases hib : (i : Int) = but
    · have hst := hstep (.inl hib)
      subst hib
      simp [e1, e2, e3, e12, e14, hbi, gl, v4, astore, sa, ca, setL, env_none, la, apart, fa, hws, ga, gb]
      refine hN (i + 1) _ (by omega) ⟨by omega, by simp [e1], by simp [e2], by simp [e3], by simp [e12], by simp [e13], by simp [wrap_nat1 (show i < _ by omega)], hst⟩
    by_cases q1 : b.2.2 = 1 <;> by_cases q2 : b.2.2 = 2 <;> by_cases q3 : u ≤ w <;> by_cases q4 : w ≤ u <;> by_cases q5 : u = w <;> (try omega) <;>
    first
    | (have hv := hbad hib (by simp [okK, q1, q2, q3, q4, q5])
       simp [e1, e2, e3, e12, e14, hbi, gl, v4, astore, sa, ca, setL, env_none, la, apart, fa, hws, ga, gb, hib, q1, q2, q3, q4, q5, hv]
       done)
    | (have hst := hstep (.inr (by simp [okK, q1, q2, q3, q4, q5]))
       simp [e1, e2, e3, e12, e14, hbi, gl, v4, astore, sa, ca, setL, env_none, la, apart, fa, hws, ga, gb, hib, q1, q2, q3, q4, q5]
       refine hN (i + 1) _ (by omega) ⟨by omega, by simp [e1], by simp [e2], by simp [e3], by simp [e12], by simp [e13], by simp [wrap_nat1 (show i < _ by omega)], hst⟩)
  · have hk : kpB R l but = true := kp_iff.2 fun j hj hne => hall j hj (by omega) hne
    simp [hk]
end Go.Proofs.Ytecbbbocjmdfgaa
set_option linter.unusedVariables false
set_option linter.unusedSimpArgs false
namespace Go.Proofs.Ytecbbbocjmdfgaa
open Go Fw

def SEq : List AV → Option AV
  | [x] => (asI x).map fun l => .bool (allEq l)
  | _ => none
theorem c38 : ∀ a r, SEq a = some r → PCall Try.prog 38 a r := by
  intro a r h
  unfold SEq at h
  split at h <;> (try (cases h; done))
  obtain ⟨l, h1, rfl⟩ := optmap_some h
  exact p38 h1
def SKp : List AV → Option AV
  | [x, y, .int .i64 but] => match asR x, asI y with
    | some R, some l => if OkR R ∧ l.length = nR R then some (.bool (kpB R l but)) else none
    | _, _ => none
  | _ => none
theorem SKp_i {x y : AV} {R : Rk} {l : List Int} (hx : asR x = some R) (hy : asI y = some l) (h : OkR R) (hl : l.length = nR R) (but : Int) : SKp [x, y, .int .i64 but] = some (.bool (kpB R l but)) := by simp [SKp, hx, hy, h, hl]
theorem c39 : ∀ a r, SKp a = some r → PCall Try.prog 39 a r := by
  intro a r h
  unfold SKp at h
  split at h <;> (try (cases h; done))
  split at h <;> (try (cases h; done))
  split at h <;> (try (cases h; done))
  rename_i h1 h2 h3
  injection h with h; subst h
  exact p39 h1 h3.1 h2 h3.2 _
def D25 : PCtx := (D18.add 38 SEq).add 39 SKp
theorem D25ok : CtxOk Try.prog D25 := (D18ok.add c38).add c39
@[simp] theorem D25_38 : D25 38 = SEq := id rfl
@[simp] theorem D25_39 : D25 39 = SKp := id rfl
theorem frz_ls {h : Nat → Option (List AV)} {q n : Nat} {L : List Nat} (hh : h q = some (lsV L)) (hl : L.length = n) : frz h 2 (.msl false 1 q 0 n true) = .sl 1 (lsV L) .exact := by
  rw [frz_msl, frzL_msl (n := 1) hh (mcont_full (by rw [lsV_len]; exact hl))]
  simp only [if_true, lsV, map_frz_ints]
theorem asI_ls {L : List Nat} (h : L.length < 4294967296) : asI (.sl 1 (lsV L) .exact) = some (nts L) := asI_sl (by simpa using h)
theorem frz_rk {x : AV} {R : Rk} (hx : asR x = some R) {h : Nat → Option (List AV)} {n : Nat} : frz h (n + 1) x = x := by
  obtain ⟨b, rfl, hb⟩ := asR_inv hx
  rcases (asB_inv hb).2.1 with ⟨rfl, _⟩ | ⟨c, rfl⟩ <;> simp
theorem lc38 {hs : HS} {q n : Nat} {L : List Nat} (hh : hs.heap q = some (lsV L)) (hl : L.length = n) (hn : n ≤ 1000) : alcall D25 38 hs [.msl false 1 q 0 n true] = some (.bool (allEq (nts L))) := by
  unfold alcall
  simp only [List.map_cons, List.map_nil, frz_ls hh hl, D25_38, SEq, asI_ls (L := L) (by omega), Option.map_some]
  rfl
theorem lc39 {hs : HS} {q n : Nat} {L : List Nat} {x : AV} {R : Rk} (hx : asR x = some R) (hok : OkR R) (hh : hs.heap q = some (lsV L)) (hl : L.length = n) (hn : n = nR R) (but : Int) : alcall D25 39 hs [x, .msl false 1 q 0 n true, .int .i64 but] = some (.bool (kpB R (nts L) but)) := by
  have h6 := hok.r6
  have h7 := hok.c6
  have hnn : nR R = R.r.toNat + R.c.toNat := rfl
  unfold alcall
  simp only [List.map_cons, List.map_nil, frz_ls hh hl, frz_rk hx, frz_int, D25_39, SKp_i hx (asI_ls (L := L) (by omega)) hok (by simp; omega) but]
  rfl
/-- no motion among the first k lists moves the rack -/
def rgK (R : Rk) (but : Int) (k : Nat) : Bool := (List.range k).all fun j => allEq (nts (dg 3 (nR R) j)) || !kpB R (nts (dg 3 (nR R) j)) but
theorem rgK_succ {R : Rk} {but : Int} {k : Nat} : rgK R but (k + 1) = (rgK R but k && (allEq (nts (dg 3 (nR R) k)) || !kpB R (nts (dg 3 (nR R) k)) but)) := by
  unfold rgK
  rw [List.range_succ, List.all_append]; simp only [List.all_cons, List.all_nil, Bool.and_true]
def rgB (R : Rk) (but : Int) : Bool := rgK R but (3 ^ nR R)
theorem p73 {x : AV} {R : Rk} (hx : asR x = some R) (hok : OkR R) {but : Int} {q g k n : Nat} {hs : HS} (hn : n = nR R) (hh : hs.heap q = some (lsV (dg 3 n k))) (hg : hs.heap g = some [.bool (rgK R but k)]) (hne : g ≠ q) :
    FCall Try.prog 73 [.msl false 1 q 0 n true, .ptr x, .ptr (.int .i64 but), .ref g 0] hs fun e hs' => e = .ret (.tup []) ∧ hs'.heap g = some [.bool (rgK R but (k + 1))] ∧ (∀ i, i ≠ g → hs'.heap i = hs.heap i) ∧ hs'.nh = hs.nh := by
  subst hn
  obtain ⟨v1, v2, v3, v4, v5, v6, v7, v8⟩ := RkV.of hx
  have hr6 := hok.r6
  have hc6 := hok.c6
  have hnn : nR R = R.r.toNat + R.c.toNat := rfl
  refine FCall.of_body D25ok ok73 (by simp) (At.i ?_)
  have l1 := lc38 hh (dg_len) (by omega)
  have l2 := lc39 hx hok hh dg_len rfl but
  have hs1 := rgK_succ (R := R) (but := but) (k := k)
  cases h1 : allEq (nts (dg 3 (nR R) k)) with
  | true =>
    rw [h1] at l1 hs1
    simp [A73, R73, l1]
    exact At.of (by rw [hg, hs1]; simp)
  | false =>
    rw [h1] at l1 hs1
    cases h2 : kpB R (nts (dg 3 (nR R) k)) but with
    | true =>
      rw [h2] at l2 hs1
      have st := store_cell hg (o := 0) (v := .bool false) (by simp) rfl
      simp [A73, R73, l1, l2, v3, st]
      refine At.of ⟨by rw [hs1]; simp, fun i hi => by simp [hi]⟩
    | false =>
      rw [h2] at l2 hs1
      simp [A73, R73, l1, l2, v3]
      exact At.of (by rw [hg, hs1]; simp)
theorem p43 {x : AV} {R : Rk} (hx : asR x = some R) (hok : OkR R) (but : Int) : PCall Try.prog 43 [x, .int .i64 but] (.bool (rgB R but)) := by
  obtain ⟨v1, v2, v3, v4, v5, v6, v7, v8⟩ := RkV.of hx
  have hr1 := hok.r1
  have hr6 := hok.r6
  have hc1 := hok.c1
  have hc6 := hok.c6
  have hnn : nR R = R.r.toNat + R.c.toNat := rfl
  obtain ⟨n, hn⟩ : ∃ n : Nat, n = nR R := ⟨_, rfl⟩
  have hsum : IntKind.i64.wrap (R.r + R.c) = (n : Int) := by rw [wrap64 (by omega) (by omega)]; omega
  refine PCall.of D25ok ok43 (by simp) rfl fun hs' hb => ?_
  generalize hq : hs'.nh = q
  have hsn : (AV.int .i64 but).sto = true := rfl
  simp [A43, R43, v2, v4, v5, hsn, hsum, hq, astore, sb, cb, setL, env_none]
  refine At.hc (R := fun e hs2 => e = .ret (.tup []) ∧ hs2.heap q = some [.bool (rgK R but (3 ^ nR R))] ∧ q + 1 ≤ hs2.nh) ?_ ?_ ?_
  · have := p41 (n := n) (most := 2) (q := q + 1) (f := 73) (xs := []) (ys := [.ptr x, .ptr (.int .i64 but), .ref q 0]) (hs0 := ⟨fun k => if k = q then some [.bool true] else if k = q then some [.bool false] else hs'.heap k, q + 1, hs'.nt, hs'.tok⟩) (by omega) (by omega)
      (fun k hs => hs.heap q = some [.bool (rgK R but k)] ∧ q < hs.nh) rfl
      (fun k hs hs2 h1 h2 h3 => ⟨by rw [h2 q (by omega) h1.2]; exact h1.1, by omega⟩) ⟨by simp [rgK], by simp⟩
      (fun k hs hk h1 h2 h3 => (p73 hx hok hn h2 h1.1 (by omega)).mono fun e hs2 ⟨a1, a2, a3, a4⟩ => ⟨a1, ⟨a2, by omega⟩, a3 _ (by omega), by omega⟩)
    refine this.mono ?_
    rintro e hs2 ⟨a1, ⟨a2, a3⟩, a4⟩
    exact ⟨a1, by rw [hn] at a2; exact a2, by omega⟩
  · rintro v hs2 ⟨hv, h1, h2⟩
    injection hv with hv; subst hv
    simp [la, h1, apart, rgB]
  · rintro v hs2 ⟨hv, _⟩; cases hv
end Go.Proofs.Ytecbbbocjmdfgaa
set_option linter.unusedVariables false
set_option linter.unusedSimpArgs false
namespace Go.Proofs.Ytecbbbocjmdfgaa
open Go Fw

abbrev Ew (R : Rk) (w : Int) : Nat → Nat → Prop := arrow R.r.toNat R.b w R.b.length
theorem okK_iff {b : Br} {u w : Int} (h0 : 0 ≤ b.2.2) (h2 : b.2.2 ≤ 2) : okK b u w = true ↔ (b.2.2 ≠ 2 → u ≤ w) ∧ (b.2.2 ≠ 1 → w ≤ u) := by
  unfold okK
  simp only [Bool.or_eq_true, Bool.and_eq_true, decide_eq_true_eq]
  constructor
  · rintro ((⟨h, h'⟩ | ⟨h, h'⟩) | h) <;> constructor <;> intro _ <;> omega
  · rintro ⟨h, h'⟩
    by_cases q1 : b.2.2 = 1
    · exact .inl (.inl ⟨q1, h (by omega)⟩)
    · by_cases q2 : b.2.2 = 2
      · exact .inl (.inr ⟨q2, h' q1⟩)
      · have := h q2; have := h' q1; exact .inr (by omega)
/-- numbers keep all braces just if they ascend along arrows -/
theorem kp_up {R : Rk} (hok : OkR R) {l : List Int} {w : Int} : kpB R l w = true ↔ ∀ x y, Ew R w x y → l.getD x 0 ≤ l.getD y 0 := by
  rw [kp_iff]
  constructor
  · rintro h x y ⟨j, hj, _, hne, he⟩
    obtain ⟨_, _, _, _, k5, k6⟩ := hok.b _ (List.getElem_mem hj)
    obtain ⟨h1, h2⟩ := (okK_iff k5 k6).1 (h j hj hne)
    rcases he with ⟨g, rfl, rfl⟩ | ⟨g, rfl, rfl⟩
    · exact h1 g
    · exact h2 g
  · intro h i hi hne
    obtain ⟨_, _, _, _, k5, k6⟩ := hok.b _ (List.getElem_mem hi)
    refine (okK_iff k5 k6).2 ⟨fun g => h _ _ ⟨i, hi, hi, hne, .inl ⟨g, rfl, rfl⟩⟩, fun g => h _ _ ⟨i, hi, hi, hne, .inr ⟨g, rfl, rfl⟩⟩⟩
theorem up_rt {E : Nat → Nat → Prop} {g : Nat → Int} (h : ∀ x y, E x y → g x ≤ g y) {x y : Nat} (k : Rt E x y) : g x ≤ g y := by
  induction k with
  | refl => exact Int.le_refl _
  | tail _ e ih => exact Int.le_trans ih (h _ _ e)
theorem allEq_iff {l : List Int} : allEq l = true ↔ ∀ i, i < l.length → l.getD i 0 = l.getD 0 0 := by
  unfold allEq
  rw [List.all_eq_true]
  constructor
  · intro h i hi
    have := h l[i] (List.getElem_mem hi)
    rw [getD_of hi]; simpa using this
  · intro h x hx
    obtain ⟨i, hi, rfl⟩ := List.getElem_of_mem hx
    have := h i hi
    rw [getD_of hi] at this
    simpa using this
open Classical in
/-- a motion by numbers: what can be reached turns -/
noncomputable def indL (E : Nat → Nat → Prop) (x n : Nat) : List Nat := (List.range n).map fun i => if Rt E x i then 1 else 0
theorem indL_get {E : Nat → Nat → Prop} {x n i : Nat} (h : i < n) : (nts (indL E x n)).getD i 0 = @ite _ (Rt E x i) (Classical.propDecidable _) 1 0 := by
  rw [List.getD_eq_getElem?_getD]
  simp only [nts, indL, List.map_map, List.getElem?_map, List.getElem?_range h, Option.map_some, Option.getD_some, Function.comp_apply]
  split <;> rfl
theorem Ew_lt {R : Rk} (hok : OkR R) {w : Int} {x y : Nat} (h : Ew R w x y) : x < nR R ∧ y < nR R := by
  obtain ⟨j, hj, _, _, he⟩ := h
  exact edge_lt hok (List.getElem_mem hj) he
theorem rgK_iff {R : Rk} {but : Int} {k : Nat} : rgK R but k = true ↔ ∀ j, j < k → kpB R (nts (dg 3 (nR R) j)) but = true → allEq (nts (dg 3 (nR R) j)) = true := by
  unfold rgK
  rw [List.all_eq_true]
  constructor
  · intro h j hj hk
    have := h j (by simpa using hj)
    rw [hk] at this
    simpa using this
  · intro h j hj
    have hj : j < k := by simpa using hj
    cases hk : kpB R (nts (dg 3 (nR R) j)) but with
    | false => simp
    | true => rw [h j hj hk]; simp
theorem rg_iff {R : Rk} (hok : OkR R) {w : Int} : rgB R w = true ↔ ∀ x y, x < nR R → y < nR R → Rt (Ew R w) x y := by
  unfold rgB
  rw [rgK_iff]
  constructor
  · intro h x y hx hy
    apply Classical.byContradiction
    intro hno
    obtain ⟨k, hk, hd⟩ := dg_all (base := 3) (by decide) (n := nR R) (indL (Ew R w) x (nR R)) (by simp [indL]) (fun d hd => by
      simp only [indL, List.mem_map] at hd
      obtain ⟨i, _, rfl⟩ := hd
      split <;> omega)
    have := h k hk
    rw [hd] at this
    have hkp : kpB R (nts (indL (Ew R w) x (nR R))) w = true := by
      rw [kp_up hok]
      intro a b e
      obtain ⟨ha, hb⟩ := Ew_lt hok e
      rw [indL_get ha, indL_get hb]
      by_cases h1 : Rt (Ew R w) x a
      · rw [if_pos h1, if_pos (h1.tail e)]; omega
      · rw [if_neg h1]; split <;> omega
    have hae := allEq_iff.1 (this hkp)
    have hlen : (nts (indL (Ew R w) x (nR R))).length = nR R := by simp [indL]
    have e1 := hae x (by omega)
    have e2 := hae y (by omega)
    rw [← e2, indL_get hx, indL_get hy, if_pos (Rt.refl x), if_neg hno] at e1
    cases e1
  · intro h k hk hkp
    rw [kp_up hok] at hkp
    rw [allEq_iff]
    intro i hi
    have hi : i < nR R := by simpa using hi
    have hn := pos_n hok
    have h1 := up_rt (g := fun x => (nts (dg 3 (nR R) k)).getD x 0) hkp (h i 0 hi hn)
    have h2 := up_rt (g := fun x => (nts (dg 3 (nR R) k)).getD x 0) hkp (h 0 i hn hi)
    exact Int.le_antisymm h1 h2
theorem rt_congr {E E' : Nat → Nat → Prop} (h : ∀ x y, E x y ↔ E' x y) {x y : Nat} : Rt E x y ↔ Rt E' x y := ⟨fun k => k.mono fun _ _ e => (h _ _).1 e, fun k => k.mono fun _ _ e => (h _ _).2 e⟩
theorem rg_all {R : Rk} (hok : OkR R) : rgB R (-1) = stM R := by
  rw [Bool.eq_iff_iff, rg_iff hok, stM_iff hok]
  have : ∀ x y, Rt (Ew R (-1)) x y ↔ Rt (Ed R) x y := fun x y => rt_congr fun x y => arrow_all.symm
  simp only [this]
theorem rg_wo {R : Rk} (hok : OkR R) {i : Nat} (hi : i < R.b.length) : rgB R (i : Int) = stM (woR R i) := by
  have hokw : OkR (woR R i) := hok.wo i
  rw [Bool.eq_iff_iff, rg_iff hok, stM_iff hokw]
  have : ∀ x y, Rt (Ew R (i : Int)) x y ↔ Rt (Ed (woR R i)) x y := fun x y => rt_congr fun x y => (arrow_wo hi).symm
  simp only [this]
/-! lists of places -/
theorem nd_pre {f : Nat → Bool} : ∀ {n i : Nat}, i ≤ n → ∃ r, ndK f n = ndK f i ++ r ∧ ∀ x ∈ r, (i : Int) ≤ x
  | 0, i, h => ⟨[], by rw [show i = 0 by omega]; rfl, by simp⟩
  | n + 1, i, h => by
    by_cases hi : i = n + 1
    · subst hi; exact ⟨[], by simp, by simp⟩
    · obtain ⟨r, h1, h2⟩ := nd_pre (f := f) (n := n) (i := i) (by omega)
      simp only [ndK]
      by_cases hf : f n = true
      · rw [if_pos hf, h1]
        refine ⟨r ++ [(n : Int)], by simp, fun x hx => ?_⟩
        rcases List.mem_append.1 hx with hx | hx
        · exact h2 x hx
        · simp only [List.mem_singleton] at hx; omega
      · rw [if_neg hf]; exact ⟨r, h1, h2⟩
/-- at the place of what comes next is i just if i is one -/
theorem nd_at {f : Nat → Bool} {n i : Nat} (hi : i < n) : (∃ h : (ndK f i).length < (ndK f n).length, (ndK f n)[(ndK f i).length] = (i : Int)) ↔ f i = true := by
  obtain ⟨r, h1, h2⟩ := nd_pre (f := f) (n := n) (i := i + 1) (by omega)
  simp only [ndK] at h1
  by_cases hf : f i = true
  · rw [if_pos hf] at h1
    refine ⟨fun _ => hf, fun _ => ?_⟩
    refine ⟨by rw [h1]; simp, ?_⟩
    simp only [h1]
    simp
  · rw [if_neg hf] at h1
    refine ⟨fun ⟨h, h3⟩ => ?_, fun h => absurd h hf⟩
    simp only [h1] at h3
    rw [List.getElem_append_right (Nat.le_refl _)] at h3
    have hm : (i : Int) ∈ r := by rw [← h3]; exact List.getElem_mem _
    have := h2 _ hm
    omega
end Go.Proofs.Ytecbbbocjmdfgaa
set_option linter.unusedVariables false
set_option linter.unusedSimpArgs false
namespace Go.Proofs.Ytecbbbocjmdfgaa
open Go Fw

/-- the shelf's rack, as a call -/
structure MkOk (x : AV) (cab : Bool) (v : AV) : Prop where
  ex : ∃ a b l, IsSh x a b l ∧ v = mkV a b l cab
open Classical in
noncomputable def SMade : List AV → Option AV
  | [x, .bool cab] => if h : ∃ v, MkOk x cab v then some (Classical.choose h) else none
  | _ => none
theorem c37 : ∀ a r, SMade a = some r → PCall Try.prog 37 a r := by
  intro a r h
  unfold SMade at h
  split at h <;> (try (cases h; done))
  split at h <;> (try (cases h; done))
  rename_i hv
  injection h with h; subst h
  obtain ⟨a, b, l, h1, h2⟩ := (Classical.choose_spec hv).ex
  rw [h2]
  exact p37 h1 _
theorem SMade_i {x : AV} {a b : Nat} {l : List Nt} (h : IsSh x a b l) (cab : Bool) : SMade [x, .bool cab] = some (mkV a b l cab) := by
  have hex : ∃ v, MkOk x cab v := ⟨_, ⟨a, b, l, h, rfl⟩⟩
  have hs : SMade [x, .bool cab] = some (Classical.choose hex) := by simp only [SMade]; rw [dif_pos hex]
  rw [hs]
  obtain ⟨a', b', l', h1, h2⟩ := (Classical.choose_spec hex).ex
  rw [h2]
  -- a shelf has one reading
  obtain ⟨⟨z, e, hz⟩, _⟩ := h
  obtain ⟨⟨z', e', hz'⟩, _⟩ := h1
  rw [e] at e'
  injection e' with e'
  injection e' with ea e'
  injection e' with eb e'
  injection e' with ez _
  injection ea with _ ea
  injection eb with _ eb
  have ha : a = a' := by omega
  have hb : b = b' := by omega
  subst ha; subst hb; subst ez
  have hl : l = l' := by
    have inj : ∀ {l l' : List Nt}, l.map t3 = l'.map t3 → l = l' := by
      intro l
      induction l with
      | nil => intro l' h; cases l' with
        | nil => rfl
        | cons a l => cases h
      | cons t l ih => intro l' h; cases l' with
        | nil => cases h
        | cons t' l' =>
          simp only [List.map_cons, List.cons.injEq] at h
          obtain ⟨h1, h2⟩ := h
          rw [ih h2]
          congr 1
          simp only [t3, AV.agg.injEq, List.cons.injEq, AV.int.injEq, true_and, and_true] at h1
          obtain ⟨g1, g2, g3⟩ := h1
          obtain ⟨u, v, w⟩ := t
          obtain ⟨u', v', w'⟩ := t'
          simp only at g1 g2 g3
          rw [show u = u' by omega, show v = v' by omega, show w = w' by omega]
    rcases hz with ⟨rfl, rfl⟩ | rfl
    · rcases hz' with ⟨_, rfl⟩ | h
      · rfl
      · cases h
    · rcases hz' with ⟨h, _⟩ | h
      · cases h
      · injection h with _ h _; exact inj h
  subst hl; rfl
def SRg : List AV → Option AV
  | [x, .int .i64 but] => (asR x).bind fun R => if OkR R then some (.bool (rgB R but)) else none
  | _ => none
theorem SRg_i {x : AV} {R : Rk} (hx : asR x = some R) (h : OkR R) (but : Int) : SRg [x, .int .i64 but] = some (.bool (rgB R but)) := by simp [SRg, hx, h]
theorem c43 : ∀ a r, SRg a = some r → PCall Try.prog 43 a r := by
  intro a r h
  unfold SRg at h
  split at h <;> (try (cases h; done))
  obtain ⟨R, h1, h2⟩ := Option.bind_eq_some_iff.1 h
  split at h2 <;> (try (cases h2; done))
  rename_i hok
  injection h2 with h2; subst h2
  exact p43 h1 hok _
noncomputable def D26 : PCtx := (((D25.add 37 SMade).add 43 SRg).add 21 SNd)
theorem D26ok : CtxOk Try.prog D26 := ((D25ok.add c37).add c43).add c21
@[simp] theorem D26_37 : D26 37 = SMade := id rfl
@[simp] theorem D26_43 : D26 43 = SRg := id rfl
@[simp] theorem D26_21 : D26 21 = SNd := id rfl
@[simp] theorem D26_17 : D26 17 = SSt := id rfl
@[simp] theorem D26_15 : D26 15 = SWk := id rfl
/-- a rack without one brace, copied -/
structure FW7 (R : Rk) (i : Nat) (s0 s : AS) : Prop where
  env : ∀ k, k < 9 → s.env k = s0.env k
  env35 : s.env 33 = s0.env 33 ∧ s.env 34 = s0.env 34 ∧ s.env 35 = s0.env 35
  low : ∀ k, k < s0.hs.nh → s.hs.heap k = s0.hs.heap k
  nh : s0.hs.nh ≤ s.hs.nh
  ex : ∃ p y, s.env 9 = .ref p 0 ∧ s.hs.heap p = some [.int .i64 R.r, .int .i64 R.c, y] ∧ asB y = some (wo R.b i)
theorem copyW {hs : HS} {p q : AV} {xs ys : List Br} (hp : asV 3 p = some (brs xs)) (hq : asV 3 q = some (brs ys)) (hl : xs.length + ys.length ≤ 1000000) :
    ∃ y1 hs1, aappend 3 hs (.sl 3 [] .exact) p = some (y1, hs1) ∧ SameMem hs hs1 ∧ ∀ hs2 : HS, hs2.tok = hs1.tok → hs2.nt = hs1.nt → ∃ y2 hs3, aappend 3 hs2 y1 q = some (y2, hs3) ∧ SameMem hs2 hs3 ∧ asB y2 = some (xs ++ ys) ∧ y2.cells = [y2] ∧ y2.sto = true := by
  obtain ⟨y1, hs1, b1, b2, b3, b4, b5, b6, b7⟩ := append_fresh (sz := 3) (hs := hs) (x := .sl 3 [] .exact) (q := p) (l := []) (ys := brs xs) trivial rfl rfl hp (by simp; omega)
  refine ⟨y1, hs1, b1, b6, fun hs2 e1 e2 => ?_⟩
  have b2' : Fresh hs2 y1 := fresh_cong e1 e2 b2
  obtain ⟨y2, hs3, d1, d2, d3, d4, d5, d6, d7⟩ := append_fresh (sz := 3) (hs := hs2) (q := q) (ys := brs ys) b2' b3 b4 hq (by simp; omega)
  have hy2 : asB y2 = some (xs ++ ys) := by
    have hb : ∀ zs : List Br, [] ++ brs zs = brs zs := fun _ => rfl
    rcases d5 with ⟨rfl, h0⟩ | ⟨k, rfl⟩
    · have : ys = [] := List.map_eq_nil_iff.1 h0
      subst this
      rw [List.append_nil]
      rcases b5 with ⟨rfl, h1⟩ | ⟨k, rfl⟩
      · have : xs = [] := List.map_eq_nil_iff.1 h1
        subst this; rfl
      · exact asB_sl (by omega)
    · have : [] ++ brs xs ++ brs ys = brs (xs ++ ys) := by simp [brs]
      rw [this]; exact asB_sl (by simp; omega)
  obtain ⟨c1, c2⟩ := asB_cells hy2
  exact ⟨y2, hs3, d1, d6, hy2, c1, c2⟩
theorem reg7 {R : Rk} {i q : Nat} {y0 : AV} {s : AS} {Q : AEx → AS → Prop} (hy : asB y0 = some R.b) (hi : i < R.b.length) (hl : R.b.length ≤ 1000) (e3 : s.env 3 = .ref q 0) (e7 : s.env 7 = .int .i64 (i : Int)) (hq : s.hs.heap q = some [.int .i64 R.r, .int .i64 R.c, y0]) (hlt : q < s.hs.nh)
    (h2 : ∀ s', FW7 R i s s' → At (Q .normal s')) : At (anyW Try.prog D26 [[], [0], [], [2], [], [], [5], [], [6, 7], [4, 8], [], [10], [], [12], [11, 13], [9, 14, 9], [1, 3, 15], [], [17, 16, 15, 0, 1, 2, 3, 4, 5, 6, 7, 8, 9, 10, 11, 12, 13, 14, 15, 16, 17]] [⟨some 59, none, .faddr false 1 0 (.t 3)⟩, ⟨some 60, none, .load false 1 (.t 59)⟩, ⟨some 61, none, .faddr false 1 1 (.t 3)⟩, ⟨some 62, none, .load false 1 (.t 61)⟩, ⟨some 63, none, .buildSl 3 []⟩, ⟨some 64, none, .faddr false 1 2 (.t 3)⟩, ⟨some 65, none, .load false 1 (.t 64)⟩, ⟨some 66, none, .mv (.t 7)⟩, ⟨some 67, none, .slice 3 (.t 65) none (some (.t 66)) none⟩, ⟨some 68, none, .append 3 (.t 63) (.t 67)⟩, ⟨some 69, none, .faddr false 1 2 (.t 3)⟩, ⟨some 70, none, .load false 1 (.t 69)⟩, ⟨some 71, none, .mv (.t 7)⟩, ⟨some 72, none, .bin 0 .add (.t 71) (.c (.int .i64 1))⟩, ⟨some 73, none, .slice 3 (.t 70) (some (.t 72)) none none⟩, ⟨some 74, none, .append 3 (.t 68) (.t 73)⟩, ⟨some 75, none, .build [.int .i64 0, .int .i64 0, .nilsl] [(0, 1, (.t 60)), (1, 1, (.t 62)), (2, 1, (.t 74))]⟩, ⟨some 9, none, .alloc [.int .i64 0, .int .i64 0, .nilsl]⟩, ⟨none, none, .store 3 (.t 9) (.t 75)⟩] 19 [] Q s) := by
  have hV := (asB_inv hy).1
  have t1 := slice_take hV (n := i) (k := .i64) (by simp; omega)
  have t2 := slice_drop hV (n := i + 1) (k := .i64) (by simp; omega)
  rw [show ((i + 1 : Nat) : Int) = (i : Int) + 1 by omega] at t2
  have w1 : IntKind.i64.wrap ((i : Int) + 1) = (i : Int) + 1 := wrap64 (by omega) (by omega)
  have eT : (brs R.b).take i = brs (R.b.take i) := List.map_take.symm
  have eD : (brs R.b).drop (i + 1) = brs (R.b.drop (i + 1)) := List.map_drop.symm
  have aT := asV_take hV i
  have aD := asV_drop hV (i + 1)
  rw [eT] at aT
  rw [eD] at aD
  have cp := fun hs : HS => copyW (hs := hs) aT aD (by simp; omega)
  refine At.any_to (FW7 R i s) ?_ h2
  refine At.any_q 0 endN_p rfl rfl rfl ?_
  simp [e3, fa]
  refine At.any_r 1 endN_p rfl rfl ⟨q, 0, by simp, by simpa using hlt⟩ ?_
  simp [la, hq, apart]
  refine At.any_q 2 endN_p rfl rfl rfl ?_
  simp [e3, fa]
  refine At.any_r 3 endN_p rfl rfl ⟨q, 1, by simp, by simpa using hlt⟩ ?_
  simp [la, hq, apart]
  refine At.any_q 4 endN_p rfl rfl rfl ?_
  simp [astoAll]
  refine At.any_q 5 endN_p rfl rfl rfl ?_
  simp [e3, fa]
  refine At.any_r 6 endN_p rfl rfl ⟨q, 2, by simp, by simpa using hlt⟩ ?_
  simp [la, hq, apart]
  refine At.any_q 7 endN_p rfl rfl rfl ?_
  simp [e7]
  refine At.any_q 8 endN_p rfl rfl rfl ?_
  simp [t1]
  refine At.any_q 10 endN_p rfl rfl rfl ?_
  simp [e3, fa]
  refine At.any_r 11 endN_p rfl rfl ⟨q, 2, by simp, by simpa using hlt⟩ ?_
  simp [la, hq, apart]
  refine At.any_q 12 endN_p rfl rfl rfl ?_
  simp [e7]
  refine At.any_q 13 endN_p rfl rfl rfl ?_
  simp [w1]
  refine At.any_q 14 endN_p rfl rfl rfl ?_
  simp [t2]
  obtain ⟨y1, hs1, b1, b2, b3⟩ := cp s.hs
  obtain ⟨y1', hs1', b1', b2', b3'⟩ := cp ⟨fun k => if k = s.hs.nh then some [.int .i64 0, .int .i64 0, .nilsl] else s.hs.heap k, s.hs.nh + 1, s.hs.nt, s.hs.tok⟩
  refine At.any_2 9 17 rfl rfl rfl ?_ ?_
  · simp [b1]
    refine At.any_2 15 17 rfl rfl rfl ?_ ?_
    · obtain ⟨y2, hs3, c1, c2, c3, c4, c5⟩ := b3 hs1 rfl rfl
      simp [c1]
      refine At.any_q 16 endN_p rfl rfl rfl ?_
      simp [afill, si, ci, c4, c5, setL]
      refine At.any_o 17 rfl rfl ?_
      simp
      refine At.any_o 18 rfl rfl ?_
      simp [astore, sa, ca, c4, c5, setL]
      refine At.any_e rfl ?_
      simp
      exact At.of ⟨fun k hk => by have hm : ∀ m, 9 ≤ m → ¬ k = m := fun m h e => (by omega); simp [env_none, hm], by simp [env_none], fun k hk => by have z1 := c2.nh; have z2 := b2.nh; simp [show ¬ k = hs3.nh by omega, c2.heap, b2.heap], by have z1 := c2.nh; have z2 := b2.nh; simp; omega, hs3.nh, y2, by simp [env_none], by simp, c3⟩
    · obtain ⟨y2, hs3, c1, c2, c3, c4, c5⟩ := b3 ⟨fun k => if k = hs1.nh then some [.int .i64 0, .int .i64 0, .nilsl] else hs1.heap k, hs1.nh + 1, hs1.nt, hs1.tok⟩ rfl rfl
      simp
      refine At.any_o 15 rfl rfl ?_
      simp [c1]
      refine At.any_q 16 endN_p rfl rfl rfl ?_
      simp [afill, si, ci, c4, c5, setL]
      refine At.any_o 18 rfl rfl ?_
      simp [astore, sa, ca, c4, c5, setL, c2.heap]
      refine At.any_e rfl ?_
      simp
      exact At.of ⟨fun k hk => by have hm : ∀ m, 9 ≤ m → ¬ k = m := fun m h e => (by omega); simp [env_none, hm], by simp [env_none], fun k hk => by have z1 := c2.nh; have z2 := b2.nh; simp [show ¬ k = hs1.nh by omega, c2.heap, b2.heap], by have z1 := c2.nh; have z2 := b2.nh; simp at z1; simp; omega, hs1.nh, y2, by simp [env_none], by simp, c3⟩
  · simp
    refine At.any_o 9 rfl rfl ?_
    simp [b1']
    refine At.any_o 15 rfl rfl ?_
    obtain ⟨y2, hs3, c1, c2, c3, c4, c5⟩ := b3' hs1' rfl rfl
    simp [c1]
    refine At.any_q 16 endN_p rfl rfl rfl ?_
    simp [afill, si, ci, c4, c5, setL]
    refine At.any_o 18 rfl rfl ?_
    simp [astore, sa, ca, c4, c5, setL, c2.heap, b2'.heap]
    refine At.any_e rfl ?_
    simp
    exact At.of ⟨fun k hk => by have hm : ∀ m, 9 ≤ m → ¬ k = m := fun m h e => (by omega); simp [env_none, hm], by simp [env_none], fun k hk => by have z1 := c2.nh; have z2 := b2'.nh; simp at z2; simp [show ¬ k = s.hs.nh by omega, c2.heap, b2'.heap], by have z1 := c2.nh; have z2 := b2'.nh; simp at z2; simp; omega, s.hs.nh, y2, by simp [env_none], by simp [c2.heap, b2'.heap], c3⟩
theorem stV_ok {R : Rk} (hok : OkR R) (hl : R.b.length ≤ 24) : stV R = .tup [.bool (stM R), .int .i64 0] := by
  rw [stV, if_pos (chkR_zero.2 ⟨hok, hl⟩), st_eq hok]
theorem nd_law {R : Rk} (hok : OkR R) (hl : R.b.length ≤ 24) : ndV R = if rgB R (-1) = true then .tup [outV 1 (ints (ndK (fun i => !rgB R (i : Int)) R.b.length)), .int .i64 0] else .tup [.nilsl, .int .i64 22] := by
  rw [ndV_eq, nmV, if_pos (chkR_zero.2 ⟨hok, hl⟩), rg_all hok]
  have : ndK (fun i => !stM ⟨R.r, R.c, wo R.b i⟩) R.b.length = ndK (fun i => !rgB R (i : Int)) R.b.length := ndK_congr fun i hi => by rw [rg_wo hok hi]
  rw [this]
theorem p7 {x : AV} {a b : Nat} {l : List Nt} (hx : IsSh x a b l) : PCall Try.prog 7 [x] (.bool true) := by
  obtain ⟨R, hR⟩ : ∃ R, R = mkR a b l true := ⟨_, rfl⟩
  have hv : asR (mkV a b l true) = some R := by rw [hR]; exact asR_mkV a b l true
  have hok : OkR R := by rw [hR]; exact mkR_ok a b l true
  have hlen : R.b.length ≤ 9 := by rw [hR]; exact mkR_len a b l true
  have hS37 := SMade_i hx true
  obtain ⟨y0, hV, hy⟩ := asR_inv hv
  rw [hV] at hv hS37
  have hS21 := SNd_i hv
  rw [nd_law hok (by omega)] at hS21
  have hrg := SRg_i hv hok
  have sx : x.sto = true := by obtain ⟨⟨z, rfl, hz⟩, _⟩ := hx; rfl
  have lx : ∀ h, aload h true 3 (.ptr x) = some x := by obtain ⟨⟨z, rfl, hz⟩, _⟩ := hx; exact fun _ => rfl
  obtain ⟨hyc, hys⟩ := asB_cells hy
  have hlz : ∀ h, aload h false 1 (.ptr y0) = some y0 := by
    intro h
    rcases (asB_inv hy).2.1 with ⟨e, _⟩ | ⟨c, e⟩ <;> rw [e] <;> rfl
  refine PCall.of D26ok ok7 (by simp) rfl fun hs' hbb => ?_
  generalize hq : hs'.nh = q
  by_cases hr : rgB R (-1) = true
  rotate_left
  · rw [if_neg hr] at hS21
    rw [Bool.not_eq_true] at hr
    simp [A7, R7, sx, lx, D26_37, D26_21, D26_43, hS37, astoAll, afill, si, ci, sa, ca, setL, astore, env_none, hq, hyc, hys, la, apart, hS21, hrg, hr]
  rw [if_pos hr] at hS21
  generalize hf : (fun i : Nat => !rgB R (i : Int)) = f at *
  generalize hL : ndK f R.b.length = L at *
  have hLl : L.length ≤ 9 := by have := ndK_len (f := f) R.b.length; rw [hL] at this; omega
  have hLI : asI (outV 1 (ints L)) = some L := asI_outV (by omega)
  have hfi : ∀ i : Nat, f i = !rgB R (i : Int) := fun i => by rw [← hf]
  generalize outV 1 (ints L) = LV at *
  simp [A7, R7, sx, lx, D26_37, D26_21, D26_43, hS37, astoAll, afill, si, ci, sa, ca, setL, astore, env_none, hq, hyc, hys, la, lpa, fa, apart, hS21, hrg, hr, blen hy, hlz]
  refine At.loop (fun (i : Nat) s => i ≤ R.b.length ∧ s.env 3 = .ref q 0 ∧ s.env 4 = LV ∧ s.env 5 = .int .i64 0 ∧ s.env 6 = .int .i64 ((ndK f i).length : Nat) ∧ s.env 34 = .int .i64 (R.b.length : Int) ∧ s.env 35 = .int .i64 (i : Int) ∧ q < s.hs.nh ∧ s.hs.heap q = some [.int .i64 R.r, .int .i64 R.c, y0]) (fun i => R.b.length - i) 0 ?_ ?_
  · simp [ndK]
  rintro N i s hN ⟨hi, e3, e4, e5, e6, e34, e35, hlt, hh⟩
  simp [e34, e35]
  refine At.dec (fun hl1 => ?_) (fun hl1 => ?_)
  · have hi' : i < R.b.length := by omega
    have hat := nd_at (f := f) hi'
    rw [hL] at hat
    have hKl := ndK_len (f := f) i
    have hnx : (ndK f (i + 1)).length = if f i = true then (ndK f i).length + 1 else (ndK f i).length := by simp only [ndK]; split <;> simp
    have hrgi := hrg (i : Int)
    have hgi : rgB R (i : Int) = !f i := by rw [hfi]; simp
    rw [hgi] at hrgi
    have hstw : stM (woR R i) = !f i := by rw [← rg_wo hok hi', hgi]
    generalize (ndK f i).length = K at *
    have hst : ∀ p : AV, asB p = some (wo R.b i) → SSt [.agg [.int .i64 R.r, .int .i64 R.c, p]] = some (.tup [.bool (!f i), .int .i64 0]) := by
      intro p hp
      rw [SSt_i (asR_mk hp), stV_ok (hok.wo i) (by show (wo R.b i).length ≤ 24; simp only [wo, List.length_append, List.length_take, List.length_drop]; omega)]
      have : stM ⟨R.r, R.c, wo R.b i⟩ = stM (woR R i) := rfl
      rw [this, hstw]
    have h3 : K < L.length ∧ (∃ hk : K < L.length, L[K] = (i : Int)) ∧ f i = true ∨ K < L.length ∧ (∃ hk : K < L.length, ¬ L[K] = (i : Int)) ∧ f i = false ∨ ¬ K < L.length ∧ f i = false := by
      cases hfv : f i with
      | true => exact .inl ⟨(hat.2 hfv).1, hat.2 hfv, rfl⟩
      | false =>
        by_cases hk : K < L.length
        · exact .inr (.inl ⟨hk, ⟨hk, fun h => by have := hat.1 ⟨hk, h⟩; rw [hfv] at this; cases this⟩, rfl⟩)
        · exact .inr (.inr ⟨hk, rfl⟩)
    rcases h3 with ⟨hk, ⟨_, hv2⟩, hfv⟩ | ⟨hk, ⟨_, hv2⟩, hfv⟩ | ⟨hk, hfv⟩
    · have hix := aidx_nat hLI hk (k := .i64)
      rw [hv2] at hix
      rw [hfv] at hrgi hst hnx
      simp [e3, e4, e6, e35, la, lpa, hh, apart, hrgi, alen_of hLI, hk, hix]
      refine reg7 (q := q) (R := R) (i := i) (y0 := y0) hy hi' (by omega) ?_ ?_ ?_ ?_ ?_
      · simp [e3]
      · simp
      · simpa using hh
      · simpa using hlt
      rintro s2 ⟨g1, ⟨g33, g34, g35⟩, glow, gnh, p, y2, g9, gp, gy⟩
      have q3 := g1 3 (by omega)
      have q4 := g1 4 (by omega)
      have q5 := g1 5 (by omega)
      have q6 := g1 6 (by omega)
      have q8 := g1 8 (by omega)
      have qh := glow q (by simpa using hlt)
      have hs := hst y2 gy
      simp [e3, e4, e5, e6, e34, e35, hh, wrap_nat1 (show K < _ by omega)] at q3 q4 q5 q6 q8 qh g34 g35 gnh hs hnx
      simp [g9, la, gp, apart, hs, q8, g35]
      refine hN (i + 1) _ (by omega) ⟨by omega, ?_⟩
      simp [q3, q4, q5, q6, g34, g35, qh, hnx, wrap_nat1 (show i < _ by omega)]
      omega
    · have hix := aidx_nat hLI hk (k := .i64)
      rw [hfv] at hrgi hst hnx
      simp [e3, e4, e6, e35, la, lpa, hh, apart, hrgi, alen_of hLI, hk, hix, hv2]
      refine reg7 (q := q) (R := R) (i := i) (y0 := y0) hy hi' (by omega) ?_ ?_ ?_ ?_ ?_
      · simp [e3]
      · simp
      · simpa using hh
      · simpa using hlt
      rintro s2 ⟨g1, ⟨g33, g34, g35⟩, glow, gnh, p, y2, g9, gp, gy⟩
      have q3 := g1 3 (by omega)
      have q4 := g1 4 (by omega)
      have q5 := g1 5 (by omega)
      have q6 := g1 6 (by omega)
      have q8 := g1 8 (by omega)
      have qh := glow q (by simpa using hlt)
      have hs := hst y2 gy
      simp [e3, e4, e5, e6, e34, e35, hh, wrap_nat1 (show K < _ by omega)] at q3 q4 q5 q6 q8 qh g34 g35 gnh hs hnx
      simp [g9, la, gp, apart, hs, q8, g35]
      refine hN (i + 1) _ (by omega) ⟨by omega, ?_⟩
      simp [q3, q4, q5, q6, g34, g35, qh, hnx, wrap_nat1 (show i < _ by omega)]
      omega
    · rw [hfv] at hrgi hst hnx
      simp [e3, e4, e6, e35, la, lpa, hh, apart, hrgi, alen_of hLI, hk]
      refine reg7 (q := q) (R := R) (i := i) (y0 := y0) hy hi' (by omega) ?_ ?_ ?_ ?_ ?_
      · simp [e3]
      · simp
      · simpa using hh
      · simpa using hlt
      rintro s2 ⟨g1, ⟨g33, g34, g35⟩, glow, gnh, p, y2, g9, gp, gy⟩
      have q3 := g1 3 (by omega)
      have q4 := g1 4 (by omega)
      have q5 := g1 5 (by omega)
      have q6 := g1 6 (by omega)
      have q8 := g1 8 (by omega)
      have qh := glow q (by simpa using hlt)
      have hs := hst y2 gy
      simp [e3, e4, e5, e6, e34, e35, hh, wrap_nat1 (show K < _ by omega)] at q3 q4 q5 q6 q8 qh g34 g35 gnh hs hnx
      simp [g9, la, gp, apart, hs, q8, g35]
      refine hN (i + 1) _ (by omega) ⟨by omega, ?_⟩
      simp [q3, q4, q5, q6, g34, g35, qh, hnx, wrap_nat1 (show i < _ by omega)]
      omega
  · have hiL : i = R.b.length := by omega
    subst hiL
    rw [hL] at e6
    simp [e4, e5, e6, alen_of hLI]
theorem needed_typed (xs : List AV) (h : Typed [TSh] xs) : PCall Try.prog 7 xs (.bool true) := by
  obtain ⟨x, rfl, hx⟩ := h.one
  obtain ⟨a, b, l, hs⟩ := shelf_typed hx
  exact p7 hs
end Go.Proofs.Ytecbbbocjmdfgaa
set_option linter.unusedVariables false
set_option linter.unusedSimpArgs false
namespace Go.Proofs.Ytecbbbocjmdfgaa
open Go Fw

/-- a brace whose arrow leaves the set -/
def lvB (r s : Nat) (b : Br) : Bool := (decide (b.2.2 ≠ 2) && (s.testBit b.1.toNat && !s.testBit (r + b.2.1.toNat))) || (decide (b.2.2 ≠ 1) && (s.testBit (r + b.2.1.toNat) && !s.testBit b.1.toNat))
def lfL (r s : Nat) (l : List Br) : Bool := l.any (lvB r s)
/-- all smaller sets are left -/
def jsB (R : Rk) (k : Nat) : Bool := (List.range k).all fun s => decide (s = 0) || lfL R.r.toNat s R.b
theorem lfL_snoc {r s : Nat} {l : List Br} {i : Nat} (hi : i < l.length) : lfL r s (l.take (i + 1)) = (lfL r s (l.take i) || lvB r s l[i]) := by
  rw [take_snoc hi, lfL, List.any_append]; simp [lfL]
theorem jsB_succ {R : Rk} {k : Nat} (h : 0 < k) : jsB R (k + 1) = (jsB R k && lfL R.r.toNat k R.b) := by
  unfold jsB
  rw [List.range_succ, List.all_append]
  simp [show ¬ k = 0 by omega]
theorem lf_iff {R : Rk} {s : Nat} : lfL R.r.toNat s R.b = true ↔ ∃ x y, Ed R x y ∧ s.testBit x = true ∧ s.testBit y = false := by
  unfold lfL
  rw [List.any_eq_true]
  constructor
  · rintro ⟨b, hb, h⟩
    simp only [lvB, Bool.or_eq_true, Bool.and_eq_true, decide_eq_true_eq, Bool.not_eq_true'] at h
    rcases h with ⟨h1, h2, h3⟩ | ⟨h1, h2, h3⟩
    · exact ⟨_, _, ⟨b, hb, .inl ⟨h1, rfl, rfl⟩⟩, h2, h3⟩
    · exact ⟨_, _, ⟨b, hb, .inr ⟨h1, rfl, rfl⟩⟩, h2, h3⟩
  · rintro ⟨x, y, ⟨b, hb, he⟩, h2, h3⟩
    refine ⟨b, hb, ?_⟩
    simp only [lvB, Bool.or_eq_true, Bool.and_eq_true, decide_eq_true_eq, Bool.not_eq_true']
    rcases he with ⟨h1, rfl, rfl⟩ | ⟨h1, rfl, rfl⟩
    · exact .inl ⟨h1, h2, h3⟩
    · exact .inr ⟨h1, h2, h3⟩
open Classical in
theorem mask_of (P : Nat → Prop) : ∀ n : Nat, ∃ m : Nat, ∀ i, m.testBit i = true ↔ i < n ∧ P i
  | 0 => ⟨0, fun i => by simp⟩
  | n + 1 => by
    obtain ⟨m, hm⟩ := mask_of P n
    by_cases hP : P n
    · refine ⟨m ||| 2 ^ n, fun i => ?_⟩
      rw [Nat.testBit_or, Bool.or_eq_true, hm, Nat.testBit_two_pow]
      simp only [decide_eq_true_eq]
      constructor
      · rintro (⟨h1, h2⟩ | rfl)
        · exact ⟨by omega, h2⟩
        · exact ⟨by omega, hP⟩
      · rintro ⟨h1, h2⟩
        by_cases h : n = i
        · exact .inr h
        · exact .inl ⟨by omega, h2⟩
    · refine ⟨m, fun i => ?_⟩
      rw [hm]
      constructor
      · rintro ⟨h1, h2⟩; exact ⟨by omega, h2⟩
      · rintro ⟨h1, h2⟩
        by_cases h : i = n
        · subst h; exact absurd h2 hP
        · exact ⟨by omega, h2⟩
theorem js_iff {R : Rk} (hok : OkR R) : jsB R (2 ^ nR R - 1) = stM R := by
  rw [Bool.eq_iff_iff, stM_iff hok]
  unfold jsB
  rw [List.all_eq_true]
  have hP : 0 < 2 ^ nR R := Nat.two_pow_pos _
  constructor
  · intro h x y hx hy
    apply Classical.byContradiction
    intro hno
    obtain ⟨m, hm⟩ := mask_of (fun z => Rt (Ed R) x z) (nR R)
    have hmx : m.testBit x = true := (hm x).2 ⟨hx, .refl x⟩
    have hmy : m.testBit y = false := by
      cases hb : m.testBit y with
      | false => rfl
      | true => exact absurd ((hm y).1 hb).2 hno
    have hlt : m < 2 ^ nR R := by
      apply Nat.lt_of_not_le
      intro hge
      obtain ⟨i, hi, hb⟩ := Nat.exists_ge_and_testBit_of_ge_two_pow hge
      exact absurd ((hm i).1 hb).1 (by omega)
    have hne : m ≠ 2 ^ nR R - 1 := by
      intro e
      rw [e, Nat.testBit_two_pow_sub_one] at hmy
      simp [hy] at hmy
    have := h m (by simp only [List.mem_range]; omega)
    rw [Bool.or_eq_true, decide_eq_true_eq] at this
    rcases this with h0 | hl
    · rw [h0] at hmx; simp at hmx
    · obtain ⟨a, c, he, h1, h2⟩ := lf_iff.1 hl
      have ha := (hm a).1 h1
      have hc : m.testBit c = true := (hm c).2 ⟨(he.lt hok).2, ha.2.tail he⟩
      rw [h2] at hc; cases hc
  · intro h s hs
    rw [Bool.or_eq_true, decide_eq_true_eq]
    by_cases h0 : s = 0
    · exact .inl h0
    right
    have hs : s < 2 ^ nR R - 1 := by simpa using hs
    rw [lf_iff]
    apply Classical.byContradiction
    intro hno
    obtain ⟨x, hx⟩ := Nat.exists_testBit_of_ne_zero h0
    have hxn : x < nR R := by
      apply Nat.lt_of_not_le
      intro hge
      rw [Nat.testBit_lt_two_pow (Nat.lt_of_lt_of_le (show s < 2 ^ nR R by omega) (Nat.pow_le_pow_right (by decide) hge))] at hx
      cases hx
    have hall : ∀ y, Rt (Ed R) x y → s.testBit y = true := by
      intro y hr
      refine hr.closed (S := fun z => s.testBit z = true) (fun c d he hc => ?_) hx
      cases hd : s.testBit d with
      | true => rfl
      | false => exact absurd ⟨c, d, he, hc, hd⟩ hno
    have : s = 2 ^ nR R - 1 := by
      apply Nat.eq_of_testBit_eq
      intro i
      rw [Nat.testBit_two_pow_sub_one]
      by_cases hi : i < nR R
      · rw [hall i (h x i hxn hi)]; simp [hi]
      · rw [Nat.testBit_lt_two_pow (Nat.lt_of_lt_of_le (show s < 2 ^ nR R by omega) (Nat.pow_le_pow_right (by decide) (by omega)))]; simp [hi]
    omega
/-- the motion of what can be reached, by numbers -/
theorem mv_law {R : Rk} (hok : OkR R) {i : Nat} (hi : i < nR R) (hne : fromS (frF R (-1)).arr i ≠ 2 ^ nR R - 1) :
    allEq (bits (fromS (frF R (-1)).arr i) 0 (nR R)) = false ∧ kpB R (bits (fromS (frF R (-1)).arr i) 0 (nR R)) (-1) = true := by
  have hbit := fun k => from_bit hok (k := k) hi
  have hall := from_all hok hi
  generalize fromS (frF R (-1)).arr i = S at *
  have hS : ∀ k, k < nR R → (bits S 0 (nR R)).getD k 0 = if S.testBit k = true then 1 else 0 := fun k hk => by rw [bits_get hk, Nat.zero_add]
  constructor
  · cases ha : allEq (bits S 0 (nR R)) with
    | false => rfl
    | true =>
      rw [allEq_iff] at ha
      have hl : (bits S 0 (nR R)).length = nR R := by simp
      have h0 := ha i (by omega)
      rw [hS i hi, if_pos ((hbit i).2 ⟨hi, .refl i⟩)] at h0
      refine absurd (hall.2 fun k hk => ?_) hne
      have hk2 := ha k (by omega)
      rw [hS k hk, ← h0] at hk2
      split at hk2
      · rename_i hb; exact ((hbit k).1 hb).2
      · cases hk2
  · rw [kp_up hok]
    intro x y he
    obtain ⟨hx, hy⟩ := Ew_lt hok he
    have he' : Ed R x y := arrow_all.2 he
    rw [hS x hx, hS y hy]
    by_cases hb : S.testBit x = true
    · rw [if_pos hb, if_pos ((hbit y).2 ⟨hy, ((hbit x).1 hb).2.tail he'⟩)]; omega
    · rw [if_neg hb]; split <;> omega
noncomputable def D27 : PCtx := (D26.add 46 SMv).add 40 SVf
theorem D27ok : CtxOk Try.prog D27 := (D26ok.add c46).add c40
theorem D27_37 : D27 37 = SMade := id rfl
theorem D27_43 : D27 43 = SRg := id rfl
theorem D27_17 : D27 17 = SSt := id rfl
theorem D27_15 : D27 15 = SWk := id rfl
theorem D27_46 : D27 46 = SMv := id rfl
theorem D27_40 : D27 40 = SVf := id rfl
theorem D27_38 : D27 38 = SEq := id rfl
theorem D27_39 : D27 39 = SKp := id rfl
theorem frz_i {z : AV} {L : List Int} (hz : asI z = some L) {h : Nat → Option (List AV)} {n : Nat} : frz h n z = z := by
  rcases asI_inv hz with ⟨rfl, _⟩ | ⟨c, rfl⟩ <;> cases n <;> simp
theorem ld38 {hs : HS} {z : AV} {L : List Int} (hz : asI z = some L) : alcall D27 38 hs [z] = some (.bool (allEq L)) := by
  unfold alcall
  simp only [List.map_cons, List.map_nil, frz_i hz, D27_38, SEq, hz, Option.map_some]
  rfl
theorem ld39 {hs : HS} {x z : AV} {R : Rk} {L : List Int} (hx : asR x = some R) (hok : OkR R) (hz : asI z = some L) (hl : L.length = nR R) (but : Int) : alcall D27 39 hs [x, z, .int .i64 but] = some (.bool (kpB R L but)) := by
  unfold alcall
  simp only [List.map_cons, List.map_nil, frz_i hz, frz_rk hx, frz_int, D27_39, SKp_i hx hz hok hl but]
  rfl
theorem p13 {x : AV} {a b : Nat} {l : List Nt} (hx : IsSh x a b l) : PCall Try.prog 13 [x] (.bool true) := by
  obtain ⟨R, hR⟩ : ∃ R, R = mkR a b l true := ⟨_, rfl⟩
  have hv : asR (mkV a b l true) = some R := by rw [hR]; exact asR_mkV a b l true
  have hok : OkR R := by rw [hR]; exact mkR_ok a b l true
  have hlen : R.b.length ≤ 9 := by rw [hR]; exact mkR_len a b l true
  have hchk : chkR R = 0 := chkR_zero.2 ⟨hok, by omega⟩
  have hS37 := SMade_i hx true
  obtain ⟨y0, hV, hy⟩ := asR_inv hv
  rw [hV] at hv hS37
  have hrg := SRg_i hv hok (-1)
  rw [rg_all hok] at hrg
  have hS17 := SSt_i hv
  rw [stV_ok hok (by omega)] at hS17
  have hMv : SMv [.agg [.int .i64 R.r, .int .i64 R.c, y0]] = some (mvV R) := by simp [SMv, hv]
  have sx : x.sto = true := by obtain ⟨⟨z, rfl, hz⟩, _⟩ := hx; rfl
  have lx : ∀ h, aload h true 3 (.ptr x) = some x := by obtain ⟨⟨z, rfl, hz⟩, _⟩ := hx; exact fun _ => rfl
  obtain ⟨hyc, hys⟩ := asB_cells hy
  have hr1 := hok.r1
  have hr6 := hok.r6
  have hc1 := hok.c1
  have hc6 := hok.c6
  have hjs := js_iff hok
  obtain ⟨n, hn⟩ : ∃ n : Nat, n = nR R := ⟨_, rfl⟩
  have hnn : nR R = R.r.toNat + R.c.toNat := rfl
  have hsum : IntKind.i64.wrap (R.r + R.c) = (n : Int) := by rw [wrap64 (by omega) (by omega)]; omega
  obtain ⟨r, hr⟩ : ∃ r : Nat, R.r = (r : Int) := ⟨R.r.toNat, by omega⟩
  obtain ⟨P, hP⟩ : ∃ P : Nat, P = 2 ^ n := ⟨_, rfl⟩
  have hPl : 4 ≤ P ∧ P ≤ 4096 := by
    rw [hP]
    exact ⟨Nat.le_trans (show 4 ≤ 2 ^ 2 by decide) (Nat.pow_le_pow_right (by decide) (by omega)), Nat.le_trans (Nat.pow_le_pow_right (by decide) (show n ≤ 12 by omega)) (by decide)⟩
  rw [← hn, ← hP] at hjs
  have sh := shl64 (kd := 0) (n := n) (k := .i64) (by omega)
  rw [← hP] at sh
  have w1 : IntKind.i64.wrap ((P : Int) - 1) = ((P - 1 : Nat) : Int) := by rw [wrap64 (by omega) (by omega)]; omega
  -- what Move gives
  obtain ⟨xa, xb, e8, hmv, LA, LB, ia, ib, hlst⟩ : ∃ xa xb e8, mvV R = .tup [.agg [xa, xb], .int .i64 e8] ∧ ∃ LA LB, asI xa = some LA ∧ asI xb = some LB ∧
      (stM R = true ∧ e8 = 14 ∧ LA = [] ∧ LB = [] ∨ stM R = false ∧ e8 = 0 ∧ (LA.length : Int) = R.r ∧ (LB.length : Int) = R.c ∧ vfR R LA LB = 0 ∧ (∀ v ∈ LA ++ LB, v = 0 ∨ v = 1) ∧ allEq (LA ++ LB) = false ∧ kpB R (LA ++ LB) (-1) = true ∧ (LA ++ LB).length = n) := by
    cases hmi : mvI R with
    | none =>
      have hst := (mv_none hok).1 hmi
      exact ⟨_, _, 14, by rw [mvV, if_pos hchk, hmi]; rfl, [], [], rfl, rfl, .inl ⟨hst, rfl, rfl, rfl⟩⟩
    | some i =>
      have hst : stM R = false := by
        cases h : stM R with
        | false => rfl
        | true => rw [(mv_none hok).2 h] at hmi; cases hmi
      obtain ⟨_, hi, hne⟩ := mvF_some hmi
      rw [Nat.zero_add] at hi
      have hv0 := mv_ok hok hchk hi hne
      have hml := mv_law hok hi hne
      rw [hnn, ← bits_app] at hml
      refine ⟨_, _, 0, by rw [mvV, if_pos hchk, hmi]; rfl, _, _, asI_outV (by simp; omega), asI_outV (by simp; omega), .inr ⟨hst, rfl, by simp; omega, by simp; omega, hv0, ?_, hml.1, hml.2, by simp; omega⟩⟩
      intro v hv
      rcases List.mem_append.1 hv with hv | hv
      · exact bits_01 hv
      · exact bits_01 hv
  rw [hmv] at hMv
  have hcel : ∀ {z : AV} {L : List Int}, asI z = some L → z.sto = true ∧ z.cells = [z] ∧ ∀ h, aload h false 1 (.ptr z) = some z := by
    intro z L hz
    rcases asI_inv hz with ⟨rfl, _⟩ | ⟨c, rfl⟩ <;> exact ⟨rfl, rfl, fun _ => rfl⟩
  obtain ⟨za1, za2, za3⟩ := hcel ia
  obtain ⟨zb1, zb2, zb3⟩ := hcel ib
  refine PCall.of D27ok ok13 (by simp) rfl fun hs' hbb => ?_
  generalize hq : hs'.nh = q
  have nq : ¬ q = q + 1 := by omega
  have nq2 : ¬ q + 1 = q := by omega
  generalize hst : stM R = st at *
  simp [A13, R13, sx, lx, D27_37, D27_17, D27_46, D27_43, hS37, astoAll, afill, si, ci, sa, ca, setL, astore, env_none, hq, nq, nq2, hyc, hys, la, lpa, fa, apart, hS17, hMv, hsum, za1, za2, zb1, zb2, hrg]
  refine At.loop (fun (k : Nat) s => 1 ≤ k ∧ k ≤ P - 1 ∧ s.env 3 = .ref q 0 ∧ s.env 4 = .int .i64 (n : Int) ∧ s.env 5 = .bool st ∧ s.env 7 = .ref (q + 1) 0 ∧ s.env 8 = .int .i64 e8 ∧ s.env 9 = .bool (jsB R k) ∧ s.env 10 = .int .i64 (k : Int) ∧ q + 1 < s.hs.nh ∧ s.hs.heap q = some [.int .i64 R.r, .int .i64 R.c, y0] ∧ s.hs.heap (q + 1) = some [xa, xb]) (fun k => P - k) 1 ?_ ?_
  · simp [nq, nq2, jsB]; omega
  rintro N k s hN ⟨hk1, hk2, e3, e4, e5, e7, e8', e9, e10, hlt, hh1, hh2⟩
  simp [e4, e10, sh, w1]
  refine At.dec (fun hlt1 => ?_) (fun hlt1 => ?_)
  · have hlt1 : k < P - 1 := by omega
    have hlz := (asB_inv hy).2.1
    have hlz : ∀ h, aload h false 1 (.ptr y0) = some y0 := by
      intro h
      rcases hlz with ⟨e, _⟩ | ⟨c, e⟩ <;> rw [e] <;> rfl
    simp [e3, hh1, fa, la, lpa, apart, blen hy, hlz]
    refine At.loop (fun (i : Nat) s => i ≤ R.b.length ∧ s.env 3 = .ref q 0 ∧ s.env 4 = .int .i64 (n : Int) ∧ s.env 5 = .bool st ∧ s.env 7 = .ref (q + 1) 0 ∧ s.env 8 = .int .i64 e8 ∧ s.env 9 = .bool (jsB R k) ∧ s.env 10 = .int .i64 (k : Int) ∧ s.env 11 = .bool (lfL R.r.toNat k (R.b.take i)) ∧ s.env 52 = y0 ∧ s.env 53 = .int .i64 (R.b.length : Int) ∧ s.env 54 = .int .i64 (i : Int) ∧ q + 1 < s.hs.nh ∧ s.hs.heap q = some [.int .i64 R.r, .int .i64 R.c, y0] ∧ s.hs.heap (q + 1) = some [xa, xb]) (fun i => R.b.length - i) 0 ?_ ?_
    · simp [e3, e4, e5, e7, e8', e9, e10, hlt, hh1, hh2, lfL]
    rintro N2 i s2 hN2 ⟨hi, f3, f4, f5, f7, f8, f9, f10, f11, f52, f53, f54, flt, fh1, fh2⟩
    simp [f53, f54]
    refine At.dec (fun hlt2 => ?_) (fun hlt2 => ?_)
    · have hi' : i < R.b.length := by omega
      obtain ⟨c, hcc⟩ : ∃ c, c = R.b[i] := ⟨_, rfl⟩
      obtain ⟨k1, k2, k3, k4, k5, k6⟩ : okB R.r R.c c := by rw [hcc]; exact hok.b _ (List.getElem_mem hi')
      obtain ⟨ρ, hρ⟩ : ∃ ρ : Nat, c.1 = (ρ : Int) := ⟨c.1.toNat, by omega⟩
      obtain ⟨κ, hκ⟩ : ∃ κ : Nat, c.2.1 = (κ : Int) := ⟨c.2.1.toNat, by omega⟩
      have hbi := bidx hy hi' (k := .i64)
      rw [← hcc, hρ, hκ] at hbi
      have gl : ∀ h, aload h true 3 (.ptr (.agg [.int .i64 (ρ : Int), .int .i64 (κ : Int), .int .i64 c.2.2])) = some (.agg [.int .i64 (ρ : Int), .int .i64 (κ : Int), .int .i64 c.2.2]) := fun _ => rfl
      obtain ⟨τ, hτ⟩ : ∃ τ : Nat, τ = r + κ := ⟨_, rfl⟩
      have hws : IntKind.i64.wrap (R.r + (κ : Int)) = (τ : Int) := by rw [wrap64 (by omega) (by omega)]; omega
      have sh1 := shr64 (kd := 0) (a := k) (n := ρ) (k := .i64) (by omega)
      have sh2 := shr64 (kd := 0) (a := k) (n := τ) (k := .i64) (by omega)
      have an1 := and64 (kd := 0) (a := k / 2 ^ ρ) (b := 1) (Nat.lt_of_le_of_lt (Nat.div_le_self _ _) (by omega)) (by omega)
      have an2 := and64 (kd := 0) (a := k / 2 ^ τ) (b := 1) (Nat.lt_of_le_of_lt (Nat.div_le_self _ _) (by omega)) (by omega)
      rw [bit64] at an1 an2
      have hsn : lfL R.r.toNat k (R.b.take (i + 1)) = (lfL R.r.toNat k (R.b.take i) || (decide (c.2.2 ≠ 2) && (k.testBit ρ && !k.testBit τ)) || (decide (c.2.2 ≠ 1) && (k.testBit τ && !k.testBit ρ))) := by
        rw [lfL_snoc hi', ← hcc, lvB, hρ, hκ, hr, Int.toNat_natCast, Int.toNat_natCast, Int.toNat_natCast, ← hτ, Bool.or_assoc]
      have nn1 : ¬ q = s2.hs.nh := by omega
      have nn2 : ¬ q + 1 = s2.hs.nh := by omega
      have n01 : ((1 : Nat) : Int) = 1 := rfl
      rw [n01] at an1 an2
      generalize k / 2 ^ ρ = K1 at *
      generalize k / 2 ^ τ = K2 at *
      generalize k.testBit ρ = B1 at *
      generalize k.testBit τ = B2 at *
      generalize lfL R.r.toNat k (R.b.take i) = LL at *
      generalize c.2.2 = κd at *
      simp [f3, f10, f11, f52, f54, hbi, gl, astore, sa, ca, setL, env_none, la, apart, fa, lpa, fh1, hws, sh1, sh2, an1, an2, nn1, nn2]
      have hkd : κd = 0 ∨ κd = 1 ∨ κd = 2 := by omega
      cases LL with
      | true =>
        rw [Bool.true_or, Bool.true_or] at hsn
        simp [f54]
        refine hN2 (i + 1) _ (by omega) ⟨by omega, ?_⟩
        simp [f3, f4, f5, f7, f8, f9, f10, f52, f53, hsn, wrap_nat1 (show i < _ by omega), nn1, nn2, fh1, fh2]
        omega
      | false =>
        rcases hkd with rfl | rfl | rfl <;> cases B1 <;> cases B2 <;> simp at hsn <;> simp [f54, la, apart, fa, lpa] <;> (refine hN2 (i + 1) _ (by omega) ⟨by omega, ?_⟩; simp [f3, f4, f5, f7, f8, f9, f10, f52, f53, hsn, wrap_nat1 (show i < _ by omega), nn1, nn2, fh1, fh2]; omega)
    · have hiL : i = R.b.length := by omega
      subst hiL
      rw [List.take_length] at f11
      have hj := jsB_succ (R := R) (k := k) (by omega)
      cases hJ : jsB R k with
      | false =>
        rw [hJ, Bool.false_and] at hj
        rw [hJ] at f9
        simp [f9, f10]
        refine hN (k + 1) _ (by omega) ⟨by omega, by omega, ?_⟩
        simp [f3, f4, f5, f7, f8, flt, fh1, fh2, hj, wrap_nat1 (show k < _ by omega)]
      | true =>
        rw [hJ, Bool.true_and] at hj
        rw [hJ] at f9
        simp [f9, f10, f11]
        refine hN (k + 1) _ (by omega) ⟨by omega, by omega, ?_⟩
        simp [f3, f4, f5, f7, f8, flt, fh1, fh2, hj, wrap_nat1 (show k < _ by omega)]
  · have hkP : k = P - 1 := by omega
    rw [hkP, hjs] at e9
    rcases hlst with ⟨h1, rfl, rfl, rfl⟩ | ⟨h1, rfl, l1, l2, hvf, h01, hae, hkp, hLl⟩
    · subst h1
      have w00 : IntKind.i64.wrap 0 = 0 := wrap64 (by decide) (by decide)
      simp [w00, D27_15, e3, e5, e7, e8', e9, fa, la, lpa, hh1, hh2, apart, alen_of ia, alen_of ib, za3, zb3]
    · subst h1
      have hVf := SVf_i (m := .agg [xa, xb]) hv (p := (LA, LB)) (by simp [asMo, ia, ib]) (by show LA.length + LB.length ≤ 1000000; omega)
      have hvf' : vfR R (LA, LB).1 (LA, LB).2 = 0 := hvf
      rw [hvf'] at hVf
      have na : LA ≠ [] := fun h => by rw [h] at l1; simp at l1; omega
      have nb : LB ≠ [] := fun h => by rw [h] at l2; simp at l2; omega
      obtain ⟨y1, hs1, z, hs2, a1, a2, a3, a4, a5⟩ := copyI2 (hs := s.hs) ia ib na nb (by omega)
      generalize LA ++ LB = L at *
      have q38 := ld38 (hs := hs2) a3
      rw [hae] at q38
      have q39 := ld39 (hs := hs2) hv hok a3 (by omega) (-1)
      rw [hkp] at q39
      simp [e3, e5, e7, e8', e9, fa, la, lpa, hh1, hh2, apart, alen_of ia, alen_of ib, za3, zb3, l1, l2, hVf, astoAll, a1, a2, a4.heap, D27_40, alen_of a3]
      refine At.loop (fun (i : Nat) s => i ≤ L.length ∧ s.env 3 = .ref q 0 ∧ s.env 16 = z ∧ s.env 147 = z ∧ s.env 148 = .int .i64 (L.length : Int) ∧ s.env 149 = .int .i64 (i : Int) ∧ s.hs.heap q = some [.int .i64 R.r, .int .i64 R.c, y0]) (fun i => L.length - i) 0 ?_ ?_
      · simp [e3, a5.heap, hh1]
      rintro N2 i s2 hN2 ⟨hi, f3, f16, f147, f148, f149, fh1⟩
      simp [f148, f149]
      refine At.dec (fun hlt2 => ?_) (fun hlt2 => ?_)
      · have hi' : i < L.length := by omega
        have hix := aidx_nat a3 hi' (k := .i64)
        rcases h01 L[i] (List.getElem_mem hi') with h | h
        · rw [h] at hix
          simp [f147, f149, hix]
          refine hN2 (i + 1) _ (by omega) ⟨by omega, ?_⟩
          simp [f3, f16, f147, f148, fh1, wrap_nat1 (show i < _ by omega)]
        · rw [h] at hix
          simp [f147, f149, hix]
          refine hN2 (i + 1) _ (by omega) ⟨by omega, ?_⟩
          simp [f3, f16, f147, f148, fh1, wrap_nat1 (show i < _ by omega)]
      · have q38' := ld38 (hs := s2.hs) a3
        rw [hae] at q38'
        have q39' := ld39 (hs := s2.hs) hv hok a3 (by omega) (-1)
        rw [hkp] at q39'
        simp [f3, f16, la, fh1, apart, q38', q39', D27_15]
theorem motion_typed' (xs : List AV) (h : Typed [TSh] xs) : PCall Try.prog 13 xs (.bool true) := by
  obtain ⟨x, rfl, hx⟩ := h.one
  obtain ⟨a, b, l, hs⟩ := shelf_typed hx
  exact p13 hs
end Go.Proofs.Ytecbbbocjmdfgaa
