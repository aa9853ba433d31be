/-
  Plain: strips that lie flat, and steps that fold an end in. Own work.
  Where segments lie, and creases at the same point: the walk. Own work.
  strings.Builder at this translation: its copy check and WriteByte walked; String by the kit's contract. Own work, after the kit's contracts.
  The creases of layers, which a strings.Builder collects: the walk. Own work.
  The creases of layers: the contract. Own work.
  Whether layers go through each other: the walk. Own work.
-/
import Derived.Test.YtdcpkgedaflnmaaGreatDoorG1
import Derived.Test.YtdcpkgedaflnmaaGreatDoorFx4
import Derived.Shelf.Strings.Builder1
import Derived.Test.YtdcpkgedaflnmaaGreatDoorChecked
import Derived.WalkKit
import Derived.BigCall
import Derived.Test.YtdcpkgedaflnmaaGreatDoorFx3
import Derived.Test.YtdcpkgedaflnmaaGreatDoorC1
set_option linter.unusedVariables false
namespace Fl

/-- strictly between -/
def Mid (x a b : Int) : Prop := (a < x ∧ x < b) ∨ (b < x ∧ x < a)
/-- where segments begin -/
def pt (L : Nat → Int) : Nat → Int
  | 0 => 0
  | i + 1 => if i % 2 = 0 then pt L i + L i else pt L i - L i
/-- heights that do not go through each other -/
structure Val (n : Nat) (p h : Nat → Int) : Prop where
  thru : ∀ i k, i + 1 < n → k < n → Mid (p (i + 1)) (p k) (p (k + 1)) → ¬ Mid (h k) (h i) (h (i + 1))
  pair : ∀ i k, i + 1 < n → k + 1 < n → k ≠ i → k % 2 = i % 2 → p (k + 1) = p (i + 1) → (Mid (h k) (h i) (h (i + 1)) ↔ Mid (h (k + 1)) (h i) (h (i + 1)))
  inj : ∀ i k, i < n → k < n → h i = h k → i = k
/-- the creases of heights -/
def Cr (n : Nat) (h : Nat → Int) (f : Nat → Bool) : Prop := ∀ i, i + 1 < n → (f i = true ↔ (h i < h (i + 1) ↔ i % 2 = 0))
def Flat (n : Nat) (L : Nat → Int) (f : Nat → Bool) : Prop := ∃ h, Val n (pt L) h ∧ Cr n h f
theorem pt_s (L : Nat → Int) (i : Nat) : pt L (i + 1) = if i % 2 = 0 then pt L i + L i else pt L i - L i := rfl
theorem Val.ne {n : Nat} {p h : Nat → Int} (hv : Val n p h) {i k : Nat} (hi : i < n) (hk : k < n) (hne : i ≠ k) : h i ≠ h k := fun e => hne (hv.inj i k hi hk e)
/-- only the points up to the end count -/
theorem Val.cong {n : Nat} {p q h g : Nat → Int} (hv : Val n p h) (hp : ∀ j, j ≤ n → q j = p j) (hh : ∀ j, j < n → g j = h j) : Val n q g := by
  refine ⟨fun i k hi hk => ?_, fun i k hi hk hne hpar => ?_, fun i k hi hk => ?_⟩
  · rw [hp (i + 1) (by omega), hp k (by omega), hp (k + 1) (by omega), hh k hk, hh i (by omega), hh (i + 1) hi]
    exact hv.thru i k hi hk
  · rw [hp (i + 1) (by omega), hp (k + 1) (by omega), hh k (by omega), hh (k + 1) hk, hh i (by omega), hh (i + 1) hi]
    exact hv.pair i k hi hk hne hpar
  · rw [hh i hi, hh k hk]
    exact hv.inj i k hi hk
theorem pt_cong {L M : Nat → Int} {n : Nat} (h : ∀ i, i < n → M i = L i) : ∀ j, j ≤ n → pt M j = pt L j
  | 0, _ => rfl
  | j + 1, hj => by rw [pt_s, pt_s, pt_cong h j (by omega), h j (by omega)]
theorem Flat.cong {n : Nat} {L M : Nat → Int} {f g : Nat → Bool} (hL : ∀ i, i < n → M i = L i) (hf : ∀ i, i + 1 < n → g i = f i) : Flat n L f → Flat n M g := by
  rintro ⟨h, hv, hc⟩
  refine ⟨h, hv.cong (pt_cong hL) (fun _ _ => rfl), fun i hi => ?_⟩
  rw [hf i hi]
  exact hc i hi
/-- points moved, or turned -/
theorem Val.move {n : Nat} {p h : Nat → Int} (hv : Val n p h) {q : Nat → Int} (c : Int) (hq : (∀ j, q j = c + p j) ∨ ∀ j, q j = c - p j) : Val n q h := by
  refine ⟨fun i k hi hk hm => ?_, fun i k hi hk hne hpar he => ?_, hv.inj⟩
  · refine hv.thru i k hi hk ?_
    rcases hq with hq | hq
    all_goals
      have h1 := hq (i + 1)
      have h2 := hq k
      have h3 := hq (k + 1)
      simp only [Mid] at *; omega
  · refine hv.pair i k hi hk hne hpar ?_
    rcases hq with hq | hq
    all_goals
      have h1 := hq (i + 1)
      have h3 := hq (k + 1)
      omega
end Fl
set_option linter.unusedVariables false
set_option linter.unusedSimpArgs false
namespace Go.Proofs.YtdcpkgedaflnmaaGreatDoor.Fo
open Go Fw

/-- where segments begin -/
def pn (l : List Int) : Nat → Int := Fl.pt (gI l)
theorem pn_0 (l : List Int) : pn l 0 = 0 := rfl
theorem pn_s (l : List Int) (i : Nat) : pn l (i + 1) = if i % 2 = 0 then pn l i + gI l i else pn l i - gI l i := rfl
theorem pn_bd {l : List Int} (h : ∀ n ∈ l, 1 ≤ n ∧ n ≤ 350) : ∀ i, i ≤ l.length → -(l.take i).sum ≤ pn l i ∧ pn l i ≤ (l.take i).sum
  | 0, _ => by simp [pn_0]
  | i + 1, hi => by
    have ih := pn_bd h i (by omega)
    have hl : i < l.length := by omega
    have hg := h (gI l i) (by rw [gI_of hl]; exact List.getElem_mem _)
    rw [sum_take_succ hl, ← gI_of hl, pn_s]
    split <;> omega
theorem pn_le {l : List Int} (hm : meas l = 0) {i : Nat} (hi : i ≤ l.length) : -350 ≤ pn l i ∧ pn l i ≤ 350 := by
  obtain ⟨m1, m2, m3, m4⟩ := meas_0 hm
  have h := pn_bd m3 i hi
  have s := sum_split l i
  have n := sum_nonneg (l := l.drop i) fun x hx => m3 x (List.mem_of_mem_drop hx)
  omega
/-- the creases at one point and on one side, of the first n -/
def sameL (l : List Int) (n : Nat) (k : Int × Int) : List Int := ((List.range n).filter fun c => decide (c + 1 < l.length) && decide ((pn l (c + 1), ((c % 2 : Nat) : Int)) = k)).map Int.ofNat
theorem sameL_succ (l : List Int) (n : Nat) (k : Int × Int) : sameL l (n + 1) k = sameL l n k ++ (if n + 1 < l.length ∧ (pn l (n + 1), ((n % 2 : Nat) : Int)) = k then [(n : Int)] else []) := by
  unfold sameL
  rw [List.range_succ, List.filter_append, List.map_append]
  congr 1
  by_cases h : n + 1 < l.length ∧ (pn l (n + 1), ((n % 2 : Nat) : Int)) = k
  · rw [if_pos h, List.filter_cons_of_pos (by rw [Bool.and_eq_true, decide_eq_true_eq, decide_eq_true_eq]; exact h)]
    rfl
  · rw [if_neg h, List.filter_cons_of_neg (by rw [Bool.and_eq_true, decide_eq_true_eq, decide_eq_true_eq]; exact h)]
    rfl
theorem sameL_len (l : List Int) (n : Nat) (k : Int × Int) : (sameL l n k).length ≤ n := by
  unfold sameL
  rw [List.length_map]
  exact Nat.le_trans (List.length_filter_le _ _) (by simp)
/-- memory that only grew -/
structure Ext (hs hs' : HS) : Prop where
  h : HsExt hs hs'
  m : ∀ i, i < hs.nh → hs'.mp i = hs.mp i
  n2 : hs.nh + 2 ≤ hs'.nh
/-- a sheet with its first n segments -/
structure Shc (l : List Int) (n j : Nat) (ys : List AV) : Prop where
  len : ys.length = 22
  lo : ∀ k, k < n → ys[2 * k]? = some (.int .i64 (min (pn l k) (pn l (k + 1))))
  hi : ∀ k, k < n → ys[2 * k + 1]? = some (.int .i64 (max (pn l k) (pn l (k + 1))))
  at' : ∀ k, k < n → ys[14 + k]? = some (.int .i64 (pn l (k + 1)))
  mp : ys[21]? = some (.mp j)
structure Sht (hs : HS) (p j : Nat) (l : List Int) (n : Nat) : Prop where
  cells : ∃ ys, hs.heap p = some ys ∧ Shc l n j ys
  map : ∃ es, hs.mp j = some (entsV es) ∧ Mpl hs es (sameL l n)
theorem set_two {ys : List AV} {o : Nat} {a b : AV} : setL ys o [a, b] = (ys.set o a).set (o + 1) b := rfl
theorem Shc.add {l : List Int} {n j : Nat} {ys : List AV} (h : Shc l n j ys) (hn : n < 7) :
    Shc l (n + 1) j ((setL ys (2 * n) [.int .i64 (min (pn l n) (pn l (n + 1))), .int .i64 (max (pn l n) (pn l (n + 1)))]).set (14 + n) (.int .i64 (pn l (n + 1)))) := by
  have hl := h.len
  rw [set_two]
  refine ⟨by simp [hl], fun k hk => ?_, fun k hk => ?_, fun k hk => ?_, ?_⟩
  · rw [List.getElem?_set_ne (by omega), List.getElem?_set_ne (by omega)]
    by_cases e : k = n
    · subst e; rw [List.getElem?_set_self (by omega)]
    · rw [List.getElem?_set_ne (by omega)]; exact h.lo k (by omega)
  · rw [List.getElem?_set_ne (by omega)]
    by_cases e : k = n
    · subst e; rw [List.getElem?_set_self (by simp; omega)]
    · rw [List.getElem?_set_ne (by omega), List.getElem?_set_ne (by omega)]; exact h.hi k (by omega)
  · by_cases e : k = n
    · subst e; rw [List.getElem?_set_self (by simp; omega)]
    · rw [List.getElem?_set_ne (by omega), List.getElem?_set_ne (by omega), List.getElem?_set_ne (by omega)]; exact h.at' k (by omega)
  · rw [List.getElem?_set_ne (by omega), List.getElem?_set_ne (by omega), List.getElem?_set_ne (by omega)]; exact h.mp
theorem aappend_mp {sz : Nat} {hs hs' : HS} {x q y : AV} (h : aappend sz hs x q = some (y, hs')) : hs'.mp = hs.mp := by
  unfold aappend at h
  split at h <;> (try (cases h; done))
  split at h <;> (try (cases h; done))
  split at h
  · injection h with h; injection h with h1 h2; subst h2; rfl
  · split at h <;> (try (cases h; done))
    · injection h with h; injection h with h1 h2; subst h2; rfl
    · injection h with h; injection h with h1 h2; subst h2; rfl
    · injection h with h; injection h with h1 h2; subst h2; rfl
    · split at h <;> (try (cases h; done))
      injection h with h; injection h with h1 h2; subst h2; rfl
theorem p45 {x : AV} {l : List Int} (hx : asI x = some l) (hm : meas l = 0) (hs : HS) :
    FCall Tryz.prog 65 [x] hs fun e hs' => e = .ret (.ref (hs.nh + 1) 0) ∧ Sht hs' (hs.nh + 1) hs.nh l l.length ∧ Ext hs hs' := by
  refine FCall.ofAt C2ok ok45 (by simp) ?_
  have hfill : afill [.int .i64 0, .int .i64 0, .int .i64 0, .int .i64 0, .int .i64 0, .int .i64 0, .int .i64 0, .int .i64 0, .int .i64 0, .int .i64 0, .int .i64 0, .int .i64 0, .int .i64 0, .int .i64 0, .int .i64 0, .int .i64 0, .int .i64 0, .int .i64 0, .int .i64 0, .int .i64 0, .int .i64 0, .nilmp] [(21, 1, .mp hs.nh)] = some ((List.replicate 21 (.int .i64 0)) ++ [.mp hs.nh]) := rfl
  simp only [A45, R45]
  simp [alen_of hx, amem, hfill]
  refine At.loop (fun (i : Nat) s => i ≤ l.length ∧ s.env 0 = x ∧ s.env 3 = .ref (hs.nh + 1) 0 ∧ s.env 4 = .int .i64 (pn l i) ∧ s.env 11 = x ∧ s.env 12 = .int .i64 (l.length : Int) ∧ s.env 13 = .int .i64 (i : Int) ∧ Sht s.hs (hs.nh + 1) hs.nh l i ∧ Ext hs s.hs) (fun i => l.length - i) 0 ?_ ?_
  · simp [pn_0]
    refine ⟨⟨⟨_, if_pos rfl, rfl, fun k hk => by omega, fun k hk => by omega, fun k hk => by omega, rfl⟩, [], if_pos rfl, .nil⟩, ⟨by simp; omega, fun i hi => ?_⟩, fun i hi => ?_, by simp⟩
    · simp [show ¬ i = hs.nh + 1 by omega]
    · simp [show ¬ i = hs.nh by omega]
  rintro N i s hN ⟨hi, e0, e3, e4, e11, e12, e13, hsh, hext⟩
  obtain ⟨m1, m2, m3, m4⟩ := meas_0 hm
  simp [e12, e13]
  refine At.dec (fun hlt => ?_) (fun hlt => ?_)
  · have hi' : i < l.length := by omega
    have b0 := pn_le hm (i := i) (by omega)
    have b1 := pn_le hm (i := i + 1) (by omega)
    have hg := m3 (gI l i) (by rw [gI_of hi']; exact List.getElem_mem _)
    have hix := idx_g hx hi' (k := .i64)
    obtain ⟨ys, hys, hS⟩ := hsh.cells
    obtain ⟨es, hes, hM⟩ := hsh.map
    have ia1 : aidxA 7 true 2 (.ref (hs.nh + 1) 0) (.int .i64 (i : Int)) = some (.ref (hs.nh + 1) (2 * i)) := by simp [aidxA, afaddr]; omega
    have ia2 : aidxA 7 false 1 (.ref (hs.nh + 1) 14) (.int .i64 (i : Int)) = some (.ref (hs.nh + 1) (14 + i)) := by simp [aidxA, afaddr]; omega
    obtain ⟨h1, st1, h1p, h1o⟩ : ∃ h1, astore s.hs.heap 2 (.ref (hs.nh + 1) (2 * i)) (.agg [.int .i64 (min (pn l i) (pn l (i + 1))), .int .i64 (max (pn l i) (pn l (i + 1)))]) = some h1 ∧
        h1 (hs.nh + 1) = some (setL ys (2 * i) [.int .i64 (min (pn l i) (pn l (i + 1))), .int .i64 (max (pn l i) (pn l (i + 1)))]) ∧ ∀ k, k ≠ hs.nh + 1 → h1 k = s.hs.heap k := by
      refine ⟨fun k => if k = hs.nh + 1 then some (setL ys (2 * i) [.int .i64 (min (pn l i) (pn l (i + 1))), .int .i64 (max (pn l i) (pn l (i + 1)))]) else s.hs.heap k, ?_, if_pos rfl, fun k hk => if_neg hk⟩
      simp only [astore, hys, Option.bind_some]
      rw [if_pos ⟨rfl, rfl, by rw [hS.len]; omega⟩]
      rfl
    have hS1 := hS.add (n := i) (by omega)
    generalize hy1 : setL ys (2 * i) [.int .i64 (min (pn l i) (pn l (i + 1))), .int .i64 (max (pn l i) (pn l (i + 1)))] = ys1 at h1p hS1
    obtain ⟨h2, st2, h2p, h2o⟩ : ∃ h2, astore h1 1 (.ref (hs.nh + 1) (14 + i)) (.int .i64 (pn l (i + 1))) = some h2 ∧ h2 (hs.nh + 1) = some (ys1.set (14 + i) (.int .i64 (pn l (i + 1)))) ∧ ∀ k, k ≠ hs.nh + 1 → h2 k = h1 k := by
      have hl1 : ys1.length = 22 := by have := hS1.len; simpa using this
      exact ⟨_, store_cell h1p (by omega) rfl, if_pos rfl, fun k hk => if_neg hk⟩
    have ldm : aload h2 false 1 (.ref (hs.nh + 1) 21) = some (.mp hs.nh) := by simp [aload, h2p, apart, hS1.mp]
    have mn : amin (.int .i64 (pn l i)) (.int .i64 (pn l (i + 1))) = some (.int .i64 (min (pn l i) (pn l (i + 1)))) := rfl
    have mx : amax (.int .i64 (pn l i)) (.int .i64 (pn l (i + 1))) = some (.int .i64 (max (pn l i) (pn l (i + 1)))) := rfl
    have hM2 : Mpl ⟨h2, s.hs.nh, s.hs.nt, s.hs.tok, s.hs.mp⟩ es (sameL l i) := hM.keep ⟨Nat.le_refl _, fun _ _ h => h⟩
    generalize min (pn l i) (pn l (i + 1)) = vmn at st1 mn
    generalize max (pn l i) (pn l (i + 1)) = vmx at st1 mx
    have w1 := wrap_nat1 (show i < _ by omega)
    have nc : anilchk (.ref (hs.nh + 1) 0) = some (.ref (hs.nh + 1) 0) := rfl
    have hsl := sameL_succ l i
    have hln := sameL_len l i (pn l (i + 1), ((i % 2 : Nat) : Int))
    -- one more crease
    obtain ⟨y, hs', a1, a2, a3, a4⟩ := hM2.add (pn l (i + 1), ((i % 2 : Nat) : Int)) (by omega) (i : Int)
    have hmp' : hs'.mp = s.hs.mp := by have := aappend_mp a1; exact this
    have look : ∀ q : Int, q = ((i % 2 : Nat) : Int) → amem (.look 12 false .nilsl) ⟨h2, s.hs.nh, s.hs.nt, s.hs.tok, s.hs.mp⟩ [.mp hs.nh, .agg [.int .i64 (pn l (i + 1)), .int .i64 q]] = some ((lk es (pn l (i + 1), ((i % 2 : Nat) : Int))).getD .nilsl, ⟨h2, s.hs.nh, s.hs.nt, s.hs.tok, s.hs.mp⟩) := by
      intro q hq
      have := amlook_ents (mp := s.hs.mp) hes (pn l (i + 1), ((i % 2 : Nat) : Int)) .nilsl
      rw [← hq] at this ⊢
      simp only [amem]
      rw [show AV.agg [.int .i64 (pn l (i + 1)), .int .i64 q] = kV (pn l (i + 1), q) from rfl, this]
      rfl
    have upd : ∀ q : Int, q = ((i % 2 : Nat) : Int) → amem (.mupd 12) hs' [.mp hs.nh, .agg [.int .i64 (pn l (i + 1)), .int .i64 q], y] = some (.undef, { hs' with mp := fun k => if k = hs.nh then some (entsV (Fw.pt es (pn l (i + 1), ((i % 2 : Nat) : Int)) y)) else hs'.mp k }) := by
      intro q hq
      have := amupd_ents (hs := hs') (j := hs.nh) (es := es) (by rw [hmp']; exact hes) (pn l (i + 1), ((i % 2 : Nat) : Int)) a2
      rw [← hq] at this ⊢
      simp only [amem]
      rw [show AV.agg [.int .i64 (pn l (i + 1)), .int .i64 q] = kV (pn l (i + 1), q) from rfl, this]
      rfl
    generalize (lk es (pn l (i + 1), ((i % 2 : Nat) : Int))).getD .nilsl = old at a1 look
    have hs1 : i + 1 < l.length → sameL l (i + 1) = fun k' => if k' = (pn l (i + 1), ((i % 2 : Nat) : Int)) then sameL l i (pn l (i + 1), ((i % 2 : Nat) : Int)) ++ [(i : Int)] else sameL l i k' := by
      intro h
      funext k'
      rw [sameL_succ]
      by_cases hk : k' = (pn l (i + 1), ((i % 2 : Nat) : Int))
      · rw [if_pos ⟨h, hk.symm⟩, if_pos hk, hk]
      · rw [if_neg (fun e => hk e.2.symm), if_neg hk, List.append_nil]
    have hs0 : ¬ i + 1 < l.length → sameL l (i + 1) = sameL l i := by
      intro h
      funext k'
      rw [sameL_succ, if_neg (fun e => h e.1), List.append_nil]
    have hold : ∀ k, k < hs.nh → h2 k = hs.heap k := fun k hk => by rw [h2o k (by omega), h1o k (by omega), hext.h.heap k hk]
    have fin1 : i + 1 < l.length → ∀ st : HS, st.heap = hs'.heap → st.nh = hs'.nh → st.nt = hs'.nt → st.tok = hs'.tok → st.mp = (fun k => if k = hs.nh then some (entsV (Fw.pt es (pn l (i + 1), ((i % 2 : Nat) : Int)) y)) else hs'.mp k) →
        Sht st (hs.nh + 1) hs.nh l (i + 1) ∧ Ext hs st := by
      intro h st g1 g2 g3 g4 g5
      refine ⟨⟨⟨_, by rw [g1, a3.heap]; exact h2p, hS1⟩, _, by rw [g5]; exact if_pos rfl, ?_⟩, ⟨by rw [g2, a3.nh]; exact hext.h.nh, fun k hk => by rw [g1, a3.heap]; exact hold k hk⟩, fun k hk => ?_, by rw [g2, a3.nh]; exact hext.n2⟩
      · rw [hs1 h]
        exact a4.keep ⟨by rw [g3]; exact Nat.le_refl _, fun k _ e => by rw [g4]; exact e⟩
      · rw [g5]
        simp only
        rw [if_neg (by omega), hmp']
        exact hext.m k hk
    have fin0 : ¬ i + 1 < l.length → ∀ st : HS, st.heap = h2 → st.nh = s.hs.nh → st.nt = s.hs.nt → st.tok = s.hs.tok → st.mp = s.hs.mp → Sht st (hs.nh + 1) hs.nh l (i + 1) ∧ Ext hs st := by
      intro h st g1 g2 g3 g4 g5
      refine ⟨⟨⟨_, by rw [g1]; exact h2p, hS1⟩, es, by rw [g5]; exact hes, ?_⟩, ⟨by rw [g2]; exact hext.h.nh, fun k hk => by rw [g1]; exact hold k hk⟩, fun k hk => by rw [g5]; exact hext.m k hk, by rw [g2]; exact hext.n2⟩
      rw [hs0 h]
      exact hM.keep ⟨by rw [g3]; exact Nat.le_refl _, fun k _ e => by rw [g4]; exact e⟩
    have par : (i % 2 = 0 ∧ IntKind.i64.wrap (pn l i + gI l i) = pn l (i + 1) ∧ (i : Int).tmod 2 = 0 ∧ 0 = ((i % 2 : Nat) : Int)) ∨
        (i % 2 = 1 ∧ IntKind.i64.wrap (pn l i - gI l i) = pn l (i + 1) ∧ (i : Int).tmod 2 = 1 ∧ 1 = ((i % 2 : Nat) : Int)) := by
      rcases Nat.mod_two_eq_zero_or_one i with hp | hp
      · left
        refine ⟨hp, ?_, ?_, by rw [hp]; rfl⟩
        · rw [pn_s, if_pos hp]; exact wrap64 (by omega) (by omega)
        · show ((i % 2 : Nat) : Int) = 0
          rw [hp]; rfl
      · right
        refine ⟨hp, ?_, ?_, by rw [hp]; rfl⟩
        · rw [pn_s, if_neg (by omega)]; exact wrap64 (by omega) (by omega)
        · show ((i % 2 : Nat) : Int) = 1
          rw [hp]; rfl
    rcases par with ⟨hp, wa, tm, hq⟩ | ⟨hp, wa, tm, hq⟩
    · have lo := look 0 hq
      have up := upd 0 hq
      simp [e0, e3, e4, e11, e12, e13, hix, wa, tm, mn, mx, ia1, ia2, fa, st1, st2, -amin_int, -amax_int, w1, alen_of hx, nc]
      refine At.dec (fun hlt => ?_) (fun hlt => ?_)
      · have f := fin1 (by omega) { hs' with mp := fun k => if k = hs.nh then some (entsV (Fw.pt es (pn l (i + 1), ((i % 2 : Nat) : Int)) y)) else hs'.mp k } rfl rfl rfl rfl rfl
        generalize Fw.pt es (pn l (i + 1), ((i % 2 : Nat) : Int)) y = es2 at up f
        simp [e0, e3, e4, e11, e12, e13, tm, fa, w1, nc, ldm, lo, up, a1, astoAll, sto_in, cel_in]
        refine hN (i + 1) _ (by omega) ⟨by omega, ?_⟩
        simp [e0, e3, e4, e11, e12, e13]
        exact f
      · have f := fin0 (by omega) ⟨h2, s.hs.nh, s.hs.nt, s.hs.tok, s.hs.mp⟩ rfl rfl rfl rfl rfl
        simp [e13, w1]
        refine hN (i + 1) _ (by omega) ⟨by omega, ?_⟩
        simp [e0, e3, e4, e11, e12, e13]
        exact f
    · have lo := look 1 hq
      have up := upd 1 hq
      simp [e0, e3, e4, e11, e12, e13, hix, wa, tm, mn, mx, ia1, ia2, fa, st1, st2, -amin_int, -amax_int, w1, alen_of hx, nc]
      refine At.dec (fun hlt => ?_) (fun hlt => ?_)
      · have f := fin1 (by omega) { hs' with mp := fun k => if k = hs.nh then some (entsV (Fw.pt es (pn l (i + 1), ((i % 2 : Nat) : Int)) y)) else hs'.mp k } rfl rfl rfl rfl rfl
        generalize Fw.pt es (pn l (i + 1), ((i % 2 : Nat) : Int)) y = es2 at up f
        simp [e0, e3, e4, e11, e12, e13, tm, fa, w1, nc, ldm, lo, up, a1, astoAll, sto_in, cel_in]
        refine hN (i + 1) _ (by omega) ⟨by omega, ?_⟩
        simp [e0, e3, e4, e11, e12, e13]
        exact f
      · have f := fin0 (by omega) ⟨h2, s.hs.nh, s.hs.nt, s.hs.tok, s.hs.mp⟩ rfl rfl rfl rfl rfl
        simp [e13, w1]
        refine hN (i + 1) _ (by omega) ⟨by omega, ?_⟩
        simp [e0, e3, e4, e11, e12, e13]
        exact f
  · have : i = l.length := by omega
    subst this
    simp [e3]
    exact At.of ⟨hsh, hext⟩
end Go.Proofs.YtdcpkgedaflnmaaGreatDoor.Fo
set_option linter.unusedVariables false
namespace Go.Proofs.YtdcpkgedaflnmaaGreatDoor.Fo
open Go.Shelf Go.RowKit

theorem bld_size : (Tryz.prog.info? 187).map (·.size) = some 2 := by kernel_rfl
theorem bld_lies : liesAt Tryz.prog Tryz.prog.depth 187 (2 / Tryz.prog.cellsOf 187) 0 187 1 = true := by kernel_rfl

set_option maxHeartbeats 1000000 in
set_option maxRecDepth 100000 in
theorem bld_used (b : Nat) (w : World) (h0 : w.cell? ⟨b, 0, none⟩ = some (.pointer (some ⟨b, 0, none⟩))) :
    Calls Tryz.prog 148 #[.pointer (some ⟨b, 0, none⟩)] w fun e w' => e = .returned (.tuple #[]) ∧ w' = w := by
  obtain ⟨j, hj, _⟩ := Option.map_eq_some_iff.1 bld_size
  go_enter Tryz.func148, Tryz.ntmps148
  go_wp2
  rw [Lib.run_neq_ptr_same w _ Tryz.underlying185 hj]
  go_wp2
  go_end0
  exact ⟨rfl, rfl⟩

set_option maxHeartbeats 1000000 in
set_option maxRecDepth 100000 in
theorem bld_fresh (b : Nat) (w : World) (h0 : w.cell? ⟨b, 0, none⟩ = some (.pointer none)) (hsh : w.shape? b = some (187, 2)) (hfz : w.frozen? ⟨b, 0, none⟩ = false) :
    Calls Tryz.prog 148 #[.pointer (some ⟨b, 0, none⟩)] w fun e w' => e = .returned (.tuple #[]) ∧ w' = w.setCell ⟨b, 0, none⟩ (.pointer (some ⟨b, 0, none⟩)) := by
  obtain ⟨j, hj, hjs⟩ := Option.map_eq_some_iff.1 bld_size
  go_enter Tryz.func148, Tryz.ntmps148
  go_wp2
  rw [Lib.run_to_unsafe w ⟨b, 0, none⟩ Tryz.underlying185 Tryz.underlying239 hj (by rw [hjs]; decide) hsh (Nat.zero_lt_succ 1)]
  simp only [Result.andThen]
  rw [Oper.upon_value]
  go_wp2
  rw [run_callFunc_extern Tryz.func161 (by kernel_rfl) (by kernel_rfl) (by kernel_rfl) (e := Extern.AbiNoEscape.same) (by kernel_rfl)]
  rw [Lib.run_noEscape]
  simp only [Result.andThen]
  rw [Oper.upon_value]
  go_wp2
  rw [Lib.run_from_unsafe w ⟨b, 0, none⟩ Tryz.underlying239 Tryz.underlying185 hj hsh bld_lies]
  simp only [Result.andThen]
  rw [Oper.upon_value]
  go_wp2
  go_end0
  exact ⟨rfl, rfl⟩

theorem bld_check (B b : Nat) (bs : List Value) (w : World) (h : Lib.IsBuilder 187 5 B b bs w) :
    Calls Tryz.prog 148 #[.pointer (some ⟨b, 0, none⟩)] w fun e w' => e = .returned (.tuple #[]) ∧ (Lib.BuilderAt 187 5 B b (.pointer (some ⟨b, 0, none⟩)) bs w' ∧ Below B w w') := by
  rcases h with h | h
  · refine (bld_fresh b w h.cell0 h.shape h.frozen0).mono ?_
    rintro e w' ⟨rfl, rfl⟩
    exact ⟨rfl, h.used _, (Below.refl B w).setCell (p := ⟨b, 0, none⟩) h.1 _⟩
  · refine (bld_used b w h.cell0).mono ?_
    rintro e w' ⟨rfl, rfl⟩
    exact ⟨rfl, h, Below.refl B _⟩

set_option maxHeartbeats 2000000 in
set_option maxRecDepth 100000 in
theorem bld_write (B b : Nat) (bs : List Value) (c : Int) (w : World) (h : Lib.IsBuilder 187 5 B b bs w) (hlen : bs.length + 1 ≤ 140737488355328) (hBw : B ≤ w.heap.size) :
    Calls Tryz.prog 122 #[.pointer (some ⟨b, 0, none⟩), .int .u8 c] w fun e w' => e = .returned .nilIface ∧ (Lib.BuilderAt 187 5 B b (.pointer (some ⟨b, 0, none⟩)) (bs ++ [.int .u8 c]) w' ∧ Below B w w') := by
  obtain ⟨i0, hi, hz0, hz1, hz2⟩ : ∃ i0, Tryz.prog.info? 5 = some i0 ∧ i0.zero = some (.int .u8 0) ∧ i0.size = 1 ∧ i0.bytes = 1 := by
    have h : (Tryz.prog.info? 5).map (fun i => (i.zero, i.size, i.bytes)) = some (some (.int .u8 0), 1, 1) := by kernel_rfl
    cases hi : Tryz.prog.info? 5 with
    | none => rw [hi] at h; cases h
    | some i =>
      rw [hi] at h
      simp only [Option.map_some, Option.some.injEq, Prod.mk.injEq] at h
      exact ⟨i, rfl, h.1, h.2.1, h.2.2⟩
  go_enter Tryz.func122, Tryz.ntmps122
  go_wp2_with (go_at_call 148; refine (bld_check B b bs _ h).mono ?_)
  rintro e w1 ⟨rfl, h1, hb1⟩
  obtain ⟨hB, v, hbk, hown, hne⟩ := h1
  have c0 : w1.cell? ⟨b, 0, none⟩ = some (.pointer (some ⟨b, 0, none⟩)) := by rw [Lib.cell_of_heap hbk]; rfl
  have c1 : w1.cell? ⟨b, 1, none⟩ = some v := by rw [Lib.cell_of_heap hbk]; rfl
  go_wp2_with (at_builtin; refine wpList_append_own _ rfl _ _ 22 rfl B 5 i0 (.int .u8 0) 1 1 Tryz.underlying22 hi hz0 hz1 hz2 rfl (by decide) _ _ _ rfl (hown.alloc _) ⟨w1.heap.size, 0, none⟩ 1 1 [.int .u8 c] rfl rfl ?c1 ?c2 ?c3 ?c4 ?c5 ?_)
  case c1 =>
    intro j u hj
    match j, hj with
    | 0, hj => simp at hj; subst hj; simp [Addr.add]
  case c2 => intro u hu; simp at hu; subst hu; rfl
  case c3 => unfold maxLen; omega
  case c4 => omega
  case c5 => have := hb1.size; simp; omega
  intro v' w2 hown' hgrow _
  have hlt : b < w1.heap.size := by
    rcases Nat.lt_or_ge b w1.heap.size with h' | h'
    · exact h'
    · simp [Array.getElem?_eq_none h'] at hbk
  have hb2 : w2.heap[b]? = some (.cells #[.pointer (some ⟨b, 0, none⟩), v] 187 (0, 0)) := by
    rw [hgrow.block b (by simp; omega) (fun e => hne e.symm), Lib.alloc_old w1 _ b hlt]
    exact hbk
  have d0 : w2.cell? ⟨b, 0, none⟩ = some (.pointer (some ⟨b, 0, none⟩)) := by rw [Lib.cell_of_heap hb2]; rfl
  have d1 : w2.cell? ⟨b, 1, none⟩ = some v := by rw [Lib.cell_of_heap hb2]; rfl
  have f1 : w2.frozen? ⟨b, 1, none⟩ = false := Lib.frozen_of_heap hb2 1
  obtain ⟨g, cap, rfl⟩ : ∃ g cap, v' = .slice (some ⟨g, 0, none⟩) (bs.length + 1) cap := by
    rcases hown'.2 with ⟨_, h0⟩ | ⟨g, cap, cur, hv, _⟩
    · omega
    · exact ⟨g, cap, hv⟩
  go_wp2
  go_ret
  refine ⟨rfl, ?_, ?_⟩
  · exact Lib.BuilderAt.put (T := 187) (e := 5) hB hb2 (bs' := bs ++ [.int .u8 c]) (by simpa using hown') (by decide)
  · exact ((hb1.alloc (by have := hb1.size; omega) _).grown hgrow (by have := hb1.size; simp; omega) (fun k hk => (hown.lt k hk).1)).setCell (p := ⟨b, 1, none⟩) hB _
def Tryz.lays169_ren : Go.Shelf.Ren := ⟨fun | 169 => 123 | n => n, fun | 70 => 185 | 9 => 9 | 0 => 0 | 72 => 187 | 37 => 22 | 127 => 221 | 3 => 3 | 5 => 5 | n => n, fun | n => n⟩
theorem Tryz.lays169 : Go.Proofs.Lays.n169 Tryz.prog Tryz.lays169_ren := {
  mixed := by kernel_rfl
  f169 := Tryz.func123.trans (congrArg some (by kernel_rfl))
  t0 := Tryz.underlying0
  a0 := Tryz.isAgg0
  z0 := Tryz.sizeOf0
  v0 := Tryz.zeroValue0
  t3 := Tryz.underlying3
  a3 := Tryz.isAgg3
  z3 := Tryz.sizeOf3
  v3 := Tryz.zeroValue3
  t9 := Tryz.underlying9
  a9 := Tryz.isAgg9
  z9 := Tryz.sizeOf9
  v9 := Tryz.zeroValue9
  t37 := Tryz.underlying22
  a37 := Tryz.isAgg22
  z37 := Tryz.sizeOf22
  v37 := Tryz.zeroValue22
  t70 := Tryz.underlying185
  a70 := Tryz.isAgg185
  z70 := Tryz.sizeOf185
  v70 := Tryz.zeroValue185
  t72 := Tryz.underlying187
  a72 := Tryz.isAgg187
  z72 := Tryz.sizeOf187
  v72 := Tryz.zeroValue187
  t127 := Tryz.underlying221
  a127 := Tryz.isAgg221
  z127 := Tryz.sizeOf221
  v127 := Tryz.zeroValue221 }
theorem Tryz.Builder_Extra_169 : Builder.Extra Tryz.prog Tryz.lays169_ren where
  sizeBuilder := by kernel_rfl
  liesBuilder := by kernel_rfl
  t5 := Tryz.underlying5
  a5 := Tryz.isAgg5
  z5 := Tryz.sizeOf5
  v5 := Tryz.zeroValue5
  infoByte := by kernel_rfl
  cellsByte := by kernel_rfl
  sizeByte := by kernel_rfl
  neB5 := by decide
theorem bld_string (B b : Nat) (l : List UInt8) (w : World) (h : Lib.IsBuilder 187 5 B b (Lib.byteCells l) w) (hBw : B ≤ w.heap.size) :
    Calls Tryz.prog 123 #[.pointer (some ⟨b, 0, none⟩)] w fun e w' => e = .returned (.string ⟨l.toArray⟩) ∧ Below B w w' := Any.Builder_String_any Tryz.lays169 Tryz.Builder_Extra_169 B b l w h hBw
end Go.Proofs.YtdcpkgedaflnmaaGreatDoor.Fo
set_option linter.unusedVariables false
set_option linter.unusedSimpArgs false
namespace Go.Proofs.YtdcpkgedaflnmaaGreatDoor.Fo
open Go.Shelf Go.RowKit

/-- the crease between the layers i and i + 1 -/
def crs (h : Nat → Int) (i : Nat) : UInt8 := if decide (h i < h (i + 1)) = decide (i % 2 = 0) then 118 else 109
/-- the first n creases -/
def crsL (h : Nat → Int) (n : Nat) : List UInt8 := (List.range n).map (crs h)
theorem crsL_succ (h : Nat → Int) (n : Nat) : crsL h (n + 1) = crsL h n ++ [crs h n] := by simp [crsL, List.range_succ]
theorem crs_cell (h : Nat → Int) (i : Nat) : Lib.byteCells [crs h i] = [.int .u8 (if decide (h i < h (i + 1)) = decide (i % 2 = 0) then 118 else 109)] := by
  unfold crs
  split <;> rfl

set_option maxHeartbeats 4000000 in
set_option maxRecDepth 1000000 in
theorem folds_walk (h : Nat → Int) (n : Nat) (h1 : 1 ≤ n) (hn : n ≤ 7) (w : World) :
    Calls Tryz.prog 73 #[.agg #[Value.int .i64 (h 0), Value.int .i64 (h 1), Value.int .i64 (h 2), Value.int .i64 (h 3), Value.int .i64 (h 4), Value.int .i64 (h 5), Value.int .i64 (h 6)], .int .i64 n] w fun e w' => e = .returned (.string ⟨(crsL h (n - 1)).toArray⟩) ∧ Below w.heap.size w w' := by
  go_enter Tryz.func73, Tryz.ntmps73
  go_wp2
  go_loopw [9] (fun v wr => ∃ k : Nat, k ≤ n - 1 ∧ v = .int .i64 k ∧ Lib.IsBuilder 187 5 (w.heap.size + 1) (w.heap.size + 1) (Lib.byteCells (crsL h k)) wr ∧ Below w.heap.size w wr ∧ w.heap.size + 1 ≤ wr.heap.size ∧ Hid (∀ j, j < 7 → wr.cell? ⟨w.heap.size, j, none⟩ = some (.int .i64 (h j)))) (fun v _ => n - (intOf v).toNat)
  case atStart =>
    refine ⟨0, by omega, rfl, ?_, ?_, by simp, ?_⟩
    · have e : (w.alloc (.cells #[Value.int .i64 (h 0), Value.int .i64 (h 1), Value.int .i64 (h 2), Value.int .i64 (h 3), Value.int .i64 (h 4), Value.int .i64 (h 5), Value.int .i64 (h 6)] 139)).heap.size = w.heap.size + 1 := by simp
      have := Lib.fresh_isBuilder 187 5 (w.alloc (.cells #[Value.int .i64 (h 0), Value.int .i64 (h 1), Value.int .i64 (h 2), Value.int .i64 (h 3), Value.int .i64 (h 4), Value.int .i64 (h 5), Value.int .i64 (h 6)] 139))
      rw [e] at this
      exact this
    · exact ((Below.refl _ w).alloc (Nat.le_refl _) _).alloc (by simp) _
    · show ∀ j, j < 7 → _
      intro j hj
      rw [World.cell?_alloc_old _ _ _ (by simp)]
      rw [World.cell?_alloc_new]
      match j, hj with
      | 0, _ => rfl
      | 1, _ => rfl
      | 2, _ => rfl
      | 3, _ => rfl
      | 4, _ => rfl
      | 5, _ => rfl
      | 6, _ => rfl
  case round =>
    obtain ⟨k, hk, rfl, hI, hb, hsz, hc⟩ := hrel
    have hc' : ∀ j, j < 7 → wr.cell? ⟨w.heap.size, j, none⟩ = some (.int .i64 (h j)) := hc
    clear hc
    by_cases hlt : k < n - 1
    · have g1 := hc' k (by omega)
      have g2 := hc' (k + 1) (by omega)
      have hid : Hid (∀ j, j < 7 → wr.cell? ⟨w.heap.size, j, none⟩ = some (.int .i64 (h j))) := hc'
      clear hc'
      have m2 : ((k : Int) % 2 == 0) = decide (k % 2 = 0) := by
        rw [Bool.eq_iff_iff]; simp; omega
      have t1 : ((k : Int) + 1).toNat = k + 1 := by omega
      by_cases hcr' : decide (h k < h (k + 1)) = decide (k % 2 = 0)
      · have hcr : (decide (h k < h (k + 1)) == decide (k % 2 = 0)) = true := by simp [hcr']
        have hcr'' : Hid ((if decide (h k < h (k + 1)) = decide (k % 2 = 0) then (118 : Int) else 109) = 118) := if_pos hcr'
        clear hcr'
        go_wp2
        go_region
        go_wp2_with (go_at_call 122; refine (bld_write (w.heap.size + 1) (w.heap.size + 1) _ 118 _ (hI.imp (fun h => h.drew) fun h => h.drew) (by rw [Lib.byteCells_length]; simp [crsL]; omega) (by simpa using hsz)).mono ?_)
        rintro e W1 ⟨rfl, h1', b1⟩
        go_wp2
        go_roundw
        case rel =>
          refine ⟨k + 1, by omega, by go_num, ?_, ?_, ?_, ?_⟩
          · rw [crsL_succ, Lib.byteCells_append, crs_cell, hcr''.out]
            exact Or.inr h1'
          · exact (Below.drew hb).trans (b1.mono (by omega))
          · have := b1.size; simpa using Nat.le_trans hsz this
          · show ∀ j, j < 7 → _
            intro j hj
            have := hid j hj
            rw [b1.cell (p := ⟨w.heap.size, j, none⟩) (by simp)]
            exact this
        case measure => simp [intOf]; omega
      · have hcr : (decide (h k < h (k + 1)) == decide (k % 2 = 0)) = false := by simp [hcr']
        have hcr'' : Hid ((if decide (h k < h (k + 1)) = decide (k % 2 = 0) then (118 : Int) else 109) = 109) := if_neg hcr'
        clear hcr'
        go_wp2
        go_region
        go_wp2_with (go_at_call 122; refine (bld_write (w.heap.size + 1) (w.heap.size + 1) _ 109 _ (hI.imp (fun h => h.drew) fun h => h.drew) (by rw [Lib.byteCells_length]; simp [crsL]; omega) (by simpa using hsz)).mono ?_)
        rintro e W1 ⟨rfl, h1', b1⟩
        go_wp2
        go_roundw
        case rel =>
          refine ⟨k + 1, by omega, by go_num, ?_, ?_, ?_, ?_⟩
          · rw [crsL_succ, Lib.byteCells_append, crs_cell, hcr''.out]
            exact Or.inr h1'
          · exact (Below.drew hb).trans (b1.mono (by omega))
          · have := b1.size; simpa using Nat.le_trans hsz this
          · show ∀ j, j < 7 → _
            intro j hj
            have := hid j hj
            rw [b1.cell (p := ⟨w.heap.size, j, none⟩) (by simp)]
            exact this
        case measure => simp [intOf]; omega
    · have hkn : k = n - 1 := by omega
      go_wp2_with (go_at_call 123; refine (bld_string (w.heap.size + 1) (w.heap.size + 1) (crsL h k) _ hI hsz).mono ?_)
      rintro e W1 ⟨rfl, b1⟩
      go_wp2
      go_ret
      subst hkn
      exact ⟨rfl, hb.trans (b1.mono (by omega))⟩
end Go.Proofs.YtdcpkgedaflnmaaGreatDoor.Fo
set_option linter.unusedVariables false
set_option linter.unusedSimpArgs false
namespace Go.Proofs.YtdcpkgedaflnmaaGreatDoor.Fo
open Go Fw

/-- seven heights -/
def hV (h : Nat → Int) : AV := .agg [.int .i64 (h 0), .int .i64 (h 1), .int .i64 (h 2), .int .i64 (h 3), .int .i64 (h 4), .int .i64 (h 5), .int .i64 (h 6)]
theorem p53 (h : Nat → Int) {n : Nat} (h1 : 1 ≤ n) (hn : n ≤ 7) : PCall Tryz.prog 73 [hV h, .int .i64 n] (.str (bs (crsL h (n - 1)))) := by
  refine PCall.of_calls (by kernel_rfl) rfl rfl fun c w vs hv => ?_
  obtain ⟨v1, vs1, rfl, g1, hv1⟩ := hv.cons_inv
  obtain ⟨v2, vs2, rfl, g2, hv2⟩ := hv1.cons_inv
  obtain rfl := hv2.nil_inv
  obtain rfl := g2.int_inv
  unfold hV at g1
  cases g1 with
  | agg us xs hl hh lf =>
    obtain ⟨a0, r0, rfl, e0, q0⟩ := RepL.cons_inv (c := c) ⟨hl, hh⟩
    obtain ⟨a1, r1, rfl, e1, q1⟩ := q0.cons_inv
    obtain ⟨a2, r2, rfl, e2, q2⟩ := q1.cons_inv
    obtain ⟨a3, r3, rfl, e3, q3⟩ := q2.cons_inv
    obtain ⟨a4, r4, rfl, e4, q4⟩ := q3.cons_inv
    obtain ⟨a5, r5, rfl, e5, q5⟩ := q4.cons_inv
    obtain ⟨a6, r6, rfl, e6, q6⟩ := q5.cons_inv
    obtain rfl := q6.nil_inv
    obtain rfl := e0.int_inv
    obtain rfl := e1.int_inv
    obtain rfl := e2.int_inv
    obtain rfl := e3.int_inv
    obtain rfl := e4.int_inv
    obtain rfl := e5.int_inv
    obtain rfl := e6.int_inv
    refine (folds_walk h n h1 hn w).mono ?_
    rintro e w' ⟨rfl, hb⟩
    exact ⟨_, rfl, .str _, hb⟩
end Go.Proofs.YtdcpkgedaflnmaaGreatDoor.Fo
set_option linter.unusedVariables false
set_option linter.unusedSimpArgs false
namespace Go.Proofs.YtdcpkgedaflnmaaGreatDoor.Fo
open Go Fw

theorem hV_idx (h : Nat → Int) {k : Nat} (hk : k < 7) : aidxA 7 false 1 (.ptr (hV h)) (.int .i64 (k : Int)) = some (.ptr (.int .i64 (h k))) := by
  match k, hk with
  | 0, _ => rfl
  | 1, _ => rfl
  | 2, _ => rfl
  | 3, _ => rfl
  | 4, _ => rfl
  | 5, _ => rfl
  | 6, _ => rfl
/-- whether the segment k lies between both segments of a crease -/
def ins (h : Nat → Int) (k c : Nat) : Bool := mid (h k) (h c) (h (c + 1))
theorem hV_ld (h : Nat → Int) (hp : Nat → Option (List AV)) : aload hp true 7 (.ptr (hV h)) = some (hV h) := rfl
theorem hV_sto (h : Nat → Int) : (hV h).sto = true := rfl
theorem p85 (h : Nat → Int) {k c : Nat} (hk : k < 7) (hc : c < 6) : PCall Tryz.prog 124 [hV h, .int .i64 (k : Int), .int .i64 (c : Int)] (.bool (ins h k c)) := by
  refine PCall.of CtxOk.nil ok85 (by simp) rfl fun hs hb => ?_
  have i1 := hV_idx h hk
  have i2 := hV_idx h (show c < 7 by omega)
  have i3 := hV_idx h (show c + 1 < 7 by omega)
  have w := wrap_nat1 (show c < _ by omega)
  have mn : amin (.int .i64 (h c)) (.int .i64 (h (c + 1))) = some (.int .i64 (min (h c) (h (c + 1)))) := rfl
  have mx : amax (.int .i64 (h c)) (.int .i64 (h (c + 1))) = some (.int .i64 (max (h c) (h (c + 1)))) := rfl
  have st := hV_sto h
  simp only [ins, mid]
  generalize min (h c) (h (c + 1)) = vmn at mn ⊢
  generalize max (h c) (h (c + 1)) = vmx at mx ⊢
  generalize ((c + 1 : Nat) : Int) = c1 at w i3
  generalize hV h = H at i1 i2 i3 st ⊢
  by_cases c1 : vmn < h k
  · simp [A85, R85, i1, i2, i3, w, st, mn, mx, -amin_int, -amax_int, c1]
  · simp [A85, R85, i1, i2, i3, w, st, mn, mx, -amin_int, -amax_int, c1]
theorem ctx85 (h : Nat → Int) : ∃ C, CtxOk Tryz.prog C ∧ ∀ k c : Nat, k < 7 → c < 6 → C 124 [hV h, .int .i64 (k : Int), .int .i64 (c : Int)] = some (.bool (ins h k c)) := by
  obtain ⟨C, h1, h2, _⟩ := ctx_fam (ι := {q : Nat × Nat // q.1 < 7 ∧ q.2 < 6}) C2ok 124 (fun q => [hV h, .int .i64 (q.1.1 : Int), .int .i64 (q.1.2 : Int)]) (fun q => .bool (ins h q.1.1 q.1.2)) (fun q => p85 h q.2.1 q.2.2) (by
    rintro ⟨⟨a, b⟩, _⟩ ⟨⟨c, d⟩, _⟩ e
    simp at e
    obtain ⟨e1, e2⟩ := e
    have e1 : a = c := by omega
    have e2 : b = d := by omega
    subst e1; subst e2; rfl)
  exact ⟨C, h1, fun k c hk hc => h2 ⟨(k, c), hk, hc⟩⟩
def thrB (l : List Int) (h : Nat → Int) (i k : Nat) : Bool := !(mid (pn l (i + 1)) (pn l k) (pn l (k + 1)) && ins h k i)
def parB (h : Nat → Int) (i : Nat) (c : Int) : Bool := decide (c = (i : Int)) || (ins h c.toNat i == ins h (c.toNat + 1) i)
def fitI (l : List Int) (h : Nat → Int) (i : Nat) : Bool := (List.range l.length).all (thrB l h i) && (sameL l l.length (pn l (i + 1), ((i % 2 : Nat) : Int))).all (parB h i)
def fitB (l : List Int) (h : Nat → Int) : Bool := (List.range (l.length - 1)).all (fitI l h)
theorem all_range_false {f : Nat → Bool} {n k : Nat} (hk : k < n) (h : f k = false) : (List.range n).all f = false := by
  rw [List.all_eq_false]
  exact ⟨k, List.mem_range.2 hk, by simp [h]⟩
theorem sameL_mem {l : List Int} {n : Nat} {k : Int × Int} {c : Int} (h : c ∈ sameL l n k) : ∃ i : Nat, c = (i : Int) ∧ i < n ∧ i + 1 < l.length ∧ (pn l (i + 1), ((i % 2 : Nat) : Int)) = k := by
  unfold sameL at h
  obtain ⟨i, hi, rfl⟩ := List.mem_map.1 h
  obtain ⟨h1, h2⟩ := List.mem_filter.1 hi
  rw [Bool.and_eq_true, decide_eq_true_eq, decide_eq_true_eq] at h2
  exact ⟨i, rfl, List.mem_range.1 h1, h2.1, h2.2⟩
theorem p54 {l : List Int} (hm : meas l = 0) (h : Nat → Int) {hs : HS} {p j : Nat} (hsh : Sht hs p j l l.length) : FCall Tryz.prog 74 [.ref p 0, hV h, .int .i64 (l.length : Int)] hs fun e hs' => e = .ret (.bool (fitB l h)) ∧ hs' = hs := by
  obtain ⟨C, hC, c85⟩ := ctx85 h
  refine FCall.ofAt hC ok54 (by simp) ?_
  obtain ⟨m1, m2, m3, m4⟩ := meas_0 hm
  obtain ⟨ys, hys, hS⟩ := hsh.cells
  obtain ⟨es, hes, hM⟩ := hsh.map
  have st := hV_sto h
  have ld := hV_ld h
  generalize hV h = H at st ld c85 ⊢
  have wn : IntKind.i64.wrap ((l.length : Int) - 1) = ((l.length - 1 : Nat) : Int) := by rw [wrap64 (by omega) (by omega)]; omega
  generalize hn1 : ((l.length - 1 : Nat) : Int) = n1 at wn
  simp only [A54, R54]
  simp [st, wn]
  refine At.loop (fun (i : Nat) s => i ≤ l.length - 1 ∧ (List.range i).all (fitI l h) = true ∧ s.hs = hs ∧ s.env 0 = .ref p 0 ∧ s.env 2 = .int .i64 (l.length : Int) ∧ s.env 4 = .ptr H ∧ s.env 7 = .bool true ∧ s.env 13 = .int .i64 n1 ∧ s.env 14 = .int .i64 (i : Int)) (fun i => l.length - 1 - i) 0 ?_ ?_
  · simp
  rintro N i s hN ⟨hi, hall, ehs, e0, e2, e4, e7, e13, e14⟩
  simp [e13, e14]
  refine At.dec (fun hlt => ?_) (fun hlt => ?_)
  · have hi' : i + 1 < l.length := by omega
    simp [e2, e14]
    refine At.loop (fun (k : Nat) s => k ≤ l.length ∧ (List.range k).all (thrB l h i) = true ∧ s.hs = hs ∧ s.env 0 = .ref p 0 ∧ s.env 2 = .int .i64 (l.length : Int) ∧ s.env 4 = .ptr H ∧ s.env 7 = .bool true ∧ s.env 8 = .int .i64 (i : Int) ∧ s.env 13 = .int .i64 n1 ∧ s.env 14 = .int .i64 (i : Int) ∧ s.env 17 = .int .i64 (l.length : Int) ∧ s.env 18 = .int .i64 (k : Int)) (fun k => l.length - k) 0 ?_ ?_
    · simp [ehs, e0, e2, e4, e7, e13, e14]
    rintro N2 k s hN2 ⟨hk, hall2, ehs, e0, e2, e4, e7, e8, e13, e14, e17, e18⟩
    simp [e17, e18]
    refine At.dec (fun hlt2 => ?_) (fun hlt2 => ?_)
    · have hk' : k < l.length := by omega
      have nc : anilchk (.ref p 0) = some (.ref p 0) := rfl
      have ia1 : aidxA 7 true 2 (.ref p 0) (.int .i64 (k : Int)) = some (.ref p (2 * k)) := by simp [aidxA, afaddr]; omega
      have ia2 : aidxA 7 false 1 (.ref p 14) (.int .i64 (i : Int)) = some (.ref p (14 + i)) := by simp [aidxA, afaddr]; omega
      have l1 : aload hs.heap false 1 (.ref p (2 * k)) = some (.int .i64 (min (pn l k) (pn l (k + 1)))) := ldc hys (hS.lo k hk')
      have l2 : aload hs.heap false 1 (.ref p (2 * k + 1)) = some (.int .i64 (max (pn l k) (pn l (k + 1)))) := ldc hys (hS.hi k hk')
      have l3 : aload hs.heap false 1 (.ref p (14 + i)) = some (.int .i64 (pn l (i + 1))) := ldc hys (hS.at' i (by omega))
      have hcall := c85 k i (by omega) (by omega)
      have hthr : thrB l h i k = !((decide (min (pn l k) (pn l (k + 1)) < pn l (i + 1)) && decide (pn l (i + 1) < max (pn l k) (pn l (k + 1)))) && ins h k i) := rfl
      have w1 := wrap_nat1 (show k < _ by omega)
      generalize min (pn l k) (pn l (k + 1)) = vmn at l1 hthr
      generalize max (pn l k) (pn l (k + 1)) = vmx at l2 hthr
      by_cases c1 : vmn < pn l (i + 1)
      rotate_left
      · have hthr : thrB l h i k = true := by rw [hthr]; simp [c1]
        simp [ehs, e0, e4, e7, e8, e18, nc, fa, ia1, ia2, l1, l2, l3, ld, hcall, w1, c1]
        refine hN2 (k + 1) _ (by omega) ⟨by omega, ?_⟩
        simp [ehs, e0, e2, e4, e7, e8, e13, e14, e17]
        intro x hx
        by_cases hxk : x = k
        · subst hxk; exact hthr
        · exact List.all_eq_true.1 hall2 x (List.mem_range.2 (by omega))
      by_cases c2 : pn l (i + 1) < vmx
      rotate_left
      · have hthr : thrB l h i k = true := by rw [hthr]; simp [c1, c2]
        simp [ehs, e0, e4, e7, e8, e18, nc, fa, ia1, ia2, l1, l2, l3, ld, hcall, w1, c1, c2]
        refine hN2 (k + 1) _ (by omega) ⟨by omega, ?_⟩
        simp [ehs, e0, e2, e4, e7, e8, e13, e14, e17]
        intro x hx
        by_cases hxk : x = k
        · subst hxk; exact hthr
        · exact List.all_eq_true.1 hall2 x (List.mem_range.2 (by omega))
      cases c3 : ins h k i with
      | false =>
        have hthr : thrB l h i k = true := by rw [hthr]; simp [c1, c2, c3]
        rw [c3] at hcall
        simp [ehs, e0, e4, e7, e8, e18, nc, fa, ia1, ia2, l1, l2, l3, ld, hcall, w1, c1, c2]
        refine hN2 (k + 1) _ (by omega) ⟨by omega, ?_⟩
        simp [ehs, e0, e2, e4, e7, e8, e13, e14, e17]
        intro x hx
        by_cases hxk : x = k
        · subst hxk; exact hthr
        · exact List.all_eq_true.1 hall2 x (List.mem_range.2 (by omega))
      | true =>
        have hthr : thrB l h i k = false := by rw [hthr]; simp [c1, c2, c3]
        rw [c3] at hcall
        have hfit : fitB l h = false := all_range_false (k := i) (by omega) (by unfold fitI; rw [all_range_false hk' hthr]; rfl)
        simp [ehs, e0, e4, e7, e8, e18, nc, fa, ia1, ia2, l1, l2, l3, ld, hcall, w1, c1, c2]
        first | exact At.of ⟨hfit, ehs⟩ | exact At.of hfit
    · have hkn : k = l.length := by omega
      subst hkn
      have hv := hM.get (pn l (i + 1), ((i % 2 : Nat) : Int))
      have hvl := sameL_len l l.length (pn l (i + 1), ((i % 2 : Nat) : Int))
      have hvi := hv.asI (by omega)
      have hlk := amlook_ents (mp := hs.mp) hes (pn l (i + 1), ((i % 2 : Nat) : Int)) .nilsl
      have hlk' : ∀ q : Int, q = ((i % 2 : Nat) : Int) → ∀ st : HS, st = hs → amem (.look 12 false .nilsl) st [.mp j, .agg [.int .i64 (pn l (i + 1)), .int .i64 q]] = some ((lk es (pn l (i + 1), ((i % 2 : Nat) : Int))).getD .nilsl, st) := by
        rintro q hq st rfl
        rw [← hq] at hlk ⊢
        simp only [amem]
        rw [show AV.agg [.int .i64 (pn l (i + 1)), .int .i64 q] = kV (pn l (i + 1), q) from rfl, hlk]
        rfl
      have hmem : ∀ c ∈ sameL l l.length (pn l (i + 1), ((i % 2 : Nat) : Int)), ∃ a : Nat, c = (a : Int) ∧ a + 1 < l.length := fun c hc => by
        obtain ⟨a, h1, _, h2, _⟩ := sameL_mem hc
        exact ⟨a, h1, h2⟩
      have nc : anilchk (.ref p 0) = some (.ref p 0) := rfl
      have ia2 : aidxA 7 false 1 (.ref p 14) (.int .i64 (i : Int)) = some (.ref p (14 + i)) := by simp [aidxA, afaddr]; omega
      have l3 : aload hs.heap false 1 (.ref p (14 + i)) = some (.int .i64 (pn l (i + 1))) := ldc hys (hS.at' i (by omega))
      have l4 : aload hs.heap false 1 (.ref p 21) = some (.mp j) := ldc hys hS.mp
      obtain ⟨q, hq, tm⟩ : ∃ q : Int, q = ((i % 2 : Nat) : Int) ∧ (i : Int).tmod 2 = q := ⟨_, rfl, rfl⟩
      have hlq := hlk' q hq hs rfl
      have hfi : fitI l h i = (sameL l l.length (pn l (i + 1), ((i % 2 : Nat) : Int))).all (parB h i) := by unfold fitI; rw [hall2]; rfl
      clear hlk hlk' hv
      generalize sameL l l.length (pn l (i + 1), ((i % 2 : Nat) : Int)) = L at hvi hvl hmem hfi
      generalize (lk es (pn l (i + 1), ((i % 2 : Nat) : Int))).getD .nilsl = v at hvi hlq
      simp [ehs, e0, e8, nc, fa, ia2, l3, l4, tm, hlq, alen_of hvi]
      refine At.loop (fun (k : Nat) s => k ≤ L.length ∧ (L.take k).all (parB h i) = true ∧ s.hs = hs ∧ s.env 0 = .ref p 0 ∧ s.env 2 = .int .i64 (l.length : Int) ∧ s.env 4 = .ptr H ∧ s.env 7 = .bool true ∧ s.env 8 = .int .i64 (i : Int) ∧ s.env 13 = .int .i64 n1 ∧ s.env 14 = .int .i64 (i : Int) ∧ s.env 71 = v ∧ s.env 72 = .int .i64 (L.length : Int) ∧ s.env 73 = .int .i64 (k : Int)) (fun k => L.length - k) 0 ?_ ?_
      · simp [ehs, e0, e2, e4, e7, e8, e13, e14]
      rintro N3 k s hN3 ⟨hk, hall3, ehs, e0, e2, e4, e7, e8, e13, e14, e71, e72, e73⟩
      simp [e72, e73]
      refine At.dec (fun hlt3 => ?_) (fun hlt3 => ?_)
      · have hk' : k < L.length := by omega
        obtain ⟨a, ha, hal⟩ := hmem L[k] (List.getElem_mem _)
        have hix := aidx_nat hvi hk' (k := .i64)
        rw [ha] at hix
        have w1 := wrap_nat1 (show k < _ by omega)
        have w2 := wrap_nat1 (show a < _ by omega)
        have q1 := c85 a i (by omega) (by omega)
        have q2 := c85 (a + 1) i (by omega) (by omega)
        have htk : (L.take (k + 1)).all (parB h i) = ((L.take k).all (parB h i) && parB h i (a : Int)) := by rw [take_snoc hk', List.all_append, ha]; simp
        have hpar : parB h i (a : Int) = (decide (a = i) || (ins h a i == ins h (a + 1) i)) := by
          unfold parB
          congr 1
          rw [Bool.eq_iff_iff]; simp only [decide_eq_true_eq]; omega
        generalize hk1 : ((a + 1 : Nat) : Int) = a1 at w2 q2
        by_cases c1 : a = i
        · have c1' : (a : Int) = (i : Int) := by omega
          have hpt : parB h i (a : Int) = true := by rw [hpar]; simp [c1]
          simp [e4, e8, e71, e73, hix, ld, c1, c1', w1]
          refine hN3 (k + 1) _ (by omega) ⟨by omega, ?_⟩
          simp [ehs, e0, e2, e4, e7, e8, e13, e14, e71, e72]
          have := htk
          rw [hall3, hpt] at this
          simpa using this
        · have c1' : ¬ (a : Int) = (i : Int) := by omega
          by_cases c2 : ins h a i = ins h (a + 1) i
          · have hpt : parB h i (a : Int) = true := by rw [hpar]; simp [c2]
            simp [e4, e8, e71, e73, hix, ld, c1, c1', w1, w2, q1, q2, c2]
            refine hN3 (k + 1) _ (by omega) ⟨by omega, ?_⟩
            simp [ehs, e0, e2, e4, e7, e8, e13, e14, e71, e72]
            have := htk
            rw [hall3, hpt] at this
            simpa using this
          · have hpt : parB h i (a : Int) = false := by rw [hpar]; simp [c1, c2]
            have hfit : fitB l h = false := all_range_false (k := i) (by omega) (by
              rw [hfi, List.all_eq_false]
              exact ⟨L[k], List.getElem_mem _, by rw [ha, hpt]; simp⟩)
            simp [e4, e8, e71, e73, hix, ld, c1, c1', w1, w2, q1, q2, c2]
            first | exact At.of ⟨hfit, ehs⟩ | exact At.of hfit
      · have hkn : k = L.length := by omega
        rw [hkn, List.take_length] at hall3
        have w1 := wrap_nat1 (show i < _ by omega)
        simp [e14, w1]
        refine hN (i + 1) _ (by omega) ⟨by omega, ?_⟩
        simp [ehs, e0, e2, e4, e7, e13]
        intro x hx
        by_cases hxk : x = i
        · subst hxk; rw [hfi]; exact hall3
        · exact List.all_eq_true.1 hall x (List.mem_range.2 (by omega))
  · have : i = l.length - 1 := by omega
    subst this
    simp [e7]
    exact At.of ⟨hall, ehs⟩
end Go.Proofs.YtdcpkgedaflnmaaGreatDoor.Fo
