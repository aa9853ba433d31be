/-
  Chains by numbers: the walk, and that they are chains. Own work.
-/
import Derived.Test.YtdcpkgedaflnmaaDoorC2
import Derived.Test.YtdcpkgedaflnmaaDoorG6
set_option linter.unusedVariables false
set_option linter.unusedSimpArgs false
namespace Go.Proofs.YtdcpkgedaflnmaaDoor
open Go Fw
open Se (gI)

/-- pairs of small numbers, given -/
def prU (l : List (Nat × Nat)) : List AV := l.map fun p => .agg [.int .u8 (p.1 : Int), .int .u8 (p.2 : Int)]
def IsP8 (x : AV) (l : List (Nat × Nat)) : Prop := (x = .nilsl ∧ l = [] ∨ x = .sl 2 (prU l) .shared) ∧ l.length ≤ 9223372036854775807 ∧ ∀ p ∈ l, p.1 < 256 ∧ p.2 < 256
theorem IsP8.len {x : AV} {l : List (Nat × Nat)} (h : IsP8 x l) : alenK false x = some (.int .i64 l.length) := by
  rcases h.1 with ⟨rfl, rfl⟩ | rfl
  · rfl
  · simp [alenK, prU]
theorem IsP8.get {x : AV} {l : List (Nat × Nat)} (h : IsP8 x l) {i : Nat} (hi : i < l.length) : aidxS 2 x (.int .i64 (i : Int)) = some (.ptr (.agg [.int .u8 (l[i].1 : Int), .int .u8 (l[i].2 : Int)])) := by
  rcases h.1 with ⟨rfl, rfl⟩ | rfl
  · simp at hi
  · simp [aidxS, hi, prU]
/-- one more sum, if it is greater -/
def gr1 (most : Nat) (l : List Int) (p : Nat × Nat) : List Int :=
  if l.length < most ∧ gI l (l.length - 1) < gI l (p.1 % l.length) + gI l (p.2 % l.length) ∧ gI l (p.1 % l.length) + gI l (p.2 % l.length) ≤ 46 then l ++ [gI l (p.1 % l.length) + gI l (p.2 % l.length)] else l
def grw (most : Nat) (ps : List (Nat × Nat)) : List Int := ps.foldl (gr1 most) [1]
structure Gr (most : Nat) (l : List Int) : Prop where
  pos : 1 ≤ l.length
  len : l.length ≤ most
  one : gI l 0 = 1
  bd : ∀ a ∈ l, 1 ≤ a ∧ a ≤ 46
  sorted : l.Pairwise (· < ·)
  sum : ∀ i, 0 < i → i < l.length → ∃ a b, a ≤ b ∧ b < i ∧ gI l i = gI l a + gI l b
theorem gI_app {a b : List Int} {i : Nat} (h : i < a.length) : gI (a ++ b) i = gI a i := by simp [gI, List.getD, List.getElem?_append_left h]
theorem gI_snoc {a : List Int} {n : Int} : gI (a ++ [n]) a.length = n := by simp [gI]
theorem gI_mem {l : List Int} {i : Nat} (h : i < l.length) : gI l i ∈ l := by rw [Se.gI_of h]; exact List.getElem_mem h
theorem le_last {l : List Int} (hs : l.Pairwise (· < ·)) {a : Int} (ha : a ∈ l) : a ≤ gI l (l.length - 1) := by
  obtain ⟨i, hi, rfl⟩ := List.getElem_of_mem ha
  rw [Se.gI_of (by omega)]
  rcases Nat.lt_or_ge i (l.length - 1) with h | h
  · exact Int.le_of_lt (List.pairwise_iff_getElem.1 hs i (l.length - 1) hi (by omega) h)
  · have : i = l.length - 1 := by omega
    subst this; exact Int.le_refl _
theorem Gr.new {most : Nat} (h : 1 ≤ most) : Gr most [1] := ⟨by simp, by simpa using h, rfl, by simp, by simp, fun i h1 h2 => by simp at h2; omega⟩
theorem Gr.step {most : Nat} {l : List Int} (h : Gr most l) (p : Nat × Nat) : Gr most (gr1 most l p) := by
  unfold gr1
  split
  rotate_left
  · exact h
  rename_i hc
  obtain ⟨c1, c2, c3⟩ := hc
  have hp := h.pos
  have ha := Nat.mod_lt p.1 (show 0 < l.length by omega)
  have hb := Nat.mod_lt p.2 (show 0 < l.length by omega)
  generalize p.1 % l.length = a at *
  generalize p.2 % l.length = b at *
  have b1 := h.bd _ (gI_mem ha)
  have b2 := h.bd _ (gI_mem hb)
  generalize hn : gI l a + gI l b = n at *
  refine ⟨by simp, by simp; omega, by rw [gI_app (by omega)]; exact h.one, fun c hc => ?_, ?_, fun i h1 h2 => ?_⟩
  · rcases List.mem_append.1 hc with hc | hc
    · exact h.bd c hc
    · simp at hc; subst hc; omega
  · rw [List.pairwise_append]
    refine ⟨h.sorted, by simp, fun x hx y hy => ?_⟩
    simp at hy; subst hy
    have := le_last h.sorted hx
    omega
  · simp at h2
    rcases Nat.lt_or_ge i l.length with h' | h'
    · obtain ⟨u, v, q1, q2, q3⟩ := h.sum i h1 h'
      exact ⟨u, v, q1, q2, by rw [gI_app h', gI_app (by omega), gI_app (by omega)]; exact q3⟩
    · have : i = l.length := by omega
      subst this
      rcases Nat.le_total a b with hab | hab
      · exact ⟨a, b, hab, hb, by rw [gI_snoc, gI_app ha, gI_app hb]; exact hn.symm⟩
      · exact ⟨b, a, hab, ha, by rw [gI_snoc, gI_app ha, gI_app hb]; omega⟩
theorem Gr.fold {most : Nat} : ∀ (ps : List (Nat × Nat)) {l : List Int}, Gr most l → Gr most (ps.foldl (gr1 most) l)
  | [], _, h => h
  | p :: ps, _, h => Gr.fold ps (h.step p)
theorem grw_ok {most : Nat} (h : 1 ≤ most) (ps : List (Nat × Nat)) : Gr most (grw most ps) := Gr.fold ps (.new h)
/-- how such a list is held -/
def GW (hs : HS) (x : AV) (l : List Int) : Prop := (x = .sl 1 (ints [1]) .exact ∧ l = [1]) ∨ ∃ k, x = .sl 1 (ints l) (.own k) ∧ hs.tok k = true ∧ k < hs.nt ∧ 2 ≤ l.length
theorem GW.asI {hs : HS} {x : AV} {l : List Int} (h : GW hs x l) (hl : l.length ≤ 1000) : Fw.asI x = some l := by
  rcases h with ⟨rfl, rfl⟩ | ⟨k, rfl, _⟩
  · rfl
  · exact asI_sl (by omega)
theorem GW.add {hs : HS} {x : AV} {l : List Int} (h : GW hs x l) (hl : l.length ≤ 1000) (n : Int) : ∃ y hs', aappend 1 hs x (.sl 1 [.int .i64 n] .exact) = some (y, hs') ∧ GW hs' y (l ++ [n]) := by
  have ho : Se.OwnE 0 hs x l := by
    rcases h with ⟨rfl, rfl⟩ | ⟨k, h1, h2, h3, _⟩
    · exact .inl rfl
    · exact .inr ⟨k, h1, h2, h3, by omega⟩
  have hlen : 1 ≤ l.length := by
    rcases h with ⟨_, rfl⟩ | ⟨k, _, _, _, h4⟩
    · simp
    · omega
  have e1 : aelems (.sl 1 [.int .i64 n] .exact) = some [.int .i64 n] := rfl
  have e2 : aszOk 1 (.sl 1 [.int .i64 n] .exact) = true := rfl
  have ei : ints l ++ [.int .i64 n] = ints (l ++ [n]) := by simp [ints]
  rcases h with ⟨rfl, rfl⟩ | ⟨k, rfl, h1, h2, h3⟩
  · rw [append_eq (xs := ints [1]) rfl e1 (by simp [aszOk]) e2 (by simp), if_neg (by simp)]
    exact ⟨_, _, rfl, .inr ⟨hs.nt, rfl, by simp, by simp, by simp⟩⟩
  · rw [append_eq (xs := ints l) rfl e1 (by simp [aszOk]) e2 (by simp [ints]; omega), if_neg (by simp)]
    simp only [appP, h1, if_true]
    exact ⟨_, _, rfl, .inr ⟨hs.nt, by rw [ei], by simp, by simp, by simp; omega⟩⟩
def grV (l : List Int) : AV := if l.length = 1 then .sl 1 (ints [1]) .exact else .sl 1 (ints l) .shared
theorem GW.share {hs : HS} {x : AV} {l : List Int} (h : GW hs x l) : x.share = grV l := by
  unfold grV
  rcases h with ⟨rfl, rfl⟩ | ⟨k, rfl, _, _, h3⟩
  · simp
  · rw [if_neg (by omega)]; simp
theorem grV_as {l : List Int} (h : Gr 1000 l) : asI (grV l) = some l := by
  unfold grV
  split
  · rename_i h1
    have h0 := h.one
    match l, h1, h0 with
    | [a], _, h0 => simp [gI] at h0; subst h0; rfl
  · exact asI_sl (by have := h.len; omega)
theorem grV_plain (l : List Int) : (grV l).plain = true := by
  unfold grV
  split
  · rfl
  · exact plain_ints l
theorem store_new8 {hp : Nat → Option (List AV)} {i : Nat} (a b : Int) : astore (fun k => if k = i then some [.int .u8 0, .int .u8 0] else hp k) 2 (.ref i 0) (.agg [.int .u8 a, .int .u8 b]) = some (fun k => if k = i then some [.int .u8 a, .int .u8 b] else if k = i then some [.int .u8 0, .int .u8 0] else hp k) := by
  simp [astore, AV.sto, AV.cells, setL]
theorem p17 {x : AV} {ps : List (Nat × Nat)} (hx : IsP8 x ps) {most : Nat} (hm : 1 ≤ most) (hm2 : most ≤ 1000) : PCall Tryd.prog 17 [x, .int .i64 (most : Int)] (grV (grw most ps)) := by
  have hpl := hx.2.1
  refine PCall.of CtxOk.nil ok17 (by simp) (grV_plain _) fun hs hb => ?_
  simp [A17, R17, hx.len, astoAll]
  refine At.loop (fun (i : Nat) s => i ≤ ps.length ∧ s.env 1 = .int .i64 (most : Int) ∧ s.env 10 = x ∧ s.env 11 = .int .i64 (ps.length : Int) ∧ s.env 12 = .int .i64 (i : Int) ∧ GW s.hs (s.env 5) ((ps.take i).foldl (gr1 most) [1])) (fun i => ps.length - i) 0 ?_ ?_
  · simp
    exact .inl ⟨rfl, rfl⟩
  rintro N i s hN ⟨hi, e1, e10, e11, e12, ho⟩
  simp [e11, e12]
  refine At.dec (fun hlt => ?_) (fun hlt => ?_)
  rotate_left
  · have : i = ps.length := by omega
    subst this
    rw [List.take_length] at ho
    simp
    exact ho.share
  have hi' : i < ps.length := by omega
  have hg : Gr most ((ps.take i).foldl (gr1 most) [1]) := Gr.fold _ (.new hm)
  have hnx : (ps.take (i + 1)).foldl (gr1 most) [1] = gr1 most ((ps.take i).foldl (gr1 most) [1]) ps[i] := by rw [take_snoc hi', List.foldl_append]; rfl
  generalize (ps.take i).foldl (gr1 most) [1] = l at *
  have hl1 := hg.pos
  have hl2 := hg.len
  have hli := ho.asI (by omega)
  have hx2 := hx.get hi'
  obtain ⟨p1, p2⟩ := hx.2.2 _ (List.getElem_mem hi')
  generalize ps[i] = p at *
  obtain ⟨u, v⟩ := p
  simp only at p1 p2 hx2
  have ha := Nat.mod_lt u (show 0 < l.length by omega)
  have hb2 := Nat.mod_lt v (show 0 < l.length by omega)
  have b1 := hg.bd _ (gI_mem ha)
  have b2 := hg.bd _ (gI_mem hb2)
  have ra : abin 0 .rem (.int .i64 (u : Int)) (.int .i64 (l.length : Int)) = some (.int .i64 ((u % l.length : Nat) : Int)) := rem64 (by omega)
  have rb : abin 0 .rem (.int .i64 (v : Int)) (.int .i64 (l.length : Int)) = some (.int .i64 ((v % l.length : Nat) : Int)) := rem64 (by omega)
  have xa := Se.idx_g hli (k := .i64) ha
  have xb := Se.idx_g hli (k := .i64) hb2
  have wu : IntKind.i64.wrap (u : Int) = (u : Int) := wrap_nat (by omega)
  have wv : IntKind.i64.wrap (v : Int) = (v : Int) := wrap_nat (by omega)
  have xl := Se.idx_g hli (k := .i64) (i := l.length - 1) (by omega)
  have wl : IntKind.i64.wrap ((l.length : Int) - 1) = ((l.length - 1 : Nat) : Int) := by rw [wrap64 (by omega) (by omega)]; omega
  have w1 := wrap_nat1 (show i < _ by omega)
  simp only [gr1] at hnx
  have ws : IntKind.i64.wrap (gI l (u % l.length) + gI l (v % l.length)) = gI l (u % l.length) + gI l (v % l.length) := wrap64 (by omega) (by omega)
  have ll := alen_of hli
  have wm : (l.length : Int) < (most : Int) ↔ l.length < most := by omega
  have e46 : ∀ n : Int, decide (n ≤ 46) = decide (n ≤ 46) := fun _ => rfl
  have ho1 : GW ⟨fun k => if k = s.hs.nh then some [.int .u8 (u : Int), .int .u8 (v : Int)] else if k = s.hs.nh then some [.int .u8 0, .int .u8 0] else s.hs.heap k, s.hs.nh + 1, s.hs.nt, s.hs.tok, s.hs.mp⟩ (s.env 5) l := ho
  obtain ⟨y, hs', a1, a2⟩ := ho1.add (by omega) (gI l (u % l.length) + gI l (v % l.length))
  generalize hu2 : ((u % l.length : Nat) : Int) = ui at *
  generalize hv2 : ((v % l.length : Nat) : Int) = vi at *
  generalize hl2' : ((l.length - 1 : Nat) : Int) = li at *
  generalize gI l (u % l.length) = A at *
  generalize gI l (v % l.length) = B at *
  have st := store_new8 (hp := s.hs.heap) (i := s.hs.nh) (u : Int) (v : Int)
  generalize gI l (l.length - 1) = Z at *
  have key : ∀ s' : AS, s'.env 1 = .int .i64 (most : Int) → s'.env 10 = x → s'.env 11 = .int .i64 (ps.length : Int) → s'.env 12 = .int .i64 ((i + 1 : Nat) : Int) → GW s'.hs (s'.env 5) ((ps.take (i + 1)).foldl (gr1 most) [1]) → At (N s') := fun s' q1 q2 q3 q4 q5 => hN (i + 1) s' (by omega) ⟨by omega, q1, q2, q3, q4, q5⟩
  by_cases c1 : l.length < most
  · have c1' : (l.length : Int) < (most : Int) := by omega
    by_cases c2 : Z < A + B
    · by_cases c3 : A + B ≤ 46
      · rw [if_pos ⟨c1, c2, c3⟩] at hnx
        simp [e10, e12, e1, hx2, ll, ra, rb, xa, xb, wu, wv, wl, ws, xl, c1, c2, c3, st, astoAll, a1, w1, -abin_rem]
        exact key _ (by simp [e1]) (by simp [e10]) (by simp [e11]) (by simp) (by rw [hnx]; simpa using a2)
      · rw [if_neg (fun h => c3 h.2.2)] at hnx
        simp [e10, e12, e1, hx2, ll, ra, rb, xa, xb, wu, wv, wl, ws, xl, c1, c2, c3, st, astoAll, w1, -abin_rem]
        exact key _ (by simp [e1]) (by simp [e10]) (by simp [e11]) (by simp) (by rw [hnx]; simpa using ho1)
    · rw [if_neg (fun h => c2 h.2.1)] at hnx
      simp [e10, e12, e1, hx2, ll, ra, rb, xa, xb, wu, wv, wl, ws, xl, c1, c2, st, astoAll, w1, -abin_rem]
      exact key _ (by simp [e1]) (by simp [e10]) (by simp [e11]) (by simp) (by rw [hnx]; simpa using ho1)
  · rw [if_neg (fun h => c1 h.1)] at hnx
    simp [e10, e12, e1, hx2, ll, ra, rb, xa, xb, wu, wv, wl, ws, xl, c1, st, astoAll, w1, -abin_rem]
    exact key _ (by simp [e1]) (by simp [e10]) (by simp [e11]) (by simp) (by rw [hnx]; simpa using ho1)
end Go.Proofs.YtdcpkgedaflnmaaDoor
