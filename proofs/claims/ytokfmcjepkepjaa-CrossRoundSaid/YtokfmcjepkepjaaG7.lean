/-
  Clear rules by values; one more cross, plainly. Own work.
  CrossAdded: a rule without one of its crosses. Printed by wip/tools/genads.py. Own work.
  CrossAdded, walked. Printed by wip/tools/genadw.py. Own work.
-/
import Derived.Test.YtokfmcjepkepjaaG6
import Derived.Test.YtokfmcjepkepjaaG5
import Derived.Test.YtokfmcjepkepjaaFw4
set_option linter.unusedVariables false
set_option linter.unusedSimpArgs false
namespace Go.Proofs.Ytokfmcjepkepjaa
open Go Fw

def Gol (l : List Int) : Prop := ∀ a ∈ l, ∀ b ∈ l, ∀ c ∈ l, ∀ d ∈ l, a < b → c < d → b - a = d - c → a = c
theorem asc_inj {l : List Int} (h : l.Pairwise (· < ·)) {u v : Nat} (hu : u < l.length) (hv : v < l.length) (e : l[u] = l[v]) : u = v := by
  rcases Nat.lt_trichotomy u v with h1 | h1 | h1
  · have := List.pairwise_iff_getElem.1 h u v hu hv h1; omega
  · exact h1
  · have := List.pairwise_iff_getElem.1 h v u hv hu h1; omega
theorem clr_gol {l : List Int} (h : l.Pairwise (· < ·)) : clrB l = true ↔ Gol l := by
  constructor
  · intro hc a ha b hb c hc' d hd hab hcd e
    exact clr_val h hc ha hb hc' hd hab hcd e
  · intro hg
    rw [clr_iff]
    rintro ⟨i, j⟩ hp ⟨u, v⟩ hq hne e
    obtain ⟨h1, h2⟩ := mem_resF.1 hp
    obtain ⟨h3, h4⟩ := mem_resF.1 hq
    simp only at h1 h2 h3 h4
    have hi : i < l.length := by omega
    have hu : u < l.length := by omega
    rw [dsN, dsN, getD_of hi, getD_of h2, getD_of hu, getD_of h4] at e
    have x1 := List.pairwise_iff_getElem.1 h i j hi h2 h1
    have x2 := List.pairwise_iff_getElem.1 h u v hu h4 h3
    have hac := hg _ (List.getElem_mem hi) _ (List.getElem_mem h2) _ (List.getElem_mem hu) _ (List.getElem_mem h4) x1 x2 e
    have e1 := asc_inj h hi hu hac
    have e2 := asc_inj h h2 h4 (by omega)
    exact hne (by rw [e1, e2])
theorem insT_asc {l : List Int} (h : l.Pairwise (· < ·)) {v : Int} (hv : v ∉ l) : (insT l v).Pairwise (· < ·) := by
  unfold insT
  rw [take_lt v h, drop_lt v h]
  rw [List.append_assoc, List.pairwise_append]
  refine ⟨h.filter _, ?_, ?_⟩
  · rw [List.singleton_append, List.pairwise_cons]
    refine ⟨fun b hb => ?_, h.filter _⟩
    obtain ⟨h1, h2⟩ := List.mem_filter.1 hb
    have : ¬ b = v := fun e => hv (e ▸ h1)
    simp at h2; omega
  · intro a ha b hb
    have h1 := (List.mem_filter.1 ha).2
    simp at h1
    rw [List.singleton_append] at hb
    rcases List.mem_cons.1 hb with rfl | hb
    · exact h1
    · have h2 := (List.mem_filter.1 hb).2
      simp at h2; omega
theorem insT_iff {l : List Int} {v n : Int} : n ∈ insT l v ↔ n ∈ l ∨ n = v := by
  refine ⟨insT_mem, fun h => ?_⟩
  unfold insT
  simp only [List.mem_append, List.mem_singleton]
  rcases h with h | h
  · have : n ∈ l.take (ltN l v) ++ l.drop (ltN l v) := by rw [List.take_append_drop]; exact h
    rcases List.mem_append.1 this with h | h
    · exact .inl (.inl h)
    · exact .inr h
  · exact .inl (.inr h)
theorem meas_val {l : List Int} (h : l.Pairwise (· < ·)) {n : Int} : measB l n = true ↔ ∃ a ∈ l, ∃ b ∈ l, a < b ∧ b - a = n := by
  unfold measB
  simp only [List.any_eq_true, decide_eq_true_eq]
  constructor
  · rintro ⟨⟨i, j⟩, hp, e⟩
    obtain ⟨h1, h2⟩ := mem_resF.1 hp
    simp only at h1 h2
    rw [dsN, getD_of h2, getD_of (by simp only; omega)] at e
    exact ⟨_, List.getElem_mem (by omega), _, List.getElem_mem h2, List.pairwise_iff_getElem.1 h i j (by omega) h2 h1, e⟩
  · rintro ⟨a, ha, b, hb, hab, e⟩
    obtain ⟨i, hi, rfl⟩ := List.mem_iff_getElem.1 ha
    obtain ⟨j, hj, rfl⟩ := List.mem_iff_getElem.1 hb
    have hij : i < j := by
      rcases Nat.lt_trichotomy i j with h1 | h1 | h1
      · exact h1
      · subst h1; omega
      · have := List.pairwise_iff_getElem.1 h j i hj hi h1; omega
    refine ⟨(i, j), mem_resF.2 ⟨hij, hj⟩, ?_⟩
    rw [dsN, getD_of hj, getD_of hi]
    exact e
/-- the distance of two places -/
def abI (x q : Int) : Int := max (x - q) (q - x)
theorem abI_c (x q : Int) : (q ≤ x ∧ abI x q = x - q) ∨ (x < q ∧ abI x q = q - x) := by unfold abI; omega
/-- what the law asks of a new cross -/
def Gud (l : List Int) (x : Int) : Prop := (∀ q ∈ l, q ≠ x) ∧ (∀ q ∈ l, measB l (abI x q) = false) ∧ ∀ q ∈ l, ∀ r ∈ l, abI x q = abI x r → q = r
theorem gud_iff {l : List Int} (h : l.Pairwise (· < ·)) (hc : clrB l = true) {x : Int} : plP l x = true ↔ Gud l x := by
  have hg := (clr_gol h).1 hc
  unfold plP
  rw [Bool.and_eq_true, Bool.not_eq_true', List.contains_eq_mem, decide_eq_false_iff_not]
  constructor
  · rintro ⟨hx, hi⟩
    have hi := (clr_gol (insT_asc h hx)).1 hi
    have mx : x ∈ insT l x := insT_iff.2 (.inr rfl)
    have ml : ∀ {q}, q ∈ l → q ∈ insT l x := fun hq => insT_iff.2 (.inl hq)
    refine ⟨fun q hq e => hx (e ▸ hq), fun q hq => ?_, fun q hq r hr e => ?_⟩
    · rw [← Bool.not_eq_true, meas_val h]
      rintro ⟨a, ha, b, hb, hab, e⟩
      rcases abI_c x q with ⟨h1, h2⟩ | ⟨h1, h2⟩
      · have hqx : q ≠ x := fun e => hx (e ▸ hq)
        have := hi a (ml ha) b (ml hb) q (ml hq) x mx hab (by omega) (by omega)
        have hbx : b = x := by omega
        exact hx (hbx ▸ hb)
      · have := hi a (ml ha) b (ml hb) x mx q (ml hq) hab (by omega) (by omega)
        exact hx (this ▸ ha)
    · have hqx : q ≠ x := fun e => hx (e ▸ hq)
      have hrx : r ≠ x := fun e => hx (e ▸ hr)
      rcases abI_c x q with ⟨h1, h2⟩ | ⟨h1, h2⟩ <;> rcases abI_c x r with ⟨h3, h4⟩ | ⟨h3, h4⟩
      · omega
      · have := hi q (ml hq) x mx x mx r (ml hr) (by omega) (by omega) (by omega)
        exact absurd this hqx
      · have := hi r (ml hr) x mx x mx q (ml hq) (by omega) (by omega) (by omega)
        exact absurd this hrx
      · omega
  · rintro ⟨h1, h2, h3⟩
    have hx : x ∉ l := fun hm => h1 x hm rfl
    refine ⟨hx, (clr_gol (insT_asc h hx)).2 ?_⟩
    have hm : ∀ {q a b : Int}, q ∈ l → a ∈ l → b ∈ l → a < b → b - a ≠ abI x q := by
      intro q a b hq ha hb hab e
      have := h2 q hq
      rw [← Bool.not_eq_true, meas_val h] at this
      exact this ⟨a, ha, b, hb, hab, e⟩
    intro a ha b hb c hc' d hd hab hcd e
    rcases insT_iff.1 ha with ha | xa <;> rcases insT_iff.1 hb with hb | xb <;> rcases insT_iff.1 hc' with hc' | xc <;> rcases insT_iff.1 hd with hd | xd
    · exact hg a ha b hb c hc' d hd hab hcd e
    · exact absurd (by rcases abI_c x c with ⟨u, v⟩ | ⟨u, v⟩ <;> omega) (hm hc' ha hb hab)
    · exact absurd (by rcases abI_c x d with ⟨u, v⟩ | ⟨u, v⟩ <;> omega) (hm hd ha hb hab)
    · omega
    · exact absurd (by rcases abI_c x a with ⟨u, v⟩ | ⟨u, v⟩ <;> omega) (hm ha hc' hd hcd)
    · omega
    · have := h3 a ha d hd (by rcases abI_c x a with ⟨u, v⟩ | ⟨u, v⟩ <;> rcases abI_c x d with ⟨u', v'⟩ | ⟨u', v'⟩ <;> omega)
      omega
    · omega
    · exact absurd (by rcases abI_c x b with ⟨u, v⟩ | ⟨u, v⟩ <;> omega) (hm hb hc' hd hcd)
    · have := h3 b hb c hc' (by rcases abI_c x b with ⟨u, v⟩ | ⟨u, v⟩ <;> rcases abI_c x c with ⟨u', v'⟩ | ⟨u', v'⟩ <;> omega)
      omega
    · omega
    · omega
    · omega
    · omega
    · omega
    · omega
theorem plF_ge {l : List Int} {most : Int} {k : Nat} {v : Int} (h : v ∈ plF l most k) : (k : Int) ≤ v := by
  unfold plF at h
  simp only [List.mem_map, List.mem_filter, List.mem_range'_1] at h
  obtain ⟨j, ⟨⟨h1, _⟩, _⟩, rfl⟩ := h
  omega
theorem pl_ne {l : List Int} {most : Int} {n x : Nat} {W : List Int} (h : W.drop x = plF l most (n + 1)) (hx : x < W.length) : ¬ W[x] = (n : Int) := by
  rw [List.drop_eq_getElem_cons hx] at h
  have : W[x] ∈ plF l most (n + 1) := by rw [← h]; exact List.mem_cons_self
  have := plF_ge this
  omega
/-- what is good so far, of the first crosses -/
def GudI (l : List Int) (x : Int) (i : Nat) : Prop := (∀ q ∈ l.take i, q ≠ x ∧ measB l (abI x q) = false) ∧ ((l.take i).map (abI x)).Nodup
theorem gudI_all {l : List Int} (hn : l.Nodup) {x : Int} : GudI l x l.length ↔ Gud l x := by
  unfold GudI Gud
  rw [List.take_length]
  have : (l.map (abI x)).Nodup ↔ ∀ q ∈ l, ∀ r ∈ l, abI x q = abI x r → q = r := by
    constructor
    · intro h q hq r hr e
      obtain ⟨i, hi, rfl⟩ := List.mem_iff_getElem.1 hq
      obtain ⟨j, hj, rfl⟩ := List.mem_iff_getElem.1 hr
      have : i = j := by
        rcases Nat.lt_trichotomy i j with h1 | h1 | h1
        · have := List.pairwise_iff_getElem.1 h i j (by simpa using hi) (by simpa using hj) h1
          exact absurd (by simpa using e) this
        · exact h1
        · have := List.pairwise_iff_getElem.1 h j i (by simpa using hj) (by simpa using hi) h1
          exact absurd (by simpa using e.symm) this
      subst this; rfl
    · intro h
      unfold List.Nodup
      rw [List.pairwise_map]
      exact List.Pairwise.imp_of_mem (fun ha hb hab e => hab (h _ ha _ hb e)) hn
  rw [this]
  constructor
  · rintro ⟨h1, h2⟩
    exact ⟨fun q hq => (h1 q hq).1, fun q hq => (h1 q hq).2, h2⟩
  · rintro ⟨h1, h2, h3⟩
    exact ⟨fun q hq => ⟨h1 q hq, h2 q hq⟩, h3⟩
/-- the counts when the first crosses are compared -/
def tmN (l : List Int) (x : Int) (i j : Nat) : Nat := cnN l j + ((l.take i).map (abI x)).count (j : Int)
theorem gudI_c {l : List Int} {x : Int} {i d : Nat} (hi : i < l.length) (hd : abI x l[i] = (d : Int)) : GudI l x (i + 1) ↔ (GudI l x i ∧ 0 < d ∧ tmN l x i d = 0) := by
  unfold GudI tmN
  rw [List.take_succ_eq_append_getElem hi, List.map_append, List.map_singleton, List.nodup_append, hd]
  have hx : l[i] ≠ x ↔ 0 < d := by
    rcases abI_c x l[i] with ⟨h1, h2⟩ | ⟨h1, h2⟩ <;> omega
  have hz : cnN l d + ((l.take i).map (abI x)).count (d : Int) = 0 ↔ measB l (d : Int) = false ∧ (d : Int) ∉ (l.take i).map (abI x) := by
    rw [← cnN_zero, ← List.count_eq_zero]; omega
  rw [hz]
  constructor
  · rintro ⟨h1, h2, _, h4⟩
    have h5 := h1 l[i] (List.mem_append_right _ (List.mem_singleton.2 rfl))
    rw [hd] at h5
    exact ⟨⟨fun q hq => h1 q (List.mem_append_left _ hq), h2⟩, hx.1 h5.1, h5.2, fun hm => h4 _ hm _ (by simp) rfl⟩
  · rintro ⟨⟨h1, h2⟩, h3, h4, h5⟩
    refine ⟨fun q hq => ?_, h2, by simp, fun a ha b hb e => ?_⟩
    · rcases List.mem_append.1 hq with hq | hq
      · exact h1 q hq
      · rw [List.mem_singleton] at hq
        subst hq
        rw [hd]
        exact ⟨hx.2 h3, h4⟩
    · rw [List.mem_singleton] at hb
      subst hb; subst e
      exact h5 ha
theorem tmN_c {l : List Int} {x : Int} {i d : Nat} (hi : i < l.length) (hd : abI x l[i] = (d : Int)) (j : Nat) : tmN l x (i + 1) j = if j = d then tmN l x i d + 1 else tmN l x i j := by
  unfold tmN
  rw [List.take_succ_eq_append_getElem hi, List.map_append, List.map_singleton, List.count_append, List.count_singleton, hd]
  by_cases h : j = d
  · subst h; simp; omega
  · have : ¬ (d : Int) = (j : Int) := by omega
    simp [h, this]
/-- without one cross a clear rule remains clear -/
theorem era_ok {l : List Int} (h : OkL l) (h2 : 2 < l.length) (hc : clrB l = true) (i : Nat) : OkL (l.take i ++ l.drop (i + 1)) ∧ clrB (l.take i ++ l.drop (i + 1)) = true := by
  have hs : (l.take i ++ l.drop (i + 1)).Sublist l := by
    have : (l.take i ++ l.drop (i + 1)).Sublist (l.take i ++ l.drop i) := by
      refine List.Sublist.append_left ?_ _
      rw [← List.tail_drop]
      exact List.tail_sublist _
    rwa [List.take_append_drop] at this
  have hasc := h.asc.sublist hs
  have h8 := h.eight
  refine ⟨⟨by simp; omega, ?_, fun n hn => h.bd n (hs.subset hn), hasc⟩, ?_⟩
  · have := hs.length_le; omega
  · rw [clr_gol hasc]
    have hg := (clr_gol h.asc).1 hc
    intro a ha b hb c hc' d hd
    exact hg a (hs.subset ha) b (hs.subset hb) c (hs.subset hc') d (hs.subset hd)
end Go.Proofs.Ytokfmcjepkepjaa
set_option linter.unusedVariables false
set_option linter.unusedSimpArgs false
namespace Go.Proofs.Ytokfmcjepkepjaa
open Go Fw

theorem fresh_cong' {hs1 hs2 : HS} {v : AV} (e1 : hs2.tok = hs1.tok) (e2 : hs2.nt = hs1.nt) (hf : Fresh hs1 v) : Fresh hs2 v := by
  revert hf
  unfold Fresh
  split <;> intro h
  · trivial
  · trivial
  · rw [e1, e2]; exact h
  · exact h
theorem At.cp1 {hs : HS} {p q : AV} {xs ys : List Int} {K : AV × HS → Prop} (hp : asV 1 p = some (ints xs)) (hq : asV 1 q = some (ints ys)) (hl : xs.length + ys.length ≤ 1000000)
    (k : ∀ y1 hs1, hs1.heap = hs.heap → hs1.nh = hs.nh → (∀ hs2 : HS, hs2.tok = hs1.tok → hs2.nt = hs1.nt → ∃ y2 hs3, aappend 1 hs2 y1 q = some (y2, hs3) ∧ hs3.heap = hs2.heap ∧ hs3.nh = hs2.nh ∧ asI y2 = some (xs ++ ys)) → At (K (y1, hs1))) : At (optK (aappend 1 hs (.sl 1 [] .exact) p) K) := by
  obtain ⟨y1, hs1, b1, b2, b3, b4, b5, b6, b7⟩ := append_fresh (sz := 1) (hs := hs) (x := .sl 1 [] .exact) (q := p) (l := []) (ys := ints xs) trivial rfl rfl hp (by simp [ints]; omega)
  rw [b1]
  refine k y1 hs1 b6.heap b6.nh fun hs2 e1 e2 => ?_
  have b2' : Fresh hs2 y1 := fresh_cong' e1 e2 b2
  obtain ⟨y2, hs3, d1, d2, d3, d4, d5, d6, d7⟩ := append_fresh (sz := 1) (hs := hs2) (q := q) (ys := ints ys) b2' b3 b4 hq (by simp [ints]; omega)
  refine ⟨y2, hs3, d1, d6.heap, d6.nh, ?_⟩
  rcases d5 with ⟨rfl, h0⟩ | ⟨k, rfl⟩
  · have : ys = [] := List.map_eq_nil_iff.1 h0
    subst this
    rw [List.append_nil]
    rcases b5 with ⟨rfl, h1⟩ | ⟨k, rfl⟩
    · have : xs = [] := List.map_eq_nil_iff.1 h1
      subst this
      exact asI_sl (l := []) (by simp)
    · exact asI_sl (by omega)
  · have : [] ++ ints xs ++ ints ys = ints (xs ++ ys) := by simp [ints]
    rw [this]; exact asI_sl (by simp; omega)
theorem At.cp2 {hs hs1 : HS} {y1 q : AV} {zs : List Int} {K : AV × HS → Prop} (h : ∀ hs2 : HS, hs2.tok = hs1.tok → hs2.nt = hs1.nt → ∃ y2 hs3, aappend 1 hs2 y1 q = some (y2, hs3) ∧ hs3.heap = hs2.heap ∧ hs3.nh = hs2.nh ∧ asI y2 = some zs) (h1 : hs.tok = hs1.tok) (h2 : hs.nt = hs1.nt)
    (k : ∀ y2 hs3, hs3.heap = hs.heap → hs3.nh = hs.nh → asI y2 = some zs → At (K (y2, hs3))) : At (optK (aappend 1 hs y1 q) K) := by
  obtain ⟨y2, hs3, d1, d2, d3, d4⟩ := h hs h1 h2
  rw [d1]
  exact k y2 hs3 d2 d3 d4
set_option maxHeartbeats 4000000 in
set_option maxRecDepth 100000 in
theorem reg11 {C : PCtx} {X : AV} {l : List Int} {i : Nat} {s : AS} {Q : AEx → AS → Prop} (hXa : asI X = some l) (hi : i < l.length) (hl : l.length ≤ 8) (hok : OkL (l.take i ++ l.drop (i + 1))) (hclr : clrB (l.take i ++ l.drop (i + 1)) = true)
    (q17 : ∀ x l, asI x = some l → C 17 [x] = some (twiR l)) (e7 : s.env 7 = X) (e18 : s.env 18 = .int .i64 (i : Int))
    (h2 : ∀ s' : AS, s'.env 21 = .int .i64 5 ∧ s'.env 9 = s.env 9 ∧ s'.env 11 = s.env 11 ∧ s'.env 7 = X → At (Q .normal s')) : At (anyW Try.prog C [[], [], [], [1, 2], [0, 3], [], [], [6], [5, 7], [4, 8, 4], [9, 9], [10], [11], [11], [11], [], [], [15, 12, 10, 0, 1, 2, 3, 4, 5, 6, 7, 8, 9, 10, 11, 12, 15, 16], [16, 13, 17, 0, 1, 2, 3, 4, 5, 6, 7, 8, 9, 10, 11, 12, 13, 15, 16, 17], [14, 18, 0, 1, 2, 3, 4, 5, 6, 7, 8, 9, 10, 11, 12, 13, 14, 15, 16, 17, 18]] [⟨some 111, none, .buildSl 1 []⟩, ⟨some 112, none, .mv (.t 7)⟩, ⟨some 113, none, .mv (.t 18)⟩, ⟨some 114, none, .slice 1 (.t 112) none (some (.t 113)) none⟩, ⟨some 115, none, .append 1 (.t 111) (.t 114)⟩, ⟨some 116, none, .mv (.t 7)⟩, ⟨some 117, none, .mv (.t 18)⟩, ⟨some 118, none, .bin 0 .add (.t 117) (.c (.int .i64 1))⟩, ⟨some 119, none, .slice 1 (.t 116) (some (.t 118)) none none⟩, ⟨some 120, none, .append 1 (.t 115) (.t 119)⟩, ⟨some 121, none, .pcall 17 [.t 120]⟩, ⟨some 110, none, .mv (.t 121)⟩, ⟨some 122, none, .extract (.t 110) 0⟩, ⟨some 123, none, .extract (.t 110) 1⟩, ⟨some 124, none, .extract (.t 110) 2⟩, ⟨some 19, none, .alloc [.int .i64 0, .int .i64 0]⟩, ⟨some 20, none, .alloc [.int .i64 0, .int .i64 0]⟩, ⟨none, none, .store 2 (.t 19) (.t 122)⟩, ⟨none, none, .store 2 (.t 20) (.t 123)⟩, ⟨some 21, none, .mv (.t 124)⟩] 20 [] Q s) := by
  have hV := asI_asV hXa
  have t1 := slice_take hV (n := i) (k := .i64) (by simp [ints]; omega)
  have t2 := slice_drop hV (n := i + 1) (k := .i64) (by simp [ints]; omega)
  rw [show ((i + 1 : Nat) : Int) = (i : Int) + 1 by omega] at t2
  have w1 : IntKind.i64.wrap ((i : Int) + 1) = (i : Int) + 1 := wrap64 (by omega) (by omega)
  have eT : (ints l).take i = ints (l.take i) := by simp [ints, List.map_take]
  have eD : (ints l).drop (i + 1) = ints (l.drop (i + 1)) := by simp [ints, List.map_drop]
  have aT := asV_take hV i
  have aD := asV_drop hV (i + 1)
  rw [eT] at aT
  rw [eD] at aD
  refine At.any_to (fun s' => s'.env 21 = .int .i64 5 ∧ s'.env 9 = s.env 9 ∧ s'.env 11 = s.env 11 ∧ s'.env 7 = X) ?_ h2
  refine At.any_q 0 endN_p rfl rfl rfl ?_
  simp [e7, e18, astoAll, t1, t2, w1]
  refine At.any_q 1 endN_p rfl rfl rfl ?_
  simp [e7, e18, astoAll, t1, t2, w1]
  refine At.any_q 2 endN_p rfl rfl rfl ?_
  simp [e7, e18, astoAll, t1, t2, w1]
  refine At.any_q 3 endN_p rfl rfl rfl ?_
  simp [e7, e18, astoAll, t1, t2, w1]
  refine At.any_q 5 endN_p rfl rfl rfl ?_
  simp [e7, e18, astoAll, t1, t2, w1]
  refine At.any_q 6 endN_p rfl rfl rfl ?_
  simp [e7, e18, astoAll, t1, t2, w1]
  refine At.any_q 7 endN_p rfl rfl rfl ?_
  simp [e7, e18, astoAll, t1, t2, w1]
  refine At.any_q 8 endN_p rfl rfl rfl ?_
  simp [e7, e18, astoAll, t1, t2, w1]
  refine At.any_3 4 15 16 rfl rfl rfl rfl ?_ ?_ ?_ 
  · simp
    refine At.cp1 aT aD (by simp; omega) fun y1 hs1 hh1 hn1 b1 => ?_
    refine At.any_3 9 15 16 rfl rfl rfl rfl ?_ ?_ ?_ 
    · simp
      refine At.cp2 b1 (by simp) (by simp) fun y2 hs3 hh3 hn3 b3 => ?_
      have k17 := q17 _ _ b3
      rw [twiR_ok hok, if_pos hclr] at k17
      generalize tw (dsN (l.take i ++ l.drop (i + 1))) (resF (l.take i ++ l.drop (i + 1)).length 0) = V at k17
      refine At.any_q 10 endN_p rfl rfl rfl ?_
      simp [k17, twR]
      refine At.any_q 11 endN_p rfl rfl rfl ?_
      simp [k17, twR]
      refine At.any_q 12 endN_p rfl rfl rfl ?_
      simp [k17, twR]
      refine At.any_q 13 endN_p rfl rfl rfl ?_
      simp [k17, twR]
      refine At.any_q 14 endN_p rfl rfl rfl ?_
      simp [k17, twR]
      refine At.any_2 15 16 rfl rfl rfl ?_ ?_ 
      · simp
        refine At.any_o 16 rfl rfl ?_
        simp
        refine At.any_o 17 rfl rfl ?_
        simp [hh1, hn1, hh3, hn3]
        refine At.one none (by simp [one', zz, hh1, hn1, hh3, hn3]) ?_
        refine At.any_o 18 rfl rfl ?_
        simp [hh1, hn1, hh3, hn3]
        refine At.tw2 none (by simp [two', zz, hh1, hn1, hh3, hn3]) ?_
        refine At.any_o 19 rfl rfl ?_
        simp
        refine At.any_e rfl ?_
        simp
        exact At.of (by simp [e7])
      · simp
        refine At.any_o 15 rfl rfl ?_
        simp
        refine At.any_o 17 rfl rfl ?_
        simp [hh1, hn1, hh3, hn3]
        refine At.one none (by simp [one', zz, hh1, hn1, hh3, hn3]) ?_
        refine At.any_o 18 rfl rfl ?_
        simp [hh1, hn1, hh3, hn3]
        refine At.tw2 none (by simp [two', zz, hh1, hn1, hh3, hn3]) ?_
        refine At.any_o 19 rfl rfl ?_
        simp
        refine At.any_e rfl ?_
        simp
        exact At.of (by simp [e7])
    · simp
      refine At.any_2 9 16 rfl rfl rfl ?_ ?_ 
      · simp
        refine At.cp2 b1 (by simp) (by simp) fun y2 hs3 hh3 hn3 b3 => ?_
        have k17 := q17 _ _ b3
        rw [twiR_ok hok, if_pos hclr] at k17
        generalize tw (dsN (l.take i ++ l.drop (i + 1))) (resF (l.take i ++ l.drop (i + 1)).length 0) = V at k17
        refine At.any_q 10 endN_p rfl rfl rfl ?_
        simp [k17, twR]
        refine At.any_q 11 endN_p rfl rfl rfl ?_
        simp [k17, twR]
        refine At.any_q 12 endN_p rfl rfl rfl ?_
        simp [k17, twR]
        refine At.any_q 13 endN_p rfl rfl rfl ?_
        simp [k17, twR]
        refine At.any_q 14 endN_p rfl rfl rfl ?_
        simp [k17, twR]
        refine At.any_o 16 rfl rfl ?_
        simp
        refine At.any_o 17 rfl rfl ?_
        simp [hh1, hn1, hh3, hn3]
        refine At.one none (by simp [one', zz, hh1, hn1, hh3, hn3]) ?_
        refine At.any_o 18 rfl rfl ?_
        simp [hh1, hn1, hh3, hn3]
        refine At.tw2 none (by simp [two', zz, hh1, hn1, hh3, hn3]) ?_
        refine At.any_o 19 rfl rfl ?_
        simp
        refine At.any_e rfl ?_
        simp
        exact At.of (by simp [e7])
      · simp
        refine At.any_o 9 rfl rfl ?_
        simp
        refine At.cp2 b1 (by simp) (by simp) fun y2 hs3 hh3 hn3 b3 => ?_
        have k17 := q17 _ _ b3
        rw [twiR_ok hok, if_pos hclr] at k17
        generalize tw (dsN (l.take i ++ l.drop (i + 1))) (resF (l.take i ++ l.drop (i + 1)).length 0) = V at k17
        refine At.any_q 10 endN_p rfl rfl rfl ?_
        simp [k17, twR]
        refine At.any_q 11 endN_p rfl rfl rfl ?_
        simp [k17, twR]
        refine At.any_q 12 endN_p rfl rfl rfl ?_
        simp [k17, twR]
        refine At.any_q 13 endN_p rfl rfl rfl ?_
        simp [k17, twR]
        refine At.any_q 14 endN_p rfl rfl rfl ?_
        simp [k17, twR]
        refine At.any_o 17 rfl rfl ?_
        simp [hh1, hn1, hh3, hn3]
        refine At.one none (by simp [one', zz, hh1, hn1, hh3, hn3]) ?_
        refine At.any_o 18 rfl rfl ?_
        simp [hh1, hn1, hh3, hn3]
        refine At.tw2 none (by simp [two', zz, hh1, hn1, hh3, hn3]) ?_
        refine At.any_o 19 rfl rfl ?_
        simp
        refine At.any_e rfl ?_
        simp
        exact At.of (by simp [e7])
    · simp
      refine At.any_2 9 15 rfl rfl rfl ?_ ?_ 
      · simp
        refine At.cp2 b1 (by simp) (by simp) fun y2 hs3 hh3 hn3 b3 => ?_
        have k17 := q17 _ _ b3
        rw [twiR_ok hok, if_pos hclr] at k17
        generalize tw (dsN (l.take i ++ l.drop (i + 1))) (resF (l.take i ++ l.drop (i + 1)).length 0) = V at k17
        refine At.any_q 10 endN_p rfl rfl rfl ?_
        simp [k17, twR]
        refine At.any_q 11 endN_p rfl rfl rfl ?_
        simp [k17, twR]
        refine At.any_q 12 endN_p rfl rfl rfl ?_
        simp [k17, twR]
        refine At.any_q 13 endN_p rfl rfl rfl ?_
        simp [k17, twR]
        refine At.any_q 14 endN_p rfl rfl rfl ?_
        simp [k17, twR]
        refine At.any_o 15 rfl rfl ?_
        simp
        refine At.any_o 17 rfl rfl ?_
        simp [hh1, hn1, hh3, hn3]
        refine At.one none (by simp [one', zz, hh1, hn1, hh3, hn3]) ?_
        refine At.any_o 18 rfl rfl ?_
        simp [hh1, hn1, hh3, hn3]
        refine At.tw2 none (by simp [two', zz, hh1, hn1, hh3, hn3]) ?_
        refine At.any_o 19 rfl rfl ?_
        simp
        refine At.any_e rfl ?_
        simp
        exact At.of (by simp [e7])
      · simp
        refine At.any_o 9 rfl rfl ?_
        simp
        refine At.cp2 b1 (by simp) (by simp) fun y2 hs3 hh3 hn3 b3 => ?_
        have k17 := q17 _ _ b3
        rw [twiR_ok hok, if_pos hclr] at k17
        generalize tw (dsN (l.take i ++ l.drop (i + 1))) (resF (l.take i ++ l.drop (i + 1)).length 0) = V at k17
        refine At.any_q 10 endN_p rfl rfl rfl ?_
        simp [k17, twR]
        refine At.any_q 11 endN_p rfl rfl rfl ?_
        simp [k17, twR]
        refine At.any_q 12 endN_p rfl rfl rfl ?_
        simp [k17, twR]
        refine At.any_q 13 endN_p rfl rfl rfl ?_
        simp [k17, twR]
        refine At.any_q 14 endN_p rfl rfl rfl ?_
        simp [k17, twR]
        refine At.any_o 17 rfl rfl ?_
        simp [hh1, hn1, hh3, hn3]
        refine At.one none (by simp [one', zz, hh1, hn1, hh3, hn3]) ?_
        refine At.any_o 18 rfl rfl ?_
        simp [hh1, hn1, hh3, hn3]
        refine At.tw2 none (by simp [two', zz, hh1, hn1, hh3, hn3]) ?_
        refine At.any_o 19 rfl rfl ?_
        simp
        refine At.any_e rfl ?_
        simp
        exact At.of (by simp [e7])
  · simp
    refine At.any_2 4 16 rfl rfl rfl ?_ ?_ 
    · simp
      refine At.cp1 aT aD (by simp; omega) fun y1 hs1 hh1 hn1 b1 => ?_
      refine At.any_2 9 16 rfl rfl rfl ?_ ?_ 
      · simp
        refine At.cp2 b1 (by simp) (by simp) fun y2 hs3 hh3 hn3 b3 => ?_
        have k17 := q17 _ _ b3
        rw [twiR_ok hok, if_pos hclr] at k17
        generalize tw (dsN (l.take i ++ l.drop (i + 1))) (resF (l.take i ++ l.drop (i + 1)).length 0) = V at k17
        refine At.any_q 10 endN_p rfl rfl rfl ?_
        simp [k17, twR]
        refine At.any_q 11 endN_p rfl rfl rfl ?_
        simp [k17, twR]
        refine At.any_q 12 endN_p rfl rfl rfl ?_
        simp [k17, twR]
        refine At.any_q 13 endN_p rfl rfl rfl ?_
        simp [k17, twR]
        refine At.any_q 14 endN_p rfl rfl rfl ?_
        simp [k17, twR]
        refine At.any_o 16 rfl rfl ?_
        simp
        refine At.any_o 17 rfl rfl ?_
        simp [hh1, hn1, hh3, hn3]
        refine At.one none (by simp [one', zz, hh1, hn1, hh3, hn3]) ?_
        refine At.any_o 18 rfl rfl ?_
        simp [hh1, hn1, hh3, hn3]
        refine At.tw2 none (by simp [two', zz, hh1, hn1, hh3, hn3]) ?_
        refine At.any_o 19 rfl rfl ?_
        simp
        refine At.any_e rfl ?_
        simp
        exact At.of (by simp [e7])
      · simp
        refine At.any_o 9 rfl rfl ?_
        simp
        refine At.cp2 b1 (by simp) (by simp) fun y2 hs3 hh3 hn3 b3 => ?_
        have k17 := q17 _ _ b3
        rw [twiR_ok hok, if_pos hclr] at k17
        generalize tw (dsN (l.take i ++ l.drop (i + 1))) (resF (l.take i ++ l.drop (i + 1)).length 0) = V at k17
        refine At.any_q 10 endN_p rfl rfl rfl ?_
        simp [k17, twR]
        refine At.any_q 11 endN_p rfl rfl rfl ?_
        simp [k17, twR]
        refine At.any_q 12 endN_p rfl rfl rfl ?_
        simp [k17, twR]
        refine At.any_q 13 endN_p rfl rfl rfl ?_
        simp [k17, twR]
        refine At.any_q 14 endN_p rfl rfl rfl ?_
        simp [k17, twR]
        refine At.any_o 17 rfl rfl ?_
        simp [hh1, hn1, hh3, hn3]
        refine At.one none (by simp [one', zz, hh1, hn1, hh3, hn3]) ?_
        refine At.any_o 18 rfl rfl ?_
        simp [hh1, hn1, hh3, hn3]
        refine At.tw2 none (by simp [two', zz, hh1, hn1, hh3, hn3]) ?_
        refine At.any_o 19 rfl rfl ?_
        simp
        refine At.any_e rfl ?_
        simp
        exact At.of (by simp [e7])
    · simp
      refine At.any_o 4 rfl rfl ?_
      simp
      refine At.cp1 aT aD (by simp; omega) fun y1 hs1 hh1 hn1 b1 => ?_
      refine At.any_o 9 rfl rfl ?_
      simp
      refine At.cp2 b1 (by simp) (by simp) fun y2 hs3 hh3 hn3 b3 => ?_
      have k17 := q17 _ _ b3
      rw [twiR_ok hok, if_pos hclr] at k17
      generalize tw (dsN (l.take i ++ l.drop (i + 1))) (resF (l.take i ++ l.drop (i + 1)).length 0) = V at k17
      refine At.any_q 10 endN_p rfl rfl rfl ?_
      simp [k17, twR]
      refine At.any_q 11 endN_p rfl rfl rfl ?_
      simp [k17, twR]
      refine At.any_q 12 endN_p rfl rfl rfl ?_
      simp [k17, twR]
      refine At.any_q 13 endN_p rfl rfl rfl ?_
      simp [k17, twR]
      refine At.any_q 14 endN_p rfl rfl rfl ?_
      simp [k17, twR]
      refine At.any_o 17 rfl rfl ?_
      simp [hh1, hn1, hh3, hn3]
      refine At.one none (by simp [one', zz, hh1, hn1, hh3, hn3]) ?_
      refine At.any_o 18 rfl rfl ?_
      simp [hh1, hn1, hh3, hn3]
      refine At.tw2 none (by simp [two', zz, hh1, hn1, hh3, hn3]) ?_
      refine At.any_o 19 rfl rfl ?_
      simp
      refine At.any_e rfl ?_
      simp
      exact At.of (by simp [e7])
  · simp
    refine At.any_2 4 15 rfl rfl rfl ?_ ?_ 
    · simp
      refine At.cp1 aT aD (by simp; omega) fun y1 hs1 hh1 hn1 b1 => ?_
      refine At.any_2 9 15 rfl rfl rfl ?_ ?_ 
      · simp
        refine At.cp2 b1 (by simp) (by simp) fun y2 hs3 hh3 hn3 b3 => ?_
        have k17 := q17 _ _ b3
        rw [twiR_ok hok, if_pos hclr] at k17
        generalize tw (dsN (l.take i ++ l.drop (i + 1))) (resF (l.take i ++ l.drop (i + 1)).length 0) = V at k17
        refine At.any_q 10 endN_p rfl rfl rfl ?_
        simp [k17, twR]
        refine At.any_q 11 endN_p rfl rfl rfl ?_
        simp [k17, twR]
        refine At.any_q 12 endN_p rfl rfl rfl ?_
        simp [k17, twR]
        refine At.any_q 13 endN_p rfl rfl rfl ?_
        simp [k17, twR]
        refine At.any_q 14 endN_p rfl rfl rfl ?_
        simp [k17, twR]
        refine At.any_o 15 rfl rfl ?_
        simp
        refine At.any_o 17 rfl rfl ?_
        simp [hh1, hn1, hh3, hn3]
        refine At.one none (by simp [one', zz, hh1, hn1, hh3, hn3]) ?_
        refine At.any_o 18 rfl rfl ?_
        simp [hh1, hn1, hh3, hn3]
        refine At.tw2 none (by simp [two', zz, hh1, hn1, hh3, hn3]) ?_
        refine At.any_o 19 rfl rfl ?_
        simp
        refine At.any_e rfl ?_
        simp
        exact At.of (by simp [e7])
      · simp
        refine At.any_o 9 rfl rfl ?_
        simp
        refine At.cp2 b1 (by simp) (by simp) fun y2 hs3 hh3 hn3 b3 => ?_
        have k17 := q17 _ _ b3
        rw [twiR_ok hok, if_pos hclr] at k17
        generalize tw (dsN (l.take i ++ l.drop (i + 1))) (resF (l.take i ++ l.drop (i + 1)).length 0) = V at k17
        refine At.any_q 10 endN_p rfl rfl rfl ?_
        simp [k17, twR]
        refine At.any_q 11 endN_p rfl rfl rfl ?_
        simp [k17, twR]
        refine At.any_q 12 endN_p rfl rfl rfl ?_
        simp [k17, twR]
        refine At.any_q 13 endN_p rfl rfl rfl ?_
        simp [k17, twR]
        refine At.any_q 14 endN_p rfl rfl rfl ?_
        simp [k17, twR]
        refine At.any_o 17 rfl rfl ?_
        simp [hh1, hn1, hh3, hn3]
        refine At.one none (by simp [one', zz, hh1, hn1, hh3, hn3]) ?_
        refine At.any_o 18 rfl rfl ?_
        simp [hh1, hn1, hh3, hn3]
        refine At.tw2 none (by simp [two', zz, hh1, hn1, hh3, hn3]) ?_
        refine At.any_o 19 rfl rfl ?_
        simp
        refine At.any_e rfl ?_
        simp
        exact At.of (by simp [e7])
    · simp
      refine At.any_o 4 rfl rfl ?_
      simp
      refine At.cp1 aT aD (by simp; omega) fun y1 hs1 hh1 hn1 b1 => ?_
      refine At.any_o 9 rfl rfl ?_
      simp
      refine At.cp2 b1 (by simp) (by simp) fun y2 hs3 hh3 hn3 b3 => ?_
      have k17 := q17 _ _ b3
      rw [twiR_ok hok, if_pos hclr] at k17
      generalize tw (dsN (l.take i ++ l.drop (i + 1))) (resF (l.take i ++ l.drop (i + 1)).length 0) = V at k17
      refine At.any_q 10 endN_p rfl rfl rfl ?_
      simp [k17, twR]
      refine At.any_q 11 endN_p rfl rfl rfl ?_
      simp [k17, twR]
      refine At.any_q 12 endN_p rfl rfl rfl ?_
      simp [k17, twR]
      refine At.any_q 13 endN_p rfl rfl rfl ?_
      simp [k17, twR]
      refine At.any_q 14 endN_p rfl rfl rfl ?_
      simp [k17, twR]
      refine At.any_o 17 rfl rfl ?_
      simp [hh1, hn1, hh3, hn3]
      refine At.one none (by simp [one', zz, hh1, hn1, hh3, hn3]) ?_
      refine At.any_o 18 rfl rfl ?_
      simp [hh1, hn1, hh3, hn3]
      refine At.tw2 none (by simp [two', zz, hh1, hn1, hh3, hn3]) ?_
      refine At.any_o 19 rfl rfl ?_
      simp
      refine At.any_e rfl ?_
      simp
      exact At.of (by simp [e7])
end Go.Proofs.Ytokfmcjepkepjaa
set_option linter.unusedVariables false
set_option linter.unusedSimpArgs false
namespace Go.Proofs.Ytokfmcjepkepjaa
open Go Fw

set_option maxHeartbeats 4000000 in
set_option maxRecDepth 100000 in
theorem p11 {x0 : AV} {es : List Int} (hx : IsU8 x0 es) {b : Int} (hb0 : 0 ≤ b) (hb1 : b ≤ 255) {c : Int} (hc0 : 0 ≤ c) (hc1 : c ≤ 255) : PCall Try.prog 11 [x0, .int .u8 b, .int .u8 c] (.bool true) := by
  obtain ⟨hok, hlen6, h00, h45⟩ := madL_ok (es := es) (m := 9) (by omega) (by omega)
  have h40 := p40 hx (m := 9) (by omega) (by omega)
  generalize madL es 9 = l at *
  have h2 := hok.two
  have hrl := hok.rl
  have hXa : asI (outV 1 (ints l)) = some l := asI_outV (by omega)
  generalize hX : outV 1 (ints l) = X at *
  have wb : IntKind.i64.wrap b = b := wrap64 (by omega) (by omega)
  have wc : IntKind.i64.wrap c = c := wrap64 (by omega) (by omega)
  obtain ⟨n, hn⟩ : ∃ n : Nat, b % 61 = (n : Int) := ⟨(b % 61).toNat, by omega⟩
  have hn60 : n ≤ 60 := by omega
  have hmod : b.tmod 61 = (n : Int) := by rw [Int.tmod_eq_emod_of_nonneg hb0]; exact hn
  have hlz : ¬ (l.length : Int) = 0 := by omega
  have hlz' : ¬ l.length = 0 := by omega
  obtain ⟨iw, hiw⟩ : ∃ i : Nat, c % (l.length : Int) = (i : Int) := ⟨(c % (l.length : Int)).toNat, by have := Int.emod_nonneg c hlz; omega⟩
  have hiwl : iw < l.length := by have := Int.emod_lt_of_pos c (show (0 : Int) < l.length by omega); omega
  have hmodc : c.tmod (l.length : Int) = (iw : Int) := by rw [Int.tmod_eq_emod_of_nonneg hc0]; exact hiw
  have h30 := p30 hXa (n : Int)
  obtain ⟨C1, c1, k17, n1⟩ := ctx_li ((((D2ok.pt p16).pt h40).pt (p41 hXa hrl)).pt (p42 hXa hrl)) (f := 17) (r := twiR) p17
  obtain ⟨C, hC, k40, k16, k41, k42, k30, q17⟩ : ∃ C, CtxOk Try.prog C ∧ C 40 [x0, .int .i64 9] = some X ∧ C 16 [] = some (.bool true) ∧ C 41 [X] = some (.bool (clrB l)) ∧ C 42 [X] = some (.agg (inF 61 fun j => (cnN l j : Int))) ∧ C 30 [X, .int .i64 (n : Int)] = some (plR l n) ∧ ∀ x l, asI x = some l → C 17 [x] = some (twiR l) :=
    ⟨_, c1.pt h30, by simp [n1], by simp [n1], by simp [n1], by simp [n1], by simp, fun x l h => by simp [k17 x l h]⟩
  refine PCall.of hC ok11 (by simp) rfl fun hs' hb => ?_
  have b0 : inF 61 (fun _ => 0) = [AV.int .i64 0, AV.int .i64 0, AV.int .i64 0, AV.int .i64 0, AV.int .i64 0, AV.int .i64 0, AV.int .i64 0, AV.int .i64 0, AV.int .i64 0, AV.int .i64 0, AV.int .i64 0, AV.int .i64 0, AV.int .i64 0, AV.int .i64 0, AV.int .i64 0, AV.int .i64 0, AV.int .i64 0, AV.int .i64 0, AV.int .i64 0, AV.int .i64 0, AV.int .i64 0, AV.int .i64 0, AV.int .i64 0, AV.int .i64 0, AV.int .i64 0, AV.int .i64 0, AV.int .i64 0, AV.int .i64 0, AV.int .i64 0, AV.int .i64 0, AV.int .i64 0, AV.int .i64 0, AV.int .i64 0, AV.int .i64 0, AV.int .i64 0, AV.int .i64 0, AV.int .i64 0, AV.int .i64 0, AV.int .i64 0, AV.int .i64 0, AV.int .i64 0, AV.int .i64 0, AV.int .i64 0, AV.int .i64 0, AV.int .i64 0, AV.int .i64 0, AV.int .i64 0, AV.int .i64 0, AV.int .i64 0, AV.int .i64 0, AV.int .i64 0, AV.int .i64 0, AV.int .i64 0, AV.int .i64 0, AV.int .i64 0, AV.int .i64 0, AV.int .i64 0, AV.int .i64 0, AV.int .i64 0, AV.int .i64 0, AV.int .i64 0] := rfl
  by_cases hc : clrB l = true
  rotate_left
  · have hE : plE l (n : Int) = 13 := by rw [plE, if_pos (chkE_zero.2 hok), if_neg hc]
    have hR : plR l (n : Int) = .tup [.nilsl, .int .i64 13] := by rw [plR, hE, if_neg (by decide)]
    rw [hR] at k30
    rw [Bool.not_eq_true] at hc
    simp [A11, R11, k40, wb, hmod, k30, k41, hc, k16]
  have hE : plE l (n : Int) = 0 := by rw [plE, if_pos (chkE_zero.2 hok), if_pos hc, if_neg (by omega), if_pos (by simp [btw]; omega)]
  have hR : plR l (n : Int) = .tup [outV 1 (ints (plF l (n : Int) 0)), .int .i64 0] := by rw [plR, if_pos hE]
  rw [hR] at k30
  have hPl := plF_len l (n : Int)
  have hPa : asI (outV 1 (ints (plF l (n : Int) 0))) = some (plF l (n : Int) 0) := asI_outV (by omega)
  obtain ⟨P, hP⟩ : ∃ P, plF l (n : Int) 0 = P := ⟨_, rfl⟩
  have hP0 := hP
  rw [hP] at hPa k30 hPl
  generalize outV 1 (ints P) = PV at *
  have alP := alen_of hPa
  have alX := alen_of hXa
  simp only [A11, R11, ← b0]
  simp [k40, wb, hmod, k30, k41, hc]
  refine At.loop (fun (x : Nat) t => x ≤ n + 1 ∧ ∃ k : Nat, t.env 2 = .int .u8 c ∧ t.env 7 = X ∧ t.env 8 = .int .i64 (n : Int) ∧ t.env 9 = PV ∧ t.env 11 = .int .i64 (k : Int) ∧ t.env 12 = .int .i64 (x : Int) ∧ P.drop k = plF l (n : Int) x ∧ k ≤ P.length) (fun x => n + 1 - x) 0 ?_ ?_
  · exact ⟨by omega, 0, by simp, by simp, by simp, by simp, by simp, by simp, by rw [hP0]; rfl, by omega⟩
  rintro N x t hN ⟨hxn, k, e2, e7, e8, e9, e11, e12, hD, hkl⟩
  simp [e8, e12]
  refine At.dec (fun hlt => ?_) (fun hlt => ?_)
  · have hxn' : x ≤ n := by omega
    generalize hq : t.hs.nh = q
    simp [e7, k42, hq]
    refine At.ist (f := fun _ => 0) (by simp) ?_
    simp [e7, alX]
    refine At.loop (fun (i : Nat) t => i ≤ l.length ∧ t.env 2 = .int .u8 c ∧ t.env 7 = X ∧ t.env 8 = .int .i64 (n : Int) ∧ t.env 9 = PV ∧ t.env 11 = .int .i64 (k : Int) ∧ t.env 12 = .int .i64 (x : Int) ∧ t.env 13 = .ref q 0 ∧ t.env 55 = X ∧ t.env 56 = .int .i64 (l.length : Int) ∧ t.env 57 = .int .i64 (i : Int) ∧ ∃ g : Bool, t.env 14 = .bool g ∧ (g = true ↔ GudI l (x : Int) i) ∧ ∃ f : Nat → Int, t.hs.heap q = some (inF 61 f) ∧ ∀ j, f j = (tmN l (x : Int) i j : Int)) (fun i => l.length - i) 0 ?_ ?_
    · exact ⟨by omega, by simp [e2], by simp [e7], by simp [e8], by simp [e9], by simp [e11], by simp [e12], by simp, by simp [e7], by simp [e7, alX], by simp, true, by simp, by simp [GudI], fun j => (cnN l j : Int), by simp, fun j => by simp [tmN]⟩
    rintro N2 i t hN2 ⟨hi, e2, e7, e8, e9, e11, e12, e13, e55, e56, e57, g, e14, hg, f, wq, hf⟩
    simp [e56, e57]
    refine At.dec (fun hlt2 => ?_) (fun hlt2 => ?_)
    · have i1 := aidx_nat hXa hlt2 (k := .i64)
      have bi := hok.bd _ (List.getElem_mem hlt2)
      obtain ⟨A, hA⟩ : ∃ A, (x : Int) - l[i] = A := ⟨_, rfl⟩
      obtain ⟨B, hB⟩ : ∃ B, l[i] - (x : Int) = B := ⟨_, rfl⟩
      have w1 : IntKind.i64.wrap ((x : Int) - l[i]) = A := by rw [wrap64 (by omega) (by omega)]; exact hA
      have w2 : IntKind.i64.wrap (l[i] - (x : Int)) = B := by rw [wrap64 (by omega) (by omega)]; exact hB
      obtain ⟨d, hd⟩ : ∃ d : Nat, abI (x : Int) l[i] = (d : Int) := ⟨(abI (x : Int) l[i]).toNat, by rcases abI_c (x : Int) l[i] with ⟨u, v⟩ | ⟨u, v⟩ <;> omega⟩
      have hd61 : d < 61 := by rcases abI_c (x : Int) l[i] with ⟨u, v⟩ | ⟨u, v⟩ <;> omega
      have hmax : (if A ≤ B then B else A) = (d : Int) := by rcases abI_c (x : Int) l[i] with ⟨u, v⟩ | ⟨u, v⟩ <;> split <;> omega
      have hmax2 : (if A < B then B else A) = (d : Int) := by rcases abI_c (x : Int) l[i] with ⟨u, v⟩ | ⟨u, v⟩ <;> split <;> omega
      have hgc := gudI_c hlt2 hd
      have htm : tmN l (x : Int) i d ≤ 5000 := by
        have z1 := cnP_le l (resF l.length 0) d
        have z2 := resF_len hrl.len
        have z3 : ((l.take i).map (abI (x : Int))).count (d : Int) ≤ 6 := Nat.le_trans List.count_le_length (by simp; omega)
        have z4 : cnN l d = cnP l (resF l.length 0) d := rfl
        unfold tmN; omega
      have hf2 : ∀ j, (if j = d then f d + 1 else f j) = (tmN l (x : Int) (i + 1) j : Int) := by
        intro j
        rw [tmN_c hlt2 hd]
        by_cases hj : j = d
        · rw [if_pos hj, if_pos hj, hf]; omega
        · rw [if_neg hj, if_neg hj, hf]
      have hfd := hf d
      have wone : IntKind.i64.wrap 1 = 1 := wrap64 (by omega) (by omega)
      have hw3 : IntKind.i64.wrap (f d + 1) = f d + 1 := wrap64 (by omega) (by omega)
      clear hA hB
      cases g with
      | false =>
        have hgn : ¬ GudI l (x : Int) i := fun h => by have := hg.2 h; cases this
        simp [e7, e12, e13, e14, e55, e57, i1, w1, w2, hmax, hmax2, in_ix hd61, in_ld wq hd61, in_sc wq hd61, hw3]
        refine hN2 (i + 1) _ (by omega) ⟨by omega, by simp [e2], by simp [e7], by simp [e8], by simp [e9], by simp [e11], by simp [e12], by simp [e13], by simp [e55], by simp [e56], by simp [wrap_nat1 (show i < _ by omega)], false, by simp, ⟨fun h => (by cases h), fun h => absurd (hgc.1 h).1 hgn⟩, fun j => if j = d then f d + 1 else f j, by simp, hf2⟩
      | true =>
        have hg' : GudI l (x : Int) i := hg.1 rfl
        by_cases hd0 : 0 < d
        · by_cases ht : f d = 0
          · simp [e7, e12, e13, e14, e55, e57, i1, w1, w2, hmax, hmax2, in_ix hd61, in_ld wq hd61, in_sc wq hd61, hw3, hd0, ht]
            refine hN2 (i + 1) _ (by omega) ⟨by omega, by simp [e2], by simp [e7], by simp [e8], by simp [e9], by simp [e11], by simp [e12], by simp [e13], by simp [e55], by simp [e56], by simp [wrap_nat1 (show i < _ by omega)], true, by simp, ⟨fun _ => hgc.2 ⟨hg', hd0, by omega⟩, fun _ => rfl⟩, fun j => if j = d then f d + 1 else f j, by simp [ht, wone], hf2⟩
          · simp [e7, e12, e13, e14, e55, e57, i1, w1, w2, hmax, hmax2, in_ix hd61, in_ld wq hd61, in_sc wq hd61, hw3, hd0, ht]
            refine hN2 (i + 1) _ (by omega) ⟨by omega, by simp [e2], by simp [e7], by simp [e8], by simp [e9], by simp [e11], by simp [e12], by simp [e13], by simp [e55], by simp [e56], by simp [wrap_nat1 (show i < _ by omega)], false, by simp, ⟨fun h => (by cases h), fun h => absurd (hgc.1 h).2.2 (by omega)⟩, fun j => if j = d then f d + 1 else f j, by simp, hf2⟩
        · have hd0' : d = 0 := by omega
          have hd0i : ¬ (0 : Int) < (d : Int) := by omega
          simp [e7, e12, e13, e14, e55, e57, i1, w1, w2, hmax, hmax2, in_ix hd61, in_ld wq hd61, in_sc wq hd61, hw3, hd0, hd0i]
          refine hN2 (i + 1) _ (by omega) ⟨by omega, by simp [e2], by simp [e7], by simp [e8], by simp [e9], by simp [e11], by simp [e12], by simp [e13], by simp [e55], by simp [e56], by simp [wrap_nat1 (show i < _ by omega)], false, by simp, ⟨fun h => (by cases h), fun h => absurd (hgc.1 h).2.1 hd0⟩, fun j => if j = d then f d + 1 else f j, by simp, hf2⟩
    · have hil : i = l.length := by omega
      subst hil
      have hnd : l.Nodup := hok.asc.imp fun h => by omega
      have hgp : g = true ↔ plP l (x : Int) = true := by rw [hg, gudI_all hnd, gud_iff hok.asc hc]
      rw [plF_c (by omega)] at hD
      cases g with
      | true =>
        rw [if_pos (hgp.1 rfl)] at hD
        obtain ⟨d1, d2, d3⟩ := drop_cons hD
        have pv := aidx_nat hPa d1 (k := .i64)
        simp [e9, e11, e12, e14, alP, d1, pv, d2]
        refine hN (x + 1) _ (by omega) ⟨by omega, k + 1, by simp [e2], by simp [e7], by simp [e8], by simp [e9], by simp [wrap_nat1 (show k < _ by omega)], by simp [wrap_nat1 (show x < _ by omega)], d3, by omega⟩
      | false =>
        rw [if_neg (fun h => by have := hgp.2 h; cases this)] at hD
        by_cases hk : k < P.length
        · have pv := aidx_nat hPa hk (k := .i64)
          have pn := pl_ne hD hk
          simp [e9, e11, e12, e14, alP, hk, pv, pn]
          refine hN (x + 1) _ (by omega) ⟨by omega, k, by simp [e2], by simp [e7], by simp [e8], by simp [e9], by simp [e11], by simp [wrap_nat1 (show x < _ by omega)], hD, by omega⟩
        · simp [e9, e11, e12, e14, alP, hk]
          refine hN (x + 1) _ (by omega) ⟨by omega, k, by simp [e2], by simp [e7], by simp [e8], by simp [e9], by simp [e11], by simp [wrap_nat1 (show x < _ by omega)], hD, by omega⟩
  · rw [plF_n (by omega)] at hD
    have hkk : k = P.length := by
      have := List.drop_eq_nil_iff.1 hD; omega
    subst hkk
    by_cases hl2 : 2 < l.length
    · have hl2' : (2 : Int) < (l.length : Int) := by omega
      obtain ⟨u1, u2⟩ := era_ok hok hl2 hc iw
      simp [e2, e7, wc, alX, hlz, hlz', hmodc, hl2, hl2']
      refine reg11 (X := X) (l := l) (i := iw) hXa hiwl (by omega) u1 u2 q17 ?_ ?_ ?_
      · simp [e7]
      · simp
      rintro s' ⟨f21, f9, f11, f7⟩
      simp at f9 f11
      simp [f21, f9, f11, e9, e11, alP, k16]
    · have hl2' : ¬ (2 : Int) < (l.length : Int) := by omega
      simp [e2, e7, e9, e11, wc, alX, alP, hlz, hlz', hmodc, hl2, hl2', k16]
theorem added_typed (xs : List AV) (h : Typed [.sl (.int .u8), .int .u8, .int .u8] xs) : PCall Try.prog 11 xs (.bool true) := by
  obtain ⟨x, y, z, rfl, h1, h2, h3⟩ := h.three
  obtain ⟨l, hl⟩ := IsU8.of h1
  obtain ⟨a, rfl, ha⟩ := shv_int h2
  obtain ⟨b, rfl, hb⟩ := shv_int h3
  obtain ⟨a0, a1⟩ := u8_bd ha
  obtain ⟨b0, b1⟩ := u8_bd hb
  exact p11 hl a0 a1 b0 b1
end Go.Proofs.Ytokfmcjepkepjaa
