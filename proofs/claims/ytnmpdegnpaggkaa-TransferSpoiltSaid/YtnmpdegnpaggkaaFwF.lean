/-
  Append on abstract slices. Own work; over any program.
-/
import Derived.Test.YtnmpdegnpaggkaaFwE
set_option linter.unusedVariables false
set_option linter.unusedSimpArgs false
namespace Fw
open Go

/-- a new row: a slice's cells, and spare cells that a new token owns -/
theorem Inv.newTok {c : CM} {s : HS} {w : World} (h : Inv c s w) (e : TypeId) {vs : List Value} {xs : List AV} {sz cap : Nat} (rest : Array Value)
    (hr : RepL c vs (flat xs)) (hz : ∀ x ∈ xs, x.cells.length = sz) (lf : ∀ (j : Nat) (y : AV), (flat xs)[j]? = some y → y.leaf = true)
    (hcap : xs.length ≤ cap) (hrest : rest.size = (cap - xs.length) * sz) (tk : Nat → Bool) (htk : ∀ t, tk t = true → t = s.nt ∨ s.tok t = true) :
    ∃ c', Inv c' { s with nt := s.nt + 1, tok := fun t => if t = s.nt then true else tk t } (w.alloc (.cells (vs.toArray ++ rest) e)) ∧ Fr c w c' (w.alloc (.cells (vs.toArray ++ rest) e)) ∧
      Rep c' (.slice (some ⟨w.heap.size, 0, none⟩) xs.length cap) (.sl sz xs (.own s.nt)) := by
  let g : Nat → Cl := fun o => match vs[o]? with | some v => .imm v | none => if o < vs.length + rest.size then .tok s.nt else .no
  let c' : CM := { c with cl := c.at w.heap.size g, nt := c.nt + 1, val := fun t => if t = s.nt then true else tk t }
  have hle : c.le c' := CM.le_at h c' g rfl (Nat.le_refl _) (fun _ _ => rfl) (by simp [c']) (fun k hk hv => by
    simp only [c'] at hv
    split at hv
    · rename_i e'; rw [h.nt] at e'; omega
    · rcases htk k hv with e' | e'
      · rename_i hne; exact absurd e' hne
      · rw [h.tokv] at e'; exact e')
  obtain ⟨h1, h2⟩ := h.newBlock (vs.toArray ++ rest) e c' { s with nt := s.nt + 1, tok := fun t => if t = s.nt then true else tk t } g rfl hle h.nh (by simp [c', h.nt]) (fun _ => rfl) (by
      intro t ht
      simp only [c'] at ht ⊢
      split at ht
      · rename_i e'; rw [e', h.nt]; omega
      · rcases htk t ht with e' | e'
        · rename_i hne; exact absurd e' hne
        · rw [h.tokv] at e'; have := h.vlt t e'; omega) (by
      intro o v hg
      simp only [g] at hg
      split at hg
      · rename_i u hu
        injection hg with hg; subst hg
        have ho : o < vs.length := by
          rcases Nat.lt_or_ge o vs.length with h' | h'
          · exact h'
          · simp [List.getElem?_eq_none h'] at hu
        rw [Array.getElem?_append_left (by simpa using ho)]
        simpa using hu
      · split at hg <;> cases hg) (by
      intro o k hg
      simp only [g] at hg
      split at hg
      · cases hg
      · split at hg
        · rename_i hlt; simpa using hlt
        · cases hg) (fun i ys hi => .inl hi)
  refine ⟨c', h1, h2, ?_⟩
  refine Rep.sl w.heap.size 0 cap sz xs (.own s.nt) vs hr.1 hz (fun j v hj => ?_) (fun j v y a b => (hr.2 j v y a b).mono hle) lf ⟨hcap, by simp [c', h.nt], fun _ j hj hj' => ?_⟩
  · simp only [c', CM.at_eq, g, Nat.zero_add, hj]
  · have hfl := flat_length hz
    have hvl := hr.1
    have : vs[j]? = none := List.getElem?_eq_none (by omega)
    have h3 : cap * sz = (cap - xs.length) * sz + xs.length * sz := by rw [← Nat.add_mul, Nat.sub_add_cancel hcap]
    simp only [c', CM.at_eq, g, Nat.zero_add, this]
    rw [if_pos (by omega)]

theorem aelems_inv {c : CM} {v : Value} {p : AV} (hp : Rep c v p) {xs : List AV} (hx : aelems p = some xs) :
    (v = .slice none 0 0 ∧ p = .nilsl ∧ xs = []) ∨ ∃ b o cap sz cp vs, v = .slice (some ⟨b, o, none⟩) xs.length cap ∧ p = .sl sz xs cp ∧ vs.length = (flat xs).length ∧
      (∀ x ∈ xs, x.cells.length = sz) ∧ (∀ (j : Nat) (v : Value), vs[j]? = some v → c.cl b (o + j) = .imm v) ∧ RepL c vs (flat xs) ∧
      (∀ (j : Nat) (y : AV), (flat xs)[j]? = some y → y.leaf = true) ∧ CapOk c b o xs.length sz cap cp := by
  cases hp <;> simp only [aelems] at hx <;> (try (cases hx; done))
  case nilsl => injection hx with hx; exact .inl ⟨rfl, rfl, hx.symm⟩
  case sl b o cap sz xs' cp vs hl hz hc hr lf hcap =>
    injection hx with hx; subst hx
    exact .inr ⟨b, o, cap, sz, cp, vs, rfl, rfl, hl, hz, hc, ⟨hl, hr⟩, lf, hcap⟩

theorem flat_nil_of {xs : List AV} : xs = [] → flat xs = [] := fun h => by rw [h]; rfl

theorem run_append_none {P : Program} {t ty e : TypeId} {i : TypeInfo} (ht : P.underlying t = some (.slice e)) (hi : P.info? e = some i) (w : World) (b : Option Addr) (n cap : Nat) (hn : n ≤ cap) (b' : Option Addr) (cap' : Nat) :
    (Builtin.append_ #[t, t] ty #[.slice b n cap, .slice b' 0 cap']).run P w = .ok (.slice b n cap) w := by
  cases b <;> cases b' <;> simp [Builtin.append_, run_underlying ht, Go.sizeOf, typeInfo, hi, Builtin.lenOf, hn, Builtin.firstCells, loadCells, loadCellsFrom, storeCells]

theorem sound_append {P : Program} {t ty e : TypeId} {i : TypeInfo} {z : Value} (ht : P.underlying t = some (.slice e)) (hi : P.info? e = some i) (hz0 : i.zero = some z) (hzs : z.cells.size = i.size) (hby : i.bytes ≤ 65536) (hbz : i.bytes ≠ 0)
    {c : CM} {s : HS} {w : World} (h : Inv c s w) {v u : Value} {p q x : AV} (hp : Rep c v p) (hq : Rep c u q) {s' : HS} (hx : aappend i.size s p q = some (x, s')) :
    DoneS P c w (Builtin.append_ #[t, t] ty #[v, u]) x s' := by
  unfold aappend at hx
  cases ep : aelems p with
  | none => simp [ep] at hx
  | some xs =>
  cases eq : aelems q with
  | none => simp [ep, eq] at hx
  | some ys =>
  simp only [ep, eq] at hx
  split at hx <;> (try (cases hx; done))
  rename_i hcond
  obtain ⟨hs1, hs2, hlen⟩ := hcond
  split at hx
  · rename_i hys
    subst hys
    injection hx with hx
    injection hx with hx1 hx2; subst hx1; subst hx2
    refine .pure h ?_ hp
    rcases aelems_inv hq eq with ⟨rfl, rfl, _⟩ | ⟨b', o', cap', sz', cp', vs', rfl, _⟩ <;>
    rcases aelems_inv hp ep with ⟨rfl, rfl, _⟩ | ⟨b, o, cap, sz, cp, vs, rfl, _, _, _, _, _, _, hcap⟩
    · exact run_append_none ht hi w _ _ _ (Nat.le_refl _) _ _
    · exact run_append_none ht hi w _ _ _ hcap.le _ _
    · exact run_append_none ht hi w _ _ _ (Nat.le_refl _) _ _
    · exact run_append_none ht hi w _ _ _ hcap.le _ _
  · rename_i hys
    rcases aelems_inv hq eq with ⟨rfl, rfl, rfl⟩ | ⟨b', o', cap', sz', cp', vs', rfl, rfl, hl', hz', hc', hr', lf', hcap'⟩
    · exact absurd rfl hys
    have hsz' : sz' = i.size := by simpa [aszOk] using hs2
    subst hsz'
    have hy0 : 0 < ys.length := List.length_pos_iff.2 hys
    have hnews : ∀ w1, Fr c w c w1 → ∀ (j : Nat) (u : Value), vs'[j]? = some u → w1.cell? ((⟨b', o', none⟩ : Addr).add j) = some u := fun w1 hf j u hj => by
      rw [Addr.add_lit]
      exact hf.cell (by rw [hc' j u hj]; rfl) (h.imm _ _ _ (hc' j u hj))
    have hvl' : vs'.length = ys.length * i.size := by rw [hl', flat_length hz']
    have hfits : ∀ need old, old < need → need ≤ 1073741824 → Builtin.nextslicecap need old * i.bytes ≤ 281474976710656 := by
      intro need old h1 h2
      refine growslice_fits h1 ?_
      have : need * i.bytes ≤ 1073741824 * 65536 := Nat.mul_le_mul h2 hby
      omega
    rcases aelems_inv hp ep with ⟨rfl, rfl, rfl⟩ | ⟨b, o, cap, sz, cp, vs, rfl, rfl, hl, hz, hc, hr, lf, hcap⟩
    · simp only at hx
      injection hx with hx
      injection hx with hx1 hx2; subst hx1; subst hx2
      simp only [List.length_nil, Nat.zero_add] at hlen
      have hge := grownCap_ge w ys.length 0 e
      have hrun := run_append_nil (P := P) w t ty e i z ht hi hz0 ⟨b', o', none⟩ ys.length cap' vs' hvl' (hnews w (.refl _ _)) hy0 (by omega) (by
        have := hfits ys.length 0 hy0 hlen
        rw [nextslicecap_zero hy0] at this; exact this)
      obtain ⟨c', h1, h2, h3⟩ := (h.drew).newTok e (cap := grownCap w ys.length 0 e) (Builtin.zeroCells z.cells (grownCap w ys.length 0 e - ys.length)) hr' hz' lf' hge (by rw [size_zeroCells, hzs]) s.tok (fun t ht => .inr ht)
      refine ⟨_, _, c', hrun, h3, h1, ((Fr.refl c w).drew).trans h2⟩
    · have hsz : sz = i.size := by simpa [aszOk] using hs1
      subst hsz
      have hvl : vs.length = xs.length * i.size := by rw [hl, flat_length hz]
      have holds : ∀ (j : Nat) (u : Value), vs[j]? = some u → w.cell? ((⟨b, o, none⟩ : Addr).add j) = some u := fun j u hj => by
        rw [Addr.add_lit]; exact h.imm _ _ _ (hc j u hj)
      have hrr : RepL c (vs ++ vs') (flat (xs ++ ys)) := by rw [flat_append]; exact hr.append hr'
      have hzz : ∀ x ∈ xs ++ ys, x.cells.length = i.size := by
        intro x hx
        rcases List.mem_append.1 hx with hx | hx
        · exact hz x hx
        · exact hz' x hx
      have hlf : ∀ (j : Nat) (y : AV), (flat (xs ++ ys))[j]? = some y → y.leaf = true := by
        intro j y hy
        rw [flat_append, List.getElem?_append] at hy
        split at hy
        · exact lf _ _ hy
        · exact lf' _ _ hy
      have grow : cap < xs.length + ys.length → ∀ tk : Nat → Bool, (∀ t, tk t = true → t = s.nt ∨ s.tok t = true) →
          DoneS P c w (Builtin.append_ #[t, t] ty #[.slice (some ⟨b, o, none⟩) xs.length cap, .slice (some ⟨b', o', none⟩) ys.length cap']) (.sl i.size (xs ++ ys) (.own s.nt)) { s with nt := s.nt + 1, tok := fun t => if t = s.nt then true else tk t } := by
        intro hgrow tk htk
        have hge := grownCap_ge w (xs.length + ys.length) cap e
        have hrun := run_append_grow (P := P) w t ty e i z ht hi hz0 ⟨b, o, none⟩ xs.length cap vs hvl holds ⟨b', o', none⟩ ys.length cap' vs' hvl' (hnews w (.refl _ _)) hgrow (by omega) (hfits _ _ hgrow hlen)
        obtain ⟨c', h1, h2, h3⟩ := (h.drew).newTok e (cap := grownCap w (xs.length + ys.length) cap e) (Builtin.zeroCells z.cells (grownCap w (xs.length + ys.length) cap e - (xs.length + ys.length))) hrr hzz hlf (by simpa using hge) (by rw [size_zeroCells, hzs]; simp) tk htk
        refine ⟨_, _, c', hrun, ?_, ?_, ?_⟩
        · simpa using h3
        · simpa using h1
        · simpa using ((Fr.refl c w).drew).trans h2
      cases cp with
      | shared => simp only at hx; cases hx
      | exact =>
        simp only at hx
        injection hx with hx
        injection hx with hx1 hx2; subst hx1; subst hx2
        have hce : cap = xs.length := hcap
        exact grow (by omega) s.tok (fun t ht => .inr ht)
      | own k =>
        simp only at hx
        split at hx <;> (try (cases hx; done))
        rename_i hk
        injection hx with hx
        injection hx with hx1 hx2; subst hx1; subst hx2
        obtain ⟨hc0, hc1, hc2⟩ := hcap
        by_cases hgrow : cap < xs.length + ys.length
        · exact grow hgrow (fun t => if t = k then false else s.tok t) (fun t ht => by
            have ht' : (if t = k then false else s.tok t) = true := ht
            split at ht'
            · cases ht'
            · exact .inr ht')
        · have hval : c.val k = true := by rw [← h.tokv]; exact hk
          have hm1 : cap * i.size = (cap - xs.length) * i.size + xs.length * i.size := by rw [← Nat.add_mul, Nat.sub_add_cancel hc0]
          have hm2 : (xs.length + ys.length) * i.size ≤ cap * i.size := Nat.mul_le_mul_right _ (by omega)
          rw [Nat.add_mul] at hm2
          have hreg : ∀ x, o + xs.length * i.size ≤ x → x < o + cap * i.size → c.cl b x = .tok k := by
            intro x h1 h2
            have := hc2 hval (x - o) (by omega) (by omega)
            rw [show o + (x - o) = x by omega] at this; exact this
          obtain ⟨c', h1, h2, h3, h4, h5, h6⟩ := h.appendIn b (o + xs.length * i.size) (o + cap * i.size) k hval hreg vs' (by omega)
          have hf := run_firstCells_some (P := P) w i.size ys.length ⟨b', o', none⟩ ys.length cap' vs' hvl' (hnews w (.refl _ _))
          have hst := run_storeCells (P := P) b vs' (o + xs.length * i.size) 0 w (fun j hj => by
            have := h.toks b (o + xs.length * i.size + j) k (hreg _ (by omega) (by omega))
            simpa using this) (hr'.oneCell lf')
          refine ⟨.slice (some ⟨b, o, none⟩) (xs.length + ys.length) cap, _, c', ?_, ?_, h1, h2⟩
          · simp [Builtin.append_, run_underlying ht, Go.sizeOf, typeInfo, hi, Builtin.lenOf, Nat.not_lt.1 hgrow, hf, Addr.add_lit, hst]
          · have := Rep.sl (c := c') b o cap i.size (xs ++ ys) (.own s.nt) (vs ++ vs') (hrr.1) hzz (fun j v hj => by
                rw [List.getElem?_append] at hj
                split at hj
                · exact h2.le.imm _ _ _ (hc j v hj)
                · have := h3 _ _ hj
                  rw [← hvl, show o + vs.length + (j - vs.length) = o + j by omega] at this
                  exact this) (hrr.mono h2.le).2 hlf ⟨by simp; omega, by rw [h5]; omega, fun _ j hj hj' => by
                refine h4 (o + j) ?_ (by omega)
                simp only [List.length_append, Nat.add_mul] at hj
                omega⟩
            rw [List.length_append] at this
            exact this
end Fw
