/-
  More operations on abstract values: lengths, slices, appends, literals, arithmetic. Own work; over any program.
-/
import Derived.Test.YtnmpdegnpaggkaaFwD
set_option linter.unusedVariables false
set_option linter.unusedSimpArgs false
namespace Fw
open Go

theorem sound_len {P : Program} {t ty : TypeId} {d : TypeDesc} (hd : P.underlying t = some d) (hk : (match d with | .slice _ => true | .string => true | _ => false) = true)
    {c : CM} {s : HS} {w : World} (h : Inv c s w) {v : Value} {p x : AV} (hp : Rep c v p) (hx : alen p = some x)
    (hm : (match d, p with | .slice _, .str _ => false | .string, .sl _ _ _ => false | .string, .nilsl => false | _, _ => true) = true) : DoneS P c w (Builtin.len_ #[t] ty #[v]) x s := by
  cases d <;> simp at hk <;> cases hp <;> simp only [alen] at hx <;> (try (cases hx; done)) <;> (try (simp at hm; done)) <;> (injection hx with hx; subst hx)
  all_goals
    refine .pure h ?_ (.int .i64 _)
    simp [Builtin.len_, run_underlying hd, goInt]

/-! slices of slices -/
def aidx : Option AV → Option (Option Int)
  | none => some none
  | some (.int _ n) => some (some n)
  | _ => none
def asliceL (sz : Nat) (xs : List AV) (cp : Cap) : Option Int → Option Int → Option Int → Option AV
  | none, none, none => some (.sl sz xs cp)
  | some l, none, none => if 0 ≤ l ∧ l ≤ xs.length then some (.sl sz (xs.drop l.toNat) cp) else none
  | none, some n, none => if 0 ≤ n ∧ n ≤ xs.length then some (.sl sz (xs.take n.toNat) .shared) else none
  | some l, some n, none => if 0 ≤ l ∧ l ≤ n ∧ n ≤ xs.length then some (.sl sz ((xs.take n.toNat).drop l.toNat) .shared) else none
  | none, some n, some m => if 0 ≤ n ∧ n ≤ xs.length ∧ m = n then some (.sl sz (xs.take n.toNat) .exact) else none
  | some l, some n, some m => if 0 ≤ l ∧ l ≤ n ∧ n ≤ xs.length ∧ m = n then some (.sl sz ((xs.take n.toNat).drop l.toNat) .exact) else none
  | none, none, some _ => none
  | some _, none, some _ => none
def asliceN : Option Int → Option Int → Option Int → Option AV
  | none, none, none => some .nilsl
  | some l, none, none => if l = 0 then some .nilsl else none
  | none, some n, none => if n = 0 then some .nilsl else none
  | some l, some n, none => if l = 0 ∧ n = 0 then some .nilsl else none
  | none, some n, some m => if n = 0 ∧ m = 0 then some .nilsl else none
  | some l, some n, some m => if l = 0 ∧ n = 0 ∧ m = 0 then some .nilsl else none
  | none, none, some _ => none
  | some _, none, some _ => none
def aslice (sz : Nat) (p : AV) (lo hi mx : Option AV) : Option AV :=
  match aidx lo, aidx hi, aidx mx with
  | some l, some h, some m =>
    match p with
    | .sl sz' xs cp => if sz' = sz then asliceL sz xs cp l h m else none
    | .nilsl => asliceN l h m
    | _ => none
  | _, _, _ => none

theorem CapOk.le {c : CM} {b o len sz cap : Nat} {cp : Cap} (h : CapOk c b o len sz cap cp) : len ≤ cap := by
  cases cp with
  | exact => exact Nat.le_of_eq h.symm
  | shared => exact h
  | own k => exact h.1

/-- the slice of xs from l on, up to n, reads so: at whatever address where nothing is left -/
theorem Rep.slice {c : CM} {b o cap sz : Nat} {xs : List AV} {cp : Cap} {vs : List Value} (hl : vs.length = (flat xs).length)
    (hz : ∀ x ∈ xs, x.cells.length = sz) (hc : ∀ (j : Nat) (v : Value), vs[j]? = some v → c.cl b (o + j) = .imm v)
    (h : ∀ (j : Nat) (v : Value) (y : AV), vs[j]? = some v → (flat xs)[j]? = some y → Rep c v y)
    (lf : ∀ (j : Nat) (y : AV), (flat xs)[j]? = some y → y.leaf = true) (hcap : CapOk c b o xs.length sz cap cp)
    {l n m : Nat} (h1 : l ≤ n) (h2 : n ≤ xs.length) (hnm : n ≤ m) (hm : m ≤ cap) (cp' : Cap)
    (hcp : cp' = .shared ∨ (cp' = .exact ∧ m = n) ∨ (cp' = cp ∧ n = xs.length ∧ m = cap)) :
    Rep c (.slice (if m = l then some ⟨b, o, none⟩ else some (Addr.add ⟨b, o, none⟩ (l * sz))) (n - l) (m - l)) (.sl sz ((xs.take n).drop l) cp') := by
  have hlen : ((xs.take n).drop l).length = n - l := by simp [Nat.min_eq_left h2]
  have hz' : ∀ x ∈ (xs.take n).drop l, x.cells.length = sz := fun x hx => hz x (List.mem_of_mem_take (List.mem_of_mem_drop hx))
  have hfl : flat ((xs.take n).drop l) = ((flat xs).take (n * sz)).drop (l * sz) := by
    rw [flat_drop (fun x hx => hz x (List.mem_of_mem_take hx)), flat_take hz]
  have hr : RepL c ((vs.take (n * sz)).drop (l * sz)) (flat ((xs.take n).drop l)) := by
    rw [hfl]; exact (RepL.take (c := c) (vs := vs) (xs := flat xs) ⟨hl, h⟩ _).drop _
  have hlf : ∀ (j : Nat) (y : AV), (flat ((xs.take n).drop l))[j]? = some y → y.leaf = true := by
    intro j y hy
    rw [hfl, List.getElem?_drop, List.getElem?_take] at hy
    split at hy
    · exact lf _ _ hy
    · cases hy
  by_cases hml : m = l
  · have hn : n = l := by omega
    subst hml; subst hn
    have hemp : (xs.take n).drop n = [] := by simp
    rw [hemp]
    simp only [if_true, Nat.sub_self]
    have := Rep.sl (c := c) b o 0 sz [] cp' [] rfl (by simp) (by simp) (by simp) (by simp [flat]) (by
      rcases hcp with rfl | ⟨rfl, _⟩ | ⟨rfl, e, e'⟩
      · exact Nat.le_refl _
      · rfl
      · cases cp' with
        | exact => rfl
        | shared => exact Nat.le_refl _
        | own k =>
          obtain ⟨_, hk, _⟩ := hcap
          exact ⟨Nat.le_refl _, hk, fun _ j _ hj => by simp at hj⟩)
    exact this
  · rw [if_neg hml, Addr.add_lit]
    have := Rep.sl (c := c) b (o + l * sz) (m - l) sz ((xs.take n).drop l) cp' ((vs.take (n * sz)).drop (l * sz)) hr.1 hz' (fun j v hj => by
        rw [List.getElem?_drop, List.getElem?_take] at hj
        split at hj
        · rw [Nat.add_assoc]; exact hc _ _ hj
        · cases hj) hr.2 hlf (by
      rw [hlen]
      rcases hcp with rfl | ⟨rfl, e⟩ | ⟨rfl, e, e'⟩
      · show n - l ≤ m - l; omega
      · show m - l = n - l; omega
      · cases cp' with
        | exact =>
          have : cap = xs.length := hcap
          show m - l = n - l; omega
        | shared => show n - l ≤ m - l; omega
        | own k =>
          obtain ⟨h0, hk, hreg⟩ := hcap
          refine ⟨by omega, hk, fun hv j hj hj' => ?_⟩
          have hn : n * sz = (n - l) * sz + l * sz := by rw [← Nat.add_mul, Nat.sub_add_cancel h1]
          have hm' : m * sz = (m - l) * sz + l * sz := by rw [← Nat.add_mul, Nat.sub_add_cancel (by omega)]
          have := hreg hv (l * sz + j) (by rw [← e]; omega) (by rw [← e']; omega)
          rw [← Nat.add_assoc] at this; exact this)
    rw [hlen] at this
    exact this

def optRep (c : CM) : Option Value → Option AV → Prop
  | none, none => True
  | some v, some x => Rep c v x
  | _, _ => False

theorem aidx_inv {c : CM} {v : Option Value} {x : Option AV} (h : optRep c v x) {l : Option Int} (hl : aidx x = some l) : (v = none ∧ l = none) ∨ ∃ k n, v = some (.int k n) ∧ l = some n := by
  cases v <;> cases x <;> simp only [optRep] at h
  · simp only [aidx] at hl; injection hl with hl; exact .inl ⟨rfl, hl.symm⟩
  · right
    cases h <;> simp only [aidx] at hl <;> (try (cases hl; done))
    injection hl with hl
    exact ⟨_, _, rfl, hl.symm⟩

theorem sound_slice {P : Program} {t e : TypeId} {i : TypeInfo} (hd : P.underlying t = some (.slice e)) (hi : P.info? e = some i)
    {c : CM} {s : HS} {w : World} (h : Inv c s w) {v : Value} {p x : AV} (hp : Rep c v p) {lo hi' mx : Option Value} {alo ahi amx : Option AV} (hlo : optRep c lo alo) (hhi : optRep c hi' ahi) (hmx : optRep c mx amx)
    (hx : aslice i.size p alo ahi amx = some x) : DoneS P c w (Instr.sliceAt t v lo hi' mx) x s := by
  have hde : P.underlying t = some (.slice (P.elem t)) := by simp [Program.elem, hd]
  have hel : P.elem t = e := by simp [Program.elem, hd]
  have hsz : ∀ w, (Go.sizeOf (P.elem t)).run P w = .ok i.size w := fun w => by rw [hel]; simp [Go.sizeOf, typeInfo, hi]
  unfold aslice at hx
  cases e1 : aidx alo with
  | none => simp [e1] at hx
  | some l =>
  cases e2 : aidx ahi with
  | none => simp [e1, e2] at hx
  | some n =>
  cases e3 : aidx amx with
  | none => simp [e1, e2, e3] at hx
  | some m =>
  simp only [e1, e2, e3] at hx
  cases hp <;> simp only at hx <;> (try (cases hx; done))
  case nilsl =>
    rcases aidx_inv hlo e1 with ⟨rfl, rfl⟩ | ⟨k1, l, rfl, rfl⟩ <;> rcases aidx_inv hhi e2 with ⟨rfl, rfl⟩ | ⟨k2, n, rfl, rfl⟩ <;> rcases aidx_inv hmx e3 with ⟨rfl, rfl⟩ | ⟨k3, m, rfl, rfl⟩ <;> simp only [asliceN] at hx <;> (try (cases hx; done))
    all_goals
      refine .pure h (v := .slice none 0 0) ?_ ?_ <;> (try split at hx) <;> (try (cases hx; done)) <;> (try (injection hx with hx; subst hx; exact .nilsl))
    all_goals (rw [run_sliceAt_slice w t _ _ _ _ hde])
    all_goals simp_all [Instr.slice, run_underlying hde, Instr.sliceBounds, Instr.sliceBound, asIntOf, hsz]
  case sl b o cap sz xs cp vs hl hz hc hr lf hcap =>
    have hle := hcap.le
    split at hx <;> (try (cases hx; done))
    rename_i hszz
    subst hszz
    rcases aidx_inv hlo e1 with ⟨rfl, rfl⟩ | ⟨k1, l, rfl, rfl⟩ <;> rcases aidx_inv hhi e2 with ⟨rfl, rfl⟩ | ⟨k2, n, rfl, rfl⟩ <;> rcases aidx_inv hmx e3 with ⟨rfl, rfl⟩ | ⟨k3, m, rfl, rfl⟩ <;> simp only [asliceL] at hx <;> (try (cases hx; done))
    · injection hx with hx; subst hx
      refine .pure h (by rw [run_sliceAt_slice w t _ _ _ _ hde, run_slice_all w t _ _ _ hde, hsz]; rfl) ?_
      have := Rep.slice (l := 0) (n := xs.length) (m := cap) hl hz hc hr lf hcap (Nat.zero_le _) (Nat.le_refl _) hle (Nat.le_refl _) cp (.inr (.inr ⟨rfl, rfl, rfl⟩))
      simpa [sliced] using this
    · split at hx <;> (try (cases hx; done))
      rename_i hcond
      injection hx with hx; subst hx
      refine .pure h (by rw [run_sliceAt_slice w t _ _ _ _ hde, run_slice_h w t _ _ _ hde k2 n hcond.1 (by omega), hsz]; rfl) ?_
      have := Rep.slice (l := 0) (n := n.toNat) (m := cap) hl hz hc hr lf hcap (Nat.zero_le _) (by omega) (by omega) (Nat.le_refl _) .shared (.inl rfl)
      simpa [sliced] using this
    · split at hx <;> (try (cases hx; done))
      rename_i hcond
      obtain ⟨c1, c3, rfl⟩ := hcond
      injection hx with hx; subst hx
      refine .pure h (by rw [run_sliceAt_slice w t _ _ _ _ hde, run_slice_hm w t _ _ _ hde k2 k3 m m c1 (Int.le_refl _) (by omega), hsz]; rfl) ?_
      have := Rep.slice (l := 0) (n := m.toNat) (m := m.toNat) hl hz hc hr lf hcap (Nat.zero_le _) (by omega) (by omega) (by omega) .exact (.inr (.inl ⟨rfl, rfl⟩))
      simpa [sliced] using this
    · split at hx <;> (try (cases hx; done))
      rename_i hcond
      injection hx with hx; subst hx
      refine .pure h (by rw [run_sliceAt_slice w t _ _ _ _ hde, run_slice_l w t _ _ _ hde k1 l hcond.1 hcond.2, hsz]; rfl) ?_
      have := Rep.slice (l := l.toNat) (n := xs.length) (m := cap) hl hz hc hr lf hcap (by omega) (Nat.le_refl _) hle (Nat.le_refl _) cp (.inr (.inr ⟨rfl, rfl, rfl⟩))
      simpa [sliced] using this
    · split at hx <;> (try (cases hx; done))
      rename_i hcond
      injection hx with hx; subst hx
      refine .pure h (by rw [run_sliceAt_slice w t _ _ _ _ hde, run_slice_lh w t _ _ _ hde k1 k2 l n hcond.1 hcond.2.1 (by omega), hsz]; rfl) ?_
      have := Rep.slice (l := l.toNat) (n := n.toNat) (m := cap) hl hz hc hr lf hcap (by omega) (by omega) (by omega) (Nat.le_refl _) .shared (.inl rfl)
      simpa [sliced] using this
    · split at hx <;> (try (cases hx; done))
      rename_i hcond
      obtain ⟨c0, c1, c2, rfl⟩ := hcond
      injection hx with hx; subst hx
      refine .pure h (by rw [run_sliceAt_slice w t _ _ _ _ hde, run_slice_lhm w t _ _ _ hde k1 k2 k3 l m m c0 c1 (Int.le_refl _) (by omega), hsz]; rfl) ?_
      have := Rep.slice (l := l.toNat) (n := m.toNat) (m := m.toNat) hl hz hc hr lf hcap (by omega) (by omega) (by omega) (by omega) .exact (.inr (.inl ⟨rfl, rfl⟩))
      simpa [sliced] using this

/-! append -/
def aelems : AV → Option (List AV)
  | .nilsl => some []
  | .sl _ xs _ => some xs
  | _ => none
def aszOk (sz : Nat) : AV → Bool
  | .sl sz' _ _ => sz' = sz
  | _ => true

/-- what append gives: the slice, and the memory's bookkeeping -/
def aappend (sz : Nat) (s : HS) (p q : AV) : Option (AV × HS) :=
  match aelems p, aelems q with
  | some xs, some ys =>
    if aszOk sz p = true ∧ aszOk sz q = true ∧ xs.length + ys.length ≤ 1073741824 then
      if ys = [] then some (p, s)
      else match p with
        | .nilsl => some (.sl sz ys (.own s.nt), { s with nt := s.nt + 1, tok := fun t => if t = s.nt then true else s.tok t })
        | .sl _ _ .exact => some (.sl sz (xs ++ ys) (.own s.nt), { s with nt := s.nt + 1, tok := fun t => if t = s.nt then true else s.tok t })
        | .sl _ _ (.own k) => if s.tok k = true then some (.sl sz (xs ++ ys) (.own s.nt), { s with nt := s.nt + 1, tok := fun t => if t = s.nt then true else if t = k then false else s.tok t }) else none
        | _ => none
    else none
  | _, _ => none
end Fw
