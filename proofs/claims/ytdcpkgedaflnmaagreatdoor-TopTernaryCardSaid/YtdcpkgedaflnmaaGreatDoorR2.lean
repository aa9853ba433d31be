/-
  The stores at the root's return, whatever their order. Own work.
  The root of a border: a walk of the kit's make. Own work.
  The root of a border, by value, and the periods. Own work.
-/
import Derived.Test.YtdcpkgedaflnmaaGreatDoorR1
import Derived.Test.YtdcpkgedaflnmaaGreatDoorFx5
import Derived.Test.YtdcpkgedaflnmaaGreatDoorFx4
set_option linter.unusedVariables false
set_option linter.unusedSimpArgs false
namespace Go.Proofs.YtdcpkgedaflnmaaGreatDoor.Rp
open Go Fw Go.RowKit Go.Shelf

/-- whatever lay below a block lies as it lay -/
structure Bl (n : Nat) (w w' : World) : Prop where
  os : w'.os = w.os
  out : w'.output = w.output
  size : w.heap.size ≤ w'.heap.size
  block : ∀ k, k < n → w'.heap[k]? = w.heap[k]?
theorem Bl.of {n : Nat} {w w' : World} (h : Below n w w') : Bl n w w' := ⟨h.os, h.output, h.size, h.block⟩
theorem Bl.trans {n : Nat} {a b c : World} (h : Bl n a b) (k : Bl n b c) : Bl n a c := ⟨k.os.trans h.os, k.out.trans h.out, Nat.le_trans h.size k.size, fun i hi => (k.block i hi).trans (h.block i hi)⟩
def xs7 : List AI := [⟨some 20, none, .load false 1 (.t 1)⟩, ⟨some 21, none, .mv (.t 6)⟩, ⟨some 22, none, .mem (.ssl false true) [.t 20, .t 21]⟩, ⟨some 23, none, .load false 1 (.t 1)⟩, ⟨some 24, none, .len true (.t 23)⟩, ⟨some 25, none, .mv (.t 6)⟩, ⟨some 26, none, .bin 0 .quo (.t 24) (.t 25)⟩,
  ⟨none, none, .store 1 (.t 2) (.t 22)⟩, ⟨none, none, .store 1 (.t 3) (.t 26)⟩, ⟨none, none, .store 1 (.t 4) (.c (.int .i64 0))⟩]
def ds7 : List (List Nat) := [[], [], [0, 1], [], [3], [], [4, 5], [2, 0, 1, 2], [6, 7, 0, 1, 2, 3, 4, 5, 6, 7], [8, 0, 1, 2, 3, 4, 5, 6, 7, 8]]
def cm7 (l : List UInt8) (N bc : Nat) : CM where
  cl := fun b o => if o = 0 then (if b = N then .imm (.string (bs l)) else if b = bc then .imm (.string (bs l)) else if b = N + 1 then .blk 0 0 else if b = N + 1 + 1 then .blk 1 0 else if b = N + 1 + 1 + 1 then .blk 2 0 else .no) else .no
  loc := fun i => (N + 1 + i, 0)
  nh := 3
  nt := 0
  val := fun _ => false
def hs7 : HS := ⟨fun i => if i = 0 then some [.str (bs [])] else if i = 1 then some [.int .i64 0] else if i = 2 then some [.int .i64 0] else none, 3, 0, fun _ => false, fun _ => none⟩
theorem inv7 {l : List UInt8} {W : World} {N bc : Nat} (y1 : Boxed W N 9 (.string (bs l))) (y2 : Boxed W (N + 1) 9 (.string { data := #[] })) (y3 : Boxed W (N + 1 + 1) 3 (.int .i64 0)) (y4 : Boxed W (N + 1 + 1 + 1) 25 (.int .i64 0)) (yc : Boxed W bc 9 (.string (bs l))) (hbc : N + 1 + 1 + 1 < bc) : Inv (cm7 l N bc) hs7 W := by
  refine ⟨rfl, rfl, fun _ => rfl, fun k h => (by cases h), fun b o v e => ?_, fun b o k e => ?_, fun i ys e => ?_, fun b o e => ?_, fun i ps e => (by cases e)⟩
  · simp only [cm7] at e
    split at e <;> (try (cases e; done))
    rename_i ho
    subst ho
    split at e
    · rename_i hb; subst hb; injection e with e; subst e; exact y1.cell
    · split at e
      · rename_i hb; subst hb; injection e with e; subst e; exact yc.cell
      · repeat' (split at e)
        all_goals cases e
  · simp only [cm7] at e
    repeat' (split at e)
    all_goals cases e
  · have one : ∀ (j i : Nat) (y : AV), [y][j]? = some y → j = 0 := fun j i y h => by cases j with
      | zero => rfl
      | succ j => simp at h
    simp only [hs7] at e
    have hz : ∀ (i : Nat) (t : TypeId) (v : Value) (z : AV), i < 3 → Boxed W (N + 1 + i) t v → z.leaf = true → Rep (cm7 l N bc) v z → i < (cm7 l N bc).nh ∧ ∀ (j : Nat) (y : AV), [z][j]? = some y → y.leaf = true ∧ (cm7 l N bc).cl ((cm7 l N bc).loc i).1 (((cm7 l N bc).loc i).2 + j) = .blk i j ∧ W.frozen? ⟨((cm7 l N bc).loc i).1, ((cm7 l N bc).loc i).2 + j, none⟩ = false ∧
        ∃ v, W.cell? ⟨((cm7 l N bc).loc i).1, ((cm7 l N bc).loc i).2 + j, none⟩ = some v ∧ Rep (cm7 l N bc) v y := by
      intro i t v z hi hB hz hr
      refine ⟨hi, fun j y hy => ?_⟩
      cases j with
      | succ j => simp at hy
      | zero =>
        simp only [List.getElem?_cons_zero, Option.some.injEq] at hy
        subst hy
        refine ⟨hz, ?_, hB.frozen, v, hB.cell, hr⟩
        have cs : i = 0 ∨ i = 1 ∨ i = 2 := by omega
        rcases cs with rfl | rfl | rfl <;> simp only [cm7]
        · rw [if_pos trivial, if_neg (by omega), if_neg (by omega), if_pos trivial]
        · rw [if_pos trivial, if_neg (by omega), if_neg (by omega), if_neg (by omega), if_pos trivial]
        · rw [if_pos trivial, if_neg (by omega), if_neg (by omega), if_neg (by omega), if_neg (by omega), if_pos trivial]
    split at e
    · rename_i hi; subst hi; injection e with e; subst e; exact hz 0 9 _ _ (by omega) y2 rfl (.str _)
    · split at e
      · rename_i hi; subst hi; injection e with e; subst e; exact hz 1 3 _ _ (by omega) y3 rfl (.int _ _)
      · split at e
        · rename_i hi; subst hi; injection e with e; subst e; exact hz 2 25 _ _ (by omega) y4 rfl (.int _ _)
        · cases e
  · have h1 := y1.lt
    have h2 := yc.lt
    have h3 := y4.lt
    simp only [cm7]
    by_cases ho : o = 0
    · rw [if_pos ho, if_neg (by omega), if_neg (by omega), if_neg (by omega), if_neg (by omega), if_neg (by omega)]
    · rw [if_neg ho]
def env7 (l : List UInt8) (x : Int) : List AV := [.str (bs l), .ptr (.str (bs l)), .ref 0 0, .ref 1 0, .ref 2 0, .int .i64 0, .int .i64 x, .str (bs l), .int .i64 0, .int .i64 0, .bool false, .undef, .str (bs l), .fn (.func 91) [] [.ptr (.str (bs l))], .int .i64 x, .str (bs l), .int .i64 (l.length : Int), .int .i64 x, .int .i64 0, .bool true, .undef, .undef, .undef, .undef, .undef, .undef, .undef, .undef]
def tmp7 (l : List UInt8) (x : Int) (N bc : Nat) : Array Value := #[.string (bs l), .pointer (some ⟨N, 0, none⟩), .pointer (some ⟨N + 1, 0, none⟩), .pointer (some ⟨N + 1 + 1, 0, none⟩), .pointer (some ⟨N + 1 + 1 + 1, 0, none⟩), .int .i64 0, .int .i64 x, .string (bs l), .int .i64 0, .int .i64 0, .bool false, undef, .string (bs l), .func (.func 91) #[] #[.pointer (some ⟨bc, 0, none⟩)], .int .i64 x, .string (bs l), .int .i64 (l.length : Int), .int .i64 x, .int .i64 0, .bool true, undef, undef, undef, undef, undef, undef, undef, undef]
theorem rep7 {l : List UInt8} {x : Int} {N bc : Nat} (hbc : N + 1 + 1 + 1 < bc) : RepL (cm7 l N bc) (tmp7 l x N bc).toList (env7 l x) := by
  have hp : ∀ b : Nat, (b = N ∨ b = bc) → Rep (cm7 l N bc) (.pointer (some ⟨b, 0, none⟩)) (.ptr (.str (bs l))) := fun b hb =>
    Rep.ptr b 0 [.string (bs l)] (.str (bs l)) rfl (fun j v hj => by
      cases j with
      | succ j => simp at hj
      | zero =>
        simp only [List.getElem?_cons_zero, Option.some.injEq] at hj
        subst hj
        simp only [cm7]
        rw [if_pos trivial]
        by_cases h : b = N
        · rw [if_pos h]
        · rw [if_neg h, if_pos (by omega)])
      (fun j v y hv hy => by
        cases j with
        | succ j => simp at hv
        | zero =>
          simp only [List.getElem?_cons_zero, Option.some.injEq, AV.cells] at hv hy
          subst hv; subst hy
          exact .str _)
      (fun j y hy => by
        cases j with
        | succ j => simp [AV.cells] at hy
        | zero =>
          simp only [List.getElem?_cons_zero, Option.some.injEq, AV.cells] at hy
          subst hy
          rfl)
  have hr : ∀ i : Nat, i < 3 → Rep (cm7 l N bc) (.pointer (some ⟨N + 1 + i, 0, none⟩)) (.ref i 0) := fun i hi => Rep.ref i 0 hi
  have hu : Rep (cm7 l N bc) undef .undef := Rep.tup [] [] rfl (fun j v y h => by simp at h)
  have hf : Rep (cm7 l N bc) (.func (.func 91) #[] #[.pointer (some ⟨bc, 0, none⟩)]) (.fn (.func 91) [] [.ptr (.str (bs l))]) := by
    have hl := RepL.cons (hp bc (.inr rfl)) RepL.nil
    exact Rep.fn (.func 91) [] [.pointer (some ⟨bc, 0, none⟩)] [] [.ptr (.str (bs l))] rfl rfl (fun j v y h => by simp at h) hl.2
  show RepL (cm7 l N bc) [_, _, _, _, _, _, _, _, _, _, _, _, _, _, _, _, _, _, _, _, _, _, _, _, _, _, _, _] _
  refine .cons (.str _) (.cons (hp N (.inl rfl)) (.cons (hr 0 (by omega)) (.cons (hr 1 (by omega)) (.cons (hr 2 (by omega)) (.cons (.int _ _) (.cons (.int _ _) (.cons (.str _) (.cons (.int _ _) (.cons (.int _ _) (.cons (.bool _) (.cons hu (.cons (.str _) (.cons hf (.cons (.int _ _) (.cons (.str _) (.cons (.int _ _) (.cons (.int _ _) (.cons (.int _ _) (.cons (.bool _) (.cons hu (.cons hu (.cons hu (.cons hu (.cons hu (.cons hu (.cons hu (.cons hu .nil)))))))))))))))))))))))))))
theorem fr_box {c c' : CM} {W W' : World} (h : Fr c W c' W') {B : Nat} {t : TypeId} {u v : Value} (hB : Boxed W B t u) (hc : W'.cell? ⟨B, 0, none⟩ = some v) : Boxed W' B t v := by
  have h1 := h.blk B hB.lt
  rw [show W.heap[B]? = _ from hB] at h1
  simp only [FrB] at h1
  obtain ⟨cs, e1, e2, _⟩ := h1
  simp only [World.cell?, e1] at hc
  have : cs = #[v] := by
    apply Array.ext'
    have hs : cs.toList.length = 1 := by simpa using e2
    match hcs : cs.toList, hs with
    | [a], _ =>
      have : cs[0]? = some a := by rw [← Array.getElem?_toList, hcs]; rfl
      simp [this] at hc
      rw [hc]
  rw [this] at e1
  exact e1
/-- the region: what it leaves -/
theorem reg7 {l : List UInt8} {x : Int} (hx1 : 1 ≤ x) (hx2 : x ≤ l.length) (hlen : l.length ≤ 24) {W : World} {N bc : Nat} (y1 : Boxed W N 9 (.string (bs l))) (y2 : Boxed W (N + 1) 9 (.string { data := #[] })) (y3 : Boxed W (N + 1 + 1) 3 (.int .i64 0)) (y4 : Boxed W (N + 1 + 1 + 1) 25 (.int .i64 0)) (yc : Boxed W bc 9 (.string (bs l))) (hbc : N + 1 + 1 + 1 < bc)
    {ops : Array Oper} (hxs : cvtL Tryz.prog 28 [] [] ops (List.range ops.size) = some xs7) (hds : ops.toList.map deps = ds7) (hd : ops.toList.all (fun o => !isDef o.op) = true) {id : Nat} (l' m : Nat) {Q : Exit → Act → World → Prop}
    (hQ : ∀ (a : Act) (W' : World), a.defers = [] → Boxed W' (N + 1) 9 (.string (bs (l.take x.toNat))) → Boxed W' (N + 1 + 1) 3 (.int .i64 ((l.length : Int).tdiv x)) → Boxed W' (N + 1 + 1 + 1) 25 (.int .i64 0) → Bl N W W' → KeepsFrom 0 W W' → Q .normal a W') :
    (Code.region id ops true).wpIn (Fence.wide.inRound l') m Tryz.prog Q { tmps := tmp7 l x N bc, defers := [] } W := by
  obtain ⟨n, rfl⟩ : ∃ n : Nat, x = (n : Int) := ⟨x.toNat, by omega⟩
  have hinv := inv7 y1 y2 y3 y4 yc hbc
  have hrep := rep7 (l := l) (x := (n : Int)) hbc
  have henv : EnvRep 28 (cm7 l N bc) { tmps := tmp7 l (n : Int) N bc, defers := [] } ⟨fun t => (env7 l (n : Int)).getD t .undef, hs7⟩ := by
    refine ⟨rfl, fun t v ht => ?_⟩
    have hl := hrep.1
    have htl : (tmp7 l (n : Int) N bc).toList[t]? = some v := by simpa using ht
    have hlt : t < (env7 l (n : Int)).length := by
      rw [← hl]
      exact (List.getElem?_eq_some_iff.1 htl).1
    simp only [List.getD_eq_getElem?_getD, List.getElem?_eq_getElem hlt, Option.getD_some]
    exact hrep.2 t v _ htl (List.getElem?_eq_getElem hlt)
  have hst : St 28 (cm7 l N bc) W [] (cm7 l N bc) ⟨fun t => (env7 l (n : Int)).getD t .undef, hs7⟩ { tmps := tmp7 l (n : Int) N bc, defers := [] } W := ⟨henv, hinv, .refl _ _, rfl⟩
  refine wpIn_mono (rega_round (by kernel_rfl) CtxOk.nil hxs hds hd (Q := endN (fun s => s.hs.heap 0 = some [.str (bs (l.take n))] ∧ s.hs.heap 1 = some [.int .i64 ((l.length : Int).tdiv (n : Int))] ∧ s.hs.heap 2 = some [.int .i64 0])) ?_ hst l' m) ?_
  · have hn : n ≤ l.length := by omega
    have hn0 : (n : Int) ≠ 0 := by omega
    have m1 : amem (.ssl false true) hs7 [.str (bs l), .int .i64 (n : Int)] = some (.str (bs (l.take n)), hs7) := ssl_h hn
    have q1 : 0 ≤ (l.length : Int).tdiv (n : Int) ∧ (l.length : Int).tdiv (n : Int) ≤ l.length := by
      rw [Int.tdiv_eq_ediv_of_nonneg (by omega)]
      exact ⟨Int.ediv_nonneg (by omega) (by omega), Int.ediv_le_self _ (by omega)⟩
    have w1 : IntKind.i64.wrap ((l.length : Int).tdiv (n : Int)) = (l.length : Int).tdiv (n : Int) := wrap64 (by omega) (by omega)
    have q2 : abin 0 .quo (.int .i64 (l.length : Int)) (.int .i64 (n : Int)) = some (.int .i64 ((l.length : Int).tdiv (n : Int))) := by rw [abin_quo hn0, w1]
    have s1 := store_cell (hp := hs7.heap) (i := 0) (o := 0) (ys := [.str (bs [])]) (v := .str (bs (l.take n))) rfl (by simp) rfl
    generalize (l.length : Int).tdiv (n : Int) = D at *
    have s2 := store_cell (hp := fun k => if k = 0 then some [AV.str (bs (l.take n))] else hs7.heap k) (i := 1) (o := 0) (ys := [.int .i64 0]) (v := .int .i64 D) rfl (by simp) rfl
    have s3 := store_cell (hp := fun k => if k = 1 then some [AV.int .i64 D] else if k = 0 then some [AV.str (bs (l.take n))] else hs7.heap k) (i := 2) (o := 0) (ys := [.int .i64 0]) (v := .int .i64 0) rfl (by simp) rfl
    simp only [List.set_cons_zero] at s1 s2 s3
    refine At.i ?_
    refine At.any_l 0 endN_p rfl rfl ⟨_, by simp [env7]; rfl⟩ ?_
    simp [env7, m1, q2, s1, s2, s3]
    refine At.any_q 1 endN_p rfl rfl rfl ?_
    simp [env7, m1, q2, s1, s2, s3]
    refine At.any_q 2 endN_p rfl rfl rfl ?_
    simp [env7, m1, q2, s1, s2, s3]
    refine At.any_l 3 endN_p rfl rfl ⟨_, by simp [env7]; rfl⟩ ?_
    simp [env7, m1, q2, s1, s2, s3]
    refine At.any_q 4 endN_p rfl rfl rfl ?_
    simp [env7, m1, q2, s1, s2, s3]
    refine At.any_q 5 endN_p rfl rfl rfl ?_
    simp [env7, m1, q2, s1, s2, s3]
    refine At.any_q 6 endN_p rfl rfl rfl ?_
    simp [env7, m1, q2, s1, s2, s3]
    refine At.any_o 7 rfl rfl ?_
    simp [env7, m1, q2, s1, s2, s3]
    refine At.any_o 8 rfl rfl ?_
    simp [env7, m1, q2, s1, s2, s3]
    refine At.any_o 9 rfl rfl ?_
    simp [env7, m1, q2, s1, s2, s3]
    refine At.any_e rfl ?_
    simp
  · rintro e a' W' ⟨ae, c', s', hae, hm, hs'⟩
    cases ae <;> try exact hae.elim
    obtain ⟨g0, g1, g2⟩ := hae
    cases e <;> simp only [ExM] at hm
    have hcell : ∀ (i : Nat) (z : AV), i < 3 → s'.hs.heap i = some [z] → ∃ v, W'.cell? ⟨N + 1 + i, 0, none⟩ = some v ∧ Rep c' v z := by
      intro i z hi hz
      obtain ⟨_, h2⟩ := hs'.inv.heap i [z] hz
      obtain ⟨_, _, _, v, h3, h4⟩ := h2 0 z rfl
      have hl : c'.loc i = (N + 1 + i, 0) := hs'.fr.le.loc i hi
      rw [hl] at h3
      exact ⟨v, h3, h4⟩
    obtain ⟨v0, k0, r0⟩ := hcell 0 _ (by omega) g0
    obtain ⟨v1, k1, r1⟩ := hcell 1 _ (by omega) g1
    obtain ⟨v2, k2, r2⟩ := hcell 2 _ (by omega) g2
    cases r0
    cases r1
    cases r2
    have hno : ∀ b : Nat, b ≠ N + 1 → b ≠ N + 1 + 1 → b ≠ N + 1 + 1 + 1 → ∀ o, ((cm7 l N bc).cl b o).writable = false := by
      intro b h1 h2 h3 o
      simp only [cm7]
      repeat' split
      all_goals first | rfl | (exfalso; omega)
    have hblk : ∀ b : Nat, b < W.heap.size → b ≠ N + 1 → b ≠ N + 1 + 1 → b ≠ N + 1 + 1 + 1 → W'.heap[b]? = W.heap[b]? := by
      intro b hb h1 h2 h3
      have hf := hs'.fr.blk b hb
      have hw := hno b h1 h2 h3
      cases hx : W.heap[b]? with
      | none => rw [hx] at hf; exact hf
      | some o =>
        rw [hx] at hf
        cases o with
        | cells cs e fr =>
          simp only [FrB] at hf
          obtain ⟨cs', e1, e2, e3⟩ := hf
          rw [e1]
          have : cs' = cs := Array.ext_getElem? fun j => e3 j (hw j)
          rw [this]
        | map es k =>
          simp only [FrB] at hf
          obtain ⟨es', k', e1, e2⟩ := hf
          obtain ⟨e3, e4⟩ := e2 (hw 0)
          rw [e1, e3, e4]
        | _ => simp only [FrB] at hf; exact hf
    have hlt := y4.lt
    refine hQ a' W' hs'.df (fr_box hs'.fr y2 k0) (fr_box hs'.fr y3 k1) (fr_box hs'.fr y4 k2) ⟨hs'.fr.os, hs'.fr.out, hs'.fr.size, fun k hk => hblk k (by omega) (by omega) (by omega) (by omega)⟩ ⟨hs'.fr.size, fun k o _ hk ho => ?_⟩
    have hkl : k < W.heap.size := (Array.getElem?_eq_some_iff.1 hk).1
    by_cases h1 : k = N + 1
    · subst h1; rw [show W.heap[N + 1]? = _ from y2] at hk; cases hk; cases ho
    by_cases h2 : k = N + 1 + 1
    · subst h2; rw [show W.heap[N + 1 + 1]? = _ from y3] at hk; cases hk; cases ho
    by_cases h3 : k = N + 1 + 1 + 1
    · subst h3; rw [show W.heap[N + 1 + 1 + 1]? = _ from y4] at hk; cases hk; cases ho
    rw [hblk k hkl h1 h2 h3]; exact hk
end Go.Proofs.YtdcpkgedaflnmaaGreatDoor.Rp
set_option linter.unusedVariables false
set_option linter.unusedSimpArgs false
namespace Go.Proofs.YtdcpkgedaflnmaaGreatDoor.Rp
open Go Fw Go.RowKit Go.Shelf
attribute [local go_sem] Oper.semAt_some

set_option maxRecDepth 1000000 in
theorem walk40 (s : ByteArray) (w : World) : Calls Tryz.prog 40 #[.string s] w fun e w' => e = .returned (.func (.func 91) #[] #[.pointer (some ⟨w.heap.size, 0, none⟩)]) ∧ w' = w.alloc (.cells #[.string s] 9) := by
  go_enter Tryz.func40, Tryz.ntmps40
  go_wp2
  go_ret
  exact ⟨rfl, rfl⟩
theorem bbel {W W' : World} {B : Nat} {t : TypeId} {v : Value} (h : Boxed W B t v) (hb : Below W.heap.size W W') : Boxed W' B t v := (hb.block B h.lt).trans h
theorem bgro {A A' : World} {row : Option Nat} {n B : Nat} {t : TypeId} {v : Value} (h : Boxed A B t v) (hg : A.grownBy A' row) (hr : ∀ r, row = some r → n ≤ r ∧ ∃ o : Obj, A.heap[r]? = some o ∧ o.isCells = false) : Boxed A' B t v := h.kept hg fun e => by
  obtain ⟨_, o, ho, hc⟩ := hr B e.symm
  rw [show A.heap[B]? = _ from h] at ho
  cases ho
  cases hc
theorem blgro {n B : Nat} {w A A' : World} {row : Option Nat} (hn : n ≤ B) (h : Bl n w A) (hg : A.grownBy A' row) (hr : ∀ r, row = some r → B ≤ r ∧ ∃ o : Obj, A.heap[r]? = some o ∧ o.isCells = false) (hs : n ≤ w.heap.size := by exact Nat.le_refl _) : Bl n w A' :=
  ⟨hg.os.trans h.os, hg.output.trans h.out, Nat.le_trans h.size hg.size, fun k hk => (hg.block k (by have := h.size; omega) (fun e => by have := (hr k e.symm).1; omega)).trans (h.block k hk)⟩
/-- what divides the length -/
def dvB (l : List UInt8) (x : Int) : Prop := (l.length : Int).tmod x = 0
def rootV (l : List UInt8) (x : Int) : Value := .tuple #[.string (bs (l.take x.toNat)), .int .i64 ((l.length : Int).tdiv x), .int .i64 0]
set_option maxRecDepth 100000 in
set_option maxHeartbeats 2000000 in
theorem walk11 {l : List UInt8} (hL : IsB l) (w : World) :
    CallsIn Fence.wide 8 Tryz.prog 11 #[.string (bs l)] w fun e W' => ∃ (q : List Int) (x : Int), (q ++ [x]) <+: perL l ∧ (∀ y ∈ q, ¬ dvB l y) ∧ dvB l x ∧ e = .returned (rootV l x) ∧ Bl w.heap.size w W' := by
  have hsz : (bs l).size = l.length := bs_size l
  refine callsIn_of_wp_marks Tryz.func11 rfl trivial ?_ rfl
  simp only [Tryz.ntmps11, List.size_toArray, List.length_cons, List.length_nil, Nat.reduceAdd, Nat.reduceSub, Array.replicate_succ, Array.replicate_zero, List.push_toArray, List.append_toArray, List.nil_append, List.cons_append]
  gi_wp2
  obtain ⟨W0, hW0⟩ : ∃ W0, ((((w.alloc (.cells #[.string (bs l)] 9)).alloc (.cells #[.string { data := #[] }] 9)).alloc (.cells #[.int .i64 0] 3)).alloc (.cells #[.int .i64 0] 25)) = W0 := ⟨_, rfl⟩
  have s0 : W0.heap.size = w.heap.size + 4 := by rw [← hW0]; simp
  have a1 : Boxed W0 w.heap.size 9 (.string (bs l)) := by rw [← hW0]; exact (((Boxed.new w 9 _).alloc _).alloc _).alloc _
  have a2 : Boxed W0 (w.heap.size + 1) 9 (.string { data := #[] }) := by
    rw [← hW0]
    have := Boxed.new (w.alloc (.cells #[.string (bs l)] 9)) 9 (.string { data := #[] })
    rw [World.size_alloc] at this
    exact (this.alloc _).alloc _
  have a3 : Boxed W0 (w.heap.size + 1 + 1) 3 (.int .i64 0) := by
    rw [← hW0]
    have := Boxed.new ((w.alloc (.cells #[.string (bs l)] 9)).alloc (.cells #[.string { data := #[] }] 9)) 3 (.int .i64 0)
    rw [World.size_alloc, World.size_alloc] at this
    exact this.alloc _
  have a4 : Boxed W0 (w.heap.size + 1 + 1 + 1) 25 (.int .i64 0) := by
    rw [← hW0]
    have := Boxed.new (((w.alloc (.cells #[.string (bs l)] 9)).alloc (.cells #[.string { data := #[] }] 9)).alloc (.cells #[.int .i64 0] 3)) 25 (.int .i64 0)
    rw [World.size_alloc, World.size_alloc, World.size_alloc] at this
    exact this
  have b0 : Below w.heap.size w W0 := by rw [← hW0]; exact ((((Below.refl _ w).alloc (Nat.le_refl _) _).alloc (by simp) _).alloc (by simp; omega) _).alloc (by simp; omega) _
  rw [hW0]
  clear hW0
  refine ⟨trivial, (callsIn_wide.2 (walk38 hL W0)).mono ?_⟩
  rintro e W1 ⟨rfl, hb1⟩
  replace a1 := bbel a1 hb1
  replace a2 := bbel a2 hb1
  replace a3 := bbel a3 hb1
  replace a4 := bbel a4 hb1
  have b1 : Below w.heap.size w W1 := b0.trans (hb1.mono (by omega))
  have s1 : w.heap.size + 4 ≤ W1.heap.size := by have := hb1.size; omega
  clear hb1 b0 s0
  have c1 := a1.cell
  gi_wp2
  refine ⟨trivial, (callsIn_wide.2 (walk40 _ W1)).mono ?_⟩
  rintro e W2 ⟨rfl, rfl⟩
  gi_wp2
  have z1 := a1.alloc (.cells #[.string (bs l)] 9)
  have z2 := a2.alloc (.cells #[.string (bs l)] 9)
  have z3 := a3.alloc (.cells #[.string (bs l)] 9)
  have z4 := a4.alloc (.cells #[.string (bs l)] 9)
  have zc := Boxed.new W1 9 (.string (bs l))
  have zb : Below w.heap.size w (W1.alloc (.cells #[.string (bs l)] 9)) := b1.alloc (by omega) _
  have zs : w.heap.size ≤ (W1.alloc (.cells #[.string (bs l)] 9)).heap.size := by simp; omega
  refine wpIn_rangeFunc_ownG rfl (by omega) (gf := 91) (lb := #[.pointer (some ⟨W1.heap.size, 0, none⟩)]) rfl trivial (enters_of Tryz.func91 (by kernel_rfl) rfl)
    (per_stopsL hL (8 - 1) W1.heap.size 0 (W1.alloc (.cells #[.string (bs l)] 9)) (by simp) zc.cell) (fun h k c => k (h c)) (fun W k u u' h1 h2 h3 h4 => kpC_b W k u u' h1 h2 h3 h4) (Below.refl _ _) (fun _ => rfl)
    (fun pre W => (∀ y ∈ pre, ¬ dvB l y.1) ∧ Boxed W w.heap.size 9 (.string (bs l)) ∧ Boxed W (w.heap.size + 1) 9 (.string { data := #[] }) ∧ Boxed W (w.heap.size + 1 + 1) 3 (.int .i64 0) ∧ Boxed W (w.heap.size + 1 + 1 + 1) 25 (.int .i64 0) ∧ Boxed W W1.heap.size 9 (.string (bs l)) ∧ Below w.heap.size w W)
    (fun c pre W => c = .ret ∧ ∃ (q : List (Lt l)) (x : Lt l), pre = q ++ [x] ∧ (∀ y ∈ q, ¬ dvB l y.1) ∧ dvB l x.1 ∧ Boxed W (w.heap.size + 1) 9 (.string (bs (l.take x.1.toNat))) ∧ Boxed W (w.heap.size + 1 + 1) 3 (.int .i64 ((l.length : Int).tdiv x.1)) ∧ Boxed W (w.heap.size + 1 + 1 + 1) 25 (.int .i64 0) ∧ Bl w.heap.size w W)
    (fun s A B row ⟨h1, h2, h3, h4, h5, h5', h6⟩ hg hr => ⟨h1, bgro h2 hg hr, bgro h3 hg hr, bgro h4 hg hr, bgro h5 hg hr, bgro h5' hg hr, ownFrom_below (β := Unit) (Nat.le_refl _) zs () A B row h6 hg hr⟩)
    (fun c s A B row ⟨h0, q, x, h1, h2, h2', h3, h4, h5, h6⟩ hg hr => ⟨h0, q, x, h1, h2, h2', bgro h3 hg hr, bgro h4 hg hr, bgro h5 hg hr, blgro zs h6 hg hr⟩)
    ⟨(fun y hy => by simp at hy), z1, z2, z3, z4, zc, zb⟩
    (fun x => { tmps := #[.string (bs l), .pointer (some ⟨w.heap.size, 0, none⟩), .pointer (some ⟨w.heap.size + 1, 0, none⟩), .pointer (some ⟨w.heap.size + 1 + 1, 0, none⟩), .pointer (some ⟨w.heap.size + 1 + 1 + 1, 0, none⟩), .int .i64 0, .int .i64 x.1, .string (bs l), .int .i64 0, .int .i64 0, .bool false, undef, .string (bs l), .func (.func 91) #[] #[.pointer (some ⟨W1.heap.size, 0, none⟩)], .int .i64 x.1, undef, undef, undef, undef, undef, undef, undef, undef, undef, undef, undef, undef, undef], defers := [] }) ?assign ?body ?done ?stop
  case assign =>
    intro l' x W K hK
    gi_wp2
    exact hK
  case body =>
    rintro l' pre x W ⟨hp, y1, y2, y3, y4, y5, yb⟩ hlt
    obtain ⟨x, hx1, hx2⟩ := x
    have d1 := y1.cell
    have hx0 : x ≠ 0 := by omega
    by_cases hd : (l.length : Int).tmod x = 0
    · gi_wp2
      refine reg7 hx1 hx2 hL.le y1 y2 y3 y4 y5 (by omega) (by kernel_rfl) (by kernel_rfl) (by kernel_rfl) l' _ fun a W' ha k0 k1 k2 kb kf => ?_
      gi_wp2
      exact ⟨⟨kf.size, fun k o _ hk ho => kf.same k o (Nat.zero_le _) hk ho⟩, rfl, pre, ⟨x, hx1, hx2⟩, rfl, hp, hd, k0, k1, k2, (Bl.of yb).trans kb⟩
    · have hd2 : ¬ (l.length : Int) % x = 0 := by rwa [← Int.tmod_eq_emod_of_nonneg (by omega)]
      gi_wp2
      refine ⟨KeepsFrom.refl _ _, fun h => h, ⟨fun y hy => ?_, y1, y2, y3, y4, y5, yb⟩⟩
      rcases List.mem_append.1 hy with hy | hy
      · exact hp y hy
      · rw [List.mem_singleton.1 hy]; exact hd
  case done =>
    rintro D xs W hD hxs ⟨hn, _⟩ hK
    exfalso
    have hlp := List.length_pos_iff.2 hL.ne
    have hmem : (l.length : Int) ∈ perL l := by
      unfold perL perK
      refine List.mem_map.2 ⟨l.length, List.mem_filter.2 ⟨List.mem_range.2 (by omega), ?_⟩, rfl⟩
      simp [perB, pf]
      omega
    rw [← hxs] at hmem
    obtain ⟨y, hy, e⟩ := List.mem_map.1 hmem
    refine hn y hy ?_
    unfold dvB
    rw [e]
    exact Int.tmod_self
  case stop =>
    rintro D c pre W hD ⟨hpre, _⟩ ⟨rfl, q, x, rfl, hq, hx, k2, k3, k4, kb⟩ hK
    have hne : ∀ b, b < W1.heap.size → b ≠ D := fun b hb => by simp at hD; omega
    have o2 := (World.putObj_heap_other (w := W) (o := Obj.deferred none) (hne (w.heap.size + 1) (by omega))).trans k2
    have o3 := (World.putObj_heap_other (w := W) (o := Obj.deferred none) (hne (w.heap.size + 1 + 1) (by omega))).trans k3
    have o4 := (World.putObj_heap_other (w := W) (o := Obj.deferred none) (hne (w.heap.size + 1 + 1 + 1) (by omega))).trans k4
    have p2 : (W.putObj D (Obj.deferred none)).cell? ⟨w.heap.size + 1, 0, none⟩ = some (.string (bs (l.take x.1.toNat))) := Boxed.cell o2
    have p3 : (W.putObj D (Obj.deferred none)).cell? ⟨w.heap.size + 1 + 1, 0, none⟩ = some (.int .i64 ((l.length : Int).tdiv x.1)) := Boxed.cell o3
    have p4 : (W.putObj D (Obj.deferred none)).cell? ⟨w.heap.size + 1 + 1 + 1, 0, none⟩ = some (.int .i64 0) := Boxed.cell o4
    gi_wp2
    refine ⟨by simp, .inl ⟨_, _, rfl, run_takeDeferred hK, ?_⟩⟩
    refine ⟨_, ?_, q.map (·.1), x.1, ?_, ?_, hx, rfl, ?_⟩
    · simp only [results, show Tryz.f11.results = #[.cell 2 9, .cell 3 3, .cell 4 25] from rfl]
      simp [Sem.run_bind, Result.andThen, asAddr, loadVar, Tryz.isAgg9, Tryz.isAgg3, Tryz.isAgg25, p2, p3, p4, rootV]
    · simpa using hpre
    · intro y hy
      obtain ⟨z, hz, rfl⟩ := List.mem_map.1 hy
      exact hq z hz
    · exact kb.trans ⟨rfl, rfl, by simp, fun k hk => World.putObj_heap_other (by simp at hD; omega)⟩
end Go.Proofs.YtdcpkgedaflnmaaGreatDoor.Rp
set_option linter.unusedVariables false
set_option linter.unusedSimpArgs false
namespace Go.Proofs.YtdcpkgedaflnmaaGreatDoor.Rp
open Go Fw Go.RowKit

/-- the length of the root -/
def rootX (l : List UInt8) : Int := ((perL l).find? fun x => decide ((l.length : Int).tmod x = 0)).getD 0
theorem find_pre {α : Type} {p : α → Bool} {q : List α} {x : α} {xs : List α} (h : (q ++ [x]) <+: xs) (hq : ∀ y ∈ q, p y = false) (hx : p x = true) : xs.find? p = some x := by
  obtain ⟨t, rfl⟩ := h
  rw [List.append_assoc, List.find?_append, List.find?_eq_none.2 (fun y hy => by rw [hq y hy]; simp)]
  simp [hx]
theorem rootX_eq {l : List UInt8} {q : List Int} {x : Int} (h : (q ++ [x]) <+: perL l) (hq : ∀ y ∈ q, ¬ dvB l y) (hx : dvB l x) : rootX l = x := by
  unfold rootX
  rw [find_pre h (fun y hy => by simpa [dvB] using hq y hy) (by simpa [dvB] using hx)]
  rfl
/-- a call that leaves what was there as it was, whatever it drew -/
theorem of_calls_bl {P : Program} {f : FuncId} {args : List AV} {r : AV} (hok : callOk P f = true) (hp : r.plain = true) (hs : r.scal = true)
    (h : ∀ (c : CM) (w : World) (vs : List Value), RepL c vs args → Calls P f vs.toArray w fun e w' => ∃ v, e = .returned v ∧ Rep c v r ∧ Bl w.heap.size w w') : PCall P f args r := by
  refine ⟨hp, fun hs' hb => ⟨hok, fun c w vs hi hv => (h c w vs hv).mono ?_⟩⟩
  rintro e w' ⟨v, rfl, hr, hbl⟩
  obtain ⟨h1, h2⟩ := hi.below (w' := { w' with tape := w.tape }) ⟨hbl.os, rfl, hbl.out, hbl.size, hbl.block⟩
  exact ⟨.ret r, hs', c, rfl, hr, ⟨h1.nh, h1.nt, h1.tokv, h1.vlt, h1.imm, h1.toks, h1.heap, h1.dom, h1.maps⟩, ⟨h2.le, h2.os, h2.out, h2.size, h2.blk, h2.no, h2.frz⟩⟩
/-- what Root returns -/
def rootA (l : List UInt8) : AV := .tup [.str (bs (l.take (rootX l).toNat)), .int .i64 ((l.length : Int).tdiv (rootX l)), .int .i64 0]
theorem p11 {l : List UInt8} (h : IsB l) : PCall Tryz.prog 11 [.str (bs l)] (rootA l) := of_calls_bl (by kernel_rfl) rfl rfl fun c w vs hv => by
  obtain ⟨v, vs', rfl, hr, ht⟩ := hv.cons_inv
  have := ht.nil_inv
  subst this
  cases hr
  refine (callsIn_wide.1 (walk11 h w)).mono ?_
  rintro e w' ⟨q, x, h1, h2, h3, rfl, hb⟩
  have := rootX_eq h1 h2 h3
  refine ⟨_, rfl, ?_, hb⟩
  unfold rootA rootV
  rw [this]
  have hl := RepL.cons (c := c) (Rep.str (bs (l.take x.toNat))) (RepL.cons (Rep.int .i64 ((l.length : Int).tdiv x)) (RepL.cons (Rep.int .i64 0) RepL.nil))
  exact Rep.tup _ _ hl.1 hl.2
end Go.Proofs.YtdcpkgedaflnmaaGreatDoor.Rp
