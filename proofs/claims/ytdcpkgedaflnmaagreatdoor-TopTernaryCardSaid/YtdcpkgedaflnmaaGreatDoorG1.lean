/-
  strings.Trim at the cutset "mv". Own work.
  The small functions. Own work.
  Checks of strips. Own work.
  What can be folded in. Own work.
  The segments that can be folded in. Own work.
  slices.Grow and slices.Concat of lists of numbers. Own work.
  One step. Own work.
  One step, by the reference. Own work.
  Steps, and lists of them. Own work.
  Plain: a step leaves a valid strip. Own work.
-/
import Derived.Test.YtdcpkgedaflnmaaGreatDoorC1
import Derived.Test.YtdcpkgedaflnmaaGreatDoorFx4
import Derived.Test.YtdcpkgedaflnmaaGreatDoorFx3
set_option linter.unusedVariables false
set_option linter.unusedSimpArgs false
namespace Go.Proofs.YtdcpkgedaflnmaaGreatDoor.Fo
open Go Fw

/-- a set of bytes as a table -/
def asc (m : List UInt8) : List AV := (List.range 256).map fun j => .bool (decide (∃ c ∈ m, c.toNat = j))
theorem asc_len (m : List UInt8) : (asc m).length = 256 := by simp [asc]
theorem asc_get (m : List UInt8) (c : UInt8) : (asc m)[c.toNat]? = some (.bool (decide (c ∈ m))) := by
  have h : ∀ d : UInt8, d.toNat = c.toNat ↔ d = c := fun d => UInt8.toNat_inj
  simp only [asc, List.getElem?_map, List.getElem?_range (u8_lt c), Option.map_some, h, exists_eq_right]
theorem asc_nil : asc [] = List.replicate 256 (.bool false) := by
  refine List.ext_getElem? fun j => ?_
  rw [List.getElem?_replicate]
  by_cases h : j < 256
  · rw [if_pos h, asc, List.getElem?_map, List.getElem?_range h]; rfl
  · rw [if_neg h, asc, List.getElem?_map, List.getElem?_eq_none (by rw [List.length_range]; omega)]; rfl
theorem asc_set (m : List UInt8) (c : UInt8) : (asc m).set c.toNat (.bool true) = asc (m ++ [c]) := by
  apply List.ext_getElem?; intro j
  rw [List.getElem?_set]
  by_cases hj : j < 256
  · simp only [asc, List.getElem?_map, List.getElem?_range hj, Option.map_some, List.length_map, List.length_range, u8_lt c, if_true]
    split
    · rename_i h; subst h; simp
    · rename_i h
      have : (∃ d ∈ m ++ [c], d.toNat = j) ↔ (∃ d ∈ m, d.toNat = j) := by
        constructor
        · rintro ⟨d, hd, e⟩
          rcases List.mem_append.1 hd with h' | h'
          · exact ⟨d, h', e⟩
          · simp at h'; subst h'; exact absurd e h
        · rintro ⟨d, hd, e⟩; exact ⟨d, by simp [hd], e⟩
      simp only [this]
  · have h1 : c.toNat ≠ j := by have := u8_lt c; omega
    rw [if_neg h1, asc, asc, List.getElem?_map, List.getElem?_map, List.getElem?_eq_none (by rw [List.length_range]; omega)]; rfl
theorem asc_idx (i : Nat) (c : UInt8) : aidxA 256 false 1 (.ref i 0) (.int .u8 c.toNat) = some (.ref i c.toNat) := by
  have := u8_lt c
  simp only [aidxA]
  rw [if_pos (by omega)]
  simp [afaddr]
theorem asc_load {hp : Nat → Option (List AV)} {i : Nat} {m : List UInt8} (h : hp i = some (asc m)) (c : UInt8) : aload hp false 1 (.ref i c.toNat) = some (.bool (decide (c ∈ m))) := by
  simp [aload, h, apart, asc_get]
theorem p90 {hs : HS} {i : Nat} {m : List UInt8} (h : hs.heap i = some (asc m)) (c : UInt8) : FCall Tryz.prog 157 [.ref i 0, .int .u8 c.toNat] hs fun e hs' => e = .ret (.bool (decide (c ∈ m))) ∧ hs' = hs := by
  refine FCall.ofAt CtxOk.nil ok90 (by simp) ?_
  simp [A90, R90, anilchk, asc_idx, asc_load h]
/-- what is left behind the first bytes of the set -/
def tl (m : List UInt8) (l : List UInt8) : List UInt8 := l.dropWhile (· ∈ m)
/-- what is left ahead of the last bytes of the set -/
def tr (m : List UInt8) (l : List UInt8) : List UInt8 := (l.reverse.dropWhile (· ∈ m)).reverse
theorem p78 {hs : HS} {i : Nat} {m : List UInt8} (h : hs.heap i = some (asc m)) (l : List UInt8) : FCall Tryz.prog 143 [.str (bs l), .ref i 0] hs fun e hs' => e = .ret (.str (bs (tl m l))) ∧ hs' = hs := by
  refine FCall.ofAt CtxOk.nil ok78 (by simp) ?_
  simp [A78, R78]
  refine At.loop (fun (r : List UInt8) s => s.hs = hs ∧ s.env 0 = .str (bs r) ∧ s.env 1 = .ref i 0 ∧ tl m r = tl m l) (fun r => r.length) l ?_ ?_
  · simp
  rintro N r s hN ⟨eh, e0, e1, er⟩
  simp [e0]
  refine At.dec (fun hlt => ?_) (fun hlt => ?_)
  · cases r with
    | nil => simp at hlt
    | cons c r =>
      have hx : amem .sidx s.hs [.str (bs (c :: r)), .int .i64 0] = some (.int .u8 c.toNat, s.hs) := sidx_of (by omega) rfl
      simp [e0, e1, hx]
      refine At.hc (p90 (by rw [eh]; exact h) c) ?_ ?_
      · rintro v hs' ⟨e, rfl⟩
        injection e with e; subst e
        simp
        by_cases hc : c ∈ m
        · have hy : amem (.ssl true false) s.hs [.str (bs (c :: r)), .int .i64 1] = some (.str (bs r), s.hs) := by
            have := ssl_l (hs := s.hs) (l := c :: r) (k := .i64) (i := 1) (by simp)
            simpa using this
          simp [hc, e0, hy]
          have er2 : tl m r = tl m l := by rw [← er]; simp [tl, hc]
          refine hN r _ (by simp) ⟨?_, ?_⟩
          · simp [eh]
          · simp [e1, er2]
        · simp [hc, e0]
          have : tl m l = c :: r := by rw [← er]; simp [tl, hc]
          rw [this]
          exact At.of ⟨rfl, eh⟩
      · rintro v hs' ⟨e, _⟩; cases e
  · have : r = [] := by
      cases r with
      | nil => rfl
      | cons c r => simp at hlt
    subst this
    rw [← er]
    simp [e0]
    exact At.of ⟨rfl, eh⟩
theorem tr_snoc (m r : List UInt8) (c : UInt8) : tr m (r ++ [c]) = if c ∈ m then tr m r else r ++ [c] := by
  unfold tr
  split <;> rename_i h <;> simp [h]
theorem p79 {hs : HS} {i : Nat} {m : List UInt8} (h : hs.heap i = some (asc m)) (l : List UInt8) (hl : l.length < 1000000) : FCall Tryz.prog 144 [.str (bs l), .ref i 0] hs fun e hs' => e = .ret (.str (bs (tr m l))) ∧ hs' = hs := by
  refine FCall.ofAt CtxOk.nil ok79 (by simp) ?_
  simp [A79, R79]
  refine At.loop (fun (r : List UInt8) s => s.hs = hs ∧ s.env 0 = .str (bs r) ∧ s.env 1 = .ref i 0 ∧ tr m r = tr m l ∧ r.length ≤ l.length) (fun r => r.length) l ?_ ?_
  · simp
  rintro N r s hN ⟨eh, e0, e1, er, el⟩
  simp [e0]
  refine At.dec (fun hlt => ?_) (fun hlt => ?_)
  · rcases List.eq_nil_or_concat r with rfl | ⟨r, c, rfl⟩
    · simp at hlt
    · rw [List.concat_eq_append] at *
      have hrl : r.length < 1000000 := by simp at el; omega
      have w1 : IntKind.i64.wrap (r.length : Int) = r.length := wrap64 (by omega) (by omega)
      have hx : amem .sidx s.hs [.str (bs (r ++ [c])), .int .i64 (r.length : Int)] = some (.int .u8 c.toNat, s.hs) := sidx_of (by omega) (by simp)
      simp [e0, e1, w1, hx]
      refine At.hc (p90 (by rw [eh]; exact h) c) ?_ ?_
      · rintro v hs' ⟨e, rfl⟩
        injection e with e; subst e
        simp
        by_cases hc : c ∈ m
        · have hy : amem (.ssl false true) s.hs [.str (bs (r ++ [c])), .int .i64 (r.length : Int)] = some (.str (bs r), s.hs) := by
            have := ssl_h (hs := s.hs) (l := r ++ [c]) (k := .i64) (i := r.length) (by simp)
            simpa using this
          have er2 : tr m r = tr m l := by rw [← er, tr_snoc, if_pos hc]
          simp [hc, e0, w1, hy]
          refine hN r _ (by simp) ⟨?_, ?_⟩
          · simp [eh]
          · simp [e1, er2]; simp at el; omega
        · simp [hc, e0]
          have : tr m l = r ++ [c] := by rw [← er, tr_snoc, if_neg hc]
          rw [this]
          exact At.of ⟨rfl, eh⟩
      · rintro v hs' ⟨e, _⟩; cases e
  · have : r = [] := by
      cases r with
      | nil => rfl
      | cons c r => simp at hlt
    subst this
    rw [← er]
    simp [e0]
    exact At.of ⟨rfl, eh⟩
theorem asc_loadA {hp : Nat → Option (List AV)} {i : Nat} {m : List UInt8} (h : hp i = some (asc m)) : aload hp true 256 (.ref i 0) = some (.agg (asc m)) := by
  simp only [aload, h, apart, Option.bind_some, if_true, Nat.zero_add, asc_len, Nat.le_refl, List.drop_zero]
  rw [List.take_of_length_le (by rw [asc_len]; exact Nat.le_refl _)]
theorem asc_put {hp : Nat → Option (List AV)} {i : Nat} {m : List UInt8} (h : hp i = some (asc m)) (c : UInt8) : astore hp 1 (.ref i c.toNat) (.bool true) = some (fun k => if k = i then some (asc (m ++ [c])) else hp k) := by
  have := u8_lt c
  simp only [astore, h, Option.bind_some]
  rw [if_pos ⟨rfl, rfl, by rw [asc_len]; omega⟩]
  have e : setL (asc m) c.toNat (AV.bool true).cells = asc (m ++ [c]) := by rw [← asc_set]; rfl
  rw [e]
theorem setL_all : ∀ (xs ys : List AV), xs.length = ys.length → setL ys 0 xs = xs := by
  have key : ∀ (xs ys pre : List AV), xs.length = ys.length → setL (pre ++ ys) pre.length xs = pre ++ xs := by
    intro xs
    induction xs with
    | nil => intro ys pre h; cases ys with
      | nil => rfl
      | cons y ys => simp at h
    | cons x xs ih =>
      intro ys pre h
      cases ys with
      | nil => simp at h
      | cons y ys =>
        have := ih ys (pre ++ [x]) (by simpa using h)
        simp only [setL]
        rw [List.set_append_right _ _ (Nat.le_refl _)]
        simpa using this
  intro xs ys h
  simpa using key xs ys [] h
theorem asc_putA {hp : Nat → Option (List AV)} {i : Nat} {zs : List AV} (h : hp i = some zs) (hz : zs.length = 256) (m : List UInt8) : astore hp 256 (.ref i 0) (.agg (asc m)) = some (fun k => if k = i then some (asc m) else hp k) := by
  simp only [astore, h, Option.bind_some]
  rw [if_pos ⟨rfl, asc_len m, by omega⟩]
  have e : setL zs 0 (AV.agg (asc m)).cells = asc m := setL_all _ _ (by rw [hz]; exact asc_len m)
  rw [e]
theorem plainL_of : ∀ {xs : List AV}, (∀ x ∈ xs, x.plain = true) → plainL xs = true
  | [], _ => rfl
  | x :: xs, h => by simp only [plainL, Bool.and_eq_true]; exact ⟨h x (by simp), plainL_of fun y hy => h y (by simp [hy])⟩
theorem asc_mem {m : List UInt8} {x : AV} (h : x ∈ asc m) : ∃ b, x = .bool b := by
  simp only [asc, List.mem_map] at h
  obtain ⟨j, _, rfl⟩ := h
  exact ⟨_, rfl⟩
theorem asc_share (m : List UInt8) : (asc m).map AV.share = asc m := by
  simp only [asc, List.map_map]
  refine List.map_congr_left fun j _ => ?_
  simp
theorem p77 {m : List UInt8} (hm : ∀ c ∈ m, c.toNat < 128) (hl : m.length < 1000000) : PCall Tryz.prog 142 [.str (bs m)] (.tup [.agg (asc m), .bool true]) := by
  refine PCall.of CtxOk.nil ok77 (by simp) ?_ fun hs hb => ?_
  · simp only [AV.plain, plainL, Bool.and_eq_true]
    exact ⟨plainL_of fun x hx => by obtain ⟨b, rfl⟩ := asc_mem hx; rfl, trivial, trivial⟩
  simp [A77, R77, -List.reduceReplicate, ← asc_nil]
  refine At.loop (fun (i : Nat) s => i ≤ m.length ∧ s.env 0 = .str (bs m) ∧ s.env 2 = .ref hs.nh 0 ∧ s.env 4 = .int .i64 (i : Int) ∧ s.hs.heap hs.nh = some (asc (m.take i))) (fun i => m.length - i) 0 ?_ ?_
  · simp
  rintro N i s hN ⟨hi, e0, e2, e4, eh⟩
  simp [e0, e4]
  refine At.dec (fun hlt => ?_) (fun hlt => ?_)
  · have hlt' : i < m.length := by omega
    have hx := sidx_nat (hs := s.hs) (l := m) (k := .i64) hlt'
    have h128 := hm m[i] (List.getElem_mem _)
    simp [e0, e4, hx, show ¬ (128 : Int) ≤ (m[i].toNat : Int) by omega, e2, asc_idx, asc_put eh]
    refine hN (i + 1) _ (by omega) ⟨by omega, ?_⟩
    simp [e0, e2, e4, wrap_nat1 (show i < _ by omega)]
  · have : i = m.length := by omega
    subst this
    rw [List.take_length] at eh
    have e3 : aload (fun k => if k = hs.nh then some (asc m) else s.hs.heap k) true 256 (.ref hs.nh 0) = some (.agg (asc m)) := asc_loadA (by simp)
    simp [e2, asc_loadA eh, asc_putA eh (asc_len m), e3, asc_share]
theorem drop_nil {m : List UInt8} : ∀ {l : List UInt8}, l.dropWhile (· ∈ m) = [] ↔ ∀ c ∈ l, c ∈ m
  | [] => by simp
  | c :: l => by
    by_cases hc : c ∈ m
    · simp [hc, drop_nil (l := l)]
    · simp [hc]
theorem tr_head {m l : List UInt8} : (∀ c ∈ tr m l, c ∈ m) ↔ ∀ c ∈ l, c ∈ m := by
  constructor
  · intro h
    have h2 : tr m l = [] := by
      rcases List.eq_nil_or_concat l.reverse.reverse with h' | ⟨r, c, h'⟩
      · have : l = [] := by simpa using h'
        subst this; rfl
      · rw [List.reverse_reverse, List.concat_eq_append] at h'
        have key : ∀ (n : Nat) (l : List UInt8), l.length = n → (∀ c ∈ tr m l, c ∈ m) → tr m l = [] := by
          intro n
          induction n with
          | zero => intro l hl _; have : l = [] := List.length_eq_zero_iff.1 hl
                    subst this; rfl
          | succ n ih =>
            intro l hl h
            rcases List.eq_nil_or_concat l with rfl | ⟨r, c, rfl⟩
            · simp at hl
            · rw [List.concat_eq_append] at *
              rw [tr_snoc] at h ⊢
              by_cases hc : c ∈ m
              · rw [if_pos hc] at h ⊢
                exact ih r (by simpa using hl) h
              · rw [if_neg hc] at h
                exact absurd (h c (by simp)) hc
        exact key _ l rfl h
    unfold tr at h2
    rw [List.reverse_eq_nil_iff, drop_nil] at h2
    intro c hc
    exact h2 c (by simpa using hc)
  · intro h c hc
    unfold tr at hc
    rw [List.mem_reverse] at hc
    exact h c (by simpa using (List.dropWhile_sublist _).subset hc)
theorem trim_nil {m l : List UInt8} : tl m (tr m l) = [] ↔ ∀ c ∈ l, c ∈ m := by rw [tl, drop_nil, tr_head]
def D77 : PCtx := PCtx.nil.add 142 fun a => match a with | [.str s] => if s = bs [109, 118] then some (.tup [.agg (asc [109, 118]), .bool true]) else none | _ => none
theorem D77ok : CtxOk Tryz.prog D77 := CtxOk.nil.add fun a r h => by
  split at h <;> (try (cases h; done))
  split at h <;> (try (cases h; done))
  rename_i hs
  injection h with h; subst h; subst hs
  exact p77 (by decide) (by decide)
@[simp] theorem D77_77 : D77 142 [.str (bs [109, 118])] = some (.tup [.agg (asc [109, 118]), .bool true]) := by simp [D77, PCtx.add]
theorem p49 {l : List UInt8} (hl : l.length < 1000000) : PCall Tryz.prog 118 [.str (bs l), .str (bs [109, 118])] (.str (bs (tl [109, 118] (tr [109, 118] l)))) := by
  refine PCall.of D77ok ok49 (by simp) rfl fun hs hb => ?_
  by_cases h0 : l = []
  · subst h0
    simp [A49, R49, -List.reduceReplicate, ← asc_nil, tl, tr]
  have e1 : astore (fun i => if i = hs.nh then some (asc []) else hs.heap i) 256 (.ref hs.nh 0) (.agg (asc [109, 118])) = some (fun k => if k = hs.nh then some (asc [109, 118]) else (fun i => if i = hs.nh then some (asc []) else hs.heap i) k) := asc_putA (zs := asc []) (by simp) (asc_len _) _
  simp [A49, R49, -List.reduceReplicate, ← asc_nil, h0, e1]
  refine At.hc (p79 (i := hs.nh) (m := [109, 118]) (by simp) l hl) ?_ ?_
  · rintro v hs' ⟨e, rfl⟩
    injection e with e; subst e
    simp
    refine At.hc (p78 (i := hs.nh) (m := [109, 118]) (by simp) _) ?_ ?_
    · rintro v hs' ⟨e, rfl⟩
      injection e with e; subst e
      simp
    · rintro v hs' ⟨e, _⟩; cases e
  · rintro v hs' ⟨e, _⟩; cases e
end Go.Proofs.YtdcpkgedaflnmaaGreatDoor.Fo
set_option linter.unusedVariables false
set_option linter.unusedSimpArgs false
namespace Go.Proofs.YtdcpkgedaflnmaaGreatDoor.Fo
open Go Fw

def btw (lo n hi : Int) : Bool := decide (lo ≤ n) && decide (n ≤ hi)
theorem p51 (lo n hi : Int) : PCall Tryz.prog 71 [.int .i64 lo, .int .i64 n, .int .i64 hi] (.bool (btw lo n hi)) := by
  refine PCall.of CtxOk.nil ok51 (by simp) rfl fun hs hb => ?_
  simp [A51, R51]
  refine At.dec (fun h => ?_) (fun h => ?_) <;> simp [h, btw]
/-- strictly between -/
def mid (n a b : Int) : Bool := decide (min a b < n) && decide (n < max a b)
/-- specs by numbers, and by one list -/
def S3 (f : Int → Int → Int → Bool) : List AV → Option AV
  | [.int .i64 a, .int .i64 b, .int .i64 c] => some (.bool (f a b c))
  | _ => none
@[simp] theorem S3_i {f : Int → Int → Int → Bool} {a b c : Int} : S3 f [.int .i64 a, .int .i64 b, .int .i64 c] = some (.bool (f a b c)) := id rfl
theorem S3_ok {g : FuncId} {f : Int → Int → Int → Bool} (h : ∀ a b c, PCall Tryz.prog g [.int .i64 a, .int .i64 b, .int .i64 c] (.bool (f a b c))) : ∀ a r, S3 f a = some r → PCall Tryz.prog g a r := by
  intro a r e
  unfold S3 at e
  split at e <;> (try (cases e; done))
  injection e with e; subst e; exact h _ _ _
def SI (f : List Int → Int) : List AV → Option AV
  | [x] => (asI x).map fun l => .int .i64 (f l)
  | _ => none
theorem SI_i {f : List Int → Int} {x : AV} {l : List Int} (h : asI x = some l) : SI f [x] = some (.int .i64 (f l)) := by simp [SI, h]
theorem SI_ok {g : FuncId} {f : List Int → Int} (h : ∀ x l, asI x = some l → PCall Tryz.prog g [x] (.int .i64 (f l))) : ∀ a r, SI f a = some r → PCall Tryz.prog g a r := by
  intro a r e
  unfold SI at e
  split at e <;> (try (cases e; done))
  rename_i x
  cases hl : asI x with
  | none => simp [hl] at e
  | some l => simp [hl] at e; subst e; exact h _ _ hl
def C0 : PCtx := PCtx.nil.add 71 (S3 btw)
theorem C0ok : CtxOk Tryz.prog C0 := CtxOk.nil.add (S3_ok p51)
@[simp] theorem C0_51 : C0 71 = S3 btw := id rfl
/-- lengths -/
def meas (l : List Int) : Int := if l.length = 0 then 1 else if 7 < l.length then 2 else if l.all (fun n => btw 1 n 350) = true then (if 350 < l.sum then 16 else 0) else 3
theorem btw_sum {l : List Int} (h : ∀ n ∈ l, btw 1 n 350 = true) : 0 ≤ l.sum ∧ l.sum ≤ 350 * l.length := by
  induction l with
  | nil => simp
  | cons a l ih =>
    have h1 := h a (by simp)
    simp only [btw, Bool.and_eq_true, decide_eq_true_eq] at h1
    have := ih fun n hn => h n (by simp [hn])
    simp; omega
theorem sum_take_succ {l : List Int} {i : Nat} (h : i < l.length) : (l.take (i + 1)).sum = (l.take i).sum + l[i] := by
  rw [Fw.take_snoc h, List.sum_append, List.sum_cons, List.sum_nil, Int.add_zero]
theorem all_take_succ {l : List Int} {i : Nat} (h : i < l.length) {q : Int → Bool} (h1 : ∀ n ∈ l.take i, q n = true) (h2 : q l[i] = true) : ∀ n ∈ l.take (i + 1), q n = true := by
  intro n hn
  rcases (mem_take_succ h).1 hn with h' | h'
  · exact h1 n h'
  · rw [h']; exact h2
theorem p48 {x : AV} {l : List Int} (hx : asI x = some l) : PCall Tryz.prog 117 [x] (.int .i64 (meas l)) := by
  refine PCall.of C0ok ok48 (by simp) rfl fun hs hb => ?_
  have hlt := asI_len hx
  simp [A48, R48, alen_of hx]
  by_cases h0 : l.length = 0
  · have : l = [] := List.length_eq_zero_iff.1 h0
    subst this
    simp [meas]
  have h0' : ¬ l = [] := fun e => h0 (by rw [e]; rfl)
  simp [h0', alen_of hx]
  refine At.dec (fun h => ?_) (fun h => ?_)
  · simp [meas, h0', show 7 < l.length by omega]
  · simp [alen_of hx]
    refine At.loop (fun (i : Nat) s => i ≤ l.length ∧ s.env 3 = .int .i64 ((l.take i).sum) ∧ s.env 14 = x ∧ s.env 15 = .int .i64 (l.length : Int) ∧ s.env 16 = .int .i64 (i : Int) ∧ ∀ n ∈ l.take i, btw 1 n 350 = true) (fun i => l.length - i) 0 ?_ ?_
    · simp
    rintro N i s hN ⟨hi, e3, e14, e15, e16, hall⟩
    have hsum := btw_sum hall
    rw [List.length_take] at hsum
    simp [e15, e16]
    refine At.dec (fun hlt => ?_) (fun hlt => ?_)
    · have hi' : i < l.length := by omega
      simp [e3, e14, e16, aidx_nat hx hi']
      cases hbt : btw 1 l[i] 350 with
      | false =>
        have h3 : l.all (fun n => btw 1 n 350) = false := by
          rw [List.all_eq_false]; exact ⟨l[i], List.getElem_mem _, by simp [hbt]⟩
        simp [meas, h0', show ¬ 7 < l.length by omega, h3]
      | true =>
        have hb := hbt
        simp only [btw, Bool.and_eq_true, decide_eq_true_eq] at hb
        have w1 : IntKind.i64.wrap ((l.take i).sum + l[i]) = (l.take i).sum + l[i] := wrap64 (by omega) (by omega)
        simp [e3, e14, e15, e16, w1]
        refine hN (i + 1) _ (by omega) ⟨by omega, ?_⟩
        simp [e14, e15, wrap_nat1 (show i < _ by omega), sum_take_succ hi']
        exact all_take_succ hi' hall hbt
    · have : i = l.length := by omega
      subst this
      rw [List.take_length] at hall e3
      have h3 : l.all (fun n => btw 1 n 350) = true := List.all_eq_true.2 hall
      simp [e3]
      refine At.dec (fun h => ?_) (fun h => ?_) <;> simp [meas, h0', show ¬ 7 < l.length by omega, h3, h]
end Go.Proofs.YtdcpkgedaflnmaaGreatDoor.Fo
set_option linter.unusedVariables false
set_option linter.unusedSimpArgs false
namespace Go.Proofs.YtdcpkgedaflnmaaGreatDoor.Fo
open Go Fw

/-- a value that holds a list of numbers lies in one cell -/
theorem asI_cells {x : AV} {l : List Int} (h : asI x = some l) : x.cells = [x] := by
  rcases asI_inv h with ⟨rfl, rfl⟩ | ⟨c, rfl⟩ <;> rfl
theorem asI_ld {x : AV} {l : List Int} (h : asI x = some l) (hp : Nat → Option (List AV)) : aload hp false 1 (.ptr x) = some x := by
  simp [aload, apart, asI_cells h]
@[simp] theorem faddr_0 {x y : AV} : afaddr false 1 0 (.ptr (.agg [x, y])) = some (.ptr x) := id rfl
@[simp] theorem faddr_1 {x y : AV} : afaddr false 1 1 (.ptr (.agg [x, y])) = some (.ptr y) := id rfl
@[simp] theorem sto_agg {xs : List AV} : (AV.agg xs).sto = true := id rfl
@[simp] theorem load_agg {hp : Nat → Option (List AV)} {x y : AV} : aload hp true 2 (.ptr (.agg [x, y])) = some (.agg [x, y]) := id rfl
@[simp] theorem load_ref2 {hp : Nat → Option (List AV)} {i : Nat} {x y : AV} (h : hp i = some [x, y]) : aload hp true 2 (.ref i 0) = some (.agg [x, y]) := by simp [aload, h, apart]
@[simp] theorem faddr_r {i o : Nat} {ag : Bool} {sz k : Nat} : afaddr ag sz k (.ref i o) = some (.ref i (o + k)) := id rfl
def fmv (f : List UInt8) : Bool := f.all fun c => c == 109 || c == 118
def chk (l : List Int) (f : List UInt8) : Int := if meas l ≠ 0 then meas l else if f.length = l.length - 1 ∧ fmv f = true then 0 else 9
theorem fmv_iff (f : List UInt8) : fmv f = true ↔ ∀ c ∈ f, c ∈ ([109, 118] : List UInt8) := by simp [fmv]
theorem fmv_trim (f : List UInt8) : decide (tl [109, 118] (tr [109, 118] f) = []) = fmv f := by
  rw [Bool.eq_iff_iff, decide_eq_true_eq, trim_nil, fmv_iff]
theorem meas_0 {l : List Int} (h : meas l = 0) : 1 ≤ l.length ∧ l.length ≤ 7 ∧ (∀ n ∈ l, 1 ≤ n ∧ n ≤ 350) ∧ l.sum ≤ 350 := by
  unfold meas at h
  split at h <;> (try omega)
  split at h <;> (try omega)
  split at h <;> (try omega)
  rename_i h3
  split at h <;> (try omega)
  refine ⟨by omega, by omega, fun n hn => ?_, by omega⟩
  have := List.all_eq_true.1 h3 n hn
  simpa [btw] using this
/-- specs by a strip -/
def SS (f : AV → List Int → List UInt8 → Option AV) : List AV → Option AV
  | [.agg [x, .str s]] => match asI x with
    | some l => f x l s.data.toList
    | none => none
  | _ => none
theorem SS_i {f : AV → List Int → List UInt8 → Option AV} {x : AV} {l : List Int} (h : asI x = some l) {s : List UInt8} : SS f [.agg [x, .str (bs s)]] = f x l s := by simp [SS, h, bs_list]
theorem SS_ok {g : FuncId} {f : AV → List Int → List UInt8 → Option AV} (h : ∀ x l s r, asI x = some l → f x l s = some r → PCall Tryz.prog g [.agg [x, .str (bs s)]] r) : ∀ a r, SS f a = some r → PCall Tryz.prog g a r := by
  intro a r e
  unfold SS at e
  split at e <;> (try (cases e; done))
  rename_i x s
  split at e <;> (try (cases e; done))
  rename_i l hl
  rw [← bs_of s]
  exact h x l _ r hl e
def S49 : List AV → Option AV
  | [.str s, .str t] => if s.size < 1000000 ∧ t = bs [109, 118] then some (.str (bs (tl [109, 118] (tr [109, 118] s.data.toList)))) else none
  | _ => none
theorem S49_ok : ∀ a r, S49 a = some r → PCall Tryz.prog 118 a r := by
  intro a r e
  unfold S49 at e
  split at e <;> (try (cases e; done))
  rename_i s t
  split at e <;> (try (cases e; done))
  rename_i h
  obtain ⟨h1, rfl⟩ := h
  injection e with e; subst e
  have := p49 (l := s.data.toList) (by rw [bsz]; exact h1)
  rwa [bs_of] at this
theorem S49_i {l : List UInt8} (h : l.length < 1000000) : S49 [.str (bs l), .str (bs [109, 118])] = some (.str (bs (tl [109, 118] (tr [109, 118] l)))) := by simp [S49, h, bs_list]
def C1 : PCtx := (C0.add 117 (SI meas)).add 118 S49
theorem C1ok : CtxOk Tryz.prog C1 := (C0ok.add (SI_ok fun _ _ => p48)).add S49_ok
@[simp] theorem C1_48 : C1 117 = SI meas := id rfl
@[simp] theorem C1_49 : C1 118 = S49 := id rfl
theorem p19 {x : AV} {l : List Int} (hx : asI x = some l) (f : List UInt8) : PCall Tryz.prog 64 [.agg [x, .str (bs f)]] (.int .i64 (chk l f)) := by
  refine PCall.of C1ok ok19 (by simp) rfl fun hs hb => ?_
  have hll := asI_len hx
  have w1 : IntKind.i64.wrap ((l.length : Int) - 1) = (l.length : Int) - 1 := wrap64 (by omega) (by omega)
  by_cases hm : meas l = 0
  · obtain ⟨m1, m2, _, _⟩ := meas_0 hm
    by_cases hfl : f.length = l.length - 1
    · have hn : ((l.length - 1 : Nat) : Int) = (l.length : Int) - 1 := by omega
      have e : decide (tl [109, 118] (tr [109, 118] f) = []) = fmv f := fmv_trim f
      have h49 := S49_i (l := f) (by omega)
      cases hv : fmv f <;> rw [hv] at e <;> simp only [decide_eq_true_eq, decide_eq_false_iff_not] at e
      · simp [A19, R19, asI_ld hx, SI_i hx, alen_of hx, w1, hm, hn, h49, e, chk, hfl, hv]
      · simp [A19, R19, asI_ld hx, SI_i hx, alen_of hx, w1, hm, hn, h49, e, chk, hfl, hv]
    · have hn : ¬ (f.length : Int) = (l.length : Int) - 1 := by omega
      simp [A19, R19, asI_ld hx, SI_i hx, alen_of hx, w1, hm, hn, chk, hfl]
  · simp [A19, R19, asI_ld hx, SI_i hx, alen_of hx, w1, hm, chk]
end Go.Proofs.YtdcpkgedaflnmaaGreatDoor.Fo
set_option linter.unusedVariables false
set_option linter.unusedSimpArgs false
namespace Go.Proofs.YtdcpkgedaflnmaaGreatDoor.Fo
open Go Fw

def gI (l : List Int) (i : Nat) : Int := l.getD i 0
def gF (f : List UInt8) (i : Nat) : UInt8 := f.getD i 0
theorem gI_of {l : List Int} {i : Nat} (h : i < l.length) : gI l i = l[i] := by simp [gI, h]
theorem gF_of {f : List UInt8} {i : Nat} (h : i < f.length) : gF f i = f[i] := by simp [gF, h]
theorem idx_g {x : AV} {l : List Int} (h : asI x = some l) {k : IntKind} {i : Nat} (hi : i < l.length) : aidxS 1 x (.int k (i : Int)) = some (.ptr (.int .i64 (gI l i))) := by rw [gI_of hi]; exact aidx_nat h hi
theorem sidx_g {hs : HS} {f : List UInt8} {k : IntKind} {i : Nat} (h : i < f.length) : amem .sidx hs [.str (bs f), .int k (i : Int)] = some (.int .u8 (gF f i).toNat, hs) := by rw [gF_of h]; exact sidx_nat h
def canB (l : List Int) (f : List UInt8) (i : Nat) : Bool :=
  !decide (l.length = 1) && !(decide (0 < i) && decide (gI l (i - 1) < gI l i)) && !(decide (i + 1 < l.length) && decide (gI l (i + 1) < gI l i)) && (decide (i = 0) || decide (i + 1 = l.length) || !decide (gF f (i - 1) = gF f i))
theorem u8_eq {a b : UInt8} : ((a.toNat : Int) = (b.toNat : Int)) ↔ a = b := by
  rw [← UInt8.toNat_inj]; omega
/-- how the places beside i are written -/
structure Beside (x : AV) (l : List Int) (f : List UInt8) (i : Nat) : Prop where
  dn : 0 < i → IntKind.i64.wrap ((i : Int) - 1) = ((i - 1 : Nat) : Int)
  up : IntKind.i64.wrap ((i : Int) + 1) = ((i + 1 : Nat) : Int)
  at0 : aidxS 1 x (.int .i64 (i : Int)) = some (.ptr (.int .i64 (gI l i)))
  atd : aidxS 1 x (.int .i64 ((i - 1 : Nat) : Int)) = some (.ptr (.int .i64 (gI l (i - 1))))
  atu : i + 1 < l.length → aidxS 1 x (.int .i64 ((i + 1 : Nat) : Int)) = some (.ptr (.int .i64 (gI l (i + 1))))
  fd : 0 < i → ∀ hs : HS, amem .sidx hs [.str (bs f), .int .i64 ((i - 1 : Nat) : Int)] = some (.int .u8 (gF f (i - 1)).toNat, hs)
  f0 : i + 1 < l.length → ∀ hs : HS, amem .sidx hs [.str (bs f), .int .i64 (i : Int)] = some (.int .u8 (gF f i).toNat, hs)
theorem beside {x : AV} {l : List Int} (hx : asI x = some l) {f : List UInt8} (hf : f.length = l.length - 1) {i : Nat} (hi : i < l.length) : Beside x l f i := by
  have hll := asI_len hx
  refine ⟨fun h => ?_, wrap_nat1 (by omega), idx_g hx hi, idx_g hx (by omega), fun h => idx_g hx h, fun h hs => sidx_g (by omega), fun h hs => sidx_g (by omega)⟩
  rw [wrap64 (by omega) (by omega)]; omega
theorem p66 {x : AV} {l : List Int} (hx : asI x = some l) {f : List UInt8} (hf : f.length = l.length - 1) {i : Nat} (hi : i < l.length) : PCall Tryz.prog 147 [.agg [x, .str (bs f)], .int .i64 (i : Int)] (.bool (canB l f i)) := by
  refine PCall.of C1ok ok66 (by simp) rfl fun hs hb => ?_
  have hll := asI_len hx
  have B := beside hx hf hi
  by_cases h1 : l.length = 1
  · simp [A66, R66, asI_ld hx, alen_of hx, h1, canB]
  have h1' : ¬ (l.length : Int) = 1 := by omega
  by_cases h0 : 0 < i
  · have h0' : (0 : Int) < (i : Int) := by omega
    have h0n : ¬ i = 0 := by omega
    by_cases hd : gI l (i - 1) < gI l i
    · simp [A66, R66, asI_ld hx, alen_of hx, h1, h1', canB, h0, h0', B.dn h0, B.at0, B.atd, hd]
    by_cases hu : i + 1 < l.length
    · have hu' : ((i + 1 : Nat) : Int) < (l.length : Int) := by omega
      have hun : ¬ i + 1 = l.length := by omega
      have hun' : ¬ ((i + 1 : Nat) : Int) = (l.length : Int) := by omega
      have atu := B.atu hu
      have up := B.up
      generalize hk : ((i + 1 : Nat) : Int) = k1 at atu hu' hun' up
      by_cases hv : gI l (i + 1) < gI l i
      · simp [A66, R66, asI_ld hx, alen_of hx, h1, h1', canB, h0, h0', B.dn h0, B.at0, B.atd, hd, up, atu, hu, hu', hv]
      · by_cases he : gF f (i - 1) = gF f i
        · have he' := u8_eq.2 he
          simp [A66, R66, asI_ld hx, alen_of hx, h1, h1', canB, h0, h0', h0n, B.dn h0, B.at0, B.atd, hd, up, atu, hu, hu', hv, hun, hun', B.fd h0, B.f0 hu, he, he']
        · have he' : ¬ ((gF f (i - 1)).toNat : Int) = ((gF f i).toNat : Int) := fun e => he (u8_eq.1 e)
          simp [A66, R66, asI_ld hx, alen_of hx, h1, h1', canB, h0, h0', h0n, B.dn h0, B.at0, B.atd, hd, up, atu, hu, hu', hv, hun, hun', B.fd h0, B.f0 hu, he, he']
    · have hu' : ¬ ((i + 1 : Nat) : Int) < (l.length : Int) := by omega
      have hun : i + 1 = l.length := by omega
      have hun' : ((i + 1 : Nat) : Int) = (l.length : Int) := by omega
      have up := B.up
      generalize hk : ((i + 1 : Nat) : Int) = k1 at hu' hun' up
      simp [A66, R66, asI_ld hx, alen_of hx, h1, h1', canB, h0, h0', h0n, B.dn h0, B.at0, B.atd, hd, up, hu, hu', hun, hun']
  · obtain rfl : i = 0 := by omega
    have hu : 1 < l.length := by omega
    have i0 : aidxS 1 x (.int .i64 0) = some (.ptr (.int .i64 (gI l 0))) := by simpa using B.at0
    have i1 : aidxS 1 x (.int .i64 1) = some (.ptr (.int .i64 (gI l 1))) := by simpa using B.atu hu
    have w1 : IntKind.i64.wrap 1 = 1 := by decide
    have hl1 : (1 : Int) < (l.length : Int) := by omega
    have hl2 : ¬ 1 = l.length := by omega
    by_cases hv : gI l 1 < gI l 0
    · simp [A66, R66, asI_ld hx, alen_of hx, h1, h1', canB, i0, i1, w1, hu, hl1, hl2, hv]
    · simp [A66, R66, asI_ld hx, alen_of hx, h1, h1', canB, i0, i1, w1, hu, hl1, hl2, hv]
end Go.Proofs.YtdcpkgedaflnmaaGreatDoor.Fo
set_option linter.unusedVariables false
set_option linter.unusedSimpArgs false
namespace Go.Proofs.YtdcpkgedaflnmaaGreatDoor.Fo
open Go Fw

def SChk : AV → List Int → List UInt8 → Option AV := fun _ l f => some (.int .i64 (chk l f))
def SCan : List AV → Option AV
  | [.agg [x, .str s], .int .i64 i] => match asI x with
    | some l => if s.data.toList.length = l.length - 1 ∧ 0 ≤ i ∧ i < l.length then some (.bool (canB l s.data.toList i.toNat)) else none
    | none => none
  | _ => none
theorem SCan_ok {g : FuncId} (h : ∀ (x : AV) (l : List Int) (f : List UInt8) (i : Nat), asI x = some l → f.length = l.length - 1 → i < l.length → PCall Tryz.prog g [.agg [x, .str (bs f)], .int .i64 (i : Int)] (.bool (canB l f i))) : ∀ a r, SCan a = some r → PCall Tryz.prog g a r := by
  intro a r e
  unfold SCan at e
  split at e <;> (try (cases e; done))
  rename_i x s i
  split at e <;> (try (cases e; done))
  rename_i l hl
  split at e <;> (try (cases e; done))
  rename_i hc
  obtain ⟨c1, c2, c3⟩ := hc
  injection e with e; subst e
  have := h x l s.data.toList i.toNat hl c1 (by omega)
  rw [bs_of, Int.toNat_of_nonneg c2] at this
  exact this
def C2 : PCtx := (C1.add 64 (SS SChk)).add 147 SCan
theorem C2ok : CtxOk Tryz.prog C2 := (C1ok.add (SS_ok fun x l s r hx e => by simp only [SChk] at e; injection e with e; subst e; exact p19 hx s)).add (SCan_ok fun _ _ _ _ a b c => p66 a b c)
@[simp] theorem C2_19 : C2 64 = SS SChk := id rfl
@[simp] theorem C2_66 : C2 147 = SCan := id rfl
@[simp] theorem C2_51 : C2 71 = S3 btw := id rfl
theorem chk_i {x : AV} {l : List Int} (hx : asI x = some l) {f : List UInt8} : SS SChk [.agg [x, .str (bs f)]] = some (.int .i64 (chk l f)) := SS_i hx
theorem chk_0 {l : List Int} {f : List UInt8} (h : chk l f = 0) : meas l = 0 ∧ f.length = l.length - 1 ∧ fmv f = true := by
  unfold chk at h
  split at h
  · exact absurd h (by assumption)
  · rename_i hm
    split at h
    · rename_i h2; exact ⟨by simpa using hm, h2.1, h2.2⟩
    · omega
theorem plain_outV (l : List Int) : (outV 1 (ints l)).plain = true := by
  cases l with
  | nil => rfl
  | cons a l => exact plain_ints (a :: l)
end Go.Proofs.YtdcpkgedaflnmaaGreatDoor.Fo
set_option linter.unusedVariables false
set_option linter.unusedSimpArgs false
namespace Go.Proofs.YtdcpkgedaflnmaaGreatDoor.Fo
open Go Fw

/-- a list of numbers under way that has room of its own -/
def Own1 (hs : HS) (x : AV) (l : List Int) : Prop := (x = .nilsl ∧ l = []) ∨ ∃ k, x = .sl 1 (ints l) (.own k) ∧ hs.tok k = true ∧ k < hs.nt
theorem Own1.asI {hs : HS} {x : AV} {l : List Int} (h : Own1 hs x l) (hl : l.length < 4294967296) : Fw.asI x = some l := by
  rcases h with ⟨rfl, rfl⟩ | ⟨k, rfl, _, _⟩
  · rfl
  · exact asI_sl hl
theorem append_eqH {sz : Nat} {hs : HS} {p q : AV} {xs ys : List AV} (hp : aelemsH hs.heap p = some xs) (hq : aelemsH hs.heap q = some ys) (h1 : aszOk sz p = true) (h2 : aszOk sz q = true) (hl : xs.length + ys.length ≤ 1073741824)
    (hm : ∀ a b c d e f, p ≠ .msl a b c d e f) : aappend sz hs p q = if ys = [] then some (p, hs) else appP sz hs xs ys p := by
  unfold aappend
  rw [hp, hq]
  simp only [h1, h2, hl, and_self, if_true]
  split
  · rfl
  · cases p with
    | sl sz' xs' cp => cases cp <;> rfl
    | msl ag sz' i off len ex => exact absurd rfl (hm _ _ _ _ _ _)
    | _ => rfl
theorem own_append {n : Nat} {hs : HS} {x q : AV} {l m : List Int} (h : Own1 hs x l) (hq : RdI n hs.heap q m) (hl : l.length + m.length ≤ 1000000000) :
    ∃ y hs', aappend 1 hs x q = some (y, hs') ∧ Own1 hs' y (l ++ m) ∧ SameMem hs hs' ∧ (x = .nilsl → m = [] → y = .nilsl) := by
  obtain ⟨e1, e2⟩ := hq.elems
  rcases h with ⟨rfl, rfl⟩ | ⟨k, rfl, h1, h2⟩
  · rw [append_eqH (xs := []) rfl e1 rfl e2 (by simp [ints] at hl ⊢; omega) (by simp)]
    split
    · rename_i hy
      have : m = [] := by simpa [ints] using hy
      subst this
      exact ⟨_, _, rfl, .inl ⟨rfl, rfl⟩, .refl _, fun _ _ => rfl⟩
    · rename_i hy
      refine ⟨_, _, rfl, .inr ⟨hs.nt, by simp, by simp, by simp⟩, ⟨rfl, rfl⟩, fun _ hm => absurd (by rw [hm]; rfl) hy⟩
  · rw [append_eqH (xs := ints l) rfl e1 (by simp [aszOk]) e2 (by simp [ints]; omega) (by simp)]
    split
    · rename_i hy
      have : m = [] := by simpa [ints] using hy
      subst this
      exact ⟨_, _, rfl, .inr ⟨k, by simp, h1, h2⟩, .refl _, fun h => by cases h⟩
    · rename_i hy
      simp only [appP, h1, if_true]
      refine ⟨_, _, rfl, .inr ⟨hs.nt, by simp [ints], by simp, by simp⟩, ⟨rfl, rfl⟩, fun h => by cases h⟩
/-- the lists one behind the other: the first i -/
def catL (ls : Nat → List Int) : Nat → List Int
  | 0 => []
  | i + 1 => catL ls i ++ ls i
theorem catL_le (ls : Nat → List Int) : ∀ {i j : Nat}, i ≤ j → (catL ls i).length ≤ (catL ls j).length
  | i, 0, h => by have : i = 0 := by omega
                  subst this; exact Nat.le_refl _
  | i, j + 1, h => by
    rcases Nat.lt_or_ge i (j + 1) with h' | h'
    · have := catL_le ls (i := i) (j := j) (by omega)
      simp only [catL, List.length_append]; omega
    · have : i = j + 1 := by omega
      subst this; exact Nat.le_refl _
theorem p89 (n : Nat) (hn : n ≤ 1000000) (hs : HS) : FCall Tryz.prog 138 [.nilsl, .int .i64 (n : Int)] hs fun e hs' => ∃ y, e = .ret y ∧ Own1 hs' y [] ∧ SameMem hs hs' ∧ (n = 0 → y = .nilsl) ∧ (n ≠ 0 → y ≠ .nilsl) := by
  refine FCall.ofAt CtxOk.nil ok89 (by simp) ?_
  simp [A89, R89]
  refine At.dec (fun h => ?_) (fun h => ?_)
  · omega
  have w1 : IntKind.i64.wrap ((n : Int)) = n := by rw [wrap64 (by omega) (by omega)]
  have w2 : IntKind.i64.wrap 0 = 0 := by decide
  simp [acap, w1, w2]
  refine At.dec (fun h2 => ?_) (fun h2 => ?_)
  · have hn0 : 0 < n := by omega
    have ha : aslice 1 .nilsl none (some (.int .i64 0)) none = some .nilsl := by simp [aslice, aidx, asliceN]
    have hg : ∀ m k, aslice 1 (.gsl 1 m k) none (some (.int .i64 0)) none = some (.sl 1 [] (.own k)) := fun m k => by simp [aslice, aidx]
    simp [acap, ha, hg, aappz, hn0, show (n : Int) ≤ 1000000 by omega]
    exact At.of ⟨.inr ⟨hs.nt, by simp [ints], by simp, by simp⟩, ⟨rfl, rfl⟩, by omega⟩
  · have hn0 : n = 0 := by omega
    subst hn0
    simp
    exact At.of ⟨.inl ⟨rfl, rfl⟩, .refl _⟩
theorem p68 {n : Nat} {hs : HS} {x : AV} {xs : List AV} {c : Cap} {ls : Nat → List Int} (hf : x = .nilsl ∧ xs = [] ∨ x = .sl 1 xs c) (hx : ∀ (i : Nat) (h : i < xs.length), RdI n hs.heap xs[i] (ls i)) (hlen : ∀ i, i ≤ xs.length → (catL ls i).length ≤ 1000000) (hxl : xs.length ≤ 1000) :
    FCall Tryz.prog 112 [x] hs fun e hs' => ∃ y, e = .ret y ∧ Own1 hs' y (catL ls xs.length) ∧ SameMem hs hs' := by
  refine FCall.ofAt CtxOk.nil ok68 (by simp) ?_
  simp [A68, R68]
  have hal : alenK false x = some (.int .i64 xs.length) := by
    rcases hf with ⟨rfl, rfl⟩ | rfl
    · rfl
    · simp [alenK]
  have hidx : ∀ i (h : i < xs.length), aidxS 1 x (.int .i64 (i : Int)) = some (.ptr xs[i]) := fun i h => by
    rcases hf with ⟨rfl, rfl⟩ | rfl
    · simp at h
    · simp [aidxS, h]
  have hld : ∀ (i : Nat) (h : i < xs.length) hp, aload hp false 1 (.ptr xs[i]) = some xs[i] := fun i h hp => leaf_ld (hx i h).leaf hp
  simp [hal]
  refine At.loop (fun (i : Nat) s => i ≤ xs.length ∧ s.hs = hs ∧ s.env 0 = x ∧ s.env 3 = .int .i64 ((catL ls i).length : Int) ∧ s.env 9 = x ∧ s.env 10 = .int .i64 (xs.length : Int) ∧ s.env 11 = .int .i64 (i : Int)) (fun i => xs.length - i) 0 ?_ ?_
  · simp [catL, hal]
  rintro N i s hN ⟨hi, e_, e0, e3, e9, e10, e11⟩
  simp [e10, e11]
  refine At.dec (fun hlt => ?_) (fun hlt => ?_)
  · have hi' : i < xs.length := by omega
    have hl1 := hlen (i + 1) (by omega)
    simp only [catL, List.length_append] at hl1
    have w1 : IntKind.i64.wrap (((catL ls i).length : Int) + ((ls i).length : Int)) = ((catL ls i).length : Int) + ((ls i).length : Int) := wrap64 (by omega) (by omega)
    simp [e3, e9, e11, hidx i hi', hld i hi', (hx i hi').len, w1]
    refine At.dec (fun h => ?_) (fun h => ?_)
    · omega
    · simp [e11]
      refine hN (i + 1) _ (by omega) ⟨by omega, ?_⟩
      simp [e_, e0, e9, e10, catL, wrap_nat1 (show i < _ by omega)]
  · have : i = xs.length := by omega
    subst this
    have hln := hlen xs.length (Nat.le_refl _)
    simp [e3]
    refine At.hc (p89 _ hln s.hs) ?_ ?_
    · rintro v hs2 ⟨y, hv, ho, hsm, hy0, hy1⟩
      injection hv with hv; subst hv
      rw [e_] at hsm
      simp [e0, hal]
      refine At.loop (fun (i : Nat) s => i ≤ xs.length ∧ SameMem hs s.hs ∧ s.env 25 = x ∧ s.env 26 = .int .i64 (xs.length : Int) ∧ s.env 27 = .int .i64 (i : Int) ∧ Own1 s.hs (s.env 6) (catL ls i)) (fun i => xs.length - i) 0 ?_ ?_
      · simp [catL, hal, hsm]; exact ho
      rintro N2 i s hN2 ⟨hi, hsm, e25, e26, e27, ho⟩
      simp [e26, e27]
      refine At.dec (fun hlt => ?_) (fun hlt => ?_)
      · have hi' : i < xs.length := by omega
        have hl1 := hlen (i + 1) (by omega)
        simp only [catL, List.length_append] at hl1
        have hr := (hx i hi')
        rw [← hsm.heap] at hr
        obtain ⟨y2, hs3, b1, b2, b3, b4⟩ := own_append ho hr (by omega)
        simp [e25, e27, hidx i hi', hld i hi', b1]
        refine hN2 (i + 1) _ (by omega) ⟨by omega, ?_⟩
        simp [e25, e26, catL, wrap_nat1 (show i < _ by omega)]
        exact ⟨hsm.trans b3, b2⟩
      · have : i = xs.length := by omega
        subst this
        simp
        exact At.of ⟨ho, hsm⟩
    · rintro v hs2 ⟨y, hv, _⟩
      cases hv
/-! the error of a work -/
end Go.Proofs.YtdcpkgedaflnmaaGreatDoor.Fo
set_option linter.unusedVariables false
set_option linter.unusedSimpArgs false
namespace Go.Proofs.YtdcpkgedaflnmaaGreatDoor.Fo
open Go Fw

theorem asI_ne {x : AV} {l : List Int} (h : asI x = some l) (hne : l ≠ []) : ∃ c, x = .sl 1 (ints l) c := by
  rcases asI_inv h with ⟨rfl, rfl⟩ | h
  · exact absurd rfl hne
  · exact h
theorem p61 {x : AV} {l : List Int} (hx : asI x = some l) (hne : l ≠ []) (hl : l.length ≤ 1000000) : PCall Tryz.prog 69 [x] (outV 1 (ints l)) := by
  refine PCall.of CtxOk.nil ok61 (by simp) (plain_outV l) fun hs hb => ?_
  obtain ⟨c, hc⟩ := asI_ne hx hne
  obtain ⟨y, hs', a1, a2, a3, a4⟩ := copy_outs (hs := hs) hx hne hl
  have hnil : abin 2 .eql x .nilsl = some (.bool false) := by rw [hc]; rfl
  simp [A61, R61, hnil, astoAll, a1]
  exact a2.sh
theorem p68p {a b c : AV} {la lb lc : List Int} (ha : asI a = some la) (hb : asI b = some lb) (hc : asI c = some lc) (hne : la ++ lb ++ lc ≠ []) (hl : (la ++ lb ++ lc).length ≤ 1000000) : PCall Tryz.prog 112 [.sl 1 [a, b, c] .exact] (outV 1 (ints (la ++ lb ++ lc))) := by
  refine ⟨plain_outV _, fun hs hbare => FCall.share ?_⟩
  let ls : Nat → List Int := fun i => match i with | 0 => la | 1 => lb | _ => lc
  have h := p68 (n := 0) (hs := hs) (x := .sl 1 [a, b, c] .exact) (xs := [a, b, c]) (ls := ls) (.inr rfl) (fun i hi => ?_) (fun i hi => ?_) (by simp)
  · refine h.mono ?_
    rintro e hs' ⟨y, rfl, ho, _⟩
    have e3 : catL ls [a, b, c].length = la ++ lb ++ lc := by simp [catL, ls]
    rw [e3] at ho
    refine ⟨y, rfl, ?_⟩
    rcases ho with ⟨_, h0⟩ | ⟨k, rfl, _⟩
    · exact absurd h0 hne
    · rw [outV_ne (by intro h; exact hne (by simpa [ints] using h)), share_sl, share_ints]
      rfl
  · match i, hi with
    | 0, _ => exact .of ha
    | 1, _ => exact .of hb
    | 2, _ => exact .of hc
  · have e3 : (catL ls 3).length ≤ 1000000 := by
      have : catL ls 3 = la ++ lb ++ lc := by simp [catL, ls]
      rw [this]; exact hl
    exact Nat.le_trans (catL_le ls (by simpa using hi)) e3
/-- a strip behind a step -/
def stepL (l : List Int) (f : List UInt8) (i : Nat) : List Int × List UInt8 :=
  if i = 0 then (l.drop 1, f.drop 1) else if i + 1 = l.length then (l.take (l.length - 1), f.take (l.length - 2))
  else (l.take (i - 1) ++ [gI l (i - 1) - gI l i + gI l (i + 1)] ++ l.drop (i + 2), f.take (i - 1) ++ f.drop (i + 1))
/-- error, and what is left -/
def doR (l : List Int) (f : List UInt8) (i : Int) : Int × List Int × List UInt8 :=
  if chk l f ≠ 0 then (chk l f, [], []) else if ¬ (0 ≤ i ∧ i < l.length) ∨ l.length = 1 then (5, [], []) else if canB l f i.toNat = false then (13, [], []) else (0, stepL l f i.toNat)
def stV (l : List Int) (f : List UInt8) : AV := .agg [outV 1 (ints l), .str (bs f)]
def doV (r : Int × List Int × List UInt8) : AV := .tup [stV r.2.1 r.2.2, .int .i64 r.1]
def S61 : List AV → Option AV
  | [x] => match asI x with
    | some l => if l ≠ [] ∧ l.length ≤ 1000000 then some (outV 1 (ints l)) else none
    | none => none
  | _ => none
theorem S61_ok : ∀ a r, S61 a = some r → PCall Tryz.prog 69 a r := by
  intro a r e
  unfold S61 at e
  split at e <;> (try (cases e; done))
  split at e <;> (try (cases e; done))
  rename_i l hl
  split at e <;> (try (cases e; done))
  rename_i h
  injection e with e; subst e
  exact p61 hl h.1 h.2
theorem S61_i {x : AV} {l : List Int} (hx : asI x = some l) (hne : l ≠ []) (hl : l.length ≤ 1000000) : S61 [x] = some (outV 1 (ints l)) := by simp [S61, hx, hne, hl]
def S68 : List AV → Option AV
  | [.sl 1 [a, b, c] .exact] => match asI a, asI b, asI c with
    | some la, some lb, some lc => if la ++ lb ++ lc ≠ [] ∧ (la ++ lb ++ lc).length ≤ 1000000 then some (outV 1 (ints (la ++ lb ++ lc))) else none
    | _, _, _ => none
  | _ => none
theorem S68_ok : ∀ a r, S68 a = some r → PCall Tryz.prog 112 a r := by
  intro a r e
  unfold S68 at e
  split at e <;> (try (cases e; done))
  split at e <;> (try (cases e; done))
  rename_i la lb lc ha hb hc
  split at e <;> (try (cases e; done))
  rename_i h
  injection e with e; subst e
  exact p68p ha hb hc h.1 h.2
def C3 : PCtx := (C2.add 69 S61).add 112 S68
theorem C3ok : CtxOk Tryz.prog C3 := (C2ok.add S61_ok).add S68_ok
@[simp] theorem C3_61 : C3 69 = S61 := id rfl
@[simp] theorem C3_68 : C3 112 = S68 := id rfl
@[simp] theorem C3_19 : C3 64 = SS SChk := id rfl
@[simp] theorem C3_66 : C3 147 = SCan := id rfl
@[simp] theorem C3_51 : C3 71 = S3 btw := id rfl
@[simp] theorem st2_new {hp : Nat → Option (List AV)} {i : Nat} {u v a b : AV} : astore (fun k => if k = i then some [u, v] else hp k) 2 (.ref i 0) (.agg [a, b]) = some (fun k => if k = i then some [a, b] else (if k = i then some [u, v] else hp k)) := by
  simp [astore, AV.sto, AV.cells, setL]
@[simp] theorem share_outV (l : List Int) : (outV 1 (ints l)).share = outV 1 (ints l) := by
  cases l with
  | nil => rfl
  | cons a r =>
    show (AV.sl 1 (ints (a :: r)) .shared).share = _
    rw [share_sl, share_ints]; rfl
/-- a value of one cell that reads alike from outside -/
structure One (z : AV) : Prop where
  st : z.sto = true
  ce : z.cells = [z]
  sh : z.share = z
theorem one_outV (l : List Int) : One (outV 1 (ints l)) := ⟨by cases l <;> rfl, by cases l <;> rfl, share_outV l⟩
theorem sto_in {k : IntKind} {n : Int} : (AV.int k n).sto = true := id rfl
theorem cel_in {k : IntKind} {n : Int} : (AV.int k n).cells = [.int k n] := id rfl
end Go.Proofs.YtdcpkgedaflnmaaGreatDoor.Fo
set_option linter.unusedVariables false
set_option linter.unusedSimpArgs false
namespace Go.Proofs.YtdcpkgedaflnmaaGreatDoor.Fo
open Go Fw

/-- a list under way that began as an empty literal -/
structure Lit0 (hs : HS) (y : AV) (l : List Int) : Prop where
  fr : Fresh hs y
  el : aelems y = some (ints l)
  sz : aszOk 1 y = true
  is : y = .sl 1 [] .exact ∧ l = [] ∨ ∃ k, y = .sl 1 (ints l) (.own k)
theorem Lit0.nil {hs : HS} : Lit0 hs (.sl 1 [] .exact) [] := ⟨trivial, rfl, rfl, .inl ⟨rfl, rfl⟩⟩
theorem Lit0.one {hs : HS} {y : AV} {l : List Int} (h : Lit0 hs y l) : y.sto = true ∧ y.cells = [y] := by
  rcases h.is with ⟨rfl, _⟩ | ⟨k, rfl⟩ <;> exact ⟨rfl, rfl⟩
theorem Lit0.share {hs : HS} {y : AV} {l : List Int} (h : Lit0 hs y l) (hne : l ≠ []) : y.share = outV 1 (ints l) := by
  rcases h.is with ⟨_, h0⟩ | ⟨k, rfl⟩
  · exact absurd h0 hne
  · rw [share_sl, share_ints, outV_ne (by simpa [ints] using hne)]
    rfl
end Go.Proofs.YtdcpkgedaflnmaaGreatDoor.Fo
set_option linter.unusedVariables false
set_option linter.unusedSimpArgs false
namespace Go.Proofs.YtdcpkgedaflnmaaGreatDoor.Fo
open Go Fw

def C4 : PCtx := C3
def SDo : List AV → Option AV
  | [.agg [x, .str s], .int .i64 i] => (asI x).map fun l => doV (doR l s.data.toList i)
  | _ => none
def C5 : PCtx := C4.add 121 SDo
@[simp] theorem C5_32 : C5 121 = SDo := id rfl
@[simp] theorem C5_19 : C5 64 = SS SChk := id rfl
end Go.Proofs.YtdcpkgedaflnmaaGreatDoor.Fo
set_option linter.unusedVariables false
set_option linter.unusedSimpArgs false
namespace Go.Proofs.YtdcpkgedaflnmaaGreatDoor.Fo
open Go Fw

theorem sum_split (l : List Int) (i : Nat) : l.sum = (l.take i).sum + (l.drop i).sum := by
  rw [← List.sum_append, List.take_append_drop]
theorem sum_nonneg {l : List Int} (h : ∀ n ∈ l, 1 ≤ n ∧ n ≤ 350) : 0 ≤ l.sum := by
  induction l with
  | nil => simp
  | cons a l ih =>
    have := h a (by simp)
    have := ih fun n hn => h n (by simp [hn])
    simp; omega
end Go.Proofs.YtdcpkgedaflnmaaGreatDoor.Fo
