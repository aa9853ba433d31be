/-
  A law of this seat's translation, compacted, held against the loaded program by the kernel. Printed by wip/tools/Gex.lean.
  Spans of strips by numbers: the law's contract. Own work.
-/
import Derived.Test.YtedpcenghofpoaaDoorC1
import Derived.Test.YtedpcenghofpoaaDoorG5
namespace Go.Proofs.YtedpcenghofpoaaDoor
open Go Fw
def A12 : ACode := .seq (.reg [⟨some 1, none, .boxi (.t 0)⟩, ⟨some 2, none, .mv (.c (.bool false))⟩])
  (.seq (.reg [⟨some 10, none, .load true 2 (.t 1)⟩, ⟨some 11, none, .pcall 39 [.t 10]⟩, ⟨some 3, none, .alloc [.nilsl, .str (bs [])]⟩, ⟨none, none, .store 2 (.t 3) (.t 11)⟩])
  (.seq (.reg [⟨some 13, none, .load true 2 (.t 3)⟩, ⟨some 14, none, .pcall 17 [.t 13]⟩, ⟨some 12, none, .mv (.t 14)⟩, ⟨some 15, none, .extract (.t 12) 0⟩, ⟨some 16, none, .extract (.t 12) 1⟩, ⟨some 4, none, .mv (.t 15)⟩, ⟨some 5, none, .mv (.t 16)⟩])
  (.seq (.seq (.reg [⟨some 17, none, .mv (.t 5)⟩, ⟨some 18, none, .bin 0 .neq (.t 17) (.c (.int .i64 0))⟩, ⟨some 19, none, .mv (.t 18)⟩, ⟨some 20, some (19, false), .mv (.t 4)⟩, ⟨some 21, some (19, false), .len false (.t 20)⟩, ⟨some 22, some (19, false), .faddr false 1 0 (.t 3)⟩, ⟨some 23, some (19, false), .load false 1 (.t 22)⟩, ⟨some 24, some (19, false), .len false (.t 23)⟩, ⟨some 25, some (19, false), .bin 0 .neq (.t 21) (.t 24)⟩, ⟨some 26, none, .pick (.t 19) (.c (.bool true)) (.t 25)⟩])
  (.cond (.t 26) (.seq (.reg [⟨some 2, none, .mv (.c (.bool false))⟩])
  (.ret)) (.skip)))
  (.seq (.reg [⟨some 6, none, .mv (.c (.int .i64 0))⟩])
  (.seq (.seq (.reg [⟨some 27, none, .mv (.t 4)⟩, ⟨some 28, none, .len false (.t 27)⟩, ⟨some 29, none, .mv (.c (.int .i64 0))⟩])
  (.block 0 (.loop (.seq (.reg [⟨some 30, none, .bin 0 .lss (.t 29) (.t 28)⟩])
  (.seq (.cond (.t 30) (.skip) (.exit 0))
  (.seq (.block 1 (.seq (.reg [⟨some 31, none, .mv (.t 29)⟩, ⟨some 32, none, .iaddrS 2 (.t 27) (.t 29)⟩, ⟨some 33, none, .load true 2 (.t 32)⟩, ⟨some 8, none, .alloc [.int .i64 0, .int .i64 0]⟩, ⟨some 7, none, .mv (.t 31)⟩, ⟨none, none, .store 2 (.t 8) (.t 33)⟩])
  (.seq (.reg [⟨some 34, none, .mv (.t 6)⟩, ⟨some 35, none, .faddr false 1 0 (.t 3)⟩, ⟨some 36, none, .load false 1 (.t 35)⟩, ⟨some 37, none, .mv (.t 7)⟩, ⟨some 38, none, .iaddrS 1 (.t 36) (.t 37)⟩, ⟨some 39, none, .load false 1 (.t 38)⟩, ⟨some 40, none, .bin 0 .add (.t 34) (.t 39)⟩, ⟨some 9, none, .mv (.t 40)⟩])
  (.seq (.seq (.reg [⟨some 41, none, .mv (.t 7)⟩, ⟨some 42, none, .bin 0 .rem (.t 41) (.c (.int .i64 2))⟩, ⟨some 43, none, .bin 0 .eql (.t 42) (.c (.int .i64 1))⟩])
  (.cond (.t 43) (.reg [⟨some 44, none, .mv (.t 6)⟩, ⟨some 45, none, .faddr false 1 0 (.t 3)⟩, ⟨some 46, none, .load false 1 (.t 45)⟩, ⟨some 47, none, .mv (.t 7)⟩, ⟨some 48, none, .iaddrS 1 (.t 46) (.t 47)⟩, ⟨some 49, none, .load false 1 (.t 48)⟩, ⟨some 50, none, .bin 0 .sub (.t 44) (.t 49)⟩, ⟨some 9, none, .mv (.t 50)⟩]) (.skip)))
  (.seq (.seq (.reg [⟨some 51, none, .faddr false 1 0 (.t 8)⟩, ⟨some 52, none, .load false 1 (.t 51)⟩, ⟨some 53, none, .mv (.t 6)⟩, ⟨some 54, none, .mv (.t 9)⟩, ⟨some 55, none, .min (.t 53) (.t 54)⟩, ⟨some 56, none, .bin 0 .neq (.t 52) (.t 55)⟩, ⟨some 57, none, .mv (.t 56)⟩, ⟨some 58, some (57, false), .faddr false 1 1 (.t 8)⟩, ⟨some 59, some (57, false), .load false 1 (.t 58)⟩, ⟨some 60, some (57, false), .mv (.t 6)⟩, ⟨some 61, some (57, false), .mv (.t 9)⟩, ⟨some 62, some (57, false), .max (.t 60) (.t 61)⟩, ⟨some 63, some (57, false), .bin 0 .neq (.t 59) (.t 62)⟩, ⟨some 64, none, .pick (.t 57) (.c (.bool true)) (.t 63)⟩])
  (.cond (.t 64) (.seq (.reg [⟨some 2, none, .mv (.c (.bool false))⟩])
  (.ret)) (.skip)))
  (.reg [⟨some 65, none, .mv (.t 9)⟩, ⟨some 6, none, .mv (.t 65)⟩]))))))
  (.reg [⟨some 66, none, .bin 0 .add (.t 29) (.c (.int .i64 1))⟩, ⟨some 29, none, .mv (.t 66)⟩])))))))
  (.seq (.reg [⟨some 67, none, .pcall 15 []⟩, ⟨some 2, none, .mv (.t 67)⟩])
  (.ret)))))))
def R12 : List ARes := [.t 2]
theorem ok12 : FnOk Tryd.prog 12 [] pureFns A12 R12 68 := ⟨⟨Tryd.f12, _, Tryd.func12, rfl, rfl, by kernel_rfl, by kernel_rfl⟩, by kernel_rfl⟩
end Go.Proofs.YtedpcenghofpoaaDoor
set_option linter.unusedVariables false
set_option linter.unusedSimpArgs false
namespace Go.Proofs.YtedpcenghofpoaaDoor
open Go Fw

/-- a context with the strips of the examples, lists, works and strips by numbers -/
theorem ctxL : ∃ C : PCtx, CtxOk Tryd.prog C ∧ C 15 [] = some (.bool true) ∧ C 43 [] = some sV ∧ C 42 [] = some tV ∧ (∀ l, C 44 [exV l] = some (exV l)) ∧
    (∀ {x : AV} {es : List Int} {g : Nat}, IsU8 x es → g < 256 → C 39 [.agg [x, .int .u8 (g : Int)]] = some (madeV es g)) ∧ ∀ g, ¬ g = 15 → ¬ g = 43 → ¬ g = 42 → ¬ g = 44 → ¬ g = 39 → C g = CA g := by
  obtain ⟨C1', hC1, h44, n1⟩ := ctx44 CAok
  obtain ⟨C2', hC2, h43, n2⟩ := ctx_pt hC1 43 _ _ p43
  obtain ⟨C3', hC3, h42, n3⟩ := ctx_pt hC2 42 _ _ p42
  obtain ⟨C4', hC4, h15, n4⟩ := ctx_pt hC3 15 _ _ p15
  obtain ⟨C, hC, h39, n5⟩ := ctx_fam hC4 39 (fun q : {q : AV × List Int × Nat // IsU8 q.1 q.2.1 ∧ q.2.2 < 256} => [.agg [q.1.1, .int .u8 (q.1.2.2 : Int)]]) (fun q => madeV q.1.2.1 q.1.2.2) (fun q => p39 q.2.1 q.2.2) (by
    rintro ⟨⟨x, es, g⟩, h1, h2⟩ ⟨⟨x', es', g'⟩, h1', h2'⟩ e
    simp at e
    obtain ⟨rfl, e2⟩ := e
    have e2 : g = g' := by omega
    subst e2
    have : es = es' := by
      rcases h1.1 with ⟨a1, a2⟩ | a1 <;> rcases h1'.1 with ⟨b1, b2⟩ | b1
      · simp only at a2 b2; rw [a2, b2]
      · simp only at a1 b1; rw [a1] at b1; cases b1
      · simp only at a1 b1; rw [b1] at a1; cases a1
      · simp only at a1 b1
        rw [a1] at b1
        injection b1 with _ b1
        have hinj : ∀ (p q : List Int), p.map (AV.int .u8) = q.map (AV.int .u8) → p = q := by
          intro p
          induction p with
          | nil => intro q h; cases q with
            | nil => rfl
            | cons => cases h
          | cons a p ih => intro q h; cases q with
            | nil => cases h
            | cons b q => simp at h; rw [h.1, ih q (by simpa using h.2)]
        exact hinj _ _ b1
    subst this
    rfl)
  refine ⟨C, hC, ?_, ?_, ?_, ?_, fun {x es g} h1 h2 => h39 ⟨(x, es, g), h1, h2⟩, fun g a b c d e => by rw [n5 g e, n4 g a, n3 g c, n2 g b, n1 g d]⟩
  · rw [n5 15 (by decide)]; exact h15
  · rw [n5 43 (by decide), n4 43 (by decide), n3 43 (by decide)]; exact h43
  · rw [n5 42 (by decide), n4 42 (by decide)]; exact h42
  · intro l; rw [n5 44 (by decide), n4 44 (by decide), n3 44 (by decide), n2 44 (by decide)]; exact h44 l
theorem bnd_ix {l : List Int} (hl : l.length ≤ 7) {i : Nat} (hi : i < l.length) : aidxS 2 (outV 2 (bnds l l.length)) (.int .i64 (i : Int)) = some (.ptr (bnd l i)) := by
  have hav : asV 2 (outV 2 (bnds l l.length)) = some (bnds l l.length) := asV_outV (by rw [bnds_len]; omega)
  rw [idxV hav (by rw [bnds_len]; exact hi)]
  simp [bnds]
theorem chk_made (es : List Int) (g : Nat) (h : ∀ a ∈ es, 0 ≤ a ∧ a ≤ 255) : chk (mkL es) (mkF g ((mkL es).length - 1)) = 0 := by
  obtain ⟨n1, n2⟩ := mkL_len es
  have hb : ∀ n ∈ mkL es, 1 ≤ n ∧ n ≤ 5 := by
    intro n hn
    unfold mkL at hn
    split at hn
    · simp at hn; omega
    · obtain ⟨a, ha, rfl⟩ := List.mem_map.1 hn
      exact len1_bd (h a (List.mem_of_mem_take ha)).1
  have hs : ∀ (l : List Int), (∀ n ∈ l, 1 ≤ n ∧ n ≤ 5) → l.sum ≤ 5 * l.length := by
    intro l
    induction l with
    | nil => simp
    | cons a l ih =>
      intro h
      have h1 := h a (by simp)
      have h2 := ih fun n hn => h n (by simp [hn])
      simp; omega
  refine chk_of (meas_of n1 (by omega) (fun n hn => ?_) ?_) (mkF_len _ _) ?_
  · have := hb n hn; omega
  · have := hs _ hb; omega
  · unfold fmv mkF
    rw [List.all_eq_true]
    intro c hc
    obtain ⟨i, _, rfl⟩ := List.mem_map.1 hc
    split <;> rfl
theorem p12 {x : AV} {es : List Int} (hx : IsU8 x es) {g : Nat} (hg : g < 256) : PCall Tryd.prog 12 [.agg [x, .int .u8 (g : Int)]] (.bool true) := by
  obtain ⟨C, hC, h15, h43, h42, h44, h39, up⟩ := ctxL
  have hm := h39 hx hg
  have hck := chk_made es g hx.2
  obtain ⟨hms, _, _⟩ := chk_0 hck
  obtain ⟨m1, m2, m3, m4⟩ := meas_0 hms
  have h17 : C 17 [madeV es g] = some (.tup [outV 2 (bnds (mkL es) (mkL es).length), .int .i64 0]) := by
    rw [up 17 (by decide) (by decide) (by decide) (by decide) (by decide)]
    unfold madeV
    rw [CA_17 (lenV_i es)]
    unfold plcV
    rw [if_pos hck]
  have hli := lenV_i es
  have hcl : (lenV es).cells = [lenV es] := asI_cells hli
  have hst : (lenV es).sto = true := asI_sto hli
  have hbl : alenK false (outV 2 (bnds (mkL es) (mkL es).length)) = some (.int .i64 ((mkL es).length : Int)) := by rw [alen_out, bnds_len]
  have hbi : ∀ {i : Nat}, i < (mkL es).length → aidxS 2 (outV 2 (bnds (mkL es) (mkL es).length)) (.int .i64 (i : Int)) = some (.ptr (bnd (mkL es) i)) := fun {i} hi => bnd_ix m2 hi
  have hix : ∀ {i : Nat}, i < (mkL es).length → aidxS 1 (lenV es) (.int .i64 (i : Int)) = some (.ptr (.int .i64 (gI (mkL es) i))) := fun {i} hi => idx_g hli hi
  have hal := alen_of hli
  unfold madeV at hm h17
  generalize lenV es = v at *
  generalize mkF g ((mkL es).length - 1) = f at hm h17
  have hxs : x.sto = true := by rcases hx.1 with ⟨rfl, _⟩ | rfl <;> rfl
  generalize mkL es = l at *
  generalize outV 2 (bnds l l.length) = bo at *
  refine PCall.of hC ok12 (by simp) rfl fun hs hb => ?_
  simp only [A12, R12]
  have ld0 : aload (fun i => if i = hs.nh then some [v, .str (bs f)] else if i = hs.nh then some [.nilsl, .str (bs [])] else hs.heap i) false 1 (.ref hs.nh 0) = some v := ldc (ys := [v, .str (bs f)]) (by simp) rfl
  simp [hm, h17, fa, ld0, hbl, hal]
  refine At.loop (fun (i : Nat) s => i ≤ l.length ∧ s.env 3 = .ref hs.nh 0 ∧ s.env 6 = .int .i64 (pn l i) ∧ s.env 27 = bo ∧ s.env 28 = .int .i64 (l.length : Int) ∧ s.env 29 = .int .i64 (i : Int) ∧ s.hs.heap hs.nh = some [v, .str (bs f)] ∧ hs.nh < s.hs.nh) (fun i => l.length - i) 0 ?_ ?_
  · simp [pn_0]
  rintro N i s hN ⟨hi, e3, e6, e27, e28, e29, hb1, hnh⟩
  simp [e28, e29]
  refine At.dec (fun hlt => ?_) (fun hlt => ?_)
  · have hi' : i < l.length := by omega
    have b0 := pn_le hms (i := i) (by omega)
    have b1 := pn_le hms (i := i + 1) (by omega)
    have hg := m3 (gI l i) (by rw [gI_of hi']; exact List.getElem_mem _)
    have hb2 := hbi hi'
    have hi2 := hix hi'
    have lb : aload s.hs.heap true 2 (.ptr (bnd l i)) = some (bnd l i) := rfl
    obtain ⟨h1, st, h1a, h1o⟩ : ∃ h1, astore (fun k => if k = s.hs.nh then some [.int .i64 0, .int .i64 0] else s.hs.heap k) 2 (.ref s.hs.nh 0) (bnd l i) = some h1 ∧ h1 s.hs.nh = some [.int .i64 (min (pn l i) (pn l (i + 1))), .int .i64 (max (pn l i) (pn l (i + 1)))] ∧ ∀ k, k ≠ s.hs.nh → h1 k = s.hs.heap k :=
      ⟨_, st2_of (u := .int .i64 0) (v := .int .i64 0) (by simp) _ _, by simp, fun k hk => by simp [hk]⟩
    have lv : aload h1 false 1 (.ref hs.nh 0) = some v := ldc (ys := [v, .str (bs f)]) (by rw [h1o _ (by omega)]; exact hb1) rfl
    have lmn : aload h1 false 1 (.ref s.hs.nh 0) = some (.int .i64 (min (pn l i) (pn l (i + 1)))) := ldc h1a rfl
    have lmx : aload h1 false 1 (.ref s.hs.nh 1) = some (.int .i64 (max (pn l i) (pn l (i + 1)))) := ldc h1a rfl
    have mn : amin (.int .i64 (pn l i)) (.int .i64 (pn l (i + 1))) = some (.int .i64 (min (pn l i) (pn l (i + 1)))) := rfl
    have mx : amax (.int .i64 (pn l i)) (.int .i64 (pn l (i + 1))) = some (.int .i64 (max (pn l i) (pn l (i + 1)))) := rfl
    generalize bnd l i = bi at hb2 lb st
    generalize min (pn l i) (pn l (i + 1)) = vmn at h1a lmn mn
    generalize max (pn l i) (pn l (i + 1)) = vmx at h1a lmx mx
    have w1 := wrap_nat1 (show i < _ by omega)
    have par : (i % 2 = 0 ∧ IntKind.i64.wrap (pn l i + gI l i) = pn l (i + 1) ∧ (i : Int).tmod 2 = 0) ∨
        (i % 2 = 1 ∧ IntKind.i64.wrap (pn l i - gI l i) = pn l (i + 1) ∧ (i : Int).tmod 2 = 1) := by
      rcases Nat.mod_two_eq_zero_or_one i with hp | hp
      · left
        refine ⟨hp, ?_, ?_⟩
        · rw [pn_s, if_pos hp]; exact wrap64 (by omega) (by omega)
        · show ((i % 2 : Nat) : Int) = 0
          rw [hp]; rfl
      · right
        refine ⟨hp, ?_, ?_⟩
        · rw [pn_s, if_neg (by omega)]; exact wrap64 (by omega) (by omega)
        · show ((i % 2 : Nat) : Int) = 1
          rw [hp]; rfl
    have hbb : h1 hs.nh = some [v, .str (bs f)] := by rw [h1o _ (by omega)]; exact hb1
    rcases par with ⟨hp, wa, tm⟩ | ⟨hp, wa, tm⟩
    · simp [e3, e6, e27, e29, hb2, lb, st, fa, lv, hi2, wa, tm, lmn, lmx, mn, mx, -amin_int, -amax_int, w1]
      refine hN (i + 1) _ (by omega) ⟨by omega, ?_⟩
      simp [e3, e27, e28, hbb]
      omega
    · simp [e3, e6, e27, e29, hb2, lb, st, fa, lv, hi2, wa, tm, lmn, lmx, mn, mx, -amin_int, -amax_int, w1]
      refine hN (i + 1) _ (by omega) ⟨by omega, ?_⟩
      simp [e3, e27, e28, hbb]
      omega
  · simp [h15]
/-! arguments -/
def TMap : Ty := .st (.fcons (.sl (.int .u8)) (.fcons (.int .u8) .fnil))
def TStr : Ty := .st (.fcons (.sl (.int .i64)) (.fcons .str .fnil))
theorem sh_sl {e : Ty} {cs : List AV} (h : Sh (.sl e) cs) : ∃ y, cs = [y] ∧ ShV (.sl e) y := by
  rcases h with rfl | ⟨xs, rfl, h1, h2⟩
  · exact ⟨.nilsl, rfl, .inl rfl, rfl⟩
  · exact ⟨_, rfl, .inr ⟨xs, rfl, h1, h2⟩, rfl⟩
theorem u8_nat {n : Int} (h : (Lit.int .u8 n).wf = true) : ∃ g : Nat, n = (g : Int) ∧ g < 256 := ⟨n.toNat, by have := u8_bd h; omega, by have := u8_bd h; omega⟩
theorem arg_u8 {x : AV} (h : ShV (.int .u8) x) : ∃ g : Nat, x = .int .u8 (g : Int) ∧ g < 256 := by
  obtain ⟨n, rfl, hn⟩ := shv_int h
  obtain ⟨g, rfl, hg⟩ := u8_nat hn
  exact ⟨g, rfl, hg⟩
theorem map_typed {x : AV} (h : ShV TMap x) : ∃ y es, ∃ g : Nat, x = .agg [y, .int .u8 (g : Int)] ∧ IsU8 y es ∧ g < 256 := by
  obtain ⟨cs, rfl, hs⟩ := shv_agg (T := TMap) rfl h
  obtain ⟨a, b, rfl, h1, h2⟩ := sh_cons (f := .sl (.int .u8)) (r := .fcons (.int .u8) .fnil) hs
  obtain ⟨c, d, rfl, h3, h4⟩ := sh_cons (f := .int .u8) (r := .fnil) h2
  obtain rfl := sh_nil h4
  obtain ⟨n, rfl, hn⟩ := sh_int h3
  obtain ⟨g, rfl, hg⟩ := u8_nat hn
  obtain ⟨y, rfl, hy⟩ := sh_sl h1
  obtain ⟨es, hes⟩ := IsU8.of hy
  exact ⟨y, es, g, rfl, hes, hg⟩
/-- a list of numbers as an argument: long, or known -/
theorem ints_typed {x : AV} (h : ShV (.sl (.int .i64)) x) : ∃ n : Nat, alenK false x = some (.int .i64 (n : Int)) ∧ x.leaf = true ∧ (30 < n ∨ n ≤ 30 ∧ x.share = x ∧ ∃ l, asI x = some l ∧ l.length = n) := by
  obtain ⟨l, hl, hm, _⟩ := shv_intsK h
  rcases hl with ⟨rfl, rfl⟩ | rfl
  · exact ⟨0, rfl, rfl, .inr ⟨by omega, rfl, [], rfl, rfl⟩⟩
  · refine ⟨l.length, by simp, rfl, ?_⟩
    by_cases h30 : 30 < l.length
    · exact .inl h30
    · refine .inr ⟨by omega, ?_, l, asI_sl (by omega), rfl⟩
      rw [share_sl]
      congr 1
      rw [List.map_map]
      exact List.map_congr_left fun a _ => by simp
theorem str_typed {x : AV} (h : ShV TStr x) : ∃ y f, x = .agg [y, .str (bs f)] ∧ ShV (.sl (.int .i64)) y := by
  obtain ⟨cs, rfl, hs⟩ := shv_agg (T := TStr) rfl h
  obtain ⟨a, b, rfl, h1, h2⟩ := sh_cons (f := .sl (.int .i64)) (r := .fcons .str .fnil) hs
  obtain ⟨c, d, rfl, h3, h4⟩ := sh_cons (f := .str) (r := .fnil) h2
  obtain rfl := sh_nil h4
  obtain ⟨s, rfl⟩ := h3
  obtain ⟨y, rfl, hy⟩ := sh_sl h1
  exact ⟨y, s.data.toList, by rw [bs_of]; rfl, hy⟩
theorem placed_typed (xs : List AV) (h : Typed [TMap] xs) : PCall Tryd.prog 12 xs (.bool true) := by
  obtain ⟨x, rfl, hx⟩ := h.one
  obtain ⟨y, es, g, rfl, h1, h2⟩ := map_typed hx
  exact p12 h1 h2
end Go.Proofs.YtedpcenghofpoaaDoor
