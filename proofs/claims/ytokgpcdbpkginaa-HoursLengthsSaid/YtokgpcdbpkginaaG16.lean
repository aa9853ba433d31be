/-
  The reference's Length: the pieces of a step. Own work.
  The reference's Length: hours added, and the plain law. Own work.
  The reference's Length. Own work.
  HoursPlans and HoursLengths, walked. Own work.
-/
import Derived.Test.YtokgpcdbpkginaaG15
set_option linter.unusedVariables false
set_option linter.unusedSimpArgs false
namespace Go.Proofs.Ytokgpcdbpkginaa
open Go Fw

def B21e : ACode := (.block 4 (.loop (.seq (.seq (.reg [⟨some 71, none, .mv (.t 15)⟩, ⟨some 72, none, .faddr false 1 1 (.t 13)⟩, ⟨some 73, none, .load false 1 (.t 72)⟩, ⟨some 74, none, .len false (.t 73)⟩, ⟨some 75, none, .bin 0 .lss (.t 71) (.t 74)⟩])
  (.cond (.t 75) (.skip) (.exit 4)))
  (.seq (.block 5 (.seq (.seq (.regd [⟨some 78, none, .faddr false 1 1 (.t 13)⟩, ⟨some 79, none, .load false 1 (.t 78)⟩, ⟨some 80, none, .mv (.t 15)⟩, ⟨some 81, none, .iaddrS 1 (.t 79) (.t 80)⟩, ⟨some 82, none, .load false 1 (.t 81)⟩, ⟨some 83, none, .mv (.t 0)⟩, ⟨some 84, none, .iaddrS 1 (.t 83) (.c (.int .i64 0))⟩, ⟨some 85, none, .load false 1 (.t 84)⟩, ⟨some 86, none, .len false (.t 85)⟩, ⟨some 87, none, .bin 0 .sub (.t 86) (.c (.int .i64 1))⟩, ⟨some 88, none, .pcall 61 [.t 82, .c (.int .i64 (-1)), .t 87]⟩, ⟨some 89, none, .un .not (.t 88)⟩])
  (.cond (.t 89) (.seq (.reg [⟨some 6, none, .mv (.c (.int .i64 0))⟩, ⟨some 7, none, .mv (.c (.int .i64 5))⟩])
  (.ret)) (.skip)))
  (.seq (.reg [⟨some 90, none, .faddr false 1 1 (.t 13)⟩, ⟨some 91, none, .load false 1 (.t 90)⟩, ⟨some 92, none, .mv (.t 15)⟩, ⟨some 93, none, .iaddrS 1 (.t 91) (.t 92)⟩, ⟨some 94, none, .load false 1 (.t 93)⟩, ⟨some 95, none, .bin 0 .neq (.t 94) (.c (.int .i64 (-1)))⟩])
  (.cond (.t 95) (.reg [⟨some 96, none, .mv (.t 14)⟩, ⟨some 97, none, .bin 0 .add (.t 96) (.c (.int .i64 1))⟩, ⟨some 14, none, .mv (.t 97)⟩]) (.skip)))))
  (.reg [⟨some 76, none, .mv (.t 15)⟩, ⟨some 77, none, .bin 0 .add (.t 76) (.c (.int .i64 1))⟩, ⟨some 15, none, .mv (.t 77)⟩])))))
def B21d : ACode := (.block 6 (.loop (.seq (.seq (.reg [⟨some 98, none, .mv (.t 16)⟩, ⟨some 99, none, .faddr false 1 1 (.t 13)⟩, ⟨some 100, none, .load false 1 (.t 99)⟩, ⟨some 101, none, .len false (.t 100)⟩, ⟨some 102, none, .bin 0 .lss (.t 98) (.t 101)⟩])
  (.cond (.t 102) (.skip) (.exit 6)))
  (.seq (.block 7 (.seq (.reg [⟨some 17, none, .mv (.c (.int .i64 0))⟩])
  (.block 8 (.loop (.seq (.seq (.reg [⟨some 105, none, .mv (.t 17)⟩, ⟨some 106, none, .mv (.t 16)⟩, ⟨some 107, none, .bin 0 .lss (.t 105) (.t 106)⟩])
  (.cond (.t 107) (.skip) (.exit 8)))
  (.seq (.block 9 (.seq (.regd [⟨some 110, none, .faddr false 1 1 (.t 13)⟩, ⟨some 111, none, .load false 1 (.t 110)⟩, ⟨some 112, none, .mv (.t 16)⟩, ⟨some 113, none, .iaddrS 1 (.t 111) (.t 112)⟩, ⟨some 114, none, .load false 1 (.t 113)⟩, ⟨some 115, none, .bin 0 .neq (.t 114) (.c (.int .i64 (-1)))⟩, ⟨some 116, none, .mv (.t 115)⟩, ⟨some 117, some (116, true), .faddr false 1 1 (.t 13)⟩, ⟨some 118, some (116, true), .load false 1 (.t 117)⟩, ⟨some 119, some (116, true), .mv (.t 17)⟩, ⟨some 120, some (116, true), .iaddrS 1 (.t 118) (.t 119)⟩, ⟨some 121, some (116, true), .load false 1 (.t 120)⟩, ⟨some 122, some (116, true), .faddr false 1 1 (.t 13)⟩, ⟨some 123, some (116, true), .load false 1 (.t 122)⟩, ⟨some 124, some (116, true), .mv (.t 16)⟩, ⟨some 125, some (116, true), .iaddrS 1 (.t 123) (.t 124)⟩, ⟨some 126, some (116, true), .load false 1 (.t 125)⟩, ⟨some 127, some (116, true), .bin 0 .eql (.t 121) (.t 126)⟩, ⟨some 128, none, .pick (.t 116) (.t 127) (.c (.bool false))⟩])
  (.cond (.t 128) (.seq (.reg [⟨some 6, none, .mv (.c (.int .i64 0))⟩, ⟨some 7, none, .mv (.c (.int .i64 6))⟩])
  (.ret)) (.skip))))
  (.reg [⟨some 108, none, .mv (.t 17)⟩, ⟨some 109, none, .bin 0 .add (.t 108) (.c (.int .i64 1))⟩, ⟨some 17, none, .mv (.t 109)⟩])))))))
  (.reg [⟨some 103, none, .mv (.t 16)⟩, ⟨some 104, none, .bin 0 .add (.t 103) (.c (.int .i64 1))⟩, ⟨some 16, none, .mv (.t 104)⟩])))))
def B21a : ACode := (.block 10 (.loop (.seq (.seq (.reg [⟨some 132, none, .mv (.t 18)⟩, ⟨some 133, none, .faddr false 1 1 (.t 13)⟩, ⟨some 134, none, .load false 1 (.t 133)⟩, ⟨some 135, none, .len false (.t 134)⟩, ⟨some 136, none, .bin 0 .lss (.t 132) (.t 135)⟩])
  (.cond (.t 136) (.skip) (.exit 10)))
  (.seq (.block 11 (.seq (.reg [⟨some 139, none, .faddr false 1 1 (.t 13)⟩, ⟨some 140, none, .load false 1 (.t 139)⟩, ⟨some 141, none, .mv (.t 18)⟩, ⟨some 142, none, .iaddrS 1 (.t 140) (.t 141)⟩, ⟨some 143, none, .load false 1 (.t 142)⟩, ⟨some 144, none, .bin 0 .neq (.t 143) (.c (.int .i64 (-1)))⟩])
  (.cond (.t 144) (.regd [⟨some 145, none, .mv (.t 9)⟩, ⟨some 146, none, .mv (.t 18)⟩, ⟨some 147, none, .iaddrS 1 (.t 145) (.t 146)⟩, ⟨some 148, none, .load false 1 (.t 147)⟩, ⟨some 149, none, .faddr false 1 1 (.t 13)⟩, ⟨some 150, none, .load false 1 (.t 149)⟩, ⟨some 151, none, .mv (.t 18)⟩, ⟨some 152, none, .iaddrS 1 (.t 150) (.t 151)⟩, ⟨some 153, none, .load false 1 (.t 152)⟩, ⟨some 154, none, .iaddrS 1 (.t 148) (.t 153)⟩, ⟨some 155, none, .load false 1 (.t 154)⟩, ⟨some 156, none, .faddr false 1 0 (.t 13)⟩, ⟨some 157, none, .load false 1 (.t 156)⟩, ⟨some 158, none, .bin 0 .add (.t 155) (.t 157)⟩, ⟨some 159, none, .iaddrS 1 (.t 148) (.t 153)⟩, ⟨none, none, .store 1 (.t 159) (.t 158)⟩]) (.skip))))
  (.reg [⟨some 137, none, .mv (.t 18)⟩, ⟨some 138, none, .bin 0 .add (.t 137) (.c (.int .i64 1))⟩, ⟨some 18, none, .mv (.t 138)⟩])))))
/-- what the pieces of a step keep -/
structure Kp (c : Nat) (h : Int) (a x : AV) (s0 s : AS) : Prop where
  e0 : s.env 0 = x
  e1 : s.env 1 = s0.env 1
  e2 : s.env 2 = s0.env 2
  e9 : s.env 9 = s0.env 9
  e11 : s.env 11 = s0.env 11
  e12 : s.env 12 = s0.env 12
  e13 : s.env 13 = .ref c 0
  hc : s.hs.heap c = some [.int .i64 h, a]
def nWk (l : List Int) : Nat := (l.filter fun v => decide (v ≠ -1)).length
theorem nWk_s {l : List Int} {i : Nat} (hi : i < l.length) : nWk (l.take (i + 1)) = nWk (l.take i) + if l[i] = -1 then 0 else 1 := by
  unfold nWk
  rw [take_snoc hi, List.filter_append, List.length_append]
  by_cases h : l[i] = -1
  · simp [h]
  · simp [h]
theorem nWk_le (l : List Int) : nWk l ≤ l.length := List.length_filter_le _ _
theorem ld0 {hp : Nat → Option (List AV)} {c : Nat} {u v : AV} (h : hp c = some [u, v]) : aload hp false 1 (.ref c 0) = some u := by simp [aload, h, apart]
theorem ld1 {hp : Nat → Option (List AV)} {c : Nat} {u v : AV} (h : hp c = some [u, v]) : aload hp false 1 (.ref c 1) = some v := by simp [aload, h, apart]
theorem entB {E : PCtx} (k61 : E 61 = SIs) {Q : AEx → AS → Prop} {x a : AV} {m : List (List Int)} {R : Nat → AV} (hx : IsM x m R) (hw : OkW m) {l : List Int} (ha : asI a = some l) (hl : l.length ≤ 6) {c : Nat} {h : Int} {s0 : AS} (k0 : Kp c h a x s0 s0) (e14 : s0.env 14 = .int .i64 0) (e15 : s0.env 15 = .int .i64 0)
    (bad : (l.any fun v => !btw (-1) v ((cols m : Int) - 1)) = true → ∀ s : AS, s.env 6 = .int .i64 0 → s.env 7 = .int .i64 5 → At (Q .ret s))
    (good : (l.any fun v => !btw (-1) v ((cols m : Int) - 1)) = false → ∀ s : AS, s.env 14 = .int .i64 (nWk l : Int) → s.hs = s0.hs → Kp c h a x s0 s → At (Q .normal s)) : At (awp Try.prog E B21e Q s0) := by
  have h1 := hw.r1
  have hc6 : cols m ≤ 6 := hw.c6
  have r0 := hx.rlen h1
  rw [hw.len h1] at r0
  have w1 : IntKind.i64.wrap ((cols m : Int) - 1) = (cols m : Int) - 1 := wrap64 (by omega) (by omega)
  simp only [B21e]
  simp
  refine At.loop (fun (i : Nat) s => i ≤ l.length ∧ s.hs = s0.hs ∧ Kp c h a x s0 s ∧ s.env 14 = .int .i64 (nWk (l.take i) : Int) ∧ s.env 15 = .int .i64 (i : Int) ∧ ∀ j (h : j < l.length), j < i → btw (-1) l[j] ((cols m : Int) - 1) = true) (fun i => l.length - i) 0 ?_ ?_
  · exact ⟨by omega, rfl, k0, by simpa [nWk] using e14, e15, fun j h hj => by omega⟩
  rintro N i s hN ⟨hi, eh, K, e14, e15, hall⟩
  have eh0 := K.hc
  simp [e15, K.e13, fa, ld1 K.hc, alen_of ha]
  refine At.dec (fun hlt => ?_) (fun hlt => ?_)
  · have hi' : i < l.length := by omega
    have hnw := nWk_s hi'
    have hnl := nWk_le (l.take i)
    have hnl2 : (l.take i).length ≤ 6 := by rw [List.length_take]; omega
    cases hb : btw (-1) l[i] ((cols m : Int) - 1) with
    | false =>
      have hany : (l.any fun v => !btw (-1) v ((cols m : Int) - 1)) = true := List.any_eq_true.2 ⟨l[i], List.getElem_mem _, by rw [hb]; rfl⟩
      simp [e15, K.e0, K.e13, fa, ld1 K.hc, aidx_nat ha hi', hx.get0 h1, hx.ld h1, r0, w1, k61, hb]
      exact bad hany _ (by simp) (by simp)
    | true =>
      by_cases hv : l[i] = -1
      · rw [if_pos hv, Nat.add_zero] at hnw
        rw [hv] at hb
        simp [e15, K.e0, K.e13, fa, ld1 K.hc, aidx_nat ha hi', hx.get0 h1, hx.ld h1, r0, w1, k61, hv, hb]
        refine hN (i + 1) _ (by omega) ⟨by omega, by simp [eh], ⟨by simp [K.e0], by simp [K.e1], by simp [K.e2], by simp [K.e9], by simp [K.e11], by simp [K.e12], by simp [K.e13], by simp [K.hc]⟩, by simp [e14, hnw], by simp [wrap_nat1 (show i < _ by omega)], fun j hj hji => ?_⟩
        by_cases e : j = i
        · subst e; rw [hv]; exact hb
        · exact hall j hj (by omega)
      · rw [if_neg hv] at hnw
        have wn : IntKind.i64.wrap ((nWk (l.take i) : Int) + 1) = ((nWk (l.take (i + 1)) : Nat) : Int) := by rw [hnw]; exact wrap_nat1 (by omega)
        generalize hn1 : nWk (l.take (i + 1)) = n1 at *
        simp [e14, e15, K.e0, K.e13, fa, ld1 K.hc, aidx_nat ha hi', hx.get0 h1, hx.ld h1, r0, w1, k61, hv, hb, wn]
        refine hN (i + 1) _ (by omega) ⟨by omega, by simp [eh], ⟨by simp [K.e0], by simp [K.e1], by simp [K.e2], by simp [K.e9], by simp [K.e11], by simp [K.e12], by simp [K.e13], by simp [K.hc]⟩, by simp [hn1], by simp [wrap_nat1 (show i < _ by omega)], fun j hj hji => ?_⟩
        by_cases e : j = i
        · subst e; exact hb
        · exact hall j hj (by omega)
  · have hi' : i = l.length := by omega
    subst hi'
    rw [List.take_length] at e14
    have hany : (l.any fun v => !btw (-1) v ((cols m : Int) - 1)) = false := by
      rw [List.any_eq_false]
      intro v hv
      obtain ⟨j, hj, rfl⟩ := List.mem_iff_getElem.1 hv
      simp [hall j hj hj]
    simp
    exact good hany _ (by simp [e14]) (by simp [eh]) ⟨by simp [K.e0], by simp [K.e1], by simp [K.e2], by simp [K.e9], by simp [K.e11], by simp [K.e12], by simp [K.e13], by simp [K.hc]⟩
/-- that two artists stand at one machine -/
def Dup (l : List Int) : Prop := ∃ i j, j < i ∧ i < l.length ∧ l.getD i 0 ≠ -1 ∧ l.getD j 0 = l.getD i 0
theorem dupB {E : PCtx} {Q : AEx → AS → Prop} {x a : AV} {l : List Int} (ha : asI a = some l) (hl : l.length ≤ 6) {c : Nat} {h : Int} {n : Int} {s0 : AS} (k0 : Kp c h a x s0 s0) (e14 : s0.env 14 = .int .i64 n) (e16 : s0.env 16 = .int .i64 0)
    (bad : Dup l → ∀ s : AS, s.env 6 = .int .i64 0 → s.env 7 = .int .i64 6 → At (Q .ret s))
    (good : ¬ Dup l → ∀ s : AS, s.env 14 = .int .i64 n → s.hs = s0.hs → Kp c h a x s0 s → At (Q .normal s)) : At (awp Try.prog E B21d Q s0) := by
  simp only [B21d]
  simp
  refine At.loop (fun (i : Nat) s => i ≤ l.length ∧ s.hs = s0.hs ∧ Kp c h a x s0 s ∧ s.env 14 = .int .i64 n ∧ s.env 16 = .int .i64 (i : Int) ∧ ∀ i' j, j < i' → i' < i → l.getD i' 0 ≠ -1 → l.getD j 0 ≠ l.getD i' 0) (fun i => l.length - i) 0 ?_ ?_
  · exact ⟨by omega, rfl, k0, e14, e16, fun i j h1 h2 => by omega⟩
  rintro N i s hN ⟨hi, eh, K, e14, e16, hall⟩
  simp [e16, K.e13, fa, ld1 K.hc, alen_of ha]
  refine At.dec (fun hlt => ?_) (fun hlt => ?_)
  · have hi' : i < l.length := by omega
    simp
    refine At.loop (fun (j : Nat) s => j ≤ i ∧ s.hs = s0.hs ∧ Kp c h a x s0 s ∧ s.env 14 = .int .i64 n ∧ s.env 16 = .int .i64 (i : Int) ∧ s.env 17 = .int .i64 (j : Int) ∧ ∀ j', j' < j → l.getD i 0 ≠ -1 → l.getD j' 0 ≠ l.getD i 0) (fun j => i - j) 0 ?_ ?_
    · exact ⟨by omega, by simp [eh], ⟨by simp [K.e0], by simp [K.e1], by simp [K.e2], by simp [K.e9], by simp [K.e11], by simp [K.e12], by simp [K.e13], by simp [K.hc]⟩, by simp [e14], by simp [e16], by simp, fun j hj => by omega⟩
    clear K e14 e16 eh
    rintro N2 j s hN2 ⟨hj, eh, K, e14, e16, e17, hin⟩
    simp [e16, e17]
    by_cases hji : j < i
    · have hj' : j < l.length := by omega
      have gi := getD_of hi'
      have gj := getD_of hj'
      simp [hji]
      by_cases hv : l[i] = -1
      · simp [e16, e17, K.e13, fa, ld1 K.hc, aidx_nat ha hi', hv]
        refine hN2 (j + 1) _ (by omega) ⟨by omega, by simp [eh], ⟨by simp [K.e0], by simp [K.e1], by simp [K.e2], by simp [K.e9], by simp [K.e11], by simp [K.e12], by simp [K.e13], by simp [K.hc]⟩, by simp [e14], by simp [e16], by simp [wrap_nat1 (show j < _ by omega)], fun j' hj' hne => ?_⟩
        rw [gi] at hne
        exact absurd hv hne
      · by_cases he : l[j] = l[i]
        · simp [e16, e17, K.e13, fa, ld1 K.hc, aidx_nat ha hi', aidx_nat ha hj', hv, he]
          exact bad ⟨i, j, hji, hi', by rw [gi]; exact hv, by rw [gi, gj]; exact he⟩ _ (by simp) (by simp)
        · simp [e16, e17, K.e13, fa, ld1 K.hc, aidx_nat ha hi', aidx_nat ha hj', hv, he]
          refine hN2 (j + 1) _ (by omega) ⟨by omega, by simp [eh], ⟨by simp [K.e0], by simp [K.e1], by simp [K.e2], by simp [K.e9], by simp [K.e11], by simp [K.e12], by simp [K.e13], by simp [K.hc]⟩, by simp [e14], by simp [e16], by simp [wrap_nat1 (show j < _ by omega)], fun j' hj2 hne => ?_⟩
          by_cases e : j' = j
          · subst e; rw [gi, gj]; exact he
          · exact hin j' (by omega) hne
    · have hji2 : j = i := by omega
      subst hji2
      simp [e16]
      refine hN (j + 1) _ (by omega) ⟨by omega, by simp [eh], ⟨by simp [K.e0], by simp [K.e1], by simp [K.e2], by simp [K.e9], by simp [K.e11], by simp [K.e12], by simp [K.e13], by simp [K.hc]⟩, by simp [e14], by simp [wrap_nat1 (show j < _ by omega)], fun i' j' h1 h2 hne => ?_⟩
      by_cases e : i' = j
      · subst e; exact hin j' h1 hne
      · exact hall i' j' h1 (by omega) hne
  · have hi' : i = l.length := by omega
    subst hi'
    simp
    exact good (fun ⟨i, j, h1, h2, h3, h4⟩ => hall i j h1 h2 h3 h4) _ (by simp [e14]) (by simp [eh]) ⟨by simp [K.e0], by simp [K.e1], by simp [K.e2], by simp [K.e9], by simp [K.e11], by simp [K.e12], by simp [K.e13], by simp [K.hc]⟩
end Go.Proofs.Ytokgpcdbpkginaa
set_option linter.unusedVariables false
set_option linter.unusedSimpArgs false
namespace Go.Proofs.Ytokgpcdbpkginaa
open Go Fw

/-- hours done, row by row in blocks of their own -/
structure DoneM (hs : HS) (q R C : Nat) (D : Nat → List Int) : Prop where
  cell : ∃ cs, hs.heap q = some cs ∧ cs.length = R ∧ ∀ (j : Nat) (h : j < cs.length), cs[j] = .msl false 1 (q + 1 + j) 0 C true
  row : ∀ j, j < R → hs.heap (q + 1 + j) = some (ints (D j))
  dl : ∀ j, j < R → (D j).length = C
  nh : q + 1 + R ≤ hs.nh
theorem DoneM.up {hs hs' : HS} {q R C : Nat} {D : Nat → List Int} (h : DoneM hs q R C D) (hh : ∀ j, q ≤ j → j < q + 1 + R → hs'.heap j = hs.heap j) (hn : hs.nh ≤ hs'.nh) : DoneM hs' q R C D :=
  ⟨by rw [hh q (Nat.le_refl _) (by omega)]; exact h.cell, fun j hj => by rw [hh _ (by omega) (by omega)]; exact h.row j hj, h.dl, Nat.le_trans h.nh hn⟩
theorem DoneM.get {hs : HS} {q R C j : Nat} {D : Nat → List Int} (h : DoneM hs q R C D) (hj : j < R) : aload hs.heap false 1 (.ref q j) = some (.msl false 1 (q + 1 + j) 0 C true) := by
  obtain ⟨cs, h1, h2, h3⟩ := h.cell
  rw [load_cell h1 (by omega), h3 j (by omega)]
theorem DoneM.put {hs : HS} {q R C j : Nat} {D : Nat → List Int} (h : DoneM hs q R C D) {l : List Int} (hl : l.length = C) {hs' : HS} (h1 : hs'.heap (q + 1 + j) = some (ints l)) (h2 : ∀ k, k ≠ q + 1 + j → hs'.heap k = hs.heap k) (hn : hs.nh ≤ hs'.nh) :
    DoneM hs' q R C (fun r => if r = j then l else D r) := by
  refine ⟨by rw [h2 q (by omega)]; exact h.cell, fun r hr => ?_, fun r hr => ?_, Nat.le_trans h.nh hn⟩
  · by_cases e : r = j
    · subst e; rw [if_pos rfl]; exact h1
    · rw [if_neg e, h2 _ (by omega)]; exact h.row r hr
  · by_cases e : r = j
    · rw [if_pos e]; exact hl
    · rw [if_neg e]; exact h.dl r hr
theorem DoneM.cong {hs : HS} {q R C : Nat} {D D' : Nat → List Int} (h : DoneM hs q R C D) (e : ∀ r, r < R → D' r = D r) : DoneM hs q R C D' :=
  ⟨h.cell, fun j hj => by rw [e j hj]; exact h.row j hj, fun j hj => by rw [e j hj]; exact h.dl j hj, h.nh⟩
/-- a row with a step's hours -/
def adD (l : List Int) (h : Int) (D : Nat → List Int) (r : Nat) : List Int := if l.getD r 0 = -1 then D r else (D r).set (l.getD r 0).toNat ((D r).getD (l.getD r 0).toNat 0 + h)
theorem addB {E : PCtx} {Q : AEx → AS → Prop} {x a : AV} {l : List Int} (ha : asI a = some l) (hl : l.length ≤ 6) {C : Nat} (hpl : ∀ v ∈ l, v = -1 ∨ ∃ k : Nat, k < C ∧ v = k) {c q : Nat} {h : Int} (hh : 0 ≤ h ∧ h ≤ 1100) {D : Nat → List Int} (hD : ∀ r k, r < l.length → 0 ≤ (D r).getD k 0 ∧ (D r).getD k 0 ≤ 1000000)
    {s0 : AS} (k0 : Kp c h a x s0 s0) (e9 : s0.env 9 = .msl false 1 q 0 l.length true) (e18 : s0.env 18 = .int .i64 0) (hM : DoneM s0.hs q l.length C D) (hc : q + 1 + l.length ≤ c)
    (good : ∀ s : AS, DoneM s.hs q l.length C (adD l h D) → s.hs.nh = s0.hs.nh → Kp c h a x s0 s → At (Q .normal s)) : At (awp Try.prog E B21a Q s0) := by
  simp only [B21a]
  simp
  refine At.loop (fun (i : Nat) s => i ≤ l.length ∧ s.hs.nh = s0.hs.nh ∧ Kp c h a x s0 s ∧ s.env 18 = .int .i64 (i : Int) ∧ DoneM s.hs q l.length C (fun r => if r < i then adD l h D r else D r)) (fun i => l.length - i) 0 ?_ ?_
  · exact ⟨by omega, rfl, k0, e18, hM.cong fun r hr => by rw [if_neg (by omega)]⟩
  clear hM k0 e18
  rintro N i s hN ⟨hi, eh, K, e18, hM⟩
  simp [e18, K.e13, fa, ld1 K.hc, alen_of ha]
  refine At.dec (fun hlt => ?_) (fun hlt => ?_)
  · have hi' : i < l.length := by omega
    have gi := getD_of hi'
    by_cases hv : l[i] = -1
    · simp [e18, K.e13, fa, ld1 K.hc, aidx_nat ha hi', hv]
      refine hN (i + 1) _ (by omega) ⟨by omega, by simp [eh], ⟨by simp [K.e0], by simp [K.e1], by simp [K.e2], by simp [K.e9], by simp [K.e11], by simp [K.e12], by simp [K.e13], by simp [K.hc]⟩, by simp [wrap_nat1 (show i < _ by omega)], ?_⟩
      have := hM.cong (D' := fun r => if r < i + 1 then adD l h D r else D r) fun r hr => by
        by_cases e : r = i
        · subst e
          rw [if_pos (by omega), if_neg (by omega), adD, gi, if_pos hv]
        · by_cases e2 : r < i
          · rw [if_pos (by omega), if_pos e2]
          · rw [if_neg (by omega), if_neg e2]
      simpa using this
    · obtain ⟨k, hk, e⟩ := (hpl l[i] (List.getElem_mem _)).resolve_left hv
      have hrow := hM.row i hi'
      rw [if_neg (by omega)] at hrow
      have hdl := hM.dl i hi'
      rw [if_neg (by omega)] at hdl
      have hkl : k < (D i).length := by omega
      have x1 : aidxS 1 (.msl false 1 q 0 l.length true) (.int .i64 (i : Int)) = some (.ref q i) := aidx_msln hi'
      have x2 : aidxS 1 (.msl false 1 (q + 1 + i) 0 C true) (.int .i64 (k : Int)) = some (.ref (q + 1 + i) k) := aidx_msln hk
      have ldr := hM.get hi'
      have ldc := ld_ints hrow hkl
      rw [← getD_of hkl] at ldc
      have hb := hD i k hi'
      have wv : IntKind.i64.wrap ((D i).getD k 0 + h) = (D i).getD k 0 + h := wrap64 (by omega) (by omega)
      have st := st_ints (v := (D i).getD k 0 + h) hrow hkl
      have had : adD l h D i = (D i).set k ((D i).getD k 0 + h) := by
        rw [adD, gi, if_neg hv, e]; rfl
      rw [← had] at st
      have hz1 : ¬ (k : Int) = -1 := by omega
      have e9' : s.env 9 = .msl false 1 q 0 l.length true := by rw [K.e9]; exact e9
      have hcn : ¬ c = q + 1 + i := by omega
      generalize (D i).getD k 0 = V at *
      generalize hz : ints (adD l h D i) = z at *
      simp [e18, K.e13, e9', fa, ld0 K.hc, ld1 K.hc, aidx_nat ha hi', e, hz1, x1, ldr, x2, ldc, wv, st]
      refine hN (i + 1) _ (by omega) ⟨by omega, by simp [eh], ⟨by simp [K.e0], by simp [K.e1], by simp [K.e2], by simp [K.e9], by simp [K.e11], by simp [K.e12], by simp [K.e13], by simp [K.hc, hcn]⟩, by simp [wrap_nat1 (show i < _ by omega)], ?_⟩
      have h2 := hM.put (j := i) (hs' := ⟨fun j => if j = q + 1 + i then some z else s.hs.heap j, s.hs.nh, s.hs.nt, s.hs.tok, s.hs.mp⟩) (l := adD l h D i) (by rw [had, List.length_set]; exact hdl) (by simp [hz]) (fun j hj => by simp [hj]) (Nat.le_refl _)
      have h3 := h2.cong (D' := fun r => if r < i + 1 then adD l h D r else D r) fun r hr => by
        by_cases e : r = i
        · subst e; rw [if_pos (by omega), if_pos rfl]
        · rw [if_neg e]
          by_cases e2 : r < i
          · rw [if_pos (by omega), if_pos e2]
          · rw [if_neg (by omega), if_neg e2]
      simpa using h3
  · have hi' : i = l.length := by omega
    subst hi'
    simp
    exact good _ (by simpa using hM.cong fun r hr => by rw [if_pos hr]) (by simp [eh]) ⟨by simp [K.e0], by simp [K.e1], by simp [K.e2], by simp [K.e9], by simp [K.e11], by simp [K.e12], by simp [K.e13], by simp [K.hc]⟩
/-! the plain law -/
def dnR (m : List (List Int)) (p : List (Int × List Int)) (r : Nat) : List Int := (List.range (cols m)).map fun k => xg m r k - remP m p r k
theorem dnR_len (m : List (List Int)) (p : List (Int × List Int)) (r : Nat) : (dnR m p r).length = cols m := by simp [dnR]
theorem dnR_getD {m : List (List Int)} {p : List (Int × List Int)} {r k : Nat} (hk : k < cols m) : (dnR m p r).getD k 0 = xg m r k - remP m p r k := by
  have : k < (dnR m p r).length := by rw [dnR_len]; exact hk
  rw [getD_of this]; simp [dnR]
theorem dnR_nil (m : List (List Int)) (r : Nat) : dnR m [] r = List.replicate (cols m) 0 := by
  rw [dnR, List.eq_replicate_iff]
  refine ⟨by simp, fun b hb => ?_⟩
  obtain ⟨k, _, rfl⟩ := List.mem_map.1 hb
  simp [remP]
theorem remP_sum0 (m : List (List Int)) (i k : Nat) : ∀ p : List (Int × List Int), remP m p i k = xg m i k - sumF p fun s => if s.2.getD i 0 = (k : Int) then s.1 else 0
  | [] => by simp [remP, sumF]
  | s :: p => by
    rw [remP, remP_sum0 m i k p, sumF_cons]; omega
theorem ferr_mem {m : List (List Int)} {seats : Int} : ∀ {p : List (Int × List Int)}, ferr m seats p = 0 → ∀ s ∈ p, stepE m seats s = 0
  | [], _, s, hs => by simp at hs
  | t :: p, h, s, hs => by
    rw [ferr] at h
    split at h
    · rename_i h0
      rcases List.mem_cons.1 hs with rfl | hs
      · exact h0
      · exact ferr_mem h s hs
    · rename_i h0; exact absurd h h0
theorem dnR_bd {m : List (List Int)} (hw : OkW m) {seats : Int} {p : List (Int × List Int)} (hf : ferr m seats p = 0) (hp : p.length ≤ 200) {r : Nat} (hr : r < m.length) (k : Nat) : 0 ≤ (dnR m p r).getD k 0 ∧ (dnR m p r).getD k 0 ≤ 1000000 := by
  rcases Nat.lt_or_ge k (cols m) with hk | hk
  · rw [dnR_getD hk]
    have h1 := remP_bd hw hf (k := k) hr
    have h2 : remP m p r k ≤ xg m r k := by
      rw [remP_sum0]
      have : 0 ≤ sumF p fun s => if s.2.getD r 0 = (k : Int) then s.1 else 0 := sumF_nn fun s hs => by
        have := (stepE_0 (ferr_mem hf s hs)).2.1
        split <;> omega
      omega
    have h3 := hw.el (List.getElem_mem hr) k
    have h4 : xg m r k = (m[r]).getD k 0 := by unfold xg; rw [getD_row hr]
    omega
  · rw [List.getD_eq_getElem?_getD, List.getElem?_eq_none (by rw [dnR_len]; exact hk)]; simp
theorem dnR_app {m : List (List Int)} {p : List (Int × List Int)} {s : Int × List Int} {r : Nat} (hpl : s.2.getD r 0 = -1 ∨ ∃ k : Nat, k < cols m ∧ s.2.getD r 0 = k) : dnR m (p ++ [s]) r = adD s.2 s.1 (dnR m p) r := by
  unfold adD
  rcases hpl with e | ⟨k, hk, e⟩
  · rw [if_pos e]
    unfold dnR
    apply List.map_congr_left
    intro k _
    rw [remP_app, e, if_neg (by omega)]; omega
  · rw [if_neg (by omega), e]
    simp only [Int.toNat_natCast]
    apply List.ext_getElem
    · simp [dnR_len]
    · intro j h1 h2
      rw [List.getElem_set]
      have hj : j < cols m := by rw [dnR_len] at h1; exact h1
      have e1 : (dnR m (p ++ [s]) r)[j] = xg m r j - remP m (p ++ [s]) r j := by simp [dnR]
      rw [e1, remP_app, e]
      by_cases e2 : k = j
      · subst e2
        rw [if_pos rfl, if_pos rfl, dnR_getD hj]; omega
      · have e3 : ∀ (h : j < (dnR m p r).length), (dnR m p r)[j] = xg m r j - remP m p r j := fun h => by simp [dnR]
        rw [if_neg (by omega), if_neg e2, e3]; omega
end Go.Proofs.Ytokgpcdbpkginaa
set_option linter.unusedVariables false
set_option linter.unusedSimpArgs false
namespace Go.Proofs.Ytokgpcdbpkginaa
open Go Fw

def A21x : ACode := .seq (.reg [⟨some 6, none, .mv (.c (.int .i64 0))⟩, ⟨some 7, none, .mv (.c (.int .i64 0))⟩])
  (.seq (.reg [⟨some 21, none, .mv (.t 0)⟩, ⟨some 22, none, .mv (.t 1)⟩, ⟨some 23, none, .pcall 50 [.t 21, .t 22]⟩, ⟨some 8, none, .mv (.t 23)⟩])
  (.seq (.seq (.reg [⟨some 24, none, .mv (.t 8)⟩, ⟨some 25, none, .bin 0 .eql (.t 24) (.c (.int .i64 0))⟩, ⟨some 26, none, .mv (.t 25)⟩, ⟨some 27, some (26, true), .mv (.t 2)⟩, ⟨some 28, some (26, true), .len false (.t 27)⟩, ⟨some 29, some (26, true), .bin 0 .gtr (.t 28) (.c (.int .i64 200))⟩, ⟨some 30, none, .pick (.t 26) (.t 29) (.c (.bool false))⟩])
  (.cond (.t 30) (.reg [⟨some 8, none, .mv (.c (.int .i64 2))⟩]) (.skip)))
  (.seq (.seq (.reg [⟨some 31, none, .mv (.t 8)⟩, ⟨some 32, none, .bin 0 .neq (.t 31) (.c (.int .i64 0))⟩])
  (.cond (.t 32) (.seq (.reg [⟨some 33, none, .mv (.t 8)⟩, ⟨some 6, none, .mv (.c (.int .i64 0))⟩, ⟨some 7, none, .mv (.t 33)⟩])
  (.ret)) (.skip)))
  (.seq (.reg [⟨some 34, none, .mv (.t 0)⟩, ⟨some 35, none, .len false (.t 34)⟩, ⟨some 36, none, .make false 1 [.nilsl] (.t 35) (.t 35)⟩, ⟨some 9, none, .mv (.t 36)⟩])
  (.seq (.seq (.reg [⟨some 10, none, .mv (.c (.int .i64 0))⟩])
  (.block 0 (.loop (.seq (.seq (.reg [⟨some 37, none, .mv (.t 10)⟩, ⟨some 38, none, .mv (.t 0)⟩, ⟨some 39, none, .len false (.t 38)⟩, ⟨some 40, none, .bin 0 .lss (.t 37) (.t 39)⟩])
  (.cond (.t 40) (.skip) (.exit 0)))
  (.seq (.block 1 (.reg [⟨some 43, none, .mv (.t 9)⟩, ⟨some 44, none, .mv (.t 10)⟩, ⟨some 45, none, .mv (.t 0)⟩, ⟨some 46, none, .iaddrS 1 (.t 45) (.c (.int .i64 0))⟩, ⟨some 47, none, .load false 1 (.t 46)⟩, ⟨some 48, none, .len false (.t 47)⟩, ⟨some 49, none, .make false 1 [.int .i64 0] (.t 48) (.t 48)⟩, ⟨some 50, none, .iaddrS 1 (.t 43) (.t 44)⟩, ⟨none, none, .store 1 (.t 50) (.t 49)⟩]))
  (.reg [⟨some 41, none, .mv (.t 10)⟩, ⟨some 42, none, .bin 0 .add (.t 41) (.c (.int .i64 1))⟩, ⟨some 10, none, .mv (.t 42)⟩]))))))
  (.seq (.reg [⟨some 11, none, .mv (.c (.int .i64 0))⟩])
  (.seq (.seq (.reg [⟨some 12, none, .mv (.c (.int .i64 0))⟩])
  (.block 2 (.loop (.seq (.seq (.reg [⟨some 51, none, .mv (.t 12)⟩, ⟨some 52, none, .mv (.t 2)⟩, ⟨some 53, none, .len false (.t 52)⟩, ⟨some 54, none, .bin 0 .lss (.t 51) (.t 53)⟩])
  (.cond (.t 54) (.skip) (.exit 2)))
  (.seq (.block 3 (.seq (.reg [⟨some 57, none, .mv (.t 2)⟩, ⟨some 58, none, .mv (.t 12)⟩, ⟨some 59, none, .iaddrS 2 (.t 57) (.t 58)⟩, ⟨some 60, none, .load true 2 (.t 59)⟩, ⟨some 13, none, .alloc [.int .i64 0, .nilsl]⟩, ⟨none, none, .store 2 (.t 13) (.t 60)⟩])
  (.seq (.seq (.reg [⟨some 61, none, .faddr false 1 1 (.t 13)⟩, ⟨some 62, none, .load false 1 (.t 61)⟩, ⟨some 63, none, .len false (.t 62)⟩, ⟨some 64, none, .mv (.t 0)⟩, ⟨some 65, none, .len false (.t 64)⟩, ⟨some 66, none, .bin 0 .neq (.t 63) (.t 65)⟩])
  (.cond (.t 66) (.seq (.reg [⟨some 6, none, .mv (.c (.int .i64 0))⟩, ⟨some 7, none, .mv (.c (.int .i64 3))⟩])
  (.ret)) (.skip)))
  (.seq (.seq (.reg [⟨some 67, none, .faddr false 1 0 (.t 13)⟩, ⟨some 68, none, .load false 1 (.t 67)⟩, ⟨some 69, none, .pcall 61 [.t 68, .c (.int .i64 1), .c (.int .i64 1100)]⟩, ⟨some 70, none, .un .not (.t 69)⟩])
  (.cond (.t 70) (.seq (.reg [⟨some 6, none, .mv (.c (.int .i64 0))⟩, ⟨some 7, none, .mv (.c (.int .i64 4))⟩])
  (.ret)) (.skip)))
  (.seq (.reg [⟨some 14, none, .mv (.c (.int .i64 0))⟩])
  (.seq (.seq (.reg [⟨some 15, none, .mv (.c (.int .i64 0))⟩])
  B21e)
  (.seq (.seq (.reg [⟨some 16, none, .mv (.c (.int .i64 0))⟩])
  B21d)
  (.seq (.seq (.reg [⟨some 129, none, .mv (.t 14)⟩, ⟨some 130, none, .mv (.t 1)⟩, ⟨some 131, none, .bin 0 .gtr (.t 129) (.t 130)⟩])
  (.cond (.t 131) (.seq (.reg [⟨some 6, none, .mv (.c (.int .i64 0))⟩, ⟨some 7, none, .mv (.c (.int .i64 16))⟩])
  (.ret)) (.skip)))
  (.seq (.seq (.reg [⟨some 18, none, .mv (.c (.int .i64 0))⟩])
  B21a)
  (.reg [⟨some 160, none, .mv (.t 11)⟩, ⟨some 161, none, .faddr false 1 0 (.t 13)⟩, ⟨some 162, none, .load false 1 (.t 161)⟩, ⟨some 163, none, .bin 0 .add (.t 160) (.t 162)⟩, ⟨some 11, none, .mv (.t 163)⟩]))))))))))
  (.reg [⟨some 55, none, .mv (.t 12)⟩, ⟨some 56, none, .bin 0 .add (.t 55) (.c (.int .i64 1))⟩, ⟨some 12, none, .mv (.t 56)⟩]))))))
  (.seq (.seq (.reg [⟨some 19, none, .mv (.c (.int .i64 0))⟩])
  (.block 12 (.loop (.seq (.seq (.reg [⟨some 164, none, .mv (.t 19)⟩, ⟨some 165, none, .mv (.t 0)⟩, ⟨some 166, none, .len false (.t 165)⟩, ⟨some 167, none, .bin 0 .lss (.t 164) (.t 166)⟩])
  (.cond (.t 167) (.skip) (.exit 12)))
  (.seq (.block 13 (.seq (.reg [⟨some 20, none, .mv (.c (.int .i64 0))⟩])
  (.block 14 (.loop (.seq (.seq (.reg [⟨some 170, none, .mv (.t 20)⟩, ⟨some 171, none, .mv (.t 0)⟩, ⟨some 172, none, .mv (.t 19)⟩, ⟨some 173, none, .iaddrS 1 (.t 171) (.t 172)⟩, ⟨some 174, none, .load false 1 (.t 173)⟩, ⟨some 175, none, .len false (.t 174)⟩, ⟨some 176, none, .bin 0 .lss (.t 170) (.t 175)⟩])
  (.cond (.t 176) (.skip) (.exit 14)))
  (.seq (.block 15 (.seq (.regd [⟨some 179, none, .mv (.t 9)⟩, ⟨some 180, none, .mv (.t 19)⟩, ⟨some 181, none, .iaddrS 1 (.t 179) (.t 180)⟩, ⟨some 182, none, .load false 1 (.t 181)⟩, ⟨some 183, none, .mv (.t 20)⟩, ⟨some 184, none, .iaddrS 1 (.t 182) (.t 183)⟩, ⟨some 185, none, .load false 1 (.t 184)⟩, ⟨some 186, none, .mv (.t 0)⟩, ⟨some 187, none, .mv (.t 19)⟩, ⟨some 188, none, .iaddrS 1 (.t 186) (.t 187)⟩, ⟨some 189, none, .load false 1 (.t 188)⟩, ⟨some 190, none, .mv (.t 20)⟩, ⟨some 191, none, .iaddrS 1 (.t 189) (.t 190)⟩, ⟨some 192, none, .load false 1 (.t 191)⟩, ⟨some 193, none, .bin 0 .neq (.t 185) (.t 192)⟩])
  (.cond (.t 193) (.seq (.reg [⟨some 6, none, .mv (.c (.int .i64 0))⟩, ⟨some 7, none, .mv (.c (.int .i64 13))⟩])
  (.ret)) (.skip))))
  (.reg [⟨some 177, none, .mv (.t 20)⟩, ⟨some 178, none, .bin 0 .add (.t 177) (.c (.int .i64 1))⟩, ⟨some 20, none, .mv (.t 178)⟩])))))))
  (.reg [⟨some 168, none, .mv (.t 19)⟩, ⟨some 169, none, .bin 0 .add (.t 168) (.c (.int .i64 1))⟩, ⟨some 19, none, .mv (.t 169)⟩]))))))
  (.seq (.reg [⟨some 194, none, .mv (.t 11)⟩, ⟨some 6, none, .mv (.t 194)⟩, ⟨some 7, none, .mv (.c (.int .i64 0))⟩])
  (.ret))))))))))
theorem A21_eq : A21 = A21x := rfl
theorem dup_count : ∀ {l : List Int} {k : Int}, k ≠ -1 → 2 ≤ l.count k → Dup l
  | [], k, _, h => by simp at h
  | a :: l, k, hk, h => by
    by_cases e : a = k
    · subst e
      rw [List.count_cons_self] at h
      obtain ⟨i, hi, e⟩ := List.mem_iff_getElem.1 (List.one_le_count_iff.1 (show 1 ≤ l.count a by omega))
      refine ⟨i + 1, 0, by omega, by simpa using hi, ?_, ?_⟩ <;> simp [List.getD, hi, e, hk]
    · rw [List.count_cons_of_ne e] at h
      obtain ⟨i, j, h1, h2, h3, h4⟩ := dup_count hk h
      exact ⟨i + 1, j + 1, by omega, by simpa using h2, by simpa using h3, by simpa using h4⟩
theorem count_dup {l : List Int} {i j : Nat} (h1 : j < i) (h2 : i < l.length) (h4 : l.getD j 0 = l.getD i 0) : 2 ≤ l.count (l.getD i 0) := by
  have hj : j < l.length := by omega
  rw [getD_of h2, getD_of hj] at h4
  rw [getD_of h2]
  have e : ∀ v, l.count v = (l.take i).count v + (l.drop i).count v := fun v => by rw [← List.count_append, List.take_append_drop]
  have a1 : 1 ≤ (l.take i).count l[i] := List.one_le_count_iff.2 (by rw [← h4]; exact mem_take_of h1 hj)
  have a2 : 1 ≤ (l.drop i).count l[i] := List.one_le_count_iff.2 (by rw [List.mem_drop_iff_getElem]; exact ⟨0, by omega, by simp⟩)
  have := e l[i]
  omega
theorem step_dup {C0 : Nat} {l : List Int} (hpl : ∀ v ∈ l, v = -1 ∨ ∃ k : Nat, k < C0 ∧ v = k) : 1 < gtr 0 (cnts C0 l) ↔ Dup l := by
  constructor
  · intro h
    rcases gtr_in (cnts C0 l) 0 with e | e
    · omega
    · obtain ⟨k, hk, e2⟩ := List.mem_map.1 e
      exact dup_count (k := (k : Int)) (by omega) (by omega)
  · rintro ⟨i, j, h1, h2, h3, h4⟩
    have hc := count_dup h1 h2 h4
    obtain ⟨k, hk, e⟩ := (hpl (l.getD i 0) (by rw [getD_of h2]; exact List.getElem_mem _)).resolve_left h3
    rw [e] at hc
    have : ((l.count (k : Int) : Nat) : Int) ∈ cnts C0 l := List.mem_map.2 ⟨k, List.mem_range.2 hk, rfl⟩
    have := gtr_el (a := 0) this
    omega
theorem cnts_sum {C0 : Nat} : ∀ l : List Int, (∀ v ∈ l, -1 ≤ v ∧ v < (C0 : Int)) → (cnts C0 l).sum = (nWk l : Int)
  | [], _ => by
    have := sumF_const (List.range C0) 0
    simp only [sumF] at this
    simp [cnts, nWk]; omega
  | a :: l, hl => by
    have ih := cnts_sum l fun v hv => hl v (by simp [hv])
    have ha := hl a (by simp)
    have e : (cnts C0 (a :: l)).sum = sumF (List.range C0) (fun k => ((l.count (k : Int) : Nat) : Int) + if a = (k : Int) then 1 else 0) := by
      unfold cnts sumF
      congr 1
      exact List.map_congr_left fun k _ => by
        rw [List.count_cons]
        by_cases e : a = (k : Int)
        · simp [e]
        · simp [e]
    rw [e, sumF_add]
    have e2 : sumF (List.range C0) (fun k => ((l.count (k : Int) : Nat) : Int)) = (cnts C0 l).sum := rfl
    rw [e2, ih]
    by_cases h1 : a = -1
    · have : sumF (List.range C0) (fun k => if a = (k : Int) then (1 : Int) else 0) = sumF (List.range C0) fun _ => 0 := sumF_congr fun k _ => by rw [if_neg (by omega)]
      have hn : nWk (a :: l) = nWk l := by simp [nWk, h1]
      rw [this, sumF_const, hn]; omega
    · have : sumF (List.range C0) (fun k => if a = (k : Int) then (1 : Int) else 0) = sumF (List.range C0) fun k => if k = a.toNat then 1 else 0 := sumF_congr fun k _ => by
        by_cases e : k = a.toNat
        · rw [if_pos e, if_pos (by omega)]
        · rw [if_neg e, if_neg (by omega)]
      have hn : nWk (a :: l) = nWk l + 1 := by simp [nWk, h1]
      rw [this, sumF_delta (by omega), hn]; omega
set_option maxHeartbeats 4000000 in
theorem p21 {x : AV} {m : List (List Int)} {R : Nat → AV} (hx : IsM x m R) (seats : Int) {y : AV} {p : List (Int × List Int)} (hy : IsP y p) : PCall Try.prog 21 [x, .int .i64 seats, y] (lenV m seats p) := by
  obtain ⟨C, hC, k50, k61⟩ : ∃ C, CtxOk Try.prog C ∧ C 50 [x, .int .i64 seats] = some (.int .i64 (chsE m seats)) ∧ C 61 = SIs := ⟨_, D0ok.pt (p50 hx seats), by simp, by funext a; simp⟩
  by_cases h : chsE m seats = 0
  rotate_left
  · refine PCall.of hC ok21 (by simp) (lenV_plain _ _ _) fun hs hb => ?_
    simp [A21, R21, k50, h, lenV, lenE]
  obtain ⟨hw, hse⟩ := chsE_zero.1 h
  have h6 := hw.r6
  have h1 := hw.r1
  have hc1 : 1 ≤ cols m := hw.c1
  have hc6 : cols m ≤ 6 := hw.c6
  have r0 := hx.rlen h1
  rw [hw.len h1] at r0
  refine PCall.of hC ok21 (by simp) (lenV_plain _ _ _) fun hs hb => ?_
  rw [A21_eq]
  by_cases hl : 200 < p.length
  · have hl2 : (200 : Int) < (p.length : Int) := by omega
    simp [A21x, R21, k50, h, hy.len, hl, hl2, lenV, lenE]
  have hl2 : ¬ (200 : Int) < (p.length : Int) := by omega
  have hmk : amake false 1 [.nilsl] hs (.int .i64 (m.length : Int)) (.int .i64 (m.length : Int)) = some (.msl false 1 hs.nh 0 m.length true, hs.blk (List.replicate m.length .nilsl)) := amake_eq (by omega)
  have hcell : (hs.blk (List.replicate m.length AV.nilsl)).heap hs.nh = some (List.replicate m.length .nilsl) := HS.blk_new
  have hnh0 : (hs.blk (List.replicate m.length AV.nilsl)).nh = hs.nh + 1 := rfl
  generalize hs.blk (List.replicate m.length .nilsl) = hs0 at *
  generalize hs.nh = q at *
  simp [A21x, R21, k50, h, hy.len, hl, hl2, hx.len, hmk]
  refine At.loop (fun (i : Nat) s => i ≤ m.length ∧ s.env 0 = x ∧ s.env 1 = .int .i64 seats ∧ s.env 2 = y ∧ s.env 9 = .msl false 1 q 0 m.length true ∧ s.env 10 = .int .i64 (i : Int) ∧ s.hs.nh = q + 1 + i ∧
    (∃ cs, s.hs.heap q = some cs ∧ cs.length = m.length ∧ ∀ (j : Nat) (h : j < cs.length), j < i → cs[j] = .msl false 1 (q + 1 + j) 0 (cols m) true) ∧ ∀ j, j < i → s.hs.heap (q + 1 + j) = some (ints (List.replicate (cols m) 0))) (fun i => m.length - i) 0 ?_ ?_
  · exact ⟨by omega, by simp, by simp, by simp, by simp, by simp, by simp [hnh0], ⟨_, by simp; exact hcell, by simp, fun j h hj => by omega⟩, fun j hj => by omega⟩
  rintro N i s hN ⟨hi, e0, e1, e2, e9, e10, hnh, ⟨cs, c1, c2, c3⟩, hrows⟩
  simp [e0, e10, hx.len]
  refine At.dec (fun hlt => ?_) (fun hlt => ?_)
  · have hi' : i < m.length := by omega
    have mk2 : amake false 1 [.int .i64 0] s.hs (.int .i64 (cols m : Int)) (.int .i64 (cols m : Int)) = some (.msl false 1 s.hs.nh 0 (cols m) true, s.hs.blk (List.replicate (cols m) (.int .i64 0))) := amake_eq (by omega)
    rw [ints_rep] at mk2
    have x1 : aidxS 1 (.msl false 1 q 0 m.length true) (.int .i64 (i : Int)) = some (.ref q i) := aidx_msln hi'
    have hq : (s.hs.blk (ints (List.replicate (cols m) 0))).heap q = some cs := by rw [HS.blk_old (by omega)]; exact c1
    have hnew : (s.hs.blk (ints (List.replicate (cols m) 0))).heap (q + 1 + i) = some (ints (List.replicate (cols m) 0)) := by rw [← hnh]; exact HS.blk_new
    have hold : ∀ j, j < q + 1 + i → (s.hs.blk (ints (List.replicate (cols m) 0))).heap j = s.hs.heap j := fun j hj => HS.blk_old (by omega)
    have hnhb : (s.hs.blk (ints (List.replicate (cols m) 0))).nh = q + 1 + (i + 1) := by rw [HS.blk_nh]; omega
    generalize hz : ints (List.replicate (cols m) 0) = z at *
    generalize s.hs.blk z = hsb at *
    have st := store_cell (v := .msl false 1 (q + 1 + i) 0 (cols m) true) hq (by omega : i < cs.length) rfl
    rw [hnh] at mk2
    simp [e0, e9, e10, hx.get0 h1, hx.ld h1, r0, mk2, x1, st]
    refine hN (i + 1) _ (by omega) ⟨by omega, by simp [e0], by simp [e1], by simp [e2], by simp [e9], by simp [wrap_nat1 (show i < _ by omega)], by simp [hnhb], ⟨cs.set i (.msl false 1 (q + 1 + i) 0 (cols m) true), by simp, by rw [List.length_set]; exact c2, fun j hj hji => ?_⟩, fun j hj => ?_⟩
    · rw [List.length_set] at hj
      by_cases e : j = i
      · subst e; rw [List.getElem_set_self]
      · rw [List.getElem_set_ne (Ne.symm e)]; exact c3 j hj (by omega)
    · simp
      rw [if_neg (by omega)]
      by_cases e : j = i
      · subst e; exact hnew
      · rw [hold _ (by omega)]; exact hrows j (by omega)
  have hi' : i = m.length := by omega
  subst hi'
  have hD0 : DoneM s.hs q m.length (cols m) (dnR m []) := ⟨⟨cs, c1, c2, fun j hj => c3 j hj (by omega)⟩, fun j hj => by rw [dnR_nil]; exact hrows j hj, fun j _ => dnR_len _ _ _, by omega⟩
  clear hN e10 c1 c2 c3 hrows hnh hcell hnh0 hmk hlt
  have hps : ∀ t, t ≤ p.length → ferr m seats (p.take t) = 0 → 0 ≤ psum p t ∧ psum p t ≤ 220000 := fun t ht hf => by
    unfold psum
    have := sum_bd (b := 1100) (l := (p.take t).map Prod.fst) (fun n hn => by
      obtain ⟨s, hs, rfl⟩ := List.mem_map.1 hn
      have := (stepE_0 (ferr_mem hf s hs)).2.1
      omega)
    rw [List.length_map, List.length_take] at this
    omega
  simp
  refine At.loop (fun (t : Nat) s => t ≤ p.length ∧ ferr m seats (p.take t) = 0 ∧ s.env 0 = x ∧ s.env 1 = .int .i64 seats ∧ s.env 2 = y ∧ s.env 9 = .msl false 1 q 0 m.length true ∧ s.env 11 = .int .i64 (psum p t) ∧ s.env 12 = .int .i64 (t : Int) ∧ DoneM s.hs q m.length (cols m) (dnR m (p.take t))) (fun t => p.length - t) 0 ?_ ?_
  · exact ⟨by omega, rfl, by simp [e0], by simp [e1], by simp [e2], by simp [e9], by simp [psum], by simp, by simpa using hD0⟩
  clear hD0 e0 e1 e2 e9
  rintro N t s hN ⟨ht, hfe, e0, e1, e2, e9, e11, e12, hD⟩
  simp [e2, e12, hy.len]
  refine At.dec (fun hlt => ?_) (fun hlt => ?_)
  · have ht' : t < p.length := by omega
    have wt : IntKind.i64.wrap ((t : Int) + 1) = ((t + 1 : Nat) : Int) := wrap_nat1 (by omega)
    obtain ⟨a, g1, ha⟩ := hy.get t ht'
    have htk := take_snoc ht'
    have hft := ferr_take (m := m) (seats := seats) ht' hfe
    have hst := store_ag (hp := fun k => if k = s.hs.nh then some [.int .i64 0, .nilsl] else s.hs.heap k) (i := s.hs.nh) (u1 := .int .i64 0) (u2 := .nilsl) (v1 := .int .i64 p[t].1) (v2 := a) (by simp)
    have hld : ∀ hp, aload hp true 2 (.ptr (.agg [.int .i64 p[t].1, a])) = some (.agg [.int .i64 p[t].1, a]) := fun hp => rfl
    have hnh := hD.nh
    have bad : ∀ e : Int, e ≠ 0 → stepE m seats p[t] = e → lenV m seats p = .tup [.int .i64 0, .int .i64 e] := fun e he hs => by
      have := hft.2 (by rw [hs]; exact he)
      rw [hs] at this
      have hE : lenE m seats p = e := by rw [lenE, if_pos h, if_neg hl, if_neg (by rw [this]; exact he), this]
      rw [lenV, hE, if_neg he]
    by_cases hlen : p[t].2.length = m.length
    rotate_left
    · have hs3 := bad 3 (by omega) (by unfold stepE; rw [if_pos hlen])
      have hlen2 : ¬ (p[t].2.length : Int) = (m.length : Int) := by omega
      simp [e0, e2, e12, g1, hld, hst, la, fa, apart, rowI_len ha, hx.len, hs3]
      refine At.decn (fun h => absurd h hlen2) (fun _ => ?_)
      simp [hs3]
    have ha := rowI_ne ha (by omega)
    cases hb1 : btw 1 p[t].1 1100 with
    | false =>
      have hs4 := bad 4 (by omega) (by unfold stepE; rw [if_neg (by omega), if_pos hb1])
      simp [e0, e2, e12, g1, hld, hst, la, fa, apart, alen_of ha, hx.len, hlen, k61, hb1, hs4]
    | true =>
    have hh : 1 ≤ p[t].1 ∧ p[t].1 ≤ 1100 := by simpa [btw] using hb1
    simp [e0, e2, e12, g1, hld, hst, la, fa, apart, alen_of ha, hx.len, hlen, k61, hb1]
    refine entB k61 hx hw ha (by omega) (c := s.hs.nh) (h := p[t].1) ⟨by simp [e0], rfl, rfl, rfl, rfl, rfl, by simp, by simp⟩ (by simp) (by simp) (fun hany s2 f6 f7 => ?_) (fun hany s2 f14 fhs K => ?_)
    · have hs5 := bad 5 (by omega) (by unfold stepE; rw [if_neg (by omega), if_neg (by rw [hb1]; decide), if_pos hany])
      simp [f6, f7, hs5]
    have k1 := K.e1
    have k2 := K.e2
    have k9 := K.e9
    have k11 := K.e11
    have k12 := K.e12
    simp [e1, e2, e9, e11, e12] at k1 k2 k9 k11 k12
    have hD2 : DoneM s2.hs q m.length (cols m) (dnR m (p.take t)) := by
      rw [fhs]
      refine hD.up (fun j _ hj => ?_) (by simp)
      simp
      rw [if_neg (by omega), if_neg (by omega)]
    have hpl : ∀ v ∈ p[t].2, v = -1 ∨ ∃ k : Nat, k < cols m ∧ v = k := fun v hv => by
      have := List.any_eq_false.1 hany v hv
      simp [btw] at this
      rcases Int.lt_or_le v 0 with h2 | h2
      · exact .inl (by omega)
      · exact .inr ⟨v.toNat, by omega, by omega⟩
    simp
    refine dupB ha (by omega) (n := (nWk p[t].2 : Int)) (c := s.hs.nh) (h := p[t].1) (x := x) ⟨by simp [K.e0], rfl, rfl, rfl, rfl, rfl, by simp [K.e13], by simp [K.hc]⟩ (by simp [f14]) (by simp) (fun hdup s3 f6 f7 => ?_) (fun hdup s3 f14 fhs3 K3 => ?_)
    · have hs6 := bad 6 (by omega) (by unfold stepE; rw [if_neg (by omega), if_neg (by rw [hb1]; decide), if_neg (by rw [hany]; decide), if_pos ((step_dup hpl).2 hdup)])
      simp [f6, f7, hs6]
    have hdup2 := fun h => hdup ((step_dup hpl).1 h)
    have hsum := cnts_sum (C0 := cols m) p[t].2 fun v hv => by rcases hpl v hv with e | ⟨k, hk, e⟩ <;> omega
    have j1 := K3.e1
    have j2 := K3.e2
    have j9 := K3.e9
    have j11 := K3.e11
    have j12 := K3.e12
    simp [k1, k2, k9, k11, k12] at j1 j2 j9 j11 j12
    by_cases hfew : seats < (nWk p[t].2 : Int)
    · have hs16 := bad 16 (by omega) (by unfold stepE; rw [if_neg (by omega), if_neg (by rw [hb1]; decide), if_neg (by rw [hany]; decide), if_neg hdup2, if_pos (by rw [hsum]; exact hfew)])
      simp [f14, j1, hfew, hs16]
    have hE0 : stepE m seats p[t] = 0 := by unfold stepE; rw [if_neg (by omega), if_neg (by rw [hb1]; decide), if_neg (by rw [hany]; decide), if_neg hdup2, if_neg (by rw [hsum]; exact hfew)]
    have hfe2 := hft.1 hE0
    have hD3 : DoneM s3.hs q m.length (cols m) (dnR m (p.take t)) := by rw [fhs3]; simpa using hD2
    simp [f14, j1, hfew]
    rw [← hlen] at hD3
    refine addB ha (by omega) hpl (c := s.hs.nh) (h := p[t].1) (q := q) (x := x) (by omega) (D := dnR m (p.take t)) (fun r k hr => dnR_bd hw hfe (by rw [List.length_take]; omega) (by omega) k) ⟨by simp [K3.e0], rfl, rfl, rfl, rfl, rfl, by simp [K3.e13], by simp [K3.hc]⟩ (by simp [j9, hlen]) (by simp) (by simpa using hD3) (by omega) (fun s4 hD4 fnh K4 => ?_)
    have i1 := K4.e1
    have i2 := K4.e2
    have i9 := K4.e9
    have i11 := K4.e11
    have i12 := K4.e12
    simp [j1, j2, j9, j11, j12] at i1 i2 i9 i11 i12
    have wp : IntKind.i64.wrap (psum p t + p[t].1) = psum p (t + 1) := by
      have h1 := hps (t + 1) (by omega) hfe2
      have h2 : psum p (t + 1) = psum p t + p[t].1 := by
        unfold psum; rw [htk, List.map_append, List.sum_append]; simp
      rw [← h2]; exact wrap64 (by omega) (by omega)
    simp [i11, i12, K4.e13, fa, ld0 K4.hc, wp]
    refine hN (t + 1) _ (by omega) ⟨by omega, hfe2, by simp [K4.e0], by simp [i1], by simp [i2], by simp [i9], by simp, by simp [wt], ?_⟩
    rw [hlen] at hD4
    have := hD4.cong (D' := dnR m (p.take (t + 1))) fun r hr => by
      rw [htk, dnR_app]
      have hrl : r < p[t].2.length := by omega
      have := hpl p[t].2[r] (List.getElem_mem hrl)
      rw [getD_of hrl]; exact this
    simpa using this
  · have ht' : t = p.length := by omega
    subst ht'
    rw [List.take_length] at hD hfe
    have hsum : psum p p.length = (p.map Prod.fst).sum := by rw [psum, List.take_length]
    rw [hsum] at e11
    clear hN e12 hlt
    have bad13 : ∀ i k, i < m.length → k < cols m → remP m p i k ≠ 0 → lenV m seats p = .tup [.int .i64 0, .int .i64 13] := fun i k hi hk hne => by
      have hr : remZ m p = false := by
        rw [← Bool.not_eq_true]
        intro hr
        unfold remZ at hr
        have := List.all_eq_true.1 (List.all_eq_true.1 hr i (by simpa using hi)) k (by simpa using hk)
        exact hne (by simpa using this)
      have hE : lenE m seats p = 13 := by rw [lenE, if_pos h, if_neg hl, if_pos hfe, if_neg (by simp [hr])]
      rw [lenV, hE, if_neg (by omega)]
    simp
    refine At.loop (fun (i : Nat) s => i ≤ m.length ∧ s.env 0 = x ∧ s.env 9 = .msl false 1 q 0 m.length true ∧ s.env 11 = .int .i64 (p.map Prod.fst).sum ∧ s.env 19 = .int .i64 (i : Int) ∧ DoneM s.hs q m.length (cols m) (dnR m p) ∧ ∀ i' k, i' < i → k < cols m → remP m p i' k = 0) (fun i => m.length - i) 0 ?_ ?_
    · exact ⟨by omega, by simp [e0], by simp [e9], by simp [e11], by simp, by simpa using hD, fun i k hi => by omega⟩
    clear e0 e1 e2 e9 e11 hD
    rintro N i s hN ⟨hi, e0, e9, e11, e19, hD, hall⟩
    simp [e0, e19, hx.len]
    refine At.dec (fun hlt => ?_) (fun hlt => ?_)
    · have hi' : i < m.length := by omega
      have hrow := hw.rows hx hi'
      have hil := hw.len hi'
      simp
      refine At.loop (fun (k : Nat) s => k ≤ cols m ∧ s.env 0 = x ∧ s.env 9 = .msl false 1 q 0 m.length true ∧ s.env 11 = .int .i64 (p.map Prod.fst).sum ∧ s.env 19 = .int .i64 (i : Int) ∧ s.env 20 = .int .i64 (k : Int) ∧ DoneM s.hs q m.length (cols m) (dnR m p) ∧ ∀ k', k' < k → remP m p i k' = 0) (fun k => cols m - k) 0 ?_ ?_
      · exact ⟨by omega, by simp [e0], by simp [e9], by simp [e11], by simp [e19], by simp, by simpa using hD, fun k hk => by omega⟩
      clear e0 e9 e11 e19 hD
      rintro N2 k s hN2 ⟨hk, e0, e9, e11, e19, e20, hD, hin⟩
      simp [e0, e19, e20, hx.get hi', hx.ld hi', alen_of hrow, hil]
      refine At.dec (fun hlt2 => ?_) (fun hlt2 => ?_)
      · have hk' : k < cols m := by omega
        have hkr : k < (m[i]).length := by omega
        have x1 : aidxS 1 (.msl false 1 q 0 m.length true) (.int .i64 (i : Int)) = some (.ref q i) := aidx_msln hi'
        have x2 : aidxS 1 (.msl false 1 (q + 1 + i) 0 (cols m) true) (.int .i64 (k : Int)) = some (.ref (q + 1 + i) k) := aidx_msln hk'
        have ldr := hD.get hi'
        have hkl : k < (dnR m p i).length := by rw [dnR_len]; exact hk'
        have ldc := ld_ints (hD.row i hi') hkl
        rw [← getD_of hkl, dnR_getD hk'] at ldc
        have hxg : xg m i k = (m[i])[k] := by unfold xg; rw [getD_row hi', getD_of hkr]
        rw [hxg] at ldc
        by_cases hr : remP m p i k = 0
        · rw [hr, Int.sub_zero] at ldc
          simp [e0, e9, e19, e20, x1, ldr, x2, ldc, hx.get hi', hx.ld hi', aidx_nat hrow hkr]
          refine hN2 (k + 1) _ (by omega) ⟨by omega, by simp [e0], by simp [e9], by simp [e11], by simp [e19], by simp [wrap_nat1 (show k < _ by omega)], by simpa using hD, fun k' hk2 => ?_⟩
          by_cases e : k' = k
          · subst e; exact hr
          · exact hin k' (by omega)
        · have hne : ¬ (m[i])[k] - remP m p i k = (m[i])[k] := by omega
          simp [e0, e9, e19, e20, x1, ldr, x2, ldc, hx.get hi', hx.ld hi', aidx_nat hrow hkr, hne]
          simp [bad13 i k hi' hk' hr]
      · have hk' : k = cols m := by omega
        subst hk'
        simp [e19]
        refine hN (i + 1) _ (by omega) ⟨by omega, by simp [e0], by simp [e9], by simp [e11], by simp [wrap_nat1 (show i < _ by omega)], by simpa using hD, fun i' k h1 h2 => ?_⟩
        by_cases e : i' = i
        · subst e; exact hin k h2
        · exact hall i' k (by omega) h2
    · have hi' : i = m.length := by omega
      subst hi'
      have hr : remZ m p = true := by
        unfold remZ
        rw [List.all_eq_true]
        intro i hi
        rw [List.all_eq_true]
        intro k hk
        simpa using hall i k (by simpa using hi) (by simpa using hk)
      have hE : lenE m seats p = 0 := by rw [lenE, if_pos h, if_neg hl, if_pos hfe, if_pos hr]
      simp [e11, lenV, hE]
end Go.Proofs.Ytokgpcdbpkginaa
set_option linter.unusedVariables false
set_option linter.unusedSimpArgs false
namespace Go.Proofs.Ytokgpcdbpkginaa
open Go Fw

theorem p18 {x : AV} {m : List (List Int)} {R : Nat → AV} (hx : IsM x m R) (seats : Int) {y : AV} {p : List (Int × List Int)} (hy : IsP y p) : PCall Try.prog 18 [x, .int .i64 seats, y] (.int .i64 (verE m seats p)) := by
  obtain ⟨C, hC, k21, k17⟩ : ∃ C, CtxOk Try.prog C ∧ C 21 [x, .int .i64 seats, y] = some (lenV m seats p) ∧ C 17 [x, .int .i64 seats] = some (shV m seats) := ⟨_, (D0ok.pt (p17 hx seats)).pt (p21 hx seats hy), by simp, by simp⟩
  refine PCall.of hC ok18 (by simp) rfl fun hs hb => ?_
  by_cases h : lenE m seats p = 0
  · have hc := lenE_chs h
    have hs := chsE_zero.1 hc
    have e1 : lenV m seats p = .tup [.int .i64 (p.map Prod.fst).sum, .int .i64 0] := by rw [lenV, if_pos h]
    have e2 : shV m seats = .tup [.int .i64 (short m seats), .int .i64 0] := by rw [shV, if_pos hc]
    rw [e1] at k21
    rw [e2] at k17
    by_cases h2 : short m seats < (p.map Prod.fst).sum
    · simp [A18, R18, k21, k17, verE, h, h2]
    · simp [A18, R18, k21, k17, verE, h, h2]
  · have e1 : lenV m seats p = .tup [.int .i64 0, .int .i64 (lenE m seats p)] := by rw [lenV, if_neg h]
    rw [e1] at k21
    simp [A18, R18, k21, verE, h]
theorem row_share {a : AV} {l : List Int} (h : rowI a = some l) : rowI a.share = some l := by
  rcases rowI_inv h with ⟨rfl, rfl⟩ | h
  · simp [AV.share, rowI]
  · exact rowI_of (asI_share h)
theorem row_plain {a : AV} {l : List Int} (h : rowI a = some l) : a.share.plain = true := by
  rcases rowI_inv h with ⟨rfl, rfl⟩ | h
  · simp [AV.share, AV.plain]
  · rcases asI_inv h with ⟨rfl, rfl⟩ | ⟨c, rfl⟩
    · rfl
    · rw [share_sl, share_ints]; cases c <;> exact plain_ints l
def giV (p : List (Int × List Int)) (A : Nat → AV) : List AV := (List.range p.length).map fun i => .agg [.int .i64 (p.getD i (0, [])).1, A i]
theorem giV_take (p : List (Int × List Int)) (A : Nat → AV) {i : Nat} (hi : i < p.length) : (giV p A).take i ++ [.agg [.int .i64 p[i].1, A i]] = (giV p A).take (i + 1) := by
  have hl : i < (giV p A).length := by simp [giV]; exact hi
  rw [take_snoc hl]
  congr 2
  simp [giV, List.getD, hi]
theorem rows_of {y : AV} {p : List (Int × List Int)} (hy : IsP y p) : ∃ A : Nat → AV, ∀ i (h : i < p.length), aidxS 2 y (.int .i64 (i : Int)) = some (.ptr (.agg [.int .i64 p[i].1, A i])) ∧ rowI (A i) = some p[i].2 := by
  have : ∀ i, i < p.length → ∃ a, ∀ h : i < p.length, aidxS 2 y (.int .i64 (i : Int)) = some (.ptr (.agg [.int .i64 p[i].1, a])) ∧ rowI a = some p[i].2 := fun i hi => by
    obtain ⟨a, h⟩ := hy.get i hi
    exact ⟨a, fun _ => h⟩
  obtain ⟨A, hA⟩ := Go.Deep.choose_lt this
  exact ⟨A, fun i h => hA i h h⟩
theorem p19 {y : AV} {p : List (Int × List Int)} (hy : IsP y p) (hp : p.length ≤ 1000) : ∃ z, PCall Try.prog 19 [y] z ∧ IsP z p := by
  obtain ⟨A, hA⟩ := rows_of hy
  have hsh : (giV p A).map AV.share = giV p fun i => (A i).share := by
    unfold giV
    rw [List.map_map]
    apply List.map_congr_left
    intro i _
    simp [Function.comp]
  have hpl : plainL (giV p fun i => (A i).share) = true := by
    have : ∀ l : List AV, (∀ v ∈ l, v.plain = true) → plainL l = true := by
      intro l
      induction l with
      | nil => intro _; rfl
      | cons a l ih => intro h; simp only [plainL, Bool.and_eq_true]; exact ⟨h a (by simp), ih fun v hv => h v (by simp [hv])⟩
    refine this _ fun v hv => ?_
    simp only [giV, List.mem_map, List.mem_range] at hv
    obtain ⟨i, hi, rfl⟩ := hv
    simp only [AV.plain, plainL, Bool.true_and, Bool.and_true]
    exact row_plain (hA i hi).2
  have hgl : (giV p A).length = p.length := by simp [giV]
  refine ⟨outV 2 (giV p fun i => (A i).share), PCall.of D0ok ok19 (by simp) ?_ fun hs hb => ?_, ?_⟩
  · unfold outV
    split
    · rfl
    · rename_i h; exact hpl
  · simp [A19, R19]
    refine At.loop (fun (i : Nat) s => i ≤ p.length ∧ s.env 0 = y ∧ s.env 4 = .int .i64 (i : Int) ∧ Outs 2 s.hs (s.env 3) (((giV p fun i => (A i).share)).take i)) (fun i => p.length - i) 0 ?_ ?_
    · exact ⟨by omega, by simp, by simp, by simpa using Outs.nil⟩
    rintro N i s hN ⟨hi, e0, e4, ho⟩
    simp [e0, e4, hy.len]
    refine At.dec (fun hlt => ?_) (fun hlt => ?_)
    · have hi' : i < p.length := by omega
      have hix := (hA i hi').1
      have hld : ∀ hp, aload hp true 2 (.ptr (.agg [.int .i64 p[i].1, A i])) = some (.agg [.int .i64 p[i].1, A i]) := fun hp => rfl
      have hl1 : ((giV p fun i => (A i).share).take i).length ≤ 1000 := by rw [List.length_take]; omega
      obtain ⟨z, hs', a1, a2, a3⟩ := append_outs ho (q := .sl 2 [.agg [.int .i64 p[i].1, A i]] .exact) (ys := [.agg [.int .i64 p[i].1, A i]]) (asV_sl (by simp)) (by simp at hl1 ⊢; omega)
      have hsn : (giV p fun i => (A i).share).take i ++ [AV.agg [.int .i64 p[i].1, A i]].map AV.share = (giV p fun i => (A i).share).take (i + 1) := by
        rw [← giV_take p _ hi']; simp
      rw [hsn] at a2
      simp [e0, e4, hix, hld, astoAll, sa, ca, a1]
      exact hN (i + 1) _ (by omega) ⟨by omega, by simp [e0], by simp [wrap_nat1 (show i < _ by omega)], by simpa using a2⟩
    · have hi' : i = p.length := by omega
      subst hi'
      rw [List.take_of_length_le (by simp [giV])] at ho
      have := ho.sh
      simp [this]
  · have hgz : ∀ i (h : i < p.length), (giV p fun i => (A i).share)[i]? = some (.agg [.int .i64 p[i].1, (A i).share]) := fun i h => by simp [giV, h, List.getD]
    have hzl : (giV p fun i => (A i).share).length = p.length := by simp [giV]
    refine ⟨by rw [alen_out, hzl], fun i h => ⟨(A i).share, ?_, row_share (hA i h).2⟩, fun hp n => ?_⟩
    · rw [outV_ne (by intro e; rw [e] at hzl; simp at hzl; omega)]
      simp [aidxS, hgz i h]
    · unfold outV
      split
      · cases n <;> rfl
      · refine frzL_noM ?_
        cases n with
        | zero => rfl
        | succ n =>
          simp only [noM, giV, List.all_map, List.all_eq_true, List.mem_range, Function.comp]
          intro i hi v hv
          rcases List.mem_cons.1 hv with rfl | hv
          · cases n <;> rfl
          · rw [List.mem_singleton] at hv; subst hv; exact rowI_noM (row_share (hA i hi).2) n
theorem p3 {x : AV} (h14 : PCall Try.prog 14 [x] (.bool true) ∨ PCall Try.prog 14 [x] (.bool false) ∧ ∃ m R, IsM x m R ∧ m.length ≤ 20) (seats : Int) : PCall Try.prog 3 [x, .int .i64 seats] (.bool true) := by
  rcases h14 with h14 | ⟨h14, m, R, hx, _⟩
  · refine PCall.of ((D0ok.pt h14).pt p15) ok3 (by simp) rfl fun hs hb => ?_
    simp [A3, R3]
  · have q16 := p16 hx seats
    have q17 := p17 hx seats
    by_cases h : chsE m seats = 0
    · obtain ⟨hw, hse⟩ := chsE_zero.1 h
      have hG := plan_good hw hse
      have hP := plan_len m hw hse
      have hpl := hG.len
      have gv := good_ver hw hse hG
      rw [plnV, if_pos h] at q16
      rw [shV, if_pos h] at q17
      obtain ⟨z, q19, hz⟩ := p19 hP (by omega)
      have q18 := p18 hx seats hz
      rw [gv.2] at q18
      generalize planV (planP m seats) = y at *
      generalize planP m seats = p at *
      obtain ⟨C, hC, k14, k15, k16, k17, k18, k19⟩ : ∃ C, CtxOk Try.prog C ∧ C 14 [x] = some (.bool false) ∧ C 15 [] = some (.bool true) ∧ C 16 [x, .int .i64 seats] = some (.tup [y, .int .i64 0]) ∧ C 17 [x, .int .i64 seats] = some (.tup [.int .i64 (short m seats), .int .i64 0]) ∧ C 18 [x, .int .i64 seats, z] = some (.int .i64 0) ∧ C 19 [y] = some z :=
        ⟨_, (((((D0ok.pt h14).pt p15).pt q16).pt q17).pt q18).pt q19, by simp, by simp, by simp, by simp, by simp, by simp⟩
      have h200 : ¬ (200 : Int) < (p.length : Int) := by omega
      refine PCall.of hC ok3 (by simp) rfl fun hs hb => ?_
      simp [A3, R3, k14, k16, k17, hP.len, h200]
      refine At.loop (fun (i : Nat) s => i ≤ p.length ∧ s.env 0 = x ∧ s.env 1 = .int .i64 seats ∧ s.env 5 = y ∧ s.env 9 = .int .i64 (i : Int)) (fun i => p.length - i) 0 ?_ ?_
      · exact ⟨by omega, by simp, by simp, by simp, by simp⟩
      rintro N i s hN ⟨hi, e0, e1, e5, e9⟩
      simp [e5, e9, hP.len]
      refine At.dec (fun hlt => ?_) (fun hlt => ?_)
      · have hi' : i < p.length := by omega
        obtain ⟨a, g1, ha⟩ := hP.get i hi'
        have hl := (hG.st p[i] (List.getElem_mem hi')).len
        have hal := rowI_len ha
        rw [hl] at hal
        simp [e0, e5, e9, g1, leaf_ld (rowI_leaf ha), hal, hx.len]
        exact hN (i + 1) _ (by omega) ⟨by omega, by simp [e0], by simp [e1], by simp [e5], by simp [wrap_nat1 (show i < _ by omega)]⟩
      · simp [e0, e1, e5, k19, k18, k15]
    · rw [plnV, if_neg h] at q16
      rw [shV, if_neg h] at q17
      refine PCall.of ((((D0ok.pt h14).pt p15).pt q16).pt q17) ok3 (by simp) rfl fun hs hb => ?_
      simp [A3, R3, h]
theorem plans_typed (xs : List AV) (h : Typed [TWk, .int .i64] xs) : PCall Try.prog 3 xs (.bool true) := by
  obtain ⟨x, y, rfl, h1, h2⟩ := h.two
  obtain ⟨a, rfl, _⟩ := i64_typed h2
  exact p3 (wk_typed h1) a
/-! HoursLengths -/
def TPl : Ty := .sl (.st (.fcons (.int .i64) (.fcons (.isl (.int .i64)) .fnil)))
theorem step_typed {v : AV} (h : ShV (.st (.fcons (.int .i64) (.fcons (.isl (.int .i64)) .fnil))) v) : ∃ (n : Int) (a : AV), v = .agg [.int .i64 n, a] ∧ ∃ k : Nat, alenK false a = some (.int .i64 (k : Int)) ∧ a.leaf = true ∧ (k ≤ 20 → ∃ l : List Int, rowI a = some l ∧ l.length = k) := by
  obtain ⟨cs, rfl, hc⟩ := shv_agg rfl h
  obtain ⟨_, r1, rfl, ⟨n, rfl, hn⟩, hc1⟩ := sh_cons (f := .int .i64) (r := .fcons (.isl (.int .i64)) .fnil) hc
  obtain ⟨b, r2, rfl, hb, hc2⟩ := sh_cons (f := .isl (.int .i64)) (r := .fnil) hc1
  rw [sh_nil hc2]
  have key : ∀ a : AV, a.cells = [a] → Sh (.isl (.int .i64)) [a] → ∃ k : Nat, alenK false a = some (.int .i64 (k : Int)) ∧ a.leaf = true ∧ (k ≤ 20 → ∃ l : List Int, rowI a = some l ∧ l.length = k) := fun a hc hs => by
    have hv : ShV (.isl (.int .i64)) a := ⟨by rw [hc]; exact hs, by simp [Ty.isAgg, hc]⟩
    obtain ⟨k, _, h2, h3, h4⟩ := row_typed hv
    exact ⟨k, h2, h3, h4⟩
  rcases hb with rfl | rfl | ⟨ys, rfl, h1, h2⟩
  · exact ⟨n, .nilsl, rfl, key _ rfl (.inl rfl)⟩
  · exact ⟨n, .esl, rfl, key _ rfl (.inr (.inl rfl))⟩
  · exact ⟨n, _, rfl, key _ rfl (.inr (.inr ⟨ys, rfl, h1, h2⟩))⟩
structure PlT (y : AV) (N : Nat) (H : Nat → Int) (A : Nat → AV) (K : Nat → Nat) : Prop where
  len : alenK false y = some (.int .i64 (N : Int))
  get : ∀ i, i < N → aidxS 2 y (.int .i64 (i : Int)) = some (.ptr (.agg [.int .i64 (H i), A i]))
  row : ∀ i, i < N → alenK false (A i) = some (.int .i64 (K i : Int)) ∧ (A i).leaf = true ∧ (K i ≤ 20 → ∃ l : List Int, rowI (A i) = some l ∧ l.length = K i)
  form : (y = .nilsl ∧ N = 0) ∨ y = .sl 2 ((List.range N).map fun i => .agg [.int .i64 (H i), A i]) .shared
theorem pl_typed {y : AV} (h : ShV TPl y) : ∃ N H A K, PlT y N H A K := by
  rcases shv_sl h with rfl | ⟨xs, rfl, hl, hx⟩
  · exact ⟨0, fun _ => 0, fun _ => .nilsl, fun _ => 0, ⟨rfl, fun i h => by omega, fun i h => by omega, .inl ⟨rfl, rfl⟩⟩⟩
  · have hrow : ∀ i, i < xs.length → ∃ q : (Int × AV) × Nat, xs.getD i .nilsl = .agg [.int .i64 q.1.1, q.1.2] ∧ alenK false q.1.2 = some (.int .i64 (q.2 : Int)) ∧ q.1.2.leaf = true ∧ (q.2 ≤ 20 → ∃ l : List Int, rowI q.1.2 = some l ∧ l.length = q.2) := fun i hi => by
      have e : xs.getD i .nilsl = xs[i] := by simp [List.getD, hi]
      obtain ⟨n, a, h1, k, h2⟩ := step_typed (hx _ (List.getElem_mem hi))
      exact ⟨((n, a), k), by rw [e]; exact h1, h2⟩
    obtain ⟨F, hF⟩ := Go.Deep.choose_lt hrow
    have hxs : xs = (List.range xs.length).map fun i => .agg [.int .i64 (F i).1.1, (F i).1.2] := by
      apply List.ext_getElem
      · simp
      · intro i a b
        have := (hF i a).1
        simp [List.getD, a] at this
        simp [this]
    refine ⟨xs.length, fun i => (F i).1.1, fun i => (F i).1.2, fun i => (F i).2, ⟨rfl, fun i hi => ?_, fun i hi => (hF i hi).2, .inr ?_⟩⟩
    · have := (hF i hi).1
      simp [List.getD, hi] at this
      show aidxS 2 (.sl 2 xs .shared) _ = _
      simp [aidxS, hi, this]
    · show AV.sl 2 xs .shared = _
      rw [← hxs]
theorem PlT.isP {y : AV} {N : Nat} {H : Nat → Int} {A : Nat → AV} {K : Nat → Nat} (h : PlT y N H A K) (hK : ∀ i, i < N → K i ≤ 20) : ∃ p, IsP y p ∧ p.length = N := by
  obtain ⟨L, hL⟩ := Go.Deep.choose_lt fun i hi => (h.row i hi).2.2 (hK i hi)
  refine ⟨(List.range N).map fun i => (H i, L i), ⟨by rw [h.len]; simp, fun i hi => ⟨A i, ?_, ?_⟩, fun hp n => ?_⟩, by simp⟩
  · have hi' : i < N := by simpa using hi
    rw [h.get i hi']; simp
  · have hi' : i < N := by simpa using hi
    rw [(hL i hi').1]; simp
  · rcases h.form with ⟨rfl, _⟩ | e
    · cases n <;> rfl
    · rw [e]
      refine frzL_noM ?_
      cases n with
      | zero => rfl
      | succ n =>
        simp only [noM, List.all_map, List.all_eq_true, List.mem_range, Function.comp]
        intro i hi v hv
        rcases List.mem_cons.1 hv with rfl | hv
        · cases n <;> rfl
        · rw [List.mem_singleton] at hv; subst hv; exact rowI_noM (hL i hi).1 n
theorem lenV_is (m : List (List Int)) (seats : Int) (p : List (Int × List Int)) : ∃ n e, lenV m seats p = .tup [.int .i64 n, .int .i64 e] := by
  unfold lenV
  split
  · exact ⟨_, _, rfl⟩
  · exact ⟨_, _, rfl⟩
theorem p4 {x : AV} (h14 : PCall Try.prog 14 [x] (.bool true) ∨ PCall Try.prog 14 [x] (.bool false) ∧ ∃ m R, IsM x m R ∧ m.length ≤ 20) (seats : Int) {y : AV} {N : Nat} {H : Nat → Int} {A : Nat → AV} {K : Nat → Nat} (hT : PlT y N H A K) : PCall Try.prog 4 [x, .int .i64 seats, y] (.bool true) := by
  rcases h14 with h14 | ⟨h14, m, R, hx, _⟩
  · refine PCall.of ((D0ok.pt h14).pt p15) ok4 (by simp) rfl fun hs hb => ?_
    simp [A4, R4]
  by_cases h300 : 300 < N
  · have h3 : (300 : Int) < (N : Int) := by omega
    refine PCall.of ((D0ok.pt h14).pt p15) ok4 (by simp) rfl fun hs hb => ?_
    simp [A4, R4, hT.len, h300, h3]
  have h3 : ¬ (300 : Int) < (N : Int) := by omega
  by_cases hbig : ∃ i, i < N ∧ 20 < K i
  · refine PCall.of ((D0ok.pt h14).pt p15) ok4 (by simp) rfl fun hs hb => ?_
    simp [A4, R4, hT.len, h300, h3]
    refine At.loop (fun (i : Nat) s => i ≤ N ∧ s.env 2 = y ∧ s.env 7 = .int .i64 (i : Int) ∧ ∀ j, j < i → ¬ 20 < K j) (fun i => N - i) 0 ?_ ?_
    · exact ⟨by omega, by simp, by simp, fun j hj => by omega⟩
    rintro NN i s hN ⟨hi, e2, e7, hno⟩
    simp [e2, e7, hT.len]
    refine At.dec (fun hlt => ?_) (fun hlt => ?_)
    · have hi' : i < N := by omega
      obtain ⟨r1, r2, r3⟩ := hT.row i hi'
      by_cases hb20 : 20 < K i
      · have hb2 : (20 : Int) < (K i : Int) := by omega
        simp [e2, e7, hT.get i hi', leaf_ld r2, r1, hb2, hb20]
      · have hb2 : ¬ (20 : Int) < (K i : Int) := by omega
        simp [e2, e7, hT.get i hi', leaf_ld r2, r1, hb2, hb20]
        refine hN (i + 1) _ (by omega) ⟨by omega, by simp [e2], by simp [wrap_nat1 (show i < _ by omega)], fun j hj => ?_⟩
        by_cases e : j = i
        · subst e; exact hb20
        · exact hno j (by omega)
    · exfalso
      obtain ⟨i', h1, h2⟩ := hbig
      exact hno i' (by omega) h2
  · have hK : ∀ i, i < N → K i ≤ 20 := fun i hi => by
      rcases Nat.lt_or_ge 20 (K i) with h | h
      · exact absurd ⟨i, hi, h⟩ hbig
      · exact h
    obtain ⟨p, hP, hpl⟩ := hT.isP hK
    obtain ⟨z, q19, hz⟩ := p19 hP (by omega)
    obtain ⟨n, e, hlv⟩ := lenV_is m seats p
    have q20 := p20 hx seats hP
    have q21 := p21 hx seats hz
    have q22 := p22 hx seats hP
    have q18 := p18 hx seats hz
    rw [hlv] at q20 q21
    obtain ⟨C, hC, k14, k15, k19, k20, k21, k22, k18⟩ : ∃ C, CtxOk Try.prog C ∧ C 14 [x] = some (.bool false) ∧ C 15 [] = some (.bool true) ∧ C 19 [y] = some z ∧ C 20 [x, .int .i64 seats, y] = some (.tup [.int .i64 n, .int .i64 e]) ∧ C 21 [x, .int .i64 seats, z] = some (.tup [.int .i64 n, .int .i64 e]) ∧ C 22 [x, .int .i64 seats, y] = some (.int .i64 (verE m seats p)) ∧ C 18 [x, .int .i64 seats, z] = some (.int .i64 (verE m seats p)) :=
      ⟨_, ((((((D0ok.pt h14).pt p15).pt q19).pt q20).pt q21).pt q22).pt q18, by simp, by simp, by simp, by simp, by simp, by simp, by simp⟩
    have a20 : ∀ hs, alcall C 20 hs [x, .int .i64 seats, y] = some (.tup [.int .i64 n, .int .i64 e]) := fun hs => alcall_of (by simp [hx.frz, hP.frz, k20]) rfl
    have a22 : ∀ hs, alcall C 22 hs [x, .int .i64 seats, y] = some (.int .i64 (verE m seats p)) := fun hs => alcall_of (by simp [hx.frz, hP.frz, k22]) rfl
    refine PCall.of hC ok4 (by simp) rfl fun hs hb => ?_
    simp [A4, R4, k14, hT.len, h300, h3]
    refine At.loop (fun (i : Nat) s => i ≤ N ∧ s.env 0 = x ∧ s.env 1 = .int .i64 seats ∧ s.env 2 = y ∧ s.env 7 = .int .i64 (i : Int)) (fun i => N - i) 0 ?_ ?_
    · exact ⟨by omega, by simp, by simp, by simp, by simp⟩
    rintro NN i s hN ⟨hi, e0, e1, e2, e7⟩
    simp [e2, e7, hT.len]
    refine At.dec (fun hlt => ?_) (fun hlt => ?_)
    · have hi' : i < N := by omega
      obtain ⟨r1, r2, r3⟩ := hT.row i hi'
      have hb := hK i hi'
      have hb20 : ¬ 20 < K i := by omega
      have hb2 : ¬ (20 : Int) < (K i : Int) := by omega
      simp [e2, e7, hT.get i hi', leaf_ld r2, r1, hb2, hb20]
      exact hN (i + 1) _ (by omega) ⟨by omega, by simp [e0], by simp [e1], by simp [e2], by simp [wrap_nat1 (show i < _ by omega)]⟩
    · simp [e0, e1, e2, k19, a20, k21, a22, k18, k15]
theorem lengths_typed (xs : List AV) (h : Typed [TWk, .int .i64, TPl] xs) : PCall Try.prog 4 xs (.bool true) := by
  obtain ⟨x, y, z, rfl, h1, h2, h3⟩ := h.three
  obtain ⟨a, rfl, _⟩ := i64_typed h2
  obtain ⟨N, H, A, K, hT⟩ := pl_typed h3
  exact p4 (wk_typed h1) a hT
end Go.Proofs.Ytokgpcdbpkginaa
