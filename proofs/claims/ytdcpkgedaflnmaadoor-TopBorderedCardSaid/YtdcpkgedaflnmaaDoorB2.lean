/-
  The examples of marks, hours, racks and inks: evaluated. Own work.
  printedWorks, bracedWorks, tabledWorks, markedWorks: the examples hold. Own work.
-/
import Derived.Test.YtdcpkgedaflnmaaDoorB1
import Derived.Test.YtdcpkgedaflnmaaDoorFx3
import Derived.Test.YtdcpkgedaflnmaaDoorG5
import Derived.Test.YtdcpkgedaflnmaaDoorFx4
set_option linter.unusedVariables false
namespace Go.Proofs.YtdcpkgedaflnmaaDoor.Bw
open Go Fw

def T0 : FuncId → Option Entry
  | 62 => some (.code A62 R62 35)
  | 88 => some (.code A88 R88 46)
  | 89 => some (.code A89 R89 31)
  | 90 => some (.code A90 R90 36)
  | 112 => some (.code A112 R112 15)
  | 113 => some (.code A113 R113 8)
  | 114 => some (.code A114 R114 9)
  | 115 => some (.code A115 R115 15)
  | 116 => some (.code A116 R116 31)
  | 128 => some (.code A128 R128 10)
  | 91 => some (.code A91 R91 39)
  | 117 => some (.code A117 R117 16)
  | 118 => some (.code A118 R118 23)
  | 129 => some (.code A129 R129 27)
  | 130 => some (.code A130 R130 15)
  | 131 => some (.code A131 R131 35)
  | 132 => some (.code A132 R132 8)
  | 133 => some (.code A133 R133 8)
  | 134 => some (.code A134 R134 9)
  | 135 => some (.code A135 R135 11)
  | 136 => some (.code A136 R136 21)
  | 137 => some (.code A137 R137 4)
  | 145 => some (.code A145 R145 11)
  | 146 => some (.code A146 R146 6)
  | 147 => some (.code A147 R147 21)
  | 148 => some (.code A148 R148 8)
  | 163 => some (.code A163 R163 25)
  | 164 => some (.code A164 R164 25)
  | 119 => some (.code A119 R119 32)
  | 138 => some (.code A138 R138 15)
  | 140 => some (.code A140 R140 34)
  | 149 => some (.code A149 R149 38)
  | 150 => some (.code A150 R150 34)
  | 151 => some (.code A151 R151 66)
  | 156 => some (.code A156 R156 15)
  | 157 => some (.code A157 R157 10)
  | 158 => some (.code A158 R158 35)
  | 159 => some (.code A159 R159 22)
  | 161 => some (.code A161 R161 6)
  | 162 => some (.code A162 R162 20)
  | 166 => some (.code A166 R166 10)
  | 184 => some (.code A184 R184 9)
  | 96 => some (.code A96 R96 9)
  | 122 => some (.code A122 R122 19)
  | 70 => some (.code A70 R70 9)
  | 100 => some (.code A100 R100 19)
  | 94 => some (.code A94 R94 17)
  | 95 => some (.code A95 R95 6)
  | 121 => some (.code A121 R121 6)
  | 82 => some (.code A82 R82 9)
  | 84 => some (.code A84 R84 36)
  | 111 => some (.code A111 R111 27)
  | 139 => some (.code A139 R139 22)
  | 69 => some (.code A69 R69 23)
  | 97 => some (.code A97 R97 8)
  | 98 => some (.code A98 R98 9)
  | 99 => some (.code A99 R99 49)
  | 38 => some (.code A38 R38 20)
  | 71 => some (.code A71 R71 10)
  | 39 => some (.code A39 R39 11)
  | 73 => some (.code A73 R73 21)
  | 74 => some (.code A74 R74 13)
  | 72 => some (.code A72 R72 15)
  | 15 => some (.code A15 R15 16)
  | 93 => some (.code A93 R93 19)
  | _ => none
theorem t0 : TOk Tryd.prog T0 := by
  intro f x h
  unfold T0 at h
  split at h <;> (try (cases h; done)) <;> (injection h with h; subst h) <;> first
    | exact ⟨_, _, ok62⟩ | exact ⟨_, _, ok88⟩ | exact ⟨_, _, ok89⟩ | exact ⟨_, _, ok90⟩ | exact ⟨_, _, ok112⟩ | exact ⟨_, _, ok113⟩ | exact ⟨_, _, ok114⟩ | exact ⟨_, _, ok115⟩ | exact ⟨_, _, ok116⟩ | exact ⟨_, _, ok128⟩ | exact ⟨_, _, ok91⟩ | exact ⟨_, _, ok117⟩ | exact ⟨_, _, ok118⟩ | exact ⟨_, _, ok129⟩ | exact ⟨_, _, ok130⟩ | exact ⟨_, _, ok131⟩ | exact ⟨_, _, ok132⟩ | exact ⟨_, _, ok133⟩ | exact ⟨_, _, ok134⟩ | exact ⟨_, _, ok135⟩ | exact ⟨_, _, ok136⟩ | exact ⟨_, _, ok137⟩ | exact ⟨_, _, ok145⟩ | exact ⟨_, _, ok146⟩ | exact ⟨_, _, ok147⟩ | exact ⟨_, _, ok148⟩ | exact ⟨_, _, ok163⟩ | exact ⟨_, _, ok164⟩ | exact ⟨_, _, ok119⟩ | exact ⟨_, _, ok138⟩ | exact ⟨_, _, ok140⟩ | exact ⟨_, _, ok149⟩ | exact ⟨_, _, ok150⟩ | exact ⟨_, _, ok151⟩ | exact ⟨_, _, ok156⟩ | exact ⟨_, _, ok157⟩ | exact ⟨_, _, ok158⟩ | exact ⟨_, _, ok159⟩ | exact ⟨_, _, ok161⟩ | exact ⟨_, _, ok162⟩ | exact ⟨_, _, ok166⟩ | exact ⟨_, _, ok184⟩ | exact ⟨_, _, ok96⟩ | exact ⟨_, _, ok122⟩ | exact ⟨_, _, ok70⟩ | exact ⟨_, _, ok100⟩ | exact ⟨_, _, ok94⟩ | exact ⟨_, _, ok95⟩ | exact ⟨_, _, ok121⟩ | exact ⟨_, _, ok82⟩ | exact ⟨_, _, ok84⟩ | exact ⟨_, _, ok111⟩ | exact ⟨_, _, ok139⟩ | exact ⟨_, _, ok69⟩ | exact ⟨_, _, ok97⟩ | exact ⟨_, _, ok98⟩ | exact ⟨_, _, ok99⟩ | exact ⟨_, _, ok38⟩ | exact ⟨_, _, ok71⟩ | exact ⟨_, _, ok39⟩ | exact ⟨_, _, ok73⟩ | exact ⟨_, _, ok74⟩ | exact ⟨_, _, ok72⟩ | exact ⟨_, _, ok15⟩ | exact ⟨_, _, ok93⟩
def eqV (v : AV) : AV → Bool
  | .tup [.int .i64 a, .int .i64 b] => (match v with | .tup [.int .i64 c, .int .i64 d] => a == c && b == d | _ => false)
  | _ => false
theorem eqV_int {c d : Int} {r : AV} (h : eqV (.tup [.int .i64 c, .int .i64 d]) r = true) : r = .tup [.int .i64 c, .int .i64 d] := by
  unfold eqV at h
  split at h
  · simp only [Bool.and_eq_true, beq_iff_eq] at h
    rw [h.1, h.2]
  · cases h
theorem p119 : PCall Tryd.prog 119 [.int .i64 2, .int .i64 3] (.tup [.int .i64 12, .int .i64 0]) := by
  obtain ⟨r, h1, h2⟩ := evIs_sound t0 (L := 40) (n := 12) (f := 119) (args := [.int .i64 2, .int .i64 3]) (ok := eqV (.tup [.int .i64 12, .int .i64 0])) (by decide +kernel)
  rw [← eqV_int h1]
  exact h2
theorem p91 : PCall Tryd.prog 91 [.sl 1 [.sl 1 (ints [2, 1]) .exact, .sl 1 (ints [0, 3]) .exact] .exact, .int .i64 2] (.tup [.int .i64 4, .int .i64 0]) := by
  obtain ⟨r, h1, h2⟩ := evIs_sound t0 (L := 40) (n := 12) (f := 91) (args := [.sl 1 [.sl 1 (ints [2, 1]) .exact, .sl 1 (ints [0, 3]) .exact] .exact, .int .i64 2]) (ok := eqV (.tup [.int .i64 4, .int .i64 0])) (by decide +kernel)
  rw [← eqV_int h1]
  exact h2
theorem p62 : PCall Tryd.prog 62 [.agg [.int .i64 3, .sl 1 [.sl 1 (ints [0, 0, 0]) .exact, .sl 1 (ints [1, 1, 1]) .exact, .sl 1 (ints [2, 2, 2]) .exact] .exact], .sl 1 (ints [0, 1]) .exact] (.tup [.int .i64 8, .int .i64 0]) := by
  obtain ⟨r, h1, h2⟩ := evIs_sound t0 (L := 40) (n := 12) (f := 62) (args := [.agg [.int .i64 3, .sl 1 [.sl 1 (ints [0, 0, 0]) .exact, .sl 1 (ints [1, 1, 1]) .exact, .sl 1 (ints [2, 2, 2]) .exact] .exact], .sl 1 (ints [0, 1]) .exact]) (ok := eqV (.tup [.int .i64 8, .int .i64 0])) (by decide +kernel)
  rw [← eqV_int h1]
  exact h2
def inkA : List AV := [.sl 1 (ints [1, 1, 3, 3, 4]) .exact, .sl 1 (ints [2, 3, 2, 3, 4]) .exact, .sl 1 (ints [4, 4, 4, 4, 4]) .exact]
def three : AV → Bool
  | .tup [.sl _ xs _, .int .i64 e] => xs.length == 3 && e == 0
  | _ => false
theorem few : ∃ sz xs c, xs.length = 3 ∧ PCall Tryd.prog 140 [.agg [.int .i64 5, .sl 1 inkA .exact], .sl 1 (ints [3, 4]) .exact] (.tup [.sl sz xs c, .int .i64 0]) := by
  obtain ⟨r, h1, h2⟩ := evIs_sound t0 (L := 40) (n := 12) (f := 140) (args := [.agg [.int .i64 5, .sl 1 inkA .exact], .sl 1 (ints [3, 4]) .exact]) (ok := three) (by decide +kernel)
  unfold three at h1
  split at h1
  · rename_i sz xs c e
    simp only [Bool.and_eq_true, beq_iff_eq] at h1
    obtain ⟨h1, rfl⟩ := h1
    exact ⟨sz, xs, c, h1, h2⟩
  · cases h1
/-- the table of a line of fives -/
def tb52 : List AV := [.sl 1 (ints [0, 1, 2, 3, 4]) .shared, .sl 1 (ints [2, 3, 4, 0, 1]) .shared, .sl 1 (ints [4, 0, 1, 2, 3]) .shared, .sl 1 (ints [1, 2, 3, 4, 0]) .shared, .sl 1 (ints [3, 4, 0, 1, 2]) .shared]
theorem p139 : PCall Tryd.prog 139 [.sl 1 tb52 .exact, .sl 1 (ints [1, 2]) .exact] (.tup [.int .i64 2, .int .i64 0]) := by
  obtain ⟨r, h1, h2⟩ := evIs_sound t0 (L := 40) (n := 12) (f := 139) (args := [.sl 1 tb52 .exact, .sl 1 (ints [1, 2]) .exact]) (ok := eqV (.tup [.int .i64 2, .int .i64 0])) (by decide +kernel)
  rw [← eqV_int h1]
  exact h2
end Go.Proofs.YtdcpkgedaflnmaaDoor.Bw
set_option linter.unusedVariables false
set_option linter.unusedSimpArgs false
namespace Go.Proofs.YtdcpkgedaflnmaaDoor.Bw
open Go Fw

theorem p120 : PCall Tryd.prog 120 [] (.bool true) := by
  have h139 := p139
  have h40 := Se.p40 (n := 5) (st := 2) (by decide) (by decide) (by decide) (by decide) (by decide)
  have hv : Se.madV (Se.linT 5 2) = .sl 1 tb52 .exact := by
    have : Se.linT 5 2 = [[0, 1, 2, 3, 4], [2, 3, 4, 0, 1], [4, 0, 1, 2, 3], [1, 2, 3, 4, 0], [3, 4, 0, 1, 2]] := by decide
    rw [this]
    rfl
  rw [hv] at h40
  obtain ⟨xs, hxs⟩ : ∃ xs, xs = tb52 := ⟨_, rfl⟩
  have hx : xs.length = 5 := by rw [hxs]; rfl
  rw [← hxs] at h40 h139
  obtain ⟨sz, ys, c, hy, h140⟩ := few
  obtain ⟨C1, hC1, k40, _⟩ := ctx_pt CtxOk.nil 40 _ _ h40
  obtain ⟨C2, hC2, k139, n2⟩ := ctx_pt hC1 139 _ _ h139
  obtain ⟨C, hC, k140, n3⟩ := ctx_pt hC2 140 _ _ h140
  have k40 : C 40 [.int .i64 5, .int .i64 2] = some (.tup [.sl 1 xs .exact, .int .i64 0]) := by rw [n3 40 (by decide), n2 40 (by decide)]; exact k40
  have k139 : C 139 [.sl 1 xs .exact, .sl 1 [.int .i64 1, .int .i64 2] .exact] = some (.tup [.int .i64 2, .int .i64 0]) := by rw [n3 139 (by decide)]; exact k139
  have fl : afill [.int .i64 0, .nilsl] [(0, 1, .int .i64 5), (1, 1, .sl 1 inkA .exact)] = some [.int .i64 5, .sl 1 inkA .exact] := by
    simp [afill, setL, AV.sto, AV.cells]
  refine PCall.of hC ok120 (by simp) rfl fun hs hb => ?_
  simp [A120, R120, k40, k139, hx, astoAll]
  simp [inkA, ints] at k140 fl
  simp [fl, k140, hy, astoAll]
theorem p92 : PCall Tryd.prog 92 [] (.bool true) := by
  obtain ⟨C1, hC1, k119, _⟩ := ctx_pt CtxOk.nil 119 _ _ p119
  obtain ⟨C, hC, k120, n2⟩ := ctx_pt hC1 120 _ _ p120
  have k119 : C 119 [.int .i64 2, .int .i64 3] = some (.tup [.int .i64 12, .int .i64 0]) := by rw [n2 119 (by decide)]; exact k119
  refine PCall.of hC ok92 (by simp) rfl fun hs hb => ?_
  simp [A92, R92, k119, k120]
theorem p63 : PCall Tryd.prog 63 [] (.bool true) := by
  obtain ⟨C1, hC1, k91, _⟩ := ctx_pt CtxOk.nil 91 _ _ p91
  obtain ⟨C, hC, k92, n2⟩ := ctx_pt hC1 92 _ _ p92
  have k91 : C 91 [.sl 1 [.sl 1 (ints [2, 1]) .exact, .sl 1 (ints [0, 3]) .exact] .exact, .int .i64 2] = some (.tup [.int .i64 4, .int .i64 0]) := by rw [n2 91 (by decide)]; exact k91
  simp only [ints, List.map] at k91
  have s0 : ∀ a b : Int, astoAll 1 [.int .i64 a, .int .i64 b] = true := fun _ _ => rfl
  have s1 : astoAll 1 [.sl 1 [.int .i64 2, .int .i64 1] .exact, .sl 1 [.int .i64 0, .int .i64 3] .exact] = true := rfl
  refine PCall.of hC ok63 (by simp) rfl fun hs hb => ?_
  simp [A63, R63, k91, k92, s0, s1]
theorem p33 : PCall Tryd.prog 33 [] (.bool true) := by
  obtain ⟨C1, hC1, k62, _⟩ := ctx_pt CtxOk.nil 62 _ _ p62
  obtain ⟨C, hC, k63, n2⟩ := ctx_pt hC1 63 _ _ p63
  have k62 : C 62 [.agg [.int .i64 3, .sl 1 [.sl 1 (ints [0, 0, 0]) .exact, .sl 1 (ints [1, 1, 1]) .exact, .sl 1 (ints [2, 2, 2]) .exact] .exact], .sl 1 (ints [0, 1]) .exact] = some (.tup [.int .i64 8, .int .i64 0]) := by rw [n2 62 (by decide)]; exact k62
  simp only [ints, List.map] at k62
  have s0 : ∀ a b c : Int, astoAll 1 [.int .i64 a, .int .i64 b, .int .i64 c] = true := fun _ _ _ => rfl
  have s00 : ∀ a b : Int, astoAll 1 [.int .i64 a, .int .i64 b] = true := fun _ _ => rfl
  have s1 : astoAll 1 [.sl 1 [.int .i64 0, .int .i64 0, .int .i64 0] .exact, .sl 1 [.int .i64 1, .int .i64 1, .int .i64 1] .exact, .sl 1 [.int .i64 2, .int .i64 2, .int .i64 2] .exact] = true := rfl
  have s2 : afill [.int .i64 0, .nilsl] [(0, 1, .int .i64 3), (1, 1, .sl 1 [.sl 1 [.int .i64 0, .int .i64 0, .int .i64 0] .exact, .sl 1 [.int .i64 1, .int .i64 1, .int .i64 1] .exact, .sl 1 [.int .i64 2, .int .i64 2, .int .i64 2] .exact] .exact)] = some [.int .i64 3, .sl 1 [.sl 1 [.int .i64 0, .int .i64 0, .int .i64 0] .exact, .sl 1 [.int .i64 1, .int .i64 1, .int .i64 1] .exact, .sl 1 [.int .i64 2, .int .i64 2, .int .i64 2] .exact] .exact] := rfl
  refine PCall.of hC ok33 (by simp) rfl fun hs hb => ?_
  simp [A33, R33, k62, k63, s0, s00, s1, s2]
end Go.Proofs.YtdcpkgedaflnmaaDoor.Bw
