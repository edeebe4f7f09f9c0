/-
  The arguments of the rows of Clean, opened; what the rows ask for.
-/
import Derived.Test.YtfholicobkpilaaRowBaseC
import Derived.Test.YtfholicobkpilaaSlOpenL
import Derived.Test.YtfholicobkpilaaCleanP
set_option linter.unusedSimpArgs false
set_option linter.unusedVariables false
set_option linter.unusedSectionVars false
namespace Go.Proofs.Ytfholicobkpilaa.Row
open Go Go.SL Go.Proofs Go.Proofs.Ytfholicobkpilaa Go.Proofs.Ytfholicobkpilaa.Clean
open Go.ChangeShapes Go.WideShapes Go.ChangeAt Go.RowKit
set_option maxRecDepth 100000
variable {H : Type} {enc : TypeId × Value → H} {W : World} {base : Nat} {v : Value} {d : DataW H} {p : List MemPlace}
theorem u_byte : Try.prog.underlying 5 = some (.int .u8) := by kernel_rfl
theorem reach_eq : reachBytes = 140737488351232 := by decide
theorem elem_share {n R : Nat} {cs : List Value} {x : DataW H × List MemPlace} (h : DataW.trod enc Try.prog W 0 (fun _ => true) true n 71 cs = some x) (_hR : ∀ k ∈ x.1.weights Try.prog 71, k ≤ R) : ∃ a : Clean.Sh, cs = shc a ∧ True := by
  obtain ⟨hl, m, hf⟩ := trod_fields [(3, 0), (3, 1), (3, 2)] (by kernel_rfl) h
  have c2 : Try.prog.cellsOf 3 = 1 := by kernel_rfl
  have c3 : Try.prog.cellsOf 71 = 3 := by kernel_rfl
  rw [c3] at hl
  obtain ⟨y0, y1, y2, rfl⟩ : ∃ x0 x1 x2, cs = [x0, x1, x2] := by
    clear h hf
    rcases cs with _ | ⟨y0, _ | ⟨y1, _ | ⟨y2, _ | ⟨y3, cs⟩⟩⟩⟩ <;> simp only [List.length_nil, List.length_cons] at hl <;> first | omega | exact ⟨_, _, _, rfl⟩
  obtain ⟨_, g0, _⟩ := hf 0 _ rfl
  obtain ⟨_, g1, _⟩ := hf 1 _ rfl
  obtain ⟨_, g2, _⟩ := hf 2 _ rfl
  simp only [c2] at g0 g1 g2
  obtain ⟨n0, e0, _⟩ := trod_int' Try.underlying3 g0
  obtain ⟨n1, e1, _⟩ := trod_int' Try.underlying3 g1
  obtain ⟨n2, e2, _⟩ := trod_int' Try.underlying3 g2
  simp at e0 e1 e2
  exact ⟨⟨n0, n1, n2⟩, by rw [e0, e1, e2], trivial⟩
theorem elem_spot {n R : Nat} {cs : List Value} {x : DataW H × List MemPlace} (h : DataW.trod enc Try.prog W 0 (fun _ => true) true n 79 cs = some x) (_hR : ∀ k ∈ x.1.weights Try.prog 79, k ≤ R) : ∃ a : Int × Int, cs = spc a ∧ True := by
  obtain ⟨hl, m, hf⟩ := trod_fields [(3, 0), (3, 1)] (by kernel_rfl) h
  have c2 : Try.prog.cellsOf 3 = 1 := by kernel_rfl
  have c3 : Try.prog.cellsOf 79 = 2 := by kernel_rfl
  rw [c3] at hl
  obtain ⟨y0, y1, rfl⟩ : ∃ x0 x1, cs = [x0, x1] := by
    clear h hf
    rcases cs with _ | ⟨y0, _ | ⟨y1, _ | ⟨y2, cs⟩⟩⟩ <;> simp only [List.length_nil, List.length_cons] at hl <;> first | omega | exact ⟨_, _, rfl⟩
  obtain ⟨_, g0, _⟩ := hf 0 _ rfl
  obtain ⟨_, g1, _⟩ := hf 1 _ rfl
  simp only [c2] at g0 g1
  obtain ⟨n0, e0, _⟩ := trod_int' Try.underlying3 g0
  obtain ⟨n1, e1, _⟩ := trod_int' Try.underlying3 g1
  simp at e0 e1
  exact ⟨(n0, n1), by rw [e0, e1], trivial⟩
theorem elem_int {n R : Nat} {cs : List Value} {x : DataW H × List MemPlace} (h : DataW.trod enc Try.prog W 0 (fun _ => true) true n 3 cs = some x) (_hR : ∀ k ∈ x.1.weights Try.prog 3, k ≤ R) : ∃ a : Int, cs = cI a ∧ True := by
  obtain ⟨n0, e0, _⟩ := trod_int' Try.underlying3 h
  exact ⟨n0, e0, trivial⟩
theorem elem_fill {n : Nat} {cs : List Value} {x : DataW H × List MemPlace} (h : DataW.trod enc Try.prog W 0 (fun _ => true) true n 68 cs = some x) (hR : ∀ k ∈ x.1.weights Try.prog 68, k ≤ reachBytes) :
    ∃ a : Clean.Fl, cs = flc a ∧ rdX W a.v a.lens.length (a.lens.flatMap cI) := by
  obtain ⟨hl, m, hf⟩ := trod_fields [(3, 0), (28, 1)] (by kernel_rfl) h
  have c2 : Try.prog.cellsOf 3 = 1 := by kernel_rfl
  have c4 : Try.prog.cellsOf 28 = 1 := by kernel_rfl
  have c3 : Try.prog.cellsOf 68 = 2 := by kernel_rfl
  rw [c3] at hl
  obtain ⟨y0, y1, rfl⟩ : ∃ x0 x1, cs = [x0, x1] := by
    clear h hf
    rcases cs with _ | ⟨y0, _ | ⟨y1, _ | ⟨y2, cs⟩⟩⟩ <;> simp only [List.length_nil, List.length_cons] at hl <;> first | omega | exact ⟨_, _, rfl⟩
  obtain ⟨_, g0, _⟩ := hf 0 _ rfl
  obtain ⟨z1, g1, w1⟩ := hf 1 _ rfl
  simp only [c2, c4] at g0 g1
  obtain ⟨n0, e0, _⟩ := trod_int' Try.underlying3 g0
  obtain ⟨v, l, e1, hc, hr, _⟩ := trod_list (encl := cI) (by_ := 8) Disk.u_ints c2 (by kernel_rfl) (by decide) (fun _ => True) (fun n cs x h hR => elem_int h hR) (fun k hk => hR k (w1 k hk)) g1
  simp at e0 e1
  exact ⟨⟨n0, v, l, hc.pf⟩, by rw [e0, e1], hr⟩
theorem elem_pr {n R : Nat} {cs : List Value} {x : DataW H × List MemPlace} (h : DataW.trod enc Try.prog W 0 (fun _ => true) true n 75 cs = some x) (_hR : ∀ k ∈ x.1.weights Try.prog 75, k ≤ R) : ∃ a : Clean.Pr, cs = prc a ∧ True := by
  have hu : Try.prog.underlying 75 = some (.array 2 74) := by kernel_rfl
  obtain ⟨xs, m, _, _, hl, hxl, hf⟩ := DataW.trod_array hu h
  have c2 : Try.prog.cellsOf 74 = 1 := by kernel_rfl
  have c3 : Try.prog.cellsOf 75 = 2 := by kernel_rfl
  have hu16 : Try.prog.underlying 74 = some (.int .u16) := by kernel_rfl
  rw [c3] at hl
  rw [c2] at hf
  obtain ⟨y0, y1, rfl⟩ : ∃ x0 x1, cs = [x0, x1] := by
    clear h hf
    rcases cs with _ | ⟨y0, _ | ⟨y1, _ | ⟨y2, cs⟩⟩⟩ <;> simp only [List.length_nil, List.length_cons] at hl <;> first | omega | exact ⟨_, _, rfl⟩
  have g0 := hf 0 (by decide)
  have g1 := hf 1 (by decide)
  rw [List.getElem?_eq_getElem (by omega)] at g0 g1
  obtain ⟨n0, e0, w0⟩ := trod_int' hu16 g0
  obtain ⟨n1, e1, w1⟩ := trod_int' hu16 g1
  simp at e0 e1
  have wf : ∀ n : Int, (Lit.int .u16 n).wf = true → 0 ≤ n ∧ n ≤ 65535 := fun n h => by
    unfold Lit.wf at h
    simp only [IntKind.min, IntKind.max, Bool.and_eq_true, decide_eq_true_eq] at h
    simp [IntKind.signed, IntKind.bits] at h
    omega
  exact ⟨⟨n0, n1, (wf n0 w0).1, (wf n0 w0).2, (wf n1 w1).1, (wf n1 w1).2⟩, by rw [e0, e1], trivial⟩
theorem one_slice {t e : TypeId} {cs : List Value} (hu : Try.prog.underlying t = some (.slice e)) (hok : Value.okWide Try.prog W .any base t v) (hcs : v.cells.toList = cs) {u : Value} (h : cs = [u]) : v = u := by
  obtain ⟨a, l, c, rfl⟩ := okWide_slice hu hok
  subst hcs
  simpa [Value.cells] using h
def Q_tShares (w : World) (v : Value) : Prop := ∃ l : List Clean.Sh, CellI v ∧ rdX w v l.length (l.flatMap shc) ∧ l.length * 24 ≤ 140737488351232
theorem op_tShares (_hok : Value.okWide Try.prog W .any base 60 v) (h : ∃ m, DataW.trod enc Try.prog W 0 (fun _ => true) true m 60 v.cells.toList = some (d, p)) (_hw : ∀ k ∈ d.weights Try.prog 60, k ≤ reachBytes) : Q_tShares W v := by
  obtain ⟨m, hm⟩ := h
  obtain ⟨u, l, hc, h1, h2, _, h3⟩ := trod_list (encl := shc) (by_ := 24) u_shares (by kernel_rfl) (by kernel_rfl) (by decide) (fun _ => True) (fun n cs x h hR => elem_share h hR) _hw hm
  have := one_slice u_shares _hok rfl hc
  subst this
  exact ⟨l, h1, h2, by rw [← reach_eq]; exact h3⟩
def Q_tSpots (w : World) (v : Value) : Prop := ∃ l : List (Int × Int), CellI v ∧ rdX w v l.length (l.flatMap spc) ∧ l.length * 16 ≤ 140737488351232
theorem op_tSpots (_hok : Value.okWide Try.prog W .any base 66 v) (h : ∃ m, DataW.trod enc Try.prog W 0 (fun _ => true) true m 66 v.cells.toList = some (d, p)) (_hw : ∀ k ∈ d.weights Try.prog 66, k ≤ reachBytes) : Q_tSpots W v := by
  obtain ⟨m, hm⟩ := h
  obtain ⟨u, l, hc, h1, h2, _, h3⟩ := trod_list (encl := spc) (by_ := 16) u_spots (by kernel_rfl) (by kernel_rfl) (by decide) (fun _ => True) (fun n cs x h hR => elem_spot h hR) _hw hm
  have := one_slice u_spots _hok rfl hc
  subst this
  exact ⟨l, h1, h2, by rw [← reach_eq]; exact h3⟩
def Q_tFills (w : World) (v : Value) : Prop := ∃ l : List Clean.Fl, CellI v ∧ rdX w v l.length (l.flatMap flc) ∧ (∀ f ∈ l, rdX w f.v f.lens.length (f.lens.flatMap cI)) ∧ l.length * 32 ≤ 140737488351232
theorem op_tFills (_hok : Value.okWide Try.prog W .any base 65 v) (h : ∃ m, DataW.trod enc Try.prog W 0 (fun _ => true) true m 65 v.cells.toList = some (d, p)) (_hw : ∀ k ∈ d.weights Try.prog 65, k ≤ reachBytes) : Q_tFills W v := by
  obtain ⟨m, hm⟩ := h
  obtain ⟨u, l, hc, h1, h2, h4, h3⟩ := trod_list (encl := flc) (by_ := 32) u_fills (by kernel_rfl) (by kernel_rfl) (by decide) (fun f => rdX W f.v f.lens.length (f.lens.flatMap cI)) (fun n cs x h hR => elem_fill h hR) _hw hm
  have := one_slice u_fills _hok rfl hc
  subst this
  exact ⟨l, h1, h2, h4, by rw [← reach_eq]; exact h3⟩
def Q_tPrs (w : World) (v : Value) : Prop := ∃ l : List Clean.Pr, CellI v ∧ rdX w v l.length (l.flatMap prc) ∧ l.length ≤ 140737488351232
theorem op_tPrs (_hok : Value.okWide Try.prog W .any base 73 v) (h : ∃ m, DataW.trod enc Try.prog W 0 (fun _ => true) true m 73 v.cells.toList = some (d, p)) (_hw : ∀ k ∈ d.weights Try.prog 73, k ≤ reachBytes) : Q_tPrs W v := by
  have hu : Try.prog.underlying 73 = some (.slice 75) := by kernel_rfl
  obtain ⟨m, hm⟩ := h
  obtain ⟨u, l, hc, h1, h2, _, h3⟩ := trod_list (encl := prc) (by_ := 4) hu (by kernel_rfl) (by kernel_rfl) (by decide) (fun _ => True) (fun n cs x h hR => elem_pr h hR) _hw hm
  have := one_slice hu _hok rfl hc
  subst this
  exact ⟨l, h1, h2, by rw [reach_eq] at h3; omega⟩
def Q_byte (_w : World) (v : Value) : Prop := ∃ n, v = .int .u8 n ∧ 0 ≤ n ∧ n ≤ 255
theorem op_byte (_hok : Value.okWide Try.prog W .any base 5 v) (h : ∃ m, DataW.trod enc Try.prog W 0 (fun _ => true) true m 5 v.cells.toList = some (d, p)) (_hw : ∀ k ∈ d.weights Try.prog 5, k ≤ reachBytes) : Q_byte W v := by
  obtain ⟨n, rfl⟩ := okWide_int u_byte _hok
  obtain ⟨m, hm⟩ := h
  obtain ⟨n', e, hwf⟩ := trod_int' u_byte hm
  have : n = n' := by simpa [Value.cells] using e
  subst this
  refine ⟨n, rfl, ?_⟩
  unfold Lit.wf at hwf
  simp only [IntKind.min, IntKind.max, Bool.and_eq_true, decide_eq_true_eq] at hwf
  simp [IntKind.signed, IntKind.bits] at hwf
  omega
theorem walk_CleanChooses {w : World} {v0 v1 v2 : Value} (h0 : Q_tShares w v0) (h1 : Q_int w v1) (h2 : Q_int w v2) : Calls Try.prog 9 #[v0, v1, v2] w fun e w' => e = .returned (.bool true) ∧ Below w.heap.size w w' := by
  obtain ⟨l, _, hr, hl⟩ := h0
  obtain ⟨p, rfl, _⟩ := h1
  obtain ⟨m, rfl, _, hm⟩ := h2
  have i1 : BaseS w v0 shc l := ⟨hr⟩
  exact calls_of (args := [v0, I p, I m]) fun K h => cleanChooses (l := l) hl hm h
theorem walk_CleanShares {w : World} {v0 v1 : Value} (h0 : Q_tFills w v0) (h1 : Q_tSpots w v1) : Calls Try.prog 13 #[v0, v1] w fun e w' => e = .returned (.bool true) ∧ Below w.heap.size w w' := by
  obtain ⟨l, _, hr, hf, hl⟩ := h0
  obtain ⟨sp, _, hr2, hl2⟩ := h1
  have i1 : BaseS w v0 flc l := ⟨hr⟩
  have i2 : BaseS w v1 spc sp := ⟨hr2⟩
  exact calls_of (args := [v0, v1]) fun K h => cleanShares (fs := l) (sp := sp) (fun f hfl => ⟨hf f hfl⟩) hl (by omega) h
theorem walk_CleanCopies {w : World} {v0 v1 : Value} (h0 : Q_int w v0) (h1 : Q_tSpots w v1) : Calls Try.prog 12 #[v0, v1] w fun e w' => e = .returned (.bool true) ∧ Below w.heap.size w w' := by
  obtain ⟨n, rfl, _⟩ := h0
  obtain ⟨sp, hc, hr2, hl2⟩ := h1
  have i2 : BaseS w v1 spc sp := ⟨hr2⟩
  exact calls_of (args := [I n, v1]) fun K h => cleanCopies (sp := sp) hl2 h
theorem walk_CleanAll {w : World} {v0 v1 : Value} (h0 : Q_tFills w v0) (h1 : Q_tSpots w v1) : Calls Try.prog 10 #[v0, v1] w fun e w' => e = .returned (.bool true) ∧ Below w.heap.size w w' := by
  obtain ⟨l, _, hr, hf, hl⟩ := h0
  obtain ⟨sp, _, hr2, hl2⟩ := h1
  have i1 : BaseS w v0 flc l := ⟨hr⟩
  have i2 : BaseS w v1 spc sp := ⟨hr2⟩
  exact calls_of (args := [v0, v1]) fun K h => cleanAll (fs := l) (sp := sp) (fun f hfl => ⟨hf f hfl⟩) hl (by omega) h
theorem walk_CleanFirst {w : World} {v0 v1 v2 : Value} (h0 : Q_tPrs w v0) (h1 : Q_byte w v1) (h2 : Q_byte w v2) : Calls Try.prog 11 #[v0, v1, v2] w fun e w' => e = .returned (.bool true) ∧ Below w.heap.size w w' := by
  obtain ⟨l, _, hr, hl⟩ := h0
  obtain ⟨p, rfl, p0, p1⟩ := h1
  obtain ⟨m, rfl, m0, m1⟩ := h2
  have i1 : BaseS w v0 prc l := ⟨hr⟩
  exact calls_of (args := [v0, .int .u8 p, .int .u8 m]) fun K h => cleanFirst (l := l) p0 p1 m0 m1 hl h
end Go.Proofs.Ytfholicobkpilaa.Row
