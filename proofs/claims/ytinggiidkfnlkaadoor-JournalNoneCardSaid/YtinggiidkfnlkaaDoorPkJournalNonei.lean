/-
  Part 9: RowBaseJ.
-/
import Derived.Test.YtinggiidkfnlkaaDoorRows
import Derived.WalkKit
import Derived.ProofKit
import Derived.OpenShut
import Derived.ShutString
import Derived.ChangeOld
import Derived.Below
import Derived.Test.YtinggiidkfnlkaaDoorPkJournalNoneb
import Derived.Test.YtinggiidkfnlkaaDoorPkJournalNoneh
set_option linter.unusedSimpArgs false
set_option linter.unusedVariables false
set_option linter.unusedSectionVars false
section
namespace Go.Proofs.YtinggiidkfnlkaaDoor.Row
open Go Go.SL Go.Proofs Go.Proofs.YtinggiidkfnlkaaDoor Go.Proofs.YtinggiidkfnlkaaDoor.Disk
open Go.ChangeShapes Go.WideShapes Go.ChangeAt Go.RowKit
set_option maxRecDepth 100000
variable {H : Type} {enc : TypeId × Value → H} {W : World} {base : Nat} {v : Value} {d : DataW H} {p : List MemPlace}
theorem own : ownKnob Tryd.prog.godebug = none := by kernel_rfl
theorem laidOut : laidOutB Tryd.prog = true := by kernel_rfl
theorem reach_eq : reachBytes = 140737488351232 := by decide
theorem calls_of {f : FuncId} {args : List Value} {w : World} (h : ∀ K : Value → WT, E w [] (K (.bool true)) → E w [] (CF Tryd.prog f args K)) :
    Calls Tryd.prog f args.toArray w fun e w' => e = .returned (.bool true) ∧ Below w.heap.size w w' := by
  have := h (fun v w' => v = .bool true ∧ Below w.heap.size w w') (fun w' hw' => ⟨rfl, hw'.below⟩) w (sat.start w)
  refine Calls.mono this ?_
  intro e w' he
  cases e with
  | returned v => exact ⟨by rw [he.1], he.2⟩
  | panicked c => obtain ⟨_, _, h⟩ := he; exact h.elim
  | outgrown => exact he.elim
theorem one_slice {t e : TypeId} {cs : List Value} (hu : Tryd.prog.underlying t = some (.slice e)) (hok : Value.okWide Tryd.prog W .any base t v) (hcs : v.cells.toList = cs) {u : Value} (h : cs = [u]) : v = u := by
  obtain ⟨a, l, c, rfl⟩ := okWide_slice hu hok
  subst hcs
  simpa [Value.cells] using h
theorem wf_i64' {n : Int} (h : (Lit.int .i64 n).wf = true) : -9223372036854775808 ≤ n ∧ n ≤ 9223372036854775807 := by
  unfold Lit.wf at h
  simp only [IntKind.min, IntKind.max, Bool.and_eq_true, decide_eq_true_eq] at h
  simp [IntKind.signed, IntKind.bits] at h
  omega
def Q_bytes (w : World) (v : Value) : Prop := ∃ bs, CellI v ∧ rdB w v bs ∧ bs.length ≤ 140737488351232
theorem op_bytes (_hok : Value.okWide Tryd.prog W .any base 22 v) (h : ∃ m, DataW.trod enc Tryd.prog W 0 (fun _ => true) true m 22 v.cells.toList = some (d, p)) (_hw : ∀ k ∈ d.weights Tryd.prog 22, k ≤ reachBytes) : Q_bytes W v := by
  obtain ⟨m, hm⟩ := h
  obtain ⟨u, bs, e2, hc2, hr2, hb2⟩ := trod_bytes u_bytes u_byte (by kernel_rfl) (by kernel_rfl) hm
  have := one_slice u_bytes _hok rfl e2
  subst this
  have hb := hb2 _ _hw
  rw [reach_eq] at hb
  exact ⟨bs, hc2, hr2, hb⟩
theorem c_intJ : Tryd.prog.cellsOf 3 = 1 := by kernel_rfl
theorem c_byteJ : Tryd.prog.cellsOf 5 = 1 := by kernel_rfl
theorem c_runJ : Tryd.prog.cellsOf 32 = 2 := by kernel_rfl
theorem c_whereJ : Tryd.prog.cellsOf 41 = 6 := by kernel_rfl
theorem one_intJ {fuel : Nat} {cs : List Value} {x : DataW H × List MemPlace} (h : DataW.trod enc Tryd.prog W 0 (fun _ => true) true fuel 3 cs = some x) :
    ∃ n : Int, cs = [.int .i64 n] ∧ n ≤ 9223372036854775807 := by
  obtain ⟨n, e, hwf⟩ := trod_int' Tryd.underlying3 h
  exact ⟨n, e, (wf_i64' hwf).2⟩
theorem one_run {fuel : Nat} {cs : List Value} {x : DataW H × List MemPlace} (h : DataW.trod enc Tryd.prog W 0 (fun _ => true) true fuel 32 cs = some x) :
    ∃ a b : Int, cs = [.int .i64 a, .int .i64 b] := by
  obtain ⟨hl, m, hf⟩ := trod_fields [(3, 0), (3, 1)] (by kernel_rfl) h
  rw [c_runJ] at hl
  match cs, hl with
  | [y0, y1], _ =>
    obtain ⟨_, g0, _⟩ := hf 0 _ rfl
    obtain ⟨_, g1, _⟩ := hf 1 _ rfl
    simp only [c_intJ] at g0 g1
    obtain ⟨n0, e0, _⟩ := one_intJ g0
    obtain ⟨n1, e1, _⟩ := one_intJ g1
    simp at e0 e1
    exact ⟨n0, n1, by rw [e0, e1]⟩
def Q_tWhere (_w : World) (v : Value) : Prop := ∃ s b x0 x1 y0 y1 : Int, v = .agg #[.int .u8 s, .int .i64 b, .int .i64 x0, .int .i64 x1, .int .i64 y0, .int .i64 y1]
theorem op_tWhere (_hok : Value.okWide Tryd.prog W .any base 41 v) (h : ∃ m, DataW.trod enc Tryd.prog W 0 (fun _ => true) true m 41 v.cells.toList = some (d, p)) (_hw : ∀ k ∈ d.weights Tryd.prog 41, k ≤ reachBytes) : Q_tWhere W v := by
  obtain ⟨cs, rfl, _⟩ := okWide_struct Tryd.underlying41 _hok
  obtain ⟨m, hm⟩ := h
  have e : (Value.agg cs).cells.toList = cs.toList := rfl
  rw [e] at hm
  obtain ⟨hl, m, hf⟩ := trod_fields [(5, 0), (3, 1), (32, 2), (32, 4)] (by kernel_rfl) hm
  rw [c_whereJ] at hl
  obtain ⟨l, hcl⟩ : ∃ l, cs = l.toArray := ⟨cs.toList, by simp⟩
  subst hcl
  simp only at hl hf
  match l, hl with
  | [y0, y1, y2, y3, y4, y5], _ =>
    obtain ⟨_, g0, _⟩ := hf 0 _ rfl
    obtain ⟨_, g1, _⟩ := hf 1 _ rfl
    obtain ⟨_, g2, _⟩ := hf 2 _ rfl
    obtain ⟨_, g3, _⟩ := hf 3 _ rfl
    simp only [c_intJ, c_byteJ, c_runJ] at g0 g1 g2 g3
    obtain ⟨n0, e0, _⟩ := trod_int' u_byte g0
    obtain ⟨n1, e1, _⟩ := one_intJ g1
    obtain ⟨a0, a1, e2⟩ := one_run g2
    obtain ⟨b0, b1, e3⟩ := one_run g3
    simp at e0 e1 e2 e3
    obtain ⟨e21, e22⟩ := e2
    obtain ⟨e31, e32⟩ := e3
    exact ⟨n0, n1, a0, a1, b0, b1, by rw [e0, e1, e21, e22, e31, e32]⟩
theorem walk_JournalNone {w : World} {v0 v1 : Value} (h0 : Q_tWhere w v0) (h1 : Q_bytes w v1) : Calls Tryd.prog 4 #[v0, v1] w fun e w' => e = .returned (.bool true) ∧ Below w.heap.size w w' := by
  obtain ⟨s, b, x0, x1, y0, y1, rfl⟩ := h0
  obtain ⟨bs, _, hr, hl⟩ := h1
  have i1 : BaseR w v1 bs := ⟨hr⟩
  exact calls_of (args := [.agg #[.int .u8 s, .int .i64 b, .int .i64 x0, .int .i64 x1, .int .i64 y0, .int .i64 y1], v1]) fun K h => Jn.journalNone (r := bs) (by omega) h
end Go.Proofs.YtinggiidkfnlkaaDoor.Row
end
