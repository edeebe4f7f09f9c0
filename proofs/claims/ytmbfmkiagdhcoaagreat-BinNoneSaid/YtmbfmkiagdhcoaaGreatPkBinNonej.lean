/-
  Part 10: RowBnA.
-/
import Derived.Test.YtmbfmkiagdhcoaaGreatRows
import Derived.WalkKit
import Derived.ProofKit
import Derived.OpenShut
import Derived.ShutString
import Derived.ChangeOld
import Derived.Below
import Derived.Test.YtmbfmkiagdhcoaaGreatPkBinNoneb
import Derived.Test.YtmbfmkiagdhcoaaGreatPkBinNonei
set_option linter.unusedSimpArgs false
set_option linter.unusedVariables false
set_option linter.unusedSectionVars false
section
namespace Go.Proofs.YtmbfmkiagdhcoaaGreat.Row
open Go Go.SL Go.Proofs Go.Proofs.YtmbfmkiagdhcoaaGreat Go.Proofs.YtmbfmkiagdhcoaaGreat.Disk
open Go.ChangeShapes Go.WideShapes Go.ChangeAt Go.RowKit
set_option maxRecDepth 100000
variable {H : Type} {enc : TypeId × Value → H} {W : World} {base : Nat} {v : Value} {d : DataW H} {p : List MemPlace}
theorem own : ownKnob Tryz.prog.godebug = none := by kernel_rfl
theorem laidOut : laidOutB Tryz.prog = true := by kernel_rfl
theorem calls_of {f : FuncId} {args : List Value} {w : World} (h : ∀ K : Value → WT, E w [] (K (.bool true)) → E w [] (CF Tryz.prog f args K)) :
    Calls Tryz.prog f args.toArray w fun e w' => e = .returned (.bool true) ∧ Below w.heap.size w w' := by
  have := h (fun v w' => v = .bool true ∧ Below w.heap.size w w') (fun w' hw' => ⟨rfl, hw'.below⟩) w (sat.start w)
  refine Calls.mono this ?_
  intro e w' he
  cases e with
  | returned v => exact ⟨by rw [he.1], he.2⟩
  | panicked c => obtain ⟨_, _, h⟩ := he; exact h.elim
  | outgrown => exact he.elim
def Q_int (_w : World) (v : Value) : Prop := ∃ n, v = .int .i64 n ∧ -9223372036854775808 ≤ n ∧ n ≤ 9223372036854775807
theorem wf_i64' {n : Int} (h : (Lit.int .i64 n).wf = true) : -9223372036854775808 ≤ n ∧ n ≤ 9223372036854775807 := by
  unfold Lit.wf at h
  simp only [IntKind.min, IntKind.max, Bool.and_eq_true, decide_eq_true_eq] at h
  simp [IntKind.signed, IntKind.bits] at h
  omega
theorem op_int (_hok : Value.okWide Tryz.prog W .any base 3 v) (h : ∃ m, DataW.trod enc Tryz.prog W 0 (fun _ => true) true m 3 v.cells.toList = some (d, p)) (_hw : ∀ k ∈ d.weights Tryz.prog 3, k ≤ reachBytes) : Q_int W v := by
  obtain ⟨n, rfl⟩ := okWide_int Tryz.underlying3 _hok
  obtain ⟨m, hm⟩ := h
  obtain ⟨n', e, hwf⟩ := trod_int' Tryz.underlying3 hm
  have : n = n' := by simpa [Value.cells] using e
  subst this
  exact ⟨n, rfl, wf_i64' hwf⟩
theorem c_intJ : Tryz.prog.cellsOf 3 = 1 := by kernel_rfl
theorem c_runJ : Tryz.prog.cellsOf 32 = 2 := by kernel_rfl
theorem c_placeJ : Tryz.prog.cellsOf 34 = 3 := by kernel_rfl
theorem one_intJ {fuel : Nat} {cs : List Value} {x : DataW H × List MemPlace} (h : DataW.trod enc Tryz.prog W 0 (fun _ => true) true fuel 3 cs = some x) :
    ∃ n : Int, cs = [.int .i64 n] ∧ n ≤ 9223372036854775807 := by
  obtain ⟨n, e, hwf⟩ := trod_int' Tryz.underlying3 h
  exact ⟨n, e, (wf_i64' hwf).2⟩
theorem one_place {fuel : Nat} {cs : List Value} {x : DataW H × List MemPlace} (h : DataW.trod enc Tryz.prog W 0 (fun _ => true) true fuel 34 cs = some x) :
    ∃ a b c : Int, cs = [.int .i64 a, .int .i64 b, .int .i64 c] ∧ b ≤ 9223372036854775807 := by
  obtain ⟨hl, m, hf⟩ := trod_fields [(3, 0), (32, 1)] (by kernel_rfl) h
  rw [c_placeJ] at hl
  match cs, hl with
  | [y0, y1, y2], _ =>
    obtain ⟨_, g0, _⟩ := hf 0 _ rfl
    obtain ⟨_, g1, _⟩ := hf 1 _ rfl
    simp only [c_intJ, c_runJ] at g0 g1
    obtain ⟨n0, e0, _⟩ := one_intJ g0
    obtain ⟨hl1, m1, hf1⟩ := trod_fields [(3, 0), (3, 1)] (by kernel_rfl) g1
    obtain ⟨_, k0, _⟩ := hf1 0 _ rfl
    obtain ⟨_, k1, _⟩ := hf1 1 _ rfl
    simp only [c_intJ] at k0 k1
    obtain ⟨n1, e1, l1⟩ := one_intJ k0
    obtain ⟨n2, e2, _⟩ := one_intJ k1
    simp at e0 e1 e2
    exact ⟨n0, n1, n2, by rw [e0, e1, e2], l1⟩
def Q_tPlace (_w : World) (v : Value) : Prop := ∃ a b c : Int, v = .agg #[.int .i64 a, .int .i64 b, .int .i64 c]
theorem op_tPlace (_hok : Value.okWide Tryz.prog W .any base 34 v) (h : ∃ m, DataW.trod enc Tryz.prog W 0 (fun _ => true) true m 34 v.cells.toList = some (d, p)) (_hw : ∀ k ∈ d.weights Tryz.prog 34, k ≤ reachBytes) : Q_tPlace W v := by
  obtain ⟨cs, rfl, _⟩ := okWide_struct Tryz.underlying34 _hok
  obtain ⟨m, hm⟩ := h
  have e : (Value.agg cs).cells.toList = cs.toList := rfl
  rw [e] at hm
  obtain ⟨a, b, c, e1, _⟩ := one_place hm
  refine ⟨a, b, c, ?_⟩
  obtain ⟨l, hcl⟩ : ∃ l, cs = l.toArray := ⟨cs.toList, by simp⟩
  subst hcl
  simp only at e1
  rw [e1]
theorem walk_BinNone {w : World} {v0 v1 : Value} (h0 : Q_tPlace w v0) (h1 : Q_int w v1) : Calls Tryz.prog 4 #[v0, v1] w fun e w' => e = .returned (.bool true) ∧ Below w.heap.size w w' := by
  obtain ⟨a, b, c, rfl⟩ := h0
  obtain ⟨n, rfl, _, _⟩ := h1
  exact calls_of (args := [.agg #[.int .i64 a, .int .i64 b, .int .i64 c], .int .i64 n]) fun K h => Bn.binNone h
end Go.Proofs.YtmbfmkiagdhcoaaGreat.Row
end
