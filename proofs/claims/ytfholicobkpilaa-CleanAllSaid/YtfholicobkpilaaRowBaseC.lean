/-
  What the rows of Clean share.
-/
import Derived.Test.YtfholicobkpilaaRows
import Derived.Test.YtfholicobkpilaaSlOpen
import Derived.Test.YtfholicobkpilaaProg
import Derived.Test.YtfholicobkpilaaChecked
import Derived.WalkKit
import Derived.ProofKit
import Derived.OpenShut
import Derived.ShutString
import Derived.ChangeOld
import Derived.Below
set_option linter.unusedSimpArgs false
set_option linter.unusedVariables false
set_option linter.unusedSectionVars false
namespace Go.Proofs.Ytfholicobkpilaa.Row
open Go Go.SL Go.Proofs Go.Proofs.Ytfholicobkpilaa
open Go.ChangeShapes Go.WideShapes Go.ChangeAt Go.RowKit
set_option linter.unusedVariables false

theorem own : ownKnob Try.prog.godebug = none := by kernel_rfl
theorem laidOut : laidOutB Try.prog = true := by kernel_rfl
/-- From every world the law's function returns true and writes nothing that was there. -/
theorem calls_of {f : FuncId} {args : List Value} {w : World} (h : ∀ K : Value → WT, E w [] (K (.bool true)) → E w [] (CF Try.prog f args K)) :
    Calls Try.prog f args.toArray w fun e w' => e = .returned (.bool true) ∧ Below w.heap.size w w' := by
  have := h (fun v w' => v = .bool true ∧ Below w.heap.size w w') (fun w' hw' => ⟨rfl, hw'.below⟩) w (sat.start w)
  refine Calls.mono this ?_
  intro e w' he
  cases e with
  | returned v => exact ⟨by rw [he.1], he.2⟩
  | _ => exact he.elim
set_option maxRecDepth 100000
variable {H : Type} {enc : TypeId × Value → H} {W : World} {base : Nat} {v : Value} {d : DataW H} {p : List MemPlace}
def Q_int (_w : World) (v : Value) : Prop := ∃ n, v = .int .i64 n ∧ -9223372036854775808 ≤ n ∧ n ≤ 9223372036854775807
theorem wf_i64' {n : Int} (h : (Lit.int .i64 n).wf = true) : -9223372036854775808 ≤ n ∧ n ≤ 9223372036854775807 := by
  unfold Lit.wf at h
  simp only [IntKind.min, IntKind.max, Bool.and_eq_true, decide_eq_true_eq] at h
  simp [IntKind.signed, IntKind.bits] at h
  omega
theorem op_int (_hok : Value.okWide Try.prog W .any base 3 v) (h : ∃ m, DataW.trod enc Try.prog W 0 (fun _ => true) true m 3 v.cells.toList = some (d, p)) (_hw : ∀ k ∈ d.weights Try.prog 3, k ≤ reachBytes) : Q_int W v := by
  obtain ⟨n, rfl⟩ := okWide_int Try.underlying3 _hok
  obtain ⟨m, hm⟩ := h
  obtain ⟨n', e, hwf⟩ := trod_int' Try.underlying3 hm
  have : n = n' := by simpa [Value.cells] using e
  subst this
  exact ⟨n, rfl, wf_i64' hwf⟩
end Go.Proofs.Ytfholicobkpilaa.Row
