/-
  Part 9: RowBaseW.
-/
import Derived.Test.YtblgkgobakhigaaRows
import Derived.Test.YtblgkgobakhigaaProg
import Derived.Test.YtblgkgobakhigaaChecked
import Derived.WalkKit
import Derived.ProofKit
import Derived.OpenShut
import Derived.ShutString
import Derived.ChangeOld
import Derived.Below
import Derived.Test.YtblgkgobakhigaaPkCodeBackh
set_option linter.unusedSimpArgs false
set_option linter.unusedVariables false
set_option linter.unusedSectionVars false
section
namespace Go.Proofs.Ytblgkgobakhigaa.Row
open Go Go.SL Go.Proofs Go.Proofs.Ytblgkgobakhigaa
open Go.ChangeShapes Go.WideShapes Go.ChangeAt Go.RowKit
set_option maxRecDepth 100000
variable {H : Type} {enc : TypeId × Value → H} {W : World} {base : Nat} {v : Value} {d : DataW H} {p : List MemPlace}
theorem own : ownKnob Try.prog.godebug = none := by kernel_rfl
theorem laidOut : laidOutB Try.prog = true := by kernel_rfl
theorem reach_eq : reachBytes = 140737488351232 := by decide
theorem calls_of {f : FuncId} {args : List Value} {w : World} (h : ∀ K : Value → WT, E w [] (K (.bool true)) → E w [] (CF Try.prog f args K)) :
    Calls Try.prog f args.toArray w fun e w' => e = .returned (.bool true) ∧ Below w.heap.size w w' := by
  have := h (fun v w' => v = .bool true ∧ Below w.heap.size w w') (fun w' hw' => ⟨rfl, hw'.below⟩) w (sat.start w)
  refine Calls.mono this ?_
  intro e w' he
  cases e with
  | returned v => exact ⟨by rw [he.1], he.2⟩
  | panicked c => obtain ⟨_, _, h⟩ := he; exact h.elim
  | outgrown => exact he.elim
theorem one_slice {t e : TypeId} {cs : List Value} (hu : Try.prog.underlying t = some (.slice e)) (hok : Value.okWide Try.prog W .any base t v) (hcs : v.cells.toList = cs) {u : Value} (h : cs = [u]) : v = u := by
  obtain ⟨a, l, c, rfl⟩ := okWide_slice hu hok
  subst hcs
  simpa [Value.cells] using h
def Q_bytes (w : World) (v : Value) : Prop := ∃ bs, CellI v ∧ rdB w v bs ∧ bs.length ≤ 140737488351232
theorem op_bytes (_hok : Value.okWide Try.prog W .any base 31 v) (h : ∃ m, DataW.trod enc Try.prog W 0 (fun _ => true) true m 31 v.cells.toList = some (d, p)) (_hw : ∀ k ∈ d.weights Try.prog 31, k ≤ reachBytes) : Q_bytes W v := by
  obtain ⟨m, hm⟩ := h
  obtain ⟨u, bs, e2, hc2, hr2, hb2⟩ := trod_bytes Cod.u_bytes Cod.u_byte (by kernel_rfl) (by kernel_rfl) hm
  have := one_slice Cod.u_bytes _hok rfl e2
  subst this
  have hb := hb2 _ _hw
  rw [reach_eq] at hb
  exact ⟨bs, hc2, hr2, hb⟩
end Go.Proofs.Ytblgkgobakhigaa.Row
end
