/-
  Part 9: RowBaseW.
-/
import Derived.Test.YtblgkgobakhigaaRows
import Derived.Test.YtblgkgobakhigaaProg
import Derived.Test.YtblgkgobakhigaaChecked
import Derived.WalkKit
import Derived.ProofKit
import Derived.OpenShut
import Derived.ShutString
import Derived.ChangeOld
import Derived.Below
import Derived.Test.YtblgkgobakhigaaPkWh
set_option linter.unusedSimpArgs false
set_option linter.unusedVariables false
set_option linter.unusedSectionVars false
section
namespace Go.Proofs.Ytblgkgobakhigaa.Row
open Go Go.SL Go.Proofs Go.Proofs.Ytblgkgobakhigaa
open Go.ChangeShapes Go.WideShapes Go.ChangeAt Go.RowKit
set_option maxRecDepth 100000
variable {H : Type} {enc : TypeId × Value → H} {W : World} {base : Nat} {v : Value} {d : DataW H} {p : List MemPlace}
theorem own : ownKnob Try.prog.godebug = none := by kernel_rfl
theorem laidOut : laidOutB Try.prog = true := by kernel_rfl
theorem calls_of {f : FuncId} {args : List Value} {w : World} (h : ∀ K : Value → WT, E w [] (K (.bool true)) → E w [] (CF Try.prog f args K)) :
    Calls Try.prog f args.toArray w fun e w' => e = .returned (.bool true) ∧ Below w.heap.size w w' := by
  have := h (fun v w' => v = .bool true ∧ Below w.heap.size w w') (fun w' hw' => ⟨rfl, hw'.below⟩) w (sat.start w)
  refine Calls.mono this ?_
  intro e w' he
  cases e with
  | returned v => exact ⟨by rw [he.1], he.2⟩
  | panicked c => obtain ⟨_, _, h⟩ := he; exact h.elim
  | outgrown => exact he.elim
theorem okWide_array {t e : TypeId} {n : Nat} (ht : Try.prog.underlying t = some (.array n e)) (h : Value.okWide Try.prog W .any base t v) : ∃ cs, v = .agg cs := by
  simp only [Value.okWide, ht] at h
  obtain ⟨cs, h1, _⟩ := h
  exact ⟨cs, h1⟩
theorem one_int {t : TypeId} {fuel : Nat} {cs : List Value} {x : DataW H × List MemPlace} (ht : Try.prog.underlying t = some (.int .i64)) (h : DataW.trod enc Try.prog W 0 (fun _ => true) true fuel t cs = some x) :
    ∃ n : Int, cs = [.int .i64 n] := by
  obtain ⟨n, e, hwf⟩ := trod_int' ht h
  exact ⟨n, e⟩
theorem ints_of : ∀ (n : Nat) (cs : List Value), cs.length = n → (∀ i, i < n → ∃ a : Int, (cs.drop i).take 1 = [.int .i64 a]) → ∃ l : List Int, l.length = n ∧ cs = ints l
  | 0, cs, hl, _ => ⟨[], rfl, List.length_eq_zero_iff.1 hl⟩
  | n + 1, [], hl, _ => by simp at hl
  | n + 1, y :: cs, hl, h => by
    obtain ⟨b, hb⟩ := h 0 (by omega)
    obtain ⟨l, hl', e⟩ := ints_of n cs (by simpa using hl) fun i hi => by simpa using h (i + 1) (by omega)
    simp at hb
    exact ⟨b :: l, by simp [hl'], by rw [hb, e]; rfl⟩
theorem c_int : Try.prog.cellsOf 3 = 1 := by kernel_rfl
theorem c_ints : Try.prog.cellsOf 22 = 256 := by kernel_rfl
def Q_ints256 (_w : World) (v : Value) : Prop := ∃ l : List Int, l.length = 256 ∧ v = .agg (ints l).toArray
theorem op_ints256 (_hok : Value.okWide Try.prog W .any base 22 v) (h : ∃ m, DataW.trod enc Try.prog W 0 (fun _ => true) true m 22 v.cells.toList = some (d, p)) (_hw : ∀ k ∈ d.weights Try.prog 22, k ≤ reachBytes) : Q_ints256 W v := by
  obtain ⟨cs, rfl⟩ := okWide_array Cod.u_arr _hok
  obtain ⟨m, hm⟩ := h
  obtain ⟨xs, m, _, _, hl, hxl, hf⟩ := DataW.trod_array Cod.u_arr hm
  rw [c_ints] at hl
  rw [c_int] at hf
  have e0 : (Value.agg cs).cells.toList = cs.toList := rfl
  rw [e0] at hl hf
  obtain ⟨l, hll, e⟩ := ints_of 256 cs.toList hl fun i hi => by
    have g := hf i hi
    rw [List.getElem?_eq_getElem (by omega), Nat.mul_one] at g
    exact one_int Cod.u_int g
  refine ⟨l, hll, ?_⟩
  congr 1
  exact Array.ext' e
end Go.Proofs.Ytblgkgobakhigaa.Row
end
