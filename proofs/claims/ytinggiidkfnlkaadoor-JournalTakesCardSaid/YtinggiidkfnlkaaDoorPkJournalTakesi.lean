/-
  Part 9: RowBaseJ.
-/
import Derived.Test.YtinggiidkfnlkaaDoorRows
import Derived.WalkKit
import Derived.ProofKit
import Derived.OpenShut
import Derived.ShutString
import Derived.ChangeOld
import Derived.Below
import Derived.Test.YtinggiidkfnlkaaDoorPkJournalTakesb
import Derived.Test.YtinggiidkfnlkaaDoorPkJournalTakesh
set_option linter.unusedSimpArgs false
set_option linter.unusedVariables false
set_option linter.unusedSectionVars false
section
namespace Go.Proofs.YtinggiidkfnlkaaDoor.Row
open Go Go.SL Go.Proofs Go.Proofs.YtinggiidkfnlkaaDoor Go.Proofs.YtinggiidkfnlkaaDoor.Disk
open Go.ChangeShapes Go.WideShapes Go.ChangeAt Go.RowKit
set_option maxRecDepth 100000
variable {H : Type} {enc : TypeId × Value → H} {W : World} {base : Nat} {v : Value} {d : DataW H} {p : List MemPlace}
theorem own : ownKnob Tryd.prog.godebug = none := by kernel_rfl
theorem laidOut : laidOutB Tryd.prog = true := by kernel_rfl
theorem reach_eq : reachBytes = 140737488351232 := by decide
theorem calls_of {f : FuncId} {args : List Value} {w : World} (h : ∀ K : Value → WT, E w [] (K (.bool true)) → E w [] (CF Tryd.prog f args K)) :
    Calls Tryd.prog f args.toArray w fun e w' => e = .returned (.bool true) ∧ Below w.heap.size w w' := by
  have := h (fun v w' => v = .bool true ∧ Below w.heap.size w w') (fun w' hw' => ⟨rfl, hw'.below⟩) w (sat.start w)
  refine Calls.mono this ?_
  intro e w' he
  cases e with
  | returned v => exact ⟨by rw [he.1], he.2⟩
  | panicked c => obtain ⟨_, _, h⟩ := he; exact h.elim
  | outgrown => exact he.elim
theorem one_slice {t e : TypeId} {cs : List Value} (hu : Tryd.prog.underlying t = some (.slice e)) (hok : Value.okWide Tryd.prog W .any base t v) (hcs : v.cells.toList = cs) {u : Value} (h : cs = [u]) : v = u := by
  obtain ⟨a, l, c, rfl⟩ := okWide_slice hu hok
  subst hcs
  simpa [Value.cells] using h
def Q_int (_w : World) (v : Value) : Prop := ∃ n, v = .int .i64 n ∧ -9223372036854775808 ≤ n ∧ n ≤ 9223372036854775807
theorem wf_i64' {n : Int} (h : (Lit.int .i64 n).wf = true) : -9223372036854775808 ≤ n ∧ n ≤ 9223372036854775807 := by
  unfold Lit.wf at h
  simp only [IntKind.min, IntKind.max, Bool.and_eq_true, decide_eq_true_eq] at h
  simp [IntKind.signed, IntKind.bits] at h
  omega
theorem op_int (_hok : Value.okWide Tryd.prog W .any base 3 v) (h : ∃ m, DataW.trod enc Tryd.prog W 0 (fun _ => true) true m 3 v.cells.toList = some (d, p)) (_hw : ∀ k ∈ d.weights Tryd.prog 3, k ≤ reachBytes) : Q_int W v := by
  obtain ⟨n, rfl⟩ := okWide_int Tryd.underlying3 _hok
  obtain ⟨m, hm⟩ := h
  obtain ⟨n', e, hwf⟩ := trod_int' Tryd.underlying3 hm
  have : n = n' := by simpa [Value.cells] using e
  subst this
  exact ⟨n, rfl, wf_i64' hwf⟩
def Q_bytes (w : World) (v : Value) : Prop := ∃ bs, CellI v ∧ rdB w v bs ∧ bs.length ≤ 140737488351232
theorem op_bytes (_hok : Value.okWide Tryd.prog W .any base 22 v) (h : ∃ m, DataW.trod enc Tryd.prog W 0 (fun _ => true) true m 22 v.cells.toList = some (d, p)) (_hw : ∀ k ∈ d.weights Tryd.prog 22, k ≤ reachBytes) : Q_bytes W v := by
  obtain ⟨m, hm⟩ := h
  obtain ⟨u, bs, e2, hc2, hr2, hb2⟩ := trod_bytes u_bytes u_byte (by kernel_rfl) (by kernel_rfl) hm
  have := one_slice u_bytes _hok rfl e2
  subst this
  have hb := hb2 _ _hw
  rw [reach_eq] at hb
  exact ⟨bs, hc2, hr2, hb⟩
theorem walk_JournalTakes {w : World} {v0 v1 : Value} (h0 : Q_bytes w v0) (h1 : Q_int w v1) : Calls Tryd.prog 3 #[v0, v1] w fun e w' => e = .returned (.bool true) ∧ Below w.heap.size w w' := by
  obtain ⟨bs, _, hr, hl⟩ := h0
  obtain ⟨n, rfl, _, _⟩ := h1
  have i1 : BaseR w v0 bs := ⟨hr⟩
  exact calls_of (args := [v0, .int .i64 n]) fun K h => Jn.journalTakes (r := bs) (by omega) h
end Go.Proofs.YtinggiidkfnlkaaDoor.Row
end
