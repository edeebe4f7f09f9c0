/-
  Model: ModelFails and ModelForks, their arguments opened.
-/
import Derived.Test.YtabpaknfenpkoaaGreatRowBaseM
import Derived.Test.YtabpaknfenpkoaaGreatLwP
set_option linter.unusedSimpArgs false
set_option linter.unusedVariables false
set_option linter.unusedSectionVars false
namespace Go.Proofs.YtabpaknfenpkoaaGreat.Row
open Go Go.SL Go.Proofs Go.Proofs.YtabpaknfenpkoaaGreat
open Go.ChangeShapes Go.WideShapes Go.ChangeAt Go.RowKit
set_option linter.unusedVariables false
set_option maxRecDepth 100000
variable {H : Type} {enc : TypeId × Value → H} {W : World} {base : Nat} {v : Value} {d : DataW H} {p : List MemPlace}
def Q_tStep (w : World) (v : Value) : Prop := ∃ s : Mod.Sp, v = .agg (Mod.stC s).toArray ∧ Mod.SpOk w s
theorem op_tStep (_hok : Value.okWide Tryz.prog W .any base 47 v) (h : ∃ m, DataW.trod enc Tryz.prog W 0 (fun _ => true) true m 47 v.cells.toList = some (d, p)) (_hw : ∀ k ∈ d.weights Tryz.prog 47, k ≤ reachBytes) : Q_tStep W v := by
  obtain ⟨cs, rfl, _⟩ := okWide_struct Tryz.underlying47 _hok
  obtain ⟨m, hm⟩ := h
  obtain ⟨s, e, hs⟩ := elem_step hm _hw
  refine ⟨s, ?_, hs⟩
  have e' : cs.toList = Mod.stC s := e
  rw [← e']
theorem walk_ModelFails {w : World} {v0 v1 v2 : Value} (h0 : Q_int w v0) (h1 : Q_tSteps w v1) (h2 : Q_tStep w v2) : Calls Tryz.prog 5 #[v0, v1, v2] w fun e w' => e = .returned (.bool true) ∧ Below w.heap.size w w' := by
  obtain ⟨q, rfl, _, hq⟩ := h0
  obtain ⟨ss, hc, hr, hok, hl⟩ := h1
  obtain ⟨s, rfl, hs⟩ := h2
  have i1 : BaseS w v1 Mod.stC ss := ⟨hr⟩
  exact calls_of (args := [I q, v1, .agg (Mod.stC s).toArray]) fun K h => Mod.modelFails (ss := ss) hok hs hq (by omega) h
theorem walk_ModelForks {w : World} {v0 v1 v2 : Value} (h0 : Q_int w v0) (h1 : Q_tSteps w v1) (h2 : Q_tSteps w v2) : Calls Tryz.prog 6 #[v0, v1, v2] w fun e w' => e = .returned (.bool true) ∧ Below w.heap.size w w' := by
  obtain ⟨q, rfl, _, hq⟩ := h0
  obtain ⟨ss, hc, hr, hok, hl⟩ := h1
  obtain ⟨ms, hc4, hr4, hok4, hl4⟩ := h2
  have i1 : BaseS w v1 Mod.stC ss := ⟨hr⟩
  have i4 : BaseS w v2 Mod.stC ms := ⟨hr4⟩
  exact calls_of (args := [I q, v1, v2]) fun K h => Mod.modelForks (ss := ss) (ms := ms) hok hok4 hq (by omega) (by omega) h
end Go.Proofs.YtabpaknfenpkoaaGreat.Row
