/-
  Model: ModelShows, its arguments opened.
-/
import Derived.Test.YtabpaknfenpkoaaGreatRowBaseM
import Derived.Test.YtabpaknfenpkoaaGreatLwK
set_option linter.unusedSimpArgs false
set_option linter.unusedVariables false
set_option linter.unusedSectionVars false
namespace Go.Proofs.YtabpaknfenpkoaaGreat.Row
open Go Go.SL Go.Proofs Go.Proofs.YtabpaknfenpkoaaGreat
open Go.ChangeShapes Go.WideShapes Go.ChangeAt Go.RowKit
theorem walk_ModelShows {w : World} {v0 v1 v2 v3 v4 : Value} (h0 : Q_int w v0) (h1 : Q_tSteps w v1) (h2 : Q_string w v2) (h3 : Q_string w v3) (h4 : Q_tSteps w v4) : Calls Tryz.prog 4 #[v0, v1, v2, v3, v4] w fun e w' => e = .returned (.bool true) ∧ Below w.heap.size w w' := by
  obtain ⟨q, rfl, _, hq⟩ := h0
  obtain ⟨ss, hc, hr, hok, hl⟩ := h1
  obtain ⟨sh, rfl, hn2⟩ := h2
  obtain ⟨nm, rfl, hn⟩ := h3
  obtain ⟨ms, hc4, hr4, hok4, hl4⟩ := h4
  have i1 : BaseS w v1 Mod.stC ss := ⟨hr⟩
  have i4 : BaseS w v4 Mod.stC ms := ⟨hr4⟩
  exact calls_of (args := [I q, v1, str sh, str nm, v4]) fun K h => Mod.modelShows (ss := ss) (ms := ms) hok hok4 hq (by omega) (by omega) hn hn2 h
end Go.Proofs.YtabpaknfenpkoaaGreat.Row
