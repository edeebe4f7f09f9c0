/-
  DiskTorn and DiskAll, as their rows ask for them.
-/
import Derived.Test.YtfholicobkpilaaRowOpen
import Derived.Test.YtfholicobkpilaaLaw3H
set_option linter.unusedSimpArgs false
set_option linter.unusedVariables false
set_option linter.unusedSectionVars false
namespace Go.Proofs.Ytfholicobkpilaa.Row
open Go Go.SL Go.Proofs Go.Proofs.Ytfholicobkpilaa Go.RowKit
theorem walk_DiskTorn {w : World} {v0 v1 v2 : Value} (h0 : Q_int w v0) (h1 : Q_Deeds3 w v1) (h2 : Q_tCrash w v2) :
    Calls Try.prog 5 #[v0, v1, v2] w fun e w' => e = .returned (.bool true) ∧ Below w.heap.size w w' := by
  obtain ⟨n, rfl, _⟩ := h0
  obtain ⟨ds, hd, hl⟩ := h1
  obtain ⟨c, kv, rfl, i2, i4⟩ := h2
  have i6 : BaseX w kv c.keep.length (bools c.keep) := ⟨i4⟩
  exact calls_of (args := [I n, v1, .agg #[kv, I c.torn, I c.at_]]) fun K h => Disk.diskTorn hd hl h
theorem walk_DiskAll {w : World} {v0 v1 v2 : Value} (h0 : Q_int w v0) (h1 : Q_Deeds3 w v1) (h2 : Q_tCrash w v2) :
    Calls Try.prog 7 #[v0, v1, v2] w fun e w' => e = .returned (.bool true) ∧ Below w.heap.size w w' := by
  obtain ⟨n, rfl, _⟩ := h0
  obtain ⟨ds, hd, hl⟩ := h1
  obtain ⟨c, kv, rfl, i2, i4⟩ := h2
  have i6 : BaseX w kv c.keep.length (bools c.keep) := ⟨i4⟩
  exact calls_of (args := [I n, v1, .agg #[kv, I c.torn, I c.at_]]) fun K h => Disk.diskAll hd hl h
end Go.Proofs.Ytfholicobkpilaa.Row
