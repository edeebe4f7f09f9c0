/-
  DiskLasts, as its row asks for it.
-/
import Derived.Test.YtfholicobkpilaaRowOpen
import Derived.Test.YtfholicobkpilaaLaw3F
set_option linter.unusedSimpArgs false
set_option linter.unusedVariables false
set_option linter.unusedSectionVars false
namespace Go.Proofs.Ytfholicobkpilaa.Row
open Go Go.SL Go.Proofs Go.Proofs.Ytfholicobkpilaa Go.RowKit
theorem walk_DiskLasts {w : World} {v0 v1 v2 v3 : Value} (h0 : Q_int w v0) (h1 : Q_Deeds3 w v1) (h2 : Q_Deed3 w v2) (h3 : Q_Deeds3 w v3) :
    Calls Try.prog 4 #[v0, v1, v2, v3] w fun e w' => e = .returned (.bool true) ∧ Below w.heap.size w w' := by
  obtain ⟨n, rfl, _⟩ := h0
  obtain ⟨ds, hd, hl⟩ := h1
  obtain ⟨d, bv, kv, rfl, i1, i2, i3, i4, _⟩ := h2
  obtain ⟨more, hm, _⟩ := h3
  have i5 : BaseR w bv d.bytes := ⟨i3⟩
  have i6 : BaseX w kv d.crash.keep.length (bools d.crash.keep) := ⟨i4⟩
  exact calls_of (args := [I n, v1, Disk.dagg d bv kv, v3]) fun K h => Disk.diskLasts hd hl hm h
end Go.Proofs.Ytfholicobkpilaa.Row
