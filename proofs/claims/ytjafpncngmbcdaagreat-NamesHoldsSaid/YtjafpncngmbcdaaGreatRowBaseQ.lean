/-
  The arguments of NamesHolds, opened.
-/
import Derived.Test.YtjafpncngmbcdaaGreatRowBaseN
import Derived.Test.YtjafpncngmbcdaaGreatNnP
set_option linter.unusedSimpArgs false
set_option linter.unusedVariables false
set_option linter.unusedSectionVars false
namespace Go.Proofs.YtjafpncngmbcdaaGreat.Row
open Go Go.SL Go.Proofs Go.Proofs.YtjafpncngmbcdaaGreat
open Go.ChangeShapes Go.WideShapes Go.ChangeAt Go.RowKit
set_option linter.unusedVariables false
set_option maxRecDepth 100000
variable {H : Type} {enc : TypeId × Value → H} {W : World} {base : Nat} {v : Value} {d : DataW H} {p : List MemPlace}
theorem walk_NamesHolds {w : World} {v0 v1 v2 : Value} (h0 : Q_tFacts w v0) (h1 : Q_string w v1) (h2 : Q_tFacts w v2) : Calls Tryz.prog 6 #[v0, v1, v2] w fun e w' => e = .returned (.bool true) ∧ Below w.heap.size w w' := by
  obtain ⟨l, hc, hr, hok⟩ := h0
  obtain ⟨sh, rfl, hsl⟩ := h1
  obtain ⟨m, hc2, hr2, hok2⟩ := h2
  exact calls_of (args := [v0, str sh, v2]) fun K h => Nam.namesHolds (facts_rs hr) (fun p hp => (hok p hp).fin) (facts_rs hr2) (fun p hp => (hok2 p hp).fin) hsl h
end Go.Proofs.YtjafpncngmbcdaaGreat.Row
