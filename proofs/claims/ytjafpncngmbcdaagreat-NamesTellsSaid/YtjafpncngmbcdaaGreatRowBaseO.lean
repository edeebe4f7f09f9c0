/-
  The arguments of NamesTells, opened.
-/
import Derived.Test.YtjafpncngmbcdaaGreatRowBaseN
import Derived.Test.YtjafpncngmbcdaaGreatNnL
set_option linter.unusedSimpArgs false
set_option linter.unusedVariables false
set_option linter.unusedSectionVars false
namespace Go.Proofs.YtjafpncngmbcdaaGreat.Row
open Go Go.SL Go.Proofs Go.Proofs.YtjafpncngmbcdaaGreat
open Go.ChangeShapes Go.WideShapes Go.ChangeAt Go.RowKit
set_option linter.unusedVariables false
set_option maxRecDepth 100000
variable {H : Type} {enc : TypeId × Value → H} {W : World} {base : Nat} {v : Value} {d : DataW H} {p : List MemPlace}
theorem walk_NamesTells {w : World} {v0 v1 v2 v3 : Value} (h0 : Q_tFacts w v0) (h1 : Q_string w v1) (h2 : Q_string w v2) (h3 : Q_int w v3) : Calls Tryz.prog 4 #[v0, v1, v2, v3] w fun e w' => e = .returned (.bool true) ∧ Below w.heap.size w w' := by
  obtain ⟨l, hc, hr, hok⟩ := h0
  obtain ⟨nm, rfl, _⟩ := h1
  obtain ⟨sh, rfl, _⟩ := h2
  obtain ⟨g, rfl, _⟩ := h3
  exact calls_of (args := [v0, str nm, str sh, I g]) fun K h => Nam.namesTells (facts_rs hr) (fun p hp => (hok p hp).fin) h
end Go.Proofs.YtjafpncngmbcdaaGreat.Row
