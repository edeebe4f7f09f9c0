/-
  The arguments of NamesForks, opened.
-/
import Derived.Test.YtjafpncngmbcdaaGreatRowBaseN
import Derived.Test.YtjafpncngmbcdaaGreatNnQ
set_option linter.unusedSimpArgs false
set_option linter.unusedVariables false
set_option linter.unusedSectionVars false
namespace Go.Proofs.YtjafpncngmbcdaaGreat.Row
open Go Go.SL Go.Proofs Go.Proofs.YtjafpncngmbcdaaGreat
open Go.ChangeShapes Go.WideShapes Go.ChangeAt Go.RowKit
set_option linter.unusedVariables false
set_option maxRecDepth 100000
variable {H : Type} {enc : TypeId × Value → H} {W : World} {base : Nat} {v : Value} {d : DataW H} {p : List MemPlace}
theorem okWide_fact (h : Value.okWide Tryz.prog W .any base 60 v) : ∃ cs, v = .agg cs := by
  have ht : Tryz.prog.underlying 60 = some (.struct (Tryz.prog.fieldsOf 60)) := by kernel_rfl
  simp only [Value.okWide, ht] at h
  obtain ⟨cs, h1, _⟩ := h
  exact ⟨cs, h1⟩
def Q_tFact (w : World) (v : Value) : Prop := ∃ q : Nam.FV, v = .agg (Nam.faE q).toArray ∧ FvOk w q
theorem op_tFact (_hok : Value.okWide Tryz.prog W .any base 60 v) (h : ∃ m, DataW.trod enc Tryz.prog W 0 (fun _ => true) true m 60 v.cells.toList = some (d, p)) (_hw : ∀ k ∈ d.weights Tryz.prog 60, k ≤ reachBytes) : Q_tFact W v := by
  obtain ⟨cs, rfl⟩ := okWide_fact _hok
  obtain ⟨m, hm⟩ := h
  obtain ⟨q, e, hq⟩ := elem_fact hm _hw
  refine ⟨q, ?_, hq⟩
  congr 1
  exact Array.ext' e
theorem walk_NamesForks {w : World} {v0 v1 v2 : Value} (h0 : Q_tFacts w v0) (h1 : Q_tFacts w v1) (h2 : Q_tFact w v2) : Calls Tryz.prog 8 #[v0, v1, v2] w fun e w' => e = .returned (.bool true) ∧ Below w.heap.size w w' := by
  obtain ⟨l, hc, hr, hok⟩ := h0
  obtain ⟨m, hc2, hr2, hok2⟩ := h1
  obtain ⟨q, rfl, hq⟩ := h2
  exact calls_of (args := [v0, v1, .agg (Nam.faE q).toArray]) fun K h => Nam.namesForks (facts_rs hr) (fun p hp => (hok p hp).fin) (facts_rs hr2) (fun p hp => (hok2 p hp).fin) h
end Go.Proofs.YtjafpncngmbcdaaGreat.Row
