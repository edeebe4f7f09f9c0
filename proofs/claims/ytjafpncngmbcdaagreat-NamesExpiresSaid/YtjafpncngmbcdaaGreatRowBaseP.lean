/-
  The arguments of NamesExpires, opened.
-/
import Derived.Test.YtjafpncngmbcdaaGreatRowBaseN
import Derived.Test.YtjafpncngmbcdaaGreatNnN
set_option linter.unusedSimpArgs false
set_option linter.unusedVariables false
set_option linter.unusedSectionVars false
namespace Go.Proofs.YtjafpncngmbcdaaGreat.Row
open Go Go.SL Go.Proofs Go.Proofs.YtjafpncngmbcdaaGreat
open Go.ChangeShapes Go.WideShapes Go.ChangeAt Go.RowKit
set_option linter.unusedVariables false
set_option maxRecDepth 100000
variable {H : Type} {enc : TypeId × Value → H} {W : World} {base : Nat} {v : Value} {d : DataW H} {p : List MemPlace}
theorem okWide_keep (h : Value.okWide Tryz.prog W .any base 43 v) : ∃ cs, v = .agg cs := by
  have ht : Tryz.prog.underlying 43 = some (.struct (Tryz.prog.fieldsOf 43)) := by kernel_rfl
  simp only [Value.okWide, ht] at h
  obtain ⟨cs, h1, _⟩ := h
  exact ⟨cs, h1⟩
def Q_tKeep (_w : World) (v : Value) : Prop := ∃ a b c d : Int, v = .agg #[I a, I b, I c, I d] ∧ a ≤ 9223372036854775807 ∧ b ≤ 9223372036854775807 ∧ c ≤ 9223372036854775807 ∧ d ≤ 9223372036854775807
theorem op_tKeep (_hok : Value.okWide Tryz.prog W .any base 43 v) (h : ∃ m, DataW.trod enc Tryz.prog W 0 (fun _ => true) true m 43 v.cells.toList = some (d, p)) (_hw : ∀ k ∈ d.weights Tryz.prog 43, k ≤ reachBytes) : Q_tKeep W v := by
  obtain ⟨cs, rfl⟩ := okWide_keep _hok
  obtain ⟨m, hm⟩ := h
  obtain ⟨a, b, c, d, e, h⟩ := one_keep hm
  refine ⟨a, b, c, d, ?_, h⟩
  congr 1
  exact Array.ext' e
theorem walk_NamesExpires {w : World} {v0 v1 : Value} (h0 : Q_tFacts w v0) (h1 : Q_tKeep w v1) : Calls Tryz.prog 5 #[v0, v1] w fun e w' => e = .returned (.bool true) ∧ Below w.heap.size w w' := by
  obtain ⟨l, hc, hr, hok⟩ := h0
  obtain ⟨a, b, c, d, rfl, hb⟩ := h1
  exact calls_of (args := [v0, .agg #[I a, I b, I c, I d]]) fun K h => Nam.namesExpires (f := ⟨0, 0, 0, 0, [], 0, 0, [], [], [], a, b, c, d⟩) (facts_rs hr) (fun p hp => (hok p hp).fin) hb h
end Go.Proofs.YtjafpncngmbcdaaGreat.Row
