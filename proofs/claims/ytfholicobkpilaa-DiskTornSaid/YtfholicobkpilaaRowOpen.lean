/-
  The arguments of this seat's rows, opened.
-/
import Derived.Test.YtfholicobkpilaaRowBase
set_option linter.unusedSimpArgs false
set_option linter.unusedVariables false
set_option linter.unusedSectionVars false
namespace Go.Proofs.Ytfholicobkpilaa.Row
open Go Go.SL Go.Proofs Go.Proofs.Ytfholicobkpilaa
open Go.ChangeShapes Go.WideShapes Go.ChangeAt Go.RowKit
set_option maxRecDepth 100000
variable {H : Type} {enc : TypeId × Value → H} {W : World} {base : Nat} {v : Value} {d : DataW H} {p : List MemPlace}
def Q_int (_w : World) (v : Value) : Prop := ∃ n, v = .int .i64 n ∧ -9223372036854775808 ≤ n ∧ n ≤ 9223372036854775807
theorem wf_i64' {n : Int} (h : (Lit.int .i64 n).wf = true) : -9223372036854775808 ≤ n ∧ n ≤ 9223372036854775807 := by
  unfold Lit.wf at h
  simp only [IntKind.min, IntKind.max, Bool.and_eq_true, decide_eq_true_eq] at h
  simp [IntKind.signed, IntKind.bits] at h
  omega
theorem op_int (_hok : Value.okWide Try.prog W .any base 3 v) (h : ∃ m, DataW.trod enc Try.prog W 0 (fun _ => true) true m 3 v.cells.toList = some (d, p)) (_hw : ∀ k ∈ d.weights Try.prog 3, k ≤ reachBytes) : Q_int W v := by
  obtain ⟨n, rfl⟩ := okWide_int Try.underlying3 _hok
  obtain ⟨m, hm⟩ := h
  obtain ⟨n', e, hwf⟩ := trod_int' Try.underlying3 hm
  have : n = n' := by simpa [Value.cells] using e
  subst this
  exact ⟨n, rfl, wf_i64' hwf⟩
def Q_Deeds3 (w : World) (v : Value) : Prop := ∃ ds, Disk.deedsB w v ds ∧ ds.length ≤ 9223372036854775807
theorem op_Deeds3 (_hok : Value.okWide Try.prog W .any base 31 v) (h : ∃ m, DataW.trod enc Try.prog W 0 (fun _ => true) true m 31 v.cells.toList = some (d, p)) (_hw : ∀ k ∈ d.weights Try.prog 31, k ≤ reachBytes) : Q_Deeds3 W v := by
  obtain ⟨a, l, c, rfl⟩ := okWide_slice Try.underlying31 _hok
  obtain ⟨m, hm⟩ := h
  obtain ⟨v, ds, hv, hd, hl⟩ := Disk.trod_deeds hm _hw
  have : v = .slice a l c := by simpa [Value.cells] using hv.symm
  subst this
  exact ⟨ds, hd, hl⟩
def Q_Deed3 (w : World) (v : Value) : Prop := ∃ (d : Disk.Deed) (bv kv : Value), v = .agg #[I d.do_, I d.n, bv, kv, I d.crash.torn, I d.crash.at_] ∧ CellI bv ∧ CellI kv ∧ rdB w bv d.bytes ∧ rdX w kv d.crash.keep.length (bools d.crash.keep) ∧ d.n ≤ 9223372036854775807 ∧ d.bytes.length ≤ 140737488351232
theorem op_Deed3 (_hok : Value.okWide Try.prog W .any base 37 v) (h : ∃ m, DataW.trod enc Try.prog W 0 (fun _ => true) true m 37 v.cells.toList = some (d, p)) (_hw : ∀ k ∈ d.weights Try.prog 37, k ≤ reachBytes) : Q_Deed3 W v := by
  obtain ⟨cs, rfl, _⟩ := okWide_struct Try.underlying37 _hok
  obtain ⟨m, hm⟩ := h
  obtain ⟨d, bv, kv, e, h1, h2, h3, h4, h5, h6⟩ := Disk.trod_deed (R := 140737488351232) hm (fun k hk => by
    have := _hw k hk
    have hr : reachBytes = 140737488351232 := by decide
    omega)
  refine ⟨d, bv, kv, ?_, h1, h2, h3, h4, h5, h6⟩
  have e' : cs.toList = [I d.do_, I d.n, bv, kv, I d.crash.torn, I d.crash.at_] := e
  rw [← e']
def Q_tCrash (w : World) (v : Value) : Prop := ∃ (c : Disk.Cr) (kv : Value), v = .agg #[kv, I c.torn, I c.at_] ∧ CellI kv ∧ rdX w kv c.keep.length (bools c.keep)
theorem op_tCrash (_hok : Value.okWide Try.prog W .any base 35 v) (h : ∃ m, DataW.trod enc Try.prog W 0 (fun _ => true) true m 35 v.cells.toList = some (d, p)) (_hw : ∀ k ∈ d.weights Try.prog 35, k ≤ reachBytes) : Q_tCrash W v := by
  obtain ⟨cs, rfl, _⟩ := okWide_struct Try.underlying35 _hok
  obtain ⟨m, hm⟩ := h
  obtain ⟨kv, keep, torn, at_, e, h1, h2⟩ := Disk.trod_crash hm
  refine ⟨⟨keep, torn, at_⟩, kv, ?_, h1, h2⟩
  have e' : cs.toList = [kv, I torn, I at_] := e
  rw [← e']
end Go.Proofs.Ytfholicobkpilaa.Row
