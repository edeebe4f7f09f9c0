/-
  What the rows of Slot share: the arguments, opened.
-/
import Derived.Test.YtmbfmkiagdhcoaaDoorRows
import Derived.Test.YtmbfmkiagdhcoaaDoorSlB
import Derived.Test.YtmbfmkiagdhcoaaDoorSlotF
import Derived.WalkKit
import Derived.ProofKit
import Derived.OpenShut
import Derived.ShutString
import Derived.ChangeOld
import Derived.Below
set_option linter.unusedSimpArgs false
set_option linter.unusedVariables false
set_option linter.unusedSectionVars false
namespace Go.Proofs.YtmbfmkiagdhcoaaDoor.Row
open Go Go.SL Go.Proofs Go.Proofs.YtmbfmkiagdhcoaaDoor Go.Proofs.YtmbfmkiagdhcoaaDoor.Disk
open Go.ChangeShapes Go.WideShapes Go.ChangeAt Go.RowKit
set_option linter.unusedVariables false
set_option maxRecDepth 100000
variable {H : Type} {enc : TypeId × Value → H} {W : World} {base : Nat} {v : Value} {d : DataW H} {p : List MemPlace}
theorem own : ownKnob Tryd.prog.godebug = none := by kernel_rfl
theorem laidOut : laidOutB Tryd.prog = true := by kernel_rfl
theorem reach_eq : reachBytes = 140737488351232 := by decide
/-- From every world the law's function returns true and writes nothing that was there. -/
theorem calls_of {f : FuncId} {args : List Value} {w : World} (h : ∀ K : Value → WT, E w [] (K (.bool true)) → E w [] (CF Tryd.prog f args K)) :
    Calls Tryd.prog f args.toArray w fun e w' => e = .returned (.bool true) ∧ Below w.heap.size w w' := by
  have := h (fun v w' => v = .bool true ∧ Below w.heap.size w w') (fun w' hw' => ⟨rfl, hw'.below⟩) w (sat.start w)
  refine Calls.mono this ?_
  intro e w' he
  cases e with
  | returned v => exact ⟨by rw [he.1], he.2⟩
  | _ => exact he.elim
theorem one_slice {t e : TypeId} {cs : List Value} (hu : Tryd.prog.underlying t = some (.slice e)) (hok : Value.okWide Tryd.prog W .any base t v) (hcs : v.cells.toList = cs) {u : Value} (h : cs = [u]) : v = u := by
  obtain ⟨a, l, c, rfl⟩ := okWide_slice hu hok
  subst hcs
  simpa [Value.cells] using h
def Q_int (_w : World) (v : Value) : Prop := ∃ n, v = .int .i64 n ∧ -9223372036854775808 ≤ n ∧ n ≤ 9223372036854775807
theorem wf_i64' {n : Int} (h : (Lit.int .i64 n).wf = true) : -9223372036854775808 ≤ n ∧ n ≤ 9223372036854775807 := by
  unfold Lit.wf at h
  simp only [IntKind.min, IntKind.max, Bool.and_eq_true, decide_eq_true_eq] at h
  simp [IntKind.signed, IntKind.bits] at h
  omega
theorem op_int (_hok : Value.okWide Tryd.prog W .any base 3 v) (h : ∃ m, DataW.trod enc Tryd.prog W 0 (fun _ => true) true m 3 v.cells.toList = some (d, p)) (_hw : ∀ k ∈ d.weights Tryd.prog 3, k ≤ reachBytes) : Q_int W v := by
  obtain ⟨n, rfl⟩ := okWide_int Tryd.underlying3 _hok
  obtain ⟨m, hm⟩ := h
  obtain ⟨n', e, hwf⟩ := trod_int' Tryd.underlying3 hm
  have : n = n' := by simpa [Value.cells] using e
  subst this
  exact ⟨n, rfl, wf_i64' hwf⟩
def Q_bytes (w : World) (v : Value) : Prop := ∃ bs, CellI v ∧ rdB w v bs ∧ bs.length ≤ 140737488351232
theorem op_bytes (_hok : Value.okWide Tryd.prog W .any base 22 v) (h : ∃ m, DataW.trod enc Tryd.prog W 0 (fun _ => true) true m 22 v.cells.toList = some (d, p)) (_hw : ∀ k ∈ d.weights Tryd.prog 22, k ≤ reachBytes) : Q_bytes W v := by
  obtain ⟨m, hm⟩ := h
  obtain ⟨u, bs, e2, hc2, hr2, hb2⟩ := trod_bytes u_bytes u_byte (by kernel_rfl) (by kernel_rfl) hm
  have := one_slice u_bytes _hok rfl e2
  subst this
  have hb := hb2 _ _hw
  rw [reach_eq] at hb
  exact ⟨bs, hc2, hr2, hb⟩
def Q_byte (_w : World) (v : Value) : Prop := ∃ b : UInt8, v = .int .u8 b.toNat
theorem op_byte (_hok : Value.okWide Tryd.prog W .any base 5 v) (h : ∃ m, DataW.trod enc Tryd.prog W 0 (fun _ => true) true m 5 v.cells.toList = some (d, p)) (_hw : ∀ k ∈ d.weights Tryd.prog 5, k ≤ reachBytes) : Q_byte W v := by
  obtain ⟨n, rfl⟩ := okWide_int u_byte _hok
  obtain ⟨m, hm⟩ := h
  obtain ⟨n', e, hwf⟩ := trod_int' u_byte hm
  have : n = n' := by simpa [Value.cells] using e
  subst this
  have hn : 0 ≤ n ∧ n ≤ 255 := by
    unfold Lit.wf at hwf
    simp only [IntKind.min, IntKind.max, Bool.and_eq_true, decide_eq_true_eq] at hwf
    simp [IntKind.signed, IntKind.bits] at hwf
    omega
  refine ⟨UInt8.ofNat n.toNat, ?_⟩
  have e : ((UInt8.ofNat n.toNat).toNat : Int) = n := by
    rw [UInt8.toNat_ofNat_of_lt' (by show n.toNat < 256; omega)]; omega
  rw [e]
theorem walk_SlotNone {w : World} {v0 v1 : Value} (h0 : Q_int w v0) (h1 : Q_bytes w v1) : Calls Tryd.prog 4 #[v0, v1] w fun e w' => e = .returned (.bool true) ∧ Below w.heap.size w w' := by
  obtain ⟨bs, hc, hr, hl⟩ := h1
  have i2 : BaseR w v1 bs := ⟨hr⟩
  exact calls_of (args := [v0, v1]) fun K h => Slot.slotNone h
end Go.Proofs.YtmbfmkiagdhcoaaDoor.Row
