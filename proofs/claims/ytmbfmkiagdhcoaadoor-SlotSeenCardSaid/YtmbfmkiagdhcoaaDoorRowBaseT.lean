/-
  The arguments of SlotSeen, opened.
-/
import Derived.Test.YtmbfmkiagdhcoaaDoorRowBaseS
import Derived.Test.YtmbfmkiagdhcoaaDoorSlotG
set_option linter.unusedSimpArgs false
set_option linter.unusedVariables false
set_option linter.unusedSectionVars false
namespace Go.Proofs.YtmbfmkiagdhcoaaDoor.Row
open Go Go.SL Go.Proofs Go.Proofs.YtmbfmkiagdhcoaaDoor Go.Proofs.YtmbfmkiagdhcoaaDoor.Disk
open Go.ChangeShapes Go.WideShapes Go.ChangeAt Go.RowKit
set_option linter.unusedVariables false
set_option maxRecDepth 100000
variable {H : Type} {enc : TypeId × Value → H} {W : World} {base : Nat} {v : Value} {d : DataW H} {p : List MemPlace}
theorem okWide_array {t e : TypeId} {n : Nat} (ht : Tryd.prog.underlying t = some (.array n e)) (h : Value.okWide Tryd.prog W .any base t v) : ∃ cs, v = .agg cs := by
  simp only [Value.okWide, ht] at h
  obtain ⟨cs, h1, _⟩ := h
  exact ⟨cs, h1⟩
theorem one_byte {fuel : Nat} {cs : List Value} {x : DataW H × List MemPlace} (h : DataW.trod enc Tryd.prog W 0 (fun _ => true) true fuel 5 cs = some x) : ∃ b : UInt8, cs = [.int .u8 (b.toNat : Int)] := by
  obtain ⟨n, e, hwf⟩ := trod_int' u_byte h
  have hn : 0 ≤ n ∧ n ≤ 255 := by
    unfold Lit.wf at hwf
    simp only [IntKind.min, IntKind.max, Bool.and_eq_true, decide_eq_true_eq] at hwf
    simp [IntKind.signed, IntKind.bits] at hwf
    omega
  refine ⟨UInt8.ofNat n.toNat, ?_⟩
  have e' : ((UInt8.ofNat n.toNat).toNat : Int) = n := by
    rw [UInt8.toNat_ofNat_of_lt' (by show n.toNat < 256; omega)]; omega
  rw [e', e]
def Q_arr4 (_w : World) (v : Value) : Prop := ∃ ys : List UInt8, ys.length = 4 ∧ v = .agg (bcs ys).toArray
theorem op_arr4 (_hok : Value.okWide Tryd.prog W .any base 23 v) (h : ∃ m, DataW.trod enc Tryd.prog W 0 (fun _ => true) true m 23 v.cells.toList = some (d, p)) (_hw : ∀ k ∈ d.weights Tryd.prog 23, k ≤ reachBytes) : Q_arr4 W v := by
  have hu : Tryd.prog.underlying 23 = some (.array 4 5) := by kernel_rfl
  obtain ⟨cs, rfl⟩ := okWide_array hu _hok
  obtain ⟨m, hm⟩ := h
  obtain ⟨xs, m, _, _, hl, hxl, hf⟩ := DataW.trod_array hu hm
  have c2 : Tryd.prog.cellsOf 5 = 1 := by kernel_rfl
  have c3 : Tryd.prog.cellsOf 23 = 4 := by kernel_rfl
  rw [c3] at hl
  rw [c2] at hf
  have e0 : (Value.agg cs).cells.toList = cs.toList := rfl
  rw [e0] at hl hf
  have hc : ∃ y0 y1 y2 y3, cs.toList = [y0, y1, y2, y3] := by
    generalize cs.toList = l at hl
    rcases l with _ | ⟨y0, _ | ⟨y1, _ | ⟨y2, _ | ⟨y3, _ | ⟨y4, l⟩⟩⟩⟩⟩ <;> simp only [List.length_nil, List.length_cons] at hl <;> first | omega | exact ⟨_, _, _, _, rfl⟩
  obtain ⟨y0, y1, y2, y3, hcs⟩ := hc
  rw [hcs] at hf
  have g0 := hf 0 (by decide)
  have g1 := hf 1 (by decide)
  have g2 := hf 2 (by decide)
  have g3 := hf 3 (by decide)
  rw [List.getElem?_eq_getElem (by omega)] at g0 g1 g2 g3
  obtain ⟨b0, e0⟩ := one_byte g0
  obtain ⟨b1, e1⟩ := one_byte g1
  obtain ⟨b2, e2⟩ := one_byte g2
  obtain ⟨b3, e3⟩ := one_byte g3
  simp at e0 e1 e2 e3
  refine ⟨[b0, b1, b2, b3], rfl, ?_⟩
  congr 1
  apply Array.ext'
  rw [hcs, e0, e1, e2, e3]
  rfl
theorem walk_SlotSeen {w : World} {v0 v1 v2 v3 : Value} (h0 : Q_bytes w v0) (h1 : Q_bytes w v1) (h2 : Q_byte w v2) (h3 : Q_arr4 w v3) : Calls Tryd.prog 3 #[v0, v1, v2, v3] w fun e w' => e = .returned (.bool true) ∧ Below w.heap.size w w' := by
  obtain ⟨a, _, ha, _⟩ := h0
  obtain ⟨b, _, hb, _⟩ := h1
  obtain ⟨n, rfl⟩ := h2
  obtain ⟨ys, hy, rfl⟩ := h3
  have i1 : BaseR w v0 a := ⟨ha⟩
  have i2 : BaseR w v1 b := ⟨hb⟩
  exact calls_of (args := [v0, v1, .int .u8 (n.toNat : Int), .agg (bcs ys).toArray]) fun K h => Slot.slotSeen hy h
end Go.Proofs.YtmbfmkiagdhcoaaDoor.Row
