/-
  The arguments of SlotTorn, opened.
-/
import Derived.Test.YtmbfmkiagdhcoaaDoorRowBaseS
import Derived.Test.YtmbfmkiagdhcoaaDoorSlotK
set_option linter.unusedSimpArgs false
set_option linter.unusedVariables false
set_option linter.unusedSectionVars false
namespace Go.Proofs.YtmbfmkiagdhcoaaDoor.Row
open Go Go.SL Go.Proofs Go.Proofs.YtmbfmkiagdhcoaaDoor Go.Proofs.YtmbfmkiagdhcoaaDoor.Disk
open Go.ChangeShapes Go.WideShapes Go.ChangeAt Go.RowKit
set_option linter.unusedVariables false
set_option maxRecDepth 100000
variable {H : Type} {enc : TypeId × Value → H} {W : World} {base : Nat} {v : Value} {d : DataW H} {p : List MemPlace}
theorem u_bools : Tryd.prog.underlying 40 = some (.slice 4) := by kernel_rfl
theorem u_intT : Tryd.prog.underlying 3 = some (.int .i64) := by kernel_rfl
theorem elem_bytes {n : Nat} {cs : List Value} {x : DataW H × List MemPlace} (h : DataW.trod enc Tryd.prog W 0 (fun _ => true) true n 22 cs = some x) (_hR : ∀ k ∈ x.1.weights Tryd.prog 22, k ≤ reachBytes) : ∃ a : Slot.Bv, cs = Slot.cV a ∧ rdB W a.v a.bs := by
  obtain ⟨u, bs, e2, hc2, hr2, _⟩ := trod_bytes u_bytes u_byte (by kernel_rfl) (by kernel_rfl) h
  exact ⟨⟨u, bs, hc2.pf⟩, e2, hr2⟩
def Q_bytess (w : World) (v : Value) : Prop := ∃ l : List Slot.Bv, CellI v ∧ rdX w v l.length (l.flatMap Slot.cV) ∧ ∀ b ∈ l, rdB w b.v b.bs
theorem op_bytess (_hok : Value.okWide Tryd.prog W .any base 44 v) (h : ∃ m, DataW.trod enc Tryd.prog W 0 (fun _ => true) true m 44 v.cells.toList = some (d, p)) (_hw : ∀ k ∈ d.weights Tryd.prog 44, k ≤ reachBytes) : Q_bytess W v := by
  obtain ⟨m, hm⟩ := h
  obtain ⟨u, l, hc, h1, h2, h4, h3⟩ := trod_list (encl := Slot.cV) (by_ := 24) u_bytess (by kernel_rfl) (by kernel_rfl) (by decide) (fun b => rdB W b.v b.bs) (fun n cs x h hR => elem_bytes h hR) _hw hm
  have := one_slice u_bytess _hok rfl hc
  subst this
  exact ⟨l, h1, h2, h4⟩
theorem elem_crash {n R : Nat} {cs : List Value} {x : DataW H × List MemPlace} (h : DataW.trod enc Tryd.prog W 0 (fun _ => true) true n 42 cs = some x) (_hR : ∀ k ∈ x.1.weights Tryd.prog 42, k ≤ R) :
    ∃ a : Slot.Cv, cs = Slot.cC a ∧ rdX W a.v a.c.keep.length (bools a.c.keep) := by
  obtain ⟨hl, m, hf⟩ := trod_fields [(40, 0), (3, 1), (3, 2)] (by kernel_rfl) h
  have c1 : Tryd.prog.cellsOf 40 = 1 := by kernel_rfl
  have c2 : Tryd.prog.cellsOf 3 = 1 := by kernel_rfl
  have c3 : Tryd.prog.cellsOf 42 = 3 := by kernel_rfl
  rw [c3] at hl
  obtain ⟨y0, y1, y2, rfl⟩ : ∃ x0 x1 x2, cs = [x0, x1, x2] := by
    clear h hf
    rcases cs with _ | ⟨y0, _ | ⟨y1, _ | ⟨y2, _ | ⟨y3, cs⟩⟩⟩⟩ <;> simp only [List.length_nil, List.length_cons] at hl <;> first | omega | exact ⟨_, _, _, rfl⟩
  obtain ⟨_, g0, _⟩ := hf 0 _ rfl
  obtain ⟨_, g1, _⟩ := hf 1 _ rfl
  obtain ⟨_, g2, _⟩ := hf 2 _ rfl
  simp only [c1, c2] at g0 g1 g2
  obtain ⟨v, bs, e0, hc, hr⟩ := trod_boolrow u_bools (by kernel_rfl) (by kernel_rfl) g0
  obtain ⟨n1, e1, _⟩ := trod_int' u_intT g1
  obtain ⟨n2, e2, _⟩ := trod_int' u_intT g2
  simp at e0 e1 e2
  exact ⟨⟨v, ⟨bs, n1, n2⟩, hc.pf⟩, by rw [e0, e1, e2], hr⟩
def Q_tCrashes (w : World) (v : Value) : Prop := ∃ l : List Slot.Cv, CellI v ∧ rdX w v l.length (l.flatMap Slot.cC) ∧ ∀ x ∈ l, rdX w x.v x.c.keep.length (bools x.c.keep)
theorem u_crashes : Tryd.prog.underlying 45 = some (.slice 42) := by kernel_rfl
theorem op_tCrashes (_hok : Value.okWide Tryd.prog W .any base 45 v) (h : ∃ m, DataW.trod enc Tryd.prog W 0 (fun _ => true) true m 45 v.cells.toList = some (d, p)) (_hw : ∀ k ∈ d.weights Tryd.prog 45, k ≤ reachBytes) : Q_tCrashes W v := by
  obtain ⟨m, hm⟩ := h
  obtain ⟨u, l, hc, h1, h2, h4, h3⟩ := trod_list (encl := Slot.cC) (by_ := 40) u_crashes (by kernel_rfl) (by kernel_rfl) (by decide) (fun x => rdX W x.v x.c.keep.length (bools x.c.keep)) (fun n cs x h hR => elem_crash h hR) _hw hm
  have := one_slice u_crashes _hok rfl hc
  subst this
  exact ⟨l, h1, h2, h4⟩
theorem walk_SlotTorn {w : World} {v0 v1 v2 v3 : Value} (h0 : Q_bytess w v0) (h1 : Q_bytes w v1) (h2 : Q_byte w v2) (h3 : Q_tCrashes w v3) : Calls Tryd.prog 5 #[v0, v1, v2, v3] w fun e w' => e = .returned (.bool true) ∧ Below w.heap.size w w' := by
  obtain ⟨l, _, hr, hb⟩ := h0
  obtain ⟨last, _, hlast, _⟩ := h1
  obtain ⟨n, rfl⟩ := h2
  obtain ⟨xs, _, hxr, hx⟩ := h3
  have i1 : BaseS w v0 Slot.cV l := ⟨hr⟩
  have i2 : BaseR w v1 last := ⟨hlast⟩
  have i3 : BaseS w v3 Slot.cC xs := ⟨hxr⟩
  exact calls_of (args := [v0, v1, .int .u8 (n.toNat : Int), v3]) fun K h => Slot.slotTorn (l := l) (xs := xs) (fun b hm => ⟨hb b hm⟩) (fun x hm => ⟨hx x hm⟩) h
end Go.Proofs.YtmbfmkiagdhcoaaDoor.Row
