/-
  The row of DiskForks.
-/
import Derived.Test.YtfholicobkpilaaRowBase
import Derived.Test.YtfholicobkpilaaLaw3E
set_option linter.unusedSimpArgs false
set_option linter.unusedVariables false
set_option linter.unusedSectionVars false
namespace Go.Proofs.Ytfholicobkpilaa.DiskForks
open Go Go.SL Go.Proofs Go.Proofs.Ytfholicobkpilaa Go.Proofs.Ytfholicobkpilaa.Row
open Go.ChangeShapes Go.WideShapes Go.ChangeAt Go.RowKit
set_option linter.unusedVariables false
theorem walk (n : Int) (v u b : Value) (ds more : List Disk.Deed) (w : World) (hd : Disk.deedsB w v ds) (hl : ds.length ≤ 9223372036854775807) (hm : Disk.deedsB w u more) (hml : more.length ≤ 9223372036854775807) :
    Calls Try.prog 8 #[.int .i64 n, v, u, b] w fun e w' => e = .returned (.bool true) ∧ Below w.heap.size w w' :=
  calls_of (args := [I n, v, u, b]) fun K h => Disk.diskForks hd hl hm hml h

set_option maxRecDepth 100000 in
theorem lifted (os : Os) (started : os.Started) (H : Type) (enc : TypeId × Value → H) :
    ReturnsInHanded {} Try.checked os 8 .any (Rows.diskForksSpec.pre6 enc Try.prog Try.f8 Rows.diskForksRow.domain false) (Rows.diskForksSpec.post enc Try.prog Try.f8 false true false false) := by
  refine returnsInHanded_of_change_sized (C := Try.checked) own started (by kernel_rfl) Try.func8
    (ChangeSpec.witness6 (enc := enc) (C := Try.checked) false ⟨#[], #[.int .i64 0, .slice none 0 0, .slice none 0 0, .slice none 0 0], []⟩ 8 (by kernel_rfl) (by kernel_rfl) (by kernel_rfl) (by kernel_rfl)) ?_
  intro W base args ds gs before hval0 hW hcnd hwt _
  have hval : ∀ (j : Nat) t v, Try.f8.params[j]? = some t → args[j]? = some v → Value.okWide Try.prog W .any base t v := hval0
  have hW' := hW
  obtain ⟨p, q, hA0, hV, rfl, hfz, hnd⟩ := hW
  have hA : DataW.TrodAll enc Try.prog W 0 (fun _ => true) true Try.f8.params.toList args.toList ds p := hA0
  rw [Try.params8] at hA hval hwt
  obtain ⟨v0, vs0, d0, ds0, p0, q0, hargs, rfl, rfl, h0, r0⟩ := trodAll_cons hA
  obtain ⟨v1, vs1, d1, ds1, p1, q1, rfl, rfl, rfl, h1, r1⟩ := trodAll_cons r0
  obtain ⟨v2, vs2, d2, ds2, p2, q2, rfl, rfl, rfl, h2, r2⟩ := trodAll_cons r1
  obtain ⟨v3, vs3, d3, ds3, p3, q3, rfl, rfl, rfl, h3, r3⟩ := trodAll_cons r2
  obtain ⟨rfl, rfl, rfl⟩ := trodAll_nil r3
  obtain rfl : args = #[v0, v1, v2, v3] := by cases args; simp_all
  obtain ⟨rfl, rfl⟩ := trodVars_none hV
  have k1 := h1
  have k2 := h2
  have k3 := h3
  have lt1 : ∀ x ∈ p1, x.block < W.heap.size := by obtain ⟨m, hm⟩ := k1; exact DataW.trod_lt m _ _ _ hm
  have lt2 : ∀ x ∈ p2, x.block < W.heap.size := by obtain ⟨m, hm⟩ := k2; exact DataW.trod_lt m _ _ _ hm
  have lt3 : ∀ x ∈ p3, x.block < W.heap.size := by obtain ⟨m, hm⟩ := k3; exact DataW.trod_lt m _ _ _ hm
  obtain ⟨a0, rfl, rfl, rfl, w0⟩ := open_int Try.underlying3 (hval 0 3 v0 rfl rfl) h0
  obtain ⟨a1, l1, c1, rfl⟩ := okWide_slice Try.underlying31 (hval 1 31 v1 rfl rfl)
  obtain ⟨a2, l2, c2, rfl⟩ := okWide_slice Try.underlying31 (hval 2 31 v2 rfl rfl)
  obtain ⟨ds1, hd1, hl1⟩ : ∃ ds, Disk.deedsB W (.slice a1 l1 c1) ds ∧ ds.length ≤ 9223372036854775807 := by
    obtain ⟨m, hm⟩ := h1
    obtain ⟨v, ds, hv, hd, hl⟩ := Disk.trod_deeds hm (fun k hk => by
      have := List.all_eq_true.1 hwt k (DataW.weights_mem_each (j := 1) (t := 31) (d := d1) rfl rfl k hk)
      simpa using this)
    have : v = .slice a1 l1 c1 := by simpa [Value.cells] using hv.symm
    subst this
    exact ⟨ds, hd, hl⟩
  obtain ⟨ds2, hd2, hl2⟩ : ∃ ds, Disk.deedsB W (.slice a2 l2 c2) ds ∧ ds.length ≤ 9223372036854775807 := by
    obtain ⟨m, hm⟩ := h2
    obtain ⟨v, ds, hv, hd, hl⟩ := Disk.trod_deeds hm (fun k hk => by
      have := List.all_eq_true.1 hwt k (DataW.weights_mem_each (j := 2) (t := 31) (d := d2) rfl rfl k hk)
      simpa using this)
    have : v = .slice a2 l2 c2 := by simpa [Value.cells] using hv.symm
    subst this
    exact ⟨ds, hd, hl⟩
  clear hA0 hval0
  refine (walk a0 _ _ v3 ds1 ds2 W hd1 hl1 hd2 hl2).mono fun e W' ⟨he, bel⟩ => ?_
  subst he
  exact ⟨_, rfl, _, _, _, [], _, [], hW', trodAll_mk1 (shut_bool Try.underlying4 _), (trodAll_cons_mk (shut_int Try.underlying3 w0) (trodAll_cons_mk (Below.trod laidOut (by kernel_rfl) (of_decide_eq_true (by kernel_rfl)) k1 bel lt1)
    (trodAll_cons_mk (Below.trod laidOut (by kernel_rfl) (of_decide_eq_true (by kernel_rfl)) k2 bel lt2) (trodAll_cons_mk (Below.trod laidOut (by kernel_rfl) (of_decide_eq_true (by kernel_rfl)) k3 bel lt3) trodAll_mk0)))), rfl, bel.frame _, fun h => by cases h⟩

theorem over : Rows.diskForksRow.holds Try.pinned (OpenSpec.ofChange Rows.diskForksSpec) :=
  OpenClaim.holds_of_wide 8 Try.f8 rfl rfl rfl rfl rfl rfl rfl ⟨rfl, rfl, rfl, rfl, rfl⟩ rfl rfl rfl rfl rfl (by kernel_rfl) Try.func8 (by kernel_rfl)
    (of_decide_eq_true (by kernel_rfl)) (by unfold Func.isWrapper; first | (rw [if_pos (by decide +kernel)]; kernel_rfl) | (rw [if_neg (by decide +kernel)]; exact ⟨rfl, rfl⟩))
    (fun os started H enc _ => lifted os started H enc)
/-- The statement. -/
theorem proved : Rows.DiskForksSaid := over
end Go.Proofs.Ytfholicobkpilaa.DiskForks
