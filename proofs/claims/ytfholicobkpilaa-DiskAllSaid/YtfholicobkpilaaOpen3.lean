/-
  The argument []Deed: what its reading says.
-/
import Derived.Test.YtfholicobkpilaaLaw3D
set_option linter.unusedSimpArgs false
set_option linter.unusedVariables false
set_option linter.unusedSectionVars false
namespace Go.Proofs.Ytfholicobkpilaa.Disk
open Go Go.SL Go.Proofs Go.Proofs.Ytfholicobkpilaa.Sh Go.RowKit Go.ChangeShapes
variable {H : Type} {enc : TypeId × Value → H} {w : World} {fuel : Nat}
theorem add_add (a : Addr) (i j : Nat) : (a.add i).add j = a.add (i + j) := by
  unfold Addr.add
  by_cases h1 : i = 0 <;> by_cases h2 : j = 0 <;> simp [h1, h2] <;> omega
theorem cell_spot {a : Addr} {v : Value} (h : w.cell? a = some v) : a = ⟨a.block, a.off, none⟩ := by
  obtain ⟨b, o, sp⟩ := a
  unfold World.cell? at h
  cases sp with
  | none => rfl
  | some k => simp only at h; split at h <;> simp at h
theorem wf_i64 {n : Int} (h : (Lit.int .i64 n).wf = true) : n ≤ 9223372036854775807 := by
  unfold Lit.wf at h
  simp only [IntKind.min, IntKind.max, Bool.and_eq_true, decide_eq_true_eq] at h
  simp [IntKind.signed, IntKind.bits] at h
  omega
theorem trod_crash {n : Nat} {cs : List Value} {x : DataW H × List MemPlace} (h : DataW.trod enc Try.prog w 0 (fun _ => true) true n 35 cs = some x) :
    ∃ kv keep torn at_, cs = [kv, I torn, I at_] ∧ CellI kv ∧ rdX w kv keep.length (bools keep) := by
  obtain ⟨hl, m, hf⟩ := trod_fields [(33, 0), (3, 1), (3, 2)] (by kernel_rfl) h
  have c1 : Try.prog.cellsOf 33 = 1 := by kernel_rfl
  have c2 : Try.prog.cellsOf 3 = 1 := by kernel_rfl
  have c3 : Try.prog.cellsOf 35 = 3 := by kernel_rfl
  rw [c3] at hl
  obtain ⟨y0, y1, y2, rfl⟩ : ∃ x0 x1 x2, cs = [x0, x1, x2] := by
    clear h hf
    rcases cs with _ | ⟨y0, _ | ⟨y1, _ | ⟨y2, _ | ⟨y3, cs⟩⟩⟩⟩ <;> simp only [List.length_nil, List.length_cons] at hl <;> first | omega | exact ⟨_, _, _, rfl⟩
  obtain ⟨_, g0, _⟩ := hf 0 _ rfl
  obtain ⟨_, g1, _⟩ := hf 1 _ rfl
  obtain ⟨_, g2, _⟩ := hf 2 _ rfl
  simp only [c1, c2] at g0 g1 g2
  obtain ⟨v, bs, e0, hc, hr⟩ := trod_boolrow u_bools (by kernel_rfl) (by kernel_rfl) g0
  obtain ⟨n1, e1, _⟩ := trod_int' u_int g1
  obtain ⟨n2, e2, _⟩ := trod_int' u_int g2
  simp at e0 e1 e2
  exact ⟨v, bs, n1, n2, by rw [e0, e1, e2], hc, hr⟩
theorem trod_deed {n R : Nat} {cs : List Value} {x : DataW H × List MemPlace} (h : DataW.trod enc Try.prog w 0 (fun _ => true) true n 37 cs = some x) (hR : ∀ k ∈ x.1.weights Try.prog 37, k ≤ R) :
    ∃ (d : Deed) (bv kv : Value), cs = [I d.do_, I d.n, bv, kv, I d.crash.torn, I d.crash.at_] ∧ CellI bv ∧ CellI kv ∧ rdB w bv d.bytes ∧ rdX w kv d.crash.keep.length (bools d.crash.keep) ∧ d.n ≤ 9223372036854775807 ∧ d.bytes.length ≤ R := by
  obtain ⟨hl, m, hf⟩ := trod_fields [(3, 0), (3, 1), (32, 2), (35, 3)] (by kernel_rfl) h
  have c1 : Try.prog.cellsOf 32 = 1 := by kernel_rfl
  have c2 : Try.prog.cellsOf 3 = 1 := by kernel_rfl
  have c3 : Try.prog.cellsOf 35 = 3 := by kernel_rfl
  have c4 : Try.prog.cellsOf 37 = 6 := by kernel_rfl
  rw [c4] at hl
  obtain ⟨y0, y1, y2, y3, y4, y5, rfl⟩ : ∃ x0 x1 x2 x3 x4 x5, cs = [x0, x1, x2, x3, x4, x5] := by
    clear h hf
    rcases cs with _ | ⟨y0, _ | ⟨y1, _ | ⟨y2, _ | ⟨y3, _ | ⟨y4, _ | ⟨y5, _ | ⟨y6, cs⟩⟩⟩⟩⟩⟩⟩ <;> simp only [List.length_nil, List.length_cons] at hl <;> first | omega | exact ⟨_, _, _, _, _, _, rfl⟩
  obtain ⟨_, g0, _⟩ := hf 0 _ rfl
  obtain ⟨_, g1, _⟩ := hf 1 _ rfl
  obtain ⟨z2, g2, w2⟩ := hf 2 _ rfl
  obtain ⟨_, g3, _⟩ := hf 3 _ rfl
  simp only [c1, c2, c3] at g0 g1 g2 g3
  obtain ⟨n0, e0, _⟩ := trod_int' u_int g0
  obtain ⟨n1, e1, hw1⟩ := trod_int' u_int g1
  obtain ⟨bv, bs, e2, hc2, hr2, hb2⟩ := trod_bytes u_bytes u_byte (by kernel_rfl) (by kernel_rfl) g2
  obtain ⟨kv, keep, torn, at_, e3, hc3, hr3⟩ := trod_crash g3
  simp at e0 e1 e2 e3
  exact ⟨⟨n0, n1, bs, ⟨keep, torn, at_⟩⟩, bv, kv, by rw [e0, e1, e2, e3.1, e3.2.1, e3.2.2], hc2, hc3, hr2, hr3, wf_i64 hw1, hb2 R fun k hk => hR k (w2 k hk)⟩
theorem trod_deeds {n : Nat} {cs : List Value} {x : DataW H × List MemPlace} (h : DataW.trod enc Try.prog w 0 (fun _ => true) true n 31 cs = some x) (hR : ∀ k ∈ x.1.weights Try.prog 31, k ≤ reachBytes) :
    ∃ v ds, cs = [v] ∧ deedsB w v ds ∧ ds.length ≤ 9223372036854775807 := by
  have hu : Try.prog.underlying 31 = some (.slice 37) := by kernel_rfl
  have c6 : Try.prog.cellsOf 37 = 6 := by kernel_rfl
  rcases Go.Deep.open_slice hu h with ⟨rfl, rfl⟩ | ⟨a, len, cap, m, n', D, Pl, rfl, _, hl, hm, hmm, rfl, hat⟩
  · exact ⟨_, [], rfl, .inl ⟨rfl, rfl⟩, by simp⟩
  · simp only [if_true] at hmm
    subst hmm
    rw [c6] at hat
    have hmax : maxLen = 9223372036854775807 := by decide
    obtain ⟨ds, hdl, hds⟩ := list_of (p := fun i d => a.spot = none ∧ deedAt w a.block (a.off + i * 6) d) len (fun i hi => by
      obtain ⟨cs', h1, h2⟩ := hat i (by omega)
      obtain ⟨_, hcl, hcell⟩ := World.cells?_some h1
      obtain ⟨d, bv, kv, rfl, hc2, hc3, hr2, hr3, hn, hb⟩ := trod_deed (R := 140737488351232) h2 (fun k hk => by
        have := hR k (by
          simp only [DataW.weights, hu, List.mem_cons, List.mem_append]
          exact .inr (.inl (mem_weightsAll (List.mem_map.2 ⟨i, List.mem_range.2 hi, rfl⟩) hk)))
        have hr : reachBytes = 140737488351232 := by decide
        omega)
      have haa : a = ⟨a.block, a.off, none⟩ := by
        obtain ⟨cs0, k1, k2⟩ := hat 0 (by omega)
        obtain ⟨_, kl, kc⟩ := World.cells?_some k1
        have := kc 0 (by omega)
        rw [List.getElem?_eq_getElem (by omega)] at this
        have e : (a.add (0 * 6)).add 0 = a := rfl
        rw [e] at this
        exact cell_spot this
      refine ⟨d, by rw [haa], bv, kv, hc2, hc3, hr2, hr3, fun k hk => ?_, hn, hb⟩
      rw [← hcell k hk, add_add]
      have e : a.add (i * 6 + k) = ⟨a.block, a.off + (i * 6 + k), none⟩ := by
        conv => lhs; rw [haa]
        exact add_at _ _ _
      rw [e, Nat.add_assoc])
    refine ⟨_, ds, rfl, .inr ⟨a, _, by rw [hdl], hds⟩, by omega⟩
end Go.Proofs.Ytfholicobkpilaa.Disk
