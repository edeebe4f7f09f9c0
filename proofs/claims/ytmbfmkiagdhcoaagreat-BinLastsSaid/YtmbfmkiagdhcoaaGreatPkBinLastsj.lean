/-
  Part 10: RowBnA.
-/
import Derived.Test.YtmbfmkiagdhcoaaGreatRows
import Derived.WalkKit
import Derived.ProofKit
import Derived.OpenShut
import Derived.ShutString
import Derived.ChangeOld
import Derived.Below
import Derived.Test.YtmbfmkiagdhcoaaGreatPkBinLastsb
import Derived.Test.YtmbfmkiagdhcoaaGreatPkBinLastsi
set_option linter.unusedSimpArgs false
set_option linter.unusedVariables false
set_option linter.unusedSectionVars false
section
namespace Go.Proofs.YtmbfmkiagdhcoaaGreat.Row
open Go Go.SL Go.Proofs Go.Proofs.YtmbfmkiagdhcoaaGreat Go.Proofs.YtmbfmkiagdhcoaaGreat.Disk
open Go.ChangeShapes Go.WideShapes Go.ChangeAt Go.RowKit
set_option maxRecDepth 100000
variable {H : Type} {enc : TypeId × Value → H} {W : World} {base : Nat} {v : Value} {d : DataW H} {p : List MemPlace}
theorem own : ownKnob Tryz.prog.godebug = none := by kernel_rfl
theorem laidOut : laidOutB Tryz.prog = true := by kernel_rfl
theorem reach_eq : reachBytes = 140737488351232 := by decide
theorem one_slice {t e : TypeId} {cs : List Value} (hu : Tryz.prog.underlying t = some (.slice e)) (hok : Value.okWide Tryz.prog W .any base t v) (hcs : v.cells.toList = cs) {u : Value} (h : cs = [u]) : v = u := by
  obtain ⟨a, l, c, rfl⟩ := okWide_slice hu hok
  subst hcs
  simpa [Value.cells] using h
theorem wf_i64' {n : Int} (h : (Lit.int .i64 n).wf = true) : -9223372036854775808 ≤ n ∧ n ≤ 9223372036854775807 := by
  unfold Lit.wf at h
  simp only [IntKind.min, IntKind.max, Bool.and_eq_true, decide_eq_true_eq] at h
  simp [IntKind.signed, IntKind.bits] at h
  omega
theorem u_bytesB : Tryz.prog.underlying 48 = some (.slice 5) := by kernel_rfl
theorem u_byteB : Tryz.prog.underlying 5 = some (.int .u8) := by kernel_rfl
theorem u_bytessB : Tryz.prog.underlying 22 = some (.slice 48) := by kernel_rfl
theorem u_boolsB : Tryz.prog.underlying 49 = some (.slice 4) := by kernel_rfl
theorem u_deedsB : Tryz.prog.underlying 23 = some (.slice 53) := by kernel_rfl
theorem c_intJ : Tryz.prog.cellsOf 3 = 1 := by kernel_rfl
theorem c_boolsJ : Tryz.prog.cellsOf 49 = 1 := by kernel_rfl
theorem c_bytesJ : Tryz.prog.cellsOf 48 = 1 := by kernel_rfl
theorem c_bytessJ : Tryz.prog.cellsOf 22 = 1 := by kernel_rfl
theorem c_crashJ : Tryz.prog.cellsOf 51 = 3 := by kernel_rfl
theorem c_runJ : Tryz.prog.cellsOf 32 = 2 := by kernel_rfl
theorem c_placeJ : Tryz.prog.cellsOf 34 = 3 := by kernel_rfl
theorem c_deedJ : Tryz.prog.cellsOf 53 = 11 := by kernel_rfl
def Q_byte (_w : World) (v : Value) : Prop := ∃ b : UInt8, v = .int .u8 b.toNat
theorem op_byte (_hok : Value.okWide Tryz.prog W .any base 5 v) (h : ∃ m, DataW.trod enc Tryz.prog W 0 (fun _ => true) true m 5 v.cells.toList = some (d, p)) (_hw : ∀ k ∈ d.weights Tryz.prog 5, k ≤ reachBytes) : Q_byte W v := by
  obtain ⟨n, rfl⟩ := okWide_int u_byteB _hok
  obtain ⟨m, hm⟩ := h
  obtain ⟨n', e, hwf⟩ := trod_int' u_byteB hm
  have : n = n' := by simpa [Value.cells] using e
  subst this
  have hn : 0 ≤ n ∧ n ≤ 255 := by
    unfold Lit.wf at hwf
    simp only [IntKind.min, IntKind.max, Bool.and_eq_true, decide_eq_true_eq] at hwf
    simp [IntKind.signed, IntKind.bits] at hwf
    omega
  refine ⟨UInt8.ofNat n.toNat, ?_⟩
  have e : ((UInt8.ofNat n.toNat).toNat : Int) = n := by
    rw [UInt8.toNat_ofNat_of_lt' (by show n.toNat < 256; omega)]; omega
  rw [e]
theorem one_intJ {fuel : Nat} {cs : List Value} {x : DataW H × List MemPlace} (h : DataW.trod enc Tryz.prog W 0 (fun _ => true) true fuel 3 cs = some x) :
    ∃ n : Int, cs = [.int .i64 n] ∧ n ≤ 9223372036854775807 := by
  obtain ⟨n, e, hwf⟩ := trod_int' Tryz.underlying3 h
  exact ⟨n, e, (wf_i64' hwf).2⟩
theorem one_place {fuel : Nat} {cs : List Value} {x : DataW H × List MemPlace} (h : DataW.trod enc Tryz.prog W 0 (fun _ => true) true fuel 34 cs = some x) :
    ∃ a b c : Int, cs = [.int .i64 a, .int .i64 b, .int .i64 c] ∧ b ≤ 9223372036854775807 := by
  obtain ⟨hl, m, hf⟩ := trod_fields [(3, 0), (32, 1)] (by kernel_rfl) h
  rw [c_placeJ] at hl
  match cs, hl with
  | [y0, y1, y2], _ =>
    obtain ⟨_, g0, _⟩ := hf 0 _ rfl
    obtain ⟨_, g1, _⟩ := hf 1 _ rfl
    simp only [c_intJ, c_runJ] at g0 g1
    obtain ⟨n0, e0, _⟩ := one_intJ g0
    obtain ⟨hl1, m1, hf1⟩ := trod_fields [(3, 0), (3, 1)] (by kernel_rfl) g1
    obtain ⟨_, k0, _⟩ := hf1 0 _ rfl
    obtain ⟨_, k1, _⟩ := hf1 1 _ rfl
    simp only [c_intJ] at k0 k1
    obtain ⟨n1, e1, l1⟩ := one_intJ k0
    obtain ⟨n2, e2, _⟩ := one_intJ k1
    simp at e0 e1 e2
    exact ⟨n0, n1, n2, by rw [e0, e1, e2], l1⟩
structure Cw where
  v : Pk.Cv
  c : Cr
theorem elem_crashJ {n : Nat} {cs : List Value} {x : DataW H × List MemPlace} (h : DataW.trod enc Tryz.prog W 0 (fun _ => true) true n 51 cs = some x) :
    ∃ a : Cw, cs = [a.v.1, .int .i64 a.c.torn, .int .i64 a.c.at_] ∧ rdX W a.v.1 a.c.keep.length (bools a.c.keep) := by
  obtain ⟨hl, m, hf⟩ := trod_fields [(49, 0), (3, 1), (3, 2)] (by kernel_rfl) h
  rw [c_crashJ] at hl
  match cs, hl with
  | [y0, y1, y2], _ =>
    obtain ⟨_, g0, _⟩ := hf 0 _ rfl
    obtain ⟨_, g1, _⟩ := hf 1 _ rfl
    obtain ⟨_, g2, _⟩ := hf 2 _ rfl
    simp only [c_intJ, c_boolsJ] at g0 g1 g2
    obtain ⟨v, bs, e0, hc, hr⟩ := trod_boolrow u_boolsB (by kernel_rfl) (by kernel_rfl) g0
    obtain ⟨n1, e1, _⟩ := one_intJ g1
    obtain ⟨n2, e2, _⟩ := one_intJ g2
    simp at e0 e1 e2
    exact ⟨⟨⟨v, hc.pf⟩, ⟨bs, n1, n2⟩⟩, by rw [e0, e1, e2], hr⟩
theorem elem_bytesJ {n R : Nat} {cs : List Value} {x : DataW H × List MemPlace} (h : DataW.trod enc Tryz.prog W 0 (fun _ => true) true n 48 cs = some x) (hR : ∀ k ∈ x.1.weights Tryz.prog 48, k ≤ R) :
    ∃ a : Pk.Bv, cs = Pk.cV a ∧ (SL.rdB W a.v a.bs ∧ a.bs.length ≤ R) := by
  obtain ⟨u, bs, e2, hc2, hr2, hb2⟩ := trod_bytes u_bytesB u_byteB (by kernel_rfl) (by kernel_rfl) h
  exact ⟨⟨u, bs, hc2.pf⟩, e2, hr2, hb2 R hR⟩
theorem elem_deedJ {n : Nat} {cs : List Value} {x : DataW H × List MemPlace} (h : DataW.trod enc Tryz.prog W 0 (fun _ => true) true n 53 cs = some x) (hR : ∀ k ∈ x.1.weights Tryz.prog 53, k ≤ reachBytes) :
    ∃ a : Bn.Dd, cs = Bn.cDd a ∧ Bn.DdP W a := by
  obtain ⟨hl, m, hf⟩ := trod_fields [(3, 0), (3, 1), (3, 2), (34, 3), (22, 6), (48, 7), (51, 8)] (by kernel_rfl) h
  rw [c_deedJ] at hl
  match cs, hl with
  | [y0, y1, y2, y3, y4, y5, y6, y7, y8, y9, y10], _ =>
    obtain ⟨_, g0, _⟩ := hf 0 _ rfl
    obtain ⟨_, g1, _⟩ := hf 1 _ rfl
    obtain ⟨_, g2, _⟩ := hf 2 _ rfl
    obtain ⟨_, g3, _⟩ := hf 3 _ rfl
    obtain ⟨_, g4, w4⟩ := hf 4 _ rfl
    obtain ⟨_, g5, w5⟩ := hf 5 _ rfl
    obtain ⟨_, g6, _⟩ := hf 6 _ rfl
    simp only [c_intJ, c_bytesJ, c_bytessJ, c_crashJ, c_placeJ] at g0 g1 g2 g3 g4 g5 g6
    obtain ⟨n0, e0, _⟩ := one_intJ g0
    obtain ⟨n1, e1, l1⟩ := one_intJ g1
    obtain ⟨n2, e2, _⟩ := one_intJ g2
    obtain ⟨pa, pb, pc, e3, l3⟩ := one_place g3
    obtain ⟨rv, rl, e4, hc4, hr4, hq4, _⟩ := trod_list (encl := Pk.cV) (by_ := 24) (R := reachBytes) u_bytessB (by kernel_rfl) (by kernel_rfl) (by decide) (fun b => SL.rdB W b.v b.bs ∧ b.bs.length ≤ reachBytes) (fun n cs x h hR => elem_bytesJ h hR) (fun k hk => hR k (w4 k hk)) g4
    obtain ⟨bv, bs, e5, hc5, hr5, _⟩ := trod_bytes u_bytesB u_byteB (by kernel_rfl) (by kernel_rfl) g5
    obtain ⟨cw, e6, hk6⟩ := elem_crashJ g6
    simp at e0 e1 e2 e3 e4 e5 e6
    obtain ⟨e31, e32, e33⟩ := e3
    obtain ⟨e61, e62, e63⟩ := e6
    refine ⟨⟨n0, n1, n2, pa, pb, pc, ⟨rv, hc4.pf⟩, ⟨bv, hc5.pf⟩, cw.v, rl, bs, cw.c⟩, by rw [e0, e1, e2, e31, e32, e33, e4, e5, e61, e62, e63], hr4, fun q hq => ?_, hr5, hk6, l1, l3⟩
    have := hq4 q hq
    rw [reach_eq] at this
    exact this
def Q_bytess (w : World) (v : Value) : Prop := ∃ l : List Pk.Bv, CellI v ∧ rdX w v l.length (l.flatMap Pk.cV) ∧ ∀ b ∈ l, SL.rdB w b.v b.bs ∧ b.bs.length ≤ 140737488351232
theorem op_bytess (_hok : Value.okWide Tryz.prog W .any base 22 v) (h : ∃ m, DataW.trod enc Tryz.prog W 0 (fun _ => true) true m 22 v.cells.toList = some (d, p)) (_hw : ∀ k ∈ d.weights Tryz.prog 22, k ≤ reachBytes) : Q_bytess W v := by
  obtain ⟨m, hm⟩ := h
  obtain ⟨u, l, hc, h1, h2, h4, h3⟩ := trod_list (encl := Pk.cV) (by_ := 24) (R := reachBytes) u_bytessB (by kernel_rfl) (by kernel_rfl) (by decide) (fun b => SL.rdB W b.v b.bs ∧ b.bs.length ≤ reachBytes) (fun n cs x h hR => elem_bytesJ h hR) _hw hm
  have := one_slice u_bytessB _hok rfl hc
  subst this
  refine ⟨l, h1, h2, fun b hb => ?_⟩
  have := h4 b hb
  rw [reach_eq] at this
  exact this
def Q_tDeeds12 (w : World) (v : Value) : Prop := ∃ l : List Bn.Dd, CellI v ∧ rdX w v l.length (l.flatMap Bn.cDd) ∧ ∀ d ∈ l, Bn.DdP w d
theorem op_tDeeds12 (_hok : Value.okWide Tryz.prog W .any base 23 v) (h : ∃ m, DataW.trod enc Tryz.prog W 0 (fun _ => true) true m 23 v.cells.toList = some (d, p)) (_hw : ∀ k ∈ d.weights Tryz.prog 23, k ≤ reachBytes) : Q_tDeeds12 W v := by
  obtain ⟨m, hm⟩ := h
  obtain ⟨u, l, hc, h1, h2, h4, h3⟩ := trod_list (encl := Bn.cDd) (by_ := 136) (R := reachBytes) u_deedsB (by kernel_rfl) (by kernel_rfl) (by decide) (Bn.DdP W) (fun n cs x h hR => elem_deedJ h hR) _hw hm
  have := one_slice u_deedsB _hok rfl hc
  subst this
  exact ⟨l, h1, h2, h4⟩
def Q_tCrash (w : World) (v : Value) : Prop := ∃ a : Cw, v = .agg #[a.v.1, .int .i64 a.c.torn, .int .i64 a.c.at_] ∧ rdX w a.v.1 a.c.keep.length (bools a.c.keep)
theorem op_tCrash (_hok : Value.okWide Tryz.prog W .any base 51 v) (h : ∃ m, DataW.trod enc Tryz.prog W 0 (fun _ => true) true m 51 v.cells.toList = some (d, p)) (_hw : ∀ k ∈ d.weights Tryz.prog 51, k ≤ reachBytes) : Q_tCrash W v := by
  obtain ⟨cs, rfl, _⟩ := okWide_struct Tryz.underlying51 _hok
  obtain ⟨m, hm⟩ := h
  have e : (Value.agg cs).cells.toList = cs.toList := rfl
  rw [e] at hm
  obtain ⟨a, e1, h1⟩ := elem_crashJ hm
  refine ⟨a, ?_, h1⟩
  obtain ⟨l, hcl⟩ : ∃ l, cs = l.toArray := ⟨cs.toList, by simp⟩
  subst hcl
  simp only at e1
  rw [e1]
theorem calls_any {f : FuncId} {args : List Value} {w : World} (h : ∀ K : Value → WT, (∀ H, E w H (K (.bool true))) → E w [] (CF Tryz.prog f args K)) :
    Calls Tryz.prog f args.toArray w fun e w' => e = .returned (.bool true) ∧ Below w.heap.size w w' := by
  have := h (fun v w' => v = .bool true ∧ Below w.heap.size w w') (fun H w' hw' => ⟨rfl, hw'.below⟩) w (sat.start w)
  refine Calls.mono this ?_
  intro e w' he
  cases e with
  | returned v => exact ⟨by rw [he.1], he.2⟩
  | panicked c => obtain ⟨_, _, h⟩ := he; exact h.elim
  | outgrown => exact he.elim
theorem walk_BinLasts {w : World} {v0 v1 v2 v3 v4 : Value} (h0 : Q_byte w v0) (h1 : Q_byte w v1) (h2 : Q_tDeeds12 w v2) (h3 : Q_bytess w v3) (h4 : Q_tCrash w v4) : Calls Tryz.prog 6 #[v0, v1, v2, v3, v4] w fun e w' => e = .returned (.bool true) ∧ Below w.heap.size w w' := by
  obtain ⟨s, rfl⟩ := h0
  obtain ⟨f, rfl⟩ := h1
  obtain ⟨l, _, hr, hd⟩ := h2
  obtain ⟨cs, _, hrc, hb⟩ := h3
  obtain ⟨cw, rfl, hk⟩ := h4
  have i1 : BaseS w v2 Bn.cDd l := ⟨hr⟩
  have i2 : BaseS w v3 Pk.cV cs := ⟨hrc⟩
  have i3 : BaseX w cw.v.1 cw.c.keep.length (bools cw.c.keep) := ⟨hk⟩
  have i4 : CellI cw.v.1 := ⟨cw.v.2⟩
  exact calls_any (args := [.int .u8 (s.toNat : Int), .int .u8 (f.toNat : Int), v2, v3, .agg #[cw.v.1, .int .i64 cw.c.torn, .int .i64 cw.c.at_]]) fun K h => Bn.binLasts (cs := cs) (l := l) (c := cw.c) hd (fun b hm => ⟨⟨(hb b hm).1⟩, (hb b hm).2⟩) fun {H} => h H
end Go.Proofs.YtmbfmkiagdhcoaaGreat.Row
end
