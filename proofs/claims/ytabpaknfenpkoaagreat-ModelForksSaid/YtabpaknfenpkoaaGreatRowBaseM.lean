/-
  The arguments of Model's laws, opened.
-/
import Derived.Test.YtabpaknfenpkoaaGreatRows
import Derived.Test.YtabpaknfenpkoaaGreatLwG
import Derived.Test.YtabpaknfenpkoaaGreatProg
import Derived.Test.YtabpaknfenpkoaaGreatChecked
import Derived.WalkKit
import Derived.ProofKit
import Derived.OpenShut
import Derived.ShutString
import Derived.ChangeOld
import Derived.Below
set_option linter.unusedSimpArgs false
set_option linter.unusedVariables false
set_option linter.unusedSectionVars false
namespace Go.Proofs.YtabpaknfenpkoaaGreat.Row
open Go Go.SL Go.Proofs Go.Proofs.YtabpaknfenpkoaaGreat
open Go.ChangeShapes Go.WideShapes Go.ChangeAt Go.RowKit
set_option linter.unusedVariables false
set_option maxRecDepth 100000
variable {H : Type} {enc : TypeId × Value → H} {W : World} {base : Nat} {v : Value} {d : DataW H} {p : List MemPlace}
theorem own : ownKnob Tryz.prog.godebug = none := by kernel_rfl
theorem laidOut : laidOutB Tryz.prog = true := by kernel_rfl
theorem reach_eq : reachBytes = 140737488351232 := by decide
abbrev I (n : Int) : Value := .int .i64 n
/-- From every world the law's function returns true and writes nothing that was there. -/
theorem calls_of {f : FuncId} {args : List Value} {w : World} (h : ∀ K : Value → WT, E w [] (K (.bool true)) → E w [] (CF Tryz.prog f args K)) :
    Calls Tryz.prog f args.toArray w fun e w' => e = .returned (.bool true) ∧ Below w.heap.size w w' := by
  have := h (fun v w' => v = .bool true ∧ Below w.heap.size w w') (fun w' hw' => ⟨rfl, hw'.below⟩) w (sat.start w)
  refine Calls.mono this ?_
  intro e w' he
  cases e with
  | returned v => exact ⟨by rw [he.1], he.2⟩
  | panicked c => obtain ⟨_, _, h⟩ := he; exact h.elim
  | outgrown => exact he.elim
theorem str_ba (s : ByteArray) : (.string s : Value) = str s.data.toList := by simp
theorem one_string {t : TypeId} {fuel : Nat} {cs : List Value} {x : DataW H × List MemPlace} (ht : Tryz.prog.underlying t = some .string) (h : DataW.trod enc Tryz.prog W 0 (fun _ => true) true fuel t cs = some x) (hw : ∀ k ∈ x.1.weights Tryz.prog t, k ≤ reachBytes) :
    ∃ l : List UInt8, cs = [str l] ∧ l.length ≤ 140737488355328 := by
  obtain ⟨s, hc, rfl, _⟩ := DataW.trod_string ht h
  refine ⟨s.data.toList, by rw [hc, str_ba], ?_⟩
  have := hw s.data.toList.length (by simp [DataW.weights])
  rw [reach_eq] at this; omega
theorem wf_i64' {n : Int} (h : (Lit.int .i64 n).wf = true) : -9223372036854775808 ≤ n ∧ n ≤ 9223372036854775807 := by
  unfold Lit.wf at h
  simp only [IntKind.min, IntKind.max, Bool.and_eq_true, decide_eq_true_eq] at h
  simp [IntKind.signed, IntKind.bits] at h
  omega
theorem one_int {t : TypeId} {fuel : Nat} {cs : List Value} {x : DataW H × List MemPlace} (ht : Tryz.prog.underlying t = some (.int .i64)) (h : DataW.trod enc Tryz.prog W 0 (fun _ => true) true fuel t cs = some x) :
    ∃ n : Int, cs = [I n] ∧ n ≤ 9223372036854775807 := by
  obtain ⟨n, e, hwf⟩ := trod_int' ht h
  exact ⟨n, e, (wf_i64' hwf).2⟩
def Q_string (_w : World) (v : Value) : Prop := ∃ l : List UInt8, v = str l ∧ l.length ≤ 140737488355328
theorem op_string (_hok : Value.okWide Tryz.prog W .any base 9 v) (h : ∃ m, DataW.trod enc Tryz.prog W 0 (fun _ => true) true m 9 v.cells.toList = some (d, p)) (_hw : ∀ k ∈ d.weights Tryz.prog 9, k ≤ reachBytes) : Q_string W v := by
  obtain ⟨s, rfl⟩ := okWide_string Mod.u_string _hok
  obtain ⟨m, hm⟩ := h
  obtain ⟨l, hc, hl⟩ := one_string Mod.u_string hm _hw
  refine ⟨l, ?_, hl⟩
  simpa [Value.cells] using hc
def Q_int (_w : World) (v : Value) : Prop := ∃ n, v = .int .i64 n ∧ -9223372036854775808 ≤ n ∧ n ≤ 9223372036854775807
theorem op_int (_hok : Value.okWide Tryz.prog W .any base 3 v) (h : ∃ m, DataW.trod enc Tryz.prog W 0 (fun _ => true) true m 3 v.cells.toList = some (d, p)) (_hw : ∀ k ∈ d.weights Tryz.prog 3, k ≤ reachBytes) : Q_int W v := by
  obtain ⟨n, rfl⟩ := okWide_int Tryz.underlying3 _hok
  obtain ⟨m, hm⟩ := h
  obtain ⟨n', e, hwf⟩ := trod_int' Tryz.underlying3 hm
  have : n = n' := by simpa [Value.cells] using e
  subst this
  exact ⟨n, rfl, wf_i64' hwf⟩
theorem c_int : Tryz.prog.cellsOf 3 = 1 := by kernel_rfl
theorem c_do : Tryz.prog.cellsOf 35 = 1 := by kernel_rfl
theorem c_string : Tryz.prog.cellsOf 9 = 1 := by kernel_rfl
theorem c_bytes : Tryz.prog.cellsOf 27 = 1 := by kernel_rfl
theorem c_bools : Tryz.prog.cellsOf 38 = 1 := by kernel_rfl
theorem c_bool : Tryz.prog.cellsOf 4 = 1 := by kernel_rfl
theorem c_keep : Tryz.prog.cellsOf 37 = 4 := by kernel_rfl
theorem c_crash : Tryz.prog.cellsOf 40 = 3 := by kernel_rfl
theorem c_op : Tryz.prog.cellsOf 42 = 15 := by kernel_rfl
theorem u_do : Tryz.prog.underlying 35 = some (.int .i64) := by kernel_rfl
theorem u_bools : Tryz.prog.underlying 38 = some (.slice 4) := by kernel_rfl
theorem u_bool : Tryz.prog.underlying 4 = some .bool := by kernel_rfl
theorem u_steps : Tryz.prog.underlying 22 = some (.slice 47) := by kernel_rfl
theorem one_keep {fuel : Nat} {cs : List Value} {x : DataW H × List MemPlace} (h : DataW.trod enc Tryz.prog W 0 (fun _ => true) true fuel 37 cs = some x) :
    ∃ a b c d : Int, cs = [I a, I b, I c, I d] ∧ a ≤ 9223372036854775807 ∧ b ≤ 9223372036854775807 ∧ c ≤ 9223372036854775807 ∧ d ≤ 9223372036854775807 := by
  obtain ⟨hl, m, hf⟩ := trod_fields [(3, 0), (3, 1), (3, 2), (3, 3)] (by kernel_rfl) h
  rw [c_keep] at hl
  match cs, hl with
  | [y0, y1, y2, y3], _ =>
    obtain ⟨_, g0, _⟩ := hf 0 _ rfl
    obtain ⟨_, g1, _⟩ := hf 1 _ rfl
    obtain ⟨_, g2, _⟩ := hf 2 _ rfl
    obtain ⟨_, g3, _⟩ := hf 3 _ rfl
    simp only [c_int] at g0 g1 g2 g3
    obtain ⟨n0, e0, l0⟩ := one_int Mod.u_int g0
    obtain ⟨n1, e1, l1⟩ := one_int Mod.u_int g1
    obtain ⟨n2, e2, l2⟩ := one_int Mod.u_int g2
    obtain ⟨n3, e3, l3⟩ := one_int Mod.u_int g3
    simp at e0 e1 e2 e3
    exact ⟨n0, n1, n2, n3, by rw [e0, e1, e2, e3], l0, l1, l2, l3⟩
theorem one_crash {fuel : Nat} {cs : List Value} {x : DataW H × List MemPlace} (h : DataW.trod enc Tryz.prog W 0 (fun _ => true) true fuel 40 cs = some x) :
    ∃ (u : Value) (l : List Bool) (t a : Int), cs = [u, I t, I a] ∧ CellI u ∧ rdX W u l.length (l.flatMap cL) ∧ t ≤ 9223372036854775807 ∧ a ≤ 9223372036854775807 := by
  obtain ⟨hl, m, hf⟩ := trod_fields [(38, 0), (3, 1), (3, 2)] (by kernel_rfl) h
  rw [c_crash] at hl
  match cs, hl with
  | [y0, y1, y2], _ =>
    obtain ⟨_, g0, _⟩ := hf 0 _ rfl
    obtain ⟨_, g1, _⟩ := hf 1 _ rfl
    obtain ⟨_, g2, _⟩ := hf 2 _ rfl
    simp only [c_int, c_bools] at g0 g1 g2
    obtain ⟨v, bs, e0, hc, hr⟩ := trod_boolrow u_bools (by kernel_rfl) (by kernel_rfl) g0
    obtain ⟨n1, e1, l1⟩ := one_int Mod.u_int g1
    obtain ⟨n2, e2, l2⟩ := one_int Mod.u_int g2
    simp at e0 e1 e2
    exact ⟨v, bs, n1, n2, by rw [e0, e1, e2], hc, by rw [bools_enc]; exact hr, l1, l2⟩
theorem elem_op {n : Nat} {cs : List Value} {x : DataW H × List MemPlace} (hm : DataW.trod enc Tryz.prog W 0 (fun _ => true) true n 42 cs = some x) (_hw : ∀ k ∈ x.1.weights Tryz.prog 42, k ≤ reachBytes) :
    ∃ (o : Mod.Od) (bv kv : Mod.Cv) (t u : Int), cs = Mod.opL o bv.1 kv.1 t u ∧ rdB W bv.1 o.bytes ∧ o.name.length ≤ 140737488355328 ∧ o.shot.length ≤ 140737488355328 ∧ o.bytes.length ≤ 140737488355328 := by
  obtain ⟨hl, m, hf⟩ := trod_fields [(35, 0), (3, 1), (9, 2), (9, 3), (3, 4), (3, 5), (3, 6), (27, 7), (37, 8), (40, 12)] (by kernel_rfl) hm
  rw [c_op] at hl
  match cs, hl with
  | [y0, y1, y2, y3, y4, y5, y6, y7, y8, y9, y10, y11, y12, y13, y14], _ =>
    obtain ⟨_, g0, _⟩ := hf 0 _ rfl
    obtain ⟨_, g1, _⟩ := hf 1 _ rfl
    obtain ⟨_, g2, w2⟩ := hf 2 _ rfl
    obtain ⟨_, g3, w3⟩ := hf 3 _ rfl
    obtain ⟨_, g4, _⟩ := hf 4 _ rfl
    obtain ⟨_, g5, _⟩ := hf 5 _ rfl
    obtain ⟨_, g6, _⟩ := hf 6 _ rfl
    obtain ⟨_, g7, w7⟩ := hf 7 _ rfl
    obtain ⟨_, g8, _⟩ := hf 8 _ rfl
    obtain ⟨_, g9, _⟩ := hf 9 _ rfl
    simp only [c_do, c_int, c_string, c_bytes, c_keep, c_crash] at g0 g1 g2 g3 g4 g5 g6 g7 g8 g9
    obtain ⟨d0, e0, _⟩ := one_int u_do g0
    obtain ⟨n1, e1, l1⟩ := one_int Mod.u_int g1
    obtain ⟨s2, e2, l2⟩ := one_string Mod.u_string g2 (fun k hk => _hw k (w2 k hk))
    obtain ⟨s3, e3, l3⟩ := one_string Mod.u_string g3 (fun k hk => _hw k (w3 k hk))
    obtain ⟨n4, e4, l4⟩ := one_int Mod.u_int g4
    obtain ⟨n5, e5, l5⟩ := one_int Mod.u_int g5
    obtain ⟨n6, e6, l6⟩ := one_int Mod.u_int g6
    obtain ⟨bv, bs, e7, hc7, hr7, hb7⟩ := trod_bytes Mod.u_bytes Mod.u_byte (by kernel_rfl) (by kernel_rfl) g7
    have hbl := hb7 reachBytes fun k hk => _hw k (w7 k hk)
    rw [reach_eq] at hbl
    obtain ⟨k1, k2, k3, k4, e8, k5, k6, k7, k8⟩ := one_keep g8
    obtain ⟨kv, kl, t, a, e9, hc9, hr9, l9, l10⟩ := one_crash g9
    simp at e0 e1 e2 e3 e4 e5 e6 e7 e8 e9
    obtain ⟨e81, e82, e83, e84⟩ := e8
    obtain ⟨e91, e92, e93⟩ := e9
    refine ⟨⟨d0, n1, s2, s3, n4, n5, n6, bs, k1, k2, k3, k4⟩, ⟨bv, hc7.pf⟩, ⟨kv, hc9.pf⟩, t, a, ?_, hr7, l2, l3, by simp only; omega⟩
    rw [e0, e1, e2, e3, e4, e5, e6, e7, e81, e82, e83, e84, e91, e92, e93]
theorem elem_step {n : Nat} {cs : List Value} {x : DataW H × List MemPlace} (hm : DataW.trod enc Tryz.prog W 0 (fun _ => true) true n 47 cs = some x) (_hw : ∀ k ∈ x.1.weights Tryz.prog 47, k ≤ reachBytes) :
    ∃ s : Mod.Sp, cs = Mod.stC s ∧ Mod.SpOk W s := by
  obtain ⟨hl, m, hf⟩ := trod_fields [(42, 0), (4, 15)] (by kernel_rfl) hm
  have c16 : Tryz.prog.cellsOf 47 = 16 := by kernel_rfl
  rw [c16] at hl
  obtain ⟨_, g0, w0⟩ := hf 0 _ rfl
  obtain ⟨_, g1, _⟩ := hf 1 _ rfl
  simp only [c_op, c_bool] at g0 g1
  obtain ⟨o, bv, kv, t, u, e0, h1, h2, h3, h4⟩ := elem_op g0 (fun k hk => _hw k (w0 k hk))
  obtain ⟨b, e1, _⟩ := DataW.trod_bool u_bool g1
  refine ⟨⟨o, b, bv, kv, t, u⟩, ?_, ⟨h2, h3, h4, ⟨h1⟩⟩⟩
  have hcs : cs = (cs.drop 0).take 15 ++ (cs.drop 15).take 1 := by
    rw [List.drop_zero, List.take_of_length_le (l := cs.drop 15) (by rw [List.length_drop]; omega), List.take_append_drop]
  rw [hcs, e0, e1]
  rfl
def Q_tSteps (w : World) (v : Value) : Prop := ∃ l : List Mod.Sp, CellI v ∧ rdX w v l.length (l.flatMap Mod.stC) ∧ (∀ s ∈ l, Mod.SpOk w s) ∧ l.length ≤ 140737488351232
theorem one_slice {t e : TypeId} {cs : List Value} (hu : Tryz.prog.underlying t = some (.slice e)) (hok : Value.okWide Tryz.prog W .any base t v) (hcs : v.cells.toList = cs) {u : Value} (h : cs = [u]) : v = u := by
  obtain ⟨a, l, c, rfl⟩ := okWide_slice hu hok
  subst hcs
  simpa [Value.cells] using h
theorem op_tSteps (_hok : Value.okWide Tryz.prog W .any base 22 v) (h : ∃ m, DataW.trod enc Tryz.prog W 0 (fun _ => true) true m 22 v.cells.toList = some (d, p)) (_hw : ∀ k ∈ d.weights Tryz.prog 22, k ≤ reachBytes) : Q_tSteps W v := by
  obtain ⟨m, hm⟩ := h
  have hb : ∃ b, Tryz.prog.bytesOf 47 = b ∧ 1 ≤ b := ⟨_, rfl, of_decide_eq_true (by kernel_rfl)⟩
  obtain ⟨b, hb, hb1⟩ := hb
  obtain ⟨u, l, hc, h1, h2, h4, h3⟩ := trod_list (encl := Mod.stC) (by_ := b) u_steps (by kernel_rfl) hb (by decide) (fun s => Mod.SpOk W s) (fun n cs x h hR => elem_step h hR) _hw hm
  have := one_slice u_steps _hok rfl hc
  subst this
  refine ⟨l, h1, h2, h4, ?_⟩
  rw [reach_eq] at h3
  exact Nat.le_trans (Nat.le_mul_of_pos_right _ hb1) h3
theorem walk_ModelPlays {w : World} {v0 v1 v2 v3 v4 : Value} (h0 : Q_int w v0) (h1 : Q_tSteps w v1) (h2 : Q_string w v2) (h3 : Q_string w v3) (h4 : Q_int w v4) : Calls Tryz.prog 3 #[v0, v1, v2, v3, v4] w fun e w' => e = .returned (.bool true) ∧ Below w.heap.size w w' := by
  obtain ⟨q, rfl, _, hq⟩ := h0
  obtain ⟨ss, hc, hr, hok, hl⟩ := h1
  obtain ⟨nm, rfl, hn⟩ := h2
  obtain ⟨sh, rfl, hn2⟩ := h3
  obtain ⟨g, rfl, _⟩ := h4
  have i1 : BaseS w v1 Mod.stC ss := ⟨hr⟩
  exact calls_of (args := [I q, v1, str nm, str sh, I g]) fun K h => Mod.modelPlays (ss := ss) hok hq (by omega) hn hn2 h
end Go.Proofs.YtabpaknfenpkoaaGreat.Row
