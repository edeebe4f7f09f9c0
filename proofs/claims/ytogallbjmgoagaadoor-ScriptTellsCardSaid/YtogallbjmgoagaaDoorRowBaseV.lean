/-
  The arguments of Script's laws, opened; the table of white space.
-/
import Derived.Test.YtogallbjmgoagaaDoorRows
import Derived.Test.YtogallbjmgoagaaDoorScrT
import Derived.WalkKit
import Derived.ProofKit
import Derived.OpenShut
import Derived.ShutString
import Derived.ChangeOld
import Derived.ChangeArms
import Derived.Below
import Derived.Lib.LaidTab
import Derived.MakeChecks
set_option linter.unusedSimpArgs false
set_option linter.unusedVariables false
set_option linter.unusedSectionVars false
namespace Go.Proofs.YtogallbjmgoagaaDoor.Row
open Go Go.SL Go.Proofs Go.Proofs.YtogallbjmgoagaaDoor
open Go.ChangeShapes Go.WideShapes Go.ChangeAt Go.RowKit
set_option linter.unusedVariables false
set_option maxRecDepth 100000
variable {H : Type} {enc : TypeId × Value → H} {W : World} {base : Nat} {v : Value} {d : DataW H} {p : List MemPlace}
theorem own : ownKnob Tryd.prog.godebug = none := by kernel_rfl
theorem laidOut : laidOutB Tryd.prog = true := by kernel_rfl
theorem reach_eq : reachBytes = 140737488351232 := by decide
/-- From every world the law's function returns true and writes nothing that was there. -/
theorem calls_of {f : FuncId} {args : List Value} {w : World} (h : ∀ K : Value → WT, E w [] (K (.bool true)) → E w [] (CF Tryd.prog f args K)) :
    Calls Tryd.prog f args.toArray w fun e w' => e = .returned (.bool true) ∧ Below w.heap.size w w' := by
  have := h (fun v w' => v = .bool true ∧ Below w.heap.size w w') (fun w' hw' => ⟨rfl, hw'.below⟩) w (sat.start w)
  refine Calls.mono this ?_
  intro e w' he
  cases e with
  | returned v => exact ⟨by rw [he.1], he.2⟩
  | panicked c => obtain ⟨_, _, h⟩ := he; exact h.elim
  | outgrown => exact he.elim
theorem tab_of (h : laidMetH Tryd.prog [("unicode.White_Space", Rows.laid_unicode_White_Space), ("strings.asciiSpace", Rows.laid_strings_asciiSpace)] W) : Scr.TabB W := ⟨by
  rw [MakeChecks.laidMetH_plain _ _ _ (by kernel_rfl)] at h
  obtain ⟨ps, h, _⟩ := h
  obtain ⟨_, _, _, _, _, _, _, _, _, _, ⟨g', t', cs, fuel, p, q, hg', ht', hvar, hd, _, _⟩, _⟩ := h
  have hty : (Tryd.prog.globalNamed "strings.asciiSpace").bind (fun g => (Tryd.prog.globals[g]?).map (·.type)) = some 93 := by kernel_rfl
  rw [hg', Option.bind_some, ht'] at hty
  obtain rfl := Option.some.inj hty
  have hd' : DataW.trod (fun _ => ()) Tryd.prog W 0 (fun _ => true) false fuel 93 cs.toList = some (Lib.tabData .u8 Lib.asciiSpaceTab, p) := hd
  unfold Lib.TabIs
  rw [hvar, ← Lib.cells_of_tab (n := 256) (e := 5) (by kernel_rfl) (by kernel_rfl) (by kernel_rfl) (by kernel_rfl) hd']⟩
theorem str_ba (s : ByteArray) : (.string s : Value) = str s.data.toList := by simp
theorem one_string {t : TypeId} {fuel : Nat} {cs : List Value} {x : DataW H × List MemPlace} (ht : Tryd.prog.underlying t = some .string) (h : DataW.trod enc Tryd.prog W 0 (fun _ => true) true fuel t cs = some x) (hw : ∀ k ∈ x.1.weights Tryd.prog t, k ≤ reachBytes) :
    ∃ l : List UInt8, cs = [str l] ∧ l.length ≤ 140737488355328 := by
  obtain ⟨s, hc, rfl, _⟩ := DataW.trod_string ht h
  refine ⟨s.data.toList, by rw [hc, str_ba], ?_⟩
  have := hw s.data.toList.length (by simp [DataW.weights])
  rw [reach_eq] at this; omega
theorem wf_i64' {n : Int} (h : (Lit.int .i64 n).wf = true) : -9223372036854775808 ≤ n ∧ n ≤ 9223372036854775807 := by
  unfold Lit.wf at h
  simp only [IntKind.min, IntKind.max, Bool.and_eq_true, decide_eq_true_eq] at h
  simp [IntKind.signed, IntKind.bits] at h
  omega
theorem one_int {t : TypeId} {fuel : Nat} {cs : List Value} {x : DataW H × List MemPlace} (ht : Tryd.prog.underlying t = some (.int .i64)) (h : DataW.trod enc Tryd.prog W 0 (fun _ => true) true fuel t cs = some x) :
    ∃ n : Int, cs = [I n] ∧ n ≤ 9223372036854775807 := by
  obtain ⟨n, e, hwf⟩ := trod_int' ht h
  exact ⟨n, e, (wf_i64' hwf).2⟩
def Q_string (_w : World) (v : Value) : Prop := ∃ l : List UInt8, v = str l ∧ l.length ≤ 140737488355328
theorem op_string (_hok : Value.okWide Tryd.prog W .any base 9 v) (h : ∃ m, DataW.trod enc Tryd.prog W 0 (fun _ => true) true m 9 v.cells.toList = some (d, p)) (_hw : ∀ k ∈ d.weights Tryd.prog 9, k ≤ reachBytes) : Q_string W v := by
  obtain ⟨s, rfl⟩ := okWide_string Scr.u_string _hok
  obtain ⟨m, hm⟩ := h
  obtain ⟨l, hc, hl⟩ := one_string Scr.u_string hm _hw
  refine ⟨l, ?_, hl⟩
  simpa [Value.cells] using hc
theorem c_int : Tryd.prog.cellsOf 3 = 1 := by kernel_rfl
theorem c_do : Tryd.prog.cellsOf 22 = 1 := by kernel_rfl
theorem c_errno : Tryd.prog.cellsOf 31 = 1 := by kernel_rfl
theorem c_string : Tryd.prog.cellsOf 9 = 1 := by kernel_rfl
theorem c_bytes : Tryd.prog.cellsOf 23 = 1 := by kernel_rfl
theorem c_bools : Tryd.prog.cellsOf 26 = 1 := by kernel_rfl
theorem c_keep : Tryd.prog.cellsOf 25 = 4 := by kernel_rfl
theorem c_crash : Tryd.prog.cellsOf 28 = 3 := by kernel_rfl
theorem c_helds : Tryd.prog.cellsOf 40 = 1 := by kernel_rfl
theorem u_do : Tryd.prog.underlying 22 = some (.int .i64) := by kernel_rfl
theorem u_errno : Tryd.prog.underlying 31 = some (.int .i64) := by kernel_rfl
theorem u_helds : Tryd.prog.underlying 40 = some (.slice 67) := by kernel_rfl
theorem one_keep {fuel : Nat} {cs : List Value} {x : DataW H × List MemPlace} (h : DataW.trod enc Tryd.prog W 0 (fun _ => true) true fuel 25 cs = some x) :
    ∃ a b c d : Int, cs = [I a, I b, I c, I d] ∧ a ≤ 9223372036854775807 ∧ b ≤ 9223372036854775807 ∧ c ≤ 9223372036854775807 ∧ d ≤ 9223372036854775807 := by
  obtain ⟨hl, m, hf⟩ := trod_fields [(3, 0), (3, 1), (3, 2), (3, 3)] (by kernel_rfl) h
  rw [c_keep] at hl
  match cs, hl with
  | [y0, y1, y2, y3], _ =>
    obtain ⟨_, g0, _⟩ := hf 0 _ rfl
    obtain ⟨_, g1, _⟩ := hf 1 _ rfl
    obtain ⟨_, g2, _⟩ := hf 2 _ rfl
    obtain ⟨_, g3, _⟩ := hf 3 _ rfl
    simp only [c_int] at g0 g1 g2 g3
    obtain ⟨n0, e0, l0⟩ := one_int Scr.u_int g0
    obtain ⟨n1, e1, l1⟩ := one_int Scr.u_int g1
    obtain ⟨n2, e2, l2⟩ := one_int Scr.u_int g2
    obtain ⟨n3, e3, l3⟩ := one_int Scr.u_int g3
    simp at e0 e1 e2 e3
    exact ⟨n0, n1, n2, n3, by rw [e0, e1, e2, e3], l0, l1, l2, l3⟩
theorem one_crash {fuel : Nat} {cs : List Value} {x : DataW H × List MemPlace} (h : DataW.trod enc Tryd.prog W 0 (fun _ => true) true fuel 28 cs = some x) :
    ∃ (u : Value) (l : List Bool) (t a : Int), cs = [u, I t, I a] ∧ CellI u ∧ rdX W u l.length (l.flatMap cL) ∧ t ≤ 9223372036854775807 ∧ a ≤ 9223372036854775807 := by
  obtain ⟨hl, m, hf⟩ := trod_fields [(26, 0), (3, 1), (3, 2)] (by kernel_rfl) h
  rw [c_crash] at hl
  match cs, hl with
  | [y0, y1, y2], _ =>
    obtain ⟨_, g0, _⟩ := hf 0 _ rfl
    obtain ⟨_, g1, _⟩ := hf 1 _ rfl
    obtain ⟨_, g2, _⟩ := hf 2 _ rfl
    simp only [c_int, c_bools] at g0 g1 g2
    obtain ⟨v, bs, e0, hc, hr⟩ := trod_boolrow Scr.u_bools (by kernel_rfl) (by kernel_rfl) g0
    obtain ⟨n1, e1, l1⟩ := one_int Scr.u_int g1
    obtain ⟨n2, e2, l2⟩ := one_int Scr.u_int g2
    simp at e0 e1 e2
    exact ⟨v, bs, n1, n2, by rw [e0, e1, e2], hc, by rw [bools_enc]; exact hr, l1, l2⟩
def Q_tOp (w : World) (v : Value) : Prop := ∃ (o : Scr.OpV) (bv kv : Value), v = .agg (Scr.opC o bv kv).toArray ∧ CellI bv ∧ CellI kv ∧ rdB w bv o.bytes ∧ rdX w kv o.keep.length (o.keep.flatMap cL) ∧
  (o.n ≤ 9223372036854775807 ∧ o.gen ≤ 9223372036854775807 ∧ o.from_ ≤ 9223372036854775807 ∧ o.size ≤ 9223372036854775807 ∧
      o.last ≤ 9223372036854775807 ∧ o.young ≤ 9223372036854775807 ∧ o.step ≤ 9223372036854775807 ∧ o.count ≤ 9223372036854775807 ∧ o.torn ≤ 9223372036854775807 ∧ o.at_ ≤ 9223372036854775807) ∧
  (o.name.length ≤ 140737488355328 ∧ o.shot.length ≤ 140737488355328)
theorem op_tOp (_hok : Value.okWide Tryd.prog W .any base 30 v) (h : ∃ m, DataW.trod enc Tryd.prog W 0 (fun _ => true) true m 30 v.cells.toList = some (d, p)) (_hw : ∀ k ∈ d.weights Tryd.prog 30, k ≤ reachBytes) : Q_tOp W v := by
  obtain ⟨cs, rfl, _⟩ := okWide_struct Tryd.underlying30 _hok
  obtain ⟨m, hm⟩ := h
  have e : (Value.agg cs).cells.toList = cs.toList := rfl
  rw [e] at hm
  obtain ⟨hl, m, hf⟩ := trod_fields [(22, 0), (3, 1), (9, 2), (9, 3), (3, 4), (3, 5), (3, 6), (23, 7), (25, 8), (28, 12)] (by kernel_rfl) hm
  have c15 : Tryd.prog.cellsOf 30 = 15 := by kernel_rfl
  rw [c15] at hl
  obtain ⟨l, hcl⟩ : ∃ l, cs = l.toArray := ⟨cs.toList, by simp⟩
  subst hcl
  simp only at hl hf
  match l, hl with
  | [y0, y1, y2, y3, y4, y5, y6, y7, y8, y9, y10, y11, y12, y13, y14], _ =>
    obtain ⟨_, g0, _⟩ := hf 0 _ rfl
    obtain ⟨_, g1, _⟩ := hf 1 _ rfl
    obtain ⟨_, g2, w2⟩ := hf 2 _ rfl
    obtain ⟨_, g3, w3⟩ := hf 3 _ rfl
    obtain ⟨_, g4, _⟩ := hf 4 _ rfl
    obtain ⟨_, g5, _⟩ := hf 5 _ rfl
    obtain ⟨_, g6, _⟩ := hf 6 _ rfl
    obtain ⟨_, g7, _⟩ := hf 7 _ rfl
    obtain ⟨_, g8, _⟩ := hf 8 _ rfl
    obtain ⟨_, g9, _⟩ := hf 9 _ rfl
    simp only [c_do, c_int, c_string, c_bytes, c_keep, c_crash] at g0 g1 g2 g3 g4 g5 g6 g7 g8 g9
    obtain ⟨d0, e0, _⟩ := one_int u_do g0
    obtain ⟨n1, e1, l1⟩ := one_int Scr.u_int g1
    obtain ⟨s2, e2, l2⟩ := one_string Scr.u_string g2 (fun k hk => _hw k (w2 k hk))
    obtain ⟨s3, e3, l3⟩ := one_string Scr.u_string g3 (fun k hk => _hw k (w3 k hk))
    obtain ⟨n4, e4, l4⟩ := one_int Scr.u_int g4
    obtain ⟨n5, e5, l5⟩ := one_int Scr.u_int g5
    obtain ⟨n6, e6, l6⟩ := one_int Scr.u_int g6
    obtain ⟨bv, bs, e7, hc7, hr7, _⟩ := trod_bytes Scr.u_bytes Scr.u_byte (by kernel_rfl) (by kernel_rfl) g7
    obtain ⟨k1, k2, k3, k4, e8, k5, k6, k7, k8⟩ := one_keep g8
    obtain ⟨kv, kl, t, a, e9, hc9, hr9, l9, l10⟩ := one_crash g9
    simp at e0 e1 e2 e3 e4 e5 e6 e7 e8 e9
    obtain ⟨e81, e82, e83, e84⟩ := e8
    obtain ⟨e91, e92, e93⟩ := e9
    refine ⟨⟨d0, n1, s2, s3, n4, n5, n6, bs, k1, k2, k3, k4, kl, t, a⟩, bv, kv, ?_, hc7, hc9, hr7, hr9, ⟨l1, l4, l5, l6, k5, k6, k7, k8, l9, l10⟩, l2, l3⟩
    rw [e0, e1, e2, e3, e4, e5, e6, e7, e81, e82, e83, e84, e91, e92, e93]
theorem elem_held {n : Nat} {cs : List Value} {x : DataW H × List MemPlace} (h : DataW.trod enc Tryd.prog W 0 (fun _ => true) true n 67 cs = some x) (_hR : ∀ k ∈ x.1.weights Tryd.prog 67, k ≤ reachBytes) :
    ∃ a : List UInt8 × Int, cs = Scr.hC a ∧ (a.1.length ≤ 140737488355328 ∧ a.2 ≤ 9223372036854775807) := by
  obtain ⟨hl, m, hf⟩ := trod_fields [(9, 0), (3, 1)] (by kernel_rfl) h
  have c3 : Tryd.prog.cellsOf 67 = 2 := by kernel_rfl
  rw [c3] at hl
  match cs, hl with
  | [y0, y1], _ =>
    obtain ⟨_, g0, w0⟩ := hf 0 _ rfl
    obtain ⟨_, g1, _⟩ := hf 1 _ rfl
    simp only [c_int, c_string] at g0 g1
    obtain ⟨s, e0, l0⟩ := one_string Scr.u_string g0 (fun k hk => _hR k (w0 k hk))
    obtain ⟨n1, e1, l1⟩ := one_int Scr.u_int g1
    simp at e0 e1
    exact ⟨(s, n1), by rw [e0, e1], l0, l1⟩
def Q_tAnswer (w : World) (v : Value) : Prop := ∃ (a : Scr.Ans) (bv nv : Value), v = .agg (Scr.ansC a bv nv).toArray ∧ CellI bv ∧ CellI nv ∧ rdB w bv a.bytes ∧ rdX w nv a.names.length (a.names.flatMap Scr.hC) ∧
  (a.e ≤ 9223372036854775807 ∧ a.n ≤ 9223372036854775807) ∧ ∀ h ∈ a.names, h.1.length ≤ 140737488355328 ∧ h.2 ≤ 9223372036854775807
theorem op_tAnswer (_hok : Value.okWide Tryd.prog W .any base 42 v) (h : ∃ m, DataW.trod enc Tryd.prog W 0 (fun _ => true) true m 42 v.cells.toList = some (d, p)) (_hw : ∀ k ∈ d.weights Tryd.prog 42, k ≤ reachBytes) : Q_tAnswer W v := by
  obtain ⟨cs, rfl, _⟩ := okWide_struct Tryd.underlying42 _hok
  obtain ⟨m, hm⟩ := h
  have e : (Value.agg cs).cells.toList = cs.toList := rfl
  rw [e] at hm
  obtain ⟨hl, m, hf⟩ := trod_fields [(31, 0), (3, 1), (23, 2), (40, 3)] (by kernel_rfl) hm
  have c4 : Tryd.prog.cellsOf 42 = 4 := by kernel_rfl
  rw [c4] at hl
  obtain ⟨l, hcl⟩ : ∃ l, cs = l.toArray := ⟨cs.toList, by simp⟩
  subst hcl
  simp only at hl hf
  match l, hl with
  | [y0, y1, y2, y3], _ =>
    obtain ⟨_, g0, _⟩ := hf 0 _ rfl
    obtain ⟨_, g1, _⟩ := hf 1 _ rfl
    obtain ⟨_, g2, _⟩ := hf 2 _ rfl
    obtain ⟨_, g3, w3⟩ := hf 3 _ rfl
    simp only [c_errno, c_int, c_bytes, c_helds] at g0 g1 g2 g3
    obtain ⟨n0, e0, l0⟩ := one_int u_errno g0
    obtain ⟨n1, e1, l1⟩ := one_int Scr.u_int g1
    obtain ⟨bv, bs, e2, hc2, hr2, _⟩ := trod_bytes Scr.u_bytes Scr.u_byte (by kernel_rfl) (by kernel_rfl) g2
    obtain ⟨nv, nl, e3, hc3, hr3, hq3, _⟩ := trod_list (encl := Scr.hC) (by_ := 24) u_helds (by kernel_rfl) (by kernel_rfl) (by decide) (fun a => a.1.length ≤ 140737488355328 ∧ a.2 ≤ 9223372036854775807) (fun n cs x h hR => elem_held h hR) (fun k hk => _hw k (w3 k hk)) g3
    simp at e0 e1 e2 e3
    exact ⟨⟨n0, n1, bs, nl⟩, bv, nv, by rw [e0, e1, e2, e3], hc2, hc3, hr2, hr3, ⟨l0, l1⟩, hq3⟩
theorem walk_ScriptParses {w : World} {v0 : Value} (ht : Scr.TabB w) (h0 : Q_string w v0) : Calls Tryd.prog 3 #[v0] w fun e w' => e = .returned (.bool true) ∧ Below w.heap.size w w' := by
  obtain ⟨l, rfl, _⟩ := h0
  exact calls_of (args := [str l]) fun K h => Scr.scriptParses h
theorem walk_ScriptBack {w : World} {v0 : Value} (ht : Scr.TabB w) (h0 : Q_string w v0) : Calls Tryd.prog 5 #[v0] w fun e w' => e = .returned (.bool true) ∧ Below w.heap.size w w' := by
  obtain ⟨l, rfl, _⟩ := h0
  exact calls_of (args := [str l]) fun K h => Scr.scriptBack h
theorem walk_ScriptPrints {w : World} {v0 : Value} (ht : Scr.TabB w) (h0 : Q_tOp w v0) : Calls Tryd.prog 4 #[v0] w fun e w' => e = .returned (.bool true) ∧ Below w.heap.size w w' := by
  obtain ⟨o, bv, kv, rfl, i1, i2, h1, h2, h3, h4⟩ := h0
  have i3 : BaseR w bv o.bytes := ⟨h1⟩
  have i4 : BaseS w kv cL o.keep := ⟨h2⟩
  exact calls_of (args := [.agg (Scr.opC o bv kv).toArray]) fun K h => Scr.scriptPrints h3 h4 h
theorem walk_ScriptTells {w : World} {v0 : Value} (ht : Scr.TabB w) (h0 : Q_tAnswer w v0) : Calls Tryd.prog 6 #[v0] w fun e w' => e = .returned (.bool true) ∧ Below w.heap.size w w' := by
  obtain ⟨a, bv, nv, rfl, i1, i2, h1, h2, h3, h4⟩ := h0
  have i3 : BaseR w bv a.bytes := ⟨h1⟩
  have i4 : BaseS w nv Scr.hC a.names := ⟨h2⟩
  exact calls_of (args := [.agg (Scr.ansC a bv nv).toArray]) fun K h => Scr.scriptTells h3 h4 h
end Go.Proofs.YtogallbjmgoagaaDoor.Row
