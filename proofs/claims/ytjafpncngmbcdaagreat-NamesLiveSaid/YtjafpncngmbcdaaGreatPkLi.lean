/-
  Part 9: RowBaseN.
-/
import Derived.Test.YtjafpncngmbcdaaGreatRows
import Derived.Test.YtjafpncngmbcdaaGreatProg
import Derived.Test.YtjafpncngmbcdaaGreatChecked
import Derived.WalkKit
import Derived.ProofKit
import Derived.OpenShut
import Derived.ShutString
import Derived.ChangeOld
import Derived.Below
import Derived.Test.YtjafpncngmbcdaaGreatPkLh
set_option linter.unusedSimpArgs false
set_option linter.unusedVariables false
set_option linter.unusedSectionVars false
section
namespace Go.Proofs.YtjafpncngmbcdaaGreat.Row
open Go Go.SL Go.Proofs Go.Proofs.YtjafpncngmbcdaaGreat
open Go.ChangeShapes Go.WideShapes Go.ChangeAt Go.RowKit
set_option maxRecDepth 100000
variable {H : Type} {enc : TypeId × Value → H} {W : World} {base : Nat} {v : Value} {d : DataW H} {p : List MemPlace}
theorem own : ownKnob Tryz.prog.godebug = none := by kernel_rfl
theorem laidOut : laidOutB Tryz.prog = true := by kernel_rfl
theorem reach_eq : reachBytes = 140737488351232 := by decide
abbrev I (n : Int) : Value := .int .i64 n
theorem calls_of {f : FuncId} {args : List Value} {w : World} (h : ∀ K : Value → WT, E w [] (K (.bool true)) → E w [] (CF Tryz.prog f args K)) :
    Calls Tryz.prog f args.toArray w fun e w' => e = .returned (.bool true) ∧ Below w.heap.size w w' := by
  have := h (fun v w' => v = .bool true ∧ Below w.heap.size w w') (fun w' hw' => ⟨rfl, hw'.below⟩) w (sat.start w)
  refine Calls.mono this ?_
  intro e w' he
  cases e with
  | returned v => exact ⟨by rw [he.1], he.2⟩
  | panicked c => obtain ⟨_, _, h⟩ := he; exact h.elim
  | outgrown => exact he.elim
theorem str_ba (s : ByteArray) : (.string s : Value) = str s.data.toList := by simp
theorem one_string {t : TypeId} {fuel : Nat} {cs : List Value} {x : DataW H × List MemPlace} (ht : Tryz.prog.underlying t = some .string) (h : DataW.trod enc Tryz.prog W 0 (fun _ => true) true fuel t cs = some x) (hw : ∀ k ∈ x.1.weights Tryz.prog t, k ≤ reachBytes) :
    ∃ l : List UInt8, cs = [str l] ∧ l.length ≤ 140737488355328 := by
  obtain ⟨s, hc, rfl, _⟩ := DataW.trod_string ht h
  refine ⟨s.data.toList, by rw [hc, str_ba], ?_⟩
  have := hw s.data.toList.length (by simp [DataW.weights])
  rw [reach_eq] at this; omega
theorem wf_i64' {n : Int} (h : (Lit.int .i64 n).wf = true) : -9223372036854775808 ≤ n ∧ n ≤ 9223372036854775807 := by
  unfold Lit.wf at h
  simp only [IntKind.min, IntKind.max, Bool.and_eq_true, decide_eq_true_eq] at h
  simp [IntKind.signed, IntKind.bits] at h
  omega
theorem one_int {t : TypeId} {fuel : Nat} {cs : List Value} {x : DataW H × List MemPlace} (ht : Tryz.prog.underlying t = some (.int .i64)) (h : DataW.trod enc Tryz.prog W 0 (fun _ => true) true fuel t cs = some x) :
    ∃ n : Int, cs = [I n] ∧ n ≤ 9223372036854775807 := by
  obtain ⟨n, e, hwf⟩ := trod_int' ht h
  exact ⟨n, e, (wf_i64' hwf).2⟩
theorem c_int : Tryz.prog.cellsOf 3 = 1 := by kernel_rfl
theorem c_kind : Tryz.prog.cellsOf 51 = 1 := by kernel_rfl
theorem c_string : Tryz.prog.cellsOf 9 = 1 := by kernel_rfl
theorem c_refs : Tryz.prog.cellsOf 29 = 1 := by kernel_rfl
theorem c_helds : Tryz.prog.cellsOf 44 = 1 := by kernel_rfl
theorem c_place : Tryz.prog.cellsOf 57 = 3 := by kernel_rfl
theorem c_run : Tryz.prog.cellsOf 55 = 2 := by kernel_rfl
theorem c_keep : Tryz.prog.cellsOf 43 = 4 := by kernel_rfl
theorem c_sum : Tryz.prog.cellsOf 36 = 32 := by kernel_rfl
theorem c_ref : Tryz.prog.cellsOf 38 = 35 := by kernel_rfl
theorem c_held : Tryz.prog.cellsOf 53 = 2 := by kernel_rfl
theorem c_spot : Tryz.prog.cellsOf 116 = 2 := by kernel_rfl
theorem c_move : Tryz.prog.cellsOf 147 = 4 := by kernel_rfl
theorem c_fact : Tryz.prog.cellsOf 60 = 14 := by kernel_rfl
theorem u_kind : Tryz.prog.underlying 51 = some (.int .i64) := by kernel_rfl
theorem one_keep {fuel : Nat} {cs : List Value} {x : DataW H × List MemPlace} (h : DataW.trod enc Tryz.prog W 0 (fun _ => true) true fuel 43 cs = some x) :
    ∃ a b c d : Int, cs = [I a, I b, I c, I d] ∧ a ≤ 9223372036854775807 ∧ b ≤ 9223372036854775807 ∧ c ≤ 9223372036854775807 ∧ d ≤ 9223372036854775807 := by
  obtain ⟨hl, m, hf⟩ := trod_fields [(3, 0), (3, 1), (3, 2), (3, 3)] (by kernel_rfl) h
  rw [c_keep] at hl
  match cs, hl with
  | [y0, y1, y2, y3], _ =>
    obtain ⟨_, g0, _⟩ := hf 0 _ rfl
    obtain ⟨_, g1, _⟩ := hf 1 _ rfl
    obtain ⟨_, g2, _⟩ := hf 2 _ rfl
    obtain ⟨_, g3, _⟩ := hf 3 _ rfl
    simp only [c_int] at g0 g1 g2 g3
    obtain ⟨n0, e0, l0⟩ := one_int Nam.u_int g0
    obtain ⟨n1, e1, l1⟩ := one_int Nam.u_int g1
    obtain ⟨n2, e2, l2⟩ := one_int Nam.u_int g2
    obtain ⟨n3, e3, l3⟩ := one_int Nam.u_int g3
    simp at e0 e1 e2 e3
    exact ⟨n0, n1, n2, n3, by rw [e0, e1, e2, e3], l0, l1, l2, l3⟩
theorem one_run {fuel : Nat} {t : Nat} {cs : List Value} {x : DataW H × List MemPlace} (ht : (match Tryz.prog.underlying t with | some (.struct fs) => some (fs.toList.map fun f => (f.type, f.offset)) | _ => none) = some [(3, 0), (3, 1)]) (hc : Tryz.prog.cellsOf t = 2)
    (h : DataW.trod enc Tryz.prog W 0 (fun _ => true) true fuel t cs = some x) : ∃ a b : Int, cs = [I a, I b] := by
  obtain ⟨hl, m, hf⟩ := trod_fields [(3, 0), (3, 1)] ht h
  rw [hc] at hl
  match cs, hl with
  | [y0, y1], _ =>
    obtain ⟨_, g0, _⟩ := hf 0 _ rfl
    obtain ⟨_, g1, _⟩ := hf 1 _ rfl
    simp only [c_int] at g0 g1
    obtain ⟨n0, e0, l0⟩ := one_int Nam.u_int g0
    obtain ⟨n1, e1, l1⟩ := one_int Nam.u_int g1
    simp at e0 e1
    exact ⟨n0, n1, by rw [e0, e1]⟩
theorem one_place {fuel : Nat} {cs : List Value} {x : DataW H × List MemPlace} (h : DataW.trod enc Tryz.prog W 0 (fun _ => true) true fuel 57 cs = some x) : ∃ a b c : Int, cs = [I a, I b, I c] := by
  obtain ⟨hl, m, hf⟩ := trod_fields [(3, 0), (55, 1)] (by kernel_rfl) h
  rw [c_place] at hl
  match cs, hl with
  | [y0, y1, y2], _ =>
    obtain ⟨_, g0, _⟩ := hf 0 _ rfl
    obtain ⟨_, g1, _⟩ := hf 1 _ rfl
    simp only [c_int, c_run] at g0 g1
    obtain ⟨n0, e0, l0⟩ := one_int Nam.u_int g0
    obtain ⟨n1, n2, e1⟩ := one_run (by kernel_rfl) c_run g1
    simp at e0 e1
    exact ⟨n0, n1, n2, by rw [e0, e1.1, e1.2]⟩
theorem bytes_of : ∀ (n : Nat) (cs : List Value), cs.length = n → (∀ i, i < n → ∃ b : UInt8, (cs.drop i).take 1 = [.int .u8 (b.toNat : Int)]) → ∃ l : List UInt8, l.length = n ∧ cs = bcs l
  | 0, cs, hl, _ => ⟨[], rfl, List.length_eq_zero_iff.1 hl⟩
  | n + 1, [], hl, _ => by simp at hl
  | n + 1, y :: cs, hl, h => by
    obtain ⟨b, hb⟩ := h 0 (by omega)
    obtain ⟨l, hl', e⟩ := bytes_of n cs (by simpa using hl) fun i hi => by simpa using h (i + 1) (by omega)
    simp at hb
    exact ⟨b :: l, by simp [hl'], by rw [hb, e]; rfl⟩
theorem one_byte {fuel : Nat} {cs : List Value} {x : DataW H × List MemPlace} (h : DataW.trod enc Tryz.prog W 0 (fun _ => true) true fuel 5 cs = some x) : ∃ b : UInt8, cs = [.int .u8 (b.toNat : Int)] := by
  obtain ⟨n, e, hwf⟩ := trod_int' Nam.u_byte h
  have hn : 0 ≤ n ∧ n < 256 := by
    unfold Lit.wf at hwf
    simp only [IntKind.min, IntKind.max, Bool.and_eq_true, decide_eq_true_eq] at hwf
    simp [IntKind.signed, IntKind.bits] at hwf
    omega
  refine ⟨UInt8.ofNat n.toNat, ?_⟩
  have e' : ((UInt8.ofNat n.toNat).toNat : Int) = n := by
    rw [UInt8.toNat_ofNat_of_lt' (by show n.toNat < 256; omega)]; omega
  rw [e', e]
theorem one_sum {fuel : Nat} {cs : List Value} {x : DataW H × List MemPlace} (h : DataW.trod enc Tryz.prog W 0 (fun _ => true) true fuel 36 cs = some x) : ∃ l : List UInt8, l.length = 32 ∧ cs = bcs l := by
  have hu : Tryz.prog.underlying 36 = some (.array 32 5) := by kernel_rfl
  obtain ⟨xs, m, _, _, hl, hxl, hf⟩ := DataW.trod_array hu h
  have c2 : Tryz.prog.cellsOf 5 = 1 := by kernel_rfl
  rw [c_sum] at hl
  rw [c2] at hf
  refine bytes_of 32 cs hl fun i hi => ?_
  have g := hf i hi
  rw [List.getElem?_eq_getElem (by omega), Nat.mul_one] at g
  exact one_byte g
theorem elem_ref {n R : Nat} {cs : List Value} {x : DataW H × List MemPlace} (h : DataW.trod enc Tryz.prog W 0 (fun _ => true) true n 38 cs = some x) (_hR : ∀ k ∈ x.1.weights Tryz.prog 38, k ≤ R) : ∃ a : Nam.Rf, cs = Nam.rfC a ∧ True := by
  obtain ⟨hl, m, hf⟩ := trod_fields [(36, 0), (3, 32), (3, 33), (3, 34)] (by kernel_rfl) h
  rw [c_ref] at hl
  obtain ⟨_, g0, _⟩ := hf 0 _ rfl
  obtain ⟨_, g1, _⟩ := hf 1 _ rfl
  obtain ⟨_, g2, _⟩ := hf 2 _ rfl
  obtain ⟨_, g3, _⟩ := hf 3 _ rfl
  simp only [c_int, c_sum] at g0 g1 g2 g3
  obtain ⟨l, hll, e0⟩ := one_sum g0
  obtain ⟨n1, e1, l1⟩ := one_int Nam.u_int g1
  obtain ⟨n2, e2, l2⟩ := one_int Nam.u_int g2
  obtain ⟨n3, e3, l3⟩ := one_int Nam.u_int g3
  refine ⟨⟨⟨l, hll⟩, n1, n2, n3⟩, ?_, trivial⟩
  have hcs : cs = (cs.drop 0).take 32 ++ (cs.drop 32).take 1 ++ (cs.drop 33).take 1 ++ (cs.drop 34).take 1 := by
    rw [List.drop_zero, List.take_of_length_le (l := cs.drop 34) (by rw [List.length_drop]; omega)]
    have h1 : (cs.drop 33).take 1 ++ cs.drop 34 = cs.drop 33 := by rw [show cs.drop 34 = (cs.drop 33).drop 1 by rw [List.drop_drop], List.take_append_drop]
    have h2 : (cs.drop 32).take 1 ++ cs.drop 33 = cs.drop 32 := by rw [show cs.drop 33 = (cs.drop 32).drop 1 by rw [List.drop_drop], List.take_append_drop]
    rw [List.append_assoc, List.append_assoc, h1, h2, List.take_append_drop]
  rw [hcs, e0, e1, e2, e3]
  simp [Nam.rfC]
theorem elem_held {n : Nat} {cs : List Value} {x : DataW H × List MemPlace} (h : DataW.trod enc Tryz.prog W 0 (fun _ => true) true n 53 cs = some x) (hR : ∀ k ∈ x.1.weights Tryz.prog 53, k ≤ reachBytes) : ∃ a : List UInt8 × Int, cs = Nam.hC a ∧ a.1.length ≤ 140737488355328 := by
  obtain ⟨hl, m, hf⟩ := trod_fields [(9, 0), (3, 1)] (by kernel_rfl) h
  rw [c_held] at hl
  match cs, hl with
  | [y0, y1], _ =>
    obtain ⟨_, g0, w0⟩ := hf 0 _ rfl
    obtain ⟨_, g1, _⟩ := hf 1 _ rfl
    simp only [c_int, c_string] at g0 g1
    obtain ⟨s, e0, l0⟩ := one_string Nam.u_string g0 (fun k hk => hR k (w0 k hk))
    obtain ⟨n1, e1, l1⟩ := one_int Nam.u_int g1
    simp at e0 e1
    exact ⟨(s, n1), by rw [e0, e1]; rfl, l0⟩
theorem elem_move {n R : Nat} {cs : List Value} {x : DataW H × List MemPlace} (h : DataW.trod enc Tryz.prog W 0 (fun _ => true) true n 147 cs = some x) (hR : ∀ k ∈ x.1.weights Tryz.prog 147, k ≤ R) : ∃ a : Nam.Mv, cs = Nam.mvC a ∧ True := by
  obtain ⟨hl, m, hf⟩ := trod_fields [(116, 0), (116, 2)] (by kernel_rfl) h
  rw [c_move] at hl
  match cs, hl with
  | [y0, y1, y2, y3], _ =>
    obtain ⟨_, g0, w0⟩ := hf 0 _ rfl
    obtain ⟨_, g1, _⟩ := hf 1 _ rfl
    simp only [c_spot] at g0 g1
    obtain ⟨a0, b0, e0⟩ := one_run (by kernel_rfl) c_spot g0
    obtain ⟨a1, b1, e1⟩ := one_run (by kernel_rfl) c_spot g1
    simp at e0 e1
    exact ⟨⟨a0, b0, a1, b1⟩, by rw [e0.1, e0.2, e1.1, e1.2]; rfl, trivial⟩
def FvOk (w : World) (p : Nam.FV) : Prop := rdX w p.2.1.1 p.1.refs.length (p.1.refs.flatMap Nam.rfC) ∧ rdX w p.2.2.1.1 p.1.held.length (p.1.held.flatMap Nam.hC) ∧ rdX w p.2.2.2.1 p.1.moves.length (p.1.moves.flatMap Nam.mvC) ∧ Nam.FaOk p.1 ∧ p.1.refs.length * 56 ≤ 140737488355328 ∧ p.1.held.length * 24 ≤ 140737488355328
theorem FvOk.fin {w : World} {p : Nam.FV} (h : FvOk w p) : Nam.FIn w p := by
  obtain ⟨h1, h2, h3, h4, h5, h6⟩ := h
  have i1 : BaseS w p.2.1.1 Nam.rfC p.1.refs := ⟨h1⟩
  have i2 : BaseS w p.2.2.1.1 Nam.hC p.1.held := ⟨h2⟩
  have i3 : BaseS w p.2.2.2.1 Nam.mvC p.1.moves := ⟨h3⟩
  exact ⟨fun _ => inferInstance, fun _ => inferInstance, fun _ => inferInstance, h4, h5, h6⟩
theorem elem_fact {n : Nat} {cs : List Value} {x : DataW H × List MemPlace} (hm : DataW.trod enc Tryz.prog W 0 (fun _ => true) true n 60 cs = some x) (_hw : ∀ k ∈ x.1.weights Tryz.prog 60, k ≤ reachBytes) :
    ∃ q : Nam.FV, cs = Nam.faE q ∧ FvOk W q := by
  have u_moves : Tryz.prog.underlying 58 = some (.slice 147) := by kernel_rfl
  have c_moves : Tryz.prog.cellsOf 58 = 1 := by kernel_rfl
  obtain ⟨hl, m, hf⟩ := trod_fields [(51, 0), (57, 1), (9, 4), (3, 5), (3, 6), (29, 7), (44, 8), (58, 9), (43, 10)] (by kernel_rfl) hm
  rw [c_fact] at hl
  match cs, hl with
  | [y0, y1, y2, y3, y4, y5, y6, y7, y8, y9, y10, y11, y12, y13], _ =>
    obtain ⟨_, g0, _⟩ := hf 0 _ rfl
    obtain ⟨_, g1, _⟩ := hf 1 _ rfl
    obtain ⟨_, g2, w2⟩ := hf 2 _ rfl
    obtain ⟨_, g3, _⟩ := hf 3 _ rfl
    obtain ⟨_, g4, _⟩ := hf 4 _ rfl
    obtain ⟨_, g5, w5⟩ := hf 5 _ rfl
    obtain ⟨_, g6, w6⟩ := hf 6 _ rfl
    obtain ⟨_, g7, w7⟩ := hf 7 _ rfl
    obtain ⟨_, g8, _⟩ := hf 8 _ rfl
    simp only [c_kind, c_place, c_int, c_string, c_refs, c_helds, c_moves, c_keep] at g0 g1 g2 g3 g4 g5 g6 g7 g8
    obtain ⟨n0, e0, _⟩ := one_int u_kind g0
    obtain ⟨a1, b1, c1, e1⟩ := one_place g1
    obtain ⟨s2, e2, l2⟩ := one_string Nam.u_string g2 (fun k hk => _hw k (w2 k hk))
    obtain ⟨n3, e3, l3⟩ := one_int Nam.u_int g3
    obtain ⟨n4, e4, l4⟩ := one_int Nam.u_int g4
    obtain ⟨v5, r5, e5, hc5, h5, _, b5⟩ := trod_list (encl := Nam.rfC) (by_ := 56) Nam.u_refs c_ref (by kernel_rfl) (by decide) (fun _ => True) (fun n cs x h hR => elem_ref h hR) (fun k hk => _hw k (w5 k hk)) g5
    obtain ⟨v6, r6, e6, hc6, h6, q6, b6⟩ := trod_list (encl := Nam.hC) (by_ := 24) Nam.u_helds c_held (by kernel_rfl) (by decide) (fun a => a.1.length ≤ 140737488355328) (fun n cs x h hR => elem_held h hR) (fun k hk => _hw k (w6 k hk)) g6
    obtain ⟨v7, r7, e7, hc7, h7, _, b7⟩ := trod_list (encl := Nam.mvC) (by_ := 32) u_moves c_move (by kernel_rfl) (by decide) (fun _ => True) (fun n cs x h hR => elem_move h hR) (fun k hk => _hw k (w7 k hk)) g7
    obtain ⟨k1, k2, k3, k4, e8, _⟩ := one_keep g8
    rw [reach_eq] at b5 b6 b7
    simp at e0 e1 e2 e3 e4 e5 e6 e7 e8
    obtain ⟨e11, e12, e13⟩ := e1
    obtain ⟨e81, e82, e83, e84⟩ := e8
    refine ⟨(⟨n0, a1, b1, c1, s2, n3, n4, r5, r6, r7, k1, k2, k3, k4⟩, ⟨v5, hc5.pf⟩, ⟨v6, hc6.pf⟩, ⟨v7, hc7.pf⟩), ?_, h5, h6, h7, ⟨l2, by simp only; omega, by simp only; omega, by simp only; omega, q6⟩, by simp only; omega, by simp only; omega⟩
    rw [e0, e11, e12, e13, e2, e3, e4, e5, e6, e7, e81, e82, e83, e84]; rfl
def Q_tFacts (w : World) (v : Value) : Prop := ∃ l : List Nam.FV, CellI v ∧ rdX w v l.length (l.flatMap Nam.faE) ∧ (∀ p ∈ l, FvOk w p)
theorem one_slice {t e : TypeId} {cs : List Value} (hu : Tryz.prog.underlying t = some (.slice e)) (hok : Value.okWide Tryz.prog W .any base t v) (hcs : v.cells.toList = cs) {u : Value} (h : cs = [u]) : v = u := by
  obtain ⟨a, l, c, rfl⟩ := okWide_slice hu hok
  subst hcs
  simpa [Value.cells] using h
theorem u_facts : Tryz.prog.underlying 22 = some (.slice 60) := by kernel_rfl
theorem op_tFacts (_hok : Value.okWide Tryz.prog W .any base 22 v) (h : ∃ m, DataW.trod enc Tryz.prog W 0 (fun _ => true) true m 22 v.cells.toList = some (d, p)) (_hw : ∀ k ∈ d.weights Tryz.prog 22, k ≤ reachBytes) : Q_tFacts W v := by
  obtain ⟨m, hm⟩ := h
  have hb : ∃ b, Tryz.prog.bytesOf 60 = b ∧ 1 ≤ b := ⟨_, rfl, of_decide_eq_true (by kernel_rfl)⟩
  obtain ⟨b, hb, hb1⟩ := hb
  obtain ⟨u, l, hc, h1, h2, h4, h3⟩ := trod_list (encl := Nam.faE) (by_ := b) u_facts c_fact hb (by decide) (fun s => FvOk W s) (fun n cs x h hR => elem_fact h hR) _hw hm
  have := one_slice u_facts _hok rfl hc
  subst this
  exact ⟨l, h1, h2, h4⟩
theorem facts_rs {w : World} {v : Value} {l : List Nam.FV} (h : rdX w v l.length (l.flatMap Nam.faE)) : ∀ H, Rs w H v Nam.faE l := fun H => by
  have : BaseS w v Nam.faE l := ⟨h⟩
  infer_instance
end Go.Proofs.YtjafpncngmbcdaaGreat.Row
end
