/-
  Script: Print, Told.
-/
import Derived.Test.YtogallbjmgoagaaDoorScrI
set_option linter.unusedSimpArgs false
set_option linter.unusedVariables false
set_option linter.unusedSectionVars false
namespace Go.Proofs.YtogallbjmgoagaaDoor.Scr
open Go Go.SL Go.Proofs Go.Proofs.YtogallbjmgoagaaDoor.Sh
variable {B : World} {H : List Asrt} {K : Value → WT} {W : WT}
/-- An operation's line, if it has one. -/
def printP (o : OpV) : Option (List UInt8) := if 1 ≤ o.d ∧ o.d ≤ 21 then (if parseL (lineT o) = some o then some (lineT o) else none) else none
theorem argL_len (o : OpV) : (argL o).length ≤ 4 := by
  unfold argL
  simp only
  repeat' (first | (simp; done) | split)
theorem textT_len (b : List UInt8) : (textT b).length ≤ 2 * b.length + 1 := by
  unfold textT
  split
  · simp; omega
  · simp [hexT_len]
theorem tornT_len {t : Int} (h : t ≤ 9223372036854775807) : (tornT t).length ≤ 19 := by
  unfold tornT
  split
  · simp
  · exact numI_len h
theorem argL_each {o : OpV} (hf : Fit o) : ∀ w ∈ argL o, w.length ≤ 7000 := by
  obtain ⟨f1, f2, f3, f4, f5, f6, f7, f8, f9, f10, f11, f12, f13, f14⟩ := hf
  have g1 := numI_len f1
  have g2 := numI_len f2
  have g3 := numI_len f3
  have g4 := numI_len f4
  have g5 := numI_len f5
  have g6 := numI_len f6
  have g7 := numI_len f7
  have g8 := numI_len f8
  have g9 := tornT_len f9
  have g10 := numI_len f10
  have g11 := textT_len o.bytes
  have g12 : (keepT o.keep).length = o.keep.length + 1 := by unfold keepT; simp
  unfold argL
  simp only
  intro w hw
  repeat' split at hw
  all_goals simp only [List.mem_cons, List.not_mem_nil, or_false] at hw
  all_goals (try (rcases hw with rfl | rfl | rfl | rfl <;> omega))
  all_goals (try (rcases hw with rfl | rfl | rfl <;> omega))
  all_goals (try (rcases hw with rfl | rfl <;> omega))
  all_goals (try (subst hw; omega))
  all_goals (try exact hw.elim)
theorem joinB_len {M : Nat} : ∀ l : List (List UInt8), (∀ w ∈ l, w.length ≤ M) → (joinB l).length ≤ l.length * (M + 1)
  | [], _ => by simp [joinB]
  | [w], h => by have := h w (by simp); simp [joinB]; omega
  | w :: u :: l, h => by
    have ih := joinB_len (u :: l) fun x hx => h x (List.mem_cons_of_mem _ hx)
    have := h w (by simp)
    show (w ++ 32 :: joinB (u :: l)).length ≤ _
    rw [List.length_append, List.length_cons, List.length_cons, Nat.succ_mul]; omega
theorem verbL_len : ∀ w ∈ verbL, w.length ≤ 7000 := by decide
theorem verb_len (k : Nat) : (verbL.getD k []).length ≤ 7000 := by
  rw [List.getD_eq_getElem?_getD]
  cases h : verbL[k]? with
  | none => simp
  | some w => exact verbL_len w (List.mem_of_getElem? h)
theorem lineT_len {o : OpV} (hf : Fit o) : (lineT o).length ≤ 40000 := by
  have h1 := joinB_len (M := 7000) (verbL.getD (o.d.toNat - 1) [] :: argL o) (fun w hw => by
    rcases List.mem_cons.1 hw with rfl | hw
    · exact verb_len _
    · exact argL_each hf w hw)
  have := argL_len o
  unfold lineT
  rw [List.length_cons] at h1
  have h2 : ((argL o).length + 1) * (7000 + 1) ≤ 5 * 7001 := Nat.mul_le_mul_right _ (by omega)
  omega
theorem unhex_len : ∀ {s b : List UInt8}, unhex s = some b → b.length ≤ s.length
  | [], b, h => by cases h; simp
  | [_], b, h => by cases h
  | a :: c :: t, b, h => by
    have e : unhex (a :: c :: t) = (match hexV a, hexV c, unhex t with | some x, some y, some r => some (UInt8.ofNat (16 * x + y) :: r) | _, _, _ => none) := rfl
    rw [e] at h
    cases h1 : hexV a with
    | none => simp [h1] at h
    | some x =>
      cases h2 : hexV c with
      | none => simp [h1, h2] at h
      | some y =>
        cases h3 : unhex t with
        | none => simp [h1, h2, h3] at h
        | some r =>
          have ih := unhex_len h3
          simp [h1, h2, h3] at h
          subst h
          simp; omega
theorem bytesW_len {s b : List UInt8} (h : bytesW s = some b) : b.length ≤ s.length := by
  cases s with
  | nil => cases h
  | cons c t =>
    unfold bytesW at h
    simp only at h
    repeat' split at h
    · cases h; simp
    · cases h
    · have := unhex_len h; simp; omega
    · cases h
theorem keepW_len {s : List UInt8} {l : List Bool} (h : keepW s = some l) : l.length ≤ s.length := by
  cases s with
  | nil => cases h
  | cons c t =>
    unfold keepW at h
    simp only at h
    split at h
    · cases h; simp
    · cases h
theorem wordP_len {st st' : St} {w : List UInt8} (h : wordP st = some (w, st')) : w.length ≤ st.1.length ∧ st'.1.length ≤ st.1.length := by
  unfold wordP at h
  split at h
  · simp only [Option.some.injEq, Prod.mk.injEq] at h
    obtain ⟨rfl, rfl⟩ := h
    exact cut_len _
  · cases h
theorem numP_len {st st' : St} {n : Nat} (h : numP st = some (n, st')) : st'.1.length ≤ st.1.length := by
  unfold numP at h
  split at h
  · rename_i hw
    split at h
    · simp only [Option.some.injEq, Prod.mk.injEq] at h
      obtain ⟨rfl, rfl⟩ := h
      exact (wordP_len hw).2
    · cases h
  · cases h
theorem nameP_len {st st' : St} {n : List UInt8} (h : nameP st = some (n, st')) : n.length ≤ st.1.length ∧ st'.1.length ≤ st.1.length := by
  unfold nameP at h
  split at h
  · rename_i hw
    split at h
    · simp only [Option.some.injEq, Prod.mk.injEq] at h
      obtain ⟨rfl, rfl⟩ := h
      exact wordP_len hw
    · cases h
  · cases h
theorem bytesP_len {st st' : St} {n : List UInt8} (h : bytesP st = some (n, st')) : n.length ≤ st.1.length := by
  unfold bytesP at h
  split at h
  · split at h
    · rename_i hb
      simp only [Option.some.injEq, Prod.mk.injEq] at h
      rw [← h.1]; exact bytesW_len hb
    · cases h
  · cases h
theorem crashP_len {st st' : St} {x : List Bool × Int × Nat} (h : crashP st = some (x, st')) : x.1.length ≤ st.1.length := by
  unfold crashP at h
  split at h
  · rename_i hw
    split at h
    · rename_i hk
      split at h
      · split at h
        · split at h
          · simp only [Option.some.injEq, Prod.mk.injEq] at h
            rw [← h.1]
            have := keepW_len hk
            have := (wordP_len hw).1
            simp only; omega
          · cases h
        · cases h
      · cases h
    · cases h
  · cases h
/-- What is parsed is small. -/
structure Small (o : OpV) (m : Nat) : Prop where
  d : 1 ≤ o.d ∧ o.d ≤ 21
  n : o.n ≤ 9007199254740991
  gen : o.gen ≤ 9007199254740991
  from_ : o.from_ ≤ 9007199254740991
  size : o.size ≤ 9007199254740991
  last : o.last ≤ 9007199254740991
  young : o.young ≤ 9007199254740991
  step : o.step ≤ 9007199254740991
  count : o.count ≤ 9007199254740991
  torn : o.torn ≤ 9007199254740991
  at_ : o.at_ ≤ 9007199254740991
  bytes : o.bytes.length ≤ m
  keep : o.keep.length ≤ m
  name : o.name.length ≤ m
  shot : o.shot.length ≤ m
theorem parse_fit {s : List UInt8} {o : OpV} (h : parseL s = some o) : Small o s.length := by
  unfold parseL opP at h
  rw [show wordP (s, true) = some ((cutW s).1, (cutW s).2) from rfl] at h
  have hsl := (cut_len s).2
  simp only [Option.bind_some] at h
  generalize (cutW s).1 = w at h
  generalize (cutW s).2 = st at h hsl
  have hle := verbW_le w
  generalize verbW w = d at hle h
  have key : ∀ d, d ≤ 21 → d = 0 ∨ d = 1 ∨ d = 2 ∨ d = 3 ∨ d = 4 ∨ d = 5 ∨ d = 6 ∨ d = 7 ∨ d = 8 ∨ d = 9 ∨ d = 10 ∨ d = 11 ∨ d = 12 ∨ d = 13 ∨ d = 14 ∨ d = 15 ∨ d = 16 ∨ d = 17 ∨ d = 18 ∨ d = 19 ∨ d = 20 ∨ d = 21 := by omega
  rcases key d hle with rfl | rfl | rfl | rfl | rfl | rfl | rfl | rfl | rfl | rfl | rfl | rfl | rfl | rfl | rfl | rfl | rfl | rfl | rfl | rfl | rfl | rfl
  · cases h
  · rw [show argsP 1 st = ((nameP st).map fun p0 => ({ op0 with d := (1 : Nat), name := p0.1 }, p0.2)) from rfl] at h
    simp only [Option.bind_eq_some_iff, Option.map_eq_some_iff] at h
    obtain ⟨_, ⟨⟨x0, s0⟩, h0, rfl⟩, he⟩ := h
    split at he
    · cases he
    · simp only [Option.some.injEq] at he
      subst he
      have g0 := nameP_len h0
      try simp only at *
      constructor <;> simp only [op0, List.length_nil] <;> omega
  · rw [show argsP 2 st = ((numP st).bind fun p0 => (bytesP p0.2).map fun p1 => ({ op0 with d := (2 : Nat), n := p0.1, bytes := p1.1 }, p1.2)) from rfl] at h
    simp only [Option.bind_eq_some_iff, Option.map_eq_some_iff] at h
    obtain ⟨_, ⟨⟨x0, s0⟩, h0, ⟨⟨x1, s1⟩, h1, rfl⟩⟩, he⟩ := h
    split at he
    · cases he
    · simp only [Option.some.injEq] at he
      subst he
      have g0 := numP_inv h0
      have k0 := numP_len h0
      have g1 := bytesP_len h1
      try simp only at *
      constructor <;> simp only [op0, List.length_nil] <;> omega
  · rw [show argsP 3 st = ((numP st).map fun p0 => ({ op0 with d := (3 : Nat), n := p0.1 }, p0.2)) from rfl] at h
    simp only [Option.bind_eq_some_iff, Option.map_eq_some_iff] at h
    obtain ⟨_, ⟨⟨x0, s0⟩, h0, rfl⟩, he⟩ := h
    split at he
    · cases he
    · simp only [Option.some.injEq] at he
      subst he
      have g0 := numP_inv h0
      have k0 := numP_len h0
      try simp only at *
      constructor <;> simp only [op0, List.length_nil] <;> omega
  · rw [show argsP 4 st = ((numP st).map fun p0 => ({ op0 with d := (4 : Nat), n := p0.1 }, p0.2)) from rfl] at h
    simp only [Option.bind_eq_some_iff, Option.map_eq_some_iff] at h
    obtain ⟨_, ⟨⟨x0, s0⟩, h0, rfl⟩, he⟩ := h
    split at he
    · cases he
    · simp only [Option.some.injEq] at he
      subst he
      have g0 := numP_inv h0
      have k0 := numP_len h0
      try simp only at *
      constructor <;> simp only [op0, List.length_nil] <;> omega
  · rw [show argsP 5 st = ((nameP st).bind fun p0 => (numP p0.2).map fun p1 => ({ op0 with d := (5 : Nat), name := p0.1, gen := p1.1 }, p1.2)) from rfl] at h
    simp only [Option.bind_eq_some_iff, Option.map_eq_some_iff] at h
    obtain ⟨_, ⟨⟨x0, s0⟩, h0, ⟨⟨x1, s1⟩, h1, rfl⟩⟩, he⟩ := h
    split at he
    · cases he
    · simp only [Option.some.injEq] at he
      subst he
      have g0 := nameP_len h0
      have g1 := numP_inv h1
      have k1 := numP_len h1
      try simp only at *
      constructor <;> simp only [op0, List.length_nil] <;> omega
  · rw [show argsP 6 st = ((nameP st).bind fun p0 => (numP p0.2).bind fun p1 => (numP p1.2).bind fun p2 => (numP p2.2).map fun p3 => ({ op0 with d := (6 : Nat), name := p0.1, gen := p1.1, from_ := p2.1, size := p3.1 }, p3.2)) from rfl] at h
    simp only [Option.bind_eq_some_iff, Option.map_eq_some_iff] at h
    obtain ⟨_, ⟨⟨x0, s0⟩, h0, ⟨⟨x1, s1⟩, h1, ⟨⟨x2, s2⟩, h2, ⟨⟨x3, s3⟩, h3, rfl⟩⟩⟩⟩, he⟩ := h
    split at he
    · cases he
    · simp only [Option.some.injEq] at he
      subst he
      have g0 := nameP_len h0
      have g1 := numP_inv h1
      have k1 := numP_len h1
      have g2 := numP_inv h2
      have k2 := numP_len h2
      have g3 := numP_inv h3
      have k3 := numP_len h3
      try simp only at *
      constructor <;> simp only [op0, List.length_nil] <;> omega
  · rw [show argsP 7 st = ((nameP st).bind fun p0 => (nameP p0.2).map fun p1 => ({ op0 with d := (7 : Nat), shot := p0.1, name := p1.1 }, p1.2)) from rfl] at h
    simp only [Option.bind_eq_some_iff, Option.map_eq_some_iff] at h
    obtain ⟨_, ⟨⟨x0, s0⟩, h0, ⟨⟨x1, s1⟩, h1, rfl⟩⟩, he⟩ := h
    split at he
    · cases he
    · simp only [Option.some.injEq] at he
      subst he
      have g0 := nameP_len h0
      have g1 := nameP_len h1
      try simp only at *
      constructor <;> simp only [op0, List.length_nil] <;> omega
  · rw [show argsP 8 st = ((nameP st).bind fun p0 => (numP p0.2).map fun p1 => ({ op0 with d := (8 : Nat), name := p0.1, gen := p1.1 }, p1.2)) from rfl] at h
    simp only [Option.bind_eq_some_iff, Option.map_eq_some_iff] at h
    obtain ⟨_, ⟨⟨x0, s0⟩, h0, ⟨⟨x1, s1⟩, h1, rfl⟩⟩, he⟩ := h
    split at he
    · cases he
    · simp only [Option.some.injEq] at he
      subst he
      have g0 := nameP_len h0
      have g1 := numP_inv h1
      have k1 := numP_len h1
      try simp only at *
      constructor <;> simp only [op0, List.length_nil] <;> omega
  · rw [show argsP 9 st = some ({ op0 with d := (9 : Nat) }, st) from rfl] at h
    simp only [Option.bind_some] at h
    split at h
    · cases h
    · simp only [Option.some.injEq] at h
      subst h
      constructor <;> simp only [op0, List.length_nil] <;> omega
  · rw [show argsP 10 st = ((nameP st).bind fun p0 => (numP p0.2).map fun p1 => ({ op0 with d := (10 : Nat), name := p0.1, gen := p1.1 }, p1.2)) from rfl] at h
    simp only [Option.bind_eq_some_iff, Option.map_eq_some_iff] at h
    obtain ⟨_, ⟨⟨x0, s0⟩, h0, ⟨⟨x1, s1⟩, h1, rfl⟩⟩, he⟩ := h
    split at he
    · cases he
    · simp only [Option.some.injEq] at he
      subst he
      have g0 := nameP_len h0
      have g1 := numP_inv h1
      have k1 := numP_len h1
      try simp only at *
      constructor <;> simp only [op0, List.length_nil] <;> omega
  · rw [show argsP 11 st = ((nameP st).map fun p0 => ({ op0 with d := (11 : Nat), shot := p0.1 }, p0.2)) from rfl] at h
    simp only [Option.bind_eq_some_iff, Option.map_eq_some_iff] at h
    obtain ⟨_, ⟨⟨x0, s0⟩, h0, rfl⟩, he⟩ := h
    split at he
    · cases he
    · simp only [Option.some.injEq] at he
      subst he
      have g0 := nameP_len h0
      try simp only at *
      constructor <;> simp only [op0, List.length_nil] <;> omega
  · rw [show argsP 12 st = ((nameP st).map fun p0 => ({ op0 with d := (12 : Nat), shot := p0.1 }, p0.2)) from rfl] at h
    simp only [Option.bind_eq_some_iff, Option.map_eq_some_iff] at h
    obtain ⟨_, ⟨⟨x0, s0⟩, h0, rfl⟩, he⟩ := h
    split at he
    · cases he
    · simp only [Option.some.injEq] at he
      subst he
      have g0 := nameP_len h0
      try simp only at *
      constructor <;> simp only [op0, List.length_nil] <;> omega
  · rw [show argsP 13 st = ((numP st).map fun p0 => ({ op0 with d := (13 : Nat), n := p0.1 }, p0.2)) from rfl] at h
    simp only [Option.bind_eq_some_iff, Option.map_eq_some_iff] at h
    obtain ⟨_, ⟨⟨x0, s0⟩, h0, rfl⟩, he⟩ := h
    split at he
    · cases he
    · simp only [Option.some.injEq] at he
      subst he
      have g0 := numP_inv h0
      have k0 := numP_len h0
      try simp only at *
      constructor <;> simp only [op0, List.length_nil] <;> omega
  · rw [show argsP 14 st = ((numP st).bind fun p0 => (numP p0.2).bind fun p1 => (numP p1.2).bind fun p2 => (numP p2.2).map fun p3 => ({ op0 with d := (14 : Nat), last := p0.1, young := p1.1, step := p2.1, count := p3.1 }, p3.2)) from rfl] at h
    simp only [Option.bind_eq_some_iff, Option.map_eq_some_iff] at h
    obtain ⟨_, ⟨⟨x0, s0⟩, h0, ⟨⟨x1, s1⟩, h1, ⟨⟨x2, s2⟩, h2, ⟨⟨x3, s3⟩, h3, rfl⟩⟩⟩⟩, he⟩ := h
    split at he
    · cases he
    · simp only [Option.some.injEq] at he
      subst he
      have g0 := numP_inv h0
      have k0 := numP_len h0
      have g1 := numP_inv h1
      have k1 := numP_len h1
      have g2 := numP_inv h2
      have k2 := numP_len h2
      have g3 := numP_inv h3
      have k3 := numP_len h3
      try simp only at *
      constructor <;> simp only [op0, List.length_nil] <;> omega
  · rw [show argsP 15 st = ((numP st).map fun p0 => ({ op0 with d := (15 : Nat), n := p0.1 }, p0.2)) from rfl] at h
    simp only [Option.bind_eq_some_iff, Option.map_eq_some_iff] at h
    obtain ⟨_, ⟨⟨x0, s0⟩, h0, rfl⟩, he⟩ := h
    split at he
    · cases he
    · simp only [Option.some.injEq] at he
      subst he
      have g0 := numP_inv h0
      have k0 := numP_len h0
      try simp only at *
      constructor <;> simp only [op0, List.length_nil] <;> omega
  · rw [show argsP 16 st = some ({ op0 with d := (16 : Nat) }, st) from rfl] at h
    simp only [Option.bind_some] at h
    split at h
    · cases h
    · simp only [Option.some.injEq] at h
      subst h
      constructor <;> simp only [op0, List.length_nil] <;> omega
  · rw [show argsP 17 st = some ({ op0 with d := (17 : Nat) }, st) from rfl] at h
    simp only [Option.bind_some] at h
    split at h
    · cases h
    · simp only [Option.some.injEq] at h
      subst h
      constructor <;> simp only [op0, List.length_nil] <;> omega
  · rw [show argsP 18 st = ((numP st).map fun p0 => ({ op0 with d := (18 : Nat), n := p0.1 }, p0.2)) from rfl] at h
    simp only [Option.bind_eq_some_iff, Option.map_eq_some_iff] at h
    obtain ⟨_, ⟨⟨x0, s0⟩, h0, rfl⟩, he⟩ := h
    split at he
    · cases he
    · simp only [Option.some.injEq] at he
      subst he
      have g0 := numP_inv h0
      have k0 := numP_len h0
      try simp only at *
      constructor <;> simp only [op0, List.length_nil] <;> omega
  · rw [show argsP 19 st = ((crashP st).map fun p => ({ op0 with d := (19 : Nat), keep := p.1.1, torn := p.1.2.1, at_ := p.1.2.2 }, p.2)) from rfl] at h
    simp only [Option.bind_eq_some_iff, Option.map_eq_some_iff] at h
    obtain ⟨_, ⟨⟨x, s0⟩, h0, rfl⟩, he⟩ := h
    split at he
    · cases he
    · simp only [Option.some.injEq] at he
      subst he
      have g0 := crashP_inv h0
      have g1 := crashP_len h0
      constructor <;> simp only [op0, List.length_nil] <;> omega
  · rw [show argsP 20 st = some ({ op0 with d := (20 : Nat) }, st) from rfl] at h
    simp only [Option.bind_some] at h
    split at h
    · cases h
    · simp only [Option.some.injEq] at h
      subst h
      constructor <;> simp only [op0, List.length_nil] <;> omega
  · rw [show argsP 21 st = ((numP st).bind fun p0 => (bytesP p0.2).map fun p1 => ({ op0 with d := (21 : Nat), n := p0.1, bytes := p1.1 }, p1.2)) from rfl] at h
    simp only [Option.bind_eq_some_iff, Option.map_eq_some_iff] at h
    obtain ⟨_, ⟨⟨x0, s0⟩, h0, ⟨⟨x1, s1⟩, h1, rfl⟩⟩, he⟩ := h
    split at he
    · cases he
    · simp only [Option.some.injEq] at he
      subst he
      have g0 := numP_inv h0
      have k0 := numP_len h0
      have g1 := bytesP_len h1
      try simp only at *
      constructor <;> simp only [op0, List.length_nil] <;> omega
theorem Small.fit {o : OpV} {m : Nat} (h : Small o m) (hm : m ≤ 3000) : Fit o := by
  obtain ⟨h0, h1, h2, h3, h4, h5, h6, h7, h8, h9, h10, h11, h12, h13, h14⟩ := h
  constructor <;> omega
theorem E_drops {W : WT} {G : List Asrt} (h : Same G H) (hw : E B G W) : E B H W := E_same h hw
attribute [local irreducible] S.pick S.ld S.ldN S.st S.box S.nc S.fad S.ixS S.ixA S.chr S.prt S.ext S.bin S.sh S.sbin S.beq S.neg1 S.com1 S.not1 S.cvt S.str1 S.lenS S.len S.cap S.lenM S.mx S.mn S.mkM S.cond S.gd S.fa S.dr S.rck S.join S.loop S.cvv S.eqv S.slc S.slcS S.b2s S.lk V U CF Gives E cel mpb osl ros dct dit itr lpo dfo
attribute [local irreducible] sls
set_option maxRecDepth 8000
theorem print [Amb] [TabB B] {o : OpV} {v u : Value} [CellI v] [CellI u] [Rb B H v o.bytes] [Rs B H u cL o.keep] (hfit : Fit o)
    (h1 : ∀ l, printP o = some l → E B H (K (.tuple #[str l, I 0]))) (h2 : printP o = none → E B H (K (.tuple #[str [], I 4]))) : E B H (CF Tryd.prog 11 [.agg (opC o v u).toArray] K) := by
  refine E_mono (W := s11 _ K) ?_ fun _ => c11
  unfold s11
  refine E_box (vs := opC o v u) fun b1 => ?_
  have hb := hfit.bytes
  have hkp := hfit.keep
  refine E_join1 [.pointer (some ⟨b1, 0, none⟩), .bool (decide (¬ (1 ≤ o.d ∧ o.d ≤ 21)))] (cel true b1 30 (opC o v u) :: H) (fun q hq => ?_) ?_
  · have hfin : ∀ b : Bool, decide (¬ (1 ≤ o.d ∧ o.d ≤ 21)) = b → E B (cel true b1 30 (opC o v u) :: H) (app 2 q [.pointer (some ⟨b1, 0, none⟩), .bool b]) := fun b h => h ▸ hq
    (repeat (first | refine goS ?_ | refine E_box fun _ => ?_ | refine E_fa fun _ => ?_ | refine E_ptfad0 fun _ _ => ?_ | refine E_ptfad fun _ _ => ?_ | refine E_rsix (by assumption) fun _ _ => ?_ | refine E_ifT (by first | assumption | decide) ?_ | refine E_ifF (by first | assumption | decide) ?_ | refine E_gdT (by first | assumption | decide) ?_ | refine E_gdF (by first | assumption | decide) ?_ | refine E_gdnT (by first | assumption | decide) ?_ | refine E_gdnF (by first | assumption | decide) ?_ | refine E_pickT (by first | assumption | decide) ?_ | refine E_pickF (by first | assumption | decide) ?_ | refine E_ixN (by omega) ?_ | refine E_ld' (by assumption) ?_ | refine E_addI (by omega) (by omega) ?_ | refine E_subI (by omega) (by omega) ?_ | refine E_mulI (by omega) (by omega) ?_))
    by_cases g : o.d < 1
    · (repeat (first | refine goS ?_ | refine E_box fun _ => ?_ | refine E_fa fun _ => ?_ | refine E_ptfad0 fun _ _ => ?_ | refine E_ptfad fun _ _ => ?_ | refine E_rsix (by assumption) fun _ _ => ?_ | refine E_ifT (by first | assumption | decide) ?_ | refine E_ifF (by first | assumption | decide) ?_ | refine E_gdT (by first | assumption | decide) ?_ | refine E_gdF (by first | assumption | decide) ?_ | refine E_gdnT (by first | assumption | decide) ?_ | refine E_gdnF (by first | assumption | decide) ?_ | refine E_pickT (by first | assumption | decide) ?_ | refine E_pickF (by first | assumption | decide) ?_ | refine E_ixN (by omega) ?_ | refine E_ld' (by assumption) ?_ | refine E_addI (by omega) (by omega) ?_ | refine E_subI (by omega) (by omega) ?_ | refine E_mulI (by omega) (by omega) ?_))
      exact hfin _ (decide_eq_true (by omega))
    · (repeat (first | refine goS ?_ | refine E_box fun _ => ?_ | refine E_fa fun _ => ?_ | refine E_ptfad0 fun _ _ => ?_ | refine E_ptfad fun _ _ => ?_ | refine E_rsix (by assumption) fun _ _ => ?_ | refine E_ifT (by first | assumption | decide) ?_ | refine E_ifF (by first | assumption | decide) ?_ | refine E_gdT (by first | assumption | decide) ?_ | refine E_gdF (by first | assumption | decide) ?_ | refine E_gdnT (by first | assumption | decide) ?_ | refine E_gdnF (by first | assumption | decide) ?_ | refine E_pickT (by first | assumption | decide) ?_ | refine E_pickF (by first | assumption | decide) ?_ | refine E_ixN (by omega) ?_ | refine E_ld' (by assumption) ?_ | refine E_addI (by omega) (by omega) ?_ | refine E_subI (by omega) (by omega) ?_ | refine E_mulI (by omega) (by omega) ?_))
      exact hfin _ (by rw [decide_eq_decide]; omega)
  refine E_fa fun _ => ?_
  refine E_if (fun hd => ?_) (fun hd => ?_)
  · exact E_drop (h2 (by unfold printP; rw [if_neg hd]))
  have hd : 1 ≤ o.d ∧ o.d ≤ 21 := Decidable.not_not.1 hd
  refine E_dr ?_
  (repeat (first | refine goS ?_ | refine E_box fun _ => ?_ | refine E_fa fun _ => ?_ | refine E_ptfad0 fun _ _ => ?_ | refine E_ptfad fun _ _ => ?_ | refine E_rsix (by assumption) fun _ _ => ?_ | refine E_ifT (by first | assumption | decide) ?_ | refine E_ifF (by first | assumption | decide) ?_ | refine E_gdT (by first | assumption | decide) ?_ | refine E_gdF (by first | assumption | decide) ?_ | refine E_gdnT (by first | assumption | decide) ?_ | refine E_gdnF (by first | assumption | decide) ?_ | refine E_pickT (by first | assumption | decide) ?_ | refine E_pickF (by first | assumption | decide) ?_ | refine E_ixN (by omega) ?_ | refine E_ld' (by assumption) ?_ | refine E_addI (by omega) (by omega) ?_ | refine E_subI (by omega) (by omega) ?_ | refine E_mulI (by omega) (by omega) ?_))
  obtain ⟨k, hk⟩ : ∃ k : Nat, o.d - 1 = k := ⟨(o.d - 1).toNat, by omega⟩
  rw [hk]
  have hjoin : joinB ([verbL.getD k []] ++ argL o) = lineT o := by unfold lineT; rw [show o.d.toNat - 1 = k by omega]; rfl
  have hll := lineT_len hfit
  refine verbs fun v15 _ => ?_
  (repeat (refine E_rck1 (by first | exact E_ld (E_fact rfl) | exact E_ld' (by assumption) (E_fact rfl) | exact E_b2sR (E_fact rfl) | exact E_gdnF (by assumption) (E_ld (E_fact rfl)) | exact E_gdT (by assumption) (E_ld (E_fact rfl)) | exact E_gtf (E_ld (E_fact rfl)) | exact E_gft (E_ld (E_fact rfl)) | exact E_ldNA (E_fact rfl) | exact E_ptld (E_fact rfl) | exact E_gtf (E_ldNA (E_fact rfl))) ?_)); (first | (refine E_rck0 ?_) | skip)
  have hgk : verbL[k]? = some (verbL.getD k []) := by
    have hl : k < verbL.length := by have : verbL.length = 21 := rfl; omega
    rw [List.getD_eq_getElem?_getD, List.getElem?_eq_getElem hl]; rfl
  refine E_rsix (v := v15) hgk fun p19 _ => ?_
  refine E_ptld ?_
  refine E_both ?_ ?_
  · refine E_bsl (l0 := [str []]) [(0, 1)] u_strs elt_string (by simp) (by decide) rfl fun b2 => ?_
    refine E_slsC (enc := cS) [verbL.getD k []] 1 rfl rfl ?_
    (repeat (refine E_rck1 (by first | exact E_ld (E_fact rfl) | exact E_ld' (by assumption) (E_fact rfl) | exact E_b2sR (E_fact rfl) | exact E_gdnF (by assumption) (E_ld (E_fact rfl)) | exact E_gdT (by assumption) (E_ld (E_fact rfl)) | exact E_gtf (E_ld (E_fact rfl)) | exact E_gft (E_ld (E_fact rfl)) | exact E_ldNA (E_fact rfl) | exact E_ptld (E_fact rfl) | exact E_gtf (E_ldNA (E_fact rfl))) ?_)); (first | (refine E_rck0 ?_) | skip)
    refine wordsOf (v := v) (u := u) hd hfit fun v23 => ?_
    refine E_use (sls cS 9 1 (.slice (some ⟨b2, 0, none⟩) 1 1)) (E_sapps (m := argL o) u_strs elt_string (by have := argL_len o; simp; omega) (by have := argL_len o; simp; omega) fun v24 _ => ?_)
    refine joinS (v := v24) (l := [verbL.getD k []] ++ argL o) (by simp) (by have := argL_len o; simp; omega) (by rw [hjoin]; omega) ?_
    rw [hjoin]
    refine parse (by omega) (fun p hp v3 u3 _ _ => ?_) fun hn => ?_
    · (repeat (first | refine goS ?_ | refine E_box fun _ => ?_ | refine E_fa fun _ => ?_ | refine E_ptfad0 fun _ _ => ?_ | refine E_ptfad fun _ _ => ?_ | refine E_rsix (by assumption) fun _ _ => ?_ | refine E_ifT (by first | assumption | decide) ?_ | refine E_ifF (by first | assumption | decide) ?_ | refine E_gdT (by first | assumption | decide) ?_ | refine E_gdF (by first | assumption | decide) ?_ | refine E_gdnT (by first | assumption | decide) ?_ | refine E_gdnF (by first | assumption | decide) ?_ | refine E_pickT (by first | assumption | decide) ?_ | refine E_pickF (by first | assumption | decide) ?_ | refine E_ixN (by omega) ?_ | refine E_ld' (by assumption) ?_ | refine E_addI (by omega) (by omega) ?_ | refine E_subI (by omega) (by omega) ?_ | refine E_mulI (by omega) (by omega) ?_))
      refine E_stW rfl rfl ?_
      refine E_join1 [str (lineT o), .bool (decide (p ≠ o))] H (fun q hq => ?_) ?_
      · (repeat (first | refine goS ?_ | refine E_box fun _ => ?_ | refine E_fa fun _ => ?_ | refine E_ptfad0 fun _ _ => ?_ | refine E_ptfad fun _ _ => ?_ | refine E_rsix (by assumption) fun _ _ => ?_ | refine E_ifT (by first | assumption | decide) ?_ | refine E_ifF (by first | assumption | decide) ?_ | refine E_gdT (by first | assumption | decide) ?_ | refine E_gdF (by first | assumption | decide) ?_ | refine E_gdnT (by first | assumption | decide) ?_ | refine E_gdnF (by first | assumption | decide) ?_ | refine E_pickT (by first | assumption | decide) ?_ | refine E_pickF (by first | assumption | decide) ?_ | refine E_ixN (by omega) ?_ | refine E_ld' (by assumption) ?_ | refine E_addI (by omega) (by omega) ?_ | refine E_subI (by omega) (by omega) ?_ | refine E_mulI (by omega) (by omega) ?_))
        refine same (o := p) (p := o) (v1 := v3) (u1 := u3) (v2 := v) (u2 := u) (by have := (parse_fit hp).bytes; omega) (by have := (parse_fit hp).keep; omega) ?_
        (repeat (first | refine goS ?_ | refine E_box fun _ => ?_ | refine E_fa fun _ => ?_ | refine E_ptfad0 fun _ _ => ?_ | refine E_ptfad fun _ _ => ?_ | refine E_rsix (by assumption) fun _ _ => ?_ | refine E_ifT (by first | assumption | decide) ?_ | refine E_ifF (by first | assumption | decide) ?_ | refine E_gdT (by first | assumption | decide) ?_ | refine E_gdF (by first | assumption | decide) ?_ | refine E_gdnT (by first | assumption | decide) ?_ | refine E_gdnF (by first | assumption | decide) ?_ | refine E_pickT (by first | assumption | decide) ?_ | refine E_pickF (by first | assumption | decide) ?_ | refine E_ixN (by omega) ?_ | refine E_ld' (by assumption) ?_ | refine E_addI (by omega) (by omega) ?_ | refine E_subI (by omega) (by omega) ?_ | refine E_mulI (by omega) (by omega) ?_))
        exact E_same (by repeat (first | exact Same.refl | (refine Same.cons (by repeat (first | exact Find.here | apply Find.there)) ?_) | (refine Same.drop ?_))) hq
      refine E_fa fun _ => ?_
      refine E_if (fun hne => ?_) (fun he => ?_)
      · exact h2 (by unfold printP; rw [if_pos hd, if_neg (fun e => hne (by rw [hp] at e; exact Option.some.inj e))])
      · refine h1 _ (by unfold printP; rw [if_pos hd, if_pos (by rw [hp, Decidable.not_not.1 he])])
    · (repeat (first | refine goS ?_ | refine E_box fun _ => ?_ | refine E_fa fun _ => ?_ | refine E_ptfad0 fun _ _ => ?_ | refine E_ptfad fun _ _ => ?_ | refine E_rsix (by assumption) fun _ _ => ?_ | refine E_ifT (by first | assumption | decide) ?_ | refine E_ifF (by first | assumption | decide) ?_ | refine E_gdT (by first | assumption | decide) ?_ | refine E_gdF (by first | assumption | decide) ?_ | refine E_gdnT (by first | assumption | decide) ?_ | refine E_gdnF (by first | assumption | decide) ?_ | refine E_pickT (by first | assumption | decide) ?_ | refine E_pickF (by first | assumption | decide) ?_ | refine E_ixN (by omega) ?_ | refine E_ld' (by assumption) ?_ | refine E_addI (by omega) (by omega) ?_ | refine E_subI (by omega) (by omega) ?_ | refine E_mulI (by omega) (by omega) ?_))
      refine E_stW rfl rfl ?_
      refine E_join0 ?_
      (repeat (first | refine goS ?_ | refine E_box fun _ => ?_ | refine E_fa fun _ => ?_ | refine E_ptfad0 fun _ _ => ?_ | refine E_ptfad fun _ _ => ?_ | refine E_rsix (by assumption) fun _ _ => ?_ | refine E_ifT (by first | assumption | decide) ?_ | refine E_ifF (by first | assumption | decide) ?_ | refine E_gdT (by first | assumption | decide) ?_ | refine E_gdF (by first | assumption | decide) ?_ | refine E_gdnT (by first | assumption | decide) ?_ | refine E_gdnF (by first | assumption | decide) ?_ | refine E_pickT (by first | assumption | decide) ?_ | refine E_pickF (by first | assumption | decide) ?_ | refine E_ixN (by omega) ?_ | refine E_ld' (by assumption) ?_ | refine E_addI (by omega) (by omega) ?_ | refine E_subI (by omega) (by omega) ?_ | refine E_mulI (by omega) (by omega) ?_))
      refine E_drops (by repeat (first | exact Same.refl | (refine Same.cons (by repeat (first | exact Find.here | apply Find.there)) ?_) | (refine Same.drop ?_))) (h2 (by unfold printP; rw [if_pos hd, if_neg (fun e => by rw [hn] at e; cases e)]))
  · refine wordsOf (v := v) (u := u) hd hfit fun v23 => ?_
    (repeat (refine E_rck1 (by first | exact E_ld (E_fact rfl) | exact E_ld' (by assumption) (E_fact rfl) | exact E_b2sR (E_fact rfl) | exact E_gdnF (by assumption) (E_ld (E_fact rfl)) | exact E_gdT (by assumption) (E_ld (E_fact rfl)) | exact E_gtf (E_ld (E_fact rfl)) | exact E_gft (E_ld (E_fact rfl)) | exact E_ldNA (E_fact rfl) | exact E_ptld (E_fact rfl) | exact E_gtf (E_ldNA (E_fact rfl))) ?_)); (first | (refine E_rck0 ?_) | skip)
    refine E_bsl (l0 := [str []]) [(0, 1)] u_strs elt_string (by simp) (by decide) rfl fun b2 => ?_
    refine E_slsC (enc := cS) [verbL.getD k []] 1 rfl rfl ?_
    refine E_use (sls cS 9 1 (.slice (some ⟨b2, 0, none⟩) 1 1)) (E_sapps (m := argL o) u_strs elt_string (by have := argL_len o; simp; omega) (by have := argL_len o; simp; omega) fun v24 _ => ?_)
    refine joinS (v := v24) (l := [verbL.getD k []] ++ argL o) (by simp) (by have := argL_len o; simp; omega) (by rw [hjoin]; omega) ?_
    rw [hjoin]
    refine parse (by omega) (fun p hp v3 u3 _ _ => ?_) fun hn => ?_
    · (repeat (first | refine goS ?_ | refine E_box fun _ => ?_ | refine E_fa fun _ => ?_ | refine E_ptfad0 fun _ _ => ?_ | refine E_ptfad fun _ _ => ?_ | refine E_rsix (by assumption) fun _ _ => ?_ | refine E_ifT (by first | assumption | decide) ?_ | refine E_ifF (by first | assumption | decide) ?_ | refine E_gdT (by first | assumption | decide) ?_ | refine E_gdF (by first | assumption | decide) ?_ | refine E_gdnT (by first | assumption | decide) ?_ | refine E_gdnF (by first | assumption | decide) ?_ | refine E_pickT (by first | assumption | decide) ?_ | refine E_pickF (by first | assumption | decide) ?_ | refine E_ixN (by omega) ?_ | refine E_ld' (by assumption) ?_ | refine E_addI (by omega) (by omega) ?_ | refine E_subI (by omega) (by omega) ?_ | refine E_mulI (by omega) (by omega) ?_))
      refine E_stW rfl rfl ?_
      refine E_join1 [str (lineT o), .bool (decide (p ≠ o))] H (fun q hq => ?_) ?_
      · (repeat (first | refine goS ?_ | refine E_box fun _ => ?_ | refine E_fa fun _ => ?_ | refine E_ptfad0 fun _ _ => ?_ | refine E_ptfad fun _ _ => ?_ | refine E_rsix (by assumption) fun _ _ => ?_ | refine E_ifT (by first | assumption | decide) ?_ | refine E_ifF (by first | assumption | decide) ?_ | refine E_gdT (by first | assumption | decide) ?_ | refine E_gdF (by first | assumption | decide) ?_ | refine E_gdnT (by first | assumption | decide) ?_ | refine E_gdnF (by first | assumption | decide) ?_ | refine E_pickT (by first | assumption | decide) ?_ | refine E_pickF (by first | assumption | decide) ?_ | refine E_ixN (by omega) ?_ | refine E_ld' (by assumption) ?_ | refine E_addI (by omega) (by omega) ?_ | refine E_subI (by omega) (by omega) ?_ | refine E_mulI (by omega) (by omega) ?_))
        refine same (o := p) (p := o) (v1 := v3) (u1 := u3) (v2 := v) (u2 := u) (by have := (parse_fit hp).bytes; omega) (by have := (parse_fit hp).keep; omega) ?_
        (repeat (first | refine goS ?_ | refine E_box fun _ => ?_ | refine E_fa fun _ => ?_ | refine E_ptfad0 fun _ _ => ?_ | refine E_ptfad fun _ _ => ?_ | refine E_rsix (by assumption) fun _ _ => ?_ | refine E_ifT (by first | assumption | decide) ?_ | refine E_ifF (by first | assumption | decide) ?_ | refine E_gdT (by first | assumption | decide) ?_ | refine E_gdF (by first | assumption | decide) ?_ | refine E_gdnT (by first | assumption | decide) ?_ | refine E_gdnF (by first | assumption | decide) ?_ | refine E_pickT (by first | assumption | decide) ?_ | refine E_pickF (by first | assumption | decide) ?_ | refine E_ixN (by omega) ?_ | refine E_ld' (by assumption) ?_ | refine E_addI (by omega) (by omega) ?_ | refine E_subI (by omega) (by omega) ?_ | refine E_mulI (by omega) (by omega) ?_))
        exact E_same (by repeat (first | exact Same.refl | (refine Same.cons (by repeat (first | exact Find.here | apply Find.there)) ?_) | (refine Same.drop ?_))) hq
      refine E_fa fun _ => ?_
      refine E_if (fun hne => ?_) (fun he => ?_)
      · exact h2 (by unfold printP; rw [if_pos hd, if_neg (fun e => hne (by rw [hp] at e; exact Option.some.inj e))])
      · refine h1 _ (by unfold printP; rw [if_pos hd, if_pos (by rw [hp, Decidable.not_not.1 he])])
    · (repeat (first | refine goS ?_ | refine E_box fun _ => ?_ | refine E_fa fun _ => ?_ | refine E_ptfad0 fun _ _ => ?_ | refine E_ptfad fun _ _ => ?_ | refine E_rsix (by assumption) fun _ _ => ?_ | refine E_ifT (by first | assumption | decide) ?_ | refine E_ifF (by first | assumption | decide) ?_ | refine E_gdT (by first | assumption | decide) ?_ | refine E_gdF (by first | assumption | decide) ?_ | refine E_gdnT (by first | assumption | decide) ?_ | refine E_gdnF (by first | assumption | decide) ?_ | refine E_pickT (by first | assumption | decide) ?_ | refine E_pickF (by first | assumption | decide) ?_ | refine E_ixN (by omega) ?_ | refine E_ld' (by assumption) ?_ | refine E_addI (by omega) (by omega) ?_ | refine E_subI (by omega) (by omega) ?_ | refine E_mulI (by omega) (by omega) ?_))
      refine E_stW rfl rfl ?_
      refine E_join0 ?_
      (repeat (first | refine goS ?_ | refine E_box fun _ => ?_ | refine E_fa fun _ => ?_ | refine E_ptfad0 fun _ _ => ?_ | refine E_ptfad fun _ _ => ?_ | refine E_rsix (by assumption) fun _ _ => ?_ | refine E_ifT (by first | assumption | decide) ?_ | refine E_ifF (by first | assumption | decide) ?_ | refine E_gdT (by first | assumption | decide) ?_ | refine E_gdF (by first | assumption | decide) ?_ | refine E_gdnT (by first | assumption | decide) ?_ | refine E_gdnF (by first | assumption | decide) ?_ | refine E_pickT (by first | assumption | decide) ?_ | refine E_pickF (by first | assumption | decide) ?_ | refine E_ixN (by omega) ?_ | refine E_ld' (by assumption) ?_ | refine E_addI (by omega) (by omega) ?_ | refine E_subI (by omega) (by omega) ?_ | refine E_mulI (by omega) (by omega) ?_))
      refine E_drops (by repeat (first | exact Same.refl | (refine Same.cons (by repeat (first | exact Find.here | apply Find.there)) ?_) | (refine Same.drop ?_))) (h2 (by unfold printP; rw [if_pos hd, if_neg (fun e => by rw [hn] at e; cases e)]))
end Go.Proofs.YtogallbjmgoagaaDoor.Scr
