/-
  Script: lines as data: parsed by words and by cuts; what is printed parses so.
-/
import Derived.Test.YtogallbjmgoagaaDoorScrM
set_option linter.unusedSimpArgs false
set_option linter.unusedVariables false
set_option linter.unusedSectionVars false
namespace Go.Proofs.YtogallbjmgoagaaDoor.Scr
open Go
set_option linter.unusedSimpArgs false
set_option linter.unusedVariables false
abbrev St := List UInt8 × Bool
/-- An operation, plainly. -/
structure OpV where
  d : Int
  n : Int
  name : List UInt8
  shot : List UInt8
  gen : Int
  from_ : Int
  size : Int
  bytes : List UInt8
  last : Int
  young : Int
  step : Int
  count : Int
  keep : List Bool
  torn : Int
  at_ : Int
deriving DecidableEq
def op0 : OpV := ⟨0, 0, [], [], 0, 0, 0, [], 0, 0, 0, 0, [], 0, 0⟩
def verbL : List (List UInt8) := [[98, 101, 103, 105, 110], [119, 114, 105, 116, 101], [99, 111, 109, 109, 105, 116], [97, 98, 111, 114, 116], [114, 101, 97, 100], [114, 97, 110, 103, 101], [115, 104, 111, 119, 110], [115, 116, 97, 116], [108, 105, 115, 116], [100, 101, 108, 101, 116, 101], [115, 110, 97, 112], [117, 110, 115, 110, 97, 112], [116, 105, 99, 107], [101, 120, 112, 105, 114, 101], [99, 108, 101, 97, 110], [115, 99, 114, 117, 98], [114, 101, 98, 117, 105, 108, 100], [116, 114, 105, 112], [102, 97, 108, 108], [109, 111, 117, 110, 116], [114, 111, 116]]
/-- What a word does; 0: nothing. -/
def verbW (w : List UInt8) : Nat := if w ∈ verbL then verbL.idxOf w + 1 else 0
def wordP (st : St) : Option (List UInt8 × St) := if st.2 then some ((cutW st.1).1, (cutW st.1).2) else none
def numP (st : St) : Option (Nat × St) := match wordP st with
  | some (w, st) => match numW w with | some n => some (n, st) | none => none
  | none => none
def nameP (st : St) : Option (List UInt8 × St) := match wordP st with
  | some (w, st) => if nameOk w then some (w, st) else none
  | none => none
def bytesP (st : St) : Option (List UInt8 × St) := if st.2 then (match bytesW st.1 with | some b => some (b, ([], false)) | none => none) else none
def keepW (k : List UInt8) : Option (List Bool) := match k with
  | c :: t => if c = 107 ∧ ∀ d ∈ t, d = 48 ∨ d = 49 then some (t.map fun d => decide (d = 49)) else none
  | [] => none
def tornW (w : List UInt8) : Option Int := if w = [45] then some (-1) else (numW w).map fun n => (n : Int)
def crashP (st : St) : Option ((List Bool × Int × Nat) × St) := match wordP st with
  | some (k, st) => match keepW k with
    | some l => match wordP st with
      | some (w, st) => match tornW w with
        | some t => match numP st with
          | some (a, st) => some ((l, t, a), st)
          | none => none
        | none => none
      | none => none
    | none => none
  | none => none
def formN (d : Nat) : Bool := d == 3 || d == 4 || d == 13 || d == 15 || d == 18
def formAN (d : Nat) : Bool := d == 5 || d == 8 || d == 10
def formNB (d : Nat) : Bool := d == 2 || d == 21
def formS (d : Nat) : Bool := d == 11 || d == 12
/-- What stands behind a word. -/
def argsP (d : Nat) (st : St) : Option (OpV × St) :=
  if d = 0 then none
  else if d = 1 then (nameP st).map fun (a, st) => ({ op0 with d := d, name := a }, st)
  else if formNB d then (numP st).bind fun (n, st) => (bytesP st).map fun (b, st) => ({ op0 with d := d, n := n, bytes := b }, st)
  else if formN d then (numP st).map fun (n, st) => ({ op0 with d := d, n := n }, st)
  else if formAN d then (nameP st).bind fun (a, st) => (numP st).map fun (n, st) => ({ op0 with d := d, name := a, gen := n }, st)
  else if d = 6 then (nameP st).bind fun (a, st) => (numP st).bind fun (x, st) => (numP st).bind fun (y, st) => (numP st).map fun (z, st) => ({ op0 with d := d, name := a, gen := x, from_ := y, size := z }, st)
  else if d = 7 then (nameP st).bind fun (s, st) => (nameP st).map fun (a, st) => ({ op0 with d := d, name := a, shot := s }, st)
  else if formS d then (nameP st).map fun (s, st) => ({ op0 with d := d, shot := s }, st)
  else if d = 14 then (numP st).bind fun (x, st) => (numP st).bind fun (y, st) => (numP st).bind fun (z, st) => (numP st).map fun (u, st) => ({ op0 with d := d, last := x, young := y, step := z, count := u }, st)
  else if d = 19 then (crashP st).map fun (c, st) => ({ op0 with d := d, keep := c.1, torn := c.2.1, at_ := c.2.2 }, st)
  else some ({ op0 with d := d }, st)
def opP (st : St) : Option OpV := (wordP st).bind fun (w, st) => (argsP (verbW w) st).bind fun (o, st) => if st.2 then none else some o
/-- A line's operation. -/
def parseL (s : List UInt8) : Option OpV := opP (s, true)

/-! ### the reference's way: words -/
def stepW (out : List (List UInt8)) (c : UInt8) : List (List UInt8) := if c = 32 then out ++ [[]] else out.dropLast ++ [(out.getLast?.getD []) ++ [c]]
def wordsL (s : List UInt8) : List (List UInt8) := s.foldl stepW [[]]
def formsL : List (List UInt8) := [[], [97], [110, 98], [110], [110], [97, 110], [97, 110, 110, 110], [115, 97], [97, 110], [], [97, 110], [115], [115], [110], [110, 110, 110, 110], [110], [], [], [110], [107], [], [110, 98]]
def joinB : List (List UInt8) → List UInt8
  | [] => []
  | [w] => w
  | w :: l => w ++ 32 :: joinB l
structure RSt where
  l : List (List UInt8)
  n : List Nat
  o : OpV
def crashR (l : List (List UInt8)) : Option (List Bool × Int × Nat) := match l with
  | [k, w, a] => match keepW k, tornW w, numW a with
    | some x, some t, some n => some (x, t, n)
    | _, _, _ => none
  | _ => none
def stepR (c : UInt8) (r : RSt) : Option RSt :=
  if c = 107 then (match crashR r.l with | some x => some ⟨[], r.n, { r.o with keep := x.1, torn := x.2.1, at_ := x.2.2 }⟩ | none => none)
  else if c = 98 then (match bytesW (joinB r.l) with | some b => some ⟨[], r.n, { r.o with bytes := b }⟩ | none => none)
  else match r.l with
    | [] => none
    | w :: l =>
      if c = 110 then (match numW w with | some x => some ⟨l, r.n ++ [x], r.o⟩ | none => none)
      else if nameOk w then (if c = 97 then some ⟨l, r.n, { r.o with name := w }⟩ else some ⟨l, r.n, { r.o with shot := w }⟩) else none
def goR : List UInt8 → RSt → Option RSt
  | [], r => some r
  | c :: t, r => match stepR c r with | some r => goR t r | none => none
/-- The numbers find their places. -/
def setN (form : List UInt8) (n : List Nat) (o : OpV) : OpV :=
  if form = [110] ∨ form = [110, 98] then { o with n := n.getD 0 0 }
  else if form = [97, 110] then { o with gen := n.getD 0 0 }
  else if form = [97, 110, 110, 110] then { o with gen := n.getD 0 0, from_ := n.getD 1 0, size := n.getD 2 0 }
  else if form = [110, 110, 110, 110] then { o with last := n.getD 0 0, young := n.getD 1 0, step := n.getD 2 0, count := n.getD 3 0 }
  else o
def parseR (s : List UInt8) : Option OpV := match wordsL s with
  | [] => none
  | w :: l => if verbW w = 0 then none else match goR (formsL.getD (verbW w) []) ⟨l, [], { op0 with d := verbW w }⟩ with
    | some r => if r.l = [] then some (setN (formsL.getD (verbW w) []) r.n r.o) else none
    | none => none

/-! ### both are the same -/
theorem stepW_pre (pre : List (List UInt8)) (w : List UInt8) (c : UInt8) : stepW (pre ++ [w]) c = pre ++ stepW [w] c := by
  unfold stepW
  split <;> simp
theorem words_pre : ∀ (s : List UInt8) (pre : List (List UInt8)) (w : List UInt8), s.foldl stepW (pre ++ [w]) = pre ++ s.foldl stepW [w]
  | [], pre, w => rfl
  | c :: s, pre, w => by
    rw [List.foldl_cons, List.foldl_cons, stepW_pre]
    unfold stepW
    split
    · show List.foldl stepW (pre ++ ([w] ++ [[]])) s = pre ++ List.foldl stepW ([w] ++ [[]]) s
      rw [← List.append_assoc, words_pre s (pre ++ [w]) [], words_pre s [w] []]
      simp
    · simp only [List.dropLast_singleton, List.nil_append, List.getLast?_singleton, Option.getD_some]
      exact words_pre s pre _
theorem words_go : ∀ (s w : List UInt8), s.foldl stepW [w] = (w ++ (cutW s).1) :: (if (cutW s).2.2 then wordsL (cutW s).2.1 else [])
  | [], w => by simp [cutW]
  | c :: s, w => by
    rw [List.foldl_cons]
    by_cases hc : c = 32
    · subst hc
      have e : stepW [w] 32 = [w] ++ [[]] := rfl
      rw [e, words_pre]
      simp [cutW, wordsL]
    · have e : stepW [w] c = [w ++ [c]] := by simp [stepW, hc]
      rw [e, words_go s (w ++ [c])]
      have hb : (c != 32) = true := by simpa using hc
      by_cases h32 : 32 ∈ s
      · have : 32 ∈ c :: s := List.mem_cons_of_mem _ h32
        simp [cutW, h32, hb]
      · have : ¬ 32 ∈ c :: s := by simp [Ne.symm hc, h32]
        simp only [cutW, if_neg h32, if_neg this]
        simp
def wl (st : St) : List (List UInt8) := if st.2 then wordsL st.1 else []
theorem words_cut (s : List UInt8) : wordsL s = (cutW s).1 :: wl (cutW s).2 := by
  have := words_go s []
  simpa [wl, wordsL] using this
theorem wordsL_ne (s : List UInt8) : wordsL s ≠ [] := by rw [words_cut]; simp
theorem wordP_wl (st : St) : (wl st = [] ∧ wordP st = none ∧ st.2 = false) ∨ ∃ w st', wl st = w :: wl st' ∧ wordP st = some (w, st') ∧ st.2 = true := by
  obtain ⟨s, m⟩ := st
  cases m with
  | false => exact .inl ⟨rfl, rfl, rfl⟩
  | true => exact .inr ⟨_, _, words_cut s, rfl, rfl⟩
theorem wl_nil (st : St) : (wl st = []) ↔ st.2 = false := by
  rcases wordP_wl st with ⟨h1, _, h2⟩ | ⟨w, st', h1, _, h2⟩
  · simp [h1, h2]
  · simp [h1, h2]
theorem cut_join : ∀ s : List UInt8, s = (if (cutW s).2.2 then (cutW s).1 ++ 32 :: (cutW s).2.1 else (cutW s).1)
  | [] => by simp [cutW]
  | c :: s => by
    have ih := cut_join s
    by_cases hc : c = 32
    · subst hc; simp [cutW]
    · have hb : (c != 32) = true := by simpa using hc
      by_cases h32 : 32 ∈ s
      · have : 32 ∈ c :: s := List.mem_cons_of_mem _ h32
        simp only [cutW, if_pos h32, if_pos this, List.takeWhile_cons, hb, List.dropWhile_cons, if_true] at ih ⊢
        rw [List.cons_append, ← ih]
      · have h2 : ¬ 32 ∈ c :: s := by simp [Ne.symm hc, h32]
        have e : cutW (c :: s) = (c :: s, [], false) := by unfold cutW; exact if_neg h2
        rw [e]; simp
theorem cut_lt (s : List UInt8) (h : (cutW s).2.2 = true) : (cutW s).2.1.length < s.length := by
  have h1 := congrArg List.length (cut_join s)
  rw [if_pos h] at h1
  simp at h1; omega
theorem join_words : ∀ (k : Nat) (s : List UInt8), s.length ≤ k → joinB (wordsL s) = s
  | k, s, hk => by
    rw [words_cut]
    have hj := cut_join s
    unfold wl
    cases h : (cutW s).2.2 with
    | false =>
      rw [h] at hj
      simpa [joinB] using hj.symm
    | true =>
      rw [h] at hj
      simp only [if_true] at hj ⊢
      cases k with
      | zero =>
        have := cut_lt s h; omega
      | succ k =>
        have ih := join_words k (cutW s).2.1 (by have := cut_lt s h; omega)
        cases hw : wordsL (cutW s).2.1 with
        | nil => exact absurd hw (wordsL_ne _)
        | cons w l =>
          rw [hw] at ih
          show (cutW s).1 ++ 32 :: joinB (w :: l) = s
          rw [ih]; exact hj.symm
theorem bytesP_wl (st : St) : bytesP st = (match bytesW (joinB (wl st)) with | some b => some (b, ([], false)) | none => none) := by
  obtain ⟨s, m⟩ := st
  cases m with
  | false => rfl
  | true =>
    show (if true = true then _ else _) = _
    rw [if_pos rfl]
    show _ = match bytesW (joinB (wordsL s)) with | some b => some (b, ([], false)) | none => none
    rw [join_words _ s (Nat.le_refl _)]
theorem crashP_wl (st : St) : (∀ r st', crashP st = some (r, st') → st'.2 = false → crashR (wl st) = some r) ∧ (∀ r, crashR (wl st) = some r → ∃ st', crashP st = some (r, st') ∧ st'.2 = false) := by
  rcases wordP_wl st with ⟨h1, h2, _⟩ | ⟨k, s1, h1, h2, _⟩
  · simp [crashP, h2, h1, crashR]
  rw [h1]
  unfold crashP
  simp only [h2]
  cases hk : keepW k with
  | none =>
    refine ⟨by simp, fun r hr => ?_⟩
    cases hw : wl s1 with
    | nil => rw [hw] at hr; simp [crashR] at hr
    | cons a l => cases l with
      | nil => rw [hw] at hr; simp [crashR] at hr
      | cons b l => cases l <;> (rw [hw] at hr; simp [crashR, hk] at hr)
  | some x =>
    simp only
    rcases wordP_wl s1 with ⟨g1, g2, _⟩ | ⟨w, s2, g1, g2, _⟩
    · simp [g2, g1, crashR]
    rw [g1]
    simp only [g2]
    unfold numP
    cases ht : tornW w with
    | none =>
      refine ⟨by simp, fun r hr => ?_⟩
      cases hw : wl s2 with
      | nil => rw [hw] at hr; simp [crashR] at hr
      | cons a l => cases l <;> (rw [hw] at hr; simp [crashR, ht] at hr)
    | some t =>
      simp only
      rcases wordP_wl s2 with ⟨e1, e2, _⟩ | ⟨a, s3, e1, e2, _⟩
      · simp [e2, e1, crashR]
      rw [e1]
      simp only [e2]
      cases ha : numW a with
      | none =>
        refine ⟨by simp, fun r hr => ?_⟩
        cases hw : wl s3 <;> (rw [hw] at hr; simp [crashR, ha] at hr)
      | some n =>
        simp only
        refine ⟨?_, fun r hr => ?_⟩
        · rintro r st' h hs
          simp only [Option.some.injEq, Prod.mk.injEq] at h
          obtain ⟨rfl, rfl⟩ := h
          rw [(wl_nil s3).2 hs]
          simp [crashR, hk, ht, ha]
        · cases hw : wl s3 with
          | cons b l => rw [hw] at hr; simp [crashR] at hr
          | nil =>
            rw [hw] at hr
            simp [crashR, hk, ht, ha] at hr
            subst hr
            exact ⟨s3, rfl, (wl_nil s3).1 hw⟩
theorem verbW_le (w : List UInt8) : verbW w ≤ 21 := by
  unfold verbW
  split
  · rename_i h
    have := List.idxOf_lt_length_iff.2 h
    have e : verbL.length = 21 := rfl
    omega
  · omega
/-! ### parse by words is parse -/
theorem goR_cons (c : UInt8) (t : List UInt8) (r : RSt) : goR (c :: t) r = match stepR c r with | some r => goR t r | none => none := rfl
theorem stepR_n (st : St) (ns : List Nat) (o : OpV) : stepR 110 ⟨wl st, ns, o⟩ = (match numP st with | some (n, st') => some ⟨wl st', ns ++ [n], o⟩ | none => none) := by
  unfold stepR numP
  rw [if_neg (by decide), if_neg (by decide)]
  rcases wordP_wl st with ⟨h1, h2, _⟩ | ⟨w, s1, h1, h2, _⟩
  · simp [h1, h2]
  · simp only [h1, h2, if_true]
    cases numW w <;> rfl
theorem stepR_a (st : St) (ns : List Nat) (o : OpV) : stepR 97 ⟨wl st, ns, o⟩ = (match nameP st with | some (w, st') => some ⟨wl st', ns, { o with name := w }⟩ | none => none) := by
  unfold stepR nameP
  rw [if_neg (by decide), if_neg (by decide)]
  rcases wordP_wl st with ⟨h1, h2, _⟩ | ⟨w, s1, h1, h2, _⟩
  · simp [h1, h2]
  · simp only [h1, h2, if_true]
    rw [if_neg (by decide)]
    cases nameOk w <;> rfl
theorem stepR_s (st : St) (ns : List Nat) (o : OpV) : stepR 115 ⟨wl st, ns, o⟩ = (match nameP st with | some (w, st') => some ⟨wl st', ns, { o with shot := w }⟩ | none => none) := by
  unfold stepR nameP
  rw [if_neg (by decide), if_neg (by decide)]
  rcases wordP_wl st with ⟨h1, h2, _⟩ | ⟨w, s1, h1, h2, _⟩
  · simp [h1, h2]
  · simp only [h1, h2]
    rw [if_neg (by decide)]
    cases nameOk w <;> rfl
theorem stepR_b (st : St) (ns : List Nat) (o : OpV) : stepR 98 ⟨wl st, ns, o⟩ = (match bytesP st with | some (b, st') => some ⟨wl st', ns, { o with bytes := b }⟩ | none => none) := by
  unfold stepR
  rw [if_neg (by decide), if_pos rfl, bytesP_wl]
  cases bytesW (joinB (wl st)) <;> rfl
theorem endP {o : OpV} {st : St} : (if wl st = [] then some o else none) = (if st.2 then none else some o) := by
  cases h : st.2 with
  | false => rw [if_pos ((wl_nil st).2 h)]; rfl
  | true => rw [if_neg (fun h' => by rw [(wl_nil st).1 h'] at h; cases h)]; rfl
theorem parse_same (s : List UInt8) : parseR s = parseL s := by
  unfold parseR parseL opP
  rw [words_cut]
  have hw : wordP (s, true) = some ((cutW s).1, (cutW s).2) := rfl
  rw [hw]
  simp only [Option.bind_some]
  generalize (cutW s).1 = w
  generalize (cutW s).2 = st
  have hle := verbW_le w
  generalize verbW w = d at hle
  have key : ∀ d, d ≤ 21 → d = 0 ∨ d = 1 ∨ d = 2 ∨ d = 3 ∨ d = 4 ∨ d = 5 ∨ d = 6 ∨ d = 7 ∨ d = 8 ∨ d = 9 ∨ d = 10 ∨ d = 11 ∨ d = 12 ∨ d = 13 ∨ d = 14 ∨ d = 15 ∨ d = 16 ∨ d = 17 ∨ d = 18 ∨ d = 19 ∨ d = 20 ∨ d = 21 := by omega
  have fin : ∀ (f : List UInt8) (ns : List Nat) (o : OpV) (st : St), (match goR [] ⟨wl st, ns, o⟩ with | some r => if r.l = [] then some (setN f r.n r.o) else none | none => none) = (if st.2 then none else some (setN f ns o)) := fun f ns o st => endP
  rcases key d hle with rfl | rfl | rfl | rfl | rfl | rfl | rfl | rfl | rfl | rfl | rfl | rfl | rfl | rfl | rfl | rfl | rfl | rfl | rfl | rfl | rfl | rfl
  · rfl
  · rw [show argsP 1 st = ((nameP st).map fun p0 => ({ op0 with d := (1 : Nat), name := p0.1 }, p0.2)) from rfl, show formsL.getD 1 [] = [97] from rfl]
    simp only [goR_cons, stepR_n, stepR_a, stepR_s, stepR_b]
    cases nameP st with
    | none => rfl
    | some p0 =>
      obtain ⟨x0, s0⟩ := p0
      exact fin [97] _ _ _
  · rw [show argsP 2 st = ((numP st).bind fun p0 => (bytesP p0.2).map fun p1 => ({ op0 with d := (2 : Nat), n := p0.1, bytes := p1.1 }, p1.2)) from rfl, show formsL.getD 2 [] = [110, 98] from rfl]
    simp only [goR_cons, stepR_n, stepR_a, stepR_s, stepR_b]
    cases numP st with
    | none => rfl
    | some p0 =>
      obtain ⟨x0, s0⟩ := p0
      simp only [Option.bind_some, goR_cons, stepR_n, stepR_a, stepR_s, stepR_b]
      cases bytesP s0 with
      | none => rfl
      | some p1 =>
        obtain ⟨x1, s1⟩ := p1
        exact fin [110, 98] _ _ _
  · rw [show argsP 3 st = ((numP st).map fun p0 => ({ op0 with d := (3 : Nat), n := p0.1 }, p0.2)) from rfl, show formsL.getD 3 [] = [110] from rfl]
    simp only [goR_cons, stepR_n, stepR_a, stepR_s, stepR_b]
    cases numP st with
    | none => rfl
    | some p0 =>
      obtain ⟨x0, s0⟩ := p0
      exact fin [110] _ _ _
  · rw [show argsP 4 st = ((numP st).map fun p0 => ({ op0 with d := (4 : Nat), n := p0.1 }, p0.2)) from rfl, show formsL.getD 4 [] = [110] from rfl]
    simp only [goR_cons, stepR_n, stepR_a, stepR_s, stepR_b]
    cases numP st with
    | none => rfl
    | some p0 =>
      obtain ⟨x0, s0⟩ := p0
      exact fin [110] _ _ _
  · rw [show argsP 5 st = ((nameP st).bind fun p0 => (numP p0.2).map fun p1 => ({ op0 with d := (5 : Nat), name := p0.1, gen := p1.1 }, p1.2)) from rfl, show formsL.getD 5 [] = [97, 110] from rfl]
    simp only [goR_cons, stepR_n, stepR_a, stepR_s, stepR_b]
    cases nameP st with
    | none => rfl
    | some p0 =>
      obtain ⟨x0, s0⟩ := p0
      simp only [Option.bind_some, goR_cons, stepR_n, stepR_a, stepR_s, stepR_b]
      cases numP s0 with
      | none => rfl
      | some p1 =>
        obtain ⟨x1, s1⟩ := p1
        exact fin [97, 110] _ _ _
  · rw [show argsP 6 st = ((nameP st).bind fun p0 => (numP p0.2).bind fun p1 => (numP p1.2).bind fun p2 => (numP p2.2).map fun p3 => ({ op0 with d := (6 : Nat), name := p0.1, gen := p1.1, from_ := p2.1, size := p3.1 }, p3.2)) from rfl, show formsL.getD 6 [] = [97, 110, 110, 110] from rfl]
    simp only [goR_cons, stepR_n, stepR_a, stepR_s, stepR_b]
    cases nameP st with
    | none => rfl
    | some p0 =>
      obtain ⟨x0, s0⟩ := p0
      simp only [Option.bind_some, goR_cons, stepR_n, stepR_a, stepR_s, stepR_b]
      cases numP s0 with
      | none => rfl
      | some p1 =>
        obtain ⟨x1, s1⟩ := p1
        simp only [Option.bind_some, goR_cons, stepR_n, stepR_a, stepR_s, stepR_b]
        cases numP s1 with
        | none => rfl
        | some p2 =>
          obtain ⟨x2, s2⟩ := p2
          simp only [Option.bind_some, goR_cons, stepR_n, stepR_a, stepR_s, stepR_b]
          cases numP s2 with
          | none => rfl
          | some p3 =>
            obtain ⟨x3, s3⟩ := p3
            exact fin [97, 110, 110, 110] _ _ _
  · rw [show argsP 7 st = ((nameP st).bind fun p0 => (nameP p0.2).map fun p1 => ({ op0 with d := (7 : Nat), shot := p0.1, name := p1.1 }, p1.2)) from rfl, show formsL.getD 7 [] = [115, 97] from rfl]
    simp only [goR_cons, stepR_n, stepR_a, stepR_s, stepR_b]
    cases nameP st with
    | none => rfl
    | some p0 =>
      obtain ⟨x0, s0⟩ := p0
      simp only [Option.bind_some, goR_cons, stepR_n, stepR_a, stepR_s, stepR_b]
      cases nameP s0 with
      | none => rfl
      | some p1 =>
        obtain ⟨x1, s1⟩ := p1
        exact fin [115, 97] _ _ _
  · rw [show argsP 8 st = ((nameP st).bind fun p0 => (numP p0.2).map fun p1 => ({ op0 with d := (8 : Nat), name := p0.1, gen := p1.1 }, p1.2)) from rfl, show formsL.getD 8 [] = [97, 110] from rfl]
    simp only [goR_cons, stepR_n, stepR_a, stepR_s, stepR_b]
    cases nameP st with
    | none => rfl
    | some p0 =>
      obtain ⟨x0, s0⟩ := p0
      simp only [Option.bind_some, goR_cons, stepR_n, stepR_a, stepR_s, stepR_b]
      cases numP s0 with
      | none => rfl
      | some p1 =>
        obtain ⟨x1, s1⟩ := p1
        exact fin [97, 110] _ _ _
  · exact fin [] [] _ st
  · rw [show argsP 10 st = ((nameP st).bind fun p0 => (numP p0.2).map fun p1 => ({ op0 with d := (10 : Nat), name := p0.1, gen := p1.1 }, p1.2)) from rfl, show formsL.getD 10 [] = [97, 110] from rfl]
    simp only [goR_cons, stepR_n, stepR_a, stepR_s, stepR_b]
    cases nameP st with
    | none => rfl
    | some p0 =>
      obtain ⟨x0, s0⟩ := p0
      simp only [Option.bind_some, goR_cons, stepR_n, stepR_a, stepR_s, stepR_b]
      cases numP s0 with
      | none => rfl
      | some p1 =>
        obtain ⟨x1, s1⟩ := p1
        exact fin [97, 110] _ _ _
  · rw [show argsP 11 st = ((nameP st).map fun p0 => ({ op0 with d := (11 : Nat), shot := p0.1 }, p0.2)) from rfl, show formsL.getD 11 [] = [115] from rfl]
    simp only [goR_cons, stepR_n, stepR_a, stepR_s, stepR_b]
    cases nameP st with
    | none => rfl
    | some p0 =>
      obtain ⟨x0, s0⟩ := p0
      exact fin [115] _ _ _
  · rw [show argsP 12 st = ((nameP st).map fun p0 => ({ op0 with d := (12 : Nat), shot := p0.1 }, p0.2)) from rfl, show formsL.getD 12 [] = [115] from rfl]
    simp only [goR_cons, stepR_n, stepR_a, stepR_s, stepR_b]
    cases nameP st with
    | none => rfl
    | some p0 =>
      obtain ⟨x0, s0⟩ := p0
      exact fin [115] _ _ _
  · rw [show argsP 13 st = ((numP st).map fun p0 => ({ op0 with d := (13 : Nat), n := p0.1 }, p0.2)) from rfl, show formsL.getD 13 [] = [110] from rfl]
    simp only [goR_cons, stepR_n, stepR_a, stepR_s, stepR_b]
    cases numP st with
    | none => rfl
    | some p0 =>
      obtain ⟨x0, s0⟩ := p0
      exact fin [110] _ _ _
  · rw [show argsP 14 st = ((numP st).bind fun p0 => (numP p0.2).bind fun p1 => (numP p1.2).bind fun p2 => (numP p2.2).map fun p3 => ({ op0 with d := (14 : Nat), last := p0.1, young := p1.1, step := p2.1, count := p3.1 }, p3.2)) from rfl, show formsL.getD 14 [] = [110, 110, 110, 110] from rfl]
    simp only [goR_cons, stepR_n, stepR_a, stepR_s, stepR_b]
    cases numP st with
    | none => rfl
    | some p0 =>
      obtain ⟨x0, s0⟩ := p0
      simp only [Option.bind_some, goR_cons, stepR_n, stepR_a, stepR_s, stepR_b]
      cases numP s0 with
      | none => rfl
      | some p1 =>
        obtain ⟨x1, s1⟩ := p1
        simp only [Option.bind_some, goR_cons, stepR_n, stepR_a, stepR_s, stepR_b]
        cases numP s1 with
        | none => rfl
        | some p2 =>
          obtain ⟨x2, s2⟩ := p2
          simp only [Option.bind_some, goR_cons, stepR_n, stepR_a, stepR_s, stepR_b]
          cases numP s2 with
          | none => rfl
          | some p3 =>
            obtain ⟨x3, s3⟩ := p3
            exact fin [110, 110, 110, 110] _ _ _
  · rw [show argsP 15 st = ((numP st).map fun p0 => ({ op0 with d := (15 : Nat), n := p0.1 }, p0.2)) from rfl, show formsL.getD 15 [] = [110] from rfl]
    simp only [goR_cons, stepR_n, stepR_a, stepR_s, stepR_b]
    cases numP st with
    | none => rfl
    | some p0 =>
      obtain ⟨x0, s0⟩ := p0
      exact fin [110] _ _ _
  · exact fin [] [] _ st
  · exact fin [] [] _ st
  · rw [show argsP 18 st = ((numP st).map fun p0 => ({ op0 with d := (18 : Nat), n := p0.1 }, p0.2)) from rfl, show formsL.getD 18 [] = [110] from rfl]
    simp only [goR_cons, stepR_n, stepR_a, stepR_s, stepR_b]
    cases numP st with
    | none => rfl
    | some p0 =>
      obtain ⟨x0, s0⟩ := p0
      exact fin [110] _ _ _
  · rw [show argsP 19 st = ((crashP st).map fun p => ({ op0 with d := (19 : Nat), keep := p.1.1, torn := p.1.2.1, at_ := p.1.2.2 }, p.2)) from rfl, show formsL.getD 19 [] = [107] from rfl]
    have e : ∀ r, stepR 107 r = (match crashR r.l with | some x => some ⟨[], r.n, { r.o with keep := x.1, torn := x.2.1, at_ := x.2.2 }⟩ | none => none) := fun r => rfl
    simp only [goR_cons, e]
    obtain ⟨k1, k2⟩ := crashP_wl st
    cases hr : crashR (wl st) with
    | none =>
      cases hp : crashP st with
      | none => rfl
      | some p =>
        obtain ⟨x, s1⟩ := p
        cases h1 : s1.2 with
        | false => have := k1 x s1 hp h1; rw [hr] at this; cases this
        | true => simp [h1]
    | some x =>
      obtain ⟨s1, hp, h1⟩ := k2 x hr
      simp only [hp, Option.map_some, Option.bind_some, h1]
      rfl
  · exact fin [] [] _ st
  · rw [show argsP 21 st = ((numP st).bind fun p0 => (bytesP p0.2).map fun p1 => ({ op0 with d := (21 : Nat), n := p0.1, bytes := p1.1 }, p1.2)) from rfl, show formsL.getD 21 [] = [110, 98] from rfl]
    simp only [goR_cons, stepR_n, stepR_a, stepR_s, stepR_b]
    cases numP st with
    | none => rfl
    | some p0 =>
      obtain ⟨x0, s0⟩ := p0
      simp only [Option.bind_some, goR_cons, stepR_n, stepR_a, stepR_s, stepR_b]
      cases bytesP s0 with
      | none => rfl
      | some p1 =>
        obtain ⟨x1, s1⟩ := p1
        exact fin [110, 98] _ _ _
/-! ### how things are said -/
def numT (n : Nat) : List UInt8 := if n < 10 then [UInt8.ofNat (48 + n)] else numT (n / 10) ++ [UInt8.ofNat (48 + n % 10)]
termination_by n
def numI (n : Int) : List UInt8 := if n < 0 then [63] else numT n.toNat
theorem dig_nat {k : Nat} (h : k < 10) : (UInt8.ofNat (48 + k)).toNat = 48 + k := by simp; omega
theorem numT_lt {n : Nat} (h : n < 10) : numT n = [UInt8.ofNat (48 + n)] := by unfold numT; rw [if_pos h]
theorem numT_ge {n : Nat} (h : ¬ n < 10) : numT n = numT (n / 10) ++ [UInt8.ofNat (48 + n % 10)] := by rw [numT, if_neg h]
theorem numT_all : ∀ (k n : Nat), n ≤ k → valW (numT n) = n ∧ digW (numT n) ∧ numT n ≠ [] ∧ (n ≠ 0 → (numT n).head? ≠ some 48 ∧ 10 ^ ((numT n).length - 1) ≤ n)
  | k, n, hk => by
    by_cases h : n < 10
    · rw [numT_lt h]
      have hd := dig_nat h
      refine ⟨?_, fun c hc => ?_, by simp, fun h0 => ⟨fun he => ?_, by simp; omega⟩⟩
      · simp only [valW, List.foldl_cons, List.foldl_nil, hd]; omega
      · rw [List.mem_singleton.1 hc, hd]; omega
      · rw [List.head?_cons] at he
        have := congrArg UInt8.toNat (Option.some.inj he)
        rw [hd] at this
        have h48 : (48 : UInt8).toNat = 48 := rfl
        omega
    · cases k with
      | zero => omega
      | succ k =>
        obtain ⟨i1, i2, i3, i4⟩ := numT_all k (n / 10) (by omega)
        have hd := dig_nat (Nat.mod_lt n (by decide : 10 > 0))
        rw [numT_ge h]
        refine ⟨?_, fun c hc => ?_, by simp, fun h0 => ?_⟩
        · rw [valW_snoc, i1, hd]; omega
        · rcases List.mem_append.1 hc with hc | hc
          · exact i2 c hc
          · rw [List.mem_singleton.1 hc, hd]; have := Nat.mod_lt n (by decide : 10 > 0); omega
        · obtain ⟨j1, j2⟩ := i4 (by omega)
          refine ⟨?_, ?_⟩
          · cases hn : numT (n / 10) with
            | nil => exact absurd hn i3
            | cons a l => rw [hn] at j1; simpa using j1
          · rw [List.length_append, List.length_singleton, Nat.add_sub_cancel]
            have hl : 0 < (numT (n / 10)).length := List.length_pos_iff.2 i3
            have e : (numT (n / 10)).length = ((numT (n / 10)).length - 1) + 1 := by omega
            rw [e, Nat.pow_succ]
            omega
theorem numW_numT {n : Nat} (h : n ≤ 9007199254740991) : numW (numT n) = some n := by
  obtain ⟨h1, h2, h3, h4⟩ := numT_all n n (Nat.le_refl n)
  have hf : formW (numT n) := by
    by_cases h0 : n = 0
    · subst h0; left; rw [numT_lt (by decide)]; rfl
    obtain ⟨g1, g2⟩ := h4 h0
    refine .inr ⟨h3, g1, ?_⟩
    rcases Nat.lt_or_ge 16 (numT n).length with hl | hl
    · have := Nat.pow_le_pow_right (n := 10) (by decide) (show 16 ≤ (numT n).length - 1 by omega)
      have e : (10 : Nat) ^ 16 = 10000000000000000 := by decide
      omega
    · exact hl
  unfold numW
  rw [h1, if_pos ⟨hf, h2, h⟩]
theorem numT_dig (n : Nat) : digW (numT n) := (numT_all n n (Nat.le_refl n)).2.1
theorem numT_no (n : Nat) {c : UInt8} (h : c.toNat < 48) : c ∉ numT n := fun hm => by have := numT_dig n c hm; omega
def hexD (k : Nat) : UInt8 := hexS.getD k 0
theorem hexV_hexD : ∀ k : Fin 16, hexV (hexD k.val) = some k.val := by decide
def hexT (b : List UInt8) : List UInt8 := b.flatMap fun c => [hexD (c.toNat / 16), hexD (c.toNat % 16)]
def textT (b : List UInt8) : List UInt8 := if plainL b then 61 :: b else 120 :: hexT b
theorem unhex_hexT : ∀ b : List UInt8, unhex (hexT b) = some b ∧ (hexT b).length % 2 = 0
  | [] => ⟨rfl, rfl⟩
  | c :: b => by
    obtain ⟨ih, il⟩ := unhex_hexT b
    have hc := c.toNat_lt
    have e : hexT (c :: b) = hexD (c.toNat / 16) :: hexD (c.toNat % 16) :: hexT b := rfl
    have h1 := hexV_hexD ⟨c.toNat / 16, by omega⟩
    have h2 := hexV_hexD ⟨c.toNat % 16, by omega⟩
    simp only at h1 h2
    refine ⟨?_, by rw [e]; simp only [List.length_cons]; omega⟩
    rw [e]
    show (match hexV _, hexV _, unhex _ with | some x, some y, some r => some (UInt8.ofNat (16 * x + y) :: r) | _, _, _ => none) = _
    rw [h1, h2, ih]
    simp only [Option.some.injEq, List.cons.injEq, and_true]
    rw [show 16 * (c.toNat / 16) + c.toNat % 16 = c.toNat by omega]
    simp
theorem bytesW_textT (b : List UInt8) : bytesW (textT b) = some b := by
  unfold textT
  split
  · rename_i h; simp [bytesW, h]
  · obtain ⟨h1, h2⟩ := unhex_hexT b
    unfold bytesW
    simp only
    rw [if_neg (by decide), if_pos ⟨trivial, h2⟩, h1]
def keepT (l : List Bool) : List UInt8 := 107 :: l.map fun b => if b then 49 else 48
theorem keepW_keepT (l : List Bool) : keepW (keepT l) = some l := by
  unfold keepW keepT
  simp only
  rw [if_pos ⟨trivial, fun d hd => by obtain ⟨b, _, rfl⟩ := List.mem_map.1 hd; cases b <;> simp⟩]
  congr 1
  rw [List.map_map]
  have : l.map id = l := by simp
  conv => rhs; rw [← this]
  apply List.map_congr_left
  intro b _
  cases b <;> rfl
def tornT (t : Int) : List UInt8 := if t = -1 then [45] else numI t
def argL (o : OpV) : List (List UInt8) :=
  let d := o.d.toNat
  if d = 1 then [o.name]
  else if formNB d then [numI o.n, textT o.bytes]
  else if formN d then [numI o.n]
  else if formAN d then [o.name, numI o.gen]
  else if d = 6 then [o.name, numI o.gen, numI o.from_, numI o.size]
  else if d = 7 then [o.shot, o.name]
  else if formS d then [o.shot]
  else if d = 14 then [numI o.last, numI o.young, numI o.step, numI o.count]
  else if d = 19 then [keepT o.keep, tornT o.torn, numI o.at_]
  else []
/-- An operation's line. -/
def lineT (o : OpV) : List UInt8 := joinB (verbL.getD (o.d.toNat - 1) [] :: argL o)

/-! ### what is parsed, printed, parses so -/
def stOf (l : List (List UInt8)) : St := (joinB l, !l.isEmpty)
theorem cut_no {w : List UInt8} (h : 32 ∉ w) : cutW w = (w, [], false) := by unfold cutW; rw [if_neg h]
theorem cut_yes : ∀ {w r : List UInt8}, 32 ∉ w → cutW (w ++ 32 :: r) = (w, r, true)
  | [], r, _ => by simp [cutW]
  | c :: w, r, h => by
    have hc : c ≠ 32 := fun e => h (by simp [e])
    have hb : (c != 32) = true := by simpa using hc
    have ih := cut_yes (w := w) (r := r) (fun hm => h (List.mem_cons_of_mem _ hm))
    have h1 : 32 ∈ w ++ 32 :: r := by simp
    have h2 : 32 ∈ c :: (w ++ 32 :: r) := List.mem_cons_of_mem _ h1
    unfold cutW at ih ⊢
    rw [if_pos h1] at ih
    simp only [Prod.mk.injEq] at ih
    rw [List.cons_append, if_pos h2]
    simp only [List.takeWhile_cons, List.dropWhile_cons, hb, if_true, ih.1, ih.2.1]
theorem wordP_of {w : List UInt8} {l : List (List UInt8)} (h : 32 ∉ w) : wordP (stOf (w :: l)) = some (w, stOf l) := by
  cases l with
  | nil => show some ((cutW w).1, (cutW w).2) = _; rw [cut_no h]; rfl
  | cons u l => show some ((cutW (w ++ 32 :: joinB (u :: l))).1, (cutW (w ++ 32 :: joinB (u :: l))).2) = _; rw [cut_yes h]; rfl
theorem numP_of {n : Nat} {l : List (List UInt8)} (h : n ≤ 9007199254740991) : numP (stOf (numI (n : Int) :: l)) = some (n, stOf l) := by
  have e : numI (n : Int) = numT n := by unfold numI; rw [if_neg (by omega)]; rfl
  unfold numP
  rw [e, wordP_of (numT_no n (by decide))]
  simp only [numW_numT h]
theorem nameOk_no {w : List UInt8} (h : nameOk w = true) : 32 ∉ w := fun hm => by
  have := (of_decide_eq_true h).2.2 32 hm
  exact absurd this.1 (by decide)
theorem nameP_of {w : List UInt8} {l : List (List UInt8)} (h : nameOk w = true) : nameP (stOf (w :: l)) = some (w, stOf l) := by
  unfold nameP
  rw [wordP_of (nameOk_no h)]
  simp only [h, if_true]
theorem bytesP_of (b : List UInt8) : bytesP (stOf [textT b]) = some (b, stOf []) := by
  show (match bytesW (textT b) with | some b => some (b, ([], false)) | none => none) = _
  rw [bytesW_textT]; rfl
theorem numP_inv {st st' : St} {n : Nat} (h : numP st = some (n, st')) : n ≤ 9007199254740991 := by
  unfold numP at h
  split at h
  · split at h
    · rename_i hn
      simp only [Option.some.injEq, Prod.mk.injEq] at h
      unfold numW at hn
      split at hn
      · rename_i hh; simp only [Option.some.injEq] at hn; omega
      · cases hn
    · cases h
  · cases h
theorem nameP_inv {st st' : St} {w : List UInt8} (h : nameP st = some (w, st')) : nameOk w = true := by
  unfold nameP at h
  split at h
  · split at h
    · rename_i hn
      simp only [Option.some.injEq, Prod.mk.injEq] at h
      rw [← h.1]; exact hn
    · cases h
  · cases h
theorem tornW_tornT {t : Int} (h : t = -1 ∨ (0 ≤ t ∧ t ≤ 9007199254740991)) : tornW (tornT t) = some t ∧ 32 ∉ tornT t := by
  unfold tornT
  rcases h with rfl | ⟨h1, h2⟩
  · exact ⟨rfl, by decide⟩
  · rw [if_neg (by omega)]
    obtain ⟨n, rfl⟩ : ∃ n : Nat, t = n := ⟨t.toNat, by omega⟩
    have e : numI (n : Int) = numT n := by unfold numI; rw [if_neg (by omega)]; rfl
    rw [e]
    refine ⟨?_, numT_no n (by decide)⟩
    unfold tornW
    rw [if_neg (fun he => numT_no n (c := 45) (by decide) (by rw [he]; simp)), numW_numT (by omega)]
    rfl
theorem keepT_no (l : List Bool) : 32 ∉ keepT l := by
  unfold keepT
  intro h
  rcases List.mem_cons.1 h with h | h
  · cases h
  · obtain ⟨b, _, hb⟩ := List.mem_map.1 h
    cases b <;> cases hb
theorem crashP_of {k : List Bool} {t : Int} {a : Nat} (h : t = -1 ∨ (0 ≤ t ∧ t ≤ 9007199254740991)) (ha : a ≤ 9007199254740991) : crashP (stOf [keepT k, tornT t, numI (a : Int)]) = some ((k, t, a), stOf []) := by
  obtain ⟨h1, h2⟩ := tornW_tornT h
  unfold crashP
  rw [wordP_of (keepT_no k)]
  simp only [keepW_keepT, wordP_of h2, h1, numP_of ha]
theorem tornW_inv {w : List UInt8} {t : Int} (h : tornW w = some t) : t = -1 ∨ (0 ≤ t ∧ t ≤ 9007199254740991) := by
  unfold tornW at h
  split at h
  · left; simpa using h.symm
  · right
    simp only [Option.map_eq_some_iff] at h
    obtain ⟨n, hn, rfl⟩ := h
    unfold numW at hn
    split at hn
    · rename_i hh; have h2 := hh.2.2; have h3 : valW w = n := Option.some.inj hn; omega
    · cases hn
theorem crashP_inv {st st' : St} {x : List Bool × Int × Nat} (h : crashP st = some (x, st')) : (x.2.1 = -1 ∨ (0 ≤ x.2.1 ∧ x.2.1 ≤ 9007199254740991)) ∧ x.2.2 ≤ 9007199254740991 := by
  unfold crashP at h
  split at h
  · split at h
    · split at h
      · split at h
        · rename_i ht
          split at h
          · rename_i hn
            simp only [Option.some.injEq, Prod.mk.injEq] at h
            rw [← h.1]
            exact ⟨tornW_inv ht, numP_inv hn⟩
          · cases h
        · cases h
      · cases h
    · cases h
  · cases h
theorem opP_of {w : List UInt8} {l : List (List UInt8)} {o : OpV} {d : Nat} (hw : 32 ∉ w) (hv : verbW w = d) (h : argsP d (stOf l) = some (o, stOf [])) : parseL (joinB (w :: l)) = some o := by
  show opP (stOf (w :: l)) = some o
  unfold opP
  rw [wordP_of hw]
  simp only [Option.bind_some, hv, h]
  rfl
theorem lineT_of {o : OpV} {d : Nat} {l : List (List UInt8)} (w : List UInt8) (hd : verbL.getD (o.d.toNat - 1) [] = w) (ha : argL o = l) : lineT o = joinB (w :: l) := by
  unfold lineT; rw [hd, ha]
theorem back {s : List UInt8} {o : OpV} (h : parseL s = some o) : parseL (lineT o) = some o := by
  unfold parseL opP at h
  rw [show wordP (s, true) = some ((cutW s).1, (cutW s).2) from rfl] at h
  simp only [Option.bind_some] at h
  generalize (cutW s).1 = w at h
  generalize (cutW s).2 = st at h
  have hle := verbW_le w
  generalize verbW w = d at hle h
  have key : ∀ d, d ≤ 21 → d = 0 ∨ d = 1 ∨ d = 2 ∨ d = 3 ∨ d = 4 ∨ d = 5 ∨ d = 6 ∨ d = 7 ∨ d = 8 ∨ d = 9 ∨ d = 10 ∨ d = 11 ∨ d = 12 ∨ d = 13 ∨ d = 14 ∨ d = 15 ∨ d = 16 ∨ d = 17 ∨ d = 18 ∨ d = 19 ∨ d = 20 ∨ d = 21 := by omega
  rcases key d hle with rfl | rfl | rfl | rfl | rfl | rfl | rfl | rfl | rfl | rfl | rfl | rfl | rfl | rfl | rfl | rfl | rfl | rfl | rfl | rfl | rfl | rfl
  · cases h
  · rw [show argsP 1 st = ((nameP st).map fun p0 => ({ op0 with d := (1 : Nat), name := p0.1 }, p0.2)) from rfl] at h
    simp only [Option.bind_eq_some_iff, Option.map_eq_some_iff] at h
    obtain ⟨_, ⟨⟨x0, s0⟩, h0, rfl⟩, he⟩ := h
    split at he
    · cases he
    · simp only [Option.some.injEq] at he
      subst he
      refine opP_of (w := [98, 101, 103, 105, 110]) (d := 1) (by decide) (by decide) ?_
      show Option.map _ (nameP (stOf [x0])) = _
      rw [nameP_of (nameP_inv h0)]
      rfl
  · rw [show argsP 2 st = ((numP st).bind fun p0 => (bytesP p0.2).map fun p1 => ({ op0 with d := (2 : Nat), n := p0.1, bytes := p1.1 }, p1.2)) from rfl] at h
    simp only [Option.bind_eq_some_iff, Option.map_eq_some_iff] at h
    obtain ⟨_, ⟨⟨x0, s0⟩, h0, ⟨⟨x1, s1⟩, h1, rfl⟩⟩, he⟩ := h
    split at he
    · cases he
    · simp only [Option.some.injEq] at he
      subst he
      refine opP_of (w := [119, 114, 105, 116, 101]) (d := 2) (by decide) (by decide) ?_
      show Option.bind (numP (stOf [numI (x0 : Int), textT x1])) _ = _
      rw [numP_of (numP_inv h0)]
      simp only [Option.bind_some, bytesP_of]
      rfl
  · rw [show argsP 3 st = ((numP st).map fun p0 => ({ op0 with d := (3 : Nat), n := p0.1 }, p0.2)) from rfl] at h
    simp only [Option.bind_eq_some_iff, Option.map_eq_some_iff] at h
    obtain ⟨_, ⟨⟨x0, s0⟩, h0, rfl⟩, he⟩ := h
    split at he
    · cases he
    · simp only [Option.some.injEq] at he
      subst he
      refine opP_of (w := [99, 111, 109, 109, 105, 116]) (d := 3) (by decide) (by decide) ?_
      show Option.map _ (numP (stOf [numI (x0 : Int)])) = _
      rw [numP_of (numP_inv h0)]
      rfl
  · rw [show argsP 4 st = ((numP st).map fun p0 => ({ op0 with d := (4 : Nat), n := p0.1 }, p0.2)) from rfl] at h
    simp only [Option.bind_eq_some_iff, Option.map_eq_some_iff] at h
    obtain ⟨_, ⟨⟨x0, s0⟩, h0, rfl⟩, he⟩ := h
    split at he
    · cases he
    · simp only [Option.some.injEq] at he
      subst he
      refine opP_of (w := [97, 98, 111, 114, 116]) (d := 4) (by decide) (by decide) ?_
      show Option.map _ (numP (stOf [numI (x0 : Int)])) = _
      rw [numP_of (numP_inv h0)]
      rfl
  · rw [show argsP 5 st = ((nameP st).bind fun p0 => (numP p0.2).map fun p1 => ({ op0 with d := (5 : Nat), name := p0.1, gen := p1.1 }, p1.2)) from rfl] at h
    simp only [Option.bind_eq_some_iff, Option.map_eq_some_iff] at h
    obtain ⟨_, ⟨⟨x0, s0⟩, h0, ⟨⟨x1, s1⟩, h1, rfl⟩⟩, he⟩ := h
    split at he
    · cases he
    · simp only [Option.some.injEq] at he
      subst he
      refine opP_of (w := [114, 101, 97, 100]) (d := 5) (by decide) (by decide) ?_
      show Option.bind (nameP (stOf [x0, numI (x1 : Int)])) _ = _
      rw [nameP_of (nameP_inv h0)]
      simp only [Option.bind_some, numP_of (numP_inv h1)]
      rfl
  · rw [show argsP 6 st = ((nameP st).bind fun p0 => (numP p0.2).bind fun p1 => (numP p1.2).bind fun p2 => (numP p2.2).map fun p3 => ({ op0 with d := (6 : Nat), name := p0.1, gen := p1.1, from_ := p2.1, size := p3.1 }, p3.2)) from rfl] at h
    simp only [Option.bind_eq_some_iff, Option.map_eq_some_iff] at h
    obtain ⟨_, ⟨⟨x0, s0⟩, h0, ⟨⟨x1, s1⟩, h1, ⟨⟨x2, s2⟩, h2, ⟨⟨x3, s3⟩, h3, rfl⟩⟩⟩⟩, he⟩ := h
    split at he
    · cases he
    · simp only [Option.some.injEq] at he
      subst he
      refine opP_of (w := [114, 97, 110, 103, 101]) (d := 6) (by decide) (by decide) ?_
      show Option.bind (nameP (stOf [x0, numI (x1 : Int), numI (x2 : Int), numI (x3 : Int)])) _ = _
      rw [nameP_of (nameP_inv h0)]
      simp only [Option.bind_some, numP_of (numP_inv h1)]
      simp only [Option.bind_some, numP_of (numP_inv h2)]
      simp only [Option.bind_some, numP_of (numP_inv h3)]
      rfl
  · rw [show argsP 7 st = ((nameP st).bind fun p0 => (nameP p0.2).map fun p1 => ({ op0 with d := (7 : Nat), shot := p0.1, name := p1.1 }, p1.2)) from rfl] at h
    simp only [Option.bind_eq_some_iff, Option.map_eq_some_iff] at h
    obtain ⟨_, ⟨⟨x0, s0⟩, h0, ⟨⟨x1, s1⟩, h1, rfl⟩⟩, he⟩ := h
    split at he
    · cases he
    · simp only [Option.some.injEq] at he
      subst he
      refine opP_of (w := [115, 104, 111, 119, 110]) (d := 7) (by decide) (by decide) ?_
      show Option.bind (nameP (stOf [x0, x1])) _ = _
      rw [nameP_of (nameP_inv h0)]
      simp only [Option.bind_some, nameP_of (nameP_inv h1)]
      rfl
  · rw [show argsP 8 st = ((nameP st).bind fun p0 => (numP p0.2).map fun p1 => ({ op0 with d := (8 : Nat), name := p0.1, gen := p1.1 }, p1.2)) from rfl] at h
    simp only [Option.bind_eq_some_iff, Option.map_eq_some_iff] at h
    obtain ⟨_, ⟨⟨x0, s0⟩, h0, ⟨⟨x1, s1⟩, h1, rfl⟩⟩, he⟩ := h
    split at he
    · cases he
    · simp only [Option.some.injEq] at he
      subst he
      refine opP_of (w := [115, 116, 97, 116]) (d := 8) (by decide) (by decide) ?_
      show Option.bind (nameP (stOf [x0, numI (x1 : Int)])) _ = _
      rw [nameP_of (nameP_inv h0)]
      simp only [Option.bind_some, numP_of (numP_inv h1)]
      rfl
  · rw [show argsP 9 st = some ({ op0 with d := (9 : Nat) }, st) from rfl] at h
    simp only [Option.bind_some] at h
    split at h
    · cases h
    · simp only [Option.some.injEq] at h
      subst h
      refine opP_of (w := [108, 105, 115, 116]) (d := 9) (by decide) (by decide) ?_
      rfl
  · rw [show argsP 10 st = ((nameP st).bind fun p0 => (numP p0.2).map fun p1 => ({ op0 with d := (10 : Nat), name := p0.1, gen := p1.1 }, p1.2)) from rfl] at h
    simp only [Option.bind_eq_some_iff, Option.map_eq_some_iff] at h
    obtain ⟨_, ⟨⟨x0, s0⟩, h0, ⟨⟨x1, s1⟩, h1, rfl⟩⟩, he⟩ := h
    split at he
    · cases he
    · simp only [Option.some.injEq] at he
      subst he
      refine opP_of (w := [100, 101, 108, 101, 116, 101]) (d := 10) (by decide) (by decide) ?_
      show Option.bind (nameP (stOf [x0, numI (x1 : Int)])) _ = _
      rw [nameP_of (nameP_inv h0)]
      simp only [Option.bind_some, numP_of (numP_inv h1)]
      rfl
  · rw [show argsP 11 st = ((nameP st).map fun p0 => ({ op0 with d := (11 : Nat), shot := p0.1 }, p0.2)) from rfl] at h
    simp only [Option.bind_eq_some_iff, Option.map_eq_some_iff] at h
    obtain ⟨_, ⟨⟨x0, s0⟩, h0, rfl⟩, he⟩ := h
    split at he
    · cases he
    · simp only [Option.some.injEq] at he
      subst he
      refine opP_of (w := [115, 110, 97, 112]) (d := 11) (by decide) (by decide) ?_
      show Option.map _ (nameP (stOf [x0])) = _
      rw [nameP_of (nameP_inv h0)]
      rfl
  · rw [show argsP 12 st = ((nameP st).map fun p0 => ({ op0 with d := (12 : Nat), shot := p0.1 }, p0.2)) from rfl] at h
    simp only [Option.bind_eq_some_iff, Option.map_eq_some_iff] at h
    obtain ⟨_, ⟨⟨x0, s0⟩, h0, rfl⟩, he⟩ := h
    split at he
    · cases he
    · simp only [Option.some.injEq] at he
      subst he
      refine opP_of (w := [117, 110, 115, 110, 97, 112]) (d := 12) (by decide) (by decide) ?_
      show Option.map _ (nameP (stOf [x0])) = _
      rw [nameP_of (nameP_inv h0)]
      rfl
  · rw [show argsP 13 st = ((numP st).map fun p0 => ({ op0 with d := (13 : Nat), n := p0.1 }, p0.2)) from rfl] at h
    simp only [Option.bind_eq_some_iff, Option.map_eq_some_iff] at h
    obtain ⟨_, ⟨⟨x0, s0⟩, h0, rfl⟩, he⟩ := h
    split at he
    · cases he
    · simp only [Option.some.injEq] at he
      subst he
      refine opP_of (w := [116, 105, 99, 107]) (d := 13) (by decide) (by decide) ?_
      show Option.map _ (numP (stOf [numI (x0 : Int)])) = _
      rw [numP_of (numP_inv h0)]
      rfl
  · rw [show argsP 14 st = ((numP st).bind fun p0 => (numP p0.2).bind fun p1 => (numP p1.2).bind fun p2 => (numP p2.2).map fun p3 => ({ op0 with d := (14 : Nat), last := p0.1, young := p1.1, step := p2.1, count := p3.1 }, p3.2)) from rfl] at h
    simp only [Option.bind_eq_some_iff, Option.map_eq_some_iff] at h
    obtain ⟨_, ⟨⟨x0, s0⟩, h0, ⟨⟨x1, s1⟩, h1, ⟨⟨x2, s2⟩, h2, ⟨⟨x3, s3⟩, h3, rfl⟩⟩⟩⟩, he⟩ := h
    split at he
    · cases he
    · simp only [Option.some.injEq] at he
      subst he
      refine opP_of (w := [101, 120, 112, 105, 114, 101]) (d := 14) (by decide) (by decide) ?_
      show Option.bind (numP (stOf [numI (x0 : Int), numI (x1 : Int), numI (x2 : Int), numI (x3 : Int)])) _ = _
      rw [numP_of (numP_inv h0)]
      simp only [Option.bind_some, numP_of (numP_inv h1)]
      simp only [Option.bind_some, numP_of (numP_inv h2)]
      simp only [Option.bind_some, numP_of (numP_inv h3)]
      rfl
  · rw [show argsP 15 st = ((numP st).map fun p0 => ({ op0 with d := (15 : Nat), n := p0.1 }, p0.2)) from rfl] at h
    simp only [Option.bind_eq_some_iff, Option.map_eq_some_iff] at h
    obtain ⟨_, ⟨⟨x0, s0⟩, h0, rfl⟩, he⟩ := h
    split at he
    · cases he
    · simp only [Option.some.injEq] at he
      subst he
      refine opP_of (w := [99, 108, 101, 97, 110]) (d := 15) (by decide) (by decide) ?_
      show Option.map _ (numP (stOf [numI (x0 : Int)])) = _
      rw [numP_of (numP_inv h0)]
      rfl
  · rw [show argsP 16 st = some ({ op0 with d := (16 : Nat) }, st) from rfl] at h
    simp only [Option.bind_some] at h
    split at h
    · cases h
    · simp only [Option.some.injEq] at h
      subst h
      refine opP_of (w := [115, 99, 114, 117, 98]) (d := 16) (by decide) (by decide) ?_
      rfl
  · rw [show argsP 17 st = some ({ op0 with d := (17 : Nat) }, st) from rfl] at h
    simp only [Option.bind_some] at h
    split at h
    · cases h
    · simp only [Option.some.injEq] at h
      subst h
      refine opP_of (w := [114, 101, 98, 117, 105, 108, 100]) (d := 17) (by decide) (by decide) ?_
      rfl
  · rw [show argsP 18 st = ((numP st).map fun p0 => ({ op0 with d := (18 : Nat), n := p0.1 }, p0.2)) from rfl] at h
    simp only [Option.bind_eq_some_iff, Option.map_eq_some_iff] at h
    obtain ⟨_, ⟨⟨x0, s0⟩, h0, rfl⟩, he⟩ := h
    split at he
    · cases he
    · simp only [Option.some.injEq] at he
      subst he
      refine opP_of (w := [116, 114, 105, 112]) (d := 18) (by decide) (by decide) ?_
      show Option.map _ (numP (stOf [numI (x0 : Int)])) = _
      rw [numP_of (numP_inv h0)]
      rfl
  · rw [show argsP 19 st = ((crashP st).map fun p => ({ op0 with d := (19 : Nat), keep := p.1.1, torn := p.1.2.1, at_ := p.1.2.2 }, p.2)) from rfl] at h
    simp only [Option.bind_eq_some_iff, Option.map_eq_some_iff] at h
    obtain ⟨_, ⟨⟨x, s0⟩, h0, rfl⟩, he⟩ := h
    split at he
    · cases he
    · simp only [Option.some.injEq] at he
      subst he
      obtain ⟨g1, g2⟩ := crashP_inv h0
      refine opP_of (w := [102, 97, 108, 108]) (d := 19) (by decide) (by decide) ?_
      show (crashP (stOf [keepT x.1, tornT x.2.1, numI (x.2.2 : Int)])).map _ = _
      rw [crashP_of g1 g2]
      rfl
  · rw [show argsP 20 st = some ({ op0 with d := (20 : Nat) }, st) from rfl] at h
    simp only [Option.bind_some] at h
    split at h
    · cases h
    · simp only [Option.some.injEq] at h
      subst h
      refine opP_of (w := [109, 111, 117, 110, 116]) (d := 20) (by decide) (by decide) ?_
      rfl
  · rw [show argsP 21 st = ((numP st).bind fun p0 => (bytesP p0.2).map fun p1 => ({ op0 with d := (21 : Nat), n := p0.1, bytes := p1.1 }, p1.2)) from rfl] at h
    simp only [Option.bind_eq_some_iff, Option.map_eq_some_iff] at h
    obtain ⟨_, ⟨⟨x0, s0⟩, h0, ⟨⟨x1, s1⟩, h1, rfl⟩⟩, he⟩ := h
    split at he
    · cases he
    · simp only [Option.some.injEq] at he
      subst he
      refine opP_of (w := [114, 111, 116]) (d := 21) (by decide) (by decide) ?_
      show Option.bind (numP (stOf [numI (x0 : Int), textT x1])) _ = _
      rw [numP_of (numP_inv h0)]
      simp only [Option.bind_some, bytesP_of]
      rfl
end Go.Proofs.YtogallbjmgoagaaDoor.Scr
