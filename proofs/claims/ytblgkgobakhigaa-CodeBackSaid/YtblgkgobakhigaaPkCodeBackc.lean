/-
  Part 3: HeapM, CdM, CdO, CdP, CdQ, NoA, NoB, NoC, NoD, NoE, NoF, NoG, NoH, NoI.
-/
import Derived.Test.YtblgkgobakhigaaPkCodeBacka
import Derived.Test.YtblgkgobakhigaaPkCodeBackb
set_option linter.unusedSimpArgs false
set_option linter.unusedVariables false
set_option linter.unusedSectionVars false
section
namespace Go.Proofs.Ytblgkgobakhigaa.HeapM
structure Ky where
  a : Int
  b : Int
def Ky.lt (x y : Ky) : Prop := x.a < y.a ∨ x.a = y.a ∧ x.b < y.b
def Ky.le (x y : Ky) : Prop := x.a < y.a ∨ x.a = y.a ∧ x.b ≤ y.b
instance (x y : Ky) : Decidable (x.lt y) := inferInstanceAs (Decidable (_ ∨ _))
theorem Ky.not_lt {x y : Ky} : ¬ x.lt y ↔ y.le x := by unfold Ky.lt Ky.le; omega
theorem Ky.le_of_lt {x y : Ky} (h : x.lt y) : x.le y := by unfold Ky.lt Ky.le at *; omega
theorem Ky.le_trans {x y z : Ky} (h : x.le y) (h' : y.le z) : x.le z := by unfold Ky.le at *; omega
theorem Ky.le_refl (x : Ky) : x.le x := by unfold Ky.le; omega
theorem Ky.le_antisymm {x y : Ky} (h : x.le y) (h' : y.le x) : x = y := by
  cases x; cases y; unfold Ky.le at *; simp only [Ky.mk.injEq] at *; omega
section
variable {α : Type} [Inhabited α] (key : α → Ky)
def at_ (l : List α) (i : Nat) : α := l.getD i default
theorem at_eq {l : List α} {i : Nat} (h : i < l.length) : at_ l i = l[i] := by simp [at_, h]
def sw (l : List α) (i j : Nat) : List α := (l.set i (at_ l j)).set j (at_ l i)
theorem sw_length (l : List α) (i j : Nat) : (sw l i j).length = l.length := by simp [sw]
theorem sw_perm {l : List α} {i j : Nat} (hi : i < l.length) (hj : j < l.length) : (sw l i j).Perm l := by
  unfold sw
  rw [at_eq hi, at_eq hj]
  exact List.set_set_perm hi hj
theorem sw_at {l : List α} {i j : Nat} (hi : i < l.length) (hj : j < l.length) (k : Nat) : at_ (sw l i j) k = if k = j then at_ l i else if k = i then at_ l j else at_ l k := by
  unfold sw
  simp only [at_, List.getD_eq_getElem?_getD, List.getElem?_set]
  by_cases h1 : j = k
  · subst h1; simp [hj]
  · by_cases h2 : i = k
    · subst h2; simp [h1, Ne.symm h1, hi]
    · simp [h1, h2, Ne.symm h1, Ne.symm h2]
def Hp (l : List α) (n k : Nat) : Prop := ∀ j, 1 ≤ j → j < n → k ≤ (j - 1) / 2 → (key (at_ l ((j - 1) / 2))).le (key (at_ l j))
structure Sift (l0 l : List α) (n i0 i : Nat) : Prop where
  perm : l.Perm l0
  ge : i0 ≤ i
  far : ∀ k, n ≤ k → at_ l k = at_ l0 k
  p : ∀ j, 1 ≤ j → j < n → i0 ≤ (j - 1) / 2 → (j - 1) / 2 ≠ i → (key (at_ l ((j - 1) / 2))).le (key (at_ l j))
  q : i0 < i → i0 ≤ (i - 1) / 2 ∧ ∀ c, 1 ≤ c → c < n → (c - 1) / 2 = i → (key (at_ l ((i - 1) / 2))).le (key (at_ l c))
variable {key}
theorem Sift.start {l : List α} {n i0 : Nat} (h : Hp key l n (i0 + 1)) : Sift key l l n i0 i0 :=
  ⟨.refl _, Nat.le_refl _, fun _ _ => rfl, fun j h1 h2 h3 h4 => h j h1 h2 (by omega), fun h => absurd h (Nat.lt_irrefl _)⟩
theorem Sift.leaf {l0 l : List α} {n i0 i : Nat} (h : Sift key l0 l n i0 i) (hl : n ≤ 2 * i + 1) : Hp key l n i0 := fun j h1 h2 h3 => h.p j h1 h2 h3 (by omega)
def Child (key : α → Ky) (l : List α) (n i j : Nat) : Prop := j < n ∧ (j = 2 * i + 1 ∨ j = 2 * i + 2) ∧ ∀ c, c < n → (c = 2 * i + 1 ∨ c = 2 * i + 2) → (key (at_ l j)).le (key (at_ l c))
theorem Sift.stop {l0 l : List α} {n i0 i j : Nat} (h : Sift key l0 l n i0 i) (hc : Child key l n i j) (hn : ¬ (key (at_ l j)).lt (key (at_ l i))) : Hp key l n i0 := fun m h1 h2 h3 => by
  by_cases hm : (m - 1) / 2 = i
  · rw [hm]
    exact Ky.le_trans (Ky.not_lt.1 hn) (hc.2.2 m h2 (by omega))
  · exact h.p m h1 h2 h3 hm
theorem Sift.step {l0 l : List α} {n i0 i j : Nat} (h : Sift key l0 l n i0 i) (hc : Child key l n i j) (hn : n ≤ l.length) (hl : (key (at_ l j)).lt (key (at_ l i))) : Sift key l0 (sw l i j) n i0 j := by
  obtain ⟨hj, hji, hmin⟩ := hc
  have hjl : j < l.length := by omega
  have hil : i < l.length := by omega
  have e := fun k => sw_at hil hjl k
  have hge := h.ge
  refine ⟨(sw_perm hil hjl).trans h.perm, by omega, fun k hk => ?_, fun m h1 h2 h3 h4 => ?_, fun _ => ⟨by omega, fun c h1 h2 h3 => ?_⟩⟩
  · rw [e, if_neg (by omega), if_neg (by omega)]; exact h.far k hk
  · rw [e, e]
    by_cases hm : m = j
    · subst hm
      have hp : (m - 1) / 2 = i := by omega
      rw [hp, if_neg (by omega), if_pos rfl, if_pos rfl]
      exact Ky.le_of_lt hl
    · by_cases hp : (m - 1) / 2 = i
      · rw [hp, if_neg (by omega), if_pos rfl, if_neg hm, if_neg (by omega)]
        exact hmin m h2 (by omega)
      · rw [if_neg h4, if_neg hp, if_neg hm]
        by_cases hmi : m = i
        · subst hmi
          rw [if_pos rfl]
          exact (h.q (by omega)).2 j (by omega) hj (by omega)
        · rw [if_neg hmi]
          exact h.p m h1 h2 h3 hp
  · have hp : (j - 1) / 2 = i := by omega
    rw [hp, e, e, if_neg (by omega), if_pos rfl, if_neg (by omega), if_neg (by omega)]
    have := h.p c h1 h2 (by omega) (by omega)
    rw [h3] at this
    exact this
theorem Hp.least {l : List α} {n : Nat} (h : Hp key l n 0) : ∀ k, k < n → (key (at_ l 0)).le (key (at_ l k)) := fun k => by
  induction k using Nat.strongRecOn with
  | _ k ih =>
    intro hk
    rcases Nat.eq_zero_or_pos k with rfl | hp
    · exact Ky.le_refl _
    · exact Ky.le_trans (ih ((k - 1) / 2) (by omega) (by omega)) (h k hp hk (Nat.zero_le _))
end
end Go.Proofs.Ytblgkgobakhigaa.HeapM
end
section
namespace Go.Proofs.Ytblgkgobakhigaa.Cod
open Go Go.SL Go.Proofs.Ytblgkgobakhigaa.HeapM
structure Tr where
  n : Int
  b : List Int
deriving DecidableEq
instance : Inhabited Tr := ⟨⟨0, []⟩⟩
def Tr.first (t : Tr) : Int := t.b.headD 256
def Tr.key (t : Tr) : Ky := ⟨t.n, t.first⟩
def bestI (l : List Tr) : Nat → Nat
  | 0 => 0
  | j + 1 => if (at_ l j).key.lt (at_ l (bestI l j)).key then j else bestI l j
theorem bestI_lt (l : List Tr) : ∀ j, 1 ≤ j → bestI l j < j
  | 0, h => by omega
  | j + 1, _ => by
    unfold bestI
    split
    · omega
    · rcases Nat.eq_zero_or_pos j with h | h
      · subst h; simp [bestI]
      · have := bestI_lt l j h; omega
theorem bestI_le (l : List Tr) : ∀ j k, k < j → (at_ l (bestI l j)).key.le (at_ l k).key
  | 0, k, h => by omega
  | j + 1, k, h => by
    unfold bestI
    split
    · rename_i hlt
      rcases Nat.lt_or_ge k j with hk | hk
      · exact Ky.le_trans (Ky.le_of_lt hlt) (bestI_le l j k hk)
      · have : k = j := by omega
        subst this; exact Ky.le_refl _
    · rename_i hlt
      rcases Nat.lt_or_ge k j with hk | hk
      · exact bestI_le l j k hk
      · have : k = j := by omega
        subst this; exact Ky.not_lt.1 hlt
def bestT (l : List Tr) : Tr := at_ l (bestI l l.length)
def restT (l : List Tr) : List Tr := l.take (bestI l l.length) ++ l.drop (bestI l l.length + 1)
theorem best_perm {l : List Tr} (h : l ≠ []) : (bestT l :: restT l).Perm l := by
  have hl := bestI_lt l l.length (List.length_pos_iff.2 h)
  unfold bestT restT
  rw [at_eq hl]
  have e : l = l.take (bestI l l.length) ++ l[bestI l l.length] :: l.drop (bestI l l.length + 1) := by
    rw [List.getElem_cons_drop, List.take_append_drop]
  conv => rhs; rw [e]
  exact List.perm_middle.symm
theorem best_le {l : List Tr} {y : Tr} (h : y ∈ l) : (bestT l).key.le y.key := by
  obtain ⟨k, hk, rfl⟩ := List.getElem_of_mem h
  have := bestI_le l l.length k hk
  rwa [at_eq hk] at this
theorem rest_len {l : List Tr} (h : l ≠ []) : (restT l).length + 1 = l.length := by
  have := (best_perm h).length_eq
  simpa using this
structure Dis (l : List Tr) : Prop where
  nod : (l.flatMap (·.b)).Nodup
  ne : ∀ t ∈ l, t.b ≠ []
theorem Dis.perm {l l' : List Tr} (h : Dis l) (p : l.Perm l') : Dis l' :=
  ⟨(List.Perm.nodup_iff (List.Perm.flatMap_right _ p)).1 h.nod, fun t ht => h.ne t (p.mem_iff.2 ht)⟩
theorem Tr.first_mem {t : Tr} (h : t.b ≠ []) : t.first ∈ t.b := by
  unfold Tr.first
  cases hb : t.b with
  | nil => exact (h hb).elim
  | cons a l => simp
theorem Dis.uniq {l : List Tr} (h : Dis l) {x y : Tr} (hx : x ∈ l) (hy : y ∈ l) {i : Int} (hix : i ∈ x.b) (hiy : i ∈ y.b) : x = y := by
  have hn := h.nod
  clear h
  induction l with
  | nil => cases hx
  | cons t l ih =>
    rw [List.flatMap_cons] at hn
    obtain ⟨h1, h2, h3⟩ := List.nodup_append.1 hn
    rcases List.mem_cons.1 hx with e1 | hx'
    · rcases List.mem_cons.1 hy with e2 | hy'
      · rw [e1, e2]
      · subst e1
        exact (h3 i hix i (List.mem_flatMap.2 ⟨y, hy', hiy⟩) rfl).elim
    · rcases List.mem_cons.1 hy with e2 | hy'
      · subst e2
        exact (h3 i hiy i (List.mem_flatMap.2 ⟨x, hx', hix⟩) rfl).elim
      · exact ih hx' hy' h2
theorem Dis.least {l : List Tr} (h : Dis l) {x y : Tr} (hx : x ∈ l) (hy : y ∈ l) (h1 : ∀ z ∈ l, x.key.le z.key) (h2 : ∀ z ∈ l, y.key.le z.key) : x = y := by
  have e := Ky.le_antisymm (h1 y hy) (h2 x hx)
  have ef : x.first = y.first := congrArg Ky.b e
  exact h.uniq hx hy (Tr.first_mem (h.ne x hx)) (by rw [ef]; exact Tr.first_mem (h.ne y hy))
def bump (out : List Int) (b : List Int) : List Int := out.mapIdx fun i v => if (i : Int) ∈ b then v + 1 else v
theorem bump_len (out b : List Int) : (bump out b).length = out.length := by simp [bump]
theorem bump_at {out b : List Int} {i : Nat} {v : Int} (h : out[i]? = some v) : (bump out b)[i]? = some (if (i : Int) ∈ b then v + 1 else v) := by
  unfold bump
  rw [List.getElem?_mapIdx, h]; rfl
theorem bump_perm {out b b' : List Int} (h : ∀ x, x ∈ b ↔ x ∈ b') : bump out b = bump out b' := by
  unfold bump
  congr 1; funext i v
  by_cases hi : (i : Int) ∈ b
  · rw [if_pos hi, if_pos ((h _).1 hi)]
  · rw [if_neg hi, if_neg fun h' => hi ((h _).2 h')]
theorem bump_nil (out : List Int) : bump out [] = out := by
  apply List.ext_getElem?
  intro i
  unfold bump
  rw [List.getElem?_mapIdx]
  cases out[i]? <;> simp
theorem bump_snoc {out b : List Int} {x : Nat} {v : Int} (hx : (x : Int) ∉ b) (hv : out[x]? = some v) : bump out (b ++ [(x : Int)]) = (bump out b).set x (v + 1) := by
  have hlt := (List.getElem?_eq_some_iff.1 hv).1
  apply List.ext_getElem?
  intro i
  rw [List.getElem?_set]
  cases hi : out[i]? with
  | none =>
    have hge := List.getElem?_eq_none_iff.1 hi
    rw [List.getElem?_eq_none (by rw [bump_len]; omega), if_neg (by omega), List.getElem?_eq_none (by rw [bump_len]; omega)]
  | some u =>
    rw [bump_at hi]
    by_cases hxi : x = i
    · subst hxi
      rw [hv] at hi; cases hi
      rw [if_pos (show x = x from rfl), if_pos (show (x : Int) ∈ b ++ [(x : Int)] by simp), if_pos (show x < (bump out b).length by rw [bump_len]; exact hlt)]
    · rw [if_neg hxi, bump_at hi]
      have : ((i : Int) ∈ b ++ [(x : Int)]) ↔ (i : Int) ∈ b := by
        rw [List.mem_append, List.mem_singleton]
        constructor
        · rintro (h | h)
          · exact h
          · omega
        · exact .inl
      by_cases hb : (i : Int) ∈ b
      · rw [if_pos hb, if_pos (this.2 hb)]
      · rw [if_neg hb, if_neg fun h => hb (this.1 h)]
def joinT (x y : Tr) : Tr := ⟨x.n + y.n, sortI (x.b ++ y.b)⟩
theorem sortI_mem {l : List Int} {x : Int} : x ∈ sortI l ↔ x ∈ l := List.mem_mergeSort
theorem sortI_perm (l : List Int) : (sortI l).Perm l := List.mergeSort_perm ..
def stepT (s : List Tr × List Int) : List Tr × List Int :=
  (restT (restT s.1) ++ [joinT (bestT s.1) (bestT (restT s.1))], bump s.2 (joinT (bestT s.1) (bestT (restT s.1))).b)
def huff : Nat → List Tr × List Int → List Tr × List Int
  | 0, s => s
  | k + 1, s => if 1 < s.1.length then huff k (stepT s) else s
theorem step_perm {l : List Tr} (h : 1 < l.length) : (bestT l :: bestT (restT l) :: restT (restT l)).Perm l := by
  have h0 : l ≠ [] := by intro e; subst e; simp at h
  have hl := rest_len h0
  have h1 : restT l ≠ [] := by intro e; rw [e] at hl; simp at hl; omega
  exact ((best_perm h1).cons _).trans (best_perm h0)
theorem step_len {s : List Tr × List Int} (h : 1 < s.1.length) : (stepT s).1.length + 1 = s.1.length := by
  have := (step_perm h).length_eq
  simp only [stepT, List.length_append, List.length_cons, List.length_nil] at this ⊢
  omega
def leafs (cs : List Int) : List Tr := (List.range cs.length).filterMap fun i => if 0 < cs.getD i 0 then some ⟨cs.getD i 0, [(i : Int)]⟩ else none
def badC (cs : List Int) : Prop := ∃ c ∈ cs, c < 0 ∨ 8192 < c
instance (cs : List Int) : Decidable (badC cs) := by unfold badC; infer_instance
def zeros : List Int := List.replicate 256 0
def lens (cs : List Int) : List Int :=
  if badC cs then zeros else
  if (leafs cs).length = 1 then (bump zeros ((leafs cs).flatMap (·.b))) else (huff (leafs cs).length (leafs cs, zeros)).2
def lensE (cs : List Int) : Int := if badC cs then 2 else 0
theorem huff_stop {k : Nat} {s : List Tr × List Int} (h : s.1.length ≤ 1) : huff k s = s := by
  cases k with
  | zero => rfl
  | succ k => unfold huff; rw [if_neg (by omega)]
theorem huff_step {k : Nat} {s : List Tr × List Int} (h : 1 < s.1.length) (hk : s.1.length ≤ k + 1) : huff s.1.length s = huff (stepT s).1.length (stepT s) := by
  have := step_len h
  rw [← this]
  conv => lhs; unfold huff
  rw [if_pos (by omega)]
theorem Dis.step {s : List Tr × List Int} (h : Dis s.1) (hl : 1 < s.1.length) : Dis (stepT s).1 := by
  have hd := h.perm (step_perm hl).symm
  have h1 := hd.nod
  rw [List.flatMap_cons, List.flatMap_cons, ← List.append_assoc] at h1
  refine ⟨?_, fun t ht => ?_⟩
  · simp only [stepT, List.flatMap_append, List.flatMap_cons, List.flatMap_nil, List.append_nil]
    refine (List.Perm.nodup_iff ?_).1 h1
    refine List.perm_append_comm.trans ?_
    exact List.Perm.append_left _ (sortI_perm _).symm
  · simp only [stepT] at ht
    rcases List.mem_append.1 ht with ht | ht
    · exact hd.ne t (List.mem_cons_of_mem _ (List.mem_cons_of_mem _ ht))
    · simp only [List.mem_singleton] at ht
      subst ht
      intro e
      have hx := hd.ne (bestT s.1) (by simp)
      have := (sortI_perm ((bestT s.1).b ++ (bestT (restT s.1)).b)).length_eq
      rw [show sortI ((bestT s.1).b ++ (bestT (restT s.1)).b) = [] from e] at this
      simp only [List.length_nil, List.length_append] at this
      exact hx (List.length_eq_zero_iff.1 (by omega))
theorem leafs_mem {cs : List Int} {t : Tr} : t ∈ leafs cs ↔ ∃ i : Nat, i < cs.length ∧ 0 < cs.getD i 0 ∧ t = ⟨cs.getD i 0, [(i : Int)]⟩ := by
  unfold leafs
  rw [List.mem_filterMap]
  constructor
  · rintro ⟨i, hi, h⟩
    split at h
    · rename_i hp
      cases h
      exact ⟨i, List.mem_range.1 hi, hp, rfl⟩
    · cases h
  · rintro ⟨i, hi, hp, rfl⟩
    exact ⟨i, List.mem_range.2 hi, by rw [if_pos hp]⟩
theorem leafs_b (cs : List Int) : (leafs cs).flatMap (·.b) = ((List.range cs.length).filter fun i => decide (0 < cs.getD i 0)).map fun i : Nat => (i : Int) := by
  unfold leafs
  generalize List.range cs.length = r
  induction r with
  | nil => rfl
  | cons i r ih =>
    rw [List.filterMap_cons, List.filter_cons]
    by_cases h : 0 < cs.getD i 0
    · rw [if_pos h, if_pos (by simpa using h)]
      simp only [List.flatMap_cons, List.map_cons, ih]; rfl
    · rw [if_neg h, if_neg (by simpa using h)]; exact ih
theorem leafs_dis (cs : List Int) : Dis (leafs cs) := by
  refine ⟨?_, fun t ht => ?_⟩
  · rw [leafs_b]
    refine List.Pairwise.map (R := fun a b : Nat => a ≠ b) _ (fun a b h => ?_) ((List.nodup_range).filter _)
    omega
  · obtain ⟨i, _, _, rfl⟩ := leafs_mem.1 ht
    simp
end Go.Proofs.Ytblgkgobakhigaa.Cod
end
section
namespace Go.Proofs.Ytblgkgobakhigaa.Cod
open Go Go.SL Go.Proofs.Ytblgkgobakhigaa.HeapM
abbrev It := Nat × Nat
def kr (D : Nat) : List It → Nat
  | [] => 0
  | p :: l => 2 ^ (D - p.2) + kr D l
inductive Huf : List Nat → Nat → Prop
  | one (w : Nat) : Huf [w] 0
  | step {W R : List Nat} {x y c : Nat} : W.Perm (x :: y :: R) → (∀ w ∈ R, y ≤ w) → x ≤ y → Huf ((x + y) :: R) c → Huf W (c + (x + y))
end Go.Proofs.Ytblgkgobakhigaa.Cod
end
section
namespace Go.Proofs.Ytblgkgobakhigaa.Cod
open Go Go.SL Go.Proofs.Ytblgkgobakhigaa.HeapM
def sumI : List Int → Int
  | [] => 0
  | x :: l => x + sumI l
def sumN : List Nat → Nat
  | [] => 0
  | x :: l => x + sumN l
theorem sumI_perm {l l' : List Int} (h : l.Perm l') : sumI l = sumI l' := by
  induction h with
  | nil => rfl
  | cons x _ ih => simp only [sumI, ih]
  | swap x y l => simp only [sumI]; omega
  | trans _ _ i1 i2 => rw [i1, i2]
theorem sumN_perm {l l' : List Nat} (h : l.Perm l') : sumN l = sumN l' := by
  induction h with
  | nil => rfl
  | cons x _ ih => simp only [sumN, ih]
  | swap x y l => simp only [sumN]; omega
  | trans _ _ i1 i2 => rw [i1, i2]
theorem sumI_app (a b : List Int) : sumI (a ++ b) = sumI a + sumI b := by
  induction a with
  | nil => simp [sumI]
  | cons x a ih => simp only [List.cons_append, sumI, ih]; omega
theorem sumN_app (a b : List Nat) : sumN (a ++ b) = sumN a + sumN b := by
  induction a with
  | nil => simp [sumN]
  | cons x a ih => simp only [List.cons_append, sumN, ih]; omega
def gt (l : List Int) (i : Int) : Int := l.getD i.toNat 0
def wsum (cs b : List Int) : Int := sumI (b.map (gt cs))
def ksum (out b : List Int) : Nat := sumN (b.map fun i => 2 ^ (60 - (gt out i).toNat))
def csum (cs out b : List Int) : Int := sumI (b.map fun i => gt cs i * gt out i)
def F : Nat → Nat
  | 0 => 1
  | 1 => 2
  | n + 2 => F (n + 1) + F n
theorem F_le (n : Nat) : F n ≤ F (n + 1) ∧ F (n + 1) ≤ 2 * F n := by
  induction n with
  | zero => simp [F]
  | succ n ih =>
    have : F (n + 1 + 1) = F (n + 1) + F n := rfl
    omega
theorem F_mono {a b : Nat} (h : a ≤ b) : F a ≤ F b := by
  induction b with
  | zero => have : a = 0 := by omega
            subst this; exact Nat.le_refl _
  | succ b ih =>
    rcases Nat.lt_or_ge a (b + 1) with hl | hl
    · exact Nat.le_trans (ih (by omega)) (F_le b).1
    · have : a = b + 1 := by omega
      subst this; exact Nat.le_refl _
theorem F_30 : F 30 = 2178309 := by decide +kernel
theorem F_small {d : Nat} (h : F d ≤ 2097152) : d ≤ 29 := by
  refine Classical.byContradiction fun hn => ?_
  have := F_mono (show 30 ≤ d by omega)
  rw [F_30] at this
  omega
structure Dp (l : List Tr) (out : List Int) (t : Tr) (d : Nat) (m : Int) : Prop where
  f : (F d : Int) ≤ t.n
  o : ∀ i ∈ t.b, 0 ≤ gt out i ∧ gt out i ≤ d
  g : d = 0 ∨ (F (d - 1) : Int) ≤ m
  s : ∀ u ∈ l, u ≠ t → m ≤ u.n
structure J (cs : List Int) (l : List Tr) (out : List Int) : Prop where
  ln : out.length = 256
  dis : Dis l
  rng : ∀ t ∈ l, ∀ i ∈ t.b, 0 ≤ i ∧ i < 256
  wt : ∀ t ∈ l, t.n = wsum cs t.b
  pos : ∀ t ∈ l, 1 ≤ t.n
  tot : sumI (l.map (·.n)) ≤ 2097152
  off : ∀ i : Nat, i < 256 → (∀ t ∈ l, (i : Int) ∉ t.b) → out.getD i 0 = 0
  dep : ∀ t ∈ l, ∃ d m, Dp l out t d m
  krf : ∀ t ∈ l, ksum out t.b = 2 ^ 60
variable {cs out : List Int} {l : List Tr}
theorem J.perm {l' : List Tr} (h : J cs l out) (p : l.Perm l') : J cs l' out where
  ln := h.ln
  dis := h.dis.perm p
  rng := fun t ht => h.rng t (p.mem_iff.2 ht)
  wt := fun t ht => h.wt t (p.mem_iff.2 ht)
  pos := fun t ht => h.pos t (p.mem_iff.2 ht)
  tot := by rw [← sumI_perm (p.map _)]; exact h.tot
  off := fun i hi ho => h.off i hi fun t ht => ho t (p.mem_iff.1 ht)
  dep := fun t ht => by
    obtain ⟨d, m, hd⟩ := h.dep t (p.mem_iff.2 ht)
    exact ⟨d, m, hd.f, hd.o, hd.g, fun u hu => hd.s u (p.mem_iff.2 hu)⟩
  krf := fun t ht => h.krf t (p.mem_iff.2 ht)
theorem gt_bump {b : List Int} {i : Int} (h0 : 0 ≤ i) (h : i < out.length) : gt (bump out b) i = if i ∈ b then gt out i + 1 else gt out i := by
  unfold gt
  have hlt : i.toNat < out.length := by omega
  have e : ((i.toNat : Nat) : Int) = i := by omega
  rw [List.getD_eq_getElem?_getD, bump_at (List.getElem?_eq_getElem hlt), List.getD_eq_getElem?_getD, List.getElem?_eq_getElem hlt, e]
  simp only [Option.getD_some]
theorem sumI_pos {l : List Int} (h : ∀ x ∈ l, 0 ≤ x) : 0 ≤ sumI l := by
  induction l with
  | nil => exact Int.le_refl _
  | cons x l ih =>
    have := h x (by simp)
    have := ih fun y hy => h y (List.mem_cons_of_mem _ hy)
    simp only [sumI]; omega
theorem sumI_le {l : List Int} (h : ∀ x ∈ l, 0 ≤ x) {x : Int} (hx : x ∈ l) : x ≤ sumI l := by
  induction l with
  | nil => cases hx
  | cons y l ih =>
    have h1 := h y (by simp)
    have h2 := sumI_pos fun z hz => h z (List.mem_cons_of_mem _ hz)
    simp only [sumI]
    rcases List.mem_cons.1 hx with rfl | hx
    · omega
    · have := ih (fun z hz => h z (List.mem_cons_of_mem _ hz)) hx
      omega
theorem J.small (h : J cs l out) {t : Tr} (ht : t ∈ l) {d : Nat} {m : Int} (hd : Dp l out t d m) : d ≤ 29 := by
  have h1 := sumI_le (l := l.map (·.n)) (fun x hx => by
    obtain ⟨u, hu, rfl⟩ := List.mem_map.1 hx
    have := h.pos u hu; omega) (List.mem_map_of_mem (f := (·.n)) ht)
  have h2 := h.tot
  have h3 := hd.f
  exact F_small (by omega)
theorem ksum_bump {b z : List Int} (h : ∀ i ∈ b, (0 ≤ i ∧ i < out.length) ∧ i ∈ z ∧ 0 ≤ gt out i ∧ gt out i ≤ 59) : 2 * ksum (bump out z) b = ksum out b := by
  induction b with
  | nil => rfl
  | cons i b ih =>
    obtain ⟨⟨h1, h2⟩, h3, h4, h5⟩ := h i (by simp)
    have ih := ih fun j hj => h j (List.mem_cons_of_mem _ hj)
    unfold ksum at ih ⊢
    simp only [List.map_cons, sumN, gt_bump h1 h2, if_pos h3]
    have e : (2 : Nat) ^ (60 - (gt out i).toNat) = 2 * 2 ^ (60 - (gt out i + 1).toNat) := by
      rw [show 60 - (gt out i).toNat = (60 - (gt out i + 1).toNat) + 1 by omega, Nat.pow_succ]; omega
    rw [e]
    omega
theorem ksum_same {b z : List Int} (h : ∀ i ∈ b, (0 ≤ i ∧ i < out.length) ∧ i ∉ z) : ksum (bump out z) b = ksum out b := by
  unfold ksum
  congr 1
  refine List.map_congr_left fun i hi => ?_
  obtain ⟨⟨h1, h2⟩, h3⟩ := h i hi
  rw [gt_bump h1 h2, if_neg h3]
theorem csum_bump {b z : List Int} (h : ∀ i ∈ b, (0 ≤ i ∧ i < out.length) ∧ i ∈ z) : csum cs (bump out z) b = csum cs out b + wsum cs b := by
  induction b with
  | nil => rfl
  | cons i b ih =>
    obtain ⟨⟨h1, h2⟩, h3⟩ := h i (by simp)
    have ih := ih fun j hj => h j (List.mem_cons_of_mem _ hj)
    unfold csum wsum at ih ⊢
    simp only [List.map_cons, sumI, gt_bump h1 h2, if_pos h3, Int.mul_add, Int.mul_one]
    omega
theorem csum_same {b z : List Int} (h : ∀ i ∈ b, (0 ≤ i ∧ i < out.length) ∧ i ∉ z) : csum cs (bump out z) b = csum cs out b := by
  unfold csum
  congr 1
  refine List.map_congr_left fun i hi => ?_
  obtain ⟨⟨h1, h2⟩, h3⟩ := h i hi
  rw [gt_bump h1 h2, if_neg h3]
theorem joinT_mem {x y : Tr} {i : Int} : i ∈ (joinT x y).b ↔ i ∈ x.b ∨ i ∈ y.b := by
  unfold joinT
  rw [sortI_mem, List.mem_append]
theorem wsum_join (x y : Tr) : wsum cs (joinT x y).b = wsum cs x.b + wsum cs y.b := by
  unfold wsum joinT
  rw [sumI_perm ((sortI_perm _).map _), List.map_append, sumI_app]
theorem ksum_join (x y : Tr) : ksum out (joinT x y).b = ksum out x.b + ksum out y.b := by
  unfold ksum joinT
  rw [sumN_perm ((sortI_perm _).map _), List.map_append, sumN_app]
theorem csum_join (x y : Tr) : csum cs out (joinT x y).b = csum cs out x.b + csum cs out y.b := by
  unfold csum joinT
  rw [sumI_perm ((sortI_perm _).map _), List.map_append, sumI_app]
theorem J.merge {x y : Tr} {r : List Tr} (h : J cs (x :: y :: r) out) (hxy : x.n ≤ y.n) (hy : ∀ t ∈ r, y.n ≤ t.n) : J cs (joinT x y :: r) (bump out (joinT x y).b) := by
  have hx0 := h.pos x (by simp)
  have hy0 := h.pos y (by simp)
  have hn := h.dis.nod
  rw [List.flatMap_cons, List.flatMap_cons] at hn
  obtain ⟨n1, n2, n3⟩ := List.nodup_append.1 hn
  obtain ⟨n4, n5, n6⟩ := List.nodup_append.1 n2
  have hrz : ∀ t ∈ r, ∀ i ∈ t.b, i ∉ (joinT x y).b := fun t ht i hi hz => by
    rcases joinT_mem.1 hz with hz | hz
    · exact n3 i hz i (List.mem_append_right _ (List.mem_flatMap.2 ⟨t, ht, hi⟩)) rfl
    · exact n6 i hz i (List.mem_flatMap.2 ⟨t, ht, hi⟩) rfl
  have rngx := h.rng x (by simp)
  have rngy := h.rng y (by simp)
  have rngr : ∀ t ∈ r, ∀ i ∈ t.b, 0 ≤ i ∧ i < 256 := fun t ht => h.rng t (by simp [ht])
  have ln := h.ln
  obtain ⟨dx, mx, hdx⟩ := h.dep x (by simp)
  obtain ⟨dy, my, hdy⟩ := h.dep y (by simp)
  have hdx29 := h.small (by simp) hdx
  have hdy29 := h.small (by simp) hdy
  have hneq : x ≠ y := by
    intro e
    subst e
    have := Tr.first_mem (h.dis.ne x (by simp))
    exact n3 _ this _ (List.mem_append_left _ this) rfl
  refine ⟨by rw [bump_len]; exact ln, ⟨?_, fun t ht => ?_⟩, fun t ht i hi => ?_, fun t ht => ?_, fun t ht => ?_, ?_, fun i hi ho => ?_, fun t ht => ?_, fun t ht => ?_⟩
  · rw [List.flatMap_cons]
    rw [← List.append_assoc] at hn
    exact (List.Perm.nodup_iff (List.Perm.append_right _ (sortI_perm _).symm)).1 hn
  · rcases List.mem_cons.1 ht with rfl | ht
    · intro e
      have := Tr.first_mem (h.dis.ne x (by simp))
      have := (joinT_mem (x := x) (y := y)).2 (.inl this)
      rw [e] at this; cases this
    · exact h.dis.ne t (by simp [ht])
  · rcases List.mem_cons.1 ht with rfl | ht
    · rcases joinT_mem.1 hi with hi | hi
      · exact rngx i hi
      · exact rngy i hi
    · exact rngr t ht i hi
  · rcases List.mem_cons.1 ht with rfl | ht
    · rw [wsum_join, ← h.wt x (by simp), ← h.wt y (by simp)]; rfl
    · exact h.wt t (by simp [ht])
  · rcases List.mem_cons.1 ht with rfl | ht
    · show 1 ≤ x.n + y.n; omega
    · exact h.pos t (by simp [ht])
  · have := h.tot
    simp only [List.map_cons, sumI, joinT] at this ⊢; omega
  · have hz : (i : Int) ∉ (joinT x y).b := ho _ (by simp)
    have := gt_bump (out := out) (b := (joinT x y).b) (i := (i : Int)) (by omega) (by omega)
    rw [if_neg hz] at this
    unfold gt at this
    simp only [Int.toNat_natCast] at this
    rw [this]
    refine h.off i hi fun t ht hit => ?_
    rcases List.mem_cons.1 ht with rfl | ht
    · exact hz (joinT_mem.2 (.inl hit))
    rcases List.mem_cons.1 ht with rfl | ht
    · exact hz (joinT_mem.2 (.inr hit))
    · exact ho t (by simp [ht]) hit
  · rcases List.mem_cons.1 ht with rfl | ht
    · refine ⟨1 + max dx dy, y.n, ?_, fun i hi => ?_, .inr ?_, fun u hu hne => ?_⟩
      · show ((F (1 + max dx dy) : Nat) : Int) ≤ x.n + y.n
        have f1 := hdx.f
        have f2 := hdy.f
        rcases Nat.le_total dy dx with hd | hd
        · rw [Nat.max_eq_left hd, Nat.add_comm 1 dx]
          have := (F_le dx).2
          omega
        · rcases Nat.eq_zero_or_pos dy with h0 | h0
          · have : dx = 0 := by omega
            subst h0 this
            simp only [F] at *
            show ((2 : Nat) : Int) ≤ _
            omega
          · rw [Nat.max_eq_right hd]
            obtain ⟨k, rfl⟩ : ∃ k, dy = k + 1 := ⟨dy - 1, by omega⟩
            rw [show 1 + (k + 1) = k + 2 by omega]
            have e : F (k + 2) = F (k + 1) + F k := rfl
            have h3 := hdy.g.resolve_left (by omega)
            simp only [Nat.add_sub_cancel] at h3
            have h4 := hdy.s x (by simp) hneq
            omega
      · have hr : (0 ≤ i ∧ i < 256) ∧ (0 ≤ gt out i ∧ gt out i ≤ max dx dy) := by
          rcases joinT_mem.1 hi with hi | hi
          · have := hdx.o i hi; exact ⟨rngx i hi, by omega⟩
          · have := hdy.o i hi; exact ⟨rngy i hi, by omega⟩
        rw [gt_bump hr.1.1 (by omega), if_pos hi]
        omega
      · show ((F (1 + max dx dy - 1) : Nat) : Int) ≤ y.n
        have f1 := hdx.f
        have f2 := hdy.f
        rw [Nat.add_sub_cancel_left]
        rcases Nat.le_total dy dx with hd | hd
        · rw [Nat.max_eq_left hd]; omega
        · rw [Nat.max_eq_right hd]; exact f2
      · rcases List.mem_cons.1 hu with rfl | hu
        · exact (hne rfl).elim
        · exact hy u hu
    · obtain ⟨d, m, hd⟩ := h.dep t (by simp [ht])
      have htx : x ≠ t := by
        intro e
        subst e
        have := Tr.first_mem (h.dis.ne x (by simp))
        exact n3 _ this _ (List.mem_append_right _ (List.mem_flatMap.2 ⟨x, ht, this⟩)) rfl
      have hmx := hd.s x (by simp) htx
      refine ⟨d, m, hd.f, fun i hi => ?_, hd.g, fun u hu hne => ?_⟩
      · have hr := rngr t ht i hi
        rw [gt_bump hr.1 (by omega), if_neg (hrz t ht i hi)]
        exact hd.o i hi
      · rcases List.mem_cons.1 hu with rfl | hu
        · show m ≤ x.n + y.n; omega
        · exact hd.s u (by simp [hu]) hne
  · rcases List.mem_cons.1 ht with rfl | ht
    · have h1 : 2 * ksum (bump out (joinT x y).b) x.b = ksum out x.b := ksum_bump fun i hi => by
        have r1 := rngx i hi
        have o1 := hdx.o i hi
        exact ⟨⟨r1.1, by omega⟩, joinT_mem.2 (.inl hi), o1.1, by omega⟩
      have h2 : 2 * ksum (bump out (joinT x y).b) y.b = ksum out y.b := ksum_bump fun i hi => by
        have r1 := rngy i hi
        have o1 := hdy.o i hi
        exact ⟨⟨r1.1, by omega⟩, joinT_mem.2 (.inr hi), o1.1, by omega⟩
      have h3 := h.krf x (by simp)
      have h4 := h.krf y (by simp)
      rw [ksum_join]
      omega
    · rw [ksum_same fun i hi => ⟨⟨(rngr t ht i hi).1, by have := (rngr t ht i hi).2; omega⟩, hrz t ht i hi⟩]
      exact h.krf t (by simp [ht])
end Go.Proofs.Ytblgkgobakhigaa.Cod
end
section
namespace Go.Proofs.Ytblgkgobakhigaa.Cod
open Go Go.SL Go.Proofs.Ytblgkgobakhigaa.HeapM
variable {cs out : List Int} {l : List Tr}
theorem key_n {x y : Tr} (h : x.key.le y.key) : x.n ≤ y.n := by
  unfold Ky.le Tr.key at h
  simp only at h
  omega
theorem J.step (h : J cs l out) (hl : 1 < l.length) : J cs (stepT (l, out)).1 (stepT (l, out)).2 ∧ (∀ i, i ∈ (stepT (l, out)).1.flatMap (·.b) ↔ i ∈ l.flatMap (·.b)) ∧
    (∀ c, Huf ((stepT (l, out)).1.map (·.n.toNat)) c → Huf (l.map (·.n.toNat)) (c + ((bestT l).n.toNat + (bestT (restT l)).n.toNat))) ∧
    csum cs (stepT (l, out)).2 ((stepT (l, out)).1.flatMap (·.b)) = csum cs out (l.flatMap (·.b)) + ((bestT l).n + (bestT (restT l)).n) := by
  have hp := step_perm hl
  have h0 : l ≠ [] := by intro e; subst e; simp at hl
  have h1 : restT l ≠ [] := by
    have := rest_len h0
    intro e; rw [e] at this; simp at this; omega
  have hbl : ∀ t ∈ l, (bestT l).n ≤ t.n := fun t ht => key_n (best_le ht)
  have hbr : ∀ t ∈ restT l, (bestT (restT l)).n ≤ t.n := fun t ht => key_n (best_le ht)
  have hxl : bestT l ∈ l := hp.mem_iff.1 (by simp)
  have hyr : bestT (restT l) ∈ restT l := (best_perm h1).mem_iff.1 (by simp)
  have hyl : bestT (restT l) ∈ l := hp.mem_iff.1 (by simp)
  have hrr : ∀ t ∈ restT (restT l), t ∈ restT l := fun t ht => (best_perm h1).mem_iff.1 (List.mem_cons_of_mem _ ht)
  have hj := h.perm hp.symm
  have px := h.pos _ hxl
  have py := h.pos _ hyl
  have hm := hj.merge (hbl _ hyl) fun t ht => hbr t (hrr t ht)
  have pz : (joinT (bestT l) (bestT (restT l)) :: restT (restT l)).Perm (stepT (l, out)).1 := List.perm_append_comm (l₁ := [_])
  have hpf : (l.flatMap (·.b)).Perm ((bestT l).b ++ ((bestT (restT l)).b ++ (restT (restT l)).flatMap (·.b))) := by
    have := List.Perm.flatMap_right (fun t : Tr => t.b) hp.symm
    simpa using this
  refine ⟨hm.perm pz, fun i => ?_, fun c hc => ?_, ?_⟩
  · rw [(List.Perm.flatMap_right _ pz.symm).mem_iff, hpf.mem_iff]
    simp only [List.flatMap_cons, List.mem_append, joinT_mem]
    constructor
    · rintro ((h | h) | h)
      · exact .inl h
      · exact .inr (.inl h)
      · exact .inr (.inr h)
    · rintro (h | h | h)
      · exact .inl (.inl h)
      · exact .inl (.inr h)
      · exact .inr h
  · refine Huf.step (R := (restT (restT l)).map (·.n.toNat)) (by simpa using hp.symm.map (·.n.toNat)) (fun w hw => ?_) ?_ ?_
    · obtain ⟨t, ht, rfl⟩ := List.mem_map.1 hw
      have := hbr t (hrr t ht)
      omega
    · have := hbl _ hyl
      omega
    · have hz := (pz.map (·.n.toNat))
      have e : (joinT (bestT l) (bestT (restT l))).n.toNat = (bestT l).n.toNat + (bestT (restT l)).n.toNat := by
        show ((bestT l).n + (bestT (restT l)).n).toNat = _
        omega
      rw [List.map_cons, e] at hz
      clear hm hj
      revert hc
      generalize (stepT (l, out)).1.map (·.n.toNat) = W at hz
      intro hc
      cases hc with
      | one w =>
        have := hz.length_eq
        simp only [List.length_cons, List.length_map, List.length_nil] at this
        have hr0 : restT (restT l) = [] := List.length_eq_zero_iff.1 (by omega)
        rw [hr0] at hz ⊢
        have := (List.singleton_perm_singleton.1 (by simpa using hz))
        rw [List.map_nil, this]
        exact .one w
      | step q1 q2 q3 q4 => exact .step (hz.trans q1) q2 q3 q4
  · have hn := hj.dis.nod
    rw [List.flatMap_cons, List.flatMap_cons] at hn
    obtain ⟨n1, n2, n3⟩ := List.nodup_append.1 hn
    obtain ⟨n4, n5, n6⟩ := List.nodup_append.1 n2
    have hln := h.ln
    have s1 : csum cs (stepT (l, out)).2 ((stepT (l, out)).1.flatMap (·.b)) = csum cs (bump out (joinT (bestT l) (bestT (restT l))).b) ((restT (restT l)).flatMap (·.b)) + csum cs (bump out (joinT (bestT l) (bestT (restT l))).b) (joinT (bestT l) (bestT (restT l))).b := by
      show csum cs _ ((restT (restT l) ++ [joinT (bestT l) (bestT (restT l))]).flatMap (·.b)) = _
      unfold csum
      rw [List.flatMap_append, List.map_append, sumI_app]
      simp; rfl
    have s2 : csum cs out (l.flatMap (·.b)) = csum cs out (bestT l).b + (csum cs out (bestT (restT l)).b + csum cs out ((restT (restT l)).flatMap (·.b))) := by
      unfold csum
      rw [sumI_perm (hpf.map _), List.map_append, List.map_append, sumI_app, sumI_app]
    rw [s1, s2, csum_same fun i hi => ?_, csum_bump fun i hi => ?_, csum_join, wsum_join, ← h.wt _ hxl, ← h.wt _ hyl]
    · omega
    · have hr : 0 ≤ i ∧ i < 256 := by
        rcases joinT_mem.1 hi with hi | hi
        · exact h.rng _ hxl i hi
        · exact h.rng _ hyl i hi
      exact ⟨⟨hr.1, by omega⟩, hi⟩
    · obtain ⟨t, ht, hit⟩ := List.mem_flatMap.1 hi
      have hr := h.rng t (hp.mem_iff.1 (by simp [ht])) i hit
      refine ⟨⟨hr.1, by omega⟩, fun hz => ?_⟩
      rcases joinT_mem.1 hz with hz | hz
      · exact n3 i hz i (List.mem_append_right _ hi) rfl
      · exact n6 i hz i hi rfl
theorem huff_run : ∀ (k : Nat) (l : List Tr) (out : List Int), l.length ≤ k + 1 → l ≠ [] → J cs l out → ∃ t out', huff k (l, out) = ([t], out') ∧ J cs [t] out' ∧ (∀ i, i ∈ t.b ↔ i ∈ l.flatMap (·.b)) ∧ ∃ c, Huf (l.map (·.n.toNat)) c ∧ csum cs out' t.b = csum cs out (l.flatMap (·.b)) + c
  | k, [t], out, hk, _, hj => by
    refine ⟨t, out, huff_stop (by simp), hj, by simp, 0, .one _, by simp⟩
  | 0, x :: y :: l, out, hk, _, _ => by simp at hk
  | k + 1, x :: y :: l, out, hk, hne, hj => by
    have hl : 1 < (x :: y :: l).length := by simp
    obtain ⟨j1, j2, j3, j4⟩ := hj.step hl
    have hs : (stepT (x :: y :: l, out)).1.length + 1 = (x :: y :: l).length := step_len (s := (x :: y :: l, out)) hl
    have hlen : (stepT (x :: y :: l, out)).1.length ≤ k + 1 := by omega
    have hne' : (stepT (x :: y :: l, out)).1 ≠ [] := by
      intro e; rw [e] at hs; simp at hs
    obtain ⟨t, out', h1, h2, h3, c, h4, h5⟩ := huff_run k _ _ hlen hne' j1
    refine ⟨t, out', ?_, h2, fun i => (h3 i).trans (j2 i), _, j3 c h4, ?_⟩
    · conv => lhs; unfold huff
      rw [if_pos hl]; exact h1
    · have p1 := hj.pos _ ((step_perm hl).mem_iff.1 (show bestT (x :: y :: l) ∈ _ by simp))
      have p2 := hj.pos _ ((step_perm hl).mem_iff.1 (show bestT (restT (x :: y :: l)) ∈ _ by simp))
      rw [h5, j4]
      omega
theorem zeros_len : zeros.length = 256 := List.length_replicate ..
theorem zeros_at (i : Nat) : zeros.getD i 0 = 0 := by
  unfold zeros
  rw [List.getD_eq_getElem?_getD, List.getElem?_replicate]
  split <;> rfl
theorem gt_zeros (i : Int) : gt zeros i = 0 := zeros_at _
theorem getD_in {cs : List Int} {i : Nat} (h : i < cs.length) : cs.getD i 0 ∈ cs := by
  rw [List.getD_eq_getElem?_getD, List.getElem?_eq_getElem h]; exact List.getElem_mem h
theorem leafs_J (hl : cs.length = 256) (hb : ¬ badC cs) : J cs (leafs cs) zeros where
  ln := zeros_len
  dis := leafs_dis cs
  rng := fun t ht i hi => by
    obtain ⟨j, hj, _, rfl⟩ := leafs_mem.1 ht
    simp only [List.mem_singleton] at hi
    omega
  wt := fun t ht => by
    obtain ⟨j, hj, _, rfl⟩ := leafs_mem.1 ht
    simp [wsum, sumI, gt]
  pos := fun t ht => by
    obtain ⟨j, hj, hp, rfl⟩ := leafs_mem.1 ht
    simp only; omega
  tot := by
    have h1 : ∀ (L : List Tr), (∀ t ∈ L, t.n ≤ 8192) → sumI (L.map (·.n)) ≤ 8192 * L.length := fun L => by
      induction L with
      | nil => intro _; exact Int.le_refl _
      | cons t L ih =>
        intro h
        have := h t (by simp)
        have := ih fun u hu => h u (List.mem_cons_of_mem _ hu)
        simp only [List.map_cons, sumI, List.length_cons]; omega
    have h2 := h1 (leafs cs) fun t ht => by
      obtain ⟨j, hj, hp, rfl⟩ := leafs_mem.1 ht
      refine Classical.byContradiction fun hn => hb ⟨cs.getD j 0, getD_in hj, .inr ?_⟩
      simp only at hn; omega
    have h3 : (leafs cs).length ≤ 256 := by
      unfold leafs
      refine Nat.le_trans (List.length_filterMap_le _ _) ?_
      rw [List.length_range]; omega
    omega
  off := fun i _ _ => zeros_at i
  dep := fun t ht => by
    obtain ⟨j, hj, hp, rfl⟩ := leafs_mem.1 ht
    refine ⟨0, 0, by simp only [F]; omega, fun i hi => by rw [gt_zeros]; omega, .inl rfl, fun u hu _ => ?_⟩
    obtain ⟨k, hk, hp, rfl⟩ := leafs_mem.1 hu
    simp only; omega
  krf := fun t ht => by
    obtain ⟨j, hj, hp, rfl⟩ := leafs_mem.1 ht
    simp [ksum, sumN, gt_zeros]
def usedL (ls : List Int) : List Nat := (List.range 256).filter fun i => decide (0 < ls.getD i 0)
def krL (ls : List Int) : Nat := sumN ((usedL ls).map fun i => 2 ^ (60 - (ls.getD i 0).toNat))
structure LOk (ls : List Int) : Prop where
  ln : ls.length = 256
  rg : ∀ i, i < 256 → 0 ≤ ls.getD i 0 ∧ ls.getD i 0 ≤ 60
  kr : krL ls ≤ 2 ^ 60
theorem leafs_in {i : Nat} (hl : cs.length = 256) : (i : Int) ∈ (leafs cs).flatMap (·.b) ↔ i < 256 ∧ 0 < cs.getD i 0 := by
  rw [leafs_b, List.mem_map]
  constructor
  · rintro ⟨j, hj, e⟩
    obtain ⟨h1, h2⟩ := List.mem_filter.1 hj
    have : j = i := by omega
    subst this
    exact ⟨by have := List.mem_range.1 h1; omega, by simpa using h2⟩
  · rintro ⟨h1, h2⟩
    exact ⟨i, List.mem_filter.2 ⟨List.mem_range.2 (by omega), by simpa using h2⟩, rfl⟩
theorem used_perm {b : List Int} {ls : List Int} (hn : b.Nodup) (hr : ∀ i ∈ b, 0 ≤ i ∧ i < 256) (h : ∀ i : Nat, i < 256 → ((i : Int) ∈ b ↔ 0 < ls.getD i 0)) : b.Perm ((usedL ls).map fun i : Nat => (i : Int)) := by
  refine (List.perm_ext_iff_of_nodup hn ?_).2 fun i => ?_
  · refine List.Pairwise.map (R := fun a b : Nat => a ≠ b) _ (fun a b h => ?_) ((List.nodup_range).filter _)
    omega
  · rw [List.mem_map]
    constructor
    · intro hi
      obtain ⟨h1, h2⟩ := hr i hi
      refine ⟨i.toNat, List.mem_filter.2 ⟨List.mem_range.2 (by omega), ?_⟩, by omega⟩
      have := (h i.toNat (by omega)).1 (by rw [show ((i.toNat : Nat) : Int) = i by omega]; exact hi)
      simpa using this
    · rintro ⟨j, hj, rfl⟩
      obtain ⟨h1, h2⟩ := List.mem_filter.1 hj
      exact (h j (List.mem_range.1 h1)).2 (by simpa using h2)
theorem ksum_used {b : List Int} {ls : List Int} (h : b.Perm ((usedL ls).map fun i : Nat => (i : Int))) : ksum ls b = krL ls := by
  unfold ksum krL
  rw [sumN_perm (h.map _), List.map_map]
  congr 1
structure Lns (cs ls : List Int) : Prop where
  ok : LOk ls
  up : ∀ i, i < 256 → (0 < cs.getD i 0 ↔ 0 < ls.getD i 0)
theorem lens_ok (hl : cs.length = 256) (hb : ¬ badC cs) : Lns cs (lens cs) := by
  have hj := leafs_J hl hb
  unfold lens
  rw [if_neg hb]
  have fin : ∀ (ls : List Int) (b : List Int), ls.length = 256 → b.Nodup → (∀ i ∈ b, (0 ≤ i ∧ i < 256) ∧ 1 ≤ gt ls i ∧ gt ls i ≤ 60) → (∀ i : Nat, i < 256 → (i : Int) ∉ b → ls.getD i 0 = 0) → (∀ i : Nat, i < 256 → ((i : Int) ∈ b ↔ 0 < cs.getD i 0)) → ksum ls b ≤ 2 ^ 60 → Lns cs ls := fun ls b h1 h2 h3 h4 h5 h6 => by
    have hin : ∀ i : Nat, i < 256 → ((i : Int) ∈ b ↔ 0 < ls.getD i 0) := fun i hi => by
      constructor
      · intro hb
        have := (h3 _ hb).2.1
        unfold gt at this
        simp only [Int.toNat_natCast] at this
        omega
      · intro hp
        refine Classical.byContradiction fun hn => ?_
        rw [h4 i hi hn] at hp; omega
    refine ⟨⟨h1, fun i hi => ?_, ?_⟩, fun i hi => (h5 i hi).symm.trans (hin i hi)⟩
    · by_cases hm : (i : Int) ∈ b
      · have := (h3 _ hm).2
        unfold gt at this
        simp only [Int.toNat_natCast] at this
        omega
      · rw [h4 i hi hm]; omega
    · rw [← ksum_used (used_perm h2 (fun i hi => (h3 i hi).1) hin)]; exact h6
  have hbin := fun i : Nat => leafs_in (cs := cs) (i := i) hl
  split
  · rename_i h1
    obtain ⟨t, ht⟩ := List.length_eq_one_iff.1 h1
    have htm : t ∈ leafs cs := by rw [ht]; simp
    obtain ⟨j, hjl, hp, rfl⟩ := leafs_mem.1 htm
    have hfm : (leafs cs).flatMap (·.b) = [(j : Int)] := by rw [ht]; simp
    rw [hfm] at hbin ⊢
    have g1 : gt (bump zeros [(j : Int)]) j = 1 := by
      rw [gt_bump (by omega) (by rw [zeros_len]; omega), if_pos (by simp), gt_zeros]; rfl
    refine fin _ [(j : Int)] (by rw [bump_len]; exact zeros_len) (by simp) (fun i hi => ?_) (fun i hi hn => ?_) (fun i hi => by rw [hbin]; simp [hi]) ?_
    · simp only [List.mem_singleton] at hi
      subst hi
      rw [g1]; omega
    · have := gt_bump (out := zeros) (b := [(j : Int)]) (i := (i : Int)) (by omega) (by rw [zeros_len]; omega)
      rw [if_neg hn, gt_zeros] at this
      unfold gt at this
      simpa using this
    · simp only [ksum, List.map_cons, List.map_nil, sumN, g1]
      decide
  · rename_i h1
    by_cases h0 : leafs cs = []
    · rw [h0] at hbin ⊢
      simp only [List.length_nil, huff]
      refine fin zeros [] zeros_len List.nodup_nil (fun i hi => by cases hi) (fun i _ _ => zeros_at i) (fun i hi => ⟨fun h => (by cases h), fun h => (hbin i).2 ⟨hi, h⟩⟩) (by simp [ksum, sumN])
    · obtain ⟨t, out', r1, r2, r3, _⟩ := huff_run (leafs cs).length (leafs cs) zeros (by omega) h0 hj
      rw [r1]
      have hkr := r2.krf t (by simp)
      have hnd : t.b.Nodup := by
        have := r2.dis.nod
        simpa using this
      obtain ⟨d, m, hd⟩ := r2.dep t (by simp)
      have hd29 := r2.small (by simp) hd
      have h2 : ∀ i ∈ t.b, 1 ≤ gt out' i := fun i hi => by
        refine Classical.byContradiction fun hn => ?_
        have ho := hd.o i hi
        have e0 : gt out' i = 0 := by omega
        obtain ⟨s, u, hsu⟩ := List.append_of_mem hi
        have hk2 : ksum out' t.b = 2 ^ 60 + ksum out' (s ++ u) := by
          rw [hsu]
          unfold ksum
          rw [sumN_perm ((List.perm_middle (a := i) (l₁ := s) (l₂ := u)).map _), List.map_cons]
          simp only [sumN, e0, Int.toNat_zero, Nat.sub_zero]
        rw [hkr] at hk2
        have hne : s ++ u = [] := by
          cases hsu2 : s ++ u with
          | nil => rfl
          | cons a r =>
            rw [hsu2] at hk2
            unfold ksum at hk2
            rw [List.map_cons] at hk2
            simp only [sumN] at hk2
            have : 0 < 2 ^ (60 - (gt out' a).toNat) := Nat.pow_pos (by omega)
            omega
        have hlt : t.b.length = 1 := by
          rw [hsu]
          have := congrArg List.length hne
          simp only [List.length_append, List.length_nil, List.length_cons] at this ⊢
          omega
        -- one byte: one tree
        have hlen : (leafs cs).length = ((leafs cs).flatMap (·.b)).length := by
          have : ∀ L : List Tr, (∀ t ∈ L, t.b.length = 1) → L.length = (L.flatMap (·.b)).length := fun L => by
            induction L with
            | nil => intro _; rfl
            | cons t L ih =>
              intro h
              have := h t (by simp)
              have := ih fun u hu => h u (List.mem_cons_of_mem _ hu)
              simp only [List.flatMap_cons, List.length_append, List.length_cons]; omega
          exact this _ fun t ht => by
            obtain ⟨j, _, _, rfl⟩ := leafs_mem.1 ht
            rfl
        have hpl : t.b.Perm ((leafs cs).flatMap (·.b)) := (List.perm_ext_iff_of_nodup hnd hj.dis.nod).2 r3
        have := hpl.length_eq
        omega
      refine fin out' t.b r2.ln hnd (fun i hi => ⟨r2.rng t (by simp) i hi, h2 i hi, by have := hd.o i hi; omega⟩) (fun i hi hn => r2.off i hi fun u hu => by
        simp only [List.mem_singleton] at hu
        subst hu; exact hn) (fun i hi => ?_) (by rw [hkr]; exact Nat.le_refl _)
      rw [r3, hbin]
      simp [hi]
end Go.Proofs.Ytblgkgobakhigaa.Cod
end
section
namespace Go.SL.Stb
open Go Go.SL
variable {α : Type} {lt : α → α → Bool}
structure SW (lt : α → α → Bool) : Prop where
  asy : ∀ a b, lt a b = true → lt b a = false
  ntr : ∀ a b c, lt a b = false → lt b c = false → lt a c = false
def alk (lt : α → α → Bool) (a b : α) : Bool := !lt a b && !lt b a
def Srt (lt : α → α → Bool) (l : List α) : Prop := l.Pairwise fun a b => lt b a = false
def Stab (lt : α → α → Bool) (l l' : List α) : Prop := ∀ x, l'.filter (alk lt x) = l.filter (alk lt x)
theorem alk_iff {a b : α} : alk lt a b = true ↔ lt a b = false ∧ lt b a = false := by unfold alk; simp
theorem SW.irr (h : SW lt) (a : α) : lt a a = false := by
  cases hl : lt a a with
  | false => rfl
  | true => have := h.asy a a hl; rw [hl] at this; cases this
theorem SW.alk_self (h : SW lt) (a : α) : alk lt a a = true := alk_iff.2 ⟨h.irr a, h.irr a⟩
theorem SW.alk_tr (h : SW lt) {z x y : α} (h1 : alk lt z x = true) (h2 : alk lt z y = true) : alk lt x y = true := by
  rw [alk_iff] at h1 h2 ⊢
  exact ⟨h.ntr x z y h1.2 h2.1, h.ntr y z x h2.2 h1.1⟩
theorem Stab.refl (l : List α) : Stab lt l l := fun _ => rfl
theorem Stab.trans {l m n : List α} (h1 : Stab lt l m) (h2 : Stab lt m n) : Stab lt l n := fun x => (h2 x).trans (h1 x)
theorem Stab.mem (hw : SW lt) {l m : List α} (h : Stab lt l m) {y : α} : y ∈ m ↔ y ∈ l := by
  have key : ∀ {l : List α}, y ∈ l ↔ y ∈ l.filter (alk lt y) := fun {l} => by
    rw [List.mem_filter]; simp [hw.alk_self]
  rw [key, h y, ← key]
theorem Stab.app {a a' b b' : List α} (h1 : Stab lt a a') (h2 : Stab lt b b') : Stab lt (a ++ b) (a' ++ b') := fun x => by
  rw [List.filter_append, List.filter_append, h1 x, h2 x]
theorem Stab.rot (hw : SW lt) {X Y : List α} (h : ∀ x ∈ X, ∀ y ∈ Y, lt y x = true ∨ lt x y = true) : Stab lt (X ++ Y) (Y ++ X) := fun z => by
  rw [List.filter_append, List.filter_append]
  by_cases hx : X.filter (alk lt z) = []
  · rw [hx]; simp
  · by_cases hy : Y.filter (alk lt z) = []
    · rw [hy]; simp
    · exfalso
      obtain ⟨x, hx⟩ := List.exists_mem_of_ne_nil _ hx
      obtain ⟨y, hy⟩ := List.exists_mem_of_ne_nil _ hy
      obtain ⟨hx1, hx2⟩ := List.mem_filter.1 hx
      obtain ⟨hy1, hy2⟩ := List.mem_filter.1 hy
      have := alk_iff.1 (hw.alk_tr hx2 hy2)
      rcases h x hx1 y hy1 with h | h
      · rw [this.2] at h; cases h
      · rw [this.1] at h; cases h
theorem Srt.app {A C : List α} (h1 : Srt lt A) (h2 : Srt lt C) (h : ∀ a ∈ A, ∀ c ∈ C, lt c a = false) : Srt lt (A ++ C) := List.pairwise_append.2 ⟨h1, h2, h⟩
theorem merge_ok (hw : SW lt) {X1 X2 Y1 Y2 S1 S2 : List α} (hX : Srt lt (X1 ++ X2)) (hY : Srt lt (Y1 ++ Y2)) (h12 : ∀ x ∈ X1, ∀ y ∈ Y2, lt y x = false) (h21 : ∀ x ∈ X2, ∀ y ∈ Y1, lt y x = true)
    (s1 : Srt lt S1) (s2 : Srt lt S2) (t1 : Stab lt (X1 ++ Y1) S1) (t2 : Stab lt (X2 ++ Y2) S2) : Srt lt (S1 ++ S2) ∧ Stab lt ((X1 ++ X2) ++ (Y1 ++ Y2)) (S1 ++ S2) := by
  obtain ⟨_, _, hXX⟩ := List.pairwise_append.1 hX
  obtain ⟨_, _, hYY⟩ := List.pairwise_append.1 hY
  refine ⟨s1.app s2 fun u hu v hv => ?_, ?_⟩
  · rw [t1.mem hw] at hu
    rw [t2.mem hw] at hv
    rcases List.mem_append.1 hu with hu | hu <;> rcases List.mem_append.1 hv with hv | hv
    · exact hXX u hu v hv
    · exact h12 u hu v hv
    · exact hw.asy _ _ (h21 v hv u hu)
    · exact hYY u hu v hv
  · have h0 : Stab lt ((X1 ++ X2) ++ (Y1 ++ Y2)) ((X1 ++ Y1) ++ (X2 ++ Y2)) := by
      have := (Stab.refl (lt := lt) X1).app ((Stab.rot hw (X := X2) (Y := Y1) fun x hx y hy => .inl (h21 x hx y hy)).app (Stab.refl Y2))
      simpa [List.append_assoc] using this
    exact h0.trans (t1.app t2)
theorem insert_ok (hw : SW lt) {A1 A2 : List α} {x : α} (hA : Srt lt (A1 ++ A2)) (h1 : ∀ a ∈ A1, lt x a = false) (h2 : ∀ a ∈ A2, lt x a = true) : Srt lt (A1 ++ x :: A2) ∧ Stab lt ((A1 ++ A2) ++ [x]) (A1 ++ x :: A2) := by
  obtain ⟨hs1, hs2, h12⟩ := List.pairwise_append.1 hA
  refine ⟨Srt.app hs1 (List.pairwise_cons.2 ⟨fun a ha => hw.asy _ _ (h2 a ha), hs2⟩) fun a ha c hc => ?_, ?_⟩
  · rcases List.mem_cons.1 hc with rfl | hc
    · exact h1 a ha
    · exact h12 a ha c hc
  · have := (Stab.refl (lt := lt) A1).app (Stab.rot hw (X := A2) (Y := [x]) fun a ha y hy => by
      simp only [List.mem_singleton] at hy
      subst hy; exact .inl (h2 a ha))
    simpa [List.append_assoc] using this
theorem insertL_ok (hw : SW lt) {A1 A2 : List α} {x : α} (hA : Srt lt (A1 ++ A2)) (h1 : ∀ a ∈ A1, lt a x = true) (h2 : ∀ a ∈ A2, lt a x = false) : Srt lt (A1 ++ x :: A2) ∧ Stab lt (x :: (A1 ++ A2)) (A1 ++ x :: A2) := by
  obtain ⟨hs1, hs2, h12⟩ := List.pairwise_append.1 hA
  refine ⟨Srt.app hs1 (List.pairwise_cons.2 ⟨h2, hs2⟩) fun a ha c hc => ?_, ?_⟩
  · rcases List.mem_cons.1 hc with rfl | hc
    · exact hw.asy _ _ (h1 a ha)
    · exact h12 a ha c hc
  · have := (Stab.rot hw (X := [x]) (Y := A1) fun y hy a ha => by
      simp only [List.mem_singleton] at hy
      subst hy; exact .inl (h1 a ha)).app (Stab.refl (lt := lt) A2)
    simpa [List.append_assoc] using this
end Go.SL.Stb
end
section
namespace Go.SL.Stb
open Go Go.SL
variable {B : World} {H : List Asrt} {K : Value → WT} {W : WT}
abbrev Ix := { i : Int // 0 ≤ i ∧ i < 256 }
abbrev cX (x : Ix) : List Value := cI x.1
instance : Enc cX 1 := ⟨fun _ => rfl, fun x y hy => by simp at hy; subst hy; rfl⟩
abbrev J (n : Int) : Value := .int .i64 n
noncomputable def swC [Amb] (data_0 a_1 b_2 n_3 : Value) (K : Value → WT) : WT :=
 S.loop 5 (fun K0 => fun data_0' a_1' b_2' n_3' i_10 => S.fa fun _ =>
 S.bin .lss i_10 n_3' fun v13 =>
 S.cond v13 (
 S.dr <|
 S.bin .add a_1' i_10 fun v19 =>
 S.bin .add b_2' i_10 fun v23 =>
 S.bin .add b_2' i_10 fun v27 =>
 S.ixS 1 data_0' v27 fun v28 =>
 S.ld v28 fun v29 =>
 S.bin .add a_1' i_10 fun v33 =>
 S.ixS 1 data_0' v33 fun v34 =>
 S.ld v34 fun v35 =>
 S.ixS 1 data_0' v19 fun v36 =>
 S.st 1 v36 v29 fun _ =>
 S.ixS 1 data_0' v23 fun v37 =>
 S.st 1 v37 v35 fun _ =>
 S.bin .add i_10 (SL.I 1) fun v15 =>
 K0 data_0' a_1' b_2' n_3' v15) (
 K (.tuple #[])))
 [data_0, a_1, b_2, n_3, (SL.I 0)]
def swF (l c : List Ix) (a b i : Nat) : Prop := c.length = l.length ∧ ∀ k, c[k]? = if a ≤ k ∧ k < a + i then l[k + (b - a)]? else if b ≤ k ∧ k < b + i then l[k - (b - a)]? else l[k]?
theorem swF_step {l c : List Ix} {a b i : Nat} {x y : Ix} (h : swF l c a b i) (hab : a + i < b) (hb : b + i < l.length) (hx : c[a + i]? = some x) (hy : c[b + i]? = some y) : swF l ((c.set (a + i) y).set (b + i) x) a b (i + 1) := by
  obtain ⟨hl, hc⟩ := h
  have ex : l[a + i]? = some x := by rw [← hx, hc, if_neg (by omega), if_neg (by omega)]
  have ey : l[b + i]? = some y := by rw [← hy, hc, if_neg (by omega), if_neg (by omega)]
  refine ⟨by simp [hl], fun k => ?_⟩
  rw [List.getElem?_set, List.getElem?_set]
  by_cases h1 : b + i = k
  · subst h1
    rw [if_pos rfl, if_pos (by simp; omega), if_neg (by omega), if_pos (by omega), show b + i - (b - a) = a + i by omega, ex]
  · rw [if_neg h1]
    by_cases h2 : a + i = k
    · subst h2
      rw [if_pos rfl, if_pos (by omega), if_pos (by omega), show a + i + (b - a) = b + i by omega, ey]
    · rw [if_neg h2, hc]
      by_cases h3 : a ≤ k ∧ k < a + i
      · rw [if_pos h3, if_pos (by omega)]
      · rw [if_neg h3, if_neg (by omega : ¬ (a ≤ k ∧ k < a + (i + 1)))]
        by_cases h4 : b ≤ k ∧ k < b + i
        · rw [if_pos h4, if_pos (by omega)]
        · rw [if_neg h4, if_neg (by omega)]
theorem swC_ok {T : Nat} {v : Value} {l : List Ix} {a b n : Nat} (hln : l.length ≤ 140737488355328) (hab : a + n ≤ b) (hb : b + n ≤ l.length)
    (h : ∀ c, swF l c a b n → E B (sls cX T 1 v c :: H) (K (.tuple #[]))) : E B (sls cX T 1 v l :: H) (swC v (J a) (J b) (J n) K) := by
  unfold swC
  refine E_loop (n := 5) (σ := Nat × List Ix) (fun s => s.1 ≤ n ∧ swF l s.2 a b s.1) (fun s => [v, J a, J b, J n, J s.1]) (fun s => sls cX T 1 v s.2 :: H) (fun s => n - s.1) (0, l) (fun _ => rfl) rfl ⟨Nat.zero_le _, rfl, fun k => by rw [if_neg (by omega), if_neg (by omega)]⟩ (fun W hW => hW) ?_
  rintro ⟨i, c⟩ K0 ⟨hi, hc⟩ hk
  simp only at hi hc hk ⊢
  refine E_fa fun _ => ?_
  refine E_lss ?_
  refine E_if (fun hlt => ?_) (fun hlt => ?_)
  · have hl := hc.1
    have hx : c[a + i]? = some c[a + i] := List.getElem?_eq_getElem (by omega)
    have hy : c[b + i]? = some c[b + i] := List.getElem?_eq_getElem (by omega)
    generalize c[a + i] = x at hx
    generalize c[b + i] = y at hy
    refine E_dr ?_
    refine E_addI (by omega) (by omega) ?_
    refine E_addI (by omega) (by omega) ?_
    refine E_addI (by omega) (by omega) ?_
    rw [show (b : Int) + i = ((b + i : Nat) : Int) by omega, show (a : Int) + i = ((a + i : Nat) : Int) by omega]
    refine E_rsix (v := v) (l := c) hy fun _ _ => ?_
    refine E_ptld ?_
    refine E_addI (by omega) (by omega) ?_
    rw [show (a : Int) + i = ((a + i : Nat) : Int) by omega]
    refine E_rsix (v := v) (l := c) hx fun _ _ => ?_
    refine E_ptld ?_
    refine E_sset y (by omega) rfl ?_
    refine E_sset x (by rw [List.length_set]; omega) rfl ?_
    refine E_addI (by omega) (by omega) ?_
    exact hk (i + 1, (c.set (a + i) y).set (b + i) x) ⟨by simp only; omega, swF_step hc (by omega) (by omega) hx hy⟩ (by simp only; omega)
  · have hin : i = n := by omega
    subst hin
    exact h c hc
end Go.SL.Stb
end
section
namespace Go.SL.Stb
open Go Go.SL
variable {B : World} {H : List Asrt} {K : Value → WT} {W : WT}
theorem swF_eq {P A M C Q c : List Ix} {a b n : Nat} (h : swF (P ++ (A ++ (M ++ (C ++ Q)))) c a b n) (hP : P.length = a) (hA : A.length = n) (hC : C.length = n) (hb : b = a + n + M.length) : c = P ++ (C ++ (M ++ (A ++ Q))) := by
  obtain ⟨hl, hc⟩ := h
  subst hP hA hb
  apply List.ext_getElem?
  intro k
  rw [hc k]
  by_cases h1 : k < P.length
  · rw [if_neg (by omega), if_neg (by omega), List.getElem?_append_left h1, List.getElem?_append_left h1]
  · rw [List.getElem?_append_right (l₁ := P) (l₂ := C ++ (M ++ (A ++ Q))) (by omega)]
    by_cases h2 : k < P.length + A.length
    · rw [if_pos (by omega), List.getElem?_append_right (by omega), List.getElem?_append_right (by omega), List.getElem?_append_right (by omega), List.getElem?_append_left (by omega), List.getElem?_append_left (by omega)]
      congr 1; omega
    · rw [if_neg (by omega), List.getElem?_append_right (l₁ := C) (by omega)]
      by_cases h3 : k < P.length + A.length + M.length
      · rw [if_neg (by omega), List.getElem?_append_right (by omega), List.getElem?_append_right (by omega), List.getElem?_append_left (by omega), List.getElem?_append_left (by omega)]
        congr 1; omega
      · rw [List.getElem?_append_right (l₁ := M) (l₂ := A ++ Q) (by omega)]
        by_cases h4 : k < P.length + A.length + M.length + A.length
        · rw [if_pos (by omega), List.getElem?_append_right (by omega), List.getElem?_append_left (by omega), List.getElem?_append_left (by omega)]
          congr 1; omega
        · rw [if_neg (by omega), List.getElem?_append_right (by omega), List.getElem?_append_right (by omega), List.getElem?_append_right (by omega), List.getElem?_append_right (by omega), List.getElem?_append_right (by omega)]
          congr 1; omega
noncomputable def rotC [Amb] (P : Program) (sw : Nat) (data_0 a_1 m_2 b_3 cmp_4 : Value) (K : Value → WT) : WT :=
 S.bin .sub m_2 a_1 fun v14 =>
 S.bin .sub b_3 m_2 fun v17 =>
 S.loop 5 (fun K0 => fun data_0' m_2' cmp_4' i_10 j_11 => S.fa fun _ =>
 S.bin .neq i_10 j_11 fun v20 =>
 S.cond v20 (
 S.bin .gtr i_10 j_11 fun v23 =>
 S.cond v23 (
 S.bin .sub m_2' i_10 fun v27 =>
 CF P sw [data_0', v27, m_2', j_11, cmp_4'] fun v31 =>
 S.bin .sub i_10 j_11 fun v34 =>
 K0 data_0' m_2' cmp_4' v34 j_11) (
 S.bin .sub m_2' i_10 fun v38 =>
 S.bin .add m_2' j_11 fun v41 =>
 S.bin .sub v41 i_10 fun v43 =>
 CF P sw [data_0', v38, v43, i_10, cmp_4'] fun v46 =>
 S.bin .sub j_11 i_10 fun v49 =>
 K0 data_0' m_2' cmp_4' i_10 v49)) (
 S.bin .sub m_2' i_10 fun v53 =>
 CF P sw [data_0', v53, m_2', i_10, cmp_4'] fun v57 =>
 K (.tuple #[])))
 [data_0, m_2, cmp_4, v14, v17]
theorem rotC_ok {Pr : Program} {sw T : Nat} {v cv : Value} {P X Y Q : List Ix} {a m b : Nat} (hsw : ∀ (d x y n c : Value) (K' : Value → WT) (H' : List Asrt), E B H' (swC d x y n K') → E B H' (CF Pr sw [d, x, y, n, c] K'))
    (hln : (P ++ (X ++ (Y ++ Q))).length ≤ 140737488355328) (hP : P.length = a) (hX : a + X.length = m) (hY : m + Y.length = b) (h1 : 1 ≤ X.length) (h2 : 1 ≤ Y.length)
    (h : E B (sls cX T 1 v (P ++ (Y ++ (X ++ Q))) :: H) (K (.tuple #[]))) : E B (sls cX T 1 v (P ++ (X ++ (Y ++ Q))) :: H) (rotC Pr sw v (J a) (J m) (J b) cv K) := by
  have hln' : P.length + (X.length + (Y.length + Q.length)) ≤ 140737488355328 := by simpa using hln
  unfold rotC
  refine E_subI (by omega) (by omega) ?_
  refine E_subI (by omega) (by omega) ?_
  rw [show (m : Int) - a = (X.length : Int) by omega, show (b : Int) - m = (Y.length : Int) by omega]
  refine E_loop (n := 5) (σ := List Ix × List Ix × List Ix × List Ix) (fun s => s.1.length + s.2.1.length = m ∧ 1 ≤ s.2.1.length ∧ 1 ≤ s.2.2.1.length ∧ s.1 ++ (s.2.2.1 ++ (s.2.1 ++ s.2.2.2)) = P ++ (Y ++ (X ++ Q)))
    (fun s => [v, J m, cv, J s.2.1.length, J s.2.2.1.length]) (fun s => sls cX T 1 v (s.1 ++ (s.2.1 ++ (s.2.2.1 ++ s.2.2.2))) :: H) (fun s => s.2.1.length + s.2.2.1.length) (P, X, Y, Q) (fun _ => rfl) rfl ⟨by simp only; omega, h1, h2, rfl⟩ (fun W hW => hW) ?_
  rintro ⟨P', U, V', Q'⟩ K0 ⟨hPU, hU1, hV1, htar⟩ hk
  simp only at hPU hU1 hV1 htar hk ⊢
  have hl2 : P'.length + (V'.length + (U.length + Q'.length)) ≤ 140737488355328 := by
    have := congrArg List.length htar
    simp at this; omega
  refine E_fa fun _ => ?_
  refine E_neq ?_
  refine E_if (fun hne => ?_) (fun hne => ?_)
  · refine E_gtr ?_
    refine E_if (fun hgt => ?_) (fun hgt => ?_)
    · refine E_subI (by omega) (by omega) ?_
      rw [show (m : Int) - U.length = (P'.length : Int) by omega]
      refine hsw _ _ _ _ _ _ _ ?_
      refine swC_ok (by simp; omega) (by omega) (by simp; omega) fun c hc => ?_
      obtain ⟨U1, U2, rfl, hU⟩ : ∃ U1 U2, U = U1 ++ U2 ∧ U1.length = V'.length := ⟨U.take V'.length, U.drop V'.length, (List.take_append_drop ..).symm, by rw [List.length_take]; omega⟩
      have e := swF_eq (P := P') (A := U1) (M := U2) (C := V') (Q := Q') (by simpa [List.append_assoc] using hc) rfl hU rfl (by simp at hPU; omega)
      subst e
      refine E_subI (by omega) (by omega) ?_
      rw [show ((U1 ++ U2).length : Int) - V'.length = (U2.length : Int) by simp; omega]
      have hk1 := hk (P' ++ V', U2, U1, Q') ⟨by simp at hPU ⊢; omega, by simp at hgt; simp only; omega, by simp only; omega, by simp only; rw [← htar]; simp [List.append_assoc]⟩ (by simp; omega)
      simp only [hU, List.append_assoc] at hk1 ⊢
      exact hk1
    · refine E_subI (by omega) (by omega) ?_
      refine E_addI (by omega) (by omega) ?_
      refine E_subI (by omega) (by omega) ?_
      rw [show (m : Int) - U.length = (P'.length : Int) by omega, show (m : Int) + V'.length - U.length = ((m + V'.length - U.length : Nat) : Int) by omega]
      refine hsw _ _ _ _ _ _ _ ?_
      refine swC_ok (by simp; omega) (by omega) (by simp; omega) fun c hc => ?_
      obtain ⟨V1, V2, rfl, hV⟩ : ∃ V1 V2, V' = V1 ++ V2 ∧ V2.length = U.length := ⟨V'.take (V'.length - U.length), V'.drop (V'.length - U.length), (List.take_append_drop ..).symm, by rw [List.length_drop]; omega⟩
      have e0 : (V1 ++ V2).length = V1.length + V2.length := by simp
      have e := swF_eq (P := P') (A := U) (M := V1) (C := V2) (Q := Q') (by simpa only [List.append_assoc] using hc) rfl rfl hV (by omega)
      subst e
      refine E_subI (by omega) (by omega) ?_
      rw [show ((V1 ++ V2).length : Int) - U.length = (V1.length : Int) by simp; omega]
      have hk1 := hk (P', V2, V1, U ++ Q') ⟨by simp only; omega, by simp only; omega, by simp only; omega, by simp only; rw [← htar]; simp [List.append_assoc]⟩ (by simp; omega)
      simp only [hV] at hk1
      exact hk1
  · refine E_subI (by omega) (by omega) ?_
    rw [show (m : Int) - U.length = (P'.length : Int) by omega]
    refine hsw _ _ _ _ _ _ _ ?_
    refine swC_ok (by simp; omega) (by omega) (by simp; omega) fun c hc => ?_
    have e := swF_eq (P := P') (A := U) (M := []) (C := V') (Q := Q') (by simpa using hc) rfl rfl (by omega) (by simp; omega)
    subst e
    simp only [List.nil_append]
    rw [htar]
    exact h
end Go.SL.Stb
end
section
namespace Go.SL.Stb
open Go Go.SL
variable {B : World} {H : List Asrt} {K : Value → WT} {W : WT}
def CmpOk (P : Program) (B : World) (C : List Asrt) (cv : Value) (c : Ix → Ix → Int) : Prop := ∀ (x y : Ix) (H : List Asrt) (K : Value → WT), E B (C ++ H) (K (J (c x y))) → E B (C ++ H) (S.cvv P cv [J x.1, J y.1] K)
def ltC (c : Ix → Ix → Int) (x y : Ix) : Bool := decide (c x y < 0)
theorem cmp_use {P : Program} {C : List Asrt} {cv : Value} {c : Ix → Ix → Int} (hc : CmpOk P B C cv c) {x y : Ix} {a : Asrt} (h : E B (a :: (C ++ H)) (K (J (c x y)))) : E B (a :: (C ++ H)) (S.cvv P cv [J x.1, J y.1] K) :=
  E_perm List.perm_middle.symm (hc x y (a :: H) K (E_perm List.perm_middle h))
theorem get_mid {F G : List Ix} {x : Ix} {i : Nat} (hi : i = F.length) : (F ++ x :: G)[i]? = some x := by subst hi; simp
theorem get_mid1 {F G : List Ix} {x y : Ix} {i : Nat} (hi : i = F.length + 1) : (F ++ y :: x :: G)[i]? = some x := by subst hi; simp
theorem swap_mid {F G : List Ix} {x y : Ix} {i j : Nat} (hi : i = F.length) (hj : j = F.length + 1) : ((F ++ y :: x :: G).set j y).set i x = F ++ x :: y :: G := by
  subst hi hj
  simp
noncomputable def insC [Amb] (P : Program) (data_0 a_1 b_2 cmp_3 : Value) (K : Value → WT) : WT :=
 S.bin .add a_1 (SL.I 1) fun v11 =>
 S.loop 5 (fun K0 => fun data_0' a_1' b_2' cmp_3' i_8 => S.fa fun _ =>
 S.bin .lss i_8 b_2' fun v14 =>
 S.cond v14 (
 S.loop 6 (fun K1 => fun data_0'2 a_1'2 b_2'2 cmp_3'2 i_8' j_9 => S.fa fun _ =>
 S.join 7 (fun K2 =>
 S.dr <|
 S.bin .gtr j_9 a_1'2 fun v20 =>
 S.gd v20 true (fun k => k cmp_3'2) fun v22 =>
 S.gd v20 true (fun k => k data_0'2) fun v23 =>
 S.gd v20 true (fun k => k j_9) fun v24 =>
 S.gd v20 true (S.ixS 1 v23 v24) fun v25 =>
 S.gd v20 true (S.ld v25) fun v26 =>
 S.gd v20 true (fun k => k data_0'2) fun v27 =>
 S.gd v20 true (fun k => k j_9) fun v28 =>
 S.gd v20 true (S.bin .sub v28 (SL.I 1)) fun v29 =>
 S.gd v20 true (S.ixS 1 v27 v29) fun v30 =>
 S.gd v20 true (S.ld v30) fun v31 =>
 S.gd v20 true (S.cvv P v22 [v26, v31]) fun v32 =>
 S.gd v20 true (S.bin .lss v32 (SL.I 0)) fun v33 =>
 S.pick v20 v33 (SL.B false) fun v34 =>
 K2 data_0'2 a_1'2 b_2'2 cmp_3'2 i_8' j_9 v34)
 <| fun data_0'3 a_1'3 b_2'3 cmp_3'3 i_8'2 j_9' v34' => S.fa fun _ =>
 S.cond v34' (
 S.dr <|
 S.bin .sub j_9' (SL.I 1) fun v41 =>
 S.bin .sub j_9' (SL.I 1) fun v44 =>
 S.ixS 1 data_0'3 v44 fun v45 =>
 S.ld v45 fun v46 =>
 S.ixS 1 data_0'3 j_9' fun v49 =>
 S.ld v49 fun v50 =>
 S.ixS 1 data_0'3 j_9' fun v51 =>
 S.st 1 v51 v46 fun _ =>
 S.ixS 1 data_0'3 v41 fun v52 =>
 S.st 1 v52 v50 fun _ =>
 S.bin .sub j_9' (SL.I 1) fun v36 =>
 K1 data_0'3 a_1'3 b_2'3 cmp_3'3 i_8'2 v36) (
 S.bin .add i_8'2 (SL.I 1) fun v16 =>
 K0 data_0'3 a_1'3 b_2'3 cmp_3'3 v16))
 [data_0', a_1', b_2', cmp_3', i_8, i_8]) (
 K (.tuple #[])))
 [data_0, a_1, b_2, cmp_3, v11]
theorem insC_ok {Pr : Program} {T : Nat} {v cv : Value} {C : List Asrt} {c : Ix → Ix → Int} {P Sg Q : List Ix} {a b : Nat} (hw : SW (ltC c)) (hc : CmpOk Pr B C cv c)
    (hln : (P ++ (Sg ++ Q)).length ≤ 140737488355328) (hP : P.length = a) (hb : a + Sg.length = b)
    (h : ∀ S', S'.length = Sg.length → Srt (ltC c) S' → Stab (ltC c) Sg S' → E B (sls cX T 1 v (P ++ (S' ++ Q)) :: (C ++ H)) (K (.tuple #[]))) : E B (sls cX T 1 v (P ++ (Sg ++ Q)) :: (C ++ H)) (insC Pr v (J a) (J b) cv K) := by
  have hln' : P.length + (Sg.length + Q.length) ≤ 140737488355328 := by simpa using hln
  unfold insC
  refine E_addI (by omega) (by omega) ?_
  refine E_loop (n := 5) (σ := Nat × List Ix × List Ix) (fun s => s.1 ≤ s.2.1.length + 1 ∧ s.2.1.length ≤ s.1 ∧ 1 ≤ s.1 ∧ (s.1 ≠ s.2.1.length → s.2.2 = []) ∧ s.2.1.length + s.2.2.length = Sg.length ∧ Srt (ltC c) s.2.1 ∧ Stab (ltC c) Sg (s.2.1 ++ s.2.2))
    (fun s => [v, J a, J b, cv, J ((a : Int) + s.1)]) (fun s => sls cX T 1 v (P ++ (s.2.1 ++ (s.2.2 ++ Q))) :: (C ++ H)) (fun s => s.2.2.length) (1, Sg.take 1, Sg.drop 1) (fun _ => rfl) rfl
    ⟨by simp only; omega, by simp only [List.length_take]; omega, Nat.le_refl _, fun h => by
      simp only [List.length_take] at h
      exact List.drop_eq_nil_of_le (by omega), by simp only [List.length_take, List.length_drop]; omega, by
      match Sg with
      | [] => exact List.Pairwise.nil
      | x :: t => exact List.pairwise_singleton .., by simp only [List.take_append_drop]; exact Stab.refl _⟩ (fun W hW => by
      simp only [← List.append_assoc (Sg.take 1), List.take_append_drop] at hW
      exact hW) ?_
  rintro ⟨i, D, R⟩ K0 ⟨hi1, hi2, hi3, hiR, hDR, hs, hst⟩ hk
  simp only at hi1 hi2 hi3 hiR hDR hs hst hk ⊢
  refine E_fa fun _ => ?_
  refine E_lss ?_
  refine E_if (fun hlt => ?_) (fun hlt => ?_)
  · have hiD : i = D.length := Classical.byContradiction fun hne => by
      have := hiR hne
      subst this
      simp at hDR; omega
    obtain ⟨x, R', rfl⟩ : ∃ x R', R = x :: R' := by
      cases R with
      | nil => simp at hDR; omega
      | cons x R' => exact ⟨x, R', rfl⟩
    refine E_loop (n := 6) (σ := List Ix × List Ix) (fun s => s.1 ++ s.2 = D ∧ ∀ y ∈ s.2, ltC c x y = true) (fun s => [v, J a, J b, cv, J ((a : Int) + i), J ((a : Int) + s.1.length)]) (fun s => sls cX T 1 v (P ++ (s.1 ++ (x :: (s.2 ++ (R' ++ Q))))) :: (C ++ H)) (fun s => s.1.length) (D, []) (fun _ => rfl) (by simp only [hiD]) ⟨by simp, by simp⟩ (fun W hW => hW) ?_
    rintro ⟨A1, A2⟩ K1 ⟨hAD, hA2⟩ hk1
    simp only at hAD hA2 hk1 ⊢
    have hAl : A1.length + A2.length = D.length := by rw [← hAD]; simp
    have hdone : (∀ y ∈ A1, ltC c x y = false) → E B (sls cX T 1 v (P ++ (A1 ++ (x :: (A2 ++ (R' ++ Q))))) :: (C ++ H)) (S.bin .add (J ((a : Int) + i)) (SL.I 1) fun v16 => app 5 K0 [v, J a, J b, cv, v16]) := fun hA1 => by
      refine E_addI (by omega) (by omega) ?_
      rw [show (a : Int) + i + 1 = (a : Int) + ((i + 1 : Nat) : Int) by omega]
      subst hAD
      obtain ⟨o1, o2⟩ := insert_ok hw hs hA1 hA2
      have hk2 := hk (i + 1, A1 ++ x :: A2, R') ⟨by simp at hiD ⊢; omega, by simp at hiD ⊢; omega, by simp only; omega, fun hne => by simp at hiD hne; omega, by simp at hDR ⊢; omega, o1, by
        refine hst.trans ?_
        have := o2.app (Stab.refl (lt := ltC c) R')
        simpa [List.append_assoc] using this⟩ (by simp)
      simpa [List.append_assoc] using hk2
    refine E_fa fun _ => ?_
    rcases List.eq_nil_or_concat A1 with rfl | ⟨F, y, hAe⟩
    · refine E_join1 [v, J a, J b, cv, J ((a : Int) + i), J ((a : Int) + (([] : List Ix).length : Int)), .bool false] (sls cX T 1 v (P ++ ([] ++ (x :: (A2 ++ (R' ++ Q))))) :: (C ++ H)) (fun q hq => ?_) ?_
      · refine E_dr ?_
        refine E_gtr ?_
        rw [decide_eq_false (by simp)]
        (repeat first | refine gS ?_ | refine gA fun _ => ?_ | refine gX fun _ _ => ?_ | refine gT ?_ | refine gF ?_ | refine gI ?_)
        exact hq
      · refine E_fa fun _ => ?_
        refine E_ff ?_
        exact hdone (by simp)
    · rw [List.concat_eq_append] at hAe
      subst hAe
      have ec : P ++ ((F ++ [y]) ++ (x :: (A2 ++ (R' ++ Q)))) = (P ++ F) ++ y :: x :: (A2 ++ (R' ++ Q)) := by simp
      have ej : (a : Int) + ((F ++ [y]).length : Int) = (((P ++ F).length + 1 : Nat) : Int) := by simp; omega
      have hFl : (P ++ F).length + 1 ≤ 140737488355328 := by simp at hAl ⊢; omega
      have hPl : (P ++ F).length = a + F.length := by simp; omega
      rw [ec] at hdone
      rw [ec, ej]
      refine E_join1 [v, J a, J b, cv, J ((a : Int) + i), J (((P ++ F).length + 1 : Nat) : Int), .bool (ltC c x y)] (sls cX T 1 v ((P ++ F) ++ y :: x :: (A2 ++ (R' ++ Q))) :: (C ++ H)) (fun q hq => ?_) ?_
      · refine E_dr ?_
        refine E_gtr ?_
        rw [decide_eq_true (by omega)]
        refine E_gtf ?_
        refine E_gtf ?_
        refine E_gtf ?_
        refine E_gtf ?_
        refine E_rsix (v := v) (get_mid1 (i := (P ++ F).length + 1) rfl) fun _ _ => ?_
        refine E_gtf ?_
        refine E_ptld ?_
        refine E_gtf ?_
        refine E_gtf ?_
        refine E_gtf ?_
        refine E_subI (by omega) (by omega) ?_
        rw [show (((P ++ F).length + 1 : Nat) : Int) - 1 = ((P ++ F).length : Int) by omega]
        refine E_gtf ?_
        refine E_rsix (v := v) (get_mid (i := (P ++ F).length) rfl) fun _ _ => ?_
        refine E_gtf ?_
        refine E_ptld ?_
        refine E_gtf ?_
        refine cmp_use hc ?_
        refine E_gtf ?_
        refine E_lss ?_
        refine gS ?_
        exact hq
      · refine E_fa fun _ => ?_
        cases hxy : ltC c x y with
        | true =>
          refine E_tt ?_
          refine E_dr ?_
          refine E_subI (by omega) (by omega) ?_
          refine E_subI (by omega) (by omega) ?_
          rw [show (((P ++ F).length + 1 : Nat) : Int) - 1 = ((P ++ F).length : Int) by omega]
          refine E_rsix (v := v) (get_mid (i := (P ++ F).length) rfl) fun _ _ => ?_
          refine E_ptld ?_
          refine E_rsix (v := v) (get_mid1 (i := (P ++ F).length + 1) rfl) fun _ _ => ?_
          refine E_ptld ?_
          have hlen : ((P ++ F) ++ y :: x :: (A2 ++ (R' ++ Q))).length = (P ++ F).length + ((A2 ++ (R' ++ Q)).length + 2) := by rw [List.length_append]; rfl
          refine E_sset (l := (P ++ F) ++ y :: x :: (A2 ++ (R' ++ Q))) y (by omega) rfl ?_
          refine E_sset (l := ((P ++ F) ++ y :: x :: (A2 ++ (R' ++ Q))).set ((P ++ F).length + 1) y) x (by rw [List.length_set]; omega) rfl ?_
          rw [swap_mid rfl rfl]
          refine E_subI (by omega) (by omega) ?_
          have hk2 := hk1 (F, y :: A2) ⟨by simp only; rw [← hAD]; simp, fun z hz => ?_⟩ (by simp)
          · rw [show (((P ++ F).length + 1 : Nat) : Int) - 1 = (a : Int) + (F.length : Int) by omega]
            simp only [List.append_assoc, List.cons_append] at hk2 ⊢
            exact hk2
          · rcases List.mem_cons.1 hz with rfl | hz
            · exact hxy
            · exact hA2 z hz
        | false =>
          refine E_ff ?_
          refine hdone fun z hz => ?_
          rcases List.mem_append.1 hz with hz | hz
          · have hs' : Srt (ltC c) (F ++ ([y] ++ A2)) := by rw [← List.append_assoc, hAD]; exact hs
            have := (List.pairwise_append.1 hs').2.2 z hz y (by simp)
            exact hw.ntr x y z hxy this
          · simp only [List.mem_singleton] at hz
            subst hz; exact hxy
  · have hR0 : R = [] := by
      by_cases h0 : i = D.length
      · exact List.length_eq_zero_iff.1 (by omega)
      · exact hiR h0
    subst hR0
    simp only [List.append_nil, List.nil_append] at hst ⊢
    exact h D (by simpa using hDR) hs hst
end Go.SL.Stb
end
section
namespace Go.SL.Stb
open Go Go.SL
variable {B : World} {H : List Asrt} {K : Value → WT} {W : WT}
noncomputable def symC [Amb] (P : Program) (rot sym : Nat) (v0 v1 v2 v3 v4 : Value) (K : Value → WT) : WT :=
 S.bin .sub v2 v1 fun v27 =>
 S.bin .eql v27 (SL.I 1) fun v28 =>
 S.cond v28 (
 S.loop 5 (fun K0 => fun v0' v1' v4' v10 v11 => S.fa fun _ =>
 S.bin .lss v10 v11 fun v33 =>
 S.cond v33 (
 S.bin .add v10 v11 fun v36 =>
 S.cvt .u64 v36 fun v37 =>
 S.sh .shr v37 (.int .u64 1) fun v38 =>
 S.cvt .i64 v38 fun v39 =>
 S.dr <|
 S.ixS 1 v0' v39 fun v43 =>
 S.ld v43 fun v44 =>
 S.ixS 1 v0' v1' fun v47 =>
 S.ld v47 fun v48 =>
 S.cvv P v4' [v44, v48] fun v49 =>
 S.bin .lss v49 (SL.I 0) fun v50 =>
 S.cond v50 (
 S.bin .add v39 (SL.I 1) fun v52 =>
 K0 v0' v1' v4' v52 v11) (
 K0 v0' v1' v4' v10 v39)) (
 S.loop 3 (fun K1 => fun v0'2 v10' v13 => S.fa fun _ =>
 S.bin .sub v10' (SL.I 1) fun v57 =>
 S.bin .lss v13 v57 fun v58 =>
 S.cond v58 (
 S.dr <|
 S.bin .add v13 (SL.I 1) fun v65 =>
 S.bin .add v13 (SL.I 1) fun v68 =>
 S.ixS 1 v0'2 v68 fun v69 =>
 S.ld v69 fun v70 =>
 S.ixS 1 v0'2 v13 fun v73 =>
 S.ld v73 fun v74 =>
 S.ixS 1 v0'2 v13 fun v75 =>
 S.st 1 v75 v70 fun _ =>
 S.ixS 1 v0'2 v65 fun v76 =>
 S.st 1 v76 v74 fun _ =>
 S.bin .add v13 (SL.I 1) fun v60 =>
 K1 v0'2 v10' v60) (
 K (.tuple #[])))
 [v0', v10, v1']))
 [v0, v1, v4, v2, v3]) (
 S.bin .sub v3 v2 fun v79 =>
 S.bin .eql v79 (SL.I 1) fun v80 =>
 S.cond v80 (
 S.loop 5 (fun K2 => fun v0'3 v2' v4'2 v14 v15 => S.fa fun _ =>
 S.bin .lss v14 v15 fun v85 =>
 S.cond v85 (
 S.bin .add v14 v15 fun v88 =>
 S.cvt .u64 v88 fun v89 =>
 S.sh .shr v89 (.int .u64 1) fun v90 =>
 S.cvt .i64 v90 fun v91 =>
 S.dr <|
 S.ixS 1 v0'3 v2' fun v95 =>
 S.ld v95 fun v96 =>
 S.ixS 1 v0'3 v91 fun v99 =>
 S.ld v99 fun v100 =>
 S.cvv P v4'2 [v96, v100] fun v101 =>
 S.bin .lss v101 (SL.I 0) fun v102 =>
 S.not1 v102 fun v103 =>
 S.cond v103 (
 S.bin .add v91 (SL.I 1) fun v105 =>
 K2 v0'3 v2' v4'2 v105 v15) (
 K2 v0'3 v2' v4'2 v14 v91)) (
 S.loop 3 (fun K3 => fun v0'4 v14' v17 => S.fa fun _ =>
 S.bin .gtr v17 v14' fun v110 =>
 S.cond v110 (
 S.dr <|
 S.bin .sub v17 (SL.I 1) fun v117 =>
 S.bin .sub v17 (SL.I 1) fun v120 =>
 S.ixS 1 v0'4 v120 fun v121 =>
 S.ld v121 fun v122 =>
 S.ixS 1 v0'4 v17 fun v125 =>
 S.ld v125 fun v126 =>
 S.ixS 1 v0'4 v17 fun v127 =>
 S.st 1 v127 v122 fun _ =>
 S.ixS 1 v0'4 v117 fun v128 =>
 S.st 1 v128 v126 fun _ =>
 S.bin .sub v17 (SL.I 1) fun v112 =>
 K3 v0'4 v14' v112) (
 K (.tuple #[])))
 [v0'3, v14, v2']))
 [v0, v2, v4, v1, v2]) (
 S.bin .add v1 v3 fun v131 =>
 S.cvt .u64 v131 fun v132 =>
 S.sh .shr v132 (.int .u64 1) fun v133 =>
 S.cvt .i64 v133 fun v134 =>
 S.bin .add v134 v2 fun v137 =>
 S.join 9 (fun K4 =>
 S.bin .gtr v2 v134 fun v140 =>
 S.cond v140 (
 S.bin .sub v137 v3 fun v143 =>
 K4 v0 v1 v2 v3 v4 v134 v137 v143 v134) (
 K4 v0 v1 v2 v3 v4 v134 v137 v1 v2))
 <| fun v0'5 v1'2 v2'2 v3' v4'3 v18 v19 v20 v21 => S.fa fun _ =>
 S.bin .sub v19 (SL.I 1) fun v148 =>
 S.loop 10 (fun K5 => fun v0'6 v1'3 v2'3 v3'2 v4'4 v18' v19' v20' v21' v22 => S.fa fun _ =>
 S.bin .lss v20' v21' fun v151 =>
 S.cond v151 (
 S.bin .add v20' v21' fun v154 =>
 S.cvt .u64 v154 fun v155 =>
 S.sh .shr v155 (.int .u64 1) fun v156 =>
 S.cvt .i64 v156 fun v157 =>
 S.dr <|
 S.bin .sub v22 v157 fun v162 =>
 S.ixS 1 v0'6 v162 fun v163 =>
 S.ld v163 fun v164 =>
 S.ixS 1 v0'6 v157 fun v167 =>
 S.ld v167 fun v168 =>
 S.cvv P v4'4 [v164, v168] fun v169 =>
 S.bin .lss v169 (SL.I 0) fun v170 =>
 S.not1 v170 fun v171 =>
 S.cond v171 (
 S.bin .add v157 (SL.I 1) fun v173 =>
 K5 v0'6 v1'3 v2'3 v3'2 v4'4 v18' v19' v173 v21' v22) (
 K5 v0'6 v1'3 v2'3 v3'2 v4'4 v18' v19' v20' v157 v22)) (
 S.bin .sub v19' v20' fun v177 =>
 S.join 7 (fun K6 =>
 S.join 9 (fun K7 =>
 S.bin .lss v20' v2'3 fun v180 =>
 S.gd v180 true (fun k => k v2'3) fun v182 =>
 S.gd v180 true (fun k => k v177) fun v183 =>
 S.gd v180 true (S.bin .lss v182 v183) fun v184 =>
 S.pick v180 v184 (SL.B false) fun v185 =>
 K7 v0'6 v1'3 v2'3 v3'2 v4'4 v18' v20' v177 v185)
 <| fun v0'7 v1'4 v2'4 v3'3 v4'5 v18'2 v20'2 v24 v185' => S.fa fun _ =>
 S.cond v185' (
 CF P rot [v0'7, v20'2, v2'4, v24, v4'5] fun v191 =>
 K6 v0'7 v1'4 v3'3 v4'5 v18'2 v20'2 v24) (
 K6 v0'7 v1'4 v3'3 v4'5 v18'2 v20'2 v24))
 <| fun v0'8 v1'5 v3'4 v4'6 v18'3 v20'3 v24' => S.fa fun _ =>
 S.join 5 (fun K8 =>
 S.join 8 (fun K9 =>
 S.bin .lss v1'5 v20'3 fun v194 =>
 S.gd v194 true (fun k => k v20'3) fun v196 =>
 S.gd v194 true (fun k => k v18'3) fun v197 =>
 S.gd v194 true (S.bin .lss v196 v197) fun v198 =>
 S.pick v194 v198 (SL.B false) fun v199 =>
 K9 v0'8 v1'5 v3'4 v4'6 v18'3 v20'3 v24' v199)
 <| fun v0'9 v1'6 v3'5 v4'7 v18'4 v20'4 v24'2 v199' => S.fa fun _ =>
 S.cond v199' (
 CF P sym [v0'9, v1'6, v20'4, v18'4, v4'7] fun v205 =>
 K8 v0'9 v3'5 v4'7 v18'4 v24'2) (
 K8 v0'9 v3'5 v4'7 v18'4 v24'2))
 <| fun v0'10 v3'6 v4'8 v18'5 v24'3 => S.fa fun _ =>
 S.join 6 (fun K10 =>
 S.bin .lss v18'5 v24'3 fun v208 =>
 S.gd v208 true (fun k => k v24'3) fun v210 =>
 S.gd v208 true (fun k => k v3'6) fun v211 =>
 S.gd v208 true (S.bin .lss v210 v211) fun v212 =>
 S.pick v208 v212 (SL.B false) fun v213 =>
 K10 v0'10 v3'6 v4'8 v18'5 v24'3 v213)
 <| fun v0'11 v3'7 v4'9 v18'6 v24'4 v213' => S.fa fun _ =>
 S.cond v213' (
 CF P sym [v0'11, v18'6, v24'4, v3'7, v4'9] fun v219 =>
 K (.tuple #[])) (
 K (.tuple #[]))))
 [v0'5, v1'2, v2'2, v3', v4'3, v18, v19, v20, v21, v148]))
theorem E_mid2 {i j : Nat} (h1 : i + j ≤ 9223372036854775807) (h : E B H (K (J ((i + j) / 2 : Nat)))) : E B H (S.bin .add (J i) (J j) fun v36 => S.cvt .u64 v36 fun v37 => S.sh .shr v37 (.int .u64 1) fun v38 => S.cvt .i64 v38 K) := by
  refine E_addI (by omega) (by omega) ?_
  refine E_cvt ?_
  have e : IntKind.u64.wrap ((i : Int) + j) = ((i + j : Nat) : Int) := by
    unfold IntKind.wrap
    simp [IntKind.signed, IntKind.bits]
    omega
  rw [e]
  refine E_shrI (by omega) (by decide) (by decide) ?_
  rw [show ((i + j : Nat) : Int) / 2 ^ (1 : Int).toNat = (((i + j) / 2 : Nat) : Int) by simp]
  exact E_cvtI (by omega) (by omega) h
end Go.SL.Stb
end
section
namespace Go.SL.Stb
open Go Go.SL
variable {B : World} {H : List Asrt} {K : Value → WT} {W : WT}
noncomputable def symL [Amb] (P : Program) (v0 v1 v4 v2 v3 : Value) (K : Value → WT) : WT :=
 S.loop 5 (fun K0 => fun v0' v1' v4' v10 v11 => S.fa fun _ =>
 S.bin .lss v10 v11 fun v33 =>
 S.cond v33 (
 S.bin .add v10 v11 fun v36 =>
 S.cvt .u64 v36 fun v37 =>
 S.sh .shr v37 (.int .u64 1) fun v38 =>
 S.cvt .i64 v38 fun v39 =>
 S.dr <|
 S.ixS 1 v0' v39 fun v43 =>
 S.ld v43 fun v44 =>
 S.ixS 1 v0' v1' fun v47 =>
 S.ld v47 fun v48 =>
 S.cvv P v4' [v44, v48] fun v49 =>
 S.bin .lss v49 (SL.I 0) fun v50 =>
 S.cond v50 (
 S.bin .add v39 (SL.I 1) fun v52 =>
 K0 v0' v1' v4' v52 v11) (
 K0 v0' v1' v4' v10 v39)) (
 S.loop 3 (fun K1 => fun v0'2 v10' v13 => S.fa fun _ =>
 S.bin .sub v10' (SL.I 1) fun v57 =>
 S.bin .lss v13 v57 fun v58 =>
 S.cond v58 (
 S.dr <|
 S.bin .add v13 (SL.I 1) fun v65 =>
 S.bin .add v13 (SL.I 1) fun v68 =>
 S.ixS 1 v0'2 v68 fun v69 =>
 S.ld v69 fun v70 =>
 S.ixS 1 v0'2 v13 fun v73 =>
 S.ld v73 fun v74 =>
 S.ixS 1 v0'2 v13 fun v75 =>
 S.st 1 v75 v70 fun _ =>
 S.ixS 1 v0'2 v65 fun v76 =>
 S.st 1 v76 v74 fun _ =>
 S.bin .add v13 (SL.I 1) fun v60 =>
 K1 v0'2 v10' v60) (
 K (.tuple #[])))
 [v0', v10, v1']))
 [v0, v1, v4, v2, v3]
noncomputable def symR [Amb] (P : Program) (v0 v2 v4 v1 : Value) (K : Value → WT) : WT :=
 S.loop 5 (fun K2 => fun v0'3 v2' v4'2 v14 v15 => S.fa fun _ =>
 S.bin .lss v14 v15 fun v85 =>
 S.cond v85 (
 S.bin .add v14 v15 fun v88 =>
 S.cvt .u64 v88 fun v89 =>
 S.sh .shr v89 (.int .u64 1) fun v90 =>
 S.cvt .i64 v90 fun v91 =>
 S.dr <|
 S.ixS 1 v0'3 v2' fun v95 =>
 S.ld v95 fun v96 =>
 S.ixS 1 v0'3 v91 fun v99 =>
 S.ld v99 fun v100 =>
 S.cvv P v4'2 [v96, v100] fun v101 =>
 S.bin .lss v101 (SL.I 0) fun v102 =>
 S.not1 v102 fun v103 =>
 S.cond v103 (
 S.bin .add v91 (SL.I 1) fun v105 =>
 K2 v0'3 v2' v4'2 v105 v15) (
 K2 v0'3 v2' v4'2 v14 v91)) (
 S.loop 3 (fun K3 => fun v0'4 v14' v17 => S.fa fun _ =>
 S.bin .gtr v17 v14' fun v110 =>
 S.cond v110 (
 S.dr <|
 S.bin .sub v17 (SL.I 1) fun v117 =>
 S.bin .sub v17 (SL.I 1) fun v120 =>
 S.ixS 1 v0'4 v120 fun v121 =>
 S.ld v121 fun v122 =>
 S.ixS 1 v0'4 v17 fun v125 =>
 S.ld v125 fun v126 =>
 S.ixS 1 v0'4 v17 fun v127 =>
 S.st 1 v127 v122 fun _ =>
 S.ixS 1 v0'4 v117 fun v128 =>
 S.st 1 v128 v126 fun _ =>
 S.bin .sub v17 (SL.I 1) fun v112 =>
 K3 v0'4 v14' v112) (
 K (.tuple #[])))
 [v0'3, v14, v2']))
 [v0, v2, v4, v1, v2]
theorem symL_ok {Pr : Program} {T : Nat} {v cv : Value} {C : List Asrt} {c : Ix → Ix → Int} {P Y Q : List Ix} {x : Ix} {a m b : Nat} (hw : SW (ltC c)) (hc : CmpOk Pr B C cv c)
    (hln : (P ++ (x :: (Y ++ Q))).length ≤ 140737488355328) (hP : P.length = a) (hm : a + 1 = m) (hb : m + Y.length = b) (hY : Srt (ltC c) Y)
    (h : ∀ S', S'.length = Y.length + 1 → Srt (ltC c) S' → Stab (ltC c) (x :: Y) S' → E B (sls cX T 1 v (P ++ (S' ++ Q)) :: (C ++ H)) (K (.tuple #[]))) : E B (sls cX T 1 v (P ++ (x :: (Y ++ Q))) :: (C ++ H)) (symL Pr v (J a) cv (J m) (J b) K) := by
  have hln' : P.length + (Y.length + Q.length + 1) ≤ 140737488355328 := by simpa using hln
  have hgx : (P ++ (x :: (Y ++ Q)))[a]? = some x := get_mid hP.symm
  unfold symL
  refine E_loop (n := 5) (σ := Nat × Nat) (fun s => s.1 ≤ s.2 ∧ s.2 ≤ Y.length ∧ (∀ y ∈ Y.take s.1, ltC c y x = true) ∧ (∀ y ∈ Y.drop s.2, ltC c y x = false)) (fun s => [v, J a, cv, J (m + s.1 : Nat), J (m + s.2 : Nat)]) (fun _ => sls cX T 1 v (P ++ (x :: (Y ++ Q))) :: (C ++ H)) (fun s => s.2 - s.1) (0, Y.length) (fun _ => rfl) (by simp [hb]) ⟨Nat.zero_le _, Nat.le_refl _, by simp, by simp⟩ (fun W hW => hW) ?_
  rintro ⟨p, q⟩ K0 ⟨hpq, hq, h1, h2⟩ hk
  simp only at hpq hq h1 h2 hk ⊢
  refine E_fa fun _ => ?_
  refine E_lss ?_
  refine E_if (fun hlt => ?_) (fun hlt => ?_)
  · refine E_mid2 (by omega) ?_
    obtain ⟨t, ht⟩ : ∃ t, (m + p + (m + q)) / 2 = m + t := ⟨(p + q) / 2, by omega⟩
    have ht1 : p ≤ t ∧ t < q := by omega
    rw [ht]
    have hy : Y[t]? = some Y[t] := List.getElem?_eq_getElem (by omega)
    have hsp : Y = Y.take t ++ Y[t] :: Y.drop (t + 1) := by rw [List.getElem_cons_drop, List.take_append_drop]
    generalize Y[t] = y at hy hsp
    have hgy : (P ++ (x :: (Y ++ Q)))[m + t]? = some y := by
      rw [List.getElem?_append_right (by omega), show m + t - P.length = t + 1 by omega, List.getElem?_cons_succ, List.getElem?_append_left (by omega)]; exact hy
    refine E_dr ?_
    refine E_rsix (v := v) hgy fun _ _ => ?_
    refine E_ptld ?_
    refine E_rsix (v := v) hgx fun _ _ => ?_
    refine E_ptld ?_
    refine cmp_use hc ?_
    refine E_lss ?_
    obtain ⟨s1, s2, s3⟩ := List.pairwise_append.1 (hsp ▸ hY)
    have s2' := (List.pairwise_cons.1 s2).1
    show E B _ (S.cond (.bool (ltC c y x)) _ _)
    cases hyx : ltC c y x with
    | true =>
      refine E_tt ?_
      refine E_addI (by omega) (by omega) ?_
      rw [show ((m + t : Nat) : Int) + 1 = ((m + (t + 1) : Nat) : Int) by omega]
      refine hk (t + 1, q) ⟨by simp only; omega, hq, fun z hz => ?_, h2⟩ (by simp only; omega)
      rw [List.take_add_one, hy] at hz
      rcases List.mem_append.1 hz with hz | hz
      · cases hzx : ltC c z x with
        | true => rfl
        | false => rw [hw.ntr y z x (s3 z hz y (by simp)) hzx] at hyx; cases hyx
      · simp at hz; subst hz; exact hyx
    | false =>
      refine E_ff ?_
      refine hk (p, t) ⟨ht1.1, by simp only; omega, h1, fun z hz => ?_⟩ (by simp only; omega)
      rw [List.drop_eq_getElem_cons (show t < Y.length by omega)] at hz
      rcases List.mem_cons.1 hz with hz | hz
      · rw [hz, (List.getElem?_eq_some_iff.1 hy).2]; exact hyx
      · exact hw.ntr z y x (s2' z hz) hyx
  · have hpq' : p = q := by omega
    subst hpq'
    clear hk
    have hYs : Y = Y.take p ++ Y.drop p := (List.take_append_drop ..).symm
    obtain ⟨o1, o2⟩ := insertL_ok hw (x := x) (hYs ▸ hY) h1 h2
    rw [← hYs] at o2
    refine E_loop (n := 3) (σ := Nat) (fun t => t ≤ p) (fun t => [v, J (m + p : Nat), J ((a : Int) + t)]) (fun t => sls cX T 1 v (P ++ (Y.take t ++ (x :: (Y.drop t ++ Q)))) :: (C ++ H)) (fun t => p - t) 0 (fun _ => rfl) (by simp) (Nat.zero_le _) (fun W hW => by simpa using hW) ?_
    rintro t K1 ht hk
    refine E_fa fun _ => ?_
    refine E_subI (by omega) (by omega) ?_
    refine E_lss ?_
    refine E_if (fun hlt2 => ?_) (fun hlt2 => ?_)
    · have hy : Y[t]? = some Y[t] := List.getElem?_eq_getElem (by omega)
      have hdr : Y.drop t = Y[t] :: Y.drop (t + 1) := List.drop_eq_getElem_cons (by omega)
      have htk : Y.take (t + 1) = Y.take t ++ [Y[t]] := by rw [List.take_add_one, hy]; rfl
      generalize Y[t] = y at hy hdr htk
      have ec : P ++ (Y.take t ++ (x :: (Y.drop t ++ Q))) = (P ++ Y.take t) ++ x :: y :: (Y.drop (t + 1) ++ Q) := by rw [hdr]; simp
      have hFl : (P ++ Y.take t).length = a + t := by rw [List.length_append, List.length_take]; omega
      have hlen : ((P ++ Y.take t) ++ x :: y :: (Y.drop (t + 1) ++ Q)).length = (P ++ Y.take t).length + ((Y.drop (t + 1) ++ Q).length + 2) := by rw [List.length_append]; rfl
      rw [ec]
      refine E_dr ?_
      refine E_addI (by omega) (by omega) ?_
      refine E_addI (by omega) (by omega) ?_
      rw [show (a : Int) + t + 1 = (((P ++ Y.take t).length + 1 : Nat) : Int) by omega, show (a : Int) + t = ((P ++ Y.take t).length : Int) by omega]
      refine E_rsix (v := v) (get_mid1 (i := (P ++ Y.take t).length + 1) rfl) fun _ _ => ?_
      refine E_ptld ?_
      refine E_rsix (v := v) (get_mid (i := (P ++ Y.take t).length) rfl) fun _ _ => ?_
      refine E_ptld ?_
      refine E_sset (l := (P ++ Y.take t) ++ x :: y :: (Y.drop (t + 1) ++ Q)) y (by omega) rfl ?_
      refine E_sset (l := ((P ++ Y.take t) ++ x :: y :: (Y.drop (t + 1) ++ Q)).set (P ++ Y.take t).length y) x (by rw [List.length_set]; omega) rfl ?_
      rw [List.set_comm _ _ (by omega), swap_mid rfl rfl]
      refine E_addI (by omega) (by omega) ?_
      have hk1 := hk (t + 1) (by omega) (by omega)
      rw [htk] at hk1
      rw [show ((P ++ Y.take t).length : Int) + 1 = (a : Int) + ((t + 1 : Nat) : Int) by omega]
      simp only [List.append_assoc, List.cons_append, List.nil_append] at hk1 ⊢
      exact hk1
    · have htp : t = p := by omega
      subst htp
      have := h (Y.take t ++ x :: Y.drop t) (by simp; omega) o1 o2
      simpa [List.append_assoc] using this
theorem symR_ok {Pr : Program} {T : Nat} {v cv : Value} {C : List Asrt} {c : Ix → Ix → Int} {P X Q : List Ix} {y : Ix} {a m : Nat} (hw : SW (ltC c)) (hc : CmpOk Pr B C cv c)
    (hln : (P ++ (X ++ (y :: Q))).length ≤ 140737488355328) (hP : P.length = a) (hm : a + X.length = m) (hX : Srt (ltC c) X)
    (h : ∀ S', S'.length = X.length + 1 → Srt (ltC c) S' → Stab (ltC c) (X ++ [y]) S' → E B (sls cX T 1 v (P ++ (S' ++ Q)) :: (C ++ H)) (K (.tuple #[]))) : E B (sls cX T 1 v (P ++ (X ++ (y :: Q))) :: (C ++ H)) (symR Pr v (J m) cv (J a) K) := by
  have hln' : P.length + (X.length + (Q.length + 1)) ≤ 140737488355328 := by simpa using hln
  have hgy : (P ++ (X ++ (y :: Q)))[m]? = some y := by rw [← List.append_assoc]; exact get_mid (by simp; omega)
  unfold symR
  refine E_loop (n := 5) (σ := Nat × Nat) (fun s => s.1 ≤ s.2 ∧ s.2 ≤ X.length ∧ (∀ x ∈ X.take s.1, ltC c y x = false) ∧ (∀ x ∈ X.drop s.2, ltC c y x = true)) (fun s => [v, J m, cv, J (a + s.1 : Nat), J (a + s.2 : Nat)]) (fun _ => sls cX T 1 v (P ++ (X ++ (y :: Q))) :: (C ++ H)) (fun s => s.2 - s.1) (0, X.length) (fun _ => rfl) (by simp [hm]) ⟨Nat.zero_le _, Nat.le_refl _, by simp, by simp⟩ (fun W hW => hW) ?_
  rintro ⟨p, q⟩ K0 ⟨hpq, hq, h1, h2⟩ hk
  simp only at hpq hq h1 h2 hk ⊢
  refine E_fa fun _ => ?_
  refine E_lss ?_
  refine E_if (fun hlt => ?_) (fun hlt => ?_)
  · refine E_mid2 (by omega) ?_
    obtain ⟨t, ht⟩ : ∃ t, (a + p + (a + q)) / 2 = a + t := ⟨(p + q) / 2, by omega⟩
    have ht1 : p ≤ t ∧ t < q := by omega
    rw [ht]
    have hx : X[t]? = some X[t] := List.getElem?_eq_getElem (by omega)
    have hsp : X = X.take t ++ X[t] :: X.drop (t + 1) := by rw [List.getElem_cons_drop, List.take_append_drop]
    generalize X[t] = x at hx hsp
    have hgx : (P ++ (X ++ (y :: Q)))[a + t]? = some x := by
      rw [List.getElem?_append_right (by omega), show a + t - P.length = t by omega, List.getElem?_append_left (by omega)]; exact hx
    refine E_dr ?_
    refine E_rsix (v := v) hgy fun _ _ => ?_
    refine E_ptld ?_
    refine E_rsix (v := v) hgx fun _ _ => ?_
    refine E_ptld ?_
    refine cmp_use hc ?_
    refine E_lss ?_
    obtain ⟨s1, s2, s3⟩ := List.pairwise_append.1 (hsp ▸ hX)
    have s2' := (List.pairwise_cons.1 s2).1
    refine E_notb ?_
    show E B _ (S.cond (.bool (!ltC c y x)) _ _)
    cases hyx : ltC c y x with
    | false =>
      refine E_tt ?_
      refine E_addI (by omega) (by omega) ?_
      rw [show ((a + t : Nat) : Int) + 1 = ((a + (t + 1) : Nat) : Int) by omega]
      refine hk (t + 1, q) ⟨by simp only; omega, hq, fun z hz => ?_, h2⟩ (by simp only; omega)
      rw [List.take_add_one, hx] at hz
      rcases List.mem_append.1 hz with hz | hz
      · exact hw.ntr y x z hyx (s3 z hz x (by simp))
      · simp at hz; subst hz; exact hyx
    | true =>
      refine E_ff ?_
      refine hk (p, t) ⟨ht1.1, by simp only; omega, h1, fun z hz => ?_⟩ (by simp only; omega)
      rw [List.drop_eq_getElem_cons (show t < X.length by omega)] at hz
      rcases List.mem_cons.1 hz with hz | hz
      · rw [hz, (List.getElem?_eq_some_iff.1 hx).2]; exact hyx
      · cases hyz : ltC c y z with
        | true => rfl
        | false => rw [hw.ntr y z x hyz (s2' z hz)] at hyx; cases hyx
  · have hpq' : p = q := by omega
    subst hpq'
    clear hk
    have hXs : X = X.take p ++ X.drop p := (List.take_append_drop ..).symm
    obtain ⟨o1, o2⟩ := insert_ok hw (x := y) (hXs ▸ hX) h1 h2
    rw [← hXs] at o2
    refine E_loop (n := 3) (σ := Nat) (fun t => p ≤ t ∧ t ≤ X.length) (fun t => [v, J (a + p : Nat), J (a + t : Nat)]) (fun t => sls cX T 1 v (P ++ (X.take t ++ (y :: (X.drop t ++ Q)))) :: (C ++ H)) (fun t => t) X.length (fun _ => rfl) (by simp [hm]) ⟨hq, Nat.le_refl _⟩ (fun W hW => by simpa using hW) ?_
    rintro t K1 ⟨hpt, ht⟩ hk
    refine E_fa fun _ => ?_
    refine E_gtr ?_
    refine E_if (fun hlt2 => ?_) (fun hlt2 => ?_)
    · obtain ⟨u, rfl⟩ : ∃ u, t = u + 1 := ⟨t - 1, by omega⟩
      have hx : X[u]? = some X[u] := List.getElem?_eq_getElem (by omega)
      have hdr : X.drop u = X[u] :: X.drop (u + 1) := List.drop_eq_getElem_cons (by omega)
      have htk : X.take (u + 1) = X.take u ++ [X[u]] := by rw [List.take_add_one, hx]; rfl
      generalize X[u] = x at hx hdr htk
      have ec : P ++ (X.take (u + 1) ++ (y :: (X.drop (u + 1) ++ Q))) = (P ++ X.take u) ++ x :: y :: (X.drop (u + 1) ++ Q) := by rw [htk]; simp
      have hFl : (P ++ X.take u).length = a + u := by rw [List.length_append, List.length_take]; omega
      have hlen : ((P ++ X.take u) ++ x :: y :: (X.drop (u + 1) ++ Q)).length = (P ++ X.take u).length + ((X.drop (u + 1) ++ Q).length + 2) := by rw [List.length_append]; rfl
      rw [ec]
      refine E_dr ?_
      refine E_subI (by omega) (by omega) ?_
      refine E_subI (by omega) (by omega) ?_
      rw [show ((a + (u + 1) : Nat) : Int) - 1 = ((P ++ X.take u).length : Int) by omega, show ((a + (u + 1) : Nat) : Int) = (((P ++ X.take u).length + 1 : Nat) : Int) by omega]
      refine E_rsix (v := v) (get_mid (i := (P ++ X.take u).length) rfl) fun _ _ => ?_
      refine E_ptld ?_
      refine E_rsix (v := v) (get_mid1 (i := (P ++ X.take u).length + 1) rfl) fun _ _ => ?_
      refine E_ptld ?_
      refine E_sset (l := (P ++ X.take u) ++ x :: y :: (X.drop (u + 1) ++ Q)) x (by omega) rfl ?_
      refine E_sset (l := ((P ++ X.take u) ++ x :: y :: (X.drop (u + 1) ++ Q)).set ((P ++ X.take u).length + 1) x) y (by rw [List.length_set]; omega) rfl ?_
      rw [swap_mid rfl rfl]
      refine E_subI (by omega) (by omega) ?_
      have hk1 := hk u ⟨by omega, by omega⟩ (by omega)
      rw [hdr] at hk1
      rw [show (((P ++ X.take u).length + 1 : Nat) : Int) - 1 = ((a + u : Nat) : Int) by omega]
      simp only [List.append_assoc, List.cons_append, List.nil_append] at hk1 ⊢
      exact hk1
    · have htp : t = p := by omega
      subst htp
      have := h (X.take t ++ y :: X.drop t) (by simp; omega) o1 o2
      simpa [List.append_assoc] using this
end Go.SL.Stb
end
section
namespace Go.SL.Stb
open Go Go.SL
variable {α : Type} {lt : α → α → Bool}
theorem srt_le (hw : SW lt) {l : List α} (h : Srt lt l) {i j : Nat} {x y : α} (hx : l[i]? = some x) (hy : l[j]? = some y) (hij : i ≤ j) : lt y x = false := by
  obtain ⟨hi, ex⟩ := List.getElem?_eq_some_iff.1 hx
  obtain ⟨hj, ey⟩ := List.getElem?_eq_some_iff.1 hy
  rcases Nat.lt_or_ge i j with hlt | hge
  · have := List.pairwise_iff_getElem.1 h i j hi hj hlt
    rw [ex, ey] at this; exact this
  · have : i = j := by omega
    subst this
    rw [hx] at hy; cases hy
    exact hw.irr x
def s0 (lx ly h : Nat) : Nat := if h < lx then h - ly else 0
def r0 (lx h : Nat) : Nat := if h < lx then h else lx
theorem cut_ok (hw : SW lt) {X Y : List α} {h st : Nat} (hX : Srt lt X) (hY : Srt lt Y) (hh : h = (X.length + Y.length) / 2) (h1 : s0 X.length Y.length h ≤ st) (h2 : st ≤ r0 X.length h)
    (f1 : st = s0 X.length Y.length h ∨ ∃ x y, X[st - 1]? = some x ∧ Y[h - st]? = some y ∧ lt y x = false) (f2 : st = r0 X.length h ∨ ∃ x y, X[st]? = some x ∧ Y[h - 1 - st]? = some y ∧ lt y x = true) :
    (∀ x ∈ X.take st, ∀ y ∈ Y.drop (h - st), lt y x = false) ∧ (∀ x ∈ X.drop st, ∀ y ∈ Y.take (h - st), lt y x = true) := by
  constructor
  · intro x hx y hy
    obtain ⟨i, hi, ex⟩ := List.mem_take_iff_getElem.1 hx
    obtain ⟨j, hj, ey⟩ := List.mem_drop_iff_getElem.1 hy
    have hxi : X[i]? = some x := by rw [List.getElem?_eq_getElem (by omega), ex]
    have hyj : Y[h - st + j]? = some y := by rw [List.getElem?_eq_getElem (by omega), ey]
    rcases f1 with f1 | ⟨u, w, hu, hv, huw⟩
    · unfold s0 at f1
      split at f1 <;> omega
    · exact hw.ntr y u x (hw.ntr y w u (srt_le hw hY hv hyj (by omega)) huw) (srt_le hw hX hxi hu (by omega))
  · intro x hx y hy
    obtain ⟨i, hi, ex⟩ := List.mem_drop_iff_getElem.1 hx
    obtain ⟨j, hj, ey⟩ := List.mem_take_iff_getElem.1 hy
    have hxi : X[st + i]? = some x := by rw [List.getElem?_eq_getElem (by omega), ex]
    have hyj : Y[j]? = some y := by rw [List.getElem?_eq_getElem (by omega), ey]
    rcases f2 with f2 | ⟨u, w, hu, hv, huw⟩
    · unfold r0 at f2
      split at f2 <;> omega
    · cases hyx : lt y x with
      | true => rfl
      | false =>
        rw [hw.ntr w x u (hw.ntr w y x (srt_le hw hY hyj hv (by omega)) hyx) (srt_le hw hX hu hxi (by omega))] at huw
        cases huw
end Go.SL.Stb
end
section
namespace Go.SL.Stb
open Go Go.SL
variable {B : World} {H : List Asrt} {K : Value → WT} {W : WT}
theorem symC_ok {Pr : Program} {sw rot sym T : Nat} {v cv : Value} {C : List Asrt} {c : Ix → Ix → Int} (hw : SW (ltC c)) (hc : CmpOk Pr B C cv c)
    (hsw : ∀ (d x y n c : Value) (K' : Value → WT) (H' : List Asrt), E B H' (swC d x y n K') → E B H' (CF Pr sw [d, x, y, n, c] K'))
    (hrot : ∀ (d x y z c : Value) (K' : Value → WT) (H' : List Asrt), E B H' (rotC Pr sw d x y z c K') → E B H' (CF Pr rot [d, x, y, z, c] K'))
    (hsym : ∀ (d x y z c : Value) (K' : Value → WT) (H' : List Asrt), E B H' (symC Pr rot sym d x y z c K') → E B H' (CF Pr sym [d, x, y, z, c] K')) :
    ∀ (n : Nat) {H : List Asrt} {K : Value → WT} {P X Y Q : List Ix} {a m b : Nat}, X.length + Y.length ≤ n → 1 ≤ X.length → 1 ≤ Y.length → (P ++ (X ++ (Y ++ Q))).length ≤ 140737488355328 → P.length = a → a + X.length = m → m + Y.length = b → Srt (ltC c) X → Srt (ltC c) Y →
      (∀ S', S'.length = X.length + Y.length → Srt (ltC c) S' → Stab (ltC c) (X ++ Y) S' → E B (sls cX T 1 v (P ++ (S' ++ Q)) :: (C ++ H)) (K (.tuple #[]))) → E B (sls cX T 1 v (P ++ (X ++ (Y ++ Q))) :: (C ++ H)) (symC Pr rot sym v (J a) (J m) (J b) cv K)
  | 0, _, _, _, _, _, _, _, _, _, h0, h1, _, _, _, _, _, _, _, _ => by omega
  | n + 1, H, K, P, X, Y, Q, a, m, b, hn, hx1, hy1, hln, hP, hm, hb, hX, hY, h => by
    have hln' : P.length + (X.length + (Y.length + Q.length)) ≤ 140737488355328 := by simpa using hln
    unfold symC
    refine E_subI (by omega) (by omega) ?_
    refine E_eql ?_
    refine E_if (fun e1 => ?_) (fun e1 => ?_)
    · obtain ⟨x, rfl⟩ : ∃ x, X = [x] := List.length_eq_one_iff.1 (by omega)
      rw [List.singleton_append]
      show E B _ (symL Pr v (J a) cv (J m) (J b) K)
      refine symL_ok hw hc (by simpa using hln) hP (by simpa using hm) hb hY fun S' h1 h2 h3 => h S' (by simp; omega) h2 (by simpa using h3)
    refine E_subI (by omega) (by omega) ?_
    refine E_eql ?_
    refine E_if (fun e2 => ?_) (fun e2 => ?_)
    · obtain ⟨y, rfl⟩ : ∃ y, Y = [y] := List.length_eq_one_iff.1 (by omega)
      rw [List.singleton_append]
      show E B _ (symR Pr v (J m) cv (J a) K)
      refine symR_ok hw hc (by simpa using hln) hP hm hX fun S' h1 h2 h3 => h S' (by simp; omega) h2 (by simpa using h3)
    have hab : (a + b) / 2 = a + (X.length + Y.length) / 2 := by omega
    refine E_mid2 (by omega) ?_
    rw [hab]
    generalize hh : (X.length + Y.length) / 2 = g
    have hh' : g = (X.length + Y.length) / 2 := hh.symm
    refine E_addI (by omega) (by omega) ?_
    rw [show ((a + g : Nat) : Int) + m = ((a + g + m : Nat) : Int) by omega]
    have hsr : s0 X.length Y.length g ≤ r0 X.length g ∧ r0 X.length g ≤ X.length ∧ r0 X.length g ≤ g ∧ g - s0 X.length Y.length g ≤ Y.length := by
      unfold s0 r0
      split <;> omega
    obtain ⟨q1, q2, q3, q4⟩ := hsr
    refine E_join1 [v, J a, J m, J b, cv, J (a + g : Nat), J (a + g + m : Nat), J (a + s0 X.length Y.length g : Nat), J (a + r0 X.length g : Nat)] (sls cX T 1 v (P ++ (X ++ (Y ++ Q))) :: (C ++ H)) (fun q hq => ?_) ?_
    · refine E_gtr ?_
      refine E_if (fun e3 => ?_) (fun e3 => ?_)
      · have h5 : g < X.length := by omega
        unfold s0 r0 at hq
        rw [if_pos h5, if_pos h5] at hq
        refine E_subI (by omega) (by omega) ?_
        rw [show ((a + g + m : Nat) : Int) - b = ((a + (g - Y.length) : Nat) : Int) by omega]
        exact hq
      · have h5 : ¬ g < X.length := by omega
        unfold s0 r0 at hq
        rw [if_neg h5, if_neg h5, hm] at hq
        exact hq
    refine E_fa fun _ => ?_
    refine E_subI (by omega) (by omega) ?_
    refine E_loop (n := 10) (σ := Nat × Nat) (fun s => s0 X.length Y.length g ≤ s.1 ∧ s.1 ≤ s.2 ∧ s.2 ≤ r0 X.length g ∧ (s.1 = s0 X.length Y.length g ∨ ∃ x y, X[s.1 - 1]? = some x ∧ Y[g - s.1]? = some y ∧ ltC c y x = false) ∧ (s.2 = r0 X.length g ∨ ∃ x y, X[s.2]? = some x ∧ Y[g - 1 - s.2]? = some y ∧ ltC c y x = true))
      (fun s => [v, J a, J m, J b, cv, J (a + g : Nat), J (a + g + m : Nat), J (a + s.1 : Nat), J (a + s.2 : Nat), J (((a + g + m : Nat) : Int) - 1)]) (fun _ => sls cX T 1 v (P ++ (X ++ (Y ++ Q))) :: (C ++ H)) (fun s => s.2 - s.1) (s0 X.length Y.length g, r0 X.length g) (fun _ => rfl) rfl ⟨Nat.le_refl _, q1, Nat.le_refl _, .inl rfl, .inl rfl⟩ (fun W hW => hW) ?_
    rintro ⟨i, j⟩ K0 ⟨hi, hij, hj, f1, f2⟩ hk
    simp only at hi hij hj f1 f2 hk ⊢
    refine E_fa fun _ => ?_
    refine E_lss ?_
    refine E_if (fun hlt => ?_) (fun hlt => ?_)
    · refine E_mid2 (by omega) ?_
      obtain ⟨t, ht⟩ : ∃ t, (a + i + (a + j)) / 2 = a + t := ⟨(i + j) / 2, by omega⟩
      have ht1 : i ≤ t ∧ t < j := by omega
      rw [ht]
      have hx : X[t]? = some X[t] := List.getElem?_eq_getElem (by omega)
      have hy : Y[g - 1 - t]? = some Y[g - 1 - t] := List.getElem?_eq_getElem (by omega)
      generalize X[t] = x at hx
      generalize Y[g - 1 - t] = y at hy
      have hgx : (P ++ (X ++ (Y ++ Q)))[a + t]? = some x := by
        rw [List.getElem?_append_right (by omega), show a + t - P.length = t by omega, List.getElem?_append_left (by omega)]; exact hx
      have hgy : (P ++ (X ++ (Y ++ Q)))[m + (g - 1 - t)]? = some y := by
        rw [List.getElem?_append_right (by omega), List.getElem?_append_right (by omega), show m + (g - 1 - t) - P.length - X.length = g - 1 - t by omega, List.getElem?_append_left (by omega)]; exact hy
      refine E_dr ?_
      refine E_subI (by omega) (by omega) ?_
      rw [show ((a + g + m : Nat) : Int) - 1 - ((a + t : Nat) : Int) = ((m + (g - 1 - t) : Nat) : Int) by omega]
      refine E_rsix (v := v) hgy fun _ _ => ?_
      refine E_ptld ?_
      refine E_rsix (v := v) hgx fun _ _ => ?_
      refine E_ptld ?_
      refine cmp_use hc ?_
      refine E_lss ?_
      refine E_notb ?_
      show E B _ (S.cond (.bool (!ltC c y x)) _ _)
      cases hyx : ltC c y x with
      | false =>
        refine E_tt ?_
        refine E_addI (by omega) (by omega) ?_
        rw [show ((a + t : Nat) : Int) + 1 = ((a + (t + 1) : Nat) : Int) by omega]
        exact hk (t + 1, j) ⟨by simp only; omega, by simp only; omega, hj, .inr ⟨x, y, hx, by simp only; rw [show g - (t + 1) = g - 1 - t by omega]; exact hy, hyx⟩, f2⟩ (by simp only; omega)
      | true =>
        refine E_ff ?_
        exact hk (i, t) ⟨hi, ht1.1, by simp only; omega, f1, .inr ⟨x, y, hx, hy, hyx⟩⟩ (by simp only; omega)
    have hij' : i = j := by omega
    subst hij'
    clear hk
    obtain ⟨c1, c2⟩ := cut_ok hw hX hY hh' hi hj f1 f2
    have hiX : i ≤ X.length := by omega
    have hgY : g - i ≤ Y.length := by omega
    obtain ⟨X1, X2, rfl, hX1⟩ : ∃ X1 X2, X = X1 ++ X2 ∧ X1.length = i := ⟨X.take i, X.drop i, (List.take_append_drop ..).symm, by rw [List.length_take]; omega⟩
    obtain ⟨Y1, Y2, rfl, hY1⟩ : ∃ Y1 Y2, Y = Y1 ++ Y2 ∧ Y1.length = g - i := ⟨Y.take (g - i), Y.drop (g - i), (List.take_append_drop ..).symm, by rw [List.length_take]; omega⟩
    rw [List.take_left' hX1, List.drop_left' hY1] at c1
    rw [List.drop_left' hX1, List.take_left' hY1] at c2
    have lX : (X1 ++ X2).length = X1.length + X2.length := List.length_append
    have lY : (Y1 ++ Y2).length = Y1.length + Y2.length := List.length_append
    refine E_subI (by omega) (by omega) ?_
    rw [show ((a + g + m : Nat) : Int) - ((a + i : Nat) : Int) = ((m + (g - i) : Nat) : Int) by omega]
    refine E_join1 [v, J a, J b, cv, J (a + g : Nat), J (a + i : Nat), J (m + (g - i) : Nat)] (sls cX T 1 v (P ++ (X1 ++ (Y1 ++ (X2 ++ (Y2 ++ Q))))) :: (C ++ H)) (fun q hq => ?_) ?_
    · refine E_join1 [v, J a, J m, J b, cv, J (a + g : Nat), J (a + i : Nat), J (m + (g - i) : Nat), .bool (decide (((a + i : Nat) : Int) < (m : Int)) && decide ((m : Int) < ((m + (g - i) : Nat) : Int)))] (sls cX T 1 v (P ++ ((X1 ++ X2) ++ ((Y1 ++ Y2) ++ Q))) :: (C ++ H)) (fun k hk => ?_) ?_
      · (repeat first | refine gS ?_ | refine gY ?_ | refine gA fun _ => ?_ | refine gX fun _ _ => ?_ | refine gI ?_)
        exact hk
      refine E_fa fun _ => ?_
      refine E_ifb' (p := 1 ≤ X2.length ∧ 1 ≤ Y1.length) (by simp; omega) (fun e => ?_) (fun e => ?_)
      · refine hrot _ _ _ _ _ _ _ ?_
        have e1 : P ++ ((X1 ++ X2) ++ ((Y1 ++ Y2) ++ Q)) = (P ++ X1) ++ (X2 ++ (Y1 ++ (Y2 ++ Q))) := by simp
        rw [e1]
        refine rotC_ok (Q := Y2 ++ Q) hsw (by rw [← e1]; exact hln) (by rw [List.length_append]; omega) (by omega) (by omega) e.1 e.2 ?_
        rw [List.append_assoc]
        exact hq
      · have e0 : X2 = [] ∨ Y1 = [] := by
          rcases Nat.eq_zero_or_pos X2.length with h | h
          · exact .inl (List.length_eq_zero_iff.1 h)
          · exact .inr (List.length_eq_zero_iff.1 (by omega))
        rcases e0 with rfl | rfl
        · simp only [List.append_nil, List.nil_append, List.append_assoc] at hq ⊢
          exact hq
        · simp only [List.append_nil, List.nil_append, List.append_assoc] at hq ⊢
          exact hq
    refine E_fa fun _ => ?_
    obtain ⟨sx1, sx2, _⟩ := List.pairwise_append.1 hX
    obtain ⟨sy1, sy2, _⟩ := List.pairwise_append.1 hY
    have hln2 : P.length + (X1.length + (Y1.length + (X2.length + (Y2.length + Q.length)))) ≤ 140737488355328 := by omega
    refine E_joinC (σ := List Ix) (fun S1 => S1.length = X1.length + Y1.length ∧ Srt (ltC c) S1 ∧ Stab (ltC c) (X1 ++ Y1) S1) (fun _ => [v, J b, cv, J (a + g : Nat), J (m + (g - i) : Nat)]) (fun S1 => sls cX T 1 v (P ++ (S1 ++ (X2 ++ (Y2 ++ Q)))) :: (C ++ H)) (fun q hq => ?_) (fun S1 hS1 => ?_)
    · refine E_join1 [v, J a, J b, cv, J (a + g : Nat), J (a + i : Nat), J (m + (g - i) : Nat), .bool (decide ((a : Int) < ((a + i : Nat) : Int)) && decide (((a + i : Nat) : Int) < ((a + g : Nat) : Int)))] (sls cX T 1 v (P ++ (X1 ++ (Y1 ++ (X2 ++ (Y2 ++ Q))))) :: (C ++ H)) (fun k hk => ?_) ?_
      · (repeat first | refine gS ?_ | refine gY ?_ | refine gA fun _ => ?_ | refine gX fun _ _ => ?_ | refine gI ?_)
        exact hk
      refine E_fa fun _ => ?_
      refine E_ifb' (p := 1 ≤ X1.length ∧ 1 ≤ Y1.length) (by simp; omega) (fun e => ?_) (fun e => ?_)
      · refine hsym _ _ _ _ _ _ _ ?_
        refine symC_ok hw hc hsw hrot hsym n (X := X1) (Y := Y1) (Q := X2 ++ (Y2 ++ Q)) (by omega) e.1 e.2 (by simp only [List.length_append]; omega) hP (by omega) (by omega) sx1 sy1 fun S' z1 z2 z3 => hq S' ⟨z1, z2, z3⟩
      · have hS : Srt (ltC c) (X1 ++ Y1) := by
          rcases Nat.eq_zero_or_pos X1.length with h | h
          · rw [List.length_eq_zero_iff.1 h]; exact sy1
          · rw [List.length_eq_zero_iff.1 (show Y1.length = 0 by omega), List.append_nil]; exact sx1
        have hq1 := hq (X1 ++ Y1) ⟨List.length_append, hS, Stab.refl _⟩
        simp only [List.append_assoc] at hq1 ⊢
        exact hq1
    obtain ⟨z1, z2, z3⟩ := hS1
    have fin : ∀ S2, S2.length = X2.length + Y2.length → Srt (ltC c) S2 → Stab (ltC c) (X2 ++ Y2) S2 → E B (sls cX T 1 v (P ++ (S1 ++ (S2 ++ Q))) :: (C ++ H)) (K (.tuple #[])) := fun S2 w1 w2 w3 => by
      obtain ⟨m1, m2⟩ := merge_ok hw hX hY c1 c2 z2 w2 z3 w3
      have := h (S1 ++ S2) (by rw [List.length_append]; omega) m1 m2
      rw [List.append_assoc] at this
      exact this
    refine E_fa fun _ => ?_
    refine E_join1 [v, J b, cv, J (a + g : Nat), J (m + (g - i) : Nat), .bool (decide (((a + g : Nat) : Int) < ((m + (g - i) : Nat) : Int)) && decide (((m + (g - i) : Nat) : Int) < (b : Int)))] (sls cX T 1 v (P ++ (S1 ++ (X2 ++ (Y2 ++ Q)))) :: (C ++ H)) (fun k hk => ?_) ?_
    · (repeat first | refine gS ?_ | refine gY ?_ | refine gA fun _ => ?_ | refine gX fun _ _ => ?_ | refine gI ?_)
      exact hk
    refine E_fa fun _ => ?_
    refine E_ifb' (p := 1 ≤ X2.length ∧ 1 ≤ Y2.length) (by simp; omega) (fun e => ?_) (fun e => ?_)
    · refine hsym _ _ _ _ _ _ _ ?_
      rw [← List.append_assoc P]
      refine symC_ok hw hc hsw hrot hsym n (P := P ++ S1) (X := X2) (Y := Y2) (Q := Q) (by omega) e.1 e.2 (by simp only [List.length_append]; omega) (by rw [List.length_append]; omega) (by omega) (by omega) sx2 sy2 fun S' w1 w2 w3 => ?_
      rw [List.append_assoc]
      exact fin S' w1 w2 w3
    · have hS : Srt (ltC c) (X2 ++ Y2) := by
        rcases Nat.eq_zero_or_pos X2.length with h | h
        · rw [List.length_eq_zero_iff.1 h]; exact sy2
        · rw [List.length_eq_zero_iff.1 (show Y2.length = 0 by omega), List.append_nil]; exact sx2
      have := fin (X2 ++ Y2) List.length_append hS (Stab.refl _)
      simp only [List.append_assoc] at this ⊢
      exact this
end Go.SL.Stb
end
section
namespace Go.SL.Stb
open Go Go.SL
variable {B : World} {H : List Asrt} {K : Value → WT} {W : WT}
noncomputable def stC [Amb] (P : Program) (ins sym : Nat) (data_0 n_1 cmp_2 : Value) (K : Value → WT) : WT :=
 S.loop 6 (fun K0 => fun data_0' n_1' cmp_2' blockSize_6 a_7 b_8 => S.fa fun _ =>
 S.bin .leq b_8 n_1' fun v13 =>
 S.cond v13 (
 CF P ins [data_0', a_7, b_8, cmp_2'] fun v18 =>
 S.bin .add b_8 blockSize_6 fun v22 =>
 K0 data_0' n_1' cmp_2' blockSize_6 b_8 v22) (
 CF P ins [data_0', a_7, n_1', cmp_2'] fun v27 =>
 S.loop 4 (fun K1 => fun data_0'2 n_1'2 cmp_2'2 blockSize_6' => S.fa fun _ =>
 S.bin .lss blockSize_6' n_1'2 fun v30 =>
 S.cond v30 (
 S.bin .mul (SL.I 2) blockSize_6' fun v32 =>
 S.loop 6 (fun K2 => fun data_0'3 n_1'3 cmp_2'3 blockSize_6'2 a_7' b_8' => S.fa fun _ =>
 S.bin .leq b_8' n_1'3 fun v35 =>
 S.cond v35 (
 S.bin .add a_7' blockSize_6'2 fun v40 =>
 CF P sym [data_0'3, a_7', v40, b_8', cmp_2'3] fun v43 =>
 S.bin .mul (SL.I 2) blockSize_6'2 fun v47 =>
 S.bin .add b_8' v47 fun v48 =>
 K2 data_0'3 n_1'3 cmp_2'3 blockSize_6'2 b_8' v48) (
 S.join 4 (fun K3 =>
 S.bin .add a_7' blockSize_6'2 fun v51 =>
 S.bin .lss v51 n_1'3 fun v54 =>
 S.cond v54 (
 CF P sym [data_0'3, a_7', v51, n_1'3, cmp_2'3] fun v60 =>
 K3 data_0'3 n_1'3 cmp_2'3 blockSize_6'2) (
 K3 data_0'3 n_1'3 cmp_2'3 blockSize_6'2))
 <| fun data_0'4 n_1'4 cmp_2'4 blockSize_6'3 => S.fa fun _ =>
 S.bin .mul blockSize_6'3 (SL.I 2) fun v62 =>
 K1 data_0'4 n_1'4 cmp_2'4 v62))
 [data_0'2, n_1'2, cmp_2'2, blockSize_6', (SL.I 0), v32]) (
 K (.tuple #[])))
 [data_0', n_1', cmp_2', blockSize_6]))
 [data_0, n_1, cmp_2, (SL.I 20), (SL.I 0), (SL.I 20)]
def Bks (lt : Ix → Ix → Bool) (bs : Nat) (L : List (List Ix)) : Prop := ∀ S ∈ L, S.length = bs ∧ Srt lt S
theorem Bks.len {lt : Ix → Ix → Bool} {bs : Nat} : ∀ {L : List (List Ix)}, Bks lt bs L → L.flatten.length = bs * L.length
  | [], _ => by simp
  | S :: L, h => by
    rw [List.flatten_cons, List.length_append, (h S (by simp)).1, Bks.len (L := L) fun T hT => h T (List.mem_cons_of_mem _ hT), List.length_cons, Nat.mul_add]; omega
theorem Bks.snoc {lt : Ix → Ix → Bool} {bs : Nat} {L : List (List Ix)} {S : List Ix} (h : Bks lt bs L) (h1 : S.length = bs) (h2 : Srt lt S) : Bks lt bs (L ++ [S]) := fun T hT => by
  rcases List.mem_append.1 hT with hT | hT
  · exact h T hT
  · simp only [List.mem_singleton] at hT
    subst hT; exact ⟨h1, h2⟩
theorem stC_ok {Pr : Program} {sw rot sym ins T : Nat} {v cv : Value} {C : List Asrt} {c : Ix → Ix → Int} {l : List Ix} (hw : SW (ltC c)) (hc : CmpOk Pr B C cv c)
    (hsw : ∀ (d x y n c : Value) (K' : Value → WT) (H' : List Asrt), E B H' (swC d x y n K') → E B H' (CF Pr sw [d, x, y, n, c] K'))
    (hrot : ∀ (d x y z c : Value) (K' : Value → WT) (H' : List Asrt), E B H' (rotC Pr sw d x y z c K') → E B H' (CF Pr rot [d, x, y, z, c] K'))
    (hsym : ∀ (d x y z c : Value) (K' : Value → WT) (H' : List Asrt), E B H' (symC Pr rot sym d x y z c K') → E B H' (CF Pr sym [d, x, y, z, c] K'))
    (hins : ∀ (d x y c : Value) (K' : Value → WT) (H' : List Asrt), E B H' (insC Pr d x y c K') → E B H' (CF Pr ins [d, x, y, c] K'))
    (hln : l.length ≤ 140737488355328)
    (h : ∀ l', l'.length = l.length → Srt (ltC c) l' → Stab (ltC c) l l' → E B (sls cX T 1 v l' :: (C ++ H)) (K (.tuple #[]))) : E B (sls cX T 1 v l :: (C ++ H)) (stC Pr ins sym v (J l.length) cv K) := by
  obtain ⟨n, hn⟩ : ∃ n, l.length = n := ⟨_, rfl⟩
  rw [hn] at hln ⊢
  unfold stC
  refine E_loop (n := 6) (σ := List (List Ix) × List Ix) (fun s => Bks (ltC c) 20 s.1 ∧ s.1.flatten.length + s.2.length = n ∧ Stab (ltC c) l (s.1.flatten ++ s.2)) (fun s => [v, J n, cv, J 20, J s.1.flatten.length, J (s.1.flatten.length + 20 : Nat)]) (fun s => sls cX T 1 v (s.1.flatten ++ s.2) :: (C ++ H)) (fun s => s.2.length) ([], l) (fun _ => rfl) rfl ⟨fun S hS => (by cases hS), by simpa using hn, Stab.refl _⟩ (fun W hW => hW) ?_
  rintro ⟨L, R⟩ K0 ⟨hL, hlen, hst⟩ hk
  simp only at hL hlen hst hk ⊢
  refine E_fa fun _ => ?_
  refine E_leq ?_
  refine E_if (fun hle => ?_) (fun hle => ?_)
  · obtain ⟨S, R', rfl, hS⟩ : ∃ S R', R = S ++ R' ∧ S.length = 20 := ⟨R.take 20, R.drop 20, (List.take_append_drop ..).symm, by rw [List.length_take]; omega⟩
    refine hins _ _ _ _ _ _ ?_
    have lR : (S ++ R').length = S.length + R'.length := List.length_append
    refine insC_ok (P := L.flatten) (Sg := S) (Q := R') hw hc (by simp only [List.length_append]; omega) rfl (by omega) fun S' h1 h2 h3 => ?_
    refine E_addI (by omega) (by omega) ?_
    have hk1 := hk (L ++ [S'], R') ⟨hL.snoc (by omega) h2, by simp only [List.flatten_append, List.flatten_cons, List.flatten_nil, List.append_nil, List.length_append]; omega, by
      refine hst.trans ?_
      have := (Stab.refl (lt := ltC c) L.flatten).app (h3.app (Stab.refl R'))
      simpa [List.append_assoc] using this⟩ (by simp; omega)
    simp only [List.flatten_append, List.flatten_cons, List.flatten_nil, List.append_nil, List.length_append, List.append_assoc, h1, hS] at hk1
    rw [show ((L.flatten.length + 20 : Nat) : Int) + 20 = ((L.flatten.length + 20 + 20 : Nat) : Int) by omega]
    exact hk1
  clear hk
  refine hins _ _ _ _ _ _ ?_
  have e0 : L.flatten ++ R = L.flatten ++ (R ++ []) := by simp
  rw [e0]
  refine insC_ok (P := L.flatten) (Sg := R) (Q := []) hw hc (by simp only [List.length_append, List.length_nil]; omega) rfl (by omega) fun R1 h1 h2 h3 => ?_
  rw [List.append_nil]
  refine E_loop (n := 4) (σ := Nat × List (List Ix) × List Ix) (fun s => 1 ≤ s.1 ∧ s.1 ≤ 2 * n + 20 ∧ Bks (ltC c) s.1 s.2.1 ∧ s.2.1.flatten.length + s.2.2.length = n ∧ s.2.2.length < s.1 ∧ Srt (ltC c) s.2.2 ∧ Stab (ltC c) l (s.2.1.flatten ++ s.2.2)) (fun s => [v, J n, cv, J s.1]) (fun s => sls cX T 1 v (s.2.1.flatten ++ s.2.2) :: (C ++ H)) (fun s => n - s.1) (20, L, R1) (fun _ => rfl) rfl
    ⟨by simp only; omega, by simp only; omega, hL, by simp only; omega, by simp only; omega, h2, hst.trans ((Stab.refl _).app h3)⟩ (fun W hW => hW) ?_
  clear hst h2 h3 h1 hL hlen hle e0
  clear L R R1
  rintro ⟨bs, L, R⟩ K0 ⟨hb1, hb2, hL, hlen, hR, hs, hst⟩ hk
  simp only at hb1 hb2 hL hlen hR hs hst hk ⊢
  have hLl := hL.len
  refine E_fa fun _ => ?_
  refine E_lss ?_
  refine E_if (fun hlt => ?_) (fun hlt => ?_)
  · refine E_mulI (by omega) (by omega) ?_
    refine E_loop (n := 6) (σ := List (List Ix) × List (List Ix)) (fun s => Bks (ltC c) (2 * bs) s.1 ∧ Bks (ltC c) bs s.2 ∧ s.1.flatten.length + (s.2.flatten.length + R.length) = n ∧ Stab (ltC c) l (s.1.flatten ++ (s.2.flatten ++ R))) (fun s => [v, J n, cv, J bs, J s.1.flatten.length, J (s.1.flatten.length + 2 * bs : Nat)]) (fun s => sls cX T 1 v (s.1.flatten ++ (s.2.flatten ++ R)) :: (C ++ H)) (fun s => s.2.length) ([], L) (fun _ => rfl) (by simp) ⟨fun S hS => (by cases hS), hL, by simpa using hlen, hst⟩ (fun W hW => hW) ?_
    rintro ⟨D, L2⟩ K1 ⟨hD, hL2, hlen2, hst2⟩ hk1
    simp only at hD hL2 hlen2 hst2 hk1 ⊢
    have hL2l := hL2.len
    refine E_fa fun _ => ?_
    refine E_leq ?_
    match L2, hL2, hlen2, hst2, hk1, hL2l with
    | S1 :: S2 :: L3, hL2, hlen2, hst2, hk1, hL2l =>
      obtain ⟨a1, b1⟩ := hL2 S1 (by simp)
      obtain ⟨a2, b2⟩ := hL2 S2 (by simp)
      have lf : (S1 :: S2 :: L3).flatten = S1 ++ (S2 ++ L3.flatten) := by simp
      rw [lf] at hlen2 hst2 ⊢
      simp only [List.length_append] at hlen2
      refine E_ifT (by omega) ?_
      refine E_addI (by omega) (by omega) ?_
      refine hsym _ _ _ _ _ _ _ ?_
      rw [show (D.flatten.length : Int) + bs = ((D.flatten.length + bs : Nat) : Int) by omega]
      have e1 : D.flatten ++ (S1 ++ (S2 ++ L3.flatten) ++ R) = D.flatten ++ (S1 ++ (S2 ++ (L3.flatten ++ R))) := by simp
      rw [e1]
      refine symC_ok hw hc hsw hrot hsym _ (P := D.flatten) (X := S1) (Y := S2) (Q := L3.flatten ++ R) (Nat.le_refl _) (by omega) (by omega) (by simp only [List.length_append]; omega) rfl (by omega) (by omega) b1 b2 fun S' h1 h2 h3 => ?_
      refine E_mulI (by omega) (by omega) ?_
      refine E_addI (by omega) (by omega) ?_
      have hk2 := hk1 (D ++ [S'], L3) ⟨hD.snoc (by omega) h2, fun S hS => hL2 S (by simp [hS]), by simp only [List.flatten_append, List.flatten_cons, List.flatten_nil, List.append_nil, List.length_append]; omega, by
        refine hst2.trans ?_
        have := (Stab.refl (lt := ltC c) D.flatten).app (h3.app (Stab.refl (L3.flatten ++ R)))
        simpa [List.append_assoc] using this⟩ (by simp; omega)
      simp only [List.flatten_append, List.flatten_cons, List.flatten_nil, List.append_nil, List.length_append, List.append_assoc, h1, a1, a2] at hk2
      rw [show ((D.flatten.length + 2 * bs : Nat) : Int) + 2 * (bs : Int) = ((D.flatten.length + (bs + bs) + 2 * bs : Nat) : Int) by omega, show D.flatten.length + 2 * bs = D.flatten.length + (bs + bs) by omega]
      exact hk2
    | [S1], hL2, hlen2, hst2, hk1, hL2l =>
      obtain ⟨a1, b1⟩ := hL2 S1 (by simp)
      have lf : [S1].flatten = S1 := by simp
      rw [lf] at hlen2 hst2 ⊢
      refine E_ifF (by omega) ?_
      refine E_joinC (σ := List Ix) (fun S' => S'.length = bs + R.length ∧ Srt (ltC c) S' ∧ Stab (ltC c) (S1 ++ R) S') (fun _ => [v, J n, cv, J bs]) (fun S' => sls cX T 1 v (D.flatten ++ S') :: (C ++ H)) (fun q hq => ?_) (fun S' hS' => ?_)
      · refine E_addI (by omega) (by omega) ?_
        refine E_lss ?_
        refine E_if (fun hm => ?_) (fun hm => ?_)
        · refine hsym _ _ _ _ _ _ _ ?_
          rw [show (D.flatten.length : Int) + bs = ((D.flatten.length + bs : Nat) : Int) by omega]
          have e1 : D.flatten ++ (S1 ++ R) = D.flatten ++ (S1 ++ (R ++ [])) := by simp
          rw [e1]
          refine symC_ok hw hc hsw hrot hsym _ (P := D.flatten) (X := S1) (Y := R) (Q := []) (Nat.le_refl _) (by omega) (by omega) (by simp only [List.length_append, List.length_nil]; omega) rfl (by omega) (by omega) b1 hs fun S' h1 h2 h3 => ?_
          rw [List.append_nil]
          exact hq S' ⟨by omega, h2, h3⟩
        · have hR0 : R = [] := List.length_eq_zero_iff.1 (by omega)
          subst hR0
          rw [List.append_nil] at hst2 ⊢
          exact hq S1 ⟨by simp [a1], b1, by rw [List.append_nil]; exact Stab.refl _⟩
      · obtain ⟨h1, h2, h3⟩ := hS'
        refine E_fa fun _ => ?_
        refine E_mulI (by omega) (by omega) ?_
        rw [show (bs : Int) * 2 = ((2 * bs : Nat) : Int) by omega]
        exact hk (2 * bs, D, S') ⟨by simp only; omega, by simp only; omega, hD, by simp only; omega, by simp only; omega, h2, hst2.trans ((Stab.refl _).app h3)⟩ (by simp only; omega)
    | [], hL2, hlen2, hst2, hk1, hL2l =>
      have lf : ([] : List (List Ix)).flatten = [] := rfl
      rw [lf] at hlen2 hst2 ⊢
      simp only [List.length_nil, List.nil_append] at hlen2 hst2 ⊢
      refine E_ifF (by omega) ?_
      refine E_join1 [v, J n, cv, J bs] (sls cX T 1 v (D.flatten ++ R) :: (C ++ H)) (fun q hq => ?_) ?_
      · refine E_addI (by omega) (by omega) ?_
        refine E_lss ?_
        refine E_ifF (by omega) ?_
        exact hq
      · refine E_fa fun _ => ?_
        refine E_mulI (by omega) (by omega) ?_
        rw [show (bs : Int) * 2 = ((2 * bs : Nat) : Int) by omega]
        exact hk (2 * bs, D, R) ⟨by simp only; omega, by simp only; omega, hD, by simp only; omega, by simp only; omega, hs, hst2⟩ (by simp only; omega)
  · match L, hL, hlen, hst, hLl with
    | [], hL, hlen, hst, hLl => exact h R (by simpa [hn] using hlen) hs (by simpa using hst)
    | [S], hL, hlen, hst, hLl =>
      obtain ⟨a1, b1⟩ := hL S (by simp)
      have hR0 : R = [] := List.length_eq_zero_iff.1 (by simp [a1] at hlen; omega)
      subst hR0
      have := h S (by simp at hlen; omega) b1 (by simpa using hst)
      simpa using this
    | S1 :: S2 :: L3, hL, hlen, hst, hLl =>
      exfalso
      obtain ⟨a1, b1⟩ := hL S1 (by simp)
      obtain ⟨a2, b2⟩ := hL S2 (by simp)
      simp [a1, a2] at hlen
      omega
end Go.SL.Stb
end
