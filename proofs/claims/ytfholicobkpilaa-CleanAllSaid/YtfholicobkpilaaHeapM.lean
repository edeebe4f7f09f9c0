/-
  Heaps in lists, by an order that a key gives.
-/
import Derived.Test.YtfholicobkpilaaSlPrim
set_option linter.unusedSimpArgs false
set_option linter.unusedVariables false
set_option linter.unusedSectionVars false
namespace Go.Proofs.Ytfholicobkpilaa.HeapM
/-- What is ordered: two numbers, the first one first. -/
structure Ky where
  a : Int
  b : Int
def Ky.lt (x y : Ky) : Prop := x.a < y.a ∨ x.a = y.a ∧ x.b < y.b
def Ky.le (x y : Ky) : Prop := x.a < y.a ∨ x.a = y.a ∧ x.b ≤ y.b
instance (x y : Ky) : Decidable (x.lt y) := inferInstanceAs (Decidable (_ ∨ _))
theorem Ky.not_lt {x y : Ky} : ¬ x.lt y ↔ y.le x := by unfold Ky.lt Ky.le; omega
theorem Ky.le_of_lt {x y : Ky} (h : x.lt y) : x.le y := by unfold Ky.lt Ky.le at *; omega
theorem Ky.le_trans {x y z : Ky} (h : x.le y) (h' : y.le z) : x.le z := by unfold Ky.le at *; omega
theorem Ky.le_refl (x : Ky) : x.le x := by unfold Ky.le; omega
theorem Ky.le_antisymm {x y : Ky} (h : x.le y) (h' : y.le x) : x = y := by
  cases x; cases y; unfold Ky.le at *; simp only [Ky.mk.injEq] at *; omega
section
variable {α : Type} [Inhabited α] (key : α → Ky)
def at_ (l : List α) (i : Nat) : α := l.getD i default
theorem at_eq {l : List α} {i : Nat} (h : i < l.length) : at_ l i = l[i] := by simp [at_, h]
def sw (l : List α) (i j : Nat) : List α := (l.set i (at_ l j)).set j (at_ l i)
theorem sw_length (l : List α) (i j : Nat) : (sw l i j).length = l.length := by simp [sw]
theorem sw_perm {l : List α} {i j : Nat} (hi : i < l.length) (hj : j < l.length) : (sw l i j).Perm l := by
  unfold sw
  rw [at_eq hi, at_eq hj]
  exact List.set_set_perm hi hj
theorem sw_at {l : List α} {i j : Nat} (hi : i < l.length) (hj : j < l.length) (k : Nat) : at_ (sw l i j) k = if k = j then at_ l i else if k = i then at_ l j else at_ l k := by
  unfold sw
  simp only [at_, List.getD_eq_getElem?_getD, List.getElem?_set]
  by_cases h1 : j = k
  · subst h1; simp [hj]
  · by_cases h2 : i = k
    · subst h2; simp [h1, Ne.symm h1, hi]
    · simp [h1, h2, Ne.symm h1, Ne.symm h2]
/-- Below n no child is less than its parent, where the parent is k or behind it. -/
def Hp (l : List α) (n k : Nat) : Prop := ∀ j, 1 ≤ j → j < n → k ≤ (j - 1) / 2 → (key (at_ l ((j - 1) / 2))).le (key (at_ l j))
structure Sift (l0 l : List α) (n i0 i : Nat) : Prop where
  perm : l.Perm l0
  ge : i0 ≤ i
  far : ∀ k, n ≤ k → at_ l k = at_ l0 k
  p : ∀ j, 1 ≤ j → j < n → i0 ≤ (j - 1) / 2 → (j - 1) / 2 ≠ i → (key (at_ l ((j - 1) / 2))).le (key (at_ l j))
  q : i0 < i → i0 ≤ (i - 1) / 2 ∧ ∀ c, 1 ≤ c → c < n → (c - 1) / 2 = i → (key (at_ l ((i - 1) / 2))).le (key (at_ l c))
variable {key}
theorem Sift.start {l : List α} {n i0 : Nat} (h : Hp key l n (i0 + 1)) : Sift key l l n i0 i0 :=
  ⟨.refl _, Nat.le_refl _, fun _ _ => rfl, fun j h1 h2 h3 h4 => h j h1 h2 (by omega), fun h => absurd h (Nat.lt_irrefl _)⟩
theorem Sift.leaf {l0 l : List α} {n i0 i : Nat} (h : Sift key l0 l n i0 i) (hl : n ≤ 2 * i + 1) : Hp key l n i0 := fun j h1 h2 h3 => h.p j h1 h2 h3 (by omega)
/-- j is the lesser child. -/
def Child (key : α → Ky) (l : List α) (n i j : Nat) : Prop := j < n ∧ (j = 2 * i + 1 ∨ j = 2 * i + 2) ∧ ∀ c, c < n → (c = 2 * i + 1 ∨ c = 2 * i + 2) → (key (at_ l j)).le (key (at_ l c))
theorem Sift.stop {l0 l : List α} {n i0 i j : Nat} (h : Sift key l0 l n i0 i) (hc : Child key l n i j) (hn : ¬ (key (at_ l j)).lt (key (at_ l i))) : Hp key l n i0 := fun m h1 h2 h3 => by
  by_cases hm : (m - 1) / 2 = i
  · rw [hm]
    exact Ky.le_trans (Ky.not_lt.1 hn) (hc.2.2 m h2 (by omega))
  · exact h.p m h1 h2 h3 hm
theorem Sift.step {l0 l : List α} {n i0 i j : Nat} (h : Sift key l0 l n i0 i) (hc : Child key l n i j) (hn : n ≤ l.length) (hl : (key (at_ l j)).lt (key (at_ l i))) : Sift key l0 (sw l i j) n i0 j := by
  obtain ⟨hj, hji, hmin⟩ := hc
  have hjl : j < l.length := by omega
  have hil : i < l.length := by omega
  have e := fun k => sw_at hil hjl k
  have hge := h.ge
  refine ⟨(sw_perm hil hjl).trans h.perm, by omega, fun k hk => ?_, fun m h1 h2 h3 h4 => ?_, fun _ => ⟨by omega, fun c h1 h2 h3 => ?_⟩⟩
  · rw [e, if_neg (by omega), if_neg (by omega)]; exact h.far k hk
  · rw [e, e]
    by_cases hm : m = j
    · subst hm
      have hp : (m - 1) / 2 = i := by omega
      rw [hp, if_neg (by omega), if_pos rfl, if_pos rfl]
      exact Ky.le_of_lt hl
    · by_cases hp : (m - 1) / 2 = i
      · rw [hp, if_neg (by omega), if_pos rfl, if_neg hm, if_neg (by omega)]
        exact hmin m h2 (by omega)
      · rw [if_neg h4, if_neg hp, if_neg hm]
        by_cases hmi : m = i
        · subst hmi
          rw [if_pos rfl]
          exact (h.q (by omega)).2 j (by omega) hj (by omega)
        · rw [if_neg hmi]
          exact h.p m h1 h2 h3 hp
  · have hp : (j - 1) / 2 = i := by omega
    rw [hp, e, e, if_neg (by omega), if_pos rfl, if_neg (by omega), if_neg (by omega)]
    have := h.p c h1 h2 (by omega) (by omega)
    rw [h3] at this
    exact this
/-- The first one is the least. -/
theorem Hp.least {l : List α} {n : Nat} (h : Hp key l n 0) : ∀ k, k < n → (key (at_ l 0)).le (key (at_ l k)) := fun k => by
  induction k using Nat.strongRecOn with
  | _ k ih =>
    intro hk
    rcases Nat.eq_zero_or_pos k with rfl | hp
    · exact Ky.le_refl _
    · exact Ky.le_trans (ih ((k - 1) / 2) (by omega) (by omega)) (h k hp hk (Nat.zero_le _))
/-- What two sorted rows of the same have in common. -/
theorem sorted_keys {s t : List α} (hp : s.Perm t) (hs : s.Pairwise fun x y => (key x).le (key y)) (ht : t.Pairwise fun x y => (key x).le (key y)) : s.map key = t.map key :=
  List.Perm.eq_of_pairwise (le := Ky.le) (fun a b _ _ h1 h2 => Ky.le_antisymm h1 h2) (List.pairwise_map.2 hs) (List.pairwise_map.2 ht) (hp.map key)
end
end Go.Proofs.Ytfholicobkpilaa.HeapM
