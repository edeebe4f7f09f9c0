/-
  Rows without what stands twice in a row: plain facts.
-/
import Derived.Test.YtfholicobkpilaaHeapM
set_option linter.unusedSimpArgs false
set_option linter.unusedVariables false
set_option linter.unusedSectionVars false
namespace Go.Proofs.Ytfholicobkpilaa.Copy
/-- What is kept of the first j. -/
def cmpTo (l : List Int) : Nat → List Int
  | 0 => []
  | j + 1 => if j = 0 ∨ l.getD j 0 ≠ l.getD (j - 1) 0 then cmpTo l j ++ [l.getD j 0] else cmpTo l j
def compactL (l : List Int) : List Int := cmpTo l l.length
theorem cmpTo_length (l : List Int) (j : Nat) : (cmpTo l j).length ≤ j := by
  induction j with
  | zero => simp [cmpTo]
  | succ j ih => unfold cmpTo; split <;> (try simp) <;> omega
theorem cmpTo_id {l : List Int} {j : Nat} (hj : j ≤ l.length) (h : ∀ i, 1 ≤ i → i < j → l.getD i 0 ≠ l.getD (i - 1) 0) : cmpTo l j = l.take j := by
  induction j with
  | zero => simp [cmpTo]
  | succ j ih =>
    unfold cmpTo
    have hlt : j < l.length := by omega
    rw [if_pos (by by_cases h0 : j = 0; · exact .inl h0
                   · exact .inr (h j (by omega) (by omega))), ih (by omega) fun i h1 h2 => h i h1 (by omega), List.take_add_one, List.getD_eq_getElem?_getD, List.getElem?_eq_getElem hlt]
    rfl
theorem getD_mem {l : List Int} {i : Nat} (h : i < l.length) : l.getD i 0 ∈ l := by
  rw [List.getD_eq_getElem?_getD, List.getElem?_eq_getElem h]; exact List.getElem_mem h
theorem take_last {l : List Int} {j : Nat} (h : j < l.length) : l.take (j + 1) = l.take j ++ [l.getD j 0] := by
  rw [List.take_add_one, List.getD_eq_getElem?_getD, List.getElem?_eq_getElem h]; rfl
theorem cmpTo_sorted {l : List Int} (hs : l.Pairwise (· ≤ ·)) : ∀ j, j ≤ l.length → (cmpTo l j).Pairwise (· < ·) ∧ (∀ x, x ∈ cmpTo l j ↔ x ∈ l.take j)
  | 0, _ => by simp [cmpTo]
  | j + 1, hj => by
    obtain ⟨h1, h2⟩ := cmpTo_sorted hs j (by omega)
    have hlt : j < l.length := by omega
    have hle : ∀ x ∈ l.take j, x ≤ l.getD j 0 := by
      have := hs.sublist (List.take_sublist (j + 1) l)
      rw [take_last hlt] at this
      exact fun x hx => (List.pairwise_append.1 this).2.2 x hx _ (by simp)
    unfold cmpTo
    split
    · rename_i hc
      refine ⟨List.pairwise_append.2 ⟨h1, List.pairwise_singleton .., fun x hx y hy => ?_⟩, fun x => ?_⟩
      · rw [List.mem_singleton] at hy; subst hy
        have hxj := (h2 x).1 hx
        have h3 := hle x hxj
        rcases hc with rfl | hc
        · simp at hxj
        · obtain ⟨i, hi, rfl⟩ := List.mem_iff_getElem.1 hxj
          have hi' : i < j := by simp at hi; omega
          have h4 : (l.take j)[i] ≤ l.getD (j - 1) 0 := by
            have hp : (l.take j).Pairwise (· ≤ ·) := hs.sublist (List.take_sublist ..)
            have e : l.getD (j - 1) 0 = (l.take j)[j - 1]'(by simp; omega) := by
              rw [List.getD_eq_getElem?_getD, List.getElem?_eq_getElem (by omega)]; simp
            rw [e]
            by_cases hij : i = j - 1
            · subst hij; exact Int.le_refl _
            · exact List.pairwise_iff_getElem.1 hp i (j - 1) hi (by simp; omega) (by omega)
          have h5 : l.getD (j - 1) 0 ≤ l.getD j 0 := hle _ (by
            have : l.getD (j - 1) 0 = (l.take j).getD (j - 1) 0 := by
              rw [List.getD_eq_getElem?_getD, List.getD_eq_getElem?_getD, List.getElem?_take_of_lt (by omega)]
            rw [this]
            exact getD_mem (by simp; omega))
          omega
      · rw [take_last hlt, List.mem_append, List.mem_append, h2]
    · rename_i hc
      refine ⟨h1, fun x => ?_⟩
      rw [h2, take_last hlt, List.mem_append, List.mem_singleton]
      constructor
      · exact .inl
      · rintro (h | h)
        · exact h
        · subst h
          have hj0 : j ≠ 0 := fun h0 => hc (.inl h0)
          have he : l.getD j 0 = l.getD (j - 1) 0 := by
            by_cases he : l.getD j 0 = l.getD (j - 1) 0
            · exact he
            · exact absurd (.inr he) hc
          rw [he]
          have : l.getD (j - 1) 0 = (l.take j).getD (j - 1) 0 := by
            rw [List.getD_eq_getElem?_getD, List.getD_eq_getElem?_getD, List.getElem?_take_of_lt (by omega)]
          rw [this]
          exact getD_mem (by simp; omega)
theorem compact_sorted {l : List Int} (hs : l.Pairwise (· ≤ ·)) : (compactL l).Pairwise (· < ·) ∧ ∀ x, x ∈ compactL l ↔ x ∈ l := by
  have := cmpTo_sorted hs l.length (Nat.le_refl _)
  rw [List.take_length] at this
  exact this
/-- The live slots of a container. -/
structure CopiesOf (sp : List (Int × Int)) (bin : Int) (l : List Int) : Prop where
  lt : l.Pairwise (· < ·)
  mem : ∀ s, s ∈ l ↔ (bin, s) ∈ sp
theorem strict_eq {l m : List Int} (h1 : l.Pairwise (· < ·)) (h2 : m.Pairwise (· < ·)) (h : ∀ x, x ∈ l ↔ x ∈ m) : l = m := by
  refine List.Perm.eq_of_pairwise (le := fun x y : Int => x < y) (fun a b _ _ h1 h2 => by omega) h1 h2 ?_
  have n1 : l.Nodup := h1.imp fun h => by omega
  have n2 : m.Nodup := h2.imp fun h => by omega
  exact (List.perm_ext_iff_of_nodup n1 n2).2 h
theorem CopiesOf.same {sp : List (Int × Int)} {bin : Int} {l m : List Int} (h : CopiesOf sp bin l) (h' : CopiesOf sp bin m) : l = m := strict_eq h.lt h'.lt fun x => by rw [h.mem, h'.mem]
theorem strict_count {l : List Int} {x : Int} (h : l.Pairwise (· < ·)) (hx : x ∈ l) : l.count x = 1 := by
  have n1 : l.Nodup := h.imp fun h => by omega
  have := List.nodup_iff_count.1 n1 x
  have := List.count_pos_iff.2 hx
  omega
end Go.Proofs.Ytfholicobkpilaa.Copy
