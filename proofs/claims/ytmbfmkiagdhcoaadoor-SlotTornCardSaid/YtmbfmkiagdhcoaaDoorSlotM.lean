/-
  What a cell's sectors hold: plain facts.
-/
import Derived.Test.YtmbfmkiagdhcoaaDoorOctM
set_option linter.unusedSimpArgs false
set_option linter.unusedVariables false
set_option linter.unusedSectionVars false
namespace Go.Proofs.YtmbfmkiagdhcoaaDoor.Slot
open Go.Proofs.YtmbfmkiagdhcoaaDoor.Oct
def top : Nat := 9007199254740991
def laidO (m : Nat) (t : List UInt8) : List UInt8 := be m 8 ++ [UInt8.ofNat t.length] ++ t ++ List.replicate (107 - t.length) 0
def laidL (m : Nat) (t : List UInt8) : List UInt8 := laidO m t ++ be (crcS (laidO m t)).toNat 4 ++ be m 8
theorem laidO_length {m : Nat} {t : List UInt8} (h : t.length ≤ 100) : (laidO m t).length = 116 := by simp [laidO, be_length]; omega
theorem laidL_length {m : Nat} {t : List UInt8} (h : t.length ≤ 100) : (laidL m t).length = 128 := by simp [laidL, be_length, laidO_length h]
abbrev Img := Nat × List UInt8
def rdX0 (b : List UInt8) : Img := (ofBe (b.take 8), (b.drop 9).take (b.getD 8 0).toNat)
def rdImg (b : List UInt8) : Img :=
  if b.length ≠ 128 ∨ 100 < (b.getD 8 0).toNat then (0, []) else if top < (rdX0 b).1 ∨ (rdX0 b).1 = 0 ∨ laidL (rdX0 b).1 (rdX0 b).2 ≠ b then (0, []) else rdX0 b
theorem x0_laid {m : Nat} {t : List UInt8} (hm : m ≤ top) (ht : t.length ≤ 100) : rdX0 (laidL m t) = (m, t) ∧ ((laidL m t).getD 8 0).toNat = t.length := by
  have e : laidL m t = be m 8 ++ (UInt8.ofNat t.length :: (t ++ (List.replicate (107 - t.length) 0 ++ (be (crcS (laidO m t)).toNat 4 ++ be m 8)))) := by
    simp [laidL, laidO]
  have h8 : ((laidL m t).getD 8 0).toNat = t.length := by
    rw [e, List.getD_eq_getElem?_getD, List.getElem?_append_right (by rw [be_length]; omega), be_length]
    simp; omega
  refine ⟨?_, h8⟩
  unfold rdX0
  rw [h8, e]
  have hb := be_length m 8
  rw [List.take_append_of_le_length (by omega), List.take_of_length_le (by omega), ofBe_be m 8 (by unfold top at hm; omega)]
  congr 1
  have e2 : (9 : Nat) = (be m 8).length + 1 := by omega
  rw [e2, List.drop_append, List.drop_of_length_le (by omega)]
  simp
theorem rd_laid {m : Nat} {t : List UInt8} (h1 : 1 ≤ m) (hm : m ≤ top) (ht : t.length ≤ 100) : rdImg (laidL m t) = (m, t) := by
  obtain ⟨e1, e2⟩ := x0_laid hm ht
  unfold rdImg
  rw [if_neg (by rw [laidL_length ht, e2]; omega), e1, if_neg (by
    rintro (h | h | h)
    · simp only at h; omega
    · simp only at h; omega
    · exact h rfl)]
theorem rd_some {b : List UInt8} (h : (rdImg b).1 ≠ 0) : b.length = 128 ∧ (rdImg b).1 ≤ top ∧ (rdImg b).2.length ≤ 100 ∧ laidL (rdImg b).1 (rdImg b).2 = b := by
  unfold rdImg at h ⊢
  split at h
  · simp at h
  · rename_i h1
    split at h
    · simp at h
    · rename_i h2
      rw [if_neg h1, if_neg h2]
      refine ⟨by omega, by omega, ?_, ?_⟩
      · simp only [rdX0, List.length_take]; omega
      · by_cases hq : laidL (rdX0 b).1 (rdX0 b).2 = b
        · exact hq
        · exact absurd (.inr (.inr hq)) h2
theorem rd_none {b : List UInt8} (h : (rdImg b).1 = 0) : rdImg b = (0, []) := by
  unfold rdImg at h ⊢
  split
  · rfl
  · rename_i h1
    rw [if_neg h1] at h
    split
    · rfl
    · rename_i h2
      rw [if_neg h2] at h
      exact absurd (.inr (.inl h)) h2
theorem rd_range (b : List UInt8) : (rdImg b).1 ≤ top ∧ (rdImg b).2.length ≤ 100 := by
  by_cases h : (rdImg b).1 = 0
  · rw [rd_none h]; simp
  · have := rd_some h; exact ⟨this.2.1, this.2.2.1⟩
/-- Which of two counts; -1: none. -/
def cnts (x y : Img) : Int := if x = (0, []) ∧ y = (0, []) then -1 else if x.1 < y.1 then 1 else 0
end Go.Proofs.YtmbfmkiagdhcoaaDoor.Slot
