/-
  A set that is broken off: plain facts.
-/
import Derived.Test.YtmbfmkiagdhcoaaDoorSlotG
set_option linter.unusedSimpArgs false
set_option linter.unusedVariables false
set_option linter.unusedSectionVars false
namespace Go.Proofs.YtmbfmkiagdhcoaaDoor.Slot
open Go.Proofs.YtmbfmkiagdhcoaaDoor.Oct Go.Proofs.YtmbfmkiagdhcoaaDoor.Disk
/-- Its first and its last eight bytes tell a small number. -/
structure Mk (r : Nat) (A : List UInt8) : Prop where
  len : A.length = 128
  z : ∀ i, i < 7 → A[i]? = some 0
  a : A[7]? = some (UInt8.ofNat r)
  b : A[127]? = some (UInt8.ofNat r)
theorem be_small {n : Nat} (h : n < 256) : be n 8 = [0, 0, 0, 0, 0, 0, 0, UInt8.ofNat n] := by
  have h1 : n / 256 = 0 := by omega
  simp [be, h1]
theorem laid_first {m : Nat} {t : List UInt8} (i : Nat) (hi : i < 8) : (laidL m t)[i]? = (be m 8)[i]? := by
  unfold laidL laidO
  rw [List.append_assoc, List.append_assoc, List.append_assoc, List.append_assoc]
  rw [List.getElem?_append_left (by rw [be_length]; exact hi)]
theorem laid_last {m : Nat} {t : List UInt8} (ht : t.length ≤ 100) (i : Nat) : (laidL m t)[120 + i]? = (be m 8)[i]? := by
  unfold laidL
  have hl := laidO_length (m := m) ht
  rw [List.getElem?_append_right (by rw [List.length_append, be_length, hl]; omega)]
  congr 1
  rw [List.length_append, be_length, hl]; omega
theorem mk_laid {m : Nat} {t : List UInt8} (hm : m < 256) (ht : t.length ≤ 100) : Mk m (laidL m t) := by
  refine ⟨laidL_length ht, fun i hi => ?_, ?_, ?_⟩
  · rw [laid_first i (by omega), be_small hm]
    match i, hi with
    | 0, _ => rfl | 1, _ => rfl | 2, _ => rfl | 3, _ => rfl | 4, _ => rfl | 5, _ => rfl | 6, _ => rfl
  · rw [laid_first 7 (by omega), be_small hm]; rfl
  · rw [show (127 : Nat) = 120 + 7 from rfl, laid_last ht, be_small hm]; rfl
theorem zero_get {i : Nat} (h : i < 128) : zero128[i]? = some 0 := by unfold zero128; rw [List.getElem?_replicate, if_pos h]
theorem mk_zero : Mk 0 zero128 := ⟨by simp [zero128], fun i hi => zero_get (by omega), zero_get (by decide), zero_get (by decide)⟩
/-- What a torn sector holds. -/
def tear (A O : List UInt8) (j : Nat) : List UInt8 := A.take j ++ O.drop j
theorem tear_get {A O : List UInt8} {j : Nat} (hA : A.length = 128) (hj : j ≤ 128) (i : Nat) : (tear A O j)[i]? = if i < j then A[i]? else O[i]? := by
  unfold tear
  by_cases h : i < j
  · rw [if_pos h, List.getElem?_append_left (by rw [List.length_take]; omega), List.getElem?_take_of_lt h]
  · rw [if_neg h, List.getElem?_append_right (by rw [List.length_take]; omega), List.getElem?_drop, List.length_take]
    congr 1; omega
theorem ofNat_inj {a b : Nat} (ha : a < 256) (hb : b < 256) (h : UInt8.ofNat a = UInt8.ofNat b) : a = b := by
  have := congrArg UInt8.toNat h
  rw [UInt8.toNat_ofNat_of_lt' ha, UInt8.toNat_ofNat_of_lt' hb] at this
  exact this
theorem tear_small {A O : List UInt8} {q r j : Nat} (hA : Mk r A) (hO : Mk q O) (hj : j ≤ 7) : tear A O j = O := by
  apply List.ext_getElem?; intro i
  rw [tear_get hA.len (by omega)]
  split
  · rw [hA.z i (by omega), hO.z i (by omega)]
  · rfl
theorem tear_cases {A O : List UInt8} {q r j : Nat} (hA : Mk r A) (hO : Mk q O) (hq : q < 256) (hr : r < 256) (hn : q ≠ r) (hj : j ≤ 128) : tear A O j = O ∨ tear A O j = A ∨ rdImg (tear A O j) = (0, []) := by
  by_cases h7 : j ≤ 7
  · exact .inl (tear_small hA hO h7)
  by_cases h128 : j = 128
  · refine .inr (.inl ?_)
    apply List.ext_getElem?; intro i
    rw [tear_get hA.len hj]
    split
    · rfl
    · rw [List.getElem?_eq_none (by have := hO.len; omega), List.getElem?_eq_none (by have := hA.len; omega)]
  refine .inr (.inr (rd_none (Decidable.byContradiction fun hne => ?_)))
  obtain ⟨_, _, ht, he⟩ := rd_some hne
  generalize rdImg (tear A O j) = x at ht he
  have g1 := laid_first (m := x.1) (t := x.2) 7 (by omega)
  have g2 := laid_last (m := x.1) ht 7
  rw [he, tear_get hA.len hj] at g1 g2
  rw [if_pos (by omega), hA.a] at g1
  rw [if_neg (by omega), show 120 + 7 = 127 from rfl, hO.b, ← g1] at g2
  exact hn (ofNat_inj hq hr (Option.some.inj g2))
theorem tear_ah {t : List UInt8} {j : Nat} (ht : t.length ≤ 100) (hj : j ≤ 128) : Ah (tear (laidL 1 t) zero128 j) := by
  have hA := mk_laid (m := 1) (by decide) ht
  by_cases h7 : j ≤ 7
  · rw [tear_small hA mk_zero h7]; exact ah_zero zero_all
  · intro i b hb hz
    rw [tear_get hA.len hj] at hb
    by_cases hi : i < 7
    · rw [if_pos (by omega), hA.z i hi] at hb
      rw [← Option.some.inj hb]; decide
    by_cases hi7 : i = 7
    · subst hi7
      rw [if_pos (by omega), hA.a] at hb
      rw [← Option.some.inj hb]; decide
    · have := hz 7 (by omega)
      rw [tear_get hA.len hj, if_pos (by omega), hA.a] at this
      exact absurd (Option.some.inj this) (by decide)

/-! ### what a cell holds behind m sets -/
def Old (m : Nat) (O : List UInt8) : Prop := (m ≤ 1 ∧ O = zero128) ∨ (2 ≤ m ∧ ∃ u : List UInt8, u.length ≤ 100 ∧ O = laidL (m - 1) u)
theorem Old.mk {m : Nat} {O : List UInt8} (h : Old m O) (hm : m < 256) : Mk (m - 1) O := by
  rcases h with ⟨h1, rfl⟩ | ⟨h2, u, hu, rfl⟩
  · rw [show m - 1 = 0 by omega]; exact mk_zero
  · exact mk_laid (by omega) hu
theorem Old.img {m : Nat} {O : List UInt8} (h : Old m O) (hm : m < 256) : (rdImg O).1 = m - 1 ∧ (m ≤ 1 → O = zero128) := by
  rcases h with ⟨h1, rfl⟩ | ⟨h2, u, hu, rfl⟩
  · rw [rd_zero]; exact ⟨by simp only; omega, fun _ => rfl⟩
  · rw [rd_laid (by omega) (by unfold top; omega) hu]; exact ⟨rfl, fun h => by omega⟩
/-- m sets, the last of u; X and Y: both sectors. -/
def Inv (m : Nat) (u X Y : List UInt8) : Prop :=
  (m = 0 ∧ X = zero128 ∧ Y = zero128 ∧ u = []) ∨ (1 ≤ m ∧ u.length ≤ 100 ∧ ((m % 2 = 1 ∧ X = laidL m u ∧ Old m Y) ∨ (m % 2 = 0 ∧ Y = laidL m u ∧ Old m X)))
theorem Inv.cnts {m : Nat} {u X Y : List UInt8} (h : Inv m u X Y) (hm : m < 256) : cnts (rdImg X) (rdImg Y) = (if m = 0 then -1 else if m % 2 = 1 then 0 else 1) ∧ (if cnts (rdImg X) (rdImg Y) = 1 then rdImg Y else rdImg X) = (m, u) := by
  rcases h with ⟨rfl, rfl, rfl, rfl⟩ | ⟨h1, hu, ⟨h2, rfl, ho⟩ | ⟨h2, rfl, ho⟩⟩
  · rw [rd_zero]; exact ⟨rfl, rfl⟩
  · have hi := (ho.img hm).1
    have hr := rd_laid h1 (by unfold top; omega : m ≤ top) hu
    rw [hr, cnts_first h1 (by omega), if_neg (by omega), if_pos h2]
    exact ⟨rfl, rfl⟩
  · have hi := (ho.img hm).1
    have hr := rd_laid h1 (by unfold top; omega : m ≤ top) hu
    rw [hr, cnts_last (by omega), if_neg (by omega), if_neg (by omega)]
    exact ⟨rfl, rfl⟩
/-- The sector that the next set writes, and the one that stays. -/
def nxt (m : Nat) (X Y A : List UInt8) : List (List UInt8) := if m % 2 = 1 then [zero128, X, A] else [zero128, A, Y]
theorem at3 (X Y : List UInt8) : At [zero128, X, Y] 1 X Y := ⟨rfl, rfl⟩
theorem set_nxt {m : Nat} {u X Y A : List UInt8} (h : Inv m u X Y) (hm : m < 256) : [zero128, X, Y].set (1 + if Slot.cnts (rdImg X) (rdImg Y) = 0 then 1 else 0) A = nxt m X Y A := by
  rw [(h.cnts hm).1]
  unfold nxt
  by_cases h0 : m = 0
  · subst h0; rfl
  · by_cases h1 : m % 2 = 1
    · simp only [if_neg h0, if_pos h1, if_true]; rfl
    · simp only [if_neg h0, if_neg h1]; rfl
theorem Inv.next {m : Nat} {u X Y t : List UInt8} (h : Inv m u X Y) (ht : t.length ≤ 100) : ∃ X' Y', nxt m X Y (laidL (m + 1) t) = [zero128, X', Y'] ∧ Inv (m + 1) t X' Y' := by
  unfold nxt
  by_cases h1 : m % 2 = 1
  · rw [if_pos h1]
    refine ⟨_, _, rfl, .inr ⟨by omega, ht, .inr ⟨by omega, rfl, ?_⟩⟩⟩
    rcases h with ⟨rfl, _⟩ | ⟨h2, hu, ⟨h3, rfl, ho⟩ | ⟨h3, _⟩⟩
    · omega
    · exact .inr ⟨by omega, u, hu, rfl⟩
    · omega
  · rw [if_neg h1]
    refine ⟨_, _, rfl, .inr ⟨by omega, ht, .inl ⟨by omega, rfl, ?_⟩⟩⟩
    rcases h with ⟨rfl, _, rfl, _⟩ | ⟨h2, hu, ⟨h3, _⟩ | ⟨h3, rfl, ho⟩⟩
    · exact .inl ⟨by omega, rfl⟩
    · omega
    · exact .inr ⟨by omega, u, hu, rfl⟩
end Go.Proofs.YtmbfmkiagdhcoaaDoor.Slot
