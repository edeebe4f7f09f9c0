/-
  Shares, their order, and who is chosen: the document's words.
-/
import Derived.Test.YtfholicobkpilaaHeapM
set_option linter.unusedSimpArgs false
set_option linter.unusedVariables false
set_option linter.unusedSectionVars false
namespace Go.Proofs.Ytfholicobkpilaa.Clean
open Go.Proofs.Ytfholicobkpilaa.HeapM
structure Sh where
  bin : Int
  all : Int
  live : Int
deriving DecidableEq
instance : Inhabited Sh := ⟨⟨0, 0, 0⟩⟩
structure Sh.Ok (x : Sh) : Prop where
  l0 : 0 ≤ x.live
  l1 : x.live ≤ x.all
  l2 : x.all ≤ 32768
def Sh.den (x : Sh) : Int := max x.all 1
def fac : Nat → Int
  | 0 => 1
  | n + 1 => ((n + 1 : Nat) : Int) * fac n
theorem fac_pos : ∀ n, 0 < fac n
  | 0 => by simp [fac]
  | n + 1 => by unfold fac; exact Int.mul_pos (by omega) (fac_pos n)
theorem fac_dvd : ∀ (n d : Nat), 1 ≤ d → d ≤ n → (d : Int) ∣ fac n
  | 0, d, h1, h2 => by omega
  | n + 1, d, h1, h2 => by
    unfold fac
    by_cases h : d = n + 1
    · subst h; exact Int.dvd_mul_right _ _
    · exact Int.dvd_trans (fac_dvd n d h1 (by omega)) (Int.dvd_mul_left _ _)
def big : Int := fac 32768
theorem big_pos : 0 < big := fac_pos _
theorem big_dvd {d : Int} (h1 : 1 ≤ d) (h2 : d ≤ 32768) : d ∣ big := by
  obtain ⟨n, rfl⟩ := Int.eq_ofNat_of_zero_le (by omega : 0 ≤ d)
  exact fac_dvd _ n (by omega) (by omega)
attribute [irreducible] big
/-- A fraction, by what all denominators divide. -/
def Sh.num (x : Sh) : Int := x.live * (big / x.den)
def Sh.key (x : Sh) : Ky := ⟨x.num, x.bin⟩
theorem den_ok {x : Sh} (h : x.Ok) : 1 ≤ x.den ∧ x.den ≤ 32768 := by have := h.l2; unfold Sh.den; omega
theorem num_mul {x : Sh} (h : x.Ok) : x.num * x.den = x.live * big := by
  obtain ⟨h1, h2⟩ := den_ok h
  unfold Sh.num
  rw [Int.mul_assoc, Int.ediv_mul_cancel (big_dvd h1 h2)]
theorem cross {x y : Sh} (hx : x.Ok) (hy : y.Ok) : (x.live * y.den) * big = x.num * (x.den * y.den) ∧ (y.live * x.den) * big = y.num * (x.den * y.den) := by
  have h1 := num_mul hx
  have h2 := num_mul hy
  constructor
  · calc (x.live * y.den) * big = (x.live * big) * y.den := by rw [Int.mul_assoc, Int.mul_comm y.den, ← Int.mul_assoc]
      _ = x.num * (x.den * y.den) := by rw [← h1, Int.mul_assoc]
  · calc (y.live * x.den) * big = (y.live * big) * x.den := by rw [Int.mul_assoc, Int.mul_comm x.den, ← Int.mul_assoc]
      _ = y.num * (x.den * y.den) := by rw [← h2, Int.mul_assoc, Int.mul_comm y.den]
theorem cross_lt {x y : Sh} (hx : x.Ok) (hy : y.Ok) : x.live * y.den < y.live * x.den ↔ x.num < y.num := by
  obtain ⟨h1, h2⟩ := cross hx hy
  have hp : 0 < x.den * y.den := Int.mul_pos (by have := den_ok hx; omega) (by have := den_ok hy; omega)
  constructor
  · intro h
    have := Int.mul_lt_mul_of_pos_right h big_pos
    rw [h1, h2] at this
    exact Int.lt_of_mul_lt_mul_right this (Int.le_of_lt hp)
  · intro h
    have := Int.mul_lt_mul_of_pos_right h hp
    rw [← h1, ← h2] at this
    exact Int.lt_of_mul_lt_mul_right this (Int.le_of_lt big_pos)
theorem cross_eq {x y : Sh} (hx : x.Ok) (hy : y.Ok) : x.live * y.den = y.live * x.den ↔ x.num = y.num := by
  have h1 := cross_lt hx hy
  have h2 := cross_lt hy hx
  omega
/-- The program's order: -1, 0 or 1. -/
def cmp3 (a b : Int) : Int := if a < b then -1 else if b < a then 1 else 0
def Sh.order (x y : Sh) : Int := if cmp3 (x.live * y.den) (y.live * x.den) ≠ 0 then cmp3 (x.live * y.den) (y.live * x.den) else cmp3 x.bin y.bin
theorem order_lt {x y : Sh} (hx : x.Ok) (hy : y.Ok) : x.order y < 0 ↔ x.key.lt y.key := by
  have h1 := cross_lt hx hy
  have h2 := cross_lt hy hx
  have h3 := cross_eq hx hy
  unfold Sh.order cmp3 Ky.lt Sh.key
  simp only
  generalize x.live * y.den = a at *
  generalize y.live * x.den = b at *
  split <;> split at * <;> (try split at *) <;> (try split) <;> (try split) <;> omega

/-! ### fractions by their bits -/
def bitsF : Nat → Int → Int → List Int
  | 0, _, _ => []
  | k + 1, n, by_ => (2 * n) / by_ :: bitsF k ((2 * n) % by_) by_
theorem bitsF_length : ∀ k n by_, (bitsF k n by_).length = k
  | 0, _, _ => rfl
  | k + 1, n, by_ => by simp [bitsF, bitsF_length k]
def frac (n by_ : Int) : List Int := n / by_ :: bitsF 120 (n % by_) by_
theorem frac_length (n by_ : Int) : (frac n by_).length = 121 := by simp [frac, bitsF_length]
/-- By the first place in which two rows differ. -/
def lexlt : List Int → List Int → Bool → Bool
  | x :: xs, y :: ys, d => if x ≠ y then decide (x < y) else lexlt xs ys d
  | _, _, d => d
theorem div_lt_of {n m p q : Int} (hp : 0 < p) (hq : 0 < q) (h : n * q ≤ m * p) : n / p ≤ m / q := by
  have h1 := Int.ediv_mul_le n (by omega : p ≠ 0)
  rw [Int.le_ediv_iff_mul_le hq]
  have h2 : n / p * p * q ≤ n * q := Int.mul_le_mul_of_nonneg_right h1 (by omega)
  have h3 : n / p * q * p ≤ m * p := by
    have : n / p * q * p = n / p * p * q := by rw [Int.mul_assoc, Int.mul_comm q p, ← Int.mul_assoc]
    omega
  exact Int.le_of_mul_le_mul_right h3 hp
theorem lexlt_self : ∀ (l : List Int) (d : Bool), lexlt l l d = d
  | [], d => rfl
  | x :: l, d => by simp [lexlt, lexlt_self l d]
/-- Equal fractions have equal bits. -/
theorem bits_eq {p q : Int} (hp : 0 < p) (hq : 0 < q) : ∀ (k : Nat) (n m : Int), n * q = m * p → bitsF k n p = bitsF k m q
  | 0, _, _, _ => rfl
  | k + 1, n, m, h => by
    have e : 2 * n * q = 2 * m * p := by rw [Int.mul_assoc, h, Int.mul_assoc]
    have hd : 2 * n / p = 2 * m / q := Int.le_antisymm (div_lt_of hp hq (by omega)) (div_lt_of hq hp (by omega))
    unfold bitsF
    rw [hd]
    congr 1
    refine bits_eq hp hq k _ _ ?_
    rw [Int.emod_def, Int.emod_def, hd, Int.sub_mul, Int.sub_mul, e]
    congr 1
    rw [Int.mul_assoc, Int.mul_assoc, Int.mul_comm (2 * m / q) q, Int.mul_comm (2 * m / q) p, ← Int.mul_assoc, ← Int.mul_assoc, Int.mul_comm p q]
theorem bits_lt {p q : Int} (hp : 0 < p) (hq : 0 < q) (d : Bool) : ∀ (k : Nat) (n m : Int), 0 ≤ n → m < q → n * q < m * p → p * q ≤ 2 ^ k * (m * p - n * q) → lexlt (bitsF k n p) (bitsF k m q) d = true
  | 0, n, m, h0, h1, h2, h3 => by
    have e1 : 0 ≤ n * q := Int.mul_nonneg h0 (by omega)
    have e2 : m * p < q * p := Int.mul_lt_mul_of_pos_right h1 hp
    rw [Int.mul_comm q p] at e2
    simp only [Int.pow_zero, Int.one_mul] at h3
    omega
  | k + 1, n, m, h0, h1, h2, h3 => by
    have e : 2 * n * q < 2 * m * p := by rw [Int.mul_assoc, Int.mul_assoc]; omega
    have hd : 2 * n / p ≤ 2 * m / q := div_lt_of hp hq (by omega)
    unfold bitsF lexlt
    by_cases hne : 2 * n / p ≠ 2 * m / q
    · rw [if_pos hne]; simp; omega
    · rw [if_neg hne]
      have hd' : 2 * n / p = 2 * m / q := by omega
      have key : 2 * m % q * p - 2 * n % p * q = 2 * (m * p - n * q) := by
        rw [Int.emod_def, Int.emod_def, hd', Int.sub_mul, Int.sub_mul]
        have : q * (2 * m / q) * p = p * (2 * m / q) * q := by
          rw [Int.mul_assoc, Int.mul_assoc, Int.mul_comm (2 * m / q) q, Int.mul_comm (2 * m / q) p, ← Int.mul_assoc, ← Int.mul_assoc, Int.mul_comm p q]
        have e1 : 2 * m * p = 2 * (m * p) := Int.mul_assoc ..
        have e2 : 2 * n * q = 2 * (n * q) := Int.mul_assoc ..
        rw [this]
        omega
      refine bits_lt hp hq d k _ _ (Int.emod_nonneg _ (by omega)) (Int.emod_lt_of_pos _ hq) (by omega) ?_
      rw [key]
      have e3 : (2 : Int) ^ (k + 1) * (m * p - n * q) = 2 ^ k * (2 * (m * p - n * q)) := by rw [Int.pow_succ, Int.mul_assoc]
      rw [← e3]; exact h3
theorem lexlt_swap : ∀ (l r : List Int) (d : Bool), lexlt l r d = true → l.length = r.length → lexlt r l (!d) = false
  | [], [], d, h, _ => by simp [lexlt] at *; exact h
  | x :: l, y :: r, d, h, hl => by
    unfold lexlt at *
    by_cases hne : x ≠ y
    · rw [if_pos hne] at h; rw [if_pos (Ne.symm hne)]; simp at *; omega
    · rw [if_neg hne] at h
      have : ¬ y ≠ x := fun h' => hne (Ne.symm h')
      rw [if_neg this]
      exact lexlt_swap l r d h (by simpa using hl)
  | [], _ :: _, _, _, hl => by simp at hl
  | _ :: _, [], _, _, hl => by simp at hl
theorem frac_eq {n m p q : Int} (hp : 0 < p) (hq : 0 < q) (h : n * q = m * p) : frac n p = frac m q := by
  have hd : n / p = m / q := Int.le_antisymm (div_lt_of hp hq (by omega)) (div_lt_of hq hp (by omega))
  unfold frac
  rw [hd]
  congr 1
  refine bits_eq hp hq _ _ _ ?_
  rw [Int.emod_def, Int.emod_def, hd, Int.sub_mul, Int.sub_mul, h]
  congr 1
  rw [Int.mul_assoc, Int.mul_assoc, Int.mul_comm (m / q) q, Int.mul_comm (m / q) p, ← Int.mul_assoc, ← Int.mul_assoc, Int.mul_comm p q]
theorem frac_lt {n m p q : Int} (hp : 0 < p) (hq : 0 < q) (hp2 : p ≤ 32768) (hq2 : q ≤ 32768) (d : Bool) (h : n * q < m * p) : lexlt (frac n p) (frac m q) d = true := by
  have hd : n / p ≤ m / q := div_lt_of hp hq (by omega)
  unfold frac lexlt
  by_cases hne : n / p ≠ m / q
  · rw [if_pos hne]; simp; omega
  · rw [if_neg hne]
    have hd' : n / p = m / q := by omega
    have key : m % q * p - n % p * q = m * p - n * q := by
      rw [Int.emod_def, Int.emod_def, hd', Int.sub_mul, Int.sub_mul]
      have : q * (m / q) * p = p * (m / q) * q := by
        rw [Int.mul_assoc, Int.mul_assoc, Int.mul_comm (m / q) q, Int.mul_comm (m / q) p, ← Int.mul_assoc, ← Int.mul_assoc, Int.mul_comm p q]
      rw [this]; omega
    refine bits_lt hp hq d _ _ _ (Int.emod_nonneg _ (by omega)) (Int.emod_lt_of_pos _ hq) (by omega) ?_
    rw [key]
    have h1 : p * q ≤ 32768 * 32768 := Int.mul_le_mul hp2 hq2 (by omega) (by omega)
    have h2 : (2 : Int) ^ 120 * 1 ≤ 2 ^ 120 * (m * p - n * q) := Int.mul_le_mul_of_nonneg_left (by omega) (by decide)
    have h3 : (32768 * 32768 : Int) ≤ 2 ^ 120 * 1 := by decide
    omega
/-- The document's order is the same. -/
theorem frac_less {x y : Sh} (hx : x.Ok) (hy : y.Ok) : lexlt (frac x.live x.den) (frac y.live y.den) (decide (x.bin < y.bin)) = decide (x.key.lt y.key) := by
  obtain ⟨p1, p2⟩ := den_ok hx
  obtain ⟨q1, q2⟩ := den_ok hy
  have h1 := cross_lt hx hy
  have h2 := cross_lt hy hx
  have h3 := cross_eq hx hy
  rcases Int.lt_trichotomy (x.live * y.den) (y.live * x.den) with h | h | h
  · rw [frac_lt (by omega) (by omega) p2 q2 _ h]
    have : x.key.lt y.key := .inl (h1.1 h)
    simp [this]
  · rw [frac_eq (by omega) (by omega) h, lexlt_self]
    have : x.key.lt y.key ↔ x.bin < y.bin := by
      have hn := h3.1 h
      unfold Ky.lt Sh.key; simp only; omega
    simp [this]
  · have hs := lexlt_swap _ _ (!decide (x.bin < y.bin)) (frac_lt (by omega) (by omega) q2 p2 _ h) (by rw [frac_length, frac_length])
    rw [Bool.not_not] at hs
    rw [hs]
    have : ¬ x.key.lt y.key := by
      have hn := h2.1 h
      unfold Ky.lt Sh.key; simp only; omega
    simp [this]

/-! ### who is chosen -/
def Sh.bad (x : Sh) : Prop := x.live < 0 ∨ x.live > x.all ∨ x.all > 32768
instance (x : Sh) : Decidable x.bad := inferInstanceAs (Decidable (_ ∨ _))
theorem ok_of {x : Sh} (h : ¬ x.bad) : x.Ok := by unfold Sh.bad at h; exact ⟨by omega, by omega, by omega⟩
def Sh.poor (p : Int) (x : Sh) : Prop := 100 * x.live < p * x.all ∨ x.all = 0 ∧ 0 < p
instance (p : Int) (x : Sh) : Decidable (x.poor p) := inferInstanceAs (Decidable (_ ∨ _))
def poorL (p : Int) (l : List Sh) : List Sh := l.filter fun x => decide (x.poor p)
def kle (x y : Sh) : Prop := x.key.le y.key
/-- A row in its order. -/
def Sorted (s : List Sh) : Prop := s.Pairwise kle
structure Chosen (l : List Sh) (p most : Int) (bins : List Int) : Prop where
  pf : ∃ s, s.Perm (poorL p l) ∧ Sorted s ∧ bins = (s.take most.toNat).map (·.bin)
theorem kle_trans {x y z : Sh} (h : kle x y) (h' : kle y z) : kle x z := Ky.le_trans h h'
def srt (l : List Sh) : List Sh := l.mergeSort fun x y => decide (¬ y.key.lt x.key)
theorem srt_perm (l : List Sh) : (srt l).Perm l := List.mergeSort_perm ..
theorem srt_sorted (l : List Sh) : Sorted (srt l) := by
  have := List.pairwise_mergeSort (le := fun x y : Sh => decide (¬ y.key.lt x.key)) (by
    intro a b c h1 h2
    simp only [decide_eq_true_eq, Ky.not_lt] at *
    exact Ky.le_trans h1 h2) (by
    intro a b
    simp only [Bool.or_eq_true, decide_eq_true_eq]
    by_cases h : b.key.lt a.key
    · exact .inr (Ky.not_lt.2 (Ky.le_of_lt h))
    · exact .inl h) l
  exact this.imp fun h => Ky.not_lt.1 (by simpa using h)
theorem sorted_app {s t : List Sh} (hs : Sorted s) (ht : Sorted t) (h : ∀ x ∈ s, ∀ y ∈ t, kle x y) : Sorted (s ++ t) := List.pairwise_append.2 ⟨hs, ht, h⟩
/-- What has been popped, and what is left. -/
structure Popped (l : List Sh) (p : Int) (s r : List Sh) : Prop where
  perm : (s ++ r).Perm (poorL p l)
  srt : Sorted s
  le : ∀ x ∈ s, ∀ y ∈ r, kle x y
theorem Popped.done {l : List Sh} {p most : Int} {s r : List Sh} (h : Popped l p s r) (hm : s.length ≤ most.toNat) (hd : r = [] ∨ s.length = most.toNat) : Chosen l p most (s.map (·.bin)) := by
  refine ⟨s ++ Clean.srt r, ((srt_perm r).append_left s).trans h.perm, sorted_app h.srt (srt_sorted r) (fun x hx y hy => h.le x hx y ((srt_perm r).mem_iff.1 hy)), ?_⟩
  rcases hd with rfl | hd
  · have : Clean.srt [] = [] := List.length_eq_zero_iff.1 (by rw [(srt_perm []).length_eq]; rfl)
    rw [this, List.append_nil, List.take_of_length_le hm]
  · rw [← hd, List.take_left]
theorem Popped.next {l : List Sh} {p : Int} {s r r' : List Sh} {x : Sh} (h : Popped l p s r) (hp : (x :: r').Perm r) (hx : ∀ y ∈ r', kle x y) : Popped l p (s ++ [x]) r' := by
  refine ⟨?_, ?_, ?_⟩
  · rw [List.append_assoc]; exact (hp.append_left s).trans h.perm
  · refine sorted_app h.srt (List.pairwise_singleton ..) fun a ha b hb => ?_
    simp at hb; subst hb
    exact h.le a ha _ (hp.mem_iff.1 (List.mem_cons_self ..))
  · intro a ha b hb
    rcases List.mem_append.1 ha with ha | ha
    · exact h.le a ha b (hp.mem_iff.1 (List.mem_cons_of_mem _ hb))
    · simp at ha; subst ha; exact hx b hb
theorem Chosen.same {l : List Sh} {p most : Int} {b b' : List Int} (h : Chosen l p most b) (h' : Chosen l p most b') : b = b' := by
  obtain ⟨s, h1, h2, rfl⟩ := h.pf
  obtain ⟨t, h3, h4, rfl⟩ := h'.pf
  have := sorted_keys (key := Sh.key) (h1.trans h3.symm) h2 h4
  have e : ∀ s : List Sh, s.map (·.bin) = (s.map Sh.key).map (·.b) := fun s => by rw [List.map_map]; rfl
  rw [List.map_take, List.map_take, e, e, this]
end Go.Proofs.Ytfholicobkpilaa.Clean
