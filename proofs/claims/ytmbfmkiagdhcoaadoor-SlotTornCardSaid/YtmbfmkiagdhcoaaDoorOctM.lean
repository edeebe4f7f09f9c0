/-
  Numbers in bytes, and check sums: plain facts.
-/
import Derived.Test.YtmbfmkiagdhcoaaDoorSlA
set_option linter.unusedSimpArgs false
set_option linter.unusedVariables false
set_option linter.unusedSectionVars false
namespace Go.Proofs.YtmbfmkiagdhcoaaDoor.Oct
theorem snoc_ind {α : Type} {P : List α → Prop} (h0 : P []) (h1 : ∀ l b, P l → P (l ++ [b])) (l : List α) : P l := by
  have : ∀ r : List α, P r.reverse := fun r => by
    induction r with
    | nil => exact h0
    | cons b r ih => rw [List.reverse_cons]; exact h1 _ _ ih
  have h := this l.reverse
  rwa [List.reverse_reverse] at h
/-- A number in so many bytes, the greatest first. -/
def be (n : Nat) : Nat → List UInt8
  | 0 => []
  | w + 1 => be (n / 256) w ++ [UInt8.ofNat n]
theorem be_length (n w : Nat) : (be n w).length = w := by
  induction w generalizing n with
  | zero => rfl
  | succ w ih => simp [be, ih]
def ofBe (l : List UInt8) : Nat := l.foldl (fun a b => a * 256 + b.toNat) 0
theorem ofBe_snoc (l : List UInt8) (b : UInt8) : ofBe (l ++ [b]) = ofBe l * 256 + b.toNat := by simp [ofBe]
theorem ofBe_lt (l : List UInt8) : ofBe l < 256 ^ l.length := by
  refine snoc_ind (P := fun l => ofBe l < 256 ^ l.length) (by simp [ofBe]) (fun l b ih => ?_) l
  rw [ofBe_snoc, List.length_append, List.length_singleton, Nat.pow_succ]
  have := b.toNat_lt
  omega
theorem ofBe_be (n w : Nat) (h : n < 256 ^ w) : ofBe (be n w) = n := by
  induction w generalizing n with
  | zero => simp [be, ofBe] at *; omega
  | succ w ih =>
    unfold be
    rw [ofBe_snoc, ih (n / 256) (by rw [Nat.pow_succ] at h; omega)]
    have : (UInt8.ofNat n).toNat = n % 256 := by simp
    rw [this]; omega
theorem be_inj {n m w : Nat} (hn : n < 256 ^ w) (hm : m < 256 ^ w) (h : be n w = be m w) : n = m := by
  rw [← ofBe_be n w hn, h, ofBe_be m w hm]
theorem be_ofBe (l : List UInt8) : be (ofBe l) l.length = l := by
  refine snoc_ind (P := fun l => be (ofBe l) l.length = l) rfl (fun l b ih => ?_) l
  rw [ofBe_snoc, List.length_append, List.length_singleton]
  unfold be
  have hb := b.toNat_lt
  have e1 : (ofBe l * 256 + b.toNat) / 256 = ofBe l := by omega
  have e2 : UInt8.ofNat (ofBe l * 256 + b.toNat) = b := by
    apply UInt8.toNat_inj.1
    simp
  rw [e1, e2, ih]

/-! ### the check sum -/
def poly : BitVec 32 := 2197175160#32
def step1 (r : BitVec 32) : BitVec 32 := (r >>> 1) ^^^ (poly &&& -(r &&& 1#32))
def stepN : Nat → BitVec 32 → BitVec 32
  | 0, r => r
  | n + 1, r => stepN n (step1 r)
def crcB (r : BitVec 32) (c : UInt8) : BitVec 32 := stepN 8 (r ^^^ BitVec.ofNat 32 c.toNat)
def crcS (l : List UInt8) : BitVec 32 := ~~~ (l.foldl crcB (~~~ 0#32))
theorem one_bit (i : Nat) : (1#32).getLsbD (i + 1) = false := by
  rw [BitVec.getLsbD_one]; simp
theorem and_one (r : BitVec 32) : r &&& 1#32 = bif r.getLsbD 0 then 1#32 else 0#32 := by
  apply BitVec.eq_of_getLsbD_eq
  intro i hi
  rw [BitVec.getLsbD_and]
  rcases i with _ | i
  · cases r.getLsbD 0 <;> decide
  · rw [one_bit, Bool.and_false]
    cases r.getLsbD 0
    · exact (BitVec.getLsbD_zero ..).symm
    · exact (one_bit i).symm
theorem neg_bit (r : BitVec 32) : -(r &&& 1#32) = bif r.getLsbD 0 then BitVec.allOnes 32 else 0#32 := by
  rw [and_one]; cases r.getLsbD 0 <;> decide
theorem step1_bit (r : BitVec 32) (i : Nat) : (step1 r).getLsbD i = (r.getLsbD (i + 1) ^^ (poly.getLsbD i && r.getLsbD 0)) := by
  unfold step1
  rw [neg_bit, BitVec.getLsbD_xor, BitVec.getLsbD_ushiftRight, BitVec.getLsbD_and, Nat.add_comm 1 i]
  cases r.getLsbD 0
  · rw [cond_false, BitVec.getLsbD_zero]
  · rw [cond_true, BitVec.getLsbD_allOnes]
    by_cases hi : i < 32
    · simp [hi]
    · have : poly.getLsbD i = false := BitVec.getLsbD_of_ge _ _ (by omega)
      simp [this]
/-- The step is linear. -/
theorem step1_xor (a b : BitVec 32) : step1 (a ^^^ b) = step1 a ^^^ step1 b := by
  apply BitVec.eq_of_getLsbD_eq
  intro i hi
  rw [BitVec.getLsbD_xor, step1_bit, step1_bit, step1_bit, BitVec.getLsbD_xor, BitVec.getLsbD_xor]
  cases a.getLsbD (i + 1) <;> cases b.getLsbD (i + 1) <;> cases a.getLsbD 0 <;> cases b.getLsbD 0 <;> cases poly.getLsbD i <;> rfl
theorem step1_zero {a : BitVec 32} (h : step1 a = 0#32) : a = 0#32 := by
  have h31 := step1_bit a 31
  rw [h] at h31
  have e1 : a.getLsbD 32 = false := BitVec.getLsbD_of_ge _ _ (by omega)
  have e2 : poly.getLsbD 31 = true := by decide
  have a0 : a.getLsbD 0 = false := by rw [BitVec.getLsbD_zero, e1, e2, Bool.true_and, Bool.false_xor] at h31; exact h31.symm
  apply BitVec.eq_of_getLsbD_eq
  intro i hi
  rw [BitVec.getLsbD_zero]
  rcases i with _ | i
  · exact a0
  · have := step1_bit a i
    rw [h, a0, BitVec.getLsbD_zero, Bool.and_false, Bool.xor_false] at this
    exact this.symm
theorem stepN_xor : ∀ (n : Nat) (a b : BitVec 32), stepN n (a ^^^ b) = stepN n a ^^^ stepN n b
  | 0, _, _ => rfl
  | n + 1, a, b => by simp only [stepN, step1_xor, stepN_xor n]
theorem stepN_zero : ∀ (n : Nat) {a : BitVec 32}, stepN n a = 0#32 → a = 0#32
  | 0, _, h => h
  | n + 1, _, h => step1_zero (stepN_zero n h)
theorem stepN_add : ∀ (n m : Nat) (a : BitVec 32), stepN n (stepN m a) = stepN (m + n) a
  | n, 0, a => by simp [stepN]
  | n, m + 1, a => by
    have e : m + 1 + n = (m + n) + 1 := by omega
    rw [e]; simp only [stepN]; exact stepN_add n m (step1 a)
theorem xor_zero {a b : BitVec 32} (h : a ^^^ b = 0#32) : a = b := by
  have : a ^^^ b ^^^ b = 0#32 ^^^ b := by rw [h]
  simpa [BitVec.xor_assoc] using this
theorem stepN_inj {n : Nat} {a b : BitVec 32} (h : stepN n a = stepN n b) : a = b := by
  refine xor_zero (stepN_zero n ?_)
  rw [stepN_xor, h, BitVec.xor_self]
theorem crc_inj (l : List UInt8) : ∀ {a b : BitVec 32}, l.foldl crcB a = l.foldl crcB b → a = b := by
  induction l with
  | nil => exact fun h => h
  | cons c l ih =>
    intro a b h
    have := stepN_inj (ih h)
    have h2 : a ^^^ BitVec.ofNat 32 c.toNat ^^^ (b ^^^ BitVec.ofNat 32 c.toNat) = 0#32 := by rw [this, BitVec.xor_self]
    refine xor_zero ?_
    rw [← h2]
    apply BitVec.eq_of_getLsbD_eq
    intro i hi
    simp only [BitVec.getLsbD_xor]
    cases a.getLsbD i <;> cases b.getLsbD i <;> cases (BitVec.ofNat 32 c.toNat).getLsbD i <;> rfl

/-! ### four bytes, one behind the other -/
def wN : List UInt8 → Nat
  | [] => 0
  | c :: l => c.toNat + 256 * wN l
theorem wN_lt : ∀ l : List UInt8, wN l < 256 ^ l.length
  | [] => by simp [wN]
  | c :: l => by
    have := wN_lt l
    have := c.toNat_lt
    simp only [wN, List.length_cons, Nat.pow_succ]
    omega
theorem wN_inj : ∀ {l m : List UInt8}, l.length = m.length → wN l = wN m → l = m
  | [], [], _, _ => rfl
  | c :: l, d :: m, hl, h => by
    have h1 := c.toNat_lt
    have h2 := d.toNat_lt
    simp only [wN] at h
    have : c.toNat = d.toNat := by omega
    have h3 : wN l = wN m := by omega
    rw [UInt8.toNat_inj.1 this, wN_inj (l := l) (m := m) (by simpa using hl) h3]
  | [], _ :: _, hl, _ => by simp at hl
  | _ :: _, [], hl, _ => by simp at hl
theorem split8 {c m : Nat} (hc : c < 256) (hm : m < 16777216) : BitVec.ofNat 32 (c + 256 * m) = BitVec.ofNat 32 c ^^^ (BitVec.ofNat 32 m <<< 8) := by
  apply BitVec.eq_of_getLsbD_eq
  intro i hi
  rw [BitVec.getLsbD_xor, BitVec.getLsbD_shiftLeft, BitVec.getLsbD_ofNat, BitVec.getLsbD_ofNat, BitVec.getLsbD_ofNat]
  have h1 := Nat.testBit_two_pow_mul_add (i := 8) (b := c) m (by omega) i
  have e : 2 ^ 8 * m + c = c + 256 * m := by omega
  rw [e] at h1
  rw [h1]
  by_cases h8 : i < 8
  · simp [hi, h8]
  · have : c.testBit i = false := Nat.testBit_lt_two_pow (Nat.lt_of_lt_of_le hc (by
      have : 2 ^ 8 ≤ 2 ^ i := Nat.pow_le_pow_right (by decide) (by omega)
      omega))
    simp [hi, h8, this]
    omega
theorem step_shift {a : BitVec 32} {n : Nat} (hn : n + 1 ≤ 32) (ha : a.toNat < 2 ^ (31 - n)) : step1 (a <<< (n + 1)) = a <<< n := by
  apply BitVec.eq_of_getLsbD_eq
  intro i hi
  rw [step1_bit, BitVec.getLsbD_shiftLeft, BitVec.getLsbD_shiftLeft, BitVec.getLsbD_shiftLeft]
  simp only [Nat.zero_lt_succ, decide_true, Bool.not_true, Bool.and_false, Bool.false_and, Bool.xor_false]
  by_cases h31 : i = 31
  · subst h31
    have : a.getLsbD (31 - n) = false := by
      unfold BitVec.getLsbD
      exact Nat.testBit_lt_two_pow ha
    simp [this]
  · have e : i + 1 - (n + 1) = i - n := by omega
    rw [e]
    have h1 : i + 1 < 32 := by omega
    simp [hi, h1]
theorem stepN_shift {a : BitVec 32} : ∀ (n : Nat), n ≤ 32 → a.toNat < 2 ^ (32 - n) → stepN n (a <<< n) = a
  | 0, _, _ => by simp [stepN]
  | n + 1, hn, ha => by
    simp only [stepN]
    rw [step_shift hn (by have e : 31 - n = 32 - (n + 1) := by omega
                          rw [e]; exact ha)]
    exact stepN_shift n (by omega) (Nat.lt_of_lt_of_le ha (Nat.pow_le_pow_right (by decide) (by omega)))
theorem crc_word : ∀ (l : List UInt8) (r : BitVec 32), l.length ≤ 4 → l.foldl crcB r = stepN (8 * l.length) (r ^^^ BitVec.ofNat 32 (wN l))
  | [], r, _ => by simp [stepN, wN]
  | c :: l, r, h => by
    simp only [List.length_cons] at h
    have hw := wN_lt l
    have hw2 : wN l < 16777216 := Nat.lt_of_lt_of_le hw (by
      have : 256 ^ l.length ≤ 256 ^ 3 := Nat.pow_le_pow_right (by decide) (by omega)
      omega)
    rw [List.foldl_cons, crc_word l _ (by omega)]
    simp only [crcB, wN, List.length_cons]
    rw [split8 c.toNat_lt hw2]
    have e1 : BitVec.ofNat 32 (wN l) = stepN 8 (BitVec.ofNat 32 (wN l) <<< 8) :=
      (stepN_shift (a := BitVec.ofNat 32 (wN l)) 8 (by decide) (by rw [BitVec.toNat_ofNat, Nat.mod_eq_of_lt (by omega)]; omega)).symm
    rw [e1, ← stepN_xor, stepN_add, ← e1, BitVec.xor_assoc]
    congr 1
    omega
/-- Up to four bytes that are others have another sum. -/
theorem burst {r : BitVec 32} {x y : List UInt8} (hl : x.length = y.length) (h4 : x.length ≤ 4) (h : x.foldl crcB r = y.foldl crcB r) : x = y := by
  rw [crc_word x r h4, crc_word y r (by omega), hl] at h
  have h1 := stepN_inj h
  have h2 : BitVec.ofNat 32 (wN x) = BitVec.ofNat 32 (wN y) := by
    have : r ^^^ (r ^^^ BitVec.ofNat 32 (wN x)) = r ^^^ (r ^^^ BitVec.ofNat 32 (wN y)) := by rw [h1]
    rw [← BitVec.xor_assoc, ← BitVec.xor_assoc, BitVec.xor_self, BitVec.zero_xor, BitVec.zero_xor] at this
    exact this
  have hx : wN x < 4294967296 := Nat.lt_of_lt_of_le (wN_lt x) (by
    have : 256 ^ x.length ≤ 256 ^ 4 := Nat.pow_le_pow_right (by decide) h4
    omega)
  have hy : wN y < 4294967296 := Nat.lt_of_lt_of_le (wN_lt y) (by
    have : 256 ^ y.length ≤ 256 ^ 4 := Nat.pow_le_pow_right (by decide) (by omega)
    omega)
  have h3 := congrArg BitVec.toNat h2
  rw [BitVec.toNat_ofNat, BitVec.toNat_ofNat, Nat.mod_eq_of_lt hx, Nat.mod_eq_of_lt hy] at h3
  exact wN_inj hl h3
/-- One sum, though in up to four bytes, one behind the other, the two part: they are one. -/
theorem crc_burst {a x y b : List UInt8} (hl : x.length = y.length) (h4 : x.length ≤ 4) (h : crcS (a ++ x ++ b) = crcS (a ++ y ++ b)) : x = y := by
  unfold crcS at h
  have h1 := BitVec.not_inj.1 h
  simp only [List.foldl_append] at h1
  exact burst hl h4 (crc_inj b h1)
end Go.Proofs.YtmbfmkiagdhcoaaDoor.Oct
