/-
  Part 3: OctM, SlotM, JnM.
-/
import Derived.Test.YtinggiidkfnlkaaDoorPkJournalCrasha
set_option linter.unusedSimpArgs false
set_option linter.unusedVariables false
set_option linter.unusedSectionVars false
section
namespace Go.Proofs.YtinggiidkfnlkaaDoor.Oct
theorem snoc_ind {α : Type} {P : List α → Prop} (h0 : P []) (h1 : ∀ l b, P l → P (l ++ [b])) (l : List α) : P l := by
  have : ∀ r : List α, P r.reverse := fun r => by
    induction r with
    | nil => exact h0
    | cons b r ih => rw [List.reverse_cons]; exact h1 _ _ ih
  have h := this l.reverse
  rwa [List.reverse_reverse] at h
def be (n : Nat) : Nat → List UInt8
  | 0 => []
  | w + 1 => be (n / 256) w ++ [UInt8.ofNat n]
theorem be_length (n w : Nat) : (be n w).length = w := by
  induction w generalizing n with
  | zero => rfl
  | succ w ih => simp [be, ih]
def ofBe (l : List UInt8) : Nat := l.foldl (fun a b => a * 256 + b.toNat) 0
theorem ofBe_snoc (l : List UInt8) (b : UInt8) : ofBe (l ++ [b]) = ofBe l * 256 + b.toNat := by simp [ofBe]
theorem ofBe_lt (l : List UInt8) : ofBe l < 256 ^ l.length := by
  refine snoc_ind (P := fun l => ofBe l < 256 ^ l.length) (by simp [ofBe]) (fun l b ih => ?_) l
  rw [ofBe_snoc, List.length_append, List.length_singleton, Nat.pow_succ]
  have := b.toNat_lt
  omega
theorem ofBe_be (n w : Nat) (h : n < 256 ^ w) : ofBe (be n w) = n := by
  induction w generalizing n with
  | zero => simp [be, ofBe] at *; omega
  | succ w ih =>
    unfold be
    rw [ofBe_snoc, ih (n / 256) (by rw [Nat.pow_succ] at h; omega)]
    have : (UInt8.ofNat n).toNat = n % 256 := by simp
    rw [this]; omega
def poly : BitVec 32 := 2197175160#32
def step1 (r : BitVec 32) : BitVec 32 := (r >>> 1) ^^^ (poly &&& -(r &&& 1#32))
def stepN : Nat → BitVec 32 → BitVec 32
  | 0, r => r
  | n + 1, r => stepN n (step1 r)
def crcB (r : BitVec 32) (c : UInt8) : BitVec 32 := stepN 8 (r ^^^ BitVec.ofNat 32 c.toNat)
def crcS (l : List UInt8) : BitVec 32 := ~~~ (l.foldl crcB (~~~ 0#32))
end Go.Proofs.YtinggiidkfnlkaaDoor.Oct
end
section
namespace Go.Proofs.YtinggiidkfnlkaaDoor.Slot
open Go.Proofs.YtinggiidkfnlkaaDoor.Oct
def top : Nat := 9007199254740991
def laidO (m : Nat) (t : List UInt8) : List UInt8 := be m 8 ++ [UInt8.ofNat t.length] ++ t ++ List.replicate (107 - t.length) 0
def laidL (m : Nat) (t : List UInt8) : List UInt8 := laidO m t ++ be (crcS (laidO m t)).toNat 4 ++ be m 8
theorem laidO_length {m : Nat} {t : List UInt8} (h : t.length ≤ 100) : (laidO m t).length = 116 := by simp [laidO, be_length]; omega
theorem laidL_length {m : Nat} {t : List UInt8} (h : t.length ≤ 100) : (laidL m t).length = 128 := by simp [laidL, be_length, laidO_length h]
abbrev Img := Nat × List UInt8
def rdX0 (b : List UInt8) : Img := (ofBe (b.take 8), (b.drop 9).take (b.getD 8 0).toNat)
def rdImg (b : List UInt8) : Img :=
  if b.length ≠ 128 ∨ 100 < (b.getD 8 0).toNat then (0, []) else if top < (rdX0 b).1 ∨ (rdX0 b).1 = 0 ∨ laidL (rdX0 b).1 (rdX0 b).2 ≠ b then (0, []) else rdX0 b
theorem x0_laid {m : Nat} {t : List UInt8} (hm : m ≤ top) (ht : t.length ≤ 100) : rdX0 (laidL m t) = (m, t) ∧ ((laidL m t).getD 8 0).toNat = t.length := by
  have e : laidL m t = be m 8 ++ (UInt8.ofNat t.length :: (t ++ (List.replicate (107 - t.length) 0 ++ (be (crcS (laidO m t)).toNat 4 ++ be m 8)))) := by
    simp [laidL, laidO]
  have h8 : ((laidL m t).getD 8 0).toNat = t.length := by
    rw [e, List.getD_eq_getElem?_getD, List.getElem?_append_right (by rw [be_length]; omega), be_length]
    simp; omega
  refine ⟨?_, h8⟩
  unfold rdX0
  rw [h8, e]
  have hb := be_length m 8
  rw [List.take_append_of_le_length (by omega), List.take_of_length_le (by omega), ofBe_be m 8 (by unfold top at hm; omega)]
  congr 1
  have e2 : (9 : Nat) = (be m 8).length + 1 := by omega
  rw [e2, List.drop_append, List.drop_of_length_le (by omega)]
  simp
theorem rd_laid {m : Nat} {t : List UInt8} (h1 : 1 ≤ m) (hm : m ≤ top) (ht : t.length ≤ 100) : rdImg (laidL m t) = (m, t) := by
  obtain ⟨e1, e2⟩ := x0_laid hm ht
  unfold rdImg
  rw [if_neg (by rw [laidL_length ht, e2]; omega), e1, if_neg (by
    rintro (h | h | h)
    · simp only at h; omega
    · simp only at h; omega
    · exact h rfl)]
theorem rd_some {b : List UInt8} (h : (rdImg b).1 ≠ 0) : b.length = 128 ∧ (rdImg b).1 ≤ top ∧ (rdImg b).2.length ≤ 100 ∧ laidL (rdImg b).1 (rdImg b).2 = b := by
  unfold rdImg at h ⊢
  split at h
  · simp at h
  · rename_i h1
    split at h
    · simp at h
    · rename_i h2
      rw [if_neg h1, if_neg h2]
      refine ⟨by omega, by omega, ?_, ?_⟩
      · simp only [rdX0, List.length_take]; omega
      · by_cases hq : laidL (rdX0 b).1 (rdX0 b).2 = b
        · exact hq
        · exact absurd (.inr (.inr hq)) h2
theorem rd_none {b : List UInt8} (h : (rdImg b).1 = 0) : rdImg b = (0, []) := by
  unfold rdImg at h ⊢
  split
  · rfl
  · rename_i h1
    rw [if_neg h1] at h
    split
    · rfl
    · rename_i h2
      rw [if_neg h2] at h
      exact absurd (.inr (.inl h)) h2
theorem rd_range (b : List UInt8) : (rdImg b).1 ≤ top ∧ (rdImg b).2.length ≤ 100 := by
  by_cases h : (rdImg b).1 = 0
  · rw [rd_none h]; simp
  · have := rd_some h; exact ⟨this.2.1, this.2.2.1⟩
def cnts (x y : Img) : Int := if x = (0, []) ∧ y = (0, []) then -1 else if x.1 < y.1 then 1 else 0
end Go.Proofs.YtinggiidkfnlkaaDoor.Slot
end
section
namespace Go.Proofs.YtinggiidkfnlkaaDoor.Jn
open Go.Proofs.YtinggiidkfnlkaaDoor.Oct
def lastE : Nat := 281474976710655
abbrev Lf := Nat × List UInt8
def leafO (e n : Nat) (x : Lf) : List UInt8 := be e 6 ++ be n 2 ++ [UInt8.ofNat x.1, UInt8.ofNat x.2.length] ++ x.2 ++ List.replicate (108 - x.2.length) 0
def leafL (e n : Nat) (x : Lf) : List UInt8 := leafO e n x ++ be (crcS (leafO e n x)).toNat 4 ++ be e 6
def Lf.ok (x : Lf) : Prop := 1 ≤ x.1 ∧ x.1 ≤ 4 ∧ 1 ≤ x.2.length ∧ x.2.length ≤ 108
theorem leafO_length {e n : Nat} {x : Lf} (h : x.2.length ≤ 108) : (leafO e n x).length = 118 := by simp [leafO, be_length]; omega
theorem leafL_length {e n : Nat} {x : Lf} (h : x.2.length ≤ 108) : (leafL e n x).length = 128 := by simp [leafL, be_length, leafO_length h]
def rdX (b : List UInt8) : Lf := ((b.getD 8 0).toNat, (b.drop 10).take (b.getD 9 0).toNat)
def rdLeaf (b : List UInt8) (e n : Nat) : Option Lf :=
  if b.length ≠ 128 ∨ (b.getD 9 0).toNat < 1 ∨ 108 < (b.getD 9 0).toNat then none else if 1 ≤ (rdX b).1 ∧ (rdX b).1 ≤ 4 ∧ leafL e n (rdX b) = b then some (rdX b) else none
theorem leaf_x {e n : Nat} {x : Lf} (h : Lf.ok x) : rdX (leafL e n x) = x ∧ ((leafL e n x).getD 9 0).toNat = x.2.length := by
  obtain ⟨h1, h2, h3, h4⟩ := h
  have e0 : leafL e n x = (be e 6 ++ be n 2) ++ (UInt8.ofNat x.1 :: UInt8.ofNat x.2.length :: (x.2 ++ (List.replicate (108 - x.2.length) 0 ++ (be (crcS (leafO e n x)).toNat 4 ++ be e 6)))) := by
    simp [leafL, leafO]
  have hl : (be e 6 ++ be n 2).length = 8 := by simp [be_length]
  have h8 : ((leafL e n x).getD 8 0).toNat = x.1 := by
    rw [e0, List.getD_eq_getElem?_getD, List.getElem?_append_right (by omega), hl]
    simp; omega
  have h9 : ((leafL e n x).getD 9 0).toNat = x.2.length := by
    rw [e0, List.getD_eq_getElem?_getD, List.getElem?_append_right (by omega), hl]
    simp; omega
  refine ⟨?_, h9⟩
  unfold rdX
  rw [h8, h9, e0]
  have e2 : (10 : Nat) = (be e 6 ++ be n 2).length + 2 := by omega
  rw [e2, List.drop_append, List.drop_of_length_le (by omega)]
  simp
theorem rd_leaf {e n : Nat} {x : Lf} (h : Lf.ok x) : rdLeaf (leafL e n x) e n = some x := by
  obtain ⟨e1, e2⟩ := leaf_x (e := e) (n := n) h
  have hl := leafL_length (e := e) (n := n) h.2.2.2
  obtain ⟨h1, h2, h3, h4⟩ := h
  unfold rdLeaf
  rw [if_neg (by rw [hl, e2]; omega), e1, if_pos ⟨h1, h2, rfl⟩]
theorem rd_some {b : List UInt8} {e n : Nat} {x : Lf} (h : rdLeaf b e n = some x) : Lf.ok x ∧ leafL e n x = b := by
  unfold rdLeaf at h
  split at h
  · cases h
  · rename_i h1
    split at h
    · rename_i h2
      cases h
      refine ⟨⟨h2.1, h2.2.1, ?_, ?_⟩, h2.2.2⟩
      · simp only [rdX, List.length_take, List.length_drop]; omega
      · simp only [rdX, List.length_take]; omega
    · cases h
def tl (w : Nat) (b : List UInt8) : Nat := ofBe (b.drop (128 - w))
def hd (w : Nat) (b : List UInt8) : Nat := ofBe (b.take w)
def Bth (w e : Nat) (A : List UInt8) : Prop := A.length = 128 ∧ A.take w = be e w ∧ A.drop (128 - w) = be e w
theorem bth_leaf {e n : Nat} {x : Lf} (h : x.2.length ≤ 108) : Bth 6 e (leafL e n x) := by
  refine ⟨leafL_length h, ?_, ?_⟩
  · unfold leafL leafO
    simp only [List.append_assoc]
    rw [List.take_append_of_le_length (by rw [be_length]; omega), List.take_of_length_le (by rw [be_length]; omega)]
  · have hl := leafO_length (e := e) (n := n) h
    unfold leafL
    exact List.drop_left' (by rw [List.length_append, hl, be_length])
theorem Bth.tl {w e : Nat} {A : List UInt8} (h : Bth w e A) (he : e < 256 ^ w) : tl w A = e := by
  unfold Jn.tl
  rw [h.2.2, ofBe_be e w he]
theorem Bth.hd {w e : Nat} {A : List UInt8} (h : Bth w e A) (he : e < 256 ^ w) : hd w A = e := by
  unfold Jn.hd
  rw [h.2.1, ofBe_be e w he]
theorem tl_leaf {e n : Nat} {x : Lf} (he : e ≤ lastE) (h : x.2.length ≤ 108) : tl 6 (leafL e n x) = e := (bth_leaf h).tl (by unfold lastE at he; omega)
theorem rd_tl {b : List UInt8} {e n : Nat} (he : e ≤ lastE) (h : tl 6 b ≠ e) : rdLeaf b e n = none := by
  cases hr : rdLeaf b e n with
  | none => rfl
  | some x =>
    obtain ⟨h1, h2⟩ := rd_some hr
    refine absurd ?_ h
    rw [← h2, tl_leaf he h1.2.2.2]
def Sm (w N : Nat) (b : List UInt8) : Prop := b.length = 128 ∧ ∃ q r : Nat, q ≤ N ∧ r ≤ N ∧ b.take w = be q w ∧ b.drop (128 - w) = be r w
theorem Sm.mono {w N M : Nat} {b : List UInt8} (h : Sm w N b) (hm : N ≤ M) : Sm w M b := by
  obtain ⟨h1, q, r, h2, h3, h4, h5⟩ := h
  exact ⟨h1, q, r, by omega, by omega, h4, h5⟩
theorem small_pow {w n : Nat} (hw : 1 ≤ w) (h : n < 256) : n < 256 ^ w := Nat.lt_of_lt_of_le h (by
  have : 256 ^ 1 ≤ 256 ^ w := Nat.pow_le_pow_right (by decide) hw
  omega)
theorem Sm.le {w N : Nat} {b : List UInt8} (h : Sm w N b) (hw : 1 ≤ w) (hN : N < 256) : tl w b ≤ N ∧ hd w b ≤ N := by
  obtain ⟨h1, q, r, h2, h3, h4, h5⟩ := h
  unfold tl hd
  rw [h4, h5, ofBe_be _ _ (small_pow hw (by omega)), ofBe_be _ _ (small_pow hw (by omega))]
  exact ⟨h3, h2⟩
theorem be_zero (w : Nat) : be 0 w = List.replicate w 0 := by
  induction w with
  | zero => rfl
  | succ w ih =>
    unfold be
    rw [Nat.zero_div, ih, List.replicate_succ']
    rfl
theorem Sm.zero {w : Nat} (N : Nat) (hw : w ≤ 128) : Sm w N (List.replicate 128 0) := ⟨List.length_replicate .., 0, 0, Nat.zero_le _, Nat.zero_le _, by rw [be_zero, List.take_replicate, show min w 128 = w by omega], by rw [be_zero, List.drop_replicate, show 128 - (128 - w) = w by omega]⟩
theorem Bth.sm {w N e : Nat} {A : List UInt8} (h : Bth w e A) (he : e ≤ N) : Sm w N A := ⟨h.1, e, e, he, he, h.2.1, h.2.2⟩
theorem be_small {w n : Nat} (h : n < 256) : be n (w + 1) = List.replicate w 0 ++ [UInt8.ofNat n] := by
  unfold be
  rw [show n / 256 = 0 by omega, be_zero]
theorem mixW {w q r j : Nat} (hq : q < 256) (hr : r < 256) (hj : j ≤ w) : (be q w).take j ++ (be r w).drop j = be (if j = w then q else r) w := by
  by_cases h : j = w
  · subst h
    rw [if_pos rfl, List.take_of_length_le (by rw [be_length]; omega), List.drop_of_length_le (by rw [be_length]; omega), List.append_nil]
  · rw [if_neg h]
    obtain ⟨v, rfl⟩ : ∃ v, w = v + 1 := ⟨w - 1, by omega⟩
    have e1 : (be q (v + 1)).take j = (be r (v + 1)).take j := by
      rw [be_small hq, be_small hr, List.take_append_of_le_length (by rw [List.length_replicate]; omega), List.take_append_of_le_length (by rw [List.length_replicate]; omega)]
    rw [e1, List.take_append_drop]
theorem tear_sm {w N j : Nat} {A O : List UInt8} (hw : 1 ≤ w) (hw2 : w ≤ 8) (hN : N < 256) (hO : Sm w N O) (hA : Sm w N A) (hj : j ≤ 128) :
    Sm w N (A.take j ++ O.drop j) ∧ (A.take j ++ O.drop j = A ∨ tl w (A.take j ++ O.drop j) = tl w O) := by
  obtain ⟨hA1, x, y, g2, g3, hh, ht⟩ := hA
  obtain ⟨h1, q, r, h2, h3, h4, h5⟩ := hO
  have hlen : (A.take j ++ O.drop j).length = 128 := by simp; omega
  have hend : (A.take j ++ O.drop j).drop (128 - w) = be (if j = 128 then y else r) w := by
    rw [List.drop_append, List.length_take, List.drop_drop]
    by_cases h : j ≤ 128 - w
    · rw [List.drop_of_length_le (by rw [List.length_take]; omega), List.nil_append, if_neg (by omega), ← h5]
      congr 1; omega
    · have hm := mixW (w := w) (q := y) (r := r) (j := j - (128 - w)) (by omega) (by omega) (by omega)
      rw [← ht, ← h5, List.drop_drop] at hm
      rw [show min j A.length = j by omega, List.drop_take, show j + (128 - w - j) = 128 - w + (j - (128 - w)) by omega, hm]
      congr 1
      by_cases h6 : j = 128
      · rw [if_pos (by omega), if_pos h6]
      · rw [if_neg (by omega), if_neg h6]
  have hhd : ∃ p, p ≤ N ∧ (A.take j ++ O.drop j).take w = be p w := by
    by_cases h : w ≤ j
    · refine ⟨x, g2, ?_⟩
      rw [List.take_append_of_le_length (by rw [List.length_take]; omega), List.take_take, show min w j = w by omega, hh]
    · have hm := mixW (w := w) (q := x) (r := q) (j := j) (by omega) (by omega) (by omega)
      refine ⟨q, h2, ?_⟩
      rw [if_neg (by omega), ← hh, ← h4, List.take_take, show min j w = j by omega, List.drop_take] at hm
      rw [← h4, ← hm, List.take_append, List.take_take, show min w j = j by omega, List.length_take, show min j A.length = j by omega]
  obtain ⟨p, hp1, hp2⟩ := hhd
  refine ⟨⟨hlen, p, if j = 128 then y else r, hp1, by split <;> omega, hp2, hend⟩, ?_⟩
  by_cases h6 : j = 128
  · refine .inl ?_
    rw [List.take_of_length_le (by omega), List.drop_of_length_le (by omega), List.append_nil]
  · refine .inr ?_
    unfold tl
    rw [hend, if_neg h6, h5]
structure Ld where
  now : List UInt8
  recs : List (List UInt8)
  fin : Nat
def Ld.bad (s : Ld) (x : Lf) : Prop := (x.1 = 1 ∨ x.1 = 2) ≠ (s.now = []) ∨ 16384 < s.now.length + x.2.length
instance (s : Ld) (x : Lf) : Decidable (s.bad x) := inferInstanceAs (Decidable (_ ∨ _))
def Ld.next (s : Ld) (x : Lf) (i : Nat) : Ld := if x.1 = 1 ∨ x.1 = 4 then ⟨[], s.recs ++ [s.now ++ x.2], i + 1⟩ else ⟨s.now ++ x.2, s.recs, s.fin⟩
def loadF (e : Nat) : List (List UInt8) → Nat → Ld → Ld
  | [], _, s => s
  | b :: bs, i, s => match rdLeaf b e i with
    | none => s
    | some x => if s.bad x then s else loadF e bs (i + 1) (s.next x i)
def runL : List Lf → Nat → Ld → Ld
  | [], _, s => s
  | x :: l, i, s => if s.bad x then s else runL l (i + 1) (s.next x i)
theorem load_run {e : Nat} : ∀ {l : List Lf} {bs : List (List UInt8)} {i : Nat} {s : Ld}, (∀ k x, l[k]? = some x → Lf.ok x ∧ bs[k]? = some (leafL e (i + k) x)) →
    (∀ b, bs[l.length]? = some b → rdLeaf b e (i + l.length) = none) → loadF e bs i s = runL l i s
  | [], bs, i, s, _, h2 => by
    cases bs with
    | nil => rfl
    | cons b bs =>
      have := h2 b rfl
      simp only [List.length_nil, Nat.add_zero] at this
      unfold loadF
      rw [this]
      rfl
  | x :: l, bs, i, s, h1, h2 => by
    obtain ⟨hx, hb⟩ := h1 0 x rfl
    cases bs with
    | nil => cases hb
    | cons b bs =>
      simp only [List.getElem?_cons_zero, Option.some.injEq, Nat.add_zero] at hb
      subst hb
      unfold loadF runL
      rw [rd_leaf hx]
      simp only
      split
      · rfl
      · refine load_run (fun k y hy => ?_) (fun b hb => ?_)
        · have := h1 (k + 1) y (by simpa using hy)
          refine ⟨this.1, ?_⟩
          have h3 := this.2
          simp only [List.getElem?_cons_succ] at h3
          rw [h3, show i + (k + 1) = i + 1 + k by omega]
        · have := h2 b (by simpa using hb)
          rw [List.length_cons] at this
          rw [← this, show i + 1 + l.length = i + (l.length + 1) by omega]
def takes (n : Nat) : Nat := (n + 107) / 108
def kindOf (n i : Nat) : Nat := if n = 1 then 1 else if i = 0 then 2 else if i + 1 = n then 4 else 3
def leafOf (r : List UInt8) (i : Nat) : Lf := (kindOf (takes r.length) i, (r.drop (108 * i)).take 108)
def leavesOf (r : List UInt8) : List Lf := (List.range (takes r.length)).map (leafOf r)
theorem leaves_len (r : List UInt8) : (leavesOf r).length = takes r.length := by simp [leavesOf]
def Rec (r : List UInt8) : Prop := 1 ≤ r.length ∧ r.length ≤ 16384
theorem leafOf_ok {r : List UInt8} {i : Nat} (hi : i < takes r.length) : Lf.ok (leafOf r i) := by
  have h : 108 * i < r.length := by unfold takes at hi; omega
  refine ⟨?_, ?_, ?_, ?_⟩
  · unfold leafOf kindOf; simp only; repeat' split
    all_goals omega
  · unfold leafOf kindOf; simp only; repeat' split
    all_goals omega
  · simp only [leafOf, List.length_take, List.length_drop]; omega
  · simp only [leafOf, List.length_take]; omega
theorem leaves_at {r : List UInt8} {k : Nat} {x : Lf} (h : (leavesOf r)[k]? = some x) : k < takes r.length ∧ x = leafOf r k := by
  have hk : k < (leavesOf r).length := (List.getElem?_eq_some_iff.1 h).1
  rw [leaves_len] at hk
  refine ⟨hk, ?_⟩
  unfold leavesOf at h
  rw [List.getElem?_map, List.getElem?_range hk] at h
  simpa using h.symm
theorem leaves_ok {r : List UInt8} {x : Lf} (h : x ∈ leavesOf r) : Lf.ok x := by
  obtain ⟨k, hk⟩ := List.mem_iff_getElem?.1 h
  obtain ⟨h1, rfl⟩ := leaves_at hk
  exact leafOf_ok h1
theorem take108 (r : List UInt8) (j : Nat) : r.take (108 * j) ++ (r.drop (108 * j)).take 108 = r.take (108 * (j + 1)) := by
  rw [show 108 * (j + 1) = 108 * j + 108 by omega, List.take_add]
theorem leaf_step {r : List UInt8} (hr : Rec r) {j i fin : Nat} {recs : List (List UInt8)} (hj : j < takes r.length) : ¬ Ld.bad ⟨r.take (108 * j), recs, fin⟩ (leafOf r j) ∧
    Ld.next ⟨r.take (108 * j), recs, fin⟩ (leafOf r j) i = if j + 1 = takes r.length then ⟨[], recs ++ [r], i + 1⟩ else ⟨r.take (108 * (j + 1)), recs, fin⟩ := by
  obtain ⟨h1, h2⟩ := hr
  have hlt : 108 * j < r.length := by unfold takes at hj; omega
  constructor
  · intro hb
    rcases hb with hb | hb
    · refine hb ?_
      have e1 : (r.take (108 * j) = []) ↔ j = 0 := by
        rw [← List.length_eq_zero_iff, List.length_take]; omega
      rw [eq_iff_iff, e1]
      unfold leafOf kindOf
      simp only
      repeat' split
      all_goals first | omega | (constructor <;> intro <;> omega)
    · simp only [leafOf, List.length_take, List.length_drop] at hb
      omega
  · have hk : ((leafOf r j).1 = 1 ∨ (leafOf r j).1 = 4) ↔ j + 1 = takes r.length := by
      unfold leafOf kindOf
      simp only
      repeat' split
      all_goals first | omega | (constructor <;> intro <;> omega)
    have h2 : r.take (108 * j) ++ (leafOf r j).2 = r.take (108 * (j + 1)) := take108 r j
    unfold Ld.next
    by_cases h : j + 1 = takes r.length
    · rw [if_pos h, if_pos (hk.2 h), h2, List.take_of_length_le (show r.length ≤ 108 * (j + 1) by unfold takes at h; omega)]
    · rw [if_neg h, if_neg (fun hc => h (hk.1 hc)), h2]
theorem leaves_from {r : List UInt8} {j : Nat} (hj : j < takes r.length) : (leavesOf r).drop j = leafOf r j :: (leavesOf r).drop (j + 1) := by
  have hl := leaves_len r
  rw [List.drop_eq_getElem_cons (by omega)]
  congr 1
  have := leaves_at (List.getElem?_eq_getElem (l := leavesOf r) (i := j) (by omega))
  exact this.2
theorem run_from {r : List UInt8} (hr : Rec r) {l : List Lf} {fin : Nat} {recs : List (List UInt8)} : ∀ (k j i : Nat), j + k + 1 = takes r.length →
    runL ((leavesOf r).drop j ++ l) i ⟨r.take (108 * j), recs, fin⟩ = runL l (i + k + 1) ⟨[], recs ++ [r], i + k + 1⟩
  | 0, j, i, h => by
    obtain ⟨h1, h2⟩ := leaf_step hr (i := i) (fin := fin) (recs := recs) (show j < takes r.length by omega)
    rw [leaves_from (by omega), List.drop_of_length_le (by rw [leaves_len]; omega), List.cons_append, List.nil_append]
    conv => lhs; unfold runL
    rw [if_neg h1, h2, if_pos (by omega)]
  | k + 1, j, i, h => by
    obtain ⟨h1, h2⟩ := leaf_step hr (i := i) (fin := fin) (recs := recs) (show j < takes r.length by omega)
    rw [leaves_from (by omega), List.cons_append]
    conv => lhs; unfold runL
    rw [if_neg h1, h2, if_neg (by omega), run_from hr k (j + 1) (i + 1) (by omega)]
    rw [show i + 1 + k + 1 = i + (k + 1) + 1 by omega]
theorem run_rec {r : List UInt8} (hr : Rec r) {l : List Lf} {fin i : Nat} {recs : List (List UInt8)} : runL (leavesOf r ++ l) i ⟨[], recs, fin⟩ = runL l (i + takes r.length) ⟨[], recs ++ [r], i + takes r.length⟩ := by
  have h0 : 1 ≤ takes r.length := by have := hr.1; unfold takes; omega
  have := run_from hr (l := l) (fin := fin) (recs := recs) (takes r.length - 1) 0 i (by omega)
  simp only [List.drop_zero, Nat.mul_zero, List.take_zero] at this
  rw [this, show i + (takes r.length - 1) + 1 = i + takes r.length by omega]
theorem run_some {r : List UInt8} (hr : Rec r) {fin : Nat} {recs : List (List UInt8)} : ∀ (k j i : Nat), j + k < takes r.length →
    (runL (((leavesOf r).drop j).take k) i ⟨r.take (108 * j), recs, fin⟩).recs = recs ∧ (runL (((leavesOf r).drop j).take k) i ⟨r.take (108 * j), recs, fin⟩).fin = fin
  | 0, j, i, h => ⟨rfl, rfl⟩
  | k + 1, j, i, h => by
    obtain ⟨h1, h2⟩ := leaf_step hr (i := i) (fin := fin) (recs := recs) (show j < takes r.length by omega)
    rw [leaves_from (by omega), List.take_succ_cons]
    unfold runL
    rw [if_neg h1, h2, if_neg (by omega)]
    exact run_some hr k (j + 1) (i + 1) (by omega)
theorem run_part {r : List UInt8} (hr : Rec r) {fin q i : Nat} {recs : List (List UInt8)} (h : q < takes r.length) :
    (runL ((leavesOf r).take q) i ⟨[], recs, fin⟩).recs = recs ∧ (runL ((leavesOf r).take q) i ⟨[], recs, fin⟩).fin = fin := by
  have := run_some hr (fin := fin) (recs := recs) q 0 i (by omega)
  simpa using this
def allL (l : List (List UInt8)) : List Lf := l.flatMap leavesOf
theorem allL_cons (r : List UInt8) (l : List (List UInt8)) : allL (r :: l) = leavesOf r ++ allL l := by simp [allL]
theorem allL_app (a b : List (List UInt8)) : allL (a ++ b) = allL a ++ allL b := by simp [allL]
theorem run_take {part : List Lf} (hp : part = [] ∨ ∃ r q, Rec r ∧ q < takes r.length ∧ part = (leavesOf r).take q) : ∀ (all : List (List UInt8)) (p i : Nat) (recs : List (List UInt8)), (∀ r ∈ all, Rec r) →
    ∃ j, j ≤ all.length ∧ (runL ((allL all ++ part).take p) i ⟨[], recs, i⟩).recs = recs ++ all.take j ∧ (runL ((allL all ++ part).take p) i ⟨[], recs, i⟩).fin = i + (allL (all.take j)).length ∧
      ∀ q, q ≤ all.length → (allL (all.take q)).length ≤ p → q ≤ j
  | [], p, i, recs, _ => by
    refine ⟨0, Nat.le_refl _, ?_⟩
    simp only [allL, List.flatMap_nil, List.nil_append, List.take_nil, List.append_nil, List.length_nil, Nat.add_zero]
    refine (fun h : _ ∧ _ => ⟨h.1, h.2, fun q hq _ => hq⟩) ?_
    rcases hp with rfl | ⟨r, q, hr, hq, rfl⟩
    · rw [List.take_nil]; exact ⟨rfl, rfl⟩
    · rw [List.take_take]
      exact run_part hr (by omega)
  | r :: all, p, i, recs, h => by
    have hr := h r (List.mem_cons_self ..)
    have hl := leaves_len r
    by_cases hpt : takes r.length ≤ p
    · obtain ⟨j, h1, h2, h3, h4⟩ := run_take hp all (p - takes r.length) (i + takes r.length) (recs ++ [r]) fun x hx => h x (List.mem_cons_of_mem _ hx)
      refine ⟨j + 1, by rw [List.length_cons]; omega, ?_⟩
      have e1 : (allL (r :: all) ++ part).take p = leavesOf r ++ (allL all ++ part).take (p - takes r.length) := by
        rw [allL_cons, List.append_assoc, List.take_append, List.take_of_length_le (by omega), hl]
      rw [e1, run_rec hr]
      refine ⟨by rw [h2]; simp, ?_, fun q hq hq2 => ?_⟩
      · rw [h3, List.take_succ_cons, allL_cons, List.length_append, hl]; omega
      · cases q with
        | zero => omega
        | succ q =>
          rw [List.take_succ_cons, allL_cons, List.length_append, hl] at hq2
          rw [List.length_cons] at hq
          have := h4 q (by omega) (by omega)
          omega
    · refine ⟨0, Nat.zero_le _, ?_⟩
      have e1 : (allL (r :: all) ++ part).take p = (leavesOf r).take p := by
        rw [allL_cons, List.append_assoc, List.take_append_of_le_length (by omega)]
      rw [e1]
      obtain ⟨h1, h2⟩ := run_part hr (i := i) (recs := recs) (fin := i) (show p < takes r.length by omega)
      refine ⟨by rw [h1]; simp, by rw [h2]; simp [allL], fun q hq hq2 => ?_⟩
      cases q with
      | zero => omega
      | succ q =>
        rw [List.take_succ_cons, allL_cons, List.length_append, hl] at hq2
        omega
end Go.Proofs.YtinggiidkfnlkaaDoor.Jn
end
