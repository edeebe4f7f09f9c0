/-
  Part 9: BoX, BoY, BoZ, BpC, BoK, BpD, BpE, BpF, BpG, BpH, RDisk, BpI, BpK, BpL, BpM, BpN, BpQ, BpR, BpS.
-/
import Derived.Test.YtmbfmkiagdhcoaaGreatPkBinLastsb
import Derived.Test.YtmbfmkiagdhcoaaGreatPkBinLastsc
import Derived.Test.YtmbfmkiagdhcoaaGreatPkBinLastsf
import Derived.Test.YtmbfmkiagdhcoaaGreatPkBinLastsh
set_option linter.unusedSimpArgs false
set_option linter.unusedVariables false
set_option linter.unusedSectionVars false
section
namespace Go.Proofs.YtmbfmkiagdhcoaaGreat.Bn
open Go Go.SL Go.Proofs Go.Proofs.YtmbfmkiagdhcoaaGreat.Sh Go.Proofs.YtmbfmkiagdhcoaaGreat.Oct Go.Proofs.YtmbfmkiagdhcoaaGreat.Disk Go.Proofs.YtmbfmkiagdhcoaaGreat.Slot Go.Proofs.YtmbfmkiagdhcoaaGreat.Pk Go.Proofs.YtmbfmkiagdhcoaaGreat.Ext
structure Pc where
  bin : Nat
  pos : Nat
  n : Nat
def Pc.has (p : Pc) (x : Nat) : Prop := p.pos ≤ x ∧ x < p.pos + p.n
structure Shf where
  D : Dk
  f : Nat
  T : List Bool
  R : List Rn
  P : List Pc
def Shf.t (S : Shf) : Nat := S.f + S.T.length
def known (P : List Pc) (b : Int) : Option Pc := P.find? fun p => decide ((p.bin : Int) = b)
def putP : List Pc → Pc → List Pc
  | [], p => [p]
  | q :: P, p => if q.bin < p.bin then q :: putP P p else p :: q :: P
def posP : List Pc → Int → Nat
  | [], _ => 0
  | q :: P, b => if (q.bin : Int) < b then posP P b + 1 else 0
def Srt (P : List Pc) : Prop := P.Pairwise fun p q => p.bin < q.bin
theorem put_perm : ∀ (P : List Pc) (p : Pc), (putP P p).Perm (p :: P)
  | [], _ => .refl _
  | q :: P, p => by
    unfold putP
    split
    · exact ((put_perm P p).cons q).trans (.swap ..)
    · exact .refl _
theorem mem_put {P : List Pc} {p x : Pc} : x ∈ putP P p ↔ x = p ∨ x ∈ P := by rw [(put_perm P p).mem_iff, List.mem_cons]
theorem put_pos : ∀ (P : List Pc) (p : Pc), putP P p = P.take (posP P p.bin) ++ p :: P.drop (posP P p.bin)
  | [], _ => rfl
  | q :: P, p => by
    unfold putP posP
    by_cases h : q.bin < p.bin
    · rw [if_pos h, if_pos (by omega), put_pos P p]; rfl
    · rw [if_neg h, if_neg (by omega)]; rfl
theorem pos_le : ∀ (P : List Pc) (b : Int), posP P b ≤ P.length
  | [], _ => Nat.le_refl _
  | q :: P, b => by
    unfold posP
    have := pos_le P b
    split <;> simp <;> omega
theorem known_none {P : List Pc} {b : Int} (h : known P b = none) : ∀ p ∈ P, (p.bin : Int) ≠ b := fun p hp => by
  have := List.find?_eq_none.1 h p hp
  simpa using this
theorem known_some {P : List Pc} {b : Int} {p : Pc} (h : known P b = some p) : p ∈ P ∧ (p.bin : Int) = b := ⟨List.mem_of_find?_eq_some h, by simpa using List.find?_some h⟩
theorem known_pos : ∀ {P : List Pc} (_ : Srt P) (b : Int), known P b = match P[posP P b]? with
    | some p => if (p.bin : Int) = b then some p else none
    | none => none
  | [], _, _ => rfl
  | q :: P, hs, b => by
    have h2 := List.pairwise_cons.1 hs
    by_cases h : (q.bin : Int) < b
    · have e : known (q :: P) b = known P b := by
        unfold known
        rw [List.find?_cons_of_neg (by simp; omega)]
      rw [e, known_pos h2.2 b, show posP (q :: P) b = posP P b + 1 by simp [posP, h], List.getElem?_cons_succ]
    · rw [show posP (q :: P) b = 0 by simp [posP, h], List.getElem?_cons_zero]
      simp only
      by_cases hb : (q.bin : Int) = b
      · rw [if_pos hb]
        unfold known
        rw [List.find?_cons_of_pos (by simpa using hb)]
      · rw [if_neg hb]
        unfold known
        rw [List.find?_cons_of_neg (by simpa using hb), List.find?_eq_none]
        intro x hx
        have := h2.1 x hx
        simp; omega
theorem put_sort : ∀ {P : List Pc} {p : Pc}, Srt P → (∀ q ∈ P, (q.bin : Int) ≠ p.bin) → Srt (putP P p)
  | [], _, _, _ => List.pairwise_singleton ..
  | q :: P, p, hs, hn => by
    have h2 := List.pairwise_cons.1 hs
    unfold putP
    have hq := hn q (List.mem_cons_self ..)
    by_cases h : q.bin < p.bin
    · rw [if_pos h]
      refine List.pairwise_cons.2 ⟨fun x hx => ?_, put_sort h2.2 fun y hy => hn y (List.mem_cons_of_mem _ hy)⟩
      rcases mem_put.1 hx with rfl | hx
      · exact h
      · exact h2.1 x hx
    · rw [if_neg h]
      refine List.pairwise_cons.2 ⟨fun x hx => ?_, hs⟩
      rcases List.mem_cons.1 hx with rfl | hx
      · omega
      · have := h2.1 x hx; omega
def delP (P : List Pc) (b : Int) : List Pc := P.filter fun p => decide ((p.bin : Int) ≠ b)
theorem del_pos : ∀ {P : List Pc} (_ : Srt P) {b : Int} {p : Pc}, known P b = some p → delP P b = P.take (posP P b) ++ P.drop (posP P b + 1) ∧ P[posP P b]? = some p
  | [], _, _, _, h => by cases h
  | q :: P, hs, b, p, h => by
    have h2 := List.pairwise_cons.1 hs
    by_cases hq : (q.bin : Int) < b
    · have e : known (q :: P) b = known P b := by
        unfold known
        rw [List.find?_cons_of_neg (by simp; omega)]
      rw [e] at h
      obtain ⟨i1, i2⟩ := del_pos h2.2 h
      rw [show posP (q :: P) b = posP P b + 1 by simp [posP, hq]]
      refine ⟨?_, by rw [List.getElem?_cons_succ]; exact i2⟩
      rw [List.take_succ_cons, List.drop_succ_cons, List.cons_append, ← i1]
      unfold delP
      rw [List.filter_cons_of_pos (by simp; omega)]
    · have e := known_pos hs b
      rw [show posP (q :: P) b = 0 by simp [posP, hq], List.getElem?_cons_zero, h] at e
      simp only at e
      by_cases hb : (q.bin : Int) = b
      · rw [if_pos hb, Option.some.injEq] at e
        subst e
        rw [show posP (p :: P) b = 0 by simp [posP, hq]]
        refine ⟨?_, rfl⟩
        unfold delP
        rw [List.filter_cons_of_neg (by simpa using hb), List.filter_eq_self.2]
        · rfl
        · intro x hx
          have := h2.1 x hx
          simp; omega
      · rw [if_neg hb] at e; cases e
def chunks (b : List UInt8) (n : Nat) : List (List UInt8) := (List.range n).map fun i => (b.drop (128 * i)).take 128
def wrS : Dk → Int → List (List UInt8) → Dk × Int
  | D, _, [] => (D, 0)
  | D, a, c :: cs => if D.wrE a c ≠ 0 then (D.wr a c, D.wrE a c) else wrS (D.wr a c) (a + 1) cs
def rdE (D : Dk) (a : Int) (n : Nat) : Int := (((List.range n).map fun j : Nat => D.pow (a + (j : Int))).find? fun e => decide (e ≠ 0)).getD 0
def rdB (D : Dk) (a : Int) (n : Nat) : List UInt8 := (List.range n).flatMap fun j : Nat => D.rd (a + (j : Int))
def takeN (S : Shf) (n : Nat) : Shf := { S with T := takeT S.f S.T S.R n, R := (takeV S.R n).2.2 }
def giveN (S : Shf) (x n : Int) : Shf := { S with T := (giveT S.f S.T x n).2, R := (giveV S.f (S.f + S.T.length) S.R x n).2 }
def claimN (S : Shf) (x n : Int) : Shf := { S with T := (claimT S.f S.T x n).2, R := (claimV S.f (S.f + S.T.length) S.R x n).2 }
abbrev Tri := Int × Int × Int
def sealV (S : Shf) (id : Nat) (L : Ch) : Tri × Int × Shf :=
  if S.D.down = true then ((0, 0, 0), 7, S) else if L = [] then ((0, 0, 0), 2, S) else if (known S.P id).isSome = true then ((0, 0, 0), 10, S) else
  let n := (imgL id L).length / 128
  let a := (takeV S.R n).1
  if (takeV S.R n).2.1 ≠ 0 then ((0, 0, 0), (takeV S.R n).2.1, takeN S n) else
  let w := wrS S.D a (chunks (imgL id L) n)
  if w.2 ≠ 0 then ((0, 0, 0), w.2, { giveN (takeN S n) a n with D := w.1 }) else
  (((id : Int), a, (n : Int)), 0, { takeN S n with D := w.1, P := putP S.P ⟨id, a.toNat, n⟩ })
def claimS (S : Shf) (b x n : Int) : Int × Shf :=
  if b < 0 ∨ 4096 ≤ b ∨ n < 2 ∨ 64 < n then (2, S) else if (known S.P b).isSome = true then (10, S) else
  if (claimV S.f (S.f + S.T.length) S.R x n).1 ≠ 0 then ((claimV S.f (S.f + S.T.length) S.R x n).1, claimN S x n) else
  (0, { claimN S x n with P := putP S.P ⟨b.toNat, x.toNat, n.toNat⟩ })
def freeS (S : Shf) (b : Int) : Int × Shf := match known S.P b with
  | none => (9, S)
  | some p => (0, { giveN S p.pos p.n with P := delP S.P b })
abbrev Par := Nat × Nat × List Sl
def wholeV (S : Shf) (b : Int) : Int × List UInt8 × Par := match known S.P b with
  | none => (9, [], 0, 0, [])
  | some p => if rdE S.D p.pos p.n ≠ 0 then (rdE S.D p.pos p.n, [], 0, 0, []) else
    if (parseL (rdB S.D p.pos p.n)).1 ≠ 0 ∨ ((parseL (rdB S.D p.pos p.n)).2.1 : Int) ≠ b then (13, [], 0, 0, []) else (0, rdB S.D p.pos p.n, (parseL (rdB S.D p.pos p.n)).2)
def chunkV (S : Shf) (b i : Int) : Int × List UInt8 :=
  if (wholeV S b).1 ≠ 0 then ((wholeV S b).1, []) else
  if i < 0 ∨ ((wholeV S b).2.2.2.2.length : Int) ≤ i then (9, []) else match (wholeV S b).2.2.2.2[i.toNat]? with
  | none => (9, [])
  | some s => if (chunkL (wholeV S b).2.1 s).1 ≠ 0 then (13, []) else (0, (chunkL (wholeV S b).2.1 s).2)
def freshN (P : List Pc) : Int := match (List.range 4096).find? fun n : Nat => (known P (n : Int)).isNone with
  | some n => n
  | none => -1
def usedN (P : List Pc) : Nat := P.foldl (fun a p => a + p.n) 0
structure Inv (S : Shf) : Prop where
  rel : Rel S.f S.T S.R
  le : S.f + S.T.length ≤ 4096
  sort : Srt S.P
  pc : ∀ p ∈ S.P, p.bin < 4096 ∧ 2 ≤ p.n ∧ p.n ≤ 64 ∧ S.f ≤ p.pos ∧ p.pos + p.n ≤ S.f + S.T.length
  free : ∀ p ∈ S.P, ∀ x, p.has x → ¬ In S.R x
  apart : ∀ p ∈ S.P, ∀ q ∈ S.P, p.bin ≠ q.bin → ∀ x, p.has x → ¬ q.has x
theorem Inv.xok {S : Shf} (h : Inv S) : XOk S.f (S.f + S.T.length) S.R := rel_ok h.rel h.le
theorem take_ok {S : Shf} (h : Inv S) {n : Nat} (hn : 1 ≤ n) (h0 : (takeV S.R n).2.1 = 0) : ∃ a : Nat, (takeV S.R n).1 = (a : Int) ∧ S.f ≤ a ∧ a + n ≤ S.f + S.T.length ∧ (∀ x, a ≤ x → x < a + n → In S.R x) ∧ ∀ x, In (takeV S.R n).2.2 x ↔ In S.R x ∧ ¬ (a ≤ x ∧ x < a + n) := by
  unfold takeV at h0 ⊢
  rw [if_neg (by omega)] at h0 ⊢
  cases ho : takeO S.R n with
  | none => rw [ho] at h0; cases h0
  | some i =>
    obtain ⟨hi, hb, _⟩ := List.findIdx?_eq_some_iff_getElem.1 ho
    have hx : S.R[i]? = some S.R[i] := List.getElem?_eq_getElem hi
    have eg : S.R.getD i (0, 0) = S.R[i] := by rw [List.getD_eq_getElem?_getD, hx]; rfl
    have hn' : n ≤ S.R[i].2 := by
      have : (n : Int) ≤ (S.R[i].2 : Int) := by simpa using hb
      omega
    have hm := h.rel.canon.mem (List.getElem_mem hi)
    have ht := h.rel.top (List.getElem_mem hi)
    simp only [eg]
    exact ⟨S.R[i].1, rfl, hm.1, by omega, fun x h1 h2 => ⟨_, List.getElem_mem hi, h1, by omega⟩, cut_in h.rel.canon hx (Nat.le_refl _) (by omega)⟩
theorem take_no {R : List Rn} {n : Nat} (hn : 1 ≤ n) (h0 : (takeV R n).2.1 ≠ 0) : (takeV R n).2.1 = 8 := by
  unfold takeV at h0 ⊢
  rw [if_neg (by omega)] at h0 ⊢
  cases ho : takeO R n with
  | none => rfl
  | some i => rw [ho] at h0; exact absurd rfl h0
theorem take_sub {R : List Rn} {n : Nat} {f : Nat} {T : List Bool} (h : Rel f T R) {x : Nat} (hx : In (takeV R n).2.2 x) : In R x := by
  unfold takeV at hx
  split at hx
  · exact hx
  · split at hx
    · rename_i i ho
      obtain ⟨hi, hb, _⟩ := List.findIdx?_eq_some_iff_getElem.1 ho
      have hxi : R[i]? = some R[i] := List.getElem?_eq_getElem hi
      have eg : R.getD i (0, 0) = R[i] := by rw [List.getD_eq_getElem?_getD, hxi]; rfl
      have hn' : (n : Int) ≤ (R[i].2 : Int) := by simpa using hb
      simp only [eg] at hx
      exact ((cut_in h.canon hxi (Nat.le_refl _) (by omega) x).1 hx).1
    · exact hx
theorem Inv.take {S : Shf} (h : Inv S) (n : Nat) : Inv (takeN S n) := by
  obtain ⟨r1, r2⟩ := rel_take h.rel n
  refine ⟨r1, by simp only [takeN]; rw [r2]; exact h.le, h.sort, fun p hp => ?_, fun p hp x hx hi => h.free p hp x hx (take_sub h.rel hi), h.apart⟩
  simp only [takeN]
  rw [r2]
  exact h.pc p hp
theorem give_sub {f t : Nat} {R : List Rn} {x n : Int} {y : Nat} (hy : In (giveV f t R x n).2 y) : In R y ∨ (x ≤ (y : Int) ∧ (y : Int) < x + n) := by
  unfold giveV at hy
  split at hy
  · exact .inl hy
  · rename_i hw
    obtain ⟨w1, w2, w3, w4⟩ := wI_of (by simpa using hw : wI f t x n = true)
    split at hy
    · exact .inl hy
    · rcases (give_in R _ _ y).1 hy with h | h
      · exact .inl h
      · right; omega
theorem Inv.give {S : Shf} (h : Inv S) {x n : Int} (hd : ∀ p ∈ S.P, ∀ y : Nat, p.has y → ¬ (x ≤ (y : Int) ∧ (y : Int) < x + n)) : Inv (giveN S x n) := by
  obtain ⟨r1, r2, _⟩ := rel_giveV h.rel x n
  refine ⟨r1, by simp only [giveN]; rw [r2]; exact h.le, h.sort, fun p hp => ?_, fun p hp y hy hi => ?_, h.apart⟩
  · simp only [giveN]
    rw [r2]
    exact h.pc p hp
  · rcases give_sub hi with h' | h'
    · exact h.free p hp y hy h'
    · exact hd p hp y hy h'
theorem Inv.claim {S : Shf} (h : Inv S) (x n : Int) : Inv (claimN S x n) := by
  obtain ⟨r1, r2, _⟩ := rel_claim h.rel x n
  refine ⟨r1, by simp only [claimN]; rw [r2]; exact h.le, h.sort, fun p hp => ?_, fun p hp y hy hi => h.free p hp y hy ?_, h.apart⟩
  · simp only [claimN]
    rw [r2]
    exact h.pc p hp
  · simp only [claimN] at hi
    unfold claimV at hi
    split at hi
    · exact hi
    · split at hi
      · rename_i hw _ i ho
        obtain ⟨w1, w2, w3, w4⟩ := wI_of (by simpa using hw : wI S.f (S.f + S.T.length) x n = true)
        obtain ⟨hi1, hb, _⟩ := List.findIdx?_eq_some_iff_getElem.1 ho
        simp only [Bool.and_eq_true, decide_eq_true_eq] at hb
        exact ((cut_in h.rel.canon (List.getElem?_eq_getElem hi1) (by omega) (by omega) y).1 hi).1
      · exact hi
theorem Inv.dk {S : Shf} (h : Inv S) (D : Dk) : Inv { S with D := D } := ⟨h.rel, h.le, h.sort, h.pc, h.free, h.apart⟩
theorem Inv.put {S : Shf} (h : Inv S) {p : Pc} (hn : ∀ q ∈ S.P, (q.bin : Int) ≠ p.bin) (hp : p.bin < 4096 ∧ 2 ≤ p.n ∧ p.n ≤ 64 ∧ S.f ≤ p.pos ∧ p.pos + p.n ≤ S.f + S.T.length) (hf : ∀ x, p.has x → ¬ In S.R x) (ha : ∀ q ∈ S.P, ∀ x, p.has x → ¬ q.has x) : Inv { S with P := putP S.P p } := by
  refine ⟨h.rel, h.le, put_sort h.sort hn, fun q hq => ?_, fun q hq => ?_, ?_⟩
  · rcases mem_put.1 hq with rfl | hq
    · exact hp
    · exact h.pc q hq
  · rcases mem_put.1 hq with rfl | hq
    · exact hf
    · exact h.free q hq
  · intro a ha1 b hb1 hne x hxa hxb
    rcases mem_put.1 ha1 with rfl | ha2
    · rcases mem_put.1 hb1 with rfl | hb2
      · exact hne rfl
      · exact ha b hb2 x hxa hxb
    · rcases mem_put.1 hb1 with rfl | hb2
      · exact ha a ha2 x hxb hxa
      · exact h.apart a ha2 b hb2 hne x hxa hxb
theorem claim_ok {S : Shf} (h : Inv S) {x n : Int} (h0 : (claimV S.f (S.f + S.T.length) S.R x n).1 = 0) : 1 ≤ n ∧ (S.f : Int) ≤ x ∧ x + n ≤ ((S.f + S.T.length : Nat) : Int) ∧ (∀ y : Nat, x ≤ (y : Int) → (y : Int) < x + n → In S.R y) ∧ ∀ y : Nat, In (claimV S.f (S.f + S.T.length) S.R x n).2 y ↔ In S.R y ∧ ¬ (x ≤ (y : Int) ∧ (y : Int) < x + n) := by
  unfold claimV at h0 ⊢
  split at h0
  · cases h0
  · rename_i hw
    rw [if_neg hw]
    obtain ⟨w1, w2, w3, w4⟩ := wI_of (by simpa using hw : wI S.f (S.f + S.T.length) x n = true)
    split at h0
    · rename_i i ho
      obtain ⟨hi1, hb, _⟩ := List.findIdx?_eq_some_iff_getElem.1 ho
      simp only [Bool.and_eq_true, decide_eq_true_eq] at hb
      refine ⟨w1, w2, by omega, fun y h1 h2 => ⟨_, List.getElem_mem hi1, by omega, by omega⟩, fun y => ?_⟩
      have := cut_in h.rel.canon (List.getElem?_eq_getElem hi1) (b := x.toNat) (k := n.toNat) (by omega) (by omega) y
      rw [this]
      constructor <;> rintro ⟨a, b⟩ <;> exact ⟨a, by omega⟩
    · cases h0
theorem Inv.free' {S : Shf} (h : Inv S) (b : Int) : Inv (freeS S b).2 := by
  unfold freeS
  cases hk : known S.P b with
  | none => exact h
  | some p =>
    obtain ⟨hp, hb⟩ := known_some hk
    have hq : ∀ q ∈ delP S.P b, q ∈ S.P ∧ ∀ y, q.has y → ¬ p.has y := fun q hq => by
      obtain ⟨h1, h2⟩ := List.mem_filter.1 hq
      refine ⟨h1, fun y hy hpy => ?_⟩
      have hne : q.bin ≠ p.bin := fun e => by simp [e, hb] at h2
      exact h.apart q h1 p hp hne y hy hpy
    have h0 : Inv { S with P := delP S.P b } := ⟨h.rel, h.le, h.sort.filter _, fun q hq' => h.pc q (hq q hq').1, fun q hq' => h.free q (hq q hq').1, fun q hq' r hr' => h.apart q (hq q hq').1 r (hq r hr').1⟩
    have := h0.give (x := p.pos) (n := p.n) fun q hq' y hy hpy => (hq q hq').2 y hy ⟨by omega, by omega⟩
    exact this
theorem Inv.claimS {S : Shf} (h : Inv S) (b x n : Int) : Inv (claimS S b x n).2 := by
  unfold Bn.claimS
  split
  · exact h
  rename_i h1
  split
  · exact h
  rename_i h2
  split
  · exact h.claim x n
  rename_i h3
  obtain ⟨c1, c2, c3, c4, c5⟩ := claim_ok h (by simpa using h3)
  have hk : known S.P b = none := by simpa using h2
  obtain ⟨r1, r2, _⟩ := rel_claim h.rel x n
  refine (h.claim x n).put (p := ⟨b.toNat, x.toNat, n.toNat⟩) (fun q hq => ?_) ?_ (fun y hy => ?_) fun q hq y hy hq' => ?_
  · have := known_none hk q hq
    simp only; omega
  · simp only [claimN]
    rw [r2]
    omega
  · simp only [Pc.has] at hy
    simp only [claimN]
    rw [c5 y]
    omega
  · simp only [Pc.has] at hy
    exact h.free q hq y hq' (c4 y (by omega) (by omega))
theorem img_n {id wd : Nat} {L : Ch} (hp : POk id wd L) (hL : L ≠ []) : 2 ≤ (imgL id L).length / 128 ∧ (imgL id L).length / 128 ≤ 64 ∧ (imgL id L).length / 128 * 128 = (imgL id L).length := by
  obtain ⟨h1, h2, h3⟩ := img_len id L
  have h4 := hp.fit
  have h5 := hp.hi
  have h6 : 1 ≤ L.length := by
    cases L with
    | nil => exact absurd rfl hL
    | cons => simp
  omega
theorem Inv.sealS {S : Shf} (h : Inv S) {id wd : Nat} {L : Ch} (hp : POk id wd L) : Inv (sealV S id L).2.2 := by
  unfold sealV
  split
  · exact h
  split
  · exact h
  rename_i hL
  obtain ⟨n1, n2, n3⟩ := img_n hp hL
  split
  · exact h
  rename_i hk
  have hk' : known S.P id = none := by simpa using hk
  dsimp only
  generalize (imgL id L).length / 128 = n at n1 n2 n3
  split
  · exact h.take n
  rename_i h0
  obtain ⟨a, a1, a2, a3, a4, a5⟩ := take_ok h (n := n) (by omega) (by simpa using h0)
  obtain ⟨r1, r2⟩ := rel_take h.rel (n := n)
  rw [a1]
  split
  · refine ((h.take n).give (x := a) (n := n) fun q hq y hy hh => ?_).dk _
    exact h.free q hq y hy (a4 y (by omega) (by omega))
  · refine ((h.take n).put (p := ⟨id, a, n⟩) (fun q hq => ?_) ?_ (fun y hy => ?_) fun q hq y hy hq' => ?_).dk _
    · exact known_none hk' q hq
    · simp only [takeN]
      rw [r2]
      exact ⟨hp.idl, n1, n2, a2, a3⟩
    · simp only [takeN]
      rw [a5 y]
      exact fun h' => h'.2 hy
    · exact h.free q hq y hq' (a4 y hy.1 hy.2)
end Go.Proofs.YtmbfmkiagdhcoaaGreat.Bn
end
section
namespace Go.Proofs.YtmbfmkiagdhcoaaGreat.Bn
open Go Go.SL Go.Proofs Go.Proofs.YtmbfmkiagdhcoaaGreat.Sh Go.Proofs.YtmbfmkiagdhcoaaGreat.Oct Go.Proofs.YtmbfmkiagdhcoaaGreat.Disk Go.Proofs.YtmbfmkiagdhcoaaGreat.Slot Go.Proofs.YtmbfmkiagdhcoaaGreat.Pk Go.Proofs.YtmbfmkiagdhcoaaGreat.Ext
def nowAt (D : Dk) (y : Nat) : Option (List UInt8) := (D.S[y]?).map Sec.now
structure Fit (D : Dk) : Prop where
  dn : D.down = false
  tr : D.trip = 0
theorem wr_fit {D : Dk} (h : Fit D) {y : Nat} (hy : y < D.S.length) {c : List UInt8} (hc : c.length = 128) : D.wrE y c = 0 ∧ Fit (D.wr y c) ∧ (D.wr y c).S.length = D.S.length ∧ nowAt (D.wr y c) y = some c ∧ ∀ z, z ≠ y → (D.wr y c).S[z]? = D.S[z]? := by
  have hp : D.pow y = 0 := by
    unfold Dk.pow
    rw [if_neg (by rw [h.dn]; decide), if_neg (by unfold Dk.out; omega)]
  have hs : D.S[y]? = some D.S[y] := List.getElem?_eq_getElem hy
  have e : D.wr y c = D.tick.setS y fun s => { s with last := some (pad c) } := by
    unfold Dk.wr
    rw [if_neg (by rw [hp]; decide), if_neg (by omega), if_neg (by rw [h.tr]; decide), Int.toNat_natCast]
  have hpad : pad c = c := by simp [pad, hc]
  refine ⟨by unfold Dk.wrE; rw [if_neg (by rw [hp]; decide), if_neg (by omega), if_neg (by rw [h.tr]; decide)], ⟨by rw [e]; exact h.dn, by rw [e]; simp only [Dk.setS, Dk.tick, h.tr]; decide⟩, by rw [e]; simp [Dk.setS, Dk.tick], ?_, fun z hz => ?_⟩
  · rw [e]
    unfold nowAt
    simp [Dk.setS, Dk.tick, List.getElem?_modify, hs, Sec.now, hpad]
  · rw [e]
    simp only [Dk.setS, Dk.tick]
    rw [List.getElem?_modify_ne _ _ (Ne.symm hz)]
theorem wrS_fit : ∀ (cs : List (List UInt8)) {D : Dk} (_ : Fit D) {a : Nat} (_ : a + cs.length ≤ D.S.length) (_ : ∀ c ∈ cs, c.length = 128),
    (wrS D a cs).2 = 0 ∧ Fit (wrS D a cs).1 ∧ (wrS D a cs).1.S.length = D.S.length ∧ (∀ j c, cs[j]? = some c → nowAt (wrS D a cs).1 (a + j) = some c) ∧ ∀ z, (z < a ∨ a + cs.length ≤ z) → (wrS D a cs).1.S[z]? = D.S[z]?
  | [], D, h, a, _, _ => ⟨rfl, h, rfl, fun j c hj => by simp at hj, fun _ _ => rfl⟩
  | c :: cs, D, h, a, hl, hc => by
    rw [List.length_cons] at hl
    obtain ⟨w1, w2, w3, w4, w5⟩ := wr_fit h (y := a) (by omega) (hc c (List.mem_cons_self ..))
    obtain ⟨i1, i2, i3, i4, i5⟩ := wrS_fit cs w2 (a := a + 1) (by omega) fun x hx => hc x (List.mem_cons_of_mem _ hx)
    have e : wrS D a (c :: cs) = wrS (D.wr a c) ((a + 1 : Nat) : Int) cs := by
      rw [wrS, if_neg (by rw [w1]; decide)]; rfl
    rw [e]
    refine ⟨i1, i2, i3.trans w3, fun j d hj => ?_, fun z hz => ?_⟩
    · cases j with
      | zero =>
        simp only [List.getElem?_cons_zero, Option.some.injEq] at hj
        subst hj
        rw [← w4]
        unfold nowAt
        rw [i5 (a + 0) (by omega)]
        rfl
      | succ j =>
        rw [show a + (j + 1) = a + 1 + j by omega]
        exact i4 j d (by simpa using hj)
    · rw [i5 z (by rw [List.length_cons] at hz; omega), w5 z (by rw [List.length_cons] at hz; omega)]
def Lies (D : Dk) (a n : Nat) (b : List UInt8) : Prop := ∀ j, j < n → nowAt D (a + j) = some ((b.drop (128 * j)).take 128)
theorem chunk_flat (b : List UInt8) : ∀ n, b.length = 128 * n → (List.range n).flatMap (fun j => (b.drop (128 * j)).take 128) = b := fun n h => by
  have key : ∀ k, k ≤ n → (List.range k).flatMap (fun j => (b.drop (128 * j)).take 128) = b.take (128 * k) := fun k => by
    induction k with
    | zero => intro; simp
    | succ k ih =>
      intro hk
      rw [List.range_succ, List.flatMap_append, ih (by omega), show 128 * (k + 1) = 128 * k + 128 by omega, List.take_add]
      simp
  rw [key n (Nat.le_refl _), ← h, List.take_length]
theorem lies_rd {D : Dk} (h : Fit D) {a n : Nat} {b : List UInt8} (hl : Lies D a n b) (hb : b.length = 128 * n) : rdE D a n = 0 ∧ rdB D a n = b := by
  have hp : ∀ j, j < n → D.pow ((a : Int) + (j : Int)) = 0 ∧ D.rd ((a : Int) + (j : Int)) = (b.drop (128 * j)).take 128 := fun j hj => by
    have := hl j hj
    unfold nowAt at this
    obtain ⟨s, hs, he⟩ := Option.map_eq_some_iff.1 this
    have hlt := (List.getElem?_eq_some_iff.1 hs).1
    have hp : D.pow ((a : Int) + (j : Int)) = 0 := by
      unfold Dk.pow
      rw [if_neg (by rw [h.dn]; decide), if_neg (by unfold Dk.out; omega)]
    refine ⟨hp, ?_⟩
    unfold Dk.rd
    rw [if_neg (by rw [hp]; decide), show ((a : Int) + (j : Int)).toNat = a + j by omega, hs]
    exact he
  refine ⟨?_, ?_⟩
  · unfold rdE
    rw [List.find?_eq_none.2]
    · rfl
    · intro x hx
      obtain ⟨j, hj, rfl⟩ := List.mem_map.1 hx
      rw [(hp j (List.mem_range.1 hj)).1]; simp
  · have e : (List.range n).flatMap (fun j : Nat => D.rd ((a : Int) + (j : Int))) = (List.range n).flatMap fun j => (b.drop (128 * j)).take 128 := by
      rw [List.flatMap_def, List.flatMap_def, List.map_congr_left fun j hj => (hp j (List.mem_range.1 hj)).2]
    unfold rdB
    rw [e, chunk_flat b n hb]
theorem known_put_ne : ∀ {P : List Pc} {q : Pc} {b : Int}, (q.bin : Int) ≠ b → known (putP P q) b = known P b
  | [], q, b, h => by
    unfold putP known
    rw [List.find?_cons_of_neg (by simpa using h)]
  | x :: P, q, b, h => by
    have ih := known_put_ne (P := P) h
    unfold known at ih
    unfold putP known
    split
    · by_cases hx : (x.bin : Int) = b
      · rw [List.find?_cons_of_pos (by simpa using hx), List.find?_cons_of_pos (by simpa using hx)]
      · rw [List.find?_cons_of_neg (by simpa using hx), List.find?_cons_of_neg (by simpa using hx), ih]
    · rw [List.find?_cons_of_neg (by simpa using h)]
theorem known_put_eq : ∀ {P : List Pc} {q : Pc}, known P q.bin = none → known (putP P q) q.bin = some q
  | [], q, h => by
    unfold putP known
    rw [List.find?_cons_of_pos (by simp)]
  | x :: P, q, h => by
    have hx := known_none h x (List.mem_cons_self ..)
    have h' : known P q.bin = none := by
      unfold known at h ⊢
      rw [List.find?_cons_of_neg (by simpa using hx)] at h
      exact h
    have ih := known_put_eq h'
    unfold known at ih
    unfold putP known
    split
    · rw [List.find?_cons_of_neg (by simpa using hx), ih]
    · rw [List.find?_cons_of_pos (by simp)]
theorem known_del_ne : ∀ {P : List Pc} {c b : Int}, c ≠ b → known (delP P c) b = known P b
  | [], _, _, _ => rfl
  | x :: P, c, b, h => by
    have ih := known_del_ne (P := P) h
    unfold known delP at ih
    unfold known delP
    by_cases hc : (x.bin : Int) = c
    · rw [List.filter_cons_of_neg (by simpa using hc), ih, List.find?_cons_of_neg (by simp; omega)]
    · rw [List.filter_cons_of_pos (by simpa using hc)]
      by_cases hx : (x.bin : Int) = b
      · rw [List.find?_cons_of_pos (by simpa using hx), List.find?_cons_of_pos (by simpa using hx)]
      · rw [List.find?_cons_of_neg (by simpa using hx), List.find?_cons_of_neg (by simpa using hx), ih]
def Keep (S : Shf) (b : Int) (img : List UInt8) : Prop := ∃ p, known S.P b = some p ∧ img.length = 128 * p.n ∧ Lies S.D p.pos p.n img
structure Good (S : Shf) : Prop where
  inv : Inv S
  fit : Fit S.D
  room : S.f + S.T.length ≤ S.D.S.length
theorem take_len {S : Shf} (n : Nat) (h : Inv S) : (takeN S n).f + (takeN S n).T.length = S.f + S.T.length := by
  simp only [takeN]
  rw [(rel_take h.rel n).2]
theorem chunks_len (b : List UInt8) (n : Nat) : (chunks b n).length = n := by simp [chunks]
theorem chunks_at {b : List UInt8} {n j : Nat} (h : j < n) : (chunks b n)[j]? = some ((b.drop (128 * j)).take 128) := by simp [chunks, h]
theorem chunks_128 {b : List UInt8} {n : Nat} (h : b.length = 128 * n) : ∀ c ∈ chunks b n, c.length = 128 := fun c hc => by
  obtain ⟨j, hj, rfl⟩ := List.mem_map.1 hc
  have := List.mem_range.1 hj
  rw [List.length_take, List.length_drop]; omega
theorem good_seal {S : Shf} (h : Good S) {id wd : Nat} {L : Ch} (hp : POk id wd L) : Good (sealV S id L).2.2 ∧
    (∀ b img, Keep S b img → Keep (sealV S id L).2.2 b img) ∧
    ((sealV S id L).2.1 = 0 → Keep (sealV S id L).2.2 id (imgL id L) ∧ ∃ a n : Nat, (sealV S id L).1 = ((id : Int), (a : Int), (n : Int)) ∧ 2 ≤ n ∧ n ≤ 64 ∧ a + n ≤ S.D.S.length ∧ (imgL id L).length = 128 * n ∧ Lies (sealV S id L).2.2.D a n (imgL id L)) ∧
    ((sealV S id L).2.1 ≠ 0 → L = [] ∨ (sealV S id L).2.1 = 8 ∨ (known S.P id).isSome = true) := by
  have hinv := h.inv.sealS hp
  unfold sealV at hinv ⊢
  rw [if_neg (by rw [h.fit.dn]; decide)] at hinv ⊢
  by_cases hL : L = []
  · rw [if_pos hL]
    exact ⟨h, fun _ _ hk => hk, fun h0 => absurd (show (2 : Int) = 0 from h0) (by decide), fun _ => .inl hL⟩
  rw [if_neg hL] at hinv ⊢
  by_cases hk : (known S.P id).isSome = true
  · rw [if_pos hk]
    exact ⟨h, fun _ _ hk => hk, fun h0 => absurd (show (10 : Int) = 0 from h0) (by decide), fun _ => .inr (.inr hk)⟩
  rw [if_neg hk] at hinv ⊢
  have hk' : known S.P id = none := by simpa using hk
  obtain ⟨n1, n2, n3⟩ := img_n hp hL
  dsimp only at hinv ⊢
  generalize (imgL id L).length / 128 = n at n1 n2 n3 hinv ⊢
  by_cases h0 : (takeV S.R n).2.1 ≠ 0
  · rw [if_pos h0] at hinv ⊢
    refine ⟨⟨hinv, h.fit, by rw [take_len n h.inv]; exact h.room⟩, fun _ _ hk => hk, fun h1 => absurd h1 h0, fun _ => .inr (.inl (take_no (by omega) h0))⟩
  rw [if_neg h0] at hinv ⊢
  obtain ⟨a, a1, a2, a3, a4, a5⟩ := take_ok h.inv (n := n) (by omega) (by simpa using h0)
  rw [a1] at hinv ⊢
  have hroom := h.room
  obtain ⟨w1, w2, w3, w4, w5⟩ := wrS_fit (chunks (imgL id L) n) h.fit (a := a) (by rw [chunks_len]; omega) (chunks_128 (by omega))
  rw [if_neg (by rw [w1]; decide)] at hinv ⊢
  have hlies : Lies (wrS S.D a (chunks (imgL id L) n)).1 a n (imgL id L) := fun j hj => w4 j _ (chunks_at hj)
  refine ⟨⟨hinv, w2, ?_⟩, fun b img ⟨p, k1, k2, k3⟩ => ⟨p, ?_, k2, fun j hj => ?_⟩, fun _ => ⟨⟨⟨id, a, n⟩, ?_, by simp only; omega, hlies⟩, a, n, rfl, n1, n2, by omega, by omega, hlies⟩, fun h1 => absurd rfl h1⟩
  · simp only
    rw [w3, take_len n h.inv]
    exact h.room
  · have hne : (id : Int) ≠ b := fun e => by subst e; rw [hk'] at k1; cases k1
    simp only
    rw [known_put_ne (by simpa using hne)]
    exact k1
  · have hpm := (known_some k1).1
    have hout : p.pos + j < a ∨ a + (chunks (imgL id L) n).length ≤ p.pos + j := by
      rw [chunks_len]
      by_cases h2 : p.pos + j < a
      · exact .inl h2
      by_cases h3 : a + n ≤ p.pos + j
      · exact .inr h3
      · exact absurd (a4 (p.pos + j) (by omega) (by omega)) (h.inv.free p hpm _ ⟨by omega, by omega⟩)
    have := w5 _ hout
    simp only
    unfold nowAt
    rw [this]
    exact k3 j hj
  · simp only [Int.toNat_natCast]
    exact known_put_eq hk'
theorem keep_whole {S : Shf} (hf : Fit S.D) {id wd : Nat} {L : Ch} (hp : POk id wd L) (h : Keep S id (imgL id L)) : wholeV S id = (0, imgL id L, id, (imgL id L).length / 128, slotsL 128 L) := by
  obtain ⟨p, k1, k2, k3⟩ := h
  obtain ⟨r1, r2⟩ := lies_rd hf k3 k2
  unfold wholeV
  rw [k1]
  simp only
  rw [if_neg (by rw [r1]; decide), r2, parse_img hp, if_neg (by simp)]
theorem keep_chunk {S : Shf} (hf : Fit S.D) {id wd : Nat} {L : Ch} (hp : POk id wd L) (h : Keep S id (imgL id L)) {i : Nat} {c : List UInt8} (hc : L[i]? = some c) : chunkV S id i = (0, c) := by
  obtain ⟨s, h1, h2⟩ := chunk_img hp hc
  have hi := (List.getElem?_eq_some_iff.1 hc).1
  unfold chunkV
  rw [keep_whole hf hp h]
  simp only
  rw [if_neg (by decide), if_neg (by rw [slots_len]; omega), Int.toNat_natCast, h1]
  simp only
  rw [h2, if_neg (by simp)]
theorem flush_lies {D : Dk} (h : Fit D) {a n : Nat} {b : List UInt8} (hl : Lies D a n b) : D.flE = 0 ∧ Fit D.fl ∧ D.fl.S.length = D.S.length ∧ Lies D.fl a n b ∧ ∀ s ∈ D.fl.S, s.last = none := by
  have e : D.fl = { D.tick with S := D.S.map Sec.settle } := by
    unfold Dk.fl
    rw [if_neg (by rw [h.dn]; decide), if_neg (by rw [h.tr]; decide)]
  refine ⟨by unfold Dk.flE; rw [if_neg (by rw [h.dn]; decide), if_neg (by rw [h.tr]; decide)], ⟨by rw [e]; exact h.dn, by rw [e]; simp only [Dk.tick, h.tr]; decide⟩, by rw [e]; simp, fun j hj => ?_, fun s hs => ?_⟩
  · have := hl j hj
    rw [e]
    unfold nowAt at this ⊢
    obtain ⟨s, h1, h2⟩ := Option.map_eq_some_iff.1 this
    simp only [List.getElem?_map, h1, Option.map_some]
    rw [← h2]; rfl
  · rw [e] at hs
    obtain ⟨x, _, rfl⟩ := List.mem_map.1 hs
    rfl
theorem crash_lies {D : Dk} {c : Cr} (hn : ∀ s ∈ D.S, s.last = none) {a n : Nat} {b : List UInt8} (hl : Lies D a n b) : Fit (D.crash c) ∧ (D.crash c).S = D.S ∧ Lies (D.crash c) a n b := by
  have e : (D.crash c).S = D.S := by
    have hd : dirtyFrom D.S 0 = [] := by
      rw [List.eq_nil_iff_forall_not_mem]
      intro k hk
      obtain ⟨i, s, _, h2, h3⟩ := mem_dirty.1 hk
      rw [hn s (List.mem_of_getElem? h2)] at h3
      cases h3
    exact (dirty_nil hd).2 _ _
  refine ⟨⟨rfl, rfl⟩, e, fun j hj => ?_⟩
  unfold nowAt
  rw [e]
  exact hl j hj
end Go.Proofs.YtmbfmkiagdhcoaaGreat.Bn
end
section
namespace Go.Proofs.YtmbfmkiagdhcoaaGreat.Pk
open Go Go.SL Go.Proofs Go.Proofs.YtmbfmkiagdhcoaaGreat.Sh Go.Proofs.YtmbfmkiagdhcoaaGreat.Oct Go.Proofs.YtmbfmkiagdhcoaaGreat.Disk Go.Proofs.YtmbfmkiagdhcoaaGreat.Slot
variable {B : World} {H : List Asrt} {K : Value → WT} {W : WT}
theorem E_arrS {P : Program} {t e n : Nat} {v : Value} {l : List UInt8} [hf : Rs B H v cB l] (hu : P.underlying t = some (.array n e)) (hl : l.length = n) (hn : 1 ≤ n) (h : ∀ p [PtA B H p 0 (bcs l)], E B H (K p)) : E B H (V P (Instr.arrayAt t v) K) := by
  refine Ext.E_rsC (hf := hf) (fun _ h0 => by subst h0; simp at hl; omega) fun a cap hv hle => ?_
  refine E_Vok fun w hw => ⟨.pointer (some a), w, ?_, ?_⟩
  · subst hv
    unfold Instr.arrayAt
    rw [run_bind, run_underlying' hu]
    simp only [hl, Nat.lt_irrefl, if_false, run_pure]
  · have : PtA B H (.pointer (some a)) 0 (bcs l) := ⟨a, by simp [Addr.add], fun {w'} hw' j hj => by
      rcases hf.pf hw' with ⟨h0, _, _⟩ | ⟨a', cap', hv', _, hc⟩
      · rw [h0] at hv; cases hv
      · rw [hv] at hv'
        cases hv'
        have := hc j (by rw [bcs_enc]; exact hj)
        rw [bcs_enc] at this
        exact this⟩
    exact h _ w hw
theorem build0 (w : World) : (Instr.build 58 #[]).run Tryz.prog w = .ok (.agg #[I 0, I 0, nil]) w := by kernel_rfl
theorem build2 (i s : Int) (w : World) : (Instr.build 58 #[(0, I i), (1, I s)]).run Tryz.prog w = .ok (.agg #[I i, I s, nil]) w := by kernel_rfl
def parA (b : List UInt8) (v : Value) : Value := .tuple #[.agg #[I (parseL b).2.1, I (parseL b).2.2.1, v], I (parseL b).1]
attribute [local irreducible] S.pick S.ld S.ldN S.st S.box S.nc S.fad S.ixS S.ixA S.chr S.prt S.ext S.bin S.sh S.sbin S.beq S.neg1 S.com1 S.not1 S.cvt S.str1 S.lenS S.len S.cap S.lenM S.mx S.mn S.mkM S.cond S.gd S.fa S.dr S.rck S.join S.loop S.cvv S.eqv S.slc S.slcS S.b2s S.lk V U CF Gives E cel mpb osl ros dct dit itr lpo dfo
theorem E_fail {v2 : Nat} {e : Int} {b : List UInt8} {l : List Value} (hl : l.length = 3) (he : parseL b = (e, 0, 0, [])) (h : ∀ v [CellI v], E B (sls cSl 109 34 v (parseL b).2.2.2 :: H) (K (parA b v))) :
    E B (cel true v2 58 l :: H) (V Tryz.prog (Instr.build 58 #[]) fun v19 => S.st 3 (ptr v2) v19 fun _ => S.ldN 3 (ptr v2) fun v2' => K (.tuple #[v2', I e])) := by
  refine Dig.E_Vr build0 ?_
  refine E_stW (vs := [I 0, I 0, nil]) rfl hl ?_
  refine E_ldNA ?_
  refine sls_nil cSl 34 (T := 109) ?_
  have h' := h nil
  unfold parA at h'
  rw [he] at h'
  exact sm h'
theorem parse_head {b : List UInt8} {e : Int} (h : headE b = e) (h0 : e ≠ 0) : parseL b = (e, 0, 0, []) := by
  unfold parseL
  simp only
  rw [h, if_pos h0]
theorem rows_take (b : List UInt8) (p q : Nat) : ∀ n i, i ≤ n → (rowsL b n p q).take i = rowsL b i p q
  | n, 0, _ => by simp [rowsL]
  | 0, i + 1, h => by omega
  | n + 1, i + 1, h => by rw [rowsL, rowsL, List.take_succ_cons, rows_take b (p + 34) (q + tabE b p) n i (by omega)]
theorem endL_le (q : Nat) : ∀ (l : List Sl), (∀ s ∈ l, s.len ≤ 512) → endL q l ≤ q + 512 * l.length := by
  intro l h
  induction l generalizing q with
  | nil => simp [endL]
  | cons s l ih =>
    have := ih (q + s.len) fun x hx => h x (List.mem_cons_of_mem _ hx)
    have := h s (List.mem_cons_self ..)
    rw [endL_cons, List.length_cons]; omega
theorem okE_iff {l : List Sl} : l.all okE = true ↔ ∀ s ∈ l, 1 ≤ s.len ∧ s.len ≤ 512 := by
  rw [List.all_eq_true]
  simp [okE]
theorem pkparse {v : Value} {b : List UInt8} [hv : Rb B H v b] (hm : b.length ≤ 1000000000) (h : ∀ v [CellI v], E B (sls cSl 109 34 v (parseL b).2.2.2 :: H) (K (parA b v))) : E B H (CF Tryz.prog 36 [v] K) := by
  refine E_mono (W := s36 _ K) ?_ fun _ => c36
  unfold s36
  refine E_box (v := .agg #[I 0, I 0, nil]) (vs := [I 0, I 0, nil]) fun v2 => ?_
  refine headed (v := v) (b := b) hm ?_
  refine E_neq ?_
  refine E_if (fun hc => ?_) (fun hc => ?_)
  · exact E_fail rfl (parse_head rfl hc) h
  have hc : headE b = 0 := by simpa using hc
  obtain ⟨d1, d2, d3, d4⟩ := headE_0 hc
  refine numbers (v := v) (b := b) d1 hm ?_
  refine E_box (v := .agg #[I 0, I 0, I 0, I 0]) (vs := [I 0, I 0, I 0, I 0]) fun v5 => ?_
  refine E_stW (vs := nI (nums b)) (by rfl) (by rfl) ?_
  have g0 : (nI (nums b))[0]? = some (I (hdN b 4 4 : Nat)) := rfl
  have g1 : (nI (nums b))[1]? = some (I (hdN b 8 2 : Nat)) := rfl
  have g2 : (nI (nums b))[2]? = some (I (hdN b 10 4 : Nat)) := rfl
  have g3 : (nI (nums b))[3]? = some (I (hdN b 14 4 : Nat)) := rfl
  have hpe : parseL b = let l := rowsL b (hdN b 8 2) (128 + hdN b 10 4) 128
      if ((crcS ((b.drop (128 + hdN b 10 4)).take (34 * hdN b 8 2))).toNat : Nat) ≠ hdN b 14 4 then (5, 0, 0, []) else
      if l.all okE = false then (2, 0, 0, []) else if endL 128 l ≠ 128 + hdN b 10 4 then (4, 0, 0, []) else (0, hdN b 4 4, (128 + hdN b 10 4 + 34 * hdN b 8 2 + 127) / 128, l) := by
    unfold parseL
    simp only
    rw [if_neg (by rw [hc]; decide)]
  dsimp only at hpe
  generalize hid : hdN b 4 4 = id at g0 hpe d2
  generalize hn : hdN b 8 2 = n at g1 hpe d3 d4
  generalize hs : hdN b 10 4 = sz at g2 hpe d4
  generalize hcc : hdN b 14 4 = cc at g3 hpe
  generalize nI (nums b) = ns at g0 g1 g2 g3 ⊢
  refine Dig.E_wdA (n := 2) (by omega) ?_
  refine E_ld' g2 ?_
  refine E_addI (by omega) (by omega) ?_
  refine Dig.E_wdA (n := 1) (by omega) ?_
  refine E_ld' g1 ?_
  refine E_mulI (by omega) (by omega) ?_
  refine E_addI (by omega) (by omega) ?_
  have ef : (128 : Int) + (sz : Int) = ((128 + sz : Nat) : Int) := by omega
  rw [ef]
  generalize hf : 128 + sz = f at hpe d4 ⊢
  refine E_slcB (v := v) (bs := b) (l := f) (hh := f + 34 * n) (Dig.bndN (by omega)) (Dig.bndN rfl) (by omega) (by omega) fun y hy _ => ?_
  rw [show f + 34 * n - f = 34 * n by omega] at hy
  refine E_dr ?_
  refine Dig.E_wdA (n := 3) (by omega) ?_
  refine E_ld' g3 ?_
  have htl : ((b.drop f).take (34 * n)).length = 34 * n := by rw [List.length_take, List.length_drop]; omega
  generalize hT : (b.drop f).take (34 * n) = T at hy hpe htl
  have hC := crc_lt T
  refine (fun hy1 => crc (v := y) (bs := T) (by omega) hy1) ?_
  refine E_rck1 (E_ld' g3 (E_fact rfl)) (E_rck0 ?_)
  refine E_cvtI (by omega) (by omega) ?_
  refine E_neq ?_
  refine E_if (fun hc1 => ?_) (fun hc1 => ?_)
  · refine fd (a := cel true v2 58 [I 0, I 0, nil]) ?_
    refine E_fail rfl (by rw [hpe, if_pos (by omega)]) fun u _ => ?_
    exact sm (h u)
  rw [if_neg (by omega)] at hpe
  refine Dig.E_wdA (n := 0) (by omega) ?_
  refine E_ld' g0 ?_
  refine E_rslen (v := y) (l := T) ?_
  refine E_addI (by omega) (by omega) ?_
  refine E_addI (by omega) (by omega) ?_
  refine E_subI (by omega) (by omega) ?_
  rw [show (f : Int) + (T.length : Int) + 128 - 1 = ((f + 34 * n + 127 : Nat) : Int) by omega]
  refine E_quoI (by omega) (by omega) (by omega) ?_
  rw [show ((f + 34 * n + 127 : Nat) : Int) / 128 = (((f + 34 * n + 127) / 128 : Nat) : Int) by omega]
  refine Dig.E_Vr (build2 _ _) ?_
  refine E_box (v := .agg #[I 0, I 0, nil]) (vs := [I 0, I 0, nil]) fun v8 => ?_
  generalize hse : (f + 34 * n + 127) / 128 = se at hpe
  refine E_stW (vs := [I id, I se, nil]) rfl rfl ?_
  refine Dig.E_wdA (n := 1) (by omega) ?_
  refine E_ld' g1 ?_
  refine sls_nil cSl 34 (T := 109) ?_
  refine E_loop (n := 7) (σ := Nat × Cv) (fun s => s.1 ≤ n ∧ ∀ x ∈ rowsL b s.1 f 128, 1 ≤ x.len ∧ x.len ≤ 512) (fun s => [ptr v2, I f, y, ptr v8, I (endL 128 (rowsL b s.1 f 128) : Nat), I n, I s.1])
    (fun s => sls cSl 109 34 s.2.1 (rowsL b s.1 f 128) :: cel true v8 58 [I id, I se, s.2.1] :: cel true v2 58 [I 0, I 0, nil] :: H) (fun s => n - s.1) (0, ⟨nil, rfl⟩) (fun _ => rfl) rfl ⟨Nat.zero_le _, fun x hx => by simp [rowsL] at hx⟩ (fun W hW => sm (G := sls cSl 109 34 nil [] :: cel true v8 58 [I id, I se, nil] :: cel true v2 58 [I 0, I 0, nil] :: H) hW) ?_
  rintro ⟨i, o, hco⟩ K0 ⟨hi, hok⟩ hk
  simp only at hi hok hk ⊢
  have io : CellI o := ⟨hco⟩
  have hrl := rows_len b i f 128
  have hel := endL_le 128 _ fun s hs => (hok s hs).2
  rw [hrl] at hel
  refine E_fa fun _ => ?_
  refine E_lss ?_
  refine E_if (fun hc2 => ?_) (fun hc2 => ?_)
  · have hrs := rows_suc b i f 128
    have hTL := tabE_lt b (f + 34 * i)
    refine E_mulI (by omega) (by omega) ?_
    refine E_addI (by omega) (by omega) ?_
    refine E_mulI (by omega) (by omega) ?_
    refine (fun (q1 : Rb B (sls cSl 109 34 o (rowsL b i f 128) :: cel true v8 58 [I id, I se, o] :: cel true v2 58 [I 0, I 0, nil] :: H) y T) => E_slcB (v := y) (bs := T) (l := 34 * i) (hh := 34 * (i + 1)) (Dig.bndN (by omega)) (Dig.bndN (by omega)) (by omega) (by omega) fun r hr _ => ?_) (hy _)
    rw [show 34 * (i + 1) - 34 * i = 34 by omega] at hr
    have hR : (T.drop (34 * i)).take 34 = (b.drop (f + 34 * i)).take 34 := by
      rw [← hT, List.drop_take, List.drop_drop, List.take_take, show min 34 (34 * n - 34 * i) = 34 by omega]
    rw [hR] at hr
    have hrL : ((b.drop (f + 34 * i)).take 34).length = 34 := by rw [List.length_take, List.length_drop]; omega
    have e32 : ofBe ((((b.drop (f + 34 * i)).take 34).drop 32).take 2) = tabE b (f + 34 * i) := by
      unfold tabE hdN
      rw [List.drop_take, List.drop_drop, List.take_take]
      rfl
    generalize hRr : (b.drop (f + 34 * i)).take 34 = R at hr hrL e32
    have hr1 := fun (Q : List Asrt) (q : Rb B Q v b) => @hr Q (@hy Q q)
    have i3 := hr1 (sls cSl 109 34 o (rowsL b i f 128) :: cel true v8 58 [I id, I se, o] :: cel true v2 58 [I 0, I 0, nil] :: H) inferInstance
    refine take4 (v := r) (bs := R) (w := 2) (p := 32) (by omega) (by omega) (by omega) (by omega) ?_
    rw [e32]
    generalize hE : tabE b (f + 34 * i) = len at hTL hrs
    refine E_ext ?_
    refine E_ext ?_
    refine E_ext ?_
    refine E_join1 (n := 10) [ptr v2, I f, y, ptr v8, I (endL 128 (rowsL b i f 128) : Nat), r, I len, I n, I i, .bool (decide (len < 1 ∨ 512 < len))] (sls cSl 109 34 o (rowsL b i f 128) :: cel true v8 58 [I id, I se, o] :: cel true v2 58 [I 0, I 0, nil] :: H) (fun q hq => ?_) ?_
    · refine E_lss ?_
      by_cases h1 : len < 1
      · rw [decide_eq_true (.inl h1)] at hq
        rw [decide_eq_true (show (len : Int) < 1 by omega)]
        (repeat first | refine gS ?_ | refine gA fun _ => ?_ | refine gX fun _ _ => ?_ | refine gT ?_ | refine gF ?_ | refine gI ?_)
        exact hq
      · have e : decide (len < 1 ∨ 512 < len) = decide ((512 : Int) < (len : Int)) := by rw [decide_eq_decide]; omega
        rw [e] at hq
        rw [decide_eq_false (show ¬ (len : Int) < 1 by omega)]
        refine E_gft ?_
        refine E_gft ?_
        refine E_gtr ?_
        refine E_pff ?_
        exact hq
    refine E_fa fun _ => ?_
    refine E_if (fun hc3 => ?_) (fun hc3 => ?_)
    · refine fd (a := cel true v2 58 [I 0, I 0, nil]) ?_
      refine E_fail rfl ?_ fun u _ => sm (h u)
      rw [hpe, if_pos]
      rw [← Bool.not_eq_true]
      intro ha
      have hm := okE_iff.1 ha ⟨tabS b (f + 34 * i), endL 128 (rowsL b i f 128), len, tabS_len b _⟩ (by
        have := rows_take b f 128 n (i + 1) (by omega)
        refine List.mem_of_mem_take (i := i + 1) ?_
        rw [this, hrs]
        simp)
      simp only at hm
      omega
    · have hsum : tabS b (f + 34 * i) = R.take 32 := by
        rw [tabS_in (by omega), ← hRr, List.take_take]; rfl
      have hk1 := fun x : Cv => hk (i + 1, x) ⟨by simp only; omega, fun s hs => by
        simp only [hrs] at hs
        rcases List.mem_append.1 hs with hs | hs
        · exact hok s hs
        · simp at hs; subst hs; simp only; omega⟩ (by simp only; omega)
      simp only [hrs, endL_snoc] at hk1
      refine E_dr ?_
      refine E_fad0 ?_
      refine E_ld ?_
      refine E_slcB (v := r) (bs := R) (l := 0) (hh := 32) (Dig.bndN rfl) rfl (by omega) (by omega) fun z hz _ => ?_
      rw [List.drop_zero] at hz
      have hz1 := @hz _ i3
      refine E_arrS (v := z) (l := R.take (32 - 0)) u_a32 (by rw [List.length_take]; omega) (by omega) fun p _ => ?_
      refine E_rck1 (E_ld (E_fact rfl)) (E_rck0 ?_)
      have hRt : (bcs (R.take (32 - 0))).length = 32 := by rw [Dig.bcs_len, List.length_take]; omega
      refine E_ptldN (p := p) (cs := bcs (R.take (32 - 0))) (ds := bcs (tabS b (f + 34 * i))) (by rw [List.drop_zero, hsum, List.take_of_length_le (by omega)]) (by rw [Dig.bcs_len, tabS_len]) ?_
      refine E_build (hf := slotFill (tabS_len b (f + 34 * i)) _ _) str_slot ?_
      refine E_rck1 (E_ld (E_fact rfl)) (E_rck0 ?_)
      refine Dig.E_bslK u_slots elt_slot (by omega) (fill1S (s := ⟨tabS b (f + 34 * i), endL 128 (rowsL b i f 128), len, tabS_len b _⟩)) fun bb => ?_
      refine E_rck1 (E_ld (E_fact rfl)) (E_rck0 ?_)
      refine E_slsC (enc := cSl) (sz := 34) [⟨tabS b (f + 34 * i), endL 128 (rowsL b i f 128), len, tabS_len b _⟩] 1 (by simp) rfl ?_
      refine fd (a := sls cSl 109 34 o (rowsL b i f 128)) ?_
      refine E_sapps (enc := cSl) (u := .slice (some ⟨bb, 0, none⟩) 1 1) (m := [⟨tabS b (f + 34 * i), endL 128 (rowsL b i f 128), len, tabS_len b _⟩]) u_slots elt_slot (by simp [hrl]; omega) (by simp [hrl]; omega) fun w iw => ?_
      refine E_fad0 ?_
      refine E_st ?_
      refine E_addI (by omega) (by omega) ?_
      refine E_addI (by omega) (by omega) ?_
      rw [show (endL 128 (rowsL b i f 128) : Int) + (len : Int) = ((endL 128 (rowsL b i f 128) + len : Nat) : Int) by omega]
      exact sm (hk1 ⟨w, iw.pf⟩)
  · have hie : i = n := by omega
    subst hie
    rw [if_neg (by rw [okE_iff.2 hok]; decide)] at hpe
    refine E_neq ?_
    refine E_if (fun hc3 => ?_) (fun hc3 => ?_)
    · rw [if_pos (by omega)] at hpe
      refine fd (a := cel true v2 58 [I 0, I 0, nil]) ?_
      refine E_fail rfl hpe fun u _ => sm (h u)
    · rw [if_neg (by omega)] at hpe
      refine E_ldNA ?_
      refine E_stW (vs := [I id, I se, o]) rfl rfl ?_
      refine E_ldNA ?_
      have h' := h o
      unfold parA at h'
      rw [hpe] at h'
      exact sm h'
end Go.Proofs.YtmbfmkiagdhcoaaGreat.Pk
end
section
namespace Go.Proofs.YtmbfmkiagdhcoaaGreat.Pk
open Go Go.SL Go.Proofs Go.Proofs.YtmbfmkiagdhcoaaGreat.Sh Go.Proofs.YtmbfmkiagdhcoaaGreat.Oct Go.Proofs.YtmbfmkiagdhcoaaGreat.Disk Go.Proofs.YtmbfmkiagdhcoaaGreat.Slot
variable {B : World} {H : List Asrt} {K : Value → WT} {W : WT}
theorem cSl_pos (s : Sl) : (cSl s)[32]? = some (I s.pos) := by
  have h : (bcs s.sum).length = 32 := by rw [Dig.bcs_len, s.hs]
  rw [List.getElem?_append_right (by omega), h]; rfl
theorem cSl_sum {b : Nat} {κ : Bool} {T : TypeId} {s : Sl} [hf : HasC H b κ T (cSl s)] (h : E B H (K (.agg (bcs s.sum).toArray))) : E B H (S.ldN 32 (.pointer (some ⟨b, 0, none⟩)) K) :=
  E_ldN (hf := hf) (cs := bcs s.sum) (by
    have hl : (bcs s.sum).length = 32 := by rw [Dig.bcs_len, s.hs]
    rw [List.drop_zero, List.take_append_of_le_length (by omega), List.take_of_length_le (by omega)]) (by rw [Dig.bcs_len, s.hs]) h
set_option maxRecDepth 100000
theorem noGuard32 : Tryz.prog.eqGuardType Tryz.prog.depth 107 = false := by kernel_rfl
theorem E_nesum {c : Bool} {a b : List UInt8} (ha : a.length = 32) (hb : b.length = 32) (h : E B H (K (.bool (!decide (a = b))))) : E B H (S.eqv Tryz.prog .neq 107 c (.agg (bcs a).toArray) (.agg (bcs b).toArray) K) :=
  E_ane noGuard32 (fun w => (eqg_bytes u_a32 u_byteP (fun w => by kernel_rfl) ha hb).equal (by decide) w) h
def chA (b : List UInt8) (s : Sl) (v : Value) : Value := .tuple #[v, I (chunkL b s).1]
attribute [local irreducible] S.pick S.ld S.ldN S.st S.box S.nc S.fad S.ixS S.ixA S.chr S.prt S.ext S.bin S.sh S.sbin S.beq S.neg1 S.com1 S.not1 S.cvt S.str1 S.lenS S.len S.cap S.lenM S.mx S.mn S.mkM S.cond S.gd S.fa S.dr S.rck S.join S.loop S.cvv S.eqv S.slc S.slcS S.b2s S.lk V U CF Gives E cel mpb osl ros dct dit itr lpo dfo
theorem pkchunk {v : Value} {b : List UInt8} {s : Sl} [hv : Rb B H v b] (hm : b.length ≤ 1000000000) (hp : s.pos ≤ 1000000000000000) (hl : s.len ≤ 1000000000000000)
    (h : ∀ v [CellI v], E B (sls cB 5 1 v (chunkL b s).2 :: H) (K (chA b s v))) : E B H (CF Tryz.prog 43 [v, .agg (cSl s).toArray] K) := by
  refine E_mono (W := s43 _ _ K) ?_ fun _ => c43
  unfold s43
  have er : ∀ (e : Int), chunkL b s = (e, []) → ∀ G, E B (G :: H) (K (.tuple #[nil, I e])) := fun e he G => by
    have h' := h nil
    unfold chA at h'
    rw [he] at h'
    exact sls_nil cB 1 (T := 5) (sm h')
  refine E_box (v := .agg (cSl s).toArray) (vs := cSl s) fun v3 => ?_
  refine E_join1 (n := 3) [v, ptr v3, .bool (decide (s.len < 1 ∨ 512 < s.len))] (cel true v3 109 (cSl s) :: H) (fun q hq => ?_) ?_
  · refine E_fad0 ?_
    refine E_ld' (cSl_last s) ?_
    refine E_lss ?_
    by_cases h1 : s.len < 1
    · rw [decide_eq_true (.inl h1)] at hq
      rw [decide_eq_true (show (s.len : Int) < 1 by omega)]
      refine E_gtt ?_
      refine E_gtt ?_
      refine E_gtt ?_
      refine E_ptt ?_
      refine E_gtt ?_
      refine E_gtt ?_
      refine E_gtt ?_
      refine E_ptt ?_
      exact hq
    · rw [decide_eq_false (show ¬ (s.len : Int) < 1 by omega)]
      refine E_gft ?_
      refine E_fad0 ?_
      refine E_gft ?_
      refine E_ld' (cSl_last s) ?_
      refine E_gft ?_
      refine E_gtr ?_
      refine E_pff ?_
      by_cases h2 : 512 < s.len
      · rw [decide_eq_true (.inr h2)] at hq
        rw [decide_eq_true (show (512 : Int) < (s.len : Int) by omega)]
        refine E_gtt ?_
        refine E_gtt ?_
        refine E_gtt ?_
        refine E_ptt ?_
        exact hq
      · rw [decide_eq_false (by omega)] at hq
        rw [decide_eq_false (show ¬ (512 : Int) < (s.len : Int) by omega)]
        refine E_gft ?_
        refine E_fad0 ?_
        refine E_gft ?_
        refine E_ld' (cSl_pos s) ?_
        refine E_gft ?_
        refine E_lss ?_
        refine E_pff ?_
        rw [decide_eq_false (show ¬ (s.pos : Int) < 0 by omega)]
        exact hq
  refine E_fa fun _ => ?_
  refine E_if (fun hc => ?_) (fun hc => ?_)
  · exact er 2 (by unfold chunkL; rw [if_pos hc]) _
  refine E_join1 (n := 3) [v, ptr v3, .bool (decide (b.length < s.pos + s.len))] (cel true v3 109 (cSl s) :: H) (fun q hq => ?_) ?_
  · refine E_fad0 ?_
    refine E_ld' (cSl_pos s) ?_
    refine E_rslen (v := v) (l := b) ?_
    refine E_gtr ?_
    by_cases h1 : b.length < s.pos
    · rw [decide_eq_true (by omega)] at hq
      rw [decide_eq_true (show (b.length : Int) < (s.pos : Int) by omega)]
      refine E_gtt ?_
      refine E_gtt ?_
      refine E_gtt ?_
      refine E_gtt ?_
      refine E_gtt ?_
      refine E_gtt ?_
      refine E_gtt ?_
      refine E_gtt ?_
      refine E_ptt ?_
      exact hq
    · have e : decide (b.length < s.pos + s.len) = decide ((b.length : Int) - (s.pos : Int) < (s.len : Int)) := by rw [decide_eq_decide]; omega
      rw [e] at hq
      rw [decide_eq_false (show ¬ (b.length : Int) < (s.pos : Int) by omega)]
      refine E_gft ?_
      refine E_fad0 ?_
      refine E_gft ?_
      refine E_ld' (cSl_last s) ?_
      refine E_gft ?_
      refine E_gft ?_
      refine E_rslen (v := v) (l := b) ?_
      refine E_gft ?_
      refine E_fad0 ?_
      refine E_gft ?_
      refine E_ld' (cSl_pos s) ?_
      refine E_gft ?_
      refine E_subI (by omega) (by omega) ?_
      refine E_gft ?_
      refine E_gtr ?_
      refine E_pff ?_
      exact hq
  refine E_fa fun _ => ?_
  refine E_if (fun hc1 => ?_) (fun hc1 => ?_)
  · exact er 3 (by unfold chunkL; rw [if_neg hc, if_pos hc1]) _
  refine E_fad0 ?_
  refine E_ld' (cSl_pos s) ?_
  refine E_fad0 ?_
  refine E_ld' (cSl_pos s) ?_
  refine E_fad0 ?_
  refine E_ld' (cSl_last s) ?_
  refine E_addI (by omega) (by omega) ?_
  rw [show (s.pos : Int) + (s.len : Int) = ((s.pos + s.len : Nat) : Int) by omega]
  refine E_slcB (v := v) (bs := b) (l := s.pos) (hh := s.pos + s.len) (Dig.bndN rfl) (Dig.bndN rfl) (by omega) (by omega) fun z hz _ => ?_
  rw [show s.pos + s.len - s.pos = s.len by omega] at hz
  have hz1 := hz (cel true v3 109 (cSl s) :: H)
  have hpl : ((b.drop s.pos).take s.len).length = s.len := by rw [List.length_take, List.length_drop]; omega
  have hch : chunkL b s = if Dig.sum ((b.drop s.pos).take s.len) = s.sum then (0, (b.drop s.pos).take s.len) else (13, []) := by unfold chunkL; rw [if_neg hc, if_neg hc1]
  generalize (b.drop s.pos).take s.len = p at hz1 hpl hch
  refine Dig.cloneB (v := z) (bs := p) (by omega) fun w iw => ?_
  refine E_dr ?_
  refine E_fad0 ?_
  refine cSl_sum ?_
  refine Dig.dsum (v := w) (p := p) (by omega) ?_
  refine E_rck1 (cSl_sum (E_fact rfl)) (E_rck0 ?_)
  refine E_nesum (Dig.sum_len p) s.hs ?_
  by_cases hs : Dig.sum p = s.sum
  · rw [decide_eq_true hs]
    refine E_ff ?_
    rw [if_pos hs] at hch
    have h' := h w
    unfold chA at h'
    rw [hch] at h'
    exact sm h'
  · rw [decide_eq_false hs]
    refine E_tt ?_
    rw [if_neg hs] at hch
    refine E_drop ?_
    exact er 13 hch _
end Go.Proofs.YtmbfmkiagdhcoaaGreat.Pk
end
section
namespace Go.Proofs.YtmbfmkiagdhcoaaGreat.Shf
open Go Go.SL Go.Proofs Go.Proofs.YtmbfmkiagdhcoaaGreat.Sh
attribute [local irreducible] S.pick S.ld S.ldN S.st S.box S.nc S.fad S.ixS S.ixA S.chr S.prt S.ext S.bin S.sh S.sbin S.beq S.neg1 S.com1 S.not1 S.cvt S.str1 S.lenS S.len S.cap S.lenM S.mx S.mn S.mkM S.cond S.gd S.fa S.dr S.rck S.join S.loop S.cvv S.eqv S.slc S.slcS S.b2s S.lk V U CF Gives E cel mpb osl ros dct dit itr lpo dfo
theorem u_ints : Tryz.prog.underlying 110 = some (.slice 3) := by kernel_rfl
theorem u_int : Tryz.prog.underlying 3 = some (.int .i64) := by kernel_rfl
theorem u_mapIR : Tryz.prog.underlying 95 = some (.map 3 32) := by kernel_rfl
theorem elt_int : Elt Tryz.prog 3 1 8 [.int .i64 0] := elt_of (zv := .int .i64 0) (by kernel_rfl) rfl rfl
theorem key_mapIR : Key Tryz.prog 95 3 32 (.int .i64) := ⟨u_mapIR, u_int, rfl⟩
theorem sortOk : SortOk Tryz.prog 82 := ⟨fun blk off cap zs w h1 h2 h3 => Tryz.slices_Sort_int blk off cap zs w h1 h2 h3, fun p cap w => Tryz.slices_Sort_int_none p cap w⟩
variable {B : World} {H : List Asrt} {K : Value → WT}
theorem ints_snoc (zs : List Int) (k : Int) : ints zs ++ [.int .i64 k] = ints (zs ++ [k]) := by simp [ints]
theorem sortedKeys {o : Bool} {r : Nat} {kv : List (Int × Value)} {H' : List Asrt} [ht : TakD H kI o r kv H'] (hn : kv.length ≤ 1099511627776)
    (h : ∀ sv zs, zs.Perm (kv.map (·.1)) → E B (osl 3 1 sv kv.length (ints (sortI zs)) :: dct kI o r kv :: H') (K sv)) :
    E B H (CF Tryz.prog 45 [.map (some r)] fun v9 => CF Tryz.prog 44 [v9] K) := by
  refine E_find ht.pf ?_
  refine E_mono (W := s45 _ _) ?_ fun _ => c45
  unfold s45
  (first | refine gS ?_ | refine gA fun _ => ?_ | refine gX fun _ _ => ?_ | refine gT ?_ | refine gF ?_ | refine gI ?_)
  rename_i mb
  refine E_mono (W := s44 _ _) ?_ fun _ => c44
  unfold s44
  refine E_mono (W := s81 _ _) ?_ fun _ => c81
  unfold s81
  refine E_mono (W := s115 _ _ _) ?_ fun _ => c115
  unfold s115
  (first | refine gS ?_ | refine gA fun _ => ?_ | refine gX fun _ _ => ?_ | refine gT ?_ | refine gF ?_ | refine gI ?_)
  rename_i sb
  refine E_rf (by kernel_rfl) fun l dl L hY => ?_
  refine E_mono (W := s83 _ _ _) ?_ fun _ => c83
  unfold s83
  (repeat first | refine gS ?_ | refine gA fun _ => ?_ | refine gX fun _ _ => ?_ | refine gT ?_ | refine gF ?_ | refine gI ?_)
  refine E_drange (κ := Int) u_mapIR fun it => ?_
  refine E_loop (σ := List (Int × Value) × Option (Int × Value) × List Int × Value)
    (fun s => (s.2.2.1 ++ s.1.map (·.1)).Perm (kv.map (·.1)))
    (fun s => [.func (.yield l) #[] #[], .pointer (some ⟨it, 0, none⟩)])
    (fun s => dit kI o it r kv s.1 s.2.1 :: lpo l L .ready .nrm :: osl 3 1 s.2.2.2 s.2.2.1.length (ints s.2.2.1) :: cel true sb 110 [s.2.2.2] :: dfo dl :: cel true mb 95 [.map (some r)] :: H')
    (fun s => s.1.length) (kv, none, [], .slice none 0 0) (fun s => rfl) rfl (by simp) ?_ ?_
  · intro W hW
    refine osl_nil (T := 3) (sz := 1) ?_
    exact sm (G := dit kI o it r kv kv none :: lpo l L .ready .nrm :: osl 3 1 (.slice none 0 0) 0 [] :: cel true sb 110 [.slice none 0 0] :: dfo dl :: cel true mb 95 [.map (some r)] :: H') hW
  · rintro ⟨rest, cur, zs, sv⟩ K hφ hk
    simp only at hφ hk ⊢
    refine E_fa fun _ => ?_
    refine E_dnext (κ := Int) (fun hr => ?_) (fun p rest' hp => ?_)
    · subst hr
      (repeat first | refine gS ?_ | refine gA fun _ => ?_ | refine gX fun _ _ => ?_ | refine gT ?_ | refine gF ?_ | refine gI ?_)
      refine fd (a := lpo l L .ready .nrm) (E_over (by simp) ?_)
      unfold aft
      (repeat first | refine gS ?_ | refine gA fun _ => ?_ | refine gX fun _ _ => ?_ | refine gT ?_ | refine gF ?_ | refine gI ?_)
      refine fd (a := dfo dl) (E_done1 ?_)
      refine fd (a := osl 3 1 sv zs.length (ints zs)) ?_
      have hz : zs.Perm (kv.map (·.1)) := by simpa using hφ
      have hl : zs.length = kv.length := by have := hz.length_eq; simpa using this
      refine E_sortI sortOk (by omega) ?_
      rw [hl]
      refine fd (a := dit kI o it r kv [] none) (E_idone ?_)
      refine sm (h sv zs hz)
    · (repeat first | refine gS ?_ | refine gA fun _ => ?_ | refine gX fun _ _ => ?_ | refine gT ?_ | refine gF ?_ | refine gI ?_)
      refine E_dentry (κ := Int) ?_
      (repeat first | refine gS ?_ | refine gA fun _ => ?_ | refine gX fun _ _ => ?_ | refine gT ?_ | refine gF ?_ | refine gI ?_)
      refine fd (a := lpo l L .ready .nrm) (hY _ _ _ rfl ?_)
      refine E_begun ?_
      (repeat first | refine gS ?_ | refine gA fun _ => ?_ | refine gX fun _ _ => ?_ | refine gT ?_ | refine gF ?_ | refine gI ?_)
      refine E_bsl [(0, 1)] u_ints elt_int (by simp) (by decide) (l0 := [.int .i64 0]) rfl fun b => ?_
      refine fd (a := osl 3 1 sv zs.length (ints zs)) ?_
      have hl : zs.length + rest.length = kv.length := by have := hφ.length_eq; simpa using this
      have hr : rest.length = rest'.length + 1 := by simpa using hp.length_eq
      refine E_app (m := 1) (ys := [.int .i64 p.1]) u_ints elt_int (rd_slice (l := [.int .i64 p.1]) (T := 3) (κ := true) u_ints rfl rfl (by simp [isCell])) (by omega) (by omega) fun v' _ => ?_
      rw [ints_snoc]
      (repeat first | refine gS ?_ | refine gA fun _ => ?_ | refine gX fun _ _ => ?_ | refine gT ?_ | refine gF ?_ | refine gI ?_)
      refine fd (a := lpo l L .busy .nrm) (E_ended ?_)
      refine E_notb ?_
      refine E_ff ?_
      (repeat first | refine gS ?_ | refine gA fun _ => ?_ | refine gX fun _ _ => ?_ | refine gT ?_ | refine gF ?_ | refine gI ?_)
      have h1 := (hp.map (·.1)).append_left zs
      have hk' := hk (rest', some p, zs ++ [p.1], v') (by simpa using h1.symm.trans hφ) (by simp [hr])
      simp only [List.length_append, List.length_cons, List.length_nil, Nat.zero_add] at hk'
      exact sm hk'
end Go.Proofs.YtmbfmkiagdhcoaaGreat.Shf
end
section
namespace Go.Proofs.YtmbfmkiagdhcoaaGreat.Bn
open Go Go.SL Go.Proofs Go.Proofs.YtmbfmkiagdhcoaaGreat.Sh Go.Proofs.YtmbfmkiagdhcoaaGreat.Oct Go.Proofs.YtmbfmkiagdhcoaaGreat.Disk Go.Proofs.YtmbfmkiagdhcoaaGreat.Slot Go.Proofs.YtmbfmkiagdhcoaaGreat.Pk Go.Proofs.YtmbfmkiagdhcoaaGreat.Ext
variable {B : World} {H : List Asrt} {K : Value → WT} {W : WT}
abbrev pcV (p : Pc) : Value := pI p.pos p.n
structure KV (P : List Pc) (kv : List (Int × Value)) : Prop where
  look : ∀ b, kv.lookup b = (known P b).map pcV
  keys : (kv.map (·.1)).Perm (P.map fun p => (p.bin : Int))
theorem KV.nil : KV [] [] := ⟨fun _ => rfl, .refl _⟩
theorem KV.put {P : List Pc} {kv : List (Int × Value)} (h : KV P kv) {p : Pc} (hn : known P p.bin = none) : KV (putP P p) (dput kv p.bin (pcV p)) := by
  have hl : kv.lookup (p.bin : Int) = none := by rw [h.look, hn]; rfl
  refine ⟨fun b => ?_, ?_⟩
  · rw [lookup_dput]
    by_cases hb : b = p.bin
    · subst hb
      rw [if_pos rfl, known_put_eq hn]; rfl
    · rw [if_neg hb, known_put_ne (fun e => hb e.symm)]
      exact h.look b
  · rw [dput_keys, hl, if_neg (by decide)]
    exact (List.perm_append_comm.trans ((h.keys.cons _).trans (List.Perm.map (fun p : Pc => (p.bin : Int)) (put_perm P p).symm)))
theorem KV.del {P : List Pc} {kv : List (Int × Value)} (h : KV P kv) (b : Int) : KV (delP P b) (ddel kv b) := by
  refine ⟨fun c => ?_, ?_⟩
  · rw [lookup_ddel]
    by_cases hb : c = b
    · subst hb
      rw [if_pos rfl]
      have : known (delP P c) c = none := by
        unfold known delP
        rw [List.find?_eq_none]
        intro x hx
        have := (List.mem_filter.1 hx).2
        simpa using this
      rw [this]; rfl
    · rw [if_neg hb, known_del_ne (fun e => hb e.symm)]
      exact h.look c
  · have e1 : (ddel kv b).map (·.1) = (kv.map (·.1)).filter fun k => decide (k ≠ b) := by unfold ddel; rw [List.filter_map]; rfl
    have e2 : (delP P b).map (fun p => (p.bin : Int)) = (P.map fun p => (p.bin : Int)).filter fun k => decide (k ≠ b) := by unfold delP; rw [List.filter_map]; rfl
    rw [e1, e2]
    exact h.keys.filter _
theorem KV.len {P : List Pc} {kv : List (Int × Value)} (h : KV P kv) : kv.length = P.length := by
  have := h.keys.length_eq
  simpa using this
def shf (a d m : Nat) (S : Shf) : Asrt := ex fun (x : Nat × List (Int × Value)) => all [cel true a 97 [ptr d, ptr m, .map (some x.1)], disk d S.D, xmap m S.f (S.f + S.T.length) S.R, dct kI true x.1 x.2, pur (KV S.P x.2)]
theorem E_shf {a d m : Nat} {S : Shf} (h : ∀ r kv, KV S.P kv → E B (cel true a 97 [ptr d, ptr m, .map (some r)] :: disk d S.D :: xmap m S.f (S.f + S.T.length) S.R :: dct kI true r kv :: H) W) : E B (shf a d m S :: H) W := by
  refine E_ex fun x => E_all ?_
  simp only [List.cons_append, List.nil_append]
  refine fd (a := pur (KV S.P x.2)) (E_pur fun hk => ?_)
  exact sm (h x.1 x.2 hk)
theorem E_shfS {a d m r : Nat} {S : Shf} {kv : List (Int × Value)} {D : Dk} {R : List Rn} {f t : Nat} (hk : KV S.P kv) (hD : D = S.D) (hf : f = S.f) (ht : t = S.f + S.T.length) (hR : R = S.R) (h : E B (shf a d m S :: H) W) :
    E B (cel true a 97 [ptr d, ptr m, .map (some r)] :: disk d D :: xmap m f t R :: dct kI true r kv :: H) W := by
  subst hD hf ht hR
  refine E_pur' hk ?_
  have h' := E_all' (E_ex' (f := fun (x : Nat × List (Int × Value)) => all [cel true a 97 [ptr d, ptr m, .map (some x.1)], disk d S.D, xmap m S.f (S.f + S.T.length) S.R, dct kI true x.1 x.2, pur (KV S.P x.2)]) (r, kv) h)
  simp only [List.cons_append, List.nil_append] at h'
  exact sm h'
theorem u_pSh : Tryz.prog.underlying 39 = some (.pointer 97) := by kernel_rfl
attribute [local irreducible] S.pick S.ld S.ldN S.st S.box S.nc S.fad S.ixS S.ixA S.chr S.prt S.ext S.bin S.sh S.sbin S.beq S.neg1 S.com1 S.not1 S.cvt S.str1 S.lenS S.len S.cap S.lenM S.mx S.mn S.mkM S.cond S.gd S.fa S.dr S.rck S.join S.loop S.cvv S.eqv S.slc S.slcS S.b2s S.lk V U CF Gives E cel mpb osl ros dct dit itr lpo dfo
theorem shknown {a d m : Nat} {S : Shf} {b : Int} (h : E B (shf a d m S :: H) (K (.bool (known S.P b).isSome))) : E B (shf a d m S :: H) (CF Tryz.prog 37 [ptr a, I b] K) := by
  refine E_mono (W := s37 _ _ K) ?_ fun _ => c37
  unfold s37
  refine E_shf fun r kv hk => ?_
  refine E_nc ?_
  refine E_fad0 ?_
  refine E_ld ?_
  have hl := hk.look b
  cases ho : known S.P b with
  | none =>
    rw [ho] at h hl
    refine E_dlk0 (κ := Int) (enc := kI) (k := b) hl ?_
    refine E_ext ?_
    refine E_ext ?_
    refine E_box (v := pI 0 0) (vs := [I 0, I 0]) fun v5 => ?_
    refine E_stW (vs := [I 0, I 0]) rfl rfl ?_
    refine sm (G := cel true a 97 [ptr d, ptr m, .map (some r)] :: disk d S.D :: xmap m S.f (S.f + S.T.length) S.R :: dct kI true r kv :: H) ?_
    exact E_shfS hk rfl rfl rfl rfl h
  | some p =>
    rw [ho] at h hl
    refine E_dlk1 (κ := Int) (enc := kI) (k := b) hl ?_
    refine E_ext ?_
    refine E_ext ?_
    refine E_box (v := pI 0 0) (vs := [I 0, I 0]) fun v5 => ?_
    refine E_stW (v := pcV p) (vs := [I p.pos, I p.n]) rfl rfl ?_
    refine sm (G := cel true a 97 [ptr d, ptr m, .map (some r)] :: disk d S.D :: xmap m S.f (S.f + S.T.length) S.R :: dct kI true r kv :: H) ?_
    exact E_shfS hk rfl rfl rfl rfl h
theorem drop_at {cs : List (List UInt8)} {i : Nat} {c : List UInt8} (h : cs[i]? = some c) : cs.drop i = c :: cs.drop (i + 1) := by
  obtain ⟨hi, hc⟩ := List.getElem?_eq_some_iff.1 h
  rw [List.drop_eq_getElem_cons hi, hc]
theorem gwrite {a d m n : Nat} {x : Int} {D : Dk} {mp v : Value} {b : List UInt8} [hv : Rb B H v b] (hb : 128 * n ≤ b.length) (hx : 0 ≤ x ∧ x ≤ 5000) (hn : n ≤ 100)
    (h : E B (cel true a 97 [ptr d, ptr m, mp] :: disk d (wrS D x (chunks b n)).1 :: H) (K (I (wrS D x (chunks b n)).2))) :
    E B (cel true a 97 [ptr d, ptr m, mp] :: disk d D :: H) (CF Tryz.prog 39 [ptr a, pI x n, v] K) := by
  refine E_mono (W := s39 _ _ _ K) ?_ fun _ => c39
  unfold s39
  refine E_box (v := pI x n) (vs := [I x, I n]) fun v4 => ?_
  refine E_fad0 ?_
  refine E_ld ?_
  have hcl := chunks_len b n
  refine E_loop (n := 5) (σ := Nat × Dk) (fun s => s.1 ≤ n ∧ wrS s.2 (x + (s.1 : Int)) ((chunks b n).drop s.1) = wrS D x (chunks b n)) (fun s => [ptr a, v, ptr v4, I n, I s.1])
    (fun s => cel true v4 32 [I x, I n] :: cel true a 97 [ptr d, ptr m, mp] :: disk d s.2 :: H) (fun s => n - s.1) (0, D) (fun _ => rfl) rfl ⟨Nat.zero_le _, by simp⟩ (fun W hW => hW) ?_
  rintro ⟨i, D'⟩ K0 ⟨hi, hw⟩ hk
  simp only at hi hw hk ⊢
  refine E_fa fun _ => ?_
  refine E_lss ?_
  refine E_if (fun hc => ?_) (fun hc => ?_)
  · have hx2 := chunks_at (b := b) (n := n) (j := i) (by omega)
    rw [drop_at hx2] at hw
    refine E_dr ?_
    refine E_nc ?_
    refine E_fad0 ?_
    refine E_ld ?_
    refine E_fad0 ?_
    refine E_ld ?_
    refine E_addI (by omega) (by omega) ?_
    refine E_mulI (by omega) (by omega) ?_
    refine E_addI (by omega) (by omega) ?_
    refine E_mulI (by omega) (by omega) ?_
    refine E_slcB (v := v) (bs := b) (l := 128 * i) (hh := 128 * (i + 1)) (Dig.bndN (by omega)) (Dig.bndN (by omega)) (by omega) (by omega) fun z hz _ => ?_
    rw [show 128 * (i + 1) - 128 * i = 128 by omega] at hz
    have hz1 := hz (cel true v4 32 [I x, I n] :: cel true a 97 [ptr d, ptr m, mp] :: H)
    refine fd (a := disk d D') ?_
    refine write (bs := (b.drop (128 * i)).take 128) ?_
    refine E_neq ?_
    rw [wrS] at hw
    refine E_if (fun hc1 => ?_) (fun hc1 => ?_)
    · rw [if_pos hc1] at hw
      rw [← hw] at h
      exact sm h
    · rw [if_neg hc1] at hw
      refine E_addI (by omega) (by omega) ?_
      exact sm (hk (i + 1, D'.wr (x + (i : Int)) ((b.drop (128 * i)).take 128)) ⟨by simp only; omega, by
        simp only
        rw [show x + ((i + 1 : Nat) : Int) = x + (i : Int) + 1 by omega]
        exact hw⟩ (by simp only; omega))
  · have hie : i = n := by omega
    subst hie
    rw [List.drop_of_length_le (by omega), wrS] at hw
    rw [← hw] at h
    exact sm h
theorem rdE_suc (D : Dk) (x : Int) (i : Nat) (h : rdE D x i = 0) (hz : ∀ j, j < i → D.pow (x + (j : Int)) = 0) : rdE D x (i + 1) = D.pow (x + (i : Int)) := by
  unfold rdE
  rw [List.range_succ, List.map_append, List.find?_append, List.find?_eq_none.2]
  · by_cases h0 : D.pow (x + (i : Int)) = 0
    · simp [h0]
    · simp [h0]
  · intro y hy
    obtain ⟨j, hj, rfl⟩ := List.mem_map.1 hy
    simp [hz j (List.mem_range.1 hj)]
theorem rdE_more (D : Dk) (x : Int) {i n : Nat} (hi : i ≤ n) (h : rdE D x i ≠ 0) : rdE D x n = rdE D x i := by
  unfold rdE at h ⊢
  obtain ⟨k, rfl⟩ := Nat.exists_eq_add_of_le hi
  rw [List.range_add, List.map_append, List.find?_append]
  cases ho : ((List.range i).map fun j : Nat => D.pow (x + (j : Int))).find? fun e => decide (e ≠ 0) with
  | none => rw [ho] at h; exact absurd rfl h
  | some y => rfl
theorem rdE_0 (D : Dk) (x : Int) {n : Nat} (hz : ∀ j, j < n → D.pow (x + (j : Int)) = 0) : rdE D x n = 0 := by
  unfold rdE
  rw [List.find?_eq_none.2]
  · rfl
  · intro y hy
    obtain ⟨j, hj, rfl⟩ := List.mem_map.1 hy
    simp [hz j (List.mem_range.1 hj)]
theorem rdB_suc (D : Dk) (x : Int) (i : Nat) : rdB D x (i + 1) = rdB D x i ++ D.rd (x + (i : Int)) := by unfold rdB; rw [List.range_succ, List.flatMap_append]; simp
theorem rd_len {D : Dk} (h : D.Ok) (i : Int) : (D.rd i).length ≤ 128 := by
  unfold Dk.rd
  split
  · simp
  · split
    · rename_i s hs
      obtain ⟨h1, h2⟩ := h.len s (List.mem_of_getElem? hs)
      unfold Sec.now
      cases hl : s.last with
      | none => simp [h1]
      | some b => simp [h2 b hl]
    · simp
theorem rdB_len {D : Dk} (h : D.Ok) (x : Int) (n : Nat) : (rdB D x n).length ≤ 128 * n := by
  induction n with
  | zero => simp [rdB]
  | succ n ih =>
    have := rd_len h (x + (n : Int))
    rw [rdB_suc, List.length_append]; omega
def rdA (D : Dk) (x : Int) (n : Nat) : Int × List UInt8 := if rdE D x n ≠ 0 then (rdE D x n, []) else (0, rdB D x n)
theorem gread {a d m n : Nat} {x : Int} {D : Dk} {mp : Value} (hx : 0 ≤ x ∧ x ≤ 5000) (hn : n ≤ 100)
    (h : D.Ok → ∀ v [CellI v], E B (sls cB 5 1 v (rdA D x n).2 :: cel true a 97 [ptr d, ptr m, mp] :: disk d D :: H) (K (.tuple #[v, I (rdA D x n).1]))) :
    E B (cel true a 97 [ptr d, ptr m, mp] :: disk d D :: H) (CF Tryz.prog 80 [ptr a, pI x n] K) := by
  refine E_mono (W := s80 _ _ K) ?_ fun _ => c80
  unfold s80
  refine fd (a := disk d D) ?_
  refine E_dkok fun hD => ?_
  refine sm (G := cel true a 97 [ptr d, ptr m, mp] :: disk d D :: H) ?_
  have h := h hD
  refine E_box (v := pI x n) (vs := [I x, I n]) fun v4 => ?_
  refine E_fad0 ?_
  refine E_ld ?_
  refine sls_nil cB 1 (T := 5) ?_
  refine E_loop (n := 5) (σ := Nat × Pk.Cv) (fun s => s.1 ≤ n ∧ ∀ j, j < s.1 → D.pow (x + (j : Int)) = 0) (fun s => [ptr a, ptr v4, s.2.1, I n, I s.1])
    (fun s => sls cB 5 1 s.2.1 (rdB D x s.1) :: cel true v4 32 [I x, I n] :: cel true a 97 [ptr d, ptr m, mp] :: disk d D :: H) (fun s => n - s.1) (0, ⟨Pk.nil, rfl⟩) (fun _ => rfl) rfl ⟨Nat.zero_le _, fun j hj => by omega⟩ (fun W hW => hW) ?_
  rintro ⟨i, o, hco⟩ K0 ⟨hi, hz⟩ hk
  simp only at hi hz hk ⊢
  have io : CellI o := ⟨hco⟩
  have h0 := rdE_0 D x hz
  have hbl := rdB_len hD x i
  refine E_fa fun _ => ?_
  refine E_lss ?_
  refine E_if (fun hc => ?_) (fun hc => ?_)
  · have hs := rdE_suc D x i h0 hz
    refine E_dr ?_
    refine E_nc ?_
    refine E_fad0 ?_
    refine E_ld ?_
    refine E_fad0 ?_
    refine E_ld ?_
    refine E_addI (by omega) (by omega) ?_
    refine fd (a := disk d D) ?_
    refine read fun u _ => ?_
    refine E_ext ?_
    refine E_ext ?_
    refine E_neq ?_
    refine E_if (fun hc1 => ?_) (fun hc1 => ?_)
    · have hm := rdE_more D x (i := i + 1) (n := n) (by omega) (by rw [hs]; exact hc1)
      have e : rdA D x n = (D.pow (x + (i : Int)), []) := by unfold rdA; rw [hm, hs, if_pos hc1]
      have h' := h Pk.nil
      rw [e] at h'
      exact sls_nil cB 1 (T := 5) (sm h')
    · have h1 : D.pow (x + (i : Int)) = 0 := by simpa using hc1
      have hrl := rd_len hD (x + (i : Int))
      refine E_bytes ?_
      refine fd (a := sls cB 5 1 o (rdB D x i)) ?_
      refine E_sapps (enc := cB) (u := u) (m := D.rd (x + (i : Int))) Dig.u_bytesD Dig.elt_byteD (by omega) (by omega) fun w iw => ?_
      refine E_addI (by omega) (by omega) ?_
      have hk1 := hk (i + 1, ⟨w, iw.pf⟩) ⟨by simp only; omega, fun j hj => by
        rcases Nat.lt_or_ge j i with h' | h'
        · exact hz j h'
        · have : j = i := by omega
          subst this
          exact h1⟩ (by simp only; omega)
      simp only [rdB_suc] at hk1
      exact sm hk1
  · have hie : i = n := by omega
    subst hie
    have e : rdA D x i = (0, rdB D x i) := by unfold rdA; rw [h0]; simp
    have h' := h o
    rw [e] at h'
    exact sm h'
end Go.Proofs.YtmbfmkiagdhcoaaGreat.Bn
end
section
namespace Go.Proofs.YtmbfmkiagdhcoaaGreat.Bn
open Go Go.SL Go.Proofs Go.Proofs.YtmbfmkiagdhcoaaGreat.Sh Go.Proofs.YtmbfmkiagdhcoaaGreat.Oct Go.Proofs.YtmbfmkiagdhcoaaGreat.Disk Go.Proofs.YtmbfmkiagdhcoaaGreat.Slot Go.Proofs.YtmbfmkiagdhcoaaGreat.Pk Go.Proofs.YtmbfmkiagdhcoaaGreat.Ext
variable {B : World} {H : List Asrt} {K : Value → WT} {W : WT}
abbrev nl : Value := .slice none 0 0
theorem parse_slots {b : List UInt8} (hm : b.length ≤ 1000000000) : ∀ s ∈ (parseL b).2.2.2, s.pos ≤ 1000000000000 ∧ s.len ≤ 512 := by
  have key : ∀ (l : List Sl) (q : Nat), (∀ s ∈ l, s.len ≤ 512) → (∀ n p q', l = rowsL b n p q' → q' ≤ q → ∀ s ∈ l, s.pos ≤ q + 512 * l.length) := by
    intro l
    induction l with
    | nil => intro q _ n p q' _ _ s hs; cases hs
    | cons x l ih =>
      intro q hl n p q' hr hq s hs
      cases n with
      | zero => simp [rowsL] at hr
      | succ n =>
        rw [rowsL] at hr
        simp only [List.cons.injEq] at hr
        obtain ⟨hx, hr⟩ := hr
        have hxl := hl x (List.mem_cons_self ..)
        rw [hx] at hxl
        simp only at hxl
        rcases List.mem_cons.1 hs with rfl | hs
        · rw [hx]; simp only [List.length_cons]; omega
        · have := ih (q + 512) (fun s hs => hl s (List.mem_cons_of_mem _ hs)) n (p + 34) (q' + tabE b p) hr (by omega) s hs
          simp only [List.length_cons]; omega
  intro s hs
  unfold parseL at hs
  dsimp only at hs
  split at hs
  · cases hs
  rename_i h0
  have h0 : headE b = 0 := by simpa using h0
  obtain ⟨_, _, h3, _⟩ := headE_0 h0
  split at hs
  · cases hs
  split at hs
  · cases hs
  rename_i hok
  split at hs
  · cases hs
  have hok := okE_iff.1 (by simpa using hok)
  have hk := key _ 128 (fun s hs => (hok s hs).2) _ _ _ rfl (Nat.le_refl _) s hs
  rw [rows_len] at hk
  exact ⟨by omega, (hok s hs).2⟩
abbrev binV (x : Par) (u : Value) : Value := .agg #[I x.1, I x.2.1, u]
attribute [local irreducible] S.pick S.ld S.ldN S.st S.box S.nc S.fad S.ixS S.ixA S.chr S.prt S.ext S.bin S.sh S.sbin S.beq S.neg1 S.com1 S.not1 S.cvt S.str1 S.lenS S.len S.cap S.lenM S.mx S.mn S.mkM S.cond S.gd S.fa S.dr S.rck S.join S.loop S.cvv S.eqv S.slc S.slcS S.b2s S.lk V U CF Gives E cel mpb osl ros dct dit itr lpo dfo
theorem E_none {v5 a d m : Nat} {S : Shf} {b e : Int} {l : List Value} (hl : l.length = 3) (he : wholeV S b = (e, [], 0, 0, []))
    (h : ∀ v u [CellI v] [CellI u], E B (sls cB 5 1 v (wholeV S b).2.1 :: sls cSl 109 34 u (wholeV S b).2.2.2.2 :: shf a d m S :: H) (K (.tuple #[v, binV (wholeV S b).2.2 u, I (wholeV S b).1]))) :
    E B (cel true v5 58 l :: shf a d m S :: H) (V Tryz.prog (Instr.build 58 #[]) fun v13 => SL.S.st 3 (ptr v5) v13 fun _ => SL.S.ldN 3 (ptr v5) fun v5' => K (.tuple #[nl, v5', I e])) := by
  refine Dig.E_Vr build0 ?_
  refine E_stW (vs := [I 0, I 0, nl]) rfl hl ?_
  refine E_ldNA ?_
  refine sls_nil cSl 34 (T := 109) ?_
  refine sls_nil cB 1 (T := 5) ?_
  have h' := h nl nl
  rw [he] at h'
  exact sm h'
theorem whole {a d m : Nat} {S : Shf} {b : Int} (hi : Inv S)
    (h : ∀ v u [CellI v] [CellI u], E B (sls cB 5 1 v (wholeV S b).2.1 :: sls cSl 109 34 u (wholeV S b).2.2.2.2 :: shf a d m S :: H) (K (.tuple #[v, binV (wholeV S b).2.2 u, I (wholeV S b).1]))) :
    E B (shf a d m S :: H) (CF Tryz.prog 42 [ptr a, I b] K) := by
  refine E_mono (W := s42 _ _ K) ?_ fun _ => c42
  unfold s42
  refine E_box (v := binV (0, 0, []) nl) (vs := [I 0, I 0, nl]) fun v5 => ?_
  refine E_peq u_pSh ?_
  refine E_ff ?_
  refine fd (a := shf a d m S) ?_
  refine shknown ?_
  refine E_notb ?_
  cases ho : known S.P b with
  | none =>
    refine E_tt ?_
    refine fd (a := cel true v5 58 [I 0, I 0, nl]) ?_
    exact E_none rfl (by unfold wholeV; rw [ho]) h
  | some p =>
    obtain ⟨hp, hb⟩ := known_some ho
    obtain ⟨c1, c2, c3, c4, c5⟩ := hi.pc p hp
    have hle := hi.le
    refine E_ff ?_
    refine E_shf fun r kv hk => ?_
    have hl := hk.look b
    rw [ho] at hl
    refine E_dr ?_
    refine E_nc ?_
    refine E_fad0 ?_
    refine E_nc ?_
    refine E_fad0 ?_
    refine E_ld ?_
    refine E_dlk1 (κ := Int) (enc := kI) (k := b) hl ?_
    refine sm (G := cel true a 97 [ptr d, ptr m, .map (some r)] :: disk d S.D :: xmap m S.f (S.f + S.T.length) S.R :: dct kI true r kv :: cel true v5 58 [I 0, I 0, nl] :: H) ?_
    refine gread (x := p.pos) (n := p.n) (by omega) (by omega) fun hD v iv => ?_
    refine E_ext ?_
    refine E_ext ?_
    refine E_neq ?_
    have hw : wholeV S b = if rdE S.D p.pos p.n ≠ 0 then (rdE S.D p.pos p.n, [], 0, 0, []) else
        if (parseL (rdB S.D p.pos p.n)).1 ≠ 0 ∨ ((parseL (rdB S.D p.pos p.n)).2.1 : Int) ≠ b then (13, [], 0, 0, []) else (0, rdB S.D p.pos p.n, (parseL (rdB S.D p.pos p.n)).2) := by unfold wholeV; rw [ho]
    have hbl := rdB_len hD p.pos p.n
    unfold rdA
    by_cases h0 : rdE S.D p.pos p.n ≠ 0
    · rw [if_pos h0] at hw ⊢
      refine E_ifT h0 ?_
      refine E_drop ?_
      refine sm (G := cel true a 97 [ptr d, ptr m, .map (some r)] :: disk d S.D :: xmap m S.f (S.f + S.T.length) S.R :: dct kI true r kv :: cel true v5 58 [I 0, I 0, nl] :: H) ?_
      refine E_shfS hk rfl rfl rfl rfl ?_
      refine fd (a := cel true v5 58 [I 0, I 0, nl]) ?_
      exact E_none rfl hw h
    rw [if_neg h0] at hw ⊢
    refine E_ifF (by simp) ?_
    refine pkparse (v := v) (b := rdB S.D p.pos p.n) (by omega) fun u iu => ?_
    unfold parA
    refine E_ext ?_
    refine E_ext ?_
    generalize rdB S.D p.pos p.n = bs at hw hbl ⊢
    generalize hP : parseL bs = P at hw ⊢
    refine E_box (v := binV (0, 0, []) nl) (vs := [I 0, I 0, nl]) fun v9 => ?_
    refine E_stW (v := binV P.2 u) (vs := [I P.2.1, I P.2.2.1, u]) rfl rfl ?_
    refine E_join1 (n := 4) [ptr v5, v, ptr v9, .bool (decide (P.1 ≠ 0 ∨ (P.2.1 : Int) ≠ b))] (cel true v9 58 [I P.2.1, I P.2.2.1, u] :: sls cB 5 1 v bs :: sls cSl 109 34 u P.2.2.2 :: cel true a 97 [ptr d, ptr m, .map (some r)] :: disk d S.D :: xmap m S.f (S.f + S.T.length) S.R :: dct kI true r kv :: cel true v5 58 [I 0, I 0, nl] :: H) (fun q hq => ?_) ?_
    · refine E_neq ?_
      by_cases h1 : P.1 ≠ 0
      · rw [decide_eq_true (.inl h1)] at hq
        rw [decide_eq_true h1]
        refine E_gtt ?_
        refine E_gtt ?_
        refine E_gtt ?_
        refine E_gtt ?_
        refine E_ptt ?_
        exact sm hq
      · have e : decide (P.1 ≠ 0 ∨ (P.2.1 : Int) ≠ b) = decide ((P.2.1 : Int) ≠ b) := by rw [decide_eq_decide]; constructor <;> intro h' <;> first | exact .inr h' | exact h'.resolve_left h1
        rw [e] at hq
        rw [decide_eq_false h1]
        refine E_gft ?_
        refine E_fad0 ?_
        refine E_gft ?_
        refine E_ld ?_
        refine E_gft ?_
        refine E_gft ?_
        refine E_neq ?_
        refine E_pff ?_
        exact sm hq
    refine E_fa fun _ => ?_
    refine E_if (fun hc => ?_) (fun hc => ?_)
    · rw [if_pos hc] at hw
      refine sm (G := cel true a 97 [ptr d, ptr m, .map (some r)] :: disk d S.D :: xmap m S.f (S.f + S.T.length) S.R :: dct kI true r kv :: cel true v5 58 [I 0, I 0, nl] :: H) ?_
      refine E_shfS hk rfl rfl rfl rfl ?_
      refine fd (a := cel true v5 58 [I 0, I 0, nl]) ?_
      exact E_none rfl hw h
    · rw [if_neg hc] at hw
      refine E_dr ?_
      refine E_ldNA ?_
      refine E_stW (vs := [I P.2.1, I P.2.2.1, u]) rfl rfl ?_
      refine E_ldNA ?_
      have h' := h v u
      rw [hw] at h'
      refine sm (G := cel true a 97 [ptr d, ptr m, .map (some r)] :: disk d S.D :: xmap m S.f (S.f + S.T.length) S.R :: dct kI true r kv :: sls cB 5 1 v bs :: sls cSl 109 34 u P.2.2.2 :: H) ?_
      refine E_shfS hk rfl rfl rfl rfl ?_
      exact sm h'
theorem whole_len {S : Shf} {b : Int} : (wholeV S b).1 = 0 → (∃ p, known S.P b = some p ∧ (wholeV S b).2.1 = rdB S.D p.pos p.n ∧ (wholeV S b).2.2 = (parseL (rdB S.D p.pos p.n)).2) := by
  unfold wholeV
  split
  · intro h; cases h
  · split
    · rename_i h0; intro h; exact absurd h h0
    · split
      · intro h; cases h
      · rename_i p ho _ _
        intro _
        exact ⟨p, ho, rfl, rfl⟩
theorem chunk {a d m : Nat} {S : Shf} {b i : Int} (hi : Inv S)
    (h : ∀ v [CellI v], E B (sls cB 5 1 v (chunkV S b i).2 :: shf a d m S :: H) (K (.tuple #[v, I (chunkV S b i).1]))) :
    E B (shf a d m S :: H) (CF Tryz.prog 14 [ptr a, I b, I i] K) := by
  refine E_mono (W := s14 _ _ _ K) ?_ fun _ => c14
  unfold s14
  refine E_shf fun r kv hk => ?_
  refine fd (a := disk d S.D) ?_
  refine E_dkok fun hD => ?_
  refine sm (G := cel true a 97 [ptr d, ptr m, .map (some r)] :: disk d S.D :: xmap m S.f (S.f + S.T.length) S.R :: dct kI true r kv :: H) ?_
  refine E_shfS hk rfl rfl rfl rfl ?_
  refine whole hi fun v u iv iu => ?_
  have hwl := whole_len (S := S) (b := b)
  have er : ∀ (e : Int) (G1 G2 G3 : Asrt), chunkV S b i = (e, []) → E B (G1 :: G2 :: G3 :: shf a d m S :: H) (K (.tuple #[nl, I e])) := fun e G1 G2 G3 he => by
    have h' := h nl
    rw [he] at h'
    refine sls_nil cB 1 (T := 5) ?_
    exact sm h'
  have hch : chunkV S b i = if (wholeV S b).1 ≠ 0 then ((wholeV S b).1, []) else
    if i < 0 ∨ ((wholeV S b).2.2.2.2.length : Int) ≤ i then (9, []) else match (wholeV S b).2.2.2.2[i.toNat]? with
    | none => (9, [])
    | some s => if (chunkL (wholeV S b).2.1 s).1 ≠ 0 then (13, []) else (0, (chunkL (wholeV S b).2.1 s).2) := rfl
  generalize wholeV S b = w at hwl hch ⊢
  refine E_ext ?_
  refine E_ext ?_
  refine E_ext ?_
  refine E_box (v := binV (0, 0, []) nl) (vs := [I 0, I 0, nl]) fun v9 => ?_
  refine E_stW (v := binV w.2.2 u) (vs := [I w.2.2.1, I w.2.2.2.1, u]) rfl rfl ?_
  refine E_neq ?_
  refine E_if (fun hc => ?_) (fun hc => ?_)
  · rw [if_pos hc] at hch
    exact er _ _ _ _ hch
  rw [if_neg hc] at hch
  obtain ⟨p, hkp, hw1, hw2⟩ := hwl (by simpa using hc)
  obtain ⟨c1, c2, c3, c4, c5⟩ := hi.pc p (known_some hkp).1
  have hbl := rdB_len hD p.pos p.n
  refine E_join1 (n := 4) [I i, v, ptr v9, .bool (decide (i < 0 ∨ (w.2.2.2.2.length : Int) ≤ i))] (cel true v9 58 [I w.2.2.1, I w.2.2.2.1, u] :: sls cB 5 1 v w.2.1 :: sls cSl 109 34 u w.2.2.2.2 :: shf a d m S :: H) (fun q hq => ?_) ?_
  · refine E_lss ?_
    by_cases h1 : i < 0
    · rw [decide_eq_true (.inl h1)] at hq
      rw [decide_eq_true h1]
      refine E_gtt ?_
      refine E_gtt ?_
      refine E_gtt ?_
      refine E_gtt ?_
      refine E_gtt ?_
      refine E_ptt ?_
      exact hq
    · have e : decide (i < 0 ∨ (w.2.2.2.2.length : Int) ≤ i) = decide ((w.2.2.2.2.length : Int) ≤ i) := by rw [decide_eq_decide]; omega
      rw [e] at hq
      rw [decide_eq_false h1]
      refine E_gft ?_
      refine E_gft ?_
      refine E_fad0 ?_
      refine E_gft ?_
      refine E_ld ?_
      refine E_gft ?_
      refine E_rslen (v := u) (l := w.2.2.2.2) ?_
      refine E_gft ?_
      refine E_geq ?_
      refine E_pff ?_
      exact hq
  refine E_fa fun _ => ?_
  refine E_if (fun hc1 => ?_) (fun hc1 => ?_)
  · rw [if_pos hc1] at hch
    exact er 9 _ _ _ hch
  rw [if_neg hc1] at hch
  obtain ⟨j, rfl⟩ : ∃ j : Nat, i = (j : Int) := ⟨i.toNat, by omega⟩
  rw [Int.toNat_natCast] at hch
  have hx : w.2.2.2.2[j]? = some (w.2.2.2.2[j]'(by omega)) := List.getElem?_eq_getElem (by omega)
  have hpos := parse_slots (b := rdB S.D p.pos p.n) (by omega) (w.2.2.2.2[j]'(by omega)) (by rw [← hw2]; exact List.getElem_mem _)
  generalize (w.2.2.2.2[j]'(by omega)) = s at hx hpos
  rw [hx] at hch
  dsimp only at hch
  refine E_fad0 ?_
  refine E_ld ?_
  refine E_rsix (v := u) (l := w.2.2.2.2) hx fun _ _ => ?_
  refine E_ptldN (cs := cSl s) (by rw [List.drop_zero, List.take_of_length_le (by rw [cSl_len]; omega)]) (cSl_len s) ?_
  refine pkchunk (v := v) (b := w.2.1) (s := s) (by rw [hw1]; omega) (by omega) (by omega) fun x ix => ?_
  unfold chA
  refine E_ext ?_
  refine E_ext ?_
  refine E_neq ?_
  refine E_if (fun hc2 => ?_) (fun hc2 => ?_)
  · rw [if_pos hc2] at hch
    refine E_drop ?_
    exact er 13 _ _ _ hch
  · rw [if_neg hc2] at hch
    have h' := h x
    rw [hch] at h'
    exact sm h'
end Go.Proofs.YtmbfmkiagdhcoaaGreat.Bn
end
section
namespace Go.Proofs.YtmbfmkiagdhcoaaGreat.Bn
open Go Go.SL Go.Proofs Go.Proofs.YtmbfmkiagdhcoaaGreat.Sh Go.Proofs.YtmbfmkiagdhcoaaGreat.Oct Go.Proofs.YtmbfmkiagdhcoaaGreat.Disk Go.Proofs.YtmbfmkiagdhcoaaGreat.Slot Go.Proofs.YtmbfmkiagdhcoaaGreat.Pk Go.Proofs.YtmbfmkiagdhcoaaGreat.Ext
variable {B : World} {H : List Asrt} {K : Value → WT} {W : WT}
theorem u_pMapB : Tryz.prog.underlying 74 = some (.pointer 127) := by kernel_rfl
theorem u_pDiskB : Tryz.prog.underlying 37 = some (.pointer 121) := by kernel_rfl
theorem buildG (d m : Nat) (w : World) : (Instr.build 94 #[(0, ptr d), (1, ptr m)]).run Tryz.prog w = .ok (.agg #[ptr d, ptr m]) w := by kernel_rfl
theorem buildSh (d m r : Nat) (w : World) : (Instr.build 97 #[(0, .agg #[ptr d, ptr m]), (1, .map (some r))]).run Tryz.prog w = .ok (.agg #[ptr d, ptr m, .map (some r)]) w := by kernel_rfl
attribute [local irreducible] S.pick S.ld S.ldN S.st S.box S.nc S.fad S.ixS S.ixA S.chr S.prt S.ext S.bin S.sh S.sbin S.beq S.neg1 S.com1 S.not1 S.cvt S.str1 S.lenS S.len S.cap S.lenM S.mx S.mn S.mkM S.cond S.gd S.fa S.dr S.rck S.join S.loop S.cvv S.eqv S.slc S.slcS S.b2s S.lk V U CF Gives E cel mpb osl ros dct dit itr lpo dfo
theorem bnew {d m f : Nat} {D : Dk} {T : List Bool} {R : List Rn} (h : ∀ a, E B (shf a d m ⟨D, f, T, R, []⟩ :: H) (K (.tuple #[ptr a, I 0]))) : E B (disk d D :: xmap m f (f + T.length) R :: H) (CF Tryz.prog 15 [ptr d, ptr m] K) := by
  refine E_mono (W := s15 _ _ K) ?_ fun _ => c15
  unfold s15
  refine E_join1 (n := 3) [ptr d, ptr m, .bool false] (disk d D :: xmap m f (f + T.length) R :: H) (fun q hq => ?_) ?_
  · refine E_peq u_pDiskB ?_
    refine E_gft ?_
    refine E_gft ?_
    refine E_peq u_pMapB ?_
    refine E_pff ?_
    exact hq
  refine E_fa fun _ => ?_
  refine E_ff ?_
  refine Dig.E_Vr (buildG d m) ?_
  refine E_mkM fun r => E_dnew (enc := kI) ?_
  refine Dig.E_Vr (buildSh d m r) ?_
  refine E_box (v := .agg #[ptr d, ptr m, .map (some r)]) (vs := [ptr d, ptr m, .map (some r)]) fun a => ?_
  refine sm (G := cel true a 97 [ptr d, ptr m, .map (some r)] :: disk d D :: xmap m f (f + T.length) R :: dct kI true r [] :: H) ?_
  exact E_shfS (S := ⟨D, f, T, R, []⟩) KV.nil rfl rfl rfl rfl (h a)
abbrev plV (b x n : Int) : Value := .agg #[I b, I x, I n]
theorem claim {a d m : Nat} {Z : Shf} {b x n : Int} (hi : Inv Z) (h : E B (shf a d m (claimS Z b x n).2 :: H) (K (I (claimS Z b x n).1))) : E B (shf a d m Z :: H) (CF Tryz.prog 11 [ptr a, plV b x n] K) := by
  refine E_mono (W := s11 _ _ K) ?_ fun _ => c11
  unfold s11
  refine E_box (v := plV b x n) (vs := [I b, I x, I n]) fun v3 => ?_
  refine E_peq u_pSh ?_
  refine E_ff ?_
  unfold claimS at h
  refine E_join1 (n := 3) [ptr a, ptr v3, .bool (decide (b < 0 ∨ 4096 ≤ b ∨ n < 2 ∨ 64 < n))] (cel true v3 34 [I b, I x, I n] :: shf a d m Z :: H) (fun q hq => ?_) ?_
  · by_cases h1 : b < 0
    · rw [decide_eq_true (.inl h1)] at hq
      (repeat first | refine gS ?_ | refine gA fun _ => ?_ | refine gX fun _ _ => ?_ | refine gT ?_ | refine gF ?_ | refine gI ?_)
      exact hq
    · by_cases h2 : (4096 : Int) ≤ b
      · rw [decide_eq_true (.inr (.inl h2))] at hq
        (repeat first | refine gS ?_ | refine gA fun _ => ?_ | refine gX fun _ _ => ?_ | refine gT ?_ | refine gF ?_ | refine gI ?_)
        exact hq
      · by_cases h3 : n < 2
        · rw [decide_eq_true (.inr (.inr (.inl h3)))] at hq
          (repeat first | refine gS ?_ | refine gA fun _ => ?_ | refine gX fun _ _ => ?_ | refine gT ?_ | refine gF ?_ | refine gI ?_)
          exact hq
        · have e : decide (b < 0 ∨ 4096 ≤ b ∨ n < 2 ∨ 64 < n) = decide (64 < n) := by rw [decide_eq_decide]; omega
          rw [e] at hq
          (repeat first | refine gS ?_ | refine gA fun _ => ?_ | refine gX fun _ _ => ?_ | refine gT ?_ | refine gF ?_ | refine gI ?_)
          exact hq
  refine E_fa fun _ => ?_
  refine E_if (fun hc => ?_) (fun hc => ?_)
  · rw [if_pos hc] at h
    exact sm h
  rw [if_neg hc] at h
  refine E_fad0 ?_
  refine E_ld ?_
  refine fd (a := shf a d m Z) ?_
  refine shknown ?_
  cases ho : known Z.P b with
  | some p =>
    rw [if_pos (by rw [ho]; rfl)] at h
    refine E_tt ?_
    exact sm h
  | none =>
    rw [if_neg (by rw [ho]; decide)] at h
    refine E_ff ?_
    refine E_shf fun r kv hk => ?_
    refine E_dr ?_
    refine E_nc ?_
    refine E_fad0 ?_
    refine E_fad0 ?_
    refine E_ld ?_
    refine E_fad0 ?_
    refine E_ldN (cs := [I x, I n]) rfl rfl ?_
    refine fd (a := xmap m Z.f (Z.f + Z.T.length) Z.R) ?_
    refine xclaim hi.xok ?_
    refine E_neq ?_
    obtain ⟨r1, r2, r3⟩ := rel_claim hi.rel x n
    refine E_if (fun hc1 => ?_) (fun hc1 => ?_)
    · rw [if_pos hc1] at h
      refine sm (G := cel true a 97 [ptr d, ptr m, .map (some r)] :: disk d Z.D :: xmap m Z.f (Z.f + Z.T.length) (claimV Z.f (Z.f + Z.T.length) Z.R x n).2 :: dct kI true r kv :: H) ?_
      exact E_shfS (S := claimN Z x n) hk rfl rfl (by simp only [claimN]; rw [r2]) rfl h
    · rw [if_neg hc1] at h
      refine E_dr ?_
      refine E_nc ?_
      refine E_fad0 ?_
      refine E_ld ?_
      refine E_fad0 ?_
      refine E_ld ?_
      refine E_fad0 ?_
      refine E_ldN (cs := [I x, I n]) rfl rfl ?_
      refine E_dmu (κ := Int) (enc := kI) (k := b) Shf.key_mapIR ?_
      obtain ⟨c1, c2, c3, c4, c5⟩ := claim_ok hi (by simpa using hc1)
      have eb : b = ((b.toNat : Nat) : Int) := by omega
      have hkn : known Z.P (b.toNat : Nat) = none := by rw [← eb]; exact ho
      have hput := hk.put (p := ⟨b.toNat, x.toNat, n.toNat⟩) hkn
      have epc : pcV ⟨b.toNat, x.toNat, n.toNat⟩ = pI x n := by
        unfold pcV
        simp only
        rw [show ((x.toNat : Nat) : Int) = x by omega, show ((n.toNat : Nat) : Int) = n by omega]
      rw [epc] at hput
      simp only at hput
      rw [← eb] at hput
      refine sm (G := cel true a 97 [ptr d, ptr m, .map (some r)] :: disk d Z.D :: xmap m Z.f (Z.f + Z.T.length) (claimV Z.f (Z.f + Z.T.length) Z.R x n).2 :: dct kI true r (dput kv b (pI x n)) :: H) ?_
      exact E_shfS (S := { claimN Z x n with P := putP Z.P ⟨b.toNat, x.toNat, n.toNat⟩ }) hput rfl rfl (by simp only [claimN]; rw [r2]) rfl h
theorem free {a d m : Nat} {Z : Shf} {b : Int} (hi : Inv Z) (h : E B (shf a d m (freeS Z b).2 :: H) (K (I (freeS Z b).1))) : E B (shf a d m Z :: H) (CF Tryz.prog 12 [ptr a, I b] K) := by
  refine E_mono (W := s12 _ _ K) ?_ fun _ => c12
  unfold s12
  unfold freeS at h
  refine E_peq u_pSh ?_
  refine E_ff ?_
  refine shknown ?_
  refine E_notb ?_
  cases ho : known Z.P b with
  | none =>
    rw [ho] at h
    refine E_tt ?_
    exact h
  | some p =>
    rw [ho] at h
    obtain ⟨hp, hb⟩ := known_some ho
    refine E_ff ?_
    refine E_shf fun r kv hk => ?_
    have hl := hk.look b
    rw [ho] at hl
    refine E_dr ?_
    refine E_nc ?_
    refine E_fad0 ?_
    refine E_fad0 ?_
    refine E_ld ?_
    refine E_nc ?_
    refine E_fad0 ?_
    refine E_ld ?_
    refine E_dlk1 (κ := Int) (enc := kI) (k := b) hl ?_
    refine fd (a := xmap m Z.f (Z.f + Z.T.length) Z.R) ?_
    refine xgive hi.xok ?_
    refine E_nc ?_
    refine E_fad0 ?_
    refine E_ld ?_
    refine E_ddel (κ := Int) (enc := kI) (k := b) rfl Shf.key_mapIR ?_
    obtain ⟨r1, r2, r3⟩ := rel_giveV hi.rel (p.pos : Int) (p.n : Int)
    refine sm (G := cel true a 97 [ptr d, ptr m, .map (some r)] :: disk d Z.D :: xmap m Z.f (Z.f + Z.T.length) (giveV Z.f (Z.f + Z.T.length) Z.R p.pos p.n).2 :: dct kI true r (ddel kv b) :: H) ?_
    exact E_shfS (S := { giveN Z p.pos p.n with P := delP Z.P b }) (hk.del b) rfl rfl (by simp only [giveN]; rw [r2]) rfl h
theorem fresh_is {P : List Pc} {i : Nat} (h : i < 4096) (hk : known P i = none) (hz : ∀ j, j < i → (known P (j : Nat)).isSome = true) : freshN P = i := by
  unfold freshN
  have : (List.range 4096).find? (fun n : Nat => (known P (n : Int)).isNone) = some i := by
    rw [List.find?_range_eq_some]
    refine ⟨by rw [hk]; rfl, by simp [h], fun j hj => ?_⟩
    have := hz j hj
    cases hkj : known P (j : Nat) with
    | none => rw [hkj] at this; cases this
    | some p => rfl
  rw [this]
theorem fresh_no {P : List Pc} (hz : ∀ j, j < 4096 → (known P (j : Nat)).isSome = true) : freshN P = -1 := by
  unfold freshN
  rw [List.find?_eq_none.2]
  intro j hj
  have := hz j (List.mem_range.1 hj)
  cases hkj : known P (j : Nat) with
  | none => rw [hkj] at this; cases this
  | some p => simp
theorem fresh {a d m : Nat} {Z : Shf} (h : E B (shf a d m Z :: H) (K (I (freshN Z.P)))) : E B (shf a d m Z :: H) (CF Tryz.prog 16 [ptr a] K) := by
  refine E_mono (W := s16 _ K) ?_ fun _ => c16
  unfold s16
  refine E_peq u_pSh ?_
  refine E_ff ?_
  refine E_loop (n := 2) (σ := Nat) (fun i => i ≤ 4096 ∧ ∀ j, j < i → (known Z.P (j : Nat)).isSome = true) (fun i => [ptr a, I i]) (fun _ => shf a d m Z :: H) (fun i => 4096 - i) 0 (fun _ => rfl) rfl ⟨Nat.zero_le _, fun j hj => by omega⟩ (fun W hW => hW) ?_
  rintro i K0 ⟨hi, hz⟩ hk
  refine E_fa fun _ => ?_
  refine E_lss ?_
  refine E_if (fun hc => ?_) (fun hc => ?_)
  · refine shknown ?_
    refine E_notb ?_
    cases ho : known Z.P (i : Nat) with
    | none =>
      refine E_tt ?_
      rw [fresh_is (by omega) ho hz] at h
      exact h
    | some p =>
      refine E_ff ?_
      refine E_addI (by omega) (by omega) ?_
      refine hk (i + 1) ⟨by omega, fun j hj => ?_⟩ (by omega)
      rcases Nat.lt_or_ge j i with h' | h'
      · exact hz j h'
      · have : j = i := by omega
        subst this
        rw [ho]; rfl
  · have : i = 4096 := by omega
    subst this
    rw [fresh_no hz] at h
    exact h
end Go.Proofs.YtmbfmkiagdhcoaaGreat.Bn
end
section
namespace Go.Proofs.YtmbfmkiagdhcoaaGreat.Bn
open Go Go.SL Go.Proofs Go.Proofs.YtmbfmkiagdhcoaaGreat.Sh Go.Proofs.YtmbfmkiagdhcoaaGreat.Oct Go.Proofs.YtmbfmkiagdhcoaaGreat.Disk Go.Proofs.YtmbfmkiagdhcoaaGreat.Slot Go.Proofs.YtmbfmkiagdhcoaaGreat.Pk Go.Proofs.YtmbfmkiagdhcoaaGreat.Ext
variable {B : World} {H : List Asrt} {K : Value → WT} {W : WT}
abbrev cPl (p : Pc) : List Value := [I p.bin, I p.pos, I p.n]
instance encPl : Enc cPl 3 := ⟨fun _ => rfl, fun p y hy => by
  simp only [List.mem_cons, List.not_mem_nil, or_false] at hy
  rcases hy with rfl | rfl | rfl <;> rfl⟩
theorem u_places : Tryz.prog.underlying 67 = some (.slice 34) := by kernel_rfl
theorem elt_place : Elt Tryz.prog 34 3 24 [I 0, I 0, I 0] := elt_of (zv := .agg #[I 0, I 0, I 0]) (by kernel_rfl) rfl rfl
theorem buildPl (b x n : Int) (w : World) : (Instr.build 34 #[(0, I b), (1, .agg #[I x, I n])]).run Tryz.prog w = .ok (.agg #[I b, I x, I n]) w := by kernel_rfl
theorem buildPl0 (w : World) : (Instr.build 34 #[]).run Tryz.prog w = .ok (.agg #[I 0, I 0, I 0]) w := by kernel_rfl
theorem srt_len {N : Nat} : ∀ {P : List Pc} (lo : Nat), Srt P → (∀ p ∈ P, lo ≤ p.bin ∧ p.bin < N) → P.length ≤ N - lo
  | [], _, _, _ => Nat.zero_le _
  | q :: P, lo, hs, h => by
    have h2 := List.pairwise_cons.1 hs
    have h1 := h q (List.mem_cons_self ..)
    have := srt_len (P := P) (q.bin + 1) h2.2 fun p hp => ⟨h2.1 p hp, (h p (List.mem_cons_of_mem _ hp)).2⟩
    simp only [List.length_cons]
    omega
theorem Inv.plen {Z : Shf} (h : Inv Z) : Z.P.length ≤ 4096 := srt_len 0 h.sort fun p hp => ⟨Nat.zero_le _, (h.pc p hp).1⟩
theorem sort_bins {Z : Shf} (h : Srt Z.P) {zs : List Int} (hz : zs.Perm (Z.P.map fun p : Pc => (p.bin : Int))) : sortI zs = Z.P.map fun p : Pc => (p.bin : Int) := by
  refine List.Perm.eq_of_pairwise (le := fun x y : Int => x ≤ y) (fun a b _ _ h1 h2 => by omega) ?_ ?_ ((List.mergeSort_perm ..).trans hz)
  · have := List.pairwise_mergeSort (le := fun x y : Int => decide (x ≤ y)) (by intro a b c; simp; omega) (by intro a b; simp; omega) zs
    exact this.imp fun h => by simpa using h
  · rw [List.pairwise_map]
    exact h.imp fun h => by omega
theorem known_at {P : List Pc} (h : Srt P) {i : Nat} {p : Pc} (hp : P[i]? = some p) : known P p.bin = some p := by
  induction P generalizing i with
  | nil => simp at hp
  | cons q P ih =>
    have h2 := List.pairwise_cons.1 h
    unfold known
    cases i with
    | zero =>
      simp only [List.getElem?_cons_zero, Option.some.injEq] at hp
      subst hp
      rw [List.find?_cons_of_pos (by simp)]
    | succ i =>
      simp only [List.getElem?_cons_succ] at hp
      have := h2.1 p (List.mem_of_getElem? hp)
      rw [List.find?_cons_of_neg (by simp; omega)]
      exact ih h2.2 hp
attribute [local irreducible] S.pick S.ld S.ldN S.st S.box S.nc S.fad S.ixS S.ixA S.chr S.prt S.ext S.bin S.sh S.sbin S.beq S.neg1 S.com1 S.not1 S.cvt S.str1 S.lenS S.len S.cap S.lenM S.mx S.mn S.mkM S.cond S.gd S.fa S.dr S.rck S.join S.loop S.cvv S.eqv S.slc S.slcS S.b2s S.lk V U CF Gives E cel mpb osl ros dct dit itr lpo dfo
theorem places {a d m : Nat} {Z : Shf} (hi : Inv Z) (h : ∀ v [CellI v], E B (sls cPl 34 3 v Z.P :: shf a d m Z :: H) (K v)) : E B (shf a d m Z :: H) (CF Tryz.prog 18 [ptr a] K) := by
  refine E_mono (W := s18 _ K) ?_ fun _ => c18
  unfold s18
  have hpl := hi.plen
  refine E_joinC (σ := Pk.Cv) (fun _ => True) (fun v => [v.1]) (fun v => sls cPl 34 3 v.1 Z.P :: shf a d m Z :: H) (fun kk hkk => ?_) (fun s _ => ?_)
  · refine E_pne u_pSh ?_
    refine E_tt ?_
    refine E_shf fun r kv hk => ?_
    refine E_nc ?_
    refine E_fad0 ?_
    refine E_ld ?_
    have hkl := hk.len
    refine Shf.sortedKeys (by omega) fun sv zs hz => ?_
    have hs := sort_bins hi.sort (hz.trans hk.keys)
    rw [hs]
    have hbl : (Z.P.map fun p : Pc => (p.bin : Int)).length = kv.length := by rw [List.length_map, hkl]
    rw [← hbl]
    refine E_rslen (v := sv) (l := Z.P.map fun p : Pc => (p.bin : Int)) ?_
    refine sls_nil cPl 3 (T := 34) ?_
    rw [List.length_map]
    refine E_loop (n := 5) (σ := Nat × Pk.Cv) (fun s => s.1 ≤ Z.P.length) (fun s => [ptr a, s.2.1, sv, I Z.P.length, I s.1])
      (fun s => sls cPl 34 3 s.2.1 (Z.P.take s.1) :: osl 3 1 sv (Z.P.map fun p : Pc => (p.bin : Int)).length (ints (Z.P.map fun p : Pc => (p.bin : Int))) :: cel true a 97 [ptr d, ptr m, .map (some r)] :: disk d Z.D :: xmap m Z.f (Z.f + Z.T.length) Z.R :: dct kI true r kv :: H) (fun s => Z.P.length - s.1) (0, ⟨nl, rfl⟩) (fun _ => rfl) rfl (Nat.zero_le _) (fun W hW => ?_) ?_
    · simp only [List.length_map] at hW
      exact sm (G := sls cPl 34 3 nl [] :: osl 3 1 sv Z.P.length (ints (Z.P.map fun p : Pc => (p.bin : Int))) :: cel true a 97 [ptr d, ptr m, .map (some r)] :: disk d Z.D :: xmap m Z.f (Z.f + Z.T.length) Z.R :: dct kI true r kv :: H) hW
    rintro ⟨i, o, hco⟩ K0 hil hk0
    simp only at hil hk0 ⊢
    have io : CellI o := ⟨hco⟩
    refine E_fa fun _ => ?_
    refine E_lss ?_
    refine E_if (fun hc => ?_) (fun hc => ?_)
    · have hx : Z.P[i]? = some (Z.P[i]'(by omega)) := List.getElem?_eq_getElem (by omega)
      generalize (Z.P[i]'(by omega)) = p at hx
      have hx2 : (Z.P.map fun p : Pc => (p.bin : Int))[i]? = some (p.bin : Int) := by rw [List.getElem?_map, hx]; rfl
      have hl := hk.look p.bin
      rw [known_at hi.sort hx] at hl
      have hk1 := fun x : Pk.Cv => hk0 (i + 1, x) (by simp only; omega) (by simp only; omega)
      have ht : Z.P.take (i + 1) = Z.P.take i ++ [p] := by rw [List.take_add_one, hx]; rfl
      simp only [ht] at hk1
      have htl : (Z.P.take i).length ≤ 4096 := by rw [List.length_take]; omega
      refine E_rsix (v := sv) (l := Z.P.map fun p : Pc => (p.bin : Int)) hx2 fun _ _ => ?_
      refine E_ptld ?_
      refine E_nc ?_
      refine E_fad0 ?_
      refine E_ld ?_
      refine E_dlk1 (κ := Int) (enc := kI) (k := (p.bin : Int)) hl ?_
      refine Dig.E_Vr (buildPl _ _ _) ?_
      refine fd (a := sls cPl 34 3 o (Z.P.take i)) ?_
      refine E_sapp1 (enc := cPl) (xv := plV p.bin p.pos p.n) p u_places elt_place rfl (by omega) (by omega) (by omega) fun w iw => ?_
      refine E_addI (by omega) (by omega) ?_
      exact sm (hk1 ⟨w, iw.pf⟩)
    · have hie : i = Z.P.length := by omega
      subst hie
      rw [List.take_length]
      have := hkk ⟨o, hco⟩ trivial
      refine sm (G := cel true a 97 [ptr d, ptr m, .map (some r)] :: disk d Z.D :: xmap m Z.f (Z.f + Z.T.length) Z.R :: dct kI true r kv :: sls cPl 34 3 o Z.P :: H) ?_
      refine E_shfS hk rfl rfl rfl rfl ?_
      exact sm this
  · have is : CellI s.1 := ⟨s.2⟩
    refine E_fa fun _ => ?_
    exact h s.1
theorem used_suc {P : List Pc} {i : Nat} {p : Pc} (h : P[i]? = some p) : usedN (P.take (i + 1)) = usedN (P.take i) + p.n := by
  unfold usedN
  rw [List.take_add_one, h, List.foldl_append]; rfl
theorem used_le {P : List Pc} (h : ∀ p ∈ P, p.n ≤ 64) : usedN P ≤ 64 * P.length := by
  have key : ∀ (P : List Pc) (q : Nat), (∀ p ∈ P, p.n ≤ 64) → P.foldl (fun a p => a + p.n) q ≤ q + 64 * P.length := by
    intro P
    induction P with
    | nil => intro q _; simp
    | cons p P ih =>
      intro q h
      have h1 := h p (List.mem_cons_self ..)
      have := ih (q + p.n) fun x hx => h x (List.mem_cons_of_mem _ hx)
      simp only [List.foldl_cons, List.length_cons]; omega
  have := key P 0 h
  unfold usedN; omega
theorem used {a d m : Nat} {Z : Shf} (hi : Inv Z) (h : E B (shf a d m Z :: H) (K (I (usedN Z.P)))) : E B (shf a d m Z :: H) (CF Tryz.prog 17 [ptr a] K) := by
  refine E_mono (W := s17 _ K) ?_ fun _ => c17
  unfold s17
  have hpl := hi.plen
  refine places hi fun v _ => ?_
  refine E_rslen (v := v) (l := Z.P) ?_
  refine E_loop (n := 4) (σ := Nat) (fun i => i ≤ Z.P.length) (fun i => [I (usedN (Z.P.take i)), v, I Z.P.length, I i]) (fun _ => sls cPl 34 3 v Z.P :: shf a d m Z :: H) (fun i => Z.P.length - i) 0 (fun _ => rfl) rfl (Nat.zero_le _) (fun W hW => hW) ?_
  intro i K0 hil hk
  refine E_fa fun _ => ?_
  refine E_lss ?_
  refine E_if (fun hc => ?_) (fun hc => ?_)
  · have hx : Z.P[i]? = some (Z.P[i]'(by omega)) := List.getElem?_eq_getElem (by omega)
    have hpn := (hi.pc _ (List.getElem_mem (show i < Z.P.length by omega))).2.2.1
    generalize (Z.P[i]'(by omega)) = p at hx hpn
    have hul := used_le (P := Z.P.take i) fun p hp => (hi.pc p (List.mem_of_mem_take hp)).2.2.1
    have htl : (Z.P.take i).length ≤ 4096 := by rw [List.length_take]; omega
    have hk1 := hk (i + 1) (by omega) (by omega)
    rw [used_suc hx] at hk1
    refine E_rsix (v := v) (l := Z.P) hx fun _ _ => ?_
    refine E_ptldA ?_
    refine E_box (v := plV 0 0 0) (vs := [I 0, I 0, I 0]) fun v5 => ?_
    refine E_stW (vs := [I p.bin, I p.pos, I p.n]) rfl rfl ?_
    refine E_fad0 ?_
    refine E_fad ?_
    refine E_ld ?_
    refine E_addI (by omega) (by omega) ?_
    refine E_addI (by omega) (by omega) ?_
    rw [show (usedN (Z.P.take i) : Int) + (p.n : Int) = ((usedN (Z.P.take i) + p.n : Nat) : Int) by omega]
    exact sm hk1
  · have hie : i = Z.P.length := by omega
    subst hie
    rw [List.take_length]
    exact sm h
end Go.Proofs.YtmbfmkiagdhcoaaGreat.Bn
end
section
namespace Go.Proofs.YtmbfmkiagdhcoaaGreat.Bn
open Go Go.SL Go.Proofs Go.Proofs.YtmbfmkiagdhcoaaGreat.Sh Go.Proofs.YtmbfmkiagdhcoaaGreat.Oct Go.Proofs.YtmbfmkiagdhcoaaGreat.Disk Go.Proofs.YtmbfmkiagdhcoaaGreat.Slot Go.Proofs.YtmbfmkiagdhcoaaGreat.Pk Go.Proofs.YtmbfmkiagdhcoaaGreat.Ext
variable {B : World} {H : List Asrt} {K : Value → WT} {W : WT}
theorem buildRn (x n : Int) (w : World) : (Instr.build 32 #[(0, I x), (1, I n)]).run Tryz.prog w = .ok (.agg #[I x, I n]) w := by kernel_rfl
abbrev triV (x : Tri) : Value := plV x.1 x.2.1 x.2.2
attribute [local irreducible] S.pick S.ld S.ldN S.st S.box S.nc S.fad S.ixS S.ixA S.chr S.prt S.ext S.bin S.sh S.sbin S.beq S.neg1 S.com1 S.not1 S.cvt S.str1 S.lenS S.len S.cap S.lenM S.mx S.mn S.mkM S.cond S.gd S.fa S.dr S.rck S.join S.loop S.cvv S.eqv S.slc S.slcS S.b2s S.lk V U CF Gives E cel mpb osl ros dct dit itr lpo dfo
theorem E_noPl {v4 : Nat} {e : Int} {l : List Value} (hl : l.length = 3) (h : E B H (K (.tuple #[triV (0, 0, 0), I e]))) :
    E B (cel true v4 34 l :: H) (V Tryz.prog (Instr.build 34 #[]) fun v20 => S.st 3 (ptr v4) v20 fun _ => S.ldN 3 (ptr v4) fun v4' => K (.tuple #[v4', I e])) := by
  refine Dig.E_Vr buildPl0 ?_
  refine E_stW (vs := [I 0, I 0, I 0]) rfl hl ?_
  refine E_ldNA ?_
  exact E_drop h
theorem img_le {id wd : Nat} {L : Ch} (hp : POk id wd L) : (imgL id L).length ≤ 10000 := by
  obtain ⟨h1, h2, h3⟩ := img_len id L
  have := hp.fit
  have := hp.hi
  omega
theorem bseal {a d m pa id wd : Nat} {L : Ch} {Z : Shf} (hi : Inv Z) (hp : POk id wd L) (h : E B (pck pa id wd L :: shf a d m (sealV Z id L).2.2 :: H) (K (.tuple #[triV (sealV Z id L).1, I (sealV Z id L).2.1]))) :
    E B (pck pa id wd L :: shf a d m Z :: H) (CF Tryz.prog 9 [ptr a, ptr pa] K) := by
  refine E_mono (W := s9 _ _ K) ?_ fun _ => c9
  unfold s9
  unfold sealV at h
  refine E_box (v := plV 0 0 0) (vs := [I 0, I 0, I 0]) fun v4 => ?_
  refine E_join1 (n := 4) [ptr a, ptr pa, ptr v4, .bool false] (cel true v4 34 [I 0, I 0, I 0] :: pck pa id wd L :: shf a d m Z :: H) (fun q hq => ?_) ?_
  · refine E_peq u_pSh ?_
    refine E_gft ?_
    refine E_gft ?_
    refine E_peq u_pPk ?_
    refine E_pff ?_
    exact hq
  refine E_fa fun _ => ?_
  refine E_ff ?_
  refine fd (a := shf a d m Z) ?_
  refine E_shf fun r kv hk => ?_
  refine E_nc ?_
  refine E_fad0 ?_
  refine E_fad0 ?_
  refine E_ld ?_
  refine fd (a := disk d Z.D) ?_
  refine down ?_
  refine E_ifb (fun hd => ?_) (fun hd => ?_)
  · rw [if_pos hd] at h
    refine sm (G := cel true v4 34 [I 0, I 0, I 0] :: cel true a 97 [ptr d, ptr m, .map (some r)] :: disk d Z.D :: xmap m Z.f (Z.f + Z.T.length) Z.R :: dct kI true r kv :: pck pa id wd L :: H) ?_
    refine E_noPl rfl ?_
    refine E_shfS hk rfl rfl rfl rfl ?_
    exact sm h
  rw [if_neg (by rw [hd]; decide)] at h
  refine fd (a := pck pa id wd L) ?_
  refine pklen ?_
  refine E_eql ?_
  refine E_if (fun hL => ?_) (fun hL => ?_)
  · rw [if_pos (List.length_eq_zero_iff.1 (by omega))] at h
    refine sm (G := cel true v4 34 [I 0, I 0, I 0] :: cel true a 97 [ptr d, ptr m, .map (some r)] :: disk d Z.D :: xmap m Z.f (Z.f + Z.T.length) Z.R :: dct kI true r kv :: pck pa id wd L :: H) ?_
    refine E_noPl rfl ?_
    refine E_shfS hk rfl rfl rfl rfl ?_
    exact sm h
  have hL : L ≠ [] := fun e => by subst e; exact hL rfl
  rw [if_neg hL] at h
  have hil := img_le hp
  obtain ⟨n1, n2, n3⟩ := img_n hp hL
  have hle := hi.le
  refine pkbytes hp fun bv _ => ?_
  refine pkparse (v := bv) (b := imgL id L) (by omega) fun u iu => ?_
  unfold parA
  rw [parse_img hp]
  refine E_ext ?_
  refine E_ext ?_
  refine E_box (v := binV (0, 0, []) nl) (vs := [I 0, I 0, nl]) fun v7 => ?_
  dsimp only at h ⊢
  generalize (imgL id L).length / 128 = n at n1 n2 n3 h ⊢
  refine E_stW (v := binV (id, n, []) u) (vs := [I id, I n, u]) rfl rfl ?_
  refine E_fad0 ?_
  refine E_ld ?_
  refine sm (G := cel true a 97 [ptr d, ptr m, .map (some r)] :: disk d Z.D :: xmap m Z.f (Z.f + Z.T.length) Z.R :: dct kI true r kv :: cel true v7 58 [I id, I n, u] :: sls cB 5 1 bv (imgL id L) :: pck pa id wd L :: cel true v4 34 [I 0, I 0, I 0] :: H) ?_
  refine E_shfS hk rfl rfl rfl rfl ?_
  refine shknown ?_
  cases ho : known Z.P id with
  | some p =>
    rw [if_pos (by rw [ho]; rfl)] at h
    refine E_tt ?_
    refine fd (a := cel true v4 34 [I 0, I 0, I 0]) ?_
    refine E_noPl rfl ?_
    exact sm h
  | none =>
    rw [if_neg (by rw [ho]; decide)] at h
    refine E_ff ?_
    refine E_shf fun r kv hk => ?_
    refine E_dr ?_
    refine E_nc ?_
    refine E_fad0 ?_
    refine E_fad0 ?_
    refine E_ld ?_
    refine E_fad0 ?_
    refine E_ld ?_
    refine fd (a := xmap m Z.f (Z.f + Z.T.length) Z.R) ?_
    refine xtake hi.xok ?_
    refine E_ext ?_
    refine E_ext ?_
    refine E_neq ?_
    have hiT := hi.take n
    have hT := (rel_take hi.rel (n : Int)).2
    have hok := take_ok hi (n := n) (by omega)
    refine E_if (fun hc => ?_) (fun hc => ?_)
    · rw [if_pos hc] at h
      refine fd (a := cel true v4 34 [I 0, I 0, I 0]) ?_
      refine E_noPl rfl ?_
      refine sm (G := cel true a 97 [ptr d, ptr m, .map (some r)] :: disk d Z.D :: xmap m Z.f (Z.f + Z.T.length) (takeV Z.R n).2.2 :: dct kI true r kv :: pck pa id wd L :: H) ?_
      refine E_shfS (S := takeN Z n) hk rfl rfl (by simp only [takeN]; rw [hT]) rfl ?_
      exact sm h
    rw [if_neg hc] at h
    obtain ⟨x, x1, x2, x3, x4, x5⟩ := hok (by simpa using hc)
    rw [x1] at h ⊢
    refine E_fad0 ?_
    refine E_ld ?_
    refine Dig.E_Vr (buildRn _ _) ?_
    refine E_box (v := pI 0 0) (vs := [I 0, I 0]) fun v11 => ?_
    refine E_stW (v := pI x n) (vs := [I x, I n]) rfl rfl ?_
    refine E_dr ?_
    refine E_nc ?_
    refine E_fad0 ?_
    refine E_ldNA ?_
    refine sm (G := cel true a 97 [ptr d, ptr m, .map (some r)] :: disk d Z.D :: cel true v11 32 [I x, I n] :: xmap m Z.f (Z.f + Z.T.length) (takeV Z.R n).2.2 :: dct kI true r kv :: cel true v7 58 [I id, I n, u] :: sls cB 5 1 bv (imgL id L) :: pck pa id wd L :: cel true v4 34 [I 0, I 0, I 0] :: H) ?_
    refine gwrite (x := (x : Int)) (n := n) (v := bv) (b := imgL id L) (by omega) (by omega) (by omega) ?_
    generalize wrS Z.D (x : Int) (chunks (imgL id L) n) = w at h ⊢
    refine E_neq ?_
    refine E_if (fun hc1 => ?_) (fun hc1 => ?_)
    · rw [if_pos hc1] at h
      refine E_dr ?_
      refine E_nc ?_
      refine E_fad0 ?_
      refine E_fad0 ?_
      refine E_ld ?_
      refine E_ldNA ?_
      refine fd (a := xmap m Z.f (Z.f + Z.T.length) (takeV Z.R n).2.2) ?_
      have hx' : XOk Z.f (Z.f + Z.T.length) (takeV Z.R n).2.2 := by
        have := hiT.xok
        simp only [takeN] at this
        rw [hT] at this
        exact this
      refine xgive hx' ?_
      refine fd (a := cel true v4 34 [I 0, I 0, I 0]) ?_
      refine E_noPl rfl ?_
      obtain ⟨r1, r2, r3⟩ := rel_giveV hiT.rel (x : Int) (n : Int)
      have e1 : Z.f + (takeT Z.f Z.T Z.R n).length = Z.f + Z.T.length := by rw [hT]
      refine sm (G := cel true a 97 [ptr d, ptr m, .map (some r)] :: disk d w.1 :: xmap m Z.f (Z.f + Z.T.length) (giveV Z.f (Z.f + Z.T.length) (takeV Z.R n).2.2 x n).2 :: dct kI true r kv :: pck pa id wd L :: H) ?_
      refine E_shfS (S := { giveN (takeN Z n) x n with D := w.1 }) hk rfl rfl (by simp only [giveN]; rw [r2]; exact e1.symm) (by simp only [giveN, takeN]; rw [hT]) ?_
      exact sm h
    · rw [if_neg hc1] at h
      refine E_dr ?_
      refine E_nc ?_
      refine E_fad0 ?_
      refine E_ld ?_
      refine E_fad0 ?_
      refine E_ld ?_
      refine E_ldNA ?_
      refine E_dmu (κ := Int) (enc := kI) (k := (id : Int)) Shf.key_mapIR ?_
      refine E_fad0 ?_
      refine E_ld ?_
      refine E_ldNA ?_
      refine Dig.E_Vr (buildPl _ _ _) ?_
      refine E_stW (v := plV id x n) (vs := [I id, I x, I n]) rfl rfl ?_
      refine E_ldNA ?_
      have hput := hk.put (p := ⟨id, x, n⟩) ho
      simp only at hput
      refine sm (G := cel true a 97 [ptr d, ptr m, .map (some r)] :: disk d w.1 :: xmap m Z.f (Z.f + Z.T.length) (takeV Z.R n).2.2 :: dct kI true r (dput kv (id : Int) (pI x n)) :: pck pa id wd L :: H) ?_
      rw [Int.toNat_natCast] at h
      refine E_shfS (S := { takeN Z n with D := w.1, P := putP Z.P ⟨id, x, n⟩ }) hput rfl rfl (by simp only [takeN]; rw [hT]) rfl ?_
      exact sm h
end Go.Proofs.YtmbfmkiagdhcoaaGreat.Bn
end
section
namespace Go.Proofs.YtmbfmkiagdhcoaaGreat.Disk
open Go Go.SL Go.Proofs Go.Proofs.YtmbfmkiagdhcoaaGreat.Sh
abbrev str (bs : List UInt8) : Value := .string ⟨bs.toArray⟩
theorem str_app (a b : List UInt8) : (⟨a.toArray⟩ : ByteArray) ++ ⟨b.toArray⟩ = ⟨(a ++ b).toArray⟩ := by
  apply ByteArray.ext; simp [ByteArray.data_append]
def pcs (s : Sec) : List Value := [str s.sure, str (s.last.getD []), .bool s.last.isSome]
def parts (S : List Sec) : List Value := S.flatMap pcs
theorem parts_length (S : List Sec) : (parts S).length = S.length * 3 := by
  induction S with
  | nil => rfl
  | cons s S ih => simp only [parts, List.flatMap_cons, List.length_append, List.length_cons] at ih ⊢; rw [ih]; simp [pcs]; omega
theorem parts_append (S S' : List Sec) : parts (S ++ S') = parts S ++ parts S' := by simp [parts]
theorem parts_at {S : List Sec} {i : Nat} {s : Sec} (sp : List Value) (h : S[i]? = some s) : ((parts S ++ sp).drop (0 + i * 3)).take 3 = pcs s := by
  have hlt := (List.getElem?_eq_some_iff.1 h).1
  have e : S = S.take i ++ s :: S.drop (i + 1) := by
    have h1 := List.drop_eq_getElem_cons hlt
    have h2 : S[i] = s := (List.getElem?_eq_some_iff.1 h).2
    rw [h2] at h1
    rw [← h1, List.take_append_drop]
  have hl : (parts (S.take i)).length = i * 3 := by rw [parts_length, List.length_take, Nat.min_eq_left (by omega)]
  conv => lhs; rw [e]
  rw [parts_append, List.append_assoc, Nat.zero_add, List.drop_append_of_le_length (by omega), List.drop_of_length_le (by omega)]
  simp [parts, pcs]
theorem parts_get {S : List Sec} {i : Nat} {s : Sec} (sp : List Value) (k : Nat) (hk : k < 3) (h : S[i]? = some s) : (parts S ++ sp)[0 + i * 3 + k]? = (pcs s)[k]? := by
  rw [← parts_at sp h, List.getElem?_take_of_lt hk, List.getElem?_drop]
theorem parts_set {S : List Sec} {i : Nat} (s : Sec) (h : i < S.length) : setAll (parts S) (0 + i * 3) (pcs s) = parts (S.set i s) := by
  have e : S.set i s = S.take i ++ s :: S.drop (i + 1) := by rw [List.set_eq_take_append_cons_drop, if_pos h]
  have e0 : S = S.take i ++ S[i] :: S.drop (i + 1) := by rw [← List.drop_eq_getElem_cons h, List.take_append_drop]
  have hl : (parts (S.take i)).length = i * 3 := by rw [parts_length, List.length_take, Nat.min_eq_left (by omega)]
  unfold setAll
  rw [e, parts_append, Nat.zero_add]
  have h1 : (parts S).take (i * 3) = parts (S.take i) := by
    conv => lhs; rw [e0]
    rw [parts_append, List.take_append_of_le_length (by omega), List.take_of_length_le (by omega)]
  have h2 : (parts S).drop (i * 3 + (pcs s).length) = parts (S.drop (i + 1)) := by
    conv => lhs; rw [e0]
    have : parts (S.take i ++ S[i] :: S.drop (i + 1)) = (parts (S.take i) ++ pcs S[i]) ++ parts (S.drop (i + 1)) := by
      rw [parts_append, List.append_assoc]; rfl
    rw [this, List.drop_append_of_le_length (by simp [hl, pcs]), List.drop_of_length_le (by simp [hl, pcs])]
    rfl
  rw [h1, h2]
  simp [parts]
def rdisk (a : Nat) (D : Dk) : Asrt := ex fun (x : Nat × Nat × List Value) => all [cel true a 130 [.slice (some ⟨x.1, 0, none⟩) D.S.length x.2.1, I D.trip, .bool D.down, I D.life],
  cel false x.1 133 (parts D.S ++ x.2.2), pur (D.Ok ∧ D.S.length ≤ x.2.1)]
variable {B : World} {H : List Asrt} {K : Value → WT} {W : WT}
theorem E_rdisk {a : Nat} {D : Dk} (h : ∀ b cap sp, D.Ok → D.S.length ≤ cap →
    E B (cel true a 130 [.slice (some ⟨b, 0, none⟩) D.S.length cap, I D.trip, .bool D.down, I D.life] :: cel false b 133 (parts D.S ++ sp) :: H) W) : E B (rdisk a D :: H) W := by
  refine E_ex fun x => E_all ?_
  refine E_find (a := pur (D.Ok ∧ D.S.length ≤ x.2.1)) (by repeat (first | exact Find.here | apply Find.there)) (E_pur fun hr => ?_)
  exact E_same (by repeat (first | exact Same.refl | (refine Same.cons (by repeat (first | exact Find.here | apply Find.there)) ?_) | (refine Same.drop ?_))) (h x.1 x.2.1 x.2.2 hr.1 hr.2)
theorem E_rdisks {a b cap n : Nat} {D : Dk} {sp : List Value} {tr li : Int} {dn : Bool} (ho : D.Ok) (hle : n ≤ cap) (hn : n = D.S.length) (h1 : tr = D.trip) (h2 : dn = D.down) (h3 : li = D.life)
    (h : E B (rdisk a D :: H) W) : E B (cel true a 130 [.slice (some ⟨b, 0, none⟩) n cap, I tr, .bool dn, I li] :: cel false b 133 (parts D.S ++ sp) :: H) W := by
  subst hn h1 h2 h3
  refine E_pur' (p := D.Ok ∧ D.S.length ≤ cap) ⟨ho, hle⟩ ?_
  have h' := E_all' (E_ex' (f := fun (x : Nat × Nat × List Value) => all [cel true a 130 [.slice (some ⟨x.1, 0, none⟩) D.S.length x.2.1, I D.trip, .bool D.down, I D.life],
  cel false x.1 133 (parts D.S ++ x.2.2), pur (D.Ok ∧ D.S.length ≤ x.2.1)]) (b, cap, sp) h)
  exact E_same (by repeat (first | exact Same.refl | (refine Same.cons (by repeat (first | exact Find.here | apply Find.there)) ?_) | (refine Same.drop ?_))) h'
theorem E_cshare {b : Nat} {T : TypeId} {l : List Value} (h : E B (cel false b T l :: H) W) : E B (cel true b T l :: H) W := by
  intro w ⟨hb, lc, ⟨l1, l2, e, ⟨fr, _, h1⟩, hs⟩, hc⟩
  have hsat : sat B (pt true b (.cells l.toArray T fr) :: H) w := ⟨hb, lc, ⟨l1, l2, e, h1, hs⟩, hc⟩
  refine E_share (fun w hw => ?_) w hsat
  obtain ⟨hb, lc, ⟨l1, l2, e, h1, hs⟩, hc⟩ := hw
  exact h w ⟨hb, lc, ⟨l1, l2, e, ⟨fr, (fun h => by cases h), h1⟩, hs⟩, hc⟩
end Go.Proofs.YtmbfmkiagdhcoaaGreat.Disk
namespace Go.Proofs.YtmbfmkiagdhcoaaGreat.Disk
open Go Go.SL Go.Proofs Go.Proofs.YtmbfmkiagdhcoaaGreat.Sh
attribute [local irreducible] S.pick S.ld S.ldN S.st S.box S.nc S.fad S.ixS S.ixA S.chr S.prt S.ext S.bin S.sh S.sbin S.beq S.neg1 S.com1 S.not1 S.cvt S.str1 S.lenS S.len S.cap S.lenM S.mx S.mn S.mkM S.cond S.gd S.fa S.dr S.rck S.join S.loop S.cvv S.eqv S.slc S.slcS S.b2s S.lk V U CF Gives E cel mpb osl ros dct dit itr lpo dfo
attribute [local irreducible] disk rdisk
variable {B : World} {H : List Asrt} {K : Value → WT}
theorem u_rParts : Tryz.prog.underlying 128 = some (.slice 133) := by kernel_rfl
theorem elt_rPart : Elt Tryz.prog 133 3 40 (pcs ⟨[], none⟩) := elt_of (zv := .agg #[str [], str [], .bool false]) (by kernel_rfl) rfl rfl
theorem str_rPart : Str Tryz.prog 133 [(0, 1), (1, 1), (2, 1)] [str [], str [], .bool false] := str_of (zv := .agg #[str [], str [], .bool false]) (by kernel_rfl) (by kernel_rfl) rfl
theorem str_rDisk : Str Tryz.prog 130 [(0, 1), (1, 1), (2, 1), (3, 1)] [.slice none 0 0, I 0, .bool false, I 0] := str_of (zv := .agg #[.slice none 0 0, I 0, .bool false, I 0]) (by kernel_rfl) (by kernel_rfl) rfl
theorem zeros {n : Int} (hn : n ≤ 4096) (h : E B H (K (str (List.replicate n.toNat 0)))) : E B H (CF Tryz.prog 58 [I n] K) := by
  refine E_mono (W := s58 _ K) ?_ fun _ => c58
  unfold s58
  refine E_loop (σ := Nat) (fun j => j ≤ n.toNat) (fun j => [I n, str (List.replicate j 0)]) (fun _ => H) (fun j => n.toNat - j) 0 (fun _ => rfl) rfl (Nat.zero_le _) (fun W hW => hW) ?_
  intro j K0 hj hk
  refine E_fa fun _ => ?_
  (repeat first | refine gS ?_ | refine gA fun _ => ?_ | refine gX fun _ _ => ?_ | refine gT ?_ | refine gF ?_ | refine gI ?_)
  have hs : (⟨(List.replicate j (0 : UInt8)).toArray⟩ : ByteArray).size = j := by simp [ByteArray.size]
  first | rw [hs] | rw [List.length_replicate]
  refine E_if (fun hc => ?_) (fun hc => ?_)
  · have e0 : (⟨#[0]⟩ : ByteArray) = ⟨[0].toArray⟩ := rfl
    rw [e0]
    refine E_sadd (by rw [hs]; simp [ByteArray.size]; omega) ?_
    rw [str_app]
    have e : List.replicate j (0 : UInt8) ++ [0] = List.replicate (j + 1) 0 := by rw [List.replicate_succ']
    rw [e]
    exact hk (j + 1) (by omega) (by omega)
  · have : j = n.toNat := by omega
    rw [this]; exact h
theorem rtrips {a : Nat} {D : Dk} (h1 : D.trip = 1 → E B (rdisk a D.gone :: H) (K (.bool true))) (h2 : D.trip ≠ 1 → E B (rdisk a D.tick :: H) (K (.bool false))) : E B (rdisk a D :: H) (CF Tryz.prog 124 [ptr a] K) := by
  refine E_rdisk fun b cap sp ho hle => ?_
  have t1 := ho.t1
  have t2 := ho.t2
  refine E_mono (W := s124 _ K) ?_ fun _ => c124
  unfold s124
  (repeat first | refine gS ?_ | refine gA fun _ => ?_ | refine gX fun _ _ => ?_ | refine gT ?_ | refine gF ?_ | refine gI ?_)
  refine E_if (fun hc => ?_) (fun hc => ?_)
  · (repeat first | refine gS ?_ | refine gA fun _ => ?_ | refine gX fun _ _ => ?_ | refine gT ?_ | refine gF ?_ | refine gI ?_)
    exact E_same (by repeat (first | exact Same.refl | (refine Same.cons (by repeat (first | exact Find.here | apply Find.there)) ?_) | (refine Same.drop ?_))) (E_rdisks (D := D.gone) (n := D.S.length) ⟨ho.n1, ho.n2, by simp [Dk.gone], by simp [Dk.gone], ho.len⟩ hle rfl rfl rfl rfl (h1 hc))
  · have ho' : D.tick.Ok := ⟨ho.n1, ho.n2, by simp only [Dk.tick]; omega, by simp only [Dk.tick]; omega, ho.len⟩
    refine E_join0 ?_
    (repeat first | refine gS ?_ | refine gA fun _ => ?_ | refine gX fun _ _ => ?_ | refine gT ?_ | refine gF ?_ | refine gI ?_)
    refine E_if (fun hg => ?_) (fun hg => ?_)
    · (repeat first | refine gS ?_ | refine gA fun _ => ?_ | refine gX fun _ _ => ?_ | refine gT ?_ | refine gF ?_ | refine gI ?_)
      exact E_same (by repeat (first | exact Same.refl | (refine Same.cons (by repeat (first | exact Find.here | apply Find.there)) ?_) | (refine Same.drop ?_))) (E_rdisks (D := D.tick) (n := D.S.length) ho' hle rfl (by simp only [Dk.tick]; omega) rfl rfl (h2 hc))
    · (repeat first | refine gS ?_ | refine gA fun _ => ?_ | refine gX fun _ _ => ?_ | refine gT ?_ | refine gF ?_ | refine gI ?_)
      exact E_same (by repeat (first | exact Same.refl | (refine Same.cons (by repeat (first | exact Find.here | apply Find.there)) ?_) | (refine Same.drop ?_))) (E_rdisks (D := D.tick) (n := D.S.length) ho' hle rfl (by simp only [Dk.tick]; omega) rfl rfl (h2 hc))
theorem rtrip {a : Nat} {D : Dk} {n : Int} (hn : n ≤ 9223372036854775807) (h : E B (rdisk a (D.tr n) :: H) (K (I (D.trE n)))) : E B (rdisk a D :: H) (CF Tryz.prog 91 [ptr a, I n] K) := by
  refine E_rdisk fun b cap sp ho hle => ?_
  refine E_mono (W := s91 _ _ K) ?_ fun _ => c91
  unfold s91
  unfold Dk.tr Dk.trE at h
  (repeat first | refine gS ?_ | refine gA fun _ => ?_ | refine gX fun _ _ => ?_ | refine gT ?_ | refine gF ?_ | refine gI ?_)
  refine E_ifb (fun hd => ?_) (fun hd => ?_)
  · simp only [if_pos hd] at h
    exact E_rdisks ho hle rfl rfl rfl rfl h
  · simp only [if_neg (show ¬ D.down = true by simp [hd])] at h
    (repeat first | refine gS ?_ | refine gA fun _ => ?_ | refine gX fun _ _ => ?_ | refine gT ?_ | refine gF ?_ | refine gI ?_)
    refine E_if (fun hc => ?_) (fun hc => ?_)
    · simp only [if_pos hc] at h
      exact E_rdisks ho hle rfl rfl rfl rfl h
    · simp only [if_neg hc] at h
      (repeat first | refine gS ?_ | refine gA fun _ => ?_ | refine gX fun _ _ => ?_ | refine gT ?_ | refine gF ?_ | refine gI ?_)
      exact E_rdisks (D := { D with trip := n }) ⟨ho.n1, ho.n2, by simp only; omega, hn, ho.len⟩ hle rfl rfl rfl rfl h
theorem rset {a : Nat} {D : Dk} {i : Nat} {s : Sec} (hi : i < D.S.length) (hl : s.sure.length = 128 ∧ ∀ b, s.last = some b → b.length = 128)
    (h : E B (rdisk a { D with S := D.S.set i s } :: H) (K (.tuple #[]))) : E B (rdisk a D :: H) (CF Tryz.prog 123 [ptr a, I i, .agg (pcs s).toArray] K) := by
  refine E_rdisk fun b cap sp ho hle => ?_
  have n2 := ho.n2
  have n1 := ho.n1
  refine E_mono (W := s123 _ _ _ K) ?_ fun _ => c123
  unfold s123
  (repeat first | refine gS ?_ | refine gA fun _ => ?_ | refine gX fun _ _ => ?_ | refine gT ?_ | refine gF ?_ | refine gI ?_)
  rename_i bp
  refine E_bsl0 u_rParts elt_rPart fun b0 => ?_
  refine osl_of_cel (n := 0) (sz := 3) rfl ?_
  (repeat first | refine gS ?_ | refine gA fun _ => ?_ | refine gX fun _ _ => ?_ | refine gT ?_ | refine gF ?_ | refine gI ?_)
  refine E_app (m := D.S.length) (ys := parts D.S) u_rParts elt_rPart (rd_slice (κ := false) (T := 133) (l := parts D.S ++ sp) u_rParts (by rw [List.drop_zero, List.take_append_of_le_length (by rw [parts_length]; omega), List.take_of_length_le (by rw [parts_length]; omega)]) (parts_length _) ?_) (by omega) (by omega) fun v' _ => ?_
  · intro y hy
    obtain ⟨x, _, hx⟩ := List.mem_flatMap.1 hy
    simp only [pcs, List.mem_cons, List.not_mem_nil, or_false] at hx
    rcases hx with rfl | rfl | rfl <;> rfl
  refine E_ldN (cs := pcs s) (by simp [pcs]) rfl ?_
  refine E_oslo (by omega) fun b1 cap1 sp1 hv hle1 _ hsl1 => ?_
  subst hv
  refine E_ixS (by omega) (by omega) ?_
  simp only [List.nil_append, Nat.zero_add] at hle1 hsl1 ⊢
  have hpl := parts_length D.S
  have hset : setAll (parts D.S ++ sp1) (i * 3) (pcs s) = parts (D.S.set i s) ++ sp1 := by
    have := parts_set s hi
    rw [Nat.zero_add] at this
    rw [← this]
    unfold setAll
    have hle2 : i * 3 + (pcs s).length ≤ (parts D.S).length := by simp [pcs]; omega
    rw [List.take_append_of_le_length (by omega), List.drop_append_of_le_length hle2, List.append_assoc, List.append_assoc, List.append_assoc]
  have ei : (i : Int).toNat * 3 = i * 3 := by simp
  rw [ei]
  refine E_stN (l' := parts (D.S.set i s) ++ sp1) (vs := pcs s) rfl (by intro y hy; simp only [pcs, List.mem_cons, List.not_mem_nil, or_false] at hy; rcases hy with rfl | rfl | rfl <;> rfl) (by simp; omega) hset ?_
  (repeat first | refine gS ?_ | refine gA fun _ => ?_ | refine gX fun _ _ => ?_ | refine gT ?_ | refine gF ?_ | refine gI ?_)
  refine fd (a := cel true b1 133 (parts (D.S.set i s) ++ sp1)) (E_cshare ?_)
  refine E_same (by repeat (first | exact Same.refl | (refine Same.cons (by repeat (first | exact Find.here | apply Find.there)) ?_) | (refine Same.drop ?_))) (E_rdisks (D := { D with S := D.S.set i s }) (n := D.S.length) (b := b1) (cap := cap1) (sp := sp1) ⟨by simpa using ho.n1, by simpa using ho.n2, ho.t1, ho.t2, fun x hx => ?_⟩ hle1 (by simp) rfl rfl rfl h)
  rcases List.mem_or_eq_of_mem_set hx with hx | rfl
  · exact ho.len x hx
  · exact hl
end Go.Proofs.YtmbfmkiagdhcoaaGreat.Disk
namespace Go.Proofs.YtmbfmkiagdhcoaaGreat.Disk
open Go Go.SL Go.Proofs Go.Proofs.YtmbfmkiagdhcoaaGreat.Sh
attribute [local irreducible] S.pick S.ld S.ldN S.st S.box S.nc S.fad S.ixS S.ixA S.chr S.prt S.ext S.bin S.sh S.sbin S.beq S.neg1 S.com1 S.not1 S.cvt S.str1 S.lenS S.len S.cap S.lenM S.mx S.mn S.mkM S.cond S.gd S.fa S.dr S.rck S.join S.loop S.cvv S.eqv S.slc S.slcS S.b2s S.lk V U CF Gives E cel mpb osl ros dct dit itr lpo dfo
attribute [local irreducible] disk rdisk
variable {B : World} {H : List Asrt} {K : Value → WT}
theorem pad_str {bs : List UInt8} (h : bs.length ≤ 128) : (⟨bs.toArray⟩ : ByteArray) ++ ⟨(List.replicate ((128 : Int) - bs.length).toNat (0 : UInt8)).toArray⟩ = ⟨(pad bs).toArray⟩ := by
  rw [str_app]
  have : ((128 : Int) - bs.length).toNat = 128 - bs.length := by omega
  rw [this]; rfl
theorem str_size (bs : List UInt8) : (⟨bs.toArray⟩ : ByteArray).size = bs.length := by simp [ByteArray.size]
theorem rrot {a : Nat} {D : Dk} {i : Int} {v : Value} {bs : List UInt8} [hf : Rb B H v bs] (h : E B (rdisk a (D.rot i bs) :: H) (K (I (D.rotE i bs)))) :
    E B (rdisk a D :: H) (CF Tryz.prog 89 [ptr a, I i, v] K) := by
  unfold Dk.rot Dk.rotE at h
  refine E_mono (W := s89 _ _ _ K) ?_ fun _ => c89
  unfold s89
  refine E_rdisk fun b cap sp ho hle => ?_
  refine E_join0 ?_
  (repeat first | refine gS ?_ | refine gA fun _ => ?_ | refine gX fun _ _ => ?_ | refine gT ?_ | refine gF ?_ | refine gI ?_)
  by_cases hi : i < 0
  · (repeat first | refine gS ?_ | refine gA fun _ => ?_ | refine gX fun _ _ => ?_ | refine gT ?_ | refine gF ?_ | refine gI ?_)
    simp only [if_pos (show D.out i from .inl hi)] at h
    exact E_rdisks ho hle rfl rfl rfl rfl h
  (repeat first | refine gS ?_ | refine gA fun _ => ?_ | refine gX fun _ _ => ?_ | refine gT ?_ | refine gF ?_ | refine gI ?_)
  refine E_if (fun hc => ?_) (fun hc => ?_)
  · simp only [if_pos (show D.out i from .inr hc)] at h
    exact E_rdisks ho hle rfl rfl rfl rfl h
  have hout : ¬ D.out i := fun ho => by unfold Dk.out at ho; omega
  simp only [if_neg hout] at h
  obtain ⟨j, s, rfl, hs, hj⟩ := Dk.inR hout
  refine E_rb_len (v := v) ?_
  (repeat first | refine gS ?_ | refine gA fun _ => ?_ | refine gX fun _ _ => ?_ | refine gT ?_ | refine gF ?_ | refine gI ?_)
  refine E_if (fun hc => ?_) (fun hc => ?_)
  · simp only [if_pos (show 128 < bs.length by omega)] at h
    exact E_rdisks ho hle rfl rfl rfl rfl h
  simp only [if_neg (show ¬ 128 < bs.length by omega)] at h
  have hbs : bs.length ≤ 128 := by omega
  (repeat first | refine gS ?_ | refine gA fun _ => ?_ | refine gX fun _ _ => ?_ | refine gT ?_ | refine gF ?_ | refine gI ?_)
  refine E_b2sR (v := v) ?_
  refine E_rb_len (v := v) ?_
  (repeat first | refine gS ?_ | refine gA fun _ => ?_ | refine gX fun _ _ => ?_ | refine gT ?_ | refine gF ?_ | refine gI ?_)
  refine zeros (by omega) ?_
  (repeat (refine E_rck1 (by first | exact E_ld (E_fact rfl) | exact E_ld' (by assumption) (E_fact rfl) | exact E_b2sR (E_fact rfl) | exact E_gdnF (by assumption) (E_ld (E_fact rfl)) | exact E_gdT (by assumption) (E_ld (E_fact rfl)) | exact E_gtf (E_ld (E_fact rfl)) | exact E_gft (E_ld (E_fact rfl)) | exact E_ldNA (E_fact rfl) | exact E_ptld (E_fact rfl) | exact E_gtf (E_ldNA (E_fact rfl))) ?_)); (first | (refine E_rck0 ?_) | skip)
  refine E_sadd (by rw [str_size, str_size, List.length_replicate]; omega) ?_
  rw [pad_str hbs]
  refine E_build (l := pcs ⟨pad bs, none⟩) str_rPart ?_
  (repeat (refine E_rck1 (by first | exact E_ld (E_fact rfl) | exact E_ld' (by assumption) (E_fact rfl) | exact E_b2sR (E_fact rfl) | exact E_gdnF (by assumption) (E_ld (E_fact rfl)) | exact E_gdT (by assumption) (E_ld (E_fact rfl)) | exact E_gtf (E_ld (E_fact rfl)) | exact E_gft (E_ld (E_fact rfl)) | exact E_ldNA (E_fact rfl) | exact E_ptld (E_fact rfl) | exact E_gtf (E_ldNA (E_fact rfl))) ?_)); (first | (refine E_rck0 ?_) | skip)
  refine E_rdisks ho hle rfl rfl rfl rfl ?_
  refine rset (s := ⟨pad bs, none⟩) hj ⟨pad_length hbs, fun b hb => by cases hb⟩ ?_
  (repeat (refine E_rck1 (by first | exact E_ld (E_fact rfl) | exact E_ld' (by assumption) (E_fact rfl) | exact E_b2sR (E_fact rfl) | exact E_gdnF (by assumption) (E_ld (E_fact rfl)) | exact E_gdT (by assumption) (E_ld (E_fact rfl)) | exact E_gtf (E_ld (E_fact rfl)) | exact E_gft (E_ld (E_fact rfl)) | exact E_ldNA (E_fact rfl) | exact E_ptld (E_fact rfl) | exact E_gtf (E_ldNA (E_fact rfl))) ?_)); (first | (refine E_rck0 ?_) | skip)
  have e : D.setS j (fun _ => ⟨pad bs, none⟩) = { D with S := D.S.set j ⟨pad bs, none⟩ } := by
    unfold Dk.setS; rw [modify_set _ hs]
  rw [Int.toNat_natCast, e] at h
  exact h
theorem rwrite {a : Nat} {D : Dk} {i : Int} {v : Value} {bs : List UInt8} [hf : Rb B H v bs] (h : E B (rdisk a (D.wr i bs) :: H) (K (I (D.wrE i bs)))) :
    E B (rdisk a D :: H) (CF Tryz.prog 90 [ptr a, I i, v] K) := by
  unfold Dk.wr Dk.wrE at h
  refine E_mono (W := s90 _ _ _ K) ?_ fun _ => c90
  unfold s90
  refine E_rdisk fun b cap sp ho hle => ?_
  (repeat first | refine gS ?_ | refine gA fun _ => ?_ | refine gX fun _ _ => ?_ | refine gT ?_ | refine gF ?_ | refine gI ?_)
  refine E_ifb (fun hd => ?_) (fun hd => ?_)
  · have hp : D.pow i = 7 := by unfold Dk.pow; rw [if_pos hd]
    simp only [if_pos (show D.pow i ≠ 0 by rw [hp]; decide), hp] at h
    exact E_rdisks ho hle rfl rfl rfl rfl h
  have hd' : ¬ D.down = true := by simp [hd]
  refine E_join0 ?_
  (repeat first | refine gS ?_ | refine gA fun _ => ?_ | refine gX fun _ _ => ?_ | refine gT ?_ | refine gF ?_ | refine gI ?_)
  have bad : D.out i → E B (cel true a 130 [.slice (some ⟨b, 0, none⟩) D.S.length cap, I D.trip, .bool D.down, I D.life] :: cel false b 133 (parts D.S ++ sp) :: H) (K (I 2)) := fun hout => by
    have hp : D.pow i = 2 := by unfold Dk.pow; rw [if_neg hd', if_pos hout]
    simp only [if_pos (show D.pow i ≠ 0 by rw [hp]; decide), hp] at h
    exact E_rdisks ho hle rfl rfl rfl rfl h
  by_cases hi : i < 0
  · (repeat first | refine gS ?_ | refine gA fun _ => ?_ | refine gX fun _ _ => ?_ | refine gT ?_ | refine gF ?_ | refine gI ?_)
    exact bad (.inl hi)
  (repeat first | refine gS ?_ | refine gA fun _ => ?_ | refine gX fun _ _ => ?_ | refine gT ?_ | refine gF ?_ | refine gI ?_)
  refine E_if (fun hc => ?_) (fun hc => ?_)
  · exact bad (.inr hc)
  have hout : ¬ D.out i := fun ho => by unfold Dk.out at ho; omega
  have hp : D.pow i = 0 := by unfold Dk.pow; rw [if_neg hd', if_neg hout]
  simp only [if_neg (show ¬ D.pow i ≠ 0 by rw [hp]; decide)] at h
  obtain ⟨j, s, rfl, hs, hj⟩ := Dk.inR hout
  refine E_rb_len (v := v) ?_
  (repeat first | refine gS ?_ | refine gA fun _ => ?_ | refine gX fun _ _ => ?_ | refine gT ?_ | refine gF ?_ | refine gI ?_)
  refine E_if (fun hc => ?_) (fun hc => ?_)
  · simp only [if_pos (show 128 < bs.length by omega)] at h
    exact E_rdisks ho hle rfl rfl rfl rfl h
  simp only [if_neg (show ¬ 128 < bs.length by omega)] at h
  have hbs : bs.length ≤ 128 := by omega
  refine E_rdisks ho hle rfl rfl rfl rfl ?_
  refine rtrips (fun ht => ?_) (fun ht => ?_)
  · simp only [if_pos ht] at h
    (repeat first | refine gS ?_ | refine gA fun _ => ?_ | refine gX fun _ _ => ?_ | refine gT ?_ | refine gF ?_ | refine gI ?_)
    exact h
  simp only [if_neg ht] at h
  (repeat first | refine gS ?_ | refine gA fun _ => ?_ | refine gX fun _ _ => ?_ | refine gT ?_ | refine gF ?_ | refine gI ?_)
  refine E_rdisk fun b cap sp ho hle => ?_
  have hs' : D.tick.S[j]? = some s := hs
  have hj' : j < D.tick.S.length := hj
  have hpl := parts_length D.tick.S
  (repeat first | refine gS ?_ | refine gA fun _ => ?_ | refine gX fun _ _ => ?_ | refine gT ?_ | refine gF ?_ | refine gI ?_)
  refine E_ixS (by omega) (by omega) ?_
  have ej : 0 + (j : Int).toNat * 3 = 0 + j * 3 := by simp
  rw [ej]
  refine E_fad ?_
  have hget : (parts D.tick.S ++ sp)[0 + j * 3 + 0]? = some (str s.sure) := by rw [parts_get sp 0 (by decide) hs']; rfl
  refine E_ld' (v := str s.sure) hget ?_
  refine E_b2sR (v := v) ?_
  refine E_rb_len (v := v) ?_
  (repeat first | refine gS ?_ | refine gA fun _ => ?_ | refine gX fun _ _ => ?_ | refine gT ?_ | refine gF ?_ | refine gI ?_)
  refine zeros (by omega) ?_
  (repeat (refine E_rck1 (by first | exact E_ld (E_fact rfl) | exact E_ld' (by assumption) (E_fact rfl) | exact E_b2sR (E_fact rfl) | exact E_gdnF (by assumption) (E_ld (E_fact rfl)) | exact E_gdT (by assumption) (E_ld (E_fact rfl)) | exact E_gtf (E_ld (E_fact rfl)) | exact E_gft (E_ld (E_fact rfl)) | exact E_ldNA (E_fact rfl) | exact E_ptld (E_fact rfl) | exact E_gtf (E_ldNA (E_fact rfl))) ?_)); (first | (refine E_rck0 ?_) | skip)
  refine E_sadd (by rw [str_size, str_size, List.length_replicate]; omega) ?_
  rw [pad_str hbs]
  refine E_build (l := pcs { s with last := some (pad bs) }) str_rPart ?_
  (repeat (refine E_rck1 (by first | exact E_ld (E_fact rfl) | exact E_ld' (by assumption) (E_fact rfl) | exact E_b2sR (E_fact rfl) | exact E_gdnF (by assumption) (E_ld (E_fact rfl)) | exact E_gdT (by assumption) (E_ld (E_fact rfl)) | exact E_gtf (E_ld (E_fact rfl)) | exact E_gft (E_ld (E_fact rfl)) | exact E_ldNA (E_fact rfl) | exact E_ptld (E_fact rfl) | exact E_gtf (E_ldNA (E_fact rfl))) ?_)); (first | (refine E_rck0 ?_) | skip)
  refine E_rdisks ho hle rfl rfl rfl rfl ?_
  refine rset (s := { s with last := some (pad bs) }) hj' ⟨(ho.len s (List.mem_of_getElem? hs')).1, fun b hb => by cases hb; exact pad_length hbs⟩ ?_
  (repeat (refine E_rck1 (by first | exact E_ld (E_fact rfl) | exact E_ld' (by assumption) (E_fact rfl) | exact E_b2sR (E_fact rfl) | exact E_gdnF (by assumption) (E_ld (E_fact rfl)) | exact E_gdT (by assumption) (E_ld (E_fact rfl)) | exact E_gtf (E_ld (E_fact rfl)) | exact E_gft (E_ld (E_fact rfl)) | exact E_ldNA (E_fact rfl) | exact E_ptld (E_fact rfl) | exact E_gtf (E_ldNA (E_fact rfl))) ?_)); (first | (refine E_rck0 ?_) | skip)
  have e : D.tick.setS j (fun s => { s with last := some (pad bs) }) = { D.tick with S := D.tick.S.set j { s with last := some (pad bs) } } := by
    unfold Dk.setS; rw [modify_set _ hs']
  rw [Int.toNat_natCast, e] at h
  exact h
end Go.Proofs.YtmbfmkiagdhcoaaGreat.Disk
namespace Go.Proofs.YtmbfmkiagdhcoaaGreat.Disk
open Go Go.SL Go.Proofs Go.Proofs.YtmbfmkiagdhcoaaGreat.Sh
attribute [local irreducible] S.pick S.ld S.ldN S.st S.box S.nc S.fad S.ixS S.ixA S.chr S.prt S.ext S.bin S.sh S.sbin S.beq S.neg1 S.com1 S.not1 S.cvt S.str1 S.lenS S.len S.cap S.lenM S.mx S.mn S.mkM S.cond S.gd S.fa S.dr S.rck S.join S.loop S.cvv S.eqv S.slc S.slcS S.b2s S.lk V U CF Gives E cel mpb osl ros dct dit itr lpo dfo
attribute [local irreducible] disk rdisk
variable {B : World} {H : List Asrt} {K : Value → WT}
theorem take_snoc {S : List Sec} {j : Nat} {s : Sec} (h : S[j]? = some s) : S.take (j + 1) = S.take j ++ [s] := by
  rw [List.take_add_one, h]; rfl
theorem rnew {n : Int} (h0 : n < 1 ∨ 4096 < n → E B H (K (.tuple #[.pointer none, I 2]))) (h1 : 1 ≤ n → n ≤ 4096 → ∀ a, E B (rdisk a (Dk.new n.toNat) :: H) (K (.tuple #[ptr a, I 0]))) : E B H (CF Tryz.prog 28 [I n] K) := by
  refine E_mono (W := s28 _ K) ?_ fun _ => c28
  unfold s28
  refine E_join0 ?_
  (repeat first | refine gS ?_ | refine gA fun _ => ?_ | refine gX fun _ _ => ?_ | refine gT ?_ | refine gF ?_ | refine gI ?_)
  by_cases hn1 : n < 1
  · (repeat first | refine gS ?_ | refine gA fun _ => ?_ | refine gX fun _ _ => ?_ | refine gT ?_ | refine gF ?_ | refine gI ?_)
    exact h0 (.inl hn1)
  (repeat first | refine gS ?_ | refine gA fun _ => ?_ | refine gX fun _ _ => ?_ | refine gT ?_ | refine gF ?_ | refine gI ?_)
  refine E_if (fun hc => ?_) (fun hc => ?_)
  · exact h0 (.inr (by omega))
  refine E_build (l := [.slice none 0 0, I 0, .bool false, I 0]) str_rDisk ?_
  (repeat first | refine gS ?_ | refine gA fun _ => ?_ | refine gX fun _ _ => ?_ | refine gT ?_ | refine gF ?_ | refine gI ?_)
  rename_i a
  refine zeros (by omega) ?_
  refine osl_nil (T := 133) (sz := 3) ?_
  refine E_loop (σ := Nat × Value) (fun s => s.1 ≤ n.toNat ∧ CellI s.2) (fun s => [I n, ptr a, str zero128, I s.1])
    (fun s => osl 133 3 s.2 s.1 (parts (List.replicate s.1 ⟨zero128, none⟩)) :: cel true a 130 [s.2, I 0, .bool false, I 0] :: H) (fun s => n.toNat - s.1)
    (0, .slice none 0 0) (fun _ => rfl) rfl ⟨Nat.zero_le _, ⟨rfl⟩⟩ (fun W hW => E_same (by repeat (first | exact Same.refl | (refine Same.cons (by repeat (first | exact Find.here | apply Find.there)) ?_) | (refine Same.drop ?_))) hW) ?_
  rintro ⟨j, v⟩ K0 ⟨hj, hcv⟩ hk
  simp only at hj hk hcv ⊢
  refine E_fa fun _ => ?_
  (repeat first | refine gS ?_ | refine gA fun _ => ?_ | refine gX fun _ _ => ?_ | refine gT ?_ | refine gF ?_ | refine gI ?_)
  refine E_if (fun hc => ?_) (fun hc => ?_)
  · (repeat first | refine gS ?_ | refine gA fun _ => ?_ | refine gX fun _ _ => ?_ | refine gT ?_ | refine gF ?_ | refine gI ?_)
    refine E_build (l := [str zero128, str [], .bool false]) str_rPart ?_
    refine E_bsl [(0, 3)] u_rParts elt_rPart (by simp) (by decide) (l0 := [str [], str [], .bool false]) rfl fun b1 => ?_
    refine fd (a := osl 133 3 v j (parts (List.replicate j ⟨zero128, none⟩))) ?_
    refine E_app (m := 1) (ys := [str zero128, str [], .bool false]) u_rParts elt_rPart (rd_slice (l := [str zero128, str [], .bool false]) (T := 133) (κ := true) u_rParts rfl rfl (by simp [isCell])) (by omega) (by omega) fun v' _ => ?_
    (repeat first | refine gS ?_ | refine gA fun _ => ?_ | refine gX fun _ _ => ?_ | refine gT ?_ | refine gF ?_ | refine gI ?_)
    have hk' := hk (j + 1, v') ⟨by simp only; omega, by assumption⟩ (by simp only; omega)
    have e : parts (List.replicate (j + 1) ⟨zero128, none⟩) = parts (List.replicate j ⟨zero128, none⟩) ++ [str zero128, str [], .bool false] := by
      rw [List.replicate_succ', parts_append]; rfl
    simp only [e] at hk'
    exact sm hk'
  · (repeat first | refine gS ?_ | refine gA fun _ => ?_ | refine gX fun _ _ => ?_ | refine gT ?_ | refine gF ?_ | refine gI ?_)
    have hj' : j = n.toNat := by omega
    subst hj'
    refine E_oslo (by omega) fun b cap sp hv hle hxl hsl => ?_
    subst hv
    refine E_cshare ?_
    have ho : (Dk.new n.toNat).Ok := ⟨by simp [Dk.new]; omega, by simp [Dk.new]; omega, by simp [Dk.new], by simp [Dk.new], fun s hs => by
      simp only [Dk.new, List.mem_replicate] at hs
      rw [hs.2]; exact ⟨List.length_replicate, fun b hb => by cases hb⟩⟩
    exact E_same (by repeat (first | exact Same.refl | (refine Same.cons (by repeat (first | exact Find.here | apply Find.there)) ?_) | (refine Same.drop ?_))) (E_rdisks (H := H) (D := Dk.new n.toNat) (n := n.toNat) ho hle (by simp [Dk.new]) rfl rfl rfl (b := b) (sp := sp) (h1 (by omega) (by omega) a))
end Go.Proofs.YtmbfmkiagdhcoaaGreat.Disk
namespace Go.Proofs.YtmbfmkiagdhcoaaGreat.Disk
open Go Go.SL Go.Proofs Go.Proofs.YtmbfmkiagdhcoaaGreat.Sh
attribute [local irreducible] S.pick S.ld S.ldN S.st S.box S.nc S.fad S.ixS S.ixA S.chr S.prt S.ext S.bin S.sh S.sbin S.beq S.neg1 S.com1 S.not1 S.cvt S.str1 S.lenS S.len S.cap S.lenM S.mx S.mn S.mkM S.cond S.gd S.fa S.dr S.rck S.join S.loop S.cvv S.eqv S.slc S.slcS S.b2s S.lk V U CF Gives E cel mpb osl ros dct dit itr lpo dfo
attribute [local irreducible] disk rdisk
variable {B : World} {H : List Asrt} {K : Value → WT}
theorem pcs_cells (s : Sec) : ∀ y ∈ pcs s, isCell y = true := by
  intro y hy
  simp only [pcs, List.mem_cons, List.not_mem_nil, or_false] at hy
  rcases hy with rfl | rfl | rfl <;> rfl
theorem appPart {v : Value} {j b : Nat} {S : List Sec} {s : Sec} (hj : S.length = j) (hn : j ≤ 4096) (h : ∀ v' [CellI v'], E B (osl 133 3 v' (j + 1) (parts (S ++ [s])) :: H) (K v')) :
    E B (osl 133 3 v j (parts S) :: H) (V Tryz.prog (Instr.buildSlice 128 1 #[(0, .agg (pcs s).toArray)]) fun u => V Tryz.prog (Builtin.append_ #[128, 128] 128 #[v, u]) K) := by
  have hf : FillI [(0, 3)] [str [], str [], .bool false] [(0, .agg (pcs s).toArray)] (pcs s) := by
    unfold pcs; infer_instance
  refine E_bsl [(0, 3)] u_rParts elt_rPart (by simp) (by decide) (l0 := [str [], str [], .bool false]) rfl fun b1 => ?_
  refine E_perm (List.Perm.swap ..) ?_
  refine E_app (m := 1) (ys := pcs s) u_rParts elt_rPart (rd_slice (l := pcs s) (T := 133) (κ := true) u_rParts (by simp [pcs]) rfl (pcs_cells s)) (by omega) (by omega) fun v' _ => ?_
  have e : parts S ++ pcs s = parts (S ++ [s]) := by rw [parts_append]; simp [parts]
  rw [e]
  exact sm (h v')
theorem map_settle_snoc {S : List Sec} {j : Nat} {s : Sec} (h : S[j]? = some s) : (S.take (j + 1)).map Sec.settle = (S.take j).map Sec.settle ++ [s.settle] := by
  rw [take_snoc h, List.map_append]; rfl
theorem rflush {a : Nat} {D : Dk} (h : E B (rdisk a D.fl :: H) (K (I D.flE))) : E B (rdisk a D :: H) (CF Tryz.prog 92 [ptr a] K) := by
  unfold Dk.fl Dk.flE at h
  refine E_mono (W := s92 _ K) ?_ fun _ => c92
  unfold s92
  refine E_rdisk fun b cap sp ho hle => ?_
  refine E_join0 ?_
  (repeat first | refine gS ?_ | refine gA fun _ => ?_ | refine gX fun _ _ => ?_ | refine gT ?_ | refine gF ?_ | refine gI ?_)
  by_cases hd : D.down = true
  · simp only [if_pos hd] at h
    rw [hd]
    (repeat first | refine gS ?_ | refine gA fun _ => ?_ | refine gX fun _ _ => ?_ | refine gT ?_ | refine gF ?_ | refine gI ?_)
    exact E_rdisks ho hle rfl rfl hd.symm rfl h
  simp only [if_neg hd] at h
  have hd' : D.down = false := by simpa using hd
  rw [hd']
  (repeat first | refine gS ?_ | refine gA fun _ => ?_ | refine gX fun _ _ => ?_ | refine gT ?_ | refine gF ?_ | refine gI ?_)
  refine E_rdisks ho hle rfl rfl hd'.symm rfl ?_
  refine rtrips (fun ht => ?_) (fun ht => ?_)
  · simp only [if_pos ht] at h
    (repeat first | refine gS ?_ | refine gA fun _ => ?_ | refine gX fun _ _ => ?_ | refine gT ?_ | refine gF ?_ | refine gI ?_)
    exact h
  simp only [if_neg ht] at h
  (repeat first | refine gS ?_ | refine gA fun _ => ?_ | refine gX fun _ _ => ?_ | refine gT ?_ | refine gF ?_ | refine gI ?_)
  clear hle sp cap b ho
  refine E_rdisk fun b cap sp ho hle => ?_
  have n2 := ho.n2
  have n1 := ho.n1
  have hpl := parts_length D.tick.S
  refine E_bsl0 u_rParts elt_rPart fun b0 => ?_
  refine osl_of_cel (n := 0) (sz := 3) rfl ?_
  refine E_loop (σ := Nat × Value) (fun s => s.1 ≤ D.tick.S.length ∧ CellI s.2) (fun s => [ptr a, s.2, I s.1])
    (fun s => osl 133 3 s.2 s.1 (parts ((D.tick.S.take s.1).map Sec.settle)) :: cel true a 130 [.slice (some ⟨b, 0, none⟩) D.tick.S.length cap, I D.tick.trip, .bool D.tick.down, I D.tick.life] :: cel false b 133 (parts D.tick.S ++ sp) :: H)
    (fun s => D.tick.S.length - s.1) (0, .slice (some ⟨b0, 0, none⟩) 0 0) (fun _ => rfl) rfl ⟨Nat.zero_le _, ⟨rfl⟩⟩ (fun W hW => E_same (by repeat (first | exact Same.refl | (refine Same.cons (by repeat (first | exact Find.here | apply Find.there)) ?_) | (refine Same.drop ?_))) hW) ?_
  rintro ⟨j, v⟩ K0 ⟨hj, hcv⟩ hk
  simp only at hj hk hcv ⊢
  refine E_fa fun _ => ?_
  (repeat first | refine gS ?_ | refine gA fun _ => ?_ | refine gX fun _ _ => ?_ | refine gT ?_ | refine gF ?_ | refine gI ?_)
  refine E_if (fun hc => ?_) (fun hc => ?_)
  · have hj' : j < D.tick.S.length := by omega
    have hs : D.tick.S[j]? = some D.tick.S[j] := List.getElem?_eq_getElem hj'
    generalize D.tick.S[j] = s at hs
    (repeat first | refine gS ?_ | refine gA fun _ => ?_ | refine gX fun _ _ => ?_ | refine gT ?_ | refine gF ?_ | refine gI ?_)
    refine E_ixS (by omega) (by omega) ?_
    have ej : 0 + (j : Int).toNat * 3 = 0 + j * 3 := by simp
    rw [ej]
    refine E_ldN (cs := pcs s) (parts_at sp hs) rfl ?_
    (repeat first | refine gS ?_ | refine gA fun _ => ?_ | refine gX fun _ _ => ?_ | refine gT ?_ | refine gF ?_ | refine gI ?_)
    rename_i bp
    refine E_stN (vs := pcs s) (l' := [str s.sure, str (s.last.getD []), .bool s.last.isSome]) rfl (pcs_cells s) (by decide) rfl ?_
    have fin : E B (cel true bp 133 [str s.settle.sure, str [], .bool false] :: osl 133 3 v j (parts ((D.tick.S.take j).map Sec.settle)) :: cel true a 130 [.slice (some ⟨b, 0, none⟩) D.tick.S.length cap, I D.tick.trip, .bool D.tick.down, I D.tick.life] :: cel false b 133 (parts D.tick.S ++ sp) :: H)
        (S.ldN 3 (ptr bp) fun v37 => V Tryz.prog (Instr.buildSlice 128 1 #[(0, v37)]) fun v38 => V Tryz.prog (Builtin.append_ #[128, 128] 128 #[v, v38]) fun v39 => S.bin .add (I j) (I 1) fun v23 => K0 (ptr a) v39 v23) := by
      refine E_ldN (cs := pcs s.settle) rfl rfl ?_
      refine fd (a := osl 133 3 v j (parts ((D.tick.S.take j).map Sec.settle))) ?_
      refine appPart (b := b) (by simp; omega) (by omega) fun v' _ => ?_
      (repeat first | refine gS ?_ | refine gA fun _ => ?_ | refine gX fun _ _ => ?_ | refine gT ?_ | refine gF ?_ | refine gI ?_)
      have hk' := hk (j + 1, v') ⟨by simp only; omega, by assumption⟩ (by simp only; omega)
      simp only [map_settle_snoc hs] at hk'
      exact sm hk'
    refine E_join0 ?_
    (repeat first | refine gS ?_ | refine gA fun _ => ?_ | refine gX fun _ _ => ?_ | refine gT ?_ | refine gF ?_ | refine gI ?_)
    refine E_ifb (fun hl => ?_) (fun hl => ?_)
    · obtain ⟨bs, hbs⟩ := Option.isSome_iff_exists.1 hl
      have e1 : s.settle.sure = bs := by simp [Sec.settle, Sec.now, hbs]
      rw [e1] at fin
      simp only [hbs, Option.getD_some]
      (repeat first | refine gS ?_ | refine gA fun _ => ?_ | refine gX fun _ _ => ?_ | refine gT ?_ | refine gF ?_ | refine gI ?_)
      refine E_build (l := [str bs, str [], .bool false]) str_rPart ?_
      refine E_stN (l' := [str bs, str [], .bool false]) rfl (by simp [isCell]) (by simp) rfl ?_
      refine E_fa fun _ => ?_
      exact fin
    · have hbs : s.last = none := by simpa using hl
      have e1 : s.settle.sure = s.sure := by simp [Sec.settle, Sec.now, hbs]
      rw [e1] at fin
      simp only [hbs, Option.getD_none, Option.isSome_none]
      refine E_fa fun _ => ?_
      exact fin
  · (repeat first | refine gS ?_ | refine gA fun _ => ?_ | refine gX fun _ _ => ?_ | refine gT ?_ | refine gF ?_ | refine gI ?_)
    have hj' : j = D.tick.S.length := by omega
    subst hj'
    rw [List.take_length]
    refine fd (a := osl 133 3 v D.tick.S.length (parts (D.tick.S.map Sec.settle))) ?_
    refine E_oslo (by omega) fun b2 cap2 sp2 hv hle2 hxl hsl => ?_
    subst hv
    refine E_cshare ?_
    have ho' : ({ D.tick with S := D.S.map Sec.settle } : Dk).Ok := ⟨by simpa [Dk.tick] using ho.n1, by simpa [Dk.tick] using ho.n2, ho.t1, ho.t2, fun s hs => by
      obtain ⟨x, hx, rfl⟩ := List.mem_map.1 hs
      refine ⟨?_, fun b hb => by cases hb⟩
      have := ho.len x hx
      unfold Sec.settle Sec.now
      cases hl : x.last with
      | none => simpa using this.1
      | some b => simpa using this.2 b hl⟩
    exact E_same (by repeat (first | exact Same.refl | (refine Same.cons (by repeat (first | exact Find.here | apply Find.there)) ?_) | (refine Same.drop ?_))) (E_rdisks (H := H) ho' hle2 (by simp [Dk.tick]) rfl rfl rfl (b := b2) (sp := sp2) h)
end Go.Proofs.YtmbfmkiagdhcoaaGreat.Disk
namespace Go.Proofs.YtmbfmkiagdhcoaaGreat.Disk
open Go Go.SL Go.Proofs Go.Proofs.YtmbfmkiagdhcoaaGreat.Sh
attribute [local irreducible] S.pick S.ld S.ldN S.st S.box S.nc S.fad S.ixS S.ixA S.chr S.prt S.ext S.bin S.sh S.sbin S.beq S.neg1 S.com1 S.not1 S.cvt S.str1 S.lenS S.len S.cap S.lenM S.mx S.mn S.mkM S.cond S.gd S.fa S.dr S.rck S.join S.loop S.cvv S.eqv S.slc S.slcS S.b2s S.lk V U CF Gives E cel mpb osl ros dct dit itr lpo dfo
attribute [local irreducible] disk rdisk
variable {B : World} {H : List Asrt} {K : Value → WT}
theorem keepGate {κ : Bool} {T bc k : Nat} {c : Cr} {kv' : Value} [hc : HasC H bc κ T [kv', I c.torn, I c.at_]] [hf : Rx B H kv' c.keep.length (bools c.keep)] {R : Value → WT} (h : E B H (R (.bool (c.keep.getD k false)))) :
    E B H (S.fad (ptr bc) 0 fun v62 => S.ld v62 fun v63 => S.len v63 fun v64 => S.bin .lss (I k) v64 fun v65 => S.gd v65 true (fun k => S.fad (ptr bc) 0 k) fun v67 => S.gd v65 true (fun k => S.ld v67 k) fun v68 =>
      S.gd v65 true (fun k' => k' (I k)) fun v69 => S.gd v65 true (fun k => S.ixS 1 v68 v69 k) fun v70 => S.gd v65 true (fun k => S.ld v70 k) fun v71 => S.pick v65 v71 (.bool false) R) := by
  (repeat first | refine gS ?_ | refine gA fun _ => ?_ | refine gX fun _ _ => ?_ | refine gT ?_ | refine gF ?_ | refine gI ?_)
  refine E_rx_len (v := kv') ?_
  (repeat first | refine gS ?_ | refine gA fun _ => ?_ | refine gX fun _ _ => ?_ | refine gT ?_ | refine gF ?_ | refine gI ?_)
  by_cases hjk : k < c.keep.length
  · have hg : c.keep.getD k false = c.keep[k] := by simp [hjk]
    rw [hg] at h
    have hlt' : (k : Int) < (c.keep.length : Int) := by omega
    (repeat first | refine gS ?_ | refine gA fun _ => ?_ | refine gX fun _ _ => ?_ | refine gT ?_ | refine gF ?_ | refine gI ?_)
    refine E_rxn (v := kv') (by simp; omega) (fun b2 o2 cap2 hv2 hle2 => ?_)
    subst hv2
    refine E_ixS (by omega) (by omega) ?_
    (repeat first | refine gS ?_ | refine gA fun _ => ?_ | refine gX fun _ _ => ?_ | refine gT ?_ | refine gF ?_ | refine gI ?_)
    refine E_rx_ld (m := c.keep.length) (cap := cap2) (u := .bool c.keep[k]) ?_ ?_
    · simp [bools, hjk]
    (repeat first | refine gS ?_ | refine gA fun _ => ?_ | refine gX fun _ _ => ?_ | refine gT ?_ | refine gF ?_ | refine gI ?_)
    exact h
  · have hlt' : ¬ (k : Int) < (c.keep.length : Int) := by omega
    have hg : c.keep.getD k false = false := by simp [List.getD, List.getElem?_eq_none (Nat.le_of_not_lt hjk)]
    rw [hg] at h
    (repeat first | refine gS ?_ | refine gA fun _ => ?_ | refine gX fun _ _ => ?_ | refine gT ?_ | refine gF ?_ | refine gI ?_)
    exact h
theorem tornGate {κ : Bool} {T bc k : Nat} {c : Cr} {kv' : Value} [hc : HasC H bc κ T [kv', I c.torn, I c.at_]] {R : Value → WT} (h : E B H (R (.bool (decide ((k : Int) = c.torn ∧ 0 ≤ c.at_ ∧ c.at_ ≤ 128))))) :
    E B H (S.fad (ptr bc) 1 fun v45 => S.ld v45 fun v46 => S.bin .eql (I k) v46 fun v47 => S.gd v47 true (fun k => S.fad (ptr bc) 2 k) fun v49 => S.gd v47 true (fun k => S.ld v49 k) fun v50 =>
      S.gd v47 true (fun k => S.bin .geq v50 (I 0) k) fun v51 => S.pick v47 v51 (.bool false) fun v52 => S.gd v52 true (fun k => S.fad (ptr bc) 2 k) fun v54 => S.gd v52 true (fun k => S.ld v54 k) fun v55 =>
      S.gd v52 true (fun k => S.bin .leq v55 (I 128) k) fun v56 => S.pick v52 v56 (.bool false) R) := by
  (repeat first | refine gS ?_ | refine gA fun _ => ?_ | refine gX fun _ _ => ?_ | refine gT ?_ | refine gF ?_ | refine gI ?_)
  have hR' : ∀ q : Bool, q = decide ((k : Int) = c.torn ∧ 0 ≤ c.at_ ∧ c.at_ ≤ 128) → E B H (R (.bool q)) := fun q hq => by subst hq; exact h
  by_cases h1 : (k : Int) = c.torn
  · by_cases h2 : 0 ≤ c.at_
    · (repeat first | refine gS ?_ | refine gA fun _ => ?_ | refine gX fun _ _ => ?_ | refine gT ?_ | refine gF ?_ | refine gI ?_)
      exact hR' _ (by simp [h1, h2])
    · (repeat first | refine gS ?_ | refine gA fun _ => ?_ | refine gX fun _ _ => ?_ | refine gT ?_ | refine gF ?_ | refine gI ?_)
      exact hR' _ (by simp [h2])
  · (repeat first | refine gS ?_ | refine gA fun _ => ?_ | refine gX fun _ _ => ?_ | refine gT ?_ | refine gF ?_ | refine gI ?_)
    exact hR' _ (by simp [h1])
theorem str_take (bs : List UInt8) (n : Nat) : (⟨bs.toArray⟩ : ByteArray).extract 0 n = ⟨(bs.take n).toArray⟩ := by
  apply ByteArray.ext; simp [ByteArray.data_extract]
theorem str_drop (bs : List UInt8) (n : Nat) : (⟨bs.toArray⟩ : ByteArray).extract n bs.length = ⟨(bs.drop n).toArray⟩ := by
  apply ByteArray.ext
  simp [ByteArray.data_extract, List.take_of_length_le]
theorem slcS_intro {w : World} {s : ByteArray} {lo hi : Option Value} {l hh : Nat} (h2 : S.bound hi s.size = some hh) (h3 : S.bound lo 0 = some l) (h4 : l ≤ hh) (h5 : hh ≤ s.size) (h : K (.string (s.extract l hh)) w) : S.slcS (.string s) lo hi K w := by
  unfold S.slcS; exact ⟨l, hh, h2, h3, h4, h5, h⟩
theorem E_slcS {s : ByteArray} {lo hi : Option Value} {l hh : Nat} (h2 : S.bound hi s.size = some hh) (h3 : S.bound lo 0 = some l) (h4 : l ≤ hh) (h5 : hh ≤ s.size) (h : E B H (K (.string (s.extract l hh)))) : E B H (S.slcS (.string s) lo hi K) :=
  by unfold E at h ⊢; exact fun w hw => slcS_intro h2 h3 h4 h5 (h w hw)
def cnt (l : List Sec) : Nat := l.countP fun s => s.last.isSome
theorem crash_snoc (g : Nat → Sec → Sec) (s : Sec) : ∀ (l : List Sec) (n : Nat), crashG g (l ++ [s]) n = crashG g l n ++ [if s.last.isSome then g (n + cnt l) s else s]
  | [], n => by simp [crashG, cnt]; split <;> rfl
  | x :: l, n => by
    simp only [List.cons_append, crashG]
    by_cases hx : x.last.isSome = true
    · have := crash_snoc g s l (n + 1)
      have e : n + cnt (x :: l) = n + 1 + cnt l := by simp [cnt, hx]; omega
      rw [if_pos hx, if_pos hx, this, e]; rfl
    · have := crash_snoc g s l n
      have e : n + cnt (x :: l) = n + cnt l := by simp [cnt, hx]
      rw [if_neg hx, if_neg hx, this, e]; rfl
theorem crash_length (g : Nat → Sec → Sec) : ∀ (l : List Sec) (n : Nat), (crashG g l n).length = l.length
  | [], n => rfl
  | x :: l, n => by
    unfold crashG
    split <;> simp [crash_length g l]
theorem crash_ok (c : Cr) : ∀ (l : List Sec) (n : Nat), (∀ s ∈ l, s.sure.length = 128 ∧ ∀ b, s.last = some b → b.length = 128) → ∀ s ∈ crashG c.sec l n, s.sure.length = 128 ∧ ∀ b, s.last = some b → b.length = 128
  | [], n, _, s, hs => by cases hs
  | x :: l, n, h, s, hs => by
    have hx := h x (List.mem_cons_self ..)
    have hl := fun y hy => h y (List.mem_cons_of_mem _ hy)
    unfold crashG at hs
    split at hs
    · rcases List.mem_cons.1 hs with rfl | hs
      · exact ⟨sec_len hx.1 hx.2, fun b hb => by cases hb⟩
      · exact crash_ok c l _ hl s hs
    · rcases List.mem_cons.1 hs with rfl | hs
      · exact hx
      · exact crash_ok c l _ hl s hs
theorem cnt_le (l : List Sec) : cnt l ≤ l.length := List.countP_le_length
theorem rcrash {a : Nat} {D : Dk} {c : Cr} {kv' : Value} [hf : Rx B H kv' c.keep.length (bools c.keep)] [hck : CellI kv'] (h : E B (rdisk a (D.crash c) :: H) (K (.tuple #[]))) :
    E B (rdisk a D :: H) (CF Tryz.prog 87 [ptr a, .agg #[kv', I c.torn, I c.at_]] K) := by
  refine E_mono (W := s87 _ _ K) ?_ fun _ => c87
  unfold s87
  (repeat first | refine gS ?_ | refine gA fun _ => ?_ | refine gX fun _ _ => ?_ | refine gT ?_ | refine gF ?_ | refine gI ?_)
  rename_i bc
  refine fd (a := rdisk a D) (E_rdisk fun b cap sp ho hle => ?_)
  have n2 := ho.n2
  have n1 := ho.n1
  have hpl := parts_length D.S
  refine E_bsl0 u_rParts elt_rPart fun b0 => ?_
  refine osl_of_cel (n := 0) (sz := 3) rfl ?_
  refine E_loop (σ := Nat × Value) (fun s => s.1 ≤ D.S.length ∧ CellI s.2) (fun s => [ptr a, ptr bc, s.2, I (cnt (D.S.take s.1)), I s.1])
    (fun s => osl 133 3 s.2 s.1 (parts (crashG c.sec (D.S.take s.1) 0)) :: cel true bc 51 [kv', I c.torn, I c.at_] :: cel true a 130 [.slice (some ⟨b, 0, none⟩) D.S.length cap, I D.trip, .bool D.down, I D.life] :: cel false b 133 (parts D.S ++ sp) :: H)
    (fun s => D.S.length - s.1) (0, .slice (some ⟨b0, 0, none⟩) 0 0) (fun _ => rfl) rfl ⟨Nat.zero_le _, ⟨rfl⟩⟩ (fun W hW => E_same (by repeat (first | exact Same.refl | (refine Same.cons (by repeat (first | exact Find.here | apply Find.there)) ?_) | (refine Same.drop ?_))) hW) ?_
  rintro ⟨j, v⟩ K0 ⟨hj, hcv⟩ hk
  simp only at hj hk hcv ⊢
  refine E_fa fun _ => ?_
  (repeat first | refine gS ?_ | refine gA fun _ => ?_ | refine gX fun _ _ => ?_ | refine gT ?_ | refine gF ?_ | refine gI ?_)
  refine E_if (fun hc => ?_) (fun hc => ?_)
  · have hj' : j < D.S.length := by omega
    have hs : D.S[j]? = some D.S[j] := List.getElem?_eq_getElem hj'
    generalize D.S[j] = s at hs
    have hlen := ho.len s (List.mem_of_getElem? hs)
    have hcn := crash_snoc c.sec s (D.S.take j) 0
    rw [← take_snoc hs, Nat.zero_add] at hcn
    have hcs : cnt (D.S.take (j + 1)) = cnt (D.S.take j) + if s.last.isSome then 1 else 0 := by
      rw [take_snoc hs]; unfold cnt; rw [List.countP_append]; simp [List.countP_cons]
    have hcl := cnt_le (D.S.take j)
    rw [List.length_take] at hcl
    (repeat first | refine gS ?_ | refine gA fun _ => ?_ | refine gX fun _ _ => ?_ | refine gT ?_ | refine gF ?_ | refine gI ?_)
    refine E_ixS (by omega) (by omega) ?_
    have ej : 0 + (j : Int).toNat * 3 = 0 + j * 3 := by simp
    rw [ej]
    refine E_ldN (cs := pcs s) (parts_at sp hs) rfl ?_
    (repeat first | refine gS ?_ | refine gA fun _ => ?_ | refine gX fun _ _ => ?_ | refine gT ?_ | refine gF ?_ | refine gI ?_)
    rename_i bp
    refine E_stN (vs := pcs s) (l' := [str s.sure, str (s.last.getD []), .bool s.last.isSome]) rfl (pcs_cells s) (by decide) rfl ?_
    have fin : ∀ s' : Sec, s' = (if s.last.isSome then c.sec (cnt (D.S.take j)) s else s) → E B (cel true bp 133 (pcs s') :: osl 133 3 v j (parts (crashG c.sec (D.S.take j) 0)) :: cel true bc 51 [kv', I c.torn, I c.at_] :: cel true a 130 [.slice (some ⟨b, 0, none⟩) D.S.length cap, I D.trip, .bool D.down, I D.life] :: cel false b 133 (parts D.S ++ sp) :: H)
        (S.ldN 3 (ptr bp) fun v37 => V Tryz.prog (Instr.buildSlice 128 1 #[(0, v37)]) fun v38 => V Tryz.prog (Builtin.append_ #[128, 128] 128 #[v, v38]) fun v39 => S.bin .add (I j) (I 1) fun v23 => K0 (ptr a) (ptr bc) v39 (I (cnt (D.S.take (j + 1)))) v23) := by
      intro s' hs'
      refine E_ldN (cs := pcs s') (by simp [pcs]) rfl ?_
      refine fd (a := osl 133 3 v j (parts (crashG c.sec (D.S.take j) 0))) ?_
      refine appPart (b := b) (by rw [crash_length]; simp; omega) (by omega) fun v' _ => ?_
      (repeat first | refine gS ?_ | refine gA fun _ => ?_ | refine gX fun _ _ => ?_ | refine gT ?_ | refine gF ?_ | refine gI ?_)
      have hk' := hk (j + 1, v') ⟨by simp only; omega, by assumption⟩ (by simp only; omega)
      rw [← hs'] at hcn
      simp only [hcn] at hk'
      exact sm hk'
    refine E_join0 ?_
    (repeat first | refine gS ?_ | refine gA fun _ => ?_ | refine gX fun _ _ => ?_ | refine gT ?_ | refine gF ?_ | refine gI ?_)
    refine E_ifb (fun hl => ?_) (fun hl => ?_)
    · obtain ⟨bs, hbs⟩ := Option.isSome_iff_exists.1 hl
      have hb128 := hlen.2 bs hbs
      have hnow : s.now = bs := by simp [Sec.now, hbs]
      rw [if_pos hl] at hcs fin
      simp only [hbs, Option.getD_some]
      (repeat first | refine gS ?_ | refine gA fun _ => ?_ | refine gX fun _ _ => ?_ | refine gT ?_ | refine gF ?_ | refine gI ?_)
      refine E_join0 ?_
      refine E_join0 ?_
      refine keepGate (c := c) (kv' := kv') ?_
      refine E_fa fun _ => ?_
      have done : E B (cel true bp 133 [str s.sure, str bs, .bool true] :: osl 133 3 v j (parts (crashG c.sec (D.S.take j) 0)) :: cel true bc 51 [kv', I c.torn, I c.at_] :: cel true a 130 [.slice (some ⟨b, 0, none⟩) D.S.length cap, I D.trip, .bool D.down, I D.life] :: cel false b 133 (parts D.S ++ sp) :: H)
          (V Tryz.prog (Instr.build 133 #[(0, str (c.sec (cnt (D.S.take j)) s).sure)]) fun v70 => S.st 3 (ptr bp) v70 fun _ => S.bin .add (I (cnt (D.S.take j))) (I 1) fun v72 => S.fa fun _ => S.ldN 3 (ptr bp) fun v37 =>
            V Tryz.prog (Instr.buildSlice 128 1 #[(0, v37)]) fun v38 => V Tryz.prog (Builtin.append_ #[128, 128] 128 #[v, v38]) fun v39 => S.bin .add (I j) (I 1) fun v23 => K0 (ptr a) (ptr bc) v39 v72 v23) := by
        refine E_build (l := pcs (c.sec (cnt (D.S.take j)) s)) str_rPart ?_
        refine E_stN (vs := pcs (c.sec (cnt (D.S.take j)) s)) (l' := pcs (c.sec (cnt (D.S.take j)) s)) rfl (pcs_cells _) (by simp) rfl ?_
        refine E_addI (by omega) (by omega) ?_
        refine E_fa fun _ => ?_
        have := fin _ rfl
        rw [hcs] at this
        exact this
      refine E_ifb (fun hy => ?_) (fun hy => ?_)
      · skip
        (repeat first | refine gS ?_ | refine gA fun _ => ?_ | refine gX fun _ _ => ?_ | refine gT ?_ | refine gF ?_ | refine gI ?_)
        refine E_join0 ?_
        refine E_join0 ?_
        refine tornGate (c := c) (kv' := kv') ?_
        (repeat first | refine gS ?_ | refine gA fun _ => ?_ | refine gX fun _ _ => ?_ | refine gT ?_ | refine gF ?_ | refine gI ?_)
        refine E_if (fun hT => ?_) (fun hT => ?_)
        · have hone : (c.sec (cnt (D.S.take j)) s).sure = bs.take c.at_.toNat ++ s.sure.drop c.at_.toNat := by
            unfold Cr.sec Cr.one; simp only [if_pos hT, hnow]
          have hb1 : S.bound (some (I c.at_)) (⟨bs.toArray⟩ : ByteArray).size = some c.at_.toNat := by simp [S.bound, hT.2.1]
          have hb2 : S.bound (some (I c.at_)) 0 = some c.at_.toNat := by simp [S.bound, hT.2.1]
          (repeat first | refine gS ?_ | refine gA fun _ => ?_ | refine gX fun _ _ => ?_ | refine gT ?_ | refine gF ?_ | refine gI ?_)
          refine E_slcS (l := 0) hb1 rfl (by omega) (by rw [str_size]; omega) ?_
          (repeat first | refine gS ?_ | refine gA fun _ => ?_ | refine gX fun _ _ => ?_ | refine gT ?_ | refine gF ?_ | refine gI ?_)
          refine E_slcS (hh := s.sure.length) (by simp [S.bound, str_size]) hb2 (by omega) (by rw [str_size]; omega) ?_
          rw [str_take, str_drop]
          refine E_sadd (by rw [str_size, str_size]; simp; omega) ?_
          rw [str_app, ← hone]
          (repeat first | refine gS ?_ | refine gA fun _ => ?_ | refine gX fun _ _ => ?_ | refine gT ?_ | refine gF ?_ | refine gI ?_)
          exact done
        · have hone : (c.sec (cnt (D.S.take j)) s).sure = bs := by
            unfold Cr.sec Cr.one; simp only [if_neg hT, hnow, hy, Bool.false_eq_true, if_true, if_false]
          rw [hone] at done
          (repeat first | refine gS ?_ | refine gA fun _ => ?_ | refine gX fun _ _ => ?_ | refine gT ?_ | refine gF ?_ | refine gI ?_)
          exact done
      · skip
        (repeat first | refine gS ?_ | refine gA fun _ => ?_ | refine gX fun _ _ => ?_ | refine gT ?_ | refine gF ?_ | refine gI ?_)
        refine E_join0 ?_
        refine E_join0 ?_
        refine tornGate (c := c) (kv' := kv') ?_
        (repeat first | refine gS ?_ | refine gA fun _ => ?_ | refine gX fun _ _ => ?_ | refine gT ?_ | refine gF ?_ | refine gI ?_)
        refine E_if (fun hT => ?_) (fun hT => ?_)
        · have hone : (c.sec (cnt (D.S.take j)) s).sure = bs.take c.at_.toNat ++ s.sure.drop c.at_.toNat := by
            unfold Cr.sec Cr.one; simp only [if_pos hT, hnow]
          have hb1 : S.bound (some (I c.at_)) (⟨bs.toArray⟩ : ByteArray).size = some c.at_.toNat := by simp [S.bound, hT.2.1]
          have hb2 : S.bound (some (I c.at_)) 0 = some c.at_.toNat := by simp [S.bound, hT.2.1]
          (repeat first | refine gS ?_ | refine gA fun _ => ?_ | refine gX fun _ _ => ?_ | refine gT ?_ | refine gF ?_ | refine gI ?_)
          refine E_slcS (l := 0) hb1 rfl (by omega) (by rw [str_size]; omega) ?_
          (repeat first | refine gS ?_ | refine gA fun _ => ?_ | refine gX fun _ _ => ?_ | refine gT ?_ | refine gF ?_ | refine gI ?_)
          refine E_slcS (hh := s.sure.length) (by simp [S.bound, str_size]) hb2 (by omega) (by rw [str_size]; omega) ?_
          rw [str_take, str_drop]
          refine E_sadd (by rw [str_size, str_size]; simp; omega) ?_
          rw [str_app, ← hone]
          (repeat first | refine gS ?_ | refine gA fun _ => ?_ | refine gX fun _ _ => ?_ | refine gT ?_ | refine gF ?_ | refine gI ?_)
          exact done
        · have hone : (c.sec (cnt (D.S.take j)) s).sure = s.sure := by
            unfold Cr.sec Cr.one; simp only [if_neg hT, hnow, hy, Bool.false_eq_true, if_true, if_false]
          rw [hone] at done
          (repeat first | refine gS ?_ | refine gA fun _ => ?_ | refine gX fun _ _ => ?_ | refine gT ?_ | refine gF ?_ | refine gI ?_)
          exact done
    · have hbs : s.last = none := by simpa using hl
      rw [if_neg (by simp [hl])] at hcs fin
      have e0 : pcs s = [str s.sure, str [], .bool false] := by simp [pcs, hbs]
      simp only [hbs, Option.getD_none, Option.isSome_none]
      have := fin s rfl
      rw [e0, hcs, Nat.add_zero] at this
      (repeat (fail_if_success (refine E_ldNA ?_)); (first | refine gS ?_ | refine gA fun _ => ?_ | refine gT ?_ | refine gF ?_ | refine gI ?_))
      exact this
  · (repeat first | refine gS ?_ | refine gA fun _ => ?_ | refine gX fun _ _ => ?_ | refine gT ?_ | refine gF ?_ | refine gI ?_)
    have hj' : j = D.S.length := by omega
    subst hj'
    rw [List.take_length]
    refine E_add ?_
    (repeat first | refine gS ?_ | refine gA fun _ => ?_ | refine gX fun _ _ => ?_ | refine gT ?_ | refine gF ?_ | refine gI ?_)
    refine fd (a := osl 133 3 v D.S.length (parts (crashG c.sec D.S 0))) ?_
    refine E_oslo (by omega) fun b2 cap2 sp2 hv hle2 hxl hsl => ?_
    subst hv
    refine E_cshare ?_
    have ho' : (D.crash c).Ok := ⟨by simpa [Dk.crash, crash_length] using ho.n1, by simpa [Dk.crash, crash_length] using ho.n2, by simp [Dk.crash], by simp [Dk.crash], crash_ok c _ _ ho.len⟩
    exact E_same (by repeat (first | exact Same.refl | (refine Same.cons (by repeat (first | exact Find.here | apply Find.there)) ?_) | (refine Same.drop ?_))) (E_rdisks (H := H) ho' hle2 (by simp [Dk.crash, crash_length]) rfl rfl rfl (b := b2) (sp := sp2) h)
end Go.Proofs.YtmbfmkiagdhcoaaGreat.Disk
end
section
namespace Go.Proofs.YtmbfmkiagdhcoaaGreat.Bn
open Go Go.SL Go.Proofs Go.Proofs.YtmbfmkiagdhcoaaGreat.Sh Go.Proofs.YtmbfmkiagdhcoaaGreat.Oct Go.Proofs.YtmbfmkiagdhcoaaGreat.Disk Go.Proofs.YtmbfmkiagdhcoaaGreat.Slot Go.Proofs.YtmbfmkiagdhcoaaGreat.Pk Go.Proofs.YtmbfmkiagdhcoaaGreat.Ext
variable {B : World} {H : List Asrt} {K : Value → WT} {W : WT}
def rsh (a x y : Nat) (Z : Shf) : Asrt := ex fun v : Pk.Cv => all [cel true a 86 [ptr x, ptr y, v.1], rdisk x Z.D, rmap y Z.f Z.T, sls cPl 34 3 v.1 Z.P]
theorem E_rsh {a x y : Nat} {Z : Shf} (h : ∀ v [CellI v], E B (cel true a 86 [ptr x, ptr y, v] :: rdisk x Z.D :: rmap y Z.f Z.T :: sls cPl 34 3 v Z.P :: H) W) : E B (rsh a x y Z :: H) W := E_ex fun v => E_all (@h v.1 ⟨v.2⟩)
theorem E_rshS {a x y : Nat} {Z : Shf} {v : Value} {D : Dk} {T : List Bool} {P : List Pc} {f : Nat} [hv : CellI v] (hD : D = Z.D) (hf : f = Z.f) (hT : T = Z.T) (hP : P = Z.P) (h : E B (rsh a x y Z :: H) W) :
    E B (cel true a 86 [ptr x, ptr y, v] :: rdisk x D :: rmap y f T :: sls cPl 34 3 v P :: H) W := by
  subst hD hf hT hP
  exact E_all' (G := [cel true a 86 [ptr x, ptr y, v], rdisk x Z.D, rmap y Z.f Z.T, sls cPl 34 3 v Z.P]) (E_ex' (f := fun v : Pk.Cv => all [cel true a 86 [ptr x, ptr y, v.1], rdisk x Z.D, rmap y Z.f Z.T, sls cPl 34 3 v.1 Z.P]) ⟨v, hv.pf⟩ h)
theorem posP_lt {P : List Pc} {b : Int} {i : Nat} (h : i < posP P b) : ∃ p, P[i]? = some p ∧ (p.bin : Int) < b := by
  induction P generalizing i with
  | nil => simp [posP] at h
  | cons q P ih =>
    unfold posP at h
    split at h
    · rename_i hq
      cases i with
      | zero => exact ⟨q, rfl, hq⟩
      | succ i => exact ih (by omega)
    · omega
theorem posP_at {P : List Pc} {b : Int} {p : Pc} (h : P[posP P b]? = some p) : ¬ (p.bin : Int) < b := by
  induction P with
  | nil => simp [posP] at h
  | cons q P ih =>
    unfold posP at h
    split at h
    · exact ih (by simpa using h)
    · rename_i hq
      simp only [List.getElem?_cons_zero, Option.some.injEq] at h
      subst h
      exact hq
attribute [local irreducible] S.pick S.ld S.ldN S.st S.box S.nc S.fad S.ixS S.ixA S.chr S.prt S.ext S.bin S.sh S.sbin S.beq S.neg1 S.com1 S.not1 S.cvt S.str1 S.lenS S.len S.cap S.lenM S.mx S.mn S.mkM S.cond S.gd S.fa S.dr S.rck S.join S.loop S.cvv S.eqv S.slc S.slcS S.b2s S.lk V U CF Gives E cel mpb osl ros dct dit itr lpo dfo
theorem rfind {a x y : Nat} {Z : Shf} {b : Int} (hi : Inv Z) (h : E B (rsh a x y Z :: H) (K (.tuple #[I (posP Z.P b), .bool (known Z.P b).isSome]))) : E B (rsh a x y Z :: H) (CF Tryz.prog 93 [ptr a, I b] K) := by
  refine E_mono (W := s93 _ _ K) ?_ fun _ => c93
  unfold s93
  have hpl := hi.plen
  have hpo := pos_le Z.P b
  refine E_loop (n := 3) (σ := Nat) (fun i => i ≤ posP Z.P b) (fun i => [ptr a, I b, I i]) (fun _ => rsh a x y Z :: H) (fun i => posP Z.P b - i) 0 (fun _ => rfl) rfl (Nat.zero_le _) (fun W hW => hW) ?_
  intro i K0 hil hk
  refine E_fa fun _ => ?_
  refine E_rsh fun v _ => ?_
  refine E_join1 (n := 4) [ptr a, I b, I i, .bool (decide (i < posP Z.P b))] (cel true a 86 [ptr x, ptr y, v] :: rdisk x Z.D :: rmap y Z.f Z.T :: sls cPl 34 3 v Z.P :: H) (fun q hq => ?_) ?_
  · refine E_nc ?_
    refine E_fad0 ?_
    refine E_ld ?_
    refine E_rslen (v := v) (l := Z.P) ?_
    refine E_lss ?_
    by_cases h1 : i < Z.P.length
    · have hx : Z.P[i]? = some Z.P[i] := List.getElem?_eq_getElem h1
      generalize Z.P[i] = p at hx
      have e : decide (i < posP Z.P b) = decide ((p.bin : Int) < b) := by
        rw [decide_eq_decide]
        constructor
        · intro h2
          obtain ⟨p', h3, h4⟩ := posP_lt h2
          rw [hx] at h3
          cases h3
          exact h4
        · intro h2
          rcases Nat.lt_or_ge i (posP Z.P b) with h3 | h3
          · exact h3
          · have : i = posP Z.P b := by omega
            subst this
            exact absurd h2 (posP_at hx)
      rw [e] at hq
      rw [decide_eq_true (show (i : Int) < (Z.P.length : Int) by omega)]
      refine E_gtf ?_
      refine E_gtf ?_
      refine E_nc ?_
      refine E_gtf ?_
      refine E_fad0 ?_
      refine E_gtf ?_
      refine E_ld ?_
      refine E_gtf ?_
      refine E_gtf ?_
      refine E_rsix (v := v) (l := Z.P) hx fun _ _ => ?_
      refine E_gtf ?_
      refine E_ptfad0 fun _ _ => ?_
      refine E_gtf ?_
      refine E_ptld ?_
      refine E_gtf ?_
      refine E_gtf ?_
      refine E_lss ?_
      refine E_ptt ?_
      exact hq
    · have e : decide (i < posP Z.P b) = false := by rw [decide_eq_false_iff_not]; omega
      rw [e] at hq
      rw [decide_eq_false (show ¬ (i : Int) < (Z.P.length : Int) by omega)]
      refine E_gff ?_
      refine E_gff ?_
      refine E_gff ?_
      refine E_gff ?_
      refine E_gff ?_
      refine E_gff ?_
      refine E_gff ?_
      refine E_gff ?_
      refine E_gff ?_
      refine E_gff ?_
      refine E_pff ?_
      exact hq
  refine E_fa fun _ => ?_
  refine E_if (fun hc => ?_) (fun hc => ?_)
  · refine E_addI (by omega) (by omega) ?_
    exact E_rshS rfl rfl rfl rfl (hk (i + 1) (by omega) (by omega))
  · have hie : i = posP Z.P b := by omega
    subst hie
    refine E_dr ?_
    refine E_nc ?_
    refine E_fad0 ?_
    refine E_ld ?_
    refine E_rslen (v := v) (l := Z.P) ?_
    refine E_lss ?_
    have hkp := known_pos hi.sort b
    cases hx : Z.P[posP Z.P b]? with
    | none =>
      rw [hx] at hkp
      simp only at hkp
      rw [hkp] at h
      have hge := List.getElem?_eq_none_iff.1 hx
      rw [decide_eq_false (show ¬ ((posP Z.P b : Nat) : Int) < (Z.P.length : Int) by omega)]
      refine E_gff ?_
      refine E_gff ?_
      refine E_gff ?_
      refine E_gff ?_
      refine E_gff ?_
      refine E_gff ?_
      refine E_gff ?_
      refine E_gff ?_
      refine E_gff ?_
      refine E_gff ?_
      refine E_pff ?_
      exact E_rshS rfl rfl rfl rfl h
    | some p =>
      rw [hx] at hkp
      simp only at hkp
      have hlt := (List.getElem?_eq_some_iff.1 hx).1
      have e : (known Z.P b).isSome = decide ((p.bin : Int) = b) := by
        rw [hkp]
        by_cases hb : (p.bin : Int) = b
        · rw [if_pos hb, decide_eq_true hb]; rfl
        · rw [if_neg hb, decide_eq_false hb]; rfl
      rw [e] at h
      rw [decide_eq_true (show ((posP Z.P b : Nat) : Int) < (Z.P.length : Int) by omega)]
      refine E_gtf ?_
      refine E_gtf ?_
      refine E_nc ?_
      refine E_gtf ?_
      refine E_fad0 ?_
      refine E_gtf ?_
      refine E_ld ?_
      refine E_gtf ?_
      refine E_gtf ?_
      refine E_rsix (v := v) (l := Z.P) hx fun _ _ => ?_
      refine E_gtf ?_
      refine E_ptfad0 fun _ _ => ?_
      refine E_gtf ?_
      refine E_ptld ?_
      refine E_gtf ?_
      refine E_gtf ?_
      refine E_eql ?_
      refine E_ptt ?_
      exact E_rshS rfl rfl rfl rfl h
theorem rput {a x y : Nat} {Z : Shf} {p : Pc} (hi : Inv Z) (h : E B (rsh a x y { Z with P := putP Z.P p } :: H) (K (.tuple #[]))) : E B (rsh a x y Z :: H) (CF Tryz.prog 121 [ptr a, plV p.bin p.pos p.n] K) := by
  refine E_mono (W := s121 _ _ K) ?_ fun _ => c121
  unfold s121
  have hpl := hi.plen
  have hpo := pos_le Z.P p.bin
  refine E_box (v := plV p.bin p.pos p.n) (vs := [I p.bin, I p.pos, I p.n]) fun v3 => ?_
  refine E_fad0 ?_
  refine E_ld ?_
  refine fd (a := rsh a x y Z) ?_
  refine rfind hi ?_
  refine E_ext ?_
  refine E_ext ?_
  refine E_sbsl0 cPl u_places elt_place fun v14 _ => ?_
  refine fd (a := rsh a x y Z) ?_
  refine E_rsh fun v _ => ?_
  refine E_nc ?_
  refine E_fad0 ?_
  refine E_ld ?_
  refine E_slcS2 (v := v) (l := Z.P) (i := 0) (j := posP Z.P p.bin) (Dig.bndN rfl) rfl (Nat.zero_le _) hpo fun v20 h20 _ => ?_
  rw [List.drop_zero, Nat.sub_zero] at h20
  refine fd (a := sls cPl 34 3 v14 []) ?_
  have i20 := h20 (cel true a 86 [ptr x, ptr y, v] :: rdisk x Z.D :: rmap y Z.f Z.T :: sls cPl 34 3 v Z.P :: cel true v3 34 [I p.bin, I p.pos, I p.n] :: H)
  have htl : (Z.P.take (posP Z.P p.bin)).length ≤ 4096 := by rw [List.length_take]; omega
  refine E_sapps (enc := cPl) (u := v20) (m := Z.P.take (posP Z.P p.bin)) u_places elt_place (by simp; omega) (by simp; omega) fun v21 _ => ?_
  rw [List.nil_append]
  refine E_ldNA ?_
  refine E_sapp1 (enc := cPl) (xv := plV p.bin p.pos p.n) p u_places elt_place rfl (by omega) (by omega) (by omega) fun v25 _ => ?_
  refine E_nc ?_
  refine E_fad0 ?_
  refine E_ld ?_
  refine E_slcS2 (v := v) (l := Z.P) (i := posP Z.P p.bin) (j := Z.P.length) rfl (Dig.bndN rfl) hpo (Nat.le_refl _) fun v33 h33 _ => ?_
  rw [List.take_of_length_le (by rw [List.length_drop]; omega)] at h33
  have i33 := h33 (cel true a 86 [ptr x, ptr y, v] :: rdisk x Z.D :: rmap y Z.f Z.T :: sls cPl 34 3 v Z.P :: cel true v3 34 [I p.bin, I p.pos, I p.n] :: H)
  refine E_sapps (enc := cPl) (u := v33) (m := Z.P.drop (posP Z.P p.bin)) u_places elt_place (by simp; omega) (by simp; omega) fun v34 _ => ?_
  refine E_nc ?_
  refine E_fad0 ?_
  refine E_st ?_
  have e : Z.P.take (posP Z.P p.bin) ++ [p] ++ Z.P.drop (posP Z.P p.bin) = putP Z.P p := by rw [put_pos, List.append_assoc]; rfl
  rw [e]
  refine sm (G := cel true a 86 [ptr x, ptr y, v34] :: rdisk x Z.D :: rmap y Z.f Z.T :: sls cPl 34 3 v34 (putP Z.P p) :: H) ?_
  exact E_rshS (Z := { Z with P := putP Z.P p }) rfl rfl rfl rfl h
end Go.Proofs.YtmbfmkiagdhcoaaGreat.Bn
end
section
namespace Go.Proofs.YtmbfmkiagdhcoaaGreat.Bn
open Go Go.SL Go.Proofs Go.Proofs.YtmbfmkiagdhcoaaGreat.Sh Go.Proofs.YtmbfmkiagdhcoaaGreat.Oct Go.Proofs.YtmbfmkiagdhcoaaGreat.Disk Go.Proofs.YtmbfmkiagdhcoaaGreat.Slot Go.Proofs.YtmbfmkiagdhcoaaGreat.Pk Go.Proofs.YtmbfmkiagdhcoaaGreat.Ext
variable {B : World} {H : List Asrt} {K : Value → WT} {W : WT}
attribute [local irreducible] S.pick S.ld S.ldN S.st S.box S.nc S.fad S.ixS S.ixA S.chr S.prt S.ext S.bin S.sh S.sbin S.beq S.neg1 S.com1 S.not1 S.cvt S.str1 S.lenS S.len S.cap S.lenM S.mx S.mn S.mkM S.cond S.gd S.fa S.dr S.rck S.join S.loop S.cvv S.eqv S.slc S.slcS S.b2s S.lk V U CF Gives E cel mpb osl ros dct dit itr lpo dfo
theorem rclaimS {a x y : Nat} {Z : Shf} {b p n : Int} (hi : Inv Z) (hp : p ≤ 9223372036854775807) (h : E B (rsh a x y (claimS Z b p n).2 :: H) (K (I (claimS Z b p n).1))) : E B (rsh a x y Z :: H) (CF Tryz.prog 85 [ptr a, plV b p n] K) := by
  refine E_mono (W := s85 _ _ K) ?_ fun _ => c85
  unfold s85
  refine E_box (v := plV b p n) (vs := [I b, I p, I n]) fun v3 => ?_
  have hics := (hi.claim p n)
  unfold claimS at h
  refine E_join1 (n := 3) [ptr a, ptr v3, .bool (decide (b < 0 ∨ 4096 ≤ b ∨ n < 2 ∨ 64 < n))] (cel true v3 34 [I b, I p, I n] :: rsh a x y Z :: H) (fun q hq => ?_) ?_
  · by_cases h1 : b < 0
    · rw [decide_eq_true (.inl h1)] at hq
      (repeat first | refine gS ?_ | refine gA fun _ => ?_ | refine gX fun _ _ => ?_ | refine gT ?_ | refine gF ?_ | refine gI ?_)
      exact hq
    · by_cases h2 : (4095 : Int) < b
      · rw [decide_eq_true (.inr (.inl (by omega)))] at hq
        (repeat first | refine gS ?_ | refine gA fun _ => ?_ | refine gX fun _ _ => ?_ | refine gT ?_ | refine gF ?_ | refine gI ?_)
        exact hq
      · by_cases h3 : n < 2
        · rw [decide_eq_true (.inr (.inr (.inl h3)))] at hq
          (repeat first | refine gS ?_ | refine gA fun _ => ?_ | refine gX fun _ _ => ?_ | refine gT ?_ | refine gF ?_ | refine gI ?_)
          exact hq
        · have e : decide (b < 0 ∨ 4096 ≤ b ∨ n < 2 ∨ 64 < n) = decide (64 < n) := by rw [decide_eq_decide]; omega
          rw [e] at hq
          (repeat first | refine gS ?_ | refine gA fun _ => ?_ | refine gX fun _ _ => ?_ | refine gT ?_ | refine gF ?_ | refine gI ?_)
          exact hq
  refine E_fa fun _ => ?_
  refine E_if (fun hc => ?_) (fun hc => ?_)
  · rw [if_pos hc] at h
    exact sm h
  rw [if_neg hc] at h
  refine E_fad0 ?_
  refine E_ld ?_
  refine fd (a := rsh a x y Z) ?_
  refine rfind hi ?_
  refine E_ext ?_
  refine E_ext ?_
  cases ho : known Z.P b with
  | some p =>
    rw [if_pos (by rw [ho]; rfl)] at h
    refine E_tt ?_
    exact sm h
  | none =>
    rw [if_neg (by rw [ho]; decide)] at h
    refine E_ff ?_
    refine E_rsh fun v _ => ?_
    refine E_dr ?_
    refine E_nc ?_
    refine E_fad0 ?_
    refine E_ld ?_
    refine E_fad0 ?_
    refine E_ldN (cs := [I p, I n]) rfl rfl ?_
    refine fd (a := rmap y Z.f Z.T) ?_
    obtain ⟨r1, r2, r3⟩ := rel_claim hi.rel p n
    refine rclaim hp hi.le ?_
    rw [r3]
    refine sm (G := cel true a 86 [ptr x, ptr y, v] :: rdisk x Z.D :: rmap y Z.f (claimT Z.f Z.T p n).2 :: sls cPl 34 3 v Z.P :: cel true v3 34 [I b, I p, I n] :: H) ?_
    refine E_rshS (Z := claimN Z p n) rfl rfl rfl rfl ?_
    by_cases hc1 : (claimV Z.f (Z.f + Z.T.length) Z.R p n).1 ≠ 0
    · rw [if_pos hc1] at h
      refine E_join1 (n := 1) [I (claimV Z.f (Z.f + Z.T.length) Z.R p n).1] (rsh a x y (claimN Z p n) :: cel true v3 34 [I b, I p, I n] :: H) (fun q hq => ?_) ?_
      · refine E_eql ?_
        refine E_ifF hc1 ?_
        exact hq
      · refine E_fa fun _ => ?_
        exact sm h
    · rw [if_neg hc1] at h
      have hc1 : (claimV Z.f (Z.f + Z.T.length) Z.R p n).1 = 0 := by simpa using hc1
      obtain ⟨c1, c2, c3, c4, c5⟩ := claim_ok hi hc1
      rw [hc1]
      refine E_join1 (n := 1) [I 0] (rsh a x y { claimN Z p n with P := putP Z.P ⟨b.toNat, p.toNat, n.toNat⟩ } :: H) (fun q hq => ?_) ?_
      · refine E_eql ?_
        refine E_ifT rfl ?_
        refine E_ldNA ?_
        have e : (Value.agg [I b, I p, I n].toArray) = plV ((b.toNat : Nat) : Int) ((p.toNat : Nat) : Int) ((n.toNat : Nat) : Int) := by
          rw [show ((b.toNat : Nat) : Int) = b by omega, show ((p.toNat : Nat) : Int) = p by omega, show ((n.toNat : Nat) : Int) = n by omega]
        rw [e]
        refine fd (a := rsh a x y (claimN Z p n)) ?_
        refine rput (p := ⟨b.toNat, p.toNat, n.toNat⟩) hics ?_
        refine sm (G := rsh a x y { claimN Z p n with P := putP (claimN Z p n).P ⟨b.toNat, p.toNat, n.toNat⟩ } :: H) ?_
        exact hq
      · refine E_fa fun _ => ?_
        exact h
theorem rfree {a x y : Nat} {Z : Shf} {b : Int} (hi : Inv Z) (h : E B (rsh a x y (freeS Z b).2 :: H) (K (I (freeS Z b).1))) : E B (rsh a x y Z :: H) (CF Tryz.prog 86 [ptr a, I b] K) := by
  refine E_mono (W := s86 _ _ K) ?_ fun _ => c86
  unfold s86
  unfold freeS at h
  have hpl := hi.plen
  refine rfind hi ?_
  refine E_ext ?_
  refine E_ext ?_
  refine E_notb ?_
  cases ho : known Z.P b with
  | none =>
    rw [ho] at h
    refine E_tt ?_
    exact h
  | some p =>
    rw [ho] at h
    obtain ⟨hp, hb⟩ := known_some ho
    obtain ⟨c1, c2, c3, c4, c5⟩ := hi.pc p hp
    have hle := hi.le
    obtain ⟨hdel, hx⟩ := del_pos hi.sort ho
    dsimp only at h
    rw [show ({ giveN Z p.pos p.n with P := delP Z.P b } : Shf) = { giveN Z p.pos p.n with P := Z.P.take (posP Z.P b) ++ Z.P.drop (posP Z.P b + 1) } by rw [hdel]] at h
    generalize posP Z.P b = k at hx h ⊢
    have hkl := (List.getElem?_eq_some_iff.1 hx).1
    refine E_ff ?_
    refine E_rsh fun v _ => ?_
    refine E_dr ?_
    refine E_nc ?_
    refine E_fad0 ?_
    refine E_ld ?_
    refine E_nc ?_
    refine E_fad0 ?_
    refine E_ld ?_
    refine E_rsix (v := v) (l := Z.P) hx fun q1 _ => ?_
    refine E_ptfad0 fun q2 _ => ?_
    refine E_ptldN (p := q2) (o := 1) (cs := cPl p) (ds := [I p.pos, I p.n]) rfl rfl ?_
    refine fd (a := rmap y Z.f Z.T) ?_
    refine rgive (x := (p.pos : Int)) (n := (p.n : Int)) (by omega) hi.le ?_
    refine E_dr ?_
    refine E_nc ?_
    refine E_fad0 ?_
    refine E_ld ?_
    refine E_slcS2 (v := v) (l := Z.P) (i := 0) (j := k) (Dig.bndN rfl) rfl (Nat.zero_le _) (by omega) fun v20 h20 _ => ?_
    rw [List.drop_zero, Nat.sub_zero] at h20
    refine E_nc ?_
    refine E_fad0 ?_
    refine E_ld ?_
    refine E_addI (by omega) (by omega) ?_
    refine E_slcS2 (v := v) (l := Z.P) (i := k + 1) (j := Z.P.length) rfl (Dig.bndN (by omega)) (by omega) (Nat.le_refl _) fun v33 h33 _ => ?_
    rw [List.take_of_length_le (by rw [List.length_drop]; omega)] at h33
    refine E_sbsl0 cPl u_places elt_place fun v29 _ => ?_
    refine E_rck1 (E_ld (E_fact rfl)) (E_rck1 (E_ld (E_fact rfl)) (E_rck0 ?_))
    have i20 := h20 (rmap y Z.f (giveT Z.f Z.T p.pos p.n).2 :: cel true a 86 [ptr x, ptr y, v] :: rdisk x Z.D :: sls cPl 34 3 v Z.P :: H)
    have htl : (Z.P.take k).length ≤ 4096 := by rw [List.length_take]; omega
    refine E_sapps (enc := cPl) (u := v20) (m := Z.P.take k) u_places elt_place (by simp; omega) (by simp; omega) fun v36 _ => ?_
    rw [List.nil_append]
    refine E_rck1 (E_ld (E_fact rfl)) (E_rck0 ?_)
    have i33 := h33 (rmap y Z.f (giveT Z.f Z.T p.pos p.n).2 :: cel true a 86 [ptr x, ptr y, v] :: rdisk x Z.D :: sls cPl 34 3 v Z.P :: H)
    refine E_sapps (enc := cPl) (u := v33) (m := Z.P.drop (k + 1)) u_places elt_place (by simp; omega) (by simp; omega) fun v44 _ => ?_
    refine E_nc ?_
    refine E_fad0 ?_
    refine E_st ?_
    refine sm (G := cel true a 86 [ptr x, ptr y, v44] :: rdisk x Z.D :: rmap y Z.f (giveT Z.f Z.T p.pos p.n).2 :: sls cPl 34 3 v44 (Z.P.take k ++ Z.P.drop (k + 1)) :: H) ?_
    exact E_rshS (Z := { giveN Z p.pos p.n with P := Z.P.take k ++ Z.P.drop (k + 1) }) rfl rfl rfl rfl h
theorem rseal {a x y pa id wd : Nat} {L : Ch} {Z : Shf} (hi : Inv Z) (hp : POk id wd L) (h : E B (rpk pa id wd L :: rsh a x y (sealV Z id L).2.2 :: H) (K (.tuple #[triV (sealV Z id L).1, I (sealV Z id L).2.1]))) :
    E B (rpk pa id wd L :: rsh a x y Z :: H) (CF Tryz.prog 84 [ptr a, ptr pa] K) := by
  refine E_mono (W := s84 _ _ K) ?_ fun _ => c84
  unfold s84
  unfold sealV at h
  refine E_box (v := plV 0 0 0) (vs := [I 0, I 0, I 0]) fun v4 => ?_
  refine fd (a := rsh a x y Z) ?_
  refine E_rsh fun v _ => ?_
  refine E_nc ?_
  refine E_fad0 ?_
  refine E_ld ?_
  refine E_nc ?_
  refine E_fad0 ?_
  refine fd (a := rdisk x Z.D) ?_
  refine E_rdisk fun rb cap sp ho hcap => ?_
  refine E_ld ?_
  refine E_rdisks ho hcap rfl rfl rfl rfl ?_
  refine E_ifb (fun hd => ?_) (fun hd => ?_)
  · rw [if_pos hd] at h
    refine fd (a := cel true v4 34 [I 0, I 0, I 0]) ?_
    refine E_noPl rfl ?_
    refine sm (G := cel true a 86 [ptr x, ptr y, v] :: rdisk x Z.D :: rmap y Z.f Z.T :: sls cPl 34 3 v Z.P :: rpk pa id wd L :: H) ?_
    refine E_rshS rfl rfl rfl rfl ?_
    exact sm h
  rw [if_neg (by rw [hd]; decide)] at h
  refine fd (a := rpk pa id wd L) ?_
  refine E_rpk fun u _ => ?_
  refine E_nc ?_
  refine E_fad0 ?_
  refine E_ld ?_
  refine E_rslen (v := u) (l := L) ?_
  refine E_eql ?_
  refine E_if (fun hL => ?_) (fun hL => ?_)
  · rw [if_pos (List.length_eq_zero_iff.1 (by omega))] at h
    refine fd (a := cel true v4 34 [I 0, I 0, I 0]) ?_
    refine E_noPl rfl ?_
    refine E_rpkS ?_
    refine sm (G := cel true a 86 [ptr x, ptr y, v] :: rdisk x Z.D :: rmap y Z.f Z.T :: sls cPl 34 3 v Z.P :: rpk pa id wd L :: H) ?_
    refine E_rshS rfl rfl rfl rfl ?_
    exact sm h
  have hL : L ≠ [] := fun e => by subst e; exact hL rfl
  rw [if_neg hL] at h
  have hil := img_le hp
  obtain ⟨n1, n2, n3⟩ := img_n hp hL
  have hle := hi.le
  refine E_nc ?_
  refine E_fad0 ?_
  refine E_ld ?_
  refine E_rpkS ?_
  refine sm (G := cel true a 86 [ptr x, ptr y, v] :: rdisk x Z.D :: rmap y Z.f Z.T :: sls cPl 34 3 v Z.P :: rpk pa id wd L :: cel true v4 34 [I 0, I 0, I 0] :: H) ?_
  refine E_rshS rfl rfl rfl rfl ?_
  refine rfind hi ?_
  refine E_ext ?_
  refine E_ext ?_
  cases ho : known Z.P id with
  | some p =>
    rw [if_pos (by rw [ho]; rfl)] at h
    refine E_tt ?_
    refine fd (a := cel true v4 34 [I 0, I 0, I 0]) ?_
    refine E_noPl rfl ?_
    exact sm h
  | none =>
    rw [if_neg (by rw [ho]; decide)] at h
    refine E_ff ?_
    refine fd (a := rpk pa id wd L) ?_
    refine rpbytes hp fun bv _ => ?_
    refine E_rslen (v := bv) (l := imgL id L) ?_
    refine E_quoI (by omega) (by omega) (by omega) ?_
    dsimp only at h ⊢
    rw [show ((imgL id L).length : Int) / 128 = (((imgL id L).length / 128 : Nat) : Int) by omega]
    generalize (imgL id L).length / 128 = n at n1 n2 n3 h ⊢
    refine fd (a := rsh a x y Z) ?_
    refine E_rsh fun v _ => ?_
    refine E_nc ?_
    refine E_fad0 ?_
    refine E_ld ?_
    refine fd (a := rmap y Z.f Z.T) ?_
    refine rtake hi.rel hi.le ?_
    refine E_ext ?_
    refine E_ext ?_
    refine E_neq ?_
    have hiT := hi.take n
    have hT := (rel_take hi.rel (n : Int)).2
    have hok := take_ok hi (n := n) (by omega)
    refine E_if (fun hc => ?_) (fun hc => ?_)
    · rw [if_pos hc] at h
      refine fd (a := cel true v4 34 [I 0, I 0, I 0]) ?_
      refine E_noPl rfl ?_
      refine sm (G := cel true a 86 [ptr x, ptr y, v] :: rdisk x Z.D :: rmap y Z.f (takeT Z.f Z.T Z.R n) :: sls cPl 34 3 v Z.P :: rpk pa id wd L :: H) ?_
      refine E_rshS (Z := takeN Z n) rfl rfl rfl rfl ?_
      exact sm h
    rw [if_neg hc] at h
    obtain ⟨xx, x1, x2, x3, x4, x5⟩ := hok (by simpa using hc)
    rw [x1] at h ⊢
    refine sm (G := rpk pa id wd L :: sls cB 5 1 bv (imgL id L) :: cel true a 86 [ptr x, ptr y, v] :: rdisk x Z.D :: rmap y Z.f (takeT Z.f Z.T Z.R n) :: sls cPl 34 3 v Z.P :: cel true v4 34 [I 0, I 0, I 0] :: H) ?_
    refine E_rpk fun u _ => ?_
    refine E_nc ?_
    refine E_fad0 ?_
    refine E_ld ?_
    refine E_rpkS ?_
    refine Dig.E_Vr (buildRn _ _) ?_
    refine Dig.E_Vr (buildPl _ _ _) ?_
    refine E_box (v := plV 0 0 0) (vs := [I 0, I 0, I 0]) fun v12 => ?_
    refine E_stW (v := plV id xx n) (vs := [I id, I xx, I n]) rfl rfl ?_
    have hcl := chunks_len (imgL id L) n
    refine E_loop (n := 7) (σ := Nat × Dk) (fun s => s.1 ≤ n ∧ wrS s.2 ((xx : Int) + (s.1 : Int)) ((chunks (imgL id L) n).drop s.1) = wrS Z.D xx (chunks (imgL id L) n)) (fun s => [ptr a, ptr v4, bv, I n, I xx, ptr v12, I s.1])
      (fun s => cel true v12 34 [I id, I xx, I n] :: rpk pa id wd L :: sls cB 5 1 bv (imgL id L) :: cel true a 86 [ptr x, ptr y, v] :: rdisk x s.2 :: rmap y Z.f (takeT Z.f Z.T Z.R n) :: sls cPl 34 3 v Z.P :: cel true v4 34 [I 0, I 0, I 0] :: H) (fun s => n - s.1) (0, Z.D) (fun _ => rfl) rfl ⟨Nat.zero_le _, by simp⟩ (fun W hW => hW) ?_
    rintro ⟨i, D'⟩ K0 ⟨hil2, hw⟩ hk
    simp only at hil2 hw hk ⊢
    refine E_fa fun _ => ?_
    refine E_lss ?_
    refine E_if (fun hc1 => ?_) (fun hc1 => ?_)
    · have hx2 := chunks_at (b := imgL id L) (n := n) (j := i) (by omega)
      rw [drop_at hx2] at hw
      refine E_dr ?_
      refine E_nc ?_
      refine E_fad0 ?_
      refine E_ld ?_
      refine E_addI (by omega) (by omega) ?_
      refine E_mulI (by omega) (by omega) ?_
      refine E_mulI (by omega) (by omega) ?_
      refine E_addI (by omega) (by omega) ?_
      refine E_slcB (v := bv) (bs := imgL id L) (l := 128 * i) (hh := 128 * (i + 1)) (Dig.bndN (by omega)) (Dig.bndN (by omega)) (by omega) (by omega) fun z hz _ => ?_
      rw [show 128 * (i + 1) - 128 * i = 128 by omega] at hz
      have hz1 := hz (cel true v12 34 [I id, I xx, I n] :: rpk pa id wd L :: sls cB 5 1 bv (imgL id L) :: cel true a 86 [ptr x, ptr y, v] :: rmap y Z.f (takeT Z.f Z.T Z.R n) :: sls cPl 34 3 v Z.P :: cel true v4 34 [I 0, I 0, I 0] :: H)
      refine fd (a := rdisk x D') ?_
      refine rwrite (bs := ((imgL id L).drop (128 * i)).take 128) ?_
      refine E_neq ?_
      rw [wrS] at hw
      refine E_if (fun hc2 => ?_) (fun hc2 => ?_)
      · rw [if_pos hc2] at hw
        rw [← hw, if_pos hc2] at h
        refine E_dr ?_
        refine E_nc ?_
        refine E_fad0 ?_
        refine E_ld ?_
        refine E_fad0 ?_
        refine E_ldN (cs := [I xx, I n]) rfl rfl ?_
        refine fd (a := rmap y Z.f (takeT Z.f Z.T Z.R n)) ?_
        refine rgive (x := (xx : Int)) (n := (n : Int)) (by omega) (by rw [hT]; exact hi.le) ?_
        refine fd (a := cel true v4 34 [I 0, I 0, I 0]) ?_
        refine E_noPl rfl ?_
        refine sm (G := cel true a 86 [ptr x, ptr y, v] :: rdisk x (D'.wr ((xx : Int) + (i : Int)) (((imgL id L).drop (128 * i)).take 128)) :: rmap y Z.f (giveT Z.f (takeT Z.f Z.T Z.R n) xx n).2 :: sls cPl 34 3 v Z.P :: rpk pa id wd L :: H) ?_
        refine E_rshS (Z := { giveN (takeN Z n) xx n with D := (D'.wr ((xx : Int) + (i : Int)) (((imgL id L).drop (128 * i)).take 128)) }) rfl rfl rfl rfl ?_
        exact sm h
      · rw [if_neg hc2] at hw
        refine E_addI (by omega) (by omega) ?_
        exact sm (hk (i + 1, D'.wr ((xx : Int) + (i : Int)) (((imgL id L).drop (128 * i)).take 128)) ⟨by simp only; omega, by
          simp only
          rw [show (xx : Int) + ((i + 1 : Nat) : Int) = (xx : Int) + (i : Int) + 1 by omega]
          exact hw⟩ (by simp only; omega))
    · have hie : i = n := by omega
      subst hie
      rw [List.drop_of_length_le (by omega), wrS] at hw
      rw [← hw, if_neg (by simp), Int.toNat_natCast] at h
      refine E_ldNA ?_
      refine sm (G := cel true a 86 [ptr x, ptr y, v] :: rdisk x D' :: rmap y Z.f (takeT Z.f Z.T Z.R i) :: sls cPl 34 3 v Z.P :: rpk pa id wd L :: cel true v12 34 [I id, I xx, I i] :: cel true v4 34 [I 0, I 0, I 0] :: H) ?_
      refine E_rshS (Z := { takeN Z i with D := D' }) rfl rfl rfl rfl ?_
      refine rput (p := ⟨id, xx, i⟩) (hiT.dk D') ?_
      refine E_ldNA ?_
      refine E_stW (vs := [I id, I xx, I i]) rfl rfl ?_
      refine E_ldNA ?_
      refine sm (G := rpk pa id wd L :: rsh a x y { ({ takeN Z i with D := D' } : Shf) with P := putP ({ takeN Z i with D := D' } : Shf).P ⟨id, xx, i⟩ } :: H) ?_
      exact h
end Go.Proofs.YtmbfmkiagdhcoaaGreat.Bn
end
section
namespace Go.Proofs.YtmbfmkiagdhcoaaGreat.Bn
open Go Go.SL Go.Proofs Go.Proofs.YtmbfmkiagdhcoaaGreat.Sh Go.Proofs.YtmbfmkiagdhcoaaGreat.Oct Go.Proofs.YtmbfmkiagdhcoaaGreat.Disk Go.Proofs.YtmbfmkiagdhcoaaGreat.Slot Go.Proofs.YtmbfmkiagdhcoaaGreat.Pk Go.Proofs.YtmbfmkiagdhcoaaGreat.Ext
variable {B : World} {H : List Asrt} {K : Value → WT} {W : WT}
structure Ad where
  a : Nat
  d : Nat
  m : Nat
  y : Nat
  x : Nat
  my : Nat
def par (b : Nat) (A : Ad) (Z : Shf) : Asrt := all [cel true b 42 [ptr A.d, ptr A.x, ptr A.a, ptr A.y], shf A.a A.d A.m Z, rsh A.y A.x A.my Z]
theorem E_par {b : Nat} {A : Ad} {Z : Shf} (h : E B (cel true b 42 [ptr A.d, ptr A.x, ptr A.a, ptr A.y] :: shf A.a A.d A.m Z :: rsh A.y A.x A.my Z :: H) W) : E B (par b A Z :: H) W := E_all h
theorem E_parS {b : Nat} {A : Ad} {Z : Shf} (h : E B (par b A Z :: H) W) : E B (cel true b 42 [ptr A.d, ptr A.x, ptr A.a, ptr A.y] :: shf A.a A.d A.m Z :: rsh A.y A.x A.my Z :: H) W := E_all' (G := [cel true b 42 [ptr A.d, ptr A.x, ptr A.a, ptr A.y], shf A.a A.d A.m Z, rsh A.y A.x A.my Z]) h
theorem rel_new {f n : Nat} (h : f ≤ n) : Rel f (List.replicate (n - f) false) (newL f n) := by
  unfold newL
  by_cases hf : f < n
  · rw [if_pos hf]
    refine ⟨⟨Nat.le_refl _, by simp only; omega, trivial⟩, fun x => ?_⟩
    simp only [In, List.mem_cons, List.not_mem_nil, or_false, exists_eq_left]
    constructor
    · rintro ⟨h1, h2⟩
      refine ⟨x - f, by omega, ?_⟩
      rw [List.getD_eq_getElem?_getD, List.getElem?_replicate, if_pos (by omega)]; rfl
    · rintro ⟨j, rfl, hj⟩
      have := getD_lt hj
      rw [List.length_replicate] at this
      omega
  · rw [if_neg hf, show n - f = 0 by omega]
    exact ⟨trivial, fun x => ⟨fun h => absurd h (in_nil x), fun ⟨j, _, hj⟩ => by simp at hj⟩⟩
def newZ (n f : Nat) : Shf := ⟨Dk.new n, f, List.replicate (n - f) false, newL f n, []⟩
theorem new_inv {n f : Nat} (h : f ≤ n) (hn : n ≤ 4096) : Inv (newZ n f) :=
  ⟨rel_new h, by simp [newZ]; omega, List.Pairwise.nil, fun _ hp => (by cases hp), fun _ hp => (by cases hp), fun _ hp => (by cases hp)⟩
theorem new_good {n f : Nat} (h : f ≤ n) (hn : n ≤ 4096) : Good (newZ n f) := ⟨new_inv h hn, ⟨rfl, rfl⟩, by simp [newZ, Dk.new]; omega⟩
theorem buildR12 (p q : Nat) (w : World) : (Instr.build 86 #[(0, ptr p), (1, ptr q)]).run Tryz.prog w = .ok (.agg #[ptr p, ptr q, nl]) w := by kernel_rfl
theorem buildPr (p q r s : Nat) (w : World) : (Instr.build 42 #[(0, ptr p), (1, ptr q), (2, ptr r), (3, ptr s)]).run Tryz.prog w = .ok (.agg #[ptr p, ptr q, ptr r, ptr s]) w := by kernel_rfl
attribute [local irreducible] S.pick S.ld S.ldN S.st S.box S.nc S.fad S.ixS S.ixA S.chr S.prt S.ext S.bin S.sh S.sbin S.beq S.neg1 S.com1 S.not1 S.cvt S.str1 S.lenS S.len S.cap S.lenM S.mx S.mn S.mkM S.cond S.gd S.fa S.dr S.rck S.join S.loop S.cvv S.eqv S.slc S.slcS S.b2s S.lk V U CF Gives E cel mpb osl ros dct dit itr lpo dfo
theorem begin12 {s f : UInt8} (h : ∀ b A, E B (par b A (newZ (8 + s.toNat % 73) (f.toNat % 5)) :: H) (K (.tuple #[ptr b, .bool true]))) : E B H (CF Tryz.prog 7 [.int .u8 s.toNat, .int .u8 f.toNat] K) := by
  refine E_mono (W := s7 _ _ K) ?_ fun _ => c7
  unfold s7
  have hs := s.toNat_lt
  have hf := f.toNat_lt
  refine E_cvtI (by omega) (by omega) ?_
  refine Dig.E_rem0 (b := 73) (by decide) ?_
  refine E_addI (by omega) (by omega) ?_
  refine E_cvtI (by omega) (by omega) ?_
  refine Dig.E_rem0 (b := 5) (by decide) ?_
  rw [show (8 : Int) + ((s.toNat % 73 : Nat) : Int) = ((8 + s.toNat % 73 : Nat) : Int) by omega]
  have hn : 8 + s.toNat % 73 ≤ 80 := by omega
  have hff : f.toNat % 5 ≤ 4 := by omega
  have hge : 8 ≤ 8 + s.toNat % 73 := by omega
  generalize 8 + s.toNat % 73 = n at h hn hge ⊢
  generalize f.toNat % 5 = g at h hff ⊢
  refine Disk.new (fun hx => by omega) fun _ _ d => ?_
  rw [Int.toNat_natCast]
  refine E_ext ?_
  refine E_ext ?_
  refine Disk.rnew (fun hx => by omega) fun _ _ x => ?_
  rw [Int.toNat_natCast]
  refine E_ext ?_
  refine E_ext ?_
  refine xnew (f := g) (t := n) (by omega) (by omega) fun m => ?_
  refine E_ext ?_
  refine E_ext ?_
  refine rmnew (f := g) (t := n) (by omega) (by omega) fun my => ?_
  refine E_ext ?_
  refine E_ext ?_
  have e : g + (List.replicate (n - g) false).length = n := by rw [List.length_replicate]; omega
  have e2 : xmap m g n (newL g n) = xmap m g (g + (List.replicate (n - g) false).length) (newL g n) := by rw [e]
  refine fd (a := xmap m g n (newL g n)) ?_
  rw [e2]
  refine fd (a := disk d (Dk.new n)) ?_
  refine bnew fun a => ?_
  rw [show (⟨Dk.new n, g, List.replicate (n - g) false, newL g n, []⟩ : Shf) = newZ n g from rfl]
  refine E_ext ?_
  refine E_ext ?_
  refine Dig.E_Vr (buildR12 x my) ?_
  refine E_box (v := .agg #[ptr x, ptr my, nl]) (vs := [ptr x, ptr my, nl]) fun y => ?_
  refine Dig.E_Vr (buildPr d x a y) ?_
  refine E_box (v := .agg #[ptr d, ptr x, ptr a, ptr y]) (vs := [ptr d, ptr x, ptr a, ptr y]) fun b => ?_
  refine sls_nil cPl 3 (T := 34) ?_
  refine sm (G := cel true y 86 [ptr x, ptr my, nl] :: rdisk x (Dk.new n) :: rmap my g (List.replicate (n - g) false) :: sls cPl 34 3 nl [] :: cel true b 42 [ptr d, ptr x, ptr a, ptr y] :: shf a d m (newZ n g) :: H) ?_
  refine E_rshS (Z := newZ n g) rfl rfl rfl rfl ?_
  have h' := h b ⟨a, d, m, y, x, my⟩
  refine sm (G := cel true b 42 [ptr d, ptr x, ptr a, ptr y] :: shf a d m (newZ n g) :: rsh y x my (newZ n g) :: H) ?_
  refine E_parS (A := ⟨a, d, m, y, x, my⟩) ?_
  (repeat (first | refine goS ?_ | refine E_box fun _ => ?_ | refine E_fa fun _ => ?_ | refine E_ptfad0 fun _ _ => ?_ | refine E_ptfad fun _ _ => ?_ | refine E_rsix (by assumption) fun _ _ => ?_ | refine goT (by first | assumption | decide) ?_ | refine goF (by first | assumption | decide) ?_ | refine E_ixN (by omega) ?_ | refine E_ld' (by assumption) ?_ | refine E_addI (by omega) (by omega) ?_ | refine E_subI (by omega) (by omega) ?_ | refine E_mulI (by omega) (by omega) ?_))
  refine E_pne u_pSh ?_
  (repeat (first | refine goS ?_ | refine E_box fun _ => ?_ | refine E_fa fun _ => ?_ | refine E_ptfad0 fun _ _ => ?_ | refine E_ptfad fun _ _ => ?_ | refine E_rsix (by assumption) fun _ _ => ?_ | refine goT (by first | assumption | decide) ?_ | refine goF (by first | assumption | decide) ?_ | refine E_ixN (by omega) ?_ | refine E_ld' (by assumption) ?_ | refine E_addI (by omega) (by omega) ?_ | refine E_subI (by omega) (by omega) ?_ | refine E_mulI (by omega) (by omega) ?_))
  exact h'
def packL (wd : Nat) (cs : List (List UInt8)) : Ch := (cs.take 20).foldl (addL wd) []
theorem foldl_ok {id wd : Nat} : ∀ (cs : List (List UInt8)) {L : Ch}, POk id wd L → POk id wd (cs.foldl (addL wd) L)
  | [], _, h => h
  | b :: cs, _, h => foldl_ok cs (addL_ok h b)
theorem pack_ok {id wd : Nat} (h : POk id wd []) (cs : List (List UInt8)) : POk id wd (packL wd cs) := foldl_ok _ h
theorem fold_suc {wd : Nat} {cs : List (List UInt8)} {i : Nat} {b : List UInt8} (h : cs[i]? = some b) : (cs.take (i + 1)).foldl (addL wd) [] = addL wd ((cs.take i).foldl (addL wd) []) b := by
  rw [List.take_add_one, h, List.foldl_append]; rfl
theorem u_pR11 : Tryz.prog.underlying 28 = some (.pointer 47) := by kernel_rfl
abbrev badP (i w : Int) : Prop := i < 0 ∨ 4096 ≤ i ∨ w < 4 ∨ 64 < w
theorem packersZ {l2 : Value} {i w : Int} (hb : badP i w) (h : E B H (K (.tuple #[.pointer none, .pointer none]))) : E B H (CF Tryz.prog 8 [I i, I w, l2] K) := by
  refine E_mono (W := s8 _ _ _ K) ?_ fun _ => c8
  unfold s8
  refine pknew (fun _ => ?_) fun a id wd h1 h2 _ => by unfold badP at hb; rename_i ok; have := ok.idl; have := ok.lo; have := ok.hi; omega
  refine E_ext ?_
  refine E_ext ?_
  refine rpnew (fun _ => ?_) fun a id wd h1 h2 _ => by unfold badP at hb; rename_i ok; have := ok.idl; have := ok.lo; have := ok.hi; omega
  refine E_ext ?_
  refine E_ext ?_
  refine E_loop (n := 4) (σ := Unit) (fun _ => True) (fun _ => [l2, .pointer none, .pointer none, I 0]) (fun _ => H) (fun _ => 0) () (fun _ => rfl) rfl trivial (fun W hW => hW) ?_
  intro _ K0 _ hk
  refine E_fa fun _ => ?_
  refine E_join1 (n := 5) [l2, .pointer none, .pointer none, I 0, .bool false] H (fun q hq => ?_) ?_
  · refine E_pne0 u_pR11 ?_
    (repeat (first | refine goS ?_ | refine E_box fun _ => ?_ | refine E_fa fun _ => ?_ | refine E_ptfad0 fun _ _ => ?_ | refine E_ptfad fun _ _ => ?_ | refine E_rsix (by assumption) fun _ _ => ?_ | refine goT (by first | assumption | decide) ?_ | refine goF (by first | assumption | decide) ?_ | refine E_ixN (by omega) ?_ | refine E_ld' (by assumption) ?_ | refine E_addI (by omega) (by omega) ?_ | refine E_subI (by omega) (by omega) ?_ | refine E_mulI (by omega) (by omega) ?_))
    exact hq
  refine E_fa fun _ => ?_
  refine E_ff ?_
  exact h
theorem packers {l2 : Value} {i w : Int} {l : List Bv} [hv : Rs B H l2 Pk.cV l] (hb : ∀ b ∈ l, (∀ Q, Rb B (Q ++ H) b.v b.bs) ∧ b.bs.length ≤ 140737488351232) (hn : ¬ badP i w)
    (h : ∀ a c id wd : Nat, i = (id : Int) → w = (wd : Int) → POk id wd [] → E B (pck a id wd (packL wd (l.map (·.bs))) :: rpk c id wd (packL wd (l.map (·.bs))) :: H) (K (.tuple #[ptr a, ptr c]))) : E B H (CF Tryz.prog 8 [I i, I w, l2] K) := by
  refine E_mono (W := s8 _ _ _ K) ?_ fun _ => c8
  unfold s8
  refine pknew (fun hx => absurd hx hn) fun a id wd h1 h2 hp0 => ?_
  refine E_ext ?_
  refine E_ext ?_
  refine rpnew (fun hx => absurd hx hn) fun c id' wd' h1' h2' _ => ?_
  have e1 : id' = id := by omega
  have e2 : wd' = wd := by omega
  subst e1 e2
  refine E_ext ?_
  refine E_ext ?_
  have hh := h a c id' wd' h1 h2 hp0
  have hmin : (l.map (·.bs)).take 20 = (l.map (·.bs)).take (min 20 l.length) := by
    rcases Nat.lt_or_ge l.length 20 with h' | h'
    · rw [show min 20 l.length = l.length by omega, List.take_of_length_le (by simp; omega), List.take_of_length_le (by simp)]
    · rw [show min 20 l.length = 20 by omega]
  refine E_loop (n := 4) (σ := Nat) (fun i => i ≤ min 20 l.length) (fun i => [l2, ptr a, ptr c, I i]) (fun i => pck a id' wd' (((l.map (·.bs)).take i).foldl (addL wd') []) :: rpk c id' wd' (((l.map (·.bs)).take i).foldl (addL wd') []) :: H) (fun i => min 20 l.length - i) 0 (fun _ => rfl) rfl (Nat.zero_le _) (fun W hW => by
    simp only [List.take_zero, List.foldl_nil] at hW
    exact sm hW) ?_
  intro i K0 hi hk
  have hok := foldl_ok ((l.map (·.bs)).take i) hp0
  refine E_fa fun _ => ?_
  refine E_join1 (n := 5) [l2, ptr a, ptr c, I i, .bool (decide (i < min 20 l.length))] (pck a id' wd' (((l.map (·.bs)).take i).foldl (addL wd') []) :: rpk c id' wd' (((l.map (·.bs)).take i).foldl (addL wd') []) :: H) (fun q hq => ?_) ?_
  · refine E_pne u_pR11 ?_
    refine E_gtf ?_
    refine E_gtf ?_
    refine E_gtf ?_
    refine E_rslen (v := l2) (l := l) ?_
    refine E_gtf ?_
    refine E_lss ?_
    refine E_ptt ?_
    by_cases h1 : i < l.length
    · have e : decide (i < min 20 l.length) = decide ((i : Int) < 20) := by rw [decide_eq_decide]; omega
      rw [e] at hq
      rw [decide_eq_true (show (i : Int) < (l.length : Int) by omega)]
      refine E_gtf ?_
      refine E_gtf ?_
      refine E_lss ?_
      refine E_ptt ?_
      exact hq
    · rw [decide_eq_false (by omega)] at hq
      rw [decide_eq_false (show ¬ (i : Int) < (l.length : Int) by omega)]
      refine E_gff ?_
      refine E_gff ?_
      refine E_pff ?_
      exact hq
  refine E_fa fun _ => ?_
  refine E_if (fun hc => ?_) (fun hc => ?_)
  · have hx : l[i]? = some (l[i]'(by omega)) := List.getElem?_eq_getElem (by omega)
    obtain ⟨hb1, hb2⟩ := hb _ (List.getElem_mem (show i < l.length by omega))
    generalize (l[i]'(by omega)) = b at hx hb1 hb2
    have hx2 : (l.map (·.bs))[i]? = some b.bs := by rw [List.getElem?_map, hx]; rfl
    have hk1 := hk (i + 1) (by omega) (by omega)
    rw [fold_suc hx2] at hk1
    refine E_rsix (v := l2) (l := l) hx fun _ _ => ?_
    refine E_ptld ?_
    have r1 := hb1 [rpk c id' wd' (((l.map (·.bs)).take i).foldl (addL wd') [])]
    refine pkadd (bv := b.v) (b := b.bs) (hb := r1) hok hb2 fun _ _ => ?_
    refine E_rsix (v := l2) (l := l) hx fun _ _ => ?_
    refine E_ptld ?_
    refine fd (a := rpk c id' wd' (((l.map (·.bs)).take i).foldl (addL wd') [])) ?_
    have r2 := hb1 [pck a id' wd' (addL wd' (((l.map (·.bs)).take i).foldl (addL wd') []) b.bs)]
    refine rpadd (bv := b.v) (b := b.bs) (hb := r2) hok hb2 fun _ _ => ?_
    refine E_addI (by omega) (by omega) ?_
    exact sm hk1
  · have hie : i = min 20 l.length := by omega
    subst hie
    rw [← hmin]
    exact hh
end Go.Proofs.YtmbfmkiagdhcoaaGreat.Bn
end
section
namespace Go.Proofs.YtmbfmkiagdhcoaaGreat.Bn
open Go Go.SL Go.Proofs Go.Proofs.YtmbfmkiagdhcoaaGreat.Sh Go.Proofs.YtmbfmkiagdhcoaaGreat.Oct Go.Proofs.YtmbfmkiagdhcoaaGreat.Disk Go.Proofs.YtmbfmkiagdhcoaaGreat.Slot Go.Proofs.YtmbfmkiagdhcoaaGreat.Pk Go.Proofs.YtmbfmkiagdhcoaaGreat.Ext
variable {B : World} {H : List Asrt} {K : Value → WT} {W : WT}
theorem eq_run (a b a' b' : Int) : EqG Tryz.prog 2 32 (.agg #[I a, I b]) (.agg #[I a', I b']) (decide (a = a' ∧ b = b')) := by
  have h := eqg_struct (P := Tryz.prog) (n := 1) (t := 32) (xs := [I a, I b]) (ys := [I a', I b']) (bs := [decide (a = a'), decide (b = b')]) [(3, 0), (3, 1)] (by kernel_rfl) (by kernel_rfl) (by kernel_rfl) rfl (fun i t o b'' h1 h2 => by
    match i, h1, h2 with
    | 0, h1, h2 => cases h1; cases h2; exact ⟨_, _, partG_cell (eqV_int (a := a) (b := a') Shf.u_int).1 rfl, partG_cell (eqV_int (a := a) (b := a') Shf.u_int).1 rfl, (eqV_int Shf.u_int).g⟩
    | 1, h1, h2 => cases h1; cases h2; exact ⟨_, _, partG_cell (eqV_int (a := a) (b := a') Shf.u_int).1 rfl, partG_cell (eqV_int (a := a) (b := a') Shf.u_int).1 rfl, (eqV_int Shf.u_int).g⟩
    | n + 2, h1, h2 => simp at h1)
  simpa [Bool.decide_and] using h
theorem eq_place (a b n a' b' n' : Int) : EqG Tryz.prog 3 34 (.agg #[I a, I b, I n]) (.agg #[I a', I b', I n']) (decide (a = a' ∧ b = b' ∧ n = n')) := by
  have h := eqg_struct (P := Tryz.prog) (n := 2) (t := 34) (xs := [I a, I b, I n]) (ys := [I a', I b', I n']) (bs := [decide (a = a'), decide (b = b' ∧ n = n')]) [(3, 0), (32, 1)] (by kernel_rfl) (by kernel_rfl) (by kernel_rfl) rfl (fun i t o b'' h1 h2 => by
    match i, h1, h2 with
    | 0, h1, h2 => cases h1; cases h2; exact ⟨_, _, partG_cell (eqV_int (a := a) (b := a') Shf.u_int).1 rfl, partG_cell (eqV_int (a := a) (b := a') Shf.u_int).1 rfl, (eqV_int Shf.u_int).g.up (by decide)⟩
    | 1, h1, h2 => cases h1; cases h2; exact ⟨_, _, partG_agg (ys := [I b, I n]) (n := 2) (by kernel_rfl) (by kernel_rfl) rfl, partG_agg (ys := [I b', I n']) (n := 2) (by kernel_rfl) (by kernel_rfl) rfl, eq_run b n b' n'⟩
    | n + 2, h1, h2 => simp at h1)
  simpa [Bool.decide_and] using h
set_option maxRecDepth 100000
theorem noGuardPl : Tryz.prog.eqGuardType Tryz.prog.depth 34 = false := by kernel_rfl
theorem E_placeEq {c : Bool} {a b n : Int} (h : E B H (K (.bool true))) : E B H (S.eqv Tryz.prog .eql 34 c (plV a b n) (plV a b n) K) :=
  E_aeq noGuardPl (fun w => by have := (eq_place a b n a b n).equal (by decide) w; simpa using this) h
structure Dd where
  dk : Int
  n : Int
  wd : Int
  pb : Int
  pa : Int
  pn : Int
  cv : Pk.Cv
  bv : Pk.Cv
  kv : Pk.Cv
  cs : List Bv
  bs : List UInt8
  c : Cr
abbrev cDd (d : Dd) : List Value := [I d.dk, I d.n, I d.wd, I d.pb, I d.pa, I d.pn, d.cv.1, d.bv.1, d.kv.1, I d.c.torn, I d.c.at_]
instance encDd : Enc cDd 11 := ⟨fun _ => rfl, fun d y hy => by
  simp only [List.mem_cons, List.not_mem_nil, or_false] at hy
  rcases hy with rfl | rfl | rfl | rfl | rfl | rfl | rfl | rfl | rfl | rfl | rfl <;> first | rfl | exact d.cv.2 | exact d.bv.2 | exact d.kv.2⟩
structure DdP (B : World) (d : Dd) : Prop where
  rc : rdX B d.cv.1 d.cs.length (d.cs.flatMap Pk.cV)
  rb : ∀ b ∈ d.cs, SL.rdB B b.v b.bs ∧ b.bs.length ≤ 140737488351232
  rs : SL.rdB B d.bv.1 d.bs
  rk : rdX B d.kv.1 d.c.keep.length (bools d.c.keep)
  ln : d.n ≤ 9223372036854775807
  la : d.pa ≤ 9223372036854775807
def packD (d : Dd) : Ch := packL d.wd.toNat (d.cs.map (·.bs))
def sealD (Z : Shf) (d : Dd) : Shf := if badP d.pb d.wd then Z else (sealV Z d.pb.toNat (packD d)).2.2
def stepB (Z : Shf) (d : Dd) : Shf :=
  if d.dk = 0 then sealD Z d else if d.dk = 1 then (claimS Z d.pb d.pa d.pn).2 else if d.dk = 2 then (freeS Z d.n).2 else if d.dk = 3 then { Z with D := Z.D.crash d.c } else
  if d.dk = 4 then { Z with D := Z.D.rot d.n d.bs } else if d.dk = 5 then { Z with D := Z.D.wr d.n d.bs } else if d.dk = 6 then { Z with D := Z.D.tr d.n } else { Z with D := Z.D.fl }
theorem pok0 {d : Dd} (h : ¬ badP d.pb d.wd) : POk d.pb.toNat d.wd.toNat [] := by
  unfold badP at h
  exact ⟨by omega, by omega, by omega, by simp, by simp; omega, by simp⟩
theorem step_inv {Z : Shf} (h : Inv Z) (d : Dd) : Inv (stepB Z d) := by
  unfold stepB
  split
  · unfold sealD
    split
    · exact h
    · rename_i hb
      exact h.sealS (pack_ok (pok0 hb) _)
  split
  · exact h.claimS _ _ _
  split
  · exact h.free' _
  split
  · exact h.dk _
  split
  · exact h.dk _
  split
  · exact h.dk _
  split
  · exact h.dk _
  · exact h.dk _
theorem E_shD {a d m : Nat} {Z : Shf} (h : ∀ r kv, KV Z.P kv → E B (disk d Z.D :: cel true a 97 [ptr d, ptr m, .map (some r)] :: xmap m Z.f (Z.f + Z.T.length) Z.R :: dct kI true r kv :: H) W) : E B (shf a d m Z :: H) W :=
  E_shf fun r kv hk => sm (h r kv hk)
theorem E_shDS {a d m r : Nat} {Z : Shf} {kv : List (Int × Value)} {D : Dk} (hk : KV Z.P kv) (h : E B (shf a d m { Z with D := D } :: H) W) : E B (disk d D :: cel true a 97 [ptr d, ptr m, .map (some r)] :: xmap m Z.f (Z.f + Z.T.length) Z.R :: dct kI true r kv :: H) W :=
  sm (G := cel true a 97 [ptr d, ptr m, .map (some r)] :: disk d D :: xmap m Z.f (Z.f + Z.T.length) Z.R :: dct kI true r kv :: H) (E_shfS (S := { Z with D := D }) hk rfl rfl rfl rfl h)
theorem E_rsD {a x y : Nat} {Z : Shf} (h : ∀ v [CellI v], E B (rdisk x Z.D :: cel true a 86 [ptr x, ptr y, v] :: rmap y Z.f Z.T :: sls cPl 34 3 v Z.P :: H) W) : E B (rsh a x y Z :: H) W := E_rsh fun v i => sm (@h v i)
theorem E_rsDS {a x y : Nat} {Z : Shf} {v : Value} {D : Dk} [CellI v] (h : E B (rsh a x y { Z with D := D } :: H) W) : E B (rdisk x D :: cel true a 86 [ptr x, ptr y, v] :: rmap y Z.f Z.T :: sls cPl 34 3 v Z.P :: H) W :=
  sm (G := cel true a 86 [ptr x, ptr y, v] :: rdisk x D :: rmap y Z.f Z.T :: sls cPl 34 3 v Z.P :: H) (E_rshS (Z := { Z with D := D }) rfl rfl rfl rfl h)
attribute [local irreducible] S.pick S.ld S.ldN S.st S.box S.nc S.fad S.ixS S.ixA S.chr S.prt S.ext S.bin S.sh S.sbin S.beq S.neg1 S.com1 S.not1 S.cvt S.str1 S.lenS S.len S.cap S.lenM S.mx S.mn S.mkM S.cond S.gd S.fa S.dr S.rck S.join S.loop S.cvv S.eqv S.slc S.slcS S.b2s S.lk V U CF Gives E cel mpb osl ros dct dit itr lpo dfo
theorem do12 {b : Nat} {A : Ad} {Z : Shf} {d : Dd} (hi : Inv Z) (hd : DdP B d) (h : E B (par b A (stepB Z d) :: H) (K (.bool true))) : E B (par b A Z :: H) (CF Tryz.prog 46 [ptr b, .agg (cDd d).toArray] K) := by
  refine E_mono (W := s46 _ _ K) ?_ fun _ => c46
  unfold s46
  obtain ⟨dk, n, wd, pb, pa, pn, ⟨cv, hcv⟩, ⟨bv, hbv⟩, ⟨kv, hkv⟩, cs, bs, c⟩ := d
  obtain ⟨rc, rb, rs, rk, ln, la⟩ := hd
  simp only at rc rb rs rk ln la
  have ic : CellI cv := ⟨hcv⟩
  have ib : CellI bv := ⟨hbv⟩
  have ik : CellI kv := ⟨hkv⟩
  have jc : BaseS B cv Pk.cV cs := ⟨rc⟩
  have jb : BaseR B bv bs := ⟨rs⟩
  have jk : BaseX B kv c.keep.length (bools c.keep) := ⟨rk⟩
  simp only [cDd]
  generalize hds : ([I dk, I n, I wd, I pb, I pa, I pn, cv, bv, kv, I c.torn, I c.at_] : List Value) = ds
  refine E_box (v := .agg ds.toArray) (vs := ds) fun v3 => ?_
  subst hds
  refine fd (a := par b A Z) ?_
  refine E_par ?_
  unfold stepB at h
  simp only at h
  refine E_fad0 ?_
  refine E_ld ?_
  refine E_eql ?_
  refine E_if (fun h0 => ?_) (fun h0 => ?_)
  · rw [if_pos h0] at h
    unfold sealD packD at h
    simp only at h
    refine E_fad0 ?_
    refine E_fad ?_
    refine E_ld ?_
    refine E_fad0 ?_
    refine E_ld ?_
    refine E_fad0 ?_
    refine E_ld ?_
    by_cases hb : badP pb wd
    · rw [if_pos hb] at h
      refine packersZ hb ?_
      refine E_ext ?_
      refine E_ext ?_
      refine E_peq0 u_pR11 ?_
      refine E_tt ?_
      refine E_peq0 (el := 137) (by kernel_rfl) ?_
      refine sm (G := cel true b 42 [ptr A.d, ptr A.x, ptr A.a, ptr A.y] :: shf A.a A.d A.m Z :: rsh A.y A.x A.my Z :: H) ?_
      exact E_parS h
    · rw [if_neg hb] at h
      refine packers (l2 := cv) (l := cs) (fun b hb => ⟨fun Q => have : BaseR B b.v b.bs := ⟨(rb b hb).1⟩; inferInstance, (rb b hb).2⟩) hb fun a c' id' wd' e1 e2 hp => ?_
      rw [e1, e2, Int.toNat_natCast, Int.toNat_natCast] at h
      have hpk := pack_ok hp (cs.map (·.bs))
      generalize packL wd' (cs.map (·.bs)) = L at h hpk ⊢
      refine E_ext ?_
      refine E_ext ?_
      refine E_peq u_pR11 ?_
      refine E_ff ?_
      refine E_nc ?_
      refine E_fad0 ?_
      refine E_ld ?_
      refine sm (G := pck a id' wd' L :: shf A.a A.d A.m Z :: rpk c' id' wd' L :: rsh A.y A.x A.my Z :: cel true b 42 [ptr A.d, ptr A.x, ptr A.a, ptr A.y] :: H) ?_
      refine bseal hi hpk ?_
      refine E_ext ?_
      refine E_ext ?_
      refine E_box (v := plV 0 0 0) (vs := [I 0, I 0, I 0]) fun v7 => ?_
      refine E_stW (v := triV (sealV Z id' L).1) (vs := [I (sealV Z id' L).1.1, I (sealV Z id' L).1.2.1, I (sealV Z id' L).1.2.2]) rfl rfl ?_
      refine E_nc ?_
      refine E_fad0 ?_
      refine E_ld ?_
      refine fd (a := rsh A.y A.x A.my Z) ?_
      refine fd (a := rpk c' id' wd' L) ?_
      refine rseal hi hpk ?_
      refine E_ext ?_
      refine E_ext ?_
      refine E_box (v := plV 0 0 0) (vs := [I 0, I 0, I 0]) fun v9 => ?_
      refine E_stW (v := triV (sealV Z id' L).1) (vs := [I (sealV Z id' L).1.1, I (sealV Z id' L).1.2.1, I (sealV Z id' L).1.2.2]) rfl rfl ?_
      refine E_ldNA ?_
      refine E_ldNA ?_
      refine E_placeEq ?_
      refine E_gtf ?_
      refine E_gtf ?_
      refine E_gtf ?_
      refine E_eql ?_
      refine E_ptt ?_
      rw [decide_eq_true rfl]
      refine sm (G := cel true b 42 [ptr A.d, ptr A.x, ptr A.a, ptr A.y] :: shf A.a A.d A.m (sealV Z id' L).2.2 :: rsh A.y A.x A.my (sealV Z id' L).2.2 :: H) ?_
      exact E_parS h
  rw [if_neg h0] at h
  refine E_eql ?_
  refine E_if (fun h1 => ?_) (fun h1 => ?_)
  · rw [if_pos h1] at h
    refine E_dr ?_
    refine E_nc ?_
    refine E_fad0 ?_
    refine E_ld ?_
    refine E_fad0 ?_
    refine E_ldN (cs := [I pb, I pa, I pn]) rfl rfl ?_
    refine E_nc ?_
    refine E_fad0 ?_
    refine E_ld ?_
    refine E_fad0 ?_
    refine E_ldN (cs := [I pb, I pa, I pn]) rfl rfl ?_
    refine fd (a := shf A.a A.d A.m Z) ?_
    refine claim hi ?_
    refine E_rck1 (E_ldN (cs := [I pb, I pa, I pn]) rfl rfl (E_fact rfl)) (E_rck1 (E_ld (E_fact rfl)) (E_rck0 ?_))
    refine fd (a := rsh A.y A.x A.my Z) ?_
    refine rclaimS hi la ?_
    refine E_eql ?_
    rw [decide_eq_true rfl]
    refine sm (G := cel true b 42 [ptr A.d, ptr A.x, ptr A.a, ptr A.y] :: shf A.a A.d A.m (claimS Z pb pa pn).2 :: rsh A.y A.x A.my (claimS Z pb pa pn).2 :: H) ?_
    exact E_parS h
  rw [if_neg h1] at h
  refine E_eql ?_
  refine E_if (fun h2 => ?_) (fun h2 => ?_)
  · rw [if_pos h2] at h
    refine E_dr ?_
    refine E_nc ?_
    refine E_fad0 ?_
    refine E_ld ?_
    refine E_fad0 ?_
    refine E_ld ?_
    refine E_nc ?_
    refine E_fad0 ?_
    refine E_ld ?_
    refine E_fad0 ?_
    refine E_ld ?_
    refine fd (a := shf A.a A.d A.m Z) ?_
    refine free hi ?_
    refine E_rck1 (E_ld (E_fact rfl)) (E_rck1 (E_ld (E_fact rfl)) (E_rck0 ?_))
    refine fd (a := rsh A.y A.x A.my Z) ?_
    refine rfree hi ?_
    refine E_eql ?_
    rw [decide_eq_true rfl]
    refine sm (G := cel true b 42 [ptr A.d, ptr A.x, ptr A.a, ptr A.y] :: shf A.a A.d A.m (freeS Z n).2 :: rsh A.y A.x A.my (freeS Z n).2 :: H) ?_
    exact E_parS h
  rw [if_neg h2] at h
  refine fd (a := rsh A.y A.x A.my Z) ?_
  refine E_rsD fun rv _ => ?_
  refine fd (a := shf A.a A.d A.m Z) ?_
  refine E_shD fun r kvs hk => ?_
  have fin : ∀ (D : Dk), E B (par b A { Z with D := D } :: H) (K (.bool true)) → E B (disk A.d D :: cel true A.a 97 [ptr A.d, ptr A.m, .map (some r)] :: xmap A.m Z.f (Z.f + Z.T.length) Z.R :: dct kI true r kvs :: rdisk A.x D :: cel true A.y 86 [ptr A.x, ptr A.my, rv] :: rmap A.my Z.f Z.T :: sls cPl 34 3 rv Z.P :: cel true b 42 [ptr A.d, ptr A.x, ptr A.a, ptr A.y] :: H) (K (.bool true)) := fun D hD => by
    refine E_shDS hk ?_
    refine sm (G := rdisk A.x D :: cel true A.y 86 [ptr A.x, ptr A.my, rv] :: rmap A.my Z.f Z.T :: sls cPl 34 3 rv Z.P :: shf A.a A.d A.m { Z with D := D } :: cel true b 42 [ptr A.d, ptr A.x, ptr A.a, ptr A.y] :: H) ?_
    refine E_rsDS ?_
    refine sm (G := cel true b 42 [ptr A.d, ptr A.x, ptr A.a, ptr A.y] :: shf A.a A.d A.m { Z with D := D } :: rsh A.y A.x A.my { Z with D := D } :: H) ?_
    exact E_parS hD
  refine E_eql ?_
  refine E_if (fun h3 => ?_) (fun h3 => ?_)
  · rw [if_pos h3] at h
    refine E_dr ?_
    refine E_nc ?_
    refine E_fad0 ?_
    refine E_ld ?_
    refine E_fad0 ?_
    refine E_ldN (cs := [kv, I c.torn, I c.at_]) rfl rfl ?_
    refine crash ?_
    refine E_dr ?_
    refine E_nc ?_
    refine E_fad0 ?_
    refine E_ld ?_
    refine E_fad0 ?_
    refine E_ldN (cs := [kv, I c.torn, I c.at_]) rfl rfl ?_
    refine fd (a := rdisk A.x Z.D) ?_
    refine rcrash ?_
    exact sm (fin _ h)
  rw [if_neg h3] at h
  refine E_eql ?_
  refine E_if (fun h4 => ?_) (fun h4 => ?_)
  · rw [if_pos h4] at h
    refine E_dr ?_
    refine E_nc ?_
    refine E_fad0 ?_
    refine E_ld ?_
    refine E_fad0 ?_
    refine E_ld ?_
    refine E_fad0 ?_
    refine E_ld ?_
    refine E_nc ?_
    refine E_fad0 ?_
    refine E_ld ?_
    refine E_fad0 ?_
    refine E_ld ?_
    refine E_fad0 ?_
    refine E_ld ?_
    refine rot (bs := bs) ?_
    refine E_rck1 (E_ld (E_fact rfl)) (E_rck1 (E_ld (E_fact rfl)) (E_rck1 (E_ld (E_fact rfl)) (E_rck0 ?_)))
    refine fd (a := rdisk A.x Z.D) ?_
    refine rrot (bs := bs) ?_
    refine E_eql ?_
    rw [decide_eq_true rfl]
    exact sm (fin _ h)
  rw [if_neg h4] at h
  refine E_eql ?_
  refine E_if (fun h5 => ?_) (fun h5 => ?_)
  · rw [if_pos h5] at h
    refine E_dr ?_
    refine E_nc ?_
    refine E_fad0 ?_
    refine E_ld ?_
    refine E_fad0 ?_
    refine E_ld ?_
    refine E_fad0 ?_
    refine E_ld ?_
    refine E_nc ?_
    refine E_fad0 ?_
    refine E_ld ?_
    refine E_fad0 ?_
    refine E_ld ?_
    refine E_fad0 ?_
    refine E_ld ?_
    refine write (bs := bs) ?_
    refine E_rck1 (E_ld (E_fact rfl)) (E_rck1 (E_ld (E_fact rfl)) (E_rck1 (E_ld (E_fact rfl)) (E_rck0 ?_)))
    refine fd (a := rdisk A.x Z.D) ?_
    refine rwrite (bs := bs) ?_
    refine E_eql ?_
    rw [decide_eq_true rfl]
    exact sm (fin _ h)
  rw [if_neg h5] at h
  refine E_eql ?_
  refine E_if (fun h6 => ?_) (fun h6 => ?_)
  · rw [if_pos h6] at h
    refine E_dr ?_
    refine E_nc ?_
    refine E_fad0 ?_
    refine E_ld ?_
    refine E_fad0 ?_
    refine E_ld ?_
    refine E_nc ?_
    refine E_fad0 ?_
    refine E_ld ?_
    refine E_fad0 ?_
    refine E_ld ?_
    refine trip ln ?_
    refine E_rck1 (E_ld (E_fact rfl)) (E_rck1 (E_ld (E_fact rfl)) (E_rck0 ?_))
    refine fd (a := rdisk A.x Z.D) ?_
    refine rtrip ln ?_
    refine E_eql ?_
    rw [decide_eq_true rfl]
    exact sm (fin _ h)
  rw [if_neg h6] at h
  refine E_dr ?_
  refine E_nc ?_
  refine E_fad0 ?_
  refine E_ld ?_
  refine E_nc ?_
  refine E_fad0 ?_
  refine E_ld ?_
  refine flush ?_
  refine E_rck1 (E_ld (E_fact rfl)) (E_rck0 ?_)
  refine fd (a := rdisk A.x Z.D) ?_
  refine rflush ?_
  refine E_eql ?_
  rw [decide_eq_true rfl]
  exact sm (fin _ h)
end Go.Proofs.YtmbfmkiagdhcoaaGreat.Bn
end
section
namespace Go.Proofs.YtmbfmkiagdhcoaaGreat.Bn
open Go Go.SL Go.Proofs Go.Proofs.YtmbfmkiagdhcoaaGreat.Sh Go.Proofs.YtmbfmkiagdhcoaaGreat.Oct Go.Proofs.YtmbfmkiagdhcoaaGreat.Disk Go.Proofs.YtmbfmkiagdhcoaaGreat.Slot Go.Proofs.YtmbfmkiagdhcoaaGreat.Pk Go.Proofs.YtmbfmkiagdhcoaaGreat.Ext
variable {B : World} {H : List Asrt} {K : Value → WT} {W : WT}
def abcL : Ch := [[97, 98, 99]]
theorem abc_pack : packL 4 [[97, 98, 99]] = abcL := by decide
theorem abc_ok : POk 7 4 abcL := ⟨by decide, by decide, by decide, by decide, by decide, by decide⟩
theorem abc_n : (imgL 7 abcL).length / 128 = 2 := by
  obtain ⟨h1, h2, h3⟩ := img_len 7 abcL
  have e1 : abcL.flatten.length = 3 := rfl
  have e2 : abcL.length = 1 := rfl
  omega
theorem live_seal : (sealV (newZ 10 0) 7 abcL).1 = (7, 0, 2) ∧ (sealV (newZ 10 0) 7 abcL).2.1 = 0 ∧ (sealV (newZ 10 0) 7 abcL).2.2.P = [⟨7, 0, 2⟩] := by
  have hg := new_good (n := 10) (f := 0) (by decide) (by decide)
  have hlen : (imgL 7 abcL).length = 128 * 2 := by
    have := abc_n
    have := (img_len 7 abcL).1
    omega
  have ht : (takeV (newZ 10 0).R ((2 : Nat) : Int)).1 = ((0 : Nat) : Int) ∧ (takeV (newZ 10 0).R ((2 : Nat) : Int)).2.1 = 0 := by decide
  obtain ⟨w1, _⟩ := wrS_fit (chunks (imgL 7 abcL) 2) hg.fit (a := 0) (by rw [chunks_len]; decide) (chunks_128 hlen)
  unfold sealV
  rw [if_neg (by decide), if_neg (by decide), if_neg (by decide), abc_n]
  dsimp only
  rw [ht.1, if_neg (by rw [ht.2]; decide), if_neg (by rw [w1]; decide)]
  exact ⟨rfl, rfl, rfl⟩
theorem fill3 : Instr.fill (fun i => some (i * 1, 1)) (rep 3 [.int .u8 0]).toArray [(0, .int .u8 97), (1, .int .u8 98), (2, .int .u8 99)] = some #[.int .u8 97, .int .u8 98, .int .u8 99] := by kernel_rfl
theorem fill1s (b : Nat) : Instr.fill (fun i => some (i * 1, 1)) (rep 1 [nl]).toArray [(0, .slice (some ⟨b, 0, none⟩) 3 3)] = some #[.slice (some ⟨b, 0, none⟩) 3 3] := by kernel_rfl
set_option maxRecDepth 100000
attribute [local irreducible] S.pick S.ld S.ldN S.st S.box S.nc S.fad S.ixS S.ixA S.chr S.prt S.ext S.bin S.sh S.sbin S.beq S.neg1 S.com1 S.not1 S.cvt S.str1 S.lenS S.len S.cap S.lenM S.mx S.mn S.mkM S.cond S.gd S.fa S.dr S.rck S.join S.loop S.cvv S.eqv S.slc S.slcS S.b2s S.lk V U CF Gives E cel mpb osl ros dct dit itr lpo dfo
theorem live12 (h : E B H (K (.bool true))) : E B H (CF Tryz.prog 10 [] K) := by
  refine E_mono (W := s10 K) ?_ fun _ => c10
  unfold s10
  refine begin12 (s := 2) (f := 0) fun b A => ?_
  rw [show newZ (8 + (2 : UInt8).toNat % 73) ((0 : UInt8).toNat % 5) = newZ 10 0 from rfl]
  refine E_ext ?_
  refine E_ext ?_
  refine E_notb ?_
  refine E_ff ?_
  refine Dig.E_bslK Dig.u_bytesD Dig.elt_byteD (by omega) fill3 fun b16 => ?_
  refine E_cvslice Dig.u_bytesD u_byteP ?_
  refine E_slsC (enc := cB) (sz := 1) [97, 98, 99] 3 rfl rfl ?_
  refine Dig.E_bslK Pk.u_bytess elt_bytesP (by omega) (fill1s b16) fun b18 => ?_
  refine E_slsC (enc := Pk.cV) (sz := 1) [⟨.slice (some ⟨b16, 0, none⟩) 3 3, [97, 98, 99], rfl⟩] 1 rfl rfl ?_
  refine packers (l2 := .slice (some ⟨b18, 0, none⟩) 1 1) (l := [⟨.slice (some ⟨b16, 0, none⟩) 3 3, [97, 98, 99], rfl⟩]) (fun x hx => ?_) (by unfold badP; omega) fun a c id wd e1 e2 hp => ?_
  · simp only [List.mem_cons, List.not_mem_nil, or_false] at hx
    subst hx
    refine ⟨fun Q => ⟨fun {w} hw => ?_⟩, by simp⟩
    have : Rb B (sls Pk.cV 48 1 (.slice (some ⟨b18, 0, none⟩) 1 1) [⟨.slice (some ⟨b16, 0, none⟩) 3 3, [97, 98, 99], rfl⟩] :: sls cB 5 1 (.slice (some ⟨b16, 0, none⟩) 3 3) [97, 98, 99] :: par b A (newZ 10 0) :: H) (.slice (some ⟨b16, 0, none⟩) 3 3) [97, 98, 99] := inferInstance
    have key : ∀ (Q : List Asrt) {w : World}, sat B (Q ++ (sls Pk.cV 48 1 (.slice (some ⟨b18, 0, none⟩) 1 1) [⟨.slice (some ⟨b16, 0, none⟩) 3 3, [97, 98, 99], rfl⟩] :: sls cB 5 1 (.slice (some ⟨b16, 0, none⟩) 3 3) [97, 98, 99] :: par b A (newZ 10 0) :: H)) w → sat B (sls Pk.cV 48 1 (.slice (some ⟨b18, 0, none⟩) 1 1) [⟨.slice (some ⟨b16, 0, none⟩) 3 3, [97, 98, 99], rfl⟩] :: sls cB 5 1 (.slice (some ⟨b16, 0, none⟩) 3 3) [97, 98, 99] :: par b A (newZ 10 0) :: H) w := fun Q => by
      induction Q with
      | nil => exact fun h => h
      | cons q Q ih => exact fun h => ih h.tail
    exact this.pf (key Q hw)
  have hid : id = 7 := by omega
  have hwd : wd = 4 := by omega
  subst hid hwd
  simp only [List.map_cons, List.map_nil, abc_pack]
  refine E_ext ?_
  refine E_ext ?_
  refine fd (a := par b A (newZ 10 0)) ?_
  refine E_par ?_
  refine E_nc ?_
  refine E_fad0 ?_
  refine E_ld ?_
  have hg := new_good (n := 10) (f := 0) (by decide) (by decide)
  obtain ⟨s1, s2, s3⟩ := live_seal
  obtain ⟨g1, _, g3, _⟩ := good_seal hg abc_ok
  obtain ⟨gk, _⟩ := g3 s2
  have hch := keep_chunk g1.fit abc_ok gk (i := 0) (c := [97, 98, 99]) rfl
  refine fd (a := shf A.a A.d A.m (newZ 10 0)) ?_
  refine fd (a := pck a 7 4 abcL) ?_
  refine bseal hg.inv abc_ok ?_
  rw [s1, s2]
  generalize (sealV (newZ 10 0) 7 abcL).2.2 = Z at g1 hch s3 ⊢
  refine E_ext ?_
  refine E_ext ?_
  refine E_box (v := plV 0 0 0) (vs := [I 0, I 0, I 0]) fun v5 => ?_
  refine E_stW (v := plV 7 0 2) (vs := [I 7, I 0, I 2]) rfl rfl ?_
  refine E_nc ?_
  refine E_fad0 ?_
  refine E_ld ?_
  refine fd (a := shf A.a A.d A.m Z) ?_
  refine chunk (b := 7) (i := 0) g1.inv fun v _ => ?_
  rw [show chunkV Z 7 0 = (0, [97, 98, 99]) from hch]
  refine E_ext ?_
  refine E_ext ?_
  refine E_eql ?_
  refine E_gtf ?_
  refine E_ldNA ?_
  refine E_gtf ?_
  refine Dig.E_Vr (buildRn _ _) ?_
  refine E_gtf ?_
  refine Dig.E_Vr (buildPl _ _ _) ?_
  refine E_gtf ?_
  refine E_placeEq ?_
  refine E_ptt ?_
  refine E_gtf ?_
  refine E_gtf ?_
  refine E_eql ?_
  refine E_ptt ?_
  refine E_gtf ?_
  refine E_gtf ?_
  refine E_b2sR (v := v) (bs := [97, 98, 99]) ?_
  refine E_gtf ?_
  refine E_streqS ?_
  refine E_ptt ?_
  refine E_gtf ?_
  refine E_gtf ?_
  refine E_nc ?_
  refine E_gtf ?_
  refine E_fad0 ?_
  refine E_gtf ?_
  refine E_ld ?_
  refine E_gtf ?_
  refine fd (a := shf A.a A.d A.m Z) ?_
  refine used g1.inv ?_
  rw [s3]
  refine E_gtf ?_
  refine E_eql ?_
  refine E_ptt ?_
  refine E_gtf ?_
  refine E_gtf ?_
  refine E_nc ?_
  refine E_gtf ?_
  refine E_fad0 ?_
  refine E_gtf ?_
  refine E_ld ?_
  refine E_gtf ?_
  refine fresh ?_
  rw [s3]
  refine E_gtf ?_
  refine E_eql ?_
  refine E_ptt ?_
  rw [show decide (freshN [⟨7, 0, 2⟩] = 0) = true by decide]
  exact sm h
def playB (n f : Nat) (l : List Dd) : Shf := (l.take 60).foldl stepB (newZ n f)
theorem play_inv {n f : Nat} (h : f ≤ n) (hn : n ≤ 4096) (l : List Dd) : Inv (playB n f l) := by
  have key : ∀ (l : List Dd) (Z : Shf), Inv Z → Inv (l.foldl stepB Z) := fun l => by
    induction l with
    | nil => exact fun Z h => h
    | cons d l ih => exact fun Z h => ih _ (step_inv h d)
  exact key _ _ (new_inv h hn)
theorem step_suc {Z : Shf} {l : List Dd} {i : Nat} {d : Dd} (h : l[i]? = some d) : (l.take (i + 1)).foldl stepB Z = stepB ((l.take i).foldl stepB Z) d := by
  rw [List.take_add_one, h, List.foldl_append]; rfl
theorem play12 {s f : UInt8} {l2 : Value} {l : List Dd} [hv : BaseS B l2 cDd l] (hd : ∀ d ∈ l, DdP B d) (h : ∀ b A, E B (par b A (playB (8 + s.toNat % 73) (f.toNat % 5) l) :: H) (K (.tuple #[ptr b, .bool true]))) :
    E B H (CF Tryz.prog 19 [.int .u8 s.toNat, .int .u8 f.toNat, l2] K) := by
  refine E_mono (W := s19 _ _ _ K) ?_ fun _ => c19
  unfold s19
  refine begin12 fun b A => ?_
  refine E_ext ?_
  refine E_ext ?_
  have hh := h b A
  unfold playB at hh
  have hs := new_inv (n := 8 + s.toNat % 73) (f := f.toNat % 5) (by omega) (by omega)
  generalize newZ (8 + s.toNat % 73) (f.toNat % 5) = Z at hh hs ⊢
  have key : ∀ (l : List Dd) (Z : Shf), Inv Z → Inv (l.foldl stepB Z) := fun l => by
    induction l with
    | nil => exact fun Z h => h
    | cons d l ih => exact fun Z h => ih _ (step_inv h d)
  have hmin : l.take 60 = l.take (min 60 l.length) := by
    rcases Nat.lt_or_ge l.length 60 with h' | h'
    · rw [show min 60 l.length = l.length by omega, List.take_of_length_le (by omega), List.take_of_length_le (by omega)]
    · rw [show min 60 l.length = 60 by omega]
  refine E_loop (n := 4) (σ := Nat) (fun i => i ≤ min 60 l.length) (fun i => [l2, ptr b, .bool true, I i]) (fun i => par b A ((l.take i).foldl stepB Z) :: H) (fun i => min 60 l.length - i) 0 (fun _ => rfl) rfl (Nat.zero_le _) (fun W hW => hW) ?_
  intro i K0 hi hk
  refine E_fa fun _ => ?_
  refine E_join1 (n := 5) [l2, ptr b, .bool true, I i, .bool (decide (i < min 60 l.length))] (par b A ((l.take i).foldl stepB Z) :: H) (fun q hq => ?_) ?_
  · refine E_gtf ?_
    refine E_gtf ?_
    refine E_gtf ?_
    refine E_rslen (v := l2) (l := l) ?_
    refine E_gtf ?_
    refine E_lss ?_
    refine E_ptt ?_
    by_cases h1 : i < l.length
    · have e : decide (i < min 60 l.length) = decide ((i : Int) < 60) := by rw [decide_eq_decide]; omega
      rw [e] at hq
      rw [decide_eq_true (show (i : Int) < (l.length : Int) by omega)]
      refine E_gtf ?_
      refine E_gtf ?_
      refine E_lss ?_
      refine E_ptt ?_
      exact hq
    · rw [decide_eq_false (by omega)] at hq
      rw [decide_eq_false (show ¬ (i : Int) < (l.length : Int) by omega)]
      refine E_gff ?_
      refine E_gff ?_
      refine E_pff ?_
      exact hq
  refine E_fa fun _ => ?_
  refine E_if (fun hc => ?_) (fun hc => ?_)
  · have hx : l[i]? = some (l[i]'(by omega)) := List.getElem?_eq_getElem (by omega)
    have hdd := hd _ (List.getElem_mem (show i < l.length by omega))
    generalize (l[i]'(by omega)) = d at hx hdd
    have hk1 := hk (i + 1) (by omega) (by omega)
    rw [step_suc hx] at hk1
    refine E_rsix (v := l2) (l := l) hx fun _ _ => ?_
    refine E_ptldA ?_
    refine do12 (key _ _ hs) hdd ?_
    refine E_addI (by omega) (by omega) ?_
    exact hk1
  · have hie : i = min 60 l.length := by omega
    subst hie
    rw [← hmin]
    exact hh
end Go.Proofs.YtmbfmkiagdhcoaaGreat.Bn
end
section
namespace Go.Proofs.YtmbfmkiagdhcoaaGreat.Bn
open Go Go.SL Go.Proofs Go.Proofs.YtmbfmkiagdhcoaaGreat.Sh Go.Proofs.YtmbfmkiagdhcoaaGreat.Oct Go.Proofs.YtmbfmkiagdhcoaaGreat.Disk Go.Proofs.YtmbfmkiagdhcoaaGreat.Slot Go.Proofs.YtmbfmkiagdhcoaaGreat.Pk Go.Proofs.YtmbfmkiagdhcoaaGreat.Ext
variable {B : World} {H : List Asrt} {K : Value → WT} {W : WT}
abbrev np : Value := .pointer none
attribute [local irreducible] S.pick S.ld S.ldN S.st S.box S.nc S.fad S.ixS S.ixA S.chr S.prt S.ext S.bin S.sh S.sbin S.beq S.neg1 S.com1 S.not1 S.cvt S.str1 S.lenS S.len S.cap S.lenM S.mx S.mn S.mkM S.cond S.gd S.fa S.dr S.rck S.join S.loop S.cvv S.eqv S.slc S.slcS S.b2s S.lk V U CF Gives E cel mpb osl ros dct dit itr lpo dfo
end Go.Proofs.YtmbfmkiagdhcoaaGreat.Bn
end
section
namespace Go.Proofs.YtmbfmkiagdhcoaaGreat.Bn
open Go Go.SL Go.Proofs Go.Proofs.YtmbfmkiagdhcoaaGreat.Sh Go.Proofs.YtmbfmkiagdhcoaaGreat.Oct Go.Proofs.YtmbfmkiagdhcoaaGreat.Disk Go.Proofs.YtmbfmkiagdhcoaaGreat.Slot Go.Proofs.YtmbfmkiagdhcoaaGreat.Pk Go.Proofs.YtmbfmkiagdhcoaaGreat.Ext
variable {B : World} {H : List Asrt} {K : Value → WT} {W : WT}
set_option maxRecDepth 100000
attribute [local irreducible] S.pick S.ld S.ldN S.st S.box S.nc S.fad S.ixS S.ixA S.chr S.prt S.ext S.bin S.sh S.sbin S.beq S.neg1 S.com1 S.not1 S.cvt S.str1 S.lenS S.len S.cap S.lenM S.mx S.mn S.mkM S.cond S.gd S.fa S.dr S.rck S.join S.loop S.cvv S.eqv S.slc S.slcS S.b2s S.lk V U CF Gives E cel mpb osl ros dct dit itr lpo dfo
theorem E_orSpace {c w : Nat} {L : Ch} {e : Int} {id : Nat} (hL : L = [] ∨ e = 8) (h : ∀ {H}, E B H (K (.bool true))) :
    E B (rpk c id w L :: H) (S.gd (.bool true) true (fun k => k (ptr c)) fun v49 =>
 S.gd (.bool true) true (S.nc v49) fun v50 =>
 S.gd (.bool true) true (S.fad v50 2) fun v51 =>
 S.gd (.bool true) true (S.ld v51) fun v52 =>
 S.gd (.bool true) true (S.len v52) fun v53 =>
 S.gd (.bool true) true (S.bin .eql v53 (I 0)) fun v54 =>
 S.gd (.bool true) true (fun k => k v54) fun v55 =>
 S.gd v55 false (fun k => k (I e)) fun v56 =>
 S.gd v55 false (S.bin .eql v56 (I 8)) fun v57 =>
 S.gd (.bool true) true (S.pick v55 (.bool true) v57) fun v58 =>
 S.pick (.bool true) v58 (.bool false) fun v59 =>
 K v59) := by
  refine E_rpk fun v _ => ?_
  refine E_gtf ?_
  refine E_gtf ?_
  refine E_nc ?_
  refine E_gtf ?_
  refine E_fad0 ?_
  refine E_gtf ?_
  refine E_ld ?_
  refine E_gtf ?_
  refine E_rslen (v := v) (l := L) ?_
  refine E_gtf ?_
  refine E_eql ?_
  refine E_gtf ?_
  by_cases h0 : (L.length : Int) = 0
  · rw [decide_eq_true h0]
    refine E_gtt ?_
    refine E_gtt ?_
    refine E_gtf ?_
    refine E_ptt ?_
    refine E_ptt ?_
    exact h
  · rw [decide_eq_false h0]
    have he : e = 8 := hL.resolve_left fun hh => h0 (by rw [hh]; rfl)
    subst he
    refine E_gft ?_
    refine E_gft ?_
    refine E_eql ?_
    refine E_gtf ?_
    refine E_pff ?_
    refine E_ptt ?_
    exact h
end Go.Proofs.YtmbfmkiagdhcoaaGreat.Bn
end
section
namespace Go.Proofs.YtmbfmkiagdhcoaaGreat.Bn
open Go Go.SL Go.Proofs Go.Proofs.YtmbfmkiagdhcoaaGreat.Sh Go.Proofs.YtmbfmkiagdhcoaaGreat.Oct Go.Proofs.YtmbfmkiagdhcoaaGreat.Disk Go.Proofs.YtmbfmkiagdhcoaaGreat.Slot Go.Proofs.YtmbfmkiagdhcoaaGreat.Pk Go.Proofs.YtmbfmkiagdhcoaaGreat.Ext
variable {B : World} {H : List Asrt} {K : Value → WT} {W : WT}
theorem len_wr (D : Dk) (i : Int) (b : List UInt8) : (D.wr i b).S.length = D.S.length := by
  unfold Dk.wr
  split
  · rfl
  split
  · rfl
  split
  · rfl
  · simp [Dk.setS, Dk.tick]
theorem len_wrS : ∀ (cs : List (List UInt8)) (D : Dk) (a : Int), (wrS D a cs).1.S.length = D.S.length
  | [], _, _ => rfl
  | c :: cs, D, a => by
    unfold wrS
    split
    · exact len_wr _ _ _
    · rw [len_wrS cs, len_wr]
theorem len_rot (D : Dk) (i : Int) (b : List UInt8) : (D.rot i b).S.length = D.S.length := by
  unfold Dk.rot
  split
  · rfl
  split
  · rfl
  · simp [Dk.setS]
theorem len_tr (D : Dk) (n : Int) : (D.tr n).S.length = D.S.length := by
  unfold Dk.tr
  split
  · rfl
  split
  · rfl
  · rfl
theorem len_fl (D : Dk) : D.fl.S.length = D.S.length := by
  unfold Dk.fl
  split
  · rfl
  split
  · rfl
  · simp
theorem len_crash (D : Dk) (c : Cr) : (D.crash c).S.length = D.S.length := by simp [Dk.crash, crash_length]
def Room (Z : Shf) : Prop := Z.f + Z.T.length ≤ Z.D.S.length
theorem room_take {Z : Shf} (hi : Inv Z) (n : Nat) : (takeN Z n).f + (takeN Z n).T.length = Z.f + Z.T.length := take_len n hi
theorem room_seal {Z : Shf} (hi : Inv Z) (h : Room Z) (id : Nat) (L : Ch) : Room (sealV Z id L).2.2 := by
  unfold sealV Room at *
  split
  · exact h
  split
  · exact h
  split
  · exact h
  dsimp only
  have ht := fun n : Nat => (rel_take hi.rel (n : Int)).2
  generalize (imgL id L).length / 128 = n
  split
  · have := room_take hi n
    simp only [takeN] at this ⊢
    omega
  split
  · obtain ⟨_, r2, _⟩ := rel_giveV (hi.take n).rel (takeV Z.R n).1 (n : Int)
    simp only [giveN, len_wrS]
    rw [r2]
    have := room_take hi n
    simp only [takeN] at this ⊢
    omega
  · simp only [takeN, len_wrS]
    rw [ht]
    exact h
theorem room_step {Z : Shf} (hi : Inv Z) (h : Room Z) (d : Dd) : Room (stepB Z d) := by
  unfold stepB
  split
  · unfold sealD
    split
    · exact h
    · exact room_seal hi h _ _
  split
  · obtain ⟨_, r2, _⟩ := rel_claim hi.rel d.pa d.pn
    unfold claimS Room at *
    split
    · exact h
    split
    · exact h
    split
    · simp only [claimN]; rw [r2]; exact h
    · simp only [claimN]; rw [r2]; exact h
  split
  · unfold freeS Room at *
    cases known Z.P d.n with
    | none => exact h
    | some p =>
      obtain ⟨_, r2, _⟩ := rel_giveV hi.rel (p.pos : Int) (p.n : Int)
      simp only [giveN]; rw [r2]; exact h
  split
  · unfold Room at *; simp only [len_crash]; exact h
  split
  · unfold Room at *; simp only [len_rot]; exact h
  split
  · unfold Room at *; simp only [len_wr]; exact h
  split
  · unfold Room at *; simp only [len_tr]; exact h
  · unfold Room at *; simp only [len_fl]; exact h
theorem play_room {n f : Nat} (h : f ≤ n) (hn : n ≤ 4096) (l : List Dd) : Room (playB n f l) := by
  have key : ∀ (l : List Dd) (Z : Shf), Inv Z → Room Z → Room (l.foldl stepB Z) := fun l => by
    induction l with
    | nil => exact fun Z _ h => h
    | cons d l ih => exact fun Z hi h => ih _ (step_inv hi d) (room_step hi h d)
  exact key _ _ (new_inv h hn) (new_good h hn).room
theorem fresh_cases (P : List Pc) : freshN P = -1 ∨ ∃ n : Nat, freshN P = (n : Int) ∧ n < 4096 ∧ known P n = none := by
  unfold freshN
  cases h : (List.range 4096).find? fun n : Nat => (known P (n : Int)).isNone with
  | none => exact .inl rfl
  | some n =>
    refine .inr ⟨n, rfl, List.mem_range.1 (List.mem_of_find?_eq_some h), ?_⟩
    have := List.find?_some h
    simpa using this
def newS (D : Dk) : Shf := ⟨D, 0, List.replicate D.S.length false, newL 0 D.S.length, []⟩
theorem newS_inv {D : Dk} (h : D.S.length ≤ 4096) : Inv (newS D) := by
  have h0 := new_inv (n := D.S.length) (f := 0) (Nat.zero_le _) h
  refine ⟨?_, by simp [newS]; omega, h0.sort, fun _ hp => (by cases hp), fun _ hp => (by cases hp), fun _ hp => (by cases hp)⟩
  exact h0.rel
theorem claim_new {D : Dk} {a n b : Nat} (hn : 2 ≤ n) (hn2 : n ≤ 64) (ha : a + n ≤ D.S.length) (hb : b < 4096) : (claimS (newS D) b a n).1 = 0 ∧ (claimS (newS D) b a n).2.D = D ∧ (claimS (newS D) b a n).2.P = [⟨b, a, n⟩] := by
  have hc : (claimV (newS D).f ((newS D).f + (newS D).T.length) (newS D).R a n).1 = 0 := by
    unfold claimV
    have ew : wI (newS D).f ((newS D).f + (newS D).T.length) a n = true := by
      unfold wI
      simp only [newS, List.length_replicate]
      rw [decide_eq_true_eq]
      omega
    rw [if_neg (by rw [ew]; decide)]
    have : claimO (newS D).R a n = some 0 := by
      unfold claimO
      simp only [newS, newL]
      rw [if_pos (by omega), List.findIdx?_cons]
      rw [if_pos]
      simp; omega
    rw [this]
  unfold claimS
  rw [if_neg (by omega), if_neg (by simp [newS, known]), if_neg (by rw [hc]; decide)]
  exact ⟨rfl, rfl, by simp only [Int.toNat_natCast]; rfl⟩
theorem buildCr (w : World) : (Instr.build 51 #[(1, I (-1))]).run Tryz.prog w = .ok (.agg #[nl, I (-1), I 0]) w := by kernel_rfl
set_option maxRecDepth 100000
attribute [local irreducible] S.pick S.ld S.ldN S.st S.box S.nc S.fad S.ixS S.ixA S.chr S.prt S.ext S.bin S.sh S.sbin S.beq S.neg1 S.com1 S.not1 S.cvt S.str1 S.lenS S.len S.cap S.lenM S.mx S.mn S.mkM S.cond S.gd S.fa S.dr S.rck S.join S.loop S.cvv S.eqv S.slc S.slcS S.b2s S.lk V U CF Gives E cel mpb osl ros dct dit itr lpo dfo
theorem lastsEnd {a2 d m2 : Nat} {Z : Shf} {c n : Nat} {L : Ch} (hf : Fit Z.D) (hi : Inv Z) (hok : POk n 64 L) (hk : Keep Z n (imgL n L)) (h : ∀ {H}, E B H (K (.bool true))) :
    E B (shf a2 d m2 Z :: rpk c n 64 L :: H)
    (S.loop 4 (fun K2 => fun v13' v15' v20' v22 => S.fa fun _ =>
 S.nc v15' fun v137 =>
 S.fad v137 2 fun v138 =>
 S.ld v138 fun v139 =>
 S.len v139 fun v140 =>
 S.bin .lss v22 v140 fun v141 =>
 S.cond v141 (
 CF Tryz.prog 14 [v20', v13', v22] fun v148 =>
 S.ext v148 0 fun v149 =>
 S.ext v148 1 fun v150 =>
 S.join 5 (fun K3 =>
 S.dr <|
 S.bin .neq v150 (I 0) fun v152 =>
 S.gd v152 false (fun k => k v149) fun v154 =>
 S.gd v152 false (S.b2s v154) fun v155 =>
 S.gd v152 false (fun k => k v15') fun v156 =>
 S.gd v152 false (S.nc v156) fun v157 =>
 S.gd v152 false (S.fad v157 2) fun v158 =>
 S.gd v152 false (S.ld v158) fun v159 =>
 S.gd v152 false (fun k => k v22) fun v160 =>
 S.gd v152 false (S.ixS 1 v159 v160) fun v161 =>
 S.gd v152 false (S.ld v161) fun v162 =>
 S.gd v152 false (S.sbin .neq v155 v162) fun v163 =>
 S.pick v152 (.bool true) v163 fun v164 =>
 K3 v13' v15' v20' v22 v164)
 <| fun v13'2 v15'2 v20'2 v22' v164' => S.fa fun _ =>
 S.cond v164' (
 K (.bool false)) (
 S.bin .add v22' (I 1) fun v143 =>
 K2 v13'2 v15'2 v20'2 v143)) (
 CF Tryz.prog 10 [] fun v165 =>
 K v165))
 [I n, ptr c, ptr a2, (I 0)]) := by
  have hLn := hok.num
  refine E_loop (n := 4) (σ := Nat) (fun i => i ≤ L.length) (fun i => [I n, ptr c, ptr a2, I i]) (fun _ => shf a2 d m2 Z :: rpk c n 64 L :: H) (fun i => L.length - i) 0 (fun _ => rfl) rfl (Nat.zero_le _) (fun W hW => hW) ?_
  intro i K5 hil hk5
  refine E_fa fun _ => ?_
  refine fd (a := rpk c n 64 L) ?_
  refine E_rpk fun v _ => ?_
  refine E_nc ?_
  refine E_fad0 ?_
  refine E_ld ?_
  refine E_rslen (v := v) (l := L) ?_
  refine E_rpkS ?_
  refine E_lss ?_
  refine E_if (fun hc => ?_) (fun hc => ?_)
  · have hx : L[i]? = some (L[i]'(by omega)) := List.getElem?_eq_getElem (by omega)
    generalize (L[i]'(by omega)) = b at hx
    refine fd (a := shf a2 d m2 Z) ?_
    refine chunk (b := (n : Int)) (i := (i : Int)) hi fun u _ => ?_
    rw [keep_chunk hf hok hk hx]
    refine E_ext ?_
    refine E_ext ?_
    refine E_join1 (n := 5) [I n, ptr c, ptr a2, I i, .bool false] (shf a2 d m2 Z :: rpk c n 64 L :: H) (fun q hq => ?_) ?_
    · refine E_dr ?_
      refine E_neq ?_
      rw [decide_eq_false (by simp)]
      refine E_gft ?_
      refine E_gft ?_
      refine E_b2sR (v := u) (bs := b) ?_
      refine E_gft ?_
      refine E_gft ?_
      refine E_nc ?_
      refine E_gft ?_
      refine E_fad0 ?_
      refine E_gft ?_
      refine fd (a := rpk c n 64 L) ?_
      refine E_rpk fun v _ => ?_
      refine E_ld ?_
      refine E_gft ?_
      refine E_gft ?_
      refine E_rsix (v := v) (l := L) hx fun _ _ => ?_
      refine E_gft ?_
      refine E_ptld ?_
      refine E_gft ?_
      refine E_strneS ?_
      refine E_pff ?_
      refine E_rpkS ?_
      exact sm hq
    · refine E_fa fun _ => ?_
      refine E_ff ?_
      refine E_addI (by omega) (by omega) ?_
      exact hk5 (i + 1) (by omega) (by omega)
  · refine live12 ?_
    exact h
theorem binLasts {s f : UInt8} {l2 l3 kv : Value} {cs : List Bv} {l : List Dd} {c : Cr} [ik : CellI kv] [hv3 : BaseS B l2 cDd l] (hd : ∀ d ∈ l, DdP B d) [hv : BaseS B l3 Pk.cV cs] (hb : ∀ b ∈ cs, BaseR B b.v b.bs ∧ b.bs.length ≤ 140737488351232) [hkv : BaseX B kv c.keep.length (bools c.keep)]
    (h : ∀ {H}, E B H (K (.bool true))) : E B H (CF Tryz.prog 6 [.int .u8 s.toNat, .int .u8 f.toNat, l2, l3, .agg #[kv, I c.torn, I c.at_]] K) := by
  refine E_mono (W := s6 _ _ _ _ _ K) ?_ fun _ => c6
  unfold s6
  refine E_box (v := .agg #[kv, I c.torn, I c.at_]) (vs := [kv, I c.torn, I c.at_]) fun v9 => ?_
  refine play12 (l := l) hd fun pb A => ?_
  have hi := play_inv (n := 8 + s.toNat % 73) (f := f.toNat % 5) (by omega) (by omega) l
  have hr := play_room (n := 8 + s.toNat % 73) (f := f.toNat % 5) (by omega) (by omega) l
  generalize playB (8 + s.toNat % 73) (f.toNat % 5) l = Z at hi hr ⊢
  refine E_ext ?_
  refine E_ext ?_
  refine E_notb ?_
  refine E_ff ?_
  refine E_par ?_
  refine E_joinC (n := 3) (σ := Dk) (fun D => D.down = false ∧ D.S.length = Z.D.S.length) (fun _ => [l3, ptr v9, ptr pb])
    (fun D => shf A.a A.d A.m { Z with D := D } :: cel true pb 42 [ptr A.d, ptr A.x, ptr A.a, ptr A.y] :: cel true v9 51 [kv, I c.torn, I c.at_] :: H) (fun k0 hk0 => ?_) ?_
  · refine E_nc ?_
    refine E_fad0 ?_
    refine E_ld ?_
    refine fd (a := shf A.a A.d A.m Z) ?_
    refine E_shD fun r kvs hkv => ?_
    refine down ?_
    refine E_ifb (fun hdn => ?_) (fun hdn => ?_)
    · refine E_nc ?_
      refine E_fad0 ?_
      refine E_ld ?_
      refine Dig.E_Vr buildCr ?_
      have ix : Rx B (cel true A.a 97 [ptr A.d, ptr A.m, .map (some r)] :: xmap A.m Z.f (Z.f + Z.T.length) Z.R :: dct kI true r kvs :: cel true pb 42 [ptr A.d, ptr A.x, ptr A.a, ptr A.y] :: rsh A.y A.x A.my Z :: cel true v9 51 [kv, I c.torn, I c.at_] :: H) nl 0 (bools []) := ⟨fun _ => .inl ⟨rfl, rfl, rfl⟩⟩
      refine crash (c := ⟨[], -1, 0⟩) (kv' := nl) (hf := ix) ?_
      refine E_shDS hkv ?_
      exact sm (hk0 (Z.D.crash ⟨[], -1, 0⟩) ⟨rfl, len_crash _ _⟩)
    · refine E_shDS hkv ?_
      exact sm (hk0 Z.D ⟨hdn, rfl⟩)
  rintro D ⟨hdn, hDl⟩
  refine E_fa fun _ => ?_
  have hi1 : Inv { Z with D := D.tr 0 } := hi.dk _
  have hg1 : Good { Z with D := D.tr 0 } := by
    have e : D.tr 0 = { D with trip := 0 } := by
      unfold Dk.tr
      rw [if_neg (by rw [hdn]; decide), if_neg (by decide)]
    refine ⟨hi1, by rw [e]; exact ⟨hdn, rfl⟩, ?_⟩
    simp only [len_tr]
    unfold Room at hr
    omega
  refine E_nc ?_
  refine E_fad0 ?_
  refine E_ld ?_
  refine E_shD fun r kvs hkv => ?_
  refine trip (n := 0) (by decide) ?_
  have e0 : ({ Z with D := D } : Shf).D.trE 0 = 0 := by
    simp only [Dk.trE]
    rw [if_neg (by rw [hdn]; decide), if_neg (by decide)]
  rw [e0]
  refine E_shDS hkv ?_
  rw [show ({ ({ Z with D := D } : Shf) with D := ({ Z with D := D } : Shf).D.tr 0 } : Shf) = { Z with D := D.tr 0 } from rfl]
  refine E_neq ?_
  refine E_ifF (by decide) ?_
  generalize ({ Z with D := D.tr 0 } : Shf) = Z1 at hi1 hg1 ⊢
  refine E_nc ?_
  refine E_fad0 ?_
  refine E_ld ?_
  refine fresh ?_
  rcases fresh_cases Z1.P with hn | ⟨n, hn, hn1, hn2⟩
  · rw [hn]
    refine packersZ (by unfold badP; omega) ?_
    refine E_ext ?_
    refine E_ext ?_
    refine E_peq0 u_pR11 ?_
    refine E_tt ?_
    refine live12 ?_
    refine E_gtf ?_
    refine E_gtf ?_
    refine E_eql ?_
    refine E_ptt ?_
    exact h
  rw [hn]
  refine packers (l2 := l3) (l := cs) (fun b hm => ⟨fun Q => have := (hb b hm).1; inferInstance, (hb b hm).2⟩) (by unfold badP; omega) fun a cc id wd e1 e2 hp => ?_
  have hid : id = n := by omega
  have hwd : wd = 64 := by omega
  subst hid hwd
  have hok := pack_ok hp (cs.map (·.bs))
  generalize packL 64 (cs.map (·.bs)) = L at hok ⊢
  refine E_ext ?_
  refine E_ext ?_
  refine E_peq u_pR11 ?_
  refine E_ff ?_
  refine E_nc ?_
  refine E_fad0 ?_
  refine E_ld ?_
  refine fd (a := shf A.a A.d A.m Z1) ?_
  refine fd (a := pck a id 64 L) ?_
  refine bseal hi1 hok ?_
  obtain ⟨g1, _, g3, g4⟩ := good_seal hg1 hok
  refine E_ext ?_
  refine E_ext ?_
  generalize hw : sealV Z1 id L = w at g1 g3 g4 ⊢
  refine E_box (v := plV 0 0 0) (vs := [I 0, I 0, I 0]) fun v16 => ?_
  refine E_stW (v := triV w.1) (vs := [I w.1.1, I w.1.2.1, I w.1.2.2]) rfl rfl ?_
  refine E_neq ?_
  refine E_if (fun hc => ?_) (fun hc => ?_)
  · refine live12 ?_
    have hL : L = [] ∨ w.2.1 = 8 := by
      rcases g4 hc with h1 | h1 | h1
      · exact .inl h1
      · exact .inr h1
      · rw [hn2] at h1; cases h1
    refine fd (a := rpk cc id 64 L) ?_
    exact E_orSpace hL h
  obtain ⟨gk, xa, xn, t1, t2, t3, t4, t5, t6⟩ := g3 (by simpa using hc)
  rw [t1]
  have hlen : w.2.2.D.S.length = Z1.D.S.length := by
    have : w.2.2.D.S.length = Z1.D.S.length := by
      rw [← hw]
      unfold sealV
      split
      · rfl
      split
      · rfl
      split
      · rfl
      dsimp only
      split
      · rfl
      split
      · exact len_wrS _ _ _
      · exact len_wrS _ _ _
    exact this
  have hf2 := g1.fit
  generalize w.2.2 = Z2 at hlen hf2 t6 ⊢
  obtain ⟨f1, f2, f3, f4, f5⟩ := flush_lies hf2 t6
  obtain ⟨c1, c2, c3⟩ := crash_lies (c := c) f5 f4
  refine E_nc ?_
  refine E_fad0 ?_
  refine E_ld ?_
  refine fd (a := shf A.a A.d A.m Z2) ?_
  refine E_shD fun r kvs hkv => ?_
  refine flush ?_
  rw [f1]
  refine E_neq ?_
  refine E_ifF (by decide) ?_
  refine E_dr ?_
  refine E_nc ?_
  refine E_fad0 ?_
  refine E_ld ?_
  refine E_ldNA ?_
  refine fd (a := disk A.d Z2.D.fl) ?_
  refine crash (c := c) (kv' := kv) ?_
  refine E_dkok fun hDok => ?_
  have hN := hDok.n2
  have hlen2 : (Z2.D.fl.crash c).S.length = Z1.D.S.length := by rw [len_crash, f3, hlen]
  generalize Z2.D.fl.crash c = D3 at c1 c2 c3 hN hlen2 ⊢
  refine E_nc ?_
  refine E_fad0 ?_
  refine E_ld ?_
  refine sectors ?_
  refine xnew (f := 0) (t := D3.S.length) (Nat.zero_le _) hN fun m2 => ?_
  refine E_ext ?_
  refine E_ext ?_
  refine E_nc ?_
  refine E_fad0 ?_
  refine E_ld ?_
  have e : 0 + (List.replicate D3.S.length false).length = D3.S.length := by rw [List.length_replicate]; omega
  have e2 : xmap m2 0 D3.S.length (newL 0 D3.S.length) = xmap m2 0 (0 + (List.replicate D3.S.length false).length) (newL 0 D3.S.length) := by rw [e]
  rw [e2]
  refine fd (a := disk A.d D3) ?_
  refine bnew fun a2 => ?_
  rw [show (⟨D3, 0, List.replicate D3.S.length false, newL 0 D3.S.length, []⟩ : Shf) = newS D3 from rfl]
  refine E_ext ?_
  refine E_ext ?_
  have hi3 := newS_inv hN
  obtain ⟨k1, k2, k3⟩ := claim_new (D := D3) (a := xa) (n := xn) (b := id) t2 t3 (by omega) hn1
  have hi4 := hi3.claimS id xa xn
  refine E_join1 (n := 4) [I id, ptr cc, ptr a2, .bool false] (shf a2 A.d m2 (claimS (newS D3) id xa xn).2 :: rpk cc id 64 L :: H) (fun q hq => ?_) ?_
  · refine E_neq ?_
    rw [decide_eq_false (by simp)]
    refine E_gft ?_
    refine E_gft ?_
    refine E_neq ?_
    rw [decide_eq_false (by simp)]
    refine E_pff ?_
    refine E_gft ?_
    refine E_gft ?_
    refine E_ldNA ?_
    refine E_gft ?_
    refine claim hi3 ?_
    rw [k1]
    refine E_gft ?_
    refine E_neq ?_
    rw [decide_eq_false (by simp)]
    refine E_pff ?_
    exact sm hq
  refine E_fa fun _ => ?_
  refine E_ff ?_
  refine lastsEnd (by rw [k2]; exact c1) hi4 hok ⟨⟨id, xa, xn⟩, ?_, t5, by rw [k2]; exact c3⟩ h
  rw [k3]
  unfold known
  rw [List.find?_cons_of_pos (by simp)]
end Go.Proofs.YtmbfmkiagdhcoaaGreat.Bn
end
