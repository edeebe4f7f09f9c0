/-
  A cell on a disk whose sectors are all sure: plain facts.
-/
import Derived.Test.YtmbfmkiagdhcoaaDoorSlotE
set_option linter.unusedSimpArgs false
set_option linter.unusedVariables false
set_option linter.unusedSectionVars false
namespace Go.Proofs.YtmbfmkiagdhcoaaDoor.Slot
open Go.Proofs.YtmbfmkiagdhcoaaDoor.Oct Go.Proofs.YtmbfmkiagdhcoaaDoor.Disk
/-- A disk whose sectors are all sure. -/
def cl (Bs : List (List UInt8)) (k l : Int) : Dk := ⟨Bs.map fun b => ⟨b, none⟩, k, false, l⟩
theorem new_cl (n : Nat) : Dk.new n = cl (List.replicate n zero128) 0 0 := by
  unfold Dk.new cl; simp
theorem tr_cl {Bs : List (List UInt8)} {k l n : Int} (h : 0 ≤ n) : (cl Bs k l).tr n = cl Bs n l ∧ (cl Bs k l).trE n = 0 := by
  unfold Dk.tr Dk.trE cl
  simp only [Bool.false_eq_true, if_false]
  rw [if_neg (by omega), if_neg (by omega)]
  exact ⟨rfl, rfl⟩
theorem off_cl {Bs : List (List UInt8)} {k l : Int} : offE (cl Bs k l) l = 0 := by unfold offE cl; simp
theorem pow_cl {Bs : List (List UInt8)} {k l : Int} {i : Nat} (h : i < Bs.length) : (cl Bs k l).pow i = 0 := by
  unfold Dk.pow Dk.out cl
  simp only [Bool.false_eq_true, if_false, List.length_map]
  rw [if_neg (by omega)]
theorem rd_cl {Bs : List (List UInt8)} {k l : Int} {i : Nat} {X : List UInt8} (h : Bs[i]? = some X) : (cl Bs k l).rd i = X := by
  have hi : i < Bs.length := (List.getElem?_eq_some_iff.1 h).1
  unfold Dk.rd
  rw [pow_cl hi, if_neg (by simp), Int.toNat_natCast]
  unfold cl
  simp only [List.getElem?_map, h, Option.map_some]
  rfl
theorem pad_id {z : List UInt8} (h : z.length = 128) : pad z = z := by unfold pad; simp [h]
/-- What a write of a whole sector leaves, where the power stays. -/
theorem wr_cl {Bs : List (List UInt8)} {k l : Int} {i : Nat} {z : List UInt8} (h : i < Bs.length) (hz : z.length = 128) (hk : k ≠ 1) : (cl Bs k l).wrE i z = 0 ∧ (cl Bs k l).wr i z = (cl Bs k l).tick.setS i fun s => { s with last := some z } := by
  have hp := pow_cl (k := k) (l := l) h
  have h128 : ¬ 128 < z.length := by omega
  have ht : (cl Bs k l).trip = k := rfl
  simp only [Dk.wrE, Dk.wr, hp, ne_eq, not_true_eq_false, if_false, if_neg h128, ht, if_neg hk, Int.toNat_natCast, pad_id hz, and_self]
theorem wr_cl1 {Bs : List (List UInt8)} {l : Int} {i : Nat} {z : List UInt8} (h : i < Bs.length) (hz : z.length = 128) : (cl Bs 1 l).wrE i z = 7 ∧ (cl Bs 1 l).wr i z = (cl Bs 1 l).gone := by
  have hp := pow_cl (k := 1) (l := l) h
  have h128 : ¬ 128 < z.length := by omega
  have ht : (cl Bs 1 l).trip = 1 := rfl
  simp only [Dk.wrE, Dk.wr, hp, ne_eq, not_true_eq_false, if_false, if_neg h128, ht, if_true, and_self]
theorem fl_wr {Bs : List (List UInt8)} {k l : Int} {i : Nat} {z : List UInt8} (hk : max (k - 1) 0 ≠ 1) :
    ((cl Bs k l).tick.setS i fun s => { s with last := some z }).flE = 0 ∧ ((cl Bs k l).tick.setS i fun s => { s with last := some z }).fl = cl (Bs.set i z) (max (max (k - 1) 0 - 1) 0) l := by
  unfold Dk.flE Dk.fl
  have e1 : ((cl Bs k l).tick.setS i fun s => { s with last := some z }).down = false := rfl
  have e2 : ((cl Bs k l).tick.setS i fun s => { s with last := some z }).trip = max (k - 1) 0 := rfl
  rw [e1, e2, if_neg (by simp), if_neg hk, if_neg (by simp), if_neg hk]
  refine ⟨rfl, ?_⟩
  unfold Dk.tick Dk.setS cl
  simp only [Dk.mk.injEq, and_self, and_true]
  apply List.ext_getElem?
  intro j
  simp only [List.getElem?_map, List.getElem?_modify, List.getElem?_set]
  by_cases hj : i = j
  · subst hj
    by_cases hi : i < Bs.length
    · rw [List.getElem?_eq_getElem hi]
      simp [hi, Sec.settle, Sec.now]
    · rw [List.getElem?_eq_none (by omega)]
      simp [hi]
  · cases Bs[j]? <;> simp [hj, Sec.settle, Sec.now]
theorem fl_wr2 {Bs : List (List UInt8)} {l : Int} {i : Nat} {z : List UInt8} :
    ((cl Bs 2 l).tick.setS i fun s => { s with last := some z }).flE = 7 ∧ ((cl Bs 2 l).tick.setS i fun s => { s with last := some z }).fl = ((cl Bs 2 l).tick.setS i fun s => { s with last := some z }).gone := by
  unfold Dk.flE Dk.fl
  exact ⟨rfl, rfl⟩
/-- What both sectors of a cell hold. -/
structure At (Bs : List (List UInt8)) (b : Nat) (X Y : List UInt8) : Prop where
  x : Bs[b]? = some X
  y : Bs[b + 1]? = some Y
variable {Bs : List (List UInt8)} {b : Nat} {X Y : List UInt8} {k l : Int}
theorem At.img0 (h : At Bs b X Y) : img (cl Bs k l) b = rdImg X := by unfold img; rw [rd_cl h.x]
theorem At.img1 (h : At Bs b X Y) : img (cl Bs k l) ((b : Int) + 1) = rdImg Y := by unfold img; rw [show ((b : Int) + 1) = ((b + 1 : Nat) : Int) by omega, rd_cl h.y]
theorem At.cur (h : At Bs b X Y) : cur (cl Bs k l) b = cnts (rdImg X) (rdImg Y) := by unfold Slot.cur; rw [h.img0, h.img1]
theorem At.curI (h : At Bs b X Y) : curI (cl Bs k l) b = if cnts (rdImg X) (rdImg Y) = 1 then rdImg Y else rdImg X := by unfold Slot.curI; rw [h.cur, h.img0, h.img1]
theorem At.blk (h : At Bs b X Y) : blk (cl Bs k l) b ↔ (∀ c ∈ X, c = 0) ∧ ∀ c ∈ Y, c = 0 := by
  unfold Slot.blk; rw [rd_cl h.x, show ((b : Int) + 1) = ((b + 1 : Nat) : Int) by omega, rd_cl h.y]
/-- A set that is not broken off. -/
theorem At.set (h : At Bs b X Y) {t : List UInt8} (ht : t.length ≤ 100) {m : Nat} {u : List UInt8} (hm : (if cnts (rdImg X) (rdImg Y) = 1 then rdImg Y else rdImg X) = (m, u)) (hmt : m < top) (hk : k = 0 ∨ 3 ≤ k) :
    setE (cl Bs k l) b l t = 0 ∧ setD (cl Bs k l) b l t = cl (Bs.set (b + if cnts (rdImg X) (rdImg Y) = 0 then 1 else 0) (laidL (m + 1) t)) (max (max (k - 1) 0 - 1) 0) l := by
  have hc : ¬ (100 < t.length ∨ (Slot.curI (cl Bs k l) b).1 = top) := by
    rw [h.curI, hm]; simp only; omega
  have hl : setL (cl Bs k l) b t = laidL (m + 1) t := by unfold setL; rw [h.curI, hm]
  have ho : oth (cl Bs k l) b = ((b + if cnts (rdImg X) (rdImg Y) = 0 then 1 else 0 : Nat) : Int) := by
    unfold oth; rw [h.cur]; split <;> simp
  have hb1 : b + 1 < Bs.length := (List.getElem?_eq_some_iff.1 h.y).1
  have hi : (b + if cnts (rdImg X) (rdImg Y) = 0 then 1 else 0) < Bs.length := by split <;> omega
  have hw := wr_cl (k := k) (l := l) hi (laidL_length (m := m + 1) ht) (by omega)
  have hf := fl_wr (Bs := Bs) (k := k) (l := l) (i := b + if cnts (rdImg X) (rdImg Y) = 0 then 1 else 0) (z := laidL (m + 1) t) (by omega)
  simp only [setE, setD, off_cl, ne_eq, not_true_eq_false, if_false, if_neg hc]
  rw [hl, ho, hw.1, hw.2, hf.1, hf.2]
  simp only [not_true_eq_false, if_false, and_self]
theorem At.long (_h : At Bs b X Y) {t : List UInt8} (ht : 100 < t.length) : setE (cl Bs k l) b l t = 6 ∧ setD (cl Bs k l) b l t = cl Bs k l := by
  simp only [setE, setD, off_cl, ne_eq, not_true_eq_false, if_false, ht, true_or, if_true, and_self]
theorem At.getE (h : At Bs b X Y) : getE (cl Bs k l) b l = if cnts (rdImg X) (rdImg Y) < 0 then (if (∀ c ∈ X, c = 0) ∧ ∀ c ∈ Y, c = 0 then 9 else 13) else 0 := by
  unfold Slot.getE; rw [off_cl, if_neg (by simp), h.cur]; simp only [h.blk]
theorem At.getB (h : At Bs b X Y) : getB (cl Bs k l) b l = if cnts (rdImg X) (rdImg Y) < 0 then [] else (if cnts (rdImg X) (rdImg Y) = 1 then rdImg Y else rdImg X).2 := by
  unfold Slot.getB; rw [off_cl, if_neg (by simp), h.cur, h.curI]
theorem At.mark (h : At Bs b X Y) : markE (cl Bs k l) b l = ((if cnts (rdImg X) (rdImg Y) = 1 then rdImg Y else rdImg X).1 : Nat) := by
  unfold markE; rw [off_cl, if_neg (by simp), h.curI]
theorem rd_zero : rdImg zero128 = (0, []) := by decide +kernel
theorem cnts_none : cnts (0, []) (0, []) = -1 := rfl
theorem cnts_first {m : Nat} {t : List UInt8} {y : Img} (h1 : 1 ≤ m) (hy : y.1 ≤ m) : cnts (m, t) y = 0 := by
  unfold cnts
  rw [if_neg (by rintro ⟨h, _⟩; cases h; omega), if_neg (by simp only; omega)]
theorem cnts_last {m : Nat} {t : List UInt8} {x : Img} (hx : x.1 < m) : cnts x (m, t) = 1 := by
  unfold cnts
  rw [if_neg (by rintro ⟨_, h⟩; cases h; omega), if_pos (by simp only; omega)]
end Go.Proofs.YtmbfmkiagdhcoaaDoor.Slot
