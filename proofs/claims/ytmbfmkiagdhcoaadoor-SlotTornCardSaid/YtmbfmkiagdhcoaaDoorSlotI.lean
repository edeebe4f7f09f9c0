/-
  What a cell tells behind a set that was broken off, and a crash: plain facts.
-/
import Derived.Test.YtmbfmkiagdhcoaaDoorSlotH
set_option linter.unusedSimpArgs false
set_option linter.unusedVariables false
set_option linter.unusedSectionVars false
namespace Go.Proofs.YtmbfmkiagdhcoaaDoor.Slot
open Go.Proofs.YtmbfmkiagdhcoaaDoor.Oct Go.Proofs.YtmbfmkiagdhcoaaDoor.Disk
def oldB (D : Dk) (was : List UInt8) (had : Bool) : Bool := (had && decide (getE D 1 1 = 0) && decide (getB D 1 1 = was)) || (!had && decide (getE D 1 1 = 9))
def nowB (D : Dk) (last : List UInt8) : Bool := decide (getE D 1 1 = 0) && decide (getB D 1 1 = last)
def tellsR (D : Dk) (g : Int) (last was : List UInt8) (had : Bool) : Bool :=
  if g = 0 then nowB D last else if g = 7 then oldB D was had || nowB D last || (!had && decide (getE D 1 1 = 13)) else oldB D was had
structure St where
  D : Dk
  was : List UInt8
  had : Bool
def stp (s : St) (t : List UInt8) : St := ⟨setD s.D 1 0 t, if setE s.D 1 0 t = 0 then t else s.was, if setE s.D 1 0 t = 0 then true else s.had⟩
def st0 : St := ⟨Dk.new 3, [], false⟩
def sts (l : List (List UInt8)) : St := l.foldl stp st0
theorem sts_snoc {l : List (List UInt8)} {i : Nat} {t : List UInt8} (h : l[i]? = some t) : sts (l.take (i + 1)) = stp (sts (l.take i)) t := by
  rw [List.take_add_one, h]; simp [sts]
def Reach (n : Nat) (s : St) : Prop := ∃ (m : Nat) (u X Y : List UInt8), m ≤ n ∧ s.D = cl [zero128, X, Y] 0 0 ∧ Inv m u X Y ∧ s.was = u ∧ s.had = decide (1 ≤ m)
theorem reach0 : Reach 0 st0 := ⟨0, [], zero128, zero128, Nat.le_refl _, new_cl 3, .inl ⟨rfl, rfl, rfl, rfl⟩, rfl, rfl⟩
theorem set_ok {m : Nat} {u X Y t : List UInt8} {k : Int} (h : Inv m u X Y) (hm : m < 200) (ht : t.length ≤ 100) (hk : k = 0 ∨ 3 ≤ k) :
    setE (cl [zero128, X, Y] k 0) 1 0 t = 0 ∧ setD (cl [zero128, X, Y] k 0) 1 0 t = cl (nxt m X Y (laidL (m + 1) t)) (max (max (k - 1) 0 - 1) 0) 0 := by
  have hs := (at3 X Y).set (k := k) (l := 0) ht (h.cnts (by omega)).2 (by unfold top; omega) hk
  rw [set_nxt h (by omega)] at hs
  exact hs
theorem reach_next {n : Nat} {s : St} (h : Reach n s) (hn : n < 200) (t : List UInt8) : Reach (n + 1) (stp s t) := by
  obtain ⟨m, u, X, Y, hm, hD, hi, hw, hh⟩ := h
  by_cases ht : t.length ≤ 100
  · have hs := set_ok hi (by omega) ht (k := 0) (.inl rfl)
    obtain ⟨X', Y', e, hi'⟩ := hi.next ht
    refine ⟨m + 1, t, X', Y', by omega, ?_, hi', ?_, ?_⟩
    · show setD s.D 1 0 t = _
      rw [hD, hs.2, e]; rfl
    · show (if setE s.D 1 0 t = 0 then t else s.was) = t
      rw [hD, hs.1, if_pos rfl]
    · show (if setE s.D 1 0 t = 0 then true else s.had) = _
      rw [hD, hs.1, if_pos rfl]; simp
  · have hs := (at3 X Y).long (k := 0) (l := 0) (t := t) (by omega)
    refine ⟨m, u, X, Y, by omega, ?_, hi, ?_, ?_⟩
    · show setD s.D 1 0 t = _
      rw [hD]; exact hs.2
    · show (if setE s.D 1 0 t = 0 then t else s.was) = u
      rw [hD, show setE (cl [zero128, X, Y] 0 0) 1 0 t = 6 from hs.1, if_neg (by decide)]; exact hw
    · show (if setE s.D 1 0 t = 0 then true else s.had) = _
      rw [hD, show setE (cl [zero128, X, Y] 0 0) 1 0 t = 6 from hs.1, if_neg (by decide)]; exact hh
theorem reach_sts {l : List (List UInt8)} : ∀ i, i ≤ l.length → i ≤ 30 → Reach i (sts (l.take i))
  | 0, _, _ => reach0
  | i + 1, h1, h2 => by
    rw [sts_snoc (List.getElem?_eq_getElem (by omega : i < l.length))]
    exact reach_next (reach_sts i (by omega) (by omega)) (by omega) _
/-! ### what it tells -/
theorem old_ok {m : Nat} {u X Y : List UInt8} (h : Inv m u X Y) (hm : m < 250) : oldB (cl [zero128, X, Y] 0 1) u (decide (1 ≤ m)) = true := by
  have hc := h.cnts (by omega)
  have hE := (at3 X Y).getE (k := 0) (l := 1)
  have hB := (at3 X Y).getB (k := 0) (l := 1)
  unfold oldB
  rw [show getE (cl [zero128, X, Y] 0 1) 1 1 = _ from hE, show getB (cl [zero128, X, Y] 0 1) 1 1 = _ from hB, hc.2, hc.1]
  rcases h with ⟨rfl, rfl, rfl, rfl⟩ | ⟨h1, _⟩
  · rw [if_pos rfl, if_pos (by decide), if_pos ⟨zero_all, zero_all⟩]; rfl
  · have h2 : ¬ ((if m = 0 then (-1 : Int) else if m % 2 = 1 then 0 else 1) < 0) := by
      rw [if_neg (by omega)]; split <;> decide
    rw [if_neg h2, if_neg h2, decide_eq_true h1]
    simp
theorem now_ok {m : Nat} {u X Y : List UInt8} (h : Inv (m + 1) u X Y) (hm : m < 200) : nowB (cl [zero128, X, Y] 0 1) u = true := by
  have := old_ok h (by omega)
  unfold oldB at this
  unfold nowB
  simpa using this
theorem ah_inv {m : Nat} {u X Y : List UInt8} (h : Inv m u X Y) (hm : m < 200) (hc : cnts (rdImg X) (rdImg Y) < 0) : Ah X ∧ Ah Y := by
  rw [(h.cnts (by omega)).1] at hc
  rcases h with ⟨rfl, rfl, rfl, rfl⟩ | ⟨h1, _⟩
  · exact ⟨ah_zero zero_all, ah_zero zero_all⟩
  · rw [if_neg (by omega)] at hc
    split at hc <;> omega
/-- What a sector that was written, but not flushed, becomes. -/
def kept (c : Cr) (O A : List UInt8) : List UInt8 := c.one 0 ⟨O, some A⟩ A
theorem kept_cases (c : Cr) (O A : List UInt8) : kept c O A = O ∨ kept c O A = A ∨ ∃ j, j ≤ 128 ∧ kept c O A = tear A O j := by
  unfold kept Cr.one
  split
  · rename_i h
    exact .inr (.inr ⟨c.at_.toNat, by omega, rfl⟩)
  · split
    · exact .inr (.inl rfl)
    · exact .inl rfl
theorem crash_cl (Bs : List (List UInt8)) (k : Int) (c : Cr) : (cl Bs k 0).crash c = cl Bs 0 1 ∧ (cl Bs k 0).gone.crash c = cl Bs 0 1 := by
  have hd : ∀ s ∈ Bs.map (fun b => (⟨b, none⟩ : Sec)), s.last = none := fun s hs => by
    obtain ⟨b, _, rfl⟩ := List.mem_map.1 hs; rfl
  have hg : ∀ (S : List Sec) (n : Nat), (∀ s ∈ S, s.last = none) → crashG c.sec S n = S := by
    intro S
    induction S with
    | nil => intro n _; rfl
    | cons s S ih =>
      intro n h
      have h1 := h s (List.mem_cons_self ..)
      unfold crashG
      rw [h1]
      simp only [Option.isSome_none, Bool.false_eq_true, if_false]
      rw [ih n fun x hx => h x (List.mem_cons_of_mem _ hx)]
  unfold Dk.crash Dk.gone cl
  simp only
  rw [hg _ 0 hd]
  exact ⟨rfl, rfl⟩
theorem crash_wr {m : Nat} {X Y A : List UInt8} {c : Cr} : ((cl [zero128, X, Y] 2 0).tick.setS (1 + if m % 2 = 1 then 1 else 0) fun s => { s with last := some A }).gone.crash c = cl (nxt m X Y (kept c (if m % 2 = 1 then Y else X) A)) 0 1 := by
  unfold nxt
  by_cases h : m % 2 = 1
  · simp only [if_pos h]; rfl
  · simp only [if_neg h]; rfl
/-- A set, as far as the write. -/
theorem set_wr {m : Nat} {u X Y t : List UInt8} {k : Int} (h : Inv m u X Y) (hm : m < 200) (ht : t.length ≤ 100) :
    setE (cl [zero128, X, Y] k 0) 1 0 t = (if (cl [zero128, X, Y] k 0).wrE ((1 + if m % 2 = 1 then 1 else 0 : Nat) : Int) (laidL (m + 1) t) ≠ 0 then (cl [zero128, X, Y] k 0).wrE ((1 + if m % 2 = 1 then 1 else 0 : Nat) : Int) (laidL (m + 1) t) else ((cl [zero128, X, Y] k 0).wr ((1 + if m % 2 = 1 then 1 else 0 : Nat) : Int) (laidL (m + 1) t)).flE) ∧
    setD (cl [zero128, X, Y] k 0) 1 0 t = (if (cl [zero128, X, Y] k 0).wrE ((1 + if m % 2 = 1 then 1 else 0 : Nat) : Int) (laidL (m + 1) t) ≠ 0 then (cl [zero128, X, Y] k 0).wr ((1 + if m % 2 = 1 then 1 else 0 : Nat) : Int) (laidL (m + 1) t) else ((cl [zero128, X, Y] k 0).wr ((1 + if m % 2 = 1 then 1 else 0 : Nat) : Int) (laidL (m + 1) t)).fl) := by
  have hA := at3 X Y
  have h2 := h.cnts (by omega)
  have hcI : Slot.curI (cl [zero128, X, Y] k 0) 1 = (m, u) := hA.curI.trans h2.2
  have hcu : Slot.cur (cl [zero128, X, Y] k 0) 1 = (if m = 0 then -1 else if m % 2 = 1 then 0 else 1) := hA.cur.trans h2.1
  have hc : ¬ (100 < t.length ∨ (Slot.curI (cl [zero128, X, Y] k 0) 1).1 = top) := by
    rw [hcI]; unfold top; simp only; omega
  have hl : setL (cl [zero128, X, Y] k 0) 1 t = laidL (m + 1) t := by unfold setL; rw [hcI]
  have ho : oth (cl [zero128, X, Y] k 0) 1 = ((1 + if m % 2 = 1 then 1 else 0 : Nat) : Int) := by
    unfold oth; rw [hcu]
    by_cases h0 : m = 0
    · subst h0; rfl
    · rw [if_neg h0]
      by_cases h1 : m % 2 = 1
      · simp [h1]
      · simp [h1]
  simp only [setE, setD, off_cl, ne_eq, not_true_eq_false, if_false, if_neg hc]
  rw [hl, ho]
  exact ⟨rfl, rfl⟩
theorem final {n : Nat} {s : St} (hR : Reach n s) (hn : n ≤ 30) (k : Nat) (hk : k < 4) (t : List UInt8) (c : Cr) :
    (setE (s.D.tr k) 1 0 t = 0 ∨ setE (s.D.tr k) 1 0 t = 7 ∨ 100 < t.length) ∧ s.D.trE k = 0 ∧
    ∃ X2 Y2, (setD (s.D.tr k) 1 0 t).crash c = cl [zero128, X2, Y2] 0 1 ∧ (cnts (rdImg X2) (rdImg Y2) < 0 → Ah X2 ∧ Ah Y2) ∧
      tellsR (cl [zero128, X2, Y2] 0 1) (setE (s.D.tr k) 1 0 t) t s.was s.had = true := by
  obtain ⟨m, u, X, Y, hm, hD, hi, hw, hh⟩ := hR
  have htr := tr_cl (Bs := [zero128, X, Y]) (k := 0) (l := 0) (n := (k : Int)) (by omega)
  rw [hD, htr.1, htr.2, hw, hh]
  have hold := old_ok hi (by omega)
  by_cases ht : t.length ≤ 100
  · obtain ⟨X', Y', e, hi'⟩ := hi.next ht
    have hidx : (1 + if m % 2 = 1 then 1 else 0) < [zero128, X, Y].length := by
      show (1 + if m % 2 = 1 then 1 else 0) < 3
      split <;> omega
    have hz := laidL_length (m := m + 1) ht
    by_cases h03 : k = 0 ∨ k = 3
    · have hs := set_ok hi (by omega) ht (k := (k : Int)) (by omega)
      rw [hs.1, hs.2, (crash_cl _ _ c).1, e]
      refine ⟨.inl rfl, rfl, X', Y', rfl, fun hc => ah_inv hi' (by omega) hc, ?_⟩
      unfold tellsR
      rw [if_pos rfl]
      exact now_ok hi' (by omega)
    by_cases h1 : k = 1
    · subst h1
      have hs := set_wr (k := ((1 : Nat) : Int)) hi (by omega) ht
      have hwr := wr_cl1 (Bs := [zero128, X, Y]) (l := 0) hidx hz
      rw [show (((1 : Nat) : Int)) = 1 from rfl] at hs ⊢
      rw [hwr.1, hwr.2, if_pos (by decide), if_pos (by decide)] at hs
      rw [hs.1, hs.2, (crash_cl _ _ c).2]
      refine ⟨.inr (.inl rfl), rfl, X, Y, rfl, fun hc => ah_inv hi (by omega) hc, ?_⟩
      unfold tellsR
      rw [if_neg (by decide), if_pos rfl, hold]; rfl
    · have h2 : k = 2 := by omega
      subst h2
      have hs := set_wr (k := ((2 : Nat) : Int)) hi (by omega) ht
      have hwr := wr_cl (Bs := [zero128, X, Y]) (l := 0) (k := 2) hidx hz (by decide)
      rw [show (((2 : Nat) : Int)) = 2 from rfl] at hs ⊢
      have hf := fl_wr2 (Bs := [zero128, X, Y]) (l := 0) (i := 1 + if m % 2 = 1 then 1 else 0) (z := laidL (m + 1) t)
      rw [hwr.1, hwr.2, if_neg (show ¬ ((0 : Int) ≠ 0) by decide), if_neg (show ¬ ((0 : Int) ≠ 0) by decide), hf.1, hf.2] at hs
      rw [hs.1, hs.2, crash_wr]
      refine ⟨.inr (.inl rfl), rfl, ?_⟩
      have hT : ∀ D, tellsR D 7 t u (decide (1 ≤ m)) = (oldB D u (decide (1 ≤ m)) || nowB D t || (!(decide (1 ≤ m)) && decide (getE D 1 1 = 13))) := fun D => by
        unfold tellsR; rw [if_neg (by decide), if_pos rfl]
      simp only [hT]
      have hsame : nxt m X Y (if m % 2 = 1 then Y else X) = [zero128, X, Y] := by
        unfold nxt; split <;> rfl
      rcases kept_cases c (if m % 2 = 1 then Y else X) (laidL (m + 1) t) with hkp | hkp | ⟨j, hj, hkp⟩
      · rw [hkp, hsame]
        exact ⟨X, Y, rfl, fun hc => ah_inv hi (by omega) hc, by rw [hold]; rfl⟩
      · rw [hkp, e]
        exact ⟨X', Y', rfl, fun hc => ah_inv hi' (by omega) hc, by rw [now_ok hi' (by omega)]; simp⟩
      · rw [hkp]
        have hA := mk_laid (m := m + 1) (t := t) (by omega) ht
        have hO : Mk (m - 1) (if m % 2 = 1 then Y else X) := by
          rcases hi with ⟨rfl, rfl, rfl, rfl⟩ | ⟨g1, gu, ⟨g2, rfl, ho⟩ | ⟨g2, rfl, ho⟩⟩
          · exact mk_zero
          · rw [if_pos g2]; exact ho.mk (by omega)
          · rw [if_neg (by omega)]; exact ho.mk (by omega)
        rcases tear_cases hA hO (by omega) (by omega) (by omega) hj with hte | hte | hte
        · rw [hte, hsame]
          exact ⟨X, Y, rfl, fun hc => ah_inv hi (by omega) hc, by rw [hold]; rfl⟩
        · rw [hte, e]
          exact ⟨X', Y', rfl, fun hc => ah_inv hi' (by omega) hc, by rw [now_ok hi' (by omega)]; simp⟩
        · rcases hi with ⟨rfl, rfl, rfl, rfl⟩ | ⟨g1, gu, ⟨g2, rfl, ho⟩ | ⟨g2, rfl, ho⟩⟩
          · have e0 : (if 0 % 2 = 1 then zero128 else zero128) = zero128 := rfl
            rw [e0] at hte ⊢
            refine ⟨tear (laidL (0 + 1) t) zero128 j, zero128, rfl, fun _ => ⟨tear_ah ht hj, ah_zero zero_all⟩, ?_⟩
            have hE := (at3 (tear (laidL (0 + 1) t) zero128 j) zero128).getE (k := 0) (l := 1)
            rw [hte, rd_zero, if_pos (by decide)] at hE
            unfold oldB
            rw [show getE (cl [zero128, tear (laidL (0 + 1) t) zero128 j, zero128] 0 1) 1 1 = _ from hE]
            split <;> simp
          · rw [if_pos g2] at hte ⊢
            have hr := rd_laid g1 (by unfold top; omega : m ≤ top) gu
            have hcn : cnts (rdImg (laidL m u)) (rdImg (tear (laidL (m + 1) t) Y j)) = 0 := by rw [hr, hte]; exact cnts_first g1 (Nat.zero_le _)
            unfold nxt
            rw [if_pos g2]
            refine ⟨laidL m u, tear (laidL (m + 1) t) Y j, rfl, fun hc => by rw [hcn] at hc; exact absurd hc (by decide), ?_⟩
            have hE := (at3 (laidL m u) (tear (laidL (m + 1) t) Y j)).getE (k := 0) (l := 1)
            have hB := (at3 (laidL m u) (tear (laidL (m + 1) t) Y j)).getB (k := 0) (l := 1)
            rw [hcn, if_neg (by decide)] at hE hB
            rw [if_neg (by decide), hr] at hB
            unfold oldB
            rw [show getE (cl [zero128, laidL m u, tear (laidL (m + 1) t) Y j] 0 1) 1 1 = _ from hE, show getB (cl [zero128, laidL m u, tear (laidL (m + 1) t) Y j] 0 1) 1 1 = _ from hB, decide_eq_true g1]
            simp
          · rw [if_neg (by omega)] at hte ⊢
            have hr := rd_laid g1 (by unfold top; omega : m ≤ top) gu
            have hcn : cnts (rdImg (tear (laidL (m + 1) t) X j)) (rdImg (laidL m u)) = 1 := by rw [hr, hte]; exact cnts_last g1
            unfold nxt
            rw [if_neg (by omega)]
            refine ⟨tear (laidL (m + 1) t) X j, laidL m u, rfl, fun hc => by rw [hcn] at hc; exact absurd hc (by decide), ?_⟩
            have hE := (at3 (tear (laidL (m + 1) t) X j) (laidL m u)).getE (k := 0) (l := 1)
            have hB := (at3 (tear (laidL (m + 1) t) X j) (laidL m u)).getB (k := 0) (l := 1)
            rw [hcn, if_neg (by decide)] at hE hB
            rw [if_pos rfl, hr] at hB
            unfold oldB
            rw [show getE (cl [zero128, tear (laidL (m + 1) t) X j, laidL m u] 0 1) 1 1 = _ from hE, show getB (cl [zero128, tear (laidL (m + 1) t) X j, laidL m u] 0 1) 1 1 = _ from hB, decide_eq_true g1]
            simp
  · have hs := (at3 X Y).long (k := (k : Int)) (l := 0) (t := t) (by omega)
    rw [show setE (cl [zero128, X, Y] k 0) 1 0 t = 6 from hs.1, show setD (cl [zero128, X, Y] k 0) 1 0 t = _ from hs.2, (crash_cl _ _ c).1]
    refine ⟨.inr (.inr (by omega)), rfl, X, Y, rfl, fun hc => ah_inv hi (by omega) hc, ?_⟩
    unfold tellsR
    rw [if_neg (by decide), if_neg (by decide)]
    exact hold
end Go.Proofs.YtmbfmkiagdhcoaaDoor.Slot
