/-
  Names: stays, Expire.
-/
import Derived.Test.YtjafpncngmbcdaaGreatNmN
set_option linter.unusedSimpArgs false
set_option linter.unusedVariables false
set_option linter.unusedSectionVars false
namespace Go.Proofs.YtjafpncngmbcdaaGreat.Nam
open Go Go.SL Go.Proofs Go.Proofs.YtjafpncngmbcdaaGreat.Sh
variable {B : World} {H : List Asrt} {K : Value → WT} {W : WT} {a : Nat} {M : Bk} {f : Fa}
theorem rs_take1 {α : Type} {enc : α → List Value} {v : Value} {l : List α} {i : Nat} (h : Rs B H v enc ((l.drop i).take (l.length - i))) : Rs B H v enc (l.drop i) := by
  rwa [List.take_of_length_le (by rw [List.length_drop]; omega)] at h
attribute [local irreducible] S.pick S.ld S.ldN S.st S.box S.nc S.fad S.ixS S.ixA S.chr S.prt S.ext S.bin S.sh S.sbin S.beq S.neg1 S.com1 S.not1 S.cvt S.str1 S.lenS S.len S.cap S.lenM S.mx S.mn S.mkM S.cond S.gd S.fa S.dr S.rck S.join S.loop S.cvv S.eqv S.slc S.slcS S.b2s S.lk V U CF Gives E cel mpb osl ros dct dit itr lpo dfo
set_option maxRecDepth 8000
attribute [local irreducible] bk
theorem later {v : Value} {l : List VR} {b7 bm : Nat} {m : Int} [hv : Rs B H v vC l] (hn : l.length ≤ 1000) (ht : ∀ p ∈ l, 0 ≤ p.1.time ∧ p.1.time ≤ 9007199254740991) (hs : 1 ≤ f.step) (h : E B (cel true b7 43 (keepL f) :: cel true bm 3 [I m] :: H) (K (.bool (l.any fun p => decide (spn f p.1 = m))))) :
    E B (cel true b7 43 (keepL f) :: cel true bm 3 [I m] :: H) (CF Tryz.prog 95 [v, .func (.func 96) #[] #[ptr b7, ptr bm]] K) := by
  refine E_mono (W := s95 _ _ K) ?_ fun _ => c95
  unfold s95
  refine E_mono (W := s91 _ _ _) ?_ fun _ => c91
  rw [s91_eq]
  refine idxC_ok (C := [cel true b7 43 (keepL f), cel true bm 3 [I m]]) (hv := show Rs B (cel true b7 43 (keepL f) :: cel true bm 3 [I m] :: H) v vC l from inferInstance) (enc := vC) (p := fun p : VR => decide (spn f p.1 = m)) (by omega) (fun p hp H' K' hK => ?_) ?_
  · refine E_cvv (by kernel_rfl) ?_
    show E B (cel true b7 43 (keepL f) :: cel true bm 3 [I m] :: H') (CF Tryz.prog 96 [.agg (vC p).toArray, ptr b7, ptr bm] K')
    have hK2 : E B (cel true b7 43 (keepL f) :: cel true bm 3 [I m] :: H') (K' (.bool (decide (spn f p.1 = m)))) := hK
    have hpt := ht p hp
    refine E_mono (W := s96 _ _ _ K') ?_ fun _ => c96
    unfold s96
    (repeat first | refine gS ?_ | refine gA fun _ => ?_ | refine gX fun _ _ => ?_ | refine gT ?_ | refine gF ?_ | refine gI ?_)
    refine span hpt.1 hs (by omega) ?_
    (repeat (refine E_rck1 (by first | exact E_ld (E_fact rfl) | exact E_ld' (by assumption) (E_fact rfl) | exact E_b2sR (E_fact rfl) | exact E_gdnF (by assumption) (E_ld (E_fact rfl)) | exact E_gdT (by assumption) (E_ld (E_fact rfl)) | exact E_gtf (E_ld (E_fact rfl)) | exact E_gft (E_ld (E_fact rfl)) | exact E_ldNA (E_fact rfl) | exact E_ptld (E_fact rfl) | exact E_gtf (E_ldNA (E_fact rfl))) ?_)); (first | (refine E_rck0 ?_) | skip)
    (repeat first | refine gS ?_ | refine gA fun _ => ?_ | refine gX fun _ _ => ?_ | refine gT ?_ | refine gF ?_ | refine gI ?_)
    exact sm hK2
  · show E B (cel true b7 43 (keepL f) :: cel true bm 3 [I m] :: H) _
    refine E_geq ?_
    rw [idx_any]
    exact h
theorem stays {v : Value} {l : List VR} {i : Nat} {x : VR} [hv : ∀ H', Rs B (H' ++ H) v vC l] (hk : KOk f (l.map (·.1))) (hnow : 0 ≤ M.now ∧ M.now ≤ 9007199254740991) (hx : l[i]? = some x) (h : E B (bk a M :: H) (K (.bool (staysB M.now f (l.map (·.1)) i)))) :
    E B (bk a M :: H) (CF Tryz.prog 53 [ptr a, v, I i, .agg (keepL f).toArray] K) := by
  have hkk := hk.k
  have hkb := hk.b
  have hn : l.length ≤ 1000 := by simpa using hk.n
  have hi : i < l.length := (List.getElem?_eq_some_iff.1 hx).1
  have htl : ∀ p ∈ l, 0 ≤ p.1.time ∧ p.1.time ≤ 9007199254740991 := fun p hp => hk.t p.1 (List.mem_map_of_mem hp)
  have hxt := htl x (List.mem_of_getElem? hx)
  have hv1 : ∀ G, Rs B (G :: H) v vC l := fun G => hv [G]
  have hv2 : ∀ G G', Rs B (G :: G' :: H) v vC l := fun G G' => hv [G, G']
  have hv3 : ∀ G G' G'', Rs B (G :: G' :: G'' :: H) v vC l := fun G G' G'' => hv [G, G', G'']
  have hv0 : Rs B H v vC l := hv []
  have hst : staysB M.now f (l.map (·.1)) i = (decide ((l.length : Int) - i ≤ f.last) || decide (M.now - f.young < x.1.time) || (!((l.drop (i + 1)).any fun p => decide (spn f p.1 = spn f x.1)) && decide (spn f x.1 ∈ spansL f (l.map (·.1))))) := by
    have e1 : (l.map (·.1))[i]? = some x.1 := by rw [List.getElem?_map, hx]; rfl
    unfold staysB
    rw [e1]
    simp only
    have e2 : ((l.map (·.1)).drop (i + 1)).any (fun w => decide (w.time / f.step = x.1.time / f.step)) = (l.drop (i + 1)).any fun p => decide (spn f p.1 = spn f x.1) := by
      rw [← List.map_drop, List.any_map]; rfl
    have e3 : decide (spn f x.1 ∈ spansL f (l.map (·.1))) = decide (((((l.map (·.1)).filterMap fun w => if x.1.time / f.step < w.time / f.step then some (w.time / f.step) else none).foldl addN []).length : Int) < f.count) := by
      rw [decide_eq_decide]
      exact spans_mem hkk.2.2.2 (List.mem_map_of_mem (List.mem_of_getElem? e1))
    rw [e2, e3, List.length_map]
  rw [hst] at h
  refine E_mono (W := s53 _ _ _ _ K) ?_ fun _ => c53
  unfold s53
  refine E_box (vs := keepL f) fun b7 => ?_
  (repeat first | refine gS ?_ | refine gA fun _ => ?_ | refine gX fun _ _ => ?_ | refine gT ?_ | refine gF ?_ | refine gI ?_)
  refine E_both ?_ ?_
  · refine span hxt.1 hkk.2.2.1 (by omega) ?_
    refine E_box fun bm => ?_
    (repeat first | refine gS ?_ | refine gA fun _ => ?_ | refine gX fun _ _ => ?_ | refine gT ?_ | refine gF ?_ | refine gI ?_)
    rw [show x.1.time / f.step = spn f x.1 from rfl]
    refine sm (G := cel true bm 3 [I (spn f x.1)] :: bk a M :: cel true b7 43 (keepL f) :: H) ?_
    refine E_slcS2 (v := v) (l := l) (hf := hv3 _ _ _) (i := i + 1) (j := l.length) rfl (bound_suc _ _) (by omega) (by omega) fun v2 hv2' _ => ?_
    have r2 : Rs B (bk a M :: H) v2 vC (l.drop (i + 1)) := rs_take1 (hv2' (bk a M :: H))
    refine sm (G := cel true b7 43 (keepL f) :: cel true bm 3 [I (spn f x.1)] :: bk a M :: H) ?_
    refine later (l := l.drop (i + 1)) (by rw [List.length_drop]; omega) (fun p hp => htl p (List.mem_of_mem_drop hp)) hkk.2.2.1 ?_
    refine gY ?_
    (repeat first | refine gS ?_ | refine gA fun _ => ?_ | refine gX fun _ _ => ?_ | refine gT ?_ | refine gF ?_ | refine gI ?_)
    have e1 : decide ((l.length : Int) - 1 - i < f.last) = decide ((l.length : Int) - i ≤ f.last) := by rw [decide_eq_decide]; omega
    rw [← e1] at h
    by_cases g1 : (l.length : Int) - 1 - i < f.last
    · rw [decide_eq_true g1, Bool.true_or, Bool.true_or] at h
      (repeat first | refine gS ?_ | refine gA fun _ => ?_ | refine gX fun _ _ => ?_ | refine gT ?_ | refine gF ?_ | refine gI ?_)
      refine E_rck1 (E_gdu (E_fact rfl)) ?_
      (repeat first | refine gS ?_ | refine gA fun _ => ?_ | refine gX fun _ _ => ?_ | refine gT ?_ | refine gF ?_ | refine gI ?_)
      exact sm h
    · rw [decide_eq_false g1, Bool.false_or] at h
      (repeat first | refine gS ?_ | refine gA fun _ => ?_ | refine gX fun _ _ => ?_ | refine gT ?_ | refine gF ?_ | refine gI ?_)
      refine fd (a := bk a M) (E_bk fun r1 r2 kf ks Lv Lr Lh hf hs => ?_)
      have hend := E_bkS r1 r2 hf hs (n := M.now) rfl h
      (repeat first | refine gS ?_ | refine gA fun _ => ?_ | refine gX fun _ _ => ?_ | refine gT ?_ | refine gF ?_ | refine gI ?_)
      by_cases g2 : M.now - f.young < x.1.time
      · rw [decide_eq_true g2, Bool.true_or] at hend
        (repeat first | refine gS ?_ | refine gA fun _ => ?_ | refine gX fun _ _ => ?_ | refine gT ?_ | refine gF ?_ | refine gI ?_)
        refine E_rck1 (E_gdu (E_fact rfl)) ?_
        (repeat first | refine gS ?_ | refine gA fun _ => ?_ | refine gX fun _ _ => ?_ | refine gT ?_ | refine gF ?_ | refine gI ?_)
        exact sm hend
      · rw [decide_eq_false g2, Bool.false_or] at hend
        (repeat first | refine gS ?_ | refine gA fun _ => ?_ | refine gX fun _ _ => ?_ | refine gT ?_ | refine gF ?_ | refine gI ?_)
        cases g3 : (l.drop (i + 1)).any fun p => decide (spn f p.1 = spn f x.1) with
        | true =>
          rw [g3, Bool.not_true, Bool.false_and] at hend
          rw [Bool.not_true]
          (repeat first | refine gS ?_ | refine gA fun _ => ?_ | refine gX fun _ _ => ?_ | refine gT ?_ | refine gF ?_ | refine gI ?_)
          refine E_rck1 (E_gff (E_fact rfl)) ?_
          (repeat first | refine gS ?_ | refine gA fun _ => ?_ | refine gX fun _ _ => ?_ | refine gT ?_ | refine gF ?_ | refine gI ?_)
          exact sm hend
        | false =>
          rw [g3, Bool.not_false, Bool.true_and] at hend
          rw [Bool.not_false]
          have rv : ∀ G G1 G2 G3 G4 G5 G6 G7, Rs B (G :: G1 :: G2 :: G3 :: G4 :: G5 :: G6 :: G7 :: H) v vC l := fun G G1 G2 G3 G4 G5 G6 G7 => hv [G, G1, G2, G3, G4, G5, G6, G7]
          (repeat first | refine gS ?_ | refine gA fun _ => ?_ | refine gX fun _ _ => ?_ | refine gT ?_ | refine gF ?_ | refine gI ?_)
          refine sm (G := cel true a 81 [.map (some r1), .map (some r2), I M.now] :: dct kL true r1 kf :: dct kL true r2 ks :: spool vC Lv :: spool rfC Lr :: spool hC Lh :: cel true bm 3 [I (spn f x.1)] :: cel true b7 43 (keepL f) :: H) ?_
          refine spans (l := l) hk fun G v' _ _ => ?_
          refine E_rck1 ?_ ?_
          · refine sm (G := cel true a 81 [.map (some r1), .map (some r2), I M.now] :: dct kL true r1 kf :: dct kL true r2 ks :: spool vC Lv :: spool rfC Lr :: spool hC Lh :: cel true bm 3 [I (spn f x.1)] :: cel true b7 43 (keepL f) :: H) ?_
            refine E_gtf ?_
            exact E_ld (E_fact rfl)
          refine E_rck0 ?_
          (repeat first | refine gS ?_ | refine gA fun _ => ?_ | refine gX fun _ _ => ?_ | refine gT ?_ | refine gF ?_ | refine gI ?_)
          have hDl : (spansL f (l.map (·.1))).length ≤ 1000 := by
            unfold spansL
            rw [List.length_drop]
            have := compactL_len (sortI ((l.map (·.1)).map (spn f)).reverse)
            rw [List.length_mergeSort, List.length_reverse, List.length_map, List.length_map] at this; omega
          rename_i ir _
          revert ir hDl hend
          generalize spansL f (l.map (·.1)) = D
          intro hend hDl ir
          refine hasInt (l := D) (by omega) ?_
          (repeat first | refine gS ?_ | refine gA fun _ => ?_ | refine gX fun _ _ => ?_ | refine gT ?_ | refine gF ?_ | refine gI ?_)
          refine sm (G := cel true a 81 [.map (some r1), .map (some r2), I M.now] :: dct kL true r1 kf :: dct kL true r2 ks :: spool vC Lv :: spool rfC Lr :: spool hC Lh :: cel true bm 3 [I (spn f x.1)] :: cel true b7 43 (keepL f) :: H) ?_
          exact sm hend
  · refine E_box fun bm => ?_
    (repeat (refine E_rck1 (by first | exact E_ld (E_fact rfl) | exact E_ld' (by assumption) (E_fact rfl) | exact E_b2sR (E_fact rfl) | exact E_gdnF (by assumption) (E_ld (E_fact rfl)) | exact E_gdT (by assumption) (E_ld (E_fact rfl)) | exact E_gtf (E_ld (E_fact rfl)) | exact E_gft (E_ld (E_fact rfl)) | exact E_ldNA (E_fact rfl) | exact E_ptld (E_fact rfl) | exact E_gtf (E_ldNA (E_fact rfl))) ?_)); (first | (refine E_rck0 ?_) | skip)
    refine span hxt.1 hkk.2.2.1 (by omega) ?_
    (repeat first | refine gS ?_ | refine gA fun _ => ?_ | refine gX fun _ _ => ?_ | refine gT ?_ | refine gF ?_ | refine gI ?_)
    rw [show x.1.time / f.step = spn f x.1 from rfl]
    refine sm (G := cel true bm 3 [I (spn f x.1)] :: bk a M :: cel true b7 43 (keepL f) :: H) ?_
    refine E_slcS2 (v := v) (l := l) (hf := hv3 _ _ _) (i := i + 1) (j := l.length) rfl (bound_suc _ _) (by omega) (by omega) fun v2 hv2' _ => ?_
    have r2 : Rs B (bk a M :: H) v2 vC (l.drop (i + 1)) := rs_take1 (hv2' (bk a M :: H))
    refine sm (G := cel true b7 43 (keepL f) :: cel true bm 3 [I (spn f x.1)] :: bk a M :: H) ?_
    refine later (l := l.drop (i + 1)) (by rw [List.length_drop]; omega) (fun p hp => htl p (List.mem_of_mem_drop hp)) hkk.2.2.1 ?_
    refine gY ?_
    (repeat first | refine gS ?_ | refine gA fun _ => ?_ | refine gX fun _ _ => ?_ | refine gT ?_ | refine gF ?_ | refine gI ?_)
    have e1 : decide ((l.length : Int) - 1 - i < f.last) = decide ((l.length : Int) - i ≤ f.last) := by rw [decide_eq_decide]; omega
    rw [← e1] at h
    by_cases g1 : (l.length : Int) - 1 - i < f.last
    · rw [decide_eq_true g1, Bool.true_or, Bool.true_or] at h
      (repeat first | refine gS ?_ | refine gA fun _ => ?_ | refine gX fun _ _ => ?_ | refine gT ?_ | refine gF ?_ | refine gI ?_)
      refine E_rck1 (E_gdu (E_fact rfl)) ?_
      (repeat first | refine gS ?_ | refine gA fun _ => ?_ | refine gX fun _ _ => ?_ | refine gT ?_ | refine gF ?_ | refine gI ?_)
      exact sm h
    · rw [decide_eq_false g1, Bool.false_or] at h
      (repeat first | refine gS ?_ | refine gA fun _ => ?_ | refine gX fun _ _ => ?_ | refine gT ?_ | refine gF ?_ | refine gI ?_)
      refine fd (a := bk a M) (E_bk fun r1 r2 kf ks Lv Lr Lh hf hs => ?_)
      have hend := E_bkS r1 r2 hf hs (n := M.now) rfl h
      (repeat first | refine gS ?_ | refine gA fun _ => ?_ | refine gX fun _ _ => ?_ | refine gT ?_ | refine gF ?_ | refine gI ?_)
      by_cases g2 : M.now - f.young < x.1.time
      · rw [decide_eq_true g2, Bool.true_or] at hend
        (repeat first | refine gS ?_ | refine gA fun _ => ?_ | refine gX fun _ _ => ?_ | refine gT ?_ | refine gF ?_ | refine gI ?_)
        refine E_rck1 (E_gdu (E_fact rfl)) ?_
        (repeat first | refine gS ?_ | refine gA fun _ => ?_ | refine gX fun _ _ => ?_ | refine gT ?_ | refine gF ?_ | refine gI ?_)
        exact sm hend
      · rw [decide_eq_false g2, Bool.false_or] at hend
        (repeat first | refine gS ?_ | refine gA fun _ => ?_ | refine gX fun _ _ => ?_ | refine gT ?_ | refine gF ?_ | refine gI ?_)
        cases g3 : (l.drop (i + 1)).any fun p => decide (spn f p.1 = spn f x.1) with
        | true =>
          rw [g3, Bool.not_true, Bool.false_and] at hend
          rw [Bool.not_true]
          (repeat first | refine gS ?_ | refine gA fun _ => ?_ | refine gX fun _ _ => ?_ | refine gT ?_ | refine gF ?_ | refine gI ?_)
          refine E_rck1 (E_gff (E_fact rfl)) ?_
          (repeat first | refine gS ?_ | refine gA fun _ => ?_ | refine gX fun _ _ => ?_ | refine gT ?_ | refine gF ?_ | refine gI ?_)
          exact sm hend
        | false =>
          rw [g3, Bool.not_false, Bool.true_and] at hend
          rw [Bool.not_false]
          have rv : ∀ G G1 G2 G3 G4 G5 G6 G7, Rs B (G :: G1 :: G2 :: G3 :: G4 :: G5 :: G6 :: G7 :: H) v vC l := fun G G1 G2 G3 G4 G5 G6 G7 => hv [G, G1, G2, G3, G4, G5, G6, G7]
          (repeat first | refine gS ?_ | refine gA fun _ => ?_ | refine gX fun _ _ => ?_ | refine gT ?_ | refine gF ?_ | refine gI ?_)
          refine sm (G := cel true a 81 [.map (some r1), .map (some r2), I M.now] :: dct kL true r1 kf :: dct kL true r2 ks :: spool vC Lv :: spool rfC Lr :: spool hC Lh :: cel true bm 3 [I (spn f x.1)] :: cel true b7 43 (keepL f) :: H) ?_
          refine spans (l := l) hk fun G v' _ _ => ?_
          refine E_rck1 ?_ ?_
          · refine sm (G := cel true a 81 [.map (some r1), .map (some r2), I M.now] :: dct kL true r1 kf :: dct kL true r2 ks :: spool vC Lv :: spool rfC Lr :: spool hC Lh :: cel true bm 3 [I (spn f x.1)] :: cel true b7 43 (keepL f) :: H) ?_
            refine E_gtf ?_
            exact E_ld (E_fact rfl)
          refine E_rck0 ?_
          (repeat first | refine gS ?_ | refine gA fun _ => ?_ | refine gX fun _ _ => ?_ | refine gT ?_ | refine gF ?_ | refine gI ?_)
          have hDl : (spansL f (l.map (·.1))).length ≤ 1000 := by
            unfold spansL
            rw [List.length_drop]
            have := compactL_len (sortI ((l.map (·.1)).map (spn f)).reverse)
            rw [List.length_mergeSort, List.length_reverse, List.length_map, List.length_map] at this; omega
          rename_i ir _
          revert ir hDl hend
          generalize spansL f (l.map (·.1)) = D
          intro hend hDl ir
          refine hasInt (l := D) (by omega) ?_
          (repeat first | refine gS ?_ | refine gA fun _ => ?_ | refine gX fun _ _ => ?_ | refine gT ?_ | refine gF ?_ | refine gI ?_)
          refine sm (G := cel true a 81 [.map (some r1), .map (some r2), I M.now] :: dct kL true r1 kf :: dct kL true r2 ks :: spool vC Lv :: spool rfC Lr :: spool hC Lh :: cel true bm 3 [I (spn f x.1)] :: cel true b7 43 (keepL f) :: H) ?_
          exact sm hend
end Go.Proofs.YtjafpncngmbcdaaGreat.Nam
