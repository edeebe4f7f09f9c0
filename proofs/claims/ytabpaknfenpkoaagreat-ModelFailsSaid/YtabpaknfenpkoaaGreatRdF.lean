/-
  Model: the document's expire.
-/
import Derived.Test.YtabpaknfenpkoaaGreatRdE
set_option linter.unusedSimpArgs false
set_option linter.unusedVariables false
set_option linter.unusedSectionVars false
namespace Go.Proofs.YtabpaknfenpkoaaGreat.Mod
open Go Go.SL Go.Proofs Go.Proofs.YtabpaknfenpkoaaGreat.Sh
variable {B : World} {H : List Asrt} {K : Value → WT} {W : WT}
variable {a : Nat} {M : Mo} {o : Od} {bv kv : Value} {t u : Int}
def goF (M : Mo) (o : Od) (v : Ver) : Ver := if goesP M o v then goneV v else v
theorem goF4 (M : Mo) (o : Od) (v : Ver) : (goF M o v).name = v.name ∧ (goF M o v).gen = v.gen ∧ (goF M o v).text = v.text ∧ (goF M o v).time = v.time := by unfold goF; split <;> exact ⟨rfl, rfl, rfl, rfl⟩
attribute [local irreducible] S.pick S.ld S.ldN S.st S.box S.nc S.fad S.ixS S.ixA S.chr S.prt S.ext S.bin S.sh S.sbin S.beq S.neg1 S.com1 S.not1 S.cvt S.str1 S.lenS S.len S.cap S.lenM S.mx S.mn S.mkM S.cond S.gd S.fa S.dr S.rck S.join S.loop S.cvv S.eqv S.slc S.slcS S.b2s S.lk V U CF Gives E cel mpb osl ros dct dit itr lpo dfo
set_option maxRecDepth 4000
attribute [local irreducible] mo ansH rmo
theorem rexpire (hw : Wf M) (hs16 : M.S.length ≤ 1000000) (hh : ∀ s ∈ M.S, s.held.length ≤ 1000000) (h : ∀ rv, E B (ansH (expireM M o).1 rv :: rmo a (expireM M o).2 :: H) (K rv)) : E B (rmo a M :: H) (CF Tryz.prog 38 [ptr a, .agg #[I o.last, I o.young, I o.step, I o.count]] K) := by
  have hMn := hw.n
  refine E_mono (W := s38 _ _ K) ?_ fun _ => c38
  unfold s38
  unfold expireM at h
  (repeat first | refine gS ?_ | refine gA fun _ => ?_ | refine gX fun _ _ => ?_ | refine gT ?_ | refine gF ?_ | refine gI ?_)
  rename_i bk br
  have hno : keepOk o = false → E B (rmo a M :: cel true br 33 [I 0, I 0, nil, nil] :: H) (CF Tryz.prog 28 [I 2] fun v36 => S.st 4 (ptr br) v36 fun _ => S.ldN 4 (ptr br) K) := fun hk => by
    rw [if_pos hk] at h
    refine rwrong ?_
    (repeat first | refine gS ?_ | refine gA fun _ => ?_ | refine gX fun _ _ => ?_ | refine gT ?_ | refine gF ?_ | refine gI ?_)
    exact sm (ansE (A := errA 2) rfl rfl h)
  refine E_bsl [(0, 1), (1, 1), (2, 1), (3, 1)] u_ints elt_int (by simp) (by decide) (l0 := [I 0, I 0, I 0, I 0]) rfl fun bl => ?_
  refine E_slsC (enc := cI) [o.last, o.young, o.step, o.count] 4 rfl rfl ?_
  refine E_loop (σ := Nat) (fun i => i ≤ 4 ∧ ∀ z ∈ ([o.last, o.young, o.step, o.count] : List Int).take i, 0 ≤ z ∧ z ≤ 9007199254740991) (fun i => [ptr a, ptr bk, ptr br, .slice (some ⟨bl, 0, none⟩) 4 4, I i])
    (fun _ => sls cI 3 1 (.slice (some ⟨bl, 0, none⟩) 4 4) [o.last, o.young, o.step, o.count] :: cel true br 33 [I 0, I 0, nil, nil] :: cel true bk 37 (keepL o) :: rmo a M :: H) (fun i => 4 - i) 0 (fun _ => rfl) rfl ⟨Nat.zero_le _, by simp⟩ (fun W hW => sm hW) ?_
  rintro i K0 ⟨hi, ha⟩ hk0
  have hkO : keepOk o = decide (0 ≤ o.last ∧ o.last ≤ 9007199254740991 ∧ 0 ≤ o.young ∧ o.young ≤ 9007199254740991 ∧ 1 ≤ o.step ∧ o.step ≤ 9007199254740991 ∧ 0 ≤ o.count ∧ o.count ≤ 9007199254740991) := rfl
  have hll : ([o.last, o.young, o.step, o.count] : List Int).length = 4 := rfl
  refine E_fa fun _ => ?_
  (repeat first | refine gS ?_ | refine gA fun _ => ?_ | refine gX fun _ _ => ?_ | refine gT ?_ | refine gF ?_ | refine gI ?_)
  refine E_if (fun hc => ?_) (fun hc => ?_)
  · have hx : ([o.last, o.young, o.step, o.count] : List Int)[i]? = some ([o.last, o.young, o.step, o.count] : List Int)[i] := List.getElem?_eq_getElem (by rw [hll]; omega)
    generalize ([o.last, o.young, o.step, o.count] : List Int)[i] = z at hx
    have hzm := List.mem_of_getElem? hx
    refine E_join1 [ptr a, ptr bk, ptr br, .slice (some ⟨bl, 0, none⟩) 4 4, I i, .bool (decide (z < 0 ∨ 9007199254740991 < z))]
      (sls cI 3 1 (.slice (some ⟨bl, 0, none⟩) 4 4) [o.last, o.young, o.step, o.count] :: cel true br 33 [I 0, I 0, nil, nil] :: cel true bk 37 (keepL o) :: rmo a M :: H) (fun q hq => ?_) ?_
    · have fin : ∀ b : Bool, decide (z < 0 ∨ 9007199254740991 < z) = b → E B (sls cI 3 1 (.slice (some ⟨bl, 0, none⟩) 4 4) [o.last, o.young, o.step, o.count] :: cel true br 33 [I 0, I 0, nil, nil] :: cel true bk 37 (keepL o) :: rmo a M :: H) (app 6 q [ptr a, ptr bk, ptr br, .slice (some ⟨bl, 0, none⟩) 4 4, I i, .bool b]) := fun b hb => hb ▸ hq
      have hrs : Rs B (sls cI 3 1 (.slice (some ⟨bl, 0, none⟩) 4 4) [o.last, o.young, o.step, o.count] :: cel true br 33 [I 0, I 0, nil, nil] :: cel true bk 37 (keepL o) :: rmo a M :: H) (.slice (some ⟨bl, 0, none⟩) 4 4) cI [o.last, o.young, o.step, o.count] := rs_sls
      refine E_rsix (hf := hrs) hx fun _ _ => ?_
      (repeat first | refine gS ?_ | refine gA fun _ => ?_ | refine gX fun _ _ => ?_ | refine gT ?_ | refine gF ?_ | refine gI ?_)
      by_cases h0 : z < 0
      · rw [decide_eq_true h0]
        (repeat first | refine gS ?_ | refine gA fun _ => ?_ | refine gX fun _ _ => ?_ | refine gT ?_ | refine gF ?_ | refine gI ?_)
        exact fin true (decide_eq_true (.inl h0))
      · rw [decide_eq_false h0]
        (repeat first | refine gS ?_ | refine gA fun _ => ?_ | refine gX fun _ _ => ?_ | refine gT ?_ | refine gF ?_ | refine gI ?_)
        refine fin _ ?_
        rw [decide_eq_decide]; omega
    · refine E_fa fun _ => ?_
      refine E_if (fun hc2 => ?_) (fun hc2 => ?_)
      · refine sm (hno ?_)
        rw [hkO, decide_eq_false_iff_not]
        intro hh
        simp only [List.mem_cons, List.not_mem_nil, or_false] at hzm
        rcases hzm with rfl | rfl | rfl | rfl <;> omega
      · refine E_addI (by omega) (by omega) ?_
        refine hk0 (i + 1) ⟨by omega, fun y hy => ?_⟩ (by omega)
        rw [List.take_add_one, hx] at hy
        rcases List.mem_append.1 hy with hy | hy
        · exact ha y hy
        · simp at hy; subst hy; omega
  · have hie : i = 4 := by omega
    subst hie
    simp only [List.take_succ_cons, List.take_zero, List.mem_cons, List.not_mem_nil, or_false, forall_eq_or_imp, forall_eq] at ha
    (repeat first | refine gS ?_ | refine gA fun _ => ?_ | refine gX fun _ _ => ?_ | refine gT ?_ | refine gF ?_ | refine gI ?_)
    refine E_if (fun hc2 => ?_) (fun hc2 => ?_)
    · refine sm (hno ?_)
      rw [hkO, decide_eq_false_iff_not]
      omega
    · have hk : keepOk o = true := by rw [hkO, decide_eq_true_iff]; omega
      rw [if_neg (by simp [hk])] at h
      clear hno
      refine E_bsl0 u_rvers elt_rver fun bz => ?_
      refine E_slsC (enc := rvC) [] 0 rfl rfl ?_
      refine fd (a := rmo a M) ?_
      refine sm (G := rmo a M :: sls rvC 102 5 (.slice (some ⟨bz, 0, none⟩) 0 0) [] :: cel true br 33 [I 0, I 0, nil, nil] :: cel true bk 37 (keepL o) :: H) ?_
      refine E_loop (σ := Nat × Value) (fun s => s.1 ≤ M.V.length ∧ isCell s.2 = true) (fun s => [ptr a, ptr bk, ptr br, s.2, I ((M.V.take s.1).countP (goesP M o)), I s.1])
        (fun s => rmo a M :: sls rvC 102 5 s.2 ((M.V.take s.1).map (goF M o)) :: cel true br 33 [I 0, I 0, nil, nil] :: cel true bk 37 (keepL o) :: H) (fun s => M.V.length - s.1) (0, .slice (some ⟨bz, 0, none⟩) 0 0) (fun _ => rfl) rfl ⟨Nat.zero_le _, rfl⟩ (fun W hW => hW) ?_
      rintro ⟨j, ov⟩ K1 ⟨hj, hov⟩ hk1
      simp only at hj hov hk1 ⊢
      have : CellI ov := ⟨hov⟩
      have hcl : (M.V.take j).countP (goesP M o) ≤ 1000000 := by
        have h1 := List.countP_le_length (p := goesP M o) (l := M.V.take j)
        rw [List.length_take] at h1; omega
      have hml : ((M.V.take j).map (goF M o)).length ≤ 1000000 := by rw [List.length_map, List.length_take]; omega
      refine E_fa fun _ => ?_
      refine E_rmo fun vs ss os Lv Ls Lo Lh SS iv is io iV iS iO hsl hsh => ?_
      have rV := rs_pool (B := B) (enc := rvC) iV
      (repeat first | refine gS ?_ | refine gA fun _ => ?_ | refine gX fun _ _ => ?_ | refine gT ?_ | refine gF ?_ | refine gI ?_)
      refine E_if (fun hc3 => ?_) (fun hc3 => ?_)
      · have hx : M.V[j]? = some M.V[j] := List.getElem?_eq_getElem (by omega)
        generalize M.V[j] = x at hx
        have hxm := List.mem_of_getElem? hx
        (repeat first | refine gS ?_ | refine gA fun _ => ?_ | refine gX fun _ _ => ?_ | refine gT ?_ | refine gF ?_ | refine gI ?_)
        simp only [rvC_eq]
        (repeat first | refine gS ?_ | refine gA fun _ => ?_ | refine gX fun _ _ => ?_ | refine gT ?_ | refine gF ?_ | refine gI ?_)
        rename_i bx
        have hcs : (M.V.take (j + 1)).countP (goesP M o) = (M.V.take j).countP (goesP M o) + if goesP M o x then 1 else 0 := by
          rw [List.take_add_one, hx, List.countP_append]
          cases hg : goesP M o x <;> simp [hg]
        have hms : (M.V.take (j + 1)).map (goF M o) = (M.V.take j).map (goF M o) ++ [goF M o x] := by rw [List.take_add_one, hx, List.map_append]; rfl
        refine sm (G := cel true a 70 [vs, ss, os, I M.began, I M.now, I M.quota] :: spool rvC Lv :: spool rsC Ls :: spool roC Lo :: spool hC Lh :: cel true bx 102 [str x.name, I x.gen, I x.time, str x.text, .bool x.gone] :: sls rvC 102 5 ov ((M.V.take j).map (goF M o)) :: cel true br 33 [I 0, I 0, nil, nil] :: cel true bk 37 (keepL o) :: H) ?_
        refine E_rmoS vs ss os (SS := SS) iV iS iO hsl hsh rfl rfl rfl ?_
        refine E_join1 [ptr a, ptr bk, ptr br, ov, I ((M.V.take (j + 1)).countP (goesP M o)), I j, ptr bx] (rmo a M :: cel true bx 102 (rvC (goF M o x)) :: sls rvC 102 5 ov ((M.V.take j).map (goF M o)) :: cel true br 33 [I 0, I 0, nil, nil] :: cel true bk 37 (keepL o) :: H) (fun q hq => ?_) ?_
        · rw [hcs] at hq
          refine E_join1 [ptr a, ptr bk, ptr br, ov, I ((M.V.take j).countP (goesP M o)), I j, ptr bx, .bool (goesP M o x)] (rmo a M :: cel true bx 102 [str x.name, I x.gen, I x.time, str x.text, .bool x.gone] :: sls rvC 102 5 ov ((M.V.take j).map (goF M o)) :: cel true br 33 [I 0, I 0, nil, nil] :: cel true bk 37 (keepL o) :: H) (fun q2 hq2 => ?_) ?_
          · have fin : ∀ b : Bool, goesP M o x = b → E B (rmo a M :: cel true bx 102 [str x.name, I x.gen, I x.time, str x.text, .bool x.gone] :: sls rvC 102 5 ov ((M.V.take j).map (goF M o)) :: cel true br 33 [I 0, I 0, nil, nil] :: cel true bk 37 (keepL o) :: H) (app 8 q2 [ptr a, ptr bk, ptr br, ov, I ((M.V.take j).countP (goesP M o)), I j, ptr bx, .bool b]) := fun b hb => hb ▸ hq2
            have hgo := goesP M o x
            cases hgo2 : x.gone with
            | true =>
              rw [hgo2] at fin
              (repeat first | refine gS ?_ | refine gA fun _ => ?_ | refine gX fun _ _ => ?_ | refine gT ?_ | refine gF ?_ | refine gI ?_)
              exact fin false (by simp [goesP, hgo2])
            | false =>
              rw [hgo2] at fin
              (repeat first | refine gS ?_ | refine gA fun _ => ?_ | refine gX fun _ _ => ?_ | refine gT ?_ | refine gF ?_ | refine gI ?_)
              refine rstays (x := ⟨x.name, x.gen, x.time, x.text, false⟩) hw hk (by rw [← hgo2]; exact hxm) ?_
              have ex : (⟨x.name, x.gen, x.time, x.text, false⟩ : Ver) = x := by rw [← hgo2]
              rw [ex]
              refine E_gtf ?_
              refine E_notb ?_
              refine E_ptt ?_
              refine fin _ ?_
              simp [goesP, hgo2]
          · refine E_fa fun _ => ?_
            cases hg : goesP M o x with
            | true =>
              rw [hg] at hq
              have eg : goF M o x = goneV x := by unfold goF; rw [if_pos hg]
              rw [eg] at hq
              simp only [if_true] at hq
              (repeat first | refine gS ?_ | refine gA fun _ => ?_ | refine gX fun _ _ => ?_ | refine gT ?_ | refine gF ?_ | refine gI ?_)
              exact E_same (by repeat (first | exact Same.refl | (refine Same.cons (by repeat (first | exact Find.here | apply Find.there)) ?_) | (refine Same.drop ?_))) hq
            | false =>
              rw [hg] at hq
              have eg : goF M o x = x := by unfold goF; rw [if_neg (by simp [hg])]
              rw [eg] at hq
              simp only [Bool.false_eq_true, if_false] at hq
              refine E_ff ?_
              exact hq
        · refine E_fa fun _ => ?_
          simp only [rvC_eq]
          (repeat first | refine gS ?_ | refine gA fun _ => ?_ | refine gX fun _ _ => ?_ | refine gT ?_ | refine gF ?_ | refine gI ?_)
          refine E_use (sls rvC 102 5 ov) (E_sapp1 (enc := rvC) (goF M o x) u_rvers elt_rver rfl (by decide) (by omega) (by omega) fun u' _ => ?_)
          refine E_addI (by omega) (by omega) ?_
          have hk' := hk1 (j + 1, u') ⟨by simp only; omega, CellI.pf⟩ (by simp only; omega)
          simp only [hms] at hk'
          exact sm hk'
      · have hje : j = M.V.length := by omega
        subst hje
        rw [List.take_length]
        (repeat first | refine gS ?_ | refine gA fun _ => ?_ | refine gX fun _ _ => ?_ | refine gT ?_ | refine gF ?_ | refine gI ?_)
        refine sm (G := sls rvC 102 5 ov (M.V.map (goF M o)) :: spool rvC Lv :: cel true a 70 [ov, ss, os, I M.began, I M.now, I M.quota] :: spool rsC Ls :: spool roC Lo :: spool hC Lh :: cel true br 33 [I 0, I 0, nil, nil] :: H) ?_
        refine E_give ?_
        refine sm (G := cel true a 70 [ov, ss, os, I M.began, I M.now, I M.quota] :: spool rvC ((ov, M.V.map (goF M o)) :: Lv) :: spool rsC Ls :: spool roC Lo :: spool hC Lh :: cel true br 33 [I 0, I 0, nil, nil] :: H) ?_
        refine E_rmoS (M := { M with V := M.V.map (goF M o) }) ov ss os (SS := SS) (by simp) iS iO hsl hsh rfl rfl rfl ?_
        refine rsweep (hw.map (goF4 M o)) hs16 hh ?_
        refine E_build (l := [I 0, I (M.V.countP (goesP M o)), nil, nil]) str_ans ?_
        (repeat first | refine gS ?_ | refine gA fun _ => ?_ | refine gX fun _ _ => ?_ | refine gT ?_ | refine gF ?_ | refine gI ?_)
        exact E_same (by repeat (first | exact Same.refl | (refine Same.cons (by repeat (first | exact Find.here | apply Find.there)) ?_) | (refine Same.drop ?_))) (ansE (A := ⟨0, M.V.countP (goesP M o), [], []⟩) rfl rfl h)
end Go.Proofs.YtabpaknfenpkoaaGreat.Mod
