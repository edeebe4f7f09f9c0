/-
  Model: the document's Do.
-/
import Derived.Test.YtabpaknfenpkoaaGreatRdH
set_option linter.unusedSimpArgs false
set_option linter.unusedVariables false
set_option linter.unusedSectionVars false
namespace Go.Proofs.YtabpaknfenpkoaaGreat.Mod
open Go Go.SL Go.Proofs Go.Proofs.YtabpaknfenpkoaaGreat.Sh
variable {B : World} {H : List Asrt} {K : Value → WT} {W : WT}
variable {a : Nat} {M : Mo} {o : Od} {bv kv : Value} {t u : Int}
attribute [local irreducible] S.pick S.ld S.ldN S.st S.box S.nc S.fad S.ixS S.ixA S.chr S.prt S.ext S.bin S.sh S.sbin S.beq S.neg1 S.com1 S.not1 S.cvt S.str1 S.lenS S.len S.cap S.lenM S.mx S.mn S.mkM S.cond S.gd S.fa S.dr S.rck S.join S.loop S.cvv S.eqv S.slc S.slcS S.b2s S.lk V U CF Gives E cel mpb osl ros dct dit itr lpo dfo
set_option maxRecDepth 4000
attribute [local irreducible] mo ansH rmo
theorem rdo [CellI bv] [CellI kv] {sp : Bool} (hw : Wf M) (hn : o.name.length ≤ 140737488355328) (hn2 : o.shot.length ≤ 140737488355328) [hb : Rb B H bv o.bytes] (hbl : o.bytes.length ≤ 140737488355328)
    (hnl : (nms M.V).length ≤ 64) (hfl : ∀ k, (fof M.V k).length ≤ 32) (hs16 : M.S.length ≤ 16) (hh : ∀ s ∈ M.S, s.held.length ≤ 1000000)
    (h : ∀ rv, E B (ansH (stepM M o sp).1 rv :: rmo a (stepM M o sp).2 :: H) (K rv)) : E B (rmo a M :: H) (CF Tryz.prog 9 [ptr a, opV o bv kv t u, .bool sp] K) := by
  refine E_mono (W := s9 _ _ _ K) ?_ fun _ => c9
  unfold s9
  unfold stepM at h
  have hb1 := hw.b
  have hol := hw.ol
  have hnow := hw.t
  refine E_box fun bo => ?_
  refine E_box fun br => ?_
  (repeat first | refine gS ?_ | refine gA fun _ => ?_ | refine gX fun _ _ => ?_ | refine gT ?_ | refine gF ?_ | refine gI ?_)
  have fin : ∀ (A : Ans × Mo), (∀ rv, E B (ansH A.1 rv :: rmo a A.2 :: H) (K rv)) → ∀ rv, E B (ansH A.1 rv :: rmo a A.2 :: cel true br 33 [I 0, I 0, nil, nil] :: cel true bo 42 (opL o bv kv t u) :: H) (S.st 4 (ptr br) rv fun _ => S.ldN 4 (ptr br) K) := fun A hA rv => by
    refine ans_open fun b' h' _ _ e => ?_
    subst e
    (repeat first | refine gS ?_ | refine gA fun _ => ?_ | refine gX fun _ _ => ?_ | refine gT ?_ | refine gF ?_ | refine gI ?_)
    refine sm (G := sls cB 5 1 b' A.1.bytes :: sls hC 106 2 h' A.1.names :: rmo a A.2 :: H) ?_
    exact ans_shut (hA _)
  have herr : ∀ (e : Int), (∀ rv, E B (ansH (errA e) rv :: rmo a M :: H) (K rv)) → E B (rmo a M :: cel true br 33 [I 0, I 0, nil, nil] :: cel true bo 42 (opL o bv kv t u) :: H) (CF Tryz.prog 28 [I e] fun v17 => S.st 4 (ptr br) v17 fun _ => S.ldN 4 (ptr br) K) := fun e he => by
    refine rwrong ?_
    (repeat first | refine gS ?_ | refine gA fun _ => ?_ | refine gX fun _ _ => ?_ | refine gT ?_ | refine gF ?_ | refine gI ?_)
    exact sm (ansE (A := errA e) rfl rfl he)
  refine sm (G := rmo a M :: cel true br 33 [I 0, I 0, nil, nil] :: cel true bo 42 (opL o bv kv t u) :: H) ?_
  refine E_if (fun hc => ?_) (fun hc => ?_)
  · rw [if_pos hc] at h
    unfold beginM at h
    (repeat first | refine gS ?_ | refine gA fun _ => ?_ | refine gX fun _ _ => ?_ | refine gT ?_ | refine gF ?_ | refine gI ?_)
    refine rname (by omega) ?_
    cases hk : nameOk o.name with
    | false =>
      rw [if_pos hk] at h
      (repeat first | refine gS ?_ | refine gA fun _ => ?_ | refine gX fun _ _ => ?_ | refine gT ?_ | refine gF ?_ | refine gI ?_)
      exact sm (herr 2 h)
    | true =>
      rw [if_neg (by simp [hk])] at h
      (repeat first | refine gS ?_ | refine gA fun _ => ?_ | refine gX fun _ _ => ?_ | refine gT ?_ | refine gF ?_ | refine gI ?_)
      refine fd (a := rmo a M) ?_
      refine E_rmo fun vs ss os Lv Ls Lo Lh SS iv is io iV iS iO hsl hsh => ?_
      have rO := rs_pool (B := B) (enc := roC) iO
      (repeat first | refine gS ?_ | refine gA fun _ => ?_ | refine gX fun _ _ => ?_ | refine gT ?_ | refine gF ?_ | refine gI ?_)
      refine E_if (fun hc4 => ?_) (fun hc4 => ?_)
      · rw [if_pos (by omega)] at h
        refine sm (G := cel true a 70 [vs, ss, os, I M.began, I M.now, I M.quota] :: spool rvC Lv :: spool rsC Ls :: spool roC Lo :: spool hC Lh :: cel true br 33 [I 0, I 0, nil, nil] :: cel true bo 42 (opL o bv kv t u) :: H) ?_
        refine E_rmoS vs ss os (SS := SS) iV iS iO hsl hsh rfl rfl rfl ?_
        exact herr 6 h
      · rw [if_neg (by omega)] at h
        (repeat first | refine gS ?_ | refine gA fun _ => ?_ | refine gX fun _ _ => ?_ | refine gT ?_ | refine gF ?_ | refine gI ?_)
        have tl : ∀ v [CellI v], E B (sls roC 72 3 v (M.O ++ [(⟨M.began + 1, o.name, []⟩ : Se)]) :: cel true a 70 [vs, ss, os, I (M.began + 1), I M.now, I M.quota] :: spool rvC Lv :: spool rsC Ls :: spool roC Lo :: spool hC Lh :: cel true br 33 [I 0, I 0, nil, nil] :: cel true bo 42 (opL o bv kv t u) :: H) (S.nc (ptr a) fun v49 =>
            S.fad v49 2 fun v50 =>
            S.st 1 v50 v fun _ =>
            S.nc (ptr a) fun v52 =>
            S.fad v52 3 fun v53 =>
            S.ld v53 fun v54 =>
            V Tryz.prog (Instr.build 33 #[(1, v54)]) fun v55 =>
            S.st 4 (ptr br) v55 fun _ =>
            S.ldN 4 (ptr br) fun v6'3 =>
            K v6'3) := fun v _ => by
          (repeat first | refine gS ?_ | refine gA fun _ => ?_ | refine gX fun _ _ => ?_ | refine gT ?_ | refine gF ?_ | refine gI ?_)
          refine E_build (l := [I 0, I (M.began + 1), nil, nil]) str_ans ?_
          (repeat first | refine gS ?_ | refine gA fun _ => ?_ | refine gX fun _ _ => ?_ | refine gT ?_ | refine gF ?_ | refine gI ?_)
          refine sm (G := sls roC 72 3 v (M.O ++ [(⟨M.began + 1, o.name, []⟩ : Se)]) :: spool roC Lo :: cel true a 70 [vs, ss, v, I (M.began + 1), I M.now, I M.quota] :: spool rvC Lv :: spool rsC Ls :: spool hC Lh :: H) ?_
          refine E_give ?_
          refine sm (G := cel true a 70 [vs, ss, v, I (M.began + 1), I M.now, I M.quota] :: spool rvC Lv :: spool rsC Ls :: spool roC ((v, M.O ++ [(⟨M.began + 1, o.name, []⟩ : Se)]) :: Lo) :: spool hC Lh :: H) ?_
          refine E_rmoS (M := { M with O := M.O ++ [(⟨M.began + 1, o.name, []⟩ : Se)], began := M.began + 1 }) vs ss v (SS := SS) iV iS (by simp) hsl hsh rfl rfl rfl ?_
          exact ansE (A := ⟨0, M.began + 1, [], []⟩) rfl rfl h
        refine E_both ?_ ?_
        · skip
          refine E_bsl0 u_rsess elt_rses fun bz => ?_
          refine E_slsC (enc := roC) [] 0 rfl rfl ?_
          (repeat (refine E_rck1 (by first | exact E_ld (E_fact rfl) | exact E_ld' (by assumption) (E_fact rfl) | exact E_b2sR (E_fact rfl) | exact E_gdnF (by assumption) (E_ld (E_fact rfl)) | exact E_gdT (by assumption) (E_ld (E_fact rfl)) | exact E_gtf (E_ld (E_fact rfl)) | exact E_gft (E_ld (E_fact rfl)) | exact E_ldNA (E_fact rfl) | exact E_ptld (E_fact rfl) | exact E_gtf (E_ldNA (E_fact rfl))) ?_)); (first | (refine E_rck0 ?_) | skip)
          refine E_both ?_ ?_
          · skip
            refine E_use (sls roC 72 3 (.slice (some ⟨bz, 0, none⟩) 0 0)) (E_sapps (enc := roC) (l := []) (m := M.O) u_rsess elt_rses (by simp; omega) (by simp; omega) fun v3 _ => ?_)
            rw [List.nil_append]
            (repeat (refine E_rck1 (by first | exact E_ld (E_fact rfl) | exact E_ld' (by assumption) (E_fact rfl) | exact E_b2sR (E_fact rfl) | exact E_gdnF (by assumption) (E_ld (E_fact rfl)) | exact E_gdT (by assumption) (E_ld (E_fact rfl)) | exact E_gtf (E_ld (E_fact rfl)) | exact E_gft (E_ld (E_fact rfl)) | exact E_ldNA (E_fact rfl) | exact E_ptld (E_fact rfl) | exact E_gtf (E_ldNA (E_fact rfl))) ?_)); (first | (refine E_rck0 ?_) | skip)
            refine E_build (l := [I (M.began + 1), str o.name, .string ⟨#[]⟩]) str_rses ?_
            refine E_use (sls roC 72 3 v3) (E_sapp1 (enc := roC) (⟨M.began + 1, o.name, []⟩ : Se) u_rsess elt_rses rfl (by decide) (by omega) (by omega) fun v4 _ => ?_)
            exact sm (tl v4)
          · skip
            refine E_build (l := [I (M.began + 1), str o.name, .string ⟨#[]⟩]) str_rses ?_
            (repeat (refine E_rck1 (by first | exact E_ld (E_fact rfl) | exact E_ld' (by assumption) (E_fact rfl) | exact E_b2sR (E_fact rfl) | exact E_gdnF (by assumption) (E_ld (E_fact rfl)) | exact E_gdT (by assumption) (E_ld (E_fact rfl)) | exact E_gtf (E_ld (E_fact rfl)) | exact E_gft (E_ld (E_fact rfl)) | exact E_ldNA (E_fact rfl) | exact E_ptld (E_fact rfl) | exact E_gtf (E_ldNA (E_fact rfl))) ?_)); (first | (refine E_rck0 ?_) | skip)
            refine E_both ?_ ?_
            · skip
              refine E_use (sls roC 72 3 (.slice (some ⟨bz, 0, none⟩) 0 0)) (E_sapps (enc := roC) (l := []) (m := M.O) u_rsess elt_rses (by simp; omega) (by simp; omega) fun v3 _ => ?_)
              rw [List.nil_append]
              refine E_use (sls roC 72 3 v3) (E_sapp1 (enc := roC) (⟨M.began + 1, o.name, []⟩ : Se) u_rsess elt_rses rfl (by decide) (by omega) (by omega) fun v4 _ => ?_)
              exact sm (tl v4)
            · skip
              refine E_bsl [(0, 3)] u_rsess elt_rses (by simp) (by decide) (l0 := [I 0, .string ⟨#[]⟩, .string ⟨#[]⟩]) rfl fun b1 => ?_
              (repeat (refine E_rck1 (by first | exact E_ld (E_fact rfl) | exact E_ld' (by assumption) (E_fact rfl) | exact E_b2sR (E_fact rfl) | exact E_gdnF (by assumption) (E_ld (E_fact rfl)) | exact E_gdT (by assumption) (E_ld (E_fact rfl)) | exact E_gtf (E_ld (E_fact rfl)) | exact E_gft (E_ld (E_fact rfl)) | exact E_ldNA (E_fact rfl) | exact E_ptld (E_fact rfl) | exact E_gtf (E_ldNA (E_fact rfl))) ?_)); (first | (refine E_rck0 ?_) | skip)
              refine E_use (sls roC 72 3 (.slice (some ⟨bz, 0, none⟩) 0 0)) (E_sapps (enc := roC) (l := []) (m := M.O) u_rsess elt_rses (by simp; omega) (by simp; omega) fun v3 _ => ?_)
              rw [List.nil_append]
              have hr1 : ∀ H', Rs B (cel true b1 72 [I (M.began + 1), str o.name, .string ⟨#[]⟩] :: H') (.slice (some ⟨b1, 0, none⟩) 1 1) roC [(⟨M.began + 1, o.name, []⟩ : Se)] := fun H' => rs_cel (l := [(⟨M.began + 1, o.name, []⟩ : Se)]) (by simp) rfl
              refine E_use (sls roC 72 3 v3) (E_sapps (enc := roC) (l := M.O) (m := [(⟨M.began + 1, o.name, []⟩ : Se)]) u_rsess elt_rses (by simp; omega) (by simp; omega) fun v4 _ => ?_)
              exact sm (tl v4)
        · skip
          refine E_build (l := [I (M.began + 1), str o.name, .string ⟨#[]⟩]) str_rses ?_
          (repeat (refine E_rck1 (by first | exact E_ld (E_fact rfl) | exact E_ld' (by assumption) (E_fact rfl) | exact E_b2sR (E_fact rfl) | exact E_gdnF (by assumption) (E_ld (E_fact rfl)) | exact E_gdT (by assumption) (E_ld (E_fact rfl)) | exact E_gtf (E_ld (E_fact rfl)) | exact E_gft (E_ld (E_fact rfl)) | exact E_ldNA (E_fact rfl) | exact E_ptld (E_fact rfl) | exact E_gtf (E_ldNA (E_fact rfl))) ?_)); (first | (refine E_rck0 ?_) | skip)
          refine E_both ?_ ?_
          · skip
            refine E_bsl0 u_rsess elt_rses fun bz => ?_
            refine E_slsC (enc := roC) [] 0 rfl rfl ?_
            (repeat (refine E_rck1 (by first | exact E_ld (E_fact rfl) | exact E_ld' (by assumption) (E_fact rfl) | exact E_b2sR (E_fact rfl) | exact E_gdnF (by assumption) (E_ld (E_fact rfl)) | exact E_gdT (by assumption) (E_ld (E_fact rfl)) | exact E_gtf (E_ld (E_fact rfl)) | exact E_gft (E_ld (E_fact rfl)) | exact E_ldNA (E_fact rfl) | exact E_ptld (E_fact rfl) | exact E_gtf (E_ldNA (E_fact rfl))) ?_)); (first | (refine E_rck0 ?_) | skip)
            refine E_both ?_ ?_
            · skip
              refine E_use (sls roC 72 3 (.slice (some ⟨bz, 0, none⟩) 0 0)) (E_sapps (enc := roC) (l := []) (m := M.O) u_rsess elt_rses (by simp; omega) (by simp; omega) fun v3 _ => ?_)
              rw [List.nil_append]
              refine E_use (sls roC 72 3 v3) (E_sapp1 (enc := roC) (⟨M.began + 1, o.name, []⟩ : Se) u_rsess elt_rses rfl (by decide) (by omega) (by omega) fun v4 _ => ?_)
              exact sm (tl v4)
            · skip
              refine E_bsl [(0, 3)] u_rsess elt_rses (by simp) (by decide) (l0 := [I 0, .string ⟨#[]⟩, .string ⟨#[]⟩]) rfl fun b1 => ?_
              (repeat (refine E_rck1 (by first | exact E_ld (E_fact rfl) | exact E_ld' (by assumption) (E_fact rfl) | exact E_b2sR (E_fact rfl) | exact E_gdnF (by assumption) (E_ld (E_fact rfl)) | exact E_gdT (by assumption) (E_ld (E_fact rfl)) | exact E_gtf (E_ld (E_fact rfl)) | exact E_gft (E_ld (E_fact rfl)) | exact E_ldNA (E_fact rfl) | exact E_ptld (E_fact rfl) | exact E_gtf (E_ldNA (E_fact rfl))) ?_)); (first | (refine E_rck0 ?_) | skip)
              refine E_use (sls roC 72 3 (.slice (some ⟨bz, 0, none⟩) 0 0)) (E_sapps (enc := roC) (l := []) (m := M.O) u_rsess elt_rses (by simp; omega) (by simp; omega) fun v3 _ => ?_)
              rw [List.nil_append]
              have hr1 : ∀ H', Rs B (cel true b1 72 [I (M.began + 1), str o.name, .string ⟨#[]⟩] :: H') (.slice (some ⟨b1, 0, none⟩) 1 1) roC [(⟨M.began + 1, o.name, []⟩ : Se)] := fun H' => rs_cel (l := [(⟨M.began + 1, o.name, []⟩ : Se)]) (by simp) rfl
              refine E_use (sls roC 72 3 v3) (E_sapps (enc := roC) (l := M.O) (m := [(⟨M.began + 1, o.name, []⟩ : Se)]) u_rsess elt_rses (by simp; omega) (by simp; omega) fun v4 _ => ?_)
              exact sm (tl v4)
          · skip
            refine E_bsl [(0, 3)] u_rsess elt_rses (by simp) (by decide) (l0 := [I 0, .string ⟨#[]⟩, .string ⟨#[]⟩]) rfl fun b1 => ?_
            (repeat (refine E_rck1 (by first | exact E_ld (E_fact rfl) | exact E_ld' (by assumption) (E_fact rfl) | exact E_b2sR (E_fact rfl) | exact E_gdnF (by assumption) (E_ld (E_fact rfl)) | exact E_gdT (by assumption) (E_ld (E_fact rfl)) | exact E_gtf (E_ld (E_fact rfl)) | exact E_gft (E_ld (E_fact rfl)) | exact E_ldNA (E_fact rfl) | exact E_ptld (E_fact rfl) | exact E_gtf (E_ldNA (E_fact rfl))) ?_)); (first | (refine E_rck0 ?_) | skip)
            refine E_bsl0 u_rsess elt_rses fun bz => ?_
            refine E_slsC (enc := roC) [] 0 rfl rfl ?_
            (repeat (refine E_rck1 (by first | exact E_ld (E_fact rfl) | exact E_ld' (by assumption) (E_fact rfl) | exact E_b2sR (E_fact rfl) | exact E_gdnF (by assumption) (E_ld (E_fact rfl)) | exact E_gdT (by assumption) (E_ld (E_fact rfl)) | exact E_gtf (E_ld (E_fact rfl)) | exact E_gft (E_ld (E_fact rfl)) | exact E_ldNA (E_fact rfl) | exact E_ptld (E_fact rfl) | exact E_gtf (E_ldNA (E_fact rfl))) ?_)); (first | (refine E_rck0 ?_) | skip)
            refine E_use (sls roC 72 3 (.slice (some ⟨bz, 0, none⟩) 0 0)) (E_sapps (enc := roC) (l := []) (m := M.O) u_rsess elt_rses (by simp; omega) (by simp; omega) fun v3 _ => ?_)
            rw [List.nil_append]
            have hr1 : ∀ H', Rs B (cel true b1 72 [I (M.began + 1), str o.name, .string ⟨#[]⟩] :: H') (.slice (some ⟨b1, 0, none⟩) 1 1) roC [(⟨M.began + 1, o.name, []⟩ : Se)] := fun H' => rs_cel (l := [(⟨M.began + 1, o.name, []⟩ : Se)]) (by simp) rfl
            refine E_use (sls roC 72 3 v3) (E_sapps (enc := roC) (l := M.O) (m := [(⟨M.began + 1, o.name, []⟩ : Se)]) u_rsess elt_rses (by simp; omega) (by simp; omega) fun v4 _ => ?_)
            exact sm (tl v4)
  · rw [if_neg hc] at h
    (repeat first | refine gS ?_ | refine gA fun _ => ?_ | refine gX fun _ _ => ?_ | refine gT ?_ | refine gF ?_ | refine gI ?_)
    refine E_if (fun hc => ?_) (fun hc => ?_)
    · rw [if_pos hc] at h
      (repeat first | refine gS ?_ | refine gA fun _ => ?_ | refine gX fun _ _ => ?_ | refine gT ?_ | refine gF ?_ | refine gI ?_)
      exact sm (rwrite (H := cel true br 33 [I 0, I 0, nil, nil] :: cel true bo 42 (opL o bv kv t u) :: H) hw hbl (fin _ h))
    · rw [if_neg hc] at h
      (repeat first | refine gS ?_ | refine gA fun _ => ?_ | refine gX fun _ _ => ?_ | refine gT ?_ | refine gF ?_ | refine gI ?_)
      refine E_if (fun hc => ?_) (fun hc => ?_)
      · rw [if_pos hc] at h
        (repeat first | refine gS ?_ | refine gA fun _ => ?_ | refine gX fun _ _ => ?_ | refine gT ?_ | refine gF ?_ | refine gI ?_)
        exact sm (rcommit (H := cel true br 33 [I 0, I 0, nil, nil] :: cel true bo 42 (opL o bv kv t u) :: H) hw hnl hfl (fin _ h))
      · rw [if_neg hc] at h
        (repeat first | refine gS ?_ | refine gA fun _ => ?_ | refine gX fun _ _ => ?_ | refine gT ?_ | refine gF ?_ | refine gI ?_)
        refine E_if (fun hc => ?_) (fun hc => ?_)
        · rw [if_pos hc] at h
          unfold abortM at h
          (repeat first | refine gS ?_ | refine gA fun _ => ?_ | refine gX fun _ _ => ?_ | refine gT ?_ | refine gF ?_ | refine gI ?_)
          refine fd (a := rmo a M) (rsession (by omega) ?_)
          rcases fstIdx_oof (O := M.O) (n := o.n) with ⟨e1, e2⟩ | ⟨i, s, e1, e2, e3⟩
          · rw [e2] at h
            rw [e1, show idxI none = (-1 : Int) from rfl]
            (repeat first | refine gS ?_ | refine gA fun _ => ?_ | refine gX fun _ _ => ?_ | refine gT ?_ | refine gF ?_ | refine gI ?_)
            exact sm (herr 9 h)
          · rw [e3] at h
            simp only at h
            rw [e1, show idxI (some i) = (i : Int) from rfl]
            refine goS ?_
            refine E_ifF (by omega) ?_
            refine rlost hw e1 ?_
            refine E_build (l := [I 0, I 0, nil, nil]) str_ans ?_
            (repeat first | refine gS ?_ | refine gA fun _ => ?_ | refine gX fun _ _ => ?_ | refine gT ?_ | refine gF ?_ | refine gI ?_)
            exact sm (ansE (A := okA) rfl rfl h)
        · rw [if_neg hc] at h
          refine sm (G := rmo a M :: cel true br 33 [I 0, I 0, nil, nil] :: cel true bo 42 (opL o bv kv t u) :: H) ?_
          refine E_join1 [ptr a, .bool sp, ptr bo, ptr br, I o.d, .bool (decide (o.d = 5 ∨ o.d = 6 ∨ o.d = 7 ∨ o.d = 8 ∨ o.d = 9))] (rmo a M :: cel true br 33 [I 0, I 0, nil, nil] :: cel true bo 42 (opL o bv kv t u) :: H) (fun q hq => ?_) ?_
          · have fin2 : ∀ b : Bool, decide (o.d = 5 ∨ o.d = 6 ∨ o.d = 7 ∨ o.d = 8 ∨ o.d = 9) = b → E B (rmo a M :: cel true br 33 [I 0, I 0, nil, nil] :: cel true bo 42 (opL o bv kv t u) :: H) (app 6 q [ptr a, .bool sp, ptr bo, ptr br, I o.d, .bool b]) := fun b hb => hb ▸ hq
            (repeat first | refine gS ?_ | refine gA fun _ => ?_ | refine gX fun _ _ => ?_ | refine gT ?_ | refine gF ?_ | refine gI ?_)
            refine E_if (fun hc => ?_) (fun hc => ?_)
            · rw [decide_eq_true hc]
              exact sm (fin2 true (decide_eq_true (by omega)))
            · skip
              (repeat first | refine gS ?_ | refine gA fun _ => ?_ | refine gX fun _ _ => ?_ | refine gT ?_ | refine gF ?_ | refine gI ?_)
              refine E_if (fun hc => ?_) (fun hc => ?_)
              · rw [decide_eq_true hc]
                exact sm (fin2 true (decide_eq_true (by omega)))
              · skip
                (repeat first | refine gS ?_ | refine gA fun _ => ?_ | refine gX fun _ _ => ?_ | refine gT ?_ | refine gF ?_ | refine gI ?_)
                refine E_if (fun hc => ?_) (fun hc => ?_)
                · rw [decide_eq_true hc]
                  exact sm (fin2 true (decide_eq_true (by omega)))
                · skip
                  (repeat first | refine gS ?_ | refine gA fun _ => ?_ | refine gX fun _ _ => ?_ | refine gT ?_ | refine gF ?_ | refine gI ?_)
                  refine E_if (fun hc => ?_) (fun hc => ?_)
                  · rw [decide_eq_true hc]
                    exact sm (fin2 true (decide_eq_true (by omega)))
                  · skip
                    (repeat first | refine gS ?_ | refine gA fun _ => ?_ | refine gX fun _ _ => ?_ | refine gT ?_ | refine gF ?_ | refine gI ?_)
                    refine sm (fin2 _ ?_)
                    rw [decide_eq_decide]; omega
          · refine E_fa fun _ => ?_
            refine E_if (fun hc => ?_) (fun hc => ?_)
            · have hc' := hc
              rw [if_pos hc] at h
              (repeat first | refine gS ?_ | refine gA fun _ => ?_ | refine gX fun _ _ => ?_ | refine gT ?_ | refine gF ?_ | refine gI ?_)
              exact sm (rtold (H := cel true br 33 [I 0, I 0, nil, nil] :: cel true bo 42 (opL o bv kv t u) :: H) (t := t) (u := u) hw (by omega) hh hc' (fin (toldA M o, M) h))
            · rw [if_neg hc] at h
              (repeat first | refine gS ?_ | refine gA fun _ => ?_ | refine gX fun _ _ => ?_ | refine gT ?_ | refine gF ?_ | refine gI ?_)
              refine E_if (fun hc => ?_) (fun hc => ?_)
              · rw [if_pos hc] at h
                unfold removeM at h
                (repeat first | refine gS ?_ | refine gA fun _ => ?_ | refine gX fun _ _ => ?_ | refine gT ?_ | refine gF ?_ | refine gI ?_)
                refine fd (a := rmo a M) (rfind hw.n ?_)
                rcases find_live (V := M.V) o.name o.gen with ⟨e1, e2⟩ | ⟨i, x, e1, e2, e3⟩
                · rw [e2] at h
                  simp only at h
                  rw [e1, show idxI none = (-1 : Int) from rfl]
                  (repeat first | refine gS ?_ | refine gA fun _ => ?_ | refine gX fun _ _ => ?_ | refine gT ?_ | refine gF ?_ | refine gI ?_)
                  exact sm (herr 9 h)
                · rw [e3] at h
                  simp only at h
                  rw [e1, show idxI (some i) = (i : Int) from rfl]
                  refine goS ?_
                  refine E_ifF (by omega) ?_
                  refine rgone hw e2 ?_
                  have hxn : x.name = o.name := (fof_mem.1 (List.mem_filter.1 (List.mem_of_getLast? e3)).1).2
                  rw [hxn]
                  refine rsweep (M := { M with V := markV M.V o.name x.gen }) (hw.map (mark_f4 o.name x.gen)) (by simp only; omega) hh ?_
                  refine E_build (l := [I 0, I 0, nil, nil]) str_ans ?_
                  (repeat first | refine gS ?_ | refine gA fun _ => ?_ | refine gX fun _ _ => ?_ | refine gT ?_ | refine gF ?_ | refine gI ?_)
                  exact sm (ansE (A := okA) rfl rfl h)
              · rw [if_neg hc] at h
                (repeat first | refine gS ?_ | refine gA fun _ => ?_ | refine gX fun _ _ => ?_ | refine gT ?_ | refine gF ?_ | refine gI ?_)
                refine sm (G := rmo a M :: cel true br 33 [I 0, I 0, nil, nil] :: cel true bo 42 (opL o bv kv t u) :: H) ?_
                refine E_join1 [ptr a, .bool sp, ptr bo, ptr br, I o.d, .bool (decide (o.d = 11 ∨ o.d = 12))] (rmo a M :: cel true br 33 [I 0, I 0, nil, nil] :: cel true bo 42 (opL o bv kv t u) :: H) (fun q hq => ?_) ?_
                · have fin2 : ∀ b : Bool, decide (o.d = 11 ∨ o.d = 12) = b → E B (rmo a M :: cel true br 33 [I 0, I 0, nil, nil] :: cel true bo 42 (opL o bv kv t u) :: H) (app 6 q [ptr a, .bool sp, ptr bo, ptr br, I o.d, .bool b]) := fun b hb => hb ▸ hq
                  (repeat first | refine gS ?_ | refine gA fun _ => ?_ | refine gX fun _ _ => ?_ | refine gT ?_ | refine gF ?_ | refine gI ?_)
                  refine E_if (fun hc => ?_) (fun hc => ?_)
                  · rw [decide_eq_true hc]
                    exact sm (fin2 true (decide_eq_true (by omega)))
                  · skip
                    (repeat first | refine gS ?_ | refine gA fun _ => ?_ | refine gX fun _ _ => ?_ | refine gT ?_ | refine gF ?_ | refine gI ?_)
                    refine sm (fin2 _ ?_)
                    rw [decide_eq_decide]; omega
                · refine E_fa fun _ => ?_
                  refine E_if (fun hc => ?_) (fun hc => ?_)
                  · have e : (if o.d = 11 then snapM M o sp else if o.d = 12 then unsnapM M o else if o.d = 13 then tickM M o else if o.d = 14 then expireM M o else if o.d = 15 then (cleanA o sp, M) else if o.d = 16 ∨ o.d = 17 ∨ o.d = 18 ∨ o.d = 19 ∨ o.d = 20 ∨ o.d = 21 then (okA, M) else (errA 4, M)) = (if o.d = 11 then snapM M o sp else unsnapM M o) := by
                      by_cases h11 : o.d = 11
                      · rw [if_pos h11, if_pos h11]
                      · rw [if_neg h11, if_neg h11, if_pos (by omega)]
                    rw [e] at h
                    (repeat first | refine gS ?_ | refine gA fun _ => ?_ | refine gX fun _ _ => ?_ | refine gT ?_ | refine gF ?_ | refine gI ?_)
                    exact sm (rshots (H := cel true br 33 [I 0, I 0, nil, nil] :: cel true bo 42 (opL o bv kv t u) :: H) (t := t) (u := u) hw hn2 hs16 hh hc (fin _ h))
                  · rw [if_neg (by omega), if_neg (by omega)] at h
                    (repeat first | refine gS ?_ | refine gA fun _ => ?_ | refine gX fun _ _ => ?_ | refine gT ?_ | refine gF ?_ | refine gI ?_)
                    refine E_if (fun hc => ?_) (fun hc => ?_)
                    · rw [if_pos hc] at h
                      unfold tickM at h
                      refine sm (G := rmo a M :: cel true br 33 [I 0, I 0, nil, nil] :: cel true bo 42 (opL o bv kv t u) :: H) ?_
                      refine E_join1 [ptr a, ptr bo, ptr br, .bool (decide (o.n < 0 ∨ 9007199254740991 - M.now < o.n))] (rmo a M :: cel true br 33 [I 0, I 0, nil, nil] :: cel true bo 42 (opL o bv kv t u) :: H) (fun q hq => ?_) ?_
                      · have fin2 : ∀ b : Bool, decide (o.n < 0 ∨ 9007199254740991 - M.now < o.n) = b → E B (rmo a M :: cel true br 33 [I 0, I 0, nil, nil] :: cel true bo 42 (opL o bv kv t u) :: H) (app 4 q [ptr a, ptr bo, ptr br, .bool b]) := fun b hb => hb ▸ hq
                        by_cases h0 : o.n < 0
                        · (repeat first | refine gS ?_ | refine gA fun _ => ?_ | refine gX fun _ _ => ?_ | refine gT ?_ | refine gF ?_ | refine gI ?_)
                          exact sm (fin2 true (decide_eq_true (.inl h0)))
                        · (repeat first | refine gS ?_ | refine gA fun _ => ?_ | refine gX fun _ _ => ?_ | refine gT ?_ | refine gF ?_ | refine gI ?_)
                          refine fd (a := rmo a M) ?_
                          refine E_rmo fun vs ss os Lv Ls Lo Lh SS iv is io iV iS iO hsl hsh => ?_
                          (repeat first | refine gS ?_ | refine gA fun _ => ?_ | refine gX fun _ _ => ?_ | refine gT ?_ | refine gF ?_ | refine gI ?_)
                          refine sm (G := cel true a 70 [vs, ss, os, I M.began, I M.now, I M.quota] :: spool rvC Lv :: spool rsC Ls :: spool roC Lo :: spool hC Lh :: cel true br 33 [I 0, I 0, nil, nil] :: cel true bo 42 (opL o bv kv t u) :: H) ?_
                          refine E_rmoS vs ss os (SS := SS) iV iS iO hsl hsh rfl rfl rfl ?_
                          refine fin2 _ ?_
                          rw [decide_eq_decide]; omega
                      · refine E_fa fun _ => ?_
                        refine E_if (fun hc5 => ?_) (fun hc5 => ?_)
                        · rw [if_pos hc5] at h
                          exact herr 2 h
                        · rw [if_neg hc5] at h
                          refine E_rmo fun vs ss os Lv Ls Lo Lh SS iv is io iV iS iO hsl hsh => ?_
                          (repeat first | refine gS ?_ | refine gA fun _ => ?_ | refine gX fun _ _ => ?_ | refine gT ?_ | refine gF ?_ | refine gI ?_)
                          refine E_build (l := [I 0, I 0, nil, nil]) str_ans ?_
                          (repeat first | refine gS ?_ | refine gA fun _ => ?_ | refine gX fun _ _ => ?_ | refine gT ?_ | refine gF ?_ | refine gI ?_)
                          refine sm (G := cel true a 70 [vs, ss, os, I M.began, I (M.now + o.n), I M.quota] :: spool rvC Lv :: spool rsC Ls :: spool roC Lo :: spool hC Lh :: H) ?_
                          refine E_rmoS (M := { M with now := M.now + o.n }) vs ss os (SS := SS) iV iS iO hsl hsh rfl rfl rfl ?_
                          exact ansE (A := okA) rfl rfl h
                    · rw [if_neg hc] at h
                      (repeat first | refine gS ?_ | refine gA fun _ => ?_ | refine gX fun _ _ => ?_ | refine gT ?_ | refine gF ?_ | refine gI ?_)
                      refine E_if (fun hc => ?_) (fun hc => ?_)
                      · rw [if_pos hc] at h
                        refine goS ?_
                        refine E_ldN (cs := [I o.last, I o.young, I o.step, I o.count]) rfl rfl ?_
                        exact sm (rexpire (H := cel true br 33 [I 0, I 0, nil, nil] :: cel true bo 42 (opL o bv kv t u) :: H) hw (by omega) hh (fin _ h))
                      · rw [if_neg hc] at h
                        (repeat first | refine gS ?_ | refine gA fun _ => ?_ | refine gX fun _ _ => ?_ | refine gT ?_ | refine gF ?_ | refine gI ?_)
                        refine E_if (fun hc => ?_) (fun hc => ?_)
                        · rw [if_pos hc] at h
                          unfold cleanA at h
                          refine sm (G := rmo a M :: cel true br 33 [I 0, I 0, nil, nil] :: cel true bo 42 (opL o bv kv t u) :: H) ?_
                          refine E_join1 [.bool sp, ptr br, .bool (decide (o.n < 0 ∨ 100 < o.n))] (rmo a M :: cel true br 33 [I 0, I 0, nil, nil] :: cel true bo 42 (opL o bv kv t u) :: H) (fun q hq => ?_) ?_
                          · have fin2 : ∀ b : Bool, decide (o.n < 0 ∨ 100 < o.n) = b → E B (rmo a M :: cel true br 33 [I 0, I 0, nil, nil] :: cel true bo 42 (opL o bv kv t u) :: H) (app 3 q [.bool sp, ptr br, .bool b]) := fun b hb => hb ▸ hq
                            by_cases h0 : o.n < 0
                            · (repeat first | refine gS ?_ | refine gA fun _ => ?_ | refine gX fun _ _ => ?_ | refine gT ?_ | refine gF ?_ | refine gI ?_)
                              exact sm (fin2 true (decide_eq_true (.inl h0)))
                            · (repeat first | refine gS ?_ | refine gA fun _ => ?_ | refine gX fun _ _ => ?_ | refine gT ?_ | refine gF ?_ | refine gI ?_)
                              refine sm (fin2 _ ?_)
                              rw [decide_eq_decide]; omega
                          · refine E_fa fun _ => ?_
                            refine E_if (fun hc5 => ?_) (fun hc5 => ?_)
                            · rw [if_pos hc5] at h
                              exact herr 2 h
                            · rw [if_neg hc5] at h
                              cases sp with
                              | true =>
                                refine E_tt ?_
                                exact herr 8 h
                              | false =>
                                refine E_ff ?_
                                refine E_build (l := [I 0, I 0, nil, nil]) str_ans ?_
                                (repeat first | refine gS ?_ | refine gA fun _ => ?_ | refine gX fun _ _ => ?_ | refine gT ?_ | refine gF ?_ | refine gI ?_)
                                exact sm (ansE (A := okA) rfl rfl h)
                        · rw [if_neg hc] at h
                          (repeat first | refine gS ?_ | refine gA fun _ => ?_ | refine gX fun _ _ => ?_ | refine gT ?_ | refine gF ?_ | refine gI ?_)
                          refine sm (G := rmo a M :: cel true br 33 [I 0, I 0, nil, nil] :: cel true bo 42 (opL o bv kv t u) :: H) ?_
                          refine E_join1 [ptr br, .bool (decide (o.d = 16 ∨ o.d = 17 ∨ o.d = 18 ∨ o.d = 19 ∨ o.d = 20 ∨ o.d = 21))] (rmo a M :: cel true br 33 [I 0, I 0, nil, nil] :: cel true bo 42 (opL o bv kv t u) :: H) (fun q hq => ?_) ?_
                          · have fin2 : ∀ b : Bool, decide (o.d = 16 ∨ o.d = 17 ∨ o.d = 18 ∨ o.d = 19 ∨ o.d = 20 ∨ o.d = 21) = b → E B (rmo a M :: cel true br 33 [I 0, I 0, nil, nil] :: cel true bo 42 (opL o bv kv t u) :: H) (app 2 q [ptr br, .bool b]) := fun b hb => hb ▸ hq
                            (repeat first | refine gS ?_ | refine gA fun _ => ?_ | refine gX fun _ _ => ?_ | refine gT ?_ | refine gF ?_ | refine gI ?_)
                            refine E_if (fun hc => ?_) (fun hc => ?_)
                            · rw [decide_eq_true hc]
                              exact sm (fin2 true (decide_eq_true (by omega)))
                            · skip
                              (repeat first | refine gS ?_ | refine gA fun _ => ?_ | refine gX fun _ _ => ?_ | refine gT ?_ | refine gF ?_ | refine gI ?_)
                              refine E_if (fun hc => ?_) (fun hc => ?_)
                              · rw [decide_eq_true hc]
                                exact sm (fin2 true (decide_eq_true (by omega)))
                              · skip
                                (repeat first | refine gS ?_ | refine gA fun _ => ?_ | refine gX fun _ _ => ?_ | refine gT ?_ | refine gF ?_ | refine gI ?_)
                                refine E_if (fun hc => ?_) (fun hc => ?_)
                                · rw [decide_eq_true hc]
                                  exact sm (fin2 true (decide_eq_true (by omega)))
                                · skip
                                  (repeat first | refine gS ?_ | refine gA fun _ => ?_ | refine gX fun _ _ => ?_ | refine gT ?_ | refine gF ?_ | refine gI ?_)
                                  refine E_if (fun hc => ?_) (fun hc => ?_)
                                  · rw [decide_eq_true hc]
                                    exact sm (fin2 true (decide_eq_true (by omega)))
                                  · skip
                                    (repeat first | refine gS ?_ | refine gA fun _ => ?_ | refine gX fun _ _ => ?_ | refine gT ?_ | refine gF ?_ | refine gI ?_)
                                    refine E_if (fun hc => ?_) (fun hc => ?_)
                                    · rw [decide_eq_true hc]
                                      exact sm (fin2 true (decide_eq_true (by omega)))
                                    · skip
                                      (repeat first | refine gS ?_ | refine gA fun _ => ?_ | refine gX fun _ _ => ?_ | refine gT ?_ | refine gF ?_ | refine gI ?_)
                                      refine sm (fin2 _ ?_)
                                      rw [decide_eq_decide]; omega
                          · refine E_fa fun _ => ?_
                            refine E_if (fun hc => ?_) (fun hc => ?_)
                            · rw [if_pos hc] at h
                              refine E_build (l := [I 0, I 0, nil, nil]) str_ans ?_
                              (repeat first | refine gS ?_ | refine gA fun _ => ?_ | refine gX fun _ _ => ?_ | refine gT ?_ | refine gF ?_ | refine gI ?_)
                              exact sm (ansE (A := okA) rfl rfl h)
                            · rw [if_neg hc] at h
                              exact herr 4 h
end Go.Proofs.YtabpaknfenpkoaaGreat.Mod
