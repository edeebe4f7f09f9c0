/-
  Model: the document's stays, expire.
-/
import Derived.Test.YtabpaknfenpkoaaGreatRdD
set_option linter.unusedSimpArgs false
set_option linter.unusedVariables false
set_option linter.unusedSectionVars false
namespace Go.Proofs.YtabpaknfenpkoaaGreat.Mod
open Go Go.SL Go.Proofs Go.Proofs.YtabpaknfenpkoaaGreat.Sh
variable {B : World} {H : List Asrt} {K : Value → WT} {W : WT}
variable {a : Nat} {M : Mo} {o : Od} {bv kv : Value} {t u : Int}
abbrev cI (n : Int) : List Value := [.int .i64 n]
instance : Enc cI 1 := ⟨fun _ => rfl, fun x y hy => by simp at hy; subst hy; rfl⟩
theorem rvC_eq (v : Ver) : rvC v = [str v.name, I v.gen, I v.time, str v.text, .bool v.gone] := rfl
def inL (x : Ver) (w : Ver) : Bool := decide (w.name = x.name) && !w.gone
theorem liveL_filter (V : List Ver) (x : Ver) : liveL V x.name = V.filter (inL x) := by
  unfold liveL fof
  rw [List.filter_filter]
  refine List.filter_congr fun v _ => ?_
  exact Bool.and_comm _ _
theorem addN_len (l : List Int) (x : Int) : (addN l x).length ≤ l.length + 1 := by unfold addN; split <;> simp
theorem fold_len : ∀ (xs l : List Int), (xs.foldl addN l).length ≤ l.length + xs.length
  | [], l => by simp
  | x :: xs, l => by
    have h1 := fold_len xs (addN l x)
    have h2 := addN_len l x
    simp only [List.foldl_cons, List.length_cons]; omega
abbrev keepL (o : Od) : List Value := [I o.last, I o.young, I o.step, I o.count]
attribute [local irreducible] S.pick S.ld S.ldN S.st S.box S.nc S.fad S.ixS S.ixA S.chr S.prt S.ext S.bin S.sh S.sbin S.beq S.neg1 S.com1 S.not1 S.cvt S.str1 S.lenS S.len S.cap S.lenM S.mx S.mn S.mkM S.cond S.gd S.fa S.dr S.rck S.join S.loop S.cvv S.eqv S.slc S.slcS S.b2s S.lk V U CF Gives E cel mpb osl ros dct dit itr lpo dfo
set_option maxRecDepth 4000
attribute [local irreducible] mo ansH rmo
theorem rstays {x : Ver} (hw : Wf M) (hk : keepOk o = true) (hx : x ∈ M.V) (h : E B (rmo a M :: H) (K (.bool (staysM M o x)))) : E B (rmo a M :: H) (CF Tryz.prog 68 [ptr a, .agg (rvC x).toArray, .agg #[I o.last, I o.young, I o.step, I o.count]] K) := by
  have hk1 : 0 ≤ o.last ∧ o.last ≤ 9007199254740991 ∧ 0 ≤ o.young ∧ o.young ≤ 9007199254740991 ∧ 1 ≤ o.step ∧ o.step ≤ 9007199254740991 ∧ 0 ≤ o.count ∧ o.count ≤ 9007199254740991 := by simpa [keepOk] using hk
  have hxt := (hw.vt x hx).2
  have hnow := hw.t
  have hMn := hw.n
  unfold staysM at h
  rw [liveL_filter] at h
  refine E_rmo fun vs ss os Lv Ls Lo Lh SS iv is io iV iS iO hsl hsh => ?_
  have hend := E_rmoS vs ss os (SS := SS) iV iS iO hsl hsh rfl rfl rfl h
  have rV := rs_pool (B := B) (enc := rvC) iV
  refine E_mono (W := s68 _ _ _ K) ?_ fun _ => c68
  unfold s68
  simp only [rvC_eq]
  (repeat first | refine gS ?_ | refine gA fun _ => ?_ | refine gX fun _ _ => ?_ | refine gT ?_ | refine gF ?_ | refine gI ?_)
  rename_i bx bk
  refine E_bsl0 u_ints elt_int fun bz => ?_
  refine E_slsC (enc := cI) [] 0 rfl rfl ?_
  refine E_loop (σ := Nat × Value) (fun s => s.1 ≤ M.V.length ∧ isCell s.2 = true)
    (fun s => [ptr a, ptr bx, ptr bk, I (((M.V.take s.1).filter (inL x)).countP fun w => decide (x.gen < w.gen)), .bool (((M.V.take s.1).filter (inL x)).any (sameF o x)), s.2, I s.1])
    (fun s => sls cI 3 1 s.2 ((((M.V.take s.1).filter (inL x)).filterMap (spanF o x)).foldl addN []) :: cel true a 70 [vs, ss, os, I M.began, I M.now, I M.quota] :: spool rvC Lv :: spool rsC Ls :: spool roC Lo :: spool hC Lh :: cel true bx 102 (rvC x) :: cel true bk 37 (keepL o) :: H) (fun s => M.V.length - s.1) (0, .slice (some ⟨bz, 0, none⟩) 0 0) (fun _ => rfl) rfl ⟨Nat.zero_le _, rfl⟩ (fun W hW => E_same (by repeat (first | exact Same.refl | (refine Same.cons (by repeat (first | exact Find.here | apply Find.there)) ?_) | (refine Same.drop ?_))) hW) ?_
  rintro ⟨j, lv⟩ K0 ⟨hj, hlv⟩ hk0
  simp only at hj hlv hk0 ⊢
  have : CellI lv := ⟨hlv⟩
  have hcl : (((M.V.take j).filter (inL x)).countP fun w => decide (x.gen < w.gen)) ≤ 1000000 := by
    have h1 := List.countP_le_length (p := fun w : Ver => decide (x.gen < w.gen)) (l := (M.V.take j).filter (inL x))
    have h2 := List.length_filter_le (inL x) (M.V.take j)
    rw [List.length_take] at h2; omega
  have hll : ((((M.V.take j).filter (inL x)).filterMap (spanF o x)).foldl addN []).length ≤ 1000000 := by
    have h1 := fold_len (((M.V.take j).filter (inL x)).filterMap (spanF o x)) []
    have h2 := List.length_filterMap_le (spanF o x) ((M.V.take j).filter (inL x))
    have h3 := List.length_filter_le (inL x) (M.V.take j)
    rw [List.length_take] at h3
    simp only [List.length_nil] at h1; omega
  refine E_fa fun _ => ?_
  (repeat first | refine gS ?_ | refine gA fun _ => ?_ | refine gX fun _ _ => ?_ | refine gT ?_ | refine gF ?_ | refine gI ?_)
  refine E_if (fun hc => ?_) (fun hc => ?_)
  · have hy : M.V[j]? = some M.V[j] := List.getElem?_eq_getElem (by omega)
    generalize M.V[j] = y at hy
    have hyt := (hw.vt y (List.mem_of_getElem? hy)).2
    have hfs : (M.V.take (j + 1)).filter (inL x) = (M.V.take j).filter (inL x) ++ if inL x y then [y] else [] := by
      rw [List.take_add_one, hy, List.filter_append]
      cases hin : inL x y <;> simp [hin]
    refine E_joinC (σ := Value) (fun u => isCell u = true) (fun u => [ptr a, ptr bx, ptr bk, I (((M.V.take (j + 1)).filter (inL x)).countP fun w => decide (x.gen < w.gen)), .bool (((M.V.take (j + 1)).filter (inL x)).any (sameF o x)), u, I j])
      (fun u => sls cI 3 1 u ((((M.V.take (j + 1)).filter (inL x)).filterMap (spanF o x)).foldl addN []) :: cel true a 70 [vs, ss, os, I M.began, I M.now, I M.quota] :: spool rvC Lv :: spool rsC Ls :: spool roC Lo :: spool hC Lh :: cel true bx 102 (rvC x) :: cel true bk 37 (keepL o) :: H) (fun q hq => ?_) (fun u hu => ?_)
    · rw [hfs] at hq
      generalize hF : (M.V.take j).filter (inL x) = F at hq hcl hll ⊢
      (repeat first | refine gS ?_ | refine gA fun _ => ?_ | refine gX fun _ _ => ?_ | refine gT ?_ | refine gF ?_ | refine gI ?_)
      simp only [rvC_eq]
      (repeat first | refine gS ?_ | refine gA fun _ => ?_ | refine gX fun _ _ => ?_ | refine gT ?_ | refine gF ?_ | refine gI ?_)
      rename_i by_
      refine E_join1 [ptr a, ptr bx, ptr bk, I (F.countP fun w => decide (x.gen < w.gen)), .bool (F.any (sameF o x)), lv, I j, ptr by_, .bool (!inL x y)]
        (sls cI 3 1 lv ((F.filterMap (spanF o x)).foldl addN []) :: cel true by_ 102 (rvC y) :: cel true a 70 [vs, ss, os, I M.began, I M.now, I M.quota] :: spool rvC Lv :: spool rsC Ls :: spool roC Lo :: spool hC Lh :: cel true bx 102 (rvC x) :: cel true bk 37 (keepL o) :: H) (fun q2 hq2 => ?_) ?_
      · have fin : ∀ b : Bool, (!inL x y) = b → E B (sls cI 3 1 lv ((F.filterMap (spanF o x)).foldl addN []) :: cel true by_ 102 (rvC y) :: cel true a 70 [vs, ss, os, I M.began, I M.now, I M.quota] :: spool rvC Lv :: spool rsC Ls :: spool roC Lo :: spool hC Lh :: cel true bx 102 (rvC x) :: cel true bk 37 (keepL o) :: H) (app 9 q2 [ptr a, ptr bx, ptr bk, I (F.countP fun w => decide (x.gen < w.gen)), .bool (F.any (sameF o x)), lv, I j, ptr by_, .bool b]) := fun b hb => hb ▸ hq2
        by_cases h1 : y.name = x.name
        · (repeat first | refine gS ?_ | refine gA fun _ => ?_ | refine gX fun _ _ => ?_ | refine gT ?_ | refine gF ?_ | refine gI ?_)
          rw [decide_eq_false (by simpa using h1)]
          (repeat first | refine gS ?_ | refine gA fun _ => ?_ | refine gX fun _ _ => ?_ | refine gT ?_ | refine gF ?_ | refine gI ?_)
          exact E_same (by repeat (first | exact Same.refl | (refine Same.cons (by repeat (first | exact Find.here | apply Find.there)) ?_) | (refine Same.drop ?_))) (fin _ (by simp [inL, h1]))
        · (repeat first | refine gS ?_ | refine gA fun _ => ?_ | refine gX fun _ _ => ?_ | refine gT ?_ | refine gF ?_ | refine gI ?_)
          exact E_same (by repeat (first | exact Same.refl | (refine Same.cons (by repeat (first | exact Find.here | apply Find.there)) ?_) | (refine Same.drop ?_))) (fin true (by simp [inL, h1]))
      · refine E_fa fun _ => ?_
        cases hin : inL x y with
        | false =>
          rw [hin] at hq
          simp only [Bool.false_eq_true, if_false, List.append_nil] at hq
          refine E_tt ?_
          exact sm (hq lv hlv)
        | true =>
          rw [hin] at hq
          simp only [if_true] at hq
          refine E_ff ?_
          have hcs : (F ++ [y]).countP (fun w => decide (x.gen < w.gen)) = F.countP (fun w => decide (x.gen < w.gen)) + if x.gen < y.gen then 1 else 0 := by
            rw [List.countP_append]
            by_cases h : x.gen < y.gen <;> simp [h]
          have has : (F ++ [y]).any (sameF o x) = (F.any (sameF o x) || sameF o x y) := by rw [List.any_append]; simp
          have hfm : (F ++ [y]).filterMap (spanF o x) = F.filterMap (spanF o x) ++ (match spanF o x y with | some z => [z] | none => []) := by
            rw [List.filterMap_append]
            congr 1
            cases hsp : spanF o x y with
            | none => simp [hsp]
            | some z => simp [hsp]
          rw [hcs, has, hfm] at hq
          refine E_join1 [ptr a, ptr bx, ptr bk, I (F.countP (fun w => decide (x.gen < w.gen)) + if x.gen < y.gen then 1 else 0 : Nat), .bool (F.any (sameF o x) || sameF o x y), lv, I j, ptr by_]
            (sls cI 3 1 lv ((F.filterMap (spanF o x)).foldl addN []) :: cel true by_ 102 (rvC y) :: cel true a 70 [vs, ss, os, I M.began, I M.now, I M.quota] :: spool rvC Lv :: spool rsC Ls :: spool roC Lo :: spool hC Lh :: cel true bx 102 (rvC x) :: cel true bk 37 (keepL o) :: H) (fun q3 hq3 => ?_) ?_
          · simp only [rvC_eq]
            (repeat first | refine gS ?_ | refine gA fun _ => ?_ | refine gX fun _ _ => ?_ | refine gT ?_ | refine gF ?_ | refine gI ?_)
            refine E_if (fun hgt => ?_) (fun hgt => ?_)
            · rw [if_pos hgt] at hq3
              have hsx : sameF o x y = decide (y.time / o.step = x.time / o.step) := by
                show (decide (x.gen < y.gen) && _) = _
                rw [decide_eq_true hgt, Bool.true_and]
              rw [hsx] at hq3
              refine E_addI (by omega) (by omega) ?_
              generalize F.any (sameF o x) = b at hq3 ⊢
              have ec : ((F.countP (fun w => decide (x.gen < w.gen)) + 1 : Nat) : Int) = (F.countP (fun w => decide (x.gen < w.gen)) : Int) + 1 := by omega
              rw [ec] at hq3
              cases b with
              | true =>
                (repeat first | refine gS ?_ | refine gA fun _ => ?_ | refine gX fun _ _ => ?_ | refine gT ?_ | refine gF ?_ | refine gI ?_)
                exact E_same (by repeat (first | exact Same.refl | (refine Same.cons (by repeat (first | exact Find.here | apply Find.there)) ?_) | (refine Same.drop ?_))) hq3
              | false =>
                (repeat first | refine gS ?_ | refine gA fun _ => ?_ | refine gX fun _ _ => ?_ | refine gT ?_ | refine gF ?_ | refine gI ?_)
                refine E_quoI (by omega) (by omega) (by omega) ?_
                (repeat first | refine gS ?_ | refine gA fun _ => ?_ | refine gX fun _ _ => ?_ | refine gT ?_ | refine gF ?_ | refine gI ?_)
                refine E_quoI (by omega) (by omega) (by omega) ?_
                (repeat first | refine gS ?_ | refine gA fun _ => ?_ | refine gX fun _ _ => ?_ | refine gT ?_ | refine gF ?_ | refine gI ?_)
                exact E_same (by repeat (first | exact Same.refl | (refine Same.cons (by repeat (first | exact Find.here | apply Find.there)) ?_) | (refine Same.drop ?_))) hq3
            · rw [if_neg hgt] at hq3
              have hsx : sameF o x y = false := by
                show (decide (x.gen < y.gen) && _) = _
                rw [decide_eq_false hgt, Bool.false_and]
              rw [hsx, Bool.or_false] at hq3
              exact E_same (by repeat (first | exact Same.refl | (refine Same.cons (by repeat (first | exact Find.here | apply Find.there)) ?_) | (refine Same.drop ?_))) hq3
          · refine E_fa fun _ => ?_
            simp only [rvC_eq]
            (repeat first | refine gS ?_ | refine gA fun _ => ?_ | refine gX fun _ _ => ?_ | refine gT ?_ | refine gF ?_ | refine gI ?_)
            refine E_quoI (by omega) (by omega) (by omega) ?_
            (repeat first | refine gS ?_ | refine gA fun _ => ?_ | refine gX fun _ _ => ?_ | refine gT ?_ | refine gF ?_ | refine gI ?_)
            refine E_quoI (by omega) (by omega) (by omega) ?_
            refine E_gtr ?_
            refine E_if (fun hsp => ?_) (fun hsp => ?_)
            · have hsp' : spanF o x y = some (y.time / o.step) := if_pos hsp
              rw [hsp', List.foldl_append] at hq
              simp only [List.foldl_cons, List.foldl_nil] at hq
              generalize hLL : (F.filterMap (spanF o x)).foldl addN [] = LL at hq hll ⊢
              refine E_loop (n := 10) (σ := Nat) (fun m => m ≤ LL.length) (fun m => [ptr a, ptr bx, ptr bk, I (F.countP (fun w => decide (x.gen < w.gen)) + if x.gen < y.gen then 1 else 0 : Nat), .bool (F.any (sameF o x) || sameF o x y), lv, I j, ptr by_, .bool (decide (y.time / o.step ∈ LL.take m)), I m])
                (fun _ => sls cI 3 1 lv LL :: cel true by_ 102 [str y.name, I y.gen, I y.time, str y.text, .bool y.gone] :: cel true a 70 [vs, ss, os, I M.began, I M.now, I M.quota] :: spool rvC Lv :: spool rsC Ls :: spool roC Lo :: spool hC Lh :: cel true bx 102 [str x.name, I x.gen, I x.time, str x.text, .bool x.gone] :: cel true bk 37 (keepL o) :: H) (fun m => LL.length - m) 0 (fun _ => rfl) (by simp) (Nat.zero_le _) (fun W hW => sm hW) ?_
              intro m K1 hm hm1
              refine E_fa fun _ => ?_
              (repeat first | refine gS ?_ | refine gA fun _ => ?_ | refine gX fun _ _ => ?_ | refine gT ?_ | refine gF ?_ | refine gI ?_)
              refine E_if (fun hc4 => ?_) (fun hc4 => ?_)
              · have hz : LL[m]? = some LL[m] := List.getElem?_eq_getElem (by omega)
                generalize LL[m] = z at hz
                have hm2 := hm1 (m + 1) (by omega) (by omega)
                have em : decide (y.time / o.step ∈ LL.take (m + 1)) = (decide (y.time / o.step ∈ LL.take m) || decide (z = y.time / o.step)) := by
                  rw [List.take_add_one, hz]
                  rw [Bool.eq_iff_iff]
                  simp only [Option.toList_some, List.mem_append, List.mem_singleton, Bool.or_eq_true, decide_eq_true_eq]
                  constructor
                  · rintro (h | h)
                    · exact .inl h
                    · exact .inr h.symm
                  · rintro (h | h)
                    · exact .inl h
                    · exact .inr h.symm
                rw [em] at hm2
                generalize decide (y.time / o.step ∈ LL.take m) = b at hm2 ⊢
                cases b with
                | true =>
                  (repeat first | refine gS ?_ | refine gA fun _ => ?_ | refine gX fun _ _ => ?_ | refine gT ?_ | refine gF ?_ | refine gI ?_)
                  exact hm2
                | false =>
                  (repeat first | refine gS ?_ | refine gA fun _ => ?_ | refine gX fun _ _ => ?_ | refine gT ?_ | refine gF ?_ | refine gI ?_)
                  refine E_quoI (by omega) (by omega) (by omega) ?_
                  (repeat first | refine gS ?_ | refine gA fun _ => ?_ | refine gX fun _ _ => ?_ | refine gT ?_ | refine gF ?_ | refine gI ?_)
                  exact hm2
              · have hme : m = LL.length := by omega
                subst hme
                rw [List.take_length]
                unfold addN at hq
                by_cases hin2 : y.time / o.step ∈ LL
                · rw [if_pos hin2] at hq
                  rw [decide_eq_true hin2]
                  (repeat first | refine gS ?_ | refine gA fun _ => ?_ | refine gX fun _ _ => ?_ | refine gT ?_ | refine gF ?_ | refine gI ?_)
                  exact E_same (by repeat (first | exact Same.refl | (refine Same.cons (by repeat (first | exact Find.here | apply Find.there)) ?_) | (refine Same.drop ?_))) (hq lv hlv)
                · rw [if_neg hin2] at hq
                  rw [decide_eq_false hin2]
                  (repeat first | refine gS ?_ | refine gA fun _ => ?_ | refine gX fun _ _ => ?_ | refine gT ?_ | refine gF ?_ | refine gI ?_)
                  refine E_quoI (by omega) (by omega) (by omega) ?_
                  refine E_use (sls cI 3 1 lv) (E_sapp1 (enc := cI) (y.time / o.step) u_ints elt_int rfl (by decide) (by omega) (by omega) fun u' _ => ?_)
                  exact E_same (by repeat (first | exact Same.refl | (refine Same.cons (by repeat (first | exact Find.here | apply Find.there)) ?_) | (refine Same.drop ?_))) (hq u' CellI.pf)
            · have hsp' : spanF o x y = none := if_neg hsp
              rw [hsp', List.append_nil] at hq
              exact E_same (by repeat (first | exact Same.refl | (refine Same.cons (by repeat (first | exact Find.here | apply Find.there)) ?_) | (refine Same.drop ?_))) (hq lv hlv)
    · have : CellI u := ⟨hu⟩
      refine E_fa fun _ => ?_
      refine E_addI (by omega) (by omega) ?_
      exact hk0 (j + 1, u) ⟨by simp only; omega, hu⟩ (by simp only; omega)
  · have hje : j = M.V.length := by omega
    subst hje
    rw [List.take_length] at hll hcl ⊢
    generalize hF : M.V.filter (inL x) = F at hend hcl hll ⊢
    have fin : ∀ b : Bool, (decide ((F.countP (fun w => decide (x.gen < w.gen)) : Int) < o.last) || decide (M.now - o.young < x.time) || (!(F.any (sameF o x)) && decide (((F.filterMap (spanF o x)).foldl addN []).length < o.count))) = b → E B (cel true a 70 [vs, ss, os, I M.began, I M.now, I M.quota] :: spool rvC Lv :: spool rsC Ls :: spool roC Lo :: spool hC Lh :: H) (K (.bool b)) := fun b hb => hb ▸ hend
    (repeat first | refine gS ?_ | refine gA fun _ => ?_ | refine gX fun _ _ => ?_ | refine gT ?_ | refine gF ?_ | refine gI ?_)
    by_cases h1 : (F.countP (fun w => decide (x.gen < w.gen)) : Int) < o.last
    · (repeat first | refine gS ?_ | refine gA fun _ => ?_ | refine gX fun _ _ => ?_ | refine gT ?_ | refine gF ?_ | refine gI ?_)
      exact sm (fin true (by rw [decide_eq_true h1]; simp))
    · rw [decide_eq_false h1] at fin
      (repeat first | refine gS ?_ | refine gA fun _ => ?_ | refine gX fun _ _ => ?_ | refine gT ?_ | refine gF ?_ | refine gI ?_)
      by_cases h2 : M.now - o.young < x.time
      · (repeat first | refine gS ?_ | refine gA fun _ => ?_ | refine gX fun _ _ => ?_ | refine gT ?_ | refine gF ?_ | refine gI ?_)
        exact sm (fin true (by rw [decide_eq_true h2]; simp))
      · rw [decide_eq_false h2] at fin
        (repeat first | refine gS ?_ | refine gA fun _ => ?_ | refine gX fun _ _ => ?_ | refine gT ?_ | refine gF ?_ | refine gI ?_)
        generalize F.any (sameF o x) = b at fin ⊢
        cases b with
        | true =>
          (repeat first | refine gS ?_ | refine gA fun _ => ?_ | refine gX fun _ _ => ?_ | refine gT ?_ | refine gF ?_ | refine gI ?_)
          exact sm (fin false (by simp))
        | false =>
          (repeat first | refine gS ?_ | refine gA fun _ => ?_ | refine gX fun _ _ => ?_ | refine gT ?_ | refine gF ?_ | refine gI ?_)
          refine sm (fin _ (by simp))
end Go.Proofs.YtabpaknfenpkoaaGreat.Mod
