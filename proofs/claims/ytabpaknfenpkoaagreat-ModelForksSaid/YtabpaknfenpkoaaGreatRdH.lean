/-
  Model: the document's Snap, Unsnap.
-/
import Derived.Test.YtabpaknfenpkoaaGreatRdG
set_option linter.unusedSimpArgs false
set_option linter.unusedVariables false
set_option linter.unusedSectionVars false
namespace Go.Proofs.YtabpaknfenpkoaaGreat.Mod
open Go Go.SL Go.Proofs Go.Proofs.YtabpaknfenpkoaaGreat.Sh
variable {B : World} {H : List Asrt} {K : Value → WT} {W : WT}
variable {a : Nat} {M : Mo} {o : Od} {bv kv : Value} {t u : Int}
def RL (Lh : List (Value × List (List UInt8 × Int))) (SS : List (List UInt8 × Cv)) (S : List Sn) : Prop := SS.length = S.length ∧ ∀ (i : Nat) p s, SS[i]? = some p → S[i]? = some s → p.1 = s.name ∧ (p.2.1, s.held) ∈ Lh
theorem RL.app {Lh : List (Value × List (List UInt8 × Int))} {A C : List (List UInt8 × Cv)} {A' C' : List Sn} (h1 : RL Lh A A') (h2 : RL Lh C C') : RL Lh (A ++ C) (A' ++ C') := by
  refine ⟨by rw [List.length_append, List.length_append, h1.1, h2.1], fun i p s hp hs => ?_⟩
  rcases Nat.lt_or_ge i A.length with hlt | hge
  · rw [List.getElem?_append_left hlt] at hp
    rw [List.getElem?_append_left (by rw [← h1.1]; exact hlt)] at hs
    exact h1.2 i p s hp hs
  · rw [List.getElem?_append_right hge] at hp
    rw [List.getElem?_append_right (by rw [← h1.1]; exact hge), ← h1.1] at hs
    exact h2.2 _ p s hp hs
theorem RL.take {Lh : List (Value × List (List UInt8 × Int))} {A : List (List UInt8 × Cv)} {A' : List Sn} (h : RL Lh A A') (k : Nat) : RL Lh (A.take k) (A'.take k) := by
  refine ⟨by rw [List.length_take, List.length_take, h.1], fun i p s hp hs => ?_⟩
  rw [List.getElem?_take] at hp hs
  by_cases hi : i < k
  · rw [if_pos hi] at hp hs; exact h.2 i p s hp hs
  · rw [if_neg hi] at hp; cases hp
theorem RL.drop {Lh : List (Value × List (List UInt8 × Int))} {A : List (List UInt8 × Cv)} {A' : List Sn} (h : RL Lh A A') (k : Nat) : RL Lh (A.drop k) (A'.drop k) := by
  refine ⟨by rw [List.length_drop, List.length_drop, h.1], fun i p s hp hs => ?_⟩
  rw [List.getElem?_drop] at hp hs
  exact h.2 _ p s hp hs
theorem RL.mono {Lh Lh' : List (Value × List (List UInt8 × Int))} {A : List (List UInt8 × Cv)} {A' : List Sn} (h : RL Lh A A') (hL : ∀ p ∈ Lh, p ∈ Lh') : RL Lh' A A' := ⟨h.1, fun i p s hp hs => ⟨(h.2 i p s hp hs).1, hL _ (h.2 i p s hp hs).2⟩⟩
theorem RL.one {Lh : List (Value × List (List UInt8 × Int))} {v : Cv} {s : Sn} (h : (v.1, s.held) ∈ Lh) : RL Lh [(s.name, v)] [s] := ⟨rfl, fun i p s' hp hs => by
  cases i with
  | zero => simp at hp hs; subst hp hs; exact ⟨rfl, h⟩
  | succ i => simp at hp⟩
theorem erase_filterS {S : List Sn} (h : S.Pairwise fun a b => a.name < b.name) {i : Nat} {s : Sn} (hi : S[i]? = some s) : S.take i ++ S.drop (i + 1) = S.filter fun t => decide (t.name ≠ s.name) := by
  induction S generalizing i with
  | nil => simp at hi
  | cons c t ih =>
    have hc := (List.pairwise_cons.1 h).1
    cases i with
    | zero =>
      have e : c = s := by simpa using hi
      subst e
      have : t.filter (fun t => decide (t.name ≠ c.name)) = t := List.filter_eq_self.2 fun x hx => by
        have := hc x hx
        simpa using fun e => slt_ne this e.symm
      rw [List.filter_cons, if_neg (by simp), this]; simp
    | succ i =>
      have hi' : t[i]? = some s := by simpa using hi
      have hne : c.name ≠ s.name := slt_ne (hc s (List.mem_of_getElem? hi'))
      rw [List.filter_cons, if_pos (by simpa using hne), ← ih (List.pairwise_cons.1 h).2 hi']; simp
theorem Wf.filterS {M : Mo} (h : Wf M) (p : Sn → Bool) : Wf { M with S := M.S.filter p } where
  ss := h.ss.sublist List.filter_sublist
  g := h.g
  v := h.v
  n := h.n
  vt := h.vt
  sh := fun s hs => h.sh s (List.mem_filter.1 hs).1
  se := fun s hs => h.se s (List.mem_filter.1 hs).1
  o := h.o
  ob := h.ob
  ol := h.ol
  b := h.b
  t := h.t
  q := h.q
attribute [local irreducible] S.pick S.ld S.ldN S.st S.box S.nc S.fad S.ixS S.ixA S.chr S.prt S.ext S.bin S.sh S.sbin S.beq S.neg1 S.com1 S.not1 S.cvt S.str1 S.lenS S.len S.cap S.lenM S.mx S.mn S.mkM S.cond S.gd S.fa S.dr S.rck S.join S.loop S.cvv S.eqv S.slc S.slcS S.b2s S.lk V U CF Gives E cel mpb osl ros dct dit itr lpo dfo
set_option maxRecDepth 4000
attribute [local irreducible] mo ansH rmo
theorem rshots [CellI bv] [CellI kv] {sp : Bool} (hw : Wf M) (hn : o.shot.length ≤ 140737488355328) (hs16 : M.S.length ≤ 16) (hh : ∀ s ∈ M.S, s.held.length ≤ 1000000) (hd : o.d = 11 ∨ o.d = 12)
    (h : ∀ rv, E B (ansH (if o.d = 11 then snapM M o sp else unsnapM M o).1 rv :: rmo a (if o.d = 11 then snapM M o sp else unsnapM M o).2 :: H) (K rv)) : E B (rmo a M :: H) (CF Tryz.prog 37 [ptr a, opV o bv kv t u, .bool sp] K) := by
  refine E_mono (W := s37 _ _ _ K) ?_ fun _ => c37
  unfold s37
  have hsp := shotI_split M.S o.shot
  have hle := shotI_le M.S o.shot
  (repeat first | refine gS ?_ | refine gA fun _ => ?_ | refine gX fun _ _ => ?_ | refine gT ?_ | refine gF ?_ | refine gI ?_)
  rename_i bo br
  refine rname (by omega) ?_
  cases hk : nameOk o.shot with
  | false =>
    have e : (if o.d = 11 then snapM M o sp else unsnapM M o) = (errA 2, M) := by
      unfold snapM unsnapM
      rw [if_pos hk, if_pos hk]; split <;> rfl
    rw [e] at h
    (repeat first | refine gS ?_ | refine gA fun _ => ?_ | refine gX fun _ _ => ?_ | refine gT ?_ | refine gF ?_ | refine gI ?_)
    refine rwrong ?_
    (repeat first | refine gS ?_ | refine gA fun _ => ?_ | refine gX fun _ _ => ?_ | refine gT ?_ | refine gF ?_ | refine gI ?_)
    exact sm (ansE (A := errA 2) rfl rfl h)
  | true =>
    (repeat first | refine gS ?_ | refine gA fun _ => ?_ | refine gX fun _ _ => ?_ | refine gT ?_ | refine gF ?_ | refine gI ?_)
    refine fd (a := rmo a M) (rshot hw (by omega) ?_)
    refine sm (G := rmo a M :: cel true br 33 [I 0, I 0, nil, nil] :: cel true bo 42 (opL o bv kv t u) :: H) ?_
    have herr : ∀ (e : Int), (if o.d = 11 then snapM M o sp else unsnapM M o) = (errA e, M) → E B (rmo a M :: cel true br 33 [I 0, I 0, nil, nil] :: cel true bo 42 (opL o bv kv t u) :: H) (CF Tryz.prog 28 [I e] fun v14 => S.st 4 (ptr br) v14 fun _ => S.ldN 4 (ptr br) K) := fun e he => by
      rw [he] at h
      refine rwrong ?_
      (repeat first | refine gS ?_ | refine gA fun _ => ?_ | refine gX fun _ _ => ?_ | refine gT ?_ | refine gF ?_ | refine gI ?_)
      exact sm (ansE (A := errA e) rfl rfl h)
    (repeat first | refine gS ?_ | refine gA fun _ => ?_ | refine gX fun _ _ => ?_ | refine gT ?_ | refine gF ?_ | refine gI ?_)
    refine E_if (fun h12 => ?_) (fun h12 => ?_)
    · have eU : (if o.d = 11 then snapM M o sp else unsnapM M o) = unsnapM M o := if_neg (by omega)
      rcases shotI_is (n := o.shot) hw.ss with ⟨g1, g2⟩ | ⟨s, g1, g2, g3⟩
      · rw [show (sof M.S o.shot).isSome = false by rw [g1]; rfl]
        refine goS ?_
        refine E_tt ?_
        exact herr 9 (by rw [eU]; unfold unsnapM; rw [if_neg (by simp [hk]), if_pos (by rw [g1]; rfl)])
      · rw [show (sof M.S o.shot).isSome = true by rw [g3]; rfl]
        refine goS ?_
        refine E_ff ?_
        rw [eU] at h
        unfold unsnapM at h
        rw [if_neg (by simp [hk]), if_neg (by rw [g3]; simp)] at h
        have her := erase_filterS hw.ss g1
        rw [g2] at her
        refine E_rmo fun vs ss os Lv Ls Lo Lh SS iv is io iV iS iO hsl hsh => ?_
        have rS := rs_pool (B := B) (enc := rsC) iS
        have hil := (List.getElem?_eq_some_iff.1 g1).1
        generalize hii : shotI M.S o.shot = i at g1 her hil ⊢
        (repeat first | refine gS ?_ | refine gA fun _ => ?_ | refine gX fun _ _ => ?_ | refine gT ?_ | refine gF ?_ | refine gI ?_)
        refine E_slcS2 (enc := rsC) (l := SS) (i := 0) (j := i) (bound_nat i _) (by simp [S.bound]) (Nat.zero_le _) (by omega) fun v1 hv1 _ => ?_
        (repeat first | refine gS ?_ | refine gA fun _ => ?_ | refine gX fun _ _ => ?_ | refine gT ?_ | refine gF ?_ | refine gI ?_)
        rw [show (i : Int) + 1 = ((i + 1 : Nat) : Int) by omega]
        refine E_slcS2 (enc := rsC) (l := SS) (i := i + 1) (j := SS.length) (by simp [S.bound]) (bound_nat (i + 1) 0) (by omega) (by omega) fun v2 hv2 _ => ?_
        refine E_bsl0 u_rshots elt_rshot fun bz => ?_
        refine E_slsC (enc := rsC) [] 0 rfl rfl ?_
        (repeat (refine E_rck1 (by first | exact E_ld (E_fact rfl) | exact E_ld' (by assumption) (E_fact rfl) | exact E_b2sR (E_fact rfl) | exact E_gdnF (by assumption) (E_ld (E_fact rfl)) | exact E_gdT (by assumption) (E_ld (E_fact rfl)) | exact E_gtf (E_ld (E_fact rfl)) | exact E_gft (E_ld (E_fact rfl)) | exact E_ldNA (E_fact rfl) | exact E_ptld (E_fact rfl) | exact E_gtf (E_ldNA (E_fact rfl))) ?_)); (first | (refine E_rck0 ?_) | skip)
        refine E_sapps (enc := rsC) (l := []) (m := (SS.drop 0).take (i - 0)) u_rshots elt_rshot (by simp; omega) (by simp; omega) fun v3 _ => ?_
        (repeat (refine E_rck1 (by first | exact E_ld (E_fact rfl) | exact E_ld' (by assumption) (E_fact rfl) | exact E_b2sR (E_fact rfl) | exact E_gdnF (by assumption) (E_ld (E_fact rfl)) | exact E_gdT (by assumption) (E_ld (E_fact rfl)) | exact E_gtf (E_ld (E_fact rfl)) | exact E_gft (E_ld (E_fact rfl)) | exact E_ldNA (E_fact rfl) | exact E_ptld (E_fact rfl) | exact E_gtf (E_ldNA (E_fact rfl))) ?_)); (first | (refine E_rck0 ?_) | skip)
        refine E_sapps (enc := rsC) (m := (SS.drop (i + 1)).take (SS.length - (i + 1))) u_rshots elt_rshot (by simp; omega) (by simp; omega) fun v4 _ => ?_
        have e : [] ++ (SS.drop 0).take (i - 0) ++ (SS.drop (i + 1)).take (SS.length - (i + 1)) = SS.take i ++ SS.drop (i + 1) := by
          rw [List.nil_append, List.drop_zero, Nat.sub_zero, List.take_of_length_le (l := SS.drop (i + 1)) (by rw [List.length_drop]; exact Nat.le_refl _)]
        rw [e]
        (repeat first | refine gS ?_ | refine gA fun _ => ?_ | refine gX fun _ _ => ?_ | refine gT ?_ | refine gF ?_ | refine gI ?_)
        refine sm (G := sls rsC 104 2 v4 (SS.take i ++ SS.drop (i + 1)) :: spool rsC Ls :: cel true a 70 [vs, v4, os, I M.began, I M.now, I M.quota] :: spool rvC Lv :: spool roC Lo :: spool hC Lh :: cel true br 33 [I 0, I 0, nil, nil] :: H) ?_
        refine E_give ?_
        refine sm (G := cel true a 70 [vs, v4, os, I M.began, I M.now, I M.quota] :: spool rvC Lv :: spool rsC ((v4, SS.take i ++ SS.drop (i + 1)) :: Ls) :: spool roC Lo :: spool hC Lh :: cel true br 33 [I 0, I 0, nil, nil] :: H) ?_
        have hRL : RL Lh SS M.S := ⟨hsl, hsh⟩
        have hRL2 := (hRL.take i).app (hRL.drop (i + 1))
        rw [her] at hRL2
        refine E_rmoS (M := { M with S := M.S.filter fun t => decide (t.name ≠ o.shot) }) vs v4 os (SS := SS.take i ++ SS.drop (i + 1)) iV (by simp) iO hRL2.1 hRL2.2 rfl rfl rfl ?_
        refine rsweep (hw.filterS _) (by have := List.length_filter_le (fun t : Sn => decide (t.name ≠ o.shot)) M.S; simp only; omega) (fun s hs => hh s (List.mem_filter.1 hs).1) ?_
        refine E_build (l := [I 0, I 0, nil, nil]) str_ans ?_
        (repeat first | refine gS ?_ | refine gA fun _ => ?_ | refine gX fun _ _ => ?_ | refine gT ?_ | refine gF ?_ | refine gI ?_)
        exact sm (ansE (A := okA) rfl rfl h)
    · have h11 : o.d = 11 := by omega
      have eS : (if o.d = 11 then snapM M o sp else unsnapM M o) = snapM M o sp := if_pos h11
      rcases shotI_is (n := o.shot) hw.ss with ⟨g1, g2⟩ | ⟨s, g1, g2, g3⟩
      · rw [g1]
        refine E_ff ?_
        refine E_rmo fun vs ss os Lv Ls Lo Lh SS iv is io iV iS iO hsl hsh => ?_
        have rS := rs_pool (B := B) (enc := rsC) iS
        (repeat first | refine gS ?_ | refine gA fun _ => ?_ | refine gX fun _ _ => ?_ | refine gT ?_ | refine gF ?_ | refine gI ?_)
        refine E_rmoS vs ss os (SS := SS) iV iS iO hsl hsh rfl rfl rfl ?_
        refine E_if (fun hc => ?_) (fun hc => ?_)
        · exact herr 6 (by rw [eS]; unfold snapM; rw [if_neg (by simp [hk]), if_neg (by simp [g1]), if_pos (by omega)])
        · cases sp with
          | true =>
            refine E_tt ?_
            exact herr 8 (by rw [eS]; unfold snapM; rw [if_neg (by simp [hk]), if_neg (by simp [g1]), if_neg (by omega), if_pos rfl])
          | false =>
            rw [eS] at h
            unfold snapM at h
            rw [if_neg (by simp [hk]), if_neg (by simp [g1]), if_neg (by omega), if_neg (by decide)] at h
            refine E_ff ?_
            refine E_bsl0 u_rshots elt_rshot fun bz => ?_
            refine E_slsC (enc := rsC) [] 0 rfl rfl ?_
            refine fd (a := rmo a M) ?_
            clear rS
            refine E_rmo fun vs ss os Lv Ls Lo Lh SS iv is io iV iS iO hsl hsh => ?_
            have rS := rs_pool (B := B) (enc := rsC) iS
            generalize hii : shotI M.S o.shot = i at hsp hle ⊢
            (repeat first | refine gS ?_ | refine gA fun _ => ?_ | refine gX fun _ _ => ?_ | refine gT ?_ | refine gF ?_ | refine gI ?_)
            refine E_slcS2 (enc := rsC) (l := SS) (i := 0) (j := i) (bound_nat i _) (by simp [S.bound]) (Nat.zero_le _) (by omega) fun v1 hv1 _ => ?_
            refine E_use (sls rsC 104 2 (.slice (some ⟨bz, 0, none⟩) 0 0)) (E_sapps (enc := rsC) (l := []) (m := (SS.drop 0).take (i - 0)) u_rshots elt_rshot (by simp; omega) (by simp; omega) fun v3 _ => ?_)
            rw [List.nil_append, List.drop_zero, Nat.sub_zero]
            (repeat first | refine gS ?_ | refine gA fun _ => ?_ | refine gX fun _ _ => ?_ | refine gT ?_ | refine gF ?_ | refine gI ?_)
            refine fd (a := spool hC Lh) (pool_dup ?_)
            refine sm (G := cel true a 70 [vs, ss, os, I M.began, I M.now, I M.quota] :: spool rvC Lv :: spool rsC Ls :: spool roC Lo :: spool hC Lh :: spool hC Lh :: sls rsC 104 2 v3 (SS.take i) :: cel true br 33 [I 0, I 0, nil, nil] :: cel true bo 42 (opL o bv kv t u) :: H) ?_
            have hSl : (SS.take i).length ≤ 16 := by rw [List.length_take]; omega
            have hT : RL Lh (SS.take i) (M.S.take i) := RL.take ⟨hsl, hsh⟩ i
            refine E_rmoS vs ss os (SS := SS) iV iS iO hsl hsh rfl rfl rfl ?_
            generalize SS.take i = TS at hT hSl ⊢
            clear iV iS iO hsl hsh iv is io hv1 rS
            generalize Lh = Lh0 at hT ⊢
            refine rnames hw fun nv _ => ?_
            (repeat (refine E_rck1 (by first | exact E_ld (E_fact rfl) | exact E_ld' (by assumption) (E_fact rfl) | exact E_b2sR (E_fact rfl) | exact E_gdnF (by assumption) (E_ld (E_fact rfl)) | exact E_gdT (by assumption) (E_ld (E_fact rfl)) | exact E_gtf (E_ld (E_fact rfl)) | exact E_gft (E_ld (E_fact rfl)) | exact E_ldNA (E_fact rfl) | exact E_ptld (E_fact rfl) | exact E_gtf (E_ldNA (E_fact rfl))) ?_)); (first | (refine E_rck0 ?_) | skip)
            refine E_build (l := [str o.shot, nv]) str_rshot ?_
            refine E_use (sls rsC 104 2 v3) (E_sapp1 (enc := rsC) (o.shot, (⟨nv, CellI.pf⟩ : Cv)) u_rshots elt_rshot rfl (by decide) (by omega) (by omega) fun v5 _ => ?_)
            refine fd (a := rmo a M) ?_
            refine E_rmo fun vs ss os Lv Ls Lo Lh SS iv is io iV iS iO hsl hsh => ?_
            have rS := rs_pool (B := B) (enc := rsC) iS
            (repeat first | refine gS ?_ | refine gA fun _ => ?_ | refine gX fun _ _ => ?_ | refine gT ?_ | refine gF ?_ | refine gI ?_)
            refine E_slcS2 (enc := rsC) (l := SS) (i := i) (j := SS.length) (by simp [S.bound]) (bound_nat i 0) (by omega) (by omega) fun v6 hv6 _ => ?_
            refine E_use (sls rsC 104 2 v5) (E_sapps (enc := rsC) (m := (SS.drop i).take (SS.length - i)) u_rshots elt_rshot (by simp; omega) (by simp; omega) fun v7 _ => ?_)
            rw [List.take_of_length_le (l := SS.drop i) (by rw [List.length_drop]; exact Nat.le_refl _)]
            (repeat first | refine gS ?_ | refine gA fun _ => ?_ | refine gX fun _ _ => ?_ | refine gT ?_ | refine gF ?_ | refine gI ?_)
            refine E_build (l := [I 0, I 0, nil, nil]) str_ans ?_
            (repeat first | refine gS ?_ | refine gA fun _ => ?_ | refine gX fun _ _ => ?_ | refine gT ?_ | refine gF ?_ | refine gI ?_)
            have hS2 : TS ++ [(o.shot, (⟨nv, CellI.pf⟩ : Cv))] ++ SS.drop i = TS ++ ([(o.shot, (⟨nv, CellI.pf⟩ : Cv))] ++ SS.drop i) := List.append_assoc ..
            refine sm (G := sls hC 106 2 nv (namesV M.V) :: spool hC Lh :: spool hC Lh0 :: sls rsC 104 2 v7 (TS ++ [(o.shot, (⟨nv, CellI.pf⟩ : Cv))] ++ SS.drop i) :: spool rsC Ls :: cel true a 70 [vs, v7, os, I M.began, I M.now, I M.quota] :: spool rvC Lv :: spool roC Lo :: H) ?_
            refine E_give ?_
            refine pool_join ?_
            refine sm (G := sls rsC 104 2 v7 (TS ++ [(o.shot, (⟨nv, CellI.pf⟩ : Cv))] ++ SS.drop i) :: spool rsC Ls :: cel true a 70 [vs, v7, os, I M.began, I M.now, I M.quota] :: spool rvC Lv :: spool roC Lo :: spool hC ((nv, namesV M.V) :: Lh ++ Lh0) :: H) ?_
            refine E_give ?_
            rw [hS2]
            refine sm (G := cel true a 70 [vs, v7, os, I M.began, I M.now, I M.quota] :: spool rvC Lv :: spool rsC ((v7, TS ++ ([(o.shot, (⟨nv, CellI.pf⟩ : Cv))] ++ SS.drop i)) :: Ls) :: spool roC Lo :: spool hC ((nv, namesV M.V) :: Lh ++ Lh0) :: H) ?_
            have hR1 : RL ((nv, namesV M.V) :: Lh ++ Lh0) TS (M.S.take i) := hT.mono fun p hp => List.mem_append_right _ hp
            have hR2 : RL ((nv, namesV M.V) :: Lh ++ Lh0) (SS.drop i) (M.S.drop i) := (RL.drop ⟨hsl, hsh⟩ i).mono fun p hp => List.mem_append_left _ (List.mem_cons_of_mem _ hp)
            have hR3 : RL ((nv, namesV M.V) :: Lh ++ Lh0) [(o.shot, (⟨nv, CellI.pf⟩ : Cv))] [(⟨o.shot, namesV M.V⟩ : Sn)] := RL.one (s := ⟨o.shot, namesV M.V⟩) (List.mem_append_left _ (List.mem_cons_self ..))
            have hR := hR1.app (hR3.app hR2)
            have hins : M.S.take i ++ ([(⟨o.shot, namesV M.V⟩ : Sn)] ++ M.S.drop i) = insS M.S ⟨o.shot, namesV M.V⟩ := by rw [hsp.1, hsp.2]; rfl
            rw [hins] at hR
            refine E_rmoS (M := { M with S := insS M.S ⟨o.shot, namesV M.V⟩ }) vs v7 os (SS := TS ++ ([(o.shot, (⟨nv, CellI.pf⟩ : Cv))] ++ SS.drop i)) iV (by simp) iO hR.1 hR.2 rfl rfl rfl ?_
            exact ansE (A := okA) rfl rfl h
      · rw [g3]
        refine E_tt ?_
        exact herr 10 (by rw [eS]; unfold snapM; rw [if_neg (by simp [hk]), if_pos (by rw [g3]; rfl)])
end Go.Proofs.YtabpaknfenpkoaaGreat.Mod
