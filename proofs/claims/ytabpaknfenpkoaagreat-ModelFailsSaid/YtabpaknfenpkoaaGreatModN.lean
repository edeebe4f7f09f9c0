/-
  Model: Commit.
-/
import Derived.Test.YtabpaknfenpkoaaGreatModL
set_option linter.unusedSimpArgs false
set_option linter.unusedVariables false
set_option linter.unusedSectionVars false
namespace Go.Proofs.YtabpaknfenpkoaaGreat.Mod
open Go Go.SL Go.Proofs Go.Proofs.YtabpaknfenpkoaaGreat.Sh
variable {B : World} {H : List Asrt} {K : Value → WT} {W : WT}
variable {a : Nat} {M : Mo} {o : Od} {bv kv : Value} {t u : Int}
theorem drop_gt {V : List Ver} (h : SrtN V) (n : List UInt8) : ∀ v ∈ V.dropWhile (fun u => decide (u.name ≤ n)), n < v.name := by
  induction V with
  | nil => intro v hv; cases hv
  | cons c t ih =>
    intro v hv
    rw [List.dropWhile_cons] at hv
    by_cases hc : c.name ≤ n
    · rw [if_pos (by simpa using hc)] at hv
      exact ih (List.pairwise_cons.1 h).2 v hv
    · rw [if_neg (by simpa using hc)] at hv
      have h1 : n < c.name := Decidable.not_not.1 hc
      rcases List.mem_cons.1 hv with rfl | hv
      · exact h1
      · exact slt_le_trans h1 ((List.pairwise_cons.1 h).1 v hv)
theorem take_le (n : List UInt8) : ∀ (V : List Ver), ∀ v ∈ V.takeWhile (fun u => decide (u.name ≤ n)), v.name ≤ n
  | [], v, hv => by cases hv
  | c :: t, v, hv => by
    rw [List.takeWhile_cons] at hv
    by_cases hc : c.name ≤ n
    · rw [if_pos (by simpa using hc)] at hv
      rcases List.mem_cons.1 hv with rfl | hv
      · exact hc
      · exact take_le n t v hv
    · rw [if_neg (by simpa using hc)] at hv; cases hv
theorem fof_append (A C : List Ver) (k : List UInt8) : fof (A ++ C) k = fof A k ++ fof C k := List.filter_append ..
theorem fof_insV {V : List Ver} (h : SrtN V) (v : Ver) (k : List UInt8) : fof (insV V v) k = if k = v.name then fof V k ++ [v] else fof V k := by
  have e : V.takeWhile (fun u => decide (u.name ≤ v.name)) ++ V.dropWhile (fun u => decide (u.name ≤ v.name)) = V := List.takeWhile_append_dropWhile ..
  unfold insV
  have e2 : fof V k = fof (V.takeWhile (fun u => decide (u.name ≤ v.name))) k ++ fof (V.dropWhile (fun u => decide (u.name ≤ v.name))) k := by rw [← fof_append, e]
  rw [fof_append, e2]
  have hc : fof (v :: V.dropWhile (fun u => decide (u.name ≤ v.name))) k = (if v.name = k then [v] else []) ++ fof (V.dropWhile (fun u => decide (u.name ≤ v.name))) k := by
    unfold fof
    rw [List.filter_cons]
    by_cases hk : v.name = k <;> simp [hk]
  rw [hc]
  by_cases hk : k = v.name
  · subst hk
    have h0 : fof (V.dropWhile (fun u => decide (u.name ≤ v.name))) v.name = [] := List.filter_eq_nil_iff.2 fun w hw => by
      simp only [decide_eq_true_eq]
      exact fun e => slt_irr _ (e ▸ drop_gt h v.name w hw)
    rw [h0]; simp
  · have : ¬ v.name = k := fun e => hk e.symm
    rw [if_neg this, if_neg hk]; simp
attribute [local irreducible] S.pick S.ld S.ldN S.st S.box S.nc S.fad S.ixS S.ixA S.chr S.prt S.ext S.bin S.sh S.sbin S.beq S.neg1 S.com1 S.not1 S.cvt S.str1 S.lenS S.len S.cap S.lenM S.mx S.mn S.mkM S.cond S.gd S.fa S.dr S.rck S.join S.loop S.cvv S.eqv S.slc S.slcS S.b2s S.lk V U CF Gives E cel mpb osl ros dct dit itr lpo dfo
set_option maxRecDepth 4000
attribute [local irreducible] mo ansH
theorem topG_some {l : List Ver} (h : l ≠ []) : ∃ x, l[l.length - 1]? = some x ∧ topG l = x.gen := by
  unfold topG
  rw [List.getLast?_eq_getElem?]
  cases hx : l[l.length - 1]? with
  | none =>
    have := List.getElem?_eq_none_iff.1 hx
    have : l.length = 0 := by omega
    exact (h (List.length_eq_zero_iff.1 this)).elim
  | some x => exact ⟨x, rfl, rfl⟩
noncomputable def lastC (v0'3 v4'3 v6'6 v71 v72 v73 v74 v86 v11 : Value) (K : Value → WT) : WT :=
S.rck [S.ld v73 (fun v' _ => v' = v74), S.ld v71 (fun v' _ => v' = v72)] <|
          U Tryz.prog (Instr.mapUpdate 78 v72 v74 v86) fun _ =>
          S.dr <|
          S.nc v0'3 fun v88 =>
          S.fad v88 2 fun v89 =>
          S.ld v89 fun v90 =>
          S.fad v4'3 1 fun v91 =>
          S.ld v91 fun v92 =>
          V Tryz.prog (Builtin.delete_ #[80, 3] 0 #[v90, v92]) fun _ =>
          V Tryz.prog (Instr.build 33 #[(1, v11)]) fun v94 =>
          S.st 4 v6'6 v94 fun _ =>
          S.ldN 4 v6'6 fun v6'7 =>
          K v6'7
noncomputable def endC (v0'3 v4'3 v6'6 v7'3 v9'2 v11 : Value) (K : Value → WT) : WT :=
        S.dr <|
        S.nc v0'3 fun v70 =>
        S.fad v70 0 fun v71 =>
        S.ld v71 fun v72 =>
        S.fad v7'3 0 fun v73 =>
        S.ld v73 fun v74 =>
        S.nc v0'3 fun v79 =>
        S.fad v79 4 fun v80 =>
        S.ld v80 fun v81 =>
        S.fad v7'3 1 fun v82 =>
        S.ld v82 fun v83 =>
        S.both (
          CF Tryz.prog 72 [v9'2] fun v76 =>
          S.rck [S.ld v82 (fun v' _ => v' = v83), S.ld v80 (fun v' _ => v' = v81), S.ld v73 (fun v' _ => v' = v74), S.ld v71 (fun v' _ => v' = v72)] <|
          V Tryz.prog (Instr.build 98 #[(0, v11), (1, v81), (2, v83)]) fun v84 =>
          S.rck [S.ld v73 (fun v' _ => v' = v74), S.ld v71 (fun v' _ => v' = v72)] <|
          V Tryz.prog (Instr.buildSlice 90 1 #[(0, v84)]) fun v85 =>
          S.rck [S.ld v73 (fun v' _ => v' = v74), S.ld v71 (fun v' _ => v' = v72)] <|
          V Tryz.prog (Builtin.append_ #[90, 90] 90 #[v76, v85]) fun v86 =>
          S.rck [S.ld v73 (fun v' _ => v' = v74), S.ld v71 (fun v' _ => v' = v72)] <|
          U Tryz.prog (Instr.mapUpdate 78 v72 v74 v86) fun _ =>
          S.dr <|
          S.nc v0'3 fun v88 =>
          S.fad v88 2 fun v89 =>
          S.ld v89 fun v90 =>
          S.fad v4'3 1 fun v91 =>
          S.ld v91 fun v92 =>
          V Tryz.prog (Builtin.delete_ #[80, 3] 0 #[v90, v92]) fun _ =>
          V Tryz.prog (Instr.build 33 #[(1, v11)]) fun v94 =>
          S.st 4 v6'6 v94 fun _ =>
          S.ldN 4 v6'6 fun v6'7 =>
          K v6'7) (
          V Tryz.prog (Instr.build 98 #[(0, v11), (1, v81), (2, v83)]) fun v84' =>
          S.rck [S.ld v73 (fun v' _ => v' = v74), S.ld v71 (fun v' _ => v' = v72)] <|
          S.both (
            CF Tryz.prog 72 [v9'2] fun v76' =>
            S.rck [S.ld v73 (fun v' _ => v' = v74), S.ld v71 (fun v' _ => v' = v72)] <|
            V Tryz.prog (Instr.buildSlice 90 1 #[(0, v84')]) fun v85' =>
            S.rck [S.ld v73 (fun v' _ => v' = v74), S.ld v71 (fun v' _ => v' = v72)] <|
            V Tryz.prog (Builtin.append_ #[90, 90] 90 #[v76', v85']) fun v86' =>
            S.rck [S.ld v73 (fun v' _ => v' = v74), S.ld v71 (fun v' _ => v' = v72)] <|
            U Tryz.prog (Instr.mapUpdate 78 v72 v74 v86') fun _ =>
            S.dr <|
            S.nc v0'3 fun v88' =>
            S.fad v88' 2 fun v89' =>
            S.ld v89' fun v90' =>
            S.fad v4'3 1 fun v91' =>
            S.ld v91' fun v92' =>
            V Tryz.prog (Builtin.delete_ #[80, 3] 0 #[v90', v92']) fun _ =>
            V Tryz.prog (Instr.build 33 #[(1, v11)]) fun v94' =>
            S.st 4 v6'6 v94' fun _ =>
            S.ldN 4 v6'6 fun v6'8 =>
            K v6'8) (
            V Tryz.prog (Instr.buildSlice 90 1 #[(0, v84')]) fun v85'2 =>
            S.rck [S.ld v73 (fun v' _ => v' = v74), S.ld v71 (fun v' _ => v' = v72)] <|
            CF Tryz.prog 72 [v9'2] fun v76'2 =>
            S.rck [S.ld v73 (fun v' _ => v' = v74), S.ld v71 (fun v' _ => v' = v72)] <|
            V Tryz.prog (Builtin.append_ #[90, 90] 90 #[v76'2, v85'2]) fun v86'2 =>
            S.rck [S.ld v73 (fun v' _ => v' = v74), S.ld v71 (fun v' _ => v' = v72)] <|
            U Tryz.prog (Instr.mapUpdate 78 v72 v74 v86'2) fun _ =>
            S.dr <|
            S.nc v0'3 fun v88'2 =>
            S.fad v88'2 2 fun v89'2 =>
            S.ld v89'2 fun v90'2 =>
            S.fad v4'3 1 fun v91'2 =>
            S.ld v91'2 fun v92'2 =>
            V Tryz.prog (Builtin.delete_ #[80, 3] 0 #[v90'2, v92'2]) fun _ =>
            V Tryz.prog (Instr.build 33 #[(1, v11)]) fun v94'2 =>
            S.st 4 v6'6 v94'2 fun _ =>
            S.ldN 4 v6'6 fun v6'9 =>
            K v6'9))
noncomputable def tailC (v0 v2 v4 v6 v7 v30 v31 : Value) (K : Value → WT) : WT :=
    S.join 8 (fun K0 =>
      S.join 8 (fun K1 =>
        S.not1 v31 fun v38 =>
        S.gd v38 true (fun k => k v0) fun v40 =>
        S.gd v38 true (fun k => S.nc v40 k) fun v41 =>
        S.gd v38 true (fun k => S.fad v41 0 k) fun v42 =>
        S.gd v38 true (fun k => S.ld v42 k) fun v43 =>
        S.gd v38 true (fun k => S.lenM v43 k) fun v44 =>
        S.gd v38 true (fun k => S.bin .eql v44 (I 64) k) fun v45 =>
        S.pick v38 v45 (.bool false) fun v46 =>
        K1 v0 v2 v4 v6 v7 v30 v31 v46)
      <| fun v0' v2' v4' v6'2 v7' v9 v10 v36 => S.fa fun _ =>
      S.cond v36 (
        K0 v0' v2' v4' v6'2 v7' v9 v10 v36) (
        S.len v9 fun v48 =>
        S.bin .eql v48 (I 32) fun v49 =>
        K0 v0' v2' v4' v6'2 v7' v9 v10 v49))
    <| fun v0'2 v2'2 v4'2 v6'3 v7'2 v9' v10' v36' => S.fa fun _ =>
    S.cond v36' (
      S.fad v4'2 1 fun v51 =>
      S.ld v51 fun v52 =>
      CF Tryz.prog 70 [v0'2, v52, (I 6)] fun v53 =>
      S.st 4 v6'3 v53 fun _ =>
      S.ldN 4 v6'3 fun v6'4 =>
      K v6'4) (
      S.cond v2'2 (
        S.fad v4'2 1 fun v57 =>
        S.ld v57 fun v58 =>
        CF Tryz.prog 70 [v0'2, v58, (I 8)] fun v59 =>
        S.st 4 v6'3 v59 fun _ =>
        S.ldN 4 v6'3 fun v6'5 =>
        K v6'5) (
        S.join 6 (fun K2 =>
          S.cond v10' (
            S.len v9' fun v63 =>
            S.bin .sub v63 (I 1) fun v64 =>
            S.ixS 4 v9' v64 fun v65 =>
            S.fad v65 0 fun v66 =>
            S.ld v66 fun v67 =>
            S.bin .add v67 (I 1) fun v68 =>
            K2 v0'2 v4'2 v6'3 v7'2 v9' v68) (
            K2 v0'2 v4'2 v6'3 v7'2 v9' (I 1)))
        <| fun v0'3 v4'3 v6'6 v7'3 v9'2 v11 => S.fa fun _ =>
        endC v0'3 v4'3 v6'6 v7'3 v9'2 v11 K))

abbrev newV (M : Mo) (s : Se) : Ver := ⟨s.name, topG (fof M.V s.name) + 1, M.now, s.text, false⟩
theorem lastC_ok {sp : Bool} {s : Se} {r1 r2 r3 br bo b7 : Nat} {kf ks : List (List UInt8 × Value)} {ko : List (Int × Value)} {Lv : List (Value × List Ver)} {Lh : List (Nat × List (List UInt8 × Value))} {v : Value} [CellI v] [CellI bv] [CellI kv] (hw : Wf M)
    (hf : FOk Lv kf M.V) (hs : SOk Lh ks M.S) (ho : OOk ko M.O)
    (h : ∀ rv, E B (ansH ⟨0, topG (fof M.V s.name) + 1, [], []⟩ rv :: mo a { lostM M o.n with V := insV M.V (newV M s) } :: H) (K rv)) :
    E B (sls vC 98 4 v (fof M.V s.name ++ [newV M s]) :: cel true a 82 [.map (some r1), .map (some r2), .map (some r3), I M.began, I M.now, I M.quota] :: dct kL true r1 kf :: dct kL true r2 ks :: dct kI true r3 ko :: spool vC Lv :: dpool kL Lh :: cel true br 33 [I 0, I 0, nil, nil] :: cel true bo 42 (opL o bv kv t u) :: cel true b7 88 [str s.name, str s.text] :: H)
      (lastC (ptr a) (ptr bo) (ptr br) (.pointer (some ⟨a, 0, none⟩)) (.map (some r1)) (.pointer (some ⟨b7, 0, none⟩)) (str s.name) v (I (topG (fof M.V s.name) + 1)) K) := by
  unfold lastC
  (repeat (refine E_rck1 (by first | exact E_ld (E_fact rfl) | exact E_ld' (by assumption) (E_fact rfl) | exact E_b2sR (E_fact rfl) | exact E_gdnF (by assumption) (E_ld (E_fact rfl)) | exact E_gdT (by assumption) (E_ld (E_fact rfl)) | exact E_gtf (E_ld (E_fact rfl)) | exact E_gft (E_ld (E_fact rfl)) | exact E_ldNA (E_fact rfl) | exact E_ptld (E_fact rfl) | exact E_gtf (E_ldNA (E_fact rfl))) ?_)); (first | (refine E_rck0 ?_) | skip)
  refine E_dmu (κ := List UInt8) key_files ?_
  (repeat first | refine gS ?_ | refine gA fun _ => ?_ | refine gX fun _ _ => ?_ | refine gT ?_ | refine gF ?_ | refine gI ?_)
  refine E_ddel (κ := Int) rfl key_sess ?_
  refine E_build (l := [I 0, I (topG (fof M.V s.name) + 1), nil, nil]) str_ans ?_
  (repeat first | refine gS ?_ | refine gA fun _ => ?_ | refine gX fun _ _ => ?_ | refine gT ?_ | refine gF ?_ | refine gI ?_)
  refine sm (G := sls vC 98 4 v (fof M.V s.name ++ [newV M s]) :: spool vC Lv :: cel true a 82 [.map (some r1), .map (some r2), .map (some r3), I M.began, I M.now, I M.quota] :: dct kL true r1 (dput kf s.name v) :: dct kL true r2 ks :: dct kI true r3 (ddel ko o.n) :: dpool kL Lh :: H) ?_
  refine E_give ?_
  refine sm (G := cel true a 82 [.map (some r1), .map (some r2), .map (some r3), I M.began, I M.now, I M.quota] :: dct kL true r1 (dput kf s.name v) :: dct kL true r2 ks :: dct kI true r3 (ddel ko o.n) :: spool vC ((v, fof M.V s.name ++ [newV M s]) :: Lv) :: dpool kL Lh :: H) ?_
  have hfi := fun k => fof_insV hw.v.n (newV M s) k
  refine E_moS (M := { lostM M o.n with V := insV M.V (newV M s) }) r1 r2 r3 (fok_put hf (fun k hk => by rw [hfi, if_neg hk]) (by rw [hfi, if_pos rfl]; simp) (fun _ h => List.mem_cons_of_mem _ h) (by rw [hfi, if_pos rfl]; simp)) hs (ook_del ho) rfl rfl rfl ?_
  exact ansE (A := ⟨0, topG (fof M.V s.name) + 1, [], []⟩) rfl rfl h
theorem commitF [CellI bv] [CellI kv] {sp : Bool} (hw : Wf M) (h : ∀ rv, E B (ansH (commitM M o sp).1 rv :: mo a (commitM M o sp).2 :: H) (K rv)) : E B (mo a M :: H) (CF Tryz.prog 42 [ptr a, opV o bv kv t u, .bool sp] K) := by
  refine E_mono (W := s42 _ _ _ K) ?_ fun _ => c42
  unfold s42
  unfold commitM at h
  (repeat first | refine gS ?_ | refine gA fun _ => ?_ | refine gX fun _ _ => ?_ | refine gT ?_ | refine gF ?_ | refine gI ?_)
  rename_i bo br
  refine fd (a := mo a M) (E_mo fun r1 r2 r3 kf ks ko Lv Lh hf hs ho => ?_)
  (repeat first | refine gS ?_ | refine gA fun _ => ?_ | refine gX fun _ _ => ?_ | refine gT ?_ | refine gF ?_ | refine gI ?_)
  have hl := ho o.n
  cases hs' : oof M.O o.n with
  | none =>
    rw [hs'] at hl h
    have hfin : ∀ v29 : Value, E B (cel true a 82 [.map (some r1), .map (some r2), .map (some r3), I M.began, I M.now, I M.quota] :: dct kL true r1 kf :: dct kL true r2 ks :: dct kI true r3 ko :: spool vC Lv :: dpool kL Lh :: cel true br 33 [I 0, I 0, nil, nil] :: H) (CF Tryz.prog 39 [I 9] fun v35 => S.st 4 (ptr br) v35 fun _ => S.ldN 4 (ptr br) fun v => K v) := fun _ => by
      refine wrong ?_
      (repeat first | refine gS ?_ | refine gA fun _ => ?_ | refine gX fun _ _ => ?_ | refine gT ?_ | refine gF ?_ | refine gI ?_)
      refine sm (G := cel true a 82 [.map (some r1), .map (some r2), .map (some r3), I M.began, I M.now, I M.quota] :: dct kL true r1 kf :: dct kL true r2 ks :: dct kI true r3 ko :: spool vC Lv :: dpool kL Lh :: H) ?_
      refine E_moS (M := M) r1 r2 r3 hf hs ho rfl rfl rfl ?_
      exact ansE (A := errA 9) rfl rfl h
    refine E_dlk0 (κ := Int) hl ?_
    (repeat first | refine gS ?_ | refine gA fun _ => ?_ | refine gX fun _ _ => ?_ | refine gT ?_ | refine gF ?_ | refine gI ?_)
    refine E_rck1 (E_dlk0 (κ := Int) hl (E_fact rfl)) ?_
    (repeat (refine E_rck1 (by first | exact E_ld (E_fact rfl) | exact E_ld' (by assumption) (E_fact rfl) | exact E_b2sR (E_fact rfl) | exact E_gdnF (by assumption) (E_ld (E_fact rfl)) | exact E_gdT (by assumption) (E_ld (E_fact rfl)) | exact E_gtf (E_ld (E_fact rfl)) | exact E_gft (E_ld (E_fact rfl)) | exact E_ldNA (E_fact rfl) | exact E_ptld (E_fact rfl) | exact E_gtf (E_ldNA (E_fact rfl))) ?_)); (first | (refine E_rck0 ?_) | skip)
    (repeat first | refine gS ?_ | refine gA fun _ => ?_ | refine gX fun _ _ => ?_ | refine gT ?_ | refine gF ?_ | refine gI ?_)
    rcases hf [] with ⟨h1, h2⟩ | ⟨v, h1, h2, h3⟩
    · show E B _ (S.lk .string nil true (.map (some r1)) (kL []) _)
      refine E_dlk0 (κ := List UInt8) (enc := kL) (k := []) h1 ?_
      (repeat first | refine gS ?_ | refine gA fun _ => ?_ | refine gX fun _ _ => ?_ | refine gT ?_ | refine gF ?_ | refine gI ?_)
      exact sm (hfin undef)
    · show E B _ (S.lk .string nil true (.map (some r1)) (kL []) _)
      refine E_dlk1 (κ := List UInt8) (enc := kL) (k := []) h1 ?_
      (repeat first | refine gS ?_ | refine gA fun _ => ?_ | refine gX fun _ _ => ?_ | refine gT ?_ | refine gF ?_ | refine gI ?_)
      exact sm (hfin undef)
  | some s =>
    rw [hs'] at hl h
    simp only [Option.map_some] at hl h
    unfold sAgg at hl
    obtain ⟨hsO, hsn⟩ := oof_some hs'
    refine E_dlk1 (κ := Int) hl ?_
    (repeat first | refine gS ?_ | refine gA fun _ => ?_ | refine gX fun _ _ => ?_ | refine gT ?_ | refine gF ?_ | refine gI ?_)
    rename_i b7
    refine E_rck1 (E_dlk1 (κ := Int) hl (E_fact rfl)) ?_
    (repeat (refine E_rck1 (by first | exact E_ld (E_fact rfl) | exact E_ld' (by assumption) (E_fact rfl) | exact E_b2sR (E_fact rfl) | exact E_gdnF (by assumption) (E_ld (E_fact rfl)) | exact E_gdT (by assumption) (E_ld (E_fact rfl)) | exact E_gtf (E_ld (E_fact rfl)) | exact E_gft (E_ld (E_fact rfl)) | exact E_ldNA (E_fact rfl) | exact E_ptld (E_fact rfl) | exact E_gtf (E_ldNA (E_fact rfl))) ?_)); (first | (refine E_rck0 ?_) | skip)
    (repeat first | refine gS ?_ | refine gA fun _ => ?_ | refine gX fun _ _ => ?_ | refine gT ?_ | refine gF ?_ | refine gI ?_)
    have hnl := nms_len M.V
    have hfl := fof_len M.V s.name
    have hMn := hw.n
    refine fd (a := dct kL true r1 kf) (E_dnod fun hnod => ?_)
    have hkl : kf.length = (nms M.V).length := by have := (fok_keys hf hnod hw.v.n).length_eq; simpa using this
    have hlost : ∀ (A : Ans) (e : Int), A = errA e → (∀ rv, E B (ansH A rv :: mo a (lostM M o.n) :: H) (K rv)) → E B (cel true a 82 [.map (some r1), .map (some r2), .map (some r3), I M.began, I M.now, I M.quota] :: dct kL true r1 kf :: dct kL true r2 ks :: dct kI true r3 ko :: spool vC Lv :: dpool kL Lh :: cel true br 33 [I 0, I 0, nil, nil] :: cel true bo 42 (opL o bv kv t u) :: cel true b7 88 [str s.name, str s.text] :: H)
        (S.fad (ptr bo) 1 fun v33 => S.ld v33 fun v34 => CF Tryz.prog 70 [ptr a, v34, I e] fun v35 => S.st 4 (ptr br) v35 fun _ => S.ldN 4 (ptr br) fun v => K v) := fun A e hA hh => by
      subst hA
      (repeat first | refine gS ?_ | refine gA fun _ => ?_ | refine gX fun _ _ => ?_ | refine gT ?_ | refine gF ?_ | refine gI ?_)
      refine sm (G := cel true a 82 [.map (some r1), .map (some r2), .map (some r3), I M.began, I M.now, I M.quota] :: dct kL true r1 kf :: dct kL true r2 ks :: dct kI true r3 ko :: spool vC Lv :: dpool kL Lh :: cel true br 33 [I 0, I 0, nil, nil] :: cel true bo 42 (opL o bv kv t u) :: H) ?_
      refine E_moS (M := M) r1 r2 r3 hf hs ho rfl rfl rfl ?_
      refine lost ?_
      (repeat first | refine gS ?_ | refine gA fun _ => ?_ | refine gX fun _ _ => ?_ | refine gT ?_ | refine gF ?_ | refine gI ?_)
      exact sm (ansE (A := errA e) rfl rfl hh)
    have tail : ∀ (v9 : Value) (b10 : Bool), (∀ H, Rs B (spool vC Lv :: H) v9 vC (fof M.V s.name)) → (b10 = true ↔ fof M.V s.name ≠ []) → isCell v9 = true →
      E B (cel true a 82 [.map (some r1), .map (some r2), .map (some r3), I M.began, I M.now, I M.quota] :: dct kL true r1 kf :: dct kL true r2 ks :: dct kI true r3 ko :: spool vC Lv :: dpool kL Lh :: cel true br 33 [I 0, I 0, nil, nil] :: cel true bo 42 (opL o bv kv t u) :: cel true b7 88 [str s.name, str s.text] :: H) (tailC (ptr a) (.bool sp) (ptr bo) (ptr br) (ptr b7) v9 (.bool b10) K) := fun v9 b10 hrs hb hcv => by
      have : CellI v9 := ⟨hcv⟩
      unfold tailC
      refine E_join1 [ptr a, .bool sp, ptr bo, ptr br, ptr b7, v9, .bool b10, .bool (decide ((fof M.V s.name = [] ∧ (nms M.V).length = 64) ∨ (fof M.V s.name).length = 32))]
        (cel true a 82 [.map (some r1), .map (some r2), .map (some r3), I M.began, I M.now, I M.quota] :: dct kL true r1 kf :: dct kL true r2 ks :: dct kI true r3 ko :: spool vC Lv :: dpool kL Lh :: cel true br 33 [I 0, I 0, nil, nil] :: cel true bo 42 (opL o bv kv t u) :: cel true b7 88 [str s.name, str s.text] :: H) (fun q hq => ?_) ?_
      · have fin2 : ∀ b : Bool, decide ((fof M.V s.name = [] ∧ (nms M.V).length = 64) ∨ (fof M.V s.name).length = 32) = b → E B (cel true a 82 [.map (some r1), .map (some r2), .map (some r3), I M.began, I M.now, I M.quota] :: dct kL true r1 kf :: dct kL true r2 ks :: dct kI true r3 ko :: spool vC Lv :: dpool kL Lh :: cel true br 33 [I 0, I 0, nil, nil] :: cel true bo 42 (opL o bv kv t u) :: cel true b7 88 [str s.name, str s.text] :: H) (app 8 q [ptr a, .bool sp, ptr bo, ptr br, ptr b7, v9, .bool b10, .bool b]) := fun b hb => hb ▸ hq
        refine E_join1 [ptr a, .bool sp, ptr bo, ptr br, ptr b7, v9, .bool b10, .bool (decide (fof M.V s.name = [] ∧ (nms M.V).length = 64))]
          (cel true a 82 [.map (some r1), .map (some r2), .map (some r3), I M.began, I M.now, I M.quota] :: dct kL true r1 kf :: dct kL true r2 ks :: dct kI true r3 ko :: spool vC Lv :: dpool kL Lh :: cel true br 33 [I 0, I 0, nil, nil] :: cel true bo 42 (opL o bv kv t u) :: cel true b7 88 [str s.name, str s.text] :: H) (fun q' hq' => ?_) ?_
        · have fin3 : ∀ b : Bool, decide (fof M.V s.name = [] ∧ (nms M.V).length = 64) = b → E B (cel true a 82 [.map (some r1), .map (some r2), .map (some r3), I M.began, I M.now, I M.quota] :: dct kL true r1 kf :: dct kL true r2 ks :: dct kI true r3 ko :: spool vC Lv :: dpool kL Lh :: cel true br 33 [I 0, I 0, nil, nil] :: cel true bo 42 (opL o bv kv t u) :: cel true b7 88 [str s.name, str s.text] :: H) (app 8 q' [ptr a, .bool sp, ptr bo, ptr br, ptr b7, v9, .bool b10, .bool b]) := fun b hb => hb ▸ hq'
          cases b10 with
          | true =>
            (repeat first | refine gS ?_ | refine gA fun _ => ?_ | refine gX fun _ _ => ?_ | refine gT ?_ | refine gF ?_ | refine gI ?_)
            exact sm (fin3 false (decide_eq_false fun hh => hb.1 rfl hh.1))
          | false =>
            (repeat first | refine gS ?_ | refine gA fun _ => ?_ | refine gX fun _ _ => ?_ | refine gT ?_ | refine gF ?_ | refine gI ?_)
            refine E_dlen (κ := List UInt8) ?_
            rw [hkl]
            (repeat first | refine gS ?_ | refine gA fun _ => ?_ | refine gX fun _ _ => ?_ | refine gT ?_ | refine gF ?_ | refine gI ?_)
            refine sm (fin3 _ ?_)
            have : fof M.V s.name = [] := Classical.byContradiction fun hn => by have := hb.2 hn; cases this
            rw [decide_eq_decide]
            simp only [this, true_and]; omega
        · refine E_fa fun _ => ?_
          refine E_if (fun hc => ?_) (fun hc => ?_)
          · rw [decide_eq_true hc]
            exact fin2 true (decide_eq_true (.inl hc))
          · (repeat first | refine gS ?_ | refine gA fun _ => ?_ | refine gX fun _ _ => ?_ | refine gT ?_ | refine gF ?_ | refine gI ?_)
            refine sm (fin2 _ ?_)
            rw [decide_eq_decide]
            constructor
            · rintro (h | h)
              · exact (hc h).elim
              · omega
            · intro h; exact .inr (by omega)
      · refine E_fa fun _ => ?_
        refine E_if (fun hc => ?_) (fun hc => ?_)
        · rw [if_pos hc] at h
          exact hlost _ 6 rfl h
        · rw [if_neg hc] at h
          cases sp with
          | true =>
            rw [if_pos rfl] at h
            refine E_tt ?_
            exact hlost _ 8 rfl h
          | false =>
            rw [if_neg (by decide)] at h
            refine E_ff ?_
            have hgb : topG (fof M.V s.name) ≤ 1000000 ∧ 0 ≤ topG (fof M.V s.name) := by
              by_cases hn : fof M.V s.name = []
              · rw [hn]; unfold topG; simp
              · obtain ⟨x, hx, hxg⟩ := topG_some hn
                have := hw.g x (fof_mem.1 (List.mem_of_getElem? hx)).1
                rw [hxg]; omega
            refine E_join1 [ptr a, ptr bo, ptr br, ptr b7, v9, I (topG (fof M.V s.name) + 1)] (cel true a 82 [.map (some r1), .map (some r2), .map (some r3), I M.began, I M.now, I M.quota] :: dct kL true r1 kf :: dct kL true r2 ks :: dct kI true r3 ko :: spool vC Lv :: dpool kL Lh :: cel true br 33 [I 0, I 0, nil, nil] :: cel true bo 42 (opL o bv kv t u) :: cel true b7 88 [str s.name, str s.text] :: H) (fun q hq => ?_) ?_
            · cases b10 with
              | true =>
                obtain ⟨x, hx, hxg⟩ := topG_some (hb.1 rfl)
                have hpos : 0 < (fof M.V s.name).length := List.length_pos_iff.2 (hb.1 rfl)
                rw [hxg] at hq hgb
                (repeat first | refine gS ?_ | refine gA fun _ => ?_ | refine gX fun _ _ => ?_ | refine gT ?_ | refine gF ?_ | refine gI ?_)
                rw [show ((fof M.V s.name).length : Int) - 1 = (((fof M.V s.name).length - 1 : Nat) : Int) by omega]
                (repeat first | refine gS ?_ | refine gA fun _ => ?_ | refine gX fun _ _ => ?_ | refine gT ?_ | refine gF ?_ | refine gI ?_)
                exact sm hq
              | false =>
                have h0 : fof M.V s.name = [] := Classical.byContradiction fun hn => by have := hb.2 hn; cases this
                rw [h0] at hq
                (repeat first | refine gS ?_ | refine gA fun _ => ?_ | refine gX fun _ _ => ?_ | refine gT ?_ | refine gF ?_ | refine gI ?_)
                exact sm hq
            · refine E_fa fun _ => ?_
              have fin : ∀ v [CellI v], E B (sls vC 98 4 v (fof M.V s.name ++ [newV M s]) :: cel true a 82 [.map (some r1), .map (some r2), .map (some r3), I M.began, I M.now, I M.quota] :: dct kL true r1 kf :: dct kL true r2 ks :: dct kI true r3 ko :: spool vC Lv :: dpool kL Lh :: cel true br 33 [I 0, I 0, nil, nil] :: cel true bo 42 (opL o bv kv t u) :: cel true b7 88 [str s.name, str s.text] :: H)
                (lastC (ptr a) (ptr bo) (ptr br) (.pointer (some ⟨a, 0, none⟩)) (.map (some r1)) (.pointer (some ⟨b7, 0, none⟩)) (str s.name) v (I (topG (fof M.V s.name) + 1)) K) := fun v _ => lastC_ok (sp := false) hw hf hs ho h
              unfold lastC at fin
              unfold endC
              have hbd : (fof M.V s.name).length + 1 ≤ 1000001 := by omega
              (repeat first | refine gS ?_ | refine gA fun _ => ?_ | refine gX fun _ _ => ?_ | refine gT ?_ | refine gF ?_ | refine gI ?_)
              refine E_both ?_ ?_
              · refine cloneV (v := v9) (by omega) fun u _ => ?_
                (repeat (refine E_rck1 (by first | exact E_ld (E_fact rfl) | exact E_ld' (by assumption) (E_fact rfl) | exact E_b2sR (E_fact rfl) | exact E_gdnF (by assumption) (E_ld (E_fact rfl)) | exact E_gdT (by assumption) (E_ld (E_fact rfl)) | exact E_gtf (E_ld (E_fact rfl)) | exact E_gft (E_ld (E_fact rfl)) | exact E_ldNA (E_fact rfl) | exact E_ptld (E_fact rfl) | exact E_gtf (E_ldNA (E_fact rfl))) ?_)); (first | (refine E_rck0 ?_) | skip)
                refine E_build (l := [I (topG (fof M.V s.name) + 1), I M.now, str s.text, .bool false]) str_ver ?_
                (repeat (refine E_rck1 (by first | exact E_ld (E_fact rfl) | exact E_ld' (by assumption) (E_fact rfl) | exact E_b2sR (E_fact rfl) | exact E_gdnF (by assumption) (E_ld (E_fact rfl)) | exact E_gdT (by assumption) (E_ld (E_fact rfl)) | exact E_gtf (E_ld (E_fact rfl)) | exact E_gft (E_ld (E_fact rfl)) | exact E_ldNA (E_fact rfl) | exact E_ptld (E_fact rfl) | exact E_gtf (E_ldNA (E_fact rfl))) ?_)); (first | (refine E_rck0 ?_) | skip)
                refine E_sapp1R (newV M s) u_vers elt_ver rfl (by decide) (by omega) (by omega) (fun b W hW => by (repeat (refine E_rck1 (by first | exact E_ld (E_fact rfl) | exact E_ld' (by assumption) (E_fact rfl) | exact E_b2sR (E_fact rfl) | exact E_gdnF (by assumption) (E_ld (E_fact rfl)) | exact E_gdT (by assumption) (E_ld (E_fact rfl)) | exact E_gtf (E_ld (E_fact rfl)) | exact E_gft (E_ld (E_fact rfl)) | exact E_ldNA (E_fact rfl) | exact E_ptld (E_fact rfl) | exact E_gtf (E_ldNA (E_fact rfl))) ?_)); (first | (refine E_rck0 ?_) | skip); exact hW) fun v' _ => ?_
                exact sm (fin v')
              · refine E_build (l := [I (topG (fof M.V s.name) + 1), I M.now, str s.text, .bool false]) str_ver ?_
                (repeat (refine E_rck1 (by first | exact E_ld (E_fact rfl) | exact E_ld' (by assumption) (E_fact rfl) | exact E_b2sR (E_fact rfl) | exact E_gdnF (by assumption) (E_ld (E_fact rfl)) | exact E_gdT (by assumption) (E_ld (E_fact rfl)) | exact E_gtf (E_ld (E_fact rfl)) | exact E_gft (E_ld (E_fact rfl)) | exact E_ldNA (E_fact rfl) | exact E_ptld (E_fact rfl) | exact E_gtf (E_ldNA (E_fact rfl))) ?_)); (first | (refine E_rck0 ?_) | skip)
                refine E_both ?_ ?_
                · refine cloneV (v := v9) (by omega) fun u _ => ?_
                  (repeat (refine E_rck1 (by first | exact E_ld (E_fact rfl) | exact E_ld' (by assumption) (E_fact rfl) | exact E_b2sR (E_fact rfl) | exact E_gdnF (by assumption) (E_ld (E_fact rfl)) | exact E_gdT (by assumption) (E_ld (E_fact rfl)) | exact E_gtf (E_ld (E_fact rfl)) | exact E_gft (E_ld (E_fact rfl)) | exact E_ldNA (E_fact rfl) | exact E_ptld (E_fact rfl) | exact E_gtf (E_ldNA (E_fact rfl))) ?_)); (first | (refine E_rck0 ?_) | skip)
                  refine E_sapp1R (newV M s) u_vers elt_ver rfl (by decide) (by omega) (by omega) (fun b W hW => by (repeat (refine E_rck1 (by first | exact E_ld (E_fact rfl) | exact E_ld' (by assumption) (E_fact rfl) | exact E_b2sR (E_fact rfl) | exact E_gdnF (by assumption) (E_ld (E_fact rfl)) | exact E_gdT (by assumption) (E_ld (E_fact rfl)) | exact E_gtf (E_ld (E_fact rfl)) | exact E_gft (E_ld (E_fact rfl)) | exact E_ldNA (E_fact rfl) | exact E_ptld (E_fact rfl) | exact E_gtf (E_ldNA (E_fact rfl))) ?_)); (first | (refine E_rck0 ?_) | skip); exact hW) fun v' _ => ?_
                  exact sm (fin v')
                · refine E_bsl [(0, 4)] u_vers elt_ver (by simp) (by decide) (l0 := [I 0, I 0, .string ⟨#[]⟩, .bool false]) rfl fun b => ?_
                  (repeat (refine E_rck1 (by first | exact E_ld (E_fact rfl) | exact E_ld' (by assumption) (E_fact rfl) | exact E_b2sR (E_fact rfl) | exact E_gdnF (by assumption) (E_ld (E_fact rfl)) | exact E_gdT (by assumption) (E_ld (E_fact rfl)) | exact E_gtf (E_ld (E_fact rfl)) | exact E_gft (E_ld (E_fact rfl)) | exact E_ldNA (E_fact rfl) | exact E_ptld (E_fact rfl) | exact E_gtf (E_ldNA (E_fact rfl))) ?_)); (first | (refine E_rck0 ?_) | skip)
                  refine cloneV (v := v9) (by omega) fun u _ => ?_
                  (repeat (refine E_rck1 (by first | exact E_ld (E_fact rfl) | exact E_ld' (by assumption) (E_fact rfl) | exact E_b2sR (E_fact rfl) | exact E_gdnF (by assumption) (E_ld (E_fact rfl)) | exact E_gdT (by assumption) (E_ld (E_fact rfl)) | exact E_gtf (E_ld (E_fact rfl)) | exact E_gft (E_ld (E_fact rfl)) | exact E_ldNA (E_fact rfl) | exact E_ptld (E_fact rfl) | exact E_gtf (E_ldNA (E_fact rfl))) ?_)); (first | (refine E_rck0 ?_) | skip)
                  refine E_sapps (l := fof M.V s.name) (m := [newV M s]) u_vers elt_ver (hf := rs_cel (l := [newV M s]) (by simp) rfl) (by simp; omega) (by simp; omega) fun v' _ => ?_
                  exact sm (fin v')
    have hcase : (fof M.V s.name = [] ∧ lk kf s.name = none) ∨ ∃ v, lk kf s.name = some v ∧ (v, fof M.V s.name) ∈ Lv ∧ fof M.V s.name ≠ [] := by
      rcases hf s.name with ⟨h1, h2⟩ | h
      · exact .inl ⟨h2, h1⟩
      · exact .inr h
    rcases hcase with ⟨h1, h2⟩ | ⟨v, h1, h2, h3⟩
    · refine E_dlk0 (κ := List UInt8) h2 ?_
      refine goS ?_
      refine goS ?_
      refine goS ?_
      refine E_ff ?_
      show E B _ (tailC (ptr a) (.bool sp) (ptr bo) (ptr br) (ptr b7) nil (.bool false) K)
      exact sm (tail nil false (fun H => ⟨fun _ => .inl ⟨rfl, by rw [h1]; rfl, by rw [h1]; rfl⟩⟩) (by simp [h1]) rfl)
    · refine E_dlk1 (κ := List UInt8) h1 ?_
      refine goS ?_
      refine goS ?_
      refine goS ?_
      refine E_ff ?_
      show E B _ (tailC (ptr a) (.bool sp) (ptr bo) (ptr br) (ptr b7) v (.bool true) K)
      refine fd (a := spool vC Lv) (slQ_cell h2 fun hcv => ?_)
      exact sm (tail v true (rs_pool h2) (by simp [h3]) hcv)
end Go.Proofs.YtabpaknfenpkoaaGreat.Mod
