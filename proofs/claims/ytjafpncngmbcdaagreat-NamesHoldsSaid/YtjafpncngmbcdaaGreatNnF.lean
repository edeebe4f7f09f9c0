/-
  Names: the document's Filed.
-/
import Derived.Test.YtjafpncngmbcdaaGreatNnE
set_option linter.unusedSimpArgs false
set_option linter.unusedVariables false
set_option linter.unusedSectionVars false
namespace Go.Proofs.YtjafpncngmbcdaaGreat.Nam
open Go Go.SL Go.Proofs Go.Proofs.YtjafpncngmbcdaaGreat.Sh
variable {B : World} {H : List Asrt} {K : Value → WT} {W : WT} {a : Nat} {M : Bk} {f : Fa} {rv hv mv : Value}
variable {fv sv : Cv} {L : List FC} {LS : List SC} {Pf : List (Value × List FC)} {Lv : List (Value × List VR)} {Lr : List (Value × List Rf)} {Ps : List (Value × List SC)} {Lh : List (Value × List (List UInt8 × Int))}
noncomputable def fileIn [Amb] (v0 v3 v6 : Value) (K0 : WT) : WT :=
 S.fad v3 4 fun v52 =>
 S.ld v52 fun v53 =>
 CF Tryz.prog 44 [v0, v53] fun v54 =>
 S.ext v54 0 fun v55 =>
 S.ext v54 1 fun v56 =>
 S.cond v56 (
 S.dr <|
 S.bin .add v55 (SL.I 1) fun v61 =>
 S.fad v3 4 fun v62 =>
 S.ld v62 fun v63 =>
 S.nc v0 fun v66 =>
 S.fad v66 0 fun v67 =>
 S.ld v67 fun v68 =>
 S.ixS 2 v68 v55 fun v70 =>
 S.fad v70 1 fun v71 =>
 S.ld v71 fun v72 =>
 S.ldN 4 v6 fun v74 =>
 S.both (
 V Tryz.prog (Instr.buildSlice 63 0 #[]) fun v64 =>
 S.rck [S.ldN 4 v6 (fun v' _ => v' = v74), S.ld v71 (fun v' _ => v' = v72), S.ld v67 (fun v' _ => v' = v68), S.ld v62 (fun v' _ => v' = v63)] <|
 S.both (
 V Tryz.prog (Builtin.append_ #[63, 63] 63 #[v64, v72]) fun v73 =>
 S.rck [S.ldN 4 v6 (fun v' _ => v' = v74), S.ld v62 (fun v' _ => v' = v63)] <|
 V Tryz.prog (Instr.buildSlice 63 1 #[(0, v74)]) fun v75 =>
 S.rck [S.ld v62 (fun v' _ => v' = v63)] <|
 V Tryz.prog (Builtin.append_ #[63, 63] 63 #[v73, v75]) fun v76 =>
 S.rck [S.ld v62 (fun v' _ => v' = v63)] <|
 V Tryz.prog (Instr.build 86 #[(0, v63), (1, v76)]) fun v77 =>
 V Tryz.prog (Instr.buildSlice 71 1 #[(0, v77)]) fun v78 =>
 CF Tryz.prog 75 [v0, v55, v61, v78] fun v79 =>
 K0) (
 V Tryz.prog (Instr.buildSlice 63 1 #[(0, v74)]) fun v75' =>
 S.rck [S.ld v71 (fun v' _ => v' = v72), S.ld v67 (fun v' _ => v' = v68), S.ld v62 (fun v' _ => v' = v63)] <|
 V Tryz.prog (Builtin.append_ #[63, 63] 63 #[v64, v72]) fun v73' =>
 S.rck [S.ld v62 (fun v' _ => v' = v63)] <|
 V Tryz.prog (Builtin.append_ #[63, 63] 63 #[v73', v75']) fun v76' =>
 S.rck [S.ld v62 (fun v' _ => v' = v63)] <|
 V Tryz.prog (Instr.build 86 #[(0, v63), (1, v76')]) fun v77' =>
 V Tryz.prog (Instr.buildSlice 71 1 #[(0, v77')]) fun v78' =>
 CF Tryz.prog 75 [v0, v55, v61, v78'] fun v79' =>
 K0)) (
 V Tryz.prog (Instr.buildSlice 63 1 #[(0, v74)]) fun v75'2 =>
 S.rck [S.ld v71 (fun v' _ => v' = v72), S.ld v67 (fun v' _ => v' = v68), S.ld v62 (fun v' _ => v' = v63)] <|
 V Tryz.prog (Instr.buildSlice 63 0 #[]) fun v64' =>
 S.rck [S.ld v71 (fun v' _ => v' = v72), S.ld v67 (fun v' _ => v' = v68), S.ld v62 (fun v' _ => v' = v63)] <|
 V Tryz.prog (Builtin.append_ #[63, 63] 63 #[v64', v72]) fun v73'2 =>
 S.rck [S.ld v62 (fun v' _ => v' = v63)] <|
 V Tryz.prog (Builtin.append_ #[63, 63] 63 #[v73'2, v75'2]) fun v76'2 =>
 S.rck [S.ld v62 (fun v' _ => v' = v63)] <|
 V Tryz.prog (Instr.build 86 #[(0, v63), (1, v76'2)]) fun v77'2 =>
 V Tryz.prog (Instr.buildSlice 71 1 #[(0, v77'2)]) fun v78'2 =>
 CF Tryz.prog 75 [v0, v55, v61, v78'2] fun v79'2 =>
 K0)) (
 S.fad v3 4 fun v83 =>
 S.ld v83 fun v84 =>
 S.ldN 4 v6 fun v85 =>
 V Tryz.prog (Instr.buildSlice 63 1 #[(0, v85)]) fun v86 =>
 V Tryz.prog (Instr.build 86 #[(0, v84), (1, v86)]) fun v87 =>
 V Tryz.prog (Instr.buildSlice 71 1 #[(0, v87)]) fun v88 =>
 CF Tryz.prog 75 [v0, v55, v55, v88] fun v89 =>
 K0)
attribute [local irreducible] S.pick S.ld S.ldN S.st S.box S.nc S.fad S.ixS S.ixA S.chr S.prt S.ext S.bin S.sh S.sbin S.beq S.neg1 S.com1 S.not1 S.cvt S.str1 S.lenS S.len S.cap S.lenM S.mx S.mn S.mkM S.cond S.gd S.fa S.dr S.rck S.join S.loop S.cvv S.eqv S.slc S.slcS S.b2s S.lk V U CF Gives E cel mpb osl ros dct dit itr lpo dfo
set_option maxRecDepth 8000
attribute [local irreducible] bk dbk
theorem fileIn_ok {b3 b6 : Nat} {rv' : Value} {K0 : WT} [hrc : CellI rv'] (hm : (rv', f.refs) ∈ Lr) (hd : DOk ⟨fv, sv, L, LS, Pf, Lv, Lr, Ps, Lh⟩ M) (hw : Inv M) (hg : ∀ w ∈ fof M.V f.name, w.gen < f.gen) (hk : E B (dbk a { M with V := insV M.V ⟨f.name, f.gen, f.time, f.refs, false⟩ } :: cel true b3 60 (faL f rv hv mv) :: H) K0) :
    E B (cel true a 88 [fv.1, sv.1, I M.now] :: spool fC Pf :: spool vC Lv :: spool rfC Lr :: spool shC Ps :: spool hC Lh :: cel true b3 60 (faL f rv hv mv) :: cel true b6 31 [I f.gen, I f.time, rv', .bool false] :: H) (fileIn (ptr a) (ptr b3) (ptr b6) K0) := by
  have hlen := hd.len
  have hL := nms_len32 hd hw
  have hfl := hw.fl f.name
  have hns := nms_lt hw.v.n
  have hple := pos_le (nms M.V) f.name
  have hs' : SrtN (insV M.V ⟨f.name, f.gen, f.time, f.refs, false⟩) := (insV_srt hw.v hg).n
  have rf : ∀ H, Rs B (spool fC Pf :: H) fv.1 fC L := rs_pool hd.f
  unfold fileIn
  (repeat first | refine gS ?_ | refine gA fun _ => ?_ | refine gX fun _ _ => ?_ | refine gT ?_ | refine gF ?_ | refine gI ?_)
  refine fileD hd hw ?_
  by_cases hn : f.name ∈ nms M.V
  · rw [decide_eq_true hn]
    have hx' := pos_mem hns hn
    obtain ⟨c, l, hx, hl⟩ := hd.get hx'
    have hpl : posL (nms M.V) f.name < L.length := (List.getElem?_eq_some_iff.1 hx).1
    have rl := rs_pool (B := B) (enc := vC) hl.m
    have hll : l.length = (fof M.V f.name).length := by rw [← hl.e, List.length_map]
    have last : ∀ (u : Value) [CellI u], E B (sls vC 31 4 u (l ++ [((⟨f.name, f.gen, f.time, f.refs, false⟩, ⟨rv', hrc.pf⟩) : VR)]) :: cel true a 88 [fv.1, sv.1, I M.now] :: spool fC Pf :: spool vC Lv :: spool rfC Lr :: spool shC Ps :: spool hC Lh :: cel true b3 60 (faL f rv hv mv) :: cel true b6 31 [I f.gen, I f.time, rv', .bool false] :: H) (V Tryz.prog (Instr.build 86 #[(0, str f.name), (1, u)]) fun v77 => V Tryz.prog (Instr.buildSlice 71 1 #[(0, v77)]) fun v78 => CF Tryz.prog 75 [ptr a, I (posL (nms M.V) f.name), I ((posL (nms M.V) f.name : Int) + 1), v78] fun _ => K0) := fun u hu => by
      refine E_build (l := [str f.name, u]) str_file ?_
      refine E_bsl [(0, 2)] u_fileL elt_file (by simp) (by decide) (l0 := [.string ⟨#[]⟩, nil]) rfl fun bx => ?_
      refine E_slsC (enc := fC) [((f.name, ⟨u, hu.pf⟩) : FC)] 1 rfl rfl ?_
      rw [show (posL (nms M.V) f.name : Int) + 1 = ((posL (nms M.V) f.name + 1 : Nat) : Int) by omega]
      refine sm (G := cel true a 88 [fv.1, sv.1, I M.now] :: spool fC Pf :: spool vC Lv :: spool rfC Lr :: spool shC Ps :: spool hC Lh :: sls fC 86 2 (.slice (some ⟨bx, 0, none⟩) 1 1) [((f.name, ⟨u, hu.pf⟩) : FC)] :: sls vC 31 4 u (l ++ [((⟨f.name, f.gen, f.time, f.refs, false⟩, ⟨rv', hrc.pf⟩) : VR)]) :: cel true b3 60 (faL f rv hv mv) :: H) ?_
      refine withD (L := L) (ms := [((f.name, ⟨u, hu.pf⟩) : FC)]) hd.f (by omega) (by omega) (by omega) (by simp) (fun G => rs_app G inferInstance) fun v' hv' => ?_
      refine fd (a := spool vC Lv) ?_
      refine fd (a := sls vC 31 4 u (l ++ [((⟨f.name, f.gen, f.time, f.refs, false⟩, ⟨rv', hrc.pf⟩) : VR)])) ?_
      refine E_give ?_
      have hv'' : (l ++ [((⟨f.name, f.gen, f.time, f.refs, false⟩, ⟨rv', hrc.pf⟩) : VR)]).map (·.1) = fof (insV M.V ⟨f.name, f.gen, f.time, f.refs, false⟩) f.name := by
        rw [fof_insV hw.v.n, if_pos rfl, List.map_append, hl.e]; rfl
      have hfs := hd.fs.put (V' := insV M.V ⟨f.name, f.gen, f.time, f.refs, false⟩) (Lv' := (u, l ++ [((⟨f.name, f.gen, f.time, f.refs, false⟩, ⟨rv', hrc.pf⟩) : VR)]) :: Lv) (Lr' := Lr) (c := ⟨u, hu.pf⟩) hw.v.n hn (nms_insV_in hw.v.n hs' hn) (fun k' hk' => by rw [fof_insV hw.v.n, if_neg hk']) ⟨by simp, hv'', fun p hp => by
        rcases List.mem_append.1 hp with hp | hp
        · exact hl.r p hp
        · simp only [List.mem_singleton] at hp
          subst hp; exact hm⟩ (fun _ h => List.mem_cons_of_mem _ h) (fun _ h => h)
      refine sm (G := cel true a 88 [v', sv.1, I M.now] :: spool fC ((v', L.take (posL (nms M.V) f.name) ++ [((f.name, ⟨u, hu.pf⟩) : FC)] ++ L.drop (posL (nms M.V) f.name + 1)) :: Pf) :: spool vC ((u, l ++ [((⟨f.name, f.gen, f.time, f.refs, false⟩, ⟨rv', hrc.pf⟩) : VR)]) :: Lv) :: spool rfC Lr :: spool shC Ps :: spool hC Lh :: cel true b3 60 (faL f rv hv mv) :: H) ?_
      exact E_dbkS (M := { M with V := insV M.V ⟨f.name, f.gen, f.time, f.refs, false⟩ }) (fv := ⟨v', hv'.pf⟩) (L := L.take (posL (nms M.V) f.name) ++ [((f.name, ⟨u, hu.pf⟩) : FC)] ++ L.drop (posL (nms M.V) f.name + 1)) ⟨by simp, hfs, hd.s, hd.sh⟩ rfl hk
    (repeat first | refine gS ?_ | refine gA fun _ => ?_ | refine gX fun _ _ => ?_ | refine gT ?_ | refine gF ?_ | refine gI ?_)
    refine E_both ?_ ?_
    · refine E_bsl0 u_vers elt_ver fun b0 => ?_
      refine E_slsC (enc := vC) [] 0 rfl rfl ?_
      (repeat (refine E_rck1 (by first | exact E_ld (E_fact rfl) | exact E_ld' (by assumption) (E_fact rfl) | exact E_b2sR (E_fact rfl) | exact E_gdnF (by assumption) (E_ld (E_fact rfl)) | exact E_gdT (by assumption) (E_ld (E_fact rfl)) | exact E_gtf (E_ld (E_fact rfl)) | exact E_gft (E_ld (E_fact rfl)) | exact E_ldNA (E_fact rfl) | exact E_ptld (E_fact rfl) | exact E_gtf (E_ldNA (E_fact rfl))) ?_)); (first | (refine E_rck0 ?_) | skip)
      refine E_both ?_ ?_
      · refine E_sapps (enc := vC) (l := []) (m := l) u_vers elt_ver (by simp; omega) (by simp; omega) fun v2 _ => ?_
        rw [List.nil_append]
        (repeat (refine E_rck1 (by first | exact E_ld (E_fact rfl) | exact E_ld' (by assumption) (E_fact rfl) | exact E_b2sR (E_fact rfl) | exact E_gdnF (by assumption) (E_ld (E_fact rfl)) | exact E_gdT (by assumption) (E_ld (E_fact rfl)) | exact E_gtf (E_ld (E_fact rfl)) | exact E_gft (E_ld (E_fact rfl)) | exact E_ldNA (E_fact rfl) | exact E_ptld (E_fact rfl) | exact E_gtf (E_ldNA (E_fact rfl))) ?_)); (first | (refine E_rck0 ?_) | skip)
        refine E_bsl [(0, 4)] u_vers elt_ver (by simp) (by decide) (l0 := [I 0, I 0, nil, .bool false]) rfl fun bx => ?_
        refine E_slsC (enc := vC) [((⟨f.name, f.gen, f.time, f.refs, false⟩, ⟨rv', hrc.pf⟩) : VR)] 1 rfl rfl ?_
        (repeat (refine E_rck1 (by first | exact E_ld (E_fact rfl) | exact E_ld' (by assumption) (E_fact rfl) | exact E_b2sR (E_fact rfl) | exact E_gdnF (by assumption) (E_ld (E_fact rfl)) | exact E_gdT (by assumption) (E_ld (E_fact rfl)) | exact E_gtf (E_ld (E_fact rfl)) | exact E_gft (E_ld (E_fact rfl)) | exact E_ldNA (E_fact rfl) | exact E_ptld (E_fact rfl) | exact E_gtf (E_ldNA (E_fact rfl))) ?_)); (first | (refine E_rck0 ?_) | skip)
        refine fd (a := sls vC 31 4 v2 l) ?_
        refine E_sapps (enc := vC) (m := [((⟨f.name, f.gen, f.time, f.refs, false⟩, ⟨rv', hrc.pf⟩) : VR)]) u_vers elt_ver (by simp; omega) (by simp; omega) fun v3 _ => ?_
        (repeat (refine E_rck1 (by first | exact E_ld (E_fact rfl) | exact E_ld' (by assumption) (E_fact rfl) | exact E_b2sR (E_fact rfl) | exact E_gdnF (by assumption) (E_ld (E_fact rfl)) | exact E_gdT (by assumption) (E_ld (E_fact rfl)) | exact E_gtf (E_ld (E_fact rfl)) | exact E_gft (E_ld (E_fact rfl)) | exact E_ldNA (E_fact rfl) | exact E_ptld (E_fact rfl) | exact E_gtf (E_ldNA (E_fact rfl))) ?_)); (first | (refine E_rck0 ?_) | skip)
        exact sm (last v3)
      · refine E_bsl [(0, 4)] u_vers elt_ver (by simp) (by decide) (l0 := [I 0, I 0, nil, .bool false]) rfl fun bx => ?_
        refine E_slsC (enc := vC) [((⟨f.name, f.gen, f.time, f.refs, false⟩, ⟨rv', hrc.pf⟩) : VR)] 1 rfl rfl ?_
        (repeat (refine E_rck1 (by first | exact E_ld (E_fact rfl) | exact E_ld' (by assumption) (E_fact rfl) | exact E_b2sR (E_fact rfl) | exact E_gdnF (by assumption) (E_ld (E_fact rfl)) | exact E_gdT (by assumption) (E_ld (E_fact rfl)) | exact E_gtf (E_ld (E_fact rfl)) | exact E_gft (E_ld (E_fact rfl)) | exact E_ldNA (E_fact rfl) | exact E_ptld (E_fact rfl) | exact E_gtf (E_ldNA (E_fact rfl))) ?_)); (first | (refine E_rck0 ?_) | skip)
        refine fd (a := sls vC 31 4 (.slice (some ⟨b0, 0, none⟩) 0 0) []) ?_
        refine E_sapps (enc := vC) (l := []) (m := l) u_vers elt_ver (by simp; omega) (by simp; omega) fun v2 _ => ?_
        rw [List.nil_append]
        (repeat (refine E_rck1 (by first | exact E_ld (E_fact rfl) | exact E_ld' (by assumption) (E_fact rfl) | exact E_b2sR (E_fact rfl) | exact E_gdnF (by assumption) (E_ld (E_fact rfl)) | exact E_gdT (by assumption) (E_ld (E_fact rfl)) | exact E_gtf (E_ld (E_fact rfl)) | exact E_gft (E_ld (E_fact rfl)) | exact E_ldNA (E_fact rfl) | exact E_ptld (E_fact rfl) | exact E_gtf (E_ldNA (E_fact rfl))) ?_)); (first | (refine E_rck0 ?_) | skip)
        refine E_sapps (enc := vC) (m := [((⟨f.name, f.gen, f.time, f.refs, false⟩, ⟨rv', hrc.pf⟩) : VR)]) u_vers elt_ver (by simp; omega) (by simp; omega) fun v3 _ => ?_
        (repeat (refine E_rck1 (by first | exact E_ld (E_fact rfl) | exact E_ld' (by assumption) (E_fact rfl) | exact E_b2sR (E_fact rfl) | exact E_gdnF (by assumption) (E_ld (E_fact rfl)) | exact E_gdT (by assumption) (E_ld (E_fact rfl)) | exact E_gtf (E_ld (E_fact rfl)) | exact E_gft (E_ld (E_fact rfl)) | exact E_ldNA (E_fact rfl) | exact E_ptld (E_fact rfl) | exact E_gtf (E_ldNA (E_fact rfl))) ?_)); (first | (refine E_rck0 ?_) | skip)
        exact sm (last v3)
    · refine E_bsl [(0, 4)] u_vers elt_ver (by simp) (by decide) (l0 := [I 0, I 0, nil, .bool false]) rfl fun bx => ?_
      refine E_slsC (enc := vC) [((⟨f.name, f.gen, f.time, f.refs, false⟩, ⟨rv', hrc.pf⟩) : VR)] 1 rfl rfl ?_
      (repeat (refine E_rck1 (by first | exact E_ld (E_fact rfl) | exact E_ld' (by assumption) (E_fact rfl) | exact E_b2sR (E_fact rfl) | exact E_gdnF (by assumption) (E_ld (E_fact rfl)) | exact E_gdT (by assumption) (E_ld (E_fact rfl)) | exact E_gtf (E_ld (E_fact rfl)) | exact E_gft (E_ld (E_fact rfl)) | exact E_ldNA (E_fact rfl) | exact E_ptld (E_fact rfl) | exact E_gtf (E_ldNA (E_fact rfl))) ?_)); (first | (refine E_rck0 ?_) | skip)
      refine E_bsl0 u_vers elt_ver fun b0 => ?_
      refine E_slsC (enc := vC) [] 0 rfl rfl ?_
      (repeat (refine E_rck1 (by first | exact E_ld (E_fact rfl) | exact E_ld' (by assumption) (E_fact rfl) | exact E_b2sR (E_fact rfl) | exact E_gdnF (by assumption) (E_ld (E_fact rfl)) | exact E_gdT (by assumption) (E_ld (E_fact rfl)) | exact E_gtf (E_ld (E_fact rfl)) | exact E_gft (E_ld (E_fact rfl)) | exact E_ldNA (E_fact rfl) | exact E_ptld (E_fact rfl) | exact E_gtf (E_ldNA (E_fact rfl))) ?_)); (first | (refine E_rck0 ?_) | skip)
      refine E_sapps (enc := vC) (l := []) (m := l) u_vers elt_ver (by simp; omega) (by simp; omega) fun v2 _ => ?_
      rw [List.nil_append]
      (repeat (refine E_rck1 (by first | exact E_ld (E_fact rfl) | exact E_ld' (by assumption) (E_fact rfl) | exact E_b2sR (E_fact rfl) | exact E_gdnF (by assumption) (E_ld (E_fact rfl)) | exact E_gdT (by assumption) (E_ld (E_fact rfl)) | exact E_gtf (E_ld (E_fact rfl)) | exact E_gft (E_ld (E_fact rfl)) | exact E_ldNA (E_fact rfl) | exact E_ptld (E_fact rfl) | exact E_gtf (E_ldNA (E_fact rfl))) ?_)); (first | (refine E_rck0 ?_) | skip)
      refine E_sapps (enc := vC) (m := [((⟨f.name, f.gen, f.time, f.refs, false⟩, ⟨rv', hrc.pf⟩) : VR)]) u_vers elt_ver (by simp; omega) (by simp; omega) fun v3 _ => ?_
      (repeat (refine E_rck1 (by first | exact E_ld (E_fact rfl) | exact E_ld' (by assumption) (E_fact rfl) | exact E_b2sR (E_fact rfl) | exact E_gdnF (by assumption) (E_ld (E_fact rfl)) | exact E_gdT (by assumption) (E_ld (E_fact rfl)) | exact E_gtf (E_ld (E_fact rfl)) | exact E_gft (E_ld (E_fact rfl)) | exact E_ldNA (E_fact rfl) | exact E_ptld (E_fact rfl) | exact E_gtf (E_ldNA (E_fact rfl))) ?_)); (first | (refine E_rck0 ?_) | skip)
      exact sm (last v3)
  · rw [decide_eq_false hn]
    (repeat first | refine gS ?_ | refine gA fun _ => ?_ | refine gX fun _ _ => ?_ | refine gT ?_ | refine gF ?_ | refine gI ?_)
    refine E_bsl [(0, 4)] u_vers elt_ver (by simp) (by decide) (l0 := [I 0, I 0, nil, .bool false]) rfl fun bv => ?_
    refine E_slsC (enc := vC) [((⟨f.name, f.gen, f.time, f.refs, false⟩, ⟨rv', hrc.pf⟩) : VR)] 1 rfl rfl ?_
    refine E_build (l := [str f.name, .slice (some ⟨bv, 0, none⟩) 1 1]) str_file ?_
    refine E_bsl [(0, 2)] u_fileL elt_file (by simp) (by decide) (l0 := [.string ⟨#[]⟩, nil]) rfl fun bx => ?_
    refine E_slsC (enc := fC) [((f.name, ⟨.slice (some ⟨bv, 0, none⟩) 1 1, rfl⟩) : FC)] 1 rfl rfl ?_
    refine sm (G := cel true a 88 [fv.1, sv.1, I M.now] :: spool fC Pf :: spool vC Lv :: spool rfC Lr :: spool shC Ps :: spool hC Lh :: sls fC 86 2 (.slice (some ⟨bx, 0, none⟩) 1 1) [((f.name, ⟨.slice (some ⟨bv, 0, none⟩) 1 1, rfl⟩) : FC)] :: sls vC 31 4 (.slice (some ⟨bv, 0, none⟩) 1 1) [((⟨f.name, f.gen, f.time, f.refs, false⟩, ⟨rv', hrc.pf⟩) : VR)] :: cel true b3 60 (faL f rv hv mv) :: H) ?_
    refine withD (L := L) (ms := [((f.name, ⟨.slice (some ⟨bv, 0, none⟩) 1 1, rfl⟩) : FC)]) hd.f (by omega) (by omega) (by omega) (by simp) (fun G => rs_app G inferInstance) fun v' hv' => ?_
    refine fd (a := spool vC Lv) ?_
    refine fd (a := sls vC 31 4 (.slice (some ⟨bv, 0, none⟩) 1 1) [((⟨f.name, f.gen, f.time, f.refs, false⟩, ⟨rv', hrc.pf⟩) : VR)]) ?_
    refine E_give ?_
    have hv'' : ([((⟨f.name, f.gen, f.time, f.refs, false⟩, ⟨rv', hrc.pf⟩) : VR)]).map (·.1) = fof (insV M.V ⟨f.name, f.gen, f.time, f.refs, false⟩) f.name := by
      rw [fof_insV hw.v.n, if_pos rfl, fof_none hn]; rfl
    have hfs := hd.fs.ins (v := ⟨f.name, f.gen, f.time, f.refs, false⟩) (Lv' := (.slice (some ⟨bv, 0, none⟩) 1 1, [((⟨f.name, f.gen, f.time, f.refs, false⟩, ⟨rv', hrc.pf⟩) : VR)]) :: Lv) (Lr' := Lr) (c := ⟨.slice (some ⟨bv, 0, none⟩) 1 1, rfl⟩) hw.v.n hs' hn ⟨by simp, hv'', fun p hp => by
      simp only [List.mem_singleton] at hp
      subst hp; exact hm⟩ (fun _ h => List.mem_cons_of_mem _ h) (fun _ h => h)
    refine sm (G := cel true a 88 [v', sv.1, I M.now] :: spool fC ((v', L.take (posL (nms M.V) f.name) ++ [((f.name, ⟨.slice (some ⟨bv, 0, none⟩) 1 1, rfl⟩) : FC)] ++ L.drop (posL (nms M.V) f.name)) :: Pf) :: spool vC ((.slice (some ⟨bv, 0, none⟩) 1 1, [((⟨f.name, f.gen, f.time, f.refs, false⟩, ⟨rv', hrc.pf⟩) : VR)]) :: Lv) :: spool rfC Lr :: spool shC Ps :: spool hC Lh :: cel true b3 60 (faL f rv hv mv) :: H) ?_
    exact E_dbkS (M := { M with V := insV M.V ⟨f.name, f.gen, f.time, f.refs, false⟩ }) (fv := ⟨v', hv'.pf⟩) (L := L.take (posL (nms M.V) f.name) ++ [((f.name, ⟨.slice (some ⟨bv, 0, none⟩) 1 1, rfl⟩) : FC)] ++ L.drop (posL (nms M.V) f.name)) ⟨by simp, hfs, hd.s, hd.sh⟩ rfl hk
end Go.Proofs.YtjafpncngmbcdaaGreat.Nam
