/- The shallow forms of functions, printed by shal.py. -/
import Derived.Test.YtabpaknfenpkoaaGreatSlA
import Derived.Test.YtabpaknfenpkoaaGreatProg
import Derived.KernelRfl
namespace Go.Proofs.YtabpaknfenpkoaaGreat.Sh
open Go Go.SL Go.Proofs
set_option linter.unusedVariables false
set_option maxRecDepth 100000
/-- aumbry/aumbrylaw21.ModelPlays -/
def a3 : Ann := .seq (.z) (.seq (.z) (.seq (.seq (.z) (.cond (.seq (.z) (.z)) (.z))) (.seq (.z) (.seq (.z) (.seq (.z) (.seq (.z) (.seq (.z) (.z))))))))
def s3 [Amb] (v0 v1 v2 v3 v4 : Value) (K : Value → WT) : WT :=
 CF Tryz.prog 7 [v0, v1] fun v23 =>
 S.ext v23 0 fun v24 =>
 S.ext v23 1 fun v25 =>
 S.ext v23 2 fun v26 =>
 S.not1 v26 fun v28 =>
 S.cond v28 (
 K (B false)) (
 CF Tryz.prog 8 [v24, v2, v4] fun v33 =>
 S.ext v33 0 fun v34 =>
 S.ext v33 1 fun v35 =>
 V Tryz.prog (Instr.build 42 #[(0, (I 5)), (2, v2), (4, v4)]) fun v39 =>
 CF Tryz.prog 9 [v25, v39, (B false)] fun v40 =>
 S.box 33 (.agg #[(.int .i64 0), (.int .i64 0), (.slice none 0 0), (.slice none 0 0)]) fun v16 =>
 S.st 4 v16 v40 fun _ =>
 CF Tryz.prog 10 [v24, v3, v2] fun v45 =>
 S.ext v45 0 fun v46 =>
 S.ext v45 1 fun v47 =>
 V Tryz.prog (Instr.build 42 #[(0, (I 7)), (3, v3), (2, v2)]) fun v51 =>
 CF Tryz.prog 9 [v25, v51, (B false)] fun v52 =>
 S.box 33 (.agg #[(.int .i64 0), (.int .i64 0), (.slice none 0 0), (.slice none 0 0)]) fun v19 =>
 S.st 4 v19 v52 fun _ =>
 CF Tryz.prog 11 [] fun v53 =>
 S.gd v53 true (fun k => k v34) fun v55 =>
 S.gd v53 true (S.b2s v55) fun v56 =>
 S.gd v53 true (S.fad v16 2) fun v57 =>
 S.gd v53 true (S.ld v57) fun v58 =>
 S.gd v53 true (S.b2s v58) fun v59 =>
 S.gd v53 true (S.sbin .eql v56 v59) fun v60 =>
 S.pick v53 v60 (B false) fun v61 =>
 S.gd v61 true (fun k => k v35) fun v63 =>
 S.gd v61 true (S.fad v16 0) fun v64 =>
 S.gd v61 true (S.ld v64) fun v65 =>
 S.gd v61 true (S.bin .eql v63 v65) fun v66 =>
 S.pick v61 v66 (B false) fun v67 =>
 S.gd v67 true (fun k => k v46) fun v69 =>
 S.gd v67 true (S.b2s v69) fun v70 =>
 S.gd v67 true (S.fad v19 2) fun v71 =>
 S.gd v67 true (S.ld v71) fun v72 =>
 S.gd v67 true (S.b2s v72) fun v73 =>
 S.gd v67 true (S.sbin .eql v70 v73) fun v74 =>
 S.pick v67 v74 (B false) fun v75 =>
 S.gd v75 true (fun k => k v47) fun v77 =>
 S.gd v75 true (S.fad v19 0) fun v78 =>
 S.gd v75 true (S.ld v78) fun v79 =>
 S.gd v75 true (S.bin .eql v77 v79) fun v80 =>
 S.pick v75 v80 (B false) fun v81 =>
 K v81)
theorem e3 [Amb] (v0 v1 v2 v3 v4 : Value) (K : Value → WT) : s3 v0 v1 v2 v3 v4 K = shal Tryz.prog Tryz.f3 .p a3 [v0, v1, v2, v3, v4] K := by kernel_rfl
theorem c3 [Amb] {v0 v1 v2 v3 v4 : Value} {K : Value → WT} {w : World} (h : s3 v0 v1 v2 v3 v4 K w) : CF Tryz.prog 3 [v0, v1, v2, v3, v4] K w := shal_sound Tryz.func3 (e3 v0 v1 v2 v3 v4 K ▸ h)

/-- aumbry/aumbrylaw21.ModelShows -/
def a4 : Ann := .seq (.z) (.seq (.z) (.seq (.seq (.z) (.cond (.seq (.z) (.z)) (.z))) (.seq (.z) (.seq (.z) (.seq (.seq (.z) (.blk (.loop [2, 3, 4, 11, 14, 15, 16] (.seq (.join [2, 3, 4, 11, 14, 15, 16, 46] (.z) (.cond (.z) (.z))) (.join [2, 3, 4, 11, 14, 15, 16] (.blk (.join [2, 3, 4, 11, 14, 15, 16, 65] (.z) (.cond (.draw [0, 1, 2, 3, 4, 5, 6, 7, 8, 9, 10, 11]) (.z)))) (.z)))))) (.seq (.z) (.seq (.z) (.seq (.z) (.z)))))))))
def s4 [Amb] (v0 v1 v2 v3 v4 : Value) (K : Value → WT) : WT :=
 CF Tryz.prog 7 [v0, v1] fun v22 =>
 S.ext v22 0 fun v23 =>
 S.ext v22 1 fun v24 =>
 S.ext v22 2 fun v25 =>
 S.not1 v25 fun v27 =>
 S.cond v27 (
 K (B false)) (
 V Tryz.prog (Instr.build 42 #[(0, (I 11)), (3, v2)]) fun v30 =>
 CF Tryz.prog 12 [v23, v30, (B false)] fun v31 =>
 CF Tryz.prog 10 [v23, v2, v3] fun v36 =>
 S.ext v36 0 fun v37 =>
 S.ext v36 1 fun v38 =>
 S.loop 7 (fun K0 => fun v2' v3' v4' v11 v14 v15 v16 => S.fa fun _ =>
 S.join 8 (fun K1 =>
 S.len v4' fun v41 =>
 S.bin .lss v16 v41 fun v42 =>
 S.gd v42 true (fun k => k v16) fun v44 =>
 S.gd v42 true (S.bin .lss v44 (I 60)) fun v45 =>
 S.pick v42 v45 (B false) fun v46 =>
 K1 v2' v3' v4' v11 v14 v15 v16 v46)
 <| fun v2'2 v3'2 v4'2 v11' v14' v15' v16' v46' => S.fa fun _ =>
 S.cond v46' (
 S.join 7 (fun K2 =>
 S.join 8 (fun K3 =>
 S.ixS 16 v4'2 v16' fun v51 =>
 S.fad v51 0 fun v52 =>
 S.fad v52 0 fun v53 =>
 S.ld v53 fun v54 =>
 S.bin .neq v54 (I 12) fun v55 =>
 S.gd v55 true (fun k => k v4'2) fun v57 =>
 S.gd v55 true (fun k => k v16') fun v58 =>
 S.gd v55 true (S.ixS 16 v57 v58) fun v59 =>
 S.gd v55 true (S.fad v59 0) fun v60 =>
 S.gd v55 true (S.fad v60 7) fun v61 =>
 S.gd v55 true (S.ld v61) fun v62 =>
 S.gd v55 true (S.len v62) fun v63 =>
 S.gd v55 true (S.bin .leq v63 (I 9000)) fun v64 =>
 S.pick v55 v64 (B false) fun v65 =>
 K3 v2'2 v3'2 v4'2 v11' v14' v15' v16' v65)
 <| fun v2'3 v3'3 v4'3 v11'2 v14'2 v15'2 v16'2 v65' => S.fa fun _ =>
 S.cond v65' (
 S.dr <|
 S.ixS 16 v4'3 v16'2 fun v69 =>
 S.fad v69 0 fun v70 =>
 S.ldN 15 v70 fun v71 =>
 S.ixS 16 v4'3 v16'2 fun v74 =>
 S.fad v74 15 fun v75 =>
 S.ld v75 fun v76 =>
 CF Tryz.prog 12 [v11'2, v71, v76] fun v77 =>
 K2 v2'3 v3'3 v4'3 v11'2 v14'2 v15'2 v16'2) (
 K2 v2'3 v3'3 v4'3 v11'2 v14'2 v15'2 v16'2))
 <| fun v2'4 v3'4 v4'4 v11'3 v14'3 v15'3 v16'3 => S.fa fun _ =>
 S.bin .add v16'3 (I 1) fun v48 =>
 K0 v2'4 v3'4 v4'4 v11'3 v14'3 v15'3 v48) (
 CF Tryz.prog 13 [v11'] fun v79 =>
 CF Tryz.prog 10 [v11', v2'2, v3'2] fun v84 =>
 S.ext v84 0 fun v85 =>
 S.ext v84 1 fun v86 =>
 CF Tryz.prog 11 [] fun v87 =>
 S.gd v87 true (fun k => k v15') fun v89 =>
 S.gd v87 true (fun k => k v86) fun v90 =>
 S.gd v87 true (S.bin .eql v89 v90) fun v91 =>
 S.pick v87 v91 (B false) fun v92 =>
 S.gd v92 true (fun k => k v85) fun v94 =>
 S.gd v92 true (S.b2s v94) fun v95 =>
 S.gd v92 true (fun k => k v14') fun v96 =>
 S.gd v92 true (S.b2s v96) fun v97 =>
 S.gd v92 true (S.sbin .eql v95 v97) fun v98 =>
 S.pick v92 v98 (B false) fun v99 =>
 S.gd v99 true (fun k => k v11') fun v101 =>
 S.gd v99 true (CF Tryz.prog 14 [v101]) fun v102 =>
 S.gd v99 true (S.len v102) fun v103 =>
 S.gd v99 true (S.bin .eql v103 (I 0)) fun v104 =>
 S.pick v99 v104 (B false) fun v105 =>
 K v105))
 [v2, v3, v4, v23, v37, v38, (I 0)])
theorem e4 [Amb] (v0 v1 v2 v3 v4 : Value) (K : Value → WT) : s4 v0 v1 v2 v3 v4 K = shal Tryz.prog Tryz.f4 .p a4 [v0, v1, v2, v3, v4] K := by kernel_rfl
theorem c4 [Amb] {v0 v1 v2 v3 v4 : Value} {K : Value → WT} {w : World} (h : s4 v0 v1 v2 v3 v4 K w) : CF Tryz.prog 4 [v0, v1, v2, v3, v4] K w := shal_sound Tryz.func4 (e4 v0 v1 v2 v3 v4 K ▸ h)

/-- aumbry/aumbrylaw21.ModelFails -/
def a5 : Ann := .seq (.z) (.seq (.z) (.seq (.seq (.z) (.cond (.seq (.z) (.z)) (.z))) (.seq (.z) (.seq (.z) (.join [5, 7, 8, 10, 11, 12] (.z) (.seq (.join [5, 7, 8, 10, 12, 52] (.z) (.cond (.seq (.z) (.z)) (.z))) (.seq (.join [5, 7, 8, 10, 61] (.z) (.cond (.seq (.z) (.z)) (.z))) (.seq (.z) (.seq (.z) (.seq (.z) (.z)))))))))))
def s5 [Amb] (v0 v1 v2 : Value) (K : Value → WT) : WT :=
 S.box 47 v2 fun v5 =>
 CF Tryz.prog 7 [v0, v1] fun v17 =>
 S.ext v17 0 fun v18 =>
 S.ext v17 1 fun v19 =>
 S.ext v17 2 fun v20 =>
 S.not1 v20 fun v22 =>
 S.cond v22 (
 K (B false)) (
 CF Tryz.prog 15 [v18] fun v24 =>
 S.fad v5 0 fun v26 =>
 S.ldN 15 v26 fun v27 =>
 S.fad v5 15 fun v28 =>
 S.ld v28 fun v29 =>
 CF Tryz.prog 12 [v18, v27, v29] fun v30 =>
 S.box 33 (.agg #[(.int .i64 0), (.int .i64 0), (.slice none 0 0), (.slice none 0 0)]) fun v11 =>
 S.st 4 v11 v30 fun _ =>
 S.join 6 (fun K0 =>
 S.fad v5 0 fun v31 =>
 S.fad v31 0 fun v32 =>
 S.ld v32 fun v33 =>
 S.bin .geq v33 (I 5) fun v34 =>
 S.gd v34 true (S.fad v5 0) fun v36 =>
 S.gd v34 true (S.fad v36 0) fun v37 =>
 S.gd v34 true (S.ld v37) fun v38 =>
 S.gd v34 true (S.bin .leq v38 (I 9)) fun v39 =>
 S.pick v34 v39 (B false) fun v40 =>
 K0 v5 v18 v19 v24 v11 v40)
 <| fun v5' v7 v8 v10 v11' v12 => S.fa fun _ =>
 S.join 6 (fun K1 =>
 S.fad v11' 0 fun v41 =>
 S.ld v41 fun v42 =>
 S.bin .neq v42 (I 0) fun v43 =>
 S.gd v43 false (fun k => k v12) fun v45 =>
 S.pick v43 (B true) v45 fun v46 =>
 S.gd v46 true (fun k => k v7) fun v48 =>
 S.gd v46 true (fun k => k v10) fun v49 =>
 S.gd v46 true (CF Tryz.prog 16 [v48, v49]) fun v50 =>
 S.gd v46 true (S.not1 v50) fun v51 =>
 S.pick v46 v51 (B false) fun v52 =>
 K1 v5' v7 v8 v10 v12 v52)
 <| fun v5'2 v7' v8' v10' v12' v52' => S.fa fun _ =>
 S.cond v52' (
 K (B false)) (
 S.join 5 (fun K2 =>
 S.gd v12' true (fun k => k v7') fun v55 =>
 S.gd v12' true (CF Tryz.prog 14 [v55]) fun v56 =>
 S.gd v12' true (fun k => k v10') fun v57 =>
 S.gd v12' true (CF Tryz.prog 14 [v57]) fun v58 =>
 S.gd v12' true (CF Tryz.prog 17 [v56, v58]) fun v59 =>
 S.gd v12' true (S.not1 v59) fun v60 =>
 S.pick v12' v60 (B false) fun v61 =>
 K2 v5'2 v7' v8' v10' v61)
 <| fun v5'3 v7'2 v8'2 v10'2 v61' => S.fa fun _ =>
 S.cond v61' (
 K (B false)) (
 CF Tryz.prog 18 [v8'2] fun v63 =>
 S.fad v5'3 0 fun v65 =>
 S.ldN 15 v65 fun v66 =>
 S.fad v5'3 15 fun v67 =>
 S.ld v67 fun v68 =>
 CF Tryz.prog 9 [v8'2, v66, v68] fun v69 =>
 CF Tryz.prog 11 [] fun v70 =>
 S.gd v70 true (fun k => k v7'2) fun v72 =>
 S.gd v70 true (fun k => k v10'2) fun v73 =>
 S.gd v70 true (CF Tryz.prog 16 [v72, v73]) fun v74 =>
 S.gd v70 true (fun k => k v8'2) fun v75 =>
 S.gd v70 true (fun k => k v63) fun v76 =>
 S.gd v70 true (CF Tryz.prog 19 [v75, v76]) fun v77 =>
 S.gd v70 true (S.beq .eql v74 v77) fun v78 =>
 S.pick v70 v78 (B false) fun v79 =>
 K v79)))
theorem e5 [Amb] (v0 v1 v2 : Value) (K : Value → WT) : s5 v0 v1 v2 K = shal Tryz.prog Tryz.f5 .p a5 [v0, v1, v2] K := by kernel_rfl
theorem c5 [Amb] {v0 v1 v2 : Value} {K : Value → WT} {w : World} (h : s5 v0 v1 v2 K w) : CF Tryz.prog 5 [v0, v1, v2] K w := shal_sound Tryz.func5 (e5 v0 v1 v2 K ▸ h)

/-- aumbry/aumbrylaw21.ModelForks -/
def a6 : Ann := .seq (.z) (.seq (.z) (.seq (.seq (.z) (.cond (.seq (.z) (.z)) (.z))) (.seq (.z) (.seq (.seq (.z) (.blk (.loop [2, 7, 8, 10, 11, 12] (.seq (.join [2, 7, 8, 10, 11, 12, 38] (.z) (.cond (.z) (.z))) (.seq (.blk (.join [2, 7, 8, 10, 11, 12, 76] (.draw [0, 1, 2, 3, 4, 5, 6, 7, 8, 9, 10, 11, 12, 13, 14, 15, 16, 17, 18, 19, 21, 22, 23, 24, 25, 26, 27, 28, 29, 30, 31, 20, 32, 33, 34, 35]) (.cond (.seq (.z) (.z)) (.z)))) (.z)))))) (.seq (.z) (.seq (.z) (.seq (.z) (.seq (.z) (.seq (.z) (.z))))))))))
def s6 [Amb] (v0 v1 v2 : Value) (K : Value → WT) : WT :=
 CF Tryz.prog 7 [v0, v1] fun v21 =>
 S.ext v21 0 fun v22 =>
 S.ext v21 1 fun v23 =>
 S.ext v21 2 fun v24 =>
 S.not1 v24 fun v26 =>
 S.cond v26 (
 K (B false)) (
 CF Tryz.prog 15 [v22] fun v28 =>
 CF Tryz.prog 18 [v23] fun v30 =>
 S.loop 6 (fun K0 => fun v2' v7 v8 v10 v11 v12 => S.fa fun _ =>
 S.join 7 (fun K1 =>
 S.len v2' fun v33 =>
 S.bin .lss v12 v33 fun v34 =>
 S.gd v34 true (fun k => k v12) fun v36 =>
 S.gd v34 true (S.bin .lss v36 (I 60)) fun v37 =>
 S.pick v34 v37 (B false) fun v38 =>
 K1 v2' v7 v8 v10 v11 v12 v38)
 <| fun v2'2 v7' v8' v10' v11' v12' v38' => S.fa fun _ =>
 S.cond v38' (
 S.join 7 (fun K2 =>
 S.dr <|
 S.ixS 16 v2'2 v12' fun v43 =>
 S.fad v43 0 fun v44 =>
 S.fad v44 7 fun v45 =>
 S.ld v45 fun v46 =>
 S.len v46 fun v47 =>
 S.bin .leq v47 (I 9000) fun v48 =>
 S.gd v48 true (fun k => k v10') fun v50 =>
 S.gd v48 true (fun k => k v2'2) fun v51 =>
 S.gd v48 true (fun k => k v12') fun v52 =>
 S.gd v48 true (S.ixS 16 v51 v52) fun v53 =>
 S.gd v48 true (S.fad v53 0) fun v54 =>
 S.gd v48 true (S.ldN 15 v54) fun v55 =>
 S.gd v48 true (fun k => k v2'2) fun v56 =>
 S.gd v48 true (fun k => k v12') fun v57 =>
 S.gd v48 true (S.ixS 16 v56 v57) fun v58 =>
 S.gd v48 true (S.fad v58 15) fun v59 =>
 S.gd v48 true (S.ld v59) fun v60 =>
 S.gd v48 true (fun k => k v11') fun v62 =>
 S.gd v48 true (fun k => k v2'2) fun v63 =>
 S.gd v48 true (fun k => k v12') fun v64 =>
 S.gd v48 true (S.ixS 16 v63 v64) fun v65 =>
 S.gd v48 true (S.fad v65 0) fun v66 =>
 S.gd v48 true (S.ldN 15 v66) fun v67 =>
 S.gd v48 true (fun k => k v2'2) fun v68 =>
 S.gd v48 true (fun k => k v12') fun v69 =>
 S.gd v48 true (S.ixS 16 v68 v69) fun v70 =>
 S.gd v48 true (S.fad v70 15) fun v71 =>
 S.gd v48 true (S.ld v71) fun v72 =>
 S.gd v48 true (CF Tryz.prog 12 [v50, v55, v60]) fun v61 =>
 S.rck [S.gd v48 true (S.ld v71) (fun v' _ => v' = v72), S.gd v48 true (S.ldN 15 v66) (fun v' _ => v' = v67)] <|
 S.gd v48 true (CF Tryz.prog 9 [v62, v67, v72]) fun v73 =>
 S.gd v48 true (CF Tryz.prog 20 [v61, v73]) fun v74 =>
 S.gd v48 true (S.not1 v74) fun v75 =>
 S.pick v48 v75 (B false) fun v76 =>
 K2 v2'2 v7' v8' v10' v11' v12' v76)
 <| fun v2'3 v7'2 v8'2 v10'2 v11'2 v12'2 v76' => S.fa fun _ =>
 S.cond v76' (
 K (B false)) (
 S.bin .add v12'2 (I 1) fun v40 =>
 K0 v2'3 v7'2 v8'2 v10'2 v11'2 v40)) (
 CF Tryz.prog 8 [(.pointer none), (.string ⟨#[97]⟩), (I 0)] fun v79 =>
 S.ext v79 0 fun v80 =>
 S.ext v79 1 fun v81 =>
 CF Tryz.prog 10 [(.pointer none), (.string ⟨#[97]⟩), (.string ⟨#[97]⟩)] fun v84 =>
 S.ext v84 0 fun v85 =>
 S.ext v84 1 fun v86 =>
 CF Tryz.prog 13 [(.pointer none)] fun v88 =>
 CF Tryz.prog 11 [] fun v89 =>
 S.gd v89 true (fun k => k v7') fun v91 =>
 S.gd v89 true (fun k => k v10') fun v92 =>
 S.gd v89 true (CF Tryz.prog 16 [v91, v92]) fun v93 =>
 S.gd v89 true (fun k => k v8') fun v94 =>
 S.gd v89 true (fun k => k v11') fun v95 =>
 S.gd v89 true (CF Tryz.prog 19 [v94, v95]) fun v96 =>
 S.gd v89 true (S.beq .eql v93 v96) fun v97 =>
 S.pick v89 v97 (B false) fun v98 =>
 S.gd v98 true (fun k => k v10') fun v100 =>
 S.gd v98 true (fun k => k v7') fun v101 =>
 S.gd v98 true (CF Tryz.prog 16 [v100, v101]) fun v102 =>
 S.gd v98 true (fun k => k v7') fun v103 =>
 S.gd v98 true (fun k => k v10') fun v104 =>
 S.gd v98 true (CF Tryz.prog 16 [v103, v104]) fun v105 =>
 S.gd v98 true (S.beq .eql v102 v105) fun v106 =>
 S.pick v98 v106 (B false) fun v107 =>
 S.gd v107 true (fun k => k v7') fun v109 =>
 S.gd v107 true (CF Tryz.prog 22 [v109]) fun v110 =>
 S.gd v107 true (fun k => k v8') fun v111 =>
 S.gd v107 true (CF Tryz.prog 23 [v111]) fun v112 =>
 S.gd v107 true (CF Tryz.prog 21 [v110, v112]) fun v113 =>
 S.pick v107 v113 (B false) fun v114 =>
 S.gd v114 true (fun k => k (.pointer none)) fun v116 =>
 S.gd v114 true (V Tryz.prog (Instr.build 42 #[(0, (I 9))])) fun v117 =>
 S.gd v114 true (CF Tryz.prog 12 [v116, v117, (B false)]) fun v118 =>
 S.gd v114 true (S.prt false 0 1 v118) fun v119 =>
 S.gd v114 true (S.bin .eql v119 (I 1)) fun v120 =>
 S.pick v114 v120 (B false) fun v121 =>
 S.gd v121 true (fun k => k v81) fun v123 =>
 S.gd v121 true (S.bin .eql v123 (I 1)) fun v124 =>
 S.pick v121 v124 (B false) fun v125 =>
 S.gd v125 true (fun k => k v86) fun v127 =>
 S.gd v125 true (S.bin .eql v127 (I 1)) fun v128 =>
 S.pick v125 v128 (B false) fun v129 =>
 S.gd v129 true (fun k => k (.pointer none)) fun v131 =>
 S.gd v129 true (fun k => k (.pointer none)) fun v132 =>
 S.gd v129 true (CF Tryz.prog 16 [v131, v132]) fun v133 =>
 S.gd v129 true (S.not1 v133) fun v134 =>
 S.pick v129 v134 (B false) fun v135 =>
 S.gd v135 true (fun k => k v7') fun v137 =>
 S.gd v135 true (fun k => k (.pointer none)) fun v138 =>
 S.gd v135 true (CF Tryz.prog 16 [v137, v138]) fun v139 =>
 S.gd v135 true (S.not1 v139) fun v140 =>
 S.pick v135 v140 (B false) fun v141 =>
 S.gd v141 true (fun k => k (.pointer none)) fun v143 =>
 S.gd v141 true (CF Tryz.prog 22 [v143]) fun v144 =>
 S.gd v141 true (S.len v144) fun v145 =>
 S.gd v141 true (fun k => k (.pointer none)) fun v146 =>
 S.gd v141 true (CF Tryz.prog 14 [v146]) fun v147 =>
 S.gd v141 true (S.len v147) fun v148 =>
 S.gd v141 true (S.bin .add v145 v148) fun v149 =>
 S.gd v141 true (S.bin .eql v149 (I 0)) fun v150 =>
 S.pick v141 v150 (B false) fun v151 =>
 S.gd v151 true (fun k => k (.pointer none)) fun v153 =>
 S.gd v151 true (CF Tryz.prog 15 [v153]) fun v154 =>
 S.gd v151 true (S.eqv Tryz.prog .eql 23 true v154 (.pointer none)) fun v155 =>
 S.pick v151 v155 (B false) fun v156 =>
 K v156))
 [v2, v22, v23, v28, v30, (I 0)])
theorem e6 [Amb] (v0 v1 v2 : Value) (K : Value → WT) : s6 v0 v1 v2 K = shal Tryz.prog Tryz.f6 .p a6 [v0, v1, v2] K := by kernel_rfl
theorem c6 [Amb] {v0 v1 v2 : Value} {K : Value → WT} {w : World} (h : s6 v0 v1 v2 K w) : CF Tryz.prog 6 [v0, v1, v2] K w := shal_sound Tryz.func6 (e6 v0 v1 v2 K ▸ h)

/-- aumbry/aumbrylaw21.play -/
def a7 : Ann := .seq (.z) (.seq (.z) (.seq (.seq (.z) (.cond (.seq (.z) (.z)) (.z))) (.seq (.seq (.z) (.blk (.loop [1, 7, 8, 9] (.seq (.join [1, 7, 8, 9, 29] (.z) (.cond (.z) (.z))) (.join [1, 7, 8, 9] (.blk (.seq (.z) (.seq (.seq (.z) (.cond (.z) (.z))) (.seq (.z) (.seq (.drawT 10 (.one 0 (.one 1 (.one 2 (.one 3 (.one 4 (.one 5 (.one 6 (.two 7 (.one 8 (.one 9 .nil)) 8 (.one 7 (.one 9 .nil))))))))))) (.seq (.seq (.z) (.blk (.loop [1, 7, 8, 9, 10, 11, 12] (.seq (.seq (.z) (.cond (.z) (.z))) (.seq (.blk (.z)) (.z)))))) (.seq (.seq (.draw [0, 1, 2, 3, 4, 5, 6, 7, 8, 9, 10, 11, 12, 13, 14]) (.cond (.seq (.z) (.z)) (.z))) (.seq (.z) (.blk (.loop [1, 7, 8, 9, 11, 13] (.seq (.seq (.z) (.cond (.z) (.z))) (.seq (.blk (.z)) (.z))))))))))))) (.z)))))) (.seq (.z) (.z)))))
def s7 [Amb] (v0 v1 : Value) (K : Value → WT) : WT :=
 CF Tryz.prog 24 [v0] fun v15 =>
 CF Tryz.prog 25 [v0] fun v17 =>
 S.eqv Tryz.prog .eql 23 true v15 (.pointer none) fun v19 =>
 S.cond v19 (
 K (.tuple #[v15, v17, (B false)])) (
 S.loop 4 (fun K0 => fun v1' v7 v8 v9 => S.fa fun _ =>
 S.join 5 (fun K1 =>
 S.len v1' fun v24 =>
 S.bin .lss v9 v24 fun v25 =>
 S.gd v25 true (fun k => k v9) fun v27 =>
 S.gd v25 true (S.bin .lss v27 (I 120)) fun v28 =>
 S.pick v25 v28 (B false) fun v29 =>
 K1 v1' v7 v8 v9 v29)
 <| fun v1'2 v7' v8' v9' v29' => S.fa fun _ =>
 S.cond v29' (
 S.join 4 (fun K2 =>
 S.ixS 16 v1'2 v9' fun v34 =>
 S.fad v34 0 fun v35 =>
 S.ldN 15 v35 fun v36 =>
 S.box 42 (.agg #[(.int .i64 0), (.int .i64 0), (.string ⟨#[]⟩), (.string ⟨#[]⟩), (.int .i64 0), (.int .i64 0), (.int .i64 0), (.slice none 0 0), (.int .i64 0), (.int .i64 0), (.int .i64 0), (.int .i64 0), (.slice none 0 0), (.int .i64 0), (.int .i64 0)]) fun v10 =>
 S.st 15 v10 v36 fun _ =>
 S.fad v10 7 fun v37 =>
 S.ld v37 fun v38 =>
 S.len v38 fun v39 =>
 S.bin .gtr v39 (I 9000) fun v40 =>
 S.cond v40 (
 K2 v1'2 v7' v8' v9') (
 V Tryz.prog (Instr.buildSlice 27 0 #[]) fun v41 =>
 S.ixS 16 v1'2 v9' fun v44 =>
 S.fad v44 0 fun v45 =>
 S.fad v45 7 fun v46 =>
 S.ld v46 fun v47 =>
 V Tryz.prog (Builtin.append_ #[27, 27] 27 #[v41, v47]) fun v48 =>
 S.fad v10 7 fun v49 =>
 S.st 1 v49 v48 fun _ =>
 S.dr <|
 S.ldN 15 v10 fun v51 =>
 S.ixS 16 v1'2 v9' fun v54 =>
 S.fad v54 15 fun v55 =>
 S.ld v55 fun v56 =>
 S.both (
 CF Tryz.prog 12 [v7', v51, v56] fun v57 =>
 S.box 33 (.agg #[(.int .i64 0), (.int .i64 0), (.slice none 0 0), (.slice none 0 0)]) fun v11 =>
 S.st 4 v11 v57 fun _ =>
 S.loop 7 (fun K3 => fun v1'3 v7'2 v8'2 v9'2 v10' v11' v12 => S.fa fun _ =>
 S.fad v10' 7 fun v59 =>
 S.ld v59 fun v60 =>
 S.len v60 fun v61 =>
 S.bin .lss v12 v61 fun v62 =>
 S.cond v62 (
 S.fad v10' 7 fun v65 =>
 S.ld v65 fun v66 =>
 S.ixS 1 v66 v12 fun v68 =>
 S.ld v68 fun v69 =>
 S.bin .xor v69 (.int .u8 1) fun v70 =>
 S.ixS 1 v66 v12 fun v71 =>
 S.st 1 v71 v70 fun _ =>
 S.bin .add v12 (I 1) fun v64 =>
 K3 v1'3 v7'2 v8'2 v9'2 v10' v11' v64) (
 S.dr <|
 S.ldN 4 v11' fun v72 =>
 S.ixS 16 v1'3 v9'2 fun v76 =>
 S.fad v76 0 fun v77 =>
 S.ldN 15 v77 fun v78 =>
 S.ixS 16 v1'3 v9'2 fun v81 =>
 S.fad v81 15 fun v82 =>
 S.ld v82 fun v83 =>
 CF Tryz.prog 9 [v8'2, v78, v83] fun v84 =>
 S.rck [S.ldN 4 v11' (fun v' _ => v' = v72)] <|
 CF Tryz.prog 20 [v72, v84] fun v85 =>
 S.not1 v85 fun v86 =>
 S.cond v86 (
 K (.tuple #[v7'2, v8'2, (B false)])) (
 S.loop 6 (fun K4 => fun v1'4 v7'3 v8'3 v9'3 v11'2 v13 => S.fa fun _ =>
 S.fad v11'2 2 fun v90 =>
 S.ld v90 fun v91 =>
 S.len v91 fun v92 =>
 S.bin .lss v13 v92 fun v93 =>
 S.cond v93 (
 S.fad v11'2 2 fun v96 =>
 S.ld v96 fun v97 =>
 S.ixS 1 v97 v13 fun v99 =>
 S.ld v99 fun v100 =>
 S.bin .xor v100 (.int .u8 1) fun v101 =>
 S.ixS 1 v97 v13 fun v102 =>
 S.st 1 v102 v101 fun _ =>
 S.bin .add v13 (I 1) fun v95 =>
 K4 v1'4 v7'3 v8'3 v9'3 v11'2 v95) (
 K2 v1'4 v7'3 v8'3 v9'3))
 [v1'3, v7'2, v8'2, v9'2, v11', (I 0)])))
 [v1'2, v7', v8', v9', v10, v11, (I 0)]) (
 S.box 33 (.agg #[(.int .i64 0), (.int .i64 0), (.slice none 0 0), (.slice none 0 0)]) fun v11'3 =>
 S.rck [S.ld v55 (fun v' _ => v' = v56), S.ldN 15 v10 (fun v' _ => v' = v51)] <|
 CF Tryz.prog 12 [v7', v51, v56] fun v57' =>
 S.st 4 v11'3 v57' fun _ =>
 S.loop 7 (fun K5 => fun v1'5 v7'4 v8'4 v9'4 v10'2 v11'4 v12' => S.fa fun _ =>
 S.fad v10'2 7 fun v59' =>
 S.ld v59' fun v60' =>
 S.len v60' fun v61' =>
 S.bin .lss v12' v61' fun v62' =>
 S.cond v62' (
 S.fad v10'2 7 fun v65' =>
 S.ld v65' fun v66' =>
 S.ixS 1 v66' v12' fun v68' =>
 S.ld v68' fun v69' =>
 S.bin .xor v69' (.int .u8 1) fun v70' =>
 S.ixS 1 v66' v12' fun v71' =>
 S.st 1 v71' v70' fun _ =>
 S.bin .add v12' (I 1) fun v64' =>
 K5 v1'5 v7'4 v8'4 v9'4 v10'2 v11'4 v64') (
 S.dr <|
 S.ldN 4 v11'4 fun v72' =>
 S.ixS 16 v1'5 v9'4 fun v76' =>
 S.fad v76' 0 fun v77' =>
 S.ldN 15 v77' fun v78' =>
 S.ixS 16 v1'5 v9'4 fun v81' =>
 S.fad v81' 15 fun v82' =>
 S.ld v82' fun v83' =>
 CF Tryz.prog 9 [v8'4, v78', v83'] fun v84' =>
 S.rck [S.ldN 4 v11'4 (fun v' _ => v' = v72')] <|
 CF Tryz.prog 20 [v72', v84'] fun v85' =>
 S.not1 v85' fun v86' =>
 S.cond v86' (
 K (.tuple #[v7'4, v8'4, (B false)])) (
 S.loop 6 (fun K6 => fun v1'6 v7'5 v8'5 v9'5 v11'5 v13' => S.fa fun _ =>
 S.fad v11'5 2 fun v90' =>
 S.ld v90' fun v91' =>
 S.len v91' fun v92' =>
 S.bin .lss v13' v92' fun v93' =>
 S.cond v93' (
 S.fad v11'5 2 fun v96' =>
 S.ld v96' fun v97' =>
 S.ixS 1 v97' v13' fun v99' =>
 S.ld v99' fun v100' =>
 S.bin .xor v100' (.int .u8 1) fun v101' =>
 S.ixS 1 v97' v13' fun v102' =>
 S.st 1 v102' v101' fun _ =>
 S.bin .add v13' (I 1) fun v95' =>
 K6 v1'6 v7'5 v8'5 v9'5 v11'5 v95') (
 K2 v1'6 v7'5 v8'5 v9'5))
 [v1'5, v7'4, v8'4, v9'4, v11'4, (I 0)])))
 [v1'2, v7', v8', v9', v10, v11'3, (I 0)])))
 <| fun v1'7 v7'6 v8'6 v9'6 => S.fa fun _ =>
 S.bin .add v9'6 (I 1) fun v31 =>
 K0 v1'7 v7'6 v8'6 v31) (
 CF Tryz.prog 22 [v7'] fun v106 =>
 CF Tryz.prog 23 [v8'] fun v108 =>
 CF Tryz.prog 21 [v106, v108] fun v109 =>
 S.gd v109 true (fun k => k v7') fun v111 =>
 S.gd v109 true (CF Tryz.prog 14 [v111]) fun v112 =>
 S.gd v109 true (fun k => k v8') fun v113 =>
 S.gd v109 true (CF Tryz.prog 26 [v113]) fun v114 =>
 S.gd v109 true (CF Tryz.prog 17 [v112, v114]) fun v115 =>
 S.pick v109 v115 (B false) fun v116 =>
 K (.tuple #[v7', v8', v116])))
 [v1, v15, v17, (I 0)])
theorem e7 [Amb] (v0 v1 : Value) (K : Value → WT) : s7 v0 v1 K = shal Tryz.prog Tryz.f7 .p a7 [v0, v1] K := by kernel_rfl
theorem c7 [Amb] {v0 v1 : Value} {K : Value → WT} {w : World} (h : s7 v0 v1 K w) : CF Tryz.prog 7 [v0, v1] K w := shal_sound Tryz.func7 (e7 v0 v1 K ▸ h)

/-- (*aumbry/model.Model).Bytes -/
def a8 : Ann := .seq (.z) (.seq (.z) (.seq (.draw [0, 1, 2, 3, 4, 5]) (.z)))
def s8 [Amb] (m_0 name_1 gen_2 : Value) (K : Value → WT) : WT :=
 V Tryz.prog (Instr.build 42 #[(0, (I 5)), (2, name_1), (4, gen_2)]) fun v12 =>
 CF Tryz.prog 12 [m_0, v12, (B false)] fun v13 =>
 S.box 33 (.agg #[(.int .i64 0), (.int .i64 0), (.slice none 0 0), (.slice none 0 0)]) fun a_8 =>
 S.st 4 a_8 v13 fun _ =>
 S.dr <|
 S.fad a_8 2 fun v14 =>
 S.ld v14 fun v15 =>
 S.fad a_8 0 fun v16 =>
 S.ld v16 fun v17 =>
 K (.tuple #[v15, v17])
theorem e8 [Amb] (m_0 name_1 gen_2 : Value) (K : Value → WT) : s8 m_0 name_1 gen_2 K = shal Tryz.prog Tryz.f8 .p a8 [m_0, name_1, gen_2] K := by kernel_rfl
theorem c8 [Amb] {m_0 name_1 gen_2 : Value} {K : Value → WT} {w : World} (h : s8 m_0 name_1 gen_2 K w) : CF Tryz.prog 8 [m_0, name_1, gen_2] K w := shal_sound Tryz.func8 (e8 m_0 name_1 gen_2 K ▸ h)

/-- (*aumbry/aumbryref21.Model).Do -/
def a9 : Ann := .seq (.z) (.seq (.seq (.z) (.blk (.seq (.z) (.cond (.seq (.seq (.z) (.cond (.seq (.z) (.z)) (.z))) (.seq (.seq (.z) (.cond (.seq (.z) (.z)) (.z))) (.seq (.z) (.seq (.drawT 19 (.one 0 (.one 2 (.one 3 (.one 4 (.one 5 (.one 7 (.one 8 (.one 9 (.one 10 (.one 11 (.one 12 (.two 1 (.two 6 (.one 13 (.one 14 (.one 15 (.one 16 (.one 17 (.one 18 .nil)))))) 13 (.two 6 (.one 14 (.one 15 (.one 16 (.one 17 (.one 18 .nil))))) 14 (.one 6 (.one 15 (.one 16 (.one 17 (.one 18 .nil))))))) 13 (.two 1 (.two 6 (.one 14 (.one 15 (.one 16 (.one 17 (.one 18 .nil))))) 14 (.one 6 (.one 15 (.one 16 (.one 17 (.one 18 .nil)))))) 14 (.one 1 (.one 6 (.one 15 (.one 16 (.one 17 (.one 18 .nil)))))))))))))))))))) (.seq (.z) (.z)))))) (.seq (.z) (.cond (.seq (.z) (.z)) (.seq (.z) (.cond (.seq (.z) (.z)) (.seq (.z) (.cond (.seq (.z) (.seq (.seq (.z) (.cond (.seq (.z) (.z)) (.z))) (.seq (.z) (.seq (.z) (.z))))) (.join [0, 2, 4, 6, 10, 81] (.seq (.z) (.cond (.z) (.seq (.z) (.cond (.z) (.seq (.z) (.cond (.z) (.seq (.z) (.cond (.z) (.z))))))))) (.cond (.seq (.z) (.z)) (.seq (.z) (.cond (.seq (.z) (.seq (.seq (.z) (.cond (.seq (.z) (.z)) (.z))) (.seq (.z) (.seq (.z) (.seq (.z) (.z)))))) (.join [0, 2, 4, 6, 10, 107] (.seq (.z) (.cond (.z) (.z))) (.cond (.seq (.z) (.z)) (.seq (.z) (.cond (.seq (.join [0, 4, 6, 128] (.draw [0, 1, 2, 3, 4, 5, 6, 7, 8, 9, 10, 11, 12]) (.cond (.seq (.z) (.z)) (.z))) (.seq (.draw [0, 1, 2, 3, 4, 5, 6, 7, 8, 9, 10]) (.seq (.z) (.z)))) (.seq (.z) (.cond (.seq (.z) (.z)) (.seq (.z) (.cond (.seq (.join [2, 6, 156] (.z) (.cond (.seq (.z) (.z)) (.z))) (.seq (.seq (.z) (.cond (.seq (.z) (.z)) (.z))) (.seq (.z) (.z)))) (.join [6, 161] (.seq (.z) (.cond (.z) (.seq (.z) (.cond (.z) (.seq (.z) (.cond (.z) (.seq (.z) (.cond (.z) (.seq (.z) (.cond (.z) (.z))))))))))) (.cond (.seq (.z) (.z)) (.z))))))))))))))))))))))))) (.seq (.z) (.z)))
def s9 [Amb] (v0 v1 v2 : Value) (K : Value → WT) : WT :=
 S.box 42 v1 fun v4 =>
 S.box 33 (.agg #[(.int .i64 0), (.int .i64 0), (.slice none 0 0), (.slice none 0 0)]) fun v6 =>
 S.fad v4 0 fun v9 =>
 S.ld v9 fun v10 =>
 S.bin .eql v10 (I 1) fun v12 =>
 S.cond v12 (
 S.fad v4 2 fun v13 =>
 S.ld v13 fun v14 =>
 CF Tryz.prog 27 [v14] fun v15 =>
 S.not1 v15 fun v16 =>
 S.cond v16 (
 CF Tryz.prog 28 [(I 2)] fun v17 =>
 S.st 4 v6 v17 fun _ =>
 S.ldN 4 v6 fun v6' =>
 K v6') (
 S.nc v0 fun v19 =>
 S.fad v19 2 fun v20 =>
 S.ld v20 fun v21 =>
 S.len v21 fun v22 =>
 S.bin .geq v22 (I 4) fun v23 =>
 S.cond v23 (
 CF Tryz.prog 28 [(I 6)] fun v24 =>
 S.st 4 v6 v24 fun _ =>
 S.ldN 4 v6 fun v6'2 =>
 K v6'2) (
 S.nc v0 fun v27 =>
 S.fad v27 3 fun v28 =>
 S.ld v28 fun v29 =>
 S.bin .add v29 (I 1) fun v30 =>
 S.nc v0 fun v31 =>
 S.fad v31 3 fun v32 =>
 S.st 1 v32 v30 fun _ =>
 S.dr <|
 S.nc v0 fun v36 =>
 S.fad v36 2 fun v37 =>
 S.ld v37 fun v38 =>
 S.nc v0 fun v41 =>
 S.fad v41 3 fun v42 =>
 S.ld v42 fun v43 =>
 S.fad v4 2 fun v44 =>
 S.ld v44 fun v45 =>
 S.both (
 V Tryz.prog (Instr.buildSlice 68 0 #[]) fun v34 =>
 S.rck [S.ld v44 (fun v' _ => v' = v45), S.ld v42 (fun v' _ => v' = v43), S.ld v37 (fun v' _ => v' = v38)] <|
 S.both (
 V Tryz.prog (Builtin.append_ #[68, 68] 68 #[v34, v38]) fun v39 =>
 S.rck [S.ld v44 (fun v' _ => v' = v45), S.ld v42 (fun v' _ => v' = v43)] <|
 V Tryz.prog (Instr.build 72 #[(0, v43), (1, v45)]) fun v46 =>
 V Tryz.prog (Instr.buildSlice 68 1 #[(0, v46)]) fun v47 =>
 V Tryz.prog (Builtin.append_ #[68, 68] 68 #[v39, v47]) fun v48 =>
 S.nc v0 fun v49 =>
 S.fad v49 2 fun v50 =>
 S.st 1 v50 v48 fun _ =>
 S.nc v0 fun v52 =>
 S.fad v52 3 fun v53 =>
 S.ld v53 fun v54 =>
 V Tryz.prog (Instr.build 33 #[(1, v54)]) fun v55 =>
 S.st 4 v6 v55 fun _ =>
 S.ldN 4 v6 fun v6'3 =>
 K v6'3) (
 V Tryz.prog (Instr.build 72 #[(0, v43), (1, v45)]) fun v46' =>
 S.rck [S.ld v37 (fun v' _ => v' = v38)] <|
 S.both (
 V Tryz.prog (Builtin.append_ #[68, 68] 68 #[v34, v38]) fun v39' =>
 V Tryz.prog (Instr.buildSlice 68 1 #[(0, v46')]) fun v47' =>
 V Tryz.prog (Builtin.append_ #[68, 68] 68 #[v39', v47']) fun v48' =>
 S.nc v0 fun v49' =>
 S.fad v49' 2 fun v50' =>
 S.st 1 v50' v48' fun _ =>
 S.nc v0 fun v52' =>
 S.fad v52' 3 fun v53' =>
 S.ld v53' fun v54' =>
 V Tryz.prog (Instr.build 33 #[(1, v54')]) fun v55' =>
 S.st 4 v6 v55' fun _ =>
 S.ldN 4 v6 fun v6'4 =>
 K v6'4) (
 V Tryz.prog (Instr.buildSlice 68 1 #[(0, v46')]) fun v47'2 =>
 S.rck [S.ld v37 (fun v' _ => v' = v38)] <|
 V Tryz.prog (Builtin.append_ #[68, 68] 68 #[v34, v38]) fun v39'2 =>
 V Tryz.prog (Builtin.append_ #[68, 68] 68 #[v39'2, v47'2]) fun v48'2 =>
 S.nc v0 fun v49'2 =>
 S.fad v49'2 2 fun v50'2 =>
 S.st 1 v50'2 v48'2 fun _ =>
 S.nc v0 fun v52'2 =>
 S.fad v52'2 3 fun v53'2 =>
 S.ld v53'2 fun v54'2 =>
 V Tryz.prog (Instr.build 33 #[(1, v54'2)]) fun v55'2 =>
 S.st 4 v6 v55'2 fun _ =>
 S.ldN 4 v6 fun v6'5 =>
 K v6'5))) (
 V Tryz.prog (Instr.build 72 #[(0, v43), (1, v45)]) fun v46'2 =>
 S.rck [S.ld v37 (fun v' _ => v' = v38)] <|
 S.both (
 V Tryz.prog (Instr.buildSlice 68 0 #[]) fun v34' =>
 S.rck [S.ld v37 (fun v' _ => v' = v38)] <|
 S.both (
 V Tryz.prog (Builtin.append_ #[68, 68] 68 #[v34', v38]) fun v39'3 =>
 V Tryz.prog (Instr.buildSlice 68 1 #[(0, v46'2)]) fun v47'3 =>
 V Tryz.prog (Builtin.append_ #[68, 68] 68 #[v39'3, v47'3]) fun v48'3 =>
 S.nc v0 fun v49'3 =>
 S.fad v49'3 2 fun v50'3 =>
 S.st 1 v50'3 v48'3 fun _ =>
 S.nc v0 fun v52'3 =>
 S.fad v52'3 3 fun v53'3 =>
 S.ld v53'3 fun v54'3 =>
 V Tryz.prog (Instr.build 33 #[(1, v54'3)]) fun v55'3 =>
 S.st 4 v6 v55'3 fun _ =>
 S.ldN 4 v6 fun v6'6 =>
 K v6'6) (
 V Tryz.prog (Instr.buildSlice 68 1 #[(0, v46'2)]) fun v47'4 =>
 S.rck [S.ld v37 (fun v' _ => v' = v38)] <|
 V Tryz.prog (Builtin.append_ #[68, 68] 68 #[v34', v38]) fun v39'4 =>
 V Tryz.prog (Builtin.append_ #[68, 68] 68 #[v39'4, v47'4]) fun v48'4 =>
 S.nc v0 fun v49'4 =>
 S.fad v49'4 2 fun v50'4 =>
 S.st 1 v50'4 v48'4 fun _ =>
 S.nc v0 fun v52'4 =>
 S.fad v52'4 3 fun v53'4 =>
 S.ld v53'4 fun v54'4 =>
 V Tryz.prog (Instr.build 33 #[(1, v54'4)]) fun v55'4 =>
 S.st 4 v6 v55'4 fun _ =>
 S.ldN 4 v6 fun v6'7 =>
 K v6'7)) (
 V Tryz.prog (Instr.buildSlice 68 1 #[(0, v46'2)]) fun v47'5 =>
 S.rck [S.ld v37 (fun v' _ => v' = v38)] <|
 V Tryz.prog (Instr.buildSlice 68 0 #[]) fun v34'2 =>
 S.rck [S.ld v37 (fun v' _ => v' = v38)] <|
 V Tryz.prog (Builtin.append_ #[68, 68] 68 #[v34'2, v38]) fun v39'5 =>
 V Tryz.prog (Builtin.append_ #[68, 68] 68 #[v39'5, v47'5]) fun v48'5 =>
 S.nc v0 fun v49'5 =>
 S.fad v49'5 2 fun v50'5 =>
 S.st 1 v50'5 v48'5 fun _ =>
 S.nc v0 fun v52'5 =>
 S.fad v52'5 3 fun v53'5 =>
 S.ld v53'5 fun v54'5 =>
 V Tryz.prog (Instr.build 33 #[(1, v54'5)]) fun v55'5 =>
 S.st 4 v6 v55'5 fun _ =>
 S.ldN 4 v6 fun v6'8 =>
 K v6'8))))) (
 S.bin .eql v10 (I 2) fun v57 =>
 S.cond v57 (
 S.ldN 15 v4 fun v59 =>
 CF Tryz.prog 29 [v0, v59, v2] fun v61 =>
 S.st 4 v6 v61 fun _ =>
 S.ldN 4 v6 fun v6'9 =>
 K v6'9) (
 S.bin .eql v10 (I 3) fun v63 =>
 S.cond v63 (
 S.ldN 15 v4 fun v65 =>
 CF Tryz.prog 30 [v0, v65, v2] fun v67 =>
 S.st 4 v6 v67 fun _ =>
 S.ldN 4 v6 fun v6'10 =>
 K v6'10) (
 S.bin .eql v10 (I 4) fun v69 =>
 S.cond v69 (
 S.fad v4 1 fun v71 =>
 S.ld v71 fun v72 =>
 CF Tryz.prog 31 [v0, v72] fun v73 =>
 S.bin .lss v73 (I 0) fun v75 =>
 S.cond v75 (
 CF Tryz.prog 28 [(I 9)] fun v76 =>
 S.st 4 v6 v76 fun _ =>
 S.ldN 4 v6 fun v6'11 =>
 K v6'11) (
 CF Tryz.prog 32 [v0, v73] fun v79 =>
 V Tryz.prog (Instr.build 33 #[]) fun v80 =>
 S.st 4 v6 v80 fun _ =>
 S.ldN 4 v6 fun v6'12 =>
 K v6'12)) (
 S.join 6 (fun K0 =>
 S.bin .eql v10 (I 5) fun v82 =>
 S.cond v82 (
 K0 v0 v2 v4 v6 v10 v82) (
 S.bin .eql v10 (I 6) fun v83 =>
 S.cond v83 (
 K0 v0 v2 v4 v6 v10 v83) (
 S.bin .eql v10 (I 7) fun v84 =>
 S.cond v84 (
 K0 v0 v2 v4 v6 v10 v84) (
 S.bin .eql v10 (I 8) fun v85 =>
 S.cond v85 (
 K0 v0 v2 v4 v6 v10 v85) (
 S.bin .eql v10 (I 9) fun v86 =>
 K0 v0 v2 v4 v6 v10 v86)))))
 <| fun v0' v2' v4' v6'13 v10' v81 => S.fa fun _ =>
 S.cond v81 (
 S.ldN 15 v4' fun v88 =>
 CF Tryz.prog 33 [v0', v88] fun v89 =>
 S.st 4 v6'13 v89 fun _ =>
 S.ldN 4 v6'13 fun v6'14 =>
 K v6'14) (
 S.bin .eql v10' (I 10) fun v91 =>
 S.cond v91 (
 S.fad v4' 2 fun v93 =>
 S.ld v93 fun v94 =>
 S.fad v4' 4 fun v95 =>
 S.ld v95 fun v96 =>
 CF Tryz.prog 34 [v0', v94, v96] fun v97 =>
 S.bin .lss v97 (I 0) fun v99 =>
 S.cond v99 (
 CF Tryz.prog 28 [(I 9)] fun v100 =>
 S.st 4 v6'13 v100 fun _ =>
 S.ldN 4 v6'13 fun v6'15 =>
 K v6'15) (
 CF Tryz.prog 35 [v0', v97] fun v103 =>
 CF Tryz.prog 36 [v0'] fun v105 =>
 V Tryz.prog (Instr.build 33 #[]) fun v106 =>
 S.st 4 v6'13 v106 fun _ =>
 S.ldN 4 v6'13 fun v6'16 =>
 K v6'16)) (
 S.join 6 (fun K1 =>
 S.bin .eql v10' (I 11) fun v108 =>
 S.cond v108 (
 K1 v0' v2' v4' v6'13 v10' v108) (
 S.bin .eql v10' (I 12) fun v109 =>
 K1 v0' v2' v4' v6'13 v10' v109))
 <| fun v0'2 v2'2 v4'2 v6'17 v10'2 v107 => S.fa fun _ =>
 S.cond v107 (
 S.ldN 15 v4'2 fun v111 =>
 CF Tryz.prog 37 [v0'2, v111, v2'2] fun v113 =>
 S.st 4 v6'17 v113 fun _ =>
 S.ldN 4 v6'17 fun v6'18 =>
 K v6'18) (
 S.bin .eql v10'2 (I 13) fun v115 =>
 S.cond v115 (
 S.join 4 (fun K2 =>
 S.dr <|
 S.fad v4'2 1 fun v116 =>
 S.ld v116 fun v117 =>
 S.bin .lss v117 (I 0) fun v118 =>
 S.gd v118 false (S.fad v4'2 1) fun v120 =>
 S.gd v118 false (S.ld v120) fun v121 =>
 S.gd v118 false (fun k => k v0'2) fun v122 =>
 S.gd v118 false (S.nc v122) fun v123 =>
 S.gd v118 false (S.fad v123 4) fun v124 =>
 S.gd v118 false (S.ld v124) fun v125 =>
 S.gd v118 false (S.bin .sub (I 9007199254740991) v125) fun v126 =>
 S.gd v118 false (S.bin .gtr v121 v126) fun v127 =>
 S.pick v118 (B true) v127 fun v128 =>
 K2 v0'2 v4'2 v6'17 v128)
 <| fun v0'3 v4'3 v6'19 v128' => S.fa fun _ =>
 S.cond v128' (
 CF Tryz.prog 28 [(I 2)] fun v129 =>
 S.st 4 v6'19 v129 fun _ =>
 S.ldN 4 v6'19 fun v6'20 =>
 K v6'20) (
 S.dr <|
 S.nc v0'3 fun v132 =>
 S.fad v132 4 fun v133 =>
 S.ld v133 fun v134 =>
 S.fad v4'3 1 fun v135 =>
 S.ld v135 fun v136 =>
 S.bin .add v134 v136 fun v137 =>
 S.nc v0'3 fun v138 =>
 S.fad v138 4 fun v139 =>
 S.st 1 v139 v137 fun _ =>
 V Tryz.prog (Instr.build 33 #[]) fun v140 =>
 S.st 4 v6'19 v140 fun _ =>
 S.ldN 4 v6'19 fun v6'21 =>
 K v6'21)) (
 S.bin .eql v10'2 (I 14) fun v142 =>
 S.cond v142 (
 S.fad v4'2 8 fun v144 =>
 S.ldN 4 v144 fun v145 =>
 CF Tryz.prog 38 [v0'2, v145] fun v146 =>
 S.st 4 v6'17 v146 fun _ =>
 S.ldN 4 v6'17 fun v6'22 =>
 K v6'22) (
 S.bin .eql v10'2 (I 15) fun v148 =>
 S.cond v148 (
 S.join 3 (fun K3 =>
 S.fad v4'2 1 fun v149 =>
 S.ld v149 fun v150 =>
 S.bin .lss v150 (I 0) fun v151 =>
 S.gd v151 false (S.fad v4'2 1) fun v153 =>
 S.gd v151 false (S.ld v153) fun v154 =>
 S.gd v151 false (S.bin .gtr v154 (I 100)) fun v155 =>
 S.pick v151 (B true) v155 fun v156 =>
 K3 v2'2 v6'17 v156)
 <| fun v2'3 v6'23 v156' => S.fa fun _ =>
 S.cond v156' (
 CF Tryz.prog 28 [(I 2)] fun v157 =>
 S.st 4 v6'23 v157 fun _ =>
 S.ldN 4 v6'23 fun v6'24 =>
 K v6'24) (
 S.cond v2'3 (
 CF Tryz.prog 28 [(I 8)] fun v159 =>
 S.st 4 v6'23 v159 fun _ =>
 S.ldN 4 v6'23 fun v6'25 =>
 K v6'25) (
 V Tryz.prog (Instr.build 33 #[]) fun v160 =>
 S.st 4 v6'23 v160 fun _ =>
 S.ldN 4 v6'23 fun v6'26 =>
 K v6'26))) (
 S.join 2 (fun K4 =>
 S.bin .eql v10'2 (I 16) fun v162 =>
 S.cond v162 (
 K4 v6'17 v162) (
 S.bin .eql v10'2 (I 17) fun v163 =>
 S.cond v163 (
 K4 v6'17 v163) (
 S.bin .eql v10'2 (I 18) fun v164 =>
 S.cond v164 (
 K4 v6'17 v164) (
 S.bin .eql v10'2 (I 19) fun v165 =>
 S.cond v165 (
 K4 v6'17 v165) (
 S.bin .eql v10'2 (I 20) fun v166 =>
 S.cond v166 (
 K4 v6'17 v166) (
 S.bin .eql v10'2 (I 21) fun v167 =>
 K4 v6'17 v167))))))
 <| fun v6'27 v161 => S.fa fun _ =>
 S.cond v161 (
 V Tryz.prog (Instr.build 33 #[]) fun v168 =>
 S.st 4 v6'27 v168 fun _ =>
 S.ldN 4 v6'27 fun v6'28 =>
 K v6'28) (
 CF Tryz.prog 28 [(I 4)] fun v169 =>
 S.st 4 v6'27 v169 fun _ =>
 S.ldN 4 v6'27 fun v6'29 =>
 K v6'29)))))))))))
theorem e9 [Amb] (v0 v1 v2 : Value) (K : Value → WT) : s9 v0 v1 v2 K = shal Tryz.prog Tryz.f9 .p a9 [v0, v1, v2] K := by kernel_rfl
theorem c9 [Amb] {v0 v1 v2 : Value} {K : Value → WT} {w : World} (h : s9 v0 v1 v2 K w) : CF Tryz.prog 9 [v0, v1, v2] K w := shal_sound Tryz.func9 (e9 v0 v1 v2 K ▸ h)

/-- (*aumbry/model.Model).Shot -/
def a10 : Ann := .seq (.z) (.seq (.z) (.seq (.draw [0, 1, 2, 3, 4, 5]) (.z)))
def s10 [Amb] (m_0 shot_1 name_2 : Value) (K : Value → WT) : WT :=
 V Tryz.prog (Instr.build 42 #[(0, (I 7)), (3, shot_1), (2, name_2)]) fun v12 =>
 CF Tryz.prog 12 [m_0, v12, (B false)] fun v13 =>
 S.box 33 (.agg #[(.int .i64 0), (.int .i64 0), (.slice none 0 0), (.slice none 0 0)]) fun a_8 =>
 S.st 4 a_8 v13 fun _ =>
 S.dr <|
 S.fad a_8 2 fun v14 =>
 S.ld v14 fun v15 =>
 S.fad a_8 0 fun v16 =>
 S.ld v16 fun v17 =>
 K (.tuple #[v15, v17])
theorem e10 [Amb] (m_0 shot_1 name_2 : Value) (K : Value → WT) : s10 m_0 shot_1 name_2 K = shal Tryz.prog Tryz.f10 .p a10 [m_0, shot_1, name_2] K := by kernel_rfl
theorem c10 [Amb] {m_0 shot_1 name_2 : Value} {K : Value → WT} {w : World} (h : s10 m_0 shot_1 name_2 K w) : CF Tryz.prog 10 [m_0, shot_1, name_2] K w := shal_sound Tryz.func10 (e10 m_0 shot_1 name_2 K ▸ h)

/-- aumbry/aumbrylaw21.live -/
def a11 : Ann := .seq (.z) (.seq (.z) (.seq (.seq (.z) (.cond (.seq (.z) (.z)) (.z))) (.seq (.z) (.seq (.z) (.seq (.z) (.seq (.z) (.seq (.z) (.z))))))))
def s11 [Amb] (K : Value → WT) : WT :=
 CF Tryz.prog 24 [(I 0)] fun v6 =>
 S.eqv Tryz.prog .eql 23 true v6 (.pointer none) fun v8 =>
 S.cond v8 (
 K (B false)) (
 V Tryz.prog (Instr.build 42 #[(0, (I 1)), (2, (.string ⟨#[97]⟩))]) fun v10 =>
 CF Tryz.prog 12 [v6, v10, (B false)] fun v11 =>
 S.box 33 (.agg #[(.int .i64 0), (.int .i64 0), (.slice none 0 0), (.slice none 0 0)]) fun a_2 =>
 S.st 4 a_2 v11 fun _ =>
 V Tryz.prog (Instr.buildSlice 27 2 #[(0, (.int .u8 120)), (1, (.int .u8 121))]) fun v13 =>
 V Tryz.prog (convert 27 27 v13) fun v14 =>
 V Tryz.prog (Instr.build 42 #[(0, (I 2)), (1, (I 1)), (7, v14)]) fun v15 =>
 CF Tryz.prog 12 [v6, v15, (B false)] fun v16 =>
 S.box 33 (.agg #[(.int .i64 0), (.int .i64 0), (.slice none 0 0), (.slice none 0 0)]) fun b_3 =>
 S.st 4 b_3 v16 fun _ =>
 V Tryz.prog (Instr.build 42 #[(0, (I 3)), (1, (I 1))]) fun v18 =>
 CF Tryz.prog 12 [v6, v18, (B false)] fun v19 =>
 S.box 33 (.agg #[(.int .i64 0), (.int .i64 0), (.slice none 0 0), (.slice none 0 0)]) fun c_4 =>
 S.st 4 c_4 v19 fun _ =>
 V Tryz.prog (Instr.build 42 #[(0, (I 6)), (2, (.string ⟨#[97]⟩)), (5, (I 1)), (6, (I 9))]) fun v21 =>
 CF Tryz.prog 12 [v6, v21, (B false)] fun v22 =>
 S.box 33 (.agg #[(.int .i64 0), (.int .i64 0), (.slice none 0 0), (.slice none 0 0)]) fun d_5 =>
 S.st 4 d_5 v22 fun _ =>
 S.fad a_2 1 fun v23 =>
 S.ld v23 fun v24 =>
 S.bin .eql v24 (I 1) fun v25 =>
 S.gd v25 true (S.fad b_3 0) fun v27 =>
 S.gd v25 true (S.ld v27) fun v28 =>
 S.gd v25 true (S.bin .eql v28 (I 0)) fun v29 =>
 S.pick v25 v29 (B false) fun v30 =>
 S.gd v30 true (S.fad c_4 1) fun v32 =>
 S.gd v30 true (S.ld v32) fun v33 =>
 S.gd v30 true (S.bin .eql v33 (I 1)) fun v34 =>
 S.pick v30 v34 (B false) fun v35 =>
 S.gd v35 true (S.fad d_5 2) fun v37 =>
 S.gd v35 true (S.ld v37) fun v38 =>
 S.gd v35 true (S.b2s v38) fun v39 =>
 S.gd v35 true (S.sbin .eql v39 (.string ⟨#[121]⟩)) fun v40 =>
 S.pick v35 v40 (B false) fun v41 =>
 K v41)
theorem e11 [Amb] (K : Value → WT) : s11  K = shal Tryz.prog Tryz.f11 .p a11 [] K := by kernel_rfl
theorem c11 [Amb] {K : Value → WT} {w : World} (h : s11  K w) : CF Tryz.prog 11 [] K w := shal_sound Tryz.func11 (e11  K ▸ h)

/-- (*aumbry/model.Model).Do -/
def a12 : Ann := .seq (.z) (.seq (.seq (.z) (.cond (.seq (.z) (.z)) (.z))) (.seq (.seq (.z) (.blk (.seq (.z) (.cond (.seq (.z) (.z)) (.seq (.z) (.cond (.seq (.z) (.z)) (.seq (.z) (.cond (.seq (.z) (.z)) (.seq (.z) (.cond (.seq (.z) (.z)) (.join [0, 2, 4, 6, 11, 34] (.seq (.z) (.cond (.z) (.seq (.z) (.cond (.z) (.seq (.z) (.cond (.z) (.seq (.z) (.cond (.z) (.z))))))))) (.cond (.seq (.z) (.z)) (.seq (.z) (.cond (.seq (.z) (.z)) (.seq (.z) (.cond (.seq (.z) (.z)) (.seq (.z) (.cond (.seq (.z) (.z)) (.seq (.z) (.cond (.seq (.z) (.z)) (.seq (.z) (.cond (.seq (.z) (.z)) (.seq (.z) (.cond (.seq (.z) (.z)) (.join [6, 75] (.seq (.z) (.cond (.z) (.seq (.z) (.cond (.z) (.seq (.z) (.cond (.z) (.seq (.z) (.cond (.z) (.seq (.z) (.cond (.z) (.z))))))))))) (.cond (.seq (.z) (.z)) (.z))))))))))))))))))))))))))) (.seq (.z) (.z))))
def s12 [Amb] (v0 v1 v2 : Value) (K : Value → WT) : WT :=
 S.box 42 v1 fun v4 =>
 S.box 33 (.agg #[(.int .i64 0), (.int .i64 0), (.slice none 0 0), (.slice none 0 0)]) fun v6 =>
 S.eqv Tryz.prog .eql 23 true v0 (.pointer none) fun v8 =>
 S.cond v8 (
 CF Tryz.prog 39 [(I 1)] fun v9 =>
 S.st 4 v6 v9 fun _ =>
 S.ldN 4 v6 fun v6' =>
 K v6') (
 S.fad v4 0 fun v10 =>
 S.ld v10 fun v11 =>
 S.bin .eql v11 (I 1) fun v13 =>
 S.cond v13 (
 S.ldN 15 v4 fun v15 =>
 CF Tryz.prog 40 [v0, v15] fun v16 =>
 S.st 4 v6 v16 fun _ =>
 S.ldN 4 v6 fun v6'2 =>
 K v6'2) (
 S.bin .eql v11 (I 2) fun v18 =>
 S.cond v18 (
 S.ldN 15 v4 fun v20 =>
 CF Tryz.prog 41 [v0, v20, v2] fun v22 =>
 S.st 4 v6 v22 fun _ =>
 S.ldN 4 v6 fun v6'3 =>
 K v6'3) (
 S.bin .eql v11 (I 3) fun v24 =>
 S.cond v24 (
 S.ldN 15 v4 fun v26 =>
 CF Tryz.prog 42 [v0, v26, v2] fun v28 =>
 S.st 4 v6 v28 fun _ =>
 S.ldN 4 v6 fun v6'4 =>
 K v6'4) (
 S.bin .eql v11 (I 4) fun v30 =>
 S.cond v30 (
 S.ldN 15 v4 fun v32 =>
 CF Tryz.prog 43 [v0, v32] fun v33 =>
 S.st 4 v6 v33 fun _ =>
 S.ldN 4 v6 fun v6'5 =>
 K v6'5) (
 S.join 6 (fun K0 =>
 S.bin .eql v11 (I 5) fun v35 =>
 S.cond v35 (
 K0 v0 v2 v4 v6 v11 v35) (
 S.bin .eql v11 (I 6) fun v36 =>
 S.cond v36 (
 K0 v0 v2 v4 v6 v11 v36) (
 S.bin .eql v11 (I 7) fun v37 =>
 S.cond v37 (
 K0 v0 v2 v4 v6 v11 v37) (
 S.bin .eql v11 (I 8) fun v38 =>
 S.cond v38 (
 K0 v0 v2 v4 v6 v11 v38) (
 S.bin .eql v11 (I 9) fun v39 =>
 K0 v0 v2 v4 v6 v11 v39)))))
 <| fun v0' v2' v4' v6'6 v11' v34 => S.fa fun _ =>
 S.cond v34 (
 S.ldN 15 v4' fun v41 =>
 CF Tryz.prog 44 [v0', v41] fun v42 =>
 S.st 4 v6'6 v42 fun _ =>
 S.ldN 4 v6'6 fun v6'7 =>
 K v6'7) (
 S.bin .eql v11' (I 10) fun v44 =>
 S.cond v44 (
 S.ldN 15 v4' fun v46 =>
 CF Tryz.prog 45 [v0', v46] fun v47 =>
 S.st 4 v6'6 v47 fun _ =>
 S.ldN 4 v6'6 fun v6'8 =>
 K v6'8) (
 S.bin .eql v11' (I 11) fun v49 =>
 S.cond v49 (
 S.ldN 15 v4' fun v51 =>
 CF Tryz.prog 46 [v0', v51, v2'] fun v53 =>
 S.st 4 v6'6 v53 fun _ =>
 S.ldN 4 v6'6 fun v6'9 =>
 K v6'9) (
 S.bin .eql v11' (I 12) fun v55 =>
 S.cond v55 (
 S.ldN 15 v4' fun v57 =>
 CF Tryz.prog 47 [v0', v57] fun v58 =>
 S.st 4 v6'6 v58 fun _ =>
 S.ldN 4 v6'6 fun v6'10 =>
 K v6'10) (
 S.bin .eql v11' (I 13) fun v60 =>
 S.cond v60 (
 S.ldN 15 v4' fun v62 =>
 CF Tryz.prog 48 [v0', v62] fun v63 =>
 S.st 4 v6'6 v63 fun _ =>
 S.ldN 4 v6'6 fun v6'11 =>
 K v6'11) (
 S.bin .eql v11' (I 14) fun v65 =>
 S.cond v65 (
 S.ldN 15 v4' fun v67 =>
 CF Tryz.prog 49 [v0', v67] fun v68 =>
 S.st 4 v6'6 v68 fun _ =>
 S.ldN 4 v6'6 fun v6'12 =>
 K v6'12) (
 S.bin .eql v11' (I 15) fun v70 =>
 S.cond v70 (
 S.ldN 15 v4' fun v72 =>
 CF Tryz.prog 50 [v0', v72, v2'] fun v74 =>
 S.st 4 v6'6 v74 fun _ =>
 S.ldN 4 v6'6 fun v6'13 =>
 K v6'13) (
 S.join 2 (fun K1 =>
 S.bin .eql v11' (I 16) fun v76 =>
 S.cond v76 (
 K1 v6'6 v76) (
 S.bin .eql v11' (I 17) fun v77 =>
 S.cond v77 (
 K1 v6'6 v77) (
 S.bin .eql v11' (I 18) fun v78 =>
 S.cond v78 (
 K1 v6'6 v78) (
 S.bin .eql v11' (I 19) fun v79 =>
 S.cond v79 (
 K1 v6'6 v79) (
 S.bin .eql v11' (I 20) fun v80 =>
 S.cond v80 (
 K1 v6'6 v80) (
 S.bin .eql v11' (I 21) fun v81 =>
 K1 v6'6 v81))))))
 <| fun v6'14 v75 => S.fa fun _ =>
 S.cond v75 (
 V Tryz.prog (Instr.build 33 #[]) fun v82 =>
 S.st 4 v6'14 v82 fun _ =>
 S.ldN 4 v6'14 fun v6'15 =>
 K v6'15) (
 CF Tryz.prog 39 [(I 4)] fun v83 =>
 S.st 4 v6'14 v83 fun _ =>
 S.ldN 4 v6'14 fun v6'16 =>
 K v6'16)))))))))))))
theorem e12 [Amb] (v0 v1 v2 : Value) (K : Value → WT) : s12 v0 v1 v2 K = shal Tryz.prog Tryz.f12 .p a12 [v0, v1, v2] K := by kernel_rfl
theorem c12 [Amb] {v0 v1 v2 : Value} {K : Value → WT} {w : World} (h : s12 v0 v1 v2 K w) : CF Tryz.prog 12 [v0, v1, v2] K w := shal_sound Tryz.func12 (e12 v0 v1 v2 K ▸ h)

/-- (*aumbry/model.Model).Fall -/
def a13 : Ann := .seq (.z) (.cond (.z) (.z))
def s13 [Amb] (m_0 : Value) (K : Value → WT) : WT :=
 S.eqv Tryz.prog .neq 23 true m_0 (.pointer none) fun v3 =>
 S.cond v3 (
 S.nc m_0 fun v5 =>
 S.fad v5 2 fun v6 =>
 S.ld v6 fun v7 =>
 V Tryz.prog (Builtin.clear_ #[80] 0 #[v7]) fun _ =>
 K (.tuple #[])) (
 K (.tuple #[]))
theorem e13 [Amb] (m_0 : Value) (K : Value → WT) : s13 m_0 K = shal Tryz.prog Tryz.f13 .p a13 [m_0] K := by kernel_rfl
theorem c13 [Amb] {m_0 : Value} {K : Value → WT} {w : World} (h : s13 m_0 K w) : CF Tryz.prog 13 [m_0] K w := shal_sound Tryz.func13 (e13 m_0 K ▸ h)

/-- (*aumbry/model.Model).Sessions -/
def a14 : Ann := .seq (.z) (.seq (.seq (.z) (.cond (.seq (.z) (.z)) (.z))) (.seq (.z) (.z)))
def s14 [Amb] (m_0 : Value) (K : Value → WT) : WT :=
 S.eqv Tryz.prog .eql 23 true m_0 (.pointer none) fun v4 =>
 S.cond v4 (
 K (.slice none 0 0)) (
 S.nc m_0 fun v6 =>
 S.fad v6 2 fun v7 =>
 S.ld v7 fun v8 =>
 CF Tryz.prog 52 [v8] fun v9 =>
 CF Tryz.prog 51 [v9] fun v10 =>
 K v10)
theorem e14 [Amb] (m_0 : Value) (K : Value → WT) : s14 m_0 K = shal Tryz.prog Tryz.f14 .p a14 [m_0] K := by kernel_rfl
theorem c14 [Amb] {m_0 : Value} {K : Value → WT} {w : World} (h : s14 m_0 K w) : CF Tryz.prog 14 [m_0] K w := shal_sound Tryz.func14 (e14 m_0 K ▸ h)

/-- (*aumbry/model.Model).Fork -/
def a15 : Ann := .seq (.z) (.seq (.seq (.z) (.cond (.seq (.z) (.z)) (.z))) (.seq (.z) (.seq (.draw [0, 1, 2, 3, 5, 6, 7, 8, 10, 11, 12, 13, 4, 9, 14, 15, 16, 17, 18, 19, 20]) (.seq (.z) (.z)))))
def s15 [Amb] (m_0 : Value) (K : Value → WT) : WT :=
 S.eqv Tryz.prog .eql 23 true m_0 (.pointer none) fun v5 =>
 S.cond v5 (
 K (.pointer none)) (
 S.nc m_0 fun v7 =>
 S.ldN 6 v7 fun v8 =>
 S.box 82 (.agg #[(.map none), (.map none), (.map none), (.int .i64 0), (.int .i64 0), (.int .i64 0)]) fun f_3 =>
 S.st 6 f_3 v8 fun _ =>
 S.dr <|
 S.nc m_0 fun v10 =>
 S.fad v10 0 fun v11 =>
 S.ld v11 fun v12 =>
 S.nc m_0 fun v15 =>
 S.fad v15 1 fun v16 =>
 S.ld v16 fun v17 =>
 S.nc m_0 fun v20 =>
 S.fad v20 2 fun v21 =>
 S.ld v21 fun v22 =>
 CF Tryz.prog 53 [v12] fun v13 =>
 S.rck [S.ld v21 (fun v' _ => v' = v22), S.ld v16 (fun v' _ => v' = v17)] <|
 CF Tryz.prog 54 [v17] fun v18 =>
 S.rck [S.ld v21 (fun v' _ => v' = v22)] <|
 CF Tryz.prog 55 [v22] fun v23 =>
 S.fad f_3 0 fun v24 =>
 S.st 1 v24 v13 fun _ =>
 S.fad f_3 1 fun v25 =>
 S.st 1 v25 v18 fun _ =>
 S.fad f_3 2 fun v26 =>
 S.st 1 v26 v23 fun _ =>
 K f_3)
theorem e15 [Amb] (m_0 : Value) (K : Value → WT) : s15 m_0 K = shal Tryz.prog Tryz.f15 .p a15 [m_0] K := by kernel_rfl
theorem c15 [Amb] {m_0 : Value} {K : Value → WT} {w : World} (h : s15 m_0 K w) : CF Tryz.prog 15 [m_0] K w := shal_sound Tryz.func15 (e15 m_0 K ▸ h)

/-- (*aumbry/model.Model).Same -/
def a16 : Ann := .seq (.z) (.seq (.draw [0, 1, 2, 3, 4, 5, 6, 7, 8, 9, 10, 11, 12, 13, 14, 15, 16, 17, 18, 19, 20, 21, 22, 23, 24, 25, 26, 27, 28, 29, 30, 31, 32, 33, 34, 35, 36, 37, 38, 39]) (.z))
def s16 [Amb] (m_0 n_1 : Value) (K : Value → WT) : WT :=
 S.dr <|
 S.eqv Tryz.prog .neq 23 true m_0 (.pointer none) fun v6 =>
 S.gd v6 true (fun k => k n_1) fun v8 =>
 S.gd v6 true (S.eqv Tryz.prog .neq 23 true v8 (.pointer none)) fun v9 =>
 S.pick v6 v9 (B false) fun v10 =>
 S.gd v10 true (fun k => k m_0) fun v12 =>
 S.gd v10 true (S.nc v12) fun v13 =>
 S.gd v10 true (S.fad v13 4) fun v14 =>
 S.gd v10 true (S.ld v14) fun v15 =>
 S.gd v10 true (fun k => k n_1) fun v16 =>
 S.gd v10 true (S.nc v16) fun v17 =>
 S.gd v10 true (S.fad v17 4) fun v18 =>
 S.gd v10 true (S.ld v18) fun v19 =>
 S.gd v10 true (S.bin .eql v15 v19) fun v20 =>
 S.pick v10 v20 (B false) fun v21 =>
 S.gd v21 true (fun k => k m_0) fun v23 =>
 S.gd v21 true (S.nc v23) fun v24 =>
 S.gd v21 true (S.fad v24 0) fun v25 =>
 S.gd v21 true (S.ld v25) fun v26 =>
 S.gd v21 true (fun k => k n_1) fun v27 =>
 S.gd v21 true (S.nc v27) fun v28 =>
 S.gd v21 true (S.fad v28 0) fun v29 =>
 S.gd v21 true (S.ld v29) fun v30 =>
 S.gd v21 true (CF Tryz.prog 56 [v26, v30, (.func (.func 57) #[] #[])]) fun v31 =>
 S.pick v21 v31 (B false) fun v32 =>
 S.gd v32 true (fun k => k m_0) fun v34 =>
 S.gd v32 true (S.nc v34) fun v35 =>
 S.gd v32 true (S.fad v35 1) fun v36 =>
 S.gd v32 true (S.ld v36) fun v37 =>
 S.gd v32 true (fun k => k n_1) fun v38 =>
 S.gd v32 true (S.nc v38) fun v39 =>
 S.gd v32 true (S.fad v39 1) fun v40 =>
 S.gd v32 true (S.ld v40) fun v41 =>
 S.gd v32 true (CF Tryz.prog 59 [v37, v41, (.func (.func 60) #[] #[])]) fun v42 =>
 S.pick v32 v42 (B false) fun v43 =>
 K v43
theorem e16 [Amb] (m_0 n_1 : Value) (K : Value → WT) : s16 m_0 n_1 K = shal Tryz.prog Tryz.f16 .p a16 [m_0, n_1] K := by kernel_rfl
theorem c16 [Amb] {m_0 n_1 : Value} {K : Value → WT} {w : World} (h : s16 m_0 n_1 K w) : CF Tryz.prog 16 [m_0, n_1] K w := shal_sound Tryz.func16 (e16 m_0 n_1 K ▸ h)

/-- aumbry/aumbryref09.Ints -/
def a17 : Ann := .seq (.z) (.seq (.seq (.z) (.cond (.seq (.z) (.z)) (.z))) (.seq (.seq (.z) (.blk (.loop [0, 1, 5] (.seq (.seq (.z) (.cond (.z) (.z))) (.seq (.blk (.seq (.draw [0, 1, 2, 3, 4, 5, 6, 7, 8]) (.cond (.seq (.z) (.z)) (.z)))) (.z)))))) (.seq (.z) (.z))))
def s17 [Amb] (a_0 b_1 : Value) (K : Value → WT) : WT :=
 S.len a_0 fun v7 =>
 S.len b_1 fun v9 =>
 S.bin .neq v7 v9 fun v10 =>
 S.cond v10 (
 K (B false)) (
 S.loop 3 (fun K0 => fun a_0' b_1' i_5 => S.fa fun _ =>
 S.len a_0' fun v13 =>
 S.bin .lss i_5 v13 fun v14 =>
 S.cond v14 (
 S.dr <|
 S.ixS 1 a_0' i_5 fun v19 =>
 S.ld v19 fun v20 =>
 S.ixS 1 b_1' i_5 fun v23 =>
 S.ld v23 fun v24 =>
 S.bin .neq v20 v24 fun v25 =>
 S.cond v25 (
 K (B false)) (
 S.bin .add i_5 (I 1) fun v16 =>
 K0 a_0' b_1' v16)) (
 K (B true)))
 [a_0, b_1, (I 0)])
theorem e17 [Amb] (a_0 b_1 : Value) (K : Value → WT) : s17 a_0 b_1 K = shal Tryz.prog Tryz.f17 .p a17 [a_0, b_1] K := by kernel_rfl
theorem c17 [Amb] {a_0 b_1 : Value} {K : Value → WT} {w : World} (h : s17 a_0 b_1 K w) : CF Tryz.prog 17 [a_0, b_1] K w := shal_sound Tryz.func17 (e17 a_0 b_1 K ▸ h)

/-- (*aumbry/aumbryref21.Model).Fork -/
def a18 : Ann := .seq (.z) (.seq (.z) (.seq (.z) (.z)))
def s18 [Amb] (m_0 : Value) (K : Value → WT) : WT :=
 S.nc m_0 fun v5 =>
 S.ldN 6 v5 fun v6 =>
 S.box 70 (.agg #[(.slice none 0 0), (.slice none 0 0), (.slice none 0 0), (.int .i64 0), (.int .i64 0), (.int .i64 0)]) fun f_3 =>
 S.st 6 f_3 v6 fun _ =>
 K f_3
theorem e18 [Amb] (m_0 : Value) (K : Value → WT) : s18 m_0 K = shal Tryz.prog Tryz.f18 .p a18 [m_0] K := by kernel_rfl
theorem c18 [Amb] {m_0 : Value} {K : Value → WT} {w : World} (h : s18 m_0 K w) : CF Tryz.prog 18 [m_0] K w := shal_sound Tryz.func18 (e18 m_0 K ▸ h)

/-- (*aumbry/aumbryref21.Model).Same -/
def a19 : Ann := .seq (.z) (.seq (.join [0, 1, 41] (.draw [0, 1, 2, 3, 4, 5, 6, 7, 8, 9, 10, 11, 12, 13, 14, 15, 16, 17, 18, 19, 20, 21, 22, 23, 24, 25, 26, 27, 28, 29, 30, 31, 32, 33, 34]) (.cond (.seq (.z) (.z)) (.z))) (.seq (.seq (.z) (.blk (.loop [0, 1, 5] (.seq (.seq (.z) (.cond (.z) (.z))) (.seq (.blk (.seq (.draw [0, 1, 2, 3, 4, 5, 6, 7, 8, 9, 10, 11, 12, 13, 14]) (.cond (.seq (.z) (.z)) (.z)))) (.z)))))) (.seq (.seq (.z) (.blk (.loop [0, 1, 6] (.seq (.seq (.z) (.cond (.z) (.z))) (.seq (.blk (.join [0, 1, 6, 111] (.draw [0, 1, 2, 3, 4, 5, 6, 7, 8, 9, 10, 11, 12, 13, 14, 15, 16, 17, 18, 19, 20, 21, 22, 23, 24, 25, 26, 27, 28, 29, 30, 31, 32, 33, 34, 35, 36]) (.cond (.seq (.z) (.z)) (.z)))) (.z)))))) (.seq (.z) (.z)))))
def s19 [Amb] (v0 v1 : Value) (K : Value → WT) : WT :=
 S.join 3 (fun K0 =>
 S.dr <|
 S.nc v0 fun v8 =>
 S.fad v8 4 fun v9 =>
 S.ld v9 fun v10 =>
 S.nc v1 fun v12 =>
 S.fad v12 4 fun v13 =>
 S.ld v13 fun v14 =>
 S.bin .neq v10 v14 fun v15 =>
 S.gd v15 false (fun k => k v0) fun v17 =>
 S.gd v15 false (S.nc v17) fun v18 =>
 S.gd v15 false (S.fad v18 0) fun v19 =>
 S.gd v15 false (S.ld v19) fun v20 =>
 S.gd v15 false (S.len v20) fun v21 =>
 S.gd v15 false (fun k => k v1) fun v22 =>
 S.gd v15 false (S.nc v22) fun v23 =>
 S.gd v15 false (S.fad v23 0) fun v24 =>
 S.gd v15 false (S.ld v24) fun v25 =>
 S.gd v15 false (S.len v25) fun v26 =>
 S.gd v15 false (S.bin .neq v21 v26) fun v27 =>
 S.pick v15 (B true) v27 fun v28 =>
 S.gd v28 false (fun k => k v0) fun v30 =>
 S.gd v28 false (S.nc v30) fun v31 =>
 S.gd v28 false (S.fad v31 1) fun v32 =>
 S.gd v28 false (S.ld v32) fun v33 =>
 S.gd v28 false (S.len v33) fun v34 =>
 S.gd v28 false (fun k => k v1) fun v35 =>
 S.gd v28 false (S.nc v35) fun v36 =>
 S.gd v28 false (S.fad v36 1) fun v37 =>
 S.gd v28 false (S.ld v37) fun v38 =>
 S.gd v28 false (S.len v38) fun v39 =>
 S.gd v28 false (S.bin .neq v34 v39) fun v40 =>
 S.pick v28 (B true) v40 fun v41 =>
 K0 v0 v1 v41)
 <| fun v0' v1' v41' => S.fa fun _ =>
 S.cond v41' (
 K (B false)) (
 S.loop 3 (fun K1 => fun v0'2 v1'2 v5 => S.fa fun _ =>
 S.nc v0'2 fun v44 =>
 S.fad v44 0 fun v45 =>
 S.ld v45 fun v46 =>
 S.len v46 fun v47 =>
 S.bin .lss v5 v47 fun v48 =>
 S.cond v48 (
 S.dr <|
 S.nc v0'2 fun v52 =>
 S.fad v52 0 fun v53 =>
 S.ld v53 fun v54 =>
 S.ixS 5 v54 v5 fun v56 =>
 S.ldN 5 v56 fun v57 =>
 S.nc v1'2 fun v59 =>
 S.fad v59 0 fun v60 =>
 S.ld v60 fun v61 =>
 S.ixS 5 v61 v5 fun v63 =>
 S.ldN 5 v63 fun v64 =>
 S.eqv Tryz.prog .neq 102 false v57 v64 fun v65 =>
 S.cond v65 (
 K (B false)) (
 S.bin .add v5 (I 1) fun v50 =>
 K1 v0'2 v1'2 v50)) (
 S.loop 3 (fun K2 => fun v0'3 v1'3 v6 => S.fa fun _ =>
 S.nc v0'3 fun v68 =>
 S.fad v68 1 fun v69 =>
 S.ld v69 fun v70 =>
 S.len v70 fun v71 =>
 S.bin .lss v6 v71 fun v72 =>
 S.cond v72 (
 S.join 4 (fun K3 =>
 S.dr <|
 S.nc v0'3 fun v76 =>
 S.fad v76 1 fun v77 =>
 S.ld v77 fun v78 =>
 S.ixS 2 v78 v6 fun v80 =>
 S.fad v80 0 fun v81 =>
 S.ld v81 fun v82 =>
 S.nc v1'3 fun v84 =>
 S.fad v84 1 fun v85 =>
 S.ld v85 fun v86 =>
 S.ixS 2 v86 v6 fun v88 =>
 S.fad v88 0 fun v89 =>
 S.ld v89 fun v90 =>
 S.sbin .neq v82 v90 fun v91 =>
 S.gd v91 false (fun k => k v0'3) fun v93 =>
 S.gd v91 false (S.nc v93) fun v94 =>
 S.gd v91 false (S.fad v94 1) fun v95 =>
 S.gd v91 false (S.ld v95) fun v96 =>
 S.gd v91 false (fun k => k v6) fun v97 =>
 S.gd v91 false (S.ixS 2 v96 v97) fun v98 =>
 S.gd v91 false (S.fad v98 1) fun v99 =>
 S.gd v91 false (S.ld v99) fun v100 =>
 S.gd v91 false (fun k => k v1'3) fun v101 =>
 S.gd v91 false (S.nc v101) fun v102 =>
 S.gd v91 false (S.fad v102 1) fun v103 =>
 S.gd v91 false (S.ld v103) fun v104 =>
 S.gd v91 false (fun k => k v6) fun v105 =>
 S.gd v91 false (S.ixS 2 v104 v105) fun v106 =>
 S.gd v91 false (S.fad v106 1) fun v107 =>
 S.gd v91 false (S.ld v107) fun v108 =>
 S.gd v91 false (CF Tryz.prog 21 [v100, v108]) fun v109 =>
 S.gd v91 false (S.not1 v109) fun v110 =>
 S.pick v91 (B true) v110 fun v111 =>
 K3 v0'3 v1'3 v6 v111)
 <| fun v0'4 v1'4 v6' v111' => S.fa fun _ =>
 S.cond v111' (
 K (B false)) (
 S.bin .add v6' (I 1) fun v74 =>
 K2 v0'4 v1'4 v74)) (
 K (B true)))
 [v0'2, v1'2, (I 0)]))
 [v0', v1', (I 0)])
theorem e19 [Amb] (v0 v1 : Value) (K : Value → WT) : s19 v0 v1 K = shal Tryz.prog Tryz.f19 .p a19 [v0, v1] K := by kernel_rfl
theorem c19 [Amb] {v0 v1 : Value} {K : Value → WT} {w : World} (h : s19 v0 v1 K w) : CF Tryz.prog 19 [v0, v1] K w := shal_sound Tryz.func19 (e19 v0 v1 K ▸ h)

/-- aumbry/aumbryref21.SameAnswer -/
def a20 : Ann := .seq (.z) (.seq (.z) (.z))
def s20 [Amb] (a_0 b_1 : Value) (K : Value → WT) : WT :=
 S.box 33 a_0 fun a_2 =>
 S.box 33 b_1 fun b_3 =>
 S.fad a_2 0 fun v5 =>
 S.ld v5 fun v6 =>
 S.fad b_3 0 fun v7 =>
 S.ld v7 fun v8 =>
 S.bin .eql v6 v8 fun v9 =>
 S.gd v9 true (S.fad a_2 1) fun v11 =>
 S.gd v9 true (S.ld v11) fun v12 =>
 S.gd v9 true (S.fad b_3 1) fun v13 =>
 S.gd v9 true (S.ld v13) fun v14 =>
 S.gd v9 true (S.bin .eql v12 v14) fun v15 =>
 S.pick v9 v15 (B false) fun v16 =>
 S.gd v16 true (S.fad a_2 2) fun v18 =>
 S.gd v16 true (S.ld v18) fun v19 =>
 S.gd v16 true (S.b2s v19) fun v20 =>
 S.gd v16 true (S.fad b_3 2) fun v21 =>
 S.gd v16 true (S.ld v21) fun v22 =>
 S.gd v16 true (S.b2s v22) fun v23 =>
 S.gd v16 true (S.sbin .eql v20 v23) fun v24 =>
 S.pick v16 v24 (B false) fun v25 =>
 S.gd v25 true (S.fad a_2 3) fun v27 =>
 S.gd v25 true (S.ld v27) fun v28 =>
 S.gd v25 true (S.fad b_3 3) fun v29 =>
 S.gd v25 true (S.ld v29) fun v30 =>
 S.gd v25 true (CF Tryz.prog 21 [v28, v30]) fun v31 =>
 S.pick v25 v31 (B false) fun v32 =>
 K v32
theorem e20 [Amb] (a_0 b_1 : Value) (K : Value → WT) : s20 a_0 b_1 K = shal Tryz.prog Tryz.f20 .p a20 [a_0, b_1] K := by kernel_rfl
theorem c20 [Amb] {a_0 b_1 : Value} {K : Value → WT} {w : World} (h : s20 a_0 b_1 K w) : CF Tryz.prog 20 [a_0, b_1] K w := shal_sound Tryz.func20 (e20 a_0 b_1 K ▸ h)

/-- aumbry/aumbryref21.SameHeld -/
def a21 : Ann := .seq (.z) (.seq (.seq (.z) (.cond (.seq (.z) (.z)) (.z))) (.seq (.seq (.z) (.blk (.loop [0, 1, 5] (.seq (.seq (.z) (.cond (.z) (.z))) (.seq (.blk (.seq (.draw [0, 1, 2, 3, 4, 5, 6, 7, 8]) (.cond (.seq (.z) (.z)) (.z)))) (.z)))))) (.seq (.z) (.z))))
def s21 [Amb] (a_0 b_1 : Value) (K : Value → WT) : WT :=
 S.len a_0 fun v7 =>
 S.len b_1 fun v9 =>
 S.bin .neq v7 v9 fun v10 =>
 S.cond v10 (
 K (B false)) (
 S.loop 3 (fun K0 => fun a_0' b_1' i_5 => S.fa fun _ =>
 S.len a_0' fun v13 =>
 S.bin .lss i_5 v13 fun v14 =>
 S.cond v14 (
 S.dr <|
 S.ixS 2 a_0' i_5 fun v19 =>
 S.ldN 2 v19 fun v20 =>
 S.ixS 2 b_1' i_5 fun v23 =>
 S.ldN 2 v23 fun v24 =>
 S.eqv Tryz.prog .neq 106 false v20 v24 fun v25 =>
 S.cond v25 (
 K (B false)) (
 S.bin .add i_5 (I 1) fun v16 =>
 K0 a_0' b_1' v16)) (
 K (B true)))
 [a_0, b_1, (I 0)])
theorem e21 [Amb] (a_0 b_1 : Value) (K : Value → WT) : s21 a_0 b_1 K = shal Tryz.prog Tryz.f21 .p a21 [a_0, b_1] K := by kernel_rfl
theorem c21 [Amb] {a_0 b_1 : Value} {K : Value → WT} {w : World} (h : s21 a_0 b_1 K w) : CF Tryz.prog 21 [a_0, b_1] K w := shal_sound Tryz.func21 (e21 a_0 b_1 K ▸ h)

/-- (*aumbry/model.Model).Names -/
def a22 : Ann := .seq (.z) (.seq (.z) (.seq (.seq (.z) (.cond (.seq (.z) (.z)) (.z))) (.seq (.seq (.z) (.blk (.loop [0, 3, 14, 15, 16] (.seq (.z) (.seq (.cond (.z) (.z)) (.join [0, 3, 14, 15, 16] (.blk (.seq (.z) (.seq (.z) (.seq (.z) (.cond (.z) (.z)))))) (.z))))))) (.seq (.z) (.z)))))
def s22 [Amb] (m_0 : Value) (K : Value → WT) : WT :=
 S.eqv Tryz.prog .eql 23 true m_0 (.pointer none) fun v8 =>
 S.cond v8 (
 K (.slice none 0 0)) (
 S.nc m_0 fun v10 =>
 S.fad v10 0 fun v11 =>
 S.ld v11 fun v12 =>
 CF Tryz.prog 63 [v12] fun v13 =>
 CF Tryz.prog 62 [v13] fun v14 =>
 S.len v14 fun v15 =>
 S.loop 5 (fun K0 => fun m_0' out_3 v14' v15' v16 => S.fa fun _ =>
 S.bin .lss v16 v15' fun v17 =>
 S.cond v17 (
 S.join 5 (fun K1 =>
 S.ixS 1 v14' v16 fun v18 =>
 S.ld v18 fun v19 =>
 CF Tryz.prog 64 [m_0', v19, (I 0)] fun v22 =>
 S.bin .geq v22 (I 0) fun v24 =>
 S.cond v24 (
 S.nc m_0' fun v28 =>
 S.fad v28 0 fun v29 =>
 S.ld v29 fun v30 =>
 S.lk .string (.slice none 0 0) false v30 v19 fun v32 =>
 S.ixS 4 v32 v22 fun v34 =>
 S.fad v34 0 fun v35 =>
 S.ld v35 fun v36 =>
 V Tryz.prog (Instr.build 106 #[(0, v19), (1, v36)]) fun v37 =>
 V Tryz.prog (Instr.buildSlice 31 1 #[(0, v37)]) fun v38 =>
 V Tryz.prog (Builtin.append_ #[31, 31] 31 #[out_3, v38]) fun v39 =>
 K1 m_0' v39 v14' v15' v16) (
 K1 m_0' out_3 v14' v15' v16))
 <| fun m_0'2 out_3' v14'2 v15'2 v16' => S.fa fun _ =>
 S.bin .add v16' (I 1) fun v40 =>
 K0 m_0'2 out_3' v14'2 v15'2 v40) (
 K out_3))
 [m_0, (.slice none 0 0), v14, v15, (I 0)])
theorem e22 [Amb] (m_0 : Value) (K : Value → WT) : s22 m_0 K = shal Tryz.prog Tryz.f22 .p a22 [m_0] K := by kernel_rfl
theorem c22 [Amb] {m_0 : Value} {K : Value → WT} {w : World} (h : s22 m_0 K w) : CF Tryz.prog 22 [m_0] K w := shal_sound Tryz.func22 (e22 m_0 K ▸ h)

/-- (*aumbry/aumbryref21.Model).Names -/
def a23 : Ann := .seq (.z) (.seq (.z) (.seq (.seq (.z) (.blk (.loop [0, 3, 4] (.seq (.seq (.z) (.cond (.z) (.z))) (.join [0, 3, 4] (.blk (.seq (.z) (.cond (.draw [0, 1, 2, 3, 4, 5, 6, 7, 8, 9, 10, 11, 12, 13, 14, 15, 16, 17, 18, 19, 20]) (.z)))) (.z)))))) (.seq (.z) (.z))))
def s23 [Amb] (m_0 : Value) (K : Value → WT) : WT :=
 V Tryz.prog (Instr.buildSlice 31 0 #[]) fun v5 =>
 S.loop 3 (fun K0 => fun m_0' out_3 i_4 => S.fa fun _ =>
 S.nc m_0' fun v8 =>
 S.fad v8 0 fun v9 =>
 S.ld v9 fun v10 =>
 S.len v10 fun v11 =>
 S.bin .lss i_4 v11 fun v12 =>
 S.cond v12 (
 S.join 3 (fun K1 =>
 S.nc m_0' fun v17 =>
 S.fad v17 0 fun v18 =>
 S.ld v18 fun v19 =>
 S.ixS 5 v19 i_4 fun v21 =>
 S.fad v21 0 fun v22 =>
 S.ld v22 fun v23 =>
 CF Tryz.prog 34 [m_0', v23, (I 0)] fun v24 =>
 S.bin .eql v24 i_4 fun v26 =>
 S.cond v26 (
 S.dr <|
 S.nc m_0' fun v29 =>
 S.fad v29 0 fun v30 =>
 S.ld v30 fun v31 =>
 S.ixS 5 v31 i_4 fun v33 =>
 S.fad v33 0 fun v34 =>
 S.ld v34 fun v35 =>
 S.nc m_0' fun v37 =>
 S.fad v37 0 fun v38 =>
 S.ld v38 fun v39 =>
 S.ixS 5 v39 i_4 fun v41 =>
 S.fad v41 1 fun v42 =>
 S.ld v42 fun v43 =>
 V Tryz.prog (Instr.build 106 #[(0, v35), (1, v43)]) fun v44 =>
 V Tryz.prog (Instr.buildSlice 31 1 #[(0, v44)]) fun v45 =>
 V Tryz.prog (Builtin.append_ #[31, 31] 31 #[out_3, v45]) fun v46 =>
 K1 m_0' v46 i_4) (
 K1 m_0' out_3 i_4))
 <| fun m_0'2 out_3' i_4' => S.fa fun _ =>
 S.bin .add i_4' (I 1) fun v14 =>
 K0 m_0'2 out_3' v14) (
 K out_3))
 [m_0, v5, (I 0)]
theorem e23 [Amb] (m_0 : Value) (K : Value → WT) : s23 m_0 K = shal Tryz.prog Tryz.f23 .p a23 [m_0] K := by kernel_rfl
theorem c23 [Amb] {m_0 : Value} {K : Value → WT} {w : World} (h : s23 m_0 K w) : CF Tryz.prog 23 [m_0] K w := shal_sound Tryz.func23 (e23 m_0 K ▸ h)

/-- aumbry/model.New -/
def a24 : Ann := .seq (.z) (.seq (.z) (.z))
def s24 [Amb] (quota_0 : Value) (K : Value → WT) : WT :=
 S.mkM fun v3 =>
 S.mkM fun v4 =>
 S.mkM fun v5 =>
 V Tryz.prog (Instr.build 82 #[(0, v3), (1, v4), (2, v5), (5, quota_0)]) fun v7 =>
 S.box 82 v7 fun v8 =>
 K v8
theorem e24 [Amb] (quota_0 : Value) (K : Value → WT) : s24 quota_0 K = shal Tryz.prog Tryz.f24 .p a24 [quota_0] K := by kernel_rfl
theorem c24 [Amb] {quota_0 : Value} {K : Value → WT} {w : World} (h : s24 quota_0 K w) : CF Tryz.prog 24 [quota_0] K w := shal_sound Tryz.func24 (e24 quota_0 K ▸ h)

/-- aumbry/aumbryref21.New -/
def a25 : Ann := .seq (.z) (.seq (.z) (.z))
def s25 [Amb] (quota_0 : Value) (K : Value → WT) : WT :=
 V Tryz.prog (Instr.build 70 #[(5, quota_0)]) fun v4 =>
 S.box 70 v4 fun v5 =>
 K v5
theorem e25 [Amb] (quota_0 : Value) (K : Value → WT) : s25 quota_0 K = shal Tryz.prog Tryz.f25 .p a25 [quota_0] K := by kernel_rfl
theorem c25 [Amb] {quota_0 : Value} {K : Value → WT} {w : World} (h : s25 quota_0 K w) : CF Tryz.prog 25 [quota_0] K w := shal_sound Tryz.func25 (e25 quota_0 K ▸ h)

/-- aumbry/aumbrylaw21.sessions -/
def a26 : Ann := .seq (.z) (.seq (.z) (.seq (.seq (.z) (.blk (.loop [0, 3, 4] (.seq (.seq (.z) (.cond (.z) (.z))) (.seq (.blk (.z)) (.z)))))) (.seq (.z) (.z))))
def s26 [Amb] (y_0 : Value) (K : Value → WT) : WT :=
 S.loop 3 (fun K0 => fun y_0' out_3 i_4 => S.fa fun _ =>
 S.nc y_0' fun v7 =>
 S.fad v7 2 fun v8 =>
 S.ld v8 fun v9 =>
 S.len v9 fun v10 =>
 S.bin .lss i_4 v10 fun v11 =>
 S.cond v11 (
 S.nc y_0' fun v16 =>
 S.fad v16 2 fun v17 =>
 S.ld v17 fun v18 =>
 S.ixS 3 v18 i_4 fun v20 =>
 S.fad v20 0 fun v21 =>
 S.ld v21 fun v22 =>
 V Tryz.prog (Instr.buildSlice 48 1 #[(0, v22)]) fun v23 =>
 V Tryz.prog (Builtin.append_ #[48, 48] 48 #[out_3, v23]) fun v24 =>
 S.bin .add i_4 (I 1) fun v13 =>
 K0 y_0' v24 v13) (
 K out_3))
 [y_0, (.slice none 0 0), (I 0)]
theorem e26 [Amb] (y_0 : Value) (K : Value → WT) : s26 y_0 K = shal Tryz.prog Tryz.f26 .p a26 [y_0] K := by kernel_rfl
theorem c26 [Amb] {y_0 : Value} {K : Value → WT} {w : World} (h : s26 y_0 K w) : CF Tryz.prog 26 [y_0] K w := shal_sound Tryz.func26 (e26 y_0 K ▸ h)

/-- aumbry/aumbryref13.Name -/
def a27 : Ann := .seq (.z) (.seq (.join [0, 11] (.z) (.cond (.seq (.z) (.z)) (.z))) (.seq (.seq (.z) (.blk (.loop [0, 3] (.seq (.seq (.z) (.cond (.z) (.z))) (.seq (.blk (.join [0, 3, 27] (.z) (.cond (.seq (.z) (.z)) (.z)))) (.z)))))) (.seq (.z) (.z))))
def s27 [Amb] (s_0 : Value) (K : Value → WT) : WT :=
 S.join 2 (fun K0 =>
 S.lenS s_0 fun v5 =>
 S.bin .lss v5 (I 1) fun v6 =>
 S.gd v6 false (fun k => k s_0) fun v8 =>
 S.gd v6 false (S.lenS v8) fun v9 =>
 S.gd v6 false (S.bin .gtr v9 (I 32)) fun v10 =>
 S.pick v6 (B true) v10 fun v11 =>
 K0 s_0 v11)
 <| fun s_0' v11' => S.fa fun _ =>
 S.cond v11' (
 K (B false)) (
 S.loop 2 (fun K1 => fun s_0'2 i_3 => S.fa fun _ =>
 S.lenS s_0'2 fun v14 =>
 S.bin .lss i_3 v14 fun v15 =>
 S.cond v15 (
 S.join 3 (fun K2 =>
 S.chr s_0'2 i_3 fun v20 =>
 S.bin .lss v20 (.int .u8 33) fun v21 =>
 S.gd v21 false (fun k => k s_0'2) fun v23 =>
 S.gd v21 false (fun k => k i_3) fun v24 =>
 S.gd v21 false (S.chr v23 v24) fun v25 =>
 S.gd v21 false (S.bin .gtr v25 (.int .u8 126)) fun v26 =>
 S.pick v21 (B true) v26 fun v27 =>
 K2 s_0'2 i_3 v27)
 <| fun s_0'3 i_3' v27' => S.fa fun _ =>
 S.cond v27' (
 K (B false)) (
 S.bin .add i_3' (I 1) fun v17 =>
 K1 s_0'3 v17)) (
 K (B true)))
 [s_0', (I 0)])
theorem e27 [Amb] (s_0 : Value) (K : Value → WT) : s27 s_0 K = shal Tryz.prog Tryz.f27 .p a27 [s_0] K := by kernel_rfl
theorem c27 [Amb] {s_0 : Value} {K : Value → WT} {w : World} (h : s27 s_0 K w) : CF Tryz.prog 27 [s_0] K w := shal_sound Tryz.func27 (e27 s_0 K ▸ h)

/-- aumbry/aumbryref21.wrong -/
def a28 : Ann := .seq (.z) (.seq (.z) (.z))
def s28 [Amb] (e_0 : Value) (K : Value → WT) : WT :=
 S.box 33 (.agg #[(.int .i64 0), (.int .i64 0), (.slice none 0 0), (.slice none 0 0)]) fun v2 =>
 V Tryz.prog (Instr.build 33 #[(0, e_0)]) fun v4 =>
 S.st 4 v2 v4 fun _ =>
 S.ldN 4 v2 fun v2' =>
 K v2'
theorem e28 [Amb] (e_0 : Value) (K : Value → WT) : s28 e_0 K = shal Tryz.prog Tryz.f28 .p a28 [e_0] K := by kernel_rfl
theorem c28 [Amb] {e_0 : Value} {K : Value → WT} {w : World} (h : s28 e_0 K w) : CF Tryz.prog 28 [e_0] K w := shal_sound Tryz.func28 (e28 e_0 K ▸ h)

/-- (*aumbry/aumbryref21.Model).write -/
def a29 : Ann := .seq (.z) (.seq (.z) (.seq (.seq (.z) (.cond (.seq (.z) (.z)) (.z))) (.seq (.z) (.seq (.z) (.join [0, 4, 6, 7, 8, 9] (.seq (.z) (.cond (.z) (.join [0, 2, 4, 6, 7, 8, 9, 50] (.draw [0, 1, 2, 3, 4, 5, 6, 8, 9, 10, 12, 13, 14, 15, 7, 11, 16, 17]) (.cond (.z) (.seq (.z) (.cond (.z) (.z))))))) (.seq (.seq (.z) (.cond (.seq (.z) (.seq (.z) (.z))) (.z))) (.seq (.z) (.seq (.z) (.seq (.z) (.seq (.z) (.seq (.z) (.z))))))))))))
def s29 [Amb] (v0 v1 v2 : Value) (K : Value → WT) : WT :=
 S.box 42 v1 fun v4 =>
 S.box 33 (.agg #[(.int .i64 0), (.int .i64 0), (.slice none 0 0), (.slice none 0 0)]) fun v6 =>
 S.fad v4 1 fun v12 =>
 S.ld v12 fun v13 =>
 CF Tryz.prog 31 [v0, v13] fun v14 =>
 S.bin .lss v14 (I 0) fun v16 =>
 S.cond v16 (
 CF Tryz.prog 28 [(I 9)] fun v17 =>
 S.st 4 v6 v17 fun _ =>
 S.ldN 4 v6 fun v6' =>
 K v6') (
 S.nc v0 fun v19 =>
 S.fad v19 2 fun v20 =>
 S.ld v20 fun v21 =>
 S.ixS 3 v21 v14 fun v23 =>
 S.ldN 3 v23 fun v24 =>
 S.box 72 (.agg #[(.int .i64 0), (.string ⟨#[]⟩), (.string ⟨#[]⟩)]) fun v8 =>
 S.st 3 v8 v24 fun _ =>
 S.join 6 (fun K0 =>
 S.fad v8 2 fun v25 =>
 S.ld v25 fun v26 =>
 S.lenS v26 fun v27 =>
 S.fad v4 7 fun v28 =>
 S.ld v28 fun v29 =>
 S.len v29 fun v30 =>
 S.bin .add v27 v30 fun v31 =>
 S.bin .gtr v31 (I 8192) fun v32 =>
 S.cond v32 (
 K0 v0 v4 v6 v14 v8 (I 6)) (
 S.join 8 (fun K1 =>
 S.dr <|
 S.nc v0 fun v34 =>
 S.fad v34 5 fun v35 =>
 S.ld v35 fun v36 =>
 S.bin .gtr v36 (I 0) fun v37 =>
 S.gd v37 true (fun k => k v0) fun v39 =>
 S.gd v37 true (S.fad v4 7) fun v41 =>
 S.gd v37 true (S.ld v41) fun v42 =>
 S.gd v37 true (S.len v42) fun v43 =>
 S.gd v37 true (fun k => k v0) fun v45 =>
 S.gd v37 true (S.nc v45) fun v46 =>
 S.gd v37 true (S.fad v46 5) fun v47 =>
 S.gd v37 true (S.ld v47) fun v48 =>
 S.gd v37 true (CF Tryz.prog 65 [v39]) fun v40 =>
 S.rck [S.gd v37 true (S.ld v47) (fun v' _ => v' = v48), S.gd v37 true (S.ld v41) (fun v' _ => v' = v42)] <|
 S.gd v37 true (S.bin .add v40 v43) fun v44 =>
 S.gd v37 true (S.bin .gtr v44 v48) fun v49 =>
 S.pick v37 v49 (B false) fun v50 =>
 K1 v0 v2 v4 v6 v14 v8 (I 0) v50)
 <| fun v0' v2' v4' v6'2 v7 v8' v9 v50' => S.fa fun _ =>
 S.cond v50' (
 K0 v0' v4' v6'2 v7 v8' (I 11)) (
 S.cond v2' (
 K0 v0' v4' v6'2 v7 v8' (I 8)) (
 K0 v0' v4' v6'2 v7 v8' v9))))
 <| fun v0'2 v4'2 v6'3 v7' v8'2 v9' => S.fa fun _ =>
 S.bin .neq v9' (I 0) fun v53 =>
 S.cond v53 (
 CF Tryz.prog 32 [v0'2, v7'] fun v56 =>
 CF Tryz.prog 28 [v9'] fun v58 =>
 S.st 4 v6'3 v58 fun _ =>
 S.ldN 4 v6'3 fun v6'4 =>
 K v6'4) (
 S.fad v8'2 2 fun v59 =>
 S.ld v59 fun v60 =>
 S.fad v4'2 7 fun v61 =>
 S.ld v61 fun v62 =>
 S.b2s v62 fun v63 =>
 S.sbin .add v60 v63 fun v64 =>
 S.fad v8'2 2 fun v65 =>
 S.st 1 v65 v64 fun _ =>
 V Tryz.prog (Instr.buildSlice 68 0 #[]) fun v66 =>
 S.nc v0'2 fun v68 =>
 S.fad v68 2 fun v69 =>
 S.ld v69 fun v70 =>
 V Tryz.prog (Builtin.append_ #[68, 68] 68 #[v66, v70]) fun v71 =>
 S.ldN 3 v8'2 fun v74 =>
 S.ixS 3 v71 v7' fun v75 =>
 S.st 3 v75 v74 fun _ =>
 S.nc v0'2 fun v78 =>
 S.fad v78 2 fun v79 =>
 S.st 1 v79 v71 fun _ =>
 V Tryz.prog (Instr.build 33 #[]) fun v80 =>
 S.st 4 v6'3 v80 fun _ =>
 S.ldN 4 v6'3 fun v6'5 =>
 K v6'5))
theorem e29 [Amb] (v0 v1 v2 : Value) (K : Value → WT) : s29 v0 v1 v2 K = shal Tryz.prog Tryz.f29 .p a29 [v0, v1, v2] K := by kernel_rfl
theorem c29 [Amb] {v0 v1 v2 : Value} {K : Value → WT} {w : World} (h : s29 v0 v1 v2 K w) : CF Tryz.prog 29 [v0, v1, v2] K w := shal_sound Tryz.func29 (e29 v0 v1 v2 K ▸ h)

/-- (*aumbry/aumbryref21.Model).commit -/
def a30 : Ann := .seq (.z) (.seq (.z) (.seq (.seq (.z) (.cond (.seq (.z) (.z)) (.z))) (.seq (.z) (.seq (.z) (.seq (.z) (.seq (.join [0, 2, 6, 8, 11, 48] (.z) (.cond (.seq (.z) (.z)) (.z))) (.seq (.seq (.z) (.cond (.seq (.z) (.z)) (.z))) (.seq (.z) (.seq (.blk (.loop [0, 6, 8, 11, 12] (.seq (.join [0, 6, 8, 11, 12, 71] (.draw [0, 1, 2, 3, 4, 5, 6, 7, 8, 9, 10, 11, 12, 13, 14, 15, 16, 17, 18, 19]) (.cond (.z) (.z))) (.blk (.z))))) (.seq (.z) (.seq (.draw [0, 1, 2, 3, 4, 5, 6, 7, 8, 9, 10, 11, 12, 13, 14]) (.seq (.z) (.seq (.z) (.z))))))))))))))
def s30 [Amb] (v0 v1 v2 : Value) (K : Value → WT) : WT :=
 S.box 42 v1 fun v4 =>
 S.box 33 (.agg #[(.int .i64 0), (.int .i64 0), (.slice none 0 0), (.slice none 0 0)]) fun v6 =>
 S.fad v4 1 fun v15 =>
 S.ld v15 fun v16 =>
 CF Tryz.prog 31 [v0, v16] fun v17 =>
 S.bin .lss v17 (I 0) fun v19 =>
 S.cond v19 (
 CF Tryz.prog 28 [(I 9)] fun v20 =>
 S.st 4 v6 v20 fun _ =>
 S.ldN 4 v6 fun v6' =>
 K v6') (
 S.nc v0 fun v22 =>
 S.fad v22 2 fun v23 =>
 S.ld v23 fun v24 =>
 S.ixS 3 v24 v17 fun v26 =>
 S.ldN 3 v26 fun v27 =>
 S.box 72 (.agg #[(.int .i64 0), (.string ⟨#[]⟩), (.string ⟨#[]⟩)]) fun v8 =>
 S.st 3 v8 v27 fun _ =>
 CF Tryz.prog 32 [v0, v17] fun v30 =>
 S.fad v8 1 fun v33 =>
 S.ld v33 fun v34 =>
 CF Tryz.prog 66 [v0, v34] fun v35 =>
 S.ext v35 0 fun v36 =>
 S.ext v35 1 fun v37 =>
 S.ext v35 2 fun v38 =>
 S.join 6 (fun K0 =>
 S.bin .eql v37 (I 0) fun v40 =>
 S.gd v40 true (fun k => k v36) fun v42 =>
 S.gd v40 true (S.bin .geq v42 (I 64)) fun v43 =>
 S.pick v40 v43 (B false) fun v44 =>
 S.gd v44 false (fun k => k v37) fun v46 =>
 S.gd v44 false (S.bin .geq v46 (I 32)) fun v47 =>
 S.pick v44 (B true) v47 fun v48 =>
 K0 v0 v2 v6 v8 v38 v48)
 <| fun v0' v2' v6'2 v8' v11 v48' => S.fa fun _ =>
 S.cond v48' (
 CF Tryz.prog 28 [(I 6)] fun v49 =>
 S.st 4 v6'2 v49 fun _ =>
 S.ldN 4 v6'2 fun v6'3 =>
 K v6'3) (
 S.cond v2' (
 CF Tryz.prog 28 [(I 8)] fun v51 =>
 S.st 4 v6'2 v51 fun _ =>
 S.ldN 4 v6'2 fun v6'4 =>
 K v6'4) (
 S.loop 5 (fun K1 => fun v0'2 v6'5 v8'2 v11' v12 => S.fa fun _ =>
 S.join 6 (fun K2 =>
 S.dr <|
 S.nc v0'2 fun v54 =>
 S.fad v54 0 fun v55 =>
 S.ld v55 fun v56 =>
 S.len v56 fun v57 =>
 S.bin .lss v12 v57 fun v58 =>
 S.gd v58 true (fun k => k v0'2) fun v60 =>
 S.gd v58 true (S.nc v60) fun v61 =>
 S.gd v58 true (S.fad v61 0) fun v62 =>
 S.gd v58 true (S.ld v62) fun v63 =>
 S.gd v58 true (fun k => k v12) fun v64 =>
 S.gd v58 true (S.ixS 5 v63 v64) fun v65 =>
 S.gd v58 true (S.fad v65 0) fun v66 =>
 S.gd v58 true (S.ld v66) fun v67 =>
 S.gd v58 true (S.fad v8'2 1) fun v68 =>
 S.gd v58 true (S.ld v68) fun v69 =>
 S.gd v58 true (S.sbin .leq v67 v69) fun v70 =>
 S.pick v58 v70 (B false) fun v71 =>
 K2 v0'2 v6'5 v8'2 v11' v12 v71)
 <| fun v0'3 v6'6 v8'3 v11'2 v12' v71' => S.fa fun _ =>
 S.cond v71' (
 S.bin .add v12' (I 1) fun v73 =>
 K1 v0'3 v6'6 v8'3 v11'2 v73) (
 V Tryz.prog (Instr.buildSlice 66 0 #[]) fun v74 =>
 S.nc v0'3 fun v76 =>
 S.fad v76 0 fun v77 =>
 S.ld v77 fun v78 =>
 S.slc 5 v78 none (some v12') none fun v80 =>
 V Tryz.prog (Builtin.append_ #[66, 66] 66 #[v74, v80]) fun v81 =>
 S.dr <|
 S.fad v8'3 1 fun v83 =>
 S.ld v83 fun v84 =>
 S.bin .add v11'2 (I 1) fun v86 =>
 S.nc v0'3 fun v88 =>
 S.fad v88 4 fun v89 =>
 S.ld v89 fun v90 =>
 S.fad v8'3 2 fun v91 =>
 S.ld v91 fun v92 =>
 V Tryz.prog (Instr.build 102 #[(0, v84), (1, v86), (2, v90), (3, v92)]) fun v93 =>
 V Tryz.prog (Instr.buildSlice 66 1 #[(0, v93)]) fun v94 =>
 V Tryz.prog (Builtin.append_ #[66, 66] 66 #[v81, v94]) fun v95 =>
 S.nc v0'3 fun v99 =>
 S.fad v99 0 fun v100 =>
 S.ld v100 fun v101 =>
 S.slc 5 v101 (some v12') none none fun v103 =>
 V Tryz.prog (Builtin.append_ #[66, 66] 66 #[v95, v103]) fun v104 =>
 S.nc v0'3 fun v105 =>
 S.fad v105 0 fun v106 =>
 S.st 1 v106 v104 fun _ =>
 S.bin .add v11'2 (I 1) fun v108 =>
 V Tryz.prog (Instr.build 33 #[(1, v108)]) fun v109 =>
 S.st 4 v6'6 v109 fun _ =>
 S.ldN 4 v6'6 fun v6'7 =>
 K v6'7))
 [v0', v6'2, v8', v11, (I 0)])))
theorem e30 [Amb] (v0 v1 v2 : Value) (K : Value → WT) : s30 v0 v1 v2 K = shal Tryz.prog Tryz.f30 .p a30 [v0, v1, v2] K := by kernel_rfl
theorem c30 [Amb] {v0 v1 v2 : Value} {K : Value → WT} {w : World} (h : s30 v0 v1 v2 K w) : CF Tryz.prog 30 [v0, v1, v2] K w := shal_sound Tryz.func30 (e30 v0 v1 v2 K ▸ h)

/-- (*aumbry/aumbryref21.Model).session -/
def a31 : Ann := .seq (.z) (.seq (.seq (.z) (.blk (.loop [0, 1, 5] (.seq (.seq (.z) (.cond (.z) (.z))) (.seq (.blk (.seq (.z) (.cond (.seq (.z) (.z)) (.z)))) (.z)))))) (.seq (.z) (.z)))
def s31 [Amb] (m_0 n_1 : Value) (K : Value → WT) : WT :=
 S.loop 3 (fun K0 => fun m_0' n_1' i_5 => S.fa fun _ =>
 S.nc m_0' fun v8 =>
 S.fad v8 2 fun v9 =>
 S.ld v9 fun v10 =>
 S.len v10 fun v11 =>
 S.bin .lss i_5 v11 fun v12 =>
 S.cond v12 (
 S.nc m_0' fun v16 =>
 S.fad v16 2 fun v17 =>
 S.ld v17 fun v18 =>
 S.ixS 3 v18 i_5 fun v20 =>
 S.fad v20 0 fun v21 =>
 S.ld v21 fun v22 =>
 S.bin .eql v22 n_1' fun v24 =>
 S.cond v24 (
 K i_5) (
 S.bin .add i_5 (I 1) fun v14 =>
 K0 m_0' n_1' v14)) (
 K (I (-1))))
 [m_0, n_1, (I 0)]
theorem e31 [Amb] (m_0 n_1 : Value) (K : Value → WT) : s31 m_0 n_1 K = shal Tryz.prog Tryz.f31 .p a31 [m_0, n_1] K := by kernel_rfl
theorem c31 [Amb] {m_0 n_1 : Value} {K : Value → WT} {w : World} (h : s31 m_0 n_1 K w) : CF Tryz.prog 31 [m_0, n_1] K w := shal_sound Tryz.func31 (e31 m_0 n_1 K ▸ h)

/-- (*aumbry/aumbryref21.Model).lost -/
def a32 : Ann := .draw [0, 2, 3, 4, 5, 6, 7, 9, 10, 11, 12, 13, 14, 15, 1, 8, 16, 17, 18, 19]
def s32 [Amb] (m_0 i_1 : Value) (K : Value → WT) : WT :=
 S.dr <|
 S.nc m_0 fun v7 =>
 S.fad v7 2 fun v8 =>
 S.ld v8 fun v9 =>
 S.slc 3 v9 none (some i_1) none fun v11 =>
 S.nc m_0 fun v14 =>
 S.fad v14 2 fun v15 =>
 S.ld v15 fun v16 =>
 S.bin .add i_1 (I 1) fun v18 =>
 S.slc 3 v16 (some v18) none none fun v19 =>
 V Tryz.prog (Instr.buildSlice 68 0 #[]) fun v5 =>
 S.rck [S.ld v15 (fun v' _ => v' = v16), S.ld v8 (fun v' _ => v' = v9)] <|
 V Tryz.prog (Builtin.append_ #[68, 68] 68 #[v5, v11]) fun v12 =>
 S.rck [S.ld v15 (fun v' _ => v' = v16)] <|
 V Tryz.prog (Builtin.append_ #[68, 68] 68 #[v12, v19]) fun v20 =>
 S.nc m_0 fun v21 =>
 S.fad v21 2 fun v22 =>
 S.st 1 v22 v20 fun _ =>
 K (.tuple #[])
theorem e32 [Amb] (m_0 i_1 : Value) (K : Value → WT) : s32 m_0 i_1 K = shal Tryz.prog Tryz.f32 .p a32 [m_0, i_1] K := by kernel_rfl
theorem c32 [Amb] {m_0 i_1 : Value} {K : Value → WT} {w : World} (h : s32 m_0 i_1 K w) : CF Tryz.prog 32 [m_0, i_1] K w := shal_sound Tryz.func32 (e32 m_0 i_1 K ▸ h)

/-- (*aumbry/aumbryref21.Model).told -/
def a33 : Ann := .seq (.z) (.seq (.seq (.z) (.cond (.seq (.z) (.z)) (.z))) (.seq (.z) (.join [0, 3, 4, 5] (.seq (.z) (.cond (.seq (.z) (.seq (.z) (.blk (.loop [0, 3, 4, 5, 6, 7, 8] (.seq (.join [0, 3, 4, 5, 6, 7, 8, 41] (.z) (.cond (.z) (.z))) (.seq (.blk (.seq (.z) (.blk (.loop [0, 3, 4, 5, 6, 7, 8, 9] (.seq (.seq (.z) (.cond (.z) (.z))) (.join [0, 3, 4, 5, 6, 7, 8, 9] (.blk (.join [0, 3, 4, 5, 6, 7, 8, 9, 103] (.draw [0, 1, 2, 3, 4, 5, 6, 7, 8, 9, 10, 11, 12, 13, 14, 15, 16, 17, 18, 19, 20, 21, 22, 23, 24, 25, 26, 27, 28, 29, 30, 31, 32, 33, 34, 35, 36, 37, 38, 39, 40, 41, 42, 43, 44, 45, 46, 47, 48, 49, 50]) (.cond (.z) (.z)))) (.z))))))) (.z))))))) (.z))) (.seq (.seq (.z) (.cond (.seq (.z) (.z)) (.z))) (.seq (.z) (.seq (.seq (.z) (.cond (.seq (.z) (.z)) (.z))) (.seq (.seq (.z) (.cond (.seq (.z) (.z)) (.z))) (.seq (.join [3, 4, 10, 148] (.z) (.cond (.seq (.z) (.z)) (.z))) (.seq (.z) (.join [3, 4, 10, 11] (.seq (.z) (.cond (.z) (.z))) (.seq (.z) (.z))))))))))))
def s33 [Amb] (v0 v1 : Value) (K : Value → WT) : WT :=
 S.box 42 v1 fun v3 =>
 S.box 33 (.agg #[(.int .i64 0), (.int .i64 0), (.slice none 0 0), (.slice none 0 0)]) fun v4 =>
 S.fad v3 0 fun v12 =>
 S.ld v12 fun v13 =>
 S.bin .eql v13 (I 9) fun v14 =>
 S.cond v14 (
 CF Tryz.prog 23 [v0] fun v16 =>
 V Tryz.prog (Instr.build 33 #[(3, v16)]) fun v17 =>
 S.st 4 v4 v17 fun _ =>
 S.ldN 4 v4 fun v4' =>
 K v4') (
 S.join 4 (fun K0 =>
 S.fad v3 0 fun v18 =>
 S.ld v18 fun v19 =>
 S.bin .eql v19 (I 7) fun v20 =>
 S.cond v20 (
 S.fad v3 3 fun v23 =>
 S.ld v23 fun v24 =>
 CF Tryz.prog 67 [v0, v24] fun v25 =>
 S.ext v25 0 fun v26 =>
 S.ext v25 1 fun v27 =>
 S.loop 7 (fun K1 => fun v0' v3' v4'2 v5 v6 v7 v8 => S.fa fun _ =>
 S.join 8 (fun K2 =>
 S.gd v7 true (fun k => k v8) fun v30 =>
 S.gd v7 true (fun k => k v0') fun v31 =>
 S.gd v7 true (S.nc v31) fun v32 =>
 S.gd v7 true (S.fad v32 1) fun v33 =>
 S.gd v7 true (S.ld v33) fun v34 =>
 S.gd v7 true (fun k => k v6) fun v35 =>
 S.gd v7 true (S.ixS 2 v34 v35) fun v36 =>
 S.gd v7 true (S.fad v36 1) fun v37 =>
 S.gd v7 true (S.ld v37) fun v38 =>
 S.gd v7 true (S.len v38) fun v39 =>
 S.gd v7 true (S.bin .lss v30 v39) fun v40 =>
 S.pick v7 v40 (B false) fun v41 =>
 K2 v0' v3' v4'2 v5 v6 v7 v8 v41)
 <| fun v0'2 v3'2 v4'3 v5' v6' v7' v8' v41' => S.fa fun _ =>
 S.cond v41' (
 S.loop 8 (fun K3 => fun v0'3 v3'3 v4'4 v5'2 v6'2 v7'2 v8'2 v9 => S.fa fun _ =>
 S.nc v0'3 fun v46 =>
 S.fad v46 0 fun v47 =>
 S.ld v47 fun v48 =>
 S.len v48 fun v49 =>
 S.bin .lss v9 v49 fun v50 =>
 S.cond v50 (
 S.join 8 (fun K4 =>
 S.join 9 (fun K5 =>
 S.dr <|
 S.nc v0'3 fun v54 =>
 S.fad v54 1 fun v55 =>
 S.ld v55 fun v56 =>
 S.ixS 2 v56 v6'2 fun v58 =>
 S.fad v58 1 fun v59 =>
 S.ld v59 fun v60 =>
 S.ixS 2 v60 v8'2 fun v62 =>
 S.fad v62 0 fun v63 =>
 S.ld v63 fun v64 =>
 S.fad v3'3 2 fun v65 =>
 S.ld v65 fun v66 =>
 S.sbin .eql v64 v66 fun v67 =>
 S.gd v67 true (fun k => k v0'3) fun v69 =>
 S.gd v67 true (S.nc v69) fun v70 =>
 S.gd v67 true (S.fad v70 0) fun v71 =>
 S.gd v67 true (S.ld v71) fun v72 =>
 S.gd v67 true (fun k => k v9) fun v73 =>
 S.gd v67 true (S.ixS 5 v72 v73) fun v74 =>
 S.gd v67 true (S.fad v74 0) fun v75 =>
 S.gd v67 true (S.ld v75) fun v76 =>
 S.gd v67 true (S.fad v3'3 2) fun v77 =>
 S.gd v67 true (S.ld v77) fun v78 =>
 S.gd v67 true (S.sbin .eql v76 v78) fun v79 =>
 S.pick v67 v79 (B false) fun v80 =>
 S.gd v80 true (fun k => k v0'3) fun v82 =>
 S.gd v80 true (S.nc v82) fun v83 =>
 S.gd v80 true (S.fad v83 0) fun v84 =>
 S.gd v80 true (S.ld v84) fun v85 =>
 S.gd v80 true (fun k => k v9) fun v86 =>
 S.gd v80 true (S.ixS 5 v85 v86) fun v87 =>
 S.gd v80 true (S.fad v87 1) fun v88 =>
 S.gd v80 true (S.ld v88) fun v89 =>
 S.gd v80 true (fun k => k v0'3) fun v90 =>
 S.gd v80 true (S.nc v90) fun v91 =>
 S.gd v80 true (S.fad v91 1) fun v92 =>
 S.gd v80 true (S.ld v92) fun v93 =>
 S.gd v80 true (fun k => k v6'2) fun v94 =>
 S.gd v80 true (S.ixS 2 v93 v94) fun v95 =>
 S.gd v80 true (S.fad v95 1) fun v96 =>
 S.gd v80 true (S.ld v96) fun v97 =>
 S.gd v80 true (fun k => k v8'2) fun v98 =>
 S.gd v80 true (S.ixS 2 v97 v98) fun v99 =>
 S.gd v80 true (S.fad v99 1) fun v100 =>
 S.gd v80 true (S.ld v100) fun v101 =>
 S.gd v80 true (S.bin .eql v89 v101) fun v102 =>
 S.pick v80 v102 (B false) fun v103 =>
 K5 v0'3 v3'3 v4'4 v5'2 v6'2 v7'2 v8'2 v9 v103)
 <| fun v0'4 v3'4 v4'5 v5'3 v6'3 v7'3 v8'3 v9' v103' => S.fa fun _ =>
 S.cond v103' (
 K4 v0'4 v3'4 v4'5 v9' v6'3 v7'3 v8'3 v9') (
 K4 v0'4 v3'4 v4'5 v5'3 v6'3 v7'3 v8'3 v9'))
 <| fun v0'5 v3'5 v4'6 v5'4 v6'4 v7'4 v8'4 v9'2 => S.fa fun _ =>
 S.bin .add v9'2 (I 1) fun v52 =>
 K3 v0'5 v3'5 v4'6 v5'4 v6'4 v7'4 v8'4 v52) (
 S.bin .add v8'2 (I 1) fun v43 =>
 K1 v0'3 v3'3 v4'4 v5'2 v6'2 v7'2 v43))
 [v0'2, v3'2, v4'3, v5', v6', v7', v8', (I 0)]) (
 K0 v0'2 v3'2 v4'3 v5'))
 [v0, v3, v4, (I (-1)), v26, v27, (I 0)]) (
 S.fad v3 2 fun v106 =>
 S.ld v106 fun v107 =>
 S.fad v3 4 fun v108 =>
 S.ld v108 fun v109 =>
 CF Tryz.prog 34 [v0, v107, v109] fun v110 =>
 K0 v0 v3 v4 v110))
 <| fun v0'6 v3'6 v4'7 v5'5 => S.fa fun _ =>
 S.bin .lss v5'5 (I 0) fun v112 =>
 S.cond v112 (
 CF Tryz.prog 28 [(I 9)] fun v113 =>
 S.st 4 v4'7 v113 fun _ =>
 S.ldN 4 v4'7 fun v4'8 =>
 K v4'8) (
 S.nc v0'6 fun v115 =>
 S.fad v115 0 fun v116 =>
 S.ld v116 fun v117 =>
 S.ixS 5 v117 v5'5 fun v119 =>
 S.fad v119 3 fun v120 =>
 S.ld v120 fun v121 =>
 S.fad v3'6 0 fun v122 =>
 S.ld v122 fun v123 =>
 S.bin .eql v123 (I 8) fun v124 =>
 S.cond v124 (
 S.lenS v121 fun v126 =>
 V Tryz.prog (Instr.build 33 #[(1, v126)]) fun v127 =>
 S.st 4 v4'7 v127 fun _ =>
 S.ldN 4 v4'7 fun v4'9 =>
 K v4'9) (
 S.fad v3'6 0 fun v128 =>
 S.ld v128 fun v129 =>
 S.bin .neq v129 (I 6) fun v130 =>
 S.cond v130 (
 V Tryz.prog (convert 9 27 v121) fun v132 =>
 V Tryz.prog (Instr.build 33 #[(2, v132)]) fun v133 =>
 S.st 4 v4'7 v133 fun _ =>
 S.ldN 4 v4'7 fun v4'10 =>
 K v4'10) (
 S.join 4 (fun K6 =>
 S.fad v3'6 5 fun v134 =>
 S.ld v134 fun v135 =>
 S.bin .lss v135 (I 0) fun v136 =>
 S.gd v136 false (S.fad v3'6 5) fun v138 =>
 S.gd v136 false (S.ld v138) fun v139 =>
 S.gd v136 false (fun k => k v121) fun v140 =>
 S.gd v136 false (S.lenS v140) fun v141 =>
 S.gd v136 false (S.bin .gtr v139 v141) fun v142 =>
 S.pick v136 (B true) v142 fun v143 =>
 S.gd v143 false (S.fad v3'6 6) fun v145 =>
 S.gd v143 false (S.ld v145) fun v146 =>
 S.gd v143 false (S.bin .lss v146 (I 0)) fun v147 =>
 S.pick v143 (B true) v147 fun v148 =>
 K6 v3'6 v4'7 v121 v148)
 <| fun v3'7 v4'11 v10 v148' => S.fa fun _ =>
 S.cond v148' (
 CF Tryz.prog 28 [(I 2)] fun v149 =>
 S.st 4 v4'11 v149 fun _ =>
 S.ldN 4 v4'11 fun v4'12 =>
 K v4'12) (
 S.lenS v10 fun v151 =>
 S.join 4 (fun K7 =>
 S.fad v3'7 6 fun v152 =>
 S.ld v152 fun v153 =>
 S.fad v3'7 5 fun v155 =>
 S.ld v155 fun v156 =>
 S.bin .sub v151 v156 fun v157 =>
 S.bin .lss v153 v157 fun v158 =>
 S.cond v158 (
 S.fad v3'7 5 fun v159 =>
 S.ld v159 fun v160 =>
 S.fad v3'7 6 fun v161 =>
 S.ld v161 fun v162 =>
 S.bin .add v160 v162 fun v163 =>
 K7 v3'7 v4'11 v10 v163) (
 K7 v3'7 v4'11 v10 v151))
 <| fun v3'8 v4'13 v10' v11 => S.fa fun _ =>
 S.fad v3'8 5 fun v165 =>
 S.ld v165 fun v166 =>
 S.slcS v10' (some v166) (some v11) fun v168 =>
 V Tryz.prog (convert 9 27 v168) fun v169 =>
 V Tryz.prog (Instr.build 33 #[(2, v169)]) fun v170 =>
 S.st 4 v4'13 v170 fun _ =>
 S.ldN 4 v4'13 fun v4'14 =>
 K v4'14)))))
theorem e33 [Amb] (v0 v1 : Value) (K : Value → WT) : s33 v0 v1 K = shal Tryz.prog Tryz.f33 .p a33 [v0, v1] K := by kernel_rfl
theorem c33 [Amb] {v0 v1 : Value} {K : Value → WT} {w : World} (h : s33 v0 v1 K w) : CF Tryz.prog 33 [v0, v1] K w := shal_sound Tryz.func33 (e33 v0 v1 K ▸ h)

/-- (*aumbry/aumbryref21.Model).find -/
def a34 : Ann := .seq (.z) (.seq (.z) (.seq (.seq (.z) (.blk (.loop [0, 1, 2, 7, 8] (.seq (.seq (.z) (.cond (.z) (.z))) (.join [0, 1, 2, 7, 8] (.blk (.join [0, 1, 2, 7, 8, 54] (.z) (.cond (.z) (.z)))) (.z)))))) (.seq (.z) (.z))))
def s34 [Amb] (m_0 name_1 gen_2 : Value) (K : Value → WT) : WT :=
 S.loop 5 (fun K0 => fun m_0' name_1' gen_2' out_7 i_8 => S.fa fun _ =>
 S.nc m_0' fun v11 =>
 S.fad v11 0 fun v12 =>
 S.ld v12 fun v13 =>
 S.len v13 fun v14 =>
 S.bin .lss i_8 v14 fun v15 =>
 S.cond v15 (
 S.join 5 (fun K1 =>
 S.join 6 (fun K2 =>
 S.nc m_0' fun v19 =>
 S.fad v19 0 fun v20 =>
 S.ld v20 fun v21 =>
 S.ixS 5 v21 i_8 fun v23 =>
 S.fad v23 0 fun v24 =>
 S.ld v24 fun v25 =>
 S.sbin .eql v25 name_1' fun v27 =>
 S.gd v27 true (fun k => k m_0') fun v29 =>
 S.gd v27 true (S.nc v29) fun v30 =>
 S.gd v27 true (S.fad v30 0) fun v31 =>
 S.gd v27 true (S.ld v31) fun v32 =>
 S.gd v27 true (fun k => k i_8) fun v33 =>
 S.gd v27 true (S.ixS 5 v32 v33) fun v34 =>
 S.gd v27 true (S.fad v34 4) fun v35 =>
 S.gd v27 true (S.ld v35) fun v36 =>
 S.gd v27 true (S.not1 v36) fun v37 =>
 S.pick v27 v37 (B false) fun v38 =>
 S.gd v38 true (fun k => k gen_2') fun v40 =>
 S.gd v38 true (S.bin .eql v40 (I 0)) fun v41 =>
 S.gd v38 true (fun k => k v41) fun v42 =>
 S.gd v42 false (fun k => k m_0') fun v43 =>
 S.gd v42 false (S.nc v43) fun v44 =>
 S.gd v42 false (S.fad v44 0) fun v45 =>
 S.gd v42 false (S.ld v45) fun v46 =>
 S.gd v42 false (fun k => k i_8) fun v47 =>
 S.gd v42 false (S.ixS 5 v46 v47) fun v48 =>
 S.gd v42 false (S.fad v48 1) fun v49 =>
 S.gd v42 false (S.ld v49) fun v50 =>
 S.gd v42 false (fun k => k gen_2') fun v51 =>
 S.gd v42 false (S.bin .eql v50 v51) fun v52 =>
 S.gd v38 true (S.pick v42 (B true) v52) fun v53 =>
 S.pick v38 v53 (B false) fun v54 =>
 K2 m_0' name_1' gen_2' out_7 i_8 v54)
 <| fun m_0'2 name_1'2 gen_2'2 out_7' i_8' v54' => S.fa fun _ =>
 S.cond v54' (
 K1 m_0'2 name_1'2 gen_2'2 i_8' i_8') (
 K1 m_0'2 name_1'2 gen_2'2 out_7' i_8'))
 <| fun m_0'3 name_1'3 gen_2'3 out_7'2 i_8'2 => S.fa fun _ =>
 S.bin .add i_8'2 (I 1) fun v17 =>
 K0 m_0'3 name_1'3 gen_2'3 out_7'2 v17) (
 K out_7))
 [m_0, name_1, gen_2, (I (-1)), (I 0)]
theorem e34 [Amb] (m_0 name_1 gen_2 : Value) (K : Value → WT) : s34 m_0 name_1 gen_2 K = shal Tryz.prog Tryz.f34 .p a34 [m_0, name_1, gen_2] K := by kernel_rfl
theorem c34 [Amb] {m_0 name_1 gen_2 : Value} {K : Value → WT} {w : World} (h : s34 m_0 name_1 gen_2 K w) : CF Tryz.prog 34 [m_0, name_1, gen_2] K w := shal_sound Tryz.func34 (e34 m_0 name_1 gen_2 K ▸ h)

/-- (*aumbry/aumbryref21.Model).gone -/
def a35 : Ann := .seq (.z) (.seq (.z) (.z))
def s35 [Amb] (m_0 i_1 : Value) (K : Value → WT) : WT :=
 V Tryz.prog (Instr.buildSlice 66 0 #[]) fun v5 =>
 S.nc m_0 fun v7 =>
 S.fad v7 0 fun v8 =>
 S.ld v8 fun v9 =>
 V Tryz.prog (Builtin.append_ #[66, 66] 66 #[v5, v9]) fun v10 =>
 S.ixS 5 v10 i_1 fun v13 =>
 S.fad v13 4 fun v14 =>
 S.st 1 v14 (B true) fun _ =>
 S.nc m_0 fun v17 =>
 S.fad v17 0 fun v18 =>
 S.st 1 v18 v10 fun _ =>
 K (.tuple #[])
theorem e35 [Amb] (m_0 i_1 : Value) (K : Value → WT) : s35 m_0 i_1 K = shal Tryz.prog Tryz.f35 .p a35 [m_0, i_1] K := by kernel_rfl
theorem c35 [Amb] {m_0 i_1 : Value} {K : Value → WT} {w : World} (h : s35 m_0 i_1 K w) : CF Tryz.prog 35 [m_0, i_1] K w := shal_sound Tryz.func35 (e35 m_0 i_1 K ▸ h)

/-- (*aumbry/aumbryref21.Model).sweep -/
def a36 : Ann := .seq (.z) (.seq (.seq (.z) (.blk (.loop [0, 2, 3] (.seq (.seq (.z) (.cond (.z) (.z))) (.join [0, 2, 3] (.blk (.seq (.z) (.seq (.seq (.z) (.blk (.loop [0, 2, 3, 4, 5] (.seq (.seq (.z) (.cond (.z) (.z))) (.seq (.blk (.seq (.z) (.blk (.loop [0, 2, 3, 4, 5, 6] (.seq (.seq (.z) (.cond (.z) (.z))) (.seq (.blk (.draw [0, 1, 2, 3, 4, 5, 6, 7, 8, 9, 10, 11, 12, 13, 14, 15, 16, 17, 18, 19, 20, 21, 22, 23, 24, 25, 26, 27, 28, 29, 30, 31, 32])) (.z))))))) (.z)))))) (.join [0, 2, 3, 82] (.z) (.cond (.z) (.z)))))) (.z)))))) (.z))
def s36 [Amb] (v0 : Value) (K : Value → WT) : WT :=
 V Tryz.prog (Instr.buildSlice 66 0 #[]) fun v7 =>
 S.loop 3 (fun K0 => fun v0' v2 v3 => S.fa fun _ =>
 S.nc v0' fun v10 =>
 S.fad v10 0 fun v11 =>
 S.ld v11 fun v12 =>
 S.len v12 fun v13 =>
 S.bin .lss v3 v13 fun v14 =>
 S.cond v14 (
 S.join 3 (fun K1 =>
 S.loop 5 (fun K2 => fun v0'2 v2' v3' v4 v5 => S.fa fun _ =>
 S.nc v0'2 fun v19 =>
 S.fad v19 1 fun v20 =>
 S.ld v20 fun v21 =>
 S.len v21 fun v22 =>
 S.bin .lss v5 v22 fun v23 =>
 S.cond v23 (
 S.loop 6 (fun K3 => fun v0'3 v2'2 v3'2 v4' v5' v6 => S.fa fun _ =>
 S.nc v0'3 fun v28 =>
 S.fad v28 1 fun v29 =>
 S.ld v29 fun v30 =>
 S.ixS 2 v30 v5' fun v32 =>
 S.fad v32 1 fun v33 =>
 S.ld v33 fun v34 =>
 S.len v34 fun v35 =>
 S.bin .lss v6 v35 fun v36 =>
 S.cond v36 (
 S.dr <|
 S.gd v4' false (fun k => k v0'3) fun v41 =>
 S.gd v4' false (S.nc v41) fun v42 =>
 S.gd v4' false (S.fad v42 1) fun v43 =>
 S.gd v4' false (S.ld v43) fun v44 =>
 S.gd v4' false (fun k => k v5') fun v45 =>
 S.gd v4' false (S.ixS 2 v44 v45) fun v46 =>
 S.gd v4' false (S.fad v46 1) fun v47 =>
 S.gd v4' false (S.ld v47) fun v48 =>
 S.gd v4' false (fun k => k v6) fun v49 =>
 S.gd v4' false (S.ixS 2 v48 v49) fun v50 =>
 S.gd v4' false (S.ldN 2 v50) fun v51 =>
 S.gd v4' false (fun k => k v0'3) fun v52 =>
 S.gd v4' false (S.nc v52) fun v53 =>
 S.gd v4' false (S.fad v53 0) fun v54 =>
 S.gd v4' false (S.ld v54) fun v55 =>
 S.gd v4' false (fun k => k v3'2) fun v56 =>
 S.gd v4' false (S.ixS 5 v55 v56) fun v57 =>
 S.gd v4' false (S.fad v57 0) fun v58 =>
 S.gd v4' false (S.ld v58) fun v59 =>
 S.gd v4' false (fun k => k v0'3) fun v60 =>
 S.gd v4' false (S.nc v60) fun v61 =>
 S.gd v4' false (S.fad v61 0) fun v62 =>
 S.gd v4' false (S.ld v62) fun v63 =>
 S.gd v4' false (fun k => k v3'2) fun v64 =>
 S.gd v4' false (S.ixS 5 v63 v64) fun v65 =>
 S.gd v4' false (S.fad v65 1) fun v66 =>
 S.gd v4' false (S.ld v66) fun v67 =>
 S.gd v4' false (V Tryz.prog (Instr.build 106 #[(0, v59), (1, v67)])) fun v68 =>
 S.rck [S.gd v4' false (S.ldN 2 v50) (fun v' _ => v' = v51), S.gd v4' false (S.ld v47) (fun v' _ => v' = v48), S.gd v4' false (S.ld v43) (fun v' _ => v' = v44)] <|
 S.gd v4' false (S.eqv Tryz.prog .eql 106 false v51 v68) fun v69 =>
 S.pick v4' (B true) v69 fun v70 =>
 S.bin .add v6 (I 1) fun v38 =>
 K3 v0'3 v2'2 v3'2 v70 v5' v38) (
 S.bin .add v5' (I 1) fun v25 =>
 K2 v0'3 v2'2 v3'2 v4' v25))
 [v0'2, v2', v3', v4, v5, (I 0)]) (
 S.join 4 (fun K4 =>
 S.gd v4 false (fun k => k v0'2) fun v73 =>
 S.gd v4 false (S.nc v73) fun v74 =>
 S.gd v4 false (S.fad v74 0) fun v75 =>
 S.gd v4 false (S.ld v75) fun v76 =>
 S.gd v4 false (fun k => k v3') fun v77 =>
 S.gd v4 false (S.ixS 5 v76 v77) fun v78 =>
 S.gd v4 false (S.fad v78 4) fun v79 =>
 S.gd v4 false (S.ld v79) fun v80 =>
 S.gd v4 false (S.not1 v80) fun v81 =>
 S.pick v4 (B true) v81 fun v82 =>
 K4 v0'2 v2' v3' v82)
 <| fun v0'4 v2'3 v3'3 v82' => S.fa fun _ =>
 S.cond v82' (
 S.nc v0'4 fun v85 =>
 S.fad v85 0 fun v86 =>
 S.ld v86 fun v87 =>
 S.ixS 5 v87 v3'3 fun v89 =>
 S.ldN 5 v89 fun v90 =>
 V Tryz.prog (Instr.buildSlice 66 1 #[(0, v90)]) fun v91 =>
 V Tryz.prog (Builtin.append_ #[66, 66] 66 #[v2'3, v91]) fun v92 =>
 K1 v0'4 v92 v3'3) (
 K1 v0'4 v2'3 v3'3)))
 [v0', v2, v3, (B false), (I 0)])
 <| fun v0'5 v2'4 v3'4 => S.fa fun _ =>
 S.bin .add v3'4 (I 1) fun v16 =>
 K0 v0'5 v2'4 v16) (
 S.nc v0' fun v95 =>
 S.fad v95 0 fun v96 =>
 S.st 1 v96 v2 fun _ =>
 K (.tuple #[])))
 [v0, v7, (I 0)]
theorem e36 [Amb] (v0 : Value) (K : Value → WT) : s36 v0 K = shal Tryz.prog Tryz.f36 .p a36 [v0] K := by kernel_rfl
theorem c36 [Amb] {v0 : Value} {K : Value → WT} {w : World} (h : s36 v0 K w) : CF Tryz.prog 36 [v0] K w := shal_sound Tryz.func36 (e36 v0 K ▸ h)

/-- (*aumbry/aumbryref21.Model).shots -/
def a37 : Ann := .seq (.z) (.seq (.seq (.z) (.cond (.seq (.z) (.z)) (.z))) (.seq (.z) (.seq (.seq (.z) (.cond (.seq (.seq (.z) (.cond (.seq (.z) (.z)) (.z))) (.seq (.draw [0, 2, 3, 4, 5, 6, 7, 9, 10, 11, 12, 13, 14, 15, 1, 8, 16, 17, 18, 19]) (.seq (.z) (.seq (.z) (.z))))) (.z))) (.seq (.seq (.z) (.cond (.seq (.z) (.z)) (.z))) (.seq (.seq (.z) (.cond (.seq (.z) (.z)) (.z))) (.seq (.seq (.z) (.cond (.seq (.z) (.z)) (.z))) (.seq (.z) (.seq (.draw [0, 1, 2, 3, 4, 5, 6, 7, 8]) (.seq (.z) (.seq (.z) (.z)))))))))))
def s37 [Amb] (v0 v1 v2 : Value) (K : Value → WT) : WT :=
 S.box 42 v1 fun v4 =>
 S.box 33 (.agg #[(.int .i64 0), (.int .i64 0), (.slice none 0 0), (.slice none 0 0)]) fun v6 =>
 S.fad v4 3 fun v10 =>
 S.ld v10 fun v11 =>
 CF Tryz.prog 27 [v11] fun v12 =>
 S.not1 v12 fun v13 =>
 S.cond v13 (
 CF Tryz.prog 28 [(I 2)] fun v14 =>
 S.st 4 v6 v14 fun _ =>
 S.ldN 4 v6 fun v6' =>
 K v6') (
 S.fad v4 3 fun v17 =>
 S.ld v17 fun v18 =>
 CF Tryz.prog 67 [v0, v18] fun v19 =>
 S.ext v19 0 fun v20 =>
 S.ext v19 1 fun v21 =>
 S.fad v4 0 fun v22 =>
 S.ld v22 fun v23 =>
 S.bin .eql v23 (I 12) fun v24 =>
 S.cond v24 (
 S.not1 v21 fun v26 =>
 S.cond v26 (
 CF Tryz.prog 28 [(I 9)] fun v27 =>
 S.st 4 v6 v27 fun _ =>
 S.ldN 4 v6 fun v6'2 =>
 K v6'2) (
 S.dr <|
 S.nc v0 fun v31 =>
 S.fad v31 1 fun v32 =>
 S.ld v32 fun v33 =>
 S.slc 2 v33 none (some v20) none fun v35 =>
 S.nc v0 fun v38 =>
 S.fad v38 1 fun v39 =>
 S.ld v39 fun v40 =>
 S.bin .add v20 (I 1) fun v42 =>
 S.slc 2 v40 (some v42) none none fun v43 =>
 V Tryz.prog (Instr.buildSlice 67 0 #[]) fun v29 =>
 S.rck [S.ld v39 (fun v' _ => v' = v40), S.ld v32 (fun v' _ => v' = v33)] <|
 V Tryz.prog (Builtin.append_ #[67, 67] 67 #[v29, v35]) fun v36 =>
 S.rck [S.ld v39 (fun v' _ => v' = v40)] <|
 V Tryz.prog (Builtin.append_ #[67, 67] 67 #[v36, v43]) fun v44 =>
 S.nc v0 fun v45 =>
 S.fad v45 1 fun v46 =>
 S.st 1 v46 v44 fun _ =>
 CF Tryz.prog 36 [v0] fun v48 =>
 V Tryz.prog (Instr.build 33 #[]) fun v49 =>
 S.st 4 v6 v49 fun _ =>
 S.ldN 4 v6 fun v6'3 =>
 K v6'3)) (
 S.cond v21 (
 CF Tryz.prog 28 [(I 10)] fun v51 =>
 S.st 4 v6 v51 fun _ =>
 S.ldN 4 v6 fun v6'4 =>
 K v6'4) (
 S.nc v0 fun v53 =>
 S.fad v53 1 fun v54 =>
 S.ld v54 fun v55 =>
 S.len v55 fun v56 =>
 S.bin .geq v56 (I 16) fun v57 =>
 S.cond v57 (
 CF Tryz.prog 28 [(I 6)] fun v58 =>
 S.st 4 v6 v58 fun _ =>
 S.ldN 4 v6 fun v6'5 =>
 K v6'5) (
 S.cond v2 (
 CF Tryz.prog 28 [(I 8)] fun v60 =>
 S.st 4 v6 v60 fun _ =>
 S.ldN 4 v6 fun v6'6 =>
 K v6'6) (
 V Tryz.prog (Instr.buildSlice 67 0 #[]) fun v61 =>
 S.nc v0 fun v63 =>
 S.fad v63 1 fun v64 =>
 S.ld v64 fun v65 =>
 S.slc 2 v65 none (some v20) none fun v67 =>
 V Tryz.prog (Builtin.append_ #[67, 67] 67 #[v61, v67]) fun v68 =>
 S.dr <|
 S.fad v4 3 fun v70 =>
 S.ld v70 fun v71 =>
 CF Tryz.prog 23 [v0] fun v73 =>
 S.rck [S.ld v70 (fun v' _ => v' = v71)] <|
 V Tryz.prog (Instr.build 104 #[(0, v71), (1, v73)]) fun v74 =>
 V Tryz.prog (Instr.buildSlice 67 1 #[(0, v74)]) fun v75 =>
 V Tryz.prog (Builtin.append_ #[67, 67] 67 #[v68, v75]) fun v76 =>
 S.nc v0 fun v80 =>
 S.fad v80 1 fun v81 =>
 S.ld v81 fun v82 =>
 S.slc 2 v82 (some v20) none none fun v84 =>
 V Tryz.prog (Builtin.append_ #[67, 67] 67 #[v76, v84]) fun v85 =>
 S.nc v0 fun v86 =>
 S.fad v86 1 fun v87 =>
 S.st 1 v87 v85 fun _ =>
 V Tryz.prog (Instr.build 33 #[]) fun v88 =>
 S.st 4 v6 v88 fun _ =>
 S.ldN 4 v6 fun v6'7 =>
 K v6'7)))))
theorem e37 [Amb] (v0 v1 v2 : Value) (K : Value → WT) : s37 v0 v1 v2 K = shal Tryz.prog Tryz.f37 .p a37 [v0, v1, v2] K := by kernel_rfl
theorem c37 [Amb] {v0 v1 v2 : Value} {K : Value → WT} {w : World} (h : s37 v0 v1 v2 K w) : CF Tryz.prog 37 [v0, v1, v2] K w := shal_sound Tryz.func37 (e37 v0 v1 v2 K ▸ h)

/-- (*aumbry/aumbryref21.Model).expire -/
def a38 : Ann := .seq (.z) (.seq (.z) (.seq (.seq (.z) (.blk (.loop [0, 3, 4, 5, 6] (.seq (.seq (.z) (.cond (.z) (.z))) (.seq (.blk (.join [0, 3, 4, 5, 6, 35] (.z) (.cond (.seq (.z) (.z)) (.z)))) (.z)))))) (.seq (.seq (.z) (.cond (.seq (.z) (.z)) (.z))) (.seq (.z) (.seq (.z) (.seq (.seq (.z) (.blk (.loop [0, 3, 4, 7, 8, 9] (.seq (.seq (.z) (.cond (.z) (.z))) (.seq (.blk (.seq (.z) (.join [0, 3, 4, 7, 8, 9, 10] (.join [0, 3, 4, 7, 8, 9, 10, 67] (.z) (.cond (.seq (.z) (.z)) (.z))) (.z)))) (.z)))))) (.seq (.z) (.seq (.z) (.seq (.z) (.z))))))))))
def s38 [Amb] (v0 v1 : Value) (K : Value → WT) : WT :=
 S.box 37 v1 fun v3 =>
 S.box 33 (.agg #[(.int .i64 0), (.int .i64 0), (.slice none 0 0), (.slice none 0 0)]) fun v4 =>
 S.fad v3 0 fun v11 =>
 S.ld v11 fun v12 =>
 S.fad v3 1 fun v13 =>
 S.ld v13 fun v14 =>
 S.fad v3 2 fun v15 =>
 S.ld v15 fun v16 =>
 S.fad v3 3 fun v17 =>
 S.ld v17 fun v18 =>
 V Tryz.prog (Instr.buildSlice 48 4 #[(0, v12), (1, v14), (2, v16), (3, v18)]) fun v19 =>
 S.loop 5 (fun K0 => fun v0' v3' v4' v5 v6 => S.fa fun _ =>
 S.bin .lss v6 (I 4) fun v21 =>
 S.cond v21 (
 S.join 6 (fun K1 =>
 S.ixS 1 v5 v6 fun v26 =>
 S.ld v26 fun v27 =>
 S.bin .lss v27 (I 0) fun v28 =>
 S.gd v28 false (fun k => k v5) fun v30 =>
 S.gd v28 false (fun k => k v6) fun v31 =>
 S.gd v28 false (S.ixS 1 v30 v31) fun v32 =>
 S.gd v28 false (S.ld v32) fun v33 =>
 S.gd v28 false (S.bin .gtr v33 (I 9007199254740991)) fun v34 =>
 S.pick v28 (B true) v34 fun v35 =>
 K1 v0' v3' v4' v5 v6 v35)
 <| fun v0'2 v3'2 v4'2 v5' v6' v35' => S.fa fun _ =>
 S.cond v35' (
 CF Tryz.prog 28 [(I 2)] fun v36 =>
 S.st 4 v4'2 v36 fun _ =>
 S.ldN 4 v4'2 fun v4'3 =>
 K v4'3) (
 S.bin .add v6' (I 1) fun v23 =>
 K0 v0'2 v3'2 v4'2 v5' v23)) (
 S.fad v3' 2 fun v37 =>
 S.ld v37 fun v38 =>
 S.bin .lss v38 (I 1) fun v39 =>
 S.cond v39 (
 CF Tryz.prog 28 [(I 2)] fun v40 =>
 S.st 4 v4' v40 fun _ =>
 S.ldN 4 v4' fun v4'4 =>
 K v4'4) (
 V Tryz.prog (Instr.buildSlice 66 0 #[]) fun v41 =>
 S.loop 6 (fun K2 => fun v0'3 v3'3 v4'5 v7 v8 v9 => S.fa fun _ =>
 S.nc v0'3 fun v44 =>
 S.fad v44 0 fun v45 =>
 S.ld v45 fun v46 =>
 S.len v46 fun v47 =>
 S.bin .lss v9 v47 fun v48 =>
 S.cond v48 (
 S.nc v0'3 fun v52 =>
 S.fad v52 0 fun v53 =>
 S.ld v53 fun v54 =>
 S.ixS 5 v54 v9 fun v56 =>
 S.ldN 5 v56 fun v57 =>
 S.box 102 (.agg #[(.string ⟨#[]⟩), (.int .i64 0), (.int .i64 0), (.string ⟨#[]⟩), (.bool false)]) fun v10 =>
 S.st 5 v10 v57 fun _ =>
 S.join 7 (fun K3 =>
 S.join 8 (fun K4 =>
 S.fad v10 4 fun v58 =>
 S.ld v58 fun v59 =>
 S.not1 v59 fun v60 =>
 S.gd v60 true (fun k => k v0'3) fun v62 =>
 S.gd v60 true (S.ldN 5 v10) fun v63 =>
 S.gd v60 true (S.ldN 4 v3'3) fun v64 =>
 S.gd v60 true (CF Tryz.prog 68 [v62, v63, v64]) fun v65 =>
 S.gd v60 true (S.not1 v65) fun v66 =>
 S.pick v60 v66 (B false) fun v67 =>
 K4 v0'3 v3'3 v4'5 v7 v8 v9 v10 v67)
 <| fun v0'4 v3'4 v4'6 v7' v8' v9' v10' v67' => S.fa fun _ =>
 S.cond v67' (
 S.fad v10' 4 fun v68 =>
 S.st 1 v68 (B true) fun _ =>
 S.bin .add v8' (I 1) fun v70 =>
 K3 v0'4 v3'4 v4'6 v7' v70 v9' v10') (
 K3 v0'4 v3'4 v4'6 v7' v8' v9' v10'))
 <| fun v0'5 v3'5 v4'7 v7'2 v8'2 v9'2 v10'2 => S.fa fun _ =>
 S.ldN 5 v10'2 fun v72 =>
 V Tryz.prog (Instr.buildSlice 66 1 #[(0, v72)]) fun v73 =>
 V Tryz.prog (Builtin.append_ #[66, 66] 66 #[v7'2, v73]) fun v74 =>
 S.bin .add v9'2 (I 1) fun v50 =>
 K2 v0'5 v3'5 v4'7 v74 v8'2 v50) (
 S.nc v0'3 fun v77 =>
 S.fad v77 0 fun v78 =>
 S.st 1 v78 v7 fun _ =>
 CF Tryz.prog 36 [v0'3] fun v80 =>
 V Tryz.prog (Instr.build 33 #[(1, v8)]) fun v82 =>
 S.st 4 v4'5 v82 fun _ =>
 S.ldN 4 v4'5 fun v4'8 =>
 K v4'8))
 [v0', v3', v4', v41, (I 0), (I 0)])))
 [v0, v3, v4, v19, (I 0)]
theorem e38 [Amb] (v0 v1 : Value) (K : Value → WT) : s38 v0 v1 K = shal Tryz.prog Tryz.f38 .p a38 [v0, v1] K := by kernel_rfl
theorem c38 [Amb] {v0 v1 : Value} {K : Value → WT} {w : World} (h : s38 v0 v1 K w) : CF Tryz.prog 38 [v0, v1] K w := shal_sound Tryz.func38 (e38 v0 v1 K ▸ h)

/-- aumbry/model.wrong -/
def a39 : Ann := .seq (.z) (.seq (.z) (.z))
def s39 [Amb] (e_0 : Value) (K : Value → WT) : WT :=
 S.box 33 (.agg #[(.int .i64 0), (.int .i64 0), (.slice none 0 0), (.slice none 0 0)]) fun v2 =>
 V Tryz.prog (Instr.build 33 #[(0, e_0)]) fun v4 =>
 S.st 4 v2 v4 fun _ =>
 S.ldN 4 v2 fun v2' =>
 K v2'
theorem e39 [Amb] (e_0 : Value) (K : Value → WT) : s39 e_0 K = shal Tryz.prog Tryz.f39 .p a39 [e_0] K := by kernel_rfl
theorem c39 [Amb] {e_0 : Value} {K : Value → WT} {w : World} (h : s39 e_0 K w) : CF Tryz.prog 39 [e_0] K w := shal_sound Tryz.func39 (e39 e_0 K ▸ h)

/-- (*aumbry/model.Model).begin -/
def a40 : Ann := .seq (.z) (.seq (.blk (.seq (.z) (.cond (.seq (.z) (.z)) (.seq (.z) (.cond (.seq (.z) (.z)) (.z)))))) (.seq (.z) (.seq (.draw [0, 1, 2, 3, 4, 5, 6, 7, 8, 9, 10, 11]) (.seq (.z) (.z)))))
def s40 [Amb] (m_0 o_1 : Value) (K : Value → WT) : WT :=
 S.box 42 o_1 fun o_3 =>
 S.box 33 (.agg #[(.int .i64 0), (.int .i64 0), (.slice none 0 0), (.slice none 0 0)]) fun v4 =>
 S.fad o_3 2 fun v6 =>
 S.ld v6 fun v7 =>
 CF Tryz.prog 69 [v7] fun v8 =>
 S.not1 v8 fun v9 =>
 S.cond v9 (
 CF Tryz.prog 39 [(I 2)] fun v10 =>
 S.st 4 v4 v10 fun _ =>
 S.ldN 4 v4 fun v4' =>
 K v4') (
 S.nc m_0 fun v13 =>
 S.fad v13 2 fun v14 =>
 S.ld v14 fun v15 =>
 S.lenM v15 fun v16 =>
 S.bin .eql v16 (I 4) fun v17 =>
 S.cond v17 (
 CF Tryz.prog 39 [(I 6)] fun v18 =>
 S.st 4 v4 v18 fun _ =>
 S.ldN 4 v4 fun v4'2 =>
 K v4'2) (
 S.nc m_0 fun v20 =>
 S.fad v20 3 fun v21 =>
 S.ld v21 fun v22 =>
 S.bin .add v22 (I 1) fun v23 =>
 S.nc m_0 fun v24 =>
 S.fad v24 3 fun v25 =>
 S.st 1 v25 v23 fun _ =>
 S.dr <|
 S.nc m_0 fun v27 =>
 S.fad v27 2 fun v28 =>
 S.ld v28 fun v29 =>
 S.nc m_0 fun v31 =>
 S.fad v31 3 fun v32 =>
 S.ld v32 fun v33 =>
 S.fad o_3 2 fun v34 =>
 S.ld v34 fun v35 =>
 V Tryz.prog (Instr.build 88 #[(0, v35)]) fun v36 =>
 S.rck [S.ld v32 (fun v' _ => v' = v33), S.ld v28 (fun v' _ => v' = v29)] <|
 U Tryz.prog (Instr.mapUpdate 80 v29 v33 v36) fun _ =>
 S.nc m_0 fun v38 =>
 S.fad v38 3 fun v39 =>
 S.ld v39 fun v40 =>
 V Tryz.prog (Instr.build 33 #[(1, v40)]) fun v41 =>
 S.st 4 v4 v41 fun _ =>
 S.ldN 4 v4 fun v4'3 =>
 K v4'3))
theorem e40 [Amb] (m_0 o_1 : Value) (K : Value → WT) : s40 m_0 o_1 K = shal Tryz.prog Tryz.f40 .p a40 [m_0, o_1] K := by kernel_rfl
theorem c40 [Amb] {m_0 o_1 : Value} {K : Value → WT} {w : World} (h : s40 m_0 o_1 K w) : CF Tryz.prog 40 [m_0, o_1] K w := shal_sound Tryz.func40 (e40 m_0 o_1 K ▸ h)

/-- (*aumbry/model.Model).write -/
def a41 : Ann := .seq (.z) (.seq (.draw [0, 1, 2, 3, 4, 5, 6, 7, 8, 9, 10, 11, 12]) (.seq (.blk (.seq (.z) (.cond (.seq (.z) (.z)) (.seq (.z) (.cond (.seq (.z) (.z)) (.join [0, 2, 4, 6, 7, 36] (.draw [0, 1, 2, 3, 4, 5, 6, 7, 8, 9, 10, 11, 12, 13, 14, 15, 16, 17, 18]) (.cond (.seq (.z) (.z)) (.seq (.z) (.cond (.seq (.z) (.z)) (.z)))))))))) (.seq (.z) (.seq (.draw [0, 1, 2, 3, 4, 5, 6, 7]) (.seq (.z) (.z))))))
def s41 [Amb] (v0 v1 v2 : Value) (K : Value → WT) : WT :=
 S.box 42 v1 fun v4 =>
 S.box 33 (.agg #[(.int .i64 0), (.int .i64 0), (.slice none 0 0), (.slice none 0 0)]) fun v6 =>
 S.dr <|
 S.nc v0 fun v11 =>
 S.fad v11 2 fun v12 =>
 S.ld v12 fun v13 =>
 S.fad v4 1 fun v14 =>
 S.ld v14 fun v15 =>
 S.lk (.int .i64) (.agg #[(.string ⟨#[]⟩), (.string ⟨#[]⟩)]) true v13 v15 fun v16 =>
 S.ext v16 0 fun v17 =>
 S.ext v16 1 fun v18 =>
 S.box 88 (.agg #[(.string ⟨#[]⟩), (.string ⟨#[]⟩)]) fun v7 =>
 S.rck [S.lk (.int .i64) (.agg #[(.string ⟨#[]⟩), (.string ⟨#[]⟩)]) true v13 v15 (fun v' _ => v' = v16), S.ld v14 (fun v' _ => v' = v15), S.ld v12 (fun v' _ => v' = v13)] <|
 S.st 2 v7 v17 fun _ =>
 S.not1 v18 fun v21 =>
 S.cond v21 (
 CF Tryz.prog 39 [(I 9)] fun v22 =>
 S.st 4 v6 v22 fun _ =>
 S.ldN 4 v6 fun v6' =>
 K v6') (
 S.fad v4 7 fun v24 =>
 S.ld v24 fun v25 =>
 S.len v25 fun v26 =>
 S.fad v7 1 fun v27 =>
 S.ld v27 fun v28 =>
 S.lenS v28 fun v29 =>
 S.bin .sub (I 8192) v29 fun v30 =>
 S.bin .gtr v26 v30 fun v31 =>
 S.cond v31 (
 S.fad v4 1 fun v33 =>
 S.ld v33 fun v34 =>
 CF Tryz.prog 70 [v0, v34, (I 6)] fun v35 =>
 S.st 4 v6 v35 fun _ =>
 S.ldN 4 v6 fun v6'2 =>
 K v6'2) (
 S.join 6 (fun K0 =>
 S.dr <|
 S.nc v0 fun v38 =>
 S.fad v38 5 fun v39 =>
 S.ld v39 fun v40 =>
 S.bin .gtr v40 (I 0) fun v41 =>
 S.gd v41 true (S.fad v4 7) fun v43 =>
 S.gd v41 true (S.ld v43) fun v44 =>
 S.gd v41 true (S.len v44) fun v45 =>
 S.gd v41 true (fun k => k v0) fun v46 =>
 S.gd v41 true (S.nc v46) fun v47 =>
 S.gd v41 true (S.fad v47 5) fun v48 =>
 S.gd v41 true (S.ld v48) fun v49 =>
 S.gd v41 true (fun k => k v0) fun v50 =>
 S.gd v41 true (CF Tryz.prog 71 [v50]) fun v51 =>
 S.rck [S.gd v41 true (S.ld v48) (fun v' _ => v' = v49), S.gd v41 true (S.ld v43) (fun v' _ => v' = v44)] <|
 S.gd v41 true (S.bin .sub v49 v51) fun v52 =>
 S.gd v41 true (S.bin .gtr v45 v52) fun v53 =>
 S.pick v41 v53 (B false) fun v54 =>
 K0 v0 v2 v4 v6 v7 v54)
 <| fun v0' v2' v4' v6'3 v7' v36 => S.fa fun _ =>
 S.cond v36 (
 S.fad v4' 1 fun v56 =>
 S.ld v56 fun v57 =>
 CF Tryz.prog 70 [v0', v57, (I 11)] fun v58 =>
 S.st 4 v6'3 v58 fun _ =>
 S.ldN 4 v6'3 fun v6'4 =>
 K v6'4) (
 S.cond v2' (
 S.fad v4' 1 fun v62 =>
 S.ld v62 fun v63 =>
 CF Tryz.prog 70 [v0', v63, (I 8)] fun v64 =>
 S.st 4 v6'3 v64 fun _ =>
 S.ldN 4 v6'3 fun v6'5 =>
 K v6'5) (
 S.fad v7' 1 fun v65 =>
 S.ld v65 fun v66 =>
 S.fad v4' 7 fun v67 =>
 S.ld v67 fun v68 =>
 S.b2s v68 fun v69 =>
 S.sbin .add v66 v69 fun v70 =>
 S.fad v7' 1 fun v71 =>
 S.st 1 v71 v70 fun _ =>
 S.dr <|
 S.nc v0' fun v73 =>
 S.fad v73 2 fun v74 =>
 S.ld v74 fun v75 =>
 S.fad v4' 1 fun v76 =>
 S.ld v76 fun v77 =>
 S.ldN 2 v7' fun v78 =>
 U Tryz.prog (Instr.mapUpdate 80 v75 v77 v78) fun _ =>
 V Tryz.prog (Instr.build 33 #[]) fun v79 =>
 S.st 4 v6'3 v79 fun _ =>
 S.ldN 4 v6'3 fun v6'6 =>
 K v6'6))))
theorem e41 [Amb] (v0 v1 v2 : Value) (K : Value → WT) : s41 v0 v1 v2 K = shal Tryz.prog Tryz.f41 .p a41 [v0, v1, v2] K := by kernel_rfl
theorem c41 [Amb] {v0 v1 v2 : Value} {K : Value → WT} {w : World} (h : s41 v0 v1 v2 K w) : CF Tryz.prog 41 [v0, v1, v2] K w := shal_sound Tryz.func41 (e41 v0 v1 v2 K ▸ h)

/-- (*aumbry/model.Model).commit -/
def a42 : Ann := .seq (.z) (.seq (.draw [0, 1, 2, 3, 4, 5, 6, 7, 8, 9, 10, 11, 12]) (.seq (.draw [0, 1, 2, 3, 4, 5, 6, 7, 8, 9, 10, 11]) (.seq (.blk (.seq (.z) (.cond (.seq (.z) (.z)) (.join [0, 2, 4, 6, 7, 9, 10, 36] (.join [0, 2, 4, 6, 7, 9, 10, 36] (.z) (.cond (.z) (.z))) (.cond (.seq (.z) (.z)) (.seq (.z) (.cond (.seq (.z) (.z)) (.z)))))))) (.seq (.z) (.join [0, 4, 6, 7, 9, 11] (.seq (.z) (.cond (.z) (.z))) (.seq (.drawT 19 (.one 0 (.one 1 (.one 2 (.one 3 (.one 4 (.one 5 (.one 6 (.one 8 (.one 9 (.one 10 (.one 11 (.one 12 (.one 13 (.one 14 (.two 7 (.one 15 (.one 16 (.one 17 (.one 18 .nil)))) 15 (.two 7 (.one 16 (.one 17 (.one 18 .nil))) 16 (.one 7 (.one 17 (.one 18 .nil)))))))))))))))))))) (.seq (.draw [0, 1, 2, 3, 4, 5, 6]) (.seq (.z) (.z)))))))))
def s42 [Amb] (v0 v1 v2 : Value) (K : Value → WT) : WT :=
 S.box 42 v1 fun v4 =>
 S.box 33 (.agg #[(.int .i64 0), (.int .i64 0), (.slice none 0 0), (.slice none 0 0)]) fun v6 =>
 S.dr <|
 S.nc v0 fun v14 =>
 S.fad v14 2 fun v15 =>
 S.ld v15 fun v16 =>
 S.fad v4 1 fun v17 =>
 S.ld v17 fun v18 =>
 S.lk (.int .i64) (.agg #[(.string ⟨#[]⟩), (.string ⟨#[]⟩)]) true v16 v18 fun v19 =>
 S.ext v19 0 fun v20 =>
 S.ext v19 1 fun v21 =>
 S.box 88 (.agg #[(.string ⟨#[]⟩), (.string ⟨#[]⟩)]) fun v7 =>
 S.rck [S.lk (.int .i64) (.agg #[(.string ⟨#[]⟩), (.string ⟨#[]⟩)]) true v16 v18 (fun v' _ => v' = v19), S.ld v17 (fun v' _ => v' = v18), S.ld v15 (fun v' _ => v' = v16)] <|
 S.st 2 v7 v20 fun _ =>
 S.dr <|
 S.nc v0 fun v24 =>
 S.fad v24 0 fun v25 =>
 S.ld v25 fun v26 =>
 S.fad v7 0 fun v27 =>
 S.ld v27 fun v28 =>
 S.lk .string (.slice none 0 0) true v26 v28 fun v29 =>
 S.ext v29 0 fun v30 =>
 S.ext v29 1 fun v31 =>
 S.not1 v21 fun v34 =>
 S.cond v34 (
 CF Tryz.prog 39 [(I 9)] fun v35 =>
 S.st 4 v6 v35 fun _ =>
 S.ldN 4 v6 fun v6' =>
 K v6') (
 S.join 8 (fun K0 =>
 S.join 8 (fun K1 =>
 S.not1 v31 fun v38 =>
 S.gd v38 true (fun k => k v0) fun v40 =>
 S.gd v38 true (S.nc v40) fun v41 =>
 S.gd v38 true (S.fad v41 0) fun v42 =>
 S.gd v38 true (S.ld v42) fun v43 =>
 S.gd v38 true (S.lenM v43) fun v44 =>
 S.gd v38 true (S.bin .eql v44 (I 64)) fun v45 =>
 S.pick v38 v45 (B false) fun v46 =>
 K1 v0 v2 v4 v6 v7 v30 v31 v46)
 <| fun v0' v2' v4' v6'2 v7' v9 v10 v36 => S.fa fun _ =>
 S.cond v36 (
 K0 v0' v2' v4' v6'2 v7' v9 v10 v36) (
 S.len v9 fun v48 =>
 S.bin .eql v48 (I 32) fun v49 =>
 K0 v0' v2' v4' v6'2 v7' v9 v10 v49))
 <| fun v0'2 v2'2 v4'2 v6'3 v7'2 v9' v10' v36' => S.fa fun _ =>
 S.cond v36' (
 S.fad v4'2 1 fun v51 =>
 S.ld v51 fun v52 =>
 CF Tryz.prog 70 [v0'2, v52, (I 6)] fun v53 =>
 S.st 4 v6'3 v53 fun _ =>
 S.ldN 4 v6'3 fun v6'4 =>
 K v6'4) (
 S.cond v2'2 (
 S.fad v4'2 1 fun v57 =>
 S.ld v57 fun v58 =>
 CF Tryz.prog 70 [v0'2, v58, (I 8)] fun v59 =>
 S.st 4 v6'3 v59 fun _ =>
 S.ldN 4 v6'3 fun v6'5 =>
 K v6'5) (
 S.join 6 (fun K2 =>
 S.cond v10' (
 S.len v9' fun v63 =>
 S.bin .sub v63 (I 1) fun v64 =>
 S.ixS 4 v9' v64 fun v65 =>
 S.fad v65 0 fun v66 =>
 S.ld v66 fun v67 =>
 S.bin .add v67 (I 1) fun v68 =>
 K2 v0'2 v4'2 v6'3 v7'2 v9' v68) (
 K2 v0'2 v4'2 v6'3 v7'2 v9' (I 1)))
 <| fun v0'3 v4'3 v6'6 v7'3 v9'2 v11 => S.fa fun _ =>
 S.dr <|
 S.nc v0'3 fun v70 =>
 S.fad v70 0 fun v71 =>
 S.ld v71 fun v72 =>
 S.fad v7'3 0 fun v73 =>
 S.ld v73 fun v74 =>
 S.nc v0'3 fun v79 =>
 S.fad v79 4 fun v80 =>
 S.ld v80 fun v81 =>
 S.fad v7'3 1 fun v82 =>
 S.ld v82 fun v83 =>
 S.both (
 CF Tryz.prog 72 [v9'2] fun v76 =>
 S.rck [S.ld v82 (fun v' _ => v' = v83), S.ld v80 (fun v' _ => v' = v81), S.ld v73 (fun v' _ => v' = v74), S.ld v71 (fun v' _ => v' = v72)] <|
 V Tryz.prog (Instr.build 98 #[(0, v11), (1, v81), (2, v83)]) fun v84 =>
 S.rck [S.ld v73 (fun v' _ => v' = v74), S.ld v71 (fun v' _ => v' = v72)] <|
 V Tryz.prog (Instr.buildSlice 90 1 #[(0, v84)]) fun v85 =>
 S.rck [S.ld v73 (fun v' _ => v' = v74), S.ld v71 (fun v' _ => v' = v72)] <|
 V Tryz.prog (Builtin.append_ #[90, 90] 90 #[v76, v85]) fun v86 =>
 S.rck [S.ld v73 (fun v' _ => v' = v74), S.ld v71 (fun v' _ => v' = v72)] <|
 U Tryz.prog (Instr.mapUpdate 78 v72 v74 v86) fun _ =>
 S.dr <|
 S.nc v0'3 fun v88 =>
 S.fad v88 2 fun v89 =>
 S.ld v89 fun v90 =>
 S.fad v4'3 1 fun v91 =>
 S.ld v91 fun v92 =>
 V Tryz.prog (Builtin.delete_ #[80, 3] 0 #[v90, v92]) fun _ =>
 V Tryz.prog (Instr.build 33 #[(1, v11)]) fun v94 =>
 S.st 4 v6'6 v94 fun _ =>
 S.ldN 4 v6'6 fun v6'7 =>
 K v6'7) (
 V Tryz.prog (Instr.build 98 #[(0, v11), (1, v81), (2, v83)]) fun v84' =>
 S.rck [S.ld v73 (fun v' _ => v' = v74), S.ld v71 (fun v' _ => v' = v72)] <|
 S.both (
 CF Tryz.prog 72 [v9'2] fun v76' =>
 S.rck [S.ld v73 (fun v' _ => v' = v74), S.ld v71 (fun v' _ => v' = v72)] <|
 V Tryz.prog (Instr.buildSlice 90 1 #[(0, v84')]) fun v85' =>
 S.rck [S.ld v73 (fun v' _ => v' = v74), S.ld v71 (fun v' _ => v' = v72)] <|
 V Tryz.prog (Builtin.append_ #[90, 90] 90 #[v76', v85']) fun v86' =>
 S.rck [S.ld v73 (fun v' _ => v' = v74), S.ld v71 (fun v' _ => v' = v72)] <|
 U Tryz.prog (Instr.mapUpdate 78 v72 v74 v86') fun _ =>
 S.dr <|
 S.nc v0'3 fun v88' =>
 S.fad v88' 2 fun v89' =>
 S.ld v89' fun v90' =>
 S.fad v4'3 1 fun v91' =>
 S.ld v91' fun v92' =>
 V Tryz.prog (Builtin.delete_ #[80, 3] 0 #[v90', v92']) fun _ =>
 V Tryz.prog (Instr.build 33 #[(1, v11)]) fun v94' =>
 S.st 4 v6'6 v94' fun _ =>
 S.ldN 4 v6'6 fun v6'8 =>
 K v6'8) (
 V Tryz.prog (Instr.buildSlice 90 1 #[(0, v84')]) fun v85'2 =>
 S.rck [S.ld v73 (fun v' _ => v' = v74), S.ld v71 (fun v' _ => v' = v72)] <|
 CF Tryz.prog 72 [v9'2] fun v76'2 =>
 S.rck [S.ld v73 (fun v' _ => v' = v74), S.ld v71 (fun v' _ => v' = v72)] <|
 V Tryz.prog (Builtin.append_ #[90, 90] 90 #[v76'2, v85'2]) fun v86'2 =>
 S.rck [S.ld v73 (fun v' _ => v' = v74), S.ld v71 (fun v' _ => v' = v72)] <|
 U Tryz.prog (Instr.mapUpdate 78 v72 v74 v86'2) fun _ =>
 S.dr <|
 S.nc v0'3 fun v88'2 =>
 S.fad v88'2 2 fun v89'2 =>
 S.ld v89'2 fun v90'2 =>
 S.fad v4'3 1 fun v91'2 =>
 S.ld v91'2 fun v92'2 =>
 V Tryz.prog (Builtin.delete_ #[80, 3] 0 #[v90'2, v92'2]) fun _ =>
 V Tryz.prog (Instr.build 33 #[(1, v11)]) fun v94'2 =>
 S.st 4 v6'6 v94'2 fun _ =>
 S.ldN 4 v6'6 fun v6'9 =>
 K v6'9)))))
theorem e42 [Amb] (v0 v1 v2 : Value) (K : Value → WT) : s42 v0 v1 v2 K = shal Tryz.prog Tryz.f42 .p a42 [v0, v1, v2] K := by kernel_rfl
theorem c42 [Amb] {v0 v1 v2 : Value} {K : Value → WT} {w : World} (h : s42 v0 v1 v2 K w) : CF Tryz.prog 42 [v0, v1, v2] K w := shal_sound Tryz.func42 (e42 v0 v1 v2 K ▸ h)

/-- (*aumbry/model.Model).abort -/
def a43 : Ann := .seq (.z) (.seq (.seq (.draw [0, 1, 2, 3, 4, 5, 6, 7, 8, 9, 10, 11, 12]) (.seq (.z) (.cond (.seq (.z) (.z)) (.z)))) (.seq (.z) (.z)))
def s43 [Amb] (m_0 o_1 : Value) (K : Value → WT) : WT :=
 S.box 42 o_1 fun o_3 =>
 S.box 33 (.agg #[(.int .i64 0), (.int .i64 0), (.slice none 0 0), (.slice none 0 0)]) fun v4 =>
 S.dr <|
 S.nc m_0 fun v9 =>
 S.fad v9 2 fun v10 =>
 S.ld v10 fun v11 =>
 S.fad o_3 1 fun v12 =>
 S.ld v12 fun v13 =>
 S.lk (.int .i64) (.agg #[(.string ⟨#[]⟩), (.string ⟨#[]⟩)]) true v11 v13 fun v14 =>
 S.ext v14 0 fun v15 =>
 S.ext v14 1 fun v16 =>
 S.box 88 (.agg #[(.string ⟨#[]⟩), (.string ⟨#[]⟩)]) fun v5 =>
 S.rck [S.lk (.int .i64) (.agg #[(.string ⟨#[]⟩), (.string ⟨#[]⟩)]) true v11 v13 (fun v' _ => v' = v14), S.ld v12 (fun v' _ => v' = v13), S.ld v10 (fun v' _ => v' = v11)] <|
 S.st 2 v5 v15 fun _ =>
 S.not1 v16 fun v18 =>
 S.cond v18 (
 CF Tryz.prog 39 [(I 9)] fun v19 =>
 S.st 4 v4 v19 fun _ =>
 S.ldN 4 v4 fun v4' =>
 K v4') (
 S.fad o_3 1 fun v21 =>
 S.ld v21 fun v22 =>
 CF Tryz.prog 70 [m_0, v22, (I 0)] fun v23 =>
 S.st 4 v4 v23 fun _ =>
 S.ldN 4 v4 fun v4'2 =>
 K v4'2)
theorem e43 [Amb] (m_0 o_1 : Value) (K : Value → WT) : s43 m_0 o_1 K = shal Tryz.prog Tryz.f43 .p a43 [m_0, o_1] K := by kernel_rfl
theorem c43 [Amb] {m_0 o_1 : Value} {K : Value → WT} {w : World} (h : s43 m_0 o_1 K w) : CF Tryz.prog 43 [m_0, o_1] K w := shal_sound Tryz.func43 (e43 m_0 o_1 K ▸ h)

/-- (*aumbry/model.Model).told -/
def a44 : Ann := .seq (.z) (.seq (.seq (.z) (.blk (.seq (.z) (.cond (.seq (.z) (.z)) (.seq (.z) (.cond (.seq (.z) (.z)) (.seq (.z) (.cond (.seq (.z) (.z)) (.seq (.z) (.cond (.seq (.z) (.z)) (.z))))))))))) (.seq (.z) (.z)))
def s44 [Amb] (m_0 o_1 : Value) (K : Value → WT) : WT :=
 S.box 42 o_1 fun o_3 =>
 S.box 33 (.agg #[(.int .i64 0), (.int .i64 0), (.slice none 0 0), (.slice none 0 0)]) fun v4 =>
 S.fad o_3 0 fun v5 =>
 S.ld v5 fun v6 =>
 S.bin .eql v6 (I 5) fun v8 =>
 S.cond v8 (
 S.ldN 15 o_3 fun v10 =>
 CF Tryz.prog 73 [m_0, v10] fun v11 =>
 S.st 4 v4 v11 fun _ =>
 S.ldN 4 v4 fun v4' =>
 K v4') (
 S.bin .eql v6 (I 6) fun v13 =>
 S.cond v13 (
 S.ldN 15 o_3 fun v15 =>
 CF Tryz.prog 74 [m_0, v15] fun v16 =>
 S.st 4 v4 v16 fun _ =>
 S.ldN 4 v4 fun v4'2 =>
 K v4'2) (
 S.bin .eql v6 (I 7) fun v18 =>
 S.cond v18 (
 S.ldN 15 o_3 fun v20 =>
 CF Tryz.prog 75 [m_0, v20] fun v21 =>
 S.st 4 v4 v21 fun _ =>
 S.ldN 4 v4 fun v4'3 =>
 K v4'3) (
 S.bin .eql v6 (I 8) fun v23 =>
 S.cond v23 (
 S.ldN 15 o_3 fun v25 =>
 CF Tryz.prog 76 [m_0, v25] fun v26 =>
 S.st 4 v4 v26 fun _ =>
 S.ldN 4 v4 fun v4'4 =>
 K v4'4) (
 CF Tryz.prog 22 [m_0] fun v28 =>
 V Tryz.prog (Instr.build 33 #[(3, v28)]) fun v29 =>
 S.st 4 v4 v29 fun _ =>
 S.ldN 4 v4 fun v4'5 =>
 K v4'5))))
theorem e44 [Amb] (m_0 o_1 : Value) (K : Value → WT) : s44 m_0 o_1 K = shal Tryz.prog Tryz.f44 .p a44 [m_0, o_1] K := by kernel_rfl
theorem c44 [Amb] {m_0 o_1 : Value} {K : Value → WT} {w : World} (h : s44 m_0 o_1 K w) : CF Tryz.prog 44 [m_0, o_1] K w := shal_sound Tryz.func44 (e44 m_0 o_1 K ▸ h)

/-- (*aumbry/model.Model).remove -/
def a45 : Ann := .seq (.z) (.seq (.z) (.seq (.seq (.z) (.cond (.seq (.z) (.z)) (.z))) (.seq (.z) (.seq (.z) (.z)))))
def s45 [Amb] (m_0 o_1 : Value) (K : Value → WT) : WT :=
 S.box 42 o_1 fun o_3 =>
 S.box 33 (.agg #[(.int .i64 0), (.int .i64 0), (.slice none 0 0), (.slice none 0 0)]) fun v4 =>
 S.fad o_3 2 fun v7 =>
 S.ld v7 fun v8 =>
 S.fad o_3 4 fun v9 =>
 S.ld v9 fun v10 =>
 CF Tryz.prog 64 [m_0, v8, v10] fun v11 =>
 S.bin .lss v11 (I 0) fun v13 =>
 S.cond v13 (
 CF Tryz.prog 39 [(I 9)] fun v14 =>
 S.st 4 v4 v14 fun _ =>
 S.ldN 4 v4 fun v4' =>
 K v4') (
 S.fad o_3 2 fun v16 =>
 S.ld v16 fun v17 =>
 CF Tryz.prog 77 [m_0, v17, v11] fun v19 =>
 V Tryz.prog (Instr.build 33 #[]) fun v20 =>
 S.st 4 v4 v20 fun _ =>
 S.ldN 4 v4 fun v4'2 =>
 K v4'2)
theorem e45 [Amb] (m_0 o_1 : Value) (K : Value → WT) : s45 m_0 o_1 K = shal Tryz.prog Tryz.f45 .p a45 [m_0, o_1] K := by kernel_rfl
theorem c45 [Amb] {m_0 o_1 : Value} {K : Value → WT} {w : World} (h : s45 m_0 o_1 K w) : CF Tryz.prog 45 [m_0, o_1] K w := shal_sound Tryz.func45 (e45 m_0 o_1 K ▸ h)

/-- (*aumbry/model.Model).snap -/
def a46 : Ann := .seq (.z) (.seq (.draw [0, 1, 2, 3, 4, 5, 6, 7, 8, 9, 10, 11]) (.seq (.blk (.seq (.z) (.cond (.seq (.z) (.z)) (.seq (.z) (.cond (.seq (.z) (.z)) (.seq (.z) (.cond (.seq (.z) (.z)) (.seq (.z) (.cond (.seq (.z) (.z)) (.z)))))))))) (.seq (.z) (.seq (.seq (.z) (.blk (.loop [0, 4, 6, 9, 44, 45, 46] (.seq (.z) (.seq (.cond (.z) (.z)) (.seq (.blk (.seq (.z) (.z))) (.z))))))) (.seq (.draw [0, 1, 2, 3, 4, 5, 6, 7]) (.seq (.z) (.z)))))))
def s46 [Amb] (m_0 o_1 space_2 : Value) (K : Value → WT) : WT :=
 S.box 42 o_1 fun o_4 =>
 S.box 33 (.agg #[(.int .i64 0), (.int .i64 0), (.slice none 0 0), (.slice none 0 0)]) fun v6 =>
 S.dr <|
 S.nc m_0 fun v14 =>
 S.fad v14 1 fun v15 =>
 S.ld v15 fun v16 =>
 S.fad o_4 3 fun v17 =>
 S.ld v17 fun v18 =>
 S.lk .string (.map none) true v16 v18 fun v19 =>
 S.ext v19 0 fun v20 =>
 S.ext v19 1 fun v21 =>
 S.fad o_4 3 fun v23 =>
 S.ld v23 fun v24 =>
 CF Tryz.prog 69 [v24] fun v25 =>
 S.not1 v25 fun v26 =>
 S.cond v26 (
 CF Tryz.prog 39 [(I 2)] fun v27 =>
 S.st 4 v6 v27 fun _ =>
 S.ldN 4 v6 fun v6' =>
 K v6') (
 S.cond v21 (
 CF Tryz.prog 39 [(I 10)] fun v30 =>
 S.st 4 v6 v30 fun _ =>
 S.ldN 4 v6 fun v6'2 =>
 K v6'2) (
 S.nc m_0 fun v33 =>
 S.fad v33 1 fun v34 =>
 S.ld v34 fun v35 =>
 S.lenM v35 fun v36 =>
 S.bin .eql v36 (I 16) fun v37 =>
 S.cond v37 (
 CF Tryz.prog 39 [(I 6)] fun v38 =>
 S.st 4 v6 v38 fun _ =>
 S.ldN 4 v6 fun v6'3 =>
 K v6'3) (
 S.cond space_2 (
 CF Tryz.prog 39 [(I 8)] fun v41 =>
 S.st 4 v6 v41 fun _ =>
 S.ldN 4 v6 fun v6'4 =>
 K v6'4) (
 S.mkM fun v42 =>
 CF Tryz.prog 22 [m_0] fun v44 =>
 S.len v44 fun v45 =>
 S.loop 7 (fun K0 => fun m_0' o_4' v6'5 s_9 v44' v45' v46 => S.fa fun _ =>
 S.bin .lss v46 v45' fun v47 =>
 S.cond v47 (
 S.ixS 2 v44' v46 fun v48 =>
 S.ldN 2 v48 fun v49 =>
 S.box 106 (.agg #[(.string ⟨#[]⟩), (.int .i64 0)]) fun h_11 =>
 S.st 2 h_11 v49 fun _ =>
 S.fad h_11 0 fun v51 =>
 S.ld v51 fun v52 =>
 S.fad h_11 1 fun v53 =>
 S.ld v53 fun v54 =>
 U Tryz.prog (Instr.mapUpdate 93 s_9 v52 v54) fun _ =>
 S.bin .add v46 (I 1) fun v55 =>
 K0 m_0' o_4' v6'5 s_9 v44' v45' v55) (
 S.dr <|
 S.nc m_0' fun v57 =>
 S.fad v57 1 fun v58 =>
 S.ld v58 fun v59 =>
 S.fad o_4' 3 fun v60 =>
 S.ld v60 fun v61 =>
 U Tryz.prog (Instr.mapUpdate 79 v59 v61 s_9) fun _ =>
 V Tryz.prog (Instr.build 33 #[]) fun v63 =>
 S.st 4 v6'5 v63 fun _ =>
 S.ldN 4 v6'5 fun v6'6 =>
 K v6'6))
 [m_0, o_4, v6, v42, v44, v45, (I 0)]))))
theorem e46 [Amb] (m_0 o_1 space_2 : Value) (K : Value → WT) : s46 m_0 o_1 space_2 K = shal Tryz.prog Tryz.f46 .p a46 [m_0, o_1, space_2] K := by kernel_rfl
theorem c46 [Amb] {m_0 o_1 space_2 : Value} {K : Value → WT} {w : World} (h : s46 m_0 o_1 space_2 K w) : CF Tryz.prog 46 [m_0, o_1, space_2] K w := shal_sound Tryz.func46 (e46 m_0 o_1 space_2 K ▸ h)

/-- (*aumbry/model.Model).unsnap -/
def a47 : Ann := .seq (.z) (.seq (.draw [0, 1, 2, 3, 4, 5, 6, 7, 8, 9, 10, 11]) (.seq (.blk (.seq (.z) (.cond (.seq (.z) (.z)) (.seq (.z) (.cond (.seq (.z) (.z)) (.z)))))) (.seq (.draw [0, 1, 2, 3, 4, 5, 6]) (.seq (.z) (.seq (.z) (.z))))))
def s47 [Amb] (m_0 o_1 : Value) (K : Value → WT) : WT :=
 S.box 42 o_1 fun o_3 =>
 S.box 33 (.agg #[(.int .i64 0), (.int .i64 0), (.slice none 0 0), (.slice none 0 0)]) fun v4 =>
 S.dr <|
 S.nc m_0 fun v9 =>
 S.fad v9 1 fun v10 =>
 S.ld v10 fun v11 =>
 S.fad o_3 3 fun v12 =>
 S.ld v12 fun v13 =>
 S.lk .string (.map none) true v11 v13 fun v14 =>
 S.ext v14 0 fun v15 =>
 S.ext v14 1 fun v16 =>
 S.fad o_3 3 fun v18 =>
 S.ld v18 fun v19 =>
 CF Tryz.prog 69 [v19] fun v20 =>
 S.not1 v20 fun v21 =>
 S.cond v21 (
 CF Tryz.prog 39 [(I 2)] fun v22 =>
 S.st 4 v4 v22 fun _ =>
 S.ldN 4 v4 fun v4' =>
 K v4') (
 S.not1 v16 fun v25 =>
 S.cond v25 (
 CF Tryz.prog 39 [(I 9)] fun v26 =>
 S.st 4 v4 v26 fun _ =>
 S.ldN 4 v4 fun v4'2 =>
 K v4'2) (
 S.dr <|
 S.nc m_0 fun v28 =>
 S.fad v28 1 fun v29 =>
 S.ld v29 fun v30 =>
 S.fad o_3 3 fun v31 =>
 S.ld v31 fun v32 =>
 V Tryz.prog (Builtin.delete_ #[79, 9] 0 #[v30, v32]) fun _ =>
 CF Tryz.prog 78 [m_0] fun v34 =>
 V Tryz.prog (Instr.build 33 #[]) fun v35 =>
 S.st 4 v4 v35 fun _ =>
 S.ldN 4 v4 fun v4'3 =>
 K v4'3))
theorem e47 [Amb] (m_0 o_1 : Value) (K : Value → WT) : s47 m_0 o_1 K = shal Tryz.prog Tryz.f47 .p a47 [m_0, o_1] K := by kernel_rfl
theorem c47 [Amb] {m_0 o_1 : Value} {K : Value → WT} {w : World} (h : s47 m_0 o_1 K w) : CF Tryz.prog 47 [m_0, o_1] K w := shal_sound Tryz.func47 (e47 m_0 o_1 K ▸ h)

/-- (*aumbry/model.Model).tick -/
def a48 : Ann := .seq (.z) (.seq (.join [0, 3, 4, 17] (.draw [0, 1, 2, 3, 4, 5, 6, 7, 8, 9, 10, 11, 12]) (.cond (.seq (.z) (.z)) (.z))) (.seq (.draw [0, 1, 2, 3, 4, 5, 6, 7, 8, 9]) (.seq (.z) (.z))))
def s48 [Amb] (m_0 o_1 : Value) (K : Value → WT) : WT :=
 S.box 42 o_1 fun o_3 =>
 S.box 33 (.agg #[(.int .i64 0), (.int .i64 0), (.slice none 0 0), (.slice none 0 0)]) fun v4 =>
 S.join 4 (fun K0 =>
 S.dr <|
 S.fad o_3 1 fun v5 =>
 S.ld v5 fun v6 =>
 S.bin .lss v6 (I 0) fun v7 =>
 S.gd v7 false (S.fad o_3 1) fun v9 =>
 S.gd v7 false (S.ld v9) fun v10 =>
 S.gd v7 false (fun k => k m_0) fun v11 =>
 S.gd v7 false (S.nc v11) fun v12 =>
 S.gd v7 false (S.fad v12 4) fun v13 =>
 S.gd v7 false (S.ld v13) fun v14 =>
 S.gd v7 false (S.bin .sub (I 9007199254740991) v14) fun v15 =>
 S.gd v7 false (S.bin .gtr v10 v15) fun v16 =>
 S.pick v7 (B true) v16 fun v17 =>
 K0 m_0 o_3 v4 v17)
 <| fun m_0' o_3' v4' v17' => S.fa fun _ =>
 S.cond v17' (
 CF Tryz.prog 39 [(I 2)] fun v18 =>
 S.st 4 v4' v18 fun _ =>
 S.ldN 4 v4' fun v4'2 =>
 K v4'2) (
 S.dr <|
 S.nc m_0' fun v20 =>
 S.fad v20 4 fun v21 =>
 S.ld v21 fun v22 =>
 S.fad o_3' 1 fun v23 =>
 S.ld v23 fun v24 =>
 S.bin .add v22 v24 fun v25 =>
 S.nc m_0' fun v26 =>
 S.fad v26 4 fun v27 =>
 S.st 1 v27 v25 fun _ =>
 V Tryz.prog (Instr.build 33 #[]) fun v28 =>
 S.st 4 v4' v28 fun _ =>
 S.ldN 4 v4' fun v4'3 =>
 K v4'3)
theorem e48 [Amb] (m_0 o_1 : Value) (K : Value → WT) : s48 m_0 o_1 K = shal Tryz.prog Tryz.f48 .p a48 [m_0, o_1] K := by kernel_rfl
theorem c48 [Amb] {m_0 o_1 : Value} {K : Value → WT} {w : World} (h : s48 m_0 o_1 K w) : CF Tryz.prog 48 [m_0, o_1] K w := shal_sound Tryz.func48 (e48 m_0 o_1 K ▸ h)

/-- (*aumbry/model.Model).expire -/
def a49 : Ann := .seq (.z) (.seq (.z) (.seq (.join [0, 4, 5, 42] (.z) (.cond (.seq (.z) (.z)) (.z))) (.seq (.z) (.seq (.seq (.z) (.blk (.loop [0, 4, 5, 6, 49, 50, 51] (.seq (.z) (.seq (.cond (.z) (.z)) (.seq (.blk (.seq (.z) (.seq (.z) (.seq (.z) (.blk (.loop [0, 4, 5, 6, 8, 9, 49, 50, 51, 63, 64, 65] (.seq (.z) (.seq (.cond (.z) (.z)) (.join [0, 4, 5, 6, 8, 9, 49, 50, 51, 63, 64, 65] (.blk (.seq (.z) (.seq (.z) (.cond (.z) (.z))))) (.z)))))))))) (.z))))))) (.seq (.seq (.z) (.blk (.loop [0, 4, 6, 85, 86, 87] (.seq (.z) (.seq (.cond (.z) (.z)) (.seq (.blk (.seq (.z) (.draw [0, 1, 2, 3, 4, 5, 6, 7, 8, 9]))) (.z))))))) (.seq (.z) (.z)))))))
def s49 [Amb] (v0 v1 : Value) (K : Value → WT) : WT :=
 S.box 42 v1 fun v3 =>
 S.box 33 (.agg #[(.int .i64 0), (.int .i64 0), (.slice none 0 0), (.slice none 0 0)]) fun v4 =>
 S.fad v3 8 fun v14 =>
 S.ldN 4 v14 fun v15 =>
 S.box 37 (.agg #[(.int .i64 0), (.int .i64 0), (.int .i64 0), (.int .i64 0)]) fun v5 =>
 S.st 4 v5 v15 fun _ =>
 S.join 4 (fun K0 =>
 S.fad v5 0 fun v16 =>
 S.ld v16 fun v17 =>
 CF Tryz.prog 79 [v17] fun v18 =>
 S.not1 v18 fun v19 =>
 S.gd v19 false (S.fad v5 1) fun v21 =>
 S.gd v19 false (S.ld v21) fun v22 =>
 S.gd v19 false (CF Tryz.prog 79 [v22]) fun v23 =>
 S.gd v19 false (S.not1 v23) fun v24 =>
 S.pick v19 (B true) v24 fun v25 =>
 S.gd v25 false (S.fad v5 2) fun v27 =>
 S.gd v25 false (S.ld v27) fun v28 =>
 S.gd v25 false (CF Tryz.prog 79 [v28]) fun v29 =>
 S.gd v25 false (S.not1 v29) fun v30 =>
 S.pick v25 (B true) v30 fun v31 =>
 S.gd v31 false (S.fad v5 2) fun v33 =>
 S.gd v31 false (S.ld v33) fun v34 =>
 S.gd v31 false (S.bin .lss v34 (I 1)) fun v35 =>
 S.pick v31 (B true) v35 fun v36 =>
 S.gd v36 false (S.fad v5 3) fun v38 =>
 S.gd v36 false (S.ld v38) fun v39 =>
 S.gd v36 false (CF Tryz.prog 79 [v39]) fun v40 =>
 S.gd v36 false (S.not1 v40) fun v41 =>
 S.pick v36 (B true) v41 fun v42 =>
 K0 v0 v4 v5 v42)
 <| fun v0' v4' v5' v42' => S.fa fun _ =>
 S.cond v42' (
 CF Tryz.prog 39 [(I 2)] fun v43 =>
 S.st 4 v4' v43 fun _ =>
 S.ldN 4 v4' fun v4'2 =>
 K v4'2) (
 S.nc v0' fun v45 =>
 S.fad v45 0 fun v46 =>
 S.ld v46 fun v47 =>
 CF Tryz.prog 63 [v47] fun v48 =>
 CF Tryz.prog 62 [v48] fun v49 =>
 S.len v49 fun v50 =>
 S.loop 7 (fun K1 => fun v0'2 v4'3 v5'2 v6 v49' v50' v51 => S.fa fun _ =>
 S.bin .lss v51 v50' fun v52 =>
 S.cond v52 (
 S.ixS 1 v49' v51 fun v53 =>
 S.ld v53 fun v54 =>
 S.nc v0'2 fun v56 =>
 S.fad v56 0 fun v57 =>
 S.ld v57 fun v58 =>
 S.lk .string (.slice none 0 0) false v58 v54 fun v60 =>
 CF Tryz.prog 72 [v60] fun v61 =>
 CF Tryz.prog 80 [v61, (.func (.func 81) #[] #[])] fun v62 =>
 S.len v62 fun v64 =>
 S.loop 12 (fun K2 => fun v0'3 v4'4 v5'3 v6' v8 v9 v49'2 v50'2 v51' v63 v64' v65 => S.fa fun _ =>
 S.bin .lss v65 v64' fun v66 =>
 S.cond v66 (
 S.join 12 (fun K3 =>
 S.ixS 4 v63 v65 fun v68 =>
 S.ldN 4 v68 fun v69 =>
 S.box 98 (.agg #[(.int .i64 0), (.int .i64 0), (.string ⟨#[]⟩), (.bool false)]) fun v11 =>
 S.st 4 v11 v69 fun _ =>
 S.ldN 4 v5'3 fun v73 =>
 CF Tryz.prog 82 [v0'3, v9, v65, v73] fun v74 =>
 S.not1 v74 fun v75 =>
 S.cond v75 (
 S.fad v11 0 fun v78 =>
 S.ld v78 fun v79 =>
 V Tryz.prog (Instr.build 106 #[(0, v8), (1, v79)]) fun v80 =>
 V Tryz.prog (Instr.buildSlice 31 1 #[(0, v80)]) fun v81 =>
 V Tryz.prog (Builtin.append_ #[31, 31] 31 #[v6', v81]) fun v82 =>
 K3 v0'3 v4'4 v5'3 v82 v8 v9 v49'2 v50'2 v51' v63 v64' v65) (
 K3 v0'3 v4'4 v5'3 v6' v8 v9 v49'2 v50'2 v51' v63 v64' v65))
 <| fun v0'4 v4'5 v5'4 v6'2 v8' v9' v49'3 v50'3 v51'2 v63' v64'2 v65' => S.fa fun _ =>
 S.bin .add v65' (I 1) fun v83 =>
 K2 v0'4 v4'5 v5'4 v6'2 v8' v9' v49'3 v50'3 v51'2 v63' v64'2 v83) (
 S.bin .add v51' (I 1) fun v84 =>
 K1 v0'3 v4'4 v5'3 v6' v49'2 v50'2 v84))
 [v0'2, v4'3, v5'2, v6, v54, v62, v49', v50', v51, v62, v64, (I 0)]) (
 S.len v6 fun v86 =>
 S.loop 6 (fun K4 => fun v0'5 v4'6 v6'3 v85 v86' v87 => S.fa fun _ =>
 S.bin .lss v87 v86' fun v88 =>
 S.cond v88 (
 S.ixS 2 v85 v87 fun v89 =>
 S.ldN 2 v89 fun v90 =>
 S.box 106 (.agg #[(.string ⟨#[]⟩), (.int .i64 0)]) fun v13 =>
 S.st 2 v13 v90 fun _ =>
 S.dr <|
 S.fad v13 0 fun v92 =>
 S.ld v92 fun v93 =>
 S.fad v13 0 fun v95 =>
 S.ld v95 fun v96 =>
 S.fad v13 1 fun v97 =>
 S.ld v97 fun v98 =>
 CF Tryz.prog 64 [v0'5, v96, v98] fun v99 =>
 S.rck [S.ld v92 (fun v' _ => v' = v93)] <|
 CF Tryz.prog 77 [v0'5, v93, v99] fun v100 =>
 S.bin .add v87 (I 1) fun v101 =>
 K4 v0'5 v4'6 v6'3 v85 v86' v101) (
 S.len v6'3 fun v103 =>
 V Tryz.prog (Instr.build 33 #[(1, v103)]) fun v104 =>
 S.st 4 v4'6 v104 fun _ =>
 S.ldN 4 v4'6 fun v4'7 =>
 K v4'7))
 [v0'2, v4'3, v6, v6, v86, (I 0)]))
 [v0', v4', v5', (.slice none 0 0), v49, v50, (I 0)])
theorem e49 [Amb] (v0 v1 : Value) (K : Value → WT) : s49 v0 v1 K = shal Tryz.prog Tryz.f49 .p a49 [v0, v1] K := by kernel_rfl
theorem c49 [Amb] {v0 v1 : Value} {K : Value → WT} {w : World} (h : s49 v0 v1 K w) : CF Tryz.prog 49 [v0, v1] K w := shal_sound Tryz.func49 (e49 v0 v1 K ▸ h)

/-- (*aumbry/model.Model).clean -/
def a50 : Ann := .seq (.z) (.seq (.blk (.join [2, 6, 7] (.z) (.cond (.seq (.z) (.z)) (.seq (.z) (.cond (.seq (.z) (.z)) (.z)))))) (.seq (.z) (.z)))
def s50 [Amb] (m_0 o_1 space_2 : Value) (K : Value → WT) : WT :=
 S.box 42 o_1 fun o_4 =>
 S.box 33 (.agg #[(.int .i64 0), (.int .i64 0), (.slice none 0 0), (.slice none 0 0)]) fun v6 =>
 S.join 3 (fun K0 =>
 S.fad o_4 1 fun v8 =>
 S.ld v8 fun v9 =>
 S.bin .lss v9 (I 0) fun v10 =>
 S.gd v10 false (S.fad o_4 1) fun v12 =>
 S.gd v10 false (S.ld v12) fun v13 =>
 S.gd v10 false (S.bin .gtr v13 (I 100)) fun v14 =>
 S.pick v10 (B true) v14 fun v15 =>
 K0 space_2 v6 v15)
 <| fun space_2' v6' v7 => S.fa fun _ =>
 S.cond v7 (
 CF Tryz.prog 39 [(I 2)] fun v16 =>
 S.st 4 v6' v16 fun _ =>
 S.ldN 4 v6' fun v6'2 =>
 K v6'2) (
 S.cond space_2' (
 CF Tryz.prog 39 [(I 8)] fun v19 =>
 S.st 4 v6' v19 fun _ =>
 S.ldN 4 v6' fun v6'3 =>
 K v6'3) (
 V Tryz.prog (Instr.build 33 #[]) fun v20 =>
 S.st 4 v6' v20 fun _ =>
 S.ldN 4 v6' fun v6'4 =>
 K v6'4))
theorem e50 [Amb] (m_0 o_1 space_2 : Value) (K : Value → WT) : s50 m_0 o_1 space_2 K = shal Tryz.prog Tryz.f50 .p a50 [m_0, o_1, space_2] K := by kernel_rfl
theorem c50 [Amb] {m_0 o_1 space_2 : Value} {K : Value → WT} {w : World} (h : s50 m_0 o_1 space_2 K w) : CF Tryz.prog 50 [m_0, o_1, space_2] K w := shal_sound Tryz.func50 (e50 m_0 o_1 space_2 K ▸ h)

/-- slices.Sorted[int] -/
def a51 : Ann := .seq (.z) (.seq (.z) (.seq (.z) (.seq (.z) (.z))))
def s51 [Amb] (seq_0 : Value) (K : Value → WT) : WT :=
 CF Tryz.prog 83 [seq_0] fun v5 =>
 CF Tryz.prog 84 [v5] fun v7 =>
 K v5
theorem e51 [Amb] (seq_0 : Value) (K : Value → WT) : s51 seq_0 K = shal Tryz.prog Tryz.f51 .p a51 [seq_0] K := by kernel_rfl
theorem c51 [Amb] {seq_0 : Value} {K : Value → WT} {w : World} (h : s51 seq_0 K w) : CF Tryz.prog 51 [seq_0] K w := shal_sound Tryz.func51 (e51 seq_0 K ▸ h)

/-- maps.Keys[map[int]aumbry/model.session,int,aumbry/model.session] -/
def a52 : Ann := .seq (.z) (.seq (.z) (.z))
def s52 [Amb] (m_0 : Value) (K : Value → WT) : WT :=
 S.box 80 m_0 fun m_1 =>
 K (.func (Go.Fn.func 85) #[] #[m_1])
theorem e52 [Amb] (m_0 : Value) (K : Value → WT) : s52 m_0 K = shal Tryz.prog Tryz.f52 .p a52 [m_0] K := by kernel_rfl
theorem c52 [Amb] {m_0 : Value} {K : Value → WT} {w : World} (h : s52 m_0 K w) : CF Tryz.prog 52 [m_0] K w := shal_sound Tryz.func52 (e52 m_0 K ▸ h)

/-- maps.Clone[map[string][]aumbry/model.version,string,[]aumbry/model.version] -/
def a53 : Ann := .seq (.z) (.seq (.seq (.z) (.cond (.seq (.z) (.z)) (.z))) (.seq (.z) (.z)))
def s53 [Amb] (m_0 : Value) (K : Value → WT) : WT :=
 S.eqv Tryz.prog .eql 78 true m_0 (.map none) fun v4 =>
 S.cond v4 (
 K (.map none)) (
 Gives Tryz.prog (callFunc 86 #[(.iface 78 m_0)]) fun v7 =>
 V Tryz.prog (Instr.typeAssert v7 20 78 false) fun v8 =>
 K v8)
theorem e53 [Amb] (m_0 : Value) (K : Value → WT) : s53 m_0 K = shal Tryz.prog Tryz.f53 .p a53 [m_0] K := by kernel_rfl
theorem c53 [Amb] {m_0 : Value} {K : Value → WT} {w : World} (h : s53 m_0 K w) : CF Tryz.prog 53 [m_0] K w := shal_sound Tryz.func53 (e53 m_0 K ▸ h)

/-- maps.Clone[map[string]aumbry/model.shot,string,aumbry/model.shot] -/
def a54 : Ann := .seq (.z) (.seq (.seq (.z) (.cond (.seq (.z) (.z)) (.z))) (.seq (.z) (.z)))
def s54 [Amb] (m_0 : Value) (K : Value → WT) : WT :=
 S.eqv Tryz.prog .eql 79 true m_0 (.map none) fun v4 =>
 S.cond v4 (
 K (.map none)) (
 Gives Tryz.prog (callFunc 86 #[(.iface 79 m_0)]) fun v7 =>
 V Tryz.prog (Instr.typeAssert v7 20 79 false) fun v8 =>
 K v8)
theorem e54 [Amb] (m_0 : Value) (K : Value → WT) : s54 m_0 K = shal Tryz.prog Tryz.f54 .p a54 [m_0] K := by kernel_rfl
theorem c54 [Amb] {m_0 : Value} {K : Value → WT} {w : World} (h : s54 m_0 K w) : CF Tryz.prog 54 [m_0] K w := shal_sound Tryz.func54 (e54 m_0 K ▸ h)

/-- maps.Clone[map[int]aumbry/model.session,int,aumbry/model.session] -/
def a55 : Ann := .seq (.z) (.seq (.seq (.z) (.cond (.seq (.z) (.z)) (.z))) (.seq (.z) (.z)))
def s55 [Amb] (m_0 : Value) (K : Value → WT) : WT :=
 S.eqv Tryz.prog .eql 80 true m_0 (.map none) fun v4 =>
 S.cond v4 (
 K (.map none)) (
 Gives Tryz.prog (callFunc 86 #[(.iface 80 m_0)]) fun v7 =>
 V Tryz.prog (Instr.typeAssert v7 20 80 false) fun v8 =>
 K v8)
theorem e55 [Amb] (m_0 : Value) (K : Value → WT) : s55 m_0 K = shal Tryz.prog Tryz.f55 .p a55 [m_0] K := by kernel_rfl
theorem c55 [Amb] {m_0 : Value} {K : Value → WT} {w : World} (h : s55 m_0 K w) : CF Tryz.prog 55 [m_0] K w := shal_sound Tryz.func55 (e55 m_0 K ▸ h)

/-- maps.EqualFunc[map[string][]aumbry/model.version,map[string][]aumbry/model.version,string,[]aumbry/model.version,[]aumbry/model.version] -/
def a56 : Ann := .seq (.z) (.seq (.seq (.z) (.cond (.seq (.z) (.z)) (.z))) (.seq (.seq (.z) (.blk (.loop [1, 2, 17] (.seq (.z) (.seq (.cond (.z) (.z)) (.blk (.seq (.z) (.seq (.z) (.join [1, 2, 17, 37] (.z) (.cond (.seq (.z) (.z)) (.z))))))))))) (.seq (.z) (.z))))
def s56 [Amb] (m1_0 m2_1 eq_2 : Value) (K : Value → WT) : WT :=
 S.lenM m1_0 fun v12 =>
 S.lenM m2_1 fun v14 =>
 S.bin .neq v12 v14 fun v15 =>
 S.cond v15 (
 K (B false)) (
 V Tryz.prog (Instr.range 78 m1_0) fun v17 =>
 S.loop 3 (fun K0 => fun m2_1' eq_2' v17' => S.fa fun _ =>
 V Tryz.prog (Instr.next v17' false 0) fun v18 =>
 S.ext v18 0 fun v19 =>
 S.cond v19 (
 V Tryz.prog (Instr.entry v17') fun v20 =>
 S.ext v20 0 fun v21 =>
 S.ext v20 1 fun v22 =>
 S.lk .string (.slice none 0 0) true m2_1' v21 fun v26 =>
 S.ext v26 0 fun v27 =>
 S.ext v26 1 fun v28 =>
 S.join 4 (fun K1 =>
 S.not1 v28 fun v30 =>
 S.gd v30 false (fun k => k eq_2') fun v32 =>
 S.gd v30 false (fun k => k v22) fun v33 =>
 S.gd v30 false (fun k => k v27) fun v34 =>
 S.gd v30 false (S.cvv Tryz.prog v32 [v33, v34]) fun v35 =>
 S.gd v30 false (S.not1 v35) fun v36 =>
 S.pick v30 (B true) v36 fun v37 =>
 K1 m2_1' eq_2' v17' v37)
 <| fun m2_1'2 eq_2'2 v17'2 v37' => S.fa fun _ =>
 S.cond v37' (
 K (B false)) (
 K0 m2_1'2 eq_2'2 v17'2)) (
 K (B true)))
 [m2_1, eq_2, v17])
theorem e56 [Amb] (m1_0 m2_1 eq_2 : Value) (K : Value → WT) : s56 m1_0 m2_1 eq_2 K = shal Tryz.prog Tryz.f56 .p a56 [m1_0, m2_1, eq_2] K := by kernel_rfl
theorem c56 [Amb] {m1_0 m2_1 eq_2 : Value} {K : Value → WT} {w : World} (h : s56 m1_0 m2_1 eq_2 K w) : CF Tryz.prog 56 [m1_0, m2_1, eq_2] K w := shal_sound Tryz.func56 (e56 m1_0 m2_1 eq_2 K ▸ h)

/-- (*aumbry/model.Model).Same$1 -/
def a57 : Ann := .seq (.z) (.seq (.z) (.z))
def s57 [Amb] (a_0 b_1 : Value) (K : Value → WT) : WT :=
 CF Tryz.prog 58 [a_0, b_1] fun v7 =>
 K v7
theorem e57 [Amb] (a_0 b_1 : Value) (K : Value → WT) : s57 a_0 b_1 K = shal Tryz.prog Tryz.f57 .p a57 [a_0, b_1] K := by kernel_rfl
theorem c57 [Amb] {a_0 b_1 : Value} {K : Value → WT} {w : World} (h : s57 a_0 b_1 K w) : CF Tryz.prog 57 [a_0, b_1] K w := shal_sound Tryz.func57 (e57 a_0 b_1 K ▸ h)

/-- slices.Equal[[]aumbry/model.version,aumbry/model.version] -/
def a58 : Ann := .seq (.z) (.seq (.seq (.z) (.cond (.seq (.z) (.z)) (.z))) (.seq (.seq (.z) (.blk (.loop [0, 1, 12, 13] (.seq (.z) (.seq (.cond (.z) (.z)) (.seq (.blk (.seq (.z) (.seq (.draw [0, 1, 2, 3, 4, 5, 6, 7, 8]) (.cond (.seq (.z) (.z)) (.z))))) (.z))))))) (.seq (.z) (.z))))
def s58 [Amb] (s1_0 s2_1 : Value) (K : Value → WT) : WT :=
 S.len s1_0 fun v7 =>
 S.len s2_1 fun v9 =>
 S.bin .neq v7 v9 fun v10 =>
 S.cond v10 (
 K (B false)) (
 S.len s1_0 fun v12 =>
 S.loop 4 (fun K0 => fun s1_0' s2_1' v12' v13 => S.fa fun _ =>
 S.bin .lss v13 v12' fun v14 =>
 S.cond v14 (
 S.dr <|
 S.ixS 4 s1_0' v13 fun v18 =>
 S.ldN 4 v18 fun v19 =>
 S.ixS 4 s2_1' v13 fun v22 =>
 S.ldN 4 v22 fun v23 =>
 S.eqv Tryz.prog .neq 98 false v19 v23 fun v24 =>
 S.cond v24 (
 K (B false)) (
 S.bin .add v13 (I 1) fun v25 =>
 K0 s1_0' s2_1' v12' v25)) (
 K (B true)))
 [s1_0, s2_1, v12, (I 0)])
theorem e58 [Amb] (s1_0 s2_1 : Value) (K : Value → WT) : s58 s1_0 s2_1 K = shal Tryz.prog Tryz.f58 .p a58 [s1_0, s2_1] K := by kernel_rfl
theorem c58 [Amb] {s1_0 s2_1 : Value} {K : Value → WT} {w : World} (h : s58 s1_0 s2_1 K w) : CF Tryz.prog 58 [s1_0, s2_1] K w := shal_sound Tryz.func58 (e58 s1_0 s2_1 K ▸ h)

/-- maps.EqualFunc[map[string]aumbry/model.shot,map[string]aumbry/model.shot,string,aumbry/model.shot,aumbry/model.shot] -/
def a59 : Ann := .seq (.z) (.seq (.seq (.z) (.cond (.seq (.z) (.z)) (.z))) (.seq (.seq (.z) (.blk (.loop [1, 2, 17] (.seq (.z) (.seq (.cond (.z) (.z)) (.blk (.seq (.z) (.seq (.z) (.join [1, 2, 17, 37] (.z) (.cond (.seq (.z) (.z)) (.z))))))))))) (.seq (.z) (.z))))
def s59 [Amb] (m1_0 m2_1 eq_2 : Value) (K : Value → WT) : WT :=
 S.lenM m1_0 fun v12 =>
 S.lenM m2_1 fun v14 =>
 S.bin .neq v12 v14 fun v15 =>
 S.cond v15 (
 K (B false)) (
 V Tryz.prog (Instr.range 79 m1_0) fun v17 =>
 S.loop 3 (fun K0 => fun m2_1' eq_2' v17' => S.fa fun _ =>
 V Tryz.prog (Instr.next v17' false 0) fun v18 =>
 S.ext v18 0 fun v19 =>
 S.cond v19 (
 V Tryz.prog (Instr.entry v17') fun v20 =>
 S.ext v20 0 fun v21 =>
 S.ext v20 1 fun v22 =>
 S.lk .string (.map none) true m2_1' v21 fun v26 =>
 S.ext v26 0 fun v27 =>
 S.ext v26 1 fun v28 =>
 S.join 4 (fun K1 =>
 S.not1 v28 fun v30 =>
 S.gd v30 false (fun k => k eq_2') fun v32 =>
 S.gd v30 false (fun k => k v22) fun v33 =>
 S.gd v30 false (fun k => k v27) fun v34 =>
 S.gd v30 false (S.cvv Tryz.prog v32 [v33, v34]) fun v35 =>
 S.gd v30 false (S.not1 v35) fun v36 =>
 S.pick v30 (B true) v36 fun v37 =>
 K1 m2_1' eq_2' v17' v37)
 <| fun m2_1'2 eq_2'2 v17'2 v37' => S.fa fun _ =>
 S.cond v37' (
 K (B false)) (
 K0 m2_1'2 eq_2'2 v17'2)) (
 K (B true)))
 [m2_1, eq_2, v17])
theorem e59 [Amb] (m1_0 m2_1 eq_2 : Value) (K : Value → WT) : s59 m1_0 m2_1 eq_2 K = shal Tryz.prog Tryz.f59 .p a59 [m1_0, m2_1, eq_2] K := by kernel_rfl
theorem c59 [Amb] {m1_0 m2_1 eq_2 : Value} {K : Value → WT} {w : World} (h : s59 m1_0 m2_1 eq_2 K w) : CF Tryz.prog 59 [m1_0, m2_1, eq_2] K w := shal_sound Tryz.func59 (e59 m1_0 m2_1 eq_2 K ▸ h)

/-- (*aumbry/model.Model).Same$2 -/
def a60 : Ann := .seq (.z) (.seq (.z) (.z))
def s60 [Amb] (a_0 b_1 : Value) (K : Value → WT) : WT :=
 CF Tryz.prog 61 [a_0, b_1] fun v7 =>
 K v7
theorem e60 [Amb] (a_0 b_1 : Value) (K : Value → WT) : s60 a_0 b_1 K = shal Tryz.prog Tryz.f60 .p a60 [a_0, b_1] K := by kernel_rfl
theorem c60 [Amb] {a_0 b_1 : Value} {K : Value → WT} {w : World} (h : s60 a_0 b_1 K w) : CF Tryz.prog 60 [a_0, b_1] K w := shal_sound Tryz.func60 (e60 a_0 b_1 K ▸ h)

/-- maps.Equal[aumbry/model.shot,aumbry/model.shot,string,int] -/
def a61 : Ann := .seq (.z) (.seq (.seq (.z) (.cond (.seq (.z) (.z)) (.z))) (.seq (.seq (.z) (.blk (.loop [1, 15] (.seq (.z) (.seq (.cond (.z) (.z)) (.blk (.seq (.z) (.seq (.z) (.join [1, 15, 33] (.z) (.cond (.seq (.z) (.z)) (.z))))))))))) (.seq (.z) (.z))))
def s61 [Amb] (m1_0 m2_1 : Value) (K : Value → WT) : WT :=
 S.lenM m1_0 fun v10 =>
 S.lenM m2_1 fun v12 =>
 S.bin .neq v10 v12 fun v13 =>
 S.cond v13 (
 K (B false)) (
 V Tryz.prog (Instr.range 93 m1_0) fun v15 =>
 S.loop 2 (fun K0 => fun m2_1' v15' => S.fa fun _ =>
 V Tryz.prog (Instr.next v15' false 0) fun v16 =>
 S.ext v16 0 fun v17 =>
 S.cond v17 (
 V Tryz.prog (Instr.entry v15') fun v18 =>
 S.ext v18 0 fun v19 =>
 S.ext v18 1 fun v20 =>
 S.lk .string (.int .i64 0) true m2_1' v19 fun v24 =>
 S.ext v24 0 fun v25 =>
 S.ext v24 1 fun v26 =>
 S.join 3 (fun K1 =>
 S.not1 v26 fun v28 =>
 S.gd v28 false (fun k => k v20) fun v30 =>
 S.gd v28 false (fun k => k v25) fun v31 =>
 S.gd v28 false (S.bin .neq v30 v31) fun v32 =>
 S.pick v28 (B true) v32 fun v33 =>
 K1 m2_1' v15' v33)
 <| fun m2_1'2 v15'2 v33' => S.fa fun _ =>
 S.cond v33' (
 K (B false)) (
 K0 m2_1'2 v15'2)) (
 K (B true)))
 [m2_1, v15])
theorem e61 [Amb] (m1_0 m2_1 : Value) (K : Value → WT) : s61 m1_0 m2_1 K = shal Tryz.prog Tryz.f61 .p a61 [m1_0, m2_1] K := by kernel_rfl
theorem c61 [Amb] {m1_0 m2_1 : Value} {K : Value → WT} {w : World} (h : s61 m1_0 m2_1 K w) : CF Tryz.prog 61 [m1_0, m2_1] K w := shal_sound Tryz.func61 (e61 m1_0 m2_1 K ▸ h)

/-- slices.Sorted[string] -/
def a62 : Ann := .seq (.z) (.seq (.z) (.seq (.z) (.seq (.z) (.z))))
def s62 [Amb] (seq_0 : Value) (K : Value → WT) : WT :=
 CF Tryz.prog 87 [seq_0] fun v5 =>
 CF Tryz.prog 88 [v5] fun v7 =>
 K v5
theorem e62 [Amb] (seq_0 : Value) (K : Value → WT) : s62 seq_0 K = shal Tryz.prog Tryz.f62 .p a62 [seq_0] K := by kernel_rfl
theorem c62 [Amb] {seq_0 : Value} {K : Value → WT} {w : World} (h : s62 seq_0 K w) : CF Tryz.prog 62 [seq_0] K w := shal_sound Tryz.func62 (e62 seq_0 K ▸ h)

/-- maps.Keys[map[string][]aumbry/model.version,string,[]aumbry/model.version] -/
def a63 : Ann := .seq (.z) (.seq (.z) (.z))
def s63 [Amb] (m_0 : Value) (K : Value → WT) : WT :=
 S.box 78 m_0 fun m_1 =>
 K (.func (Go.Fn.func 89) #[] #[m_1])
theorem e63 [Amb] (m_0 : Value) (K : Value → WT) : s63 m_0 K = shal Tryz.prog Tryz.f63 .p a63 [m_0] K := by kernel_rfl
theorem c63 [Amb] {m_0 : Value} {K : Value → WT} {w : World} (h : s63 m_0 K w) : CF Tryz.prog 63 [m_0] K w := shal_sound Tryz.func63 (e63 m_0 K ▸ h)

/-- (*aumbry/model.Model).at -/
def a64 : Ann := .seq (.z) (.seq (.z) (.seq (.seq (.z) (.blk (.rf [] (.seq (.z) (.z)) (.blk (.join [6, 8, 32] (.z) (.cond (.seq (.z) (.z)) (.z))))))) (.seq (.z) (.z))))
def s64 (m_0 name_1 gen_2 : Value) (K : Value → WT) : WT :=
 S.box 3 gen_2 fun gen_5 =>
 S.box 3 (.int .i64 0) fun v6 =>
 S.nc m_0 fun v11 =>
 S.fad v11 0 fun v12 =>
 S.ld v12 fun v13 =>
 S.lk .string (.slice none 0 0) false v13 name_1 fun v15 =>
 CF Tryz.prog 90 [v15] fun v17 =>
 S.rf Tryz.prog v17 undef 2 (fun l0 go0 Z0 => fun v18 v19 =>
 S.box 98 (.agg #[(.int .i64 0), (.int .i64 0), (.string ⟨#[]⟩), (.bool false)]) fun v_9 =>
 S.st 4 v_9 v19 fun _ =>
 go0 <|
 S.join 3 (fun K1 =>
 S.fad v_9 3 fun v20 =>
 S.ld v20 fun v21 =>
 S.not1 v21 fun v22 =>
 S.gd v22 true (S.ld gen_5) fun v24 =>
 S.gd v22 true (S.bin .eql v24 (I 0)) fun v25 =>
 S.gd v22 true (fun k => k v25) fun v26 =>
 S.gd v26 false (S.fad v_9 0) fun v27 =>
 S.gd v26 false (S.ld v27) fun v28 =>
 S.gd v26 false (S.ld gen_5) fun v29 =>
 S.gd v26 false (S.bin .eql v28 v29) fun v30 =>
 S.gd v22 true (S.pick v26 (B true) v30) fun v31 =>
 S.pick v22 v31 (B false) fun v32 =>
 K1 v6 v18 v32)
 <| fun v6' i_8 v32' => S.fa fun _ =>
 S.cond v32' (
 S.st 1 v6' i_8 fun _ =>
 Z0 .rt) (
 Z0 .nrm))
 (fun m2 =>
 S.st 1 v6 (I (-1)) fun _ =>
 S.done m2 <|
 S.ld v6 fun v6'2 =>
 K v6'2)
 (fun m3 =>
 S.done m3 <|
 S.ld v6 fun v6'3 =>
 K v6'3)
 [
 ]
theorem e64 (m_0 name_1 gen_2 : Value) (K : Value → WT) : s64 m_0 name_1 gen_2 K = shal Tryz.prog Tryz.f64 .m a64 [m_0, name_1, gen_2] K := by kernel_rfl
theorem c64 {m_0 name_1 gen_2 : Value} {K : Value → WT} {w : World} (h : s64 m_0 name_1 gen_2 K w) : CF Tryz.prog 64 [m_0, name_1, gen_2] K w := shal_sound Tryz.func64 (e64 m_0 name_1 gen_2 K ▸ h)

/-- (*aumbry/aumbryref21.Model).size -/
def a65 : Ann := .seq (.z) (.seq (.z) (.seq (.seq (.z) (.blk (.loop [0, 3, 4] (.seq (.seq (.z) (.cond (.z) (.z))) (.seq (.blk (.z)) (.z)))))) (.seq (.seq (.z) (.blk (.loop [0, 3, 5] (.seq (.seq (.z) (.cond (.z) (.z))) (.seq (.blk (.z)) (.z)))))) (.seq (.z) (.z)))))
def s65 [Amb] (m_0 : Value) (K : Value → WT) : WT :=
 S.loop 3 (fun K0 => fun m_0' n_3 i_4 => S.fa fun _ =>
 S.nc m_0' fun v8 =>
 S.fad v8 0 fun v9 =>
 S.ld v9 fun v10 =>
 S.len v10 fun v11 =>
 S.bin .lss i_4 v11 fun v12 =>
 S.cond v12 (
 S.nc m_0' fun v17 =>
 S.fad v17 0 fun v18 =>
 S.ld v18 fun v19 =>
 S.ixS 5 v19 i_4 fun v21 =>
 S.fad v21 3 fun v22 =>
 S.ld v22 fun v23 =>
 S.lenS v23 fun v24 =>
 S.bin .add n_3 v24 fun v25 =>
 S.bin .add i_4 (I 1) fun v14 =>
 K0 m_0' v25 v14) (
 S.loop 3 (fun K1 => fun m_0'2 n_3' i_5 => S.fa fun _ =>
 S.nc m_0'2 fun v28 =>
 S.fad v28 2 fun v29 =>
 S.ld v29 fun v30 =>
 S.len v30 fun v31 =>
 S.bin .lss i_5 v31 fun v32 =>
 S.cond v32 (
 S.nc m_0'2 fun v37 =>
 S.fad v37 2 fun v38 =>
 S.ld v38 fun v39 =>
 S.ixS 3 v39 i_5 fun v41 =>
 S.fad v41 2 fun v42 =>
 S.ld v42 fun v43 =>
 S.lenS v43 fun v44 =>
 S.bin .add n_3' v44 fun v45 =>
 S.bin .add i_5 (I 1) fun v34 =>
 K1 m_0'2 v45 v34) (
 K n_3'))
 [m_0', n_3, (I 0)]))
 [m_0, (I 0), (I 0)]
theorem e65 [Amb] (m_0 : Value) (K : Value → WT) : s65 m_0 K = shal Tryz.prog Tryz.f65 .p a65 [m_0] K := by kernel_rfl
theorem c65 [Amb] {m_0 : Value} {K : Value → WT} {w : World} (h : s65 m_0 K w) : CF Tryz.prog 65 [m_0] K w := shal_sound Tryz.func65 (e65 m_0 K ▸ h)

/-- (*aumbry/aumbryref21.Model).count -/
def a66 : Ann := .seq (.z) (.seq (.z) (.seq (.seq (.z) (.blk (.loop [0, 1, 7, 8, 9, 10] (.seq (.seq (.z) (.cond (.z) (.z))) (.join [0, 1, 7, 8, 9, 10] (.blk (.join [0, 1, 7, 8, 9, 10] (.join [0, 1, 7, 8, 9, 10, 41] (.draw [0, 1, 2, 3, 4, 5, 6, 7, 8, 9, 10, 11, 12, 13, 14, 15, 16, 17, 18, 19, 20, 21]) (.cond (.z) (.z))) (.seq (.z) (.cond (.seq (.z) (.z)) (.z))))) (.z)))))) (.seq (.z) (.z))))
def s66 [Amb] (v0 v1 : Value) (K : Value → WT) : WT :=
 S.loop 6 (fun K0 => fun v0' v1' v7 v8 v9 v10 => S.fa fun _ =>
 S.nc v0' fun v13 =>
 S.fad v13 0 fun v14 =>
 S.ld v14 fun v15 =>
 S.len v15 fun v16 =>
 S.bin .lss v10 v16 fun v17 =>
 S.cond v17 (
 S.join 6 (fun K1 =>
 S.join 6 (fun K2 =>
 S.join 7 (fun K3 =>
 S.dr <|
 S.bin .eql v10 (I 0) fun v21 =>
 S.gd v21 false (fun k => k v0') fun v23 =>
 S.gd v21 false (S.nc v23) fun v24 =>
 S.gd v21 false (S.fad v24 0) fun v25 =>
 S.gd v21 false (S.ld v25) fun v26 =>
 S.gd v21 false (fun k => k v10) fun v27 =>
 S.gd v21 false (S.ixS 5 v26 v27) fun v28 =>
 S.gd v21 false (S.fad v28 0) fun v29 =>
 S.gd v21 false (S.ld v29) fun v30 =>
 S.gd v21 false (fun k => k v0') fun v31 =>
 S.gd v21 false (S.nc v31) fun v32 =>
 S.gd v21 false (S.fad v32 0) fun v33 =>
 S.gd v21 false (S.ld v33) fun v34 =>
 S.gd v21 false (fun k => k v10) fun v35 =>
 S.gd v21 false (S.bin .sub v35 (I 1)) fun v36 =>
 S.gd v21 false (S.ixS 5 v34 v36) fun v37 =>
 S.gd v21 false (S.fad v37 0) fun v38 =>
 S.gd v21 false (S.ld v38) fun v39 =>
 S.gd v21 false (S.sbin .neq v30 v39) fun v40 =>
 S.pick v21 (B true) v40 fun v41 =>
 K3 v0' v1' v7 v8 v9 v10 v41)
 <| fun v0'2 v1'2 v7' v8' v9' v10' v41' => S.fa fun _ =>
 S.cond v41' (
 S.bin .add v7' (I 1) fun v43 =>
 K2 v0'2 v1'2 v43 v8' v9' v10') (
 K2 v0'2 v1'2 v7' v8' v9' v10'))
 <| fun v0'3 v1'3 v7'2 v8'2 v9'2 v10'2 => S.fa fun _ =>
 S.nc v0'3 fun v45 =>
 S.fad v45 0 fun v46 =>
 S.ld v46 fun v47 =>
 S.ixS 5 v47 v10'2 fun v49 =>
 S.fad v49 0 fun v50 =>
 S.ld v50 fun v51 =>
 S.sbin .eql v51 v1'3 fun v53 =>
 S.cond v53 (
 S.bin .add v8'2 (I 1) fun v55 =>
 S.nc v0'3 fun v57 =>
 S.fad v57 0 fun v58 =>
 S.ld v58 fun v59 =>
 S.ixS 5 v59 v10'2 fun v61 =>
 S.fad v61 1 fun v62 =>
 S.ld v62 fun v63 =>
 K1 v0'3 v1'3 v7'2 v55 v63 v10'2) (
 K1 v0'3 v1'3 v7'2 v8'2 v9'2 v10'2))
 <| fun v0'4 v1'4 v7'3 v8'3 v9'3 v10'3 => S.fa fun _ =>
 S.bin .add v10'3 (I 1) fun v19 =>
 K0 v0'4 v1'4 v7'3 v8'3 v9'3 v19) (
 K (.tuple #[v7, v8, v9])))
 [v0, v1, (I 0), (I 0), (I 0), (I 0)]
theorem e66 [Amb] (v0 v1 : Value) (K : Value → WT) : s66 v0 v1 K = shal Tryz.prog Tryz.f66 .p a66 [v0, v1] K := by kernel_rfl
theorem c66 [Amb] {v0 v1 : Value} {K : Value → WT} {w : World} (h : s66 v0 v1 K w) : CF Tryz.prog 66 [v0, v1] K w := shal_sound Tryz.func66 (e66 v0 v1 K ▸ h)

/-- (*aumbry/aumbryref21.Model).shot -/
def a67 : Ann := .seq (.z) (.seq (.z) (.seq (.blk (.loop [0, 1, 6] (.seq (.join [0, 1, 6, 25] (.z) (.cond (.z) (.z))) (.blk (.z))))) (.seq (.draw [0, 1, 2, 3, 4, 5, 6, 7, 8, 9, 10, 11, 12, 13, 14, 15, 16, 17, 18, 19, 20, 21]) (.z))))
def s67 [Amb] (m_0 name_1 : Value) (K : Value → WT) : WT :=
 S.loop 3 (fun K0 => fun m_0' name_1' i_6 => S.fa fun _ =>
 S.join 4 (fun K1 =>
 S.nc m_0' fun v9 =>
 S.fad v9 1 fun v10 =>
 S.ld v10 fun v11 =>
 S.len v11 fun v12 =>
 S.bin .lss i_6 v12 fun v13 =>
 S.gd v13 true (fun k => k m_0') fun v15 =>
 S.gd v13 true (S.nc v15) fun v16 =>
 S.gd v13 true (S.fad v16 1) fun v17 =>
 S.gd v13 true (S.ld v17) fun v18 =>
 S.gd v13 true (fun k => k i_6) fun v19 =>
 S.gd v13 true (S.ixS 2 v18 v19) fun v20 =>
 S.gd v13 true (S.fad v20 0) fun v21 =>
 S.gd v13 true (S.ld v21) fun v22 =>
 S.gd v13 true (fun k => k name_1') fun v23 =>
 S.gd v13 true (S.sbin .lss v22 v23) fun v24 =>
 S.pick v13 v24 (B false) fun v25 =>
 K1 m_0' name_1' i_6 v25)
 <| fun m_0'2 name_1'2 i_6' v25' => S.fa fun _ =>
 S.cond v25' (
 S.bin .add i_6' (I 1) fun v27 =>
 K0 m_0'2 name_1'2 v27) (
 S.dr <|
 S.nc m_0'2 fun v31 =>
 S.fad v31 1 fun v32 =>
 S.ld v32 fun v33 =>
 S.len v33 fun v34 =>
 S.bin .lss i_6' v34 fun v35 =>
 S.gd v35 true (fun k => k m_0'2) fun v37 =>
 S.gd v35 true (S.nc v37) fun v38 =>
 S.gd v35 true (S.fad v38 1) fun v39 =>
 S.gd v35 true (S.ld v39) fun v40 =>
 S.gd v35 true (fun k => k i_6') fun v41 =>
 S.gd v35 true (S.ixS 2 v40 v41) fun v42 =>
 S.gd v35 true (S.fad v42 0) fun v43 =>
 S.gd v35 true (S.ld v43) fun v44 =>
 S.gd v35 true (fun k => k name_1'2) fun v45 =>
 S.gd v35 true (S.sbin .eql v44 v45) fun v46 =>
 S.pick v35 v46 (B false) fun v47 =>
 K (.tuple #[i_6', v47])))
 [m_0, name_1, (I 0)]
theorem e67 [Amb] (m_0 name_1 : Value) (K : Value → WT) : s67 m_0 name_1 K = shal Tryz.prog Tryz.f67 .p a67 [m_0, name_1] K := by kernel_rfl
theorem c67 [Amb] {m_0 name_1 : Value} {K : Value → WT} {w : World} (h : s67 m_0 name_1 K w) : CF Tryz.prog 67 [m_0, name_1] K w := shal_sound Tryz.func67 (e67 m_0 name_1 K ▸ h)

/-- (*aumbry/aumbryref21.Model).stays -/
def a68 : Ann := .seq (.z) (.seq (.z) (.seq (.z) (.seq (.z) (.seq (.seq (.z) (.blk (.loop [0, 4, 5, 7, 8, 9, 10] (.seq (.seq (.z) (.cond (.z) (.z))) (.join [0, 4, 5, 7, 8, 9, 10] (.blk (.seq (.z) (.seq (.join [0, 4, 5, 7, 8, 9, 10, 11, 39] (.z) (.cond (.z) (.z))) (.join [0, 4, 5, 7, 8, 9, 10, 11] (.seq (.z) (.cond (.seq (.z) (.draw [0, 1, 2, 3, 4, 5, 6, 7, 8, 9, 10, 11, 12, 13, 14])) (.z))) (.seq (.draw [0, 1, 2, 3, 4, 5, 6, 7, 8, 9, 10]) (.cond (.seq (.z) (.seq (.seq (.z) (.blk (.loop [0, 4, 5, 7, 8, 9, 10, 11, 12, 13] (.seq (.seq (.z) (.cond (.z) (.z))) (.seq (.blk (.draw [0, 1, 2, 3, 4, 5, 6, 7, 8, 9, 10, 11, 12, 13])) (.z)))))) (.seq (.z) (.cond (.z) (.z))))) (.z))))))) (.z)))))) (.seq (.draw [0, 1, 2, 3, 4, 5, 6, 7, 8, 9, 10, 11, 12, 13, 14, 15, 16, 17, 18, 19, 20, 21, 22, 23, 24, 25, 26, 27]) (.z))))))
def s68 [Amb] (v0 v1 v2 : Value) (K : Value → WT) : WT :=
 S.box 102 v1 fun v4 =>
 S.box 37 v2 fun v5 =>
 V Tryz.prog (Instr.buildSlice 48 0 #[]) fun v14 =>
 S.loop 7 (fun K0 => fun v0' v4' v5' v7 v8 v9 v10 => S.fa fun _ =>
 S.nc v0' fun v17 =>
 S.fad v17 0 fun v18 =>
 S.ld v18 fun v19 =>
 S.len v19 fun v20 =>
 S.bin .lss v10 v20 fun v21 =>
 S.cond v21 (
 S.join 7 (fun K1 =>
 S.nc v0' fun v25 =>
 S.fad v25 0 fun v26 =>
 S.ld v26 fun v27 =>
 S.ixS 5 v27 v10 fun v29 =>
 S.ldN 5 v29 fun v30 =>
 S.box 102 (.agg #[(.string ⟨#[]⟩), (.int .i64 0), (.int .i64 0), (.string ⟨#[]⟩), (.bool false)]) fun v11 =>
 S.st 5 v11 v30 fun _ =>
 S.join 9 (fun K2 =>
 S.fad v11 0 fun v31 =>
 S.ld v31 fun v32 =>
 S.fad v4' 0 fun v33 =>
 S.ld v33 fun v34 =>
 S.sbin .neq v32 v34 fun v35 =>
 S.gd v35 false (S.fad v11 4) fun v37 =>
 S.gd v35 false (S.ld v37) fun v38 =>
 S.pick v35 (B true) v38 fun v39 =>
 K2 v0' v4' v5' v7 v8 v9 v10 v11 v39)
 <| fun v0'2 v4'2 v5'2 v7' v8' v9' v10' v11' v39' => S.fa fun _ =>
 S.cond v39' (
 K1 v0'2 v4'2 v5'2 v7' v8' v9' v10') (
 S.join 8 (fun K3 =>
 S.fad v11' 1 fun v40 =>
 S.ld v40 fun v41 =>
 S.fad v4'2 1 fun v42 =>
 S.ld v42 fun v43 =>
 S.bin .gtr v41 v43 fun v44 =>
 S.cond v44 (
 S.bin .add v7' (I 1) fun v46 =>
 S.dr <|
 S.gd v8' false (S.fad v11' 2) fun v49 =>
 S.gd v8' false (S.ld v49) fun v50 =>
 S.gd v8' false (S.fad v5'2 2) fun v51 =>
 S.gd v8' false (S.ld v51) fun v52 =>
 S.gd v8' false (S.bin .quo v50 v52) fun v53 =>
 S.gd v8' false (S.fad v4'2 2) fun v54 =>
 S.gd v8' false (S.ld v54) fun v55 =>
 S.gd v8' false (S.fad v5'2 2) fun v56 =>
 S.gd v8' false (S.ld v56) fun v57 =>
 S.gd v8' false (S.bin .quo v55 v57) fun v58 =>
 S.gd v8' false (S.bin .eql v53 v58) fun v59 =>
 S.pick v8' (B true) v59 fun v60 =>
 K3 v0'2 v4'2 v5'2 v46 v60 v9' v10' v11') (
 K3 v0'2 v4'2 v5'2 v7' v8' v9' v10' v11'))
 <| fun v0'3 v4'3 v5'3 v7'2 v8'2 v9'2 v10'2 v11'2 => S.fa fun _ =>
 S.dr <|
 S.fad v11'2 2 fun v61 =>
 S.ld v61 fun v62 =>
 S.fad v5'3 2 fun v63 =>
 S.ld v63 fun v64 =>
 S.bin .quo v62 v64 fun v65 =>
 S.fad v4'3 2 fun v66 =>
 S.ld v66 fun v67 =>
 S.fad v5'3 2 fun v68 =>
 S.ld v68 fun v69 =>
 S.bin .quo v67 v69 fun v70 =>
 S.bin .gtr v65 v70 fun v71 =>
 S.cond v71 (
 S.loop 10 (fun K4 => fun v0'4 v4'4 v5'4 v7'3 v8'3 v9'3 v10'3 v11'3 v12 v13 => S.fa fun _ =>
 S.len v9'3 fun v74 =>
 S.bin .lss v13 v74 fun v75 =>
 S.cond v75 (
 S.dr <|
 S.gd v12 false (fun k => k v9'3) fun v80 =>
 S.gd v12 false (fun k => k v13) fun v81 =>
 S.gd v12 false (S.ixS 1 v80 v81) fun v82 =>
 S.gd v12 false (S.ld v82) fun v83 =>
 S.gd v12 false (S.fad v11'3 2) fun v84 =>
 S.gd v12 false (S.ld v84) fun v85 =>
 S.gd v12 false (S.fad v5'4 2) fun v86 =>
 S.gd v12 false (S.ld v86) fun v87 =>
 S.gd v12 false (S.bin .quo v85 v87) fun v88 =>
 S.gd v12 false (S.bin .eql v83 v88) fun v89 =>
 S.pick v12 (B true) v89 fun v90 =>
 S.bin .add v13 (I 1) fun v77 =>
 K4 v0'4 v4'4 v5'4 v7'3 v8'3 v9'3 v10'3 v11'3 v90 v77) (
 S.not1 v12 fun v92 =>
 S.cond v92 (
 S.fad v11'3 2 fun v94 =>
 S.ld v94 fun v95 =>
 S.fad v5'4 2 fun v96 =>
 S.ld v96 fun v97 =>
 S.bin .quo v95 v97 fun v98 =>
 V Tryz.prog (Instr.buildSlice 48 1 #[(0, v98)]) fun v99 =>
 V Tryz.prog (Builtin.append_ #[48, 48] 48 #[v9'3, v99]) fun v100 =>
 K1 v0'4 v4'4 v5'4 v7'3 v8'3 v100 v10'3) (
 K1 v0'4 v4'4 v5'4 v7'3 v8'3 v9'3 v10'3)))
 [v0'3, v4'3, v5'3, v7'2, v8'2, v9'2, v10'2, v11'2, (B false), (I 0)]) (
 K1 v0'3 v4'3 v5'3 v7'2 v8'2 v9'2 v10'2)))
 <| fun v0'5 v4'5 v5'5 v7'4 v8'4 v9'4 v10'4 => S.fa fun _ =>
 S.bin .add v10'4 (I 1) fun v23 =>
 K0 v0'5 v4'5 v5'5 v7'4 v8'4 v9'4 v23) (
 S.dr <|
 S.fad v5' 0 fun v102 =>
 S.ld v102 fun v103 =>
 S.bin .lss v7 v103 fun v104 =>
 S.gd v104 false (S.fad v4' 2) fun v106 =>
 S.gd v104 false (S.ld v106) fun v107 =>
 S.gd v104 false (fun k => k v0') fun v108 =>
 S.gd v104 false (S.nc v108) fun v109 =>
 S.gd v104 false (S.fad v109 4) fun v110 =>
 S.gd v104 false (S.ld v110) fun v111 =>
 S.gd v104 false (S.fad v5' 1) fun v112 =>
 S.gd v104 false (S.ld v112) fun v113 =>
 S.gd v104 false (S.bin .sub v111 v113) fun v114 =>
 S.gd v104 false (S.bin .gtr v107 v114) fun v115 =>
 S.pick v104 (B true) v115 fun v116 =>
 S.gd v116 false (fun k => k v8) fun v118 =>
 S.gd v116 false (S.not1 v118) fun v119 =>
 S.gd v116 false (fun k => k v119) fun v120 =>
 S.gd v120 true (fun k => k v9) fun v121 =>
 S.gd v120 true (S.len v121) fun v122 =>
 S.gd v120 true (S.fad v5' 3) fun v123 =>
 S.gd v120 true (S.ld v123) fun v124 =>
 S.gd v120 true (S.bin .lss v122 v124) fun v125 =>
 S.gd v116 false (S.pick v120 v125 (B false)) fun v126 =>
 S.pick v116 (B true) v126 fun v127 =>
 K v127))
 [v0, v4, v5, (I 0), (B false), v14, (I 0)]
theorem e68 [Amb] (v0 v1 v2 : Value) (K : Value → WT) : s68 v0 v1 v2 K = shal Tryz.prog Tryz.f68 .p a68 [v0, v1, v2] K := by kernel_rfl
theorem c68 [Amb] {v0 v1 v2 : Value} {K : Value → WT} {w : World} (h : s68 v0 v1 v2 K w) : CF Tryz.prog 68 [v0, v1, v2] K w := shal_sound Tryz.func68 (e68 v0 v1 v2 K ▸ h)

/-- aumbry/record.Name -/
def a69 : Ann := .seq (.z) (.seq (.seq (.z) (.blk (.loop [0, 5, 6] (.seq (.z) (.seq (.cond (.z) (.z)) (.seq (.blk (.seq (.z) (.join [0, 5, 6, 18] (.z) (.cond (.seq (.z) (.z)) (.z))))) (.z))))))) (.seq (.z) (.z)))
def s69 [Amb] (s_0 : Value) (K : Value → WT) : WT :=
 S.lenS s_0 fun v5 =>
 S.loop 3 (fun K0 => fun s_0' v5' v6 => S.fa fun _ =>
 S.bin .lss v6 v5' fun v7 =>
 S.cond v7 (
 S.join 4 (fun K1 =>
 S.chr s_0' v6 fun v11 =>
 S.bin .lss v11 (.int .u8 33) fun v12 =>
 S.gd v12 false (fun k => k s_0') fun v14 =>
 S.gd v12 false (fun k => k v6) fun v15 =>
 S.gd v12 false (S.chr v14 v15) fun v16 =>
 S.gd v12 false (S.bin .gtr v16 (.int .u8 126)) fun v17 =>
 S.pick v12 (B true) v17 fun v18 =>
 K1 s_0' v5' v6 v18)
 <| fun s_0'2 v5'2 v6' v18' => S.fa fun _ =>
 S.cond v18' (
 K (B false)) (
 S.bin .add v6' (I 1) fun v19 =>
 K0 s_0'2 v5'2 v19)) (
 S.sbin .neq s_0' (.string ⟨#[]⟩) fun v21 =>
 S.gd v21 true (fun k => k s_0') fun v23 =>
 S.gd v21 true (S.lenS v23) fun v24 =>
 S.gd v21 true (S.bin .leq v24 (I 32)) fun v25 =>
 S.pick v21 v25 (B false) fun v26 =>
 K v26))
 [s_0, v5, (I 0)]
theorem e69 [Amb] (s_0 : Value) (K : Value → WT) : s69 s_0 K = shal Tryz.prog Tryz.f69 .p a69 [s_0] K := by kernel_rfl
theorem c69 [Amb] {s_0 : Value} {K : Value → WT} {w : World} (h : s69 s_0 K w) : CF Tryz.prog 69 [s_0] K w := shal_sound Tryz.func69 (e69 s_0 K ▸ h)

/-- (*aumbry/model.Model).lost -/
def a70 : Ann := .seq (.z) (.seq (.z) (.seq (.z) (.z)))
def s70 [Amb] (m_0 n_1 e_2 : Value) (K : Value → WT) : WT :=
 S.box 33 (.agg #[(.int .i64 0), (.int .i64 0), (.slice none 0 0), (.slice none 0 0)]) fun v6 =>
 S.nc m_0 fun v8 =>
 S.fad v8 2 fun v9 =>
 S.ld v9 fun v10 =>
 V Tryz.prog (Builtin.delete_ #[80, 3] 0 #[v10, n_1]) fun _ =>
 CF Tryz.prog 39 [e_2] fun v13 =>
 S.st 4 v6 v13 fun _ =>
 S.ldN 4 v6 fun v6' =>
 K v6'
theorem e70 [Amb] (m_0 n_1 e_2 : Value) (K : Value → WT) : s70 m_0 n_1 e_2 K = shal Tryz.prog Tryz.f70 .p a70 [m_0, n_1, e_2] K := by kernel_rfl
theorem c70 [Amb] {m_0 n_1 e_2 : Value} {K : Value → WT} {w : World} (h : s70 m_0 n_1 e_2 K w) : CF Tryz.prog 70 [m_0, n_1, e_2] K w := shal_sound Tryz.func70 (e70 m_0 n_1 e_2 K ▸ h)

/-- (*aumbry/model.Model).size -/
def a71 : Ann := .seq (.z) (.seq (.z) (.seq (.seq (.z) (.blk (.loop [0, 3, 14] (.seq (.z) (.seq (.cond (.z) (.z)) (.blk (.seq (.z) (.seq (.z) (.blk (.loop [0, 3, 14, 19, 20, 21] (.seq (.z) (.seq (.cond (.z) (.z)) (.seq (.blk (.seq (.z) (.z))) (.z)))))))))))))) (.seq (.seq (.z) (.blk (.loop [3, 35] (.seq (.z) (.seq (.cond (.z) (.z)) (.blk (.seq (.z) (.z)))))))) (.seq (.z) (.z)))))
def s71 [Amb] (m_0 : Value) (K : Value → WT) : WT :=
 S.nc m_0 fun v11 =>
 S.fad v11 0 fun v12 =>
 S.ld v12 fun v13 =>
 V Tryz.prog (Instr.range 78 v13) fun v14 =>
 S.loop 3 (fun K0 => fun m_0' n_3 v14' => S.fa fun _ =>
 V Tryz.prog (Instr.next v14' false 0) fun v15 =>
 S.ext v15 0 fun v16 =>
 S.cond v16 (
 V Tryz.prog (Instr.entry v14') fun v17 =>
 S.ext v17 1 fun v18 =>
 S.len v18 fun v20 =>
 S.loop 6 (fun K1 => fun m_0'2 n_3' v14'2 v19 v20' v21 => S.fa fun _ =>
 S.bin .lss v21 v20' fun v22 =>
 S.cond v22 (
 S.ixS 4 v19 v21 fun v23 =>
 S.ldN 4 v23 fun v24 =>
 S.box 98 (.agg #[(.int .i64 0), (.int .i64 0), (.string ⟨#[]⟩), (.bool false)]) fun v_7 =>
 S.st 4 v_7 v24 fun _ =>
 S.fad v_7 2 fun v26 =>
 S.ld v26 fun v27 =>
 S.lenS v27 fun v28 =>
 S.bin .add n_3' v28 fun v29 =>
 S.bin .add v21 (I 1) fun v30 =>
 K1 m_0'2 v29 v14'2 v19 v20' v30) (
 K0 m_0'2 n_3' v14'2))
 [m_0', n_3, v14', v18, v20, (I 0)]) (
 S.nc m_0' fun v32 =>
 S.fad v32 2 fun v33 =>
 S.ld v33 fun v34 =>
 V Tryz.prog (Instr.range 80 v34) fun v35 =>
 S.loop 2 (fun K2 => fun n_3'2 v35' => S.fa fun _ =>
 V Tryz.prog (Instr.next v35' false 0) fun v36 =>
 S.ext v36 0 fun v37 =>
 S.cond v37 (
 V Tryz.prog (Instr.entry v35') fun v38 =>
 S.ext v38 1 fun v39 =>
 S.box 88 (.agg #[(.string ⟨#[]⟩), (.string ⟨#[]⟩)]) fun s_9 =>
 S.st 2 s_9 v39 fun _ =>
 S.fad s_9 1 fun v41 =>
 S.ld v41 fun v42 =>
 S.lenS v42 fun v43 =>
 S.bin .add n_3'2 v43 fun v44 =>
 K2 v44 v35') (
 K n_3'2))
 [n_3, v35]))
 [m_0, (I 0), v14]
theorem e71 [Amb] (m_0 : Value) (K : Value → WT) : s71 m_0 K = shal Tryz.prog Tryz.f71 .p a71 [m_0] K := by kernel_rfl
theorem c71 [Amb] {m_0 : Value} {K : Value → WT} {w : World} (h : s71 m_0 K w) : CF Tryz.prog 71 [m_0] K w := shal_sound Tryz.func71 (e71 m_0 K ▸ h)

/-- slices.Clone[[]aumbry/model.version,aumbry/model.version] -/
def a72 : Ann := .seq (.z) (.seq (.seq (.z) (.cond (.seq (.z) (.z)) (.z))) (.seq (.z) (.z)))
def s72 [Amb] (s_0 : Value) (K : Value → WT) : WT :=
 S.eqv Tryz.prog .eql 90 true s_0 (.slice none 0 0) fun v4 =>
 S.cond v4 (
 K (.slice none 0 0)) (
 V Tryz.prog (Instr.buildSlice 90 0 #[]) fun v5 =>
 V Tryz.prog (Builtin.append_ #[90, 90] 90 #[v5, s_0]) fun v7 =>
 K v7)
theorem e72 [Amb] (s_0 : Value) (K : Value → WT) : s72 s_0 K = shal Tryz.prog Tryz.f72 .p a72 [s_0] K := by kernel_rfl
theorem c72 [Amb] {s_0 : Value} {K : Value → WT} {w : World} (h : s72 s_0 K w) : CF Tryz.prog 72 [s_0] K w := shal_sound Tryz.func72 (e72 s_0 K ▸ h)

/-- (*aumbry/model.Model).read -/
def a73 : Ann := .seq (.z) (.seq (.z) (.seq (.seq (.z) (.cond (.seq (.z) (.z)) (.z))) (.seq (.z) (.z))))
def s73 [Amb] (m_0 o_1 : Value) (K : Value → WT) : WT :=
 S.box 42 o_1 fun o_3 =>
 S.box 33 (.agg #[(.int .i64 0), (.int .i64 0), (.slice none 0 0), (.slice none 0 0)]) fun v4 =>
 S.ldN 15 o_3 fun v9 =>
 CF Tryz.prog 91 [m_0, v9] fun v10 =>
 S.ext v10 0 fun v11 =>
 S.ext v10 1 fun v12 =>
 S.not1 v12 fun v14 =>
 S.cond v14 (
 CF Tryz.prog 39 [(I 9)] fun v15 =>
 S.st 4 v4 v15 fun _ =>
 S.ldN 4 v4 fun v4' =>
 K v4') (
 V Tryz.prog (convert 9 27 v11) fun v17 =>
 V Tryz.prog (Instr.build 33 #[(2, v17)]) fun v18 =>
 S.st 4 v4 v18 fun _ =>
 S.ldN 4 v4 fun v4'2 =>
 K v4'2)
theorem e73 [Amb] (m_0 o_1 : Value) (K : Value → WT) : s73 m_0 o_1 K = shal Tryz.prog Tryz.f73 .p a73 [m_0, o_1] K := by kernel_rfl
theorem c73 [Amb] {m_0 o_1 : Value} {K : Value → WT} {w : World} (h : s73 m_0 o_1 K w) : CF Tryz.prog 73 [m_0, o_1] K w := shal_sound Tryz.func73 (e73 m_0 o_1 K ▸ h)

/-- (*aumbry/model.Model).cut -/
def a74 : Ann := .seq (.z) (.seq (.z) (.seq (.blk (.seq (.z) (.cond (.seq (.z) (.z)) (.join [3, 4, 5, 17] (.z) (.cond (.seq (.z) (.z)) (.z)))))) (.seq (.z) (.seq (.z) (.z)))))
def s74 [Amb] (m_0 o_1 : Value) (K : Value → WT) : WT :=
 S.box 42 o_1 fun o_3 =>
 S.box 33 (.agg #[(.int .i64 0), (.int .i64 0), (.slice none 0 0), (.slice none 0 0)]) fun v4 =>
 S.ldN 15 o_3 fun v9 =>
 CF Tryz.prog 91 [m_0, v9] fun v10 =>
 S.ext v10 0 fun v11 =>
 S.ext v10 1 fun v12 =>
 S.not1 v12 fun v15 =>
 S.cond v15 (
 CF Tryz.prog 39 [(I 9)] fun v16 =>
 S.st 4 v4 v16 fun _ =>
 S.ldN 4 v4 fun v4' =>
 K v4') (
 S.join 4 (fun K0 =>
 S.fad o_3 5 fun v18 =>
 S.ld v18 fun v19 =>
 S.bin .lss v19 (I 0) fun v20 =>
 S.gd v20 false (S.fad o_3 5) fun v22 =>
 S.gd v20 false (S.ld v22) fun v23 =>
 S.gd v20 false (fun k => k v11) fun v24 =>
 S.gd v20 false (S.lenS v24) fun v25 =>
 S.gd v20 false (S.bin .gtr v23 v25) fun v26 =>
 S.pick v20 (B true) v26 fun v27 =>
 S.gd v27 false (S.fad o_3 6) fun v29 =>
 S.gd v27 false (S.ld v29) fun v30 =>
 S.gd v27 false (S.bin .lss v30 (I 0)) fun v31 =>
 S.pick v27 (B true) v31 fun v32 =>
 K0 o_3 v4 v11 v32)
 <| fun o_3' v4'2 s_5 v17 => S.fa fun _ =>
 S.cond v17 (
 CF Tryz.prog 39 [(I 2)] fun v33 =>
 S.st 4 v4'2 v33 fun _ =>
 S.ldN 4 v4'2 fun v4'3 =>
 K v4'3) (
 S.fad o_3' 5 fun v35 =>
 S.ld v35 fun v36 =>
 S.slcS s_5 (some v36) none fun v37 =>
 S.fad o_3' 6 fun v39 =>
 S.ld v39 fun v40 =>
 S.lenS v37 fun v42 =>
 S.mn v40 v42 fun v43 =>
 S.slcS v37 none (some v43) fun v44 =>
 V Tryz.prog (convert 9 27 v44) fun v45 =>
 V Tryz.prog (Instr.build 33 #[(2, v45)]) fun v46 =>
 S.st 4 v4'2 v46 fun _ =>
 S.ldN 4 v4'2 fun v4'4 =>
 K v4'4))
theorem e74 [Amb] (m_0 o_1 : Value) (K : Value → WT) : s74 m_0 o_1 K = shal Tryz.prog Tryz.f74 .p a74 [m_0, o_1] K := by kernel_rfl
theorem c74 [Amb] {m_0 o_1 : Value} {K : Value → WT} {w : World} (h : s74 m_0 o_1 K w) : CF Tryz.prog 74 [m_0, o_1] K w := shal_sound Tryz.func74 (e74 m_0 o_1 K ▸ h)

/-- (*aumbry/model.Model).shown -/
def a75 : Ann := .seq (.z) (.seq (.draw [0, 1, 2, 3, 4, 5, 6, 7, 8, 9, 10, 11, 12, 13, 14, 15]) (.seq (.seq (.z) (.cond (.seq (.z) (.z)) (.z))) (.seq (.draw [0, 1, 2, 3, 4, 5, 6, 7, 8, 9]) (.seq (.draw [0, 1, 2, 3, 4, 5, 6, 7, 8, 9, 10, 11, 12, 13]) (.z)))))
def s75 [Amb] (m_0 o_1 : Value) (K : Value → WT) : WT :=
 S.box 42 o_1 fun o_3 =>
 S.box 33 (.agg #[(.int .i64 0), (.int .i64 0), (.slice none 0 0), (.slice none 0 0)]) fun v4 =>
 S.dr <|
 S.nc m_0 fun v10 =>
 S.fad v10 1 fun v11 =>
 S.ld v11 fun v12 =>
 S.fad o_3 3 fun v13 =>
 S.ld v13 fun v14 =>
 S.lk .string (.map none) false v12 v14 fun v15 =>
 S.fad o_3 2 fun v16 =>
 S.ld v16 fun v17 =>
 S.lk .string (.int .i64 0) true v15 v17 fun v18 =>
 S.ext v18 0 fun v19 =>
 S.ext v18 1 fun v20 =>
 S.box 3 (.int .i64 0) fun gen_5 =>
 S.rck [S.lk .string (.int .i64 0) true v15 v17 (fun v' _ => v' = v18), S.ld v16 (fun v' _ => v' = v17), S.lk .string (.map none) false v12 v14 (fun v' _ => v' = v15), S.ld v13 (fun v' _ => v' = v14), S.ld v11 (fun v' _ => v' = v12)] <|
 S.st 1 gen_5 v19 fun _ =>
 S.not1 v20 fun v22 =>
 S.cond v22 (
 CF Tryz.prog 39 [(I 9)] fun v23 =>
 S.st 4 v4 v23 fun _ =>
 S.ldN 4 v4 fun v4' =>
 K v4') (
 S.dr <|
 S.nc m_0 fun v25 =>
 S.fad v25 0 fun v26 =>
 S.ld v26 fun v27 =>
 S.fad o_3 2 fun v28 =>
 S.ld v28 fun v29 =>
 S.lk .string (.slice none 0 0) false v27 v29 fun v30 =>
 CF Tryz.prog 92 [v30, (.func (Go.Fn.func 93) #[] #[gen_5])] fun v32 =>
 S.dr <|
 S.nc m_0 fun v34 =>
 S.fad v34 0 fun v35 =>
 S.ld v35 fun v36 =>
 S.fad o_3 2 fun v37 =>
 S.ld v37 fun v38 =>
 S.lk .string (.slice none 0 0) false v36 v38 fun v39 =>
 S.ixS 4 v39 v32 fun v41 =>
 S.fad v41 2 fun v42 =>
 S.ld v42 fun v43 =>
 V Tryz.prog (convert 9 27 v43) fun v44 =>
 V Tryz.prog (Instr.build 33 #[(2, v44)]) fun v45 =>
 S.st 4 v4 v45 fun _ =>
 S.ldN 4 v4 fun v4'2 =>
 K v4'2)
theorem e75 [Amb] (m_0 o_1 : Value) (K : Value → WT) : s75 m_0 o_1 K = shal Tryz.prog Tryz.f75 .p a75 [m_0, o_1] K := by kernel_rfl
theorem c75 [Amb] {m_0 o_1 : Value} {K : Value → WT} {w : World} (h : s75 m_0 o_1 K w) : CF Tryz.prog 75 [m_0, o_1] K w := shal_sound Tryz.func75 (e75 m_0 o_1 K ▸ h)

/-- (*aumbry/model.Model).stat -/
def a76 : Ann := .seq (.z) (.seq (.z) (.seq (.seq (.z) (.cond (.seq (.z) (.z)) (.z))) (.seq (.z) (.z))))
def s76 [Amb] (m_0 o_1 : Value) (K : Value → WT) : WT :=
 S.box 42 o_1 fun o_3 =>
 S.box 33 (.agg #[(.int .i64 0), (.int .i64 0), (.slice none 0 0), (.slice none 0 0)]) fun v4 =>
 S.ldN 15 o_3 fun v9 =>
 CF Tryz.prog 91 [m_0, v9] fun v10 =>
 S.ext v10 0 fun v11 =>
 S.ext v10 1 fun v12 =>
 S.not1 v12 fun v14 =>
 S.cond v14 (
 CF Tryz.prog 39 [(I 9)] fun v15 =>
 S.st 4 v4 v15 fun _ =>
 S.ldN 4 v4 fun v4' =>
 K v4') (
 S.lenS v11 fun v17 =>
 V Tryz.prog (Instr.build 33 #[(1, v17)]) fun v18 =>
 S.st 4 v4 v18 fun _ =>
 S.ldN 4 v4 fun v4'2 =>
 K v4'2)
theorem e76 [Amb] (m_0 o_1 : Value) (K : Value → WT) : s76 m_0 o_1 K = shal Tryz.prog Tryz.f76 .p a76 [m_0, o_1] K := by kernel_rfl
theorem c76 [Amb] {m_0 o_1 : Value} {K : Value → WT} {w : World} (h : s76 m_0 o_1 K w) : CF Tryz.prog 76 [m_0, o_1] K w := shal_sound Tryz.func76 (e76 m_0 o_1 K ▸ h)

/-- (*aumbry/model.Model).drop -/
def a77 : Ann := .seq (.z) (.seq (.z) (.seq (.z) (.z)))
def s77 [Amb] (m_0 name_1 i_2 : Value) (K : Value → WT) : WT :=
 S.nc m_0 fun v8 =>
 S.fad v8 0 fun v9 =>
 S.ld v9 fun v10 =>
 S.lk .string (.slice none 0 0) false v10 name_1 fun v12 =>
 CF Tryz.prog 72 [v12] fun v13 =>
 S.ixS 4 v13 i_2 fun v16 =>
 S.fad v16 3 fun v17 =>
 S.st 1 v17 (B true) fun _ =>
 S.nc m_0 fun v19 =>
 S.fad v19 0 fun v20 =>
 S.ld v20 fun v21 =>
 U Tryz.prog (Instr.mapUpdate 78 v21 name_1 v13) fun _ =>
 CF Tryz.prog 78 [m_0] fun v25 =>
 K (.tuple #[])
theorem e77 [Amb] (m_0 name_1 i_2 : Value) (K : Value → WT) : s77 m_0 name_1 i_2 K = shal Tryz.prog Tryz.f77 .p a77 [m_0, name_1, i_2] K := by kernel_rfl
theorem c77 [Amb] {m_0 name_1 i_2 : Value} {K : Value → WT} {w : World} (h : s77 m_0 name_1 i_2 K w) : CF Tryz.prog 77 [m_0, name_1, i_2] K w := shal_sound Tryz.func77 (e77 m_0 name_1 i_2 K ▸ h)

/-- (*aumbry/model.Model).sweep -/
def a78 : Ann := .seq (.z) (.seq (.z) (.blk (.loop [1, 10, 11, 12] (.seq (.z) (.seq (.cond (.z) (.z)) (.join [1, 10, 11, 12] (.blk (.seq (.z) (.seq (.draw [0, 1, 2, 3, 4, 5, 7, 6, 8, 9]) (.seq (.draw [0, 1, 2, 3, 4, 5, 6]) (.seq (.z) (.cond (.draw [0, 1, 2, 3, 4, 5]) (.z))))))) (.z)))))))
def s78 [Amb] (m_0 : Value) (K : Value → WT) : WT :=
 S.box 23 m_0 fun m_1 =>
 S.ld m_1 fun v5 =>
 S.nc v5 fun v6 =>
 S.fad v6 0 fun v7 =>
 S.ld v7 fun v8 =>
 CF Tryz.prog 63 [v8] fun v9 =>
 CF Tryz.prog 62 [v9] fun v10 =>
 S.len v10 fun v11 =>
 S.loop 4 (fun K0 => fun m_1' v10' v11' v12 => S.fa fun _ =>
 S.bin .lss v12 v11' fun v13 =>
 S.cond v13 (
 S.join 4 (fun K1 =>
 S.ixS 1 v10' v12 fun v14 =>
 S.ld v14 fun v15 =>
 S.box 9 (.string ⟨#[]⟩) fun name_3 =>
 S.st 1 name_3 v15 fun _ =>
 S.dr <|
 S.ld m_1' fun v16 =>
 S.nc v16 fun v17 =>
 S.fad v17 0 fun v18 =>
 S.ld v18 fun v19 =>
 S.ld name_3 fun v20 =>
 S.lk .string (.slice none 0 0) false v19 v20 fun v21 =>
 CF Tryz.prog 72 [v21] fun v22 =>
 CF Tryz.prog 80 [v22, (.func (Go.Fn.func 94) #[] #[m_1', name_3])] fun v24 =>
 S.dr <|
 S.ld m_1' fun v25 =>
 S.nc v25 fun v26 =>
 S.fad v26 0 fun v27 =>
 S.ld v27 fun v28 =>
 S.ld name_3 fun v29 =>
 U Tryz.prog (Instr.mapUpdate 78 v28 v29 v24) fun _ =>
 S.len v24 fun v32 =>
 S.bin .eql v32 (I 0) fun v33 =>
 S.cond v33 (
 S.dr <|
 S.ld m_1' fun v34 =>
 S.nc v34 fun v35 =>
 S.fad v35 0 fun v36 =>
 S.ld v36 fun v37 =>
 S.ld name_3 fun v38 =>
 V Tryz.prog (Builtin.delete_ #[78, 9] 0 #[v37, v38]) fun _ =>
 K1 m_1' v10' v11' v12) (
 K1 m_1' v10' v11' v12))
 <| fun m_1'2 v10'2 v11'2 v12' => S.fa fun _ =>
 S.bin .add v12' (I 1) fun v39 =>
 K0 m_1'2 v10'2 v11'2 v39) (
 K (.tuple #[])))
 [m_1, v10, v11, (I 0)]
theorem e78 [Amb] (m_0 : Value) (K : Value → WT) : s78 m_0 K = shal Tryz.prog Tryz.f78 .p a78 [m_0] K := by kernel_rfl
theorem c78 [Amb] {m_0 : Value} {K : Value → WT} {w : World} (h : s78 m_0 K w) : CF Tryz.prog 78 [m_0] K w := shal_sound Tryz.func78 (e78 m_0 K ▸ h)

/-- aumbry/model.number -/
def a79 : Ann := .seq (.z) (.seq (.z) (.z))
def s79 [Amb] (n_0 : Value) (K : Value → WT) : WT :=
 S.bin .geq n_0 (I 0) fun v4 =>
 S.gd v4 true (fun k => k n_0) fun v6 =>
 S.gd v4 true (S.bin .leq v6 (I 9007199254740991)) fun v7 =>
 S.pick v4 v7 (B false) fun v8 =>
 K v8
theorem e79 [Amb] (n_0 : Value) (K : Value → WT) : s79 n_0 K = shal Tryz.prog Tryz.f79 .p a79 [n_0] K := by kernel_rfl
theorem c79 [Amb] {n_0 : Value} {K : Value → WT} {w : World} (h : s79 n_0 K w) : CF Tryz.prog 79 [n_0] K w := shal_sound Tryz.func79 (e79 n_0 K ▸ h)

/-- slices.DeleteFunc[[]aumbry/model.version,aumbry/model.version] -/
def a80 : Ann := .seq (.z) (.seq (.z) (.seq (.seq (.z) (.cond (.seq (.z) (.z)) (.z))) (.seq (.seq (.z) (.blk (.loop [0, 1, 5, 6] (.seq (.seq (.z) (.cond (.z) (.z))) (.join [0, 1, 5, 6] (.blk (.seq (.z) (.seq (.z) (.cond (.seq (.z) (.z)) (.z))))) (.z)))))) (.seq (.z) (.seq (.z) (.z))))))
def s80 [Amb] (s_0 del_1 : Value) (K : Value → WT) : WT :=
 CF Tryz.prog 92 [s_0, del_1] fun v10 =>
 S.bin .eql v10 (I (-1)) fun v12 =>
 S.cond v12 (
 K s_0) (
 S.bin .add v10 (I 1) fun v15 =>
 S.loop 4 (fun K0 => fun s_0' del_1' i_5 j_6 => S.fa fun _ =>
 S.len s_0' fun v18 =>
 S.bin .lss j_6 v18 fun v19 =>
 S.cond v19 (
 S.join 4 (fun K1 =>
 S.ixS 4 s_0' j_6 fun v24 =>
 S.ldN 4 v24 fun v25 =>
 S.box 98 (.agg #[(.int .i64 0), (.int .i64 0), (.string ⟨#[]⟩), (.bool false)]) fun v_7 =>
 S.st 4 v_7 v25 fun _ =>
 S.ldN 4 v_7 fun v27 =>
 S.cvv Tryz.prog del_1' [v27] fun v28 =>
 S.not1 v28 fun v29 =>
 S.cond v29 (
 S.ldN 4 v_7 fun v32 =>
 S.ixS 4 s_0' i_5 fun v33 =>
 S.st 4 v33 v32 fun _ =>
 S.bin .add i_5 (I 1) fun v35 =>
 K1 s_0' del_1' v35 j_6) (
 K1 s_0' del_1' i_5 j_6))
 <| fun s_0'2 del_1'2 i_5' j_6' => S.fa fun _ =>
 S.bin .add j_6' (I 1) fun v21 =>
 K0 s_0'2 del_1'2 i_5' v21) (
 S.slc 4 s_0' (some i_5) none none fun v38 =>
 V Tryz.prog (Builtin.clear_ #[90] 0 #[v38]) fun _ =>
 S.slc 4 s_0' none (some i_5) none fun v41 =>
 K v41))
 [s_0, del_1, v10, v15])
theorem e80 [Amb] (s_0 del_1 : Value) (K : Value → WT) : s80 s_0 del_1 K = shal Tryz.prog Tryz.f80 .p a80 [s_0, del_1] K := by kernel_rfl
theorem c80 [Amb] {s_0 del_1 : Value} {K : Value → WT} {w : World} (h : s80 s_0 del_1 K w) : CF Tryz.prog 80 [s_0, del_1] K w := shal_sound Tryz.func80 (e80 s_0 del_1 K ▸ h)

/-- (*aumbry/model.Model).expire$1 -/
def a81 : Ann := .seq (.z) (.seq (.z) (.z))
def s81 [Amb] (v_0 : Value) (K : Value → WT) : WT :=
 S.box 98 v_0 fun v_1 =>
 S.fad v_1 3 fun v3 =>
 S.ld v3 fun v4 =>
 K v4
theorem e81 [Amb] (v_0 : Value) (K : Value → WT) : s81 v_0 K = shal Tryz.prog Tryz.f81 .p a81 [v_0] K := by kernel_rfl
theorem c81 [Amb] {v_0 : Value} {K : Value → WT} {w : World} (h : s81 v_0 K w) : CF Tryz.prog 81 [v_0] K w := shal_sound Tryz.func81 (e81 v_0 K ▸ h)

/-- (*aumbry/model.Model).stays -/
def a82 : Ann := .seq (.z) (.seq (.join [1, 2, 7, 34] (.draw [0, 1, 2, 3, 4, 5, 6, 7, 8, 9, 10, 11, 12, 13, 14, 15, 16, 17, 18, 19, 20, 21]) (.cond (.seq (.z) (.z)) (.z))) (.seq (.z) (.seq (.seq (.z) (.blk (.loop [1, 2, 7, 9, 36, 37, 38] (.seq (.z) (.seq (.cond (.z) (.z)) (.join [1, 2, 7, 9, 36, 37, 38] (.blk (.seq (.z) (.seq (.z) (.seq (.join [1, 2, 7, 9, 12, 36, 37, 38, 62] (.draw [0, 1, 2, 3, 4, 5, 6, 7, 8, 9, 10, 11, 12, 13, 14]) (.cond (.seq (.z) (.z)) (.z))) (.seq (.draw [0, 1, 2, 3, 4, 5, 6, 7, 8, 9]) (.cond (.z) (.z))))))) (.z))))))) (.seq (.z) (.z)))))
def s82 [Amb] (v0 v1 v2 v3 : Value) (K : Value → WT) : WT :=
 S.box 37 v3 fun v7 =>
 S.join 4 (fun K0 =>
 S.dr <|
 S.len v1 fun v14 =>
 S.bin .sub v14 v2 fun v16 =>
 S.fad v7 0 fun v17 =>
 S.ld v17 fun v18 =>
 S.bin .leq v16 v18 fun v19 =>
 S.gd v19 false (fun k => k v1) fun v21 =>
 S.gd v19 false (fun k => k v2) fun v22 =>
 S.gd v19 false (S.ixS 4 v21 v22) fun v23 =>
 S.gd v19 false (S.fad v23 1) fun v24 =>
 S.gd v19 false (S.ld v24) fun v25 =>
 S.gd v19 false (fun k => k v0) fun v26 =>
 S.gd v19 false (S.nc v26) fun v27 =>
 S.gd v19 false (S.fad v27 4) fun v28 =>
 S.gd v19 false (S.ld v28) fun v29 =>
 S.gd v19 false (S.fad v7 1) fun v30 =>
 S.gd v19 false (S.ld v30) fun v31 =>
 S.gd v19 false (S.bin .sub v29 v31) fun v32 =>
 S.gd v19 false (S.bin .gtr v25 v32) fun v33 =>
 S.pick v19 (B true) v33 fun v34 =>
 K0 v1 v2 v7 v34)
 <| fun v1' v2' v7' v34' => S.fa fun _ =>
 S.cond v34' (
 K (B true)) (
 S.mkM fun v35 =>
 S.len v1' fun v37 =>
 S.loop 7 (fun K1 => fun v1'2 v2'2 v7'2 v9 v36 v37' v38 => S.fa fun _ =>
 S.bin .lss v38 v37' fun v39 =>
 S.cond v39 (
 S.join 7 (fun K2 =>
 S.ixS 4 v36 v38 fun v41 =>
 S.ldN 4 v41 fun v42 =>
 S.box 98 (.agg #[(.int .i64 0), (.int .i64 0), (.string ⟨#[]⟩), (.bool false)]) fun v11 =>
 S.st 4 v11 v42 fun _ =>
 S.fad v11 1 fun v43 =>
 S.ld v43 fun v44 =>
 S.fad v7'2 2 fun v45 =>
 S.ld v45 fun v46 =>
 S.bin .quo v44 v46 fun v47 =>
 S.join 9 (fun K3 =>
 S.dr <|
 S.ixS 4 v1'2 v2'2 fun v51 =>
 S.fad v51 1 fun v52 =>
 S.ld v52 fun v53 =>
 S.fad v7'2 2 fun v54 =>
 S.ld v54 fun v55 =>
 S.bin .quo v53 v55 fun v56 =>
 S.bin .eql v47 v56 fun v57 =>
 S.gd v57 true (fun k => k v38) fun v59 =>
 S.gd v57 true (fun k => k v2'2) fun v60 =>
 S.gd v57 true (S.bin .gtr v59 v60) fun v61 =>
 S.pick v57 v61 (B false) fun v62 =>
 K3 v1'2 v2'2 v7'2 v9 v47 v36 v37' v38 v62)
 <| fun v1'3 v2'3 v7'3 v9' v12 v36' v37'2 v38' v62' => S.fa fun _ =>
 S.cond v62' (
 K (B false)) (
 S.dr <|
 S.ixS 4 v1'3 v2'3 fun v66 =>
 S.fad v66 1 fun v67 =>
 S.ld v67 fun v68 =>
 S.fad v7'3 2 fun v69 =>
 S.ld v69 fun v70 =>
 S.bin .quo v68 v70 fun v71 =>
 S.bin .gtr v12 v71 fun v72 =>
 S.cond v72 (
 U Tryz.prog (Instr.mapUpdate 138 v9' v12 (B true)) fun _ =>
 K2 v1'3 v2'3 v7'3 v9' v36' v37'2 v38') (
 K2 v1'3 v2'3 v7'3 v9' v36' v37'2 v38')))
 <| fun v1'4 v2'4 v7'4 v9'2 v36'2 v37'3 v38'2 => S.fa fun _ =>
 S.bin .add v38'2 (I 1) fun v75 =>
 K1 v1'4 v2'4 v7'4 v9'2 v36'2 v37'3 v75) (
 S.lenM v9 fun v77 =>
 S.fad v7'2 3 fun v78 =>
 S.ld v78 fun v79 =>
 S.bin .lss v77 v79 fun v80 =>
 K v80))
 [v1', v2', v7', v35, v1', v37, (I 0)])
theorem e82 [Amb] (v0 v1 v2 v3 : Value) (K : Value → WT) : s82 v0 v1 v2 v3 K = shal Tryz.prog Tryz.f82 .p a82 [v0, v1, v2, v3] K := by kernel_rfl
theorem c82 [Amb] {v0 v1 v2 v3 : Value} {K : Value → WT} {w : World} (h : s82 v0 v1 v2 v3 K w) : CF Tryz.prog 82 [v0, v1, v2, v3] K w := shal_sound Tryz.func82 (e82 v0 v1 v2 v3 K ▸ h)

/-- slices.Collect[int] -/
def a83 : Ann := .seq (.z) (.seq (.z) (.z))
def s83 [Amb] (seq_0 : Value) (K : Value → WT) : WT :=
 CF Tryz.prog 96 [(.slice none 0 0), seq_0] fun v4 =>
 K v4
theorem e83 [Amb] (seq_0 : Value) (K : Value → WT) : s83 seq_0 K = shal Tryz.prog Tryz.f83 .p a83 [seq_0] K := by kernel_rfl
theorem c83 [Amb] {seq_0 : Value} {K : Value → WT} {w : World} (h : s83 seq_0 K w) : CF Tryz.prog 83 [seq_0] K w := shal_sound Tryz.func83 (e83 seq_0 K ▸ h)

/-- maps.Keys[map[int]aumbry/model.session,int,aumbry/model.session]$1 -/
def a85 : Ann := .seq (.z) (.blk (.loop [0, 5] (.seq (.z) (.seq (.cond (.z) (.z)) (.blk (.seq (.z) (.seq (.z) (.cond (.z) (.z)))))))))
def s85 [Amb] (yield_0 v1 : Value) (K : Value → WT) : WT :=
 S.ld v1 fun v4 =>
 V Tryz.prog (Instr.range 80 v4) fun v5 =>
 S.loop 2 (fun K0 => fun yield_0' v5' => S.fa fun _ =>
 V Tryz.prog (Instr.next v5' false 0) fun v6 =>
 S.ext v6 0 fun v7 =>
 S.cond v7 (
 V Tryz.prog (Instr.entry v5') fun v8 =>
 S.ext v8 0 fun v9 =>
 S.cvv Tryz.prog yield_0' [v9] fun v12 =>
 S.not1 v12 fun v13 =>
 S.cond v13 (
 K (.tuple #[])) (
 K0 yield_0' v5')) (
 K (.tuple #[])))
 [yield_0, v5]
theorem e85 [Amb] (yield_0 v1 : Value) (K : Value → WT) : s85 yield_0 v1 K = shal Tryz.prog Tryz.f85 .p a85 [yield_0, v1] K := by kernel_rfl
theorem c85 [Amb] {yield_0 v1 : Value} {K : Value → WT} {w : World} (h : s85 yield_0 v1 K w) : CF Tryz.prog 85 [yield_0, v1] K w := shal_sound Tryz.func85 (e85 yield_0 v1 K ▸ h)

/-- slices.Collect[string] -/
def a87 : Ann := .seq (.z) (.seq (.z) (.z))
def s87 [Amb] (seq_0 : Value) (K : Value → WT) : WT :=
 CF Tryz.prog 99 [(.slice none 0 0), seq_0] fun v4 =>
 K v4
theorem e87 [Amb] (seq_0 : Value) (K : Value → WT) : s87 seq_0 K = shal Tryz.prog Tryz.f87 .p a87 [seq_0] K := by kernel_rfl
theorem c87 [Amb] {seq_0 : Value} {K : Value → WT} {w : World} (h : s87 seq_0 K w) : CF Tryz.prog 87 [seq_0] K w := shal_sound Tryz.func87 (e87 seq_0 K ▸ h)

/-- maps.Keys[map[string][]aumbry/model.version,string,[]aumbry/model.version]$1 -/
def a89 : Ann := .seq (.z) (.blk (.loop [0, 5] (.seq (.z) (.seq (.cond (.z) (.z)) (.blk (.seq (.z) (.seq (.z) (.cond (.z) (.z)))))))))
def s89 [Amb] (yield_0 v1 : Value) (K : Value → WT) : WT :=
 S.ld v1 fun v4 =>
 V Tryz.prog (Instr.range 78 v4) fun v5 =>
 S.loop 2 (fun K0 => fun yield_0' v5' => S.fa fun _ =>
 V Tryz.prog (Instr.next v5' false 0) fun v6 =>
 S.ext v6 0 fun v7 =>
 S.cond v7 (
 V Tryz.prog (Instr.entry v5') fun v8 =>
 S.ext v8 0 fun v9 =>
 S.cvv Tryz.prog yield_0' [v9] fun v12 =>
 S.not1 v12 fun v13 =>
 S.cond v13 (
 K (.tuple #[])) (
 K0 yield_0' v5')) (
 K (.tuple #[])))
 [yield_0, v5]
theorem e89 [Amb] (yield_0 v1 : Value) (K : Value → WT) : s89 yield_0 v1 K = shal Tryz.prog Tryz.f89 .p a89 [yield_0, v1] K := by kernel_rfl
theorem c89 [Amb] {yield_0 v1 : Value} {K : Value → WT} {w : World} (h : s89 yield_0 v1 K w) : CF Tryz.prog 89 [yield_0, v1] K w := shal_sound Tryz.func89 (e89 yield_0 v1 K ▸ h)

/-- slices.Backward[[]aumbry/model.version,aumbry/model.version] -/
def a90 : Ann := .seq (.z) (.seq (.z) (.z))
def s90 [Amb] (s_0 : Value) (K : Value → WT) : WT :=
 S.box 90 s_0 fun s_1 =>
 K (.func (Go.Fn.func 101) #[] #[s_1])
theorem e90 [Amb] (s_0 : Value) (K : Value → WT) : s90 s_0 K = shal Tryz.prog Tryz.f90 .p a90 [s_0] K := by kernel_rfl
theorem c90 [Amb] {s_0 : Value} {K : Value → WT} {w : World} (h : s90 s_0 K w) : CF Tryz.prog 90 [s_0] K w := shal_sound Tryz.func90 (e90 s_0 K ▸ h)

/-- (*aumbry/model.Model).text -/
def a91 : Ann := .seq (.z) (.seq (.z) (.seq (.seq (.z) (.cond (.seq (.z) (.z)) (.z))) (.seq (.draw [0, 1, 2, 3, 4, 5, 6, 7, 8, 9, 10, 11, 12]) (.z))))
def s91 [Amb] (m_0 o_1 : Value) (K : Value → WT) : WT :=
 S.box 42 o_1 fun o_3 =>
 S.fad o_3 2 fun v8 =>
 S.ld v8 fun v9 =>
 S.fad o_3 4 fun v10 =>
 S.ld v10 fun v11 =>
 CF Tryz.prog 64 [m_0, v9, v11] fun v12 =>
 S.bin .lss v12 (I 0) fun v14 =>
 S.cond v14 (
 K (.tuple #[(.string ⟨#[]⟩), (B false)])) (
 S.dr <|
 S.nc m_0 fun v16 =>
 S.fad v16 0 fun v17 =>
 S.ld v17 fun v18 =>
 S.fad o_3 2 fun v19 =>
 S.ld v19 fun v20 =>
 S.lk .string (.slice none 0 0) false v18 v20 fun v21 =>
 S.ixS 4 v21 v12 fun v23 =>
 S.fad v23 2 fun v24 =>
 S.ld v24 fun v25 =>
 K (.tuple #[v25, (B true)]))
theorem e91 [Amb] (m_0 o_1 : Value) (K : Value → WT) : s91 m_0 o_1 K = shal Tryz.prog Tryz.f91 .p a91 [m_0, o_1] K := by kernel_rfl
theorem c91 [Amb] {m_0 o_1 : Value} {K : Value → WT} {w : World} (h : s91 m_0 o_1 K w) : CF Tryz.prog 91 [m_0, o_1] K w := shal_sound Tryz.func91 (e91 m_0 o_1 K ▸ h)

/-- slices.IndexFunc[[]aumbry/model.version,aumbry/model.version] -/
def a92 : Ann := .seq (.z) (.seq (.seq (.z) (.blk (.loop [0, 1, 7, 8] (.seq (.z) (.seq (.cond (.z) (.z)) (.seq (.blk (.seq (.z) (.seq (.z) (.cond (.seq (.z) (.z)) (.z))))) (.z))))))) (.seq (.z) (.z)))
def s92 [Amb] (s_0 f_1 : Value) (K : Value → WT) : WT :=
 S.len s_0 fun v7 =>
 S.loop 4 (fun K0 => fun s_0' f_1' v7' v8 => S.fa fun _ =>
 S.bin .lss v8 v7' fun v9 =>
 S.cond v9 (
 S.ixS 4 s_0' v8 fun v14 =>
 S.ldN 4 v14 fun v15 =>
 S.cvv Tryz.prog f_1' [v15] fun v16 =>
 S.cond v16 (
 K v8) (
 S.bin .add v8 (I 1) fun v18 =>
 K0 s_0' f_1' v7' v18)) (
 K (I (-1))))
 [s_0, f_1, v7, (I 0)]
theorem e92 [Amb] (s_0 f_1 : Value) (K : Value → WT) : s92 s_0 f_1 K = shal Tryz.prog Tryz.f92 .p a92 [s_0, f_1] K := by kernel_rfl
theorem c92 [Amb] {s_0 f_1 : Value} {K : Value → WT} {w : World} (h : s92 s_0 f_1 K w) : CF Tryz.prog 92 [s_0, f_1] K w := shal_sound Tryz.func92 (e92 s_0 f_1 K ▸ h)

/-- (*aumbry/model.Model).shown$1 -/
def a93 : Ann := .seq (.z) (.seq (.z) (.z))
def s93 [Amb] (v_0 v1 : Value) (K : Value → WT) : WT :=
 S.box 98 v_0 fun v_2 =>
 S.fad v_2 0 fun v4 =>
 S.ld v4 fun v5 =>
 S.ld v1 fun v6 =>
 S.bin .eql v5 v6 fun v7 =>
 K v7
theorem e93 [Amb] (v_0 v1 : Value) (K : Value → WT) : s93 v_0 v1 K = shal Tryz.prog Tryz.f93 .p a93 [v_0, v1] K := by kernel_rfl
theorem c93 [Amb] {v_0 v1 : Value} {K : Value → WT} {w : World} (h : s93 v_0 v1 K w) : CF Tryz.prog 93 [v_0, v1] K w := shal_sound Tryz.func93 (e93 v_0 v1 K ▸ h)

/-- (*aumbry/model.Model).sweep$1 -/
def a94 : Ann := .seq (.z) (.seq (.z) (.z))
def s94 [Amb] (v_0 v1 v2 : Value) (K : Value → WT) : WT :=
 S.box 98 v_0 fun v_3 =>
 S.fad v_3 3 fun v5 =>
 S.ld v5 fun v6 =>
 S.gd v6 true (S.ld v1) fun v8 =>
 S.gd v6 true (S.ld v2) fun v9 =>
 S.gd v6 true (S.fad v_3 0) fun v10 =>
 S.gd v6 true (S.ld v10) fun v11 =>
 S.gd v6 true (CF Tryz.prog 95 [v8, v9, v11]) fun v12 =>
 S.gd v6 true (S.not1 v12) fun v13 =>
 S.pick v6 v13 (B false) fun v14 =>
 K v14
theorem e94 [Amb] (v_0 v1 v2 : Value) (K : Value → WT) : s94 v_0 v1 v2 K = shal Tryz.prog Tryz.f94 .p a94 [v_0, v1, v2] K := by kernel_rfl
theorem c94 [Amb] {v_0 v1 v2 : Value} {K : Value → WT} {w : World} (h : s94 v_0 v1 v2 K w) : CF Tryz.prog 94 [v_0, v1, v2] K w := shal_sound Tryz.func94 (e94 v_0 v1 v2 K ▸ h)

/-- (*aumbry/model.Model).held -/
def a95 : Ann := .seq (.z) (.seq (.seq (.z) (.blk (.loop [1, 2, 13] (.seq (.z) (.seq (.cond (.z) (.z)) (.blk (.seq (.z) (.seq (.z) (.cond (.seq (.z) (.z)) (.z)))))))))) (.seq (.z) (.z)))
def s95 [Amb] (m_0 name_1 gen_2 : Value) (K : Value → WT) : WT :=
 S.nc m_0 fun v10 =>
 S.fad v10 1 fun v11 =>
 S.ld v11 fun v12 =>
 V Tryz.prog (Instr.range 79 v12) fun v13 =>
 S.loop 3 (fun K0 => fun name_1' gen_2' v13' => S.fa fun _ =>
 V Tryz.prog (Instr.next v13' false 0) fun v14 =>
 S.ext v14 0 fun v15 =>
 S.cond v15 (
 V Tryz.prog (Instr.entry v13') fun v16 =>
 S.ext v16 1 fun v17 =>
 S.lk .string (.int .i64 0) false v17 name_1' fun v20 =>
 S.bin .eql v20 gen_2' fun v22 =>
 S.cond v22 (
 K (B true)) (
 K0 name_1' gen_2' v13')) (
 K (B false)))
 [name_1, gen_2, v13]
theorem e95 [Amb] (m_0 name_1 gen_2 : Value) (K : Value → WT) : s95 m_0 name_1 gen_2 K = shal Tryz.prog Tryz.f95 .p a95 [m_0, name_1, gen_2] K := by kernel_rfl
theorem c95 [Amb] {m_0 name_1 gen_2 : Value} {K : Value → WT} {w : World} (h : s95 m_0 name_1 gen_2 K w) : CF Tryz.prog 95 [m_0, name_1, gen_2] K w := shal_sound Tryz.func95 (e95 m_0 name_1 gen_2 K ▸ h)

/-- slices.AppendSeq[[]int,int] -/
def a96 : Ann := .seq (.z) (.seq (.seq (.z) (.blk (.rf [] (.z) (.blk (.z))))) (.seq (.z) (.z)))
def s96 (s_0 seq_1 : Value) (K : Value → WT) : WT :=
 S.box 48 s_0 fun s_2 =>
 S.rf Tryz.prog seq_1 undef 1 (fun l0 go0 Z0 => fun v7 =>
 go0 <|
 S.ld s_2 fun v8 =>
 V Tryz.prog (Instr.buildSlice 48 1 #[(0, v7)]) fun v10 =>
 V Tryz.prog (Builtin.append_ #[48, 48] 48 #[v8, v10]) fun v11 =>
 S.st 1 s_2 v11 fun _ =>
 Z0 .nrm)
 (fun m1 =>
 S.ld s_2 fun v12 =>
 S.done m1 <|
 K v12)
 (fun m2 =>
 S.done m2 <|
 K (.slice none 0 0))
 [
 ]
theorem e96 (s_0 seq_1 : Value) (K : Value → WT) : s96 s_0 seq_1 K = shal Tryz.prog Tryz.f96 .m a96 [s_0, seq_1] K := by kernel_rfl
theorem c96 {s_0 seq_1 : Value} {K : Value → WT} {w : World} (h : s96 s_0 seq_1 K w) : CF Tryz.prog 96 [s_0, seq_1] K w := shal_sound Tryz.func96 (e96 s_0 seq_1 K ▸ h)

/-- slices.AppendSeq[[]string,string] -/
def a99 : Ann := .seq (.z) (.seq (.seq (.z) (.blk (.rf [] (.z) (.blk (.z))))) (.seq (.z) (.z)))
def s99 (s_0 seq_1 : Value) (K : Value → WT) : WT :=
 S.box 107 s_0 fun s_2 =>
 S.rf Tryz.prog seq_1 undef 1 (fun l0 go0 Z0 => fun v7 =>
 go0 <|
 S.ld s_2 fun v8 =>
 V Tryz.prog (Instr.buildSlice 107 1 #[(0, v7)]) fun v10 =>
 V Tryz.prog (Builtin.append_ #[107, 107] 107 #[v8, v10]) fun v11 =>
 S.st 1 s_2 v11 fun _ =>
 Z0 .nrm)
 (fun m1 =>
 S.ld s_2 fun v12 =>
 S.done m1 <|
 K v12)
 (fun m2 =>
 S.done m2 <|
 K (.slice none 0 0))
 [
 ]
theorem e99 (s_0 seq_1 : Value) (K : Value → WT) : s99 s_0 seq_1 K = shal Tryz.prog Tryz.f99 .m a99 [s_0, seq_1] K := by kernel_rfl
theorem c99 {s_0 seq_1 : Value} {K : Value → WT} {w : World} (h : s99 s_0 seq_1 K w) : CF Tryz.prog 99 [s_0, seq_1] K w := shal_sound Tryz.func99 (e99 s_0 seq_1 K ▸ h)

/-- slices.Backward[[]aumbry/model.version,aumbry/model.version]$1 -/
def a101 : Ann := .seq (.z) (.blk (.loop [0, 1, 3] (.seq (.seq (.z) (.cond (.z) (.z))) (.seq (.blk (.seq (.z) (.cond (.z) (.z)))) (.z)))))
def s101 [Amb] (yield_0 v1 : Value) (K : Value → WT) : WT :=
 S.ld v1 fun v4 =>
 S.len v4 fun v5 =>
 S.bin .sub v5 (I 1) fun v6 =>
 S.loop 3 (fun K0 => fun yield_0' v1' i_3 => S.fa fun _ =>
 S.bin .geq i_3 (I 0) fun v8 =>
 S.cond v8 (
 S.ld v1' fun v13 =>
 S.ixS 4 v13 i_3 fun v15 =>
 S.ldN 4 v15 fun v16 =>
 S.cvv Tryz.prog yield_0' [i_3, v16] fun v17 =>
 S.not1 v17 fun v18 =>
 S.cond v18 (
 K (.tuple #[])) (
 S.bin .sub i_3 (I 1) fun v10 =>
 K0 yield_0' v1' v10)) (
 K (.tuple #[])))
 [yield_0, v1, v6]
theorem e101 [Amb] (yield_0 v1 : Value) (K : Value → WT) : s101 yield_0 v1 K = shal Tryz.prog Tryz.f101 .p a101 [yield_0, v1] K := by kernel_rfl
theorem c101 [Amb] {yield_0 v1 : Value} {K : Value → WT} {w : World} (h : s101 yield_0 v1 K w) : CF Tryz.prog 101 [yield_0, v1] K w := shal_sound Tryz.func101 (e101 yield_0 v1 K ▸ h)

end Go.Proofs.YtabpaknfenpkoaaGreat.Sh
