/-
  Part 3: ShT.
-/
import Derived.Test.YtjafpncngmbcdaaGreatProg
import Derived.KernelRfl
import Derived.Test.YtjafpncngmbcdaaGreatPkLa
set_option linter.unusedSimpArgs false
set_option linter.unusedVariables false
set_option linter.unusedSectionVars false
section
namespace Go.Proofs.YtjafpncngmbcdaaGreat.Sh
open Go Go.SL Go.Proofs
set_option maxRecDepth 100000
def a3 : Ann := .seq (.z) (.seq (.z) (.seq (.z) (.z)))
def s3 [Amb] (l_0 : Value) (K : Value → WT) : WT :=
 CF Tryz.prog 9 [l_0] fun v8 =>
 S.ext v8 0 fun v9 =>
 S.ext v8 1 fun v10 =>
 S.ext v8 2 fun v11 =>
 S.gd v11 true (CF Tryz.prog 10 []) fun v14 =>
 S.pick v11 v14 (B false) fun v15 =>
 K v15
theorem e3 [Amb] (l_0 : Value) (K : Value → WT) : s3 l_0 K = shal Tryz.prog Tryz.f3 .p a3 [l_0] K := by kernel_rfl
theorem c3 [Amb] {l_0 : Value} {K : Value → WT} {w : World} (h : s3 l_0 K w) : CF Tryz.prog 3 [l_0] K w := shal_sound Tryz.func3 (e3 l_0 K ▸ h)
def a4 : Ann := .seq (.z) (.seq (.z) (.seq (.seq (.z) (.cond (.seq (.z) (.z)) (.z))) (.seq (.z) (.seq (.z) (.seq (.z) (.seq (.z) (.seq (.seq (.z) (.blk (.loop [1, 3, 9, 10, 12, 13, 14, 15, 16, 17, 18, 19, 20] (.seq (.seq (.z) (.cond (.z) (.z))) (.seq (.blk (.z)) (.z)))))) (.seq (.z) (.seq (.z) (.z))))))))))
def s4 [Amb] (v0 v1 v2 v3 : Value) (K : Value → WT) : WT :=
 CF Tryz.prog 9 [v0] fun v25 =>
 S.ext v25 0 fun v26 =>
 S.ext v25 1 fun v27 =>
 S.ext v25 2 fun v28 =>
 S.not1 v28 fun v30 =>
 S.cond v30 (
 K (B false)) (
 CF Tryz.prog 11 [v26, v1, v3] fun v35 =>
 S.ext v35 0 fun v36 =>
 S.ext v35 1 fun v37 =>
 S.box 31 (.agg #[(.int .i64 0), (.int .i64 0), (.slice none 0 0), (.bool false)]) fun v12 =>
 S.st 4 v12 v36 fun _ =>
 CF Tryz.prog 12 [v27, v1, v3] fun v42 =>
 S.ext v42 0 fun v43 =>
 S.ext v42 1 fun v44 =>
 S.box 31 (.agg #[(.int .i64 0), (.int .i64 0), (.slice none 0 0), (.bool false)]) fun v14 =>
 S.st 4 v14 v43 fun _ =>
 CF Tryz.prog 13 [v26, v2, v1] fun v49 =>
 S.ext v49 0 fun v50 =>
 S.ext v49 1 fun v51 =>
 S.box 31 (.agg #[(.int .i64 0), (.int .i64 0), (.slice none 0 0), (.bool false)]) fun v16 =>
 S.st 4 v16 v50 fun _ =>
 CF Tryz.prog 14 [v27, v2, v1] fun v56 =>
 S.ext v56 0 fun v57 =>
 S.ext v56 1 fun v58 =>
 S.box 31 (.agg #[(.int .i64 0), (.int .i64 0), (.slice none 0 0), (.bool false)]) fun v18 =>
 S.st 4 v18 v57 fun _ =>
 S.loop 13 (fun K0 => fun v1' v3' v9 v10 v12' v13 v14' v15 v16' v17 v18' v19 v20 => S.fa fun _ =>
 S.fad v12' 2 fun v60 =>
 S.ld v60 fun v61 =>
 S.len v61 fun v62 =>
 S.bin .lss v20 v62 fun v63 =>
 S.cond v63 (
 S.fad v12' 2 fun v66 =>
 S.ld v66 fun v67 =>
 S.ixS 35 v67 v20 fun v69 =>
 S.fad v69 34 fun v70 =>
 S.ld v70 fun v71 =>
 S.bin .xor v71 (I 1) fun v72 =>
 S.ixS 35 v67 v20 fun v73 =>
 S.fad v73 34 fun v74 =>
 S.st 1 v74 v72 fun _ =>
 S.bin .add v20 (I 1) fun v65 =>
 K0 v1' v3' v9 v10 v12' v13 v14' v15 v16' v17 v18' v19 v65) (
 CF Tryz.prog 11 [v9, v1', v3'] fun v79 =>
 S.ext v79 0 fun v80 =>
 S.ext v79 1 fun v81 =>
 S.box 31 (.agg #[(.int .i64 0), (.int .i64 0), (.slice none 0 0), (.bool false)]) fun v21 =>
 S.st 4 v21 v80 fun _ =>
 CF Tryz.prog 10 [] fun v82 =>
 S.gd v82 true (S.ldN 4 v21) fun v84 =>
 S.gd v82 true (S.ldN 4 v14') fun v85 =>
 S.gd v82 true (CF Tryz.prog 15 [v84, v85]) fun v86 =>
 S.pick v82 v86 (B false) fun v87 =>
 S.gd v87 true (fun k => k v13) fun v89 =>
 S.gd v87 true (fun k => k v15) fun v90 =>
 S.gd v87 true (S.bin .eql v89 v90) fun v91 =>
 S.pick v87 v91 (B false) fun v92 =>
 S.gd v92 true (S.fad v12' 2) fun v94 =>
 S.gd v92 true (S.ld v94) fun v95 =>
 S.gd v92 true (S.len v95) fun v96 =>
 S.gd v92 true (S.fad v14' 2) fun v97 =>
 S.gd v92 true (S.ld v97) fun v98 =>
 S.gd v92 true (S.len v98) fun v99 =>
 S.gd v92 true (S.bin .eql v96 v99) fun v100 =>
 S.pick v92 v100 (B false) fun v101 =>
 S.gd v101 true (S.ldN 4 v16') fun v103 =>
 S.gd v101 true (S.ldN 4 v18') fun v104 =>
 S.gd v101 true (CF Tryz.prog 15 [v103, v104]) fun v105 =>
 S.pick v101 v105 (B false) fun v106 =>
 S.gd v106 true (fun k => k v17) fun v108 =>
 S.gd v106 true (fun k => k v19) fun v109 =>
 S.gd v106 true (S.bin .eql v108 v109) fun v110 =>
 S.pick v106 v110 (B false) fun v111 =>
 S.gd v111 true (fun k => k v9) fun v113 =>
 S.gd v111 true (fun k => k v1') fun v114 =>
 S.gd v111 true (CF Tryz.prog 16 [v113, v114]) fun v115 =>
 S.gd v111 true (fun k => k v10) fun v116 =>
 S.gd v111 true (fun k => k v1') fun v117 =>
 S.gd v111 true (CF Tryz.prog 17 [v116, v117]) fun v118 =>
 S.gd v111 true (S.bin .eql v115 v118) fun v119 =>
 S.pick v111 v119 (B false) fun v120 =>
 K v120))
 [v1, v3, v26, v27, v12, v37, v14, v44, v16, v51, v18, v58, (I 0)])
theorem e4 [Amb] (v0 v1 v2 v3 : Value) (K : Value → WT) : s4 v0 v1 v2 v3 K = shal Tryz.prog Tryz.f4 .p a4 [v0, v1, v2, v3] K := by kernel_rfl
def a5 : Ann := .seq (.z) (.seq (.z) (.seq (.seq (.z) (.cond (.seq (.z) (.z)) (.z))) (.seq (.z) (.seq (.z) (.seq (.join [3, 5, 8, 50] (.z) (.cond (.seq (.z) (.z)) (.z))) (.seq (.z) (.seq (.seq (.z) (.blk (.loop [3, 5, 8, 12, 13] (.seq (.seq (.z) (.cond (.z) (.z))) (.seq (.blk (.seq (.draw [0, 1, 2, 3, 4, 5, 6, 7, 8, 9, 10, 11, 12, 13]) (.cond (.seq (.z) (.z)) (.z)))) (.z)))))) (.seq (.z) (.seq (.z) (.z))))))))))
def s5 [Amb] (v0 v1 : Value) (K : Value → WT) : WT :=
 S.box 43 v1 fun v3 =>
 CF Tryz.prog 9 [v0] fun v18 =>
 S.ext v18 0 fun v19 =>
 S.ext v18 1 fun v20 =>
 S.ext v18 2 fun v21 =>
 S.not1 v21 fun v23 =>
 S.cond v23 (
 K (B false)) (
 S.ldN 4 v3 fun v26 =>
 CF Tryz.prog 18 [v19, v26] fun v27 =>
 S.ext v27 0 fun v28 =>
 S.ext v27 1 fun v29 =>
 S.ldN 4 v3 fun v32 =>
 CF Tryz.prog 19 [v20, v32] fun v33 =>
 S.ext v33 0 fun v34 =>
 S.ext v33 1 fun v35 =>
 S.join 4 (fun K0 =>
 CF Tryz.prog 20 [v28, v34] fun v38 =>
 S.not1 v38 fun v39 =>
 S.gd v39 false (fun k => k v29) fun v41 =>
 S.gd v39 false (fun k => k v35) fun v42 =>
 S.gd v39 false (S.bin .neq v41 v42) fun v43 =>
 S.pick v39 (B true) v43 fun v44 =>
 S.gd v44 false (fun k => k v19) fun v46 =>
 S.gd v44 false (fun k => k v20) fun v47 =>
 S.gd v44 false (CF Tryz.prog 21 [v46, v47]) fun v48 =>
 S.gd v44 false (S.not1 v48) fun v49 =>
 S.pick v44 (B true) v49 fun v50 =>
 K0 v3 v19 v28 v50)
 <| fun v3' v5 v8 v50' => S.fa fun _ =>
 S.cond v50' (
 K (B false)) (
 CF Tryz.prog 22 [v5] fun v52 =>
 S.loop 5 (fun K1 => fun v3'2 v5' v8' v12 v13 => S.fa fun _ =>
 S.len v8' fun v55 =>
 S.bin .lss v13 v55 fun v56 =>
 S.cond v56 (
 S.dr <|
 S.ixS 2 v8' v13 fun v62 =>
 S.fad v62 0 fun v63 =>
 S.ld v63 fun v64 =>
 S.ixS 2 v8' v13 fun v67 =>
 S.fad v67 1 fun v68 =>
 S.ld v68 fun v69 =>
 V Tryz.prog (Instr.build 60 #[(0, (I 4)), (2, v64), (3, v69)]) fun v70 =>
 CF Tryz.prog 23 [v5', v70] fun v71 =>
 S.bin .neq v71 (I 0) fun v72 =>
 S.cond v72 (
 K (B false)) (
 S.bin .add v13 (I 1) fun v58 =>
 K1 v3'2 v5' v8' v12 v58)) (
 S.ldN 4 v3'2 fun v75 =>
 CF Tryz.prog 18 [v5', v75] fun v76 =>
 S.ext v76 0 fun v77 =>
 S.ext v76 1 fun v78 =>
 CF Tryz.prog 10 [] fun v79 =>
 S.gd v79 true (fun k => k v77) fun v81 =>
 S.gd v79 true (S.len v81) fun v82 =>
 S.gd v79 true (S.bin .eql v82 (I 0)) fun v83 =>
 S.pick v79 v83 (B false) fun v84 =>
 S.gd v84 true (S.fad v3'2 0) fun v86 =>
 S.gd v84 true (S.ld v86) fun v87 =>
 S.gd v84 true (S.bin .lss v87 (I 1)) fun v88 =>
 S.gd v84 true (fun k => k v88) fun v89 =>
 S.gd v89 false (fun k => k v5') fun v90 =>
 S.gd v89 false (CF Tryz.prog 22 [v90]) fun v91 =>
 S.gd v89 false (fun k => k v12) fun v92 =>
 S.gd v89 false (CF Tryz.prog 20 [v91, v92]) fun v93 =>
 S.gd v84 true (S.pick v89 (B true) v93) fun v94 =>
 S.pick v84 v94 (B false) fun v95 =>
 K v95))
 [v3', v5, v8, v52, (I 0)]))
theorem e5 [Amb] (v0 v1 : Value) (K : Value → WT) : s5 v0 v1 K = shal Tryz.prog Tryz.f5 .p a5 [v0, v1] K := by kernel_rfl
def a6 : Ann := .seq (.z) (.seq (.z) (.seq (.seq (.z) (.cond (.seq (.z) (.z)) (.z))) (.seq (.z) (.seq (.z) (.seq (.z) (.seq (.seq (.z) (.blk (.loop [1, 2, 7, 10, 11, 12, 13] (.seq (.join [1, 2, 7, 10, 11, 12, 13, 45] (.z) (.cond (.z) (.z))) (.seq (.blk (.seq (.drawT 18 (.one 0 (.one 1 (.one 2 (.one 3 (.one 4 (.one 5 (.one 6 (.one 7 (.one 8 (.one 9 (.one 10 (.two 11 (.one 12 (.one 13 (.one 14 (.one 15 (.one 16 (.one 17 .nil)))))) 15 (.one 11 (.one 12 (.one 13 (.one 14 (.one 16 (.one 17 .nil))))))))))))))))))) (.seq (.seq (.z) (.cond (.seq (.z) (.z)) (.z))) (.z)))) (.z)))))) (.seq (.seq (.z) (.blk (.loop [1, 2, 7, 11, 12, 16] (.seq (.join [1, 2, 7, 11, 12, 16, 76] (.z) (.cond (.z) (.z))) (.join [1, 2, 7, 11, 12, 16] (.blk (.join [1, 2, 7, 11, 12, 16, 101] (.z) (.cond (.z) (.z)))) (.z)))))) (.seq (.seq (.z) (.blk (.loop [1, 7, 11, 12, 17] (.seq (.seq (.z) (.cond (.z) (.z))) (.seq (.blk (.seq (.z) (.seq (.z) (.join [1, 7, 11, 12, 17, 136] (.draw [0, 1, 2, 3, 4, 5, 6, 7, 8, 9, 10]) (.cond (.seq (.z) (.z)) (.z)))))) (.z)))))) (.seq (.z) (.z))))))))))
def s6 [Amb] (v0 v1 v2 : Value) (K : Value → WT) : WT :=
 CF Tryz.prog 9 [v0] fun v22 =>
 S.ext v22 0 fun v23 =>
 S.ext v22 1 fun v24 =>
 S.ext v22 2 fun v25 =>
 S.not1 v25 fun v27 =>
 S.cond v27 (
 K (B false)) (
 CF Tryz.prog 24 [v23] fun v31 =>
 CF Tryz.prog 22 [v23] fun v33 =>
 V Tryz.prog (Instr.build 60 #[(0, (I 5)), (2, v1), (4, v31), (6, v33)]) fun v34 =>
 CF Tryz.prog 23 [v23, v34] fun v35 =>
 CF Tryz.prog 22 [v23] fun v37 =>
 S.loop 7 (fun K0 => fun v1' v2' v7 v10 v11 v12 v13 => S.fa fun _ =>
 S.join 8 (fun K1 =>
 S.bin .eql v10 (I 0) fun v39 =>
 S.gd v39 true (fun k => k v13) fun v41 =>
 S.gd v39 true (fun k => k v11) fun v42 =>
 S.gd v39 true (S.len v42) fun v43 =>
 S.gd v39 true (S.bin .lss v41 v43) fun v44 =>
 S.pick v39 v44 (B false) fun v45 =>
 K1 v1' v2' v7 v10 v11 v12 v13 v45)
 <| fun v1'2 v2'2 v7' v10' v11' v12' v13' v45' => S.fa fun _ =>
 S.cond v45' (
 S.dr <|
 S.ixS 2 v11' v13' fun v52 =>
 S.fad v52 0 fun v53 =>
 S.ld v53 fun v54 =>
 S.ixS 2 v11' v13' fun v57 =>
 S.fad v57 1 fun v58 =>
 S.ld v58 fun v59 =>
 S.both (
 CF Tryz.prog 11 [v7', v54, v59] fun v60 =>
 S.ext v60 0 fun v61 =>
 S.ext v60 1 fun v62 =>
 S.box 31 (.agg #[(.int .i64 0), (.int .i64 0), (.slice none 0 0), (.bool false)]) fun v14 =>
 S.st 4 v14 v61 fun _ =>
 S.bin .neq v62 (I 0) fun v64 =>
 S.cond v64 (
 K (B false)) (
 S.ldN 4 v14 fun v66 =>
 V Tryz.prog (Instr.buildSlice 63 1 #[(0, v66)]) fun v67 =>
 V Tryz.prog (Builtin.append_ #[63, 63] 63 #[v12', v67]) fun v68 =>
 S.bin .add v13' (I 1) fun v47 =>
 K0 v1'2 v2'2 v7' v10' v11' v68 v47)) (
 S.box 31 (.agg #[(.int .i64 0), (.int .i64 0), (.slice none 0 0), (.bool false)]) fun v14' =>
 S.rck [S.ld v58 (fun v' _ => v' = v59), S.ld v53 (fun v' _ => v' = v54)] <|
 CF Tryz.prog 11 [v7', v54, v59] fun v60' =>
 S.ext v60' 0 fun v61' =>
 S.ext v60' 1 fun v62' =>
 S.st 4 v14' v61' fun _ =>
 S.bin .neq v62' (I 0) fun v64' =>
 S.cond v64' (
 K (B false)) (
 S.ldN 4 v14' fun v66' =>
 V Tryz.prog (Instr.buildSlice 63 1 #[(0, v66')]) fun v67' =>
 V Tryz.prog (Builtin.append_ #[63, 63] 63 #[v12', v67']) fun v68' =>
 S.bin .add v13' (I 1) fun v47' =>
 K0 v1'2 v2'2 v7' v10' v11' v68' v47'))) (
 S.loop 6 (fun K2 => fun v1'3 v2'3 v7'2 v11'2 v12'2 v16 => S.fa fun _ =>
 S.join 7 (fun K3 =>
 S.len v2'3 fun v71 =>
 S.bin .lss v16 v71 fun v72 =>
 S.gd v72 true (fun k => k v16) fun v74 =>
 S.gd v72 true (S.bin .lss v74 (I 60)) fun v75 =>
 S.pick v72 v75 (B false) fun v76 =>
 K3 v1'3 v2'3 v7'2 v11'2 v12'2 v16 v76)
 <| fun v1'4 v2'4 v7'3 v11'3 v12'3 v16' v76' => S.fa fun _ =>
 S.cond v76' (
 S.join 6 (fun K4 =>
 S.join 7 (fun K5 =>
 S.ixS 14 v2'4 v16' fun v81 =>
 S.fad v81 0 fun v82 =>
 S.ld v82 fun v83 =>
 S.bin .neq v83 (I 7) fun v84 =>
 S.gd v84 true (fun k => k v2'4) fun v86 =>
 S.gd v84 true (fun k => k v16') fun v87 =>
 S.gd v84 true (S.ixS 14 v86 v87) fun v88 =>
 S.gd v84 true (S.fad v88 0) fun v89 =>
 S.gd v84 true (S.ld v89) fun v90 =>
 S.gd v84 true (S.bin .neq v90 (I 6)) fun v91 =>
 S.gd v84 true (fun k => k v91) fun v92 =>
 S.gd v92 false (fun k => k v2'4) fun v93 =>
 S.gd v92 false (fun k => k v16') fun v94 =>
 S.gd v92 false (S.ixS 14 v93 v94) fun v95 =>
 S.gd v92 false (S.fad v95 4) fun v96 =>
 S.gd v92 false (S.ld v96) fun v97 =>
 S.gd v92 false (fun k => k v1'4) fun v98 =>
 S.gd v92 false (S.sbin .neq v97 v98) fun v99 =>
 S.gd v84 true (S.pick v92 (B true) v99) fun v100 =>
 S.pick v84 v100 (B false) fun v101 =>
 K5 v1'4 v2'4 v7'3 v11'3 v12'3 v16' v101)
 <| fun v1'5 v2'5 v7'4 v11'4 v12'4 v16'2 v101' => S.fa fun _ =>
 S.cond v101' (
 S.ixS 14 v2'5 v16'2 fun v105 =>
 S.ldN 14 v105 fun v106 =>
 CF Tryz.prog 23 [v7'4, v106] fun v107 =>
 K4 v1'5 v2'5 v7'4 v11'4 v12'4 v16'2) (
 K4 v1'5 v2'5 v7'4 v11'4 v12'4 v16'2))
 <| fun v1'6 v2'6 v7'5 v11'5 v12'5 v16'3 => S.fa fun _ =>
 S.bin .add v16'3 (I 1) fun v78 =>
 K2 v1'6 v2'6 v7'5 v11'5 v12'5 v78) (
 S.loop 5 (fun K6 => fun v1'7 v7'6 v11'6 v12'6 v17 => S.fa fun _ =>
 S.len v12'6 fun v110 =>
 S.bin .lss v17 v110 fun v111 =>
 S.cond v111 (
 S.ixS 2 v11'6 v17 fun v119 =>
 S.fad v119 0 fun v120 =>
 S.ld v120 fun v121 =>
 CF Tryz.prog 13 [v7'6, v1'7, v121] fun v122 =>
 S.ext v122 0 fun v123 =>
 S.ext v122 1 fun v124 =>
 S.box 31 (.agg #[(.int .i64 0), (.int .i64 0), (.slice none 0 0), (.bool false)]) fun v18 =>
 S.st 4 v18 v123 fun _ =>
 S.fad v18 3 fun v125 =>
 S.st 1 v125 (B false) fun _ =>
 S.join 6 (fun K7 =>
 S.dr <|
 S.bin .neq v124 (I 0) fun v127 =>
 S.gd v127 false (S.ldN 4 v18) fun v129 =>
 S.gd v127 false (fun k => k v12'6) fun v130 =>
 S.gd v127 false (fun k => k v17) fun v131 =>
 S.gd v127 false (S.ixS 4 v130 v131) fun v132 =>
 S.gd v127 false (S.ldN 4 v132) fun v133 =>
 S.gd v127 false (CF Tryz.prog 15 [v129, v133]) fun v134 =>
 S.gd v127 false (S.not1 v134) fun v135 =>
 S.pick v127 (B true) v135 fun v136 =>
 K7 v1'7 v7'6 v11'6 v12'6 v17 v136)
 <| fun v1'8 v7'7 v11'7 v12'7 v17' v136' => S.fa fun _ =>
 S.cond v136' (
 K (B false)) (
 S.bin .add v17' (I 1) fun v113 =>
 K6 v1'8 v7'7 v11'7 v12'7 v113)) (
 CF Tryz.prog 10 [] fun v137 =>
 K v137))
 [v1'4, v7'3, v11'3, v12'3, (I 0)]))
 [v1'2, v2'2, v7', v11', v12', (I 0)]))
 [v1, v2, v23, v35, v37, (.slice none 0 0), (I 0)])
theorem e6 [Amb] (v0 v1 v2 : Value) (K : Value → WT) : s6 v0 v1 v2 K = shal Tryz.prog Tryz.f6 .p a6 [v0, v1, v2] K := by kernel_rfl
def a7 : Ann := .seq (.z) (.seq (.z) (.seq (.join [3, 4, 24] (.z) (.cond (.seq (.z) (.z)) (.z))) (.seq (.z) (.seq (.seq (.z) (.cond (.seq (.z) (.z)) (.z))) (.seq (.z) (.seq (.seq (.z) (.blk (.loop [4, 6, 7, 8] (.seq (.seq (.z) (.cond (.z) (.z))) (.seq (.blk (.seq (.z) (.cond (.seq (.z) (.z)) (.z)))) (.z)))))) (.seq (.z) (.z))))))))
def s7 [Amb] (l_0 : Value) (K : Value → WT) : WT :=
 CF Tryz.prog 9 [l_0] fun v11 =>
 S.ext v11 0 fun v12 =>
 S.ext v11 1 fun v13 =>
 S.ext v11 2 fun v14 =>
 S.join 3 (fun K0 =>
 S.not1 v14 fun v16 =>
 S.gd v16 false (fun k => k v12) fun v18 =>
 S.gd v16 false (CF Tryz.prog 26 [v18]) fun v19 =>
 S.gd v16 false (fun k => k v13) fun v20 =>
 S.gd v16 false (CF Tryz.prog 27 [v20]) fun v21 =>
 S.gd v16 false (CF Tryz.prog 25 [v19, v21]) fun v22 =>
 S.gd v16 false (S.not1 v22) fun v23 =>
 S.pick v16 (B true) v23 fun v24 =>
 K0 v12 v13 v24)
 <| fun x_3 y_4 v24' => S.fa fun _ =>
 S.cond v24' (
 K (B false)) (
 CF Tryz.prog 28 [x_3] fun v26 =>
 CF Tryz.prog 30 [y_4] fun v29 =>
 CF Tryz.prog 29 [v26, v29] fun v30 =>
 S.not1 v30 fun v31 =>
 S.cond v31 (
 K (B false)) (
 CF Tryz.prog 31 [] fun v32 =>
 S.loop 4 (fun K1 => fun y_4' facts_6 z_7 i_8 => S.fa fun _ =>
 S.len facts_6 fun v35 =>
 S.bin .lss i_8 v35 fun v36 =>
 S.cond v36 (
 S.ixS 14 facts_6 i_8 fun v42 =>
 S.ldN 14 v42 fun v43 =>
 CF Tryz.prog 23 [z_7, v43] fun v44 =>
 S.bin .neq v44 (I 0) fun v45 =>
 S.cond v45 (
 K (B false)) (
 S.bin .add i_8 (I 1) fun v38 =>
 K1 y_4' facts_6 z_7 v38)) (
 CF Tryz.prog 10 [] fun v46 =>
 S.gd v46 true (fun k => k z_7) fun v48 =>
 S.gd v46 true (fun k => k y_4') fun v49 =>
 S.gd v46 true (CF Tryz.prog 21 [v48, v49]) fun v50 =>
 S.pick v46 v50 (B false) fun v51 =>
 K v51))
 [y_4, v26, v32, (I 0)]))
theorem e7 [Amb] (l_0 : Value) (K : Value → WT) : s7 l_0 K = shal Tryz.prog Tryz.f7 .p a7 [l_0] K := by kernel_rfl
theorem c7 [Amb] {l_0 : Value} {K : Value → WT} {w : World} (h : s7 l_0 K w) : CF Tryz.prog 7 [l_0] K w := shal_sound Tryz.func7 (e7 l_0 K ▸ h)
def a8 : Ann := .seq (.z) (.seq (.z) (.seq (.seq (.z) (.cond (.seq (.z) (.z)) (.z))) (.seq (.z) (.seq (.seq (.z) (.blk (.loop [1, 5, 7, 8, 10, 11, 12] (.seq (.join [1, 5, 7, 8, 10, 11, 12, 39] (.z) (.cond (.z) (.z))) (.seq (.blk (.seq (.draw [0, 1, 2, 3, 4, 6, 7, 8, 9, 10, 5, 11, 12]) (.cond (.seq (.z) (.z)) (.z)))) (.z)))))) (.seq (.z) (.seq (.z) (.seq (.z) (.seq (.z) (.seq (.draw [0, 1, 2, 3, 4, 5, 6, 7, 8, 9, 10, 11, 12, 13, 14, 15, 16, 17, 18, 19, 20, 21, 22, 23, 24, 25, 26, 27, 28, 29, 30, 31, 32, 33, 34, 35, 36, 39, 43, 47, 51, 55, 58, 59, 60, 37, 38, 40, 41, 42, 44, 45, 46, 48, 49, 50, 52, 53, 54, 56, 57, 61, 62, 63, 64, 65, 66, 67, 68, 69, 70]) (.z))))))))))
def s8 [Amb] (v0 v1 v2 : Value) (K : Value → WT) : WT :=
 S.box 60 v2 fun v5 =>
 CF Tryz.prog 9 [v0] fun v22 =>
 S.ext v22 0 fun v23 =>
 S.ext v22 1 fun v24 =>
 S.ext v22 2 fun v25 =>
 S.not1 v25 fun v27 =>
 S.cond v27 (
 K (B false)) (
 CF Tryz.prog 32 [v23] fun v29 =>
 CF Tryz.prog 33 [v24] fun v31 =>
 S.loop 7 (fun K0 => fun v1' v5' v7 v8 v10 v11 v12 => S.fa fun _ =>
 S.join 8 (fun K1 =>
 S.len v1' fun v34 =>
 S.bin .lss v12 v34 fun v35 =>
 S.gd v35 true (fun k => k v12) fun v37 =>
 S.gd v35 true (S.bin .lss v37 (I 40)) fun v38 =>
 S.pick v35 v38 (B false) fun v39 =>
 K1 v1' v5' v7 v8 v10 v11 v12 v39)
 <| fun v1'2 v5'2 v7' v8' v10' v11' v12' v39' => S.fa fun _ =>
 S.cond v39' (
 S.dr <|
 S.ixS 14 v1'2 v12' fun v45 =>
 S.ldN 14 v45 fun v46 =>
 S.ixS 14 v1'2 v12' fun v51 =>
 S.ldN 14 v51 fun v52 =>
 CF Tryz.prog 23 [v10', v46] fun v47 =>
 S.rck [S.ldN 14 v51 (fun v' _ => v' = v52)] <|
 CF Tryz.prog 34 [v11', v52] fun v53 =>
 S.bin .neq v47 v53 fun v54 =>
 S.cond v54 (
 K (B false)) (
 S.bin .add v12' (I 1) fun v41 =>
 K0 v1'2 v5'2 v7' v8' v10' v11' v41)) (
 S.fad v5'2 4 fun v57 =>
 S.ld v57 fun v58 =>
 S.fad v5'2 5 fun v59 =>
 S.ld v59 fun v60 =>
 CF Tryz.prog 11 [(.pointer none), v58, v60] fun v61 =>
 S.ext v61 0 fun v62 =>
 S.ext v61 1 fun v63 =>
 S.box 31 (.agg #[(.int .i64 0), (.int .i64 0), (.slice none 0 0), (.bool false)]) fun v14 =>
 S.st 4 v14 v62 fun _ =>
 S.fad v5'2 4 fun v66 =>
 S.ld v66 fun v67 =>
 S.fad v5'2 4 fun v68 =>
 S.ld v68 fun v69 =>
 CF Tryz.prog 13 [(.pointer none), v67, v69] fun v70 =>
 S.ext v70 0 fun v71 =>
 S.ext v70 1 fun v72 =>
 S.box 31 (.agg #[(.int .i64 0), (.int .i64 0), (.slice none 0 0), (.bool false)]) fun v16 =>
 S.st 4 v16 v71 fun _ =>
 V Tryz.prog (Instr.build 43 #[]) fun v75 =>
 CF Tryz.prog 18 [(.pointer none), v75] fun v76 =>
 S.ext v76 0 fun v77 =>
 S.ext v76 1 fun v78 =>
 S.dr <|
 CF Tryz.prog 10 [] fun v79 =>
 S.gd v79 true (fun k => k v7') fun v81 =>
 S.gd v79 true (fun k => k v8') fun v82 =>
 S.gd v79 true (CF Tryz.prog 21 [v81, v82]) fun v83 =>
 S.pick v79 v83 (B false) fun v84 =>
 S.gd v84 true (fun k => k v10') fun v86 =>
 S.gd v84 true (fun k => k v11') fun v87 =>
 S.gd v84 true (CF Tryz.prog 21 [v86, v87]) fun v88 =>
 S.pick v84 v88 (B false) fun v89 =>
 S.gd v89 true (fun k => k (.pointer none)) fun v91 =>
 S.gd v89 true (S.ldN 14 v5'2) fun v92 =>
 S.gd v89 true (CF Tryz.prog 35 [v91, v92]) fun v93 =>
 S.gd v89 true (S.bin .eql v93 (I 1)) fun v94 =>
 S.pick v89 v94 (B false) fun v95 =>
 S.gd v95 true (fun k => k (.pointer none)) fun v97 =>
 S.gd v95 true (S.ldN 14 v5'2) fun v98 =>
 S.gd v95 true (CF Tryz.prog 23 [v97, v98]) fun v99 =>
 S.gd v95 true (S.bin .eql v99 (I 1)) fun v100 =>
 S.pick v95 v100 (B false) fun v101 =>
 S.gd v101 true (fun k => k v63) fun v103 =>
 S.gd v101 true (S.bin .eql v103 (I 1)) fun v104 =>
 S.pick v101 v104 (B false) fun v105 =>
 S.gd v105 true (fun k => k v72) fun v107 =>
 S.gd v105 true (S.bin .eql v107 (I 1)) fun v108 =>
 S.pick v105 v108 (B false) fun v109 =>
 S.gd v109 true (fun k => k v78) fun v111 =>
 S.gd v109 true (S.bin .eql v111 (I 1)) fun v112 =>
 S.pick v109 v112 (B false) fun v113 =>
 S.gd v113 true (fun k => k (.pointer none)) fun v115 =>
 S.gd v113 true (fun k => k (.pointer none)) fun v118 =>
 S.gd v113 true (fun k => k (.pointer none)) fun v122 =>
 S.gd v113 true (fun k => k (.pointer none)) fun v126 =>
 S.gd v113 true (fun k => k (.pointer none)) fun v130 =>
 S.gd v113 true (fun k => k (.pointer none)) fun v134 =>
 S.gd v113 true (fun k => k (.pointer none)) fun v137 =>
 S.gd v113 true (S.fad v5'2 4) fun v138 =>
 S.gd v113 true (S.ld v138) fun v139 =>
 S.gd v113 true (CF Tryz.prog 36 [v115]) fun v116 =>
 S.rck [S.gd v113 true (S.ld v138) (fun v' _ => v' = v139)] <|
 S.gd v113 true (S.len v116) fun v117 =>
 S.gd v113 true (CF Tryz.prog 37 [v118]) fun v119 =>
 S.rck [S.gd v113 true (S.ld v138) (fun v' _ => v' = v139)] <|
 S.gd v113 true (S.len v119) fun v120 =>
 S.gd v113 true (S.bin .add v117 v120) fun v121 =>
 S.gd v113 true (CF Tryz.prog 22 [v122]) fun v123 =>
 S.rck [S.gd v113 true (S.ld v138) (fun v' _ => v' = v139)] <|
 S.gd v113 true (S.len v123) fun v124 =>
 S.gd v113 true (S.bin .add v121 v124) fun v125 =>
 S.gd v113 true (CF Tryz.prog 26 [v126]) fun v127 =>
 S.rck [S.gd v113 true (S.ld v138) (fun v' _ => v' = v139)] <|
 S.gd v113 true (S.len v127) fun v128 =>
 S.gd v113 true (S.bin .add v125 v128) fun v129 =>
 S.gd v113 true (CF Tryz.prog 28 [v130]) fun v131 =>
 S.rck [S.gd v113 true (S.ld v138) (fun v' _ => v' = v139)] <|
 S.gd v113 true (S.len v131) fun v132 =>
 S.gd v113 true (S.bin .add v129 v132) fun v133 =>
 S.gd v113 true (CF Tryz.prog 24 [v134]) fun v135 =>
 S.rck [S.gd v113 true (S.ld v138) (fun v' _ => v' = v139)] <|
 S.gd v113 true (S.bin .add v133 v135) fun v136 =>
 S.gd v113 true (CF Tryz.prog 16 [v137, v139]) fun v140 =>
 S.gd v113 true (S.bin .add v136 v140) fun v141 =>
 S.gd v113 true (S.bin .eql v141 (I 0)) fun v142 =>
 S.pick v113 v142 (B false) fun v143 =>
 S.gd v143 true (fun k => k (.pointer none)) fun v145 =>
 S.gd v143 true (CF Tryz.prog 32 [v145]) fun v146 =>
 S.gd v143 true (S.eqv Tryz.prog .eql 23 true v146 (.pointer none)) fun v147 =>
 S.pick v143 v147 (B false) fun v148 =>
 K v148))
 [v1, v5, v23, v24, v29, v31, (I 0)])
theorem e8 [Amb] (v0 v1 v2 : Value) (K : Value → WT) : s8 v0 v1 v2 K = shal Tryz.prog Tryz.f8 .p a8 [v0, v1, v2] K := by kernel_rfl
def a9 : Ann := .seq (.z) (.seq (.z) (.seq (.seq (.z) (.cond (.seq (.z) (.z)) (.z))) (.seq (.seq (.z) (.blk (.loop [0, 5, 6, 7] (.seq (.join [0, 5, 6, 7, 24] (.z) (.cond (.z) (.z))) (.seq (.blk (.seq (.z) (.seq (.z) (.seq (.z) (.seq (.join [0, 5, 6, 7, 8, 68] (.draw [0, 1, 3, 4, 5, 6, 7, 2, 8, 9, 10, 11, 12, 14, 15, 16, 17, 18, 13, 19, 20, 21]) (.cond (.seq (.z) (.z)) (.z))) (.seq (.seq (.z) (.blk (.loop [0, 5, 6, 7, 8, 9] (.seq (.seq (.z) (.cond (.z) (.z))) (.seq (.blk (.z)) (.z)))))) (.seq (.z) (.blk (.loop [0, 5, 6, 7, 8, 10] (.seq (.seq (.z) (.cond (.z) (.z))) (.seq (.blk (.z)) (.z)))))))))))) (.z)))))) (.seq (.z) (.z)))))
def s9 [Amb] (v0 : Value) (K : Value → WT) : WT :=
 CF Tryz.prog 31 [] fun v11 =>
 CF Tryz.prog 38 [] fun v12 =>
 S.eqv Tryz.prog .eql 23 true v11 (.pointer none) fun v14 =>
 S.cond v14 (
 K (.tuple #[v11, v12, (B false)])) (
 S.loop 4 (fun K0 => fun v0' v5 v6 v7 => S.fa fun _ =>
 S.join 5 (fun K1 =>
 S.len v0' fun v19 =>
 S.bin .lss v7 v19 fun v20 =>
 S.gd v20 true (fun k => k v7) fun v22 =>
 S.gd v20 true (S.bin .lss v22 (I 100)) fun v23 =>
 S.pick v20 v23 (B false) fun v24 =>
 K1 v0' v5 v6 v7 v24)
 <| fun v0'2 v5' v6' v7' v24' => S.fa fun _ =>
 S.cond v24' (
 S.ixS 14 v0'2 v7' fun v29 =>
 S.ldN 14 v29 fun v30 =>
 S.box 60 (.agg #[(.int .i64 0), (.int .i64 0), (.int .i64 0), (.int .i64 0), (.string ⟨#[]⟩), (.int .i64 0), (.int .i64 0), (.slice none 0 0), (.slice none 0 0), (.slice none 0 0), (.int .i64 0), (.int .i64 0), (.int .i64 0), (.int .i64 0)]) fun v8 =>
 S.st 14 v8 v30 fun _ =>
 V Tryz.prog (Instr.buildSlice 29 0 #[]) fun v31 =>
 S.ixS 14 v0'2 v7' fun v34 =>
 S.fad v34 7 fun v35 =>
 S.ld v35 fun v36 =>
 V Tryz.prog (Builtin.append_ #[29, 29] 29 #[v31, v36]) fun v37 =>
 S.fad v8 7 fun v38 =>
 S.st 1 v38 v37 fun _ =>
 V Tryz.prog (Instr.buildSlice 44 0 #[]) fun v39 =>
 S.ixS 14 v0'2 v7' fun v42 =>
 S.fad v42 8 fun v43 =>
 S.ld v43 fun v44 =>
 V Tryz.prog (Builtin.append_ #[44, 44] 44 #[v39, v44]) fun v45 =>
 S.fad v8 8 fun v46 =>
 S.st 1 v46 v45 fun _ =>
 S.join 6 (fun K2 =>
 S.dr <|
 S.ldN 14 v8 fun v48 =>
 S.ixS 14 v0'2 v7' fun v53 =>
 S.ldN 14 v53 fun v54 =>
 CF Tryz.prog 35 [v5', v48] fun v49 =>
 S.rck [S.ldN 14 v53 (fun v' _ => v' = v54)] <|
 CF Tryz.prog 39 [v6', v54] fun v55 =>
 S.bin .neq v49 v55 fun v56 =>
 S.gd v56 false (fun k => k v5') fun v58 =>
 S.gd v56 false (S.ldN 14 v8) fun v59 =>
 S.gd v56 false (fun k => k v6') fun v61 =>
 S.gd v56 false (fun k => k v0'2) fun v62 =>
 S.gd v56 false (fun k => k v7') fun v63 =>
 S.gd v56 false (S.ixS 14 v62 v63) fun v64 =>
 S.gd v56 false (S.ldN 14 v64) fun v65 =>
 S.gd v56 false (CF Tryz.prog 23 [v58, v59]) fun v60 =>
 S.rck [S.gd v56 false (S.ldN 14 v64) (fun v' _ => v' = v65)] <|
 S.gd v56 false (CF Tryz.prog 34 [v61, v65]) fun v66 =>
 S.gd v56 false (S.bin .neq v60 v66) fun v67 =>
 S.pick v56 (B true) v67 fun v68 =>
 K2 v0'2 v5' v6' v7' v8 v68)
 <| fun v0'3 v5'2 v6'2 v7'2 v8' v68' => S.fa fun _ =>
 S.cond v68' (
 K (.tuple #[v5'2, v6'2, (B false)])) (
 S.loop 6 (fun K3 => fun v0'4 v5'3 v6'3 v7'3 v8'2 v9 => S.fa fun _ =>
 S.fad v8'2 7 fun v72 =>
 S.ld v72 fun v73 =>
 S.len v73 fun v74 =>
 S.bin .lss v9 v74 fun v75 =>
 S.cond v75 (
 S.fad v8'2 7 fun v78 =>
 S.ld v78 fun v79 =>
 S.ixS 35 v79 v9 fun v81 =>
 S.fad v81 33 fun v82 =>
 S.ld v82 fun v83 =>
 S.bin .xor v83 (I 1) fun v84 =>
 S.ixS 35 v79 v9 fun v85 =>
 S.fad v85 33 fun v86 =>
 S.st 1 v86 v84 fun _ =>
 S.bin .add v9 (I 1) fun v77 =>
 K3 v0'4 v5'3 v6'3 v7'3 v8'2 v77) (
 S.loop 6 (fun K4 => fun v0'5 v5'4 v6'4 v7'4 v8'3 v10 => S.fa fun _ =>
 S.fad v8'3 8 fun v88 =>
 S.ld v88 fun v89 =>
 S.len v89 fun v90 =>
 S.bin .lss v10 v90 fun v91 =>
 S.cond v91 (
 S.fad v8'3 8 fun v94 =>
 S.ld v94 fun v95 =>
 S.ixS 2 v95 v10 fun v97 =>
 S.fad v97 1 fun v98 =>
 S.ld v98 fun v99 =>
 S.bin .xor v99 (I 1) fun v100 =>
 S.ixS 2 v95 v10 fun v101 =>
 S.fad v101 1 fun v102 =>
 S.st 1 v102 v100 fun _ =>
 S.bin .add v10 (I 1) fun v93 =>
 K4 v0'5 v5'4 v6'4 v7'4 v8'3 v93) (
 S.bin .add v7'4 (I 1) fun v26 =>
 K0 v0'5 v5'4 v6'4 v26))
 [v0'4, v5'3, v6'3, v7'3, v8'2, (I 0)]))
 [v0'3, v5'2, v6'2, v7'2, v8', (I 0)])) (
 CF Tryz.prog 21 [v5', v6'] fun v107 =>
 K (.tuple #[v5', v6', v107])))
 [v0, v11, v12, (I 0)])
theorem e9 [Amb] (v0 : Value) (K : Value → WT) : s9 v0 K = shal Tryz.prog Tryz.f9 .p a9 [v0] K := by kernel_rfl
theorem c9 [Amb] {v0 : Value} {K : Value → WT} {w : World} (h : s9 v0 K w) : CF Tryz.prog 9 [v0] K w := shal_sound Tryz.func9 (e9 v0 K ▸ h)
def a10 : Ann := .seq (.z) (.seq (.z) (.seq (.join [1, 34] (.z) (.cond (.seq (.z) (.z)) (.z))) (.seq (.z) (.seq (.z) (.seq (.z) (.z))))))
def s10 [Amb] (K : Value → WT) : WT :=
 CF Tryz.prog 31 [] fun v6 =>
 S.join 2 (fun K0 =>
 S.eqv Tryz.prog .eql 23 true v6 (.pointer none) fun v8 =>
 S.gd v8 false (fun k => k v6) fun v10 =>
 S.gd v8 false (V Tryz.prog (Instr.build 60 #[(0, (I 3)), (2, (.string ⟨#[97]⟩)), (3, (I 1))])) fun v11 =>
 S.gd v8 false (CF Tryz.prog 23 [v10, v11]) fun v12 =>
 S.gd v8 false (S.bin .neq v12 (I 0)) fun v13 =>
 S.pick v8 (B true) v13 fun v14 =>
 S.gd v14 false (fun k => k v6) fun v16 =>
 S.gd v14 false (V Tryz.prog (Instr.build 60 #[(0, (I 3)), (2, (.string ⟨#[97]⟩)), (3, (I 2))])) fun v17 =>
 S.gd v14 false (CF Tryz.prog 23 [v16, v17]) fun v18 =>
 S.gd v14 false (S.bin .neq v18 (I 0)) fun v19 =>
 S.pick v14 (B true) v19 fun v20 =>
 S.gd v20 false (fun k => k v6) fun v22 =>
 S.gd v20 false (V Tryz.prog (Instr.build 53 #[(0, (.string ⟨#[97]⟩)), (1, (I 2))])) fun v23 =>
 S.gd v20 false (V Tryz.prog (Instr.buildSlice 44 1 #[(0, v23)])) fun v24 =>
 S.gd v20 false (V Tryz.prog (Instr.build 60 #[(0, (I 5)), (2, (.string ⟨#[115]⟩)), (6, v24)])) fun v25 =>
 S.gd v20 false (CF Tryz.prog 23 [v22, v25]) fun v26 =>
 S.gd v20 false (S.bin .neq v26 (I 0)) fun v27 =>
 S.pick v20 (B true) v27 fun v28 =>
 S.gd v28 false (fun k => k v6) fun v30 =>
 S.gd v28 false (V Tryz.prog (Instr.build 60 #[(0, (I 4)), (2, (.string ⟨#[97]⟩)), (3, (I 2))])) fun v31 =>
 S.gd v28 false (CF Tryz.prog 23 [v30, v31]) fun v32 =>
 S.gd v28 false (S.bin .neq v32 (I 0)) fun v33 =>
 S.pick v28 (B true) v33 fun v34 =>
 K0 v6 v34)
 <| fun v1 v34' => S.fa fun _ =>
 S.cond v34' (
 K (B false)) (
 CF Tryz.prog 11 [v1, (.string ⟨#[97]⟩), (I 0)] fun v37 =>
 S.ext v37 0 fun v38 =>
 S.ext v37 1 fun v39 =>
 S.box 31 (.agg #[(.int .i64 0), (.int .i64 0), (.slice none 0 0), (.bool false)]) fun v2 =>
 S.st 4 v2 v38 fun _ =>
 CF Tryz.prog 13 [v1, (.string ⟨#[115]⟩), (.string ⟨#[97]⟩)] fun v42 =>
 S.ext v42 0 fun v43 =>
 S.ext v42 1 fun v44 =>
 S.box 31 (.agg #[(.int .i64 0), (.int .i64 0), (.slice none 0 0), (.bool false)]) fun v4 =>
 S.st 4 v4 v43 fun _ =>
 S.bin .eql v39 (I 0) fun v46 =>
 S.gd v46 true (S.fad v2 0) fun v48 =>
 S.gd v46 true (S.ld v48) fun v49 =>
 S.gd v46 true (S.bin .eql v49 (I 1)) fun v50 =>
 S.pick v46 v50 (B false) fun v51 =>
 S.gd v51 true (fun k => k v44) fun v53 =>
 S.gd v51 true (S.bin .eql v53 (I 0)) fun v54 =>
 S.pick v51 v54 (B false) fun v55 =>
 S.gd v55 true (S.fad v4 0) fun v57 =>
 S.gd v55 true (S.ld v57) fun v58 =>
 S.gd v55 true (S.bin .eql v58 (I 2)) fun v59 =>
 S.pick v55 v59 (B false) fun v60 =>
 S.gd v60 true (fun k => k v1) fun v62 =>
 S.gd v60 true (CF Tryz.prog 16 [v62, (.string ⟨#[97]⟩)]) fun v63 =>
 S.gd v60 true (S.bin .eql v63 (I 3)) fun v64 =>
 S.pick v60 v64 (B false) fun v65 =>
 K v65)
theorem e10 [Amb] (K : Value → WT) : s10  K = shal Tryz.prog Tryz.f10 .p a10 [] K := by kernel_rfl
theorem c10 [Amb] {K : Value → WT} {w : World} (h : s10  K w) : CF Tryz.prog 10 [] K w := shal_sound Tryz.func10 (e10  K ▸ h)
def a11 : Ann := .seq (.z) (.seq (.seq (.z) (.cond (.seq (.z) (.z)) (.z))) (.join [0, 1, 2, 6] (.seq (.z) (.cond (.z) (.z))) (.seq (.z) (.seq (.seq (.z) (.cond (.seq (.z) (.z)) (.z))) (.seq (.draw [0, 1, 2, 3, 4, 5, 6, 7, 8, 9, 10, 11, 12, 13]) (.z))))))
def s11 [Amb] (b_0 name_1 gen_2 : Value) (K : Value → WT) : WT :=
 S.box 31 (.agg #[(.int .i64 0), (.int .i64 0), (.slice none 0 0), (.bool false)]) fun v6 =>
 S.eqv Tryz.prog .eql 23 true b_0 (.pointer none) fun v10 =>
 S.cond v10 (
 V Tryz.prog (Instr.build 31 #[]) fun v11 =>
 S.st 4 v6 v11 fun _ =>
 S.ldN 4 v6 fun v6' =>
 K (.tuple #[v6', (I 1)])) (
 S.join 4 (fun K0 =>
 S.bin .eql gen_2 (I 0) fun v13 =>
 S.cond v13 (
 CF Tryz.prog 40 [b_0, name_1] fun v16 =>
 K0 b_0 name_1 v16 v6) (
 K0 b_0 name_1 gen_2 v6))
 <| fun b_0' name_1' gen_2' v6'2 => S.fa fun _ =>
 V Tryz.prog (Instr.build 53 #[(0, name_1'), (1, gen_2')]) fun v19 =>
 S.box 53 (.agg #[(.string ⟨#[]⟩), (.int .i64 0)]) fun h_8 =>
 S.st 2 h_8 v19 fun _ =>
 S.ldN 2 h_8 fun v21 =>
 CF Tryz.prog 41 [b_0', v21] fun v22 =>
 S.not1 v22 fun v23 =>
 S.cond v23 (
 V Tryz.prog (Instr.build 31 #[]) fun v24 =>
 S.st 4 v6'2 v24 fun _ =>
 S.ldN 4 v6'2 fun v6'3 =>
 K (.tuple #[v6'3, (I 9)])) (
 S.dr <|
 S.nc b_0' fun v26 =>
 S.fad v26 0 fun v27 =>
 S.ld v27 fun v28 =>
 S.lk .string (.slice none 0 0) false v28 name_1' fun v30 =>
 S.ldN 2 h_8 fun v32 =>
 CF Tryz.prog 43 [b_0', v32] fun v33 =>
 S.rck [S.lk .string (.slice none 0 0) false v28 name_1' (fun v' _ => v' = v30), S.ld v27 (fun v' _ => v' = v28)] <|
 S.ixS 4 v30 v33 fun v34 =>
 S.ldN 4 v34 fun v35 =>
 CF Tryz.prog 42 [v35] fun v36 =>
 S.st 4 v6'2 v36 fun _ =>
 S.ldN 4 v6'2 fun v6'4 =>
 K (.tuple #[v6'4, (I 0)])))
theorem e11 [Amb] (b_0 name_1 gen_2 : Value) (K : Value → WT) : s11 b_0 name_1 gen_2 K = shal Tryz.prog Tryz.f11 .p a11 [b_0, name_1, gen_2] K := by kernel_rfl
theorem c11 [Amb] {b_0 name_1 gen_2 : Value} {K : Value → WT} {w : World} (h : s11 b_0 name_1 gen_2 K w) : CF Tryz.prog 11 [b_0, name_1, gen_2] K w := shal_sound Tryz.func11 (e11 b_0 name_1 gen_2 K ▸ h)
def a12 : Ann := .seq (.z) (.seq (.z) (.seq (.seq (.z) (.cond (.seq (.z) (.z)) (.z))) (.seq (.seq (.z) (.blk (.loop [0, 2, 6, 8, 10] (.seq (.seq (.z) (.cond (.z) (.z))) (.seq (.blk (.seq (.z) (.join [0, 2, 6, 8, 10, 11, 58] (.z) (.cond (.seq (.z) (.z)) (.z))))) (.z)))))) (.seq (.z) (.z)))))
def s12 [Amb] (b_0 name_1 gen_2 : Value) (K : Value → WT) : WT :=
 S.box 31 (.agg #[(.int .i64 0), (.int .i64 0), (.slice none 0 0), (.bool false)]) fun v6 =>
 CF Tryz.prog 44 [b_0, name_1] fun v15 =>
 S.ext v15 0 fun v16 =>
 S.ext v15 1 fun v17 =>
 S.not1 v17 fun v19 =>
 S.cond v19 (
 V Tryz.prog (Instr.build 31 #[]) fun v20 =>
 S.st 4 v6 v20 fun _ =>
 S.ldN 4 v6 fun v6' =>
 K (.tuple #[v6', (I 9)])) (
 S.nc b_0 fun v22 =>
 S.fad v22 0 fun v23 =>
 S.ld v23 fun v24 =>
 S.ixS 2 v24 v16 fun v26 =>
 S.fad v26 1 fun v27 =>
 S.ld v27 fun v28 =>
 S.len v28 fun v29 =>
 S.bin .sub v29 (I 1) fun v30 =>
 S.loop 5 (fun K0 => fun b_0' gen_2' v6'2 i_8 k_10 => S.fa fun _ =>
 S.bin .geq k_10 (I 0) fun v32 =>
 S.cond v32 (
 S.nc b_0' fun v36 =>
 S.fad v36 0 fun v37 =>
 S.ld v37 fun v38 =>
 S.ixS 2 v38 i_8 fun v40 =>
 S.fad v40 1 fun v41 =>
 S.ld v41 fun v42 =>
 S.ixS 4 v42 k_10 fun v44 =>
 S.ldN 4 v44 fun v45 =>
 S.box 31 (.agg #[(.int .i64 0), (.int .i64 0), (.slice none 0 0), (.bool false)]) fun v_11 =>
 S.st 4 v_11 v45 fun _ =>
 S.join 7 (fun K1 =>
 S.fad v_11 3 fun v46 =>
 S.ld v46 fun v47 =>
 S.not1 v47 fun v48 =>
 S.gd v48 true (fun k => k gen_2') fun v50 =>
 S.gd v48 true (S.bin .eql v50 (I 0)) fun v51 =>
 S.gd v48 true (fun k => k v51) fun v52 =>
 S.gd v52 false (S.fad v_11 0) fun v53 =>
 S.gd v52 false (S.ld v53) fun v54 =>
 S.gd v52 false (fun k => k gen_2') fun v55 =>
 S.gd v52 false (S.bin .eql v54 v55) fun v56 =>
 S.gd v48 true (S.pick v52 (B true) v56) fun v57 =>
 S.pick v48 v57 (B false) fun v58 =>
 K1 b_0' gen_2' v6'2 i_8 k_10 v_11 v58)
 <| fun b_0'2 gen_2'2 v6'3 i_8' k_10' v_11' v58' => S.fa fun _ =>
 S.cond v58' (
 S.ldN 4 v_11' fun v59 =>
 S.st 4 v6'3 v59 fun _ =>
 S.ldN 4 v6'3 fun v6'4 =>
 K (.tuple #[v6'4, (I 0)])) (
 S.bin .sub k_10' (I 1) fun v34 =>
 K0 b_0'2 gen_2'2 v6'3 i_8' v34)) (
 V Tryz.prog (Instr.build 31 #[]) fun v60 =>
 S.st 4 v6'2 v60 fun _ =>
 S.ldN 4 v6'2 fun v6'5 =>
 K (.tuple #[v6'5, (I 9)])))
 [b_0, gen_2, v6, v16, v30])
theorem e12 [Amb] (b_0 name_1 gen_2 : Value) (K : Value → WT) : s12 b_0 name_1 gen_2 K = shal Tryz.prog Tryz.f12 .p a12 [b_0, name_1, gen_2] K := by kernel_rfl
theorem c12 [Amb] {b_0 name_1 gen_2 : Value} {K : Value → WT} {w : World} (h : s12 b_0 name_1 gen_2 K w) : CF Tryz.prog 12 [b_0, name_1, gen_2] K w := shal_sound Tryz.func12 (e12 b_0 name_1 gen_2 K ▸ h)
def a13 : Ann := .seq (.z) (.seq (.seq (.z) (.cond (.seq (.z) (.z)) (.z))) (.seq (.z) (.seq (.z) (.seq (.seq (.z) (.cond (.seq (.z) (.z)) (.z))) (.seq (.draw [0, 1, 2, 3, 4, 5, 6, 7, 8, 9, 10, 11, 12, 13, 14, 15, 16]) (.z))))))
def s13 [Amb] (b_0 shot_1 name_2 : Value) (K : Value → WT) : WT :=
 S.box 9 name_2 fun name_5 =>
 S.box 31 (.agg #[(.int .i64 0), (.int .i64 0), (.slice none 0 0), (.bool false)]) fun v6 =>
 S.eqv Tryz.prog .eql 23 true b_0 (.pointer none) fun v11 =>
 S.cond v11 (
 V Tryz.prog (Instr.build 31 #[]) fun v12 =>
 S.st 4 v6 v12 fun _ =>
 S.ldN 4 v6 fun v6' =>
 K (.tuple #[v6', (I 1)])) (
 S.nc b_0 fun v14 =>
 S.fad v14 1 fun v15 =>
 S.ld v15 fun v16 =>
 S.lk .string (.agg #[(.string ⟨#[]⟩), (.int .i64 0), (.slice none 0 0)]) false v16 shot_1 fun v18 =>
 S.prt false 2 1 v18 fun v19 =>
 CF Tryz.prog 45 [v19, (.func (Go.Fn.func 46) #[] #[name_5])] fun v22 =>
 S.bin .lss v22 (I 0) fun v24 =>
 S.cond v24 (
 V Tryz.prog (Instr.build 31 #[]) fun v25 =>
 S.st 4 v6 v25 fun _ =>
 S.ldN 4 v6 fun v6'2 =>
 K (.tuple #[v6'2, (I 9)])) (
 S.dr <|
 S.nc b_0 fun v27 =>
 S.fad v27 0 fun v28 =>
 S.ld v28 fun v29 =>
 S.ld name_5 fun v30 =>
 S.lk .string (.slice none 0 0) false v29 v30 fun v31 =>
 S.ixS 2 v19 v22 fun v35 =>
 S.ldN 2 v35 fun v36 =>
 CF Tryz.prog 43 [b_0, v36] fun v37 =>
 S.rck [S.lk .string (.slice none 0 0) false v29 v30 (fun v' _ => v' = v31), S.ld name_5 (fun v' _ => v' = v30), S.ld v28 (fun v' _ => v' = v29)] <|
 S.ixS 4 v31 v37 fun v38 =>
 S.ldN 4 v38 fun v39 =>
 CF Tryz.prog 42 [v39] fun v40 =>
 S.st 4 v6 v40 fun _ =>
 S.ldN 4 v6 fun v6'3 =>
 K (.tuple #[v6'3, (I 0)])))
theorem e13 [Amb] (b_0 shot_1 name_2 : Value) (K : Value → WT) : s13 b_0 shot_1 name_2 K = shal Tryz.prog Tryz.f13 .p a13 [b_0, shot_1, name_2] K := by kernel_rfl
theorem c13 [Amb] {b_0 shot_1 name_2 : Value} {K : Value → WT} {w : World} (h : s13 b_0 shot_1 name_2 K w) : CF Tryz.prog 13 [b_0, shot_1, name_2] K w := shal_sound Tryz.func13 (e13 b_0 shot_1 name_2 K ▸ h)
def a15 : Ann := .seq (.z) (.seq (.z) (.z))
def s15 [Amb] (a_0 b_1 : Value) (K : Value → WT) : WT :=
 S.box 31 a_0 fun a_2 =>
 S.box 31 b_1 fun b_3 =>
 S.fad a_2 0 fun v5 =>
 S.ld v5 fun v6 =>
 S.fad b_3 0 fun v7 =>
 S.ld v7 fun v8 =>
 S.bin .eql v6 v8 fun v9 =>
 S.gd v9 true (S.fad a_2 1) fun v11 =>
 S.gd v9 true (S.ld v11) fun v12 =>
 S.gd v9 true (S.fad b_3 1) fun v13 =>
 S.gd v9 true (S.ld v13) fun v14 =>
 S.gd v9 true (S.bin .eql v12 v14) fun v15 =>
 S.pick v9 v15 (B false) fun v16 =>
 S.gd v16 true (S.fad a_2 3) fun v18 =>
 S.gd v16 true (S.ld v18) fun v19 =>
 S.gd v16 true (S.fad b_3 3) fun v20 =>
 S.gd v16 true (S.ld v20) fun v21 =>
 S.gd v16 true (S.beq .eql v19 v21) fun v22 =>
 S.pick v16 v22 (B false) fun v23 =>
 S.gd v23 true (S.fad a_2 2) fun v25 =>
 S.gd v23 true (S.ld v25) fun v26 =>
 S.gd v23 true (S.fad b_3 2) fun v27 =>
 S.gd v23 true (S.ld v27) fun v28 =>
 S.gd v23 true (CF Tryz.prog 25 [v26, v28]) fun v29 =>
 S.pick v23 v29 (B false) fun v30 =>
 K v30
theorem e15 [Amb] (a_0 b_1 : Value) (K : Value → WT) : s15 a_0 b_1 K = shal Tryz.prog Tryz.f15 .p a15 [a_0, b_1] K := by kernel_rfl
theorem c15 [Amb] {a_0 b_1 : Value} {K : Value → WT} {w : World} (h : s15 a_0 b_1 K w) : CF Tryz.prog 15 [a_0, b_1] K w := shal_sound Tryz.func15 (e15 a_0 b_1 K ▸ h)
def a16 : Ann := .seq (.z) (.seq (.seq (.z) (.cond (.seq (.z) (.z)) (.z))) (.seq (.z) (.seq (.seq (.z) (.cond (.seq (.z) (.z)) (.z))) (.seq (.z) (.z)))))
def s16 [Amb] (b_0 name_1 : Value) (K : Value → WT) : WT :=
 S.eqv Tryz.prog .eql 23 true b_0 (.pointer none) fun v7 =>
 S.cond v7 (
 K (I 0)) (
 S.nc b_0 fun v9 =>
 S.fad v9 0 fun v10 =>
 S.ld v10 fun v11 =>
 S.lk .string (.slice none 0 0) false v11 name_1 fun v13 =>
 S.len v13 fun v15 =>
 S.bin .eql v15 (I 0) fun v16 =>
 S.cond v16 (
 K (I 1)) (
 S.len v13 fun v19 =>
 S.bin .sub v19 (I 1) fun v20 =>
 S.ixS 4 v13 v20 fun v21 =>
 S.fad v21 0 fun v22 =>
 S.ld v22 fun v23 =>
 S.bin .add v23 (I 1) fun v24 =>
 K v24))
theorem e16 [Amb] (b_0 name_1 : Value) (K : Value → WT) : s16 b_0 name_1 K = shal Tryz.prog Tryz.f16 .p a16 [b_0, name_1] K := by kernel_rfl
theorem c16 [Amb] {b_0 name_1 : Value} {K : Value → WT} {w : World} (h : s16 b_0 name_1 K w) : CF Tryz.prog 16 [b_0, name_1] K w := shal_sound Tryz.func16 (e16 b_0 name_1 K ▸ h)
def a17 : Ann := .seq (.z) (.seq (.z) (.seq (.seq (.z) (.cond (.seq (.z) (.z)) (.z))) (.seq (.z) (.seq (.z) (.z)))))
def s17 [Amb] (b_0 name_1 : Value) (K : Value → WT) : WT :=
 CF Tryz.prog 44 [b_0, name_1] fun v11 =>
 S.ext v11 0 fun v12 =>
 S.ext v11 1 fun v13 =>
 S.not1 v13 fun v15 =>
 S.cond v15 (
 K (I 1)) (
 S.nc b_0 fun v17 =>
 S.fad v17 0 fun v18 =>
 S.ld v18 fun v19 =>
 S.ixS 2 v19 v12 fun v21 =>
 S.fad v21 1 fun v22 =>
 S.ld v22 fun v23 =>
 S.len v23 fun v26 =>
 S.bin .sub v26 (I 1) fun v27 =>
 S.ixS 4 v23 v27 fun v28 =>
 S.fad v28 0 fun v29 =>
 S.ld v29 fun v30 =>
 S.bin .add v30 (I 1) fun v31 =>
 K v31)
theorem e17 [Amb] (b_0 name_1 : Value) (K : Value → WT) : s17 b_0 name_1 K = shal Tryz.prog Tryz.f17 .p a17 [b_0, name_1] K := by kernel_rfl
theorem c17 [Amb] {b_0 name_1 : Value} {K : Value → WT} {w : World} (h : s17 b_0 name_1 K w) : CF Tryz.prog 17 [b_0, name_1] K w := shal_sound Tryz.func17 (e17 b_0 name_1 K ▸ h)
def a18 : Ann := .seq (.z) (.seq (.blk (.seq (.z) (.cond (.seq (.z) (.z)) (.join [0, 3, 15] (.z) (.cond (.seq (.z) (.z)) (.z)))))) (.seq (.z) (.seq (.seq (.z) (.blk (.loop [0, 3, 6, 35, 36, 37] (.seq (.z) (.seq (.cond (.z) (.z)) (.seq (.blk (.seq (.z) (.seq (.z) (.seq (.z) (.blk (.loop [0, 3, 6, 8, 9, 35, 36, 37, 49, 50, 51] (.seq (.z) (.seq (.cond (.z) (.z)) (.join [0, 3, 6, 8, 9, 35, 36, 37, 49, 50, 51] (.blk (.seq (.z) (.seq (.z) (.cond (.z) (.z))))) (.z)))))))))) (.z))))))) (.seq (.z) (.z)))))
def s18 [Amb] (v0 v1 : Value) (K : Value → WT) : WT :=
 S.box 43 v1 fun v3 =>
 S.eqv Tryz.prog .eql 23 true v0 (.pointer none) fun v14 =>
 S.cond v14 (
 K (.tuple #[(.slice none 0 0), (I 1)])) (
 S.join 3 (fun K0 =>
 S.fad v3 0 fun v16 =>
 S.ld v16 fun v17 =>
 S.bin .lss v17 (I 0) fun v18 =>
 S.gd v18 false (S.fad v3 1) fun v20 =>
 S.gd v18 false (S.ld v20) fun v21 =>
 S.gd v18 false (S.bin .lss v21 (I 0)) fun v22 =>
 S.pick v18 (B true) v22 fun v23 =>
 S.gd v23 false (S.fad v3 2) fun v25 =>
 S.gd v23 false (S.ld v25) fun v26 =>
 S.gd v23 false (S.bin .lss v26 (I 1)) fun v27 =>
 S.pick v23 (B true) v27 fun v28 =>
 S.gd v28 false (S.fad v3 3) fun v30 =>
 S.gd v28 false (S.ld v30) fun v31 =>
 S.gd v28 false (S.bin .lss v31 (I 0)) fun v32 =>
 S.pick v28 (B true) v32 fun v33 =>
 K0 v0 v3 v33)
 <| fun v0' v3' v15 => S.fa fun _ =>
 S.cond v15 (
 K (.tuple #[(.slice none 0 0), (I 2)])) (
 CF Tryz.prog 49 [v0'] fun v35 =>
 S.len v35 fun v36 =>
 S.loop 6 (fun K1 => fun v0'2 v3'2 v6 v35' v36' v37 => S.fa fun _ =>
 S.bin .lss v37 v36' fun v38 =>
 S.cond v38 (
 S.ixS 1 v35' v37 fun v39 =>
 S.ld v39 fun v40 =>
 S.nc v0'2 fun v42 =>
 S.fad v42 0 fun v43 =>
 S.ld v43 fun v44 =>
 S.lk .string (.slice none 0 0) false v44 v40 fun v46 =>
 CF Tryz.prog 51 [v46] fun v47 =>
 CF Tryz.prog 50 [v47, (.func (.func 52) #[] #[])] fun v48 =>
 S.len v48 fun v50 =>
 S.loop 11 (fun K2 => fun v0'3 v3'3 v6' v8 v9 v35'2 v36'2 v37' v49 v50' v51 => S.fa fun _ =>
 S.bin .lss v51 v50' fun v52 =>
 S.cond v52 (
 S.join 11 (fun K3 =>
 S.ixS 4 v49 v51 fun v54 =>
 S.ldN 4 v54 fun v55 =>
 S.box 31 (.agg #[(.int .i64 0), (.int .i64 0), (.slice none 0 0), (.bool false)]) fun v11 =>
 S.st 4 v11 v55 fun _ =>
 S.ldN 4 v3'3 fun v59 =>
 CF Tryz.prog 53 [v0'3, v9, v51, v59] fun v60 =>
 S.not1 v60 fun v61 =>
 S.cond v61 (
 S.fad v11 0 fun v64 =>
 S.ld v64 fun v65 =>
 V Tryz.prog (Instr.build 53 #[(0, v8), (1, v65)]) fun v66 =>
 V Tryz.prog (Instr.buildSlice 44 1 #[(0, v66)]) fun v67 =>
 V Tryz.prog (Builtin.append_ #[44, 44] 44 #[v6', v67]) fun v68 =>
 K3 v0'3 v3'3 v68 v8 v9 v35'2 v36'2 v37' v49 v50' v51) (
 K3 v0'3 v3'3 v6' v8 v9 v35'2 v36'2 v37' v49 v50' v51))
 <| fun v0'4 v3'4 v6'2 v8' v9' v35'3 v36'3 v37'2 v49' v50'2 v51' => S.fa fun _ =>
 S.bin .add v51' (I 1) fun v69 =>
 K2 v0'4 v3'4 v6'2 v8' v9' v35'3 v36'3 v37'2 v49' v50'2 v69) (
 S.bin .add v37' (I 1) fun v70 =>
 K1 v0'3 v3'3 v6' v35'2 v36'2 v70))
 [v0'2, v3'2, v6, v40, v48, v35', v36', v37, v48, v50, (I 0)]) (
 K (.tuple #[v6, (I 0)])))
 [v0', v3', (.slice none 0 0), v35, v36, (I 0)]))
theorem e18 [Amb] (v0 v1 : Value) (K : Value → WT) : s18 v0 v1 K = shal Tryz.prog Tryz.f18 .p a18 [v0, v1] K := by kernel_rfl
theorem c18 [Amb] {v0 v1 : Value} {K : Value → WT} {w : World} (h : s18 v0 v1 K w) : CF Tryz.prog 18 [v0, v1] K w := shal_sound Tryz.func18 (e18 v0 v1 K ▸ h)
def a19 : Ann := .seq (.z) (.seq (.join [0, 3, 28] (.z) (.cond (.seq (.z) (.z)) (.z))) (.seq (.z) (.seq (.seq (.z) (.blk (.loop [0, 3, 6, 7] (.seq (.seq (.z) (.cond (.z) (.z))) (.seq (.blk (.seq (.z) (.seq (.seq (.z) (.blk (.loop [0, 3, 6, 7, 8, 9] (.seq (.seq (.z) (.cond (.z) (.z))) (.join [0, 3, 6, 7, 8, 9] (.blk (.seq (.z) (.cond (.z) (.z)))) (.z)))))) (.seq (.z) (.blk (.loop [0, 3, 6, 7, 8, 10] (.seq (.seq (.z) (.cond (.z) (.z))) (.join [0, 3, 6, 7, 8, 10] (.blk (.seq (.z) (.cond (.draw [0, 1, 2, 3, 4, 5, 6, 7, 8, 9, 10, 11, 12, 13, 14, 15, 16, 17]) (.z)))) (.z))))))))) (.z)))))) (.seq (.z) (.z)))))
def s19 [Amb] (v0 v1 : Value) (K : Value → WT) : WT :=
 S.box 43 v1 fun v3 =>
 S.join 3 (fun K0 =>
 S.fad v3 0 fun v11 =>
 S.ld v11 fun v12 =>
 S.bin .lss v12 (I 0) fun v13 =>
 S.gd v13 false (S.fad v3 1) fun v15 =>
 S.gd v13 false (S.ld v15) fun v16 =>
 S.gd v13 false (S.bin .lss v16 (I 0)) fun v17 =>
 S.pick v13 (B true) v17 fun v18 =>
 S.gd v18 false (S.fad v3 2) fun v20 =>
 S.gd v18 false (S.ld v20) fun v21 =>
 S.gd v18 false (S.bin .lss v21 (I 1)) fun v22 =>
 S.pick v18 (B true) v22 fun v23 =>
 S.gd v23 false (S.fad v3 3) fun v25 =>
 S.gd v23 false (S.ld v25) fun v26 =>
 S.gd v23 false (S.bin .lss v26 (I 0)) fun v27 =>
 S.pick v23 (B true) v27 fun v28 =>
 K0 v0 v3 v28)
 <| fun v0' v3' v28' => S.fa fun _ =>
 S.cond v28' (
 K (.tuple #[(.slice none 0 0), (I 2)])) (
 V Tryz.prog (Instr.buildSlice 44 0 #[]) fun v29 =>
 S.loop 4 (fun K1 => fun v0'2 v3'2 v6 v7 => S.fa fun _ =>
 S.nc v0'2 fun v32 =>
 S.fad v32 0 fun v33 =>
 S.ld v33 fun v34 =>
 S.len v34 fun v35 =>
 S.bin .lss v7 v35 fun v36 =>
 S.cond v36 (
 V Tryz.prog (Instr.buildSlice 63 0 #[]) fun v39 =>
 S.loop 6 (fun K2 => fun v0'3 v3'3 v6' v7' v8 v9 => S.fa fun _ =>
 S.nc v0'3 fun v42 =>
 S.fad v42 0 fun v43 =>
 S.ld v43 fun v44 =>
 S.ixS 2 v44 v7' fun v46 =>
 S.fad v46 1 fun v47 =>
 S.ld v47 fun v48 =>
 S.len v48 fun v49 =>
 S.bin .lss v9 v49 fun v50 =>
 S.cond v50 (
 S.join 6 (fun K3 =>
 S.nc v0'3 fun v54 =>
 S.fad v54 0 fun v55 =>
 S.ld v55 fun v56 =>
 S.ixS 2 v56 v7' fun v58 =>
 S.fad v58 1 fun v59 =>
 S.ld v59 fun v60 =>
 S.ixS 4 v60 v9 fun v62 =>
 S.fad v62 3 fun v63 =>
 S.ld v63 fun v64 =>
 S.not1 v64 fun v65 =>
 S.cond v65 (
 S.nc v0'3 fun v68 =>
 S.fad v68 0 fun v69 =>
 S.ld v69 fun v70 =>
 S.ixS 2 v70 v7' fun v72 =>
 S.fad v72 1 fun v73 =>
 S.ld v73 fun v74 =>
 S.ixS 4 v74 v9 fun v76 =>
 S.ldN 4 v76 fun v77 =>
 V Tryz.prog (Instr.buildSlice 63 1 #[(0, v77)]) fun v78 =>
 V Tryz.prog (Builtin.append_ #[63, 63] 63 #[v8, v78]) fun v79 =>
 K3 v0'3 v3'3 v6' v7' v79 v9) (
 K3 v0'3 v3'3 v6' v7' v8 v9))
 <| fun v0'4 v3'4 v6'2 v7'2 v8' v9' => S.fa fun _ =>
 S.bin .add v9' (I 1) fun v52 =>
 K2 v0'4 v3'4 v6'2 v7'2 v8' v52) (
 S.loop 6 (fun K4 => fun v0'5 v3'5 v6'3 v7'3 v8'2 v10 => S.fa fun _ =>
 S.len v8'2 fun v82 =>
 S.bin .lss v10 v82 fun v83 =>
 S.cond v83 (
 S.join 6 (fun K5 =>
 S.ldN 4 v3'5 fun v89 =>
 CF Tryz.prog 54 [v0'5, v8'2, v10, v89] fun v90 =>
 S.not1 v90 fun v91 =>
 S.cond v91 (
 S.dr <|
 S.nc v0'5 fun v94 =>
 S.fad v94 0 fun v95 =>
 S.ld v95 fun v96 =>
 S.ixS 2 v96 v7'3 fun v98 =>
 S.fad v98 0 fun v99 =>
 S.ld v99 fun v100 =>
 S.ixS 4 v8'2 v10 fun v103 =>
 S.fad v103 0 fun v104 =>
 S.ld v104 fun v105 =>
 V Tryz.prog (Instr.build 53 #[(0, v100), (1, v105)]) fun v106 =>
 V Tryz.prog (Instr.buildSlice 44 1 #[(0, v106)]) fun v107 =>
 V Tryz.prog (Builtin.append_ #[44, 44] 44 #[v6'3, v107]) fun v108 =>
 K5 v0'5 v3'5 v108 v7'3 v8'2 v10) (
 K5 v0'5 v3'5 v6'3 v7'3 v8'2 v10))
 <| fun v0'6 v3'6 v6'4 v7'4 v8'3 v10' => S.fa fun _ =>
 S.bin .add v10' (I 1) fun v85 =>
 K4 v0'6 v3'6 v6'4 v7'4 v8'3 v85) (
 S.bin .add v7'3 (I 1) fun v38 =>
 K1 v0'5 v3'5 v6'3 v38))
 [v0'3, v3'3, v6', v7', v8, (I 0)]))
 [v0'2, v3'2, v6, v7, v39, (I 0)]) (
 K (.tuple #[v6, (I 0)])))
 [v0', v3', v29, (I 0)])
theorem e19 [Amb] (v0 v1 : Value) (K : Value → WT) : s19 v0 v1 K = shal Tryz.prog Tryz.f19 .p a19 [v0, v1] K := by kernel_rfl
theorem c19 [Amb] {v0 v1 : Value} {K : Value → WT} {w : World} (h : s19 v0 v1 K w) : CF Tryz.prog 19 [v0, v1] K w := shal_sound Tryz.func19 (e19 v0 v1 K ▸ h)
def a20 : Ann := .seq (.z) (.seq (.seq (.z) (.cond (.seq (.z) (.z)) (.z))) (.seq (.seq (.z) (.blk (.loop [0, 1, 5] (.seq (.seq (.z) (.cond (.z) (.z))) (.seq (.blk (.seq (.draw [0, 1, 2, 3, 4, 5, 6, 7, 8]) (.cond (.seq (.z) (.z)) (.z)))) (.z)))))) (.seq (.z) (.z))))
def s20 [Amb] (a_0 b_1 : Value) (K : Value → WT) : WT :=
 S.len a_0 fun v7 =>
 S.len b_1 fun v9 =>
 S.bin .neq v7 v9 fun v10 =>
 S.cond v10 (
 K (B false)) (
 S.loop 3 (fun K0 => fun a_0' b_1' i_5 => S.fa fun _ =>
 S.len a_0' fun v13 =>
 S.bin .lss i_5 v13 fun v14 =>
 S.cond v14 (
 S.dr <|
 S.ixS 2 a_0' i_5 fun v19 =>
 S.ldN 2 v19 fun v20 =>
 S.ixS 2 b_1' i_5 fun v23 =>
 S.ldN 2 v23 fun v24 =>
 S.eqv Tryz.prog .neq 53 false v20 v24 fun v25 =>
 S.cond v25 (
 K (B false)) (
 S.bin .add i_5 (I 1) fun v16 =>
 K0 a_0' b_1' v16)) (
 K (B true)))
 [a_0, b_1, (I 0)])
theorem e20 [Amb] (a_0 b_1 : Value) (K : Value → WT) : s20 a_0 b_1 K = shal Tryz.prog Tryz.f20 .p a20 [a_0, b_1] K := by kernel_rfl
theorem c20 [Amb] {a_0 b_1 : Value} {K : Value → WT} {w : World} (h : s20 a_0 b_1 K w) : CF Tryz.prog 20 [a_0, b_1] K w := shal_sound Tryz.func20 (e20 a_0 b_1 K ▸ h)
def a21 : Ann := .seq (.z) (.seq (.draw [0, 2, 3, 4, 5, 1, 6, 7, 8, 10, 11, 12, 13, 9, 14, 15, 16, 17, 19, 20, 21, 22, 18, 23, 24, 25, 26, 28, 27, 29, 30, 31, 32]) (.z))
def s21 [Amb] (x_0 y_1 : Value) (K : Value → WT) : WT :=
 S.dr <|
 S.nc y_1 fun v8 =>
 S.fad v8 0 fun v9 =>
 S.ld v9 fun v10 =>
 CF Tryz.prog 36 [x_0] fun v6 =>
 S.rck [S.ld v9 (fun v' _ => v' = v10)] <|
 CF Tryz.prog 55 [v6, v10] fun v11 =>
 S.gd v11 true (fun k => k x_0) fun v13 =>
 S.gd v11 true (fun k => k y_1) fun v15 =>
 S.gd v11 true (S.nc v15) fun v16 =>
 S.gd v11 true (S.fad v16 1) fun v17 =>
 S.gd v11 true (S.ld v17) fun v18 =>
 S.gd v11 true (CF Tryz.prog 37 [v13]) fun v14 =>
 S.rck [S.gd v11 true (S.ld v17) (fun v' _ => v' = v18)] <|
 S.gd v11 true (CF Tryz.prog 56 [v14, v18]) fun v19 =>
 S.pick v11 v19 (B false) fun v20 =>
 S.gd v20 true (fun k => k x_0) fun v22 =>
 S.gd v20 true (fun k => k y_1) fun v24 =>
 S.gd v20 true (S.nc v24) fun v25 =>
 S.gd v20 true (S.fad v25 2) fun v26 =>
 S.gd v20 true (S.ld v26) fun v27 =>
 S.gd v20 true (CF Tryz.prog 24 [v22]) fun v23 =>
 S.rck [S.gd v20 true (S.ld v26) (fun v' _ => v' = v27)] <|
 S.gd v20 true (S.bin .eql v23 v27) fun v28 =>
 S.pick v20 v28 (B false) fun v29 =>
 S.gd v29 true (fun k => k x_0) fun v31 =>
 S.gd v29 true (fun k => k y_1) fun v33 =>
 S.gd v29 true (CF Tryz.prog 22 [v31]) fun v32 =>
 S.gd v29 true (CF Tryz.prog 57 [v33]) fun v34 =>
 S.gd v29 true (CF Tryz.prog 20 [v32, v34]) fun v35 =>
 S.pick v29 v35 (B false) fun v36 =>
 K v36
theorem e21 [Amb] (x_0 y_1 : Value) (K : Value → WT) : s21 x_0 y_1 K = shal Tryz.prog Tryz.f21 .p a21 [x_0, y_1] K := by kernel_rfl
theorem c21 [Amb] {x_0 y_1 : Value} {K : Value → WT} {w : World} (h : s21 x_0 y_1 K w) : CF Tryz.prog 21 [x_0, y_1] K w := shal_sound Tryz.func21 (e21 x_0 y_1 K ▸ h)
def a22 : Ann := .seq (.z) (.seq (.z) (.seq (.seq (.z) (.blk (.loop [0, 3, 8, 9, 10] (.seq (.z) (.seq (.cond (.z) (.z)) (.join [0, 3, 8, 9, 10] (.blk (.seq (.z) (.seq (.z) (.seq (.z) (.cond (.z) (.z)))))) (.z))))))) (.seq (.z) (.z))))
def s22 [Amb] (b_0 : Value) (K : Value → WT) : WT :=
 CF Tryz.prog 49 [b_0] fun v8 =>
 S.len v8 fun v9 =>
 S.loop 5 (fun K0 => fun b_0' out_3 v8' v9' v10 => S.fa fun _ =>
 S.bin .lss v10 v9' fun v11 =>
 S.cond v11 (
 S.join 5 (fun K1 =>
 S.ixS 1 v8' v10 fun v12 =>
 S.ld v12 fun v13 =>
 CF Tryz.prog 40 [b_0', v13] fun v16 =>
 S.bin .gtr v16 (I 0) fun v18 =>
 S.cond v18 (
 V Tryz.prog (Instr.build 53 #[(0, v13), (1, v16)]) fun v22 =>
 V Tryz.prog (Instr.buildSlice 44 1 #[(0, v22)]) fun v23 =>
 V Tryz.prog (Builtin.append_ #[44, 44] 44 #[out_3, v23]) fun v24 =>
 K1 b_0' v24 v8' v9' v10) (
 K1 b_0' out_3 v8' v9' v10))
 <| fun b_0'2 out_3' v8'2 v9'2 v10' => S.fa fun _ =>
 S.bin .add v10' (I 1) fun v25 =>
 K0 b_0'2 out_3' v8'2 v9'2 v25) (
 K out_3))
 [b_0, (.slice none 0 0), v8, v9, (I 0)]
theorem e22 [Amb] (b_0 : Value) (K : Value → WT) : s22 b_0 K = shal Tryz.prog Tryz.f22 .p a22 [b_0] K := by kernel_rfl
theorem c22 [Amb] {b_0 : Value} {K : Value → WT} {w : World} (h : s22 b_0 K w) : CF Tryz.prog 22 [b_0] K w := shal_sound Tryz.func22 (e22 b_0 K ▸ h)
def a23 : Ann := .seq (.z) (.seq (.seq (.z) (.seq (.z) (.cond (.seq (.z) (.z)) (.z)))) (.join [] (.seq (.z) (.blk (.seq (.z) (.cond (.z) (.seq (.z) (.cond (.drawT 25 (.one 0 (.one 1 (.one 2 (.one 3 (.one 4 (.one 5 (.one 6 (.one 7 (.one 8 (.one 9 (.one 10 (.one 11 (.one 12 (.one 14 (.one 15 (.one 16 (.one 17 (.one 18 (.one 19 (.two 13 (.one 20 (.one 21 (.one 22 (.one 23 (.one 24 .nil))))) 20 (.one 13 (.one 21 (.one 22 (.one 23 (.one 24 .nil)))))))))))))))))))))))))) (.seq (.z) (.cond (.seq (.draw [0, 1, 2, 3, 4, 5, 6, 7, 8]) (.seq (.z) (.seq (.draw [0, 1, 2, 3, 4, 5, 6, 7]) (.z)))) (.seq (.z) (.cond (.draw [0, 1, 2, 3, 4, 5, 6, 7, 8, 9, 10, 11, 12, 13, 14]) (.seq (.z) (.cond (.seq (.draw [0, 1, 2, 3, 4, 5, 6, 7, 8]) (.seq (.draw [0, 1, 2, 3, 4, 5, 6]) (.seq (.z) (.blk (.loop [0, 118, 119, 120] (.seq (.z) (.seq (.cond (.z) (.z)) (.seq (.blk (.seq (.z) (.z))) (.z))))))))) (.seq (.z) (.cond (.z) (.seq (.z) (.cond (.seq (.z) (.seq (.z) (.blk (.loop [0, 144, 145, 146] (.seq (.z) (.seq (.cond (.z) (.z)) (.seq (.blk (.seq (.z) (.z))) (.z)))))))) (.z))))))))))))))))) (.seq (.z) (.z))))
def s23 [Amb] (v0 v1 : Value) (K : Value → WT) : WT :=
 S.box 60 v1 fun v3 =>
 S.ldN 14 v3 fun v15 =>
 CF Tryz.prog 35 [v0, v15] fun v16 =>
 S.bin .neq v16 (I 0) fun v18 =>
 S.cond v18 (
 K v16) (
 S.join 0 (fun K0 =>
 S.fad v3 0 fun v20 =>
 S.ld v20 fun v21 =>
 S.bin .eql v21 (I 8) fun v23 =>
 S.cond v23 (
 S.fad v3 6 fun v25 =>
 S.ld v25 fun v26 =>
 S.nc v0 fun v27 =>
 S.fad v27 2 fun v28 =>
 S.st 1 v28 v26 fun _ =>
 K0) (
 S.bin .eql v21 (I 3) fun v30 =>
 S.cond v30 (
 S.dr <|
 S.nc v0 fun v32 =>
 S.fad v32 0 fun v33 =>
 S.ld v33 fun v34 =>
 S.fad v3 4 fun v35 =>
 S.ld v35 fun v36 =>
 S.nc v0 fun v38 =>
 S.fad v38 0 fun v39 =>
 S.ld v39 fun v40 =>
 S.fad v3 4 fun v41 =>
 S.ld v41 fun v42 =>
 S.lk .string (.slice none 0 0) false v40 v42 fun v43 =>
 S.fad v3 5 fun v45 =>
 S.ld v45 fun v46 =>
 S.fad v3 6 fun v47 =>
 S.ld v47 fun v48 =>
 S.fad v3 7 fun v49 =>
 S.ld v49 fun v50 =>
 S.both (
 CF Tryz.prog 51 [v43] fun v44 =>
 S.rck [S.ld v49 (fun v' _ => v' = v50), S.ld v47 (fun v' _ => v' = v48), S.ld v45 (fun v' _ => v' = v46), S.ld v35 (fun v' _ => v' = v36), S.ld v33 (fun v' _ => v' = v34)] <|
 V Tryz.prog (Instr.build 31 #[(0, v46), (1, v48), (2, v50)]) fun v51 =>
 S.rck [S.ld v35 (fun v' _ => v' = v36), S.ld v33 (fun v' _ => v' = v34)] <|
 CF Tryz.prog 42 [v51] fun v52 =>
 S.rck [S.ld v35 (fun v' _ => v' = v36), S.ld v33 (fun v' _ => v' = v34)] <|
 V Tryz.prog (Instr.buildSlice 63 1 #[(0, v52)]) fun v53 =>
 S.rck [S.ld v35 (fun v' _ => v' = v36), S.ld v33 (fun v' _ => v' = v34)] <|
 V Tryz.prog (Builtin.append_ #[63, 63] 63 #[v44, v53]) fun v54 =>
 S.rck [S.ld v35 (fun v' _ => v' = v36), S.ld v33 (fun v' _ => v' = v34)] <|
 U Tryz.prog (Instr.mapUpdate 78 v34 v36 v54) fun _ =>
 K0) (
 V Tryz.prog (Instr.build 31 #[(0, v46), (1, v48), (2, v50)]) fun v51' =>
 S.rck [S.lk .string (.slice none 0 0) false v40 v42 (fun v' _ => v' = v43), S.ld v41 (fun v' _ => v' = v42), S.ld v39 (fun v' _ => v' = v40), S.ld v35 (fun v' _ => v' = v36), S.ld v33 (fun v' _ => v' = v34)] <|
 CF Tryz.prog 51 [v43] fun v44' =>
 S.rck [S.ld v35 (fun v' _ => v' = v36), S.ld v33 (fun v' _ => v' = v34)] <|
 CF Tryz.prog 42 [v51'] fun v52' =>
 S.rck [S.ld v35 (fun v' _ => v' = v36), S.ld v33 (fun v' _ => v' = v34)] <|
 V Tryz.prog (Instr.buildSlice 63 1 #[(0, v52')]) fun v53' =>
 S.rck [S.ld v35 (fun v' _ => v' = v36), S.ld v33 (fun v' _ => v' = v34)] <|
 V Tryz.prog (Builtin.append_ #[63, 63] 63 #[v44', v53']) fun v54' =>
 S.rck [S.ld v35 (fun v' _ => v' = v36), S.ld v33 (fun v' _ => v' = v34)] <|
 U Tryz.prog (Instr.mapUpdate 78 v34 v36 v54') fun _ =>
 K0)) (
 S.bin .eql v21 (I 4) fun v56 =>
 S.cond v56 (
 S.dr <|
 S.nc v0 fun v58 =>
 S.fad v58 0 fun v59 =>
 S.ld v59 fun v60 =>
 S.fad v3 4 fun v61 =>
 S.ld v61 fun v62 =>
 S.lk .string (.slice none 0 0) false v60 v62 fun v63 =>
 CF Tryz.prog 51 [v63] fun v64 =>
 S.fad v3 4 fun v67 =>
 S.ld v67 fun v68 =>
 S.fad v3 5 fun v69 =>
 S.ld v69 fun v70 =>
 V Tryz.prog (Instr.build 53 #[(0, v68), (1, v70)]) fun v71 =>
 CF Tryz.prog 43 [v0, v71] fun v72 =>
 S.ixS 4 v64 v72 fun v73 =>
 S.fad v73 3 fun v74 =>
 S.st 1 v74 (B true) fun _ =>
 S.dr <|
 S.nc v0 fun v76 =>
 S.fad v76 0 fun v77 =>
 S.ld v77 fun v78 =>
 S.fad v3 4 fun v79 =>
 S.ld v79 fun v80 =>
 U Tryz.prog (Instr.mapUpdate 78 v78 v80 v64) fun _ =>
 S.fad v3 4 fun v83 =>
 S.ld v83 fun v84 =>
 CF Tryz.prog 58 [v0, v84] fun v85 =>
 K0) (
 S.bin .eql v21 (I 5) fun v87 =>
 S.cond v87 (
 S.dr <|
 S.nc v0 fun v89 =>
 S.fad v89 1 fun v90 =>
 S.ld v90 fun v91 =>
 S.fad v3 4 fun v92 =>
 S.ld v92 fun v93 =>
 S.fad v3 4 fun v94 =>
 S.ld v94 fun v95 =>
 S.fad v3 6 fun v96 =>
 S.ld v96 fun v97 =>
 S.fad v3 8 fun v98 =>
 S.ld v98 fun v99 =>
 CF Tryz.prog 59 [v99] fun v100 =>
 S.rck [S.ld v96 (fun v' _ => v' = v97), S.ld v94 (fun v' _ => v' = v95), S.ld v92 (fun v' _ => v' = v93), S.ld v90 (fun v' _ => v' = v91)] <|
 V Tryz.prog (Instr.build 90 #[(0, v95), (1, v97), (2, v100)]) fun v101 =>
 S.rck [S.ld v92 (fun v' _ => v' = v93), S.ld v90 (fun v' _ => v' = v91)] <|
 U Tryz.prog (Instr.mapUpdate 79 v91 v93 v101) fun _ =>
 K0) (
 S.bin .eql v21 (I 6) fun v103 =>
 S.cond v103 (
 S.dr <|
 S.nc v0 fun v105 =>
 S.fad v105 1 fun v106 =>
 S.ld v106 fun v107 =>
 S.fad v3 4 fun v108 =>
 S.ld v108 fun v109 =>
 S.lk .string (.agg #[(.string ⟨#[]⟩), (.int .i64 0), (.slice none 0 0)]) false v107 v109 fun v110 =>
 S.box 90 (.agg #[(.string ⟨#[]⟩), (.int .i64 0), (.slice none 0 0)]) fun v7 =>
 S.rck [S.lk .string (.agg #[(.string ⟨#[]⟩), (.int .i64 0), (.slice none 0 0)]) false v107 v109 (fun v' _ => v' = v110), S.ld v108 (fun v' _ => v' = v109), S.ld v106 (fun v' _ => v' = v107)] <|
 S.st 3 v7 v110 fun _ =>
 S.dr <|
 S.nc v0 fun v112 =>
 S.fad v112 1 fun v113 =>
 S.ld v113 fun v114 =>
 S.fad v3 4 fun v115 =>
 S.ld v115 fun v116 =>
 V Tryz.prog (Builtin.delete_ #[79, 9] 0 #[v114, v116]) fun _ =>
 S.fad v7 2 fun v117 =>
 S.ld v117 fun v118 =>
 S.len v118 fun v119 =>
 S.loop 4 (fun K1 => fun v0' v118' v119' v120 => S.fa fun _ =>
 S.bin .lss v120 v119' fun v121 =>
 S.cond v121 (
 S.ixS 2 v118' v120 fun v122 =>
 S.ldN 2 v122 fun v123 =>
 S.box 53 (.agg #[(.string ⟨#[]⟩), (.int .i64 0)]) fun v9 =>
 S.st 2 v9 v123 fun _ =>
 S.fad v9 0 fun v125 =>
 S.ld v125 fun v126 =>
 CF Tryz.prog 58 [v0', v126] fun v127 =>
 S.bin .add v120 (I 1) fun v128 =>
 K1 v0' v118' v119' v128) (
 K0))
 [v0, v118, v119, (I 0)]) (
 S.bin .eql v21 (I 7) fun v130 =>
 S.cond v130 (
 S.fad v3 9 fun v132 =>
 S.ld v132 fun v133 =>
 CF Tryz.prog 60 [v0, v133] fun v134 =>
 K0) (
 S.bin .eql v21 (I 9) fun v136 =>
 S.cond v136 (
 S.fad v3 10 fun v139 =>
 S.ldN 4 v139 fun v140 =>
 CF Tryz.prog 18 [v0, v140] fun v141 =>
 S.ext v141 0 fun v142 =>
 S.ext v141 1 fun v143 =>
 S.len v142 fun v145 =>
 S.loop 4 (fun K2 => fun v0'2 v144 v145' v146 => S.fa fun _ =>
 S.bin .lss v146 v145' fun v147 =>
 S.cond v147 (
 S.ixS 2 v144 v146 fun v148 =>
 S.ldN 2 v148 fun v149 =>
 S.box 53 (.agg #[(.string ⟨#[]⟩), (.int .i64 0)]) fun v13 =>
 S.st 2 v13 v149 fun _ =>
 S.fad v13 0 fun v151 =>
 S.ld v151 fun v152 =>
 S.fad v13 1 fun v153 =>
 S.ld v153 fun v154 =>
 V Tryz.prog (Instr.build 60 #[(0, (I 4)), (2, v152), (3, v154)]) fun v155 =>
 CF Tryz.prog 23 [v0'2, v155] fun v156 =>
 S.bin .add v146 (I 1) fun v157 =>
 K2 v0'2 v144 v145' v157) (
 K0))
 [v0, v142, v145, (I 0)]) (
 K0))))))))
 <| S.fa fun _ =>
 K (I 0))
theorem e23 [Amb] (v0 v1 : Value) (K : Value → WT) : s23 v0 v1 K = shal Tryz.prog Tryz.f23 .p a23 [v0, v1] K := by kernel_rfl
theorem c23 [Amb] {v0 v1 : Value} {K : Value → WT} {w : World} (h : s23 v0 v1 K w) : CF Tryz.prog 23 [v0, v1] K w := shal_sound Tryz.func23 (e23 v0 v1 K ▸ h)
def a24 : Ann := .seq (.z) (.seq (.seq (.z) (.cond (.seq (.z) (.z)) (.z))) (.seq (.z) (.z)))
def s24 [Amb] (b_0 : Value) (K : Value → WT) : WT :=
 S.eqv Tryz.prog .eql 23 true b_0 (.pointer none) fun v4 =>
 S.cond v4 (
 K (I 0)) (
 S.nc b_0 fun v6 =>
 S.fad v6 2 fun v7 =>
 S.ld v7 fun v8 =>
 K v8)
theorem e24 [Amb] (b_0 : Value) (K : Value → WT) : s24 b_0 K = shal Tryz.prog Tryz.f24 .p a24 [b_0] K := by kernel_rfl
theorem c24 [Amb] {b_0 : Value} {K : Value → WT} {w : World} (h : s24 b_0 K w) : CF Tryz.prog 24 [b_0] K w := shal_sound Tryz.func24 (e24 b_0 K ▸ h)
def a25 : Ann := .seq (.z) (.seq (.seq (.z) (.cond (.seq (.z) (.z)) (.z))) (.seq (.seq (.z) (.blk (.loop [0, 1, 5] (.seq (.seq (.z) (.cond (.z) (.z))) (.seq (.blk (.seq (.draw [0, 1, 2, 3, 4, 5, 6, 7, 8]) (.cond (.seq (.z) (.z)) (.z)))) (.z)))))) (.seq (.z) (.z))))
def s25 [Amb] (a_0 b_1 : Value) (K : Value → WT) : WT :=
 S.len a_0 fun v7 =>
 S.len b_1 fun v9 =>
 S.bin .neq v7 v9 fun v10 =>
 S.cond v10 (
 K (B false)) (
 S.loop 3 (fun K0 => fun a_0' b_1' i_5 => S.fa fun _ =>
 S.len a_0' fun v13 =>
 S.bin .lss i_5 v13 fun v14 =>
 S.cond v14 (
 S.dr <|
 S.ixS 35 a_0' i_5 fun v19 =>
 S.ldN 35 v19 fun v20 =>
 S.ixS 35 b_1' i_5 fun v23 =>
 S.ldN 35 v23 fun v24 =>
 S.eqv Tryz.prog .neq 38 false v20 v24 fun v25 =>
 S.cond v25 (
 K (B false)) (
 S.bin .add i_5 (I 1) fun v16 =>
 K0 a_0' b_1' v16)) (
 K (B true)))
 [a_0, b_1, (I 0)])
theorem e25 [Amb] (a_0 b_1 : Value) (K : Value → WT) : s25 a_0 b_1 K = shal Tryz.prog Tryz.f25 .p a25 [a_0, b_1] K := by kernel_rfl
theorem c25 [Amb] {a_0 b_1 : Value} {K : Value → WT} {w : World} (h : s25 a_0 b_1 K w) : CF Tryz.prog 25 [a_0, b_1] K w := shal_sound Tryz.func25 (e25 a_0 b_1 K ▸ h)
def a26 : Ann := .seq (.z) (.seq (.z) (.seq (.z) (.seq (.z) (.seq (.z) (.seq (.z) (.z))))))
def s26 [Amb] (b_0 : Value) (K : Value → WT) : WT :=
 S.box 29 (.slice none 0 0) fun out_3 =>
 CF Tryz.prog 61 [b_0, (.func (Go.Fn.func 62) #[] #[out_3])] fun v7 =>
 S.box 109 .nilFunc fun spot_4 =>
 S.st 1 spot_4 (.func (.func 63) #[] #[]) fun _ =>
 S.ld out_3 fun v8 =>
 S.ld spot_4 fun v9 =>
 CF Tryz.prog 66 [v8, v9] fun v10 =>
 S.ld out_3 fun v11 =>
 CF Tryz.prog 67 [v11, (.func (Go.Fn.func 68) #[] #[spot_4])] fun v13 =>
 K v13
theorem e26 [Amb] (b_0 : Value) (K : Value → WT) : s26 b_0 K = shal Tryz.prog Tryz.f26 .p a26 [b_0] K := by kernel_rfl
theorem c26 [Amb] {b_0 : Value} {K : Value → WT} {w : World} (h : s26 b_0 K w) : CF Tryz.prog 26 [b_0] K w := shal_sound Tryz.func26 (e26 b_0 K ▸ h)
def a27 : Ann := .seq (.z) (.seq (.z) (.seq (.seq (.z) (.blk (.loop [0, 3, 4] (.seq (.seq (.z) (.cond (.z) (.z))) (.seq (.blk (.seq (.z) (.blk (.loop [0, 3, 4, 5] (.seq (.seq (.z) (.cond (.z) (.z))) (.seq (.blk (.z)) (.z))))))) (.z)))))) (.seq (.z) (.seq (.z) (.seq (.seq (.z) (.blk (.loop [3, 6, 7, 8] (.seq (.seq (.z) (.cond (.z) (.z))) (.join [3, 6, 7, 8] (.blk (.seq (.z) (.blk (.loop [3, 6, 7, 8, 9] (.seq (.seq (.z) (.cond (.z) (.z))) (.seq (.blk (.join [3, 6, 7, 8, 9, 85] (.draw [0, 1, 2, 3, 4, 5, 6, 7, 8, 9, 10, 11, 12, 13, 14, 15, 16, 17, 18, 19, 20, 21, 22, 23]) (.cond (.seq (.z) (.z)) (.z)))) (.z))))))) (.z)))))) (.seq (.z) (.z)))))))
def s27 [Amb] (v0 : Value) (K : Value → WT) : WT :=
 V Tryz.prog (Instr.buildSlice 29 0 #[]) fun v10 =>
 S.loop 3 (fun K0 => fun v0' v3 v4 => S.fa fun _ =>
 S.nc v0' fun v13 =>
 S.fad v13 0 fun v14 =>
 S.ld v14 fun v15 =>
 S.len v15 fun v16 =>
 S.bin .lss v4 v16 fun v17 =>
 S.cond v17 (
 S.loop 4 (fun K1 => fun v0'2 v3' v4' v5 => S.fa fun _ =>
 S.nc v0'2 fun v22 =>
 S.fad v22 0 fun v23 =>
 S.ld v23 fun v24 =>
 S.ixS 2 v24 v4' fun v26 =>
 S.fad v26 1 fun v27 =>
 S.ld v27 fun v28 =>
 S.len v28 fun v29 =>
 S.bin .lss v5 v29 fun v30 =>
 S.cond v30 (
 S.nc v0'2 fun v35 =>
 S.fad v35 0 fun v36 =>
 S.ld v36 fun v37 =>
 S.ixS 2 v37 v4' fun v39 =>
 S.fad v39 1 fun v40 =>
 S.ld v40 fun v41 =>
 S.ixS 4 v41 v5 fun v43 =>
 S.fad v43 2 fun v44 =>
 S.ld v44 fun v45 =>
 V Tryz.prog (Builtin.append_ #[29, 29] 29 #[v3', v45]) fun v46 =>
 S.bin .add v5 (I 1) fun v32 =>
 K1 v0'2 v46 v4' v32) (
 S.bin .add v4' (I 1) fun v19 =>
 K0 v0'2 v3' v19))
 [v0', v3, v4, (I 0)]) (
 V Tryz.prog (Instr.buildSlice 29 0 #[]) fun v47 =>
 CF Tryz.prog 69 [v3] fun v49 =>
 S.loop 4 (fun K2 => fun v3'2 v6 v7 v8 => S.fa fun _ =>
 S.len v7 fun v52 =>
 S.bin .lss v8 v52 fun v53 =>
 S.cond v53 (
 S.join 4 (fun K3 =>
 S.loop 5 (fun K4 => fun v3'3 v6' v7' v8' v9 => S.fa fun _ =>
 S.len v3'3 fun v58 =>
 S.bin .lss v9 v58 fun v59 =>
 S.cond v59 (
 S.join 6 (fun K5 =>
 S.dr <|
 S.ixS 35 v3'3 v9 fun v64 =>
 S.fad v64 33 fun v65 =>
 S.ld v65 fun v66 =>
 S.ixS 2 v7' v8' fun v69 =>
 S.fad v69 0 fun v70 =>
 S.ld v70 fun v71 =>
 S.bin .eql v66 v71 fun v72 =>
 S.gd v72 true (fun k => k v3'3) fun v74 =>
 S.gd v72 true (fun k => k v9) fun v75 =>
 S.gd v72 true (S.ixS 35 v74 v75) fun v76 =>
 S.gd v72 true (S.fad v76 34) fun v77 =>
 S.gd v72 true (S.ld v77) fun v78 =>
 S.gd v72 true (fun k => k v7') fun v79 =>
 S.gd v72 true (fun k => k v8') fun v80 =>
 S.gd v72 true (S.ixS 2 v79 v80) fun v81 =>
 S.gd v72 true (S.fad v81 1) fun v82 =>
 S.gd v72 true (S.ld v82) fun v83 =>
 S.gd v72 true (S.bin .eql v78 v83) fun v84 =>
 S.pick v72 v84 (B false) fun v85 =>
 K5 v3'3 v6' v7' v8' v9 v85)
 <| fun v3'4 v6'2 v7'2 v8'2 v9' v85' => S.fa fun _ =>
 S.cond v85' (
 S.ixS 35 v3'4 v9' fun v89 =>
 S.ldN 35 v89 fun v90 =>
 V Tryz.prog (Instr.buildSlice 29 1 #[(0, v90)]) fun v91 =>
 V Tryz.prog (Builtin.append_ #[29, 29] 29 #[v6'2, v91]) fun v92 =>
 K3 v3'4 v92 v7'2 v8'2) (
 S.bin .add v9' (I 1) fun v61 =>
 K4 v3'4 v6'2 v7'2 v8'2 v61)) (
 K3 v3'3 v6' v7' v8'))
 [v3'2, v6, v7, v8, (I 0)])
 <| fun v3'5 v6'3 v7'3 v8'3 => S.fa fun _ =>
 S.bin .add v8'3 (I 1) fun v55 =>
 K2 v3'5 v6'3 v7'3 v55) (
 K v6))
 [v3, v47, v49, (I 0)]))
 [v0, v10, (I 0)]
theorem e27 [Amb] (v0 : Value) (K : Value → WT) : s27 v0 K = shal Tryz.prog Tryz.f27 .p a27 [v0] K := by kernel_rfl
theorem c27 [Amb] {v0 : Value} {K : Value → WT} {w : World} (h : s27 v0 K w) : CF Tryz.prog 27 [v0] K w := shal_sound Tryz.func27 (e27 v0 K ▸ h)
def a28 : Ann := .seq (.z) (.seq (.seq (.z) (.cond (.seq (.z) (.z)) (.z))) (.seq (.z) (.seq (.z) (.seq (.z) (.seq (.seq (.z) (.blk (.loop [3, 4, 19, 20, 21] (.seq (.z) (.seq (.cond (.z) (.z)) (.seq (.blk (.seq (.z) (.z))) (.z))))))) (.seq (.z) (.z)))))))
def s28 [Amb] (b_0 : Value) (K : Value → WT) : WT :=
 S.eqv Tryz.prog .eql 23 true b_0 (.pointer none) fun v8 =>
 S.cond v8 (
 K (.slice none 0 0)) (
 S.nc b_0 fun v10 =>
 S.fad v10 2 fun v11 =>
 S.ld v11 fun v12 =>
 V Tryz.prog (Instr.build 60 #[(0, (I 8)), (4, v12)]) fun v13 =>
 V Tryz.prog (Instr.buildSlice 22 1 #[(0, v13)]) fun v14 =>
 S.box 22 (.slice none 0 0) fun out_3 =>
 S.st 1 out_3 v14 fun _ =>
 S.box 22 (.slice none 0 0) fun gone_4 =>
 CF Tryz.prog 61 [b_0, (.func (Go.Fn.func 70) #[] #[out_3, gone_4])] fun v17 =>
 CF Tryz.prog 37 [b_0] fun v19 =>
 S.len v19 fun v20 =>
 S.loop 5 (fun K0 => fun out_3' gone_4' v19' v20' v21 => S.fa fun _ =>
 S.bin .lss v21 v20' fun v22 =>
 S.cond v22 (
 S.ixS 3 v19' v21 fun v23 =>
 S.ldN 3 v23 fun v24 =>
 S.box 90 (.agg #[(.string ⟨#[]⟩), (.int .i64 0), (.slice none 0 0)]) fun s_6 =>
 S.st 3 s_6 v24 fun _ =>
 S.ld out_3' fun v25 =>
 S.fad s_6 0 fun v26 =>
 S.ld v26 fun v27 =>
 S.fad s_6 1 fun v28 =>
 S.ld v28 fun v29 =>
 S.fad s_6 2 fun v30 =>
 S.ld v30 fun v31 =>
 V Tryz.prog (Instr.build 60 #[(0, (I 5)), (2, v27), (4, v29), (6, v31)]) fun v32 =>
 V Tryz.prog (Instr.buildSlice 22 1 #[(0, v32)]) fun v33 =>
 V Tryz.prog (Builtin.append_ #[22, 22] 22 #[v25, v33]) fun v34 =>
 S.st 1 out_3' v34 fun _ =>
 S.bin .add v21 (I 1) fun v35 =>
 K0 out_3' gone_4' v19' v20' v35) (
 S.ld out_3' fun v36 =>
 S.ld gone_4' fun v37 =>
 V Tryz.prog (Builtin.append_ #[22, 22] 22 #[v36, v37]) fun v38 =>
 K v38))
 [out_3, gone_4, v19, v20, (I 0)])
theorem e28 [Amb] (b_0 : Value) (K : Value → WT) : s28 b_0 K = shal Tryz.prog Tryz.f28 .p a28 [b_0] K := by kernel_rfl
theorem c28 [Amb] {b_0 : Value} {K : Value → WT} {w : World} (h : s28 b_0 K w) : CF Tryz.prog 28 [b_0] K w := shal_sound Tryz.func28 (e28 b_0 K ▸ h)
def a29 : Ann := .seq (.z) (.seq (.seq (.z) (.cond (.seq (.z) (.z)) (.z))) (.seq (.seq (.z) (.blk (.loop [0, 1, 5] (.seq (.seq (.z) (.cond (.z) (.z))) (.seq (.blk (.seq (.draw [0, 1, 2, 3, 4, 5, 6, 7, 8, 9]) (.cond (.seq (.z) (.z)) (.z)))) (.z)))))) (.seq (.z) (.z))))
def s29 [Amb] (a_0 b_1 : Value) (K : Value → WT) : WT :=
 S.len a_0 fun v7 =>
 S.len b_1 fun v9 =>
 S.bin .neq v7 v9 fun v10 =>
 S.cond v10 (
 K (B false)) (
 S.loop 3 (fun K0 => fun a_0' b_1' i_5 => S.fa fun _ =>
 S.len a_0' fun v13 =>
 S.bin .lss i_5 v13 fun v14 =>
 S.cond v14 (
 S.dr <|
 S.ixS 14 a_0' i_5 fun v19 =>
 S.ldN 14 v19 fun v20 =>
 S.ixS 14 b_1' i_5 fun v23 =>
 S.ldN 14 v23 fun v24 =>
 CF Tryz.prog 72 [v20, v24] fun v25 =>
 S.not1 v25 fun v26 =>
 S.cond v26 (
 K (B false)) (
 S.bin .add i_5 (I 1) fun v16 =>
 K0 a_0' b_1' v16)) (
 K (B true)))
 [a_0, b_1, (I 0)])
theorem e29 [Amb] (a_0 b_1 : Value) (K : Value → WT) : s29 a_0 b_1 K = shal Tryz.prog Tryz.f29 .p a29 [a_0, b_1] K := by kernel_rfl
theorem c29 [Amb] {a_0 b_1 : Value} {K : Value → WT} {w : World} (h : s29 a_0 b_1 K w) : CF Tryz.prog 29 [a_0, b_1] K w := shal_sound Tryz.func29 (e29 a_0 b_1 K ▸ h)
def a30 : Ann := .seq (.z) (.seq (.z) (.seq (.z) (.seq (.seq (.z) (.blk (.loop [0, 3, 4, 5] (.seq (.seq (.z) (.cond (.z) (.z))) (.seq (.blk (.seq (.z) (.blk (.loop [0, 3, 4, 5, 6] (.seq (.seq (.z) (.cond (.z) (.z))) (.join [0, 3, 4, 5, 6] (.blk (.seq (.z) (.seq (.draw [0, 1, 2, 3, 4, 5, 6, 7, 8, 9, 10, 11, 12, 13, 14, 15, 16, 17, 18]) (.seq (.z) (.cond (.draw [0, 1, 2, 3, 4, 5, 6, 7, 8, 9, 10, 11, 12, 13, 14]) (.z)))))) (.z))))))) (.z)))))) (.seq (.seq (.z) (.blk (.loop [0, 3, 4, 8] (.seq (.seq (.z) (.cond (.z) (.z))) (.seq (.blk (.draw [0, 1, 2, 3, 4, 5, 6, 7, 8, 9, 10, 11, 12, 13, 14, 15, 16, 17, 18, 19, 20, 21, 22, 23, 24, 25, 26, 27, 28])) (.z)))))) (.seq (.z) (.z))))))
def s30 [Amb] (v0 : Value) (K : Value → WT) : WT :=
 S.nc v0 fun v10 =>
 S.fad v10 2 fun v11 =>
 S.ld v11 fun v12 =>
 V Tryz.prog (Instr.build 60 #[(0, (I 8)), (4, v12)]) fun v13 =>
 V Tryz.prog (Instr.buildSlice 22 1 #[(0, v13)]) fun v14 =>
 V Tryz.prog (Instr.buildSlice 22 0 #[]) fun v15 =>
 S.loop 4 (fun K0 => fun v0' v3 v4 v5 => S.fa fun _ =>
 S.nc v0' fun v18 =>
 S.fad v18 0 fun v19 =>
 S.ld v19 fun v20 =>
 S.len v20 fun v21 =>
 S.bin .lss v5 v21 fun v22 =>
 S.cond v22 (
 S.loop 5 (fun K1 => fun v0'2 v3' v4' v5' v6 => S.fa fun _ =>
 S.nc v0'2 fun v27 =>
 S.fad v27 0 fun v28 =>
 S.ld v28 fun v29 =>
 S.ixS 2 v29 v5' fun v31 =>
 S.fad v31 1 fun v32 =>
 S.ld v32 fun v33 =>
 S.len v33 fun v34 =>
 S.bin .lss v6 v34 fun v35 =>
 S.cond v35 (
 S.join 5 (fun K2 =>
 S.nc v0'2 fun v39 =>
 S.fad v39 0 fun v40 =>
 S.ld v40 fun v41 =>
 S.ixS 2 v41 v5' fun v43 =>
 S.fad v43 1 fun v44 =>
 S.ld v44 fun v45 =>
 S.ixS 4 v45 v6 fun v47 =>
 S.ldN 4 v47 fun v48 =>
 S.box 31 (.agg #[(.int .i64 0), (.int .i64 0), (.slice none 0 0), (.bool false)]) fun v7 =>
 S.st 4 v7 v48 fun _ =>
 S.dr <|
 S.nc v0'2 fun v51 =>
 S.fad v51 0 fun v52 =>
 S.ld v52 fun v53 =>
 S.ixS 2 v53 v5' fun v55 =>
 S.fad v55 0 fun v56 =>
 S.ld v56 fun v57 =>
 S.fad v7 0 fun v58 =>
 S.ld v58 fun v59 =>
 S.fad v7 1 fun v60 =>
 S.ld v60 fun v61 =>
 S.fad v7 2 fun v62 =>
 S.ld v62 fun v63 =>
 V Tryz.prog (Instr.build 60 #[(0, (I 3)), (2, v57), (3, v59), (4, v61), (5, v63)]) fun v64 =>
 V Tryz.prog (Instr.buildSlice 22 1 #[(0, v64)]) fun v65 =>
 V Tryz.prog (Builtin.append_ #[22, 22] 22 #[v3', v65]) fun v66 =>
 S.fad v7 3 fun v67 =>
 S.ld v67 fun v68 =>
 S.cond v68 (
 S.dr <|
 S.nc v0'2 fun v71 =>
 S.fad v71 0 fun v72 =>
 S.ld v72 fun v73 =>
 S.ixS 2 v73 v5' fun v75 =>
 S.fad v75 0 fun v76 =>
 S.ld v76 fun v77 =>
 S.fad v7 0 fun v78 =>
 S.ld v78 fun v79 =>
 V Tryz.prog (Instr.build 60 #[(0, (I 4)), (2, v77), (3, v79)]) fun v80 =>
 V Tryz.prog (Instr.buildSlice 22 1 #[(0, v80)]) fun v81 =>
 V Tryz.prog (Builtin.append_ #[22, 22] 22 #[v4', v81]) fun v82 =>
 K2 v0'2 v66 v82 v5' v6) (
 K2 v0'2 v66 v4' v5' v6))
 <| fun v0'3 v3'2 v4'2 v5'2 v6' => S.fa fun _ =>
 S.bin .add v6' (I 1) fun v37 =>
 K1 v0'3 v3'2 v4'2 v5'2 v37) (
 S.bin .add v5' (I 1) fun v24 =>
 K0 v0'2 v3' v4' v24))
 [v0', v3, v4, v5, (I 0)]) (
 S.loop 4 (fun K3 => fun v0'4 v3'3 v4'3 v8 => S.fa fun _ =>
 S.nc v0'4 fun v85 =>
 S.fad v85 1 fun v86 =>
 S.ld v86 fun v87 =>
 S.len v87 fun v88 =>
 S.bin .lss v8 v88 fun v89 =>
 S.cond v89 (
 S.dr <|
 S.nc v0'4 fun v94 =>
 S.fad v94 1 fun v95 =>
 S.ld v95 fun v96 =>
 S.ixS 3 v96 v8 fun v98 =>
 S.fad v98 0 fun v99 =>
 S.ld v99 fun v100 =>
 S.nc v0'4 fun v102 =>
 S.fad v102 1 fun v103 =>
 S.ld v103 fun v104 =>
 S.ixS 3 v104 v8 fun v106 =>
 S.fad v106 1 fun v107 =>
 S.ld v107 fun v108 =>
 S.nc v0'4 fun v110 =>
 S.fad v110 1 fun v111 =>
 S.ld v111 fun v112 =>
 S.ixS 3 v112 v8 fun v114 =>
 S.fad v114 2 fun v115 =>
 S.ld v115 fun v116 =>
 V Tryz.prog (Instr.build 60 #[(0, (I 5)), (2, v100), (4, v108), (6, v116)]) fun v117 =>
 V Tryz.prog (Instr.buildSlice 22 1 #[(0, v117)]) fun v118 =>
 V Tryz.prog (Builtin.append_ #[22, 22] 22 #[v3'3, v118]) fun v119 =>
 S.bin .add v8 (I 1) fun v91 =>
 K3 v0'4 v119 v4'3 v91) (
 V Tryz.prog (Builtin.append_ #[22, 22] 22 #[v3'3, v4'3]) fun v122 =>
 K v122))
 [v0', v3, v4, (I 0)]))
 [v0, v14, v15, (I 0)]
theorem e30 [Amb] (v0 : Value) (K : Value → WT) : s30 v0 K = shal Tryz.prog Tryz.f30 .p a30 [v0] K := by kernel_rfl
theorem c30 [Amb] {v0 : Value} {K : Value → WT} {w : World} (h : s30 v0 K w) : CF Tryz.prog 30 [v0] K w := shal_sound Tryz.func30 (e30 v0 K ▸ h)
def a31 : Ann := .seq (.z) (.seq (.z) (.z))
def s31 [Amb] (K : Value → WT) : WT :=
 S.mkM fun v1 =>
 S.mkM fun v2 =>
 V Tryz.prog (Instr.build 81 #[(0, v1), (1, v2)]) fun v3 =>
 S.box 81 v3 fun v4 =>
 K v4
theorem e31 [Amb] (K : Value → WT) : s31  K = shal Tryz.prog Tryz.f31 .p a31 [] K := by kernel_rfl
theorem c31 [Amb] {K : Value → WT} {w : World} (h : s31  K w) : CF Tryz.prog 31 [] K w := shal_sound Tryz.func31 (e31  K ▸ h)
def a34 : Ann := .seq (.z) (.seq (.z) (.seq (.seq (.z) (.cond (.seq (.z) (.z)) (.z))) (.join [] (.seq (.z) (.blk (.seq (.z) (.cond (.z) (.seq (.z) (.cond (.seq (.drawT 11 (.one 0 (.one 1 (.one 2 (.one 3 (.one 5 (.one 6 (.two 4 (.two 7 (.two 8 (.one 9 (.one 10 .nil)) 9 (.one 8 (.one 10 .nil))) 9 (.one 7 (.one 8 (.one 10 .nil)))) 9 (.one 4 (.one 7 (.one 8 (.one 10 .nil)))))))))))) (.seq (.z) (.seq (.z) (.cond (.drawT 22 (.one 0 (.one 1 (.one 2 (.one 3 (.one 4 (.one 5 (.one 7 (.one 8 (.one 9 (.one 10 (.one 11 (.one 12 (.one 13 (.one 14 (.one 16 (.two 6 (.two 15 (.one 17 (.one 18 (.one 19 (.one 20 (.one 21 .nil))))) 17 (.one 15 (.one 18 (.one 19 (.one 20 (.one 21 .nil)))))) 17 (.one 6 (.one 15 (.one 18 (.one 19 (.one 20 (.one 21 .nil))))))))))))))))))))))) (.z))))) (.seq (.z) (.cond (.seq (.z) (.seq (.z) (.seq (.z) (.seq (.z) (.z))))) (.seq (.z) (.cond (.seq (.z) (.seq (.z) (.seq (.draw [0, 1, 2, 3, 4, 6, 7, 5, 8, 9, 10, 11, 12]) (.z)))) (.seq (.z) (.cond (.seq (.z) (.seq (.draw [0, 2, 3, 4, 5, 6, 7, 9, 10, 11, 12, 13, 14, 15, 1, 8, 16, 17, 18, 19]) (.z))) (.seq (.z) (.cond (.seq (.z) (.seq (.z) (.blk (.loop [0, 17, 19] (.seq (.seq (.z) (.cond (.z) (.z))) (.seq (.blk (.draw [0, 1, 2, 3, 4, 5, 6, 7, 8, 9, 10, 11, 12])) (.z))))))) (.seq (.z) (.cond (.seq (.z) (.blk (.loop [0, 3, 20] (.seq (.seq (.z) (.cond (.z) (.z))) (.seq (.blk (.seq (.z) (.seq (.seq (.z) (.blk (.loop [0, 3, 20, 21, 22] (.seq (.seq (.z) (.cond (.z) (.z))) (.seq (.blk (.seq (.z) (.seq (.z) (.z)))) (.z)))))) (.z)))) (.z)))))) (.z))))))))))))))))) (.seq (.z) (.z)))))
def s34 [Amb] (v0 v1 : Value) (K : Value → WT) : WT :=
 S.box 60 v1 fun v3 =>
 S.ldN 14 v3 fun v25 =>
 CF Tryz.prog 39 [v0, v25] fun v26 =>
 S.bin .neq v26 (I 0) fun v28 =>
 S.cond v28 (
 K v26) (
 S.join 0 (fun K0 =>
 S.fad v3 0 fun v30 =>
 S.ld v30 fun v31 =>
 S.bin .eql v31 (I 8) fun v33 =>
 S.cond v33 (
 S.fad v3 6 fun v35 =>
 S.ld v35 fun v36 =>
 S.nc v0 fun v37 =>
 S.fad v37 2 fun v38 =>
 S.st 1 v38 v36 fun _ =>
 K0) (
 S.bin .eql v31 (I 3) fun v40 =>
 S.cond v40 (
 S.dr <|
 S.fad v3 5 fun v41 =>
 S.ld v41 fun v42 =>
 S.fad v3 6 fun v43 =>
 S.ld v43 fun v44 =>
 S.fad v3 7 fun v46 =>
 S.ld v46 fun v47 =>
 S.both (
 V Tryz.prog (Instr.buildSlice 29 0 #[]) fun v45 =>
 S.rck [S.ld v46 (fun v' _ => v' = v47), S.ld v43 (fun v' _ => v' = v44), S.ld v41 (fun v' _ => v' = v42)] <|
 S.both (
 V Tryz.prog (Builtin.append_ #[29, 29] 29 #[v45, v47]) fun v48 =>
 S.rck [S.ld v43 (fun v' _ => v' = v44), S.ld v41 (fun v' _ => v' = v42)] <|
 S.both (
 V Tryz.prog (Instr.build 31 #[(0, v42), (1, v44), (2, v48)]) fun v49 =>
 S.box 31 (.agg #[(.int .i64 0), (.int .i64 0), (.slice none 0 0), (.bool false)]) fun v6 =>
 S.st 4 v6 v49 fun _ =>
 S.fad v3 4 fun v52 =>
 S.ld v52 fun v53 =>
 CF Tryz.prog 44 [v0, v53] fun v54 =>
 S.ext v54 0 fun v55 =>
 S.ext v54 1 fun v56 =>
 S.cond v56 (
 S.dr <|
 S.bin .add v55 (I 1) fun v61 =>
 S.fad v3 4 fun v62 =>
 S.ld v62 fun v63 =>
 S.nc v0 fun v66 =>
 S.fad v66 0 fun v67 =>
 S.ld v67 fun v68 =>
 S.ixS 2 v68 v55 fun v70 =>
 S.fad v70 1 fun v71 =>
 S.ld v71 fun v72 =>
 S.ldN 4 v6 fun v74 =>
 S.both (
 V Tryz.prog (Instr.buildSlice 63 0 #[]) fun v64 =>
 S.rck [S.ldN 4 v6 (fun v' _ => v' = v74), S.ld v71 (fun v' _ => v' = v72), S.ld v67 (fun v' _ => v' = v68), S.ld v62 (fun v' _ => v' = v63)] <|
 S.both (
 V Tryz.prog (Builtin.append_ #[63, 63] 63 #[v64, v72]) fun v73 =>
 S.rck [S.ldN 4 v6 (fun v' _ => v' = v74), S.ld v62 (fun v' _ => v' = v63)] <|
 V Tryz.prog (Instr.buildSlice 63 1 #[(0, v74)]) fun v75 =>
 S.rck [S.ld v62 (fun v' _ => v' = v63)] <|
 V Tryz.prog (Builtin.append_ #[63, 63] 63 #[v73, v75]) fun v76 =>
 S.rck [S.ld v62 (fun v' _ => v' = v63)] <|
 V Tryz.prog (Instr.build 86 #[(0, v63), (1, v76)]) fun v77 =>
 V Tryz.prog (Instr.buildSlice 71 1 #[(0, v77)]) fun v78 =>
 CF Tryz.prog 75 [v0, v55, v61, v78] fun v79 =>
 K0) (
 V Tryz.prog (Instr.buildSlice 63 1 #[(0, v74)]) fun v75' =>
 S.rck [S.ld v71 (fun v' _ => v' = v72), S.ld v67 (fun v' _ => v' = v68), S.ld v62 (fun v' _ => v' = v63)] <|
 V Tryz.prog (Builtin.append_ #[63, 63] 63 #[v64, v72]) fun v73' =>
 S.rck [S.ld v62 (fun v' _ => v' = v63)] <|
 V Tryz.prog (Builtin.append_ #[63, 63] 63 #[v73', v75']) fun v76' =>
 S.rck [S.ld v62 (fun v' _ => v' = v63)] <|
 V Tryz.prog (Instr.build 86 #[(0, v63), (1, v76')]) fun v77' =>
 V Tryz.prog (Instr.buildSlice 71 1 #[(0, v77')]) fun v78' =>
 CF Tryz.prog 75 [v0, v55, v61, v78'] fun v79' =>
 K0)) (
 V Tryz.prog (Instr.buildSlice 63 1 #[(0, v74)]) fun v75'2 =>
 S.rck [S.ld v71 (fun v' _ => v' = v72), S.ld v67 (fun v' _ => v' = v68), S.ld v62 (fun v' _ => v' = v63)] <|
 V Tryz.prog (Instr.buildSlice 63 0 #[]) fun v64' =>
 S.rck [S.ld v71 (fun v' _ => v' = v72), S.ld v67 (fun v' _ => v' = v68), S.ld v62 (fun v' _ => v' = v63)] <|
 V Tryz.prog (Builtin.append_ #[63, 63] 63 #[v64', v72]) fun v73'2 =>
 S.rck [S.ld v62 (fun v' _ => v' = v63)] <|
 V Tryz.prog (Builtin.append_ #[63, 63] 63 #[v73'2, v75'2]) fun v76'2 =>
 S.rck [S.ld v62 (fun v' _ => v' = v63)] <|
 V Tryz.prog (Instr.build 86 #[(0, v63), (1, v76'2)]) fun v77'2 =>
 V Tryz.prog (Instr.buildSlice 71 1 #[(0, v77'2)]) fun v78'2 =>
 CF Tryz.prog 75 [v0, v55, v61, v78'2] fun v79'2 =>
 K0)) (
 S.fad v3 4 fun v83 =>
 S.ld v83 fun v84 =>
 S.ldN 4 v6 fun v85 =>
 V Tryz.prog (Instr.buildSlice 63 1 #[(0, v85)]) fun v86 =>
 V Tryz.prog (Instr.build 86 #[(0, v84), (1, v86)]) fun v87 =>
 V Tryz.prog (Instr.buildSlice 71 1 #[(0, v87)]) fun v88 =>
 CF Tryz.prog 75 [v0, v55, v55, v88] fun v89 =>
 K0)) (
 S.box 31 (.agg #[(.int .i64 0), (.int .i64 0), (.slice none 0 0), (.bool false)]) fun v6' =>
 S.rck [S.ld v43 (fun v' _ => v' = v44), S.ld v41 (fun v' _ => v' = v42)] <|
 V Tryz.prog (Instr.build 31 #[(0, v42), (1, v44), (2, v48)]) fun v49' =>
 S.st 4 v6' v49' fun _ =>
 S.fad v3 4 fun v52' =>
 S.ld v52' fun v53' =>
 CF Tryz.prog 44 [v0, v53'] fun v54' =>
 S.ext v54' 0 fun v55' =>
 S.ext v54' 1 fun v56' =>
 S.cond v56' (
 S.dr <|
 S.bin .add v55' (I 1) fun v61' =>
 S.fad v3 4 fun v62' =>
 S.ld v62' fun v63' =>
 S.nc v0 fun v66' =>
 S.fad v66' 0 fun v67' =>
 S.ld v67' fun v68' =>
 S.ixS 2 v68' v55' fun v70' =>
 S.fad v70' 1 fun v71' =>
 S.ld v71' fun v72' =>
 S.ldN 4 v6' fun v74' =>
 S.both (
 V Tryz.prog (Instr.buildSlice 63 0 #[]) fun v64'2 =>
 S.rck [S.ldN 4 v6' (fun v' _ => v' = v74'), S.ld v71' (fun v' _ => v' = v72'), S.ld v67' (fun v' _ => v' = v68'), S.ld v62' (fun v' _ => v' = v63')] <|
 S.both (
 V Tryz.prog (Builtin.append_ #[63, 63] 63 #[v64'2, v72']) fun v73'3 =>
 S.rck [S.ldN 4 v6' (fun v' _ => v' = v74'), S.ld v62' (fun v' _ => v' = v63')] <|
 V Tryz.prog (Instr.buildSlice 63 1 #[(0, v74')]) fun v75'3 =>
 S.rck [S.ld v62' (fun v' _ => v' = v63')] <|
 V Tryz.prog (Builtin.append_ #[63, 63] 63 #[v73'3, v75'3]) fun v76'3 =>
 S.rck [S.ld v62' (fun v' _ => v' = v63')] <|
 V Tryz.prog (Instr.build 86 #[(0, v63'), (1, v76'3)]) fun v77'3 =>
 V Tryz.prog (Instr.buildSlice 71 1 #[(0, v77'3)]) fun v78'3 =>
 CF Tryz.prog 75 [v0, v55', v61', v78'3] fun v79'3 =>
 K0) (
 V Tryz.prog (Instr.buildSlice 63 1 #[(0, v74')]) fun v75'4 =>
 S.rck [S.ld v71' (fun v' _ => v' = v72'), S.ld v67' (fun v' _ => v' = v68'), S.ld v62' (fun v' _ => v' = v63')] <|
 V Tryz.prog (Builtin.append_ #[63, 63] 63 #[v64'2, v72']) fun v73'4 =>
 S.rck [S.ld v62' (fun v' _ => v' = v63')] <|
 V Tryz.prog (Builtin.append_ #[63, 63] 63 #[v73'4, v75'4]) fun v76'4 =>
 S.rck [S.ld v62' (fun v' _ => v' = v63')] <|
 V Tryz.prog (Instr.build 86 #[(0, v63'), (1, v76'4)]) fun v77'4 =>
 V Tryz.prog (Instr.buildSlice 71 1 #[(0, v77'4)]) fun v78'4 =>
 CF Tryz.prog 75 [v0, v55', v61', v78'4] fun v79'4 =>
 K0)) (
 V Tryz.prog (Instr.buildSlice 63 1 #[(0, v74')]) fun v75'5 =>
 S.rck [S.ld v71' (fun v' _ => v' = v72'), S.ld v67' (fun v' _ => v' = v68'), S.ld v62' (fun v' _ => v' = v63')] <|
 V Tryz.prog (Instr.buildSlice 63 0 #[]) fun v64'3 =>
 S.rck [S.ld v71' (fun v' _ => v' = v72'), S.ld v67' (fun v' _ => v' = v68'), S.ld v62' (fun v' _ => v' = v63')] <|
 V Tryz.prog (Builtin.append_ #[63, 63] 63 #[v64'3, v72']) fun v73'5 =>
 S.rck [S.ld v62' (fun v' _ => v' = v63')] <|
 V Tryz.prog (Builtin.append_ #[63, 63] 63 #[v73'5, v75'5]) fun v76'5 =>
 S.rck [S.ld v62' (fun v' _ => v' = v63')] <|
 V Tryz.prog (Instr.build 86 #[(0, v63'), (1, v76'5)]) fun v77'5 =>
 V Tryz.prog (Instr.buildSlice 71 1 #[(0, v77'5)]) fun v78'5 =>
 CF Tryz.prog 75 [v0, v55', v61', v78'5] fun v79'5 =>
 K0)) (
 S.fad v3 4 fun v83' =>
 S.ld v83' fun v84' =>
 S.ldN 4 v6' fun v85' =>
 V Tryz.prog (Instr.buildSlice 63 1 #[(0, v85')]) fun v86' =>
 V Tryz.prog (Instr.build 86 #[(0, v84'), (1, v86')]) fun v87' =>
 V Tryz.prog (Instr.buildSlice 71 1 #[(0, v87')]) fun v88' =>
 CF Tryz.prog 75 [v0, v55', v55', v88'] fun v89' =>
 K0))) (
 S.box 31 (.agg #[(.int .i64 0), (.int .i64 0), (.slice none 0 0), (.bool false)]) fun v6'2 =>
 S.rck [S.ld v46 (fun v' _ => v' = v47), S.ld v43 (fun v' _ => v' = v44), S.ld v41 (fun v' _ => v' = v42)] <|
 V Tryz.prog (Builtin.append_ #[29, 29] 29 #[v45, v47]) fun v48' =>
 S.rck [S.ld v43 (fun v' _ => v' = v44), S.ld v41 (fun v' _ => v' = v42)] <|
 V Tryz.prog (Instr.build 31 #[(0, v42), (1, v44), (2, v48')]) fun v49'2 =>
 S.st 4 v6'2 v49'2 fun _ =>
 S.fad v3 4 fun v52'2 =>
 S.ld v52'2 fun v53'2 =>
 CF Tryz.prog 44 [v0, v53'2] fun v54'2 =>
 S.ext v54'2 0 fun v55'2 =>
 S.ext v54'2 1 fun v56'2 =>
 S.cond v56'2 (
 S.dr <|
 S.bin .add v55'2 (I 1) fun v61'2 =>
 S.fad v3 4 fun v62'2 =>
 S.ld v62'2 fun v63'2 =>
 S.nc v0 fun v66'2 =>
 S.fad v66'2 0 fun v67'2 =>
 S.ld v67'2 fun v68'2 =>
 S.ixS 2 v68'2 v55'2 fun v70'2 =>
 S.fad v70'2 1 fun v71'2 =>
 S.ld v71'2 fun v72'2 =>
 S.ldN 4 v6'2 fun v74'2 =>
 S.both (
 V Tryz.prog (Instr.buildSlice 63 0 #[]) fun v64'4 =>
 S.rck [S.ldN 4 v6'2 (fun v' _ => v' = v74'2), S.ld v71'2 (fun v' _ => v' = v72'2), S.ld v67'2 (fun v' _ => v' = v68'2), S.ld v62'2 (fun v' _ => v' = v63'2)] <|
 S.both (
 V Tryz.prog (Builtin.append_ #[63, 63] 63 #[v64'4, v72'2]) fun v73'6 =>
 S.rck [S.ldN 4 v6'2 (fun v' _ => v' = v74'2), S.ld v62'2 (fun v' _ => v' = v63'2)] <|
 V Tryz.prog (Instr.buildSlice 63 1 #[(0, v74'2)]) fun v75'6 =>
 S.rck [S.ld v62'2 (fun v' _ => v' = v63'2)] <|
 V Tryz.prog (Builtin.append_ #[63, 63] 63 #[v73'6, v75'6]) fun v76'6 =>
 S.rck [S.ld v62'2 (fun v' _ => v' = v63'2)] <|
 V Tryz.prog (Instr.build 86 #[(0, v63'2), (1, v76'6)]) fun v77'6 =>
 V Tryz.prog (Instr.buildSlice 71 1 #[(0, v77'6)]) fun v78'6 =>
 CF Tryz.prog 75 [v0, v55'2, v61'2, v78'6] fun v79'6 =>
 K0) (
 V Tryz.prog (Instr.buildSlice 63 1 #[(0, v74'2)]) fun v75'7 =>
 S.rck [S.ld v71'2 (fun v' _ => v' = v72'2), S.ld v67'2 (fun v' _ => v' = v68'2), S.ld v62'2 (fun v' _ => v' = v63'2)] <|
 V Tryz.prog (Builtin.append_ #[63, 63] 63 #[v64'4, v72'2]) fun v73'7 =>
 S.rck [S.ld v62'2 (fun v' _ => v' = v63'2)] <|
 V Tryz.prog (Builtin.append_ #[63, 63] 63 #[v73'7, v75'7]) fun v76'7 =>
 S.rck [S.ld v62'2 (fun v' _ => v' = v63'2)] <|
 V Tryz.prog (Instr.build 86 #[(0, v63'2), (1, v76'7)]) fun v77'7 =>
 V Tryz.prog (Instr.buildSlice 71 1 #[(0, v77'7)]) fun v78'7 =>
 CF Tryz.prog 75 [v0, v55'2, v61'2, v78'7] fun v79'7 =>
 K0)) (
 V Tryz.prog (Instr.buildSlice 63 1 #[(0, v74'2)]) fun v75'8 =>
 S.rck [S.ld v71'2 (fun v' _ => v' = v72'2), S.ld v67'2 (fun v' _ => v' = v68'2), S.ld v62'2 (fun v' _ => v' = v63'2)] <|
 V Tryz.prog (Instr.buildSlice 63 0 #[]) fun v64'5 =>
 S.rck [S.ld v71'2 (fun v' _ => v' = v72'2), S.ld v67'2 (fun v' _ => v' = v68'2), S.ld v62'2 (fun v' _ => v' = v63'2)] <|
 V Tryz.prog (Builtin.append_ #[63, 63] 63 #[v64'5, v72'2]) fun v73'8 =>
 S.rck [S.ld v62'2 (fun v' _ => v' = v63'2)] <|
 V Tryz.prog (Builtin.append_ #[63, 63] 63 #[v73'8, v75'8]) fun v76'8 =>
 S.rck [S.ld v62'2 (fun v' _ => v' = v63'2)] <|
 V Tryz.prog (Instr.build 86 #[(0, v63'2), (1, v76'8)]) fun v77'8 =>
 V Tryz.prog (Instr.buildSlice 71 1 #[(0, v77'8)]) fun v78'8 =>
 CF Tryz.prog 75 [v0, v55'2, v61'2, v78'8] fun v79'8 =>
 K0)) (
 S.fad v3 4 fun v83'2 =>
 S.ld v83'2 fun v84'2 =>
 S.ldN 4 v6'2 fun v85'2 =>
 V Tryz.prog (Instr.buildSlice 63 1 #[(0, v85'2)]) fun v86'2 =>
 V Tryz.prog (Instr.build 86 #[(0, v84'2), (1, v86'2)]) fun v87'2 =>
 V Tryz.prog (Instr.buildSlice 71 1 #[(0, v87'2)]) fun v88'2 =>
 CF Tryz.prog 75 [v0, v55'2, v55'2, v88'2] fun v89'2 =>
 K0))) (
 S.box 31 (.agg #[(.int .i64 0), (.int .i64 0), (.slice none 0 0), (.bool false)]) fun v6'3 =>
 S.rck [S.ld v46 (fun v' _ => v' = v47), S.ld v43 (fun v' _ => v' = v44), S.ld v41 (fun v' _ => v' = v42)] <|
 V Tryz.prog (Instr.buildSlice 29 0 #[]) fun v45' =>
 S.rck [S.ld v46 (fun v' _ => v' = v47), S.ld v43 (fun v' _ => v' = v44), S.ld v41 (fun v' _ => v' = v42)] <|
 V Tryz.prog (Builtin.append_ #[29, 29] 29 #[v45', v47]) fun v48'2 =>
 S.rck [S.ld v43 (fun v' _ => v' = v44), S.ld v41 (fun v' _ => v' = v42)] <|
 V Tryz.prog (Instr.build 31 #[(0, v42), (1, v44), (2, v48'2)]) fun v49'3 =>
 S.st 4 v6'3 v49'3 fun _ =>
 S.fad v3 4 fun v52'3 =>
 S.ld v52'3 fun v53'3 =>
 CF Tryz.prog 44 [v0, v53'3] fun v54'3 =>
 S.ext v54'3 0 fun v55'3 =>
 S.ext v54'3 1 fun v56'3 =>
 S.cond v56'3 (
 S.dr <|
 S.bin .add v55'3 (I 1) fun v61'3 =>
 S.fad v3 4 fun v62'3 =>
 S.ld v62'3 fun v63'3 =>
 S.nc v0 fun v66'3 =>
 S.fad v66'3 0 fun v67'3 =>
 S.ld v67'3 fun v68'3 =>
 S.ixS 2 v68'3 v55'3 fun v70'3 =>
 S.fad v70'3 1 fun v71'3 =>
 S.ld v71'3 fun v72'3 =>
 S.ldN 4 v6'3 fun v74'3 =>
 S.both (
 V Tryz.prog (Instr.buildSlice 63 0 #[]) fun v64'6 =>
 S.rck [S.ldN 4 v6'3 (fun v' _ => v' = v74'3), S.ld v71'3 (fun v' _ => v' = v72'3), S.ld v67'3 (fun v' _ => v' = v68'3), S.ld v62'3 (fun v' _ => v' = v63'3)] <|
 S.both (
 V Tryz.prog (Builtin.append_ #[63, 63] 63 #[v64'6, v72'3]) fun v73'9 =>
 S.rck [S.ldN 4 v6'3 (fun v' _ => v' = v74'3), S.ld v62'3 (fun v' _ => v' = v63'3)] <|
 V Tryz.prog (Instr.buildSlice 63 1 #[(0, v74'3)]) fun v75'9 =>
 S.rck [S.ld v62'3 (fun v' _ => v' = v63'3)] <|
 V Tryz.prog (Builtin.append_ #[63, 63] 63 #[v73'9, v75'9]) fun v76'9 =>
 S.rck [S.ld v62'3 (fun v' _ => v' = v63'3)] <|
 V Tryz.prog (Instr.build 86 #[(0, v63'3), (1, v76'9)]) fun v77'9 =>
 V Tryz.prog (Instr.buildSlice 71 1 #[(0, v77'9)]) fun v78'9 =>
 CF Tryz.prog 75 [v0, v55'3, v61'3, v78'9] fun v79'9 =>
 K0) (
 V Tryz.prog (Instr.buildSlice 63 1 #[(0, v74'3)]) fun v75'10 =>
 S.rck [S.ld v71'3 (fun v' _ => v' = v72'3), S.ld v67'3 (fun v' _ => v' = v68'3), S.ld v62'3 (fun v' _ => v' = v63'3)] <|
 V Tryz.prog (Builtin.append_ #[63, 63] 63 #[v64'6, v72'3]) fun v73'10 =>
 S.rck [S.ld v62'3 (fun v' _ => v' = v63'3)] <|
 V Tryz.prog (Builtin.append_ #[63, 63] 63 #[v73'10, v75'10]) fun v76'10 =>
 S.rck [S.ld v62'3 (fun v' _ => v' = v63'3)] <|
 V Tryz.prog (Instr.build 86 #[(0, v63'3), (1, v76'10)]) fun v77'10 =>
 V Tryz.prog (Instr.buildSlice 71 1 #[(0, v77'10)]) fun v78'10 =>
 CF Tryz.prog 75 [v0, v55'3, v61'3, v78'10] fun v79'10 =>
 K0)) (
 V Tryz.prog (Instr.buildSlice 63 1 #[(0, v74'3)]) fun v75'11 =>
 S.rck [S.ld v71'3 (fun v' _ => v' = v72'3), S.ld v67'3 (fun v' _ => v' = v68'3), S.ld v62'3 (fun v' _ => v' = v63'3)] <|
 V Tryz.prog (Instr.buildSlice 63 0 #[]) fun v64'7 =>
 S.rck [S.ld v71'3 (fun v' _ => v' = v72'3), S.ld v67'3 (fun v' _ => v' = v68'3), S.ld v62'3 (fun v' _ => v' = v63'3)] <|
 V Tryz.prog (Builtin.append_ #[63, 63] 63 #[v64'7, v72'3]) fun v73'11 =>
 S.rck [S.ld v62'3 (fun v' _ => v' = v63'3)] <|
 V Tryz.prog (Builtin.append_ #[63, 63] 63 #[v73'11, v75'11]) fun v76'11 =>
 S.rck [S.ld v62'3 (fun v' _ => v' = v63'3)] <|
 V Tryz.prog (Instr.build 86 #[(0, v63'3), (1, v76'11)]) fun v77'11 =>
 V Tryz.prog (Instr.buildSlice 71 1 #[(0, v77'11)]) fun v78'11 =>
 CF Tryz.prog 75 [v0, v55'3, v61'3, v78'11] fun v79'11 =>
 K0)) (
 S.fad v3 4 fun v83'3 =>
 S.ld v83'3 fun v84'3 =>
 S.ldN 4 v6'3 fun v85'3 =>
 V Tryz.prog (Instr.buildSlice 63 1 #[(0, v85'3)]) fun v86'3 =>
 V Tryz.prog (Instr.build 86 #[(0, v84'3), (1, v86'3)]) fun v87'3 =>
 V Tryz.prog (Instr.buildSlice 71 1 #[(0, v87'3)]) fun v88'3 =>
 CF Tryz.prog 75 [v0, v55'3, v55'3, v88'3] fun v89'3 =>
 K0))) (
 S.bin .eql v31 (I 4) fun v91 =>
 S.cond v91 (
 S.fad v3 4 fun v94 =>
 S.ld v94 fun v95 =>
 S.fad v3 5 fun v96 =>
 S.ld v96 fun v97 =>
 V Tryz.prog (Instr.build 53 #[(0, v95), (1, v97)]) fun v98 =>
 CF Tryz.prog 48 [v0, v98] fun v99 =>
 S.ext v99 0 fun v100 =>
 S.ext v99 1 fun v101 =>
 V Tryz.prog (Instr.buildSlice 63 0 #[]) fun v102 =>
 S.nc v0 fun v104 =>
 S.fad v104 0 fun v105 =>
 S.ld v105 fun v106 =>
 S.ixS 2 v106 v100 fun v108 =>
 S.fad v108 1 fun v109 =>
 S.ld v109 fun v110 =>
 V Tryz.prog (Builtin.append_ #[63, 63] 63 #[v102, v110]) fun v111 =>
 S.ixS 4 v111 v101 fun v114 =>
 S.fad v114 3 fun v115 =>
 S.st 1 v115 (B true) fun _ =>
 S.bin .add v100 (I 1) fun v119 =>
 S.fad v3 4 fun v120 =>
 S.ld v120 fun v121 =>
 V Tryz.prog (Instr.build 86 #[(0, v121), (1, v111)]) fun v123 =>
 V Tryz.prog (Instr.buildSlice 71 1 #[(0, v123)]) fun v124 =>
 CF Tryz.prog 75 [v0, v100, v119, v124] fun v125 =>
 CF Tryz.prog 76 [v0] fun v127 =>
 K0) (
 S.bin .eql v31 (I 5) fun v129 =>
 S.cond v129 (
 S.fad v3 4 fun v132 =>
 S.ld v132 fun v133 =>
 CF Tryz.prog 47 [v0, v133] fun v134 =>
 S.ext v134 0 fun v135 =>
 S.ext v134 1 fun v136 =>
 V Tryz.prog (Instr.buildSlice 73 0 #[]) fun v137 =>
 S.nc v0 fun v139 =>
 S.fad v139 1 fun v140 =>
 S.ld v140 fun v141 =>
 S.slc 3 v141 none (some v135) none fun v143 =>
 V Tryz.prog (Builtin.append_ #[73, 73] 73 #[v137, v143]) fun v144 =>
 S.dr <|
 S.fad v3 4 fun v146 =>
 S.ld v146 fun v147 =>
 S.fad v3 6 fun v148 =>
 S.ld v148 fun v149 =>
 S.fad v3 8 fun v151 =>
 S.ld v151 fun v152 =>
 V Tryz.prog (Instr.buildSlice 44 0 #[]) fun v150 =>
 S.rck [S.ld v151 (fun v' _ => v' = v152), S.ld v148 (fun v' _ => v' = v149), S.ld v146 (fun v' _ => v' = v147)] <|
 V Tryz.prog (Builtin.append_ #[44, 44] 44 #[v150, v152]) fun v153 =>
 S.rck [S.ld v148 (fun v' _ => v' = v149), S.ld v146 (fun v' _ => v' = v147)] <|
 V Tryz.prog (Instr.build 90 #[(0, v147), (1, v149), (2, v153)]) fun v154 =>
 V Tryz.prog (Instr.buildSlice 73 1 #[(0, v154)]) fun v155 =>
 V Tryz.prog (Builtin.append_ #[73, 73] 73 #[v144, v155]) fun v156 =>
 S.nc v0 fun v160 =>
 S.fad v160 1 fun v161 =>
 S.ld v161 fun v162 =>
 S.slc 3 v162 (some v135) none none fun v164 =>
 V Tryz.prog (Builtin.append_ #[73, 73] 73 #[v156, v164]) fun v165 =>
 S.nc v0 fun v166 =>
 S.fad v166 1 fun v167 =>
 S.st 1 v167 v165 fun _ =>
 K0) (
 S.bin .eql v31 (I 6) fun v169 =>
 S.cond v169 (
 S.fad v3 4 fun v172 =>
 S.ld v172 fun v173 =>
 CF Tryz.prog 47 [v0, v173] fun v174 =>
 S.ext v174 0 fun v175 =>
 S.ext v174 1 fun v176 =>
 S.dr <|
 S.nc v0 fun v180 =>
 S.fad v180 1 fun v181 =>
 S.ld v181 fun v182 =>
 S.slc 3 v182 none (some v175) none fun v184 =>
 S.nc v0 fun v187 =>
 S.fad v187 1 fun v188 =>
 S.ld v188 fun v189 =>
 S.bin .add v175 (I 1) fun v191 =>
 S.slc 3 v189 (some v191) none none fun v192 =>
 V Tryz.prog (Instr.buildSlice 73 0 #[]) fun v178 =>
 S.rck [S.ld v188 (fun v' _ => v' = v189), S.ld v181 (fun v' _ => v' = v182)] <|
 V Tryz.prog (Builtin.append_ #[73, 73] 73 #[v178, v184]) fun v185 =>
 S.rck [S.ld v188 (fun v' _ => v' = v189)] <|
 V Tryz.prog (Builtin.append_ #[73, 73] 73 #[v185, v192]) fun v193 =>
 S.nc v0 fun v194 =>
 S.fad v194 1 fun v195 =>
 S.st 1 v195 v193 fun _ =>
 CF Tryz.prog 76 [v0] fun v197 =>
 K0) (
 S.bin .eql v31 (I 9) fun v199 =>
 S.cond v199 (
 S.fad v3 10 fun v202 =>
 S.ldN 4 v202 fun v203 =>
 CF Tryz.prog 19 [v0, v203] fun v204 =>
 S.ext v204 0 fun v205 =>
 S.ext v204 1 fun v206 =>
 S.loop 3 (fun K1 => fun v0' v17 v19 => S.fa fun _ =>
 S.len v17 fun v209 =>
 S.bin .lss v19 v209 fun v210 =>
 S.cond v210 (
 S.dr <|
 S.ixS 2 v17 v19 fun v216 =>
 S.fad v216 0 fun v217 =>
 S.ld v217 fun v218 =>
 S.ixS 2 v17 v19 fun v221 =>
 S.fad v221 1 fun v222 =>
 S.ld v222 fun v223 =>
 V Tryz.prog (Instr.build 60 #[(0, (I 4)), (2, v218), (3, v223)]) fun v224 =>
 CF Tryz.prog 34 [v0', v224] fun v225 =>
 S.bin .add v19 (I 1) fun v212 =>
 K1 v0' v17 v212) (
 K0))
 [v0, v205, (I 0)]) (
 S.bin .eql v31 (I 7) fun v227 =>
 S.cond v227 (
 S.loop 3 (fun K2 => fun v0'2 v3' v20 => S.fa fun _ =>
 S.nc v0'2 fun v230 =>
 S.fad v230 0 fun v231 =>
 S.ld v231 fun v232 =>
 S.len v232 fun v233 =>
 S.bin .lss v20 v233 fun v234 =>
 S.cond v234 (
 V Tryz.prog (Instr.buildSlice 63 0 #[]) fun v237 =>
 S.loop 5 (fun K3 => fun v0'3 v3'2 v20' v21 v22 => S.fa fun _ =>
 S.nc v0'3 fun v240 =>
 S.fad v240 0 fun v241 =>
 S.ld v241 fun v242 =>
 S.ixS 2 v242 v20' fun v244 =>
 S.fad v244 1 fun v245 =>
 S.ld v245 fun v246 =>
 S.len v246 fun v247 =>
 S.bin .lss v22 v247 fun v248 =>
 S.cond v248 (
 S.nc v0'3 fun v252 =>
 S.fad v252 0 fun v253 =>
 S.ld v253 fun v254 =>
 S.ixS 2 v254 v20' fun v256 =>
 S.fad v256 1 fun v257 =>
 S.ld v257 fun v258 =>
 S.ixS 4 v258 v22 fun v260 =>
 S.ldN 4 v260 fun v261 =>
 S.box 31 (.agg #[(.int .i64 0), (.int .i64 0), (.slice none 0 0), (.bool false)]) fun v23 =>
 S.st 4 v23 v261 fun _ =>
 S.fad v23 2 fun v263 =>
 S.ld v263 fun v264 =>
 S.fad v3'2 9 fun v265 =>
 S.ld v265 fun v266 =>
 CF Tryz.prog 77 [v264, v266] fun v267 =>
 S.ext v267 0 fun v268 =>
 S.ext v267 1 fun v269 =>
 S.fad v23 2 fun v270 =>
 S.st 1 v270 v268 fun _ =>
 S.ldN 4 v23 fun v272 =>
 V Tryz.prog (Instr.buildSlice 63 1 #[(0, v272)]) fun v273 =>
 V Tryz.prog (Builtin.append_ #[63, 63] 63 #[v21, v273]) fun v274 =>
 S.bin .add v22 (I 1) fun v250 =>
 K3 v0'3 v3'2 v20' v274 v250) (
 S.bin .add v20' (I 1) fun v278 =>
 S.nc v0'3 fun v280 =>
 S.fad v280 0 fun v281 =>
 S.ld v281 fun v282 =>
 S.ixS 2 v282 v20' fun v284 =>
 S.fad v284 0 fun v285 =>
 S.ld v285 fun v286 =>
 V Tryz.prog (Instr.build 86 #[(0, v286), (1, v21)]) fun v288 =>
 V Tryz.prog (Instr.buildSlice 71 1 #[(0, v288)]) fun v289 =>
 CF Tryz.prog 75 [v0'3, v20', v278, v289] fun v290 =>
 S.bin .add v20' (I 1) fun v236 =>
 K2 v0'3 v3'2 v236))
 [v0'2, v3', v20, v237, (I 0)]) (
 K0))
 [v0, v3, (I 0)]) (
 K0))))))))
 <| S.fa fun _ =>
 K (I 0))
theorem e34 [Amb] (v0 v1 : Value) (K : Value → WT) : s34 v0 v1 K = shal Tryz.prog Tryz.f34 .p a34 [v0, v1] K := by kernel_rfl
theorem c34 [Amb] {v0 v1 : Value} {K : Value → WT} {w : World} (h : s34 v0 v1 K w) : CF Tryz.prog 34 [v0, v1] K w := shal_sound Tryz.func34 (e34 v0 v1 K ▸ h)
def a35 : Ann := .seq (.z) (.seq (.seq (.z) (.cond (.seq (.z) (.z)) (.z))) (.seq (.seq (.z) (.seq (.z) (.cond (.seq (.z) (.z)) (.z)))) (.seq (.draw [0, 1, 2, 3, 4, 5, 6, 7, 8, 9, 10, 11, 12]) (.seq (.seq (.z) (.blk (.seq (.z) (.cond (.seq (.draw [0, 1, 2, 3, 4, 5, 6, 7, 8, 9, 10]) (.z)) (.seq (.z) (.cond (.seq (.draw [0, 1, 2, 3, 4, 5, 6, 7, 8, 9, 10, 11]) (.seq (.draw [0, 1, 2, 3, 4, 5, 6, 8, 9, 10, 11, 12, 16, 17, 7, 13, 14, 15, 18, 19, 20, 21, 22, 23, 24, 25, 26, 27, 28, 29, 30, 31, 32, 33, 34]) (.z))) (.seq (.z) (.cond (.seq (.z) (.z)) (.seq (.z) (.cond (.seq (.z) (.seq (.draw [0, 1, 2, 3, 4, 5, 6, 8, 10, 11, 12, 13, 17, 18, 19, 22, 23, 7, 9, 14, 15, 16, 20, 21, 24, 25, 26, 27]) (.z))) (.seq (.z) (.cond (.seq (.z) (.z)) (.z))))))))))))) (.seq (.z) (.z))))))
def s35 [Amb] (v0 v1 : Value) (K : Value → WT) : WT :=
 S.box 23 v0 fun v2 =>
 S.box 60 v1 fun v3 =>
 S.ld v2 fun v11 =>
 S.eqv Tryz.prog .eql 23 true v11 (.pointer none) fun v12 =>
 S.cond v12 (
 K (I 1)) (
 S.ldN 14 v3 fun v13 =>
 CF Tryz.prog 78 [v13] fun v14 =>
 S.bin .neq v14 (I 0) fun v16 =>
 S.cond v16 (
 K v14) (
 S.dr <|
 S.ld v2 fun v19 =>
 S.nc v19 fun v20 =>
 S.fad v20 1 fun v21 =>
 S.ld v21 fun v22 =>
 S.fad v3 4 fun v23 =>
 S.ld v23 fun v24 =>
 S.lk .string (.agg #[(.string ⟨#[]⟩), (.int .i64 0), (.slice none 0 0)]) true v22 v24 fun v25 =>
 S.ext v25 0 fun v26 =>
 S.ext v25 1 fun v27 =>
 S.box 90 (.agg #[(.string ⟨#[]⟩), (.int .i64 0), (.slice none 0 0)]) fun v6 =>
 S.rck [S.lk .string (.agg #[(.string ⟨#[]⟩), (.int .i64 0), (.slice none 0 0)]) true v22 v24 (fun v' _ => v' = v25), S.ld v23 (fun v' _ => v' = v24), S.ld v21 (fun v' _ => v' = v22), S.ld v2 (fun v' _ => v' = v19)] <|
 S.st 3 v6 v26 fun _ =>
 S.fad v3 0 fun v28 =>
 S.ld v28 fun v29 =>
 S.bin .eql v29 (I 8) fun v31 =>
 S.cond v31 (
 S.dr <|
 S.fad v3 6 fun v32 =>
 S.ld v32 fun v33 =>
 S.ld v2 fun v34 =>
 S.nc v34 fun v35 =>
 S.fad v35 2 fun v36 =>
 S.ld v36 fun v37 =>
 S.bin .lss v33 v37 fun v38 =>
 CF Tryz.prog 80 [v38, (I 2)] fun v39 =>
 V Tryz.prog (Instr.buildSlice 160 1 #[(0, v39)]) fun v40 =>
 CF Tryz.prog 79 [v40] fun v41 =>
 K v41) (
 S.bin .eql v29 (I 3) fun v43 =>
 S.cond v43 (
 S.dr <|
 S.ld v2 fun v45 =>
 S.nc v45 fun v46 =>
 S.fad v46 0 fun v47 =>
 S.ld v47 fun v48 =>
 S.fad v3 4 fun v49 =>
 S.ld v49 fun v50 =>
 S.lk .string (.slice none 0 0) true v48 v50 fun v51 =>
 S.ext v51 0 fun v52 =>
 S.ext v51 1 fun v53 =>
 S.dr <|
 S.fad v3 6 fun v54 =>
 S.ld v54 fun v55 =>
 S.ld v2 fun v56 =>
 S.nc v56 fun v57 =>
 S.fad v57 2 fun v58 =>
 S.ld v58 fun v59 =>
 S.bin .gtr v55 v59 fun v60 =>
 S.fad v3 5 fun v62 =>
 S.ld v62 fun v63 =>
 S.ld v2 fun v64 =>
 S.fad v3 4 fun v65 =>
 S.ld v65 fun v66 =>
 S.not1 v53 fun v71 =>
 CF Tryz.prog 80 [v60, (I 2)] fun v61 =>
 S.rck [S.ld v65 (fun v' _ => v' = v66), S.ld v2 (fun v' _ => v' = v64), S.ld v62 (fun v' _ => v' = v63)] <|
 CF Tryz.prog 16 [v64, v66] fun v67 =>
 S.rck [S.ld v62 (fun v' _ => v' = v63)] <|
 S.bin .lss v63 v67 fun v68 =>
 CF Tryz.prog 80 [v68, (I 10)] fun v69 =>
 S.gd v71 true (S.ld v2) fun v73 =>
 S.gd v71 true (S.nc v73) fun v74 =>
 S.gd v71 true (S.fad v74 0) fun v75 =>
 S.gd v71 true (S.ld v75) fun v76 =>
 S.gd v71 true (S.lenM v76) fun v77 =>
 S.gd v71 true (S.bin .eql v77 (I 64)) fun v78 =>
 S.pick v71 v78 (B false) fun v79 =>
 S.gd v79 false (fun k => k v52) fun v81 =>
 S.gd v79 false (S.len v81) fun v82 =>
 S.gd v79 false (S.bin .eql v82 (I 32)) fun v83 =>
 S.pick v79 (B true) v83 fun v84 =>
 CF Tryz.prog 80 [v84, (I 6)] fun v85 =>
 V Tryz.prog (Instr.buildSlice 160 3 #[(0, v61), (1, v69), (2, v85)]) fun v86 =>
 CF Tryz.prog 79 [v86] fun v87 =>
 K v87) (
 S.bin .eql v29 (I 4) fun v89 =>
 S.cond v89 (
 S.ld v2 fun v90 =>
 S.fad v3 4 fun v91 =>
 S.ld v91 fun v92 =>
 S.fad v3 5 fun v93 =>
 S.ld v93 fun v94 =>
 V Tryz.prog (Instr.build 53 #[(0, v92), (1, v94)]) fun v95 =>
 CF Tryz.prog 41 [v90, v95] fun v96 =>
 S.not1 v96 fun v97 =>
 CF Tryz.prog 80 [v97, (I 9)] fun v98 =>
 V Tryz.prog (Instr.buildSlice 160 1 #[(0, v98)]) fun v99 =>
 CF Tryz.prog 79 [v99] fun v100 =>
 K v100) (
 S.bin .eql v29 (I 5) fun v102 =>
 S.cond v102 (
 S.fad v3 8 fun v103 =>
 S.ld v103 fun v104 =>
 CF Tryz.prog 81 [v104, (.func (.func 82) #[] #[])] fun v105 =>
 S.dr <|
 S.fad v3 6 fun v106 =>
 S.ld v106 fun v107 =>
 S.ld v2 fun v108 =>
 S.nc v108 fun v109 =>
 S.fad v109 2 fun v110 =>
 S.ld v110 fun v111 =>
 S.bin .gtr v107 v111 fun v112 =>
 S.ld v2 fun v116 =>
 S.nc v116 fun v117 =>
 S.fad v117 1 fun v118 =>
 S.ld v118 fun v119 =>
 S.fad v3 8 fun v123 =>
 S.ld v123 fun v124 =>
 S.not1 v105 fun v129 =>
 CF Tryz.prog 80 [v112, (I 2)] fun v113 =>
 S.rck [S.ld v123 (fun v' _ => v' = v124), S.ld v118 (fun v' _ => v' = v119), S.ld v2 (fun v' _ => v' = v116)] <|
 CF Tryz.prog 80 [v27, (I 10)] fun v115 =>
 S.rck [S.ld v123 (fun v' _ => v' = v124), S.ld v118 (fun v' _ => v' = v119), S.ld v2 (fun v' _ => v' = v116)] <|
 S.lenM v119 fun v120 =>
 S.bin .eql v120 (I 16) fun v121 =>
 CF Tryz.prog 80 [v121, (I 6)] fun v122 =>
 S.rck [S.ld v123 (fun v' _ => v' = v124)] <|
 CF Tryz.prog 84 [v124, (.func (Go.Fn.func 85) #[] #[v2])] fun v126 =>
 CF Tryz.prog 80 [v126, (I 9)] fun v127 =>
 CF Tryz.prog 80 [v129, (I 4)] fun v130 =>
 V Tryz.prog (Instr.buildSlice 160 5 #[(0, v113), (1, v115), (2, v122), (3, v127), (4, v130)]) fun v131 =>
 CF Tryz.prog 79 [v131] fun v132 =>
 K v132) (
 S.bin .eql v29 (I 6) fun v134 =>
 S.cond v134 (
 S.not1 v27 fun v136 =>
 CF Tryz.prog 80 [v136, (I 9)] fun v137 =>
 V Tryz.prog (Instr.buildSlice 160 1 #[(0, v137)]) fun v138 =>
 CF Tryz.prog 79 [v138] fun v139 =>
 K v139) (
 K (I 0))))))))
theorem e35 [Amb] (v0 v1 : Value) (K : Value → WT) : s35 v0 v1 K = shal Tryz.prog Tryz.f35 .p a35 [v0, v1] K := by kernel_rfl
theorem c35 [Amb] {v0 v1 : Value} {K : Value → WT} {w : World} (h : s35 v0 v1 K w) : CF Tryz.prog 35 [v0, v1] K w := shal_sound Tryz.func35 (e35 v0 v1 K ▸ h)
def a36 : Ann := .seq (.z) (.seq (.z) (.seq (.z) (.seq (.z) (.z))))
def s36 [Amb] (b_0 : Value) (K : Value → WT) : WT :=
 S.box 71 (.slice none 0 0) fun out_3 =>
 CF Tryz.prog 61 [b_0, (.func (Go.Fn.func 86) #[] #[out_3])] fun v6 =>
 S.ld out_3 fun v7 =>
 K v7
theorem e36 [Amb] (b_0 : Value) (K : Value → WT) : s36 b_0 K = shal Tryz.prog Tryz.f36 .p a36 [b_0] K := by kernel_rfl
theorem c36 [Amb] {b_0 : Value} {K : Value → WT} {w : World} (h : s36 b_0 K w) : CF Tryz.prog 36 [b_0] K w := shal_sound Tryz.func36 (e36 b_0 K ▸ h)
def a37 : Ann := .seq (.z) (.seq (.z) (.seq (.seq (.z) (.cond (.seq (.z) (.z)) (.z))) (.seq (.seq (.z) (.blk (.loop [0, 3, 14, 15, 16] (.seq (.z) (.seq (.cond (.z) (.z)) (.seq (.blk (.seq (.z) (.seq (.z) (.seq (.z) (.z))))) (.z))))))) (.seq (.z) (.z)))))
def s37 [Amb] (b_0 : Value) (K : Value → WT) : WT :=
 S.eqv Tryz.prog .eql 23 true b_0 (.pointer none) fun v8 =>
 S.cond v8 (
 K (.slice none 0 0)) (
 S.nc b_0 fun v10 =>
 S.fad v10 1 fun v11 =>
 S.ld v11 fun v12 =>
 CF Tryz.prog 88 [v12] fun v13 =>
 CF Tryz.prog 87 [v13] fun v14 =>
 S.len v14 fun v15 =>
 S.loop 5 (fun K0 => fun b_0' out_3 v14' v15' v16 => S.fa fun _ =>
 S.bin .lss v16 v15' fun v17 =>
 S.cond v17 (
 S.ixS 1 v14' v16 fun v18 =>
 S.ld v18 fun v19 =>
 S.nc b_0' fun v21 =>
 S.fad v21 1 fun v22 =>
 S.ld v22 fun v23 =>
 S.lk .string (.agg #[(.string ⟨#[]⟩), (.int .i64 0), (.slice none 0 0)]) false v23 v19 fun v25 =>
 S.box 90 (.agg #[(.string ⟨#[]⟩), (.int .i64 0), (.slice none 0 0)]) fun s_6 =>
 S.st 3 s_6 v25 fun _ =>
 S.fad s_6 2 fun v26 =>
 S.ld v26 fun v27 =>
 CF Tryz.prog 59 [v27] fun v28 =>
 S.fad s_6 2 fun v29 =>
 S.st 1 v29 v28 fun _ =>
 S.ldN 3 s_6 fun v31 =>
 V Tryz.prog (Instr.buildSlice 73 1 #[(0, v31)]) fun v32 =>
 V Tryz.prog (Builtin.append_ #[73, 73] 73 #[out_3, v32]) fun v33 =>
 S.bin .add v16 (I 1) fun v34 =>
 K0 b_0' v33 v14' v15' v34) (
 K out_3))
 [b_0, (.slice none 0 0), v14, v15, (I 0)])
theorem e37 [Amb] (b_0 : Value) (K : Value → WT) : s37 b_0 K = shal Tryz.prog Tryz.f37 .p a37 [b_0] K := by kernel_rfl
theorem c37 [Amb] {b_0 : Value} {K : Value → WT} {w : World} (h : s37 b_0 K w) : CF Tryz.prog 37 [b_0] K w := shal_sound Tryz.func37 (e37 b_0 K ▸ h)
def a38 : Ann := .seq (.z) (.seq (.z) (.z))
def s38 [Amb] (K : Value → WT) : WT :=
 V Tryz.prog (Instr.build 88 #[]) fun v1 =>
 S.box 88 v1 fun v2 =>
 K v2
theorem e38 [Amb] (K : Value → WT) : s38  K = shal Tryz.prog Tryz.f38 .p a38 [] K := by kernel_rfl
theorem c38 [Amb] {K : Value → WT} {w : World} (h : s38  K w) : CF Tryz.prog 38 [] K w := shal_sound Tryz.func38 (e38  K ▸ h)
def a39 : Ann := .seq (.z) (.seq (.z) (.seq (.seq (.z) (.cond (.seq (.z) (.z)) (.z))) (.join [] (.seq (.z) (.blk (.seq (.z) (.cond (.seq (.draw [0, 1, 2, 3, 4, 5, 6]) (.cond (.seq (.z) (.z)) (.z))) (.seq (.z) (.cond (.seq (.seq (.draw [0, 1, 2, 3, 4, 5, 6]) (.cond (.seq (.z) (.z)) (.z))) (.seq (.seq (.draw [0, 1, 2, 3, 4, 5, 6]) (.cond (.seq (.z) (.z)) (.z))) (.seq (.z) (.join [77] (.z) (.cond (.seq (.z) (.z)) (.z)))))) (.seq (.z) (.cond (.seq (.z) (.cond (.seq (.z) (.z)) (.z))) (.seq (.z) (.cond (.seq (.seq (.draw [0, 1, 2, 3, 4, 5, 6]) (.cond (.seq (.z) (.z)) (.z))) (.seq (.z) (.seq (.seq (.z) (.cond (.seq (.z) (.z)) (.z))) (.seq (.seq (.z) (.cond (.seq (.z) (.z)) (.z))) (.seq (.seq (.z) (.blk (.loop [0, 3, 10] (.seq (.seq (.z) (.cond (.z) (.z))) (.seq (.blk (.seq (.z) (.cond (.seq (.z) (.z)) (.z)))) (.z)))))) (.seq (.z) (.blk (.loop [3, 11] (.seq (.seq (.z) (.cond (.z) (.z))) (.seq (.blk (.seq (.draw [0, 1, 2, 3, 4, 5, 6, 7, 8, 9, 10, 11, 12, 13]) (.cond (.seq (.z) (.z)) (.z)))) (.z))))))))))) (.seq (.z) (.cond (.seq (.z) (.seq (.z) (.cond (.seq (.z) (.z)) (.z)))) (.z))))))))))))) (.seq (.z) (.z)))))
def s39 [Amb] (v0 v1 : Value) (K : Value → WT) : WT :=
 S.box 60 v1 fun v3 =>
 S.ldN 14 v3 fun v14 =>
 CF Tryz.prog 89 [v14] fun v15 =>
 S.bin .neq v15 (I 0) fun v17 =>
 S.cond v17 (
 K v15) (
 S.join 0 (fun K0 =>
 S.fad v3 0 fun v19 =>
 S.ld v19 fun v20 =>
 S.bin .eql v20 (I 8) fun v22 =>
 S.cond v22 (
 S.dr <|
 S.fad v3 6 fun v23 =>
 S.ld v23 fun v24 =>
 S.nc v0 fun v26 =>
 S.fad v26 2 fun v27 =>
 S.ld v27 fun v28 =>
 S.bin .lss v24 v28 fun v29 =>
 S.cond v29 (
 K (I 2)) (
 K0)) (
 S.bin .eql v20 (I 3) fun v31 =>
 S.cond v31 (
 S.dr <|
 S.fad v3 6 fun v32 =>
 S.ld v32 fun v33 =>
 S.nc v0 fun v35 =>
 S.fad v35 2 fun v36 =>
 S.ld v36 fun v37 =>
 S.bin .gtr v33 v37 fun v38 =>
 S.cond v38 (
 K (I 2)) (
 S.dr <|
 S.fad v3 5 fun v39 =>
 S.ld v39 fun v40 =>
 S.fad v3 4 fun v42 =>
 S.ld v42 fun v43 =>
 CF Tryz.prog 17 [v0, v43] fun v44 =>
 S.rck [S.ld v39 (fun v' _ => v' = v40)] <|
 S.bin .lss v40 v44 fun v45 =>
 S.cond v45 (
 K (I 10)) (
 S.fad v3 4 fun v48 =>
 S.ld v48 fun v49 =>
 CF Tryz.prog 44 [v0, v49] fun v50 =>
 S.ext v50 0 fun v51 =>
 S.ext v50 1 fun v52 =>
 S.join 1 (fun K1 =>
 S.not1 v52 fun v54 =>
 S.gd v54 true (fun k => k v0) fun v56 =>
 S.gd v54 true (S.nc v56) fun v57 =>
 S.gd v54 true (S.fad v57 0) fun v58 =>
 S.gd v54 true (S.ld v58) fun v59 =>
 S.gd v54 true (S.len v59) fun v60 =>
 S.gd v54 true (S.bin .geq v60 (I 64)) fun v61 =>
 S.pick v54 v61 (B false) fun v62 =>
 S.gd v62 false (fun k => k v52) fun v64 =>
 S.gd v62 false (fun k => k v64) fun v65 =>
 S.gd v65 true (fun k => k v0) fun v66 =>
 S.gd v65 true (S.nc v66) fun v67 =>
 S.gd v65 true (S.fad v67 0) fun v68 =>
 S.gd v65 true (S.ld v68) fun v69 =>
 S.gd v65 true (fun k => k v51) fun v70 =>
 S.gd v65 true (S.ixS 2 v69 v70) fun v71 =>
 S.gd v65 true (S.fad v71 1) fun v72 =>
 S.gd v65 true (S.ld v72) fun v73 =>
 S.gd v65 true (S.len v73) fun v74 =>
 S.gd v65 true (S.bin .geq v74 (I 32)) fun v75 =>
 S.gd v62 false (S.pick v65 v75 (B false)) fun v76 =>
 S.pick v62 (B true) v76 fun v77 =>
 K1 v77)
 <| fun v77' => S.fa fun _ =>
 S.cond v77' (
 K (I 6)) (
 K0)))) (
 S.bin .eql v20 (I 4) fun v79 =>
 S.cond v79 (
 S.fad v3 4 fun v81 =>
 S.ld v81 fun v82 =>
 S.fad v3 5 fun v83 =>
 S.ld v83 fun v84 =>
 V Tryz.prog (Instr.build 53 #[(0, v82), (1, v84)]) fun v85 =>
 CF Tryz.prog 90 [v0, v85] fun v86 =>
 S.not1 v86 fun v87 =>
 S.cond v87 (
 K (I 9)) (
 K0)) (
 S.bin .eql v20 (I 5) fun v89 =>
 S.cond v89 (
 S.dr <|
 S.fad v3 6 fun v90 =>
 S.ld v90 fun v91 =>
 S.nc v0 fun v93 =>
 S.fad v93 2 fun v94 =>
 S.ld v94 fun v95 =>
 S.bin .gtr v91 v95 fun v96 =>
 S.cond v96 (
 K (I 2)) (
 S.fad v3 4 fun v99 =>
 S.ld v99 fun v100 =>
 CF Tryz.prog 47 [v0, v100] fun v101 =>
 S.ext v101 0 fun v102 =>
 S.ext v101 1 fun v103 =>
 S.cond v103 (
 K (I 10)) (
 S.nc v0 fun v106 =>
 S.fad v106 1 fun v107 =>
 S.ld v107 fun v108 =>
 S.len v108 fun v109 =>
 S.bin .geq v109 (I 16) fun v110 =>
 S.cond v110 (
 K (I 6)) (
 S.loop 3 (fun K2 => fun v0' v3' v10 => S.fa fun _ =>
 S.fad v3' 8 fun v112 =>
 S.ld v112 fun v113 =>
 S.len v113 fun v114 =>
 S.bin .lss v10 v114 fun v115 =>
 S.cond v115 (
 S.fad v3' 8 fun v119 =>
 S.ld v119 fun v120 =>
 S.ixS 2 v120 v10 fun v122 =>
 S.ldN 2 v122 fun v123 =>
 CF Tryz.prog 90 [v0', v123] fun v124 =>
 S.not1 v124 fun v125 =>
 S.cond v125 (
 K (I 9)) (
 S.bin .add v10 (I 1) fun v117 =>
 K2 v0' v3' v117)) (
 S.loop 2 (fun K3 => fun v3'2 v11 => S.fa fun _ =>
 S.fad v3'2 8 fun v127 =>
 S.ld v127 fun v128 =>
 S.len v128 fun v129 =>
 S.bin .lss v11 v129 fun v130 =>
 S.cond v130 (
 S.dr <|
 S.fad v3'2 8 fun v133 =>
 S.ld v133 fun v134 =>
 S.ixS 2 v134 v11 fun v136 =>
 S.fad v136 0 fun v137 =>
 S.ld v137 fun v138 =>
 S.fad v3'2 8 fun v139 =>
 S.ld v139 fun v140 =>
 S.bin .sub v11 (I 1) fun v142 =>
 S.ixS 2 v140 v142 fun v143 =>
 S.fad v143 0 fun v144 =>
 S.ld v144 fun v145 =>
 S.sbin .leq v138 v145 fun v146 =>
 S.cond v146 (
 K (I 4)) (
 S.bin .add v11 (I 1) fun v132 =>
 K3 v3'2 v132)) (
 K0))
 [v3', (I 1)]))
 [v0, v3, (I 0)])))) (
 S.bin .eql v20 (I 6) fun v148 =>
 S.cond v148 (
 S.fad v3 4 fun v151 =>
 S.ld v151 fun v152 =>
 CF Tryz.prog 47 [v0, v152] fun v153 =>
 S.ext v153 0 fun v154 =>
 S.ext v153 1 fun v155 =>
 S.not1 v155 fun v157 =>
 S.cond v157 (
 K (I 9)) (
 K0)) (
 K0))))))
 <| S.fa fun _ =>
 K (I 0))
theorem e39 [Amb] (v0 v1 : Value) (K : Value → WT) : s39 v0 v1 K = shal Tryz.prog Tryz.f39 .p a39 [v0, v1] K := by kernel_rfl
theorem c39 [Amb] {v0 v1 : Value} {K : Value → WT} {w : World} (h : s39 v0 v1 K w) : CF Tryz.prog 39 [v0, v1] K w := shal_sound Tryz.func39 (e39 v0 v1 K ▸ h)
def a40 : Ann := .seq (.z) (.seq (.z) (.seq (.seq (.z) (.blk (.loop [5, 13, 14, 15] (.seq (.z) (.seq (.cond (.z) (.z)) (.join [5, 13, 14, 15] (.blk (.seq (.z) (.seq (.z) (.cond (.z) (.z))))) (.z))))))) (.seq (.z) (.z))))
def s40 [Amb] (b_0 name_1 : Value) (K : Value → WT) : WT :=
 S.nc b_0 fun v9 =>
 S.fad v9 0 fun v10 =>
 S.ld v10 fun v11 =>
 S.lk .string (.slice none 0 0) false v11 name_1 fun v13 =>
 S.len v13 fun v14 =>
 S.loop 4 (fun K0 => fun n_5 v13' v14' v15 => S.fa fun _ =>
 S.bin .lss v15 v14' fun v16 =>
 S.cond v16 (
 S.join 4 (fun K1 =>
 S.ixS 4 v13' v15 fun v17 =>
 S.ldN 4 v17 fun v18 =>
 S.box 31 (.agg #[(.int .i64 0), (.int .i64 0), (.slice none 0 0), (.bool false)]) fun v_7 =>
 S.st 4 v_7 v18 fun _ =>
 S.fad v_7 3 fun v19 =>
 S.ld v19 fun v20 =>
 S.not1 v20 fun v21 =>
 S.cond v21 (
 S.fad v_7 0 fun v22 =>
 S.ld v22 fun v23 =>
 K1 v23 v13' v14' v15) (
 K1 n_5 v13' v14' v15))
 <| fun n_5' v13'2 v14'2 v15' => S.fa fun _ =>
 S.bin .add v15' (I 1) fun v24 =>
 K0 n_5' v13'2 v14'2 v24) (
 K n_5))
 [(I 0), v13, v14, (I 0)]
theorem e40 [Amb] (b_0 name_1 : Value) (K : Value → WT) : s40 b_0 name_1 K = shal Tryz.prog Tryz.f40 .p a40 [b_0, name_1] K := by kernel_rfl
theorem c40 [Amb] {b_0 name_1 : Value} {K : Value → WT} {w : World} (h : s40 b_0 name_1 K w) : CF Tryz.prog 40 [b_0, name_1] K w := shal_sound Tryz.func40 (e40 b_0 name_1 K ▸ h)
def a41 : Ann := .seq (.z) (.seq (.z) (.seq (.draw [0, 1, 2, 3, 4, 5, 6, 7, 8, 9, 10, 11, 12, 13, 14, 15, 16]) (.z)))
def s41 [Amb] (b_0 h_1 : Value) (K : Value → WT) : WT :=
 S.box 53 h_1 fun h_3 =>
 S.ldN 2 h_3 fun v7 =>
 CF Tryz.prog 43 [b_0, v7] fun v8 =>
 S.dr <|
 S.bin .geq v8 (I 0) fun v10 =>
 S.gd v10 true (fun k => k b_0) fun v12 =>
 S.gd v10 true (S.nc v12) fun v13 =>
 S.gd v10 true (S.fad v13 0) fun v14 =>
 S.gd v10 true (S.ld v14) fun v15 =>
 S.gd v10 true (S.fad h_3 0) fun v16 =>
 S.gd v10 true (S.ld v16) fun v17 =>
 S.gd v10 true (S.lk .string (.slice none 0 0) false v15 v17) fun v18 =>
 S.gd v10 true (fun k => k v8) fun v19 =>
 S.gd v10 true (S.ixS 4 v18 v19) fun v20 =>
 S.gd v10 true (S.fad v20 3) fun v21 =>
 S.gd v10 true (S.ld v21) fun v22 =>
 S.gd v10 true (S.not1 v22) fun v23 =>
 S.pick v10 v23 (B false) fun v24 =>
 K v24
theorem e41 [Amb] (b_0 h_1 : Value) (K : Value → WT) : s41 b_0 h_1 K = shal Tryz.prog Tryz.f41 .p a41 [b_0, h_1] K := by kernel_rfl
theorem c41 [Amb] {b_0 h_1 : Value} {K : Value → WT} {w : World} (h : s41 b_0 h_1 K w) : CF Tryz.prog 41 [b_0, h_1] K w := shal_sound Tryz.func41 (e41 b_0 h_1 K ▸ h)
def a42 : Ann := .seq (.z) (.seq (.z) (.seq (.z) (.z)))
def s42 [Amb] (v_0 : Value) (K : Value → WT) : WT :=
 S.box 31 v_0 fun v_1 =>
 S.box 31 (.agg #[(.int .i64 0), (.int .i64 0), (.slice none 0 0), (.bool false)]) fun v2 =>
 S.fad v_1 2 fun v3 =>
 S.ld v3 fun v4 =>
 CF Tryz.prog 71 [v4] fun v5 =>
 S.fad v_1 2 fun v6 =>
 S.st 1 v6 v5 fun _ =>
 S.ldN 4 v_1 fun v7 =>
 S.st 4 v2 v7 fun _ =>
 S.ldN 4 v2 fun v2' =>
 K v2'
theorem e42 [Amb] (v_0 : Value) (K : Value → WT) : s42 v_0 K = shal Tryz.prog Tryz.f42 .p a42 [v_0] K := by kernel_rfl
theorem c42 [Amb] {v_0 : Value} {K : Value → WT} {w : World} (h : s42 v_0 K w) : CF Tryz.prog 42 [v_0] K w := shal_sound Tryz.func42 (e42 v_0 K ▸ h)
def a43 : Ann := .seq (.z) (.seq (.draw [0, 1, 2, 3, 4, 5, 6, 7, 8, 9]) (.z))
def s43 [Amb] (b_0 h_1 : Value) (K : Value → WT) : WT :=
 S.box 53 h_1 fun h_3 =>
 S.dr <|
 S.nc b_0 fun v6 =>
 S.fad v6 0 fun v7 =>
 S.ld v7 fun v8 =>
 S.fad h_3 0 fun v9 =>
 S.ld v9 fun v10 =>
 S.lk .string (.slice none 0 0) false v8 v10 fun v11 =>
 CF Tryz.prog 91 [v11, (.func (Go.Fn.func 92) #[] #[h_3])] fun v13 =>
 K v13
theorem e43 [Amb] (b_0 h_1 : Value) (K : Value → WT) : s43 b_0 h_1 K = shal Tryz.prog Tryz.f43 .p a43 [b_0, h_1] K := by kernel_rfl
theorem c43 [Amb] {b_0 h_1 : Value} {K : Value → WT} {w : World} (h : s43 b_0 h_1 K w) : CF Tryz.prog 43 [b_0, h_1] K w := shal_sound Tryz.func43 (e43 b_0 h_1 K ▸ h)
def a44 : Ann := .seq (.z) (.seq (.z) (.seq (.blk (.loop [0, 1, 6] (.seq (.join [0, 1, 6, 25] (.z) (.cond (.z) (.z))) (.blk (.z))))) (.seq (.draw [0, 1, 2, 3, 4, 5, 6, 7, 8, 9, 10, 11, 12, 13, 14, 15, 16, 17, 18, 19, 20, 21]) (.z))))
def s44 [Amb] (b_0 name_1 : Value) (K : Value → WT) : WT :=
 S.loop 3 (fun K0 => fun b_0' name_1' i_6 => S.fa fun _ =>
 S.join 4 (fun K1 =>
 S.nc b_0' fun v9 =>
 S.fad v9 0 fun v10 =>
 S.ld v10 fun v11 =>
 S.len v11 fun v12 =>
 S.bin .lss i_6 v12 fun v13 =>
 S.gd v13 true (fun k => k b_0') fun v15 =>
 S.gd v13 true (S.nc v15) fun v16 =>
 S.gd v13 true (S.fad v16 0) fun v17 =>
 S.gd v13 true (S.ld v17) fun v18 =>
 S.gd v13 true (fun k => k i_6) fun v19 =>
 S.gd v13 true (S.ixS 2 v18 v19) fun v20 =>
 S.gd v13 true (S.fad v20 0) fun v21 =>
 S.gd v13 true (S.ld v21) fun v22 =>
 S.gd v13 true (fun k => k name_1') fun v23 =>
 S.gd v13 true (S.sbin .lss v22 v23) fun v24 =>
 S.pick v13 v24 (B false) fun v25 =>
 K1 b_0' name_1' i_6 v25)
 <| fun b_0'2 name_1'2 i_6' v25' => S.fa fun _ =>
 S.cond v25' (
 S.bin .add i_6' (I 1) fun v27 =>
 K0 b_0'2 name_1'2 v27) (
 S.dr <|
 S.nc b_0'2 fun v31 =>
 S.fad v31 0 fun v32 =>
 S.ld v32 fun v33 =>
 S.len v33 fun v34 =>
 S.bin .lss i_6' v34 fun v35 =>
 S.gd v35 true (fun k => k b_0'2) fun v37 =>
 S.gd v35 true (S.nc v37) fun v38 =>
 S.gd v35 true (S.fad v38 0) fun v39 =>
 S.gd v35 true (S.ld v39) fun v40 =>
 S.gd v35 true (fun k => k i_6') fun v41 =>
 S.gd v35 true (S.ixS 2 v40 v41) fun v42 =>
 S.gd v35 true (S.fad v42 0) fun v43 =>
 S.gd v35 true (S.ld v43) fun v44 =>
 S.gd v35 true (fun k => k name_1'2) fun v45 =>
 S.gd v35 true (S.sbin .eql v44 v45) fun v46 =>
 S.pick v35 v46 (B false) fun v47 =>
 K (.tuple #[i_6', v47])))
 [b_0, name_1, (I 0)]
theorem e44 [Amb] (b_0 name_1 : Value) (K : Value → WT) : s44 b_0 name_1 K = shal Tryz.prog Tryz.f44 .p a44 [b_0, name_1] K := by kernel_rfl
theorem c44 [Amb] {b_0 name_1 : Value} {K : Value → WT} {w : World} (h : s44 b_0 name_1 K w) : CF Tryz.prog 44 [b_0, name_1] K w := shal_sound Tryz.func44 (e44 b_0 name_1 K ▸ h)
def a45 : Ann := .seq (.z) (.seq (.seq (.z) (.blk (.loop [0, 1, 7, 8] (.seq (.z) (.seq (.cond (.z) (.z)) (.seq (.blk (.seq (.z) (.seq (.z) (.cond (.seq (.z) (.z)) (.z))))) (.z))))))) (.seq (.z) (.z)))
def s45 [Amb] (s_0 f_1 : Value) (K : Value → WT) : WT :=
 S.len s_0 fun v7 =>
 S.loop 4 (fun K0 => fun s_0' f_1' v7' v8 => S.fa fun _ =>
 S.bin .lss v8 v7' fun v9 =>
 S.cond v9 (
 S.ixS 2 s_0' v8 fun v14 =>
 S.ldN 2 v14 fun v15 =>
 S.cvv Tryz.prog f_1' [v15] fun v16 =>
 S.cond v16 (
 K v8) (
 S.bin .add v8 (I 1) fun v18 =>
 K0 s_0' f_1' v7' v18)) (
 K (I (-1))))
 [s_0, f_1, v7, (I 0)]
theorem e45 [Amb] (s_0 f_1 : Value) (K : Value → WT) : s45 s_0 f_1 K = shal Tryz.prog Tryz.f45 .p a45 [s_0, f_1] K := by kernel_rfl
theorem c45 [Amb] {s_0 f_1 : Value} {K : Value → WT} {w : World} (h : s45 s_0 f_1 K w) : CF Tryz.prog 45 [s_0, f_1] K w := shal_sound Tryz.func45 (e45 s_0 f_1 K ▸ h)
def a46 : Ann := .seq (.z) (.seq (.z) (.z))
def s46 [Amb] (h_0 v1 : Value) (K : Value → WT) : WT :=
 S.box 53 h_0 fun h_2 =>
 S.fad h_2 0 fun v4 =>
 S.ld v4 fun v5 =>
 S.ld v1 fun v6 =>
 S.sbin .eql v5 v6 fun v7 =>
 K v7
theorem e46 [Amb] (h_0 v1 : Value) (K : Value → WT) : s46 h_0 v1 K = shal Tryz.prog Tryz.f46 .p a46 [h_0, v1] K := by kernel_rfl
theorem c46 [Amb] {h_0 v1 : Value} {K : Value → WT} {w : World} (h : s46 h_0 v1 K w) : CF Tryz.prog 46 [h_0, v1] K w := shal_sound Tryz.func46 (e46 h_0 v1 K ▸ h)
def a47 : Ann := .seq (.z) (.seq (.z) (.seq (.blk (.loop [0, 1, 6] (.seq (.join [0, 1, 6, 25] (.z) (.cond (.z) (.z))) (.blk (.z))))) (.seq (.draw [0, 1, 2, 3, 4, 5, 6, 7, 8, 9, 10, 11, 12, 13, 14, 15, 16, 17, 18, 19, 20, 21]) (.z))))
def s47 [Amb] (b_0 name_1 : Value) (K : Value → WT) : WT :=
 S.loop 3 (fun K0 => fun b_0' name_1' i_6 => S.fa fun _ =>
 S.join 4 (fun K1 =>
 S.nc b_0' fun v9 =>
 S.fad v9 1 fun v10 =>
 S.ld v10 fun v11 =>
 S.len v11 fun v12 =>
 S.bin .lss i_6 v12 fun v13 =>
 S.gd v13 true (fun k => k b_0') fun v15 =>
 S.gd v13 true (S.nc v15) fun v16 =>
 S.gd v13 true (S.fad v16 1) fun v17 =>
 S.gd v13 true (S.ld v17) fun v18 =>
 S.gd v13 true (fun k => k i_6) fun v19 =>
 S.gd v13 true (S.ixS 3 v18 v19) fun v20 =>
 S.gd v13 true (S.fad v20 0) fun v21 =>
 S.gd v13 true (S.ld v21) fun v22 =>
 S.gd v13 true (fun k => k name_1') fun v23 =>
 S.gd v13 true (S.sbin .lss v22 v23) fun v24 =>
 S.pick v13 v24 (B false) fun v25 =>
 K1 b_0' name_1' i_6 v25)
 <| fun b_0'2 name_1'2 i_6' v25' => S.fa fun _ =>
 S.cond v25' (
 S.bin .add i_6' (I 1) fun v27 =>
 K0 b_0'2 name_1'2 v27) (
 S.dr <|
 S.nc b_0'2 fun v31 =>
 S.fad v31 1 fun v32 =>
 S.ld v32 fun v33 =>
 S.len v33 fun v34 =>
 S.bin .lss i_6' v34 fun v35 =>
 S.gd v35 true (fun k => k b_0'2) fun v37 =>
 S.gd v35 true (S.nc v37) fun v38 =>
 S.gd v35 true (S.fad v38 1) fun v39 =>
 S.gd v35 true (S.ld v39) fun v40 =>
 S.gd v35 true (fun k => k i_6') fun v41 =>
 S.gd v35 true (S.ixS 3 v40 v41) fun v42 =>
 S.gd v35 true (S.fad v42 0) fun v43 =>
 S.gd v35 true (S.ld v43) fun v44 =>
 S.gd v35 true (fun k => k name_1'2) fun v45 =>
 S.gd v35 true (S.sbin .eql v44 v45) fun v46 =>
 S.pick v35 v46 (B false) fun v47 =>
 K (.tuple #[i_6', v47])))
 [b_0, name_1, (I 0)]
theorem e47 [Amb] (b_0 name_1 : Value) (K : Value → WT) : s47 b_0 name_1 K = shal Tryz.prog Tryz.f47 .p a47 [b_0, name_1] K := by kernel_rfl
theorem c47 [Amb] {b_0 name_1 : Value} {K : Value → WT} {w : World} (h : s47 b_0 name_1 K w) : CF Tryz.prog 47 [b_0, name_1] K w := shal_sound Tryz.func47 (e47 b_0 name_1 K ▸ h)
def a48 : Ann := .seq (.z) (.seq (.z) (.seq (.seq (.z) (.cond (.seq (.z) (.z)) (.z))) (.seq (.seq (.z) (.blk (.loop [0, 3, 6, 8] (.seq (.seq (.z) (.cond (.z) (.z))) (.seq (.blk (.seq (.draw [0, 1, 2, 3, 4, 5, 6, 7, 8, 9, 10, 11, 12, 13, 14]) (.cond (.seq (.z) (.z)) (.z)))) (.z)))))) (.seq (.z) (.z)))))
def s48 [Amb] (b_0 h_1 : Value) (K : Value → WT) : WT :=
 S.box 53 h_1 fun h_3 =>
 S.fad h_3 0 fun v11 =>
 S.ld v11 fun v12 =>
 CF Tryz.prog 44 [b_0, v12] fun v13 =>
 S.ext v13 0 fun v14 =>
 S.ext v13 1 fun v15 =>
 S.not1 v15 fun v17 =>
 S.cond v17 (
 K (.tuple #[(I (-1)), (I (-1))])) (
 S.loop 4 (fun K0 => fun b_0' h_3' i_6 k_8 => S.fa fun _ =>
 S.nc b_0' fun v20 =>
 S.fad v20 0 fun v21 =>
 S.ld v21 fun v22 =>
 S.ixS 2 v22 i_6 fun v24 =>
 S.fad v24 1 fun v25 =>
 S.ld v25 fun v26 =>
 S.len v26 fun v27 =>
 S.bin .lss k_8 v27 fun v28 =>
 S.cond v28 (
 S.dr <|
 S.nc b_0' fun v32 =>
 S.fad v32 0 fun v33 =>
 S.ld v33 fun v34 =>
 S.ixS 2 v34 i_6 fun v36 =>
 S.fad v36 1 fun v37 =>
 S.ld v37 fun v38 =>
 S.ixS 4 v38 k_8 fun v40 =>
 S.fad v40 0 fun v41 =>
 S.ld v41 fun v42 =>
 S.fad h_3' 1 fun v43 =>
 S.ld v43 fun v44 =>
 S.bin .eql v42 v44 fun v45 =>
 S.cond v45 (
 K (.tuple #[i_6, k_8])) (
 S.bin .add k_8 (I 1) fun v30 =>
 K0 b_0' h_3' i_6 v30)) (
 K (.tuple #[(I (-1)), (I (-1))])))
 [b_0, h_3, v14, (I 0)])
theorem e48 [Amb] (b_0 h_1 : Value) (K : Value → WT) : s48 b_0 h_1 K = shal Tryz.prog Tryz.f48 .p a48 [b_0, h_1] K := by kernel_rfl
theorem c48 [Amb] {b_0 h_1 : Value} {K : Value → WT} {w : World} (h : s48 b_0 h_1 K w) : CF Tryz.prog 48 [b_0, h_1] K w := shal_sound Tryz.func48 (e48 b_0 h_1 K ▸ h)
def a49 : Ann := .seq (.z) (.seq (.seq (.z) (.cond (.seq (.z) (.z)) (.z))) (.seq (.z) (.z)))
def s49 [Amb] (b_0 : Value) (K : Value → WT) : WT :=
 S.eqv Tryz.prog .eql 23 true b_0 (.pointer none) fun v4 =>
 S.cond v4 (
 K (.slice none 0 0)) (
 S.nc b_0 fun v6 =>
 S.fad v6 0 fun v7 =>
 S.ld v7 fun v8 =>
 CF Tryz.prog 93 [v8] fun v9 =>
 CF Tryz.prog 87 [v9] fun v10 =>
 K v10)
theorem e49 [Amb] (b_0 : Value) (K : Value → WT) : s49 b_0 K = shal Tryz.prog Tryz.f49 .p a49 [b_0] K := by kernel_rfl
theorem c49 [Amb] {b_0 : Value} {K : Value → WT} {w : World} (h : s49 b_0 K w) : CF Tryz.prog 49 [b_0] K w := shal_sound Tryz.func49 (e49 b_0 K ▸ h)
def a50 : Ann := .seq (.z) (.seq (.z) (.seq (.seq (.z) (.cond (.seq (.z) (.z)) (.z))) (.seq (.seq (.z) (.blk (.loop [0, 1, 5, 6] (.seq (.seq (.z) (.cond (.z) (.z))) (.join [0, 1, 5, 6] (.blk (.seq (.z) (.seq (.z) (.cond (.seq (.z) (.z)) (.z))))) (.z)))))) (.seq (.z) (.seq (.z) (.z))))))
def s50 [Amb] (s_0 del_1 : Value) (K : Value → WT) : WT :=
 CF Tryz.prog 91 [s_0, del_1] fun v10 =>
 S.bin .eql v10 (I (-1)) fun v12 =>
 S.cond v12 (
 K s_0) (
 S.bin .add v10 (I 1) fun v15 =>
 S.loop 4 (fun K0 => fun s_0' del_1' i_5 j_6 => S.fa fun _ =>
 S.len s_0' fun v18 =>
 S.bin .lss j_6 v18 fun v19 =>
 S.cond v19 (
 S.join 4 (fun K1 =>
 S.ixS 4 s_0' j_6 fun v24 =>
 S.ldN 4 v24 fun v25 =>
 S.box 31 (.agg #[(.int .i64 0), (.int .i64 0), (.slice none 0 0), (.bool false)]) fun v_7 =>
 S.st 4 v_7 v25 fun _ =>
 S.ldN 4 v_7 fun v27 =>
 S.cvv Tryz.prog del_1' [v27] fun v28 =>
 S.not1 v28 fun v29 =>
 S.cond v29 (
 S.ldN 4 v_7 fun v32 =>
 S.ixS 4 s_0' i_5 fun v33 =>
 S.st 4 v33 v32 fun _ =>
 S.bin .add i_5 (I 1) fun v35 =>
 K1 s_0' del_1' v35 j_6) (
 K1 s_0' del_1' i_5 j_6))
 <| fun s_0'2 del_1'2 i_5' j_6' => S.fa fun _ =>
 S.bin .add j_6' (I 1) fun v21 =>
 K0 s_0'2 del_1'2 i_5' v21) (
 S.slc 4 s_0' (some i_5) none none fun v38 =>
 V Tryz.prog (Builtin.clear_ #[63] 0 #[v38]) fun _ =>
 S.slc 4 s_0' none (some i_5) none fun v41 =>
 K v41))
 [s_0, del_1, v10, v15])
theorem e50 [Amb] (s_0 del_1 : Value) (K : Value → WT) : s50 s_0 del_1 K = shal Tryz.prog Tryz.f50 .p a50 [s_0, del_1] K := by kernel_rfl
theorem c50 [Amb] {s_0 del_1 : Value} {K : Value → WT} {w : World} (h : s50 s_0 del_1 K w) : CF Tryz.prog 50 [s_0, del_1] K w := shal_sound Tryz.func50 (e50 s_0 del_1 K ▸ h)
def a51 : Ann := .seq (.z) (.seq (.seq (.z) (.cond (.seq (.z) (.z)) (.z))) (.seq (.z) (.z)))
def s51 [Amb] (s_0 : Value) (K : Value → WT) : WT :=
 S.eqv Tryz.prog .eql 63 true s_0 (.slice none 0 0) fun v4 =>
 S.cond v4 (
 K (.slice none 0 0)) (
 V Tryz.prog (Instr.buildSlice 63 0 #[]) fun v5 =>
 V Tryz.prog (Builtin.append_ #[63, 63] 63 #[v5, s_0]) fun v7 =>
 K v7)
theorem e51 [Amb] (s_0 : Value) (K : Value → WT) : s51 s_0 K = shal Tryz.prog Tryz.f51 .p a51 [s_0] K := by kernel_rfl
theorem c51 [Amb] {s_0 : Value} {K : Value → WT} {w : World} (h : s51 s_0 K w) : CF Tryz.prog 51 [s_0] K w := shal_sound Tryz.func51 (e51 s_0 K ▸ h)
def a52 : Ann := .seq (.z) (.seq (.z) (.z))
def s52 [Amb] (v_0 : Value) (K : Value → WT) : WT :=
 S.box 31 v_0 fun v_1 =>
 S.fad v_1 3 fun v3 =>
 S.ld v3 fun v4 =>
 K v4
theorem e52 [Amb] (v_0 : Value) (K : Value → WT) : s52 v_0 K = shal Tryz.prog Tryz.f52 .p a52 [v_0] K := by kernel_rfl
theorem c52 [Amb] {v_0 : Value} {K : Value → WT} {w : World} (h : s52 v_0 K w) : CF Tryz.prog 52 [v_0] K w := shal_sound Tryz.func52 (e52 v_0 K ▸ h)
def a53 : Ann := .seq (.z) (.seq (.drawT 10 (.one 0 (.one 1 (.one 2 (.one 3 (.one 4 (.one 5 (.one 6 (.two 7 (.one 8 (.one 9 .nil)) 8 (.one 7 (.one 9 .nil))))))))))) (.seq (.z) (.seq (.draw [0, 1, 2, 3, 4, 5, 6, 7, 8, 9, 10, 11, 12, 13, 14, 15, 16, 17, 18, 19, 20, 21, 22, 23, 24, 25, 26, 27, 29, 28, 30, 31, 32, 33]) (.z))))
def s53 [Amb] (b_0 l_1 i_2 k_3 : Value) (K : Value → WT) : WT :=
 S.box 43 k_3 fun k_7 =>
 S.dr <|
 S.ixS 4 l_1 i_2 fun v13 =>
 S.fad v13 1 fun v14 =>
 S.ld v14 fun v15 =>
 S.fad k_7 2 fun v16 =>
 S.ld v16 fun v17 =>
 S.both (
 CF Tryz.prog 94 [v15, v17] fun v18 =>
 S.box 3 (.int .i64 0) fun mine_9 =>
 S.st 1 mine_9 v18 fun _ =>
 S.bin .add i_2 (I 1) fun v21 =>
 S.slc 4 l_1 (some v21) none none fun v22 =>
 CF Tryz.prog 95 [v22, (.func (Go.Fn.func 96) #[] #[k_7, mine_9])] fun v24 =>
 S.not1 v24 fun v25 =>
 S.dr <|
 S.len l_1 fun v27 =>
 S.bin .sub v27 (I 1) fun v28 =>
 S.bin .sub v28 i_2 fun v30 =>
 S.fad k_7 0 fun v31 =>
 S.ld v31 fun v32 =>
 S.bin .lss v30 v32 fun v33 =>
 S.gd v33 false (fun k => k l_1) fun v35 =>
 S.gd v33 false (fun k => k i_2) fun v36 =>
 S.gd v33 false (S.ixS 4 v35 v36) fun v37 =>
 S.gd v33 false (S.fad v37 1) fun v38 =>
 S.gd v33 false (S.ld v38) fun v39 =>
 S.gd v33 false (fun k => k b_0) fun v40 =>
 S.gd v33 false (S.nc v40) fun v41 =>
 S.gd v33 false (S.fad v41 2) fun v42 =>
 S.gd v33 false (S.ld v42) fun v43 =>
 S.gd v33 false (S.fad k_7 1) fun v44 =>
 S.gd v33 false (S.ld v44) fun v45 =>
 S.gd v33 false (S.bin .sub v43 v45) fun v46 =>
 S.gd v33 false (S.bin .gtr v39 v46) fun v47 =>
 S.pick v33 (B true) v47 fun v48 =>
 S.gd v48 false (fun k => k v25) fun v50 =>
 S.gd v48 false (fun k => k v50) fun v51 =>
 S.gd v51 true (fun k => k l_1) fun v52 =>
 S.gd v51 true (S.ldN 4 k_7) fun v53 =>
 S.gd v51 true (S.ld mine_9) fun v55 =>
 S.gd v51 true (CF Tryz.prog 98 [v52, v53]) fun v54 =>
 S.rck [S.gd v51 true (S.ld mine_9) (fun v' _ => v' = v55)] <|
 S.gd v51 true (CF Tryz.prog 97 [v54, v55]) fun v56 =>
 S.gd v48 false (S.pick v51 v56 (B false)) fun v57 =>
 S.pick v48 (B true) v57 fun v58 =>
 K v58) (
 S.box 3 (.int .i64 0) fun mine_9' =>
 S.rck [S.ld v16 (fun v' _ => v' = v17), S.ld v14 (fun v' _ => v' = v15)] <|
 CF Tryz.prog 94 [v15, v17] fun v18' =>
 S.st 1 mine_9' v18' fun _ =>
 S.bin .add i_2 (I 1) fun v21' =>
 S.slc 4 l_1 (some v21') none none fun v22' =>
 CF Tryz.prog 95 [v22', (.func (Go.Fn.func 96) #[] #[k_7, mine_9'])] fun v24' =>
 S.not1 v24' fun v25' =>
 S.dr <|
 S.len l_1 fun v27' =>
 S.bin .sub v27' (I 1) fun v28' =>
 S.bin .sub v28' i_2 fun v30' =>
 S.fad k_7 0 fun v31' =>
 S.ld v31' fun v32' =>
 S.bin .lss v30' v32' fun v33' =>
 S.gd v33' false (fun k => k l_1) fun v35' =>
 S.gd v33' false (fun k => k i_2) fun v36' =>
 S.gd v33' false (S.ixS 4 v35' v36') fun v37' =>
 S.gd v33' false (S.fad v37' 1) fun v38' =>
 S.gd v33' false (S.ld v38') fun v39' =>
 S.gd v33' false (fun k => k b_0) fun v40' =>
 S.gd v33' false (S.nc v40') fun v41' =>
 S.gd v33' false (S.fad v41' 2) fun v42' =>
 S.gd v33' false (S.ld v42') fun v43' =>
 S.gd v33' false (S.fad k_7 1) fun v44' =>
 S.gd v33' false (S.ld v44') fun v45' =>
 S.gd v33' false (S.bin .sub v43' v45') fun v46' =>
 S.gd v33' false (S.bin .gtr v39' v46') fun v47' =>
 S.pick v33' (B true) v47' fun v48' =>
 S.gd v48' false (fun k => k v25') fun v50' =>
 S.gd v48' false (fun k => k v50') fun v51' =>
 S.gd v51' true (fun k => k l_1) fun v52' =>
 S.gd v51' true (S.ldN 4 k_7) fun v53' =>
 S.gd v51' true (S.ld mine_9') fun v55' =>
 S.gd v51' true (CF Tryz.prog 98 [v52', v53']) fun v54' =>
 S.rck [S.gd v51' true (S.ld mine_9') (fun v' _ => v' = v55')] <|
 S.gd v51' true (CF Tryz.prog 97 [v54', v55']) fun v56' =>
 S.gd v48' false (S.pick v51' v56' (B false)) fun v57' =>
 S.pick v48' (B true) v57' fun v58' =>
 K v58')
theorem e53 [Amb] (b_0 l_1 i_2 k_3 : Value) (K : Value → WT) : s53 b_0 l_1 i_2 k_3 K = shal Tryz.prog Tryz.f53 .p a53 [b_0, l_1, i_2, k_3] K := by kernel_rfl
theorem c53 [Amb] {b_0 l_1 i_2 k_3 : Value} {K : Value → WT} {w : World} (h : s53 b_0 l_1 i_2 k_3 K w) : CF Tryz.prog 53 [b_0, l_1, i_2, k_3] K w := shal_sound Tryz.func53 (e53 b_0 l_1 i_2 k_3 K ▸ h)
def a54 : Ann := .seq (.z) (.seq (.join [1, 2, 7, 36] (.draw [0, 1, 2, 3, 4, 5, 6, 7, 8, 9, 10, 11, 12, 13, 14, 15, 16, 17, 18, 19, 20, 21]) (.cond (.seq (.z) (.z)) (.z))) (.seq (.draw [0, 1, 2, 3, 4, 5, 6, 7, 8]) (.seq (.z) (.seq (.seq (.z) (.blk (.loop [1, 2, 7, 9, 10, 11] (.seq (.seq (.z) (.cond (.z) (.z))) (.join [1, 2, 7, 9, 10, 11] (.blk (.seq (.draw [0, 1, 2, 3, 4, 5, 6, 7, 8]) (.seq (.join [1, 2, 7, 9, 10, 11, 12, 67] (.z) (.cond (.seq (.z) (.z)) (.z))) (.seq (.z) (.seq (.seq (.z) (.blk (.loop [1, 2, 7, 9, 10, 11, 12, 13, 14] (.seq (.seq (.z) (.cond (.z) (.z))) (.seq (.blk (.z)) (.z)))))) (.join [1, 2, 7, 9, 10, 11, 12, 89] (.z) (.cond (.z) (.z)))))))) (.z)))))) (.seq (.z) (.z))))))
def s54 [Amb] (v0 v1 v2 v3 : Value) (K : Value → WT) : WT :=
 S.box 43 v3 fun v7 =>
 S.join 4 (fun K0 =>
 S.dr <|
 S.len v1 fun v16 =>
 S.bin .sub v16 v2 fun v18 =>
 S.fad v7 0 fun v19 =>
 S.ld v19 fun v20 =>
 S.bin .leq v18 v20 fun v21 =>
 S.gd v21 false (fun k => k v1) fun v23 =>
 S.gd v21 false (fun k => k v2) fun v24 =>
 S.gd v21 false (S.ixS 4 v23 v24) fun v25 =>
 S.gd v21 false (S.fad v25 1) fun v26 =>
 S.gd v21 false (S.ld v26) fun v27 =>
 S.gd v21 false (fun k => k v0) fun v28 =>
 S.gd v21 false (S.nc v28) fun v29 =>
 S.gd v21 false (S.fad v29 2) fun v30 =>
 S.gd v21 false (S.ld v30) fun v31 =>
 S.gd v21 false (S.fad v7 1) fun v32 =>
 S.gd v21 false (S.ld v32) fun v33 =>
 S.gd v21 false (S.bin .sub v31 v33) fun v34 =>
 S.gd v21 false (S.bin .gtr v27 v34) fun v35 =>
 S.pick v21 (B true) v35 fun v36 =>
 K0 v1 v2 v7 v36)
 <| fun v1' v2' v7' v36' => S.fa fun _ =>
 S.cond v36' (
 K (B true)) (
 S.dr <|
 S.ixS 4 v1' v2' fun v39 =>
 S.fad v39 1 fun v40 =>
 S.ld v40 fun v41 =>
 S.fad v7' 2 fun v42 =>
 S.ld v42 fun v43 =>
 S.bin .quo v41 v43 fun v44 =>
 V Tryz.prog (Instr.buildSlice 141 0 #[]) fun v45 =>
 S.loop 6 (fun K1 => fun v1'2 v2'2 v7'2 v9 v10 v11 => S.fa fun _ =>
 S.len v1'2 fun v48 =>
 S.bin .lss v11 v48 fun v49 =>
 S.cond v49 (
 S.join 6 (fun K2 =>
 S.dr <|
 S.ixS 4 v1'2 v11 fun v54 =>
 S.fad v54 1 fun v55 =>
 S.ld v55 fun v56 =>
 S.fad v7'2 2 fun v57 =>
 S.ld v57 fun v58 =>
 S.bin .quo v56 v58 fun v59 =>
 S.join 8 (fun K3 =>
 S.bin .eql v59 v9 fun v62 =>
 S.gd v62 true (fun k => k v11) fun v64 =>
 S.gd v62 true (fun k => k v2'2) fun v65 =>
 S.gd v62 true (S.bin .gtr v64 v65) fun v66 =>
 S.pick v62 v66 (B false) fun v67 =>
 K3 v1'2 v2'2 v7'2 v9 v10 v11 v59 v67)
 <| fun v1'3 v2'3 v7'3 v9' v10' v11' v12 v67' => S.fa fun _ =>
 S.cond v67' (
 K (B false)) (
 S.loop 9 (fun K4 => fun v1'4 v2'4 v7'4 v9'2 v10'2 v11'2 v12' v13 v14 => S.fa fun _ =>
 S.len v10'2 fun v70 =>
 S.bin .lss v14 v70 fun v71 =>
 S.cond v71 (
 S.gd v13 false (fun k => k v10'2) fun v76 =>
 S.gd v13 false (fun k => k v14) fun v77 =>
 S.gd v13 false (S.ixS 1 v76 v77) fun v78 =>
 S.gd v13 false (S.ld v78) fun v79 =>
 S.gd v13 false (fun k => k v12') fun v80 =>
 S.gd v13 false (S.bin .eql v79 v80) fun v81 =>
 S.pick v13 (B true) v81 fun v82 =>
 S.bin .add v14 (I 1) fun v73 =>
 K4 v1'4 v2'4 v7'4 v9'2 v10'2 v11'2 v12' v82 v73) (
 S.join 8 (fun K5 =>
 S.bin .gtr v12' v9'2 fun v85 =>
 S.gd v85 true (fun k => k v13) fun v87 =>
 S.gd v85 true (S.not1 v87) fun v88 =>
 S.pick v85 v88 (B false) fun v89 =>
 K5 v1'4 v2'4 v7'4 v9'2 v10'2 v11'2 v12' v89)
 <| fun v1'5 v2'5 v7'5 v9'3 v10'3 v11'3 v12'2 v89' => S.fa fun _ =>
 S.cond v89' (
 V Tryz.prog (Instr.buildSlice 141 1 #[(0, v12'2)]) fun v92 =>
 V Tryz.prog (Builtin.append_ #[141, 141] 141 #[v10'3, v92]) fun v93 =>
 K2 v1'5 v2'5 v7'5 v9'3 v93 v11'3) (
 K2 v1'5 v2'5 v7'5 v9'3 v10'3 v11'3)))
 [v1'3, v2'3, v7'3, v9', v10', v11', v12, (B false), (I 0)]))
 <| fun v1'6 v2'6 v7'6 v9'4 v10'4 v11'4 => S.fa fun _ =>
 S.bin .add v11'4 (I 1) fun v51 =>
 K1 v1'6 v2'6 v7'6 v9'4 v10'4 v51) (
 S.len v10 fun v95 =>
 S.fad v7'2 3 fun v96 =>
 S.ld v96 fun v97 =>
 S.bin .lss v95 v97 fun v98 =>
 K v98))
 [v1', v2', v7', v44, v45, (I 0)])
theorem e54 [Amb] (v0 v1 v2 v3 : Value) (K : Value → WT) : s54 v0 v1 v2 v3 K = shal Tryz.prog Tryz.f54 .p a54 [v0, v1, v2, v3] K := by kernel_rfl
theorem c54 [Amb] {v0 v1 v2 v3 : Value} {K : Value → WT} {w : World} (h : s54 v0 v1 v2 v3 K w) : CF Tryz.prog 54 [v0, v1, v2, v3] K w := shal_sound Tryz.func54 (e54 v0 v1 v2 v3 K ▸ h)
def a55 : Ann := .seq (.z) (.seq (.seq (.z) (.cond (.seq (.z) (.z)) (.z))) (.seq (.seq (.z) (.blk (.loop [0, 1, 5] (.seq (.seq (.z) (.cond (.z) (.z))) (.seq (.blk (.seq (.join [0, 1, 5, 43] (.draw [0, 1, 2, 3, 4, 5, 6, 7, 8, 9, 10, 11, 12, 13, 14, 15, 16, 17, 18, 19, 20, 21, 22, 23, 24, 25]) (.cond (.seq (.z) (.z)) (.z))) (.seq (.z) (.blk (.loop [0, 1, 5, 6] (.seq (.seq (.z) (.cond (.z) (.z))) (.seq (.blk (.seq (.draw [0, 1, 2, 3, 4, 5, 6, 7, 8, 9, 10, 11, 12, 13, 14, 15, 16, 17]) (.cond (.seq (.z) (.z)) (.z)))) (.z)))))))) (.z)))))) (.seq (.z) (.z))))
def s55 [Amb] (v0 v1 : Value) (K : Value → WT) : WT :=
 S.len v0 fun v8 =>
 S.len v1 fun v10 =>
 S.bin .neq v8 v10 fun v11 =>
 S.cond v11 (
 K (B false)) (
 S.loop 3 (fun K0 => fun v0' v1' v5 => S.fa fun _ =>
 S.len v0' fun v14 =>
 S.bin .lss v5 v14 fun v15 =>
 S.cond v15 (
 S.join 4 (fun K1 =>
 S.dr <|
 S.ixS 2 v0' v5 fun v20 =>
 S.fad v20 0 fun v21 =>
 S.ld v21 fun v22 =>
 S.ixS 2 v1' v5 fun v25 =>
 S.fad v25 0 fun v26 =>
 S.ld v26 fun v27 =>
 S.sbin .neq v22 v27 fun v28 =>
 S.gd v28 false (fun k => k v0') fun v30 =>
 S.gd v28 false (fun k => k v5) fun v31 =>
 S.gd v28 false (S.ixS 2 v30 v31) fun v32 =>
 S.gd v28 false (S.fad v32 1) fun v33 =>
 S.gd v28 false (S.ld v33) fun v34 =>
 S.gd v28 false (S.len v34) fun v35 =>
 S.gd v28 false (fun k => k v1') fun v36 =>
 S.gd v28 false (fun k => k v5) fun v37 =>
 S.gd v28 false (S.ixS 2 v36 v37) fun v38 =>
 S.gd v28 false (S.fad v38 1) fun v39 =>
 S.gd v28 false (S.ld v39) fun v40 =>
 S.gd v28 false (S.len v40) fun v41 =>
 S.gd v28 false (S.bin .neq v35 v41) fun v42 =>
 S.pick v28 (B true) v42 fun v43 =>
 K1 v0' v1' v5 v43)
 <| fun v0'2 v1'2 v5' v43' => S.fa fun _ =>
 S.cond v43' (
 K (B false)) (
 S.loop 4 (fun K2 => fun v0'3 v1'3 v5'2 v6 => S.fa fun _ =>
 S.ixS 2 v0'3 v5'2 fun v47 =>
 S.fad v47 1 fun v48 =>
 S.ld v48 fun v49 =>
 S.len v49 fun v50 =>
 S.bin .lss v6 v50 fun v51 =>
 S.cond v51 (
 S.dr <|
 S.ixS 2 v0'3 v5'2 fun v56 =>
 S.fad v56 1 fun v57 =>
 S.ld v57 fun v58 =>
 S.ixS 4 v58 v6 fun v60 =>
 S.ldN 4 v60 fun v61 =>
 S.ixS 2 v1'3 v5'2 fun v64 =>
 S.fad v64 1 fun v65 =>
 S.ld v65 fun v66 =>
 S.ixS 4 v66 v6 fun v68 =>
 S.ldN 4 v68 fun v69 =>
 CF Tryz.prog 15 [v61, v69] fun v70 =>
 S.not1 v70 fun v71 =>
 S.cond v71 (
 K (B false)) (
 S.bin .add v6 (I 1) fun v53 =>
 K2 v0'3 v1'3 v5'2 v53)) (
 S.bin .add v5'2 (I 1) fun v17 =>
 K0 v0'3 v1'3 v17))
 [v0'2, v1'2, v5', (I 0)])) (
 K (B true)))
 [v0, v1, (I 0)])
theorem e55 [Amb] (v0 v1 : Value) (K : Value → WT) : s55 v0 v1 K = shal Tryz.prog Tryz.f55 .p a55 [v0, v1] K := by kernel_rfl
theorem c55 [Amb] {v0 v1 : Value} {K : Value → WT} {w : World} (h : s55 v0 v1 K w) : CF Tryz.prog 55 [v0, v1] K w := shal_sound Tryz.func55 (e55 v0 v1 K ▸ h)
def a56 : Ann := .seq (.z) (.seq (.seq (.z) (.cond (.seq (.z) (.z)) (.z))) (.seq (.seq (.z) (.blk (.loop [0, 1, 5] (.seq (.seq (.z) (.cond (.z) (.z))) (.seq (.blk (.join [0, 1, 5, 54] (.draw [0, 1, 2, 3, 4, 5, 6, 7, 8, 9, 10, 11, 12, 13, 14, 15, 16, 17, 18, 19, 20, 21, 22, 23, 24, 25, 26, 27, 28, 29, 30, 31, 32, 33, 34, 35, 36, 37]) (.cond (.seq (.z) (.z)) (.z)))) (.z)))))) (.seq (.z) (.z))))
def s56 [Amb] (a_0 b_1 : Value) (K : Value → WT) : WT :=
 S.len a_0 fun v7 =>
 S.len b_1 fun v9 =>
 S.bin .neq v7 v9 fun v10 =>
 S.cond v10 (
 K (B false)) (
 S.loop 3 (fun K0 => fun a_0' b_1' i_5 => S.fa fun _ =>
 S.len a_0' fun v13 =>
 S.bin .lss i_5 v13 fun v14 =>
 S.cond v14 (
 S.join 4 (fun K1 =>
 S.dr <|
 S.ixS 3 a_0' i_5 fun v19 =>
 S.fad v19 0 fun v20 =>
 S.ld v20 fun v21 =>
 S.ixS 3 b_1' i_5 fun v24 =>
 S.fad v24 0 fun v25 =>
 S.ld v25 fun v26 =>
 S.sbin .neq v21 v26 fun v27 =>
 S.gd v27 false (fun k => k a_0') fun v29 =>
 S.gd v27 false (fun k => k i_5) fun v30 =>
 S.gd v27 false (S.ixS 3 v29 v30) fun v31 =>
 S.gd v27 false (S.fad v31 1) fun v32 =>
 S.gd v27 false (S.ld v32) fun v33 =>
 S.gd v27 false (fun k => k b_1') fun v34 =>
 S.gd v27 false (fun k => k i_5) fun v35 =>
 S.gd v27 false (S.ixS 3 v34 v35) fun v36 =>
 S.gd v27 false (S.fad v36 1) fun v37 =>
 S.gd v27 false (S.ld v37) fun v38 =>
 S.gd v27 false (S.bin .neq v33 v38) fun v39 =>
 S.pick v27 (B true) v39 fun v40 =>
 S.gd v40 false (fun k => k a_0') fun v42 =>
 S.gd v40 false (fun k => k i_5) fun v43 =>
 S.gd v40 false (S.ixS 3 v42 v43) fun v44 =>
 S.gd v40 false (S.fad v44 2) fun v45 =>
 S.gd v40 false (S.ld v45) fun v46 =>
 S.gd v40 false (fun k => k b_1') fun v47 =>
 S.gd v40 false (fun k => k i_5) fun v48 =>
 S.gd v40 false (S.ixS 3 v47 v48) fun v49 =>
 S.gd v40 false (S.fad v49 2) fun v50 =>
 S.gd v40 false (S.ld v50) fun v51 =>
 S.gd v40 false (CF Tryz.prog 20 [v46, v51]) fun v52 =>
 S.gd v40 false (S.not1 v52) fun v53 =>
 S.pick v40 (B true) v53 fun v54 =>
 K1 a_0' b_1' i_5 v54)
 <| fun a_0'2 b_1'2 i_5' v54' => S.fa fun _ =>
 S.cond v54' (
 K (B false)) (
 S.bin .add i_5' (I 1) fun v16 =>
 K0 a_0'2 b_1'2 v16)) (
 K (B true)))
 [a_0, b_1, (I 0)])
theorem e56 [Amb] (a_0 b_1 : Value) (K : Value → WT) : s56 a_0 b_1 K = shal Tryz.prog Tryz.f56 .p a56 [a_0, b_1] K := by kernel_rfl
theorem c56 [Amb] {a_0 b_1 : Value} {K : Value → WT} {w : World} (h : s56 a_0 b_1 K w) : CF Tryz.prog 56 [a_0, b_1] K w := shal_sound Tryz.func56 (e56 a_0 b_1 K ▸ h)
def a57 : Ann := .seq (.z) (.seq (.z) (.seq (.seq (.z) (.blk (.loop [0, 3, 4] (.seq (.seq (.z) (.cond (.z) (.z))) (.join [0, 3, 4] (.blk (.seq (.z) (.seq (.z) (.cond (.draw [0, 1, 2, 3, 4, 5, 6, 7, 8, 9, 10, 11, 12, 13, 14]) (.z))))) (.z)))))) (.seq (.z) (.z))))
def s57 [Amb] (b_0 : Value) (K : Value → WT) : WT :=
 V Tryz.prog (Instr.buildSlice 44 0 #[]) fun v7 =>
 S.loop 3 (fun K0 => fun b_0' out_3 i_4 => S.fa fun _ =>
 S.nc b_0' fun v10 =>
 S.fad v10 0 fun v11 =>
 S.ld v11 fun v12 =>
 S.len v12 fun v13 =>
 S.bin .lss i_4 v13 fun v14 =>
 S.cond v14 (
 S.join 3 (fun K1 =>
 S.nc b_0' fun v20 =>
 S.fad v20 0 fun v21 =>
 S.ld v21 fun v22 =>
 S.ixS 2 v22 i_4 fun v24 =>
 S.fad v24 0 fun v25 =>
 S.ld v25 fun v26 =>
 CF Tryz.prog 12 [b_0', v26, (I 0)] fun v27 =>
 S.ext v27 0 fun v28 =>
 S.ext v27 1 fun v29 =>
 S.box 31 (.agg #[(.int .i64 0), (.int .i64 0), (.slice none 0 0), (.bool false)]) fun v_5 =>
 S.st 4 v_5 v28 fun _ =>
 S.bin .eql v29 (I 0) fun v31 =>
 S.cond v31 (
 S.dr <|
 S.nc b_0' fun v34 =>
 S.fad v34 0 fun v35 =>
 S.ld v35 fun v36 =>
 S.ixS 2 v36 i_4 fun v38 =>
 S.fad v38 0 fun v39 =>
 S.ld v39 fun v40 =>
 S.fad v_5 0 fun v41 =>
 S.ld v41 fun v42 =>
 V Tryz.prog (Instr.build 53 #[(0, v40), (1, v42)]) fun v43 =>
 V Tryz.prog (Instr.buildSlice 44 1 #[(0, v43)]) fun v44 =>
 V Tryz.prog (Builtin.append_ #[44, 44] 44 #[out_3, v44]) fun v45 =>
 K1 b_0' v45 i_4) (
 K1 b_0' out_3 i_4))
 <| fun b_0'2 out_3' i_4' => S.fa fun _ =>
 S.bin .add i_4' (I 1) fun v16 =>
 K0 b_0'2 out_3' v16) (
 K out_3))
 [b_0, v7, (I 0)]
theorem e57 [Amb] (b_0 : Value) (K : Value → WT) : s57 b_0 K = shal Tryz.prog Tryz.f57 .p a57 [b_0] K := by kernel_rfl
theorem c57 [Amb] {b_0 : Value} {K : Value → WT} {w : World} (h : s57 b_0 K w) : CF Tryz.prog 57 [b_0] K w := shal_sound Tryz.func57 (e57 b_0 K ▸ h)
def a58 : Ann := .seq (.z) (.seq (.draw [0, 1, 2, 3, 4, 5, 7, 6, 8, 9]) (.seq (.draw [0, 1, 2, 3, 4, 5, 6]) (.seq (.z) (.cond (.draw [0, 1, 2, 3, 4, 5]) (.z)))))
def s58 [Amb] (b_0 name_1 : Value) (K : Value → WT) : WT :=
 S.box 23 b_0 fun b_2 =>
 S.box 9 name_1 fun name_3 =>
 S.dr <|
 S.ld b_2 fun v5 =>
 S.nc v5 fun v6 =>
 S.fad v6 0 fun v7 =>
 S.ld v7 fun v8 =>
 S.ld name_3 fun v9 =>
 S.lk .string (.slice none 0 0) false v8 v9 fun v10 =>
 CF Tryz.prog 51 [v10] fun v11 =>
 CF Tryz.prog 50 [v11, (.func (Go.Fn.func 99) #[] #[b_2, name_3])] fun v13 =>
 S.dr <|
 S.ld b_2 fun v14 =>
 S.nc v14 fun v15 =>
 S.fad v15 0 fun v16 =>
 S.ld v16 fun v17 =>
 S.ld name_3 fun v18 =>
 U Tryz.prog (Instr.mapUpdate 78 v17 v18 v13) fun _ =>
 S.len v13 fun v21 =>
 S.bin .eql v21 (I 0) fun v22 =>
 S.cond v22 (
 S.dr <|
 S.ld b_2 fun v23 =>
 S.nc v23 fun v24 =>
 S.fad v24 0 fun v25 =>
 S.ld v25 fun v26 =>
 S.ld name_3 fun v27 =>
 V Tryz.prog (Builtin.delete_ #[78, 9] 0 #[v26, v27]) fun _ =>
 K (.tuple #[])) (
 K (.tuple #[]))
theorem e58 [Amb] (b_0 name_1 : Value) (K : Value → WT) : s58 b_0 name_1 K = shal Tryz.prog Tryz.f58 .p a58 [b_0, name_1] K := by kernel_rfl
theorem c58 [Amb] {b_0 name_1 : Value} {K : Value → WT} {w : World} (h : s58 b_0 name_1 K w) : CF Tryz.prog 58 [b_0, name_1] K w := shal_sound Tryz.func58 (e58 b_0 name_1 K ▸ h)
def a59 : Ann := .seq (.z) (.seq (.seq (.z) (.cond (.seq (.z) (.z)) (.z))) (.seq (.z) (.z)))
def s59 [Amb] (s_0 : Value) (K : Value → WT) : WT :=
 S.eqv Tryz.prog .eql 44 true s_0 (.slice none 0 0) fun v4 =>
 S.cond v4 (
 K (.slice none 0 0)) (
 V Tryz.prog (Instr.buildSlice 44 0 #[]) fun v5 =>
 V Tryz.prog (Builtin.append_ #[44, 44] 44 #[v5, s_0]) fun v7 =>
 K v7)
theorem e59 [Amb] (s_0 : Value) (K : Value → WT) : s59 s_0 K = shal Tryz.prog Tryz.f59 .p a59 [s_0] K := by kernel_rfl
theorem c59 [Amb] {s_0 : Value} {K : Value → WT} {w : World} (h : s59 s_0 K w) : CF Tryz.prog 59 [s_0] K w := shal_sound Tryz.func59 (e59 s_0 K ▸ h)
def a60 : Ann := .seq (.z) (.blk (.loop [0, 1, 10, 11, 12] (.seq (.z) (.seq (.cond (.z) (.z)) (.seq (.blk (.seq (.z) (.seq (.z) (.seq (.seq (.z) (.blk (.loop [0, 1, 5, 6, 10, 11, 12, 23, 24, 25] (.seq (.z) (.seq (.cond (.z) (.z)) (.seq (.blk (.seq (.z) (.z))) (.z))))))) (.z))))) (.z))))))
def s60 [Amb] (b_0 moves_1 : Value) (K : Value → WT) : WT :=
 CF Tryz.prog 49 [b_0] fun v10 =>
 S.len v10 fun v11 =>
 S.loop 5 (fun K0 => fun b_0' moves_1' v10' v11' v12 => S.fa fun _ =>
 S.bin .lss v12 v11' fun v13 =>
 S.cond v13 (
 S.ixS 1 v10' v12 fun v14 =>
 S.ld v14 fun v15 =>
 S.nc b_0' fun v17 =>
 S.fad v17 0 fun v18 =>
 S.ld v18 fun v19 =>
 S.lk .string (.slice none 0 0) false v19 v15 fun v21 =>
 CF Tryz.prog 51 [v21] fun v22 =>
 S.len v22 fun v24 =>
 S.loop 10 (fun K1 => fun b_0'2 moves_1'2 name_5 l_6 v10'2 v11'2 v12' v23 v24' v25 => S.fa fun _ =>
 S.bin .lss v25 v24' fun v26 =>
 S.cond v26 (
 S.ixS 4 v23 v25 fun v28 =>
 S.ldN 4 v28 fun v29 =>
 S.box 31 (.agg #[(.int .i64 0), (.int .i64 0), (.slice none 0 0), (.bool false)]) fun v_8 =>
 S.st 4 v_8 v29 fun _ =>
 S.fad v_8 2 fun v33 =>
 S.ld v33 fun v34 =>
 CF Tryz.prog 101 [v34, moves_1'2] fun v36 =>
 S.ext v36 0 fun v37 =>
 S.ext v36 1 fun v38 =>
 S.ixS 4 l_6 v25 fun v39 =>
 S.fad v39 2 fun v40 =>
 S.st 1 v40 v37 fun _ =>
 S.bin .add v25 (I 1) fun v41 =>
 K1 b_0'2 moves_1'2 name_5 l_6 v10'2 v11'2 v12' v23 v24' v41) (
 S.nc b_0'2 fun v43 =>
 S.fad v43 0 fun v44 =>
 S.ld v44 fun v45 =>
 U Tryz.prog (Instr.mapUpdate 78 v45 name_5 l_6) fun _ =>
 S.bin .add v12' (I 1) fun v48 =>
 K0 b_0'2 moves_1'2 v10'2 v11'2 v48))
 [b_0', moves_1', v15, v22, v10', v11', v12, v22, v24, (I 0)]) (
 K (.tuple #[])))
 [b_0, moves_1, v10, v11, (I 0)]
theorem e60 [Amb] (b_0 moves_1 : Value) (K : Value → WT) : s60 b_0 moves_1 K = shal Tryz.prog Tryz.f60 .p a60 [b_0, moves_1] K := by kernel_rfl
theorem c60 [Amb] {b_0 moves_1 : Value} {K : Value → WT} {w : World} (h : s60 b_0 moves_1 K w) : CF Tryz.prog 60 [b_0, moves_1] K w := shal_sound Tryz.func60 (e60 b_0 moves_1 K ▸ h)
def a61 : Ann := .seq (.z) (.blk (.loop [0, 1, 9, 10, 11] (.seq (.z) (.seq (.cond (.z) (.z)) (.seq (.blk (.seq (.z) (.seq (.z) (.blk (.loop [0, 1, 5, 9, 10, 11, 20, 21, 22] (.seq (.z) (.seq (.cond (.z) (.z)) (.seq (.blk (.seq (.z) (.z))) (.z))))))))) (.z))))))
def s61 [Amb] (b_0 does_1 : Value) (K : Value → WT) : WT :=
 CF Tryz.prog 49 [b_0] fun v9 =>
 S.len v9 fun v10 =>
 S.loop 5 (fun K0 => fun b_0' does_1' v9' v10' v11 => S.fa fun _ =>
 S.bin .lss v11 v10' fun v12 =>
 S.cond v12 (
 S.ixS 1 v9' v11 fun v13 =>
 S.ld v13 fun v14 =>
 S.nc b_0' fun v16 =>
 S.fad v16 0 fun v17 =>
 S.ld v17 fun v18 =>
 S.lk .string (.slice none 0 0) false v18 v14 fun v20 =>
 S.len v20 fun v21 =>
 S.loop 9 (fun K1 => fun b_0'2 does_1'2 name_5 v9'2 v10'2 v11' v20' v21' v22 => S.fa fun _ =>
 S.bin .lss v22 v21' fun v23 =>
 S.cond v23 (
 S.ixS 4 v20' v22 fun v24 =>
 S.ldN 4 v24 fun v25 =>
 S.box 31 (.agg #[(.int .i64 0), (.int .i64 0), (.slice none 0 0), (.bool false)]) fun v_7 =>
 S.st 4 v_7 v25 fun _ =>
 S.ldN 4 v_7 fun v28 =>
 S.cvv Tryz.prog does_1'2 [name_5, v28] fun v29 =>
 S.bin .add v22 (I 1) fun v30 =>
 K1 b_0'2 does_1'2 name_5 v9'2 v10'2 v11' v20' v21' v30) (
 S.bin .add v11' (I 1) fun v31 =>
 K0 b_0'2 does_1'2 v9'2 v10'2 v31))
 [b_0', does_1', v14, v9', v10', v11, v20, v21, (I 0)]) (
 K (.tuple #[])))
 [b_0, does_1, v9, v10, (I 0)]
theorem e61 [Amb] (b_0 does_1 : Value) (K : Value → WT) : s61 b_0 does_1 K = shal Tryz.prog Tryz.f61 .p a61 [b_0, does_1] K := by kernel_rfl
theorem c61 [Amb] {b_0 does_1 : Value} {K : Value → WT} {w : World} (h : s61 b_0 does_1 K w) : CF Tryz.prog 61 [b_0, does_1] K w := shal_sound Tryz.func61 (e61 b_0 does_1 K ▸ h)
def a62 : Ann := .seq (.z) (.z)
def s62 [Amb] (v0 v_1 v2 : Value) (K : Value → WT) : WT :=
 S.box 31 v_1 fun v_4 =>
 S.ld v2 fun v5 =>
 S.fad v_4 2 fun v6 =>
 S.ld v6 fun v7 =>
 V Tryz.prog (Builtin.append_ #[29, 29] 29 #[v5, v7]) fun v8 =>
 S.st 1 v2 v8 fun _ =>
 K (.tuple #[])
theorem e62 [Amb] (v0 v_1 v2 : Value) (K : Value → WT) : s62 v0 v_1 v2 K = shal Tryz.prog Tryz.f62 .p a62 [v0, v_1, v2] K := by kernel_rfl
theorem c62 [Amb] {v0 v_1 v2 : Value} {K : Value → WT} {w : World} (h : s62 v0 v_1 v2 K w) : CF Tryz.prog 62 [v0, v_1, v2] K w := shal_sound Tryz.func62 (e62 v0 v_1 v2 K ▸ h)
def a63 : Ann := .seq (.z) (.seq (.draw [0, 1, 2, 3, 5, 6, 7, 8, 4, 9, 10, 11, 12]) (.z))
def s63 [Amb] (x_0 y_1 : Value) (K : Value → WT) : WT :=
 S.box 38 x_0 fun x_2 =>
 S.box 38 y_1 fun y_3 =>
 S.dr <|
 S.fad x_2 33 fun v5 =>
 S.ld v5 fun v6 =>
 S.fad y_3 33 fun v7 =>
 S.ld v7 fun v8 =>
 S.fad x_2 34 fun v10 =>
 S.ld v10 fun v11 =>
 S.fad y_3 34 fun v12 =>
 S.ld v12 fun v13 =>
 CF Tryz.prog 65 [v6, v8] fun v9 =>
 S.rck [S.ld v12 (fun v' _ => v' = v13), S.ld v10 (fun v' _ => v' = v11)] <|
 CF Tryz.prog 65 [v11, v13] fun v14 =>
 V Tryz.prog (Instr.buildSlice 141 2 #[(0, v9), (1, v14)]) fun v15 =>
 CF Tryz.prog 64 [v15] fun v16 =>
 K v16
theorem e63 [Amb] (x_0 y_1 : Value) (K : Value → WT) : s63 x_0 y_1 K = shal Tryz.prog Tryz.f63 .p a63 [x_0, y_1] K := by kernel_rfl
theorem c63 [Amb] {x_0 y_1 : Value} {K : Value → WT} {w : World} (h : s63 x_0 y_1 K w) : CF Tryz.prog 63 [x_0, y_1] K w := shal_sound Tryz.func63 (e63 x_0 y_1 K ▸ h)
def a64 : Ann := .seq (.z) (.seq (.z) (.seq (.seq (.z) (.blk (.loop [3, 6, 7, 8] (.seq (.z) (.seq (.cond (.z) (.z)) (.seq (.blk (.seq (.z) (.seq (.z) (.cond (.seq (.z) (.z)) (.z))))) (.z))))))) (.seq (.z) (.z))))
def s64 [Amb] (vals_0 : Value) (K : Value → WT) : WT :=
 S.len vals_0 fun v7 =>
 S.loop 4 (fun K0 => fun zero_3 v6 v7' v8 => S.fa fun _ =>
 S.bin .lss v8 v7' fun v9 =>
 S.cond v9 (
 S.ixS 1 v6 v8 fun v10 =>
 S.ld v10 fun v11 =>
 S.bin .neq v11 zero_3 fun v14 =>
 S.cond v14 (
 K v11) (
 S.bin .add v8 (I 1) fun v16 =>
 K0 zero_3 v6 v7' v16)) (
 K zero_3))
 [(I 0), vals_0, v7, (I 0)]
theorem e64 [Amb] (vals_0 : Value) (K : Value → WT) : s64 vals_0 K = shal Tryz.prog Tryz.f64 .p a64 [vals_0] K := by kernel_rfl
theorem c64 [Amb] {vals_0 : Value} {K : Value → WT} {w : World} (h : s64 vals_0 K w) : CF Tryz.prog 64 [vals_0] K w := shal_sound Tryz.func64 (e64 vals_0 K ▸ h)
def a65 : Ann := .seq (.z) (.seq (.z) (.seq (.z) (.seq (.seq (.z) (.cond (.seq (.seq (.z) (.cond (.seq (.z) (.z)) (.z))) (.seq (.z) (.z))) (.z))) (.seq (.seq (.z) (.cond (.seq (.z) (.z)) (.z))) (.seq (.seq (.z) (.cond (.seq (.z) (.z)) (.z))) (.seq (.seq (.z) (.cond (.seq (.z) (.z)) (.z))) (.seq (.z) (.z))))))))
def s65 [Amb] (x_0 y_1 : Value) (K : Value → WT) : WT :=
 CF Tryz.prog 102 [x_0] fun v8 =>
 CF Tryz.prog 102 [y_1] fun v10 =>
 S.cond v8 (
 S.cond v10 (
 K (I 0)) (
 K (I (-1)))) (
 S.cond v10 (
 K (I 1)) (
 S.bin .lss x_0 y_1 fun v16 =>
 S.cond v16 (
 K (I (-1))) (
 S.bin .gtr x_0 y_1 fun v19 =>
 S.cond v19 (
 K (I 1)) (
 K (I 0)))))
theorem e65 [Amb] (x_0 y_1 : Value) (K : Value → WT) : s65 x_0 y_1 K = shal Tryz.prog Tryz.f65 .p a65 [x_0, y_1] K := by kernel_rfl
theorem c65 [Amb] {x_0 y_1 : Value} {K : Value → WT} {w : World} (h : s65 x_0 y_1 K w) : CF Tryz.prog 65 [x_0, y_1] K w := shal_sound Tryz.func65 (e65 x_0 y_1 K ▸ h)
def a66 : Ann := .z
def s66 [Amb] (x_0 cmp_1 : Value) (K : Value → WT) : WT :=
 S.len x_0 fun v6 =>
 CF Tryz.prog 103 [x_0, v6, cmp_1] fun v8 =>
 K (.tuple #[])
theorem e66 [Amb] (x_0 cmp_1 : Value) (K : Value → WT) : s66 x_0 cmp_1 K = shal Tryz.prog Tryz.f66 .p a66 [x_0, cmp_1] K := by kernel_rfl
theorem c66 [Amb] {x_0 cmp_1 : Value} {K : Value → WT} {w : World} (h : s66 x_0 cmp_1 K w) : CF Tryz.prog 66 [x_0, cmp_1] K w := shal_sound Tryz.func66 (e66 x_0 cmp_1 K ▸ h)
def a67 : Ann := .seq (.z) (.seq (.seq (.z) (.cond (.seq (.z) (.z)) (.z))) (.seq (.seq (.z) (.blk (.loop [0, 1, 5] (.seq (.seq (.z) (.cond (.z) (.z))) (.seq (.blk (.seq (.draw [0, 1, 2, 3, 4, 5, 6, 7, 8, 9, 10]) (.cond (.seq (.z) (.seq (.seq (.z) (.blk (.loop [0, 1, 5, 6, 7] (.seq (.seq (.z) (.cond (.z) (.z))) (.join [0, 1, 5, 6, 7] (.blk (.seq (.draw [0, 1, 2, 3, 4, 5, 6, 7, 8, 9, 10, 11]) (.cond (.seq (.z) (.z)) (.z)))) (.z)))))) (.seq (.z) (.seq (.z) (.z))))) (.z)))) (.z)))))) (.seq (.z) (.z))))
def s67 [Amb] (v0 v1 : Value) (K : Value → WT) : WT :=
 S.len v0 fun v9 =>
 S.bin .lss v9 (I 2) fun v10 =>
 S.cond v10 (
 K v0) (
 S.loop 3 (fun K0 => fun v0' v1' v5 => S.fa fun _ =>
 S.len v0' fun v14 =>
 S.bin .lss v5 v14 fun v15 =>
 S.cond v15 (
 S.dr <|
 S.ixS 35 v0' v5 fun v21 =>
 S.ldN 35 v21 fun v22 =>
 S.bin .sub v5 (I 1) fun v25 =>
 S.ixS 35 v0' v25 fun v26 =>
 S.ldN 35 v26 fun v27 =>
 S.cvv Tryz.prog v1' [v22, v27] fun v28 =>
 S.cond v28 (
 S.slc 35 v0' (some v5) none none fun v31 =>
 S.loop 5 (fun K1 => fun v0'2 v1'2 v5' v6 v7 => S.fa fun _ =>
 S.len v6 fun v34 =>
 S.bin .lss v7 v34 fun v35 =>
 S.cond v35 (
 S.join 5 (fun K2 =>
 S.dr <|
 S.ixS 35 v6 v7 fun v41 =>
 S.ldN 35 v41 fun v42 =>
 S.bin .sub v7 (I 1) fun v45 =>
 S.ixS 35 v6 v45 fun v46 =>
 S.ldN 35 v46 fun v47 =>
 S.cvv Tryz.prog v1'2 [v42, v47] fun v48 =>
 S.not1 v48 fun v49 =>
 S.cond v49 (
 S.ixS 35 v6 v7 fun v54 =>
 S.ldN 35 v54 fun v55 =>
 S.ixS 35 v0'2 v5' fun v56 =>
 S.st 35 v56 v55 fun _ =>
 S.bin .add v5' (I 1) fun v58 =>
 K2 v0'2 v1'2 v58 v6 v7) (
 K2 v0'2 v1'2 v5' v6 v7))
 <| fun v0'3 v1'3 v5'2 v6' v7' => S.fa fun _ =>
 S.bin .add v7' (I 1) fun v37 =>
 K1 v0'3 v1'3 v5'2 v6' v37) (
 S.slc 35 v0'2 (some v5') none none fun v61 =>
 V Tryz.prog (Builtin.clear_ #[29] 0 #[v61]) fun _ =>
 S.slc 35 v0'2 none (some v5') none fun v64 =>
 K v64))
 [v0', v1', v5, v31, (I 1)]) (
 S.bin .add v5 (I 1) fun v17 =>
 K0 v0' v1' v17)) (
 K v0'))
 [v0, v1, (I 1)])
theorem e67 [Amb] (v0 v1 : Value) (K : Value → WT) : s67 v0 v1 K = shal Tryz.prog Tryz.f67 .p a67 [v0, v1] K := by kernel_rfl
theorem c67 [Amb] {v0 v1 : Value} {K : Value → WT} {w : World} (h : s67 v0 v1 K w) : CF Tryz.prog 67 [v0, v1] K w := shal_sound Tryz.func67 (e67 v0 v1 K ▸ h)
def a68 : Ann := .seq (.z) (.seq (.z) (.z))
def s68 [Amb] (x_0 y_1 v2 : Value) (K : Value → WT) : WT :=
 S.box 38 x_0 fun x_3 =>
 S.box 38 y_1 fun y_4 =>
 S.ld v2 fun v6 =>
 S.ldN 35 x_3 fun v7 =>
 S.ldN 35 y_4 fun v8 =>
 S.cvv Tryz.prog v6 [v7, v8] fun v9 =>
 S.bin .eql v9 (I 0) fun v10 =>
 K v10
theorem e68 [Amb] (x_0 y_1 v2 : Value) (K : Value → WT) : s68 x_0 y_1 v2 K = shal Tryz.prog Tryz.f68 .p a68 [x_0, y_1, v2] K := by kernel_rfl
theorem c68 [Amb] {x_0 y_1 v2 : Value} {K : Value → WT} {w : World} (h : s68 x_0 y_1 v2 K w) : CF Tryz.prog 68 [x_0, y_1, v2] K w := shal_sound Tryz.func68 (e68 x_0 y_1 v2 K ▸ h)
def a69 : Ann := .seq (.z) (.seq (.z) (.seq (.seq (.z) (.blk (.loop [0, 3, 4] (.seq (.seq (.z) (.cond (.z) (.z))) (.join [0, 3, 4] (.blk (.seq (.drawT 13 (.one 0 (.one 1 (.one 2 (.one 3 (.one 4 (.one 5 (.one 6 (.one 7 (.one 8 (.one 9 (.two 10 (.one 11 (.one 12 .nil)) 11 (.one 10 (.one 12 .nil)))))))))))))) (.seq (.z) (.seq (.blk (.loop [0, 3, 4, 5, 6] (.seq (.join [0, 3, 4, 5, 6, 37] (.draw [0, 1, 2, 3, 4, 5, 6, 7, 8, 9, 10, 11]) (.cond (.z) (.z))) (.blk (.z))))) (.seq (.join [0, 3, 4, 5, 6, 51] (.draw [0, 1, 2, 3, 4, 5, 6, 7, 8, 9, 10, 11]) (.cond (.z) (.z))) (.seq (.z) (.seq (.z) (.z)))))))) (.z)))))) (.seq (.z) (.z))))
def s69 [Amb] (v0 : Value) (K : Value → WT) : WT :=
 V Tryz.prog (Instr.buildSlice 113 0 #[]) fun v8 =>
 S.loop 3 (fun K0 => fun v0' v3 v4 => S.fa fun _ =>
 S.len v0' fun v11 =>
 S.bin .lss v4 v11 fun v12 =>
 S.cond v12 (
 S.join 3 (fun K1 =>
 S.dr <|
 S.ixS 35 v0' v4 fun v17 =>
 S.fad v17 33 fun v18 =>
 S.ld v18 fun v19 =>
 S.ixS 35 v0' v4 fun v22 =>
 S.fad v22 34 fun v23 =>
 S.ld v23 fun v24 =>
 S.both (
 V Tryz.prog (Instr.build 116 #[(0, v19), (1, v24)]) fun v25 =>
 S.box 116 (.agg #[(.int .i64 0), (.int .i64 0)]) fun v5 =>
 S.st 2 v5 v25 fun _ =>
 S.loop 5 (fun K2 => fun v0'2 v3' v4' v5' v6 => S.fa fun _ =>
 S.join 6 (fun K3 =>
 S.dr <|
 S.len v3' fun v28 =>
 S.bin .lss v6 v28 fun v29 =>
 S.gd v29 true (fun k => k v3') fun v31 =>
 S.gd v29 true (fun k => k v6) fun v32 =>
 S.gd v29 true (S.ixS 2 v31 v32) fun v33 =>
 S.gd v29 true (S.ldN 2 v33) fun v34 =>
 S.gd v29 true (S.ldN 2 v5') fun v35 =>
 S.gd v29 true (CF Tryz.prog 104 [v34, v35]) fun v36 =>
 S.pick v29 v36 (B false) fun v37 =>
 K3 v0'2 v3' v4' v5' v6 v37)
 <| fun v0'3 v3'2 v4'2 v5'2 v6' v37' => S.fa fun _ =>
 S.cond v37' (
 S.bin .add v6' (I 1) fun v39 =>
 K2 v0'3 v3'2 v4'2 v5'2 v39) (
 S.join 6 (fun K4 =>
 S.dr <|
 S.len v3'2 fun v42 =>
 S.bin .lss v6' v42 fun v43 =>
 S.gd v43 true (fun k => k v3'2) fun v45 =>
 S.gd v43 true (fun k => k v6') fun v46 =>
 S.gd v43 true (S.ixS 2 v45 v46) fun v47 =>
 S.gd v43 true (S.ldN 2 v47) fun v48 =>
 S.gd v43 true (S.ldN 2 v5'2) fun v49 =>
 S.gd v43 true (S.eqv Tryz.prog .eql 116 false v48 v49) fun v50 =>
 S.pick v43 v50 (B false) fun v51 =>
 K4 v0'3 v3'2 v4'2 v5'2 v6' v51)
 <| fun v0'4 v3'3 v4'3 v5'3 v6'2 v51' => S.fa fun _ =>
 S.cond v51' (
 K1 v0'4 v3'3 v4'3) (
 V Tryz.prog (Instr.buildSlice 113 0 #[]) fun v52 =>
 S.slc 2 v3'3 none (some v6'2) none fun v55 =>
 V Tryz.prog (Builtin.append_ #[113, 113] 113 #[v52, v55]) fun v56 =>
 S.ldN 2 v5'3 fun v58 =>
 V Tryz.prog (Instr.buildSlice 113 1 #[(0, v58)]) fun v59 =>
 V Tryz.prog (Builtin.append_ #[113, 113] 113 #[v56, v59]) fun v60 =>
 S.slc 2 v3'3 (some v6'2) none none fun v64 =>
 V Tryz.prog (Builtin.append_ #[113, 113] 113 #[v60, v64]) fun v65 =>
 K1 v0'4 v65 v4'3)))
 [v0', v3, v4, v5, (I 0)]) (
 S.box 116 (.agg #[(.int .i64 0), (.int .i64 0)]) fun v5'4 =>
 S.rck [S.ld v23 (fun v' _ => v' = v24), S.ld v18 (fun v' _ => v' = v19)] <|
 V Tryz.prog (Instr.build 116 #[(0, v19), (1, v24)]) fun v25' =>
 S.st 2 v5'4 v25' fun _ =>
 S.loop 5 (fun K5 => fun v0'5 v3'4 v4'4 v5'5 v6'3 => S.fa fun _ =>
 S.join 6 (fun K6 =>
 S.dr <|
 S.len v3'4 fun v28' =>
 S.bin .lss v6'3 v28' fun v29' =>
 S.gd v29' true (fun k => k v3'4) fun v31' =>
 S.gd v29' true (fun k => k v6'3) fun v32' =>
 S.gd v29' true (S.ixS 2 v31' v32') fun v33' =>
 S.gd v29' true (S.ldN 2 v33') fun v34' =>
 S.gd v29' true (S.ldN 2 v5'5) fun v35' =>
 S.gd v29' true (CF Tryz.prog 104 [v34', v35']) fun v36' =>
 S.pick v29' v36' (B false) fun v37'2 =>
 K6 v0'5 v3'4 v4'4 v5'5 v6'3 v37'2)
 <| fun v0'6 v3'5 v4'5 v5'6 v6'4 v37'3 => S.fa fun _ =>
 S.cond v37'3 (
 S.bin .add v6'4 (I 1) fun v39' =>
 K5 v0'6 v3'5 v4'5 v5'6 v39') (
 S.join 6 (fun K7 =>
 S.dr <|
 S.len v3'5 fun v42' =>
 S.bin .lss v6'4 v42' fun v43' =>
 S.gd v43' true (fun k => k v3'5) fun v45' =>
 S.gd v43' true (fun k => k v6'4) fun v46' =>
 S.gd v43' true (S.ixS 2 v45' v46') fun v47' =>
 S.gd v43' true (S.ldN 2 v47') fun v48' =>
 S.gd v43' true (S.ldN 2 v5'6) fun v49' =>
 S.gd v43' true (S.eqv Tryz.prog .eql 116 false v48' v49') fun v50' =>
 S.pick v43' v50' (B false) fun v51'2 =>
 K7 v0'6 v3'5 v4'5 v5'6 v6'4 v51'2)
 <| fun v0'7 v3'6 v4'6 v5'7 v6'5 v51'3 => S.fa fun _ =>
 S.cond v51'3 (
 K1 v0'7 v3'6 v4'6) (
 V Tryz.prog (Instr.buildSlice 113 0 #[]) fun v52' =>
 S.slc 2 v3'6 none (some v6'5) none fun v55' =>
 V Tryz.prog (Builtin.append_ #[113, 113] 113 #[v52', v55']) fun v56' =>
 S.ldN 2 v5'7 fun v58' =>
 V Tryz.prog (Instr.buildSlice 113 1 #[(0, v58')]) fun v59' =>
 V Tryz.prog (Builtin.append_ #[113, 113] 113 #[v56', v59']) fun v60' =>
 S.slc 2 v3'6 (some v6'5) none none fun v64' =>
 V Tryz.prog (Builtin.append_ #[113, 113] 113 #[v60', v64']) fun v65' =>
 K1 v0'7 v65' v4'6)))
 [v0', v3, v4, v5'4, (I 0)]))
 <| fun v0'8 v3'7 v4'7 => S.fa fun _ =>
 S.bin .add v4'7 (I 1) fun v14 =>
 K0 v0'8 v3'7 v14) (
 K v3))
 [v0, v8, (I 0)]
theorem e69 [Amb] (v0 : Value) (K : Value → WT) : s69 v0 K = shal Tryz.prog Tryz.f69 .p a69 [v0] K := by kernel_rfl
theorem c69 [Amb] {v0 : Value} {K : Value → WT} {w : World} (h : s69 v0 K w) : CF Tryz.prog 69 [v0] K w := shal_sound Tryz.func69 (e69 v0 K ▸ h)
def a70 : Ann := .seq (.z) (.seq (.draw [0, 1, 2, 3, 4, 5, 6, 7, 8, 9, 10, 11, 12]) (.seq (.z) (.cond (.z) (.z))))
def s70 [Amb] (name_0 v_1 v2 v3 : Value) (K : Value → WT) : WT :=
 S.box 31 v_1 fun v_5 =>
 S.dr <|
 S.ld v2 fun v6 =>
 S.fad v_5 0 fun v8 =>
 S.ld v8 fun v9 =>
 S.fad v_5 1 fun v10 =>
 S.ld v10 fun v11 =>
 S.fad v_5 2 fun v12 =>
 S.ld v12 fun v13 =>
 CF Tryz.prog 71 [v13] fun v14 =>
 S.rck [S.ld v10 (fun v' _ => v' = v11), S.ld v8 (fun v' _ => v' = v9), S.ld v2 (fun v' _ => v' = v6)] <|
 V Tryz.prog (Instr.build 60 #[(0, (I 3)), (2, name_0), (3, v9), (4, v11), (5, v14)]) fun v15 =>
 S.rck [S.ld v2 (fun v' _ => v' = v6)] <|
 V Tryz.prog (Instr.buildSlice 22 1 #[(0, v15)]) fun v16 =>
 S.rck [S.ld v2 (fun v' _ => v' = v6)] <|
 V Tryz.prog (Builtin.append_ #[22, 22] 22 #[v6, v16]) fun v17 =>
 S.st 1 v2 v17 fun _ =>
 S.fad v_5 3 fun v18 =>
 S.ld v18 fun v19 =>
 S.cond v19 (
 S.ld v3 fun v20 =>
 S.fad v_5 0 fun v22 =>
 S.ld v22 fun v23 =>
 V Tryz.prog (Instr.build 60 #[(0, (I 4)), (2, name_0), (3, v23)]) fun v24 =>
 V Tryz.prog (Instr.buildSlice 22 1 #[(0, v24)]) fun v25 =>
 V Tryz.prog (Builtin.append_ #[22, 22] 22 #[v20, v25]) fun v26 =>
 S.st 1 v3 v26 fun _ =>
 K (.tuple #[])) (
 K (.tuple #[]))
theorem e70 [Amb] (name_0 v_1 v2 v3 : Value) (K : Value → WT) : s70 name_0 v_1 v2 v3 K = shal Tryz.prog Tryz.f70 .p a70 [name_0, v_1, v2, v3] K := by kernel_rfl
theorem c70 [Amb] {name_0 v_1 v2 v3 : Value} {K : Value → WT} {w : World} (h : s70 name_0 v_1 v2 v3 K w) : CF Tryz.prog 70 [name_0, v_1, v2, v3] K w := shal_sound Tryz.func70 (e70 name_0 v_1 v2 v3 K ▸ h)
def a71 : Ann := .seq (.z) (.seq (.seq (.z) (.cond (.seq (.z) (.z)) (.z))) (.seq (.z) (.z)))
def s71 [Amb] (s_0 : Value) (K : Value → WT) : WT :=
 S.eqv Tryz.prog .eql 29 true s_0 (.slice none 0 0) fun v4 =>
 S.cond v4 (
 K (.slice none 0 0)) (
 V Tryz.prog (Instr.buildSlice 29 0 #[]) fun v5 =>
 V Tryz.prog (Builtin.append_ #[29, 29] 29 #[v5, s_0]) fun v7 =>
 K v7)
theorem e71 [Amb] (s_0 : Value) (K : Value → WT) : s71 s_0 K = shal Tryz.prog Tryz.f71 .p a71 [s_0] K := by kernel_rfl
theorem c71 [Amb] {s_0 : Value} {K : Value → WT} {w : World} (h : s71 s_0 K w) : CF Tryz.prog 71 [s_0] K w := shal_sound Tryz.func71 (e71 s_0 K ▸ h)
def a72 : Ann := .seq (.z) (.seq (.join [2, 3, 72] (.z) (.cond (.seq (.z) (.z)) (.z))) (.seq (.seq (.z) (.blk (.loop [2, 3, 5] (.seq (.seq (.z) (.cond (.z) (.z))) (.seq (.blk (.seq (.draw [0, 1, 2, 3, 4, 5, 6, 7, 8, 9, 10]) (.cond (.seq (.z) (.z)) (.z)))) (.z)))))) (.seq (.seq (.z) (.blk (.loop [2, 3, 6] (.seq (.seq (.z) (.cond (.z) (.z))) (.seq (.blk (.seq (.draw [0, 1, 2, 3, 4, 5, 6, 7, 8, 9, 10]) (.cond (.seq (.z) (.z)) (.z)))) (.z)))))) (.seq (.z) (.z)))))
def s72 [Amb] (v0 v1 : Value) (K : Value → WT) : WT :=
 S.box 60 v0 fun v2 =>
 S.box 60 v1 fun v3 =>
 S.join 3 (fun K0 =>
 S.fad v2 0 fun v7 =>
 S.ld v7 fun v8 =>
 S.fad v3 0 fun v9 =>
 S.ld v9 fun v10 =>
 S.bin .neq v8 v10 fun v11 =>
 S.gd v11 false (S.fad v2 1) fun v13 =>
 S.gd v11 false (S.ldN 3 v13) fun v14 =>
 S.gd v11 false (S.fad v3 1) fun v15 =>
 S.gd v11 false (S.ldN 3 v15) fun v16 =>
 S.gd v11 false (S.eqv Tryz.prog .neq 57 false v14 v16) fun v17 =>
 S.pick v11 (B true) v17 fun v18 =>
 S.gd v18 false (S.fad v2 4) fun v20 =>
 S.gd v18 false (S.ld v20) fun v21 =>
 S.gd v18 false (S.fad v3 4) fun v22 =>
 S.gd v18 false (S.ld v22) fun v23 =>
 S.gd v18 false (S.sbin .neq v21 v23) fun v24 =>
 S.pick v18 (B true) v24 fun v25 =>
 S.gd v25 false (S.fad v2 5) fun v27 =>
 S.gd v25 false (S.ld v27) fun v28 =>
 S.gd v25 false (S.fad v3 5) fun v29 =>
 S.gd v25 false (S.ld v29) fun v30 =>
 S.gd v25 false (S.bin .neq v28 v30) fun v31 =>
 S.pick v25 (B true) v31 fun v32 =>
 S.gd v32 false (S.fad v2 6) fun v34 =>
 S.gd v32 false (S.ld v34) fun v35 =>
 S.gd v32 false (S.fad v3 6) fun v36 =>
 S.gd v32 false (S.ld v36) fun v37 =>
 S.gd v32 false (S.bin .neq v35 v37) fun v38 =>
 S.pick v32 (B true) v38 fun v39 =>
 S.gd v39 false (S.fad v2 10) fun v41 =>
 S.gd v39 false (S.ldN 4 v41) fun v42 =>
 S.gd v39 false (S.fad v3 10) fun v43 =>
 S.gd v39 false (S.ldN 4 v43) fun v44 =>
 S.gd v39 false (S.eqv Tryz.prog .neq 43 false v42 v44) fun v45 =>
 S.pick v39 (B true) v45 fun v46 =>
 S.gd v46 false (S.fad v2 7) fun v48 =>
 S.gd v46 false (S.ld v48) fun v49 =>
 S.gd v46 false (S.fad v3 7) fun v50 =>
 S.gd v46 false (S.ld v50) fun v51 =>
 S.gd v46 false (CF Tryz.prog 25 [v49, v51]) fun v52 =>
 S.gd v46 false (S.not1 v52) fun v53 =>
 S.pick v46 (B true) v53 fun v54 =>
 S.gd v54 false (S.fad v2 8) fun v56 =>
 S.gd v54 false (S.ld v56) fun v57 =>
 S.gd v54 false (S.len v57) fun v58 =>
 S.gd v54 false (S.fad v3 8) fun v59 =>
 S.gd v54 false (S.ld v59) fun v60 =>
 S.gd v54 false (S.len v60) fun v61 =>
 S.gd v54 false (S.bin .neq v58 v61) fun v62 =>
 S.pick v54 (B true) v62 fun v63 =>
 S.gd v63 false (S.fad v2 9) fun v65 =>
 S.gd v63 false (S.ld v65) fun v66 =>
 S.gd v63 false (S.len v66) fun v67 =>
 S.gd v63 false (S.fad v3 9) fun v68 =>
 S.gd v63 false (S.ld v68) fun v69 =>
 S.gd v63 false (S.len v69) fun v70 =>
 S.gd v63 false (S.bin .neq v67 v70) fun v71 =>
 S.pick v63 (B true) v71 fun v72 =>
 K0 v2 v3 v72)
 <| fun v2' v3' v72' => S.fa fun _ =>
 S.cond v72' (
 K (B false)) (
 S.loop 3 (fun K1 => fun v2'2 v3'2 v5 => S.fa fun _ =>
 S.fad v2'2 8 fun v74 =>
 S.ld v74 fun v75 =>
 S.len v75 fun v76 =>
 S.bin .lss v5 v76 fun v77 =>
 S.cond v77 (
 S.dr <|
 S.fad v2'2 8 fun v80 =>
 S.ld v80 fun v81 =>
 S.ixS 2 v81 v5 fun v83 =>
 S.ldN 2 v83 fun v84 =>
 S.fad v3'2 8 fun v85 =>
 S.ld v85 fun v86 =>
 S.ixS 2 v86 v5 fun v88 =>
 S.ldN 2 v88 fun v89 =>
 S.eqv Tryz.prog .neq 53 false v84 v89 fun v90 =>
 S.cond v90 (
 K (B false)) (
 S.bin .add v5 (I 1) fun v79 =>
 K1 v2'2 v3'2 v79)) (
 S.loop 3 (fun K2 => fun v2'3 v3'3 v6 => S.fa fun _ =>
 S.fad v2'3 9 fun v92 =>
 S.ld v92 fun v93 =>
 S.len v93 fun v94 =>
 S.bin .lss v6 v94 fun v95 =>
 S.cond v95 (
 S.dr <|
 S.fad v2'3 9 fun v98 =>
 S.ld v98 fun v99 =>
 S.ixS 4 v99 v6 fun v101 =>
 S.ldN 4 v101 fun v102 =>
 S.fad v3'3 9 fun v103 =>
 S.ld v103 fun v104 =>
 S.ixS 4 v104 v6 fun v106 =>
 S.ldN 4 v106 fun v107 =>
 S.eqv Tryz.prog .neq 147 false v102 v107 fun v108 =>
 S.cond v108 (
 K (B false)) (
 S.bin .add v6 (I 1) fun v97 =>
 K2 v2'3 v3'3 v97)) (
 K (B true)))
 [v2'2, v3'2, (I 0)]))
 [v2', v3', (I 0)])
theorem e72 [Amb] (v0 v1 : Value) (K : Value → WT) : s72 v0 v1 K = shal Tryz.prog Tryz.f72 .p a72 [v0, v1] K := by kernel_rfl
theorem c72 [Amb] {v0 v1 : Value} {K : Value → WT} {w : World} (h : s72 v0 v1 K w) : CF Tryz.prog 72 [v0, v1] K w := shal_sound Tryz.func72 (e72 v0 v1 K ▸ h)
def a75 : Ann := .seq (.z) (.seq (.z) (.z))
def s75 [Amb] (b_0 i_1 k_2 more_3 : Value) (K : Value → WT) : WT :=
 V Tryz.prog (Instr.buildSlice 71 0 #[]) fun v9 =>
 S.nc b_0 fun v11 =>
 S.fad v11 0 fun v12 =>
 S.ld v12 fun v13 =>
 S.slc 2 v13 none (some i_1) none fun v15 =>
 V Tryz.prog (Builtin.append_ #[71, 71] 71 #[v9, v15]) fun v16 =>
 V Tryz.prog (Builtin.append_ #[71, 71] 71 #[v16, more_3]) fun v19 =>
 S.nc b_0 fun v23 =>
 S.fad v23 0 fun v24 =>
 S.ld v24 fun v25 =>
 S.slc 2 v25 (some k_2) none none fun v27 =>
 V Tryz.prog (Builtin.append_ #[71, 71] 71 #[v19, v27]) fun v28 =>
 S.nc b_0 fun v29 =>
 S.fad v29 0 fun v30 =>
 S.st 1 v30 v28 fun _ =>
 K (.tuple #[])
theorem e75 [Amb] (b_0 i_1 k_2 more_3 : Value) (K : Value → WT) : s75 b_0 i_1 k_2 more_3 K = shal Tryz.prog Tryz.f75 .p a75 [b_0, i_1, k_2, more_3] K := by kernel_rfl
theorem c75 [Amb] {b_0 i_1 k_2 more_3 : Value} {K : Value → WT} {w : World} (h : s75 b_0 i_1 k_2 more_3 K w) : CF Tryz.prog 75 [b_0, i_1, k_2, more_3] K w := shal_sound Tryz.func75 (e75 b_0 i_1 k_2 more_3 K ▸ h)
end Go.Proofs.YtjafpncngmbcdaaGreat.Sh
end
