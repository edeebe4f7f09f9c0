/-
  Part 5: ShT.
-/
import Derived.Test.YtinggiidkfnlkaaDoorProg
import Derived.KernelRfl
import Derived.Test.YtinggiidkfnlkaaDoorPkJournalCrasha
set_option linter.unusedSimpArgs false
set_option linter.unusedVariables false
set_option linter.unusedSectionVars false
section
namespace Go.Proofs.YtinggiidkfnlkaaDoor.Sh
open Go Go.SL Go.Proofs
set_option maxRecDepth 100000
def a3 : Ann := .seq (.z) (.seq (.z) (.seq (.seq (.z) (.cond (.seq (.z) (.z)) (.z))) (.seq (.z) (.seq (.z) (.seq (.z) (.seq (.z) (.z)))))))
def s3 [Amb] (v0 v1 : Value) (K : Value → WT) : WT :=
 CF Tryd.prog 6 [] fun v11 =>
 S.ext v11 0 fun v12 =>
 S.ext v11 1 fun v13 =>
 S.not1 v13 fun v15 =>
 S.cond v15 (
 K (B false)) (
 S.len v0 fun v17 =>
 CF Tryd.prog 7 [v17] fun v18 =>
 S.nc v12 fun v20 =>
 S.fad v20 1 fun v21 =>
 S.ld v21 fun v22 =>
 CF Tryd.prog 8 [v22, v0] fun v24 =>
 S.mn v1 (I 100000) fun v26 =>
 S.mx v26 (I (-5)) fun v27 =>
 CF Tryd.prog 9 [] fun v28 =>
 S.gd v28 true (fun k => k v18) fun v30 =>
 S.gd v28 true (fun k => k v0) fun v31 =>
 S.gd v28 true (S.len v31) fun v32 =>
 S.gd v28 true (CF Tryd.prog 10 [v32]) fun v33 =>
 S.gd v28 true (S.bin .eql v30 v33) fun v34 =>
 S.pick v28 v34 (B false) fun v35 =>
 S.gd v35 true (fun k => k v27) fun v37 =>
 S.gd v35 true (CF Tryd.prog 7 [v37]) fun v38 =>
 S.gd v35 true (fun k => k v27) fun v39 =>
 S.gd v35 true (CF Tryd.prog 10 [v39]) fun v40 =>
 S.gd v35 true (S.bin .eql v38 v40) fun v41 =>
 S.pick v35 v41 (B false) fun v42 =>
 S.gd v42 true (fun k => k v24) fun v44 =>
 S.gd v42 true (S.bin .eql v44 (I 0)) fun v45 =>
 S.gd v42 true (fun k => k v18) fun v46 =>
 S.gd v42 true (S.bin .geq v46 (I 1)) fun v47 =>
 S.gd v42 true (fun k => k v47) fun v48 =>
 S.gd v48 true (fun k => k v18) fun v49 =>
 S.gd v48 true (S.bin .leq v49 (I 40)) fun v50 =>
 S.gd v42 true (S.pick v48 v50 (B false)) fun v51 =>
 S.gd v42 true (S.beq .eql v45 v51) fun v52 =>
 S.pick v42 v52 (B false) fun v53 =>
 S.gd v53 true (fun k => k v24) fun v55 =>
 S.gd v53 true (S.bin .neq v55 (I 0)) fun v56 =>
 S.gd v53 true (fun k => k v56) fun v57 =>
 S.gd v57 false (fun k => k v12) fun v58 =>
 S.gd v57 false (S.nc v58) fun v59 =>
 S.gd v57 false (S.fad v59 1) fun v60 =>
 S.gd v57 false (S.ld v60) fun v61 =>
 S.gd v57 false (CF Tryd.prog 11 [v61]) fun v62 =>
 S.gd v57 false (fun k => k v18) fun v63 =>
 S.gd v57 false (S.bin .sub (I 40) v63) fun v64 =>
 S.gd v57 false (S.bin .eql v62 v64) fun v65 =>
 S.gd v53 true (S.pick v57 (B true) v65) fun v66 =>
 S.pick v53 v66 (B false) fun v67 =>
 K v67)
theorem e3 [Amb] (v0 v1 : Value) (K : Value → WT) : s3 v0 v1 K = shal Tryd.prog Tryd.f3 .p a3 [v0, v1] K := by kernel_rfl
theorem c3 [Amb] {v0 v1 : Value} {K : Value → WT} {w : World} (h : s3 v0 v1 K w) : CF Tryd.prog 3 [v0, v1] K w := shal_sound Tryd.func3 (e3 v0 v1 K ▸ h)
def a4 : Ann := .seq (.z) (.seq (.z) (.seq (.z) (.seq (.z) (.seq (.seq (.z) (.cond (.seq (.z) (.z)) (.z))) (.seq (.z) (.seq (.z) (.z)))))))
def s4 [Amb] (v0 v1 : Value) (K : Value → WT) : WT :=
 S.box 41 v0 fun v2 =>
 S.fad v2 1 fun v11 =>
 S.ld v11 fun v12 =>
 S.fad v2 2 fun v13 =>
 S.ldN 2 v13 fun v14 =>
 S.fad v2 4 fun v15 =>
 S.ldN 2 v15 fun v16 =>
 CF Tryd.prog 12 [(.pointer none), v12, v14, v16] fun v17 =>
 S.ext v17 0 fun v18 =>
 S.ext v17 1 fun v19 =>
 CF Tryd.prog 6 [] fun v21 =>
 S.ext v21 0 fun v22 =>
 S.ext v21 1 fun v23 =>
 S.not1 v23 fun v25 =>
 S.cond v25 (
 K (B false)) (
 S.nc v22 fun v27 =>
 S.fad v27 0 fun v28 =>
 S.ld v28 fun v29 =>
 V Tryd.prog (Instr.build 47 #[(1, (I (-1)))]) fun v30 =>
 CF Tryd.prog 13 [v29, v30] fun v31 =>
 CF Tryd.prog 9 [] fun v32 =>
 S.gd v32 true (fun k => k v19) fun v34 =>
 S.gd v32 true (S.bin .eql v34 (I 1)) fun v35 =>
 S.pick v32 v35 (B false) fun v36 =>
 S.gd v36 true (fun k => k (.pointer none)) fun v38 =>
 S.gd v36 true (fun k => k v1) fun v39 =>
 S.gd v36 true (CF Tryd.prog 8 [v38, v39]) fun v40 =>
 S.gd v36 true (S.bin .eql v40 (I 1)) fun v41 =>
 S.pick v36 v41 (B false) fun v42 =>
 S.gd v42 true (fun k => k (.pointer none)) fun v44 =>
 S.gd v42 true (CF Tryd.prog 14 [v44]) fun v45 =>
 S.gd v42 true (S.bin .eql v45 (I 1)) fun v46 =>
 S.pick v42 v46 (B false) fun v47 =>
 S.gd v47 true (fun k => k (.pointer none)) fun v49 =>
 S.gd v47 true (CF Tryd.prog 15 [v49, (.slice none 0 0)]) fun v50 =>
 S.gd v47 true (S.bin .eql v50 (I 1)) fun v51 =>
 S.pick v47 v51 (B false) fun v52 =>
 S.gd v52 true (fun k => k (.pointer none)) fun v54 =>
 S.gd v52 true (CF Tryd.prog 16 [v54]) fun v55 =>
 S.gd v52 true (S.not1 v55) fun v56 =>
 S.pick v52 v56 (B false) fun v57 =>
 S.gd v57 true (fun k => k (.pointer none)) fun v59 =>
 S.gd v57 true (CF Tryd.prog 11 [v59]) fun v60 =>
 S.gd v57 true (fun k => k (.pointer none)) fun v61 =>
 S.gd v57 true (CF Tryd.prog 17 [v61]) fun v62 =>
 S.gd v57 true (S.len v62) fun v63 =>
 S.gd v57 true (S.bin .add v60 v63) fun v64 =>
 S.gd v57 true (S.bin .eql v64 (I 0)) fun v65 =>
 S.pick v57 v65 (B false) fun v66 =>
 S.gd v66 true (fun k => k v22) fun v68 =>
 S.gd v66 true (S.nc v68) fun v69 =>
 S.gd v66 true (S.fad v69 1) fun v70 =>
 S.gd v66 true (S.ld v70) fun v71 =>
 S.gd v66 true (fun k => k v1) fun v72 =>
 S.gd v66 true (CF Tryd.prog 8 [v71, v72]) fun v73 =>
 S.gd v66 true (S.bin .eql v73 (I 14)) fun v74 =>
 S.pick v66 v74 (B false) fun v75 =>
 S.gd v75 true (fun k => k v22) fun v77 =>
 S.gd v75 true (S.nc v77) fun v78 =>
 S.gd v75 true (S.fad v78 1) fun v79 =>
 S.gd v75 true (S.ld v79) fun v80 =>
 S.gd v75 true (CF Tryd.prog 14 [v80]) fun v81 =>
 S.gd v75 true (S.bin .eql v81 (I 14)) fun v82 =>
 S.pick v75 v82 (B false) fun v83 =>
 S.gd v83 true (fun k => k v22) fun v85 =>
 S.gd v83 true (S.nc v85) fun v86 =>
 S.gd v83 true (S.fad v86 1) fun v87 =>
 S.gd v83 true (S.ld v87) fun v88 =>
 S.gd v83 true (CF Tryd.prog 15 [v88, (.slice none 0 0)]) fun v89 =>
 S.gd v83 true (S.bin .eql v89 (I 14)) fun v90 =>
 S.pick v83 v90 (B false) fun v91 =>
 K v91)
theorem e4 [Amb] (v0 v1 : Value) (K : Value → WT) : s4 v0 v1 K = shal Tryd.prog Tryd.f4 .p a4 [v0, v1] K := by kernel_rfl
theorem c4 [Amb] {v0 v1 : Value} {K : Value → WT} {w : World} (h : s4 v0 v1 K w) : CF Tryd.prog 4 [v0, v1] K w := shal_sound Tryd.func4 (e4 v0 v1 K ▸ h)
def a5 : Ann := .seq (.z) (.seq (.z) (.seq (.seq (.z) (.cond (.seq (.z) (.z)) (.z))) (.seq (.seq (.z) (.blk (.loop [0, 1, 5, 7, 9] (.seq (.join [0, 1, 5, 7, 9, 32] (.z) (.cond (.z) (.z))) (.seq (.blk (.seq (.seq (.z) (.blk (.loop [0, 1, 5, 7, 9, 10] (.seq (.join [0, 1, 5, 7, 9, 10, 45] (.z) (.cond (.z) (.z))) (.seq (.blk (.join [0, 1, 5, 7, 9, 10, 67] (.z) (.cond (.seq (.z) (.z)) (.z)))) (.z)))))) (.seq (.draw [0, 1, 2, 3, 4, 5, 6, 7, 8]) (.seq (.draw [0, 1, 2, 3, 4, 5, 6, 7, 8, 9, 10, 11, 12, 13, 14, 15, 16, 17, 18, 19]) (.seq (.join [0, 1, 5, 7, 9, 11, 111] (.z) (.cond (.seq (.z) (.z)) (.z))) (.seq (.z) (.seq (.z) (.seq (.z) (.join [0, 1, 5, 7, 9, 11] (.seq (.z) (.cond (.seq (.z) (.seq (.z) (.seq (.draw [0, 1, 2, 3, 4, 5]) (.seq (.draw [0, 1, 2, 3, 4, 5, 6, 7, 8, 9, 10, 11, 12, 13, 14, 15, 16, 17, 18, 19]) (.join [0, 1, 5, 7, 9, 11, 183] (.draw [0, 1, 2, 3, 4, 5, 6, 7, 9, 10, 11, 12, 8, 13, 14, 15]) (.cond (.seq (.z) (.z)) (.z))))))) (.z))) (.seq (.seq (.z) (.cond (.seq (.z) (.z)) (.z))) (.z))))))))))) (.z)))))) (.seq (.draw [0, 1, 2, 3, 4, 5, 7, 8, 9, 10, 6, 11, 12, 13]) (.z)))))
def s5 [Amb] (v0 v1 v2 : Value) (K : Value → WT) : WT :=
 S.box 47 v2 fun v5 =>
 CF Tryd.prog 6 [] fun v14 =>
 S.ext v14 0 fun v15 =>
 S.ext v14 1 fun v16 =>
 S.not1 v16 fun v18 =>
 S.cond v18 (
 K (B false)) (
 S.loop 5 (fun K0 => fun v0' v1' v5' v7 v9 => S.fa fun _ =>
 S.join 6 (fun K1 =>
 S.len v0' fun v21 =>
 S.bin .lss v9 v21 fun v22 =>
 S.gd v22 true (fun k => k v9) fun v24 =>
 S.gd v22 true (fun k => k v1') fun v25 =>
 S.gd v22 true (S.len v25) fun v26 =>
 S.gd v22 true (S.bin .lss v24 v26) fun v27 =>
 S.pick v22 v27 (B false) fun v28 =>
 S.gd v28 true (fun k => k v9) fun v30 =>
 S.gd v28 true (S.bin .lss v30 (I 6)) fun v31 =>
 S.pick v28 v31 (B false) fun v32 =>
 K1 v0' v1' v5' v7 v9 v32)
 <| fun v0'2 v1'2 v5'2 v7' v9' v32' => S.fa fun _ =>
 S.cond v32' (
 S.loop 6 (fun K2 => fun v0'3 v1'3 v5'3 v7'2 v9'2 v10 => S.fa fun _ =>
 S.join 7 (fun K3 =>
 S.ixS 1 v0'3 v9'2 fun v38 =>
 S.ld v38 fun v39 =>
 S.len v39 fun v40 =>
 S.bin .lss v10 v40 fun v41 =>
 S.gd v41 true (fun k => k v10) fun v43 =>
 S.gd v41 true (S.bin .lss v43 (I 30)) fun v44 =>
 S.pick v41 v44 (B false) fun v45 =>
 K3 v0'3 v1'3 v5'3 v7'2 v9'2 v10 v45)
 <| fun v0'4 v1'4 v5'4 v7'3 v9'3 v10' v45' => S.fa fun _ =>
 S.cond v45' (
 S.join 7 (fun K4 =>
 S.ixS 1 v0'4 v9'3 fun v50 =>
 S.ld v50 fun v51 =>
 S.ixS 7 v51 v10' fun v53 =>
 S.ldN 7 v53 fun v54 =>
 CF Tryd.prog 18 [v54] fun v55 =>
 S.gd v55 true (fun k => k v7'3) fun v57 =>
 S.gd v55 true (fun k => k v0'4) fun v58 =>
 S.gd v55 true (fun k => k v9'3) fun v59 =>
 S.gd v55 true (S.ixS 1 v58 v59) fun v60 =>
 S.gd v55 true (S.ld v60) fun v61 =>
 S.gd v55 true (fun k => k v10') fun v62 =>
 S.gd v55 true (S.ixS 7 v61 v62) fun v63 =>
 S.gd v55 true (S.ldN 7 v63) fun v64 =>
 S.gd v55 true (CF Tryd.prog 19 [v57, v64]) fun v65 =>
 S.gd v55 true (S.not1 v65) fun v66 =>
 S.pick v55 v66 (B false) fun v67 =>
 K4 v0'4 v1'4 v5'4 v7'3 v9'3 v10' v67)
 <| fun v0'5 v1'5 v5'5 v7'4 v9'4 v10'2 v67' => S.fa fun _ =>
 S.cond v67' (
 K (B false)) (
 S.bin .add v10'2 (I 1) fun v47 =>
 K2 v0'5 v1'5 v5'5 v7'4 v9'4 v47)) (
 S.dr <|
 S.nc v7'3 fun v69 =>
 S.fad v69 0 fun v70 =>
 S.ld v70 fun v71 =>
 S.ixS 3 v1'4 v9'3 fun v74 =>
 S.ldN 3 v74 fun v75 =>
 CF Tryd.prog 13 [v71, v75] fun v76 =>
 S.dr <|
 S.nc v7'3 fun v79 =>
 S.fad v79 0 fun v80 =>
 S.ld v80 fun v81 =>
 S.nc v7'3 fun v83 =>
 S.fad v83 6 fun v84 =>
 S.ixA 2 2 v84 (I 0) fun v85 =>
 S.ldN 2 v85 fun v86 =>
 S.nc v7'3 fun v88 =>
 S.fad v88 6 fun v89 =>
 S.ixA 2 2 v89 (I 1) fun v90 =>
 S.ldN 2 v90 fun v91 =>
 CF Tryd.prog 12 [v81, (I 0), v86, v91] fun v92 =>
 S.ext v92 0 fun v93 =>
 S.ext v92 1 fun v94 =>
 S.join 7 (fun K5 =>
 S.bin .neq v94 (I 0) fun v96 =>
 S.gd v96 false (fun k => k v93) fun v98 =>
 S.gd v96 false (S.eqv Tryd.prog .eql 29 true v98 (.pointer none)) fun v99 =>
 S.pick v96 (B true) v99 fun v100 =>
 S.gd v100 false (fun k => k v93) fun v102 =>
 S.gd v100 false (CF Tryd.prog 16 [v102]) fun v103 =>
 S.pick v100 (B true) v103 fun v104 =>
 S.gd v104 false (fun k => k v7'3) fun v106 =>
 S.gd v104 false (fun k => k v93) fun v107 =>
 S.gd v104 false (CF Tryd.prog 17 [v107]) fun v108 =>
 S.gd v104 false (CF Tryd.prog 20 [v106, v108]) fun v109 =>
 S.gd v104 false (S.not1 v109) fun v110 =>
 S.pick v104 (B true) v110 fun v111 =>
 K5 v0'4 v1'4 v5'4 v7'3 v9'3 v93 v111)
 <| fun v0'6 v1'6 v5'6 v7'5 v9'5 v11 v111' => S.fa fun _ =>
 S.cond v111' (
 K (B false)) (
 CF Tryd.prog 17 [v11] fun v114 =>
 S.nc v7'5 fun v115 =>
 S.fad v115 2 fun v116 =>
 S.st 1 v116 v114 fun _ =>
 S.nc v7'5 fun v119 =>
 S.fad v119 2 fun v120 =>
 S.ld v120 fun v121 =>
 S.len v121 fun v122 =>
 S.nc v7'5 fun v123 =>
 S.fad v123 3 fun v124 =>
 S.st 1 v124 v122 fun _ =>
 S.nc v7'5 fun v126 =>
 S.fad v126 5 fun v127 =>
 S.st 1 v127 (B false) fun _ =>
 S.join 6 (fun K6 =>
 S.bin .rem v9'5 (I 2) fun v129 =>
 S.bin .eql v129 (I 1) fun v130 =>
 S.cond v130 (
 S.nc v7'5 fun v132 =>
 S.fad v132 0 fun v133 =>
 S.ld v133 fun v134 =>
 S.bin .add (I 1) v9'5 fun v136 =>
 CF Tryd.prog 21 [v134, v136] fun v137 =>
 S.nc v7'5 fun v140 =>
 S.fad v140 2 fun v141 =>
 S.ld v141 fun v142 =>
 CF Tryd.prog 15 [v11, v142] fun v143 =>
 S.dr <|
 S.nc v7'5 fun v145 =>
 S.fad v145 0 fun v146 =>
 S.ld v146 fun v147 =>
 S.ldN 3 v5'6 fun v148 =>
 CF Tryd.prog 13 [v147, v148] fun v149 =>
 S.dr <|
 S.nc v7'5 fun v152 =>
 S.fad v152 0 fun v153 =>
 S.ld v153 fun v154 =>
 S.nc v7'5 fun v156 =>
 S.fad v156 6 fun v157 =>
 S.ixA 2 2 v157 (I 0) fun v158 =>
 S.ldN 2 v158 fun v159 =>
 S.nc v7'5 fun v161 =>
 S.fad v161 6 fun v162 =>
 S.ixA 2 2 v162 (I 1) fun v163 =>
 S.ldN 2 v163 fun v164 =>
 CF Tryd.prog 12 [v154, (I 0), v159, v164] fun v165 =>
 S.ext v165 0 fun v166 =>
 S.ext v165 1 fun v167 =>
 S.join 7 (fun K7 =>
 S.dr <|
 S.bin .neq v167 (I 0) fun v169 =>
 S.gd v169 false (fun k => k v166) fun v171 =>
 S.gd v169 false (S.eqv Tryd.prog .eql 29 true v171 (.pointer none)) fun v172 =>
 S.pick v169 (B true) v172 fun v173 =>
 S.gd v173 false (fun k => k v166) fun v175 =>
 S.gd v173 false (fun k => k v7'5) fun v177 =>
 S.gd v173 false (S.nc v177) fun v178 =>
 S.gd v173 false (S.fad v178 2) fun v179 =>
 S.gd v173 false (S.ld v179) fun v180 =>
 S.gd v173 false (CF Tryd.prog 17 [v175]) fun v176 =>
 S.rck [S.gd v173 false (S.ld v179) (fun v' _ => v' = v180)] <|
 S.gd v173 false (CF Tryd.prog 22 [v176, v180]) fun v181 =>
 S.gd v173 false (S.not1 v181) fun v182 =>
 S.pick v173 (B true) v182 fun v183 =>
 K7 v0'6 v1'6 v5'6 v7'5 v9'5 v166 v183)
 <| fun v0'7 v1'7 v5'7 v7'6 v9'6 v11' v183' => S.fa fun _ =>
 S.cond v183' (
 K (B false)) (
 K6 v0'7 v1'7 v5'7 v7'6 v9'6 v11')) (
 K6 v0'6 v1'6 v5'6 v7'5 v9'5 v11))
 <| fun v0'8 v1'8 v5'8 v7'7 v9'7 v11'2 => S.fa fun _ =>
 S.nc v7'7 fun v186 =>
 S.fad v186 2 fun v187 =>
 S.ld v187 fun v188 =>
 CF Tryd.prog 15 [v11'2, v188] fun v189 =>
 S.bin .neq v189 (I 0) fun v190 =>
 S.cond v190 (
 K (B false)) (
 S.nc v7'7 fun v193 =>
 S.fad v193 1 fun v194 =>
 S.st 1 v194 v11'2 fun _ =>
 S.bin .add v9'7 (I 1) fun v34 =>
 K0 v0'8 v1'8 v5'8 v7'7 v34))))
 [v0'2, v1'2, v5'2, v7', v9', (I 0)]) (
 S.dr <|
 CF Tryd.prog 9 [] fun v195 =>
 S.gd v195 true (fun k => k v7') fun v197 =>
 S.gd v195 true (S.nc v197) fun v198 =>
 S.gd v195 true (S.fad v198 1) fun v199 =>
 S.gd v195 true (S.ld v199) fun v200 =>
 S.gd v195 true (fun k => k v7') fun v202 =>
 S.gd v195 true (S.nc v202) fun v203 =>
 S.gd v195 true (S.fad v203 2) fun v204 =>
 S.gd v195 true (S.ld v204) fun v205 =>
 S.gd v195 true (CF Tryd.prog 17 [v200]) fun v201 =>
 S.rck [S.gd v195 true (S.ld v204) (fun v' _ => v' = v205)] <|
 S.gd v195 true (CF Tryd.prog 22 [v201, v205]) fun v206 =>
 S.pick v195 v206 (B false) fun v207 =>
 K v207))
 [v0, v1, v5, v15, (I 0)])
theorem e5 [Amb] (v0 v1 v2 : Value) (K : Value → WT) : s5 v0 v1 v2 K = shal Tryd.prog Tryd.f5 .p a5 [v0, v1, v2] K := by kernel_rfl
theorem c5 [Amb] {v0 v1 v2 : Value} {K : Value → WT} {w : World} (h : s5 v0 v1 v2 K w) : CF Tryd.prog 5 [v0, v1, v2] K w := shal_sound Tryd.func5 (e5 v0 v1 v2 K ▸ h)
def a6 : Ann := .seq (.z) (.seq (.z) (.seq (.join [2, 16] (.z) (.cond (.seq (.z) (.z)) (.z))) (.seq (.z) (.seq (.draw [0, 1, 2, 3, 4, 5, 6, 7, 8, 9, 10, 11, 12, 13, 14, 15, 16]) (.seq (.z) (.seq (.z) (.z)))))))
def s6 [Amb] (K : Value → WT) : WT :=
 CF Tryd.prog 23 [(I 82)] fun v8 =>
 S.ext v8 0 fun v9 =>
 S.ext v8 1 fun v10 =>
 S.join 2 (fun K0 =>
 S.bin .neq v10 (I 0) fun v12 =>
 S.gd v12 false (fun k => k v9) fun v14 =>
 S.gd v12 false (S.eqv Tryd.prog .eql 28 true v14 (.pointer none)) fun v15 =>
 S.pick v12 (B true) v15 fun v16 =>
 K0 v9 v16)
 <| fun d_2 v16' => S.fa fun _ =>
 S.cond v16' (
 K (.tuple #[(.pointer none), (B false)])) (
 V Tryd.prog (Instr.build 32 #[(0, (I 2)), (1, (I 40))]) fun v18 =>
 V Tryd.prog (Instr.build 32 #[(0, (I 42)), (1, (I 40))]) fun v19 =>
 V Tryd.prog (Instr.build 33 #[(0, v18), (1, v19)]) fun v20 =>
 V Tryd.prog (Instr.build 35 #[(0, d_2), (6, v20)]) fun v21 =>
 S.box 35 v21 fun v22 =>
 S.dr <|
 S.nc v22 fun v26 =>
 S.fad v26 6 fun v27 =>
 S.ixA 2 2 v27 (I 0) fun v28 =>
 S.ldN 2 v28 fun v29 =>
 S.nc v22 fun v31 =>
 S.fad v31 6 fun v32 =>
 S.ixA 2 2 v32 (I 1) fun v33 =>
 S.ldN 2 v33 fun v34 =>
 CF Tryd.prog 12 [d_2, (I 0), v29, v34] fun v35 =>
 S.ext v35 0 fun v36 =>
 S.ext v35 1 fun v37 =>
 S.nc v22 fun v40 =>
 S.fad v40 1 fun v41 =>
 S.st 1 v41 v36 fun _ =>
 S.bin .eql v37 (I 0) fun v44 =>
 S.gd v44 true (fun k => k v36) fun v46 =>
 S.gd v44 true (S.eqv Tryd.prog .neq 29 true v46 (.pointer none)) fun v47 =>
 S.pick v44 v47 (B false) fun v48 =>
 K (.tuple #[v22, v48]))
theorem e6 [Amb] (K : Value → WT) : s6  K = shal Tryd.prog Tryd.f6 .p a6 [] K := by kernel_rfl
theorem c6 [Amb] {K : Value → WT} {w : World} (h : s6  K w) : CF Tryd.prog 6 [] K w := shal_sound Tryd.func6 (e6  K ▸ h)
def a7 : Ann := .seq (.z) (.seq (.seq (.z) (.cond (.seq (.z) (.z)) (.z))) (.seq (.z) (.z)))
def s7 [Amb] (n_0 : Value) (K : Value → WT) : WT :=
 S.bin .lss n_0 (I 1) fun v4 =>
 S.cond v4 (
 K (I 0)) (
 S.bin .sub n_0 (I 1) fun v6 =>
 S.bin .quo v6 (I 108) fun v7 =>
 S.bin .add v7 (I 1) fun v8 =>
 K v8)
theorem e7 [Amb] (n_0 : Value) (K : Value → WT) : s7 n_0 K = shal Tryd.prog Tryd.f7 .p a7 [n_0] K := by kernel_rfl
theorem c7 [Amb] {n_0 : Value} {K : Value → WT} {w : World} (h : s7 n_0 K w) : CF Tryd.prog 7 [n_0] K w := shal_sound Tryd.func7 (e7 n_0 K ▸ h)
def a8 : Ann := .seq (.z) (.seq (.seq (.z) (.seq (.z) (.cond (.seq (.z) (.z)) (.z)))) (.seq (.seq (.z) (.cond (.seq (.z) (.z)) (.z))) (.seq (.seq (.z) (.seq (.z) (.cond (.seq (.z) (.z)) (.z)))) (.seq (.z) (.seq (.seq (.z) (.cond (.seq (.z) (.z)) (.z))) (.seq (.seq (.draw [0, 1, 2, 3, 4, 5, 6, 7, 8, 9, 10, 11, 12, 13, 14, 15, 16, 17, 18, 19, 20]) (.seq (.z) (.cond (.seq (.z) (.z)) (.z)))) (.seq (.z) (.seq (.z) (.seq (.z) (.z))))))))))
def s8 [Amb] (v0 v1 : Value) (K : Value → WT) : WT :=
 CF Tryd.prog 24 [v0] fun v10 =>
 S.bin .neq v10 (I 0) fun v12 =>
 S.cond v12 (
 K v10) (
 S.nc v0 fun v15 =>
 S.fad v15 11 fun v16 =>
 S.ld v16 fun v17 =>
 S.not1 v17 fun v18 =>
 S.cond v18 (
 K (I 12)) (
 CF Tryd.prog 25 [v1] fun v20 =>
 S.bin .neq v20 (I 0) fun v22 =>
 S.cond v22 (
 K v20) (
 S.len v1 fun v25 =>
 CF Tryd.prog 7 [v25] fun v26 =>
 CF Tryd.prog 11 [v0] fun v29 =>
 S.bin .gtr v26 v29 fun v30 =>
 S.cond v30 (
 K (I 8)) (
 S.dr <|
 S.nc v0 fun v34 =>
 S.fad v34 7 fun v35 =>
 S.ld v35 fun v36 =>
 S.nc v0 fun v37 =>
 S.fad v37 3 fun v38 =>
 S.ixA 2 2 v38 v36 fun v39 =>
 S.ldN 2 v39 fun v40 =>
 S.nc v0 fun v42 =>
 S.fad v42 8 fun v43 =>
 S.ld v43 fun v44 =>
 S.nc v0 fun v46 =>
 S.fad v46 9 fun v47 =>
 S.ld v47 fun v48 =>
 CF Tryd.prog 26 [v0, v40, v44, v48, v1] fun v50 =>
 S.bin .neq v50 (I 0) fun v52 =>
 S.cond v52 (
 K v50) (
 S.nc v0 fun v55 =>
 S.fad v55 9 fun v56 =>
 S.ld v56 fun v57 =>
 S.bin .add v57 v26 fun v59 =>
 S.nc v0 fun v60 =>
 S.fad v60 9 fun v61 =>
 S.st 1 v61 v59 fun _ =>
 S.nc v0 fun v64 =>
 S.fad v64 10 fun v65 =>
 S.ld v65 fun v66 =>
 CF Tryd.prog 27 [v66] fun v67 =>
 CF Tryd.prog 28 [v1] fun v69 =>
 V Tryd.prog (Instr.buildSlice 30 1 #[(0, v69)]) fun v70 =>
 V Tryd.prog (Builtin.append_ #[30, 30] 30 #[v67, v70]) fun v71 =>
 S.nc v0 fun v72 =>
 S.fad v72 10 fun v73 =>
 S.st 1 v73 v71 fun _ =>
 K (I 0))))))
theorem e8 [Amb] (v0 v1 : Value) (K : Value → WT) : s8 v0 v1 K = shal Tryd.prog Tryd.f8 .p a8 [v0, v1] K := by kernel_rfl
theorem c8 [Amb] {v0 v1 : Value} {K : Value → WT} {w : World} (h : s8 v0 v1 K w) : CF Tryd.prog 8 [v0, v1] K w := shal_sound Tryd.func8 (e8 v0 v1 K ▸ h)
def a9 : Ann := .seq (.z) (.seq (.z) (.seq (.join [1, 15] (.z) (.cond (.seq (.z) (.z)) (.z))) (.seq (.z) (.seq (.join [3, 45] (.z) (.cond (.seq (.z) (.z)) (.z))) (.seq (.z) (.seq (.z) (.z)))))))
def s9 [Amb] (K : Value → WT) : WT :=
 CF Tryd.prog 23 [(I 20)] fun v7 =>
 S.ext v7 0 fun v8 =>
 S.ext v7 1 fun v9 =>
 S.join 2 (fun K0 =>
 S.bin .neq v9 (I 0) fun v11 =>
 S.gd v11 false (fun k => k v8) fun v13 =>
 S.gd v11 false (S.eqv Tryd.prog .eql 28 true v13 (.pointer none)) fun v14 =>
 S.pick v11 (B true) v14 fun v15 =>
 K0 v8 v15)
 <| fun v1 v15' => S.fa fun _ =>
 S.cond v15' (
 K (B false)) (
 V Tryd.prog (Instr.build 32 #[(0, (I 2)), (1, (I 9))]) fun v18 =>
 V Tryd.prog (Instr.build 32 #[(0, (I 11)), (1, (I 9))]) fun v19 =>
 CF Tryd.prog 12 [v1, (I 0), v18, v19] fun v20 =>
 S.ext v20 0 fun v21 =>
 S.ext v20 1 fun v22 =>
 S.join 2 (fun K1 =>
 S.bin .neq v22 (I 0) fun v24 =>
 S.gd v24 false (fun k => k v21) fun v26 =>
 S.gd v24 false (S.eqv Tryd.prog .eql 29 true v26 (.pointer none)) fun v27 =>
 S.pick v24 (B true) v27 fun v28 =>
 S.gd v28 false (fun k => k v21) fun v30 =>
 S.gd v28 false (CF Tryd.prog 16 [v30]) fun v31 =>
 S.gd v28 false (S.not1 v31) fun v32 =>
 S.pick v28 (B true) v32 fun v33 =>
 S.gd v33 false (fun k => k v21) fun v35 =>
 S.gd v33 false (CF Tryd.prog 11 [v35]) fun v36 =>
 S.gd v33 false (S.bin .neq v36 (I 9)) fun v37 =>
 S.pick v33 (B true) v37 fun v38 =>
 S.gd v38 false (fun k => k v21) fun v40 =>
 S.gd v38 false (V Tryd.prog (Instr.buildSlice 22 1 #[(0, (.int .u8 97))])) fun v41 =>
 S.gd v38 false (V Tryd.prog (convert 22 22 v41)) fun v42 =>
 S.gd v38 false (CF Tryd.prog 8 [v40, v42]) fun v43 =>
 S.gd v38 false (S.bin .neq v43 (I 0)) fun v44 =>
 S.pick v38 (B true) v44 fun v45 =>
 K1 v21 v45)
 <| fun v3 v45' => S.fa fun _ =>
 S.cond v45' (
 K (B false)) (
 CF Tryd.prog 17 [v3] fun v47 =>
 S.len v47 fun v49 =>
 S.bin .eql v49 (I 1) fun v50 =>
 S.gd v50 true (fun k => k v47) fun v52 =>
 S.gd v50 true (S.ixS 1 v52 (I 0)) fun v53 =>
 S.gd v50 true (S.ld v53) fun v54 =>
 S.gd v50 true (S.b2s v54) fun v55 =>
 S.gd v50 true (S.sbin .eql v55 (.string ⟨#[97]⟩)) fun v56 =>
 S.pick v50 v56 (B false) fun v57 =>
 S.gd v57 true (fun k => k v3) fun v59 =>
 S.gd v57 true (CF Tryd.prog 11 [v59]) fun v60 =>
 S.gd v57 true (S.bin .eql v60 (I 8)) fun v61 =>
 S.pick v57 v61 (B false) fun v62 =>
 S.gd v62 true (CF Tryd.prog 7 [(I 108)]) fun v64 =>
 S.gd v62 true (S.bin .eql v64 (I 1)) fun v65 =>
 S.pick v62 v65 (B false) fun v66 =>
 S.gd v66 true (CF Tryd.prog 7 [(I 109)]) fun v68 =>
 S.gd v66 true (S.bin .eql v68 (I 2)) fun v69 =>
 S.pick v66 v69 (B false) fun v70 =>
 K v70))
theorem e9 [Amb] (K : Value → WT) : s9  K = shal Tryd.prog Tryd.f9 .p a9 [] K := by kernel_rfl
theorem c9 [Amb] {K : Value → WT} {w : World} (h : s9  K w) : CF Tryd.prog 9 [] K w := shal_sound Tryd.func9 (e9  K ▸ h)
def a10 : Ann := .seq (.z) (.seq (.z) (.seq (.blk (.loop [0, 3] (.seq (.seq (.z) (.cond (.z) (.z))) (.blk (.seq (.z) (.z)))))) (.seq (.z) (.z))))
def s10 [Amb] (n_0 : Value) (K : Value → WT) : WT :=
 S.loop 2 (fun K0 => fun n_0' out_3 => S.fa fun _ =>
 S.bin .gtr n_0' (I 0) fun v5 =>
 S.cond v5 (
 S.bin .add out_3 (I 1) fun v7 =>
 S.bin .sub n_0' (I 108) fun v9 =>
 K0 v9 v7) (
 K out_3))
 [n_0, (I 0)]
theorem e10 [Amb] (n_0 : Value) (K : Value → WT) : s10 n_0 K = shal Tryd.prog Tryd.f10 .p a10 [n_0] K := by kernel_rfl
def a11 : Ann := .seq (.z) (.seq (.seq (.z) (.cond (.seq (.z) (.z)) (.z))) (.seq (.draw [0, 1, 2, 3, 4, 5, 6, 7, 8, 9, 10, 11, 12, 13, 14, 15]) (.z)))
def s11 [Amb] (l_0 : Value) (K : Value → WT) : WT :=
 S.eqv Tryd.prog .eql 29 true l_0 (.pointer none) fun v4 =>
 S.cond v4 (
 K (I 0)) (
 S.dr <|
 S.nc l_0 fun v7 =>
 S.fad v7 7 fun v8 =>
 S.ld v8 fun v9 =>
 S.nc l_0 fun v10 =>
 S.fad v10 3 fun v11 =>
 S.ixA 2 2 v11 v9 fun v12 =>
 S.fad v12 1 fun v13 =>
 S.ld v13 fun v14 =>
 S.nc l_0 fun v16 =>
 S.fad v16 9 fun v17 =>
 S.ld v17 fun v18 =>
 S.bin .sub v14 v18 fun v19 =>
 K v19)
theorem e11 [Amb] (l_0 : Value) (K : Value → WT) : s11 l_0 K = shal Tryd.prog Tryd.f11 .p a11 [l_0] K := by kernel_rfl
theorem c11 [Amb] {l_0 : Value} {K : Value → WT} {w : World} (h : s11 l_0 K w) : CF Tryd.prog 11 [l_0] K w := shal_sound Tryd.func11 (e11 l_0 K ▸ h)
def a12 : Ann := .seq (.z) (.seq (.z) (.seq (.blk (.seq (.z) (.cond (.seq (.z) (.z)) (.seq (.z) (.cond (.seq (.z) (.z)) (.z)))))) (.seq (.drawT 10 (.one 0 (.one 1 (.one 3 (.one 4 (.one 5 (.two 2 (.one 6 (.one 7 (.one 8 (.one 9 .nil)))) 6 (.one 2 (.one 7 (.one 8 (.one 9 .nil))))))))))) (.seq (.z) (.seq (.blk (.seq (.z) (.cond (.seq (.z) (.z)) (.seq (.z) (.cond (.seq (.z) (.z)) (.z)))))) (.seq (.join [12, 13, 66] (.z) (.cond (.seq (.z) (.z)) (.z))) (.seq (.z) (.seq (.join [12, 13, 14, 88] (.z) (.cond (.seq (.z) (.z)) (.z))) (.seq (.z) (.seq (.z) (.seq (.z) (.z))))))))))))
def s12 [Amb] (v0 v1 v2 v3 : Value) (K : Value → WT) : WT :=
 S.box 32 v2 fun v6 =>
 S.box 32 v3 fun v7 =>
 CF Tryd.prog 29 [v0, v1] fun v19 =>
 S.ext v19 0 fun v20 =>
 S.ext v19 1 fun v21 =>
 S.bin .neq v21 (I 0) fun v24 =>
 S.cond v24 (
 K (.tuple #[(.pointer none), v21])) (
 S.ldN 2 v6 fun v29 =>
 S.ldN 2 v7 fun v30 =>
 CF Tryd.prog 30 [v0, v1, v29, v30] fun v31 =>
 S.not1 v31 fun v32 =>
 S.cond v32 (
 K (.tuple #[(.pointer none), (I 2)])) (
 S.dr <|
 S.ldN 2 v6 fun v37 =>
 S.ldN 2 v7 fun v38 =>
 S.both (
 CF Tryd.prog 31 [v0] fun v35 =>
 S.rck [S.ldN 2 v7 (fun v' _ => v' = v38), S.ldN 2 v6 (fun v' _ => v' = v37)] <|
 V Tryd.prog (Instr.build 33 #[(0, v37), (1, v38)]) fun v39 =>
 V Tryd.prog (Instr.build 66 #[(0, v0), (1, v35), (2, v20), (3, v39)]) fun v40 =>
 S.box 66 v40 fun v41 =>
 CF Tryd.prog 32 [v20] fun v44 =>
 S.ext v44 0 fun v45 =>
 S.ext v44 1 fun v46 =>
 S.bin .eql v46 (I 9) fun v49 =>
 S.cond v49 (
 CF Tryd.prog 33 [v41] fun v51 =>
 S.ext v51 0 fun v52 =>
 S.ext v51 1 fun v53 =>
 K (.tuple #[v52, v53])) (
 S.bin .neq v46 (I 0) fun v56 =>
 S.cond v56 (
 K (.tuple #[(.pointer none), v46])) (
 S.join 3 (fun K0 =>
 S.len v45 fun v59 =>
 S.bin .lss v59 (I 2) fun v60 =>
 S.gd v60 false (fun k => k v45) fun v62 =>
 S.gd v60 false (S.ixS 1 v62 (I 0)) fun v63 =>
 S.gd v60 false (S.ld v63) fun v64 =>
 S.gd v60 false (S.bin .gtr v64 (.int .u8 1)) fun v65 =>
 S.pick v60 (B true) v65 fun v66 =>
 K0 v41 v45 v66)
 <| fun v12 v13 v66' => S.fa fun _ =>
 S.cond v66' (
 K (.tuple #[(.pointer none), (I 13)])) (
 CF Tryd.prog 34 [v13, (I 1)] fun v69 =>
 S.ext v69 0 fun v70 =>
 S.ext v69 1 fun v71 =>
 S.ext v69 2 fun v72 =>
 S.join 4 (fun K1 =>
 S.bin .neq v72 (I 0) fun v74 =>
 S.gd v74 false (fun k => k v71) fun v76 =>
 S.gd v74 false (fun k => k v13) fun v77 =>
 S.gd v74 false (S.len v77) fun v78 =>
 S.gd v74 false (S.bin .neq v76 v78) fun v79 =>
 S.pick v74 (B true) v79 fun v80 =>
 S.gd v80 false (fun k => k v70) fun v82 =>
 S.gd v80 false (S.bin .lss v82 (I 1)) fun v83 =>
 S.pick v80 (B true) v83 fun v84 =>
 S.gd v84 false (fun k => k v70) fun v86 =>
 S.gd v84 false (S.bin .gtr v86 (I 281474976710655)) fun v87 =>
 S.pick v84 (B true) v87 fun v88 =>
 K1 v12 v13 v70 v88)
 <| fun v12' v13' v14 v88' => S.fa fun _ =>
 S.cond v88' (
 K (.tuple #[(.pointer none), (I 13)])) (
 S.ixS 1 v13' (I 0) fun v92 =>
 S.ld v92 fun v93 =>
 S.cvt .i64 v93 fun v94 =>
 S.nc v12' fun v96 =>
 S.fad v96 7 fun v97 =>
 S.st 1 v97 v94 fun _ =>
 S.nc v12' fun v98 =>
 S.fad v98 8 fun v99 =>
 S.st 1 v99 v14 fun _ =>
 CF Tryd.prog 35 [v12'] fun v101 =>
 K (.tuple #[v12', (I 0)])))))) (
 V Tryd.prog (Instr.build 33 #[(0, v37), (1, v38)]) fun v39' =>
 CF Tryd.prog 31 [v0] fun v35' =>
 V Tryd.prog (Instr.build 66 #[(0, v0), (1, v35'), (2, v20), (3, v39')]) fun v40' =>
 S.box 66 v40' fun v41' =>
 CF Tryd.prog 32 [v20] fun v44' =>
 S.ext v44' 0 fun v45' =>
 S.ext v44' 1 fun v46' =>
 S.bin .eql v46' (I 9) fun v49' =>
 S.cond v49' (
 CF Tryd.prog 33 [v41'] fun v51' =>
 S.ext v51' 0 fun v52' =>
 S.ext v51' 1 fun v53' =>
 K (.tuple #[v52', v53'])) (
 S.bin .neq v46' (I 0) fun v56' =>
 S.cond v56' (
 K (.tuple #[(.pointer none), v46'])) (
 S.join 3 (fun K2 =>
 S.len v45' fun v59' =>
 S.bin .lss v59' (I 2) fun v60' =>
 S.gd v60' false (fun k => k v45') fun v62' =>
 S.gd v60' false (S.ixS 1 v62' (I 0)) fun v63' =>
 S.gd v60' false (S.ld v63') fun v64' =>
 S.gd v60' false (S.bin .gtr v64' (.int .u8 1)) fun v65' =>
 S.pick v60' (B true) v65' fun v66'2 =>
 K2 v41' v45' v66'2)
 <| fun v12'2 v13'2 v66'3 => S.fa fun _ =>
 S.cond v66'3 (
 K (.tuple #[(.pointer none), (I 13)])) (
 CF Tryd.prog 34 [v13'2, (I 1)] fun v69' =>
 S.ext v69' 0 fun v70' =>
 S.ext v69' 1 fun v71' =>
 S.ext v69' 2 fun v72' =>
 S.join 4 (fun K3 =>
 S.bin .neq v72' (I 0) fun v74' =>
 S.gd v74' false (fun k => k v71') fun v76' =>
 S.gd v74' false (fun k => k v13'2) fun v77' =>
 S.gd v74' false (S.len v77') fun v78' =>
 S.gd v74' false (S.bin .neq v76' v78') fun v79' =>
 S.pick v74' (B true) v79' fun v80' =>
 S.gd v80' false (fun k => k v70') fun v82' =>
 S.gd v80' false (S.bin .lss v82' (I 1)) fun v83' =>
 S.pick v80' (B true) v83' fun v84' =>
 S.gd v84' false (fun k => k v70') fun v86' =>
 S.gd v84' false (S.bin .gtr v86' (I 281474976710655)) fun v87' =>
 S.pick v84' (B true) v87' fun v88'2 =>
 K3 v12'2 v13'2 v70' v88'2)
 <| fun v12'3 v13'3 v14' v88'3 => S.fa fun _ =>
 S.cond v88'3 (
 K (.tuple #[(.pointer none), (I 13)])) (
 S.ixS 1 v13'3 (I 0) fun v92' =>
 S.ld v92' fun v93' =>
 S.cvt .i64 v93' fun v94' =>
 S.nc v12'3 fun v96' =>
 S.fad v96' 7 fun v97' =>
 S.st 1 v97' v94' fun _ =>
 S.nc v12'3 fun v98' =>
 S.fad v98' 8 fun v99' =>
 S.st 1 v99' v14' fun _ =>
 CF Tryd.prog 35 [v12'3] fun v101' =>
 K (.tuple #[v12'3, (I 0)]))))))))
theorem e12 [Amb] (v0 v1 v2 v3 : Value) (K : Value → WT) : s12 v0 v1 v2 v3 K = shal Tryd.prog Tryd.f12 .p a12 [v0, v1, v2, v3] K := by kernel_rfl
theorem c12 [Amb] {v0 v1 v2 v3 : Value} {K : Value → WT} {w : World} (h : s12 v0 v1 v2 v3 K w) : CF Tryd.prog 12 [v0, v1, v2, v3] K w := shal_sound Tryd.func12 (e12 v0 v1 v2 v3 K ▸ h)
def a13 : Ann := .seq (.z) (.seq (.seq (.z) (.cond (.z) (.z))) (.seq (.seq (.z) (.blk (.loop [0, 3, 10, 11, 12] (.seq (.z) (.seq (.cond (.z) (.z)) (.seq (.blk (.seq (.z) (.join [0, 3, 5, 10, 11, 12] (.seq (.z) (.blk (.join [0, 3, 4, 5, 6, 10, 11, 12, 23] (.z) (.cond (.draw [0, 1, 2, 3, 4, 5, 6, 7, 8, 10, 11, 12, 13, 14, 15, 16, 17, 18, 19, 9, 20, 21, 22]) (.join [0, 3, 5, 6, 10, 11, 12, 60] (.z) (.cond (.z) (.z))))))) (.z)))) (.z))))))) (.z)))
def s13 [Amb] (v0 v1 : Value) (K : Value → WT) : WT :=
 S.box 47 v1 fun v3 =>
 S.eqv Tryd.prog .eql 28 true v0 (.pointer none) fun v8 =>
 S.cond v8 (
 K (.tuple #[])) (
 CF Tryd.prog 36 [v0] fun v10 =>
 S.len v10 fun v11 =>
 S.loop 5 (fun K0 => fun v0' v3' v10' v11' v12 => S.fa fun _ =>
 S.bin .lss v12 v11' fun v13 =>
 S.cond v13 (
 S.ixS 1 v10' v12 fun v15 =>
 S.ld v15 fun v16 =>
 S.join 6 (fun K1 =>
 S.nc v0' fun v18 =>
 S.fad v18 1 fun v19 =>
 S.ld v19 fun v20 =>
 S.lk (.int .i64) (.slice none 0 0) false v20 v16 fun v22 =>
 S.join 9 (fun K2 =>
 S.fad v3' 1 fun v25 =>
 S.ld v25 fun v26 =>
 S.bin .eql v12 v26 fun v27 =>
 S.gd v27 true (S.fad v3' 2) fun v29 =>
 S.gd v27 true (S.ld v29) fun v30 =>
 S.gd v27 true (S.bin .geq v30 (I 0)) fun v31 =>
 S.pick v27 v31 (B false) fun v32 =>
 S.gd v32 true (S.fad v3' 2) fun v34 =>
 S.gd v32 true (S.ld v34) fun v35 =>
 S.gd v32 true (S.bin .leq v35 (I 128)) fun v36 =>
 S.pick v32 v36 (B false) fun v37 =>
 K2 v0' v3' v12 v16 v22 v10' v11' v12 v37)
 <| fun v0'2 v3'2 v4 v5 v6 v10'2 v11'2 v12' v23 => S.fa fun _ =>
 S.cond v23 (
 S.dr <|
 S.nc v0'2 fun v39 =>
 S.fad v39 0 fun v40 =>
 S.ld v40 fun v41 =>
 S.fad v3'2 2 fun v44 =>
 S.ld v44 fun v45 =>
 S.slc 1 v6 none (some v45) none fun v46 =>
 S.nc v0'2 fun v49 =>
 S.fad v49 0 fun v50 =>
 S.ld v50 fun v51 =>
 S.ixS 1 v51 v5 fun v53 =>
 S.ld v53 fun v54 =>
 S.fad v3'2 2 fun v55 =>
 S.ld v55 fun v56 =>
 S.slc 1 v54 (some v56) none none fun v57 =>
 CF Tryd.prog 28 [v46] fun v47 =>
 S.rck [S.ld v55 (fun v' _ => v' = v56), S.ld v53 (fun v' _ => v' = v54), S.ld v50 (fun v' _ => v' = v51), S.ld v40 (fun v' _ => v' = v41)] <|
 V Tryd.prog (Builtin.append_ #[22, 22] 22 #[v47, v57]) fun v58 =>
 S.rck [S.ld v40 (fun v' _ => v' = v41)] <|
 S.ixS 1 v41 v5 fun v59 =>
 S.st 1 v59 v58 fun _ =>
 K1 v0'2 v3'2 v5 v10'2 v11'2 v12') (
 S.join 8 (fun K3 =>
 S.fad v3'2 0 fun v62 =>
 S.ld v62 fun v63 =>
 S.len v63 fun v64 =>
 S.bin .lss v4 v64 fun v65 =>
 S.gd v65 true (S.fad v3'2 0) fun v67 =>
 S.gd v65 true (S.ld v67) fun v68 =>
 S.gd v65 true (fun k => k v4) fun v69 =>
 S.gd v65 true (S.ixS 1 v68 v69) fun v70 =>
 S.gd v65 true (S.ld v70) fun v71 =>
 S.pick v65 v71 (B false) fun v72 =>
 K3 v0'2 v3'2 v5 v6 v10'2 v11'2 v12' v72)
 <| fun v0'3 v3'3 v5' v6' v10'3 v11'3 v12'2 v60 => S.fa fun _ =>
 S.cond v60 (
 S.nc v0'3 fun v74 =>
 S.fad v74 0 fun v75 =>
 S.ld v75 fun v76 =>
 S.ixS 1 v76 v5' fun v79 =>
 S.st 1 v79 v6' fun _ =>
 K1 v0'3 v3'3 v5' v10'3 v11'3 v12'2) (
 K1 v0'3 v3'3 v5' v10'3 v11'3 v12'2)))
 <| fun v0'4 v3'4 v5'2 v10'4 v11'4 v12'3 => S.fa fun _ =>
 S.nc v0'4 fun v81 =>
 S.fad v81 1 fun v82 =>
 S.ld v82 fun v83 =>
 V Tryd.prog (Builtin.delete_ #[80, 3] 0 #[v83, v5'2]) fun _ =>
 S.bin .add v12'3 (I 1) fun v85 =>
 K0 v0'4 v3'4 v10'4 v11'4 v85) (
 S.nc v0' fun v90 =>
 S.fad v90 4 fun v91 =>
 S.ld v91 fun v92 =>
 S.bin .add v92 (I 1) fun v93 =>
 S.nc v0' fun v94 =>
 S.fad v94 2 fun v95 =>
 S.st 1 v95 (I 0) fun _ =>
 S.nc v0' fun v96 =>
 S.fad v96 3 fun v97 =>
 S.st 1 v97 (B false) fun _ =>
 S.nc v0' fun v98 =>
 S.fad v98 4 fun v99 =>
 S.st 1 v99 v93 fun _ =>
 K (.tuple #[])))
 [v0, v3, v10, v11, (I 0)])
theorem e13 [Amb] (v0 v1 : Value) (K : Value → WT) : s13 v0 v1 K = shal Tryd.prog Tryd.f13 .p a13 [v0, v1] K := by kernel_rfl
theorem c13 [Amb] {v0 v1 : Value} {K : Value → WT} {w : World} (h : s13 v0 v1 K w) : CF Tryd.prog 13 [v0, v1] K w := shal_sound Tryd.func13 (e13 v0 v1 K ▸ h)
def a14 : Ann := .seq (.z) (.seq (.z) (.seq (.z) (.blk (.join [0, 3, 8] (.seq (.z) (.cond (.z) (.z))) (.cond (.seq (.z) (.z)) (.seq (.z) (.z)))))))
def s14 [Amb] (l_0 : Value) (K : Value → WT) : WT :=
 CF Tryd.prog 24 [l_0] fun v5 =>
 S.join 3 (fun K0 =>
 S.bin .eql v5 (I 0) fun v9 =>
 S.cond v9 (
 K0 l_0 v5 v9) (
 S.bin .eql v5 (I 7) fun v10 =>
 K0 l_0 v5 v10))
 <| fun l_0' e_3 v8 => S.fa fun _ =>
 S.cond v8 (
 S.nc l_0' fun v12 =>
 S.fad v12 0 fun v13 =>
 S.ld v13 fun v14 =>
 CF Tryd.prog 37 [v14] fun v15 =>
 K v15) (
 K e_3)
theorem e14 [Amb] (l_0 : Value) (K : Value → WT) : s14 l_0 K = shal Tryd.prog Tryd.f14 .p a14 [l_0] K := by kernel_rfl
theorem c14 [Amb] {l_0 : Value} {K : Value → WT} {w : World} (h : s14 l_0 K w) : CF Tryd.prog 14 [l_0] K w := shal_sound Tryd.func14 (e14 l_0 K ▸ h)
def a15 : Ann := .seq (.z) (.seq (.seq (.z) (.seq (.z) (.cond (.seq (.z) (.z)) (.z)))) (.seq (.draw [0, 1, 2, 3, 4, 5, 6, 7, 8, 9, 10, 11]) (.seq (.z) (.seq (.seq (.z) (.blk (.loop [0, 1, 6, 7, 31, 32, 33] (.seq (.z) (.seq (.cond (.z) (.z)) (.seq (.blk (.seq (.z) (.seq (.seq (.z) (.seq (.z) (.cond (.seq (.z) (.z)) (.z)))) (.draw [0, 1, 2, 5, 6, 7, 3, 4, 8, 9])))) (.z))))))) (.seq (.seq (.z) (.cond (.seq (.z) (.z)) (.z))) (.seq (.z) (.seq (.z) (.seq (.z) (.seq (.seq (.z) (.blk (.loop [0, 1, 6, 11, 12, 13, 14, 15] (.seq (.join [0, 1, 6, 11, 12, 13, 14, 15, 68] (.z) (.cond (.z) (.z))) (.seq (.blk (.seq (.draw [0, 1, 2, 3, 4, 5, 6, 7, 8, 9]) (.seq (.z) (.z)))) (.z)))))) (.join [0, 11, 12, 13, 14] (.seq (.z) (.cond (.z) (.z))) (.join [0, 12, 13, 14] (.seq (.z) (.cond (.z) (.z))) (.seq (.seq (.z) (.cond (.seq (.z) (.z)) (.z))) (.seq (.z) (.seq (.z) (.z)))))))))))))))
def s15 [Amb] (v0 v1 : Value) (K : Value → WT) : WT :=
 CF Tryd.prog 24 [v0] fun v17 =>
 S.bin .neq v17 (I 0) fun v19 =>
 S.cond v19 (
 K v17) (
 S.dr <|
 S.nc v0 fun v23 =>
 S.fad v23 7 fun v24 =>
 S.ld v24 fun v25 =>
 S.bin .sub (I 1) v25 fun v26 =>
 S.nc v0 fun v27 =>
 S.fad v27 3 fun v28 =>
 S.ixA 2 2 v28 v26 fun v29 =>
 S.ldN 2 v29 fun v30 =>
 S.box 32 (.agg #[(.int .i64 0), (.int .i64 0)]) fun v6 =>
 S.rck [S.ldN 2 v29 (fun v' _ => v' = v30), S.ld v24 (fun v' _ => v' = v25)] <|
 S.st 2 v6 v30 fun _ =>
 S.len v1 fun v32 =>
 S.loop 7 (fun K0 => fun v0' v1' v6' v7 v31 v32' v33 => S.fa fun _ =>
 S.bin .lss v33 v32' fun v34 =>
 S.cond v34 (
 S.ixS 1 v31 v33 fun v35 =>
 S.ld v35 fun v36 =>
 CF Tryd.prog 25 [v36] fun v38 =>
 S.bin .neq v38 (I 0) fun v40 =>
 S.cond v40 (
 K v38) (
 S.dr <|
 S.len v36 fun v44 =>
 S.fad v6' 1 fun v47 =>
 S.ld v47 fun v48 =>
 S.bin .add v48 (I 1) fun v49 =>
 CF Tryd.prog 7 [v44] fun v45 =>
 S.rck [S.ld v47 (fun v' _ => v' = v48)] <|
 S.bin .add v7 v45 fun v46 =>
 S.mn v46 v49 fun v50 =>
 S.bin .add v33 (I 1) fun v51 =>
 K0 v0' v1' v6' v50 v31 v32' v51)) (
 S.fad v6' 1 fun v53 =>
 S.ld v53 fun v54 =>
 S.bin .gtr v7 v54 fun v55 =>
 S.cond v55 (
 K (I 8)) (
 CF Tryd.prog 38 [v0'] fun v58 =>
 S.ext v58 0 fun v59 =>
 S.ext v58 1 fun v60 =>
 S.loop 8 (fun K1 => fun v0'2 v1'2 v6'2 v11 v12 v13 v14 v15 => S.fa fun _ =>
 S.join 9 (fun K2 =>
 S.bin .eql v12 (I 0) fun v62 =>
 S.gd v62 true (fun k => k v15) fun v64 =>
 S.gd v62 true (fun k => k v1'2) fun v65 =>
 S.gd v62 true (S.len v65) fun v66 =>
 S.gd v62 true (S.bin .lss v64 v66) fun v67 =>
 S.pick v62 v67 (B false) fun v68 =>
 K2 v0'2 v1'2 v6'2 v11 v12 v13 v14 v15 v68)
 <| fun v0'3 v1'3 v6'3 v11' v12' v13' v14' v15' v68' => S.fa fun _ =>
 S.cond v68' (
 S.dr <|
 S.ldN 2 v6'3 fun v72 =>
 S.ixS 1 v1'3 v15' fun v77 =>
 S.ld v77 fun v78 =>
 CF Tryd.prog 26 [v0'3, v72, v11', v13', v78] fun v79 =>
 S.ixS 1 v1'3 v15' fun v83 =>
 S.ld v83 fun v84 =>
 S.len v84 fun v85 =>
 CF Tryd.prog 7 [v85] fun v86 =>
 S.bin .add v13' v86 fun v87 =>
 S.ixS 1 v1'3 v15' fun v91 =>
 S.ld v91 fun v92 =>
 CF Tryd.prog 28 [v92] fun v93 =>
 V Tryd.prog (Instr.buildSlice 30 1 #[(0, v93)]) fun v94 =>
 V Tryd.prog (Builtin.append_ #[30, 30] 30 #[v14', v94]) fun v95 =>
 S.bin .add v15' (I 1) fun v70 =>
 K1 v0'3 v1'3 v6'3 v11' v79 v87 v95 v70) (
 S.join 5 (fun K3 =>
 S.bin .eql v12' (I 0) fun v97 =>
 S.cond v97 (
 S.nc v0'3 fun v99 =>
 S.fad v99 0 fun v100 =>
 S.ld v100 fun v101 =>
 CF Tryd.prog 37 [v101] fun v102 =>
 K3 v0'3 v11' v102 v13' v14') (
 K3 v0'3 v11' v12' v13' v14'))
 <| fun v0'4 v11'2 v12'2 v13'2 v14'2 => S.fa fun _ =>
 S.join 4 (fun K4 =>
 S.bin .eql v12'2 (I 0) fun v104 =>
 S.cond v104 (
 S.nc v0'4 fun v107 =>
 S.fad v107 7 fun v108 =>
 S.ld v108 fun v109 =>
 S.bin .sub (I 1) v109 fun v110 =>
 CF Tryd.prog 39 [v0'4, v110, v11'2] fun v112 =>
 K4 v0'4 v112 v13'2 v14'2) (
 K4 v0'4 v12'2 v13'2 v14'2))
 <| fun v0'5 v12'3 v13'3 v14'3 => S.fa fun _ =>
 S.bin .neq v12'3 (I 0) fun v114 =>
 S.cond v114 (
 K v12'3) (
 S.nc v0'5 fun v121 =>
 S.fad v121 10 fun v122 =>
 S.st 1 v122 v14'3 fun _ =>
 S.nc v0'5 fun v123 =>
 S.fad v123 9 fun v124 =>
 S.st 1 v124 v13'3 fun _ =>
 S.nc v0'5 fun v125 =>
 S.fad v125 11 fun v126 =>
 S.st 1 v126 (B true) fun _ =>
 K (I 0))))
 [v0', v1', v6', v59, v60, (I 0), (.slice none 0 0), (I 0)])))
 [v0, v1, v6, (I 0), v1, v32, (I 0)])
theorem e15 [Amb] (v0 v1 : Value) (K : Value → WT) : s15 v0 v1 K = shal Tryd.prog Tryd.f15 .p a15 [v0, v1] K := by kernel_rfl
theorem c15 [Amb] {v0 v1 : Value} {K : Value → WT} {w : World} (h : s15 v0 v1 K w) : CF Tryd.prog 15 [v0, v1] K w := shal_sound Tryd.func15 (e15 v0 v1 K ▸ h)
def a16 : Ann := .seq (.z) (.seq (.z) (.z))
def s16 [Amb] (l_0 : Value) (K : Value → WT) : WT :=
 S.eqv Tryd.prog .neq 29 true l_0 (.pointer none) fun v4 =>
 S.gd v4 true (fun k => k l_0) fun v6 =>
 S.gd v4 true (S.nc v6) fun v7 =>
 S.gd v4 true (S.fad v7 11) fun v8 =>
 S.gd v4 true (S.ld v8) fun v9 =>
 S.pick v4 v9 (B false) fun v10 =>
 K v10
theorem e16 [Amb] (l_0 : Value) (K : Value → WT) : s16 l_0 K = shal Tryd.prog Tryd.f16 .p a16 [l_0] K := by kernel_rfl
theorem c16 [Amb] {l_0 : Value} {K : Value → WT} {w : World} (h : s16 l_0 K w) : CF Tryd.prog 16 [l_0] K w := shal_sound Tryd.func16 (e16 l_0 K ▸ h)
def a17 : Ann := .seq (.z) (.seq (.z) (.join [3] (.seq (.z) (.cond (.seq (.z) (.blk (.loop [3, 11, 12, 13] (.seq (.z) (.seq (.cond (.z) (.z)) (.seq (.blk (.seq (.z) (.z))) (.z))))))) (.z))) (.seq (.z) (.z))))
def s17 [Amb] (l_0 : Value) (K : Value → WT) : WT :=
 S.join 1 (fun K0 =>
 S.eqv Tryd.prog .neq 29 true l_0 (.pointer none) fun v7 =>
 S.cond v7 (
 S.nc l_0 fun v9 =>
 S.fad v9 10 fun v10 =>
 S.ld v10 fun v11 =>
 S.len v11 fun v12 =>
 S.loop 4 (fun K1 => fun out_3 v11' v12' v13 => S.fa fun _ =>
 S.bin .lss v13 v12' fun v14 =>
 S.cond v14 (
 S.ixS 1 v11' v13 fun v15 =>
 S.ld v15 fun v16 =>
 CF Tryd.prog 28 [v16] fun v19 =>
 V Tryd.prog (Instr.buildSlice 30 1 #[(0, v19)]) fun v20 =>
 V Tryd.prog (Builtin.append_ #[30, 30] 30 #[out_3, v20]) fun v21 =>
 S.bin .add v13 (I 1) fun v22 =>
 K1 v21 v11' v12' v22) (
 K0 out_3))
 [(.slice none 0 0), v11, v12, (I 0)]) (
 K0 (.slice none 0 0)))
 <| fun out_3' => S.fa fun _ =>
 K out_3'
theorem e17 [Amb] (l_0 : Value) (K : Value → WT) : s17 l_0 K = shal Tryd.prog Tryd.f17 .p a17 [l_0] K := by kernel_rfl
theorem c17 [Amb] {l_0 : Value} {K : Value → WT} {w : World} (h : s17 l_0 K w) : CF Tryd.prog 17 [l_0] K w := shal_sound Tryd.func17 (e17 l_0 K ▸ h)
def a18 : Ann := .seq (.z) (.seq (.z) (.seq (.seq (.z) (.blk (.loop [1, 3, 4] (.seq (.seq (.z) (.cond (.z) (.z))) (.seq (.blk (.seq (.z) (.join [1, 3, 4, 29] (.z) (.cond (.seq (.z) (.z)) (.z))))) (.z)))))) (.seq (.z) (.z))))
def s18 [Amb] (d_0 : Value) (K : Value → WT) : WT :=
 S.box 57 d_0 fun d_1 =>
 S.fad d_1 2 fun v5 =>
 S.ld v5 fun v6 =>
 S.len v6 fun v7 =>
 S.loop 3 (fun K0 => fun d_1' n_3 i_4 => S.fa fun _ =>
 S.fad d_1' 3 fun v9 =>
 S.ld v9 fun v10 =>
 S.len v10 fun v11 =>
 S.bin .lss i_4 v11 fun v12 =>
 S.cond v12 (
 S.fad d_1' 3 fun v16 =>
 S.ld v16 fun v17 =>
 S.ixS 1 v17 i_4 fun v19 =>
 S.ld v19 fun v20 =>
 S.len v20 fun v21 =>
 S.mn v21 (I 6000) fun v22 =>
 S.bin .add n_3 v22 fun v23 =>
 S.join 4 (fun K1 =>
 S.bin .gtr v23 (I 6000) fun v25 =>
 S.gd v25 false (fun k => k i_4) fun v27 =>
 S.gd v25 false (S.bin .gtr v27 (I 60)) fun v28 =>
 S.pick v25 (B true) v28 fun v29 =>
 K1 d_1' v23 i_4 v29)
 <| fun d_1'2 n_3' i_4' v29' => S.fa fun _ =>
 S.cond v29' (
 K (B false)) (
 S.bin .add i_4' (I 1) fun v14 =>
 K0 d_1'2 n_3' v14)) (
 S.bin .leq n_3 (I 6000) fun v31 =>
 K v31))
 [d_1, v7, (I 0)]
theorem e18 [Amb] (d_0 : Value) (K : Value → WT) : s18 d_0 K = shal Tryd.prog Tryd.f18 .p a18 [d_0] K := by kernel_rfl
theorem c18 [Amb] {d_0 : Value} {K : Value → WT} {w : World} (h : s18 d_0 K w) : CF Tryd.prog 18 [d_0] K w := shal_sound Tryd.func18 (e18 d_0 K ▸ h)
def a19 : Ann := .seq (.z) (.seq (.z) (.join [] (.seq (.z) (.blk (.seq (.z) (.cond (.seq (.draw [0, 1, 2, 3, 4, 5, 6, 7]) (.join [6] (.seq (.z) (.cond (.draw [0, 1, 2, 3, 4, 6, 7, 5, 8, 9, 10, 11, 12, 13]) (.z))) (.seq (.z) (.z)))) (.seq (.z) (.cond (.seq (.z) (.cond (.z) (.z))) (.seq (.z) (.cond (.seq (.draw [0, 1, 2, 3, 4, 5, 6, 7]) (.join [0, 3, 5, 7] (.seq (.z) (.cond (.seq (.z) (.z)) (.z))) (.join [7] (.join [0, 3, 7, 104] (.z) (.cond (.seq (.z) (.z)) (.z))) (.seq (.z) (.z))))) (.seq (.z) (.cond (.draw [0, 1, 2, 3, 4, 5, 6]) (.z))))))))))) (.seq (.z) (.z))))
def s19 [Amb] (v0 v1 : Value) (K : Value → WT) : WT :=
 S.box 57 v1 fun v3 =>
 S.nc v0 fun v9 =>
 S.fad v9 0 fun v10 =>
 S.ld v10 fun v11 =>
 CF Tryd.prog 40 [v11] fun v12 =>
 S.join 0 (fun K0 =>
 S.fad v3 0 fun v13 =>
 S.ld v13 fun v14 =>
 S.bin .eql v14 (I 0) fun v16 =>
 S.cond v16 (
 S.dr <|
 S.nc v0 fun v18 =>
 S.fad v18 1 fun v19 =>
 S.ld v19 fun v20 =>
 S.fad v3 2 fun v21 =>
 S.ld v21 fun v22 =>
 CF Tryd.prog 8 [v20, v22] fun v23 =>
 S.join 1 (fun K1 =>
 S.bin .eql v23 (I 0) fun v25 =>
 S.cond v25 (
 S.dr <|
 S.nc v0 fun v28 =>
 S.fad v28 2 fun v29 =>
 S.ld v29 fun v30 =>
 S.fad v3 2 fun v32 =>
 S.ld v32 fun v33 =>
 V Tryd.prog (Instr.buildSlice 22 0 #[]) fun v31 =>
 S.rck [S.ld v32 (fun v' _ => v' = v33), S.ld v29 (fun v' _ => v' = v30)] <|
 V Tryd.prog (Builtin.append_ #[22, 22] 22 #[v31, v33]) fun v34 =>
 S.rck [S.ld v29 (fun v' _ => v' = v30)] <|
 V Tryd.prog (Instr.buildSlice 30 1 #[(0, v34)]) fun v35 =>
 S.rck [S.ld v29 (fun v' _ => v' = v30)] <|
 V Tryd.prog (Builtin.append_ #[30, 30] 30 #[v30, v35]) fun v36 =>
 S.nc v0 fun v37 =>
 S.fad v37 2 fun v38 =>
 S.st 1 v38 v36 fun _ =>
 K1 v23) (
 K1 v23))
 <| fun v6 => S.fa fun _ =>
 S.bin .eql v6 (I 0) fun v40 =>
 S.gd v40 false (fun k => k v6) fun v42 =>
 S.gd v40 false (S.bin .eql v42 (I 8)) fun v43 =>
 S.pick v40 (B true) v43 fun v44 =>
 S.gd v44 false (fun k => k v6) fun v46 =>
 S.gd v44 false (S.bin .eql v46 (I 2)) fun v47 =>
 S.pick v44 (B true) v47 fun v48 =>
 S.gd v48 false (fun k => k v6) fun v50 =>
 S.gd v48 false (S.bin .eql v50 (I 6)) fun v51 =>
 S.pick v48 (B true) v51 fun v52 =>
 S.gd v52 false (fun k => k v6) fun v54 =>
 S.gd v52 false (S.bin .eql v54 (I 7)) fun v55 =>
 S.pick v52 (B true) v55 fun v56 =>
 K v56) (
 S.bin .eql v14 (I 1) fun v58 =>
 S.cond v58 (
 S.nc v0 fun v60 =>
 S.fad v60 1 fun v61 =>
 S.ld v61 fun v62 =>
 CF Tryd.prog 14 [v62] fun v63 =>
 S.bin .eql v63 (I 0) fun v64 =>
 S.cond v64 (
 S.nc v0 fun v67 =>
 S.fad v67 2 fun v68 =>
 S.ld v68 fun v69 =>
 S.len v69 fun v70 =>
 S.nc v0 fun v71 =>
 S.fad v71 3 fun v72 =>
 S.st 1 v72 v70 fun _ =>
 K0) (
 K0)) (
 S.bin .eql v14 (I 2) fun v74 =>
 S.cond v74 (
 S.dr <|
 S.nc v0 fun v76 =>
 S.fad v76 1 fun v77 =>
 S.ld v77 fun v78 =>
 S.fad v3 3 fun v79 =>
 S.ld v79 fun v80 =>
 CF Tryd.prog 15 [v78, v80] fun v81 =>
 S.join 4 (fun K2 =>
 S.bin .eql v81 (I 0) fun v83 =>
 S.cond v83 (
 V Tryd.prog (Instr.buildSlice 30 0 #[]) fun v85 =>
 S.fad v3 3 fun v86 =>
 S.ld v86 fun v87 =>
 V Tryd.prog (Builtin.append_ #[30, 30] 30 #[v85, v87]) fun v88 =>
 S.nc v0 fun v89 =>
 S.fad v89 2 fun v90 =>
 S.st 1 v90 v88 fun _ =>
 S.nc v0 fun v93 =>
 S.fad v93 2 fun v94 =>
 S.ld v94 fun v95 =>
 S.len v95 fun v96 =>
 S.nc v0 fun v97 =>
 S.fad v97 3 fun v98 =>
 S.st 1 v98 v96 fun _ =>
 K2 v0 v3 v12 v81) (
 K2 v0 v3 v12 v81))
 <| fun v0' v3' v5 v7 => S.fa fun _ =>
 S.join 1 (fun K3 =>
 S.join 4 (fun K4 =>
 S.bin .eql v7 (I 7) fun v100 =>
 S.gd v100 true (fun k => k v5) fun v102 =>
 S.gd v100 true (S.not1 v102) fun v103 =>
 S.pick v100 v103 (B false) fun v104 =>
 K4 v0' v3' v7 v104)
 <| fun v0'2 v3'2 v7' v104' => S.fa fun _ =>
 S.cond v104' (
 V Tryd.prog (Instr.buildSlice 30 0 #[]) fun v106 =>
 S.fad v3'2 3 fun v107 =>
 S.ld v107 fun v108 =>
 V Tryd.prog (Builtin.append_ #[30, 30] 30 #[v106, v108]) fun v109 =>
 S.nc v0'2 fun v110 =>
 S.fad v110 4 fun v111 =>
 S.st 1 v111 v109 fun _ =>
 S.nc v0'2 fun v113 =>
 S.fad v113 5 fun v114 =>
 S.st 1 v114 (B true) fun _ =>
 K3 v7') (
 K3 v7'))
 <| fun v7'2 => S.fa fun _ =>
 S.bin .eql v7'2 (I 0) fun v116 =>
 S.gd v116 false (fun k => k v7'2) fun v118 =>
 S.gd v116 false (S.bin .eql v118 (I 8)) fun v119 =>
 S.pick v116 (B true) v119 fun v120 =>
 S.gd v120 false (fun k => k v7'2) fun v122 =>
 S.gd v120 false (S.bin .eql v122 (I 2)) fun v123 =>
 S.pick v120 (B true) v123 fun v124 =>
 S.gd v124 false (fun k => k v7'2) fun v126 =>
 S.gd v124 false (S.bin .eql v126 (I 6)) fun v127 =>
 S.pick v124 (B true) v127 fun v128 =>
 S.gd v128 false (fun k => k v7'2) fun v130 =>
 S.gd v128 false (S.bin .eql v130 (I 7)) fun v131 =>
 S.pick v128 (B true) v131 fun v132 =>
 K v132) (
 S.bin .eql v14 (I 3) fun v134 =>
 S.cond v134 (
 S.dr <|
 S.nc v0 fun v136 =>
 S.fad v136 0 fun v137 =>
 S.ld v137 fun v138 =>
 S.fad v3 1 fun v139 =>
 S.ld v139 fun v140 =>
 CF Tryd.prog 21 [v138, v140] fun v141 =>
 K0) (
 K0)))))
 <| S.fa fun _ =>
 K (B true)
theorem e19 [Amb] (v0 v1 : Value) (K : Value → WT) : s19 v0 v1 K = shal Tryd.prog Tryd.f19 .p a19 [v0, v1] K := by kernel_rfl
theorem c19 [Amb] {v0 v1 : Value} {K : Value → WT} {w : World} (h : s19 v0 v1 K w) : CF Tryd.prog 19 [v0, v1] K w := shal_sound Tryd.func19 (e19 v0 v1 K ▸ h)
def a20 : Ann := .seq (.z) (.seq (.join [0, 1, 17] (.z) (.cond (.seq (.z) (.z)) (.z))) (.seq (.join [0, 1, 34] (.z) (.cond (.seq (.z) (.z)) (.z))) (.seq (.seq (.z) (.blk (.loop [0, 1, 5] (.seq (.seq (.z) (.cond (.z) (.z))) (.seq (.blk (.seq (.draw [0, 1, 2, 3, 4, 5, 6, 7, 8, 9, 10, 11, 12, 13]) (.cond (.seq (.z) (.z)) (.z)))) (.z)))))) (.seq (.z) (.z)))))
def s20 [Amb] (r_0 got_1 : Value) (K : Value → WT) : WT :=
 S.join 3 (fun K0 =>
 S.nc r_0 fun v7 =>
 S.fad v7 5 fun v8 =>
 S.ld v8 fun v9 =>
 S.gd v9 true (fun k => k got_1) fun v11 =>
 S.gd v9 true (fun k => k r_0) fun v12 =>
 S.gd v9 true (S.nc v12) fun v13 =>
 S.gd v9 true (S.fad v13 4) fun v14 =>
 S.gd v9 true (S.ld v14) fun v15 =>
 S.gd v9 true (CF Tryd.prog 22 [v11, v15]) fun v16 =>
 S.pick v9 v16 (B false) fun v17 =>
 K0 r_0 got_1 v17)
 <| fun r_0' got_1' v17' => S.fa fun _ =>
 S.cond v17' (
 K (B true)) (
 S.join 3 (fun K1 =>
 S.len got_1' fun v19 =>
 S.nc r_0' fun v21 =>
 S.fad v21 3 fun v22 =>
 S.ld v22 fun v23 =>
 S.bin .lss v19 v23 fun v24 =>
 S.gd v24 false (fun k => k got_1') fun v26 =>
 S.gd v24 false (S.len v26) fun v27 =>
 S.gd v24 false (fun k => k r_0') fun v28 =>
 S.gd v24 false (S.nc v28) fun v29 =>
 S.gd v24 false (S.fad v29 2) fun v30 =>
 S.gd v24 false (S.ld v30) fun v31 =>
 S.gd v24 false (S.len v31) fun v32 =>
 S.gd v24 false (S.bin .gtr v27 v32) fun v33 =>
 S.pick v24 (B true) v33 fun v34 =>
 K1 r_0' got_1' v34)
 <| fun r_0'2 got_1'2 v34' => S.fa fun _ =>
 S.cond v34' (
 K (B false)) (
 S.loop 3 (fun K2 => fun r_0'3 got_1'3 i_5 => S.fa fun _ =>
 S.len got_1'3 fun v37 =>
 S.bin .lss i_5 v37 fun v38 =>
 S.cond v38 (
 S.dr <|
 S.ixS 1 got_1'3 i_5 fun v43 =>
 S.ld v43 fun v44 =>
 S.b2s v44 fun v45 =>
 S.nc r_0'3 fun v47 =>
 S.fad v47 2 fun v48 =>
 S.ld v48 fun v49 =>
 S.ixS 1 v49 i_5 fun v51 =>
 S.ld v51 fun v52 =>
 S.b2s v52 fun v53 =>
 S.sbin .neq v45 v53 fun v54 =>
 S.cond v54 (
 K (B false)) (
 S.bin .add i_5 (I 1) fun v40 =>
 K2 r_0'3 got_1'3 v40)) (
 K (B true)))
 [r_0'2, got_1'2, (I 0)]))
theorem e20 [Amb] (r_0 got_1 : Value) (K : Value → WT) : s20 r_0 got_1 K = shal Tryd.prog Tryd.f20 .p a20 [r_0, got_1] K := by kernel_rfl
theorem c20 [Amb] {r_0 got_1 : Value} {K : Value → WT} {w : World} (h : s20 r_0 got_1 K w) : CF Tryd.prog 20 [r_0, got_1] K w := shal_sound Tryd.func20 (e20 r_0 got_1 K ▸ h)
def a21 : Ann := .seq (.z) (.seq (.blk (.seq (.z) (.cond (.seq (.z) (.z)) (.seq (.z) (.cond (.seq (.z) (.z)) (.seq (.z) (.cond (.seq (.z) (.z)) (.z)))))))) (.seq (.z) (.seq (.z) (.z))))
def s21 [Amb] (d_0 n_1 : Value) (K : Value → WT) : WT :=
 S.eqv Tryd.prog .eql 28 true d_0 (.pointer none) fun v7 =>
 S.cond v7 (
 K (I 1)) (
 S.nc d_0 fun v10 =>
 S.fad v10 3 fun v11 =>
 S.ld v11 fun v12 =>
 S.cond v12 (
 K (I 7)) (
 S.bin .lss n_1 (I 0) fun v15 =>
 S.cond v15 (
 K (I 2)) (
 S.nc d_0 fun v18 =>
 S.fad v18 2 fun v19 =>
 S.st 1 v19 n_1 fun _ =>
 K (I 0))))
theorem e21 [Amb] (d_0 n_1 : Value) (K : Value → WT) : s21 d_0 n_1 K = shal Tryd.prog Tryd.f21 .p a21 [d_0, n_1] K := by kernel_rfl
theorem c21 [Amb] {d_0 n_1 : Value} {K : Value → WT} {w : World} (h : s21 d_0 n_1 K w) : CF Tryd.prog 21 [d_0, n_1] K w := shal_sound Tryd.func21 (e21 d_0 n_1 K ▸ h)
def a22 : Ann := .seq (.z) (.seq (.seq (.z) (.cond (.seq (.z) (.z)) (.z))) (.seq (.seq (.z) (.blk (.loop [0, 1, 5] (.seq (.seq (.z) (.cond (.z) (.z))) (.seq (.blk (.seq (.draw [0, 1, 2, 3, 4, 5, 6, 7, 8, 9, 10]) (.cond (.seq (.z) (.z)) (.z)))) (.z)))))) (.seq (.z) (.z))))
def s22 [Amb] (a_0 b_1 : Value) (K : Value → WT) : WT :=
 S.len a_0 fun v7 =>
 S.len b_1 fun v9 =>
 S.bin .neq v7 v9 fun v10 =>
 S.cond v10 (
 K (B false)) (
 S.loop 3 (fun K0 => fun a_0' b_1' i_5 => S.fa fun _ =>
 S.len a_0' fun v13 =>
 S.bin .lss i_5 v13 fun v14 =>
 S.cond v14 (
 S.dr <|
 S.ixS 1 a_0' i_5 fun v19 =>
 S.ld v19 fun v20 =>
 S.b2s v20 fun v21 =>
 S.ixS 1 b_1' i_5 fun v24 =>
 S.ld v24 fun v25 =>
 S.b2s v25 fun v26 =>
 S.sbin .neq v21 v26 fun v27 =>
 S.cond v27 (
 K (B false)) (
 S.bin .add i_5 (I 1) fun v16 =>
 K0 a_0' b_1' v16)) (
 K (B true)))
 [a_0, b_1, (I 0)])
theorem e22 [Amb] (a_0 b_1 : Value) (K : Value → WT) : s22 a_0 b_1 K = shal Tryd.prog Tryd.f22 .p a22 [a_0, b_1] K := by kernel_rfl
theorem c22 [Amb] {a_0 b_1 : Value} {K : Value → WT} {w : World} (h : s22 a_0 b_1 K w) : CF Tryd.prog 22 [a_0, b_1] K w := shal_sound Tryd.func22 (e22 a_0 b_1 K ▸ h)
def a23 : Ann := .seq (.z) (.seq (.join [0, 10] (.z) (.cond (.seq (.z) (.z)) (.z))) (.seq (.z) (.seq (.seq (.z) (.blk (.loop [4, 14, 15] (.seq (.z) (.seq (.cond (.z) (.z)) (.seq (.blk (.draw [0, 1, 2, 3, 4, 5, 6, 7, 8, 9, 10])) (.z))))))) (.seq (.z) (.z)))))
def s23 [Amb] (sectors_0 : Value) (K : Value → WT) : WT :=
 S.join 2 (fun K0 =>
 S.bin .lss sectors_0 (I 1) fun v6 =>
 S.gd v6 false (fun k => k sectors_0) fun v8 =>
 S.gd v6 false (S.bin .gtr v8 (I 4096)) fun v9 =>
 S.pick v6 (B true) v9 fun v10 =>
 K0 sectors_0 v10)
 <| fun sectors_0' v10' => S.fa fun _ =>
 S.cond v10' (
 K (.tuple #[(.pointer none), (I 2)])) (
 S.mkM fun v11 =>
 V Tryd.prog (Instr.build 82 #[(1, v11)]) fun v12 =>
 S.box 82 v12 fun v13 =>
 S.loop 3 (fun K1 => fun d_4 v14 v15 => S.fa fun _ =>
 S.bin .lss v15 v14 fun v16 =>
 S.cond v16 (
 S.dr <|
 S.nc d_4 fun v19 =>
 S.fad v19 0 fun v20 =>
 S.ld v20 fun v21 =>
 V Tryd.prog (Instr.makeSlice 22 (I 128) (I 128)) fun v22 =>
 S.rck [S.ld v20 (fun v' _ => v' = v21)] <|
 V Tryd.prog (Instr.buildSlice 30 1 #[(0, v22)]) fun v23 =>
 S.rck [S.ld v20 (fun v' _ => v' = v21)] <|
 V Tryd.prog (Builtin.append_ #[30, 30] 30 #[v21, v23]) fun v24 =>
 S.nc d_4 fun v25 =>
 S.fad v25 0 fun v26 =>
 S.st 1 v26 v24 fun _ =>
 S.bin .add v15 (I 1) fun v27 =>
 K1 d_4 v14 v27) (
 K (.tuple #[d_4, (I 0)])))
 [v13, sectors_0', (I 0)])
theorem e23 [Amb] (sectors_0 : Value) (K : Value → WT) : s23 sectors_0 K = shal Tryd.prog Tryd.f23 .p a23 [sectors_0] K := by kernel_rfl
theorem c23 [Amb] {sectors_0 : Value} {K : Value → WT} {w : World} (h : s23 sectors_0 K w) : CF Tryd.prog 23 [sectors_0] K w := shal_sound Tryd.func23 (e23 sectors_0 K ▸ h)
def a24 : Ann := .seq (.z) (.seq (.blk (.seq (.z) (.cond (.seq (.z) (.z)) (.seq (.draw [0, 1, 2, 3, 5, 6, 7, 8, 4, 9, 10]) (.cond (.seq (.z) (.z)) (.seq (.z) (.cond (.seq (.z) (.z)) (.z)))))))) (.seq (.z) (.z)))
def s24 [Amb] (l_0 : Value) (K : Value → WT) : WT :=
 S.eqv Tryd.prog .eql 29 true l_0 (.pointer none) fun v5 =>
 S.cond v5 (
 K (I 1)) (
 S.dr <|
 S.nc l_0 fun v8 =>
 S.fad v8 0 fun v9 =>
 S.ld v9 fun v10 =>
 S.nc l_0 fun v13 =>
 S.fad v13 1 fun v14 =>
 S.ld v14 fun v15 =>
 CF Tryd.prog 31 [v10] fun v11 =>
 S.rck [S.ld v14 (fun v' _ => v' = v15)] <|
 S.bin .neq v11 v15 fun v16 =>
 S.cond v16 (
 K (I 14)) (
 S.nc l_0 fun v19 =>
 S.fad v19 0 fun v20 =>
 S.ld v20 fun v21 =>
 CF Tryd.prog 40 [v21] fun v22 =>
 S.cond v22 (
 K (I 7)) (
 K (I 0))))
theorem e24 [Amb] (l_0 : Value) (K : Value → WT) : s24 l_0 K = shal Tryd.prog Tryd.f24 .p a24 [l_0] K := by kernel_rfl
theorem c24 [Amb] {l_0 : Value} {K : Value → WT} {w : World} (h : s24 l_0 K w) : CF Tryd.prog 24 [l_0] K w := shal_sound Tryd.func24 (e24 l_0 K ▸ h)
def a25 : Ann := .seq (.z) (.seq (.blk (.seq (.z) (.cond (.seq (.z) (.z)) (.seq (.z) (.cond (.seq (.z) (.z)) (.z)))))) (.seq (.z) (.z)))
def s25 [Amb] (rec_0 : Value) (K : Value → WT) : WT :=
 S.len rec_0 fun v5 =>
 S.bin .eql v5 (I 0) fun v6 =>
 S.cond v6 (
 K (I 2)) (
 S.len rec_0 fun v9 =>
 S.bin .gtr v9 (I 16384) fun v10 =>
 S.cond v10 (
 K (I 6)) (
 K (I 0)))
theorem e25 [Amb] (rec_0 : Value) (K : Value → WT) : s25 rec_0 K = shal Tryd.prog Tryd.f25 .p a25 [rec_0] K := by kernel_rfl
theorem c25 [Amb] {rec_0 : Value} {K : Value → WT} {w : World} (h : s25 rec_0 K w) : CF Tryd.prog 25 [rec_0] K w := shal_sound Tryd.func25 (e25 rec_0 K ▸ h)
def a26 : Ann := .seq (.z) (.seq (.z) (.seq (.seq (.z) (.blk (.loop [0, 2, 3, 4, 6, 11, 19, 20] (.seq (.z) (.seq (.cond (.z) (.z)) (.seq (.blk (.seq (.z) (.seq (.z) (.join [0, 2, 3, 4, 6, 11, 12, 13, 19, 20] (.blk (.seq (.z) (.cond (.z) (.seq (.z) (.cond (.z) (.seq (.z) (.cond (.z) (.z)))))))) (.seq (.z) (.seq (.draw [0, 1, 2, 3, 4, 5, 6, 7, 8, 9, 10, 11, 12, 13]) (.seq (.z) (.cond (.seq (.z) (.z)) (.z))))))))) (.z))))))) (.seq (.z) (.z))))
def s26 [Amb] (v0 v1 v2 v3 v4 : Value) (K : Value → WT) : WT :=
 S.box 32 v1 fun v6 =>
 S.len v4 fun v17 =>
 CF Tryd.prog 7 [v17] fun v18 =>
 S.loop 8 (fun K0 => fun v0' v2' v3' v4' v6' v11 v19 v20 => S.fa fun _ =>
 S.bin .lss v20 v19 fun v21 =>
 S.cond v21 (
 S.join 10 (fun K1 =>
 S.bin .eql v11 (I 1) fun v25 =>
 S.cond v25 (
 K1 v0' v2' v3' v4' v6' v11 v20 (I 1) v19 v20) (
 S.bin .eql v20 (I 0) fun v28 =>
 S.cond v28 (
 K1 v0' v2' v3' v4' v6' v11 v20 (I 2) v19 v20) (
 S.bin .sub v11 (I 1) fun v32 =>
 S.bin .eql v20 v32 fun v33 =>
 S.cond v33 (
 K1 v0' v2' v3' v4' v6' v11 v20 (I 4) v19 v20) (
 K1 v0' v2' v3' v4' v6' v11 v20 (I 3) v19 v20))))
 <| fun v0'2 v2'2 v3'2 v4'2 v6'2 v11' v12 v13 v19' v20' => S.fa fun _ =>
 S.bin .add v3'2 v12 fun v37 =>
 S.bin .mul v12 (I 108) fun v41 =>
 S.bin .add v12 (I 1) fun v43 =>
 S.bin .mul v43 (I 108) fun v44 =>
 S.len v4'2 fun v46 =>
 S.mn v44 v46 fun v47 =>
 S.slc 1 v4'2 (some v41) (some v47) none fun v48 =>
 S.b2s v48 fun v49 =>
 V Tryd.prog (Instr.build 87 #[(0, v2'2), (1, v37), (2, v13), (3, v49)]) fun v50 =>
 S.box 87 (.agg #[(.int .i64 0), (.int .i64 0), (.int .i64 0), (.string ⟨#[]⟩)]) fun v14 =>
 S.st 4 v14 v50 fun _ =>
 S.dr <|
 S.nc v0'2 fun v52 =>
 S.fad v52 0 fun v53 =>
 S.ld v53 fun v54 =>
 S.fad v6'2 0 fun v55 =>
 S.ld v55 fun v56 =>
 S.bin .add v56 v3'2 fun v58 =>
 S.bin .add v58 v12 fun v60 =>
 S.ldN 4 v14 fun v61 =>
 CF Tryd.prog 42 [v61] fun v62 =>
 S.rck [S.ld v55 (fun v' _ => v' = v56), S.ld v53 (fun v' _ => v' = v54)] <|
 CF Tryd.prog 41 [v54, v60, v62] fun v63 =>
 S.bin .neq v63 (I 0) fun v65 =>
 S.cond v65 (
 K v63) (
 S.bin .add v20' (I 1) fun v67 =>
 K0 v0'2 v2'2 v3'2 v4'2 v6'2 v11' v19' v67)) (
 K (I 0)))
 [v0, v2, v3, v4, v6, v18, v18, (I 0)]
theorem e26 [Amb] (v0 v1 v2 v3 v4 : Value) (K : Value → WT) : s26 v0 v1 v2 v3 v4 K = shal Tryd.prog Tryd.f26 .p a26 [v0, v1, v2, v3, v4] K := by kernel_rfl
theorem c26 [Amb] {v0 v1 v2 v3 v4 : Value} {K : Value → WT} {w : World} (h : s26 v0 v1 v2 v3 v4 K w) : CF Tryd.prog 26 [v0, v1, v2, v3, v4] K w := shal_sound Tryd.func26 (e26 v0 v1 v2 v3 v4 K ▸ h)
def a27 : Ann := .seq (.z) (.seq (.seq (.z) (.cond (.seq (.z) (.z)) (.z))) (.seq (.z) (.z)))
def s27 [Amb] (s_0 : Value) (K : Value → WT) : WT :=
 S.eqv Tryd.prog .eql 30 true s_0 (.slice none 0 0) fun v4 =>
 S.cond v4 (
 K (.slice none 0 0)) (
 V Tryd.prog (Instr.buildSlice 30 0 #[]) fun v5 =>
 V Tryd.prog (Builtin.append_ #[30, 30] 30 #[v5, s_0]) fun v7 =>
 K v7)
theorem e27 [Amb] (s_0 : Value) (K : Value → WT) : s27 s_0 K = shal Tryd.prog Tryd.f27 .p a27 [s_0] K := by kernel_rfl
theorem c27 [Amb] {s_0 : Value} {K : Value → WT} {w : World} (h : s27 s_0 K w) : CF Tryd.prog 27 [s_0] K w := shal_sound Tryd.func27 (e27 s_0 K ▸ h)
def a28 : Ann := .seq (.z) (.seq (.seq (.z) (.cond (.seq (.z) (.z)) (.z))) (.seq (.z) (.z)))
def s28 [Amb] (s_0 : Value) (K : Value → WT) : WT :=
 S.eqv Tryd.prog .eql 22 true s_0 (.slice none 0 0) fun v4 =>
 S.cond v4 (
 K (.slice none 0 0)) (
 V Tryd.prog (Instr.buildSlice 22 0 #[]) fun v5 =>
 V Tryd.prog (Builtin.append_ #[22, 22] 22 #[v5, s_0]) fun v7 =>
 K v7)
theorem e28 [Amb] (s_0 : Value) (K : Value → WT) : s28 s_0 K = shal Tryd.prog Tryd.f28 .p a28 [s_0] K := by kernel_rfl
theorem c28 [Amb] {s_0 : Value} {K : Value → WT} {w : World} (h : s28 s_0 K w) : CF Tryd.prog 28 [s_0] K w := shal_sound Tryd.func28 (e28 s_0 K ▸ h)
def a29 : Ann := .seq (.z) (.seq (.blk (.seq (.z) (.cond (.seq (.z) (.z)) (.seq (.z) (.cond (.seq (.z) (.z)) (.join [0, 1, 12] (.z) (.cond (.seq (.z) (.z)) (.z)))))))) (.seq (.z) (.z)))
def s29 [Amb] (d_0 base_1 : Value) (K : Value → WT) : WT :=
 S.eqv Tryd.prog .eql 28 true d_0 (.pointer none) fun v8 =>
 S.cond v8 (
 K (.tuple #[(.pointer none), (I 1)])) (
 CF Tryd.prog 40 [d_0] fun v11 =>
 S.cond v11 (
 K (.tuple #[(.pointer none), (I 7)])) (
 S.join 3 (fun K0 =>
 S.bin .lss base_1 (I 0) fun v14 =>
 S.gd v14 false (fun k => k base_1) fun v16 =>
 S.gd v14 false (fun k => k d_0) fun v17 =>
 S.gd v14 false (CF Tryd.prog 43 [v17]) fun v18 =>
 S.gd v14 false (S.bin .sub v18 (I 1)) fun v19 =>
 S.gd v14 false (S.bin .geq v16 v19) fun v20 =>
 S.pick v14 (B true) v20 fun v21 =>
 K0 d_0 base_1 v21)
 <| fun d_0' base_1' v12 => S.fa fun _ =>
 S.cond v12 (
 K (.tuple #[(.pointer none), (I 2)])) (
 CF Tryd.prog 31 [d_0'] fun v25 =>
 V Tryd.prog (Instr.build 91 #[(0, d_0'), (1, base_1'), (2, v25)]) fun v26 =>
 S.box 91 v26 fun v27 =>
 K (.tuple #[v27, (I 0)]))))
theorem e29 [Amb] (d_0 base_1 : Value) (K : Value → WT) : s29 d_0 base_1 K = shal Tryd.prog Tryd.f29 .p a29 [d_0, base_1] K := by kernel_rfl
theorem c29 [Amb] {d_0 base_1 : Value} {K : Value → WT} {w : World} (h : s29 d_0 base_1 K w) : CF Tryd.prog 29 [d_0, base_1] K w := shal_sound Tryd.func29 (e29 d_0 base_1 K ▸ h)
def a30 : Ann := .seq (.z) (.seq (.z) (.seq (.seq (.z) (.blk (.loop [1, 6, 7, 9, 16, 17] (.seq (.z) (.seq (.cond (.z) (.z)) (.seq (.blk (.seq (.z) (.join [1, 6, 7, 9, 16, 17, 48] (.z) (.cond (.seq (.z) (.z)) (.z))))) (.z))))))) (.seq (.z) (.z))))
def s30 [Amb] (d_0 base_1 a_2 b_3 : Value) (K : Value → WT) : WT :=
 S.box 32 a_2 fun a_6 =>
 S.box 32 b_3 fun b_7 =>
 CF Tryd.prog 43 [d_0] fun v13 =>
 S.ldN 2 a_6 fun v14 =>
 S.ldN 2 b_7 fun v15 =>
 V Tryd.prog (Instr.build 33 #[(0, v14), (1, v15)]) fun v16 =>
 S.loop 6 (fun K0 => fun base_1' a_6' b_7' n_9 v16' v17 => S.fa fun _ =>
 S.bin .lss v17 (I 2) fun v18 =>
 S.cond v18 (
 V Tryd.prog (Instr.index 33 v16' v17) fun v19 =>
 S.box 32 (.agg #[(.int .i64 0), (.int .i64 0)]) fun r_11 =>
 S.st 2 r_11 v19 fun _ =>
 S.join 7 (fun K1 =>
 S.fad r_11 1 fun v20 =>
 S.ld v20 fun v21 =>
 S.bin .lss v21 (I 2) fun v22 =>
 S.gd v22 false (S.fad r_11 1) fun v24 =>
 S.gd v22 false (S.ld v24) fun v25 =>
 S.gd v22 false (fun k => k n_9) fun v26 =>
 S.gd v22 false (S.bin .gtr v25 v26) fun v27 =>
 S.pick v22 (B true) v27 fun v28 =>
 S.gd v28 false (S.fad r_11 0) fun v30 =>
 S.gd v28 false (S.ld v30) fun v31 =>
 S.gd v28 false (S.bin .lss v31 (I 0)) fun v32 =>
 S.pick v28 (B true) v32 fun v33 =>
 S.gd v33 false (S.fad r_11 0) fun v35 =>
 S.gd v33 false (S.ld v35) fun v36 =>
 S.gd v33 false (fun k => k n_9) fun v37 =>
 S.gd v33 false (S.fad r_11 1) fun v38 =>
 S.gd v33 false (S.ld v38) fun v39 =>
 S.gd v33 false (S.bin .sub v37 v39) fun v40 =>
 S.gd v33 false (S.bin .gtr v36 v40) fun v41 =>
 S.pick v33 (B true) v41 fun v42 =>
 S.gd v42 false (S.ldN 2 r_11) fun v44 =>
 S.gd v42 false (fun k => k base_1') fun v45 =>
 S.gd v42 false (V Tryd.prog (Instr.build 32 #[(0, v45), (1, (I 2))])) fun v46 =>
 S.gd v42 false (CF Tryd.prog 44 [v44, v46]) fun v47 =>
 S.pick v42 (B true) v47 fun v48 =>
 K1 base_1' a_6' b_7' n_9 v16' v17 v48)
 <| fun base_1'2 a_6'2 b_7'2 n_9' v16'2 v17' v48' => S.fa fun _ =>
 S.cond v48' (
 K (B false)) (
 S.bin .add v17' (I 1) fun v49 =>
 K0 base_1'2 a_6'2 b_7'2 n_9' v16'2 v49)) (
 S.ldN 2 a_6' fun v50 =>
 S.ldN 2 b_7' fun v51 =>
 CF Tryd.prog 44 [v50, v51] fun v52 =>
 S.not1 v52 fun v53 =>
 K v53))
 [base_1, a_6, b_7, v13, v16, (I 0)]
theorem e30 [Amb] (d_0 base_1 a_2 b_3 : Value) (K : Value → WT) : s30 d_0 base_1 a_2 b_3 K = shal Tryd.prog Tryd.f30 .p a30 [d_0, base_1, a_2, b_3] K := by kernel_rfl
theorem c30 [Amb] {d_0 base_1 a_2 b_3 : Value} {K : Value → WT} {w : World} (h : s30 d_0 base_1 a_2 b_3 K w) : CF Tryd.prog 30 [d_0, base_1, a_2, b_3] K w := shal_sound Tryd.func30 (e30 d_0 base_1 a_2 b_3 K ▸ h)
def a31 : Ann := .seq (.z) (.seq (.seq (.z) (.cond (.seq (.z) (.z)) (.z))) (.seq (.z) (.z)))
def s31 [Amb] (d_0 : Value) (K : Value → WT) : WT :=
 S.eqv Tryd.prog .eql 28 true d_0 (.pointer none) fun v4 =>
 S.cond v4 (
 K (I 0)) (
 S.nc d_0 fun v6 =>
 S.fad v6 4 fun v7 =>
 S.ld v7 fun v8 =>
 K v8)
theorem e31 [Amb] (d_0 : Value) (K : Value → WT) : s31 d_0 K = shal Tryd.prog Tryd.f31 .p a31 [d_0] K := by kernel_rfl
theorem c31 [Amb] {d_0 : Value} {K : Value → WT} {w : World} (h : s31 d_0 K w) : CF Tryd.prog 31 [d_0] K w := shal_sound Tryd.func31 (e31 d_0 K ▸ h)
def a32 : Ann := .seq (.z) (.seq (.seq (.z) (.seq (.z) (.cond (.seq (.z) (.z)) (.z)))) (.seq (.z) (.seq (.z) (.seq (.blk (.join [5, 6, 16] (.z) (.cond (.seq (.z) (.z)) (.seq (.z) (.cond (.seq (.z) (.z)) (.z)))))) (.seq (.z) (.z))))))
def s32 [Amb] (c_0 : Value) (K : Value → WT) : WT :=
 CF Tryd.prog 45 [c_0] fun v8 =>
 S.bin .neq v8 (I 0) fun v10 =>
 S.cond v10 (
 K (.tuple #[(.slice none 0 0), v8])) (
 CF Tryd.prog 46 [c_0] fun v13 =>
 S.box 95 (.agg #[(.int .i64 0), (.string ⟨#[]⟩), (.int .i64 0), (.string ⟨#[]⟩)]) fun l_5 =>
 S.st 4 l_5 v13 fun _ =>
 S.ldN 4 l_5 fun v14 =>
 CF Tryd.prog 47 [v14] fun v15 =>
 S.join 3 (fun K0 =>
 S.bin .lss v15 (I 0) fun v18 =>
 S.gd v18 true (fun k => k c_0) fun v20 =>
 S.gd v18 true (CF Tryd.prog 48 [v20]) fun v21 =>
 S.pick v18 v21 (B false) fun v22 =>
 K0 l_5 v15 v22)
 <| fun l_5' i_6 v16 => S.fa fun _ =>
 S.cond v16 (
 K (.tuple #[(.slice none 0 0), (I 9)])) (
 S.bin .lss i_6 (I 0) fun v25 =>
 S.cond v25 (
 K (.tuple #[(.slice none 0 0), (I 13)])) (
 S.ixA 2 2 l_5' i_6 fun v27 =>
 S.fad v27 1 fun v28 =>
 S.ld v28 fun v29 =>
 V Tryd.prog (convert 9 22 v29) fun v30 =>
 K (.tuple #[v30, (I 0)]))))
theorem e32 [Amb] (c_0 : Value) (K : Value → WT) : s32 c_0 K = shal Tryd.prog Tryd.f32 .p a32 [c_0] K := by kernel_rfl
theorem c32 [Amb] {c_0 : Value} {K : Value → WT} {w : World} (h : s32 c_0 K w) : CF Tryd.prog 32 [c_0] K w := shal_sound Tryd.func32 (e32 c_0 K ▸ h)
def a33 : Ann := .seq (.z) (.seq (.z) (.join [0, 5] (.seq (.z) (.cond (.z) (.z))) (.seq (.seq (.z) (.cond (.seq (.z) (.z)) (.z))) (.seq (.z) (.seq (.z) (.z))))))
def s33 [Amb] (l_0 : Value) (K : Value → WT) : WT :=
 CF Tryd.prog 38 [l_0] fun v8 =>
 S.ext v8 0 fun v9 =>
 S.ext v8 1 fun v10 =>
 S.join 2 (fun K0 =>
 S.bin .eql v10 (I 0) fun v12 =>
 S.cond v12 (
 CF Tryd.prog 39 [l_0, (I 0), v9] fun v15 =>
 K0 l_0 v15) (
 K0 l_0 v10))
 <| fun l_0' e_5 => S.fa fun _ =>
 S.bin .neq e_5 (I 0) fun v17 =>
 S.cond v17 (
 K (.tuple #[(.pointer none), e_5])) (
 S.nc l_0' fun v20 =>
 S.fad v20 11 fun v21 =>
 S.st 1 v21 (B true) fun _ =>
 K (.tuple #[l_0', (I 0)]))
theorem e33 [Amb] (l_0 : Value) (K : Value → WT) : s33 l_0 K = shal Tryd.prog Tryd.f33 .p a33 [l_0] K := by kernel_rfl
theorem c33 [Amb] {l_0 : Value} {K : Value → WT} {w : World} (h : s33 l_0 K w) : CF Tryd.prog 33 [l_0] K w := shal_sound Tryd.func33 (e33 l_0 K ▸ h)
def a34 : Ann := .seq (.z) (.seq (.join [0, 1, 17] (.z) (.cond (.seq (.z) (.z)) (.z))) (.seq (.z) (.seq (.seq (.z) (.blk (.loop [1, 7, 20, 21, 22] (.seq (.z) (.seq (.cond (.z) (.z)) (.seq (.blk (.seq (.z) (.seq (.join [1, 7, 8, 9, 20, 21, 22, 32] (.z) (.cond (.seq (.z) (.z)) (.z))) (.seq (.z) (.blk (.seq (.z) (.cond (.z) (.join [1, 7, 8, 49] (.z) (.cond (.seq (.z) (.z)) (.seq (.z) (.z))))))))))) (.z))))))) (.seq (.z) (.z)))))
def s34 [Amb] (b_0 at_1 : Value) (K : Value → WT) : WT :=
 S.join 3 (fun K0 =>
 S.bin .lss at_1 (I 0) fun v11 =>
 S.gd v11 false (fun k => k at_1) fun v13 =>
 S.gd v11 false (fun k => k b_0) fun v14 =>
 S.gd v11 false (S.len v14) fun v15 =>
 S.gd v11 false (S.bin .gtr v13 v15) fun v16 =>
 S.pick v11 (B true) v16 fun v17 =>
 K0 b_0 at_1 v17)
 <| fun b_0' at_1' v17' => S.fa fun _ =>
 S.cond v17' (
 K (.tuple #[(I 0), (I 0), (I 2)])) (
 S.slc 1 b_0' (some at_1') none none fun v20 =>
 S.len v20 fun v21 =>
 S.loop 5 (fun K1 => fun at_1'2 n_7 v20' v21' v22 => S.fa fun _ =>
 S.bin .lss v22 v21' fun v23 =>
 S.cond v23 (
 S.ixS 1 v20' v22 fun v25 =>
 S.ld v25 fun v26 =>
 S.join 8 (fun K2 =>
 S.bin .eql v22 (I 7) fun v28 =>
 S.gd v28 true (fun k => k v26) fun v30 =>
 S.gd v28 true (S.bin .gtr v30 (.int .u8 15)) fun v31 =>
 S.pick v28 v31 (B false) fun v32 =>
 K2 at_1'2 n_7 v22 v26 v20' v21' v22 v32)
 <| fun at_1'3 n_7' i_8 c_9 v20'2 v21'2 v22' v32' => S.fa fun _ =>
 S.cond v32' (
 K (.tuple #[(I 0), (I 0), (I 6)])) (
 S.bin .rem c_9 (.int .u8 128) fun v35 =>
 S.cvt .i64 v35 fun v36 =>
 S.bin .mul (I 7) i_8 fun v38 =>
 S.sh .shl v36 v38 fun v39 =>
 S.bin .or n_7' v39 fun v40 =>
 S.bin .geq c_9 (.int .u8 128) fun v48 =>
 S.cond v48 (
 S.bin .add v22' (I 1) fun v56 =>
 K1 at_1'3 v40 v20'2 v21'2 v56) (
 S.join 4 (fun K3 =>
 S.bin .eql c_9 (.int .u8 0) fun v51 =>
 S.gd v51 true (fun k => k i_8) fun v53 =>
 S.gd v51 true (S.bin .gtr v53 (I 0)) fun v54 =>
 S.pick v51 v54 (B false) fun v55 =>
 K3 at_1'3 v40 i_8 v55)
 <| fun at_1'4 n_7'2 i_8' v49 => S.fa fun _ =>
 S.cond v49 (
 K (.tuple #[(I 0), (I 0), (I 4)])) (
 S.bin .add at_1'4 i_8' fun v44 =>
 S.bin .add v44 (I 1) fun v45 =>
 K (.tuple #[n_7'2, v45, (I 0)]))))) (
 K (.tuple #[(I 0), (I 0), (I 3)])))
 [at_1', (I 0), v20, v21, (I 0)])
theorem e34 [Amb] (b_0 at_1 : Value) (K : Value → WT) : s34 b_0 at_1 K = shal Tryd.prog Tryd.f34 .p a34 [b_0, at_1] K := by kernel_rfl
theorem c34 [Amb] {b_0 at_1 : Value} {K : Value → WT} {w : World} (h : s34 b_0 at_1 K w) : CF Tryd.prog 34 [b_0, at_1] K w := shal_sound Tryd.func34 (e34 b_0 at_1 K ▸ h)
def a35 : Ann := .seq (.z) (.seq (.z) (.seq (.z) (.blk (.rf [] (.seq (.z) (.z)) (.blk (.join [1, 2, 3, 4, 5] (.z) (.seq (.join [1, 2, 3, 4, 31] (.z) (.cond (.z) (.z))) (.seq (.z) (.join [1, 2, 3, 43] (.z) (.cond (.seq (.draw [0, 1, 2, 3, 4, 5, 6, 9, 10, 7, 8, 11, 12, 13, 14, 15, 16]) (.z)) (.z)))))))))))
def s35 (l_0 : Value) (K : Value → WT) : WT :=
 S.box 29 l_0 fun l_1 =>
 S.box 22 (.slice none 0 0) fun now_2 =>
 S.ld l_1 fun v6 =>
 CF Tryd.prog 49 [v6] fun v7 =>
 S.rf Tryd.prog v7 undef 2 (fun l0 go0 Z0 => fun v8 v9 =>
 S.box 87 (.agg #[(.int .i64 0), (.int .i64 0), (.int .i64 0), (.string ⟨#[]⟩)]) fun x_4 =>
 S.st 4 x_4 v9 fun _ =>
 go0 <|
 S.join 5 (fun K1 =>
 S.fad x_4 2 fun v10 =>
 S.ld v10 fun v11 =>
 S.bin .eql v11 (I 1) fun v12 =>
 S.gd v12 false (S.fad x_4 2) fun v14 =>
 S.gd v12 false (S.ld v14) fun v15 =>
 S.gd v12 false (S.bin .eql v15 (I 2)) fun v16 =>
 S.pick v12 (B true) v16 fun v17 =>
 K1 l_1 now_2 v8 x_4 v17)
 <| fun l_1' now_2' i_3 x_4' begins_5 => S.fa fun _ =>
 S.join 5 (fun K2 =>
 S.ld now_2' fun v19 =>
 S.len v19 fun v20 =>
 S.bin .eql v20 (I 0) fun v21 =>
 S.beq .neq begins_5 v21 fun v22 =>
 S.gd v22 false (S.ld now_2') fun v24 =>
 S.gd v22 false (S.len v24) fun v25 =>
 S.gd v22 false (S.fad x_4' 3) fun v26 =>
 S.gd v22 false (S.ld v26) fun v27 =>
 S.gd v22 false (S.lenS v27) fun v28 =>
 S.gd v22 false (S.bin .add v25 v28) fun v29 =>
 S.gd v22 false (S.bin .gtr v29 (I 16384)) fun v30 =>
 S.pick v22 (B true) v30 fun v31 =>
 K2 l_1' now_2' i_3 x_4' v31)
 <| fun l_1'2 now_2'2 i_3' x_4'2 v31' => S.fa fun _ =>
 S.cond v31' (
 Z0 .rt) (
 S.ld now_2'2 fun v32 =>
 S.fad x_4'2 3 fun v33 =>
 S.ld v33 fun v34 =>
 V Tryd.prog (Builtin.append_ #[22, 9] 22 #[v32, v34]) fun v35 =>
 S.st 1 now_2'2 v35 fun _ =>
 S.join 4 (fun K3 =>
 S.fad x_4'2 2 fun v36 =>
 S.ld v36 fun v37 =>
 S.bin .eql v37 (I 1) fun v38 =>
 S.gd v38 false (S.fad x_4'2 2) fun v40 =>
 S.gd v38 false (S.ld v40) fun v41 =>
 S.gd v38 false (S.bin .eql v41 (I 4)) fun v42 =>
 S.pick v38 (B true) v42 fun v43 =>
 K3 l_1'2 now_2'2 i_3' v43)
 <| fun l_1'3 now_2'3 i_3'2 v43' => S.fa fun _ =>
 S.cond v43' (
 S.dr <|
 S.ld l_1'3 fun v44 =>
 S.ld l_1'3 fun v45 =>
 S.ld l_1'3 fun v46 =>
 S.nc v46 fun v47 =>
 S.fad v47 10 fun v48 =>
 S.ld v48 fun v49 =>
 S.ld now_2'3 fun v50 =>
 S.bin .add i_3'2 (I 1) fun v54 =>
 V Tryd.prog (Instr.buildSlice 30 1 #[(0, v50)]) fun v51 =>
 S.rck [S.ld v48 (fun v' _ => v' = v49), S.ld l_1'3 (fun v' _ => v' = v46), S.ld l_1'3 (fun v' _ => v' = v45), S.ld l_1'3 (fun v' _ => v' = v44)] <|
 V Tryd.prog (Builtin.append_ #[30, 30] 30 #[v49, v51]) fun v52 =>
 S.rck [S.ld l_1'3 (fun v' _ => v' = v45), S.ld l_1'3 (fun v' _ => v' = v44)] <|
 S.nc v44 fun v55 =>
 S.fad v55 10 fun v56 =>
 S.st 1 v56 v52 fun _ =>
 S.rck [S.ld l_1'3 (fun v' _ => v' = v45)] <|
 S.nc v45 fun v57 =>
 S.fad v57 9 fun v58 =>
 S.st 1 v58 v54 fun _ =>
 S.st 1 now_2'3 (.slice none 0 0) fun _ =>
 Z0 .nrm) (
 Z0 .nrm)))
 (fun m4 =>
 S.done m4 <|
 K (.tuple #[]))
 (fun m5 =>
 S.done m5 <|
 K (.tuple #[]))
 [
 ]
theorem e35 (l_0 : Value) (K : Value → WT) : s35 l_0 K = shal Tryd.prog Tryd.f35 .m a35 [l_0] K := by kernel_rfl
theorem c35 {l_0 : Value} {K : Value → WT} {w : World} (h : s35 l_0 K w) : CF Tryd.prog 35 [l_0] K w := shal_sound Tryd.func35 (e35 l_0 K ▸ h)
def a36 : Ann := .seq (.z) (.seq (.seq (.z) (.cond (.seq (.z) (.z)) (.z))) (.seq (.z) (.z)))
def s36 [Amb] (d_0 : Value) (K : Value → WT) : WT :=
 S.eqv Tryd.prog .eql 28 true d_0 (.pointer none) fun v4 =>
 S.cond v4 (
 K (.slice none 0 0)) (
 S.nc d_0 fun v6 =>
 S.fad v6 1 fun v7 =>
 S.ld v7 fun v8 =>
 CF Tryd.prog 51 [v8] fun v9 =>
 CF Tryd.prog 50 [v9] fun v10 =>
 K v10)
theorem e36 [Amb] (d_0 : Value) (K : Value → WT) : s36 d_0 K = shal Tryd.prog Tryd.f36 .p a36 [d_0] K := by kernel_rfl
theorem c36 [Amb] {d_0 : Value} {K : Value → WT} {w : World} (h : s36 d_0 K w) : CF Tryd.prog 36 [d_0] K w := shal_sound Tryd.func36 (e36 d_0 K ▸ h)
def a37 : Ann := .seq (.z) (.seq (.seq (.z) (.seq (.z) (.cond (.seq (.z) (.z)) (.z)))) (.seq (.z) (.z)))
def s37 [Amb] (d_0 : Value) (K : Value → WT) : WT :=
 CF Tryd.prog 52 [d_0, (I 0)] fun v5 =>
 S.bin .neq v5 (I 0) fun v7 =>
 S.cond v7 (
 K v5) (
 CF Tryd.prog 53 [d_0, (.func (Go.Fn.func 54) #[d_0] #[])] fun v12 =>
 K v12)
theorem e37 [Amb] (d_0 : Value) (K : Value → WT) : s37 d_0 K = shal Tryd.prog Tryd.f37 .p a37 [d_0] K := by kernel_rfl
theorem c37 [Amb] {d_0 : Value} {K : Value → WT} {w : World} (h : s37 d_0 K w) : CF Tryd.prog 37 [d_0] K w := shal_sound Tryd.func37 (e37 d_0 K ▸ h)
def a38 : Ann := .seq (.z) (.seq (.z) (.seq (.seq (.z) (.blk (.loop [0, 4, 17, 18] (.seq (.z) (.seq (.cond (.z) (.z)) (.seq (.blk (.seq (.z) (.seq (.z) (.blk (.loop [0, 4, 6, 17, 18, 22, 23] (.seq (.z) (.seq (.cond (.z) (.z)) (.join [0, 4, 6, 17, 18, 22, 23] (.blk (.seq (.z) (.seq (.draw [0, 1, 2, 3, 4, 5, 6, 7, 8, 9, 10, 11, 12, 13]) (.seq (.z) (.cond (.z) (.z)))))) (.z))))))))) (.z))))))) (.seq (.seq (.z) (.cond (.seq (.z) (.z)) (.z))) (.seq (.z) (.z)))))
def s38 [Amb] (l_0 : Value) (K : Value → WT) : WT :=
 S.nc l_0 fun v11 =>
 S.fad v11 8 fun v12 =>
 S.ld v12 fun v13 =>
 S.nc l_0 fun v15 =>
 S.fad v15 3 fun v16 =>
 S.ldN 4 v16 fun v17 =>
 S.loop 4 (fun K0 => fun l_0' top_4 v17' v18 => S.fa fun _ =>
 S.bin .lss v18 (I 2) fun v19 =>
 S.cond v19 (
 V Tryd.prog (Instr.index 33 v17' v18) fun v20 =>
 S.box 32 (.agg #[(.int .i64 0), (.int .i64 0)]) fun r_6 =>
 S.st 2 r_6 v20 fun _ =>
 S.fad r_6 1 fun v21 =>
 S.ld v21 fun v22 =>
 S.loop 7 (fun K1 => fun l_0'2 top_4' r_6' v17'2 v18' v22' v23 => S.fa fun _ =>
 S.bin .lss v23 v22' fun v24 =>
 S.cond v24 (
 S.join 7 (fun K2 =>
 S.dr <|
 S.nc l_0'2 fun v28 =>
 S.fad v28 0 fun v29 =>
 S.ld v29 fun v30 =>
 S.fad r_6' 0 fun v31 =>
 S.ld v31 fun v32 =>
 S.bin .add v32 v23 fun v34 =>
 CF Tryd.prog 55 [v30, v34] fun v35 =>
 S.ext v35 0 fun v36 =>
 S.ext v35 1 fun v37 =>
 S.len v36 fun v39 =>
 S.bin .eql v39 (I 128) fun v40 =>
 S.cond v40 (
 CF Tryd.prog 56 [v36, (I 0), (I 6)] fun v43 =>
 CF Tryd.prog 56 [v36, (I 122), (I 6)] fun v45 =>
 S.mx top_4' v43 fun m => S.mx m v45 fun v46 =>
 K2 l_0'2 v46 r_6' v17'2 v18' v22' v23) (
 K2 l_0'2 top_4' r_6' v17'2 v18' v22' v23))
 <| fun l_0'3 top_4'2 r_6'2 v17'3 v18'2 v22'2 v23' => S.fa fun _ =>
 S.bin .add v23' (I 1) fun v47 =>
 K1 l_0'3 top_4'2 r_6'2 v17'3 v18'2 v22'2 v47) (
 S.bin .add v18' (I 1) fun v48 =>
 K0 l_0'2 top_4' v17'2 v48))
 [l_0', top_4, r_6, v17', v18, v22, (I 0)]) (
 S.bin .eql top_4 (I 281474976710655) fun v50 =>
 S.cond v50 (
 K (.tuple #[(I 0), (I 6)])) (
 S.bin .add top_4 (I 1) fun v52 =>
 K (.tuple #[v52, (I 0)]))))
 [l_0, v13, v17, (I 0)]
theorem e38 [Amb] (l_0 : Value) (K : Value → WT) : s38 l_0 K = shal Tryd.prog Tryd.f38 .p a38 [l_0] K := by kernel_rfl
theorem c38 [Amb] {l_0 : Value} {K : Value → WT} {w : World} (h : s38 l_0 K w) : CF Tryd.prog 38 [l_0] K w := shal_sound Tryd.func38 (e38 l_0 K ▸ h)
def a39 : Ann := .seq (.z) (.seq (.z) (.seq (.draw [0, 1, 2, 3, 4, 5, 7, 6, 8, 9, 10]) (.join [9] (.seq (.z) (.cond (.z) (.z))) (.seq (.z) (.z)))))
def s39 [Amb] (l_0 area_1 epoch_2 : Value) (K : Value → WT) : WT :=
 CF Tryd.prog 57 [epoch_2] fun v12 =>
 S.ext v12 0 fun v13 =>
 S.ext v12 1 fun v14 =>
 S.dr <|
 S.nc l_0 fun v16 =>
 S.fad v16 2 fun v17 =>
 S.ld v17 fun v18 =>
 S.cvt .u8 area_1 fun v20 =>
 V Tryd.prog (Instr.buildSlice 22 1 #[(0, v20)]) fun v21 =>
 S.rck [S.ld v17 (fun v' _ => v' = v18)] <|
 V Tryd.prog (Builtin.append_ #[22, 22] 22 #[v21, v13]) fun v23 =>
 S.rck [S.ld v17 (fun v' _ => v' = v18)] <|
 CF Tryd.prog 58 [v18, v23] fun v24 =>
 S.join 1 (fun K0 =>
 S.bin .eql v24 (I 0) fun v26 =>
 S.cond v26 (
 S.nc l_0 fun v31 =>
 S.fad v31 7 fun v32 =>
 S.st 1 v32 area_1 fun _ =>
 S.nc l_0 fun v33 =>
 S.fad v33 8 fun v34 =>
 S.st 1 v34 epoch_2 fun _ =>
 K0 v24) (
 K0 v24))
 <| fun e_9 => S.fa fun _ =>
 K e_9
theorem e39 [Amb] (l_0 area_1 epoch_2 : Value) (K : Value → WT) : s39 l_0 area_1 epoch_2 K = shal Tryd.prog Tryd.f39 .p a39 [l_0, area_1, epoch_2] K := by kernel_rfl
theorem c39 [Amb] {l_0 area_1 epoch_2 : Value} {K : Value → WT} {w : World} (h : s39 l_0 area_1 epoch_2 K w) : CF Tryd.prog 39 [l_0, area_1, epoch_2] K w := shal_sound Tryd.func39 (e39 l_0 area_1 epoch_2 K ▸ h)
def a40 : Ann := .seq (.z) (.seq (.z) (.z))
def s40 [Amb] (d_0 : Value) (K : Value → WT) : WT :=
 S.eqv Tryd.prog .neq 28 true d_0 (.pointer none) fun v4 =>
 S.gd v4 true (fun k => k d_0) fun v6 =>
 S.gd v4 true (S.nc v6) fun v7 =>
 S.gd v4 true (S.fad v7 3) fun v8 =>
 S.gd v4 true (S.ld v8) fun v9 =>
 S.pick v4 v9 (B false) fun v10 =>
 K v10
theorem e40 [Amb] (d_0 : Value) (K : Value → WT) : s40 d_0 K = shal Tryd.prog Tryd.f40 .p a40 [d_0] K := by kernel_rfl
theorem c40 [Amb] {d_0 : Value} {K : Value → WT} {w : World} (h : s40 d_0 K w) : CF Tryd.prog 40 [d_0] K w := shal_sound Tryd.func40 (e40 d_0 K ▸ h)
def a41 : Ann := .seq (.z) (.seq (.seq (.z) (.seq (.z) (.cond (.seq (.z) (.z)) (.z)))) (.seq (.seq (.z) (.cond (.seq (.z) (.z)) (.z))) (.seq (.z) (.seq (.z) (.z)))))
def s41 [Amb] (d_0 i_1 b_2 : Value) (K : Value → WT) : WT :=
 S.box 28 d_0 fun d_3 =>
 S.box 3 i_1 fun i_4 =>
 S.ld d_3 fun v9 =>
 S.ld i_4 fun v10 =>
 CF Tryd.prog 52 [v9, v10] fun v11 =>
 S.bin .neq v11 (I 0) fun v13 =>
 S.cond v13 (
 K v11) (
 S.len b_2 fun v16 =>
 S.bin .gtr v16 (I 128) fun v17 =>
 S.cond v17 (
 K (I 6)) (
 CF Tryd.prog 59 [b_2] fun v19 =>
 S.box 22 (.slice none 0 0) fun p_8 =>
 S.st 1 p_8 v19 fun _ =>
 S.ld d_3 fun v20 =>
 CF Tryd.prog 53 [v20, (.func (Go.Fn.func 60) #[] #[p_8, d_3, i_4])] fun v22 =>
 K v22))
theorem e41 [Amb] (d_0 i_1 b_2 : Value) (K : Value → WT) : s41 d_0 i_1 b_2 K = shal Tryd.prog Tryd.f41 .p a41 [d_0, i_1, b_2] K := by kernel_rfl
theorem c41 [Amb] {d_0 i_1 b_2 : Value} {K : Value → WT} {w : World} (h : s41 d_0 i_1 b_2 K w) : CF Tryd.prog 41 [d_0, i_1, b_2] K w := shal_sound Tryd.func41 (e41 d_0 i_1 b_2 K ▸ h)
def a42 : Ann := .seq (.z) (.seq (.drawT 20 (.one 0 (.one 1 (.one 3 (.one 4 (.one 6 (.one 7 (.one 8 (.one 9 (.one 10 (.one 11 (.one 12 (.one 14 (.one 15 (.three 2 (.three 5 (.two 13 (.one 16 (.one 17 (.one 18 (.one 19 .nil)))) 16 (.one 13 (.one 17 (.one 18 (.one 19 .nil))))) 13 (.two 5 (.one 16 (.one 17 (.one 18 (.one 19 .nil)))) 16 (.one 5 (.one 17 (.one 18 (.one 19 .nil))))) 16 (.two 5 (.one 13 (.one 17 (.one 18 (.one 19 .nil)))) 13 (.one 5 (.one 17 (.one 18 (.one 19 .nil)))))) 13 (.two 2 (.two 5 (.one 16 (.one 17 (.one 18 (.one 19 .nil)))) 16 (.one 5 (.one 17 (.one 18 (.one 19 .nil))))) 16 (.one 2 (.one 5 (.one 17 (.one 18 (.one 19 .nil)))))) 16 (.two 2 (.two 5 (.one 13 (.one 17 (.one 18 (.one 19 .nil)))) 13 (.one 5 (.one 17 (.one 18 (.one 19 .nil))))) 13 (.one 2 (.one 5 (.one 17 (.one 18 (.one 19 .nil))))))))))))))))))))) (.seq (.z) (.seq (.draw [0, 1, 5, 6, 2, 3, 4, 7, 8, 9, 10]) (.z))))
def s42 [Amb] (x_0 : Value) (K : Value → WT) : WT :=
 S.box 87 x_0 fun x_1 =>
 S.dr <|
 S.fad x_1 0 fun v4 =>
 S.ld v4 fun v5 =>
 S.fad x_1 1 fun v7 =>
 S.ld v7 fun v8 =>
 S.fad x_1 2 fun v10 =>
 S.ld v10 fun v11 =>
 S.cvt .u8 v11 fun v12 =>
 S.fad x_1 3 fun v13 =>
 S.ld v13 fun v14 =>
 S.lenS v14 fun v15 =>
 S.cvt .u8 v15 fun v16 =>
 S.fad x_1 3 fun v18 =>
 S.ld v18 fun v19 =>
 S.both (
 CF Tryd.prog 62 [v5, (I 6)] fun v6 =>
 S.rck [S.ld v18 (fun v' _ => v' = v19), S.ld v13 (fun v' _ => v' = v14), S.ld v10 (fun v' _ => v' = v11), S.ld v7 (fun v' _ => v' = v8)] <|
 S.both (
 CF Tryd.prog 62 [v8, (I 2)] fun v9 =>
 S.rck [S.ld v18 (fun v' _ => v' = v19), S.ld v13 (fun v' _ => v' = v14), S.ld v10 (fun v' _ => v' = v11)] <|
 S.both (
 V Tryd.prog (Instr.buildSlice 22 2 #[(0, v12), (1, v16)]) fun v17 =>
 S.rck [S.ld v18 (fun v' _ => v' = v19)] <|
 V Tryd.prog (convert 9 22 v19) fun v20 =>
 V Tryd.prog (Instr.buildSlice 30 4 #[(0, v6), (1, v9), (2, v17), (3, v20)]) fun v21 =>
 CF Tryd.prog 61 [v21] fun v22 =>
 S.len v22 fun v25 =>
 S.bin .sub (I 118) v25 fun v26 =>
 V Tryd.prog (Builtin.append_ #[22, 3] 22 #[v22, v26]) fun v27 =>
 S.dr <|
 S.fad x_1 0 fun v33 =>
 S.ld v33 fun v34 =>
 CF Tryd.prog 63 [v27] fun v30 =>
 S.rck [S.ld v33 (fun v' _ => v' = v34)] <|
 S.cvt .i64 v30 fun v31 =>
 CF Tryd.prog 62 [v31, (I 4)] fun v32 =>
 S.rck [S.ld v33 (fun v' _ => v' = v34)] <|
 CF Tryd.prog 62 [v34, (I 6)] fun v35 =>
 V Tryd.prog (Instr.buildSlice 30 3 #[(0, v27), (1, v32), (2, v35)]) fun v36 =>
 CF Tryd.prog 61 [v36] fun v37 =>
 K v37) (
 V Tryd.prog (convert 9 22 v19) fun v20' =>
 S.rck [S.ld v13 (fun v' _ => v' = v14), S.ld v10 (fun v' _ => v' = v11)] <|
 V Tryd.prog (Instr.buildSlice 22 2 #[(0, v12), (1, v16)]) fun v17' =>
 V Tryd.prog (Instr.buildSlice 30 4 #[(0, v6), (1, v9), (2, v17'), (3, v20')]) fun v21' =>
 CF Tryd.prog 61 [v21'] fun v22' =>
 S.len v22' fun v25' =>
 S.bin .sub (I 118) v25' fun v26' =>
 V Tryd.prog (Builtin.append_ #[22, 3] 22 #[v22', v26']) fun v27' =>
 S.dr <|
 S.fad x_1 0 fun v33' =>
 S.ld v33' fun v34' =>
 CF Tryd.prog 63 [v27'] fun v30' =>
 S.rck [S.ld v33' (fun v' _ => v' = v34')] <|
 S.cvt .i64 v30' fun v31' =>
 CF Tryd.prog 62 [v31', (I 4)] fun v32' =>
 S.rck [S.ld v33' (fun v' _ => v' = v34')] <|
 CF Tryd.prog 62 [v34', (I 6)] fun v35' =>
 V Tryd.prog (Instr.buildSlice 30 3 #[(0, v27'), (1, v32'), (2, v35')]) fun v36' =>
 CF Tryd.prog 61 [v36'] fun v37' =>
 K v37')) (
 S.both (
 V Tryd.prog (Instr.buildSlice 22 2 #[(0, v12), (1, v16)]) fun v17'2 =>
 S.rck [S.ld v18 (fun v' _ => v' = v19), S.ld v7 (fun v' _ => v' = v8)] <|
 S.both (
 CF Tryd.prog 62 [v8, (I 2)] fun v9' =>
 S.rck [S.ld v18 (fun v' _ => v' = v19)] <|
 V Tryd.prog (convert 9 22 v19) fun v20'2 =>
 V Tryd.prog (Instr.buildSlice 30 4 #[(0, v6), (1, v9'), (2, v17'2), (3, v20'2)]) fun v21'2 =>
 CF Tryd.prog 61 [v21'2] fun v22'2 =>
 S.len v22'2 fun v25'2 =>
 S.bin .sub (I 118) v25'2 fun v26'2 =>
 V Tryd.prog (Builtin.append_ #[22, 3] 22 #[v22'2, v26'2]) fun v27'2 =>
 S.dr <|
 S.fad x_1 0 fun v33'2 =>
 S.ld v33'2 fun v34'2 =>
 CF Tryd.prog 63 [v27'2] fun v30'2 =>
 S.rck [S.ld v33'2 (fun v' _ => v' = v34'2)] <|
 S.cvt .i64 v30'2 fun v31'2 =>
 CF Tryd.prog 62 [v31'2, (I 4)] fun v32'2 =>
 S.rck [S.ld v33'2 (fun v' _ => v' = v34'2)] <|
 CF Tryd.prog 62 [v34'2, (I 6)] fun v35'2 =>
 V Tryd.prog (Instr.buildSlice 30 3 #[(0, v27'2), (1, v32'2), (2, v35'2)]) fun v36'2 =>
 CF Tryd.prog 61 [v36'2] fun v37'2 =>
 K v37'2) (
 V Tryd.prog (convert 9 22 v19) fun v20'3 =>
 S.rck [S.ld v7 (fun v' _ => v' = v8)] <|
 CF Tryd.prog 62 [v8, (I 2)] fun v9'2 =>
 V Tryd.prog (Instr.buildSlice 30 4 #[(0, v6), (1, v9'2), (2, v17'2), (3, v20'3)]) fun v21'3 =>
 CF Tryd.prog 61 [v21'3] fun v22'3 =>
 S.len v22'3 fun v25'3 =>
 S.bin .sub (I 118) v25'3 fun v26'3 =>
 V Tryd.prog (Builtin.append_ #[22, 3] 22 #[v22'3, v26'3]) fun v27'3 =>
 S.dr <|
 S.fad x_1 0 fun v33'3 =>
 S.ld v33'3 fun v34'3 =>
 CF Tryd.prog 63 [v27'3] fun v30'3 =>
 S.rck [S.ld v33'3 (fun v' _ => v' = v34'3)] <|
 S.cvt .i64 v30'3 fun v31'3 =>
 CF Tryd.prog 62 [v31'3, (I 4)] fun v32'3 =>
 S.rck [S.ld v33'3 (fun v' _ => v' = v34'3)] <|
 CF Tryd.prog 62 [v34'3, (I 6)] fun v35'3 =>
 V Tryd.prog (Instr.buildSlice 30 3 #[(0, v27'3), (1, v32'3), (2, v35'3)]) fun v36'3 =>
 CF Tryd.prog 61 [v36'3] fun v37'3 =>
 K v37'3)) (
 V Tryd.prog (convert 9 22 v19) fun v20'4 =>
 S.rck [S.ld v13 (fun v' _ => v' = v14), S.ld v10 (fun v' _ => v' = v11), S.ld v7 (fun v' _ => v' = v8)] <|
 S.both (
 CF Tryd.prog 62 [v8, (I 2)] fun v9'3 =>
 S.rck [S.ld v13 (fun v' _ => v' = v14), S.ld v10 (fun v' _ => v' = v11)] <|
 V Tryd.prog (Instr.buildSlice 22 2 #[(0, v12), (1, v16)]) fun v17'3 =>
 V Tryd.prog (Instr.buildSlice 30 4 #[(0, v6), (1, v9'3), (2, v17'3), (3, v20'4)]) fun v21'4 =>
 CF Tryd.prog 61 [v21'4] fun v22'4 =>
 S.len v22'4 fun v25'4 =>
 S.bin .sub (I 118) v25'4 fun v26'4 =>
 V Tryd.prog (Builtin.append_ #[22, 3] 22 #[v22'4, v26'4]) fun v27'4 =>
 S.dr <|
 S.fad x_1 0 fun v33'4 =>
 S.ld v33'4 fun v34'4 =>
 CF Tryd.prog 63 [v27'4] fun v30'4 =>
 S.rck [S.ld v33'4 (fun v' _ => v' = v34'4)] <|
 S.cvt .i64 v30'4 fun v31'4 =>
 CF Tryd.prog 62 [v31'4, (I 4)] fun v32'4 =>
 S.rck [S.ld v33'4 (fun v' _ => v' = v34'4)] <|
 CF Tryd.prog 62 [v34'4, (I 6)] fun v35'4 =>
 V Tryd.prog (Instr.buildSlice 30 3 #[(0, v27'4), (1, v32'4), (2, v35'4)]) fun v36'4 =>
 CF Tryd.prog 61 [v36'4] fun v37'4 =>
 K v37'4) (
 V Tryd.prog (Instr.buildSlice 22 2 #[(0, v12), (1, v16)]) fun v17'4 =>
 S.rck [S.ld v7 (fun v' _ => v' = v8)] <|
 CF Tryd.prog 62 [v8, (I 2)] fun v9'4 =>
 V Tryd.prog (Instr.buildSlice 30 4 #[(0, v6), (1, v9'4), (2, v17'4), (3, v20'4)]) fun v21'5 =>
 CF Tryd.prog 61 [v21'5] fun v22'5 =>
 S.len v22'5 fun v25'5 =>
 S.bin .sub (I 118) v25'5 fun v26'5 =>
 V Tryd.prog (Builtin.append_ #[22, 3] 22 #[v22'5, v26'5]) fun v27'5 =>
 S.dr <|
 S.fad x_1 0 fun v33'5 =>
 S.ld v33'5 fun v34'5 =>
 CF Tryd.prog 63 [v27'5] fun v30'5 =>
 S.rck [S.ld v33'5 (fun v' _ => v' = v34'5)] <|
 S.cvt .i64 v30'5 fun v31'5 =>
 CF Tryd.prog 62 [v31'5, (I 4)] fun v32'5 =>
 S.rck [S.ld v33'5 (fun v' _ => v' = v34'5)] <|
 CF Tryd.prog 62 [v34'5, (I 6)] fun v35'5 =>
 V Tryd.prog (Instr.buildSlice 30 3 #[(0, v27'5), (1, v32'5), (2, v35'5)]) fun v36'5 =>
 CF Tryd.prog 61 [v36'5] fun v37'5 =>
 K v37'5)))) (
 S.both (
 V Tryd.prog (Instr.buildSlice 22 2 #[(0, v12), (1, v16)]) fun v17'5 =>
 S.rck [S.ld v18 (fun v' _ => v' = v19), S.ld v7 (fun v' _ => v' = v8), S.ld v4 (fun v' _ => v' = v5)] <|
 S.both (
 CF Tryd.prog 62 [v5, (I 6)] fun v6' =>
 S.rck [S.ld v18 (fun v' _ => v' = v19), S.ld v7 (fun v' _ => v' = v8)] <|
 S.both (
 CF Tryd.prog 62 [v8, (I 2)] fun v9'5 =>
 S.rck [S.ld v18 (fun v' _ => v' = v19)] <|
 V Tryd.prog (convert 9 22 v19) fun v20'5 =>
 V Tryd.prog (Instr.buildSlice 30 4 #[(0, v6'), (1, v9'5), (2, v17'5), (3, v20'5)]) fun v21'6 =>
 CF Tryd.prog 61 [v21'6] fun v22'6 =>
 S.len v22'6 fun v25'6 =>
 S.bin .sub (I 118) v25'6 fun v26'6 =>
 V Tryd.prog (Builtin.append_ #[22, 3] 22 #[v22'6, v26'6]) fun v27'6 =>
 S.dr <|
 S.fad x_1 0 fun v33'6 =>
 S.ld v33'6 fun v34'6 =>
 CF Tryd.prog 63 [v27'6] fun v30'6 =>
 S.rck [S.ld v33'6 (fun v' _ => v' = v34'6)] <|
 S.cvt .i64 v30'6 fun v31'6 =>
 CF Tryd.prog 62 [v31'6, (I 4)] fun v32'6 =>
 S.rck [S.ld v33'6 (fun v' _ => v' = v34'6)] <|
 CF Tryd.prog 62 [v34'6, (I 6)] fun v35'6 =>
 V Tryd.prog (Instr.buildSlice 30 3 #[(0, v27'6), (1, v32'6), (2, v35'6)]) fun v36'6 =>
 CF Tryd.prog 61 [v36'6] fun v37'6 =>
 K v37'6) (
 V Tryd.prog (convert 9 22 v19) fun v20'6 =>
 S.rck [S.ld v7 (fun v' _ => v' = v8)] <|
 CF Tryd.prog 62 [v8, (I 2)] fun v9'6 =>
 V Tryd.prog (Instr.buildSlice 30 4 #[(0, v6'), (1, v9'6), (2, v17'5), (3, v20'6)]) fun v21'7 =>
 CF Tryd.prog 61 [v21'7] fun v22'7 =>
 S.len v22'7 fun v25'7 =>
 S.bin .sub (I 118) v25'7 fun v26'7 =>
 V Tryd.prog (Builtin.append_ #[22, 3] 22 #[v22'7, v26'7]) fun v27'7 =>
 S.dr <|
 S.fad x_1 0 fun v33'7 =>
 S.ld v33'7 fun v34'7 =>
 CF Tryd.prog 63 [v27'7] fun v30'7 =>
 S.rck [S.ld v33'7 (fun v' _ => v' = v34'7)] <|
 S.cvt .i64 v30'7 fun v31'7 =>
 CF Tryd.prog 62 [v31'7, (I 4)] fun v32'7 =>
 S.rck [S.ld v33'7 (fun v' _ => v' = v34'7)] <|
 CF Tryd.prog 62 [v34'7, (I 6)] fun v35'7 =>
 V Tryd.prog (Instr.buildSlice 30 3 #[(0, v27'7), (1, v32'7), (2, v35'7)]) fun v36'7 =>
 CF Tryd.prog 61 [v36'7] fun v37'7 =>
 K v37'7)) (
 V Tryd.prog (convert 9 22 v19) fun v20'7 =>
 S.rck [S.ld v7 (fun v' _ => v' = v8), S.ld v4 (fun v' _ => v' = v5)] <|
 CF Tryd.prog 62 [v5, (I 6)] fun v6'2 =>
 S.rck [S.ld v7 (fun v' _ => v' = v8)] <|
 CF Tryd.prog 62 [v8, (I 2)] fun v9'7 =>
 V Tryd.prog (Instr.buildSlice 30 4 #[(0, v6'2), (1, v9'7), (2, v17'5), (3, v20'7)]) fun v21'8 =>
 CF Tryd.prog 61 [v21'8] fun v22'8 =>
 S.len v22'8 fun v25'8 =>
 S.bin .sub (I 118) v25'8 fun v26'8 =>
 V Tryd.prog (Builtin.append_ #[22, 3] 22 #[v22'8, v26'8]) fun v27'8 =>
 S.dr <|
 S.fad x_1 0 fun v33'8 =>
 S.ld v33'8 fun v34'8 =>
 CF Tryd.prog 63 [v27'8] fun v30'8 =>
 S.rck [S.ld v33'8 (fun v' _ => v' = v34'8)] <|
 S.cvt .i64 v30'8 fun v31'8 =>
 CF Tryd.prog 62 [v31'8, (I 4)] fun v32'8 =>
 S.rck [S.ld v33'8 (fun v' _ => v' = v34'8)] <|
 CF Tryd.prog 62 [v34'8, (I 6)] fun v35'8 =>
 V Tryd.prog (Instr.buildSlice 30 3 #[(0, v27'8), (1, v32'8), (2, v35'8)]) fun v36'8 =>
 CF Tryd.prog 61 [v36'8] fun v37'8 =>
 K v37'8)) (
 V Tryd.prog (convert 9 22 v19) fun v20'8 =>
 S.rck [S.ld v13 (fun v' _ => v' = v14), S.ld v10 (fun v' _ => v' = v11), S.ld v7 (fun v' _ => v' = v8), S.ld v4 (fun v' _ => v' = v5)] <|
 S.both (
 CF Tryd.prog 62 [v5, (I 6)] fun v6'3 =>
 S.rck [S.ld v13 (fun v' _ => v' = v14), S.ld v10 (fun v' _ => v' = v11), S.ld v7 (fun v' _ => v' = v8)] <|
 S.both (
 CF Tryd.prog 62 [v8, (I 2)] fun v9'8 =>
 S.rck [S.ld v13 (fun v' _ => v' = v14), S.ld v10 (fun v' _ => v' = v11)] <|
 V Tryd.prog (Instr.buildSlice 22 2 #[(0, v12), (1, v16)]) fun v17'6 =>
 V Tryd.prog (Instr.buildSlice 30 4 #[(0, v6'3), (1, v9'8), (2, v17'6), (3, v20'8)]) fun v21'9 =>
 CF Tryd.prog 61 [v21'9] fun v22'9 =>
 S.len v22'9 fun v25'9 =>
 S.bin .sub (I 118) v25'9 fun v26'9 =>
 V Tryd.prog (Builtin.append_ #[22, 3] 22 #[v22'9, v26'9]) fun v27'9 =>
 S.dr <|
 S.fad x_1 0 fun v33'9 =>
 S.ld v33'9 fun v34'9 =>
 CF Tryd.prog 63 [v27'9] fun v30'9 =>
 S.rck [S.ld v33'9 (fun v' _ => v' = v34'9)] <|
 S.cvt .i64 v30'9 fun v31'9 =>
 CF Tryd.prog 62 [v31'9, (I 4)] fun v32'9 =>
 S.rck [S.ld v33'9 (fun v' _ => v' = v34'9)] <|
 CF Tryd.prog 62 [v34'9, (I 6)] fun v35'9 =>
 V Tryd.prog (Instr.buildSlice 30 3 #[(0, v27'9), (1, v32'9), (2, v35'9)]) fun v36'9 =>
 CF Tryd.prog 61 [v36'9] fun v37'9 =>
 K v37'9) (
 V Tryd.prog (Instr.buildSlice 22 2 #[(0, v12), (1, v16)]) fun v17'7 =>
 S.rck [S.ld v7 (fun v' _ => v' = v8)] <|
 CF Tryd.prog 62 [v8, (I 2)] fun v9'9 =>
 V Tryd.prog (Instr.buildSlice 30 4 #[(0, v6'3), (1, v9'9), (2, v17'7), (3, v20'8)]) fun v21'10 =>
 CF Tryd.prog 61 [v21'10] fun v22'10 =>
 S.len v22'10 fun v25'10 =>
 S.bin .sub (I 118) v25'10 fun v26'10 =>
 V Tryd.prog (Builtin.append_ #[22, 3] 22 #[v22'10, v26'10]) fun v27'10 =>
 S.dr <|
 S.fad x_1 0 fun v33'10 =>
 S.ld v33'10 fun v34'10 =>
 CF Tryd.prog 63 [v27'10] fun v30'10 =>
 S.rck [S.ld v33'10 (fun v' _ => v' = v34'10)] <|
 S.cvt .i64 v30'10 fun v31'10 =>
 CF Tryd.prog 62 [v31'10, (I 4)] fun v32'10 =>
 S.rck [S.ld v33'10 (fun v' _ => v' = v34'10)] <|
 CF Tryd.prog 62 [v34'10, (I 6)] fun v35'10 =>
 V Tryd.prog (Instr.buildSlice 30 3 #[(0, v27'10), (1, v32'10), (2, v35'10)]) fun v36'10 =>
 CF Tryd.prog 61 [v36'10] fun v37'10 =>
 K v37'10)) (
 V Tryd.prog (Instr.buildSlice 22 2 #[(0, v12), (1, v16)]) fun v17'8 =>
 S.rck [S.ld v7 (fun v' _ => v' = v8), S.ld v4 (fun v' _ => v' = v5)] <|
 CF Tryd.prog 62 [v5, (I 6)] fun v6'4 =>
 S.rck [S.ld v7 (fun v' _ => v' = v8)] <|
 CF Tryd.prog 62 [v8, (I 2)] fun v9'10 =>
 V Tryd.prog (Instr.buildSlice 30 4 #[(0, v6'4), (1, v9'10), (2, v17'8), (3, v20'8)]) fun v21'11 =>
 CF Tryd.prog 61 [v21'11] fun v22'11 =>
 S.len v22'11 fun v25'11 =>
 S.bin .sub (I 118) v25'11 fun v26'11 =>
 V Tryd.prog (Builtin.append_ #[22, 3] 22 #[v22'11, v26'11]) fun v27'11 =>
 S.dr <|
 S.fad x_1 0 fun v33'11 =>
 S.ld v33'11 fun v34'11 =>
 CF Tryd.prog 63 [v27'11] fun v30'11 =>
 S.rck [S.ld v33'11 (fun v' _ => v' = v34'11)] <|
 S.cvt .i64 v30'11 fun v31'11 =>
 CF Tryd.prog 62 [v31'11, (I 4)] fun v32'11 =>
 S.rck [S.ld v33'11 (fun v' _ => v' = v34'11)] <|
 CF Tryd.prog 62 [v34'11, (I 6)] fun v35'11 =>
 V Tryd.prog (Instr.buildSlice 30 3 #[(0, v27'11), (1, v32'11), (2, v35'11)]) fun v36'11 =>
 CF Tryd.prog 61 [v36'11] fun v37'11 =>
 K v37'11)))
theorem e42 [Amb] (x_0 : Value) (K : Value → WT) : s42 x_0 K = shal Tryd.prog Tryd.f42 .p a42 [x_0] K := by kernel_rfl
theorem c42 [Amb] {x_0 : Value} {K : Value → WT} {w : World} (h : s42 x_0 K w) : CF Tryd.prog 42 [x_0] K w := shal_sound Tryd.func42 (e42 x_0 K ▸ h)
def a43 : Ann := .seq (.z) (.seq (.seq (.z) (.cond (.seq (.z) (.z)) (.z))) (.seq (.z) (.z)))
def s43 [Amb] (d_0 : Value) (K : Value → WT) : WT :=
 S.eqv Tryd.prog .eql 28 true d_0 (.pointer none) fun v4 =>
 S.cond v4 (
 K (I 0)) (
 S.nc d_0 fun v6 =>
 S.fad v6 0 fun v7 =>
 S.ld v7 fun v8 =>
 S.len v8 fun v9 =>
 K v9)
theorem e43 [Amb] (d_0 : Value) (K : Value → WT) : s43 d_0 K = shal Tryd.prog Tryd.f43 .p a43 [d_0] K := by kernel_rfl
theorem c43 [Amb] {d_0 : Value} {K : Value → WT} {w : World} (h : s43 d_0 K w) : CF Tryd.prog 43 [d_0] K w := shal_sound Tryd.func43 (e43 d_0 K ▸ h)
def a44 : Ann := .seq (.z) (.seq (.z) (.z))
def s44 [Amb] (a_0 b_1 : Value) (K : Value → WT) : WT :=
 S.box 32 a_0 fun a_2 =>
 S.box 32 b_1 fun b_3 =>
 S.fad a_2 0 fun v5 =>
 S.ld v5 fun v6 =>
 S.fad b_3 0 fun v7 =>
 S.ld v7 fun v8 =>
 S.fad b_3 1 fun v9 =>
 S.ld v9 fun v10 =>
 S.bin .add v8 v10 fun v11 =>
 S.bin .lss v6 v11 fun v12 =>
 S.gd v12 true (S.fad b_3 0) fun v14 =>
 S.gd v12 true (S.ld v14) fun v15 =>
 S.gd v12 true (S.fad a_2 0) fun v16 =>
 S.gd v12 true (S.ld v16) fun v17 =>
 S.gd v12 true (S.fad a_2 1) fun v18 =>
 S.gd v12 true (S.ld v18) fun v19 =>
 S.gd v12 true (S.bin .add v17 v19) fun v20 =>
 S.gd v12 true (S.bin .lss v15 v20) fun v21 =>
 S.pick v12 v21 (B false) fun v22 =>
 K v22
theorem e44 [Amb] (a_0 b_1 : Value) (K : Value → WT) : s44 a_0 b_1 K = shal Tryd.prog Tryd.f44 .p a44 [a_0, b_1] K := by kernel_rfl
theorem c44 [Amb] {a_0 b_1 : Value} {K : Value → WT} {w : World} (h : s44 a_0 b_1 K w) : CF Tryd.prog 44 [a_0, b_1] K w := shal_sound Tryd.func44 (e44 a_0 b_1 K ▸ h)
def a45 : Ann := .seq (.z) (.seq (.blk (.seq (.z) (.cond (.seq (.z) (.z)) (.seq (.draw [0, 1, 2, 3, 5, 6, 7, 8, 4, 9, 10]) (.cond (.seq (.z) (.z)) (.seq (.z) (.cond (.seq (.z) (.z)) (.z)))))))) (.seq (.z) (.z)))
def s45 [Amb] (c_0 : Value) (K : Value → WT) : WT :=
 S.eqv Tryd.prog .eql 64 true c_0 (.pointer none) fun v5 =>
 S.cond v5 (
 K (I 1)) (
 S.dr <|
 S.nc c_0 fun v8 =>
 S.fad v8 0 fun v9 =>
 S.ld v9 fun v10 =>
 S.nc c_0 fun v13 =>
 S.fad v13 2 fun v14 =>
 S.ld v14 fun v15 =>
 CF Tryd.prog 31 [v10] fun v11 =>
 S.rck [S.ld v14 (fun v' _ => v' = v15)] <|
 S.bin .neq v11 v15 fun v16 =>
 S.cond v16 (
 K (I 14)) (
 S.nc c_0 fun v19 =>
 S.fad v19 0 fun v20 =>
 S.ld v20 fun v21 =>
 CF Tryd.prog 40 [v21] fun v22 =>
 S.cond v22 (
 K (I 7)) (
 K (I 0))))
theorem e45 [Amb] (c_0 : Value) (K : Value → WT) : s45 c_0 K = shal Tryd.prog Tryd.f45 .p a45 [c_0] K := by kernel_rfl
theorem c45 [Amb] {c_0 : Value} {K : Value → WT} {w : World} (h : s45 c_0 K w) : CF Tryd.prog 45 [c_0] K w := shal_sound Tryd.func45 (e45 c_0 K ▸ h)
def a46 : Ann := .seq (.z) (.seq (.z) (.seq (.seq (.z) (.blk (.loop [0, 2, 3, 7] (.seq (.z) (.seq (.cond (.z) (.z)) (.seq (.blk (.seq (.z) (.seq (.draw [0, 1, 2, 3, 4, 5, 6, 7, 8, 9, 10, 11, 12, 13, 14, 15]) (.z)))) (.z))))))) (.seq (.z) (.z))))
def s46 [Amb] (c_0 : Value) (K : Value → WT) : WT :=
 S.box 95 (.agg #[(.int .i64 0), (.string ⟨#[]⟩), (.int .i64 0), (.string ⟨#[]⟩)]) fun v2 =>
 S.box 95 (.agg #[(.int .i64 0), (.string ⟨#[]⟩), (.int .i64 0), (.string ⟨#[]⟩)]) fun out_3 =>
 S.loop 4 (fun K0 => fun c_0' v2' out_3' v7 => S.fa fun _ =>
 S.bin .lss v7 (I 2) fun v8 =>
 S.cond v8 (
 S.dr <|
 S.nc c_0' fun v12 =>
 S.fad v12 0 fun v13 =>
 S.ld v13 fun v14 =>
 S.nc c_0' fun v16 =>
 S.fad v16 1 fun v17 =>
 S.ld v17 fun v18 =>
 S.bin .add v18 v7 fun v20 =>
 CF Tryd.prog 55 [v14, v20] fun v21 =>
 S.ext v21 0 fun v22 =>
 S.ext v21 1 fun v23 =>
 CF Tryd.prog 64 [v22] fun v26 =>
 S.ixA 2 2 out_3' v7 fun v27 =>
 S.st 2 v27 v26 fun _ =>
 S.bin .add v7 (I 1) fun v28 =>
 K0 c_0' v2' out_3' v28) (
 S.ldN 4 out_3' fun v29 =>
 S.st 4 v2' v29 fun _ =>
 S.ldN 4 v2' fun v2'2 =>
 K v2'2))
 [c_0, v2, out_3, (I 0)]
theorem e46 [Amb] (c_0 : Value) (K : Value → WT) : s46 c_0 K = shal Tryd.prog Tryd.f46 .p a46 [c_0] K := by kernel_rfl
theorem c46 [Amb] {c_0 : Value} {K : Value → WT} {w : World} (h : s46 c_0 K w) : CF Tryd.prog 46 [c_0] K w := shal_sound Tryd.func46 (e46 c_0 K ▸ h)
def a47 : Ann := .seq (.z) (.seq (.z) (.seq (.blk (.join [1, 5] (.z) (.cond (.seq (.z) (.z)) (.seq (.z) (.cond (.seq (.z) (.z)) (.z)))))) (.seq (.z) (.z))))
def s47 [Amb] (l_0 : Value) (K : Value → WT) : WT :=
 S.box 95 l_0 fun l_1 =>
 V Tryd.prog (Instr.build 94 #[]) fun v4 =>
 S.box 94 (.agg #[(.int .i64 0), (.string ⟨#[]⟩)]) fun none_3 =>
 S.st 2 none_3 v4 fun _ =>
 S.join 2 (fun K0 =>
 S.ixA 2 2 l_1 (I 0) fun v6 =>
 S.ldN 2 v6 fun v7 =>
 S.ldN 2 none_3 fun v8 =>
 S.eqv Tryd.prog .eql 94 false v7 v8 fun v9 =>
 S.gd v9 true (S.ixA 2 2 l_1 (I 1)) fun v11 =>
 S.gd v9 true (S.ldN 2 v11) fun v12 =>
 S.gd v9 true (S.ldN 2 none_3) fun v13 =>
 S.gd v9 true (S.eqv Tryd.prog .eql 94 false v12 v13) fun v14 =>
 S.pick v9 v14 (B false) fun v15 =>
 K0 l_1 v15)
 <| fun l_1' v5 => S.fa fun _ =>
 S.cond v5 (
 K (I (-1))) (
 S.ixA 2 2 l_1' (I 1) fun v17 =>
 S.fad v17 0 fun v18 =>
 S.ld v18 fun v19 =>
 S.ixA 2 2 l_1' (I 0) fun v20 =>
 S.fad v20 0 fun v21 =>
 S.ld v21 fun v22 =>
 S.bin .gtr v19 v22 fun v23 =>
 S.cond v23 (
 K (I 1)) (
 K (I 0)))
theorem e47 [Amb] (l_0 : Value) (K : Value → WT) : s47 l_0 K = shal Tryd.prog Tryd.f47 .p a47 [l_0] K := by kernel_rfl
theorem c47 [Amb] {l_0 : Value} {K : Value → WT} {w : World} (h : s47 l_0 K w) : CF Tryd.prog 47 [l_0] K w := shal_sound Tryd.func47 (e47 l_0 K ▸ h)
def a48 : Ann := .seq (.z) (.seq (.seq (.z) (.blk (.loop [0, 6] (.seq (.z) (.seq (.cond (.z) (.z)) (.seq (.blk (.seq (.z) (.seq (.draw [0, 1, 2, 3, 4, 5, 6, 7, 8, 9, 10, 11, 12, 13, 14, 15]) (.seq (.z) (.cond (.seq (.z) (.z)) (.z)))))) (.z))))))) (.seq (.z) (.z)))
def s48 [Amb] (c_0 : Value) (K : Value → WT) : WT :=
 S.loop 2 (fun K0 => fun c_0' v6 => S.fa fun _ =>
 S.bin .lss v6 (I 2) fun v7 =>
 S.cond v7 (
 S.dr <|
 S.nc c_0' fun v11 =>
 S.fad v11 0 fun v12 =>
 S.ld v12 fun v13 =>
 S.nc c_0' fun v15 =>
 S.fad v15 1 fun v16 =>
 S.ld v16 fun v17 =>
 S.bin .add v17 v6 fun v19 =>
 CF Tryd.prog 55 [v13, v19] fun v20 =>
 S.ext v20 0 fun v21 =>
 S.ext v20 1 fun v22 =>
 CF Tryd.prog 65 [v21, (.func (.func 66) #[] #[])] fun v24 =>
 S.cond v24 (
 K (B false)) (
 S.bin .add v6 (I 1) fun v25 =>
 K0 c_0' v25)) (
 K (B true)))
 [c_0, (I 0)]
theorem e48 [Amb] (c_0 : Value) (K : Value → WT) : s48 c_0 K = shal Tryd.prog Tryd.f48 .p a48 [c_0] K := by kernel_rfl
theorem c48 [Amb] {c_0 : Value} {K : Value → WT} {w : World} (h : s48 c_0 K w) : CF Tryd.prog 48 [c_0] K w := shal_sound Tryd.func48 (e48 c_0 K ▸ h)
def a49 : Ann := .seq (.z) (.seq (.z) (.z))
def s49 [Amb] (l_0 : Value) (K : Value → WT) : WT :=
 S.box 29 l_0 fun l_1 =>
 K (.func (Go.Fn.func 67) #[] #[l_1])
theorem e49 [Amb] (l_0 : Value) (K : Value → WT) : s49 l_0 K = shal Tryd.prog Tryd.f49 .p a49 [l_0] K := by kernel_rfl
theorem c49 [Amb] {l_0 : Value} {K : Value → WT} {w : World} (h : s49 l_0 K w) : CF Tryd.prog 49 [l_0] K w := shal_sound Tryd.func49 (e49 l_0 K ▸ h)
def a50 : Ann := .seq (.z) (.seq (.z) (.seq (.z) (.seq (.z) (.z))))
def s50 [Amb] (seq_0 : Value) (K : Value → WT) : WT :=
 CF Tryd.prog 69 [seq_0] fun v5 =>
 CF Tryd.prog 70 [v5] fun v7 =>
 K v5
theorem e50 [Amb] (seq_0 : Value) (K : Value → WT) : s50 seq_0 K = shal Tryd.prog Tryd.f50 .p a50 [seq_0] K := by kernel_rfl
theorem c50 [Amb] {seq_0 : Value} {K : Value → WT} {w : World} (h : s50 seq_0 K w) : CF Tryd.prog 50 [seq_0] K w := shal_sound Tryd.func50 (e50 seq_0 K ▸ h)
def a51 : Ann := .seq (.z) (.seq (.z) (.z))
def s51 [Amb] (m_0 : Value) (K : Value → WT) : WT :=
 S.box 80 m_0 fun m_1 =>
 K (.func (Go.Fn.func 71) #[] #[m_1])
theorem e51 [Amb] (m_0 : Value) (K : Value → WT) : s51 m_0 K = shal Tryd.prog Tryd.f51 .p a51 [m_0] K := by kernel_rfl
theorem c51 [Amb] {m_0 : Value} {K : Value → WT} {w : World} (h : s51 m_0 K w) : CF Tryd.prog 51 [m_0] K w := shal_sound Tryd.func51 (e51 m_0 K ▸ h)
def a52 : Ann := .seq (.z) (.seq (.blk (.seq (.z) (.cond (.seq (.z) (.z)) (.seq (.z) (.cond (.seq (.z) (.z)) (.join [13] (.z) (.cond (.seq (.z) (.z)) (.z)))))))) (.seq (.z) (.z)))
def s52 [Amb] (d_0 i_1 : Value) (K : Value → WT) : WT :=
 S.eqv Tryd.prog .eql 28 true d_0 (.pointer none) fun v7 =>
 S.cond v7 (
 K (I 1)) (
 S.nc d_0 fun v10 =>
 S.fad v10 3 fun v11 =>
 S.ld v11 fun v12 =>
 S.cond v12 (
 K (I 7)) (
 S.join 1 (fun K0 =>
 S.bin .lss i_1 (I 0) fun v15 =>
 S.gd v15 false (fun k => k i_1) fun v17 =>
 S.gd v15 false (fun k => k d_0) fun v18 =>
 S.gd v15 false (S.nc v18) fun v19 =>
 S.gd v15 false (S.fad v19 0) fun v20 =>
 S.gd v15 false (S.ld v20) fun v21 =>
 S.gd v15 false (S.len v21) fun v22 =>
 S.gd v15 false (S.bin .geq v17 v22) fun v23 =>
 S.pick v15 (B true) v23 fun v24 =>
 K0 v24)
 <| fun v13 => S.fa fun _ =>
 S.cond v13 (
 K (I 2)) (
 K (I 0))))
theorem e52 [Amb] (d_0 i_1 : Value) (K : Value → WT) : s52 d_0 i_1 K = shal Tryd.prog Tryd.f52 .p a52 [d_0, i_1] K := by kernel_rfl
theorem c52 [Amb] {d_0 i_1 : Value} {K : Value → WT} {w : World} (h : s52 d_0 i_1 K w) : CF Tryd.prog 52 [d_0, i_1] K w := shal_sound Tryd.func52 (e52 d_0 i_1 K ▸ h)
def a53 : Ann := .seq (.z) (.seq (.seq (.z) (.seq (.z) (.cond (.seq (.z) (.seq (.z) (.z))) (.z)))) (.seq (.z) (.seq (.z) (.seq (.z) (.z)))))
def s53 [Amb] (d_0 does_1 : Value) (K : Value → WT) : WT :=
 S.nc d_0 fun v6 =>
 S.fad v6 2 fun v7 =>
 S.ld v7 fun v8 =>
 S.bin .sub v8 (I 1) fun v9 =>
 S.nc d_0 fun v10 =>
 S.fad v10 2 fun v11 =>
 S.st 1 v11 v9 fun _ =>
 S.nc d_0 fun v13 =>
 S.fad v13 2 fun v14 =>
 S.ld v14 fun v15 =>
 S.bin .eql v15 (I 0) fun v16 =>
 S.cond v16 (
 S.nc d_0 fun v18 =>
 S.fad v18 3 fun v19 =>
 S.st 1 v19 (B true) fun _ =>
 K (I 7)) (
 S.nc d_0 fun v22 =>
 S.fad v22 2 fun v23 =>
 S.ld v23 fun v24 =>
 S.mx v24 (I 0) fun v25 =>
 S.nc d_0 fun v26 =>
 S.fad v26 2 fun v27 =>
 S.st 1 v27 v25 fun _ =>
 S.cvv Tryd.prog does_1 [] fun v29 =>
 K (I 0))
theorem e53 [Amb] (d_0 does_1 : Value) (K : Value → WT) : s53 d_0 does_1 K = shal Tryd.prog Tryd.f53 .p a53 [d_0, does_1] K := by kernel_rfl
theorem c53 [Amb] {d_0 does_1 : Value} {K : Value → WT} {w : World} (h : s53 d_0 does_1 K w) : CF Tryd.prog 53 [d_0, does_1] K w := shal_sound Tryd.func53 (e53 d_0 does_1 K ▸ h)
def a54 : Ann := .seq (.z) (.blk (.loop [0, 9, 10, 11] (.seq (.z) (.seq (.cond (.z) (.z)) (.seq (.blk (.seq (.z) (.seq (.draw [0, 1, 2, 3, 4, 5, 6, 7, 8, 9, 10, 11, 12]) (.z)))) (.z))))))
def s54 [Amb] (d_0 : Value) (K : Value → WT) : WT :=
 S.nc d_0 fun v5 =>
 S.fad v5 1 fun v6 =>
 S.ld v6 fun v7 =>
 CF Tryd.prog 51 [v7] fun v8 =>
 CF Tryd.prog 50 [v8] fun v9 =>
 S.len v9 fun v10 =>
 S.loop 4 (fun K0 => fun d_0' v9' v10' v11 => S.fa fun _ =>
 S.bin .lss v11 v10' fun v12 =>
 S.cond v12 (
 S.ixS 1 v9' v11 fun v13 =>
 S.ld v13 fun v14 =>
 S.dr <|
 S.nc d_0' fun v16 =>
 S.fad v16 0 fun v17 =>
 S.ld v17 fun v18 =>
 S.nc d_0' fun v21 =>
 S.fad v21 1 fun v22 =>
 S.ld v22 fun v23 =>
 S.lk (.int .i64) (.slice none 0 0) false v23 v14 fun v25 =>
 S.ixS 1 v18 v14 fun v26 =>
 S.st 1 v26 v25 fun _ =>
 S.nc d_0' fun v28 =>
 S.fad v28 1 fun v29 =>
 S.ld v29 fun v30 =>
 V Tryd.prog (Builtin.delete_ #[80, 3] 0 #[v30, v14]) fun _ =>
 S.bin .add v11 (I 1) fun v32 =>
 K0 d_0' v9' v10' v32) (
 K (.tuple #[])))
 [d_0, v9, v10, (I 0)]
theorem e54 [Amb] (d_0 : Value) (K : Value → WT) : s54 d_0 K = shal Tryd.prog Tryd.f54 .p a54 [d_0] K := by kernel_rfl
theorem c54 [Amb] {d_0 : Value} {K : Value → WT} {w : World} (h : s54 d_0 K w) : CF Tryd.prog 54 [d_0] K w := shal_sound Tryd.func54 (e54 d_0 K ▸ h)
def a55 : Ann := .seq (.z) (.seq (.seq (.z) (.seq (.z) (.cond (.seq (.z) (.z)) (.z)))) (.seq (.seq (.z) (.seq (.z) (.cond (.seq (.z) (.z)) (.z)))) (.seq (.z) (.z))))
def s55 [Amb] (d_0 i_1 : Value) (K : Value → WT) : WT :=
 CF Tryd.prog 52 [d_0, i_1] fun v11 =>
 S.bin .neq v11 (I 0) fun v13 =>
 S.cond v13 (
 K (.tuple #[(.slice none 0 0), v11])) (
 S.nc d_0 fun v17 =>
 S.fad v17 1 fun v18 =>
 S.ld v18 fun v19 =>
 S.lk (.int .i64) (.slice none 0 0) true v19 i_1 fun v21 =>
 S.ext v21 0 fun v22 =>
 S.ext v21 1 fun v23 =>
 S.cond v23 (
 CF Tryd.prog 28 [v22] fun v26 =>
 K (.tuple #[v26, (I 0)])) (
 S.nc d_0 fun v28 =>
 S.fad v28 0 fun v29 =>
 S.ld v29 fun v30 =>
 S.ixS 1 v30 i_1 fun v32 =>
 S.ld v32 fun v33 =>
 CF Tryd.prog 28 [v33] fun v34 =>
 K (.tuple #[v34, (I 0)])))
theorem e55 [Amb] (d_0 i_1 : Value) (K : Value → WT) : s55 d_0 i_1 K = shal Tryd.prog Tryd.f55 .p a55 [d_0, i_1] K := by kernel_rfl
theorem c55 [Amb] {d_0 i_1 : Value} {K : Value → WT} {w : World} (h : s55 d_0 i_1 K w) : CF Tryd.prog 55 [d_0, i_1] K w := shal_sound Tryd.func55 (e55 d_0 i_1 K ▸ h)
def a56 : Ann := .seq (.z) (.seq (.z) (.seq (.z) (.z)))
def s56 [Amb] (b_0 at_1 w_2 : Value) (K : Value → WT) : WT :=
 CF Tryd.prog 72 [b_0, at_1, w_2] fun v14 =>
 S.ext v14 0 fun v15 =>
 S.ext v14 1 fun v16 =>
 S.ext v14 2 fun v17 =>
 K v15
theorem e56 [Amb] (b_0 at_1 w_2 : Value) (K : Value → WT) : s56 b_0 at_1 w_2 K = shal Tryd.prog Tryd.f56 .p a56 [b_0, at_1, w_2] K := by kernel_rfl
theorem c56 [Amb] {b_0 at_1 w_2 : Value} {K : Value → WT} {w : World} (h : s56 b_0 at_1 w_2 K w) : CF Tryd.prog 56 [b_0, at_1, w_2] K w := shal_sound Tryd.func56 (e56 b_0 at_1 w_2 K ▸ h)
def a57 : Ann := .seq (.z) (.seq (.seq (.z) (.cond (.seq (.z) (.z)) (.z))) (.seq (.z) (.seq (.blk (.loop [0, 4] (.seq (.seq (.z) (.cond (.z) (.z))) (.seq (.blk (.z)) (.z))))) (.seq (.z) (.z)))))
def s57 [Amb] (n_0 : Value) (K : Value → WT) : WT :=
 CF Tryd.prog 73 [n_0] fun v6 =>
 S.not1 v6 fun v7 =>
 S.cond v7 (
 K (.tuple #[(.slice none 0 0), (I 6)])) (
 S.loop 2 (fun K0 => fun n_0' out_4 => S.fa fun _ =>
 S.bin .geq n_0' (I 128) fun v9 =>
 S.cond v9 (
 S.bin .rem n_0' (I 128) fun v14 =>
 S.cvt .u8 v14 fun v15 =>
 S.bin .add v15 (.int .u8 128) fun v16 =>
 V Tryd.prog (Instr.buildSlice 22 1 #[(0, v16)]) fun v17 =>
 V Tryd.prog (Builtin.append_ #[22, 22] 22 #[out_4, v17]) fun v18 =>
 S.sh .shr n_0' (.int .u64 7) fun v11 =>
 K0 v11 v18) (
 S.cvt .u8 n_0' fun v21 =>
 V Tryd.prog (Instr.buildSlice 22 1 #[(0, v21)]) fun v22 =>
 V Tryd.prog (Builtin.append_ #[22, 22] 22 #[out_4, v22]) fun v23 =>
 K (.tuple #[v23, (I 0)])))
 [n_0, (.slice none 0 0)])
theorem e57 [Amb] (n_0 : Value) (K : Value → WT) : s57 n_0 K = shal Tryd.prog Tryd.f57 .p a57 [n_0] K := by kernel_rfl
theorem c57 [Amb] {n_0 : Value} {K : Value → WT} {w : World} (h : s57 n_0 K w) : CF Tryd.prog 57 [n_0] K w := shal_sound Tryd.func57 (e57 n_0 K ▸ h)
def a58 : Ann := .seq (.z) (.seq (.seq (.z) (.seq (.z) (.cond (.seq (.z) (.z)) (.z)))) (.seq (.z) (.seq (.z) (.join [0, 1, 7, 8] (.seq (.z) (.cond (.z) (.z))) (.seq (.join [0, 1, 7, 8, 32] (.z) (.cond (.seq (.z) (.z)) (.z))) (.seq (.z) (.join [0, 1, 8, 9] (.seq (.z) (.cond (.z) (.z))) (.seq (.seq (.draw [0, 1, 2, 3, 4, 5, 6, 7, 8, 9, 10, 11, 12, 13, 14, 15, 16, 17]) (.seq (.z) (.cond (.seq (.z) (.z)) (.z)))) (.seq (.z) (.z))))))))))
def s58 [Amb] (c_0 p_1 : Value) (K : Value → WT) : WT :=
 CF Tryd.prog 45 [c_0] fun v12 =>
 S.bin .neq v12 (I 0) fun v14 =>
 S.cond v14 (
 K v12) (
 CF Tryd.prog 46 [c_0] fun v17 =>
 S.box 95 (.agg #[(.int .i64 0), (.string ⟨#[]⟩), (.int .i64 0), (.string ⟨#[]⟩)]) fun l_6 =>
 S.st 4 l_6 v17 fun _ =>
 S.ldN 4 l_6 fun v18 =>
 CF Tryd.prog 47 [v18] fun v19 =>
 S.join 4 (fun K0 =>
 S.bin .geq v19 (I 0) fun v21 =>
 S.cond v21 (
 S.ixA 2 2 l_6 v19 fun v23 =>
 S.fad v23 0 fun v24 =>
 S.ld v24 fun v25 =>
 K0 c_0 p_1 v19 v25) (
 K0 c_0 p_1 v19 (I 0)))
 <| fun c_0' p_1' i_7 mark_8 => S.fa fun _ =>
 S.join 5 (fun K1 =>
 S.len p_1' fun v27 =>
 S.bin .gtr v27 (I 100) fun v28 =>
 S.gd v28 false (fun k => k mark_8) fun v30 =>
 S.gd v28 false (S.bin .eql v30 (I 9007199254740991)) fun v31 =>
 S.pick v28 (B true) v31 fun v32 =>
 K1 c_0' p_1' i_7 mark_8 v32)
 <| fun c_0'2 p_1'2 i_7' mark_8' v32' => S.fa fun _ =>
 S.cond v32' (
 K (I 6)) (
 S.join 4 (fun K2 =>
 S.bin .eql i_7' (I 0) fun v34 =>
 S.cond v34 (
 K2 c_0'2 p_1'2 mark_8' (I 1)) (
 K2 c_0'2 p_1'2 mark_8' (I 0)))
 <| fun c_0'3 p_1'3 mark_8'2 other_9 => S.fa fun _ =>
 S.dr <|
 S.nc c_0'3 fun v36 =>
 S.fad v36 0 fun v37 =>
 S.ld v37 fun v38 =>
 S.nc c_0'3 fun v40 =>
 S.fad v40 1 fun v41 =>
 S.ld v41 fun v42 =>
 S.bin .add v42 other_9 fun v44 =>
 S.bin .add mark_8'2 (I 1) fun v46 =>
 S.b2s p_1'3 fun v48 =>
 V Tryd.prog (Instr.build 94 #[(0, v46), (1, v48)]) fun v49 =>
 S.rck [S.ld v41 (fun v' _ => v' = v42), S.ld v37 (fun v' _ => v' = v38)] <|
 CF Tryd.prog 74 [v49] fun v50 =>
 S.rck [S.ld v41 (fun v' _ => v' = v42), S.ld v37 (fun v' _ => v' = v38)] <|
 CF Tryd.prog 41 [v38, v44, v50] fun v51 =>
 S.bin .neq v51 (I 0) fun v53 =>
 S.cond v53 (
 K v51) (
 S.nc c_0'3 fun v56 =>
 S.fad v56 0 fun v57 =>
 S.ld v57 fun v58 =>
 CF Tryd.prog 37 [v58] fun v59 =>
 K v59)))
theorem e58 [Amb] (c_0 p_1 : Value) (K : Value → WT) : s58 c_0 p_1 K = shal Tryd.prog Tryd.f58 .p a58 [c_0, p_1] K := by kernel_rfl
theorem c58 [Amb] {c_0 p_1 : Value} {K : Value → WT} {w : World} (h : s58 c_0 p_1 K w) : CF Tryd.prog 58 [c_0, p_1] K w := shal_sound Tryd.func58 (e58 c_0 p_1 K ▸ h)
def a59 : Ann := .seq (.z) (.seq (.z) (.z))
def s59 [Amb] (b_0 : Value) (K : Value → WT) : WT :=
 CF Tryd.prog 28 [b_0] fun v4 =>
 S.len b_0 fun v6 =>
 S.bin .sub (I 128) v6 fun v7 =>
 V Tryd.prog (Builtin.append_ #[22, 3] 22 #[v4, v7]) fun v8 =>
 K v8
theorem e59 [Amb] (b_0 : Value) (K : Value → WT) : s59 b_0 K = shal Tryd.prog Tryd.f59 .p a59 [b_0] K := by kernel_rfl
theorem c59 [Amb] {b_0 : Value} {K : Value → WT} {w : World} (h : s59 b_0 K w) : CF Tryd.prog 59 [b_0] K w := shal_sound Tryd.func59 (e59 b_0 K ▸ h)
def a60 : Ann := .draw [0, 1, 2, 3, 4, 5, 6]
def s60 [Amb] (v0 v1 v2 : Value) (K : Value → WT) : WT :=
 S.dr <|
 S.ld v1 fun v3 =>
 S.nc v3 fun v4 =>
 S.fad v4 1 fun v5 =>
 S.ld v5 fun v6 =>
 S.ld v2 fun v7 =>
 S.ld v0 fun v8 =>
 U Tryd.prog (Instr.mapUpdate 80 v6 v7 v8) fun _ =>
 K (.tuple #[])
theorem e60 [Amb] (v0 v1 v2 : Value) (K : Value → WT) : s60 v0 v1 v2 K = shal Tryd.prog Tryd.f60 .p a60 [v0, v1, v2] K := by kernel_rfl
theorem c60 [Amb] {v0 v1 v2 : Value} {K : Value → WT} {w : World} (h : s60 v0 v1 v2 K w) : CF Tryd.prog 60 [v0, v1, v2] K w := shal_sound Tryd.func60 (e60 v0 v1 v2 K ▸ h)
def a61 : Ann := .seq (.z) (.seq (.z) (.seq (.seq (.z) (.blk (.loop [0, 3, 9, 10, 11] (.seq (.z) (.seq (.cond (.z) (.z)) (.join [0, 3, 9, 10, 11] (.blk (.seq (.z) (.seq (.z) (.seq (.z) (.cond (.z) (.z)))))) (.z))))))) (.seq (.z) (.seq (.seq (.z) (.blk (.loop [6, 25, 26, 27] (.seq (.z) (.seq (.cond (.z) (.z)) (.seq (.blk (.seq (.z) (.z))) (.z))))))) (.seq (.z) (.z))))))
def s61 [Amb] (slices_0 : Value) (K : Value → WT) : WT :=
 S.len slices_0 fun v10 =>
 S.loop 5 (fun K0 => fun slices_0' size_3 v9 v10' v11 => S.fa fun _ =>
 S.bin .lss v11 v10' fun v12 =>
 S.cond v12 (
 S.join 5 (fun K1 =>
 S.ixS 1 v9 v11 fun v13 =>
 S.ld v13 fun v14 =>
 S.len v14 fun v17 =>
 S.bin .add size_3 v17 fun v18 =>
 S.bin .lss v18 (I 0) fun v20 =>
 S.cond v20 (
 S.pan (.iface 9 (.string ⟨#[108, 101, 110, 32, 111, 117, 116, 32, 111, 102, 32, 114, 97, 110, 103, 101]⟩))) (
 K1 slices_0' v18 v9 v10' v11))
 <| fun slices_0'2 size_3' v9' v10'2 v11' => S.fa fun _ =>
 S.bin .add v11' (I 1) fun v22 =>
 K0 slices_0'2 size_3' v9' v10'2 v22) (
 CF Tryd.prog 75 [(.slice none 0 0), size_3] fun v24 =>
 S.len slices_0' fun v26 =>
 S.loop 4 (fun K2 => fun newslice_6 v25 v26' v27 => S.fa fun _ =>
 S.bin .lss v27 v26' fun v28 =>
 S.cond v28 (
 S.ixS 1 v25 v27 fun v29 =>
 S.ld v29 fun v30 =>
 V Tryd.prog (Builtin.append_ #[22, 22] 22 #[newslice_6, v30]) fun v33 =>
 S.bin .add v27 (I 1) fun v34 =>
 K2 v33 v25 v26' v34) (
 K newslice_6))
 [v24, slices_0', v26, (I 0)]))
 [slices_0, (I 0), slices_0, v10, (I 0)]
theorem e61 [Amb] (slices_0 : Value) (K : Value → WT) : s61 slices_0 K = shal Tryd.prog Tryd.f61 .p a61 [slices_0] K := by kernel_rfl
theorem c61 [Amb] {slices_0 : Value} {K : Value → WT} {w : World} (h : s61 slices_0 K w) : CF Tryd.prog 61 [slices_0] K w := shal_sound Tryd.func61 (e61 slices_0 K ▸ h)
def a62 : Ann := .seq (.z) (.seq (.z) (.seq (.z) (.z)))
def s62 [Amb] (n_0 w_1 : Value) (K : Value → WT) : WT :=
 CF Tryd.prog 76 [n_0, w_1] fun v10 =>
 S.ext v10 0 fun v11 =>
 S.ext v10 1 fun v12 =>
 K v11
theorem e62 [Amb] (n_0 w_1 : Value) (K : Value → WT) : s62 n_0 w_1 K = shal Tryd.prog Tryd.f62 .p a62 [n_0, w_1] K := by kernel_rfl
theorem c62 [Amb] {n_0 w_1 : Value} {K : Value → WT} {w : World} (h : s62 n_0 w_1 K w) : CF Tryd.prog 62 [n_0, w_1] K w := shal_sound Tryd.func62 (e62 n_0 w_1 K ▸ h)
def a63 : Ann := .seq (.z) (.seq (.z) (.z))
def s63 [Amb] (p_0 : Value) (K : Value → WT) : WT :=
 CF Tryd.prog 77 [(.int .u32 0), p_0] fun v4 =>
 K v4
theorem e63 [Amb] (p_0 : Value) (K : Value → WT) : s63 p_0 K = shal Tryd.prog Tryd.f63 .p a63 [p_0] K := by kernel_rfl
theorem c63 [Amb] {p_0 : Value} {K : Value → WT} {w : World} (h : s63 p_0 K w) : CF Tryd.prog 63 [p_0] K w := shal_sound Tryd.func63 (e63 p_0 K ▸ h)
def a64 : Ann := .seq (.z) (.seq (.join [0, 2, 15] (.z) (.cond (.seq (.z) (.z)) (.z))) (.seq (.z) (.seq (.z) (.seq (.join [2, 6, 45] (.z) (.cond (.seq (.z) (.z)) (.z))) (.seq (.z) (.z))))))
def s64 [Amb] (b_0 : Value) (K : Value → WT) : WT :=
 S.box 94 (.agg #[(.int .i64 0), (.string ⟨#[]⟩)]) fun v2 =>
 S.join 3 (fun K0 =>
 S.len b_0 fun v8 =>
 S.bin .neq v8 (I 128) fun v9 =>
 S.gd v9 false (fun k => k b_0) fun v11 =>
 S.gd v9 false (S.ixS 1 v11 (I 8)) fun v12 =>
 S.gd v9 false (S.ld v12) fun v13 =>
 S.gd v9 false (S.bin .gtr v13 (.int .u8 100)) fun v14 =>
 S.pick v9 (B true) v14 fun v15 =>
 K0 b_0 v2 v15)
 <| fun b_0' v2' v15' => S.fa fun _ =>
 S.cond v15' (
 V Tryd.prog (Instr.build 94 #[]) fun v16 =>
 S.st 2 v2' v16 fun _ =>
 S.ldN 2 v2' fun v2'2 =>
 K v2'2) (
 CF Tryd.prog 72 [b_0', (I 0), (I 8)] fun v19 =>
 S.ext v19 0 fun v20 =>
 S.ext v19 1 fun v21 =>
 S.ext v19 2 fun v22 =>
 S.ixS 1 b_0' (I 8) fun v26 =>
 S.ld v26 fun v27 =>
 S.cvt .i64 v27 fun v28 =>
 S.bin .add (I 9) v28 fun v29 =>
 S.slc 1 b_0' (some (I 9)) (some v29) none fun v30 =>
 S.b2s v30 fun v31 =>
 V Tryd.prog (Instr.build 94 #[(0, v20), (1, v31)]) fun v32 =>
 S.box 94 (.agg #[(.int .i64 0), (.string ⟨#[]⟩)]) fun x_6 =>
 S.st 2 x_6 v32 fun _ =>
 S.join 3 (fun K1 =>
 S.bin .neq v22 (I 0) fun v34 =>
 S.gd v34 false (fun k => k v20) fun v36 =>
 S.gd v34 false (S.bin .eql v36 (I 0)) fun v37 =>
 S.pick v34 (B true) v37 fun v38 =>
 S.gd v38 false (S.ldN 2 x_6) fun v40 =>
 S.gd v38 false (CF Tryd.prog 74 [v40]) fun v41 =>
 S.gd v38 false (fun k => k b_0') fun v42 =>
 S.gd v38 false (CF Tryd.prog 78 [v41, v42]) fun v43 =>
 S.gd v38 false (S.not1 v43) fun v44 =>
 S.pick v38 (B true) v44 fun v45 =>
 K1 v2' x_6 v45)
 <| fun v2'3 x_6' v45' => S.fa fun _ =>
 S.cond v45' (
 V Tryd.prog (Instr.build 94 #[]) fun v46 =>
 S.st 2 v2'3 v46 fun _ =>
 S.ldN 2 v2'3 fun v2'4 =>
 K v2'4) (
 S.ldN 2 x_6' fun v47 =>
 S.st 2 v2'3 v47 fun _ =>
 S.ldN 2 v2'3 fun v2'5 =>
 K v2'5))
theorem e64 [Amb] (b_0 : Value) (K : Value → WT) : s64 b_0 K = shal Tryd.prog Tryd.f64 .p a64 [b_0] K := by kernel_rfl
theorem c64 [Amb] {b_0 : Value} {K : Value → WT} {w : World} (h : s64 b_0 K w) : CF Tryd.prog 64 [b_0] K w := shal_sound Tryd.func64 (e64 b_0 K ▸ h)
def a65 : Ann := .seq (.z) (.seq (.z) (.z))
def s65 [Amb] (b_0 f_1 : Value) (K : Value → WT) : WT :=
 CF Tryd.prog 79 [b_0, f_1] fun v7 =>
 S.bin .geq v7 (I 0) fun v8 =>
 K v8
theorem e65 [Amb] (b_0 f_1 : Value) (K : Value → WT) : s65 b_0 f_1 K = shal Tryd.prog Tryd.f65 .p a65 [b_0, f_1] K := by kernel_rfl
theorem c65 [Amb] {b_0 f_1 : Value} {K : Value → WT} {w : World} (h : s65 b_0 f_1 K w) : CF Tryd.prog 65 [b_0, f_1] K w := shal_sound Tryd.func65 (e65 b_0 f_1 K ▸ h)
def a66 : Ann := .seq (.z) (.seq (.z) (.z))
def s66 [Amb] (r_0 : Value) (K : Value → WT) : WT :=
 S.bin .neq r_0 (.int .i32 0) fun v4 =>
 K v4
theorem e66 [Amb] (r_0 : Value) (K : Value → WT) : s66 r_0 K = shal Tryd.prog Tryd.f66 .p a66 [r_0] K := by kernel_rfl
theorem c66 [Amb] {r_0 : Value} {K : Value → WT} {w : World} (h : s66 r_0 K w) : CF Tryd.prog 66 [r_0] K w := shal_sound Tryd.func66 (e66 r_0 K ▸ h)
def a67 : Ann := .seq (.draw [0, 1, 2, 3, 4, 5, 6, 7, 8, 9, 10]) (.seq (.z) (.blk (.loop [0, 1, 3, 19, 20] (.seq (.z) (.seq (.cond (.z) (.z)) (.seq (.blk (.seq (.z) (.seq (.draw [0, 1, 2, 3, 4, 5, 6, 7, 8, 9, 10, 11, 12, 13]) (.seq (.z) (.join [0, 1, 3, 19, 20, 53] (.z) (.cond (.z) (.z))))))) (.z)))))))
def s67 [Amb] (yield_0 v1 : Value) (K : Value → WT) : WT :=
 S.dr <|
 S.ld v1 fun v9 =>
 S.ld v1 fun v10 =>
 S.nc v10 fun v11 =>
 S.fad v11 7 fun v12 =>
 S.ld v12 fun v13 =>
 S.nc v9 fun v14 =>
 S.fad v14 3 fun v15 =>
 S.ixA 2 2 v15 v13 fun v16 =>
 S.ldN 2 v16 fun v17 =>
 S.box 32 (.agg #[(.int .i64 0), (.int .i64 0)]) fun r_3 =>
 S.rck [S.ldN 2 v16 (fun v' _ => v' = v17), S.ld v12 (fun v' _ => v' = v13), S.ld v1 (fun v' _ => v' = v10), S.ld v1 (fun v' _ => v' = v9)] <|
 S.st 2 r_3 v17 fun _ =>
 S.fad r_3 1 fun v18 =>
 S.ld v18 fun v19 =>
 S.loop 5 (fun K0 => fun yield_0' v1' r_3' v19' v20 => S.fa fun _ =>
 S.bin .lss v20 v19' fun v21 =>
 S.cond v21 (
 S.dr <|
 S.ld v1' fun v24 =>
 S.nc v24 fun v25 =>
 S.fad v25 0 fun v26 =>
 S.ld v26 fun v27 =>
 S.fad r_3' 0 fun v28 =>
 S.ld v28 fun v29 =>
 S.bin .add v29 v20 fun v31 =>
 CF Tryd.prog 55 [v27, v31] fun v32 =>
 S.ext v32 0 fun v33 =>
 S.ext v32 1 fun v34 =>
 S.ld v1' fun v37 =>
 S.nc v37 fun v38 =>
 S.fad v38 8 fun v39 =>
 S.ld v39 fun v40 =>
 CF Tryd.prog 68 [v33, v40, v20] fun v42 =>
 S.ext v42 0 fun v43 =>
 S.ext v42 1 fun v44 =>
 S.box 87 (.agg #[(.int .i64 0), (.int .i64 0), (.int .i64 0), (.string ⟨#[]⟩)]) fun x_7 =>
 S.st 4 x_7 v43 fun _ =>
 S.join 6 (fun K1 =>
 S.not1 v44 fun v46 =>
 S.gd v46 false (fun k => k yield_0') fun v48 =>
 S.gd v46 false (fun k => k v20) fun v49 =>
 S.gd v46 false (S.ldN 4 x_7) fun v50 =>
 S.gd v46 false (S.cvv Tryd.prog v48 [v49, v50]) fun v51 =>
 S.gd v46 false (S.not1 v51) fun v52 =>
 S.pick v46 (B true) v52 fun v53 =>
 K1 yield_0' v1' r_3' v19' v20 v53)
 <| fun yield_0'2 v1'2 r_3'2 v19'2 v20' v53' => S.fa fun _ =>
 S.cond v53' (
 K (.tuple #[])) (
 S.bin .add v20' (I 1) fun v54 =>
 K0 yield_0'2 v1'2 r_3'2 v19'2 v54)) (
 K (.tuple #[])))
 [yield_0, v1, r_3, v19, (I 0)]
theorem e67 [Amb] (yield_0 v1 : Value) (K : Value → WT) : s67 yield_0 v1 K = shal Tryd.prog Tryd.f67 .p a67 [yield_0, v1] K := by kernel_rfl
theorem c67 [Amb] {yield_0 v1 : Value} {K : Value → WT} {w : World} (h : s67 yield_0 v1 K w) : CF Tryd.prog 67 [yield_0, v1] K w := shal_sound Tryd.func67 (e67 yield_0 v1 K ▸ h)
def a68 : Ann := .seq (.z) (.seq (.join [0, 1, 2, 6, 23] (.z) (.cond (.seq (.z) (.z)) (.z))) (.seq (.drawT 17 (.one 0 (.one 1 (.one 2 (.one 3 (.one 4 (.one 5 (.one 6 (.one 7 (.one 8 (.one 9 (.one 10 (.one 11 (.one 12 (.one 13 (.two 14 (.one 15 (.one 16 .nil)) 15 (.one 14 (.one 16 .nil)))))))))))))))))) (.seq (.draw [0, 1, 2, 3, 4, 5, 6, 7, 8, 9, 10, 12, 11, 13, 14, 15, 16]) (.z))))
def s68 [Amb] (b_0 epoch_1 number_2 : Value) (K : Value → WT) : WT :=
 S.box 87 (.agg #[(.int .i64 0), (.int .i64 0), (.int .i64 0), (.string ⟨#[]⟩)]) fun v6 =>
 S.join 5 (fun K0 =>
 S.len b_0 fun v10 =>
 S.bin .neq v10 (I 128) fun v11 =>
 S.gd v11 false (fun k => k b_0) fun v13 =>
 S.gd v11 false (S.ixS 1 v13 (I 9)) fun v14 =>
 S.gd v11 false (S.ld v14) fun v15 =>
 S.gd v11 false (S.bin .lss v15 (.int .u8 1)) fun v16 =>
 S.pick v11 (B true) v16 fun v17 =>
 S.gd v17 false (fun k => k b_0) fun v19 =>
 S.gd v17 false (S.ixS 1 v19 (I 9)) fun v20 =>
 S.gd v17 false (S.ld v20) fun v21 =>
 S.gd v17 false (S.bin .gtr v21 (.int .u8 108)) fun v22 =>
 S.pick v17 (B true) v22 fun v23 =>
 K0 b_0 epoch_1 number_2 v6 v23)
 <| fun b_0' epoch_1' number_2' v6' v23' => S.fa fun _ =>
 S.cond v23' (
 V Tryd.prog (Instr.build 87 #[]) fun v24 =>
 S.st 4 v6' v24 fun _ =>
 S.ldN 4 v6' fun v6'2 =>
 K (.tuple #[v6'2, (B false)])) (
 S.dr <|
 S.ixS 1 b_0' (I 8) fun v28 =>
 S.ld v28 fun v29 =>
 S.cvt .i64 v29 fun v30 =>
 S.ixS 1 b_0' (I 9) fun v33 =>
 S.ld v33 fun v34 =>
 S.cvt .i64 v34 fun v35 =>
 S.bin .add (I 10) v35 fun v36 =>
 S.slc 1 b_0' (some (I 10)) (some v36) none fun v37 =>
 S.b2s v37 fun v38 =>
 S.both (
 V Tryd.prog (Instr.build 87 #[(0, epoch_1'), (1, number_2'), (2, v30), (3, v38)]) fun v39 =>
 S.box 87 (.agg #[(.int .i64 0), (.int .i64 0), (.int .i64 0), (.string ⟨#[]⟩)]) fun x_8 =>
 S.st 4 x_8 v39 fun _ =>
 S.dr <|
 S.ldN 4 x_8 fun v40 =>
 S.fad x_8 2 fun v41 =>
 S.ld v41 fun v42 =>
 S.bin .geq v42 (I 1) fun v43 =>
 S.gd v43 true (S.fad x_8 2) fun v45 =>
 S.gd v43 true (S.ld v45) fun v46 =>
 S.gd v43 true (S.bin .leq v46 (I 4)) fun v47 =>
 S.pick v43 v47 (B false) fun v48 =>
 S.gd v48 true (S.ldN 4 x_8) fun v50 =>
 S.gd v48 true (fun k => k b_0') fun v52 =>
 S.gd v48 true (CF Tryd.prog 42 [v50]) fun v51 =>
 S.rck [S.ldN 4 x_8 (fun v' _ => v' = v40)] <|
 S.gd v48 true (CF Tryd.prog 80 [v51, v52]) fun v53 =>
 S.rck [S.ldN 4 x_8 (fun v' _ => v' = v40)] <|
 S.pick v48 v53 (B false) fun v54 =>
 S.st 4 v6' v40 fun _ =>
 S.ldN 4 v6' fun v6'3 =>
 K (.tuple #[v6'3, v54])) (
 S.box 87 (.agg #[(.int .i64 0), (.int .i64 0), (.int .i64 0), (.string ⟨#[]⟩)]) fun x_8' =>
 S.rck [S.b2s v37 (fun v' _ => v' = v38), S.ld v33 (fun v' _ => v' = v34), S.ld v28 (fun v' _ => v' = v29)] <|
 V Tryd.prog (Instr.build 87 #[(0, epoch_1'), (1, number_2'), (2, v30), (3, v38)]) fun v39' =>
 S.st 4 x_8' v39' fun _ =>
 S.dr <|
 S.ldN 4 x_8' fun v40' =>
 S.fad x_8' 2 fun v41' =>
 S.ld v41' fun v42' =>
 S.bin .geq v42' (I 1) fun v43' =>
 S.gd v43' true (S.fad x_8' 2) fun v45' =>
 S.gd v43' true (S.ld v45') fun v46' =>
 S.gd v43' true (S.bin .leq v46' (I 4)) fun v47' =>
 S.pick v43' v47' (B false) fun v48' =>
 S.gd v48' true (S.ldN 4 x_8') fun v50' =>
 S.gd v48' true (fun k => k b_0') fun v52' =>
 S.gd v48' true (CF Tryd.prog 42 [v50']) fun v51' =>
 S.rck [S.ldN 4 x_8' (fun v' _ => v' = v40')] <|
 S.gd v48' true (CF Tryd.prog 80 [v51', v52']) fun v53' =>
 S.rck [S.ldN 4 x_8' (fun v' _ => v' = v40')] <|
 S.pick v48' v53' (B false) fun v54' =>
 S.st 4 v6' v40' fun _ =>
 S.ldN 4 v6' fun v6'4 =>
 K (.tuple #[v6'4, v54'])))
theorem e68 [Amb] (b_0 epoch_1 number_2 : Value) (K : Value → WT) : s68 b_0 epoch_1 number_2 K = shal Tryd.prog Tryd.f68 .p a68 [b_0, epoch_1, number_2] K := by kernel_rfl
theorem c68 [Amb] {b_0 epoch_1 number_2 : Value} {K : Value → WT} {w : World} (h : s68 b_0 epoch_1 number_2 K w) : CF Tryd.prog 68 [b_0, epoch_1, number_2] K w := shal_sound Tryd.func68 (e68 b_0 epoch_1 number_2 K ▸ h)
def a69 : Ann := .seq (.z) (.seq (.z) (.z))
def s69 [Amb] (seq_0 : Value) (K : Value → WT) : WT :=
 CF Tryd.prog 81 [(.slice none 0 0), seq_0] fun v4 =>
 K v4
theorem e69 [Amb] (seq_0 : Value) (K : Value → WT) : s69 seq_0 K = shal Tryd.prog Tryd.f69 .p a69 [seq_0] K := by kernel_rfl
theorem c69 [Amb] {seq_0 : Value} {K : Value → WT} {w : World} (h : s69 seq_0 K w) : CF Tryd.prog 69 [seq_0] K w := shal_sound Tryd.func69 (e69 seq_0 K ▸ h)
def a71 : Ann := .seq (.z) (.blk (.loop [0, 5] (.seq (.z) (.seq (.cond (.z) (.z)) (.blk (.seq (.z) (.seq (.z) (.cond (.z) (.z)))))))))
def s71 [Amb] (yield_0 v1 : Value) (K : Value → WT) : WT :=
 S.ld v1 fun v4 =>
 V Tryd.prog (Instr.range 80 v4) fun v5 =>
 S.loop 2 (fun K0 => fun yield_0' v5' => S.fa fun _ =>
 V Tryd.prog (Instr.next v5' false 0) fun v6 =>
 S.ext v6 0 fun v7 =>
 S.cond v7 (
 V Tryd.prog (Instr.entry v5') fun v8 =>
 S.ext v8 0 fun v9 =>
 S.cvv Tryd.prog yield_0' [v9] fun v12 =>
 S.not1 v12 fun v13 =>
 S.cond v13 (
 K (.tuple #[])) (
 K0 yield_0' v5')) (
 K (.tuple #[])))
 [yield_0, v5]
theorem e71 [Amb] (yield_0 v1 : Value) (K : Value → WT) : s71 yield_0 v1 K = shal Tryd.prog Tryd.f71 .p a71 [yield_0, v1] K := by kernel_rfl
theorem c71 [Amb] {yield_0 v1 : Value} {K : Value → WT} {w : World} (h : s71 yield_0 v1 K w) : CF Tryd.prog 71 [yield_0, v1] K w := shal_sound Tryd.func71 (e71 yield_0 v1 K ▸ h)
def a72 : Ann := .seq (.z) (.seq (.blk (.join [0, 1, 2, 12] (.z) (.cond (.seq (.z) (.z)) (.seq (.z) (.cond (.seq (.z) (.z)) (.z)))))) (.seq (.z) (.seq (.seq (.z) (.blk (.loop [1, 2, 9, 41, 42, 43] (.seq (.z) (.seq (.cond (.z) (.z)) (.seq (.blk (.seq (.z) (.z))) (.z))))))) (.seq (.seq (.z) (.cond (.seq (.z) (.z)) (.z))) (.seq (.z) (.z))))))
def s72 [Amb] (b_0 at_1 width_2 : Value) (K : Value → WT) : WT :=
 S.join 4 (fun K0 =>
 S.bin .lss width_2 (I 1) fun v14 =>
 S.gd v14 false (fun k => k width_2) fun v16 =>
 S.gd v14 false (S.bin .gtr v16 (I 8)) fun v17 =>
 S.pick v14 (B true) v17 fun v18 =>
 S.gd v18 false (fun k => k at_1) fun v20 =>
 S.gd v18 false (S.bin .lss v20 (I 0)) fun v21 =>
 S.pick v18 (B true) v21 fun v22 =>
 S.gd v22 false (fun k => k at_1) fun v24 =>
 S.gd v22 false (fun k => k b_0) fun v25 =>
 S.gd v22 false (S.len v25) fun v26 =>
 S.gd v22 false (S.bin .gtr v24 v26) fun v27 =>
 S.pick v22 (B true) v27 fun v28 =>
 K0 b_0 at_1 width_2 v28)
 <| fun b_0' at_1' width_2' v12 => S.fa fun _ =>
 S.cond v12 (
 K (.tuple #[(I 0), (I 0), (I 2)])) (
 S.len b_0' fun v31 =>
 S.bin .sub v31 at_1' fun v33 =>
 S.bin .lss v33 width_2' fun v35 =>
 S.cond v35 (
 K (.tuple #[(I 0), (I 0), (I 3)])) (
 S.bin .add at_1' width_2' fun v40 =>
 S.slc 1 b_0' (some at_1') (some v40) none fun v41 =>
 S.len v41 fun v42 =>
 S.loop 6 (fun K1 => fun at_1'2 width_2'2 n_9 v41' v42' v43 => S.fa fun _ =>
 S.bin .lss v43 v42' fun v44 =>
 S.cond v44 (
 S.ixS 1 v41' v43 fun v45 =>
 S.ld v45 fun v46 =>
 S.sh .shl n_9 (.int .u64 8) fun v48 =>
 S.cvt .u64 v46 fun v50 =>
 S.bin .or v48 v50 fun v51 =>
 S.bin .add v43 (I 1) fun v52 =>
 K1 at_1'2 width_2'2 v51 v41' v42' v52) (
 S.bin .gtr n_9 (.int .u64 9007199254740991) fun v54 =>
 S.cond v54 (
 K (.tuple #[(I 0), (I 0), (I 6)])) (
 S.cvt .i64 n_9 fun v56 =>
 S.bin .add at_1'2 width_2'2 fun v59 =>
 K (.tuple #[v56, v59, (I 0)]))))
 [at_1', width_2', (.int .u64 0), v41, v42, (I 0)]))
theorem e72 [Amb] (b_0 at_1 width_2 : Value) (K : Value → WT) : s72 b_0 at_1 width_2 K = shal Tryd.prog Tryd.f72 .p a72 [b_0, at_1, width_2] K := by kernel_rfl
theorem c72 [Amb] {b_0 at_1 width_2 : Value} {K : Value → WT} {w : World} (h : s72 b_0 at_1 width_2 K w) : CF Tryd.prog 72 [b_0, at_1, width_2] K w := shal_sound Tryd.func72 (e72 b_0 at_1 width_2 K ▸ h)
def a73 : Ann := .seq (.z) (.seq (.z) (.z))
def s73 [Amb] (n_0 : Value) (K : Value → WT) : WT :=
 S.bin .geq n_0 (I 0) fun v4 =>
 S.gd v4 true (fun k => k n_0) fun v6 =>
 S.gd v4 true (S.bin .leq v6 (I 9007199254740991)) fun v7 =>
 S.pick v4 v7 (B false) fun v8 =>
 K v8
theorem e73 [Amb] (n_0 : Value) (K : Value → WT) : s73 n_0 K = shal Tryd.prog Tryd.f73 .p a73 [n_0] K := by kernel_rfl
theorem c73 [Amb] {n_0 : Value} {K : Value → WT} {w : World} (h : s73 n_0 K w) : CF Tryd.prog 73 [n_0] K w := shal_sound Tryd.func73 (e73 n_0 K ▸ h)
def a74 : Ann := .seq (.z) (.seq (.z) (.seq (.draw [0, 1, 2, 3, 4, 5, 8, 9, 6, 7, 10, 11]) (.seq (.z) (.seq (.z) (.seq (.z) (.z))))))
def s74 [Amb] (x_0 : Value) (K : Value → WT) : WT :=
 S.box 94 x_0 fun x_1 =>
 S.fad x_1 0 fun v9 =>
 S.ld v9 fun v10 =>
 CF Tryd.prog 76 [v10, (I 8)] fun v11 =>
 S.ext v11 0 fun v12 =>
 S.ext v11 1 fun v13 =>
 S.dr <|
 S.slc 1 v12 none (some (I 8)) (some (I 8)) fun v15 =>
 S.fad x_1 1 fun v16 =>
 S.ld v16 fun v17 =>
 S.lenS v17 fun v18 =>
 S.cvt .u8 v18 fun v19 =>
 S.fad x_1 1 fun v22 =>
 S.ld v22 fun v23 =>
 V Tryd.prog (Instr.buildSlice 22 1 #[(0, v19)]) fun v20 =>
 S.rck [S.ld v22 (fun v' _ => v' = v23)] <|
 V Tryd.prog (Builtin.append_ #[22, 22] 22 #[v15, v20]) fun v21 =>
 S.rck [S.ld v22 (fun v' _ => v' = v23)] <|
 V Tryd.prog (Builtin.append_ #[22, 9] 22 #[v21, v23]) fun v24 =>
 S.len v24 fun v27 =>
 S.bin .sub (I 116) v27 fun v28 =>
 V Tryd.prog (Builtin.append_ #[22, 3] 22 #[v24, v28]) fun v29 =>
 CF Tryd.prog 63 [v29] fun v32 =>
 S.cvt .i64 v32 fun v33 =>
 CF Tryd.prog 76 [v33, (I 4)] fun v34 =>
 S.ext v34 0 fun v35 =>
 S.ext v34 1 fun v36 =>
 V Tryd.prog (Builtin.append_ #[22, 22] 22 #[v29, v35]) fun v39 =>
 V Tryd.prog (Builtin.append_ #[22, 22] 22 #[v39, v12]) fun v41 =>
 K v41
theorem e74 [Amb] (x_0 : Value) (K : Value → WT) : s74 x_0 K = shal Tryd.prog Tryd.f74 .p a74 [x_0] K := by kernel_rfl
theorem c74 [Amb] {x_0 : Value} {K : Value → WT} {w : World} (h : s74 x_0 K w) : CF Tryd.prog 74 [x_0] K w := shal_sound Tryd.func74 (e74 x_0 K ▸ h)
def a75 : Ann := .seq (.z) (.join [0, 1] (.seq (.z) (.cond (.z) (.z))) (.join [0] (.seq (.z) (.seq (.z) (.cond (.z) (.z)))) (.seq (.z) (.z))))
def s75 [Amb] (s_0 n_1 : Value) (K : Value → WT) : WT :=
 S.join 2 (fun K0 =>
 S.bin .lss n_1 (I 0) fun v6 =>
 S.cond v6 (
 S.pan (.iface 9 (.string ⟨#[99, 97, 110, 110, 111, 116, 32, 98, 101, 32, 110, 101, 103, 97, 116, 105, 118, 101]⟩))) (
 K0 s_0 n_1))
 <| fun s_0' n_1' => S.fa fun _ =>
 S.join 1 (fun K1 =>
 S.cap s_0' fun v10 =>
 S.len s_0' fun v12 =>
 S.bin .sub v10 v12 fun v13 =>
 S.bin .sub n_1' v13 fun v14 =>
 S.bin .gtr v14 (I 0) fun v16 =>
 S.cond v16 (
 S.cap s_0' fun v19 =>
 S.slc 1 s_0' none (some v19) none fun v20 =>
 V Tryd.prog (Builtin.append_ #[22, 3] 22 #[v20, v14]) fun v22 =>
 S.len s_0' fun v24 =>
 S.slc 1 v22 none (some v24) none fun v25 =>
 K1 v25) (
 K1 s_0'))
 <| fun s_0'2 => S.fa fun _ =>
 K s_0'2
theorem e75 [Amb] (s_0 n_1 : Value) (K : Value → WT) : s75 s_0 n_1 K = shal Tryd.prog Tryd.f75 .p a75 [s_0, n_1] K := by kernel_rfl
theorem c75 [Amb] {s_0 n_1 : Value} {K : Value → WT} {w : World} (h : s75 s_0 n_1 K w) : CF Tryd.prog 75 [s_0, n_1] K w := shal_sound Tryd.func75 (e75 s_0 n_1 K ▸ h)
def a76 : Ann := .seq (.z) (.seq (.blk (.join [0, 1, 8] (.z) (.cond (.seq (.z) (.z)) (.join [0, 1, 15] (.z) (.cond (.seq (.z) (.z)) (.z)))))) (.seq (.z) (.seq (.seq (.z) (.blk (.loop [0, 6, 7] (.seq (.seq (.z) (.cond (.z) (.z))) (.seq (.blk (.seq (.z) (.z))) (.z)))))) (.seq (.z) (.z)))))
def s76 [Amb] (n_0 width_1 : Value) (K : Value → WT) : WT :=
 S.join 3 (fun K0 =>
 S.bin .lss width_1 (I 1) fun v10 =>
 S.gd v10 false (fun k => k width_1) fun v12 =>
 S.gd v10 false (S.bin .gtr v12 (I 8)) fun v13 =>
 S.pick v10 (B true) v13 fun v14 =>
 K0 n_0 width_1 v14)
 <| fun n_0' width_1' v8 => S.fa fun _ =>
 S.cond v8 (
 K (.tuple #[(.slice none 0 0), (I 2)])) (
 S.join 3 (fun K1 =>
 CF Tryd.prog 73 [n_0'] fun v17 =>
 S.not1 v17 fun v18 =>
 S.gd v18 false (fun k => k width_1') fun v20 =>
 S.gd v18 false (S.bin .lss v20 (I 7)) fun v21 =>
 S.gd v18 false (fun k => k v21) fun v22 =>
 S.gd v22 true (fun k => k n_0') fun v23 =>
 S.gd v22 true (fun k => k width_1') fun v24 =>
 S.gd v22 true (S.bin .mul (I 8) v24) fun v25 =>
 S.gd v22 true (S.sh .shr v23 v25) fun v26 =>
 S.gd v22 true (S.bin .gtr v26 (I 0)) fun v27 =>
 S.gd v18 false (S.pick v22 v27 (B false)) fun v28 =>
 S.pick v18 (B true) v28 fun v29 =>
 K1 n_0' width_1' v29)
 <| fun n_0'2 width_1'2 v15 => S.fa fun _ =>
 S.cond v15 (
 K (.tuple #[(.slice none 0 0), (I 6)])) (
 V Tryd.prog (Instr.makeSlice 22 width_1'2 width_1'2) fun v31 =>
 S.bin .sub width_1'2 (I 1) fun v33 =>
 S.loop 3 (fun K2 => fun n_0'3 out_6 i_7 => S.fa fun _ =>
 S.bin .geq i_7 (I 0) fun v35 =>
 S.cond v35 (
 S.cvt .u8 n_0'3 fun v41 =>
 S.ixS 1 out_6 i_7 fun v42 =>
 S.st 1 v42 v41 fun _ =>
 S.sh .shr n_0'3 (.int .u64 8) fun v44 =>
 S.bin .sub i_7 (I 1) fun v37 =>
 K2 v44 out_6 v37) (
 K (.tuple #[out_6, (I 0)])))
 [n_0'2, v31, v33]))
theorem e76 [Amb] (n_0 width_1 : Value) (K : Value → WT) : s76 n_0 width_1 K = shal Tryd.prog Tryd.f76 .p a76 [n_0, width_1] K := by kernel_rfl
theorem c76 [Amb] {n_0 width_1 : Value} {K : Value → WT} {w : World} (h : s76 n_0 width_1 K w) : CF Tryd.prog 76 [n_0, width_1] K w := shal_sound Tryd.func76 (e76 n_0 width_1 K ▸ h)
def a77 : Ann := .seq (.z) (.seq (.z) (.seq (.seq (.z) (.blk (.loop [5, 11, 12, 13] (.seq (.z) (.seq (.cond (.z) (.z)) (.seq (.blk (.seq (.z) (.seq (.z) (.seq (.z) (.blk (.loop [5, 11, 12, 13, 21] (.seq (.z) (.seq (.cond (.z) (.z)) (.seq (.blk (.seq (.z) (.seq (.z) (.z)))) (.z)))))))))) (.z))))))) (.seq (.z) (.z))))
def s77 [Amb] (sum_0 p_1 : Value) (K : Value → WT) : WT :=
 S.com1 sum_0 fun v10 =>
 S.len p_1 fun v12 =>
 S.loop 4 (fun K0 => fun r_5 v11 v12' v13 => S.fa fun _ =>
 S.bin .lss v13 v12' fun v14 =>
 S.cond v14 (
 S.ixS 1 v11 v13 fun v15 =>
 S.ld v15 fun v16 =>
 S.cvt .u32 v16 fun v19 =>
 S.bin .xor r_5 v19 fun v20 =>
 S.loop 5 (fun K1 => fun r_5' v11' v12'2 v13' v21 => S.fa fun _ =>
 S.bin .lss v21 (I 8) fun v22 =>
 S.cond v22 (
 S.bin .and r_5' (.int .u32 1) fun v24 =>
 S.sh .shr r_5' (.int .u64 1) fun v26 =>
 S.neg1 v24 fun v29 =>
 S.bin .and (.int .u32 2197175160) v29 fun v30 =>
 S.bin .xor v26 v30 fun v31 =>
 S.bin .add v21 (I 1) fun v32 =>
 K1 v31 v11' v12'2 v13' v32) (
 S.bin .add v13' (I 1) fun v33 =>
 K0 r_5' v11' v12'2 v33))
 [v20, v11, v12', v13, (I 0)]) (
 S.com1 r_5 fun v35 =>
 K v35))
 [v10, p_1, v12, (I 0)]
theorem e77 [Amb] (sum_0 p_1 : Value) (K : Value → WT) : s77 sum_0 p_1 K = shal Tryd.prog Tryd.f77 .p a77 [sum_0, p_1] K := by kernel_rfl
theorem c77 [Amb] {sum_0 p_1 : Value} {K : Value → WT} {w : World} (h : s77 sum_0 p_1 K w) : CF Tryd.prog 77 [sum_0, p_1] K w := shal_sound Tryd.func77 (e77 sum_0 p_1 K ▸ h)
def a78 : Ann := .seq (.z) (.seq (.z) (.z))
def s78 [Amb] (a_0 b_1 : Value) (K : Value → WT) : WT :=
 S.b2s a_0 fun v6 =>
 S.b2s b_1 fun v8 =>
 S.sbin .eql v6 v8 fun v9 =>
 K v9
theorem e78 [Amb] (a_0 b_1 : Value) (K : Value → WT) : s78 a_0 b_1 K = shal Tryd.prog Tryd.f78 .p a78 [a_0, b_1] K := by kernel_rfl
theorem c78 [Amb] {a_0 b_1 : Value} {K : Value → WT} {w : World} (h : s78 a_0 b_1 K w) : CF Tryd.prog 78 [a_0, b_1] K w := shal_sound Tryd.func78 (e78 a_0 b_1 K ▸ h)
def a79 : Ann := .seq (.z) (.seq (.z) (.z))
def s79 [Amb] (s_0 f_1 : Value) (K : Value → WT) : WT :=
 CF Tryd.prog 84 [s_0, f_1, (B true)] fun v7 =>
 K v7
theorem e79 [Amb] (s_0 f_1 : Value) (K : Value → WT) : s79 s_0 f_1 K = shal Tryd.prog Tryd.f79 .p a79 [s_0, f_1] K := by kernel_rfl
theorem c79 [Amb] {s_0 f_1 : Value} {K : Value → WT} {w : World} (h : s79 s_0 f_1 K w) : CF Tryd.prog 79 [s_0, f_1] K w := shal_sound Tryd.func79 (e79 s_0 f_1 K ▸ h)
def a80 : Ann := .seq (.z) (.seq (.seq (.z) (.cond (.seq (.z) (.z)) (.z))) (.seq (.seq (.z) (.blk (.loop [0, 1, 12, 13] (.seq (.z) (.seq (.cond (.z) (.z)) (.seq (.blk (.seq (.z) (.seq (.draw [0, 1, 2, 3, 4, 5, 6, 7, 8]) (.cond (.seq (.z) (.z)) (.z))))) (.z))))))) (.seq (.z) (.z))))
def s80 [Amb] (s1_0 s2_1 : Value) (K : Value → WT) : WT :=
 S.len s1_0 fun v7 =>
 S.len s2_1 fun v9 =>
 S.bin .neq v7 v9 fun v10 =>
 S.cond v10 (
 K (B false)) (
 S.len s1_0 fun v12 =>
 S.loop 4 (fun K0 => fun s1_0' s2_1' v12' v13 => S.fa fun _ =>
 S.bin .lss v13 v12' fun v14 =>
 S.cond v14 (
 S.dr <|
 S.ixS 1 s1_0' v13 fun v18 =>
 S.ld v18 fun v19 =>
 S.ixS 1 s2_1' v13 fun v22 =>
 S.ld v22 fun v23 =>
 S.bin .neq v19 v23 fun v24 =>
 S.cond v24 (
 K (B false)) (
 S.bin .add v13 (I 1) fun v25 =>
 K0 s1_0' s2_1' v12' v25)) (
 K (B true)))
 [s1_0, s2_1, v12, (I 0)])
theorem e80 [Amb] (s1_0 s2_1 : Value) (K : Value → WT) : s80 s1_0 s2_1 K = shal Tryd.prog Tryd.f80 .p a80 [s1_0, s2_1] K := by kernel_rfl
theorem c80 [Amb] {s1_0 s2_1 : Value} {K : Value → WT} {w : World} (h : s80 s1_0 s2_1 K w) : CF Tryd.prog 80 [s1_0, s2_1] K w := shal_sound Tryd.func80 (e80 s1_0 s2_1 K ▸ h)
def a81 : Ann := .seq (.z) (.seq (.seq (.z) (.blk (.rf [] (.z) (.blk (.z))))) (.seq (.z) (.z)))
def s81 (s_0 seq_1 : Value) (K : Value → WT) : WT :=
 S.box 78 s_0 fun s_2 =>
 S.rf Tryd.prog seq_1 undef 1 (fun l0 go0 Z0 => fun v7 =>
 go0 <|
 S.ld s_2 fun v8 =>
 V Tryd.prog (Instr.buildSlice 78 1 #[(0, v7)]) fun v10 =>
 V Tryd.prog (Builtin.append_ #[78, 78] 78 #[v8, v10]) fun v11 =>
 S.st 1 s_2 v11 fun _ =>
 Z0 .nrm)
 (fun m1 =>
 S.ld s_2 fun v12 =>
 S.done m1 <|
 K v12)
 (fun m2 =>
 S.done m2 <|
 K (.slice none 0 0))
 [
 ]
theorem e81 (s_0 seq_1 : Value) (K : Value → WT) : s81 s_0 seq_1 K = shal Tryd.prog Tryd.f81 .m a81 [s_0, seq_1] K := by kernel_rfl
theorem c81 {s_0 seq_1 : Value} {K : Value → WT} {w : World} (h : s81 s_0 seq_1 K w) : CF Tryd.prog 81 [s_0, seq_1] K w := shal_sound Tryd.func81 (e81 s_0 seq_1 K ▸ h)
def a84 : Ann := .seq (.z) (.seq (.z) (.seq (.blk (.loop [0, 1, 2, 7] (.seq (.seq (.z) (.cond (.z) (.z))) (.blk (.seq (.z) (.seq (.seq (.z) (.cond (.seq (.z) (.z)) (.z))) (.z))))))) (.seq (.z) (.z))))
def s84 [Amb] (s_0 f_1 truth_2 : Value) (K : Value → WT) : WT :=
 S.loop 4 (fun K0 => fun s_0' f_1' truth_2' start_7 => S.fa fun _ =>
 S.len s_0' fun v12 =>
 S.bin .lss start_7 v12 fun v13 =>
 S.cond v13 (
 S.slc 1 s_0' (some start_7) none none fun v17 =>
 CF Tryd.prog 96 [v17] fun v18 =>
 S.ext v18 0 fun v19 =>
 S.ext v18 1 fun v20 =>
 S.cvv Tryd.prog f_1' [v19] fun v23 =>
 S.beq .eql v23 truth_2' fun v25 =>
 S.cond v25 (
 K start_7) (
 S.bin .add start_7 v20 fun v29 =>
 K0 s_0' f_1' truth_2' v29)) (
 K (I (-1))))
 [s_0, f_1, truth_2, (I 0)]
theorem e84 [Amb] (s_0 f_1 truth_2 : Value) (K : Value → WT) : s84 s_0 f_1 truth_2 K = shal Tryd.prog Tryd.f84 .p a84 [s_0, f_1, truth_2] K := by kernel_rfl
theorem c84 [Amb] {s_0 f_1 truth_2 : Value} {K : Value → WT} {w : World} (h : s84 s_0 f_1 truth_2 K w) : CF Tryd.prog 84 [s_0, f_1, truth_2] K w := shal_sound Tryd.func84 (e84 s_0 f_1 truth_2 K ▸ h)
def a96 : Ann := .seq (.z) (.join [0] (.seq (.z) (.blk (.loop [0, 6, 7, 8] (.seq (.z) (.seq (.cond (.z) (.z)) (.seq (.blk (.seq (.z) (.seq (.seq (.z) (.cond (.seq (.z) (.z)) (.z))) (.z)))) (.z))))))) (.seq (.z) (.z)))
def s96 [Amb] (p_0 : Value) (K : Value → WT) : WT :=
 S.join 1 (fun K0 =>
 S.len p_0 fun v7 =>
 S.loop 4 (fun K1 => fun p_0' v6 v7' v8 => S.fa fun _ =>
 S.bin .lss v8 v7' fun v9 =>
 S.cond v9 (
 S.ixS 1 v6 v8 fun v10 =>
 S.ld v10 fun v11 =>
 S.bin .lss v11 (.int .u8 128) fun v13 =>
 S.cond v13 (
 S.cvt .i32 v11 fun v15 =>
 K (.tuple #[v15, (I 1)])) (
 K0 p_0')) (
 K0 p_0'))
 [p_0, p_0, v7, (I 0)])
 <| fun p_0'2 => S.fa fun _ =>
 CF Tryd.prog 103 [p_0'2] fun v19 =>
 S.ext v19 0 fun v20 =>
 S.ext v19 1 fun v21 =>
 K (.tuple #[v20, v21])
theorem e96 [Amb] (p_0 : Value) (K : Value → WT) : s96 p_0 K = shal Tryd.prog Tryd.f96 .p a96 [p_0] K := by kernel_rfl
theorem c96 [Amb] {p_0 : Value} {K : Value → WT} {w : World} (h : s96 p_0 K w) : CF Tryd.prog 96 [p_0] K w := shal_sound Tryd.func96 (e96 p_0 K ▸ h)
end Go.Proofs.YtinggiidkfnlkaaDoor.Sh
end
