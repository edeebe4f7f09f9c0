/-
  Part 4: ShS.
-/
import Derived.Test.YtmbfmkiagdhcoaaGreatProg
import Derived.KernelRfl
import Derived.Test.YtmbfmkiagdhcoaaGreatPkBinNonea
set_option linter.unusedSimpArgs false
set_option linter.unusedVariables false
set_option linter.unusedSectionVars false
section
namespace Go.Proofs.YtmbfmkiagdhcoaaGreat.Sh
open Go Go.SL Go.Proofs
set_option maxRecDepth 100000
def a3 : Ann := .seq (.z) (.seq (.z) (.seq (.seq (.z) (.cond (.seq (.z) (.z)) (.z))) (.seq (.z) (.seq (.seq (.z) (.seq (.z) (.cond (.seq (.z) (.z)) (.z)))) (.seq (.seq (.z) (.blk (.loop [3, 9, 12, 15] (.seq (.join [3, 9, 12, 15, 67] (.z) (.cond (.z) (.z))) (.join [3, 9, 12, 15] (.blk (.blk (.seq (.z) (.cond (.seq (.draw [0, 1, 2, 3, 4, 5, 6, 7, 8, 9, 10, 11, 12, 13, 14, 15, 16, 17, 18, 19, 20, 21]) (.z)) (.seq (.z) (.cond (.draw [0, 1, 2, 3, 4, 5, 6, 7, 8, 9]) (.join [3, 9, 12, 15, 120] (.z) (.cond (.draw [0, 1, 2, 3, 4, 5, 6, 7, 8, 9]) (.z))))))))) (.z)))))) (.seq (.z) (.seq (.join [9, 12, 170] (.draw [0, 1, 2, 3, 4, 5, 6, 7, 8, 9, 10, 11, 12, 13, 14, 15, 16, 17]) (.cond (.seq (.z) (.z)) (.z))) (.seq (.seq (.z) (.blk (.loop [9, 12, 20] (.seq (.seq (.z) (.cond (.z) (.z))) (.seq (.blk (.seq (.z) (.join [9, 12, 20, 202] (.draw [0, 1, 2, 3, 4, 5, 6, 7, 8, 9, 10, 11, 12, 13]) (.cond (.seq (.z) (.z)) (.z))))) (.z)))))) (.seq (.z) (.z))))))))))
def s3 [Amb] (v0 v1 v2 v3 : Value) (K : Value → WT) : WT :=
 CF Tryz.prog 7 [v0, v1] fun v26 =>
 S.ext v26 0 fun v27 =>
 S.ext v26 1 fun v28 =>
 S.not1 v28 fun v30 =>
 S.cond v30 (
 K (B false)) (
 CF Tryz.prog 8 [(I 9), (I 64), v2] fun v33 =>
 S.ext v33 0 fun v34 =>
 S.ext v33 1 fun v35 =>
 S.nc v27 fun v38 =>
 S.fad v38 2 fun v39 =>
 S.ld v39 fun v40 =>
 CF Tryz.prog 9 [v40, v34] fun v42 =>
 S.ext v42 0 fun v43 =>
 S.ext v42 1 fun v44 =>
 S.box 34 (.agg #[(.int .i64 0), (.int .i64 0), (.int .i64 0)]) fun v13 =>
 S.st 3 v13 v43 fun _ =>
 S.bin .neq v44 (I 0) fun v46 =>
 S.cond v46 (
 CF Tryz.prog 10 [] fun v47 =>
 S.gd v47 true (fun k => k v35) fun v49 =>
 S.gd v47 true (S.nc v49) fun v50 =>
 S.gd v47 true (S.fad v50 2) fun v51 =>
 S.gd v47 true (S.ld v51) fun v52 =>
 S.gd v47 true (S.len v52) fun v53 =>
 S.gd v47 true (S.bin .eql v53 (I 0)) fun v54 =>
 S.gd v47 true (fun k => k v54) fun v55 =>
 S.gd v55 false (fun k => k v44) fun v56 =>
 S.gd v55 false (S.bin .eql v56 (I 8)) fun v57 =>
 S.gd v47 true (S.pick v55 (B true) v57) fun v58 =>
 S.pick v47 v58 (B false) fun v59 =>
 K v59) (
 S.loop 4 (fun K0 => fun v3' v9 v12 v15 => S.fa fun _ =>
 S.join 5 (fun K1 =>
 S.len v3' fun v62 =>
 S.bin .lss v15 v62 fun v63 =>
 S.gd v63 true (fun k => k v15) fun v65 =>
 S.gd v63 true (S.bin .lss v65 (I 60)) fun v66 =>
 S.pick v63 v66 (B false) fun v67 =>
 K1 v3' v9 v12 v15 v67)
 <| fun v3'2 v9' v12' v15' v67' => S.fa fun _ =>
 S.cond v67' (
 S.join 4 (fun K2 =>
 S.ixS 11 v3'2 v15' fun v73 =>
 S.fad v73 0 fun v74 =>
 S.ld v74 fun v75 =>
 S.bin .eql v75 (I 0) fun v76 =>
 S.cond v76 (
 S.dr <|
 S.ixS 11 v3'2 v15' fun v80 =>
 S.fad v80 3 fun v81 =>
 S.fad v81 0 fun v82 =>
 S.ld v82 fun v83 =>
 S.ixS 11 v3'2 v15' fun v86 =>
 S.fad v86 2 fun v87 =>
 S.ld v87 fun v88 =>
 S.ixS 11 v3'2 v15' fun v91 =>
 S.fad v91 6 fun v92 =>
 S.ld v92 fun v93 =>
 CF Tryz.prog 8 [v83, v88, v93] fun v94 =>
 S.ext v94 0 fun v95 =>
 S.ext v94 1 fun v96 =>
 S.nc v9' fun v98 =>
 S.fad v98 2 fun v99 =>
 S.ld v99 fun v100 =>
 CF Tryz.prog 9 [v100, v95] fun v102 =>
 K2 v3'2 v9' v12' v15') (
 S.ixS 11 v3'2 v15' fun v106 =>
 S.fad v106 0 fun v107 =>
 S.ld v107 fun v108 =>
 S.bin .eql v108 (I 1) fun v109 =>
 S.cond v109 (
 S.dr <|
 S.nc v9' fun v111 =>
 S.fad v111 2 fun v112 =>
 S.ld v112 fun v113 =>
 S.ixS 11 v3'2 v15' fun v116 =>
 S.fad v116 3 fun v117 =>
 S.ldN 3 v117 fun v118 =>
 CF Tryz.prog 11 [v113, v118] fun v119 =>
 K2 v3'2 v9' v12' v15') (
 S.join 5 (fun K3 =>
 S.ixS 11 v3'2 v15' fun v123 =>
 S.fad v123 0 fun v124 =>
 S.ld v124 fun v125 =>
 S.bin .eql v125 (I 2) fun v126 =>
 S.gd v126 true (fun k => k v3'2) fun v128 =>
 S.gd v126 true (fun k => k v15') fun v129 =>
 S.gd v126 true (S.ixS 11 v128 v129) fun v130 =>
 S.gd v126 true (S.fad v130 1) fun v131 =>
 S.gd v126 true (S.ld v131) fun v132 =>
 S.gd v126 true (S.bin .neq v132 (I 9)) fun v133 =>
 S.pick v126 v133 (B false) fun v134 =>
 K3 v3'2 v9' v12' v15' v134)
 <| fun v3'3 v9'2 v12'2 v15'2 v120 => S.fa fun _ =>
 S.cond v120 (
 S.dr <|
 S.nc v9'2 fun v136 =>
 S.fad v136 2 fun v137 =>
 S.ld v137 fun v138 =>
 S.ixS 11 v3'3 v15'2 fun v141 =>
 S.fad v141 1 fun v142 =>
 S.ld v142 fun v143 =>
 CF Tryz.prog 12 [v138, v143] fun v144 =>
 K2 v3'3 v9'2 v12'2 v15'2) (
 K2 v3'3 v9'2 v12'2 v15'2))))
 <| fun v3'4 v9'3 v12'3 v15'3 => S.fa fun _ =>
 S.bin .add v15'3 (I 1) fun v69 =>
 K0 v3'4 v9'3 v12'3 v69) (
 S.nc v9' fun v147 =>
 S.fad v147 2 fun v148 =>
 S.ld v148 fun v149 =>
 CF Tryz.prog 13 [v149, (I 9)] fun v150 =>
 S.ext v150 0 fun v151 =>
 S.ext v150 1 fun v152 =>
 S.box 58 (.agg #[(.int .i64 0), (.int .i64 0), (.slice none 0 0)]) fun v18 =>
 S.st 3 v18 v151 fun _ =>
 S.join 3 (fun K4 =>
 S.dr <|
 S.bin .neq v152 (I 0) fun v154 =>
 S.gd v154 false (S.fad v18 0) fun v156 =>
 S.gd v154 false (S.ld v156) fun v157 =>
 S.gd v154 false (S.bin .neq v157 (I 9)) fun v158 =>
 S.pick v154 (B true) v158 fun v159 =>
 S.gd v159 false (S.fad v18 2) fun v161 =>
 S.gd v159 false (S.ld v161) fun v162 =>
 S.gd v159 false (S.len v162) fun v163 =>
 S.gd v159 false (fun k => k v12') fun v164 =>
 S.gd v159 false (S.nc v164) fun v165 =>
 S.gd v159 false (S.fad v165 2) fun v166 =>
 S.gd v159 false (S.ld v166) fun v167 =>
 S.gd v159 false (S.len v167) fun v168 =>
 S.gd v159 false (S.bin .neq v163 v168) fun v169 =>
 S.pick v159 (B true) v169 fun v170 =>
 K4 v9' v12' v170)
 <| fun v9'4 v12'4 v170' => S.fa fun _ =>
 S.cond v170' (
 K (B false)) (
 S.loop 3 (fun K5 => fun v9'5 v12'5 v20 => S.fa fun _ =>
 S.nc v12'5 fun v173 =>
 S.fad v173 2 fun v174 =>
 S.ld v174 fun v175 =>
 S.len v175 fun v176 =>
 S.bin .lss v20 v176 fun v177 =>
 S.cond v177 (
 S.nc v9'5 fun v182 =>
 S.fad v182 2 fun v183 =>
 S.ld v183 fun v184 =>
 CF Tryz.prog 14 [v184, (I 9), v20] fun v186 =>
 S.ext v186 0 fun v187 =>
 S.ext v186 1 fun v188 =>
 S.join 4 (fun K6 =>
 S.dr <|
 S.bin .neq v188 (I 0) fun v190 =>
 S.gd v190 false (fun k => k v187) fun v192 =>
 S.gd v190 false (S.b2s v192) fun v193 =>
 S.gd v190 false (fun k => k v12'5) fun v194 =>
 S.gd v190 false (S.nc v194) fun v195 =>
 S.gd v190 false (S.fad v195 2) fun v196 =>
 S.gd v190 false (S.ld v196) fun v197 =>
 S.gd v190 false (fun k => k v20) fun v198 =>
 S.gd v190 false (S.ixS 1 v197 v198) fun v199 =>
 S.gd v190 false (S.ld v199) fun v200 =>
 S.gd v190 false (S.sbin .neq v193 v200) fun v201 =>
 S.pick v190 (B true) v201 fun v202 =>
 K6 v9'5 v12'5 v20 v202)
 <| fun v9'6 v12'6 v20' v202' => S.fa fun _ =>
 S.cond v202' (
 K (B false)) (
 S.bin .add v20' (I 1) fun v179 =>
 K5 v9'6 v12'6 v179)) (
 CF Tryz.prog 10 [] fun v203 =>
 K v203))
 [v9'4, v12'4, (I 0)])))
 [v3, v27, v35, (I 0)]))
theorem e3 [Amb] (v0 v1 v2 v3 : Value) (K : Value → WT) : s3 v0 v1 v2 v3 K = shal Tryz.prog Tryz.f3 .p a3 [v0, v1, v2, v3] K := by kernel_rfl
theorem c3 [Amb] {v0 v1 v2 v3 : Value} {K : Value → WT} {w : World} (h : s3 v0 v1 v2 v3 K w) : CF Tryz.prog 3 [v0, v1, v2, v3] K w := shal_sound Tryz.func3 (e3 v0 v1 v2 v3 K ▸ h)
def a4 : Ann := .seq (.z) (.seq (.z) (.seq (.z) (.seq (.z) (.seq (.z) (.seq (.z) (.seq (.z) (.seq (.seq (.z) (.cond (.seq (.z) (.z)) (.z))) (.seq (.z) (.seq (.z) (.seq (.z) (.z)))))))))))
def s4 [Amb] (v0 v1 : Value) (K : Value → WT) : WT :=
 S.box 34 v0 fun v2 =>
 CF Tryz.prog 9 [(.pointer none), (.pointer none)] fun v22 =>
 S.ext v22 0 fun v23 =>
 S.ext v22 1 fun v24 =>
 S.box 34 (.agg #[(.int .i64 0), (.int .i64 0), (.int .i64 0)]) fun v6 =>
 S.st 3 v6 v23 fun _ =>
 CF Tryz.prog 13 [(.pointer none), v1] fun v28 =>
 S.ext v28 0 fun v29 =>
 S.ext v28 1 fun v30 =>
 S.box 58 (.agg #[(.int .i64 0), (.int .i64 0), (.slice none 0 0)]) fun v8 =>
 S.st 3 v8 v29 fun _ =>
 CF Tryz.prog 14 [(.pointer none), v1, v1] fun v35 =>
 S.ext v35 0 fun v36 =>
 S.ext v35 1 fun v37 =>
 CF Tryz.prog 15 [(.pointer none), (.pointer none)] fun v39 =>
 S.ext v39 0 fun v40 =>
 S.ext v39 1 fun v41 =>
 CF Tryz.prog 7 [(.int .u8 0), (.int .u8 0)] fun v43 =>
 S.ext v43 0 fun v44 =>
 S.ext v43 1 fun v45 =>
 S.not1 v45 fun v47 =>
 S.cond v47 (
 K (B false)) (
 S.nc v44 fun v50 =>
 S.fad v50 2 fun v51 =>
 S.ld v51 fun v52 =>
 CF Tryz.prog 9 [v52, (.pointer none)] fun v53 =>
 S.ext v53 0 fun v54 =>
 S.ext v53 1 fun v55 =>
 S.box 34 (.agg #[(.int .i64 0), (.int .i64 0), (.int .i64 0)]) fun v16 =>
 S.st 3 v16 v54 fun _ =>
 S.nc v44 fun v58 =>
 S.fad v58 0 fun v59 =>
 S.ld v59 fun v60 =>
 CF Tryz.prog 15 [v60, (.pointer none)] fun v61 =>
 S.ext v61 0 fun v62 =>
 S.ext v61 1 fun v63 =>
 CF Tryz.prog 10 [] fun v64 =>
 S.gd v64 true (fun k => k v24) fun v66 =>
 S.gd v64 true (S.bin .eql v66 (I 1)) fun v67 =>
 S.pick v64 v67 (B false) fun v68 =>
 S.gd v68 true (fun k => k v30) fun v70 =>
 S.gd v68 true (S.bin .eql v70 (I 1)) fun v71 =>
 S.pick v68 v71 (B false) fun v72 =>
 S.gd v72 true (fun k => k v37) fun v74 =>
 S.gd v72 true (S.bin .eql v74 (I 1)) fun v75 =>
 S.pick v72 v75 (B false) fun v76 =>
 S.gd v76 true (fun k => k v41) fun v78 =>
 S.gd v76 true (S.bin .eql v78 (I 1)) fun v79 =>
 S.pick v76 v79 (B false) fun v80 =>
 S.gd v80 true (fun k => k v55) fun v82 =>
 S.gd v80 true (S.bin .eql v82 (I 1)) fun v83 =>
 S.pick v80 v83 (B false) fun v84 =>
 S.gd v84 true (fun k => k v63) fun v86 =>
 S.gd v84 true (S.bin .eql v86 (I 1)) fun v87 =>
 S.pick v84 v87 (B false) fun v88 =>
 S.gd v88 true (fun k => k (.pointer none)) fun v90 =>
 S.gd v88 true (S.ldN 3 v2) fun v91 =>
 S.gd v88 true (CF Tryz.prog 11 [v90, v91]) fun v92 =>
 S.gd v88 true (S.bin .eql v92 (I 1)) fun v93 =>
 S.pick v88 v93 (B false) fun v94 =>
 S.gd v94 true (fun k => k (.pointer none)) fun v96 =>
 S.gd v94 true (fun k => k v1) fun v97 =>
 S.gd v94 true (CF Tryz.prog 12 [v96, v97]) fun v98 =>
 S.gd v94 true (S.bin .eql v98 (I 1)) fun v99 =>
 S.pick v94 v99 (B false) fun v100 =>
 S.gd v100 true (fun k => k (.pointer none)) fun v102 =>
 S.gd v100 true (CF Tryz.prog 16 [v102]) fun v103 =>
 S.gd v100 true (S.bin .eql v103 (I (-1))) fun v104 =>
 S.pick v100 v104 (B false) fun v105 =>
 S.gd v105 true (fun k => k (.pointer none)) fun v107 =>
 S.gd v105 true (CF Tryz.prog 17 [v107]) fun v108 =>
 S.gd v105 true (fun k => k (.pointer none)) fun v109 =>
 S.gd v105 true (CF Tryz.prog 18 [v109]) fun v110 =>
 S.gd v105 true (S.len v110) fun v111 =>
 S.gd v105 true (S.bin .add v108 v111) fun v112 =>
 S.gd v105 true (S.bin .eql v112 (I 0)) fun v113 =>
 S.pick v105 v113 (B false) fun v114 =>
 K v114)
theorem e4 [Amb] (v0 v1 : Value) (K : Value → WT) : s4 v0 v1 K = shal Tryz.prog Tryz.f4 .p a4 [v0, v1] K := by kernel_rfl
theorem c4 [Amb] {v0 v1 : Value} {K : Value → WT} {w : World} (h : s4 v0 v1 K w) : CF Tryz.prog 4 [v0, v1] K w := shal_sound Tryz.func4 (e4 v0 v1 K ▸ h)
def a5 : Ann := .seq (.z) (.seq (.z) (.seq (.z) (.z)))
def s5 [Amb] (size_0 from_1 l_2 : Value) (K : Value → WT) : WT :=
 CF Tryz.prog 19 [size_0, from_1, l_2] fun v13 =>
 S.ext v13 0 fun v14 =>
 S.ext v13 1 fun v15 =>
 S.gd v15 true (CF Tryz.prog 10 []) fun v18 =>
 S.pick v15 v18 (B false) fun v19 =>
 S.gd v19 true (fun k => k v14) fun v21 =>
 S.gd v19 true (CF Tryz.prog 20 [v21]) fun v22 =>
 S.pick v19 v22 (B false) fun v23 =>
 K v23
theorem e5 [Amb] (size_0 from_1 l_2 : Value) (K : Value → WT) : s5 size_0 from_1 l_2 K = shal Tryz.prog Tryz.f5 .p a5 [size_0, from_1, l_2] K := by kernel_rfl
theorem c5 [Amb] {size_0 from_1 l_2 : Value} {K : Value → WT} {w : World} (h : s5 size_0 from_1 l_2 K w) : CF Tryz.prog 5 [size_0, from_1, l_2] K w := shal_sound Tryz.func5 (e5 size_0 from_1 l_2 K ▸ h)
def a7 : Ann := .seq (.z) (.seq (.z) (.seq (.z) (.seq (.z) (.seq (.z) (.seq (.z) (.seq (.z) (.seq (.z) (.seq (.z) (.z)))))))))
def s7 [Amb] (v0 v1 : Value) (K : Value → WT) : WT :=
 S.cvt .i64 v0 fun v19 =>
 S.bin .rem v19 (I 73) fun v20 =>
 S.bin .add (I 8) v20 fun v21 =>
 S.cvt .i64 v1 fun v23 =>
 S.bin .rem v23 (I 5) fun v24 =>
 CF Tryz.prog 27 [v21] fun v27 =>
 S.ext v27 0 fun v28 =>
 S.ext v27 1 fun v29 =>
 CF Tryz.prog 28 [v21] fun v32 =>
 S.ext v32 0 fun v33 =>
 S.ext v32 1 fun v34 =>
 CF Tryz.prog 25 [v24, v21] fun v38 =>
 S.ext v38 0 fun v39 =>
 S.ext v38 1 fun v40 =>
 CF Tryz.prog 29 [v24, v21] fun v44 =>
 S.ext v44 0 fun v45 =>
 S.ext v44 1 fun v46 =>
 CF Tryz.prog 15 [v28, v39] fun v50 =>
 S.ext v50 0 fun v51 =>
 S.ext v50 1 fun v52 =>
 V Tryz.prog (Instr.build 86 #[(0, v33), (1, v45)]) fun v58 =>
 S.box 86 v58 fun v59 =>
 V Tryz.prog (Instr.build 42 #[(0, v28), (1, v33), (2, v51), (3, v59)]) fun v60 =>
 S.box 42 v60 fun v61 =>
 S.bin .eql v29 (I 0) fun v63 =>
 S.gd v63 true (fun k => k v34) fun v65 =>
 S.gd v63 true (S.bin .eql v65 (I 0)) fun v66 =>
 S.pick v63 v66 (B false) fun v67 =>
 S.gd v67 true (fun k => k v40) fun v69 =>
 S.gd v67 true (S.bin .eql v69 (I 0)) fun v70 =>
 S.pick v67 v70 (B false) fun v71 =>
 S.gd v71 true (fun k => k v46) fun v73 =>
 S.gd v71 true (S.bin .eql v73 (I 0)) fun v74 =>
 S.pick v71 v74 (B false) fun v75 =>
 S.gd v75 true (fun k => k v52) fun v77 =>
 S.gd v75 true (S.bin .eql v77 (I 0)) fun v78 =>
 S.pick v75 v78 (B false) fun v79 =>
 S.gd v79 true (fun k => k v51) fun v81 =>
 S.gd v79 true (S.eqv Tryz.prog .neq 39 true v81 (.pointer none)) fun v82 =>
 S.pick v79 v82 (B false) fun v83 =>
 K (.tuple #[v61, v83])
theorem e7 [Amb] (v0 v1 : Value) (K : Value → WT) : s7 v0 v1 K = shal Tryz.prog Tryz.f7 .p a7 [v0, v1] K := by kernel_rfl
theorem c7 [Amb] {v0 v1 : Value} {K : Value → WT} {w : World} (h : s7 v0 v1 K w) : CF Tryz.prog 7 [v0, v1] K w := shal_sound Tryz.func7 (e7 v0 v1 K ▸ h)
def a8 : Ann := .seq (.z) (.seq (.z) (.seq (.z) (.seq (.seq (.z) (.blk (.loop [2, 8, 10, 12] (.seq (.join [2, 8, 10, 12, 36] (.z) (.cond (.z) (.z))) (.seq (.blk (.seq (.z) (.z))) (.z)))))) (.seq (.z) (.z)))))
def s8 [Amb] (id_0 wide_1 l_2 : Value) (K : Value → WT) : WT :=
 CF Tryz.prog 30 [id_0, wide_1] fun v16 =>
 S.ext v16 0 fun v17 =>
 S.ext v16 1 fun v18 =>
 CF Tryz.prog 31 [id_0, wide_1] fun v22 =>
 S.ext v22 0 fun v23 =>
 S.ext v22 1 fun v24 =>
 S.loop 4 (fun K0 => fun l_2' p_8 q_10 i_12 => S.fa fun _ =>
 S.join 5 (fun K1 =>
 S.eqv Tryz.prog .neq 28 true q_10 (.pointer none) fun v26 =>
 S.gd v26 true (fun k => k i_12) fun v28 =>
 S.gd v26 true (fun k => k l_2') fun v29 =>
 S.gd v26 true (S.len v29) fun v30 =>
 S.gd v26 true (S.bin .lss v28 v30) fun v31 =>
 S.pick v26 v31 (B false) fun v32 =>
 S.gd v32 true (fun k => k i_12) fun v34 =>
 S.gd v32 true (S.bin .lss v34 (I 20)) fun v35 =>
 S.pick v32 v35 (B false) fun v36 =>
 K1 l_2' p_8 q_10 i_12 v36)
 <| fun l_2'2 p_8' q_10' i_12' v36' => S.fa fun _ =>
 S.cond v36' (
 S.ixS 1 l_2'2 i_12' fun v42 =>
 S.ld v42 fun v43 =>
 CF Tryz.prog 32 [p_8', v43] fun v44 =>
 S.ixS 1 l_2'2 i_12' fun v48 =>
 S.ld v48 fun v49 =>
 CF Tryz.prog 33 [q_10', v49] fun v50 =>
 S.bin .add i_12' (I 1) fun v38 =>
 K0 l_2'2 p_8' q_10' v38) (
 K (.tuple #[p_8', q_10'])))
 [l_2, v17, v23, (I 0)]
theorem e8 [Amb] (id_0 wide_1 l_2 : Value) (K : Value → WT) : s8 id_0 wide_1 l_2 K = shal Tryz.prog Tryz.f8 .p a8 [id_0, wide_1, l_2] K := by kernel_rfl
theorem c8 [Amb] {id_0 wide_1 l_2 : Value} {K : Value → WT} {w : World} (h : s8 id_0 wide_1 l_2 K w) : CF Tryz.prog 8 [id_0, wide_1, l_2] K w := shal_sound Tryz.func8 (e8 id_0 wide_1 l_2 K ▸ h)
def a9 : Ann := .seq (.z) (.seq (.blk (.join [0, 1, 4, 13] (.z) (.cond (.seq (.z) (.z)) (.seq (.z) (.cond (.seq (.z) (.z)) (.seq (.z) (.cond (.seq (.z) (.z)) (.z)))))))) (.seq (.z) (.seq (.z) (.seq (.seq (.z) (.cond (.seq (.z) (.z)) (.z))) (.seq (.draw [0, 1, 2, 3, 4, 5, 6, 7, 8, 9, 10, 11, 12]) (.seq (.seq (.z) (.cond (.seq (.z) (.z)) (.z))) (.seq (.z) (.seq (.seq (.draw [0, 1, 2, 3, 4, 5, 6]) (.seq (.z) (.cond (.seq (.draw [0, 1, 2, 3, 4, 5, 6]) (.seq (.z) (.z))) (.z)))) (.seq (.draw [0, 1, 2, 3, 4, 5, 6, 7]) (.seq (.z) (.z)))))))))))
def s9 [Amb] (v0 v1 : Value) (K : Value → WT) : WT :=
 S.box 34 (.agg #[(.int .i64 0), (.int .i64 0), (.int .i64 0)]) fun v4 =>
 S.join 4 (fun K0 =>
 S.eqv Tryz.prog .eql 39 true v0 (.pointer none) fun v15 =>
 S.gd v15 false (fun k => k v1) fun v17 =>
 S.gd v15 false (S.eqv Tryz.prog .eql 27 true v17 (.pointer none)) fun v18 =>
 S.pick v15 (B true) v18 fun v19 =>
 K0 v0 v1 v4 v19)
 <| fun v0' v1' v4' v13 => S.fa fun _ =>
 S.cond v13 (
 V Tryz.prog (Instr.build 34 #[]) fun v20 =>
 S.st 3 v4' v20 fun _ =>
 S.ldN 3 v4' fun v4'2 =>
 K (.tuple #[v4'2, (I 1)])) (
 S.nc v0' fun v23 =>
 S.fad v23 0 fun v24 =>
 S.fad v24 0 fun v25 =>
 S.ld v25 fun v26 =>
 CF Tryz.prog 21 [v26] fun v27 =>
 S.cond v27 (
 V Tryz.prog (Instr.build 34 #[]) fun v28 =>
 S.st 3 v4' v28 fun _ =>
 S.ldN 3 v4' fun v4'3 =>
 K (.tuple #[v4'3, (I 7)])) (
 CF Tryz.prog 34 [v1'] fun v31 =>
 S.bin .eql v31 (I 0) fun v32 =>
 S.cond v32 (
 V Tryz.prog (Instr.build 34 #[]) fun v33 =>
 S.st 3 v4' v33 fun _ =>
 S.ldN 3 v4' fun v4'4 =>
 K (.tuple #[v4'4, (I 2)])) (
 CF Tryz.prog 35 [v1'] fun v35 =>
 CF Tryz.prog 36 [v35] fun v38 =>
 S.ext v38 0 fun v39 =>
 S.ext v38 1 fun v40 =>
 S.box 58 (.agg #[(.int .i64 0), (.int .i64 0), (.slice none 0 0)]) fun v7 =>
 S.st 3 v7 v39 fun _ =>
 S.fad v7 0 fun v42 =>
 S.ld v42 fun v43 =>
 CF Tryz.prog 37 [v0', v43] fun v44 =>
 S.cond v44 (
 V Tryz.prog (Instr.build 34 #[]) fun v45 =>
 S.st 3 v4' v45 fun _ =>
 S.ldN 3 v4' fun v4'5 =>
 K (.tuple #[v4'5, (I 10)])) (
 S.dr <|
 S.nc v0' fun v48 =>
 S.fad v48 0 fun v49 =>
 S.fad v49 1 fun v50 =>
 S.ld v50 fun v51 =>
 S.fad v7 1 fun v52 =>
 S.ld v52 fun v53 =>
 CF Tryz.prog 38 [v51, v53] fun v54 =>
 S.ext v54 0 fun v55 =>
 S.ext v54 1 fun v56 =>
 S.bin .neq v56 (I 0) fun v58 =>
 S.cond v58 (
 V Tryz.prog (Instr.build 34 #[]) fun v59 =>
 S.st 3 v4' v59 fun _ =>
 S.ldN 3 v4' fun v4'6 =>
 K (.tuple #[v4'6, v56])) (
 S.fad v7 1 fun v62 =>
 S.ld v62 fun v63 =>
 V Tryz.prog (Instr.build 32 #[(0, v55), (1, v63)]) fun v64 =>
 S.box 32 (.agg #[(.int .i64 0), (.int .i64 0)]) fun v11 =>
 S.st 2 v11 v64 fun _ =>
 S.dr <|
 S.nc v0' fun v66 =>
 S.fad v66 0 fun v67 =>
 S.ldN 2 v11 fun v68 =>
 CF Tryz.prog 39 [v67, v68, v35] fun v70 =>
 S.bin .neq v70 (I 0) fun v72 =>
 S.cond v72 (
 S.dr <|
 S.nc v0' fun v74 =>
 S.fad v74 0 fun v75 =>
 S.fad v75 1 fun v76 =>
 S.ld v76 fun v77 =>
 S.ldN 2 v11 fun v78 =>
 CF Tryz.prog 40 [v77, v78] fun v79 =>
 V Tryz.prog (Instr.build 34 #[]) fun v80 =>
 S.st 3 v4' v80 fun _ =>
 S.ldN 3 v4' fun v4'7 =>
 K (.tuple #[v4'7, v70])) (
 S.dr <|
 S.nc v0' fun v83 =>
 S.fad v83 2 fun v84 =>
 S.ld v84 fun v85 =>
 S.fad v7 0 fun v86 =>
 S.ld v86 fun v87 =>
 S.ldN 2 v11 fun v88 =>
 U Tryz.prog (Instr.mapUpdate 95 v85 v87 v88) fun _ =>
 S.fad v7 0 fun v89 =>
 S.ld v89 fun v90 =>
 S.ldN 2 v11 fun v91 =>
 V Tryz.prog (Instr.build 34 #[(0, v90), (1, v91)]) fun v92 =>
 S.st 3 v4' v92 fun _ =>
 S.ldN 3 v4' fun v4'8 =>
 K (.tuple #[v4'8, (I 0)])))))))
theorem e9 [Amb] (v0 v1 : Value) (K : Value → WT) : s9 v0 v1 K = shal Tryz.prog Tryz.f9 .p a9 [v0, v1] K := by kernel_rfl
theorem c9 [Amb] {v0 v1 : Value} {K : Value → WT} {w : World} (h : s9 v0 v1 K w) : CF Tryz.prog 9 [v0, v1] K w := shal_sound Tryz.func9 (e9 v0 v1 K ▸ h)
def a10 : Ann := .seq (.z) (.seq (.z) (.seq (.seq (.z) (.cond (.seq (.z) (.z)) (.z))) (.seq (.z) (.seq (.z) (.seq (.z) (.seq (.z) (.z)))))))
def s10 [Amb] (K : Value → WT) : WT :=
 CF Tryz.prog 7 [(.int .u8 2), (.int .u8 0)] fun v10 =>
 S.ext v10 0 fun v11 =>
 S.ext v10 1 fun v12 =>
 S.not1 v12 fun v14 =>
 S.cond v14 (
 K (B false)) (
 V Tryz.prog (Instr.buildSlice 48 3 #[(0, (.int .u8 97)), (1, (.int .u8 98)), (2, (.int .u8 99))]) fun v16 =>
 V Tryz.prog (convert 48 48 v16) fun v17 =>
 V Tryz.prog (Instr.buildSlice 22 1 #[(0, v17)]) fun v18 =>
 CF Tryz.prog 8 [(I 7), (I 4), v18] fun v19 =>
 S.ext v19 0 fun v20 =>
 S.ext v19 1 fun v21 =>
 S.nc v11 fun v24 =>
 S.fad v24 2 fun v25 =>
 S.ld v25 fun v26 =>
 CF Tryz.prog 9 [v26, v20] fun v28 =>
 S.ext v28 0 fun v29 =>
 S.ext v28 1 fun v30 =>
 S.box 34 (.agg #[(.int .i64 0), (.int .i64 0), (.int .i64 0)]) fun v5 =>
 S.st 3 v5 v29 fun _ =>
 S.nc v11 fun v33 =>
 S.fad v33 2 fun v34 =>
 S.ld v34 fun v35 =>
 CF Tryz.prog 14 [v35, (I 7), (I 0)] fun v36 =>
 S.ext v36 0 fun v37 =>
 S.ext v36 1 fun v38 =>
 S.bin .eql v30 (I 0) fun v40 =>
 S.gd v40 true (S.ldN 3 v5) fun v42 =>
 S.gd v40 true (V Tryz.prog (Instr.build 32 #[(0, (I 0)), (1, (I 2))])) fun v43 =>
 S.gd v40 true (V Tryz.prog (Instr.build 34 #[(0, (I 7)), (1, v43)])) fun v44 =>
 S.gd v40 true (S.eqv Tryz.prog .eql 34 false v42 v44) fun v45 =>
 S.pick v40 v45 (B false) fun v46 =>
 S.gd v46 true (fun k => k v38) fun v48 =>
 S.gd v46 true (S.bin .eql v48 (I 0)) fun v49 =>
 S.pick v46 v49 (B false) fun v50 =>
 S.gd v50 true (fun k => k v37) fun v52 =>
 S.gd v50 true (S.b2s v52) fun v53 =>
 S.gd v50 true (S.sbin .eql v53 (.string ⟨#[97, 98, 99]⟩)) fun v54 =>
 S.pick v50 v54 (B false) fun v55 =>
 S.gd v55 true (fun k => k v11) fun v57 =>
 S.gd v55 true (S.nc v57) fun v58 =>
 S.gd v55 true (S.fad v58 2) fun v59 =>
 S.gd v55 true (S.ld v59) fun v60 =>
 S.gd v55 true (CF Tryz.prog 17 [v60]) fun v61 =>
 S.gd v55 true (S.bin .eql v61 (I 2)) fun v62 =>
 S.pick v55 v62 (B false) fun v63 =>
 S.gd v63 true (fun k => k v11) fun v65 =>
 S.gd v63 true (S.nc v65) fun v66 =>
 S.gd v63 true (S.fad v66 2) fun v67 =>
 S.gd v63 true (S.ld v67) fun v68 =>
 S.gd v63 true (CF Tryz.prog 16 [v68]) fun v69 =>
 S.gd v63 true (S.bin .eql v69 (I 0)) fun v70 =>
 S.pick v63 v70 (B false) fun v71 =>
 K v71)
theorem e10 [Amb] (K : Value → WT) : s10  K = shal Tryz.prog Tryz.f10 .p a10 [] K := by kernel_rfl
theorem c10 [Amb] {K : Value → WT} {w : World} (h : s10  K w) : CF Tryz.prog 10 [] K w := shal_sound Tryz.func10 (e10  K ▸ h)
def a11 : Ann := .seq (.z) (.seq (.blk (.seq (.z) (.cond (.seq (.z) (.z)) (.join [0, 3, 9] (.z) (.cond (.seq (.z) (.z)) (.seq (.z) (.cond (.seq (.z) (.z)) (.z)))))))) (.seq (.seq (.draw [0, 1, 2, 3, 4, 5, 6, 7, 8]) (.seq (.z) (.cond (.seq (.z) (.z)) (.z)))) (.seq (.draw [0, 1, 2, 3, 4, 5, 6, 7, 8]) (.seq (.z) (.z)))))
def s11 [Amb] (s_0 p_1 : Value) (K : Value → WT) : WT :=
 S.box 34 p_1 fun p_3 =>
 S.eqv Tryz.prog .eql 39 true s_0 (.pointer none) fun v8 =>
 S.cond v8 (
 K (I 1)) (
 S.join 3 (fun K0 =>
 S.fad p_3 0 fun v10 =>
 S.ld v10 fun v11 =>
 S.bin .lss v11 (I 0) fun v12 =>
 S.gd v12 false (S.fad p_3 0) fun v14 =>
 S.gd v12 false (S.ld v14) fun v15 =>
 S.gd v12 false (S.bin .geq v15 (I 4096)) fun v16 =>
 S.pick v12 (B true) v16 fun v17 =>
 S.gd v17 false (S.fad p_3 1) fun v19 =>
 S.gd v17 false (S.fad v19 1) fun v20 =>
 S.gd v17 false (S.ld v20) fun v21 =>
 S.gd v17 false (S.bin .lss v21 (I 2)) fun v22 =>
 S.pick v17 (B true) v22 fun v23 =>
 S.gd v23 false (S.fad p_3 1) fun v25 =>
 S.gd v23 false (S.fad v25 1) fun v26 =>
 S.gd v23 false (S.ld v26) fun v27 =>
 S.gd v23 false (S.bin .gtr v27 (I 64)) fun v28 =>
 S.pick v23 (B true) v28 fun v29 =>
 K0 s_0 p_3 v29)
 <| fun s_0' p_3' v9 => S.fa fun _ =>
 S.cond v9 (
 K (I 2)) (
 S.fad p_3' 0 fun v32 =>
 S.ld v32 fun v33 =>
 CF Tryz.prog 37 [s_0', v33] fun v34 =>
 S.cond v34 (
 K (I 10)) (
 S.dr <|
 S.nc s_0' fun v36 =>
 S.fad v36 0 fun v37 =>
 S.fad v37 1 fun v38 =>
 S.ld v38 fun v39 =>
 S.fad p_3' 1 fun v40 =>
 S.ldN 2 v40 fun v41 =>
 CF Tryz.prog 41 [v39, v41] fun v42 =>
 S.bin .neq v42 (I 0) fun v44 =>
 S.cond v44 (
 K v42) (
 S.dr <|
 S.nc s_0' fun v47 =>
 S.fad v47 2 fun v48 =>
 S.ld v48 fun v49 =>
 S.fad p_3' 0 fun v50 =>
 S.ld v50 fun v51 =>
 S.fad p_3' 1 fun v52 =>
 S.ldN 2 v52 fun v53 =>
 U Tryz.prog (Instr.mapUpdate 95 v49 v51 v53) fun _ =>
 K (I 0)))))
theorem e11 [Amb] (s_0 p_1 : Value) (K : Value → WT) : s11 s_0 p_1 K = shal Tryz.prog Tryz.f11 .p a11 [s_0, p_1] K := by kernel_rfl
theorem c11 [Amb] {s_0 p_1 : Value} {K : Value → WT} {w : World} (h : s11 s_0 p_1 K w) : CF Tryz.prog 11 [s_0, p_1] K w := shal_sound Tryz.func11 (e11 s_0 p_1 K ▸ h)
def a12 : Ann := .seq (.z) (.seq (.blk (.seq (.z) (.cond (.seq (.z) (.z)) (.seq (.z) (.cond (.seq (.z) (.z)) (.z)))))) (.seq (.draw [0, 1, 2, 3, 4, 5, 6, 7, 8, 9, 10, 11]) (.seq (.z) (.seq (.z) (.z)))))
def s12 [Amb] (s_0 bin_1 : Value) (K : Value → WT) : WT :=
 S.eqv Tryz.prog .eql 39 true s_0 (.pointer none) fun v7 =>
 S.cond v7 (
 K (I 1)) (
 CF Tryz.prog 37 [s_0, bin_1] fun v11 =>
 S.not1 v11 fun v12 =>
 S.cond v12 (
 K (I 9)) (
 S.dr <|
 S.nc s_0 fun v14 =>
 S.fad v14 0 fun v15 =>
 S.fad v15 1 fun v16 =>
 S.ld v16 fun v17 =>
 S.nc s_0 fun v19 =>
 S.fad v19 2 fun v20 =>
 S.ld v20 fun v21 =>
 S.lk (.int .i64) (.agg #[(.int .i64 0), (.int .i64 0)]) false v21 bin_1 fun v23 =>
 CF Tryz.prog 40 [v17, v23] fun v24 =>
 S.nc s_0 fun v26 =>
 S.fad v26 2 fun v27 =>
 S.ld v27 fun v28 =>
 V Tryz.prog (Builtin.delete_ #[95, 3] 0 #[v28, bin_1]) fun _ =>
 K (I 0)))
theorem e12 [Amb] (s_0 bin_1 : Value) (K : Value → WT) : s12 s_0 bin_1 K = shal Tryz.prog Tryz.f12 .p a12 [s_0, bin_1] K := by kernel_rfl
theorem c12 [Amb] {s_0 bin_1 : Value} {K : Value → WT} {w : World} (h : s12 s_0 bin_1 K w) : CF Tryz.prog 12 [s_0, bin_1] K w := shal_sound Tryz.func12 (e12 s_0 bin_1 K ▸ h)
def a13 : Ann := .seq (.z) (.seq (.z) (.seq (.z) (.z)))
def s13 [Amb] (s_0 bin_1 : Value) (K : Value → WT) : WT :=
 S.box 58 (.agg #[(.int .i64 0), (.int .i64 0), (.slice none 0 0)]) fun v4 =>
 CF Tryz.prog 42 [s_0, bin_1] fun v12 =>
 S.ext v12 0 fun v13 =>
 S.ext v12 1 fun v14 =>
 S.ext v12 2 fun v15 =>
 S.box 58 (.agg #[(.int .i64 0), (.int .i64 0), (.slice none 0 0)]) fun h_7 =>
 S.st 3 h_7 v14 fun _ =>
 S.ldN 3 h_7 fun v16 =>
 S.st 3 v4 v16 fun _ =>
 S.ldN 3 v4 fun v4' =>
 K (.tuple #[v4', v15])
theorem e13 [Amb] (s_0 bin_1 : Value) (K : Value → WT) : s13 s_0 bin_1 K = shal Tryz.prog Tryz.f13 .p a13 [s_0, bin_1] K := by kernel_rfl
theorem c13 [Amb] {s_0 bin_1 : Value} {K : Value → WT} {w : World} (h : s13 s_0 bin_1 K w) : CF Tryz.prog 13 [s_0, bin_1] K w := shal_sound Tryz.func13 (e13 s_0 bin_1 K ▸ h)
def a14 : Ann := .seq (.z) (.seq (.z) (.seq (.blk (.seq (.z) (.cond (.seq (.z) (.z)) (.join [2, 8, 9, 23] (.z) (.cond (.seq (.z) (.z)) (.z)))))) (.seq (.z) (.seq (.seq (.z) (.cond (.seq (.z) (.z)) (.z))) (.seq (.z) (.z))))))
def s14 [Amb] (s_0 bin_1 slot_2 : Value) (K : Value → WT) : WT :=
 CF Tryz.prog 42 [s_0, bin_1] fun v15 =>
 S.ext v15 0 fun v16 =>
 S.ext v15 1 fun v17 =>
 S.ext v15 2 fun v18 =>
 S.box 58 (.agg #[(.int .i64 0), (.int .i64 0), (.slice none 0 0)]) fun h_9 =>
 S.st 3 h_9 v17 fun _ =>
 S.bin .neq v18 (I 0) fun v21 =>
 S.cond v21 (
 K (.tuple #[(.slice none 0 0), v18])) (
 S.join 4 (fun K0 =>
 S.bin .lss slot_2 (I 0) fun v25 =>
 S.gd v25 false (fun k => k slot_2) fun v27 =>
 S.gd v25 false (S.fad h_9 2) fun v28 =>
 S.gd v25 false (S.ld v28) fun v29 =>
 S.gd v25 false (S.len v29) fun v30 =>
 S.gd v25 false (S.bin .geq v27 v30) fun v31 =>
 S.pick v25 (B true) v31 fun v32 =>
 K0 slot_2 v16 h_9 v32)
 <| fun slot_2' b_8 h_9' v23 => S.fa fun _ =>
 S.cond v23 (
 K (.tuple #[(.slice none 0 0), (I 9)])) (
 S.fad h_9' 2 fun v35 =>
 S.ld v35 fun v36 =>
 S.ixS 34 v36 slot_2' fun v38 =>
 S.ldN 34 v38 fun v39 =>
 CF Tryz.prog 43 [b_8, v39] fun v40 =>
 S.ext v40 0 fun v41 =>
 S.ext v40 1 fun v42 =>
 S.bin .neq v42 (I 0) fun v44 =>
 S.cond v44 (
 K (.tuple #[(.slice none 0 0), (I 13)])) (
 K (.tuple #[v41, (I 0)]))))
theorem e14 [Amb] (s_0 bin_1 slot_2 : Value) (K : Value → WT) : s14 s_0 bin_1 slot_2 K = shal Tryz.prog Tryz.f14 .p a14 [s_0, bin_1, slot_2] K := by kernel_rfl
theorem c14 [Amb] {s_0 bin_1 slot_2 : Value} {K : Value → WT} {w : World} (h : s14 s_0 bin_1 slot_2 K w) : CF Tryz.prog 14 [s_0, bin_1, slot_2] K w := shal_sound Tryz.func14 (e14 s_0 bin_1 slot_2 K ▸ h)
def a15 : Ann := .seq (.z) (.seq (.join [0, 1, 11] (.z) (.cond (.seq (.z) (.z)) (.z))) (.seq (.z) (.z)))
def s15 [Amb] (d_0 m_1 : Value) (K : Value → WT) : WT :=
 S.join 3 (fun K0 =>
 S.eqv Tryz.prog .eql 37 true d_0 (.pointer none) fun v7 =>
 S.gd v7 false (fun k => k m_1) fun v9 =>
 S.gd v7 false (S.eqv Tryz.prog .eql 74 true v9 (.pointer none)) fun v10 =>
 S.pick v7 (B true) v10 fun v11 =>
 K0 d_0 m_1 v11)
 <| fun d_0' m_1' v11' => S.fa fun _ =>
 S.cond v11' (
 K (.tuple #[(.pointer none), (I 1)])) (
 V Tryz.prog (Instr.build 94 #[(0, d_0'), (1, m_1')]) fun v14 =>
 S.mkM fun v15 =>
 V Tryz.prog (Instr.build 97 #[(0, v14), (1, v15)]) fun v16 =>
 S.box 97 v16 fun v17 =>
 K (.tuple #[v17, (I 0)]))
theorem e15 [Amb] (d_0 m_1 : Value) (K : Value → WT) : s15 d_0 m_1 K = shal Tryz.prog Tryz.f15 .p a15 [d_0, m_1] K := by kernel_rfl
theorem c15 [Amb] {d_0 m_1 : Value} {K : Value → WT} {w : World} (h : s15 d_0 m_1 K w) : CF Tryz.prog 15 [d_0, m_1] K w := shal_sound Tryz.func15 (e15 d_0 m_1 K ▸ h)
def a16 : Ann := .seq (.z) (.seq (.seq (.z) (.cond (.seq (.z) (.z)) (.z))) (.seq (.seq (.z) (.blk (.loop [0, 6] (.seq (.z) (.seq (.cond (.z) (.z)) (.seq (.blk (.seq (.z) (.seq (.z) (.cond (.seq (.z) (.z)) (.z))))) (.z))))))) (.seq (.z) (.z))))
def s16 [Amb] (s_0 : Value) (K : Value → WT) : WT :=
 S.eqv Tryz.prog .eql 39 true s_0 (.pointer none) fun v5 =>
 S.cond v5 (
 K (I (-1))) (
 S.loop 2 (fun K0 => fun s_0' v6 => S.fa fun _ =>
 S.bin .lss v6 (I 4096) fun v7 =>
 S.cond v7 (
 CF Tryz.prog 37 [s_0', v6] fun v11 =>
 S.not1 v11 fun v12 =>
 S.cond v12 (
 K v6) (
 S.bin .add v6 (I 1) fun v14 =>
 K0 s_0' v14)) (
 K (I (-1))))
 [s_0, (I 0)])
theorem e16 [Amb] (s_0 : Value) (K : Value → WT) : s16 s_0 K = shal Tryz.prog Tryz.f16 .p a16 [s_0] K := by kernel_rfl
theorem c16 [Amb] {s_0 : Value} {K : Value → WT} {w : World} (h : s16 s_0 K w) : CF Tryz.prog 16 [s_0] K w := shal_sound Tryz.func16 (e16 s_0 K ▸ h)
def a17 : Ann := .seq (.z) (.seq (.z) (.seq (.seq (.z) (.blk (.loop [3, 7, 8, 9] (.seq (.z) (.seq (.cond (.z) (.z)) (.seq (.blk (.seq (.z) (.z))) (.z))))))) (.seq (.z) (.z))))
def s17 [Amb] (s_0 : Value) (K : Value → WT) : WT :=
 CF Tryz.prog 18 [s_0] fun v7 =>
 S.len v7 fun v8 =>
 S.loop 4 (fun K0 => fun n_3 v7' v8' v9 => S.fa fun _ =>
 S.bin .lss v9 v8' fun v10 =>
 S.cond v10 (
 S.ixS 3 v7' v9 fun v11 =>
 S.ldN 3 v11 fun v12 =>
 S.box 34 (.agg #[(.int .i64 0), (.int .i64 0), (.int .i64 0)]) fun p_5 =>
 S.st 3 p_5 v12 fun _ =>
 S.fad p_5 1 fun v14 =>
 S.fad v14 1 fun v15 =>
 S.ld v15 fun v16 =>
 S.bin .add n_3 v16 fun v17 =>
 S.bin .add v9 (I 1) fun v18 =>
 K0 v17 v7' v8' v18) (
 K n_3))
 [(I 0), v7, v8, (I 0)]
theorem e17 [Amb] (s_0 : Value) (K : Value → WT) : s17 s_0 K = shal Tryz.prog Tryz.f17 .p a17 [s_0] K := by kernel_rfl
theorem c17 [Amb] {s_0 : Value} {K : Value → WT} {w : World} (h : s17 s_0 K w) : CF Tryz.prog 17 [s_0] K w := shal_sound Tryz.func17 (e17 s_0 K ▸ h)
def a18 : Ann := .seq (.z) (.seq (.z) (.join [3] (.seq (.z) (.cond (.seq (.z) (.blk (.loop [0, 3, 13, 14, 15] (.seq (.z) (.seq (.cond (.z) (.z)) (.seq (.blk (.seq (.z) (.z))) (.z))))))) (.z))) (.seq (.z) (.z))))
def s18 [Amb] (s_0 : Value) (K : Value → WT) : WT :=
 S.join 1 (fun K0 =>
 S.eqv Tryz.prog .neq 39 true s_0 (.pointer none) fun v7 =>
 S.cond v7 (
 S.nc s_0 fun v9 =>
 S.fad v9 2 fun v10 =>
 S.ld v10 fun v11 =>
 CF Tryz.prog 45 [v11] fun v12 =>
 CF Tryz.prog 44 [v12] fun v13 =>
 S.len v13 fun v14 =>
 S.loop 5 (fun K1 => fun s_0' out_3 v13' v14' v15 => S.fa fun _ =>
 S.bin .lss v15 v14' fun v16 =>
 S.cond v16 (
 S.ixS 1 v13' v15 fun v17 =>
 S.ld v17 fun v18 =>
 S.nc s_0' fun v22 =>
 S.fad v22 2 fun v23 =>
 S.ld v23 fun v24 =>
 S.lk (.int .i64) (.agg #[(.int .i64 0), (.int .i64 0)]) false v24 v18 fun v26 =>
 V Tryz.prog (Instr.build 34 #[(0, v18), (1, v26)]) fun v27 =>
 V Tryz.prog (Instr.buildSlice 67 1 #[(0, v27)]) fun v28 =>
 V Tryz.prog (Builtin.append_ #[67, 67] 67 #[out_3, v28]) fun v29 =>
 S.bin .add v15 (I 1) fun v30 =>
 K1 s_0' v29 v13' v14' v30) (
 K0 out_3))
 [s_0, (.slice none 0 0), v13, v14, (I 0)]) (
 K0 (.slice none 0 0)))
 <| fun out_3' => S.fa fun _ =>
 K out_3'
theorem e18 [Amb] (s_0 : Value) (K : Value → WT) : s18 s_0 K = shal Tryz.prog Tryz.f18 .p a18 [s_0] K := by kernel_rfl
theorem c18 [Amb] {s_0 : Value} {K : Value → WT} {w : World} (h : s18 s_0 K w) : CF Tryz.prog 18 [s_0] K w := shal_sound Tryz.func18 (e18 s_0 K ▸ h)
def a21 : Ann := .seq (.z) (.seq (.z) (.z))
def s21 [Amb] (d_0 : Value) (K : Value → WT) : WT :=
 S.eqv Tryz.prog .neq 37 true d_0 (.pointer none) fun v4 =>
 S.gd v4 true (fun k => k d_0) fun v6 =>
 S.gd v4 true (S.nc v6) fun v7 =>
 S.gd v4 true (S.fad v7 3) fun v8 =>
 S.gd v4 true (S.ld v8) fun v9 =>
 S.pick v4 v9 (B false) fun v10 =>
 K v10
theorem e21 [Amb] (d_0 : Value) (K : Value → WT) : s21 d_0 K = shal Tryz.prog Tryz.f21 .p a21 [d_0] K := by kernel_rfl
theorem c21 [Amb] {d_0 : Value} {K : Value → WT} {w : World} (h : s21 d_0 K w) : CF Tryz.prog 21 [d_0] K w := shal_sound Tryz.func21 (e21 d_0 K ▸ h)
def a23 : Ann := .seq (.z) (.seq (.blk (.seq (.z) (.cond (.seq (.z) (.z)) (.seq (.z) (.cond (.seq (.z) (.z)) (.seq (.z) (.cond (.seq (.z) (.z)) (.z)))))))) (.seq (.z) (.seq (.z) (.z))))
def s23 [Amb] (d_0 n_1 : Value) (K : Value → WT) : WT :=
 S.eqv Tryz.prog .eql 37 true d_0 (.pointer none) fun v7 =>
 S.cond v7 (
 K (I 1)) (
 S.nc d_0 fun v10 =>
 S.fad v10 3 fun v11 =>
 S.ld v11 fun v12 =>
 S.cond v12 (
 K (I 7)) (
 S.bin .lss n_1 (I 0) fun v15 =>
 S.cond v15 (
 K (I 2)) (
 S.nc d_0 fun v18 =>
 S.fad v18 2 fun v19 =>
 S.st 1 v19 n_1 fun _ =>
 K (I 0))))
theorem e23 [Amb] (d_0 n_1 : Value) (K : Value → WT) : s23 d_0 n_1 K = shal Tryz.prog Tryz.f23 .p a23 [d_0, n_1] K := by kernel_rfl
theorem c23 [Amb] {d_0 n_1 : Value} {K : Value → WT} {w : World} (h : s23 d_0 n_1 K w) : CF Tryz.prog 23 [d_0, n_1] K w := shal_sound Tryz.func23 (e23 d_0 n_1 K ▸ h)
def a24 : Ann := .seq (.z) (.seq (.seq (.z) (.seq (.z) (.cond (.seq (.z) (.z)) (.z)))) (.seq (.z) (.z)))
def s24 [Amb] (d_0 : Value) (K : Value → WT) : WT :=
 CF Tryz.prog 55 [d_0, (I 0)] fun v5 =>
 S.bin .neq v5 (I 0) fun v7 =>
 S.cond v7 (
 K v5) (
 CF Tryz.prog 56 [d_0, (.func (Go.Fn.func 57) #[d_0] #[])] fun v12 =>
 K v12)
theorem e24 [Amb] (d_0 : Value) (K : Value → WT) : s24 d_0 K = shal Tryz.prog Tryz.f24 .p a24 [d_0] K := by kernel_rfl
def a25 : Ann := .seq (.z) (.seq (.join [0, 1, 17] (.z) (.cond (.seq (.z) (.z)) (.z))) (.seq (.z) (.join [6] (.seq (.z) (.cond (.z) (.z))) (.seq (.z) (.z)))))
def s25 [Amb] (from_0 to_1 : Value) (K : Value → WT) : WT :=
 S.join 3 (fun K0 =>
 S.bin .lss from_0 (I 0) fun v8 =>
 S.gd v8 false (fun k => k from_0) fun v10 =>
 S.gd v8 false (fun k => k to_1) fun v11 =>
 S.gd v8 false (S.bin .gtr v10 v11) fun v12 =>
 S.pick v8 (B true) v12 fun v13 =>
 S.gd v13 false (fun k => k to_1) fun v15 =>
 S.gd v13 false (S.bin .gtr v15 (I 4096)) fun v16 =>
 S.pick v13 (B true) v16 fun v17 =>
 K0 from_0 to_1 v17)
 <| fun from_0' to_1' v17' => S.fa fun _ =>
 S.cond v17' (
 K (.tuple #[(.pointer none), (I 2)])) (
 V Tryz.prog (Instr.build 127 #[(0, from_0'), (1, to_1')]) fun v20 =>
 S.box 127 v20 fun v21 =>
 S.join 1 (fun K1 =>
 S.bin .lss from_0' to_1' fun v24 =>
 S.cond v24 (
 S.bin .sub to_1' from_0' fun v29 =>
 V Tryz.prog (Instr.build 32 #[(0, from_0'), (1, v29)]) fun v30 =>
 V Tryz.prog (Instr.buildSlice 125 1 #[(0, v30)]) fun v31 =>
 S.nc v21 fun v32 =>
 S.fad v32 2 fun v33 =>
 S.st 1 v33 v31 fun _ =>
 K1 v21) (
 K1 v21))
 <| fun m_6 => S.fa fun _ =>
 K (.tuple #[m_6, (I 0)]))
theorem e25 [Amb] (from_0 to_1 : Value) (K : Value → WT) : s25 from_0 to_1 K = shal Tryz.prog Tryz.f25 .p a25 [from_0, to_1] K := by kernel_rfl
theorem c25 [Amb] {from_0 to_1 : Value} {K : Value → WT} {w : World} (h : s25 from_0 to_1 K w) : CF Tryz.prog 25 [from_0, to_1] K w := shal_sound Tryz.func25 (e25 from_0 to_1 K ▸ h)
def a27 : Ann := .seq (.z) (.seq (.join [0, 10] (.z) (.cond (.seq (.z) (.z)) (.z))) (.seq (.z) (.seq (.seq (.z) (.blk (.loop [4, 14, 15] (.seq (.z) (.seq (.cond (.z) (.z)) (.seq (.blk (.draw [0, 1, 2, 3, 4, 5, 6, 7, 8, 9, 10])) (.z))))))) (.seq (.z) (.z)))))
def s27 [Amb] (sectors_0 : Value) (K : Value → WT) : WT :=
 S.join 2 (fun K0 =>
 S.bin .lss sectors_0 (I 1) fun v6 =>
 S.gd v6 false (fun k => k sectors_0) fun v8 =>
 S.gd v6 false (S.bin .gtr v8 (I 4096)) fun v9 =>
 S.pick v6 (B true) v9 fun v10 =>
 K0 sectors_0 v10)
 <| fun sectors_0' v10' => S.fa fun _ =>
 S.cond v10' (
 K (.tuple #[(.pointer none), (I 2)])) (
 S.mkM fun v11 =>
 V Tryz.prog (Instr.build 121 #[(1, v11)]) fun v12 =>
 S.box 121 v12 fun v13 =>
 S.loop 3 (fun K1 => fun d_4 v14 v15 => S.fa fun _ =>
 S.bin .lss v15 v14 fun v16 =>
 S.cond v16 (
 S.dr <|
 S.nc d_4 fun v19 =>
 S.fad v19 0 fun v20 =>
 S.ld v20 fun v21 =>
 V Tryz.prog (Instr.makeSlice 48 (I 128) (I 128)) fun v22 =>
 S.rck [S.ld v20 (fun v' _ => v' = v21)] <|
 V Tryz.prog (Instr.buildSlice 22 1 #[(0, v22)]) fun v23 =>
 S.rck [S.ld v20 (fun v' _ => v' = v21)] <|
 V Tryz.prog (Builtin.append_ #[22, 22] 22 #[v21, v23]) fun v24 =>
 S.nc d_4 fun v25 =>
 S.fad v25 0 fun v26 =>
 S.st 1 v26 v24 fun _ =>
 S.bin .add v15 (I 1) fun v27 =>
 K1 d_4 v14 v27) (
 K (.tuple #[d_4, (I 0)])))
 [v13, sectors_0', (I 0)])
theorem e27 [Amb] (sectors_0 : Value) (K : Value → WT) : s27 sectors_0 K = shal Tryz.prog Tryz.f27 .p a27 [sectors_0] K := by kernel_rfl
theorem c27 [Amb] {sectors_0 : Value} {K : Value → WT} {w : World} (h : s27 sectors_0 K w) : CF Tryz.prog 27 [sectors_0] K w := shal_sound Tryz.func27 (e27 sectors_0 K ▸ h)
def a28 : Ann := .seq (.z) (.seq (.join [0, 12] (.z) (.cond (.seq (.z) (.z)) (.z))) (.seq (.z) (.seq (.z) (.seq (.seq (.z) (.blk (.loop [0, 4, 5, 6] (.seq (.seq (.z) (.cond (.z) (.z))) (.seq (.blk (.z)) (.z)))))) (.seq (.z) (.z))))))
def s28 [Amb] (n_0 : Value) (K : Value → WT) : WT :=
 S.join 2 (fun K0 =>
 S.bin .lss n_0 (I 1) fun v8 =>
 S.gd v8 false (fun k => k n_0) fun v10 =>
 S.gd v8 false (S.bin .gtr v10 (I 4096)) fun v11 =>
 S.pick v8 (B true) v11 fun v12 =>
 K0 n_0 v12)
 <| fun n_0' v12' => S.fa fun _ =>
 S.cond v12' (
 K (.tuple #[(.pointer none), (I 2)])) (
 V Tryz.prog (Instr.build 130 #[]) fun v13 =>
 S.box 130 v13 fun v14 =>
 CF Tryz.prog 58 [(I 128)] fun v15 =>
 S.loop 4 (fun K1 => fun n_0'2 d_4 z_5 i_6 => S.fa fun _ =>
 S.bin .lss i_6 n_0'2 fun v18 =>
 S.cond v18 (
 S.nc d_4 fun v23 =>
 S.fad v23 0 fun v24 =>
 S.ld v24 fun v25 =>
 V Tryz.prog (Instr.build 133 #[(0, z_5)]) fun v27 =>
 V Tryz.prog (Instr.buildSlice 128 1 #[(0, v27)]) fun v28 =>
 V Tryz.prog (Builtin.append_ #[128, 128] 128 #[v25, v28]) fun v29 =>
 S.nc d_4 fun v30 =>
 S.fad v30 0 fun v31 =>
 S.st 1 v31 v29 fun _ =>
 S.bin .add i_6 (I 1) fun v20 =>
 K1 n_0'2 d_4 z_5 v20) (
 K (.tuple #[d_4, (I 0)])))
 [n_0', v14, v15, (I 0)])
theorem e28 [Amb] (n_0 : Value) (K : Value → WT) : s28 n_0 K = shal Tryz.prog Tryz.f28 .p a28 [n_0] K := by kernel_rfl
theorem c28 [Amb] {n_0 : Value} {K : Value → WT} {w : World} (h : s28 n_0 K w) : CF Tryz.prog 28 [n_0] K w := shal_sound Tryz.func28 (e28 n_0 K ▸ h)
def a29 : Ann := .seq (.z) (.seq (.join [0, 1, 18] (.z) (.cond (.seq (.z) (.z)) (.z))) (.seq (.z) (.seq (.seq (.z) (.blk (.loop [1, 6, 7] (.seq (.seq (.z) (.cond (.z) (.z))) (.seq (.blk (.z)) (.z)))))) (.seq (.z) (.z)))))
def s29 [Amb] (from_0 to_1 : Value) (K : Value → WT) : WT :=
 S.join 3 (fun K0 =>
 S.bin .lss from_0 (I 0) fun v9 =>
 S.gd v9 false (fun k => k from_0) fun v11 =>
 S.gd v9 false (fun k => k to_1) fun v12 =>
 S.gd v9 false (S.bin .gtr v11 v12) fun v13 =>
 S.pick v9 (B true) v13 fun v14 =>
 S.gd v14 false (fun k => k to_1) fun v16 =>
 S.gd v14 false (S.bin .gtr v16 (I 4096)) fun v17 =>
 S.pick v14 (B true) v17 fun v18 =>
 K0 from_0 to_1 v18)
 <| fun from_0' to_1' v18' => S.fa fun _ =>
 S.cond v18' (
 K (.tuple #[(.pointer none), (I 2)])) (
 V Tryz.prog (Instr.build 135 #[(0, from_0')]) fun v20 =>
 S.box 135 v20 fun v21 =>
 S.loop 3 (fun K1 => fun to_1'2 m_6 i_7 => S.fa fun _ =>
 S.bin .lss i_7 to_1'2 fun v25 =>
 S.cond v25 (
 S.nc m_6 fun v30 =>
 S.fad v30 1 fun v31 =>
 S.ld v31 fun v32 =>
 V Tryz.prog (Instr.buildSlice 49 1 #[(0, (B false))]) fun v33 =>
 V Tryz.prog (Builtin.append_ #[49, 49] 49 #[v32, v33]) fun v34 =>
 S.nc m_6 fun v35 =>
 S.fad v35 1 fun v36 =>
 S.st 1 v36 v34 fun _ =>
 S.bin .add i_7 (I 1) fun v27 =>
 K1 to_1'2 m_6 v27) (
 K (.tuple #[m_6, (I 0)])))
 [to_1', v21, from_0'])
theorem e29 [Amb] (from_0 to_1 : Value) (K : Value → WT) : s29 from_0 to_1 K = shal Tryz.prog Tryz.f29 .p a29 [from_0, to_1] K := by kernel_rfl
theorem c29 [Amb] {from_0 to_1 : Value} {K : Value → WT} {w : World} (h : s29 from_0 to_1 K w) : CF Tryz.prog 29 [from_0, to_1] K w := shal_sound Tryz.func29 (e29 from_0 to_1 K ▸ h)
def a30 : Ann := .seq (.z) (.seq (.join [0, 1, 19] (.z) (.cond (.seq (.z) (.z)) (.z))) (.seq (.z) (.z)))
def s30 [Amb] (id_0 sectors_1 : Value) (K : Value → WT) : WT :=
 S.join 3 (fun K0 =>
 S.bin .lss id_0 (I 0) fun v7 =>
 S.gd v7 false (fun k => k id_0) fun v9 =>
 S.gd v7 false (S.bin .geq v9 (I 4096)) fun v10 =>
 S.pick v7 (B true) v10 fun v11 =>
 S.gd v11 false (fun k => k sectors_1) fun v13 =>
 S.gd v11 false (S.bin .lss v13 (I 4)) fun v14 =>
 S.pick v11 (B true) v14 fun v15 =>
 S.gd v15 false (fun k => k sectors_1) fun v17 =>
 S.gd v15 false (S.bin .gtr v17 (I 64)) fun v18 =>
 S.pick v15 (B true) v18 fun v19 =>
 K0 id_0 sectors_1 v19)
 <| fun id_0' sectors_1' v19' => S.fa fun _ =>
 S.cond v19' (
 K (.tuple #[(.pointer none), (I 2)])) (
 V Tryz.prog (Instr.build 137 #[(0, id_0'), (1, sectors_1')]) fun v22 =>
 S.box 137 v22 fun v23 =>
 K (.tuple #[v23, (I 0)]))
theorem e30 [Amb] (id_0 sectors_1 : Value) (K : Value → WT) : s30 id_0 sectors_1 K = shal Tryz.prog Tryz.f30 .p a30 [id_0, sectors_1] K := by kernel_rfl
theorem c30 [Amb] {id_0 sectors_1 : Value} {K : Value → WT} {w : World} (h : s30 id_0 sectors_1 K w) : CF Tryz.prog 30 [id_0, sectors_1] K w := shal_sound Tryz.func30 (e30 id_0 sectors_1 K ▸ h)
def a31 : Ann := .seq (.z) (.seq (.join [0, 1, 19] (.z) (.cond (.seq (.z) (.z)) (.z))) (.seq (.z) (.z)))
def s31 [Amb] (id_0 sectors_1 : Value) (K : Value → WT) : WT :=
 S.join 3 (fun K0 =>
 S.bin .lss id_0 (I 0) fun v7 =>
 S.gd v7 false (fun k => k id_0) fun v9 =>
 S.gd v7 false (S.bin .gtr v9 (I 4095)) fun v10 =>
 S.pick v7 (B true) v10 fun v11 =>
 S.gd v11 false (fun k => k sectors_1) fun v13 =>
 S.gd v11 false (S.bin .lss v13 (I 4)) fun v14 =>
 S.pick v11 (B true) v14 fun v15 =>
 S.gd v15 false (fun k => k sectors_1) fun v17 =>
 S.gd v15 false (S.bin .gtr v17 (I 64)) fun v18 =>
 S.pick v15 (B true) v18 fun v19 =>
 K0 id_0 sectors_1 v19)
 <| fun id_0' sectors_1' v19' => S.fa fun _ =>
 S.cond v19' (
 K (.tuple #[(.pointer none), (I 2)])) (
 V Tryz.prog (Instr.build 47 #[(0, id_0'), (1, sectors_1')]) fun v22 =>
 S.box 47 v22 fun v23 =>
 K (.tuple #[v23, (I 0)]))
theorem e31 [Amb] (id_0 sectors_1 : Value) (K : Value → WT) : s31 id_0 sectors_1 K = shal Tryz.prog Tryz.f31 .p a31 [id_0, sectors_1] K := by kernel_rfl
theorem c31 [Amb] {id_0 sectors_1 : Value} {K : Value → WT} {w : World} (h : s31 id_0 sectors_1 K w) : CF Tryz.prog 31 [id_0, sectors_1] K w := shal_sound Tryz.func31 (e31 id_0 sectors_1 K ▸ h)
def a32 : Ann := .seq (.z) (.seq (.blk (.seq (.z) (.cond (.seq (.z) (.z)) (.join [0, 1, 10] (.z) (.cond (.seq (.z) (.z)) (.seq (.z) (.cond (.seq (.z) (.z)) (.seq (.z) (.cond (.seq (.z) (.z)) (.z)))))))))) (.seq (.drawT 13 (.one 0 (.one 2 (.one 3 (.one 4 (.one 5 (.one 6 (.one 7 (.one 8 (.one 9 (.two 1 (.two 10 (.one 11 (.one 12 .nil)) 11 (.one 10 (.one 12 .nil))) 11 (.one 1 (.one 10 (.one 12 .nil)))))))))))))) (.seq (.drawT 12 (.one 0 (.one 1 (.one 2 (.one 3 (.one 4 (.one 6 (.two 5 (.one 7 (.one 8 (.one 9 (.one 10 (.one 11 .nil))))) 7 (.one 5 (.one 8 (.one 9 (.one 10 (.one 11 .nil))))))))))))) (.seq (.z) (.seq (.z) (.z))))))
def s32 [Amb] (v0 v1 : Value) (K : Value → WT) : WT :=
 S.eqv Tryz.prog .eql 27 true v0 (.pointer none) fun v9 =>
 S.cond v9 (
 K (.tuple #[(I 0), (I 1)])) (
 S.join 3 (fun K0 =>
 S.len v1 fun v12 =>
 S.bin .lss v12 (I 1) fun v13 =>
 S.gd v13 false (fun k => k v1) fun v15 =>
 S.gd v13 false (S.len v15) fun v16 =>
 S.gd v13 false (S.bin .gtr v16 (I 512)) fun v17 =>
 S.pick v13 (B true) v17 fun v18 =>
 K0 v0 v1 v18)
 <| fun v0' v1' v10 => S.fa fun _ =>
 S.cond v10 (
 K (.tuple #[(I 0), (I 2)])) (
 S.nc v0' fun v21 =>
 S.fad v21 2 fun v22 =>
 S.ld v22 fun v23 =>
 S.len v23 fun v24 =>
 S.bin .eql v24 (I 64) fun v25 =>
 S.cond v25 (
 K (.tuple #[(I 0), (I 6)])) (
 S.len v1' fun v28 =>
 CF Tryz.prog 59 [v0'] fun v30 =>
 S.bin .gtr v28 v30 fun v31 =>
 S.cond v31 (
 K (.tuple #[(I 0), (I 8)])) (
 S.dr <|
 S.nc v0' fun v35 =>
 S.fad v35 3 fun v36 =>
 S.ld v36 fun v37 =>
 S.len v37 fun v38 =>
 S.bin .add (I 128) v38 fun v39 =>
 S.len v1' fun v41 =>
 S.both (
 CF Tryz.prog 60 [v1'] fun v33 =>
 S.rck [S.ld v36 (fun v' _ => v' = v37)] <|
 S.both (
 V Tryz.prog (Instr.build 109 #[(0, v33), (1, v39), (2, v41)]) fun v42 =>
 S.box 109 (.agg #[(.int .u8 0), (.int .u8 0), (.int .u8 0), (.int .u8 0), (.int .u8 0), (.int .u8 0), (.int .u8 0), (.int .u8 0), (.int .u8 0), (.int .u8 0), (.int .u8 0), (.int .u8 0), (.int .u8 0), (.int .u8 0), (.int .u8 0), (.int .u8 0), (.int .u8 0), (.int .u8 0), (.int .u8 0), (.int .u8 0), (.int .u8 0), (.int .u8 0), (.int .u8 0), (.int .u8 0), (.int .u8 0), (.int .u8 0), (.int .u8 0), (.int .u8 0), (.int .u8 0), (.int .u8 0), (.int .u8 0), (.int .u8 0), (.int .i64 0), (.int .i64 0)]) fun v6 =>
 S.st 34 v6 v42 fun _ =>
 S.dr <|
 S.nc v0' fun v45 =>
 S.fad v45 2 fun v46 =>
 S.ld v46 fun v47 =>
 S.ldN 34 v6 fun v49 =>
 S.both (
 CF Tryz.prog 61 [v47] fun v48 =>
 S.rck [S.ldN 34 v6 (fun v' _ => v' = v49)] <|
 V Tryz.prog (Instr.buildSlice 56 1 #[(0, v49)]) fun v50 =>
 V Tryz.prog (Builtin.append_ #[56, 56] 56 #[v48, v50]) fun v51 =>
 S.nc v0' fun v52 =>
 S.fad v52 2 fun v53 =>
 S.st 1 v53 v51 fun _ =>
 S.nc v0' fun v56 =>
 S.fad v56 3 fun v57 =>
 S.ld v57 fun v58 =>
 V Tryz.prog (Instr.buildSlice 22 2 #[(0, v58), (1, v1')]) fun v60 =>
 CF Tryz.prog 62 [v60] fun v61 =>
 S.nc v0' fun v62 =>
 S.fad v62 3 fun v63 =>
 S.st 1 v63 v61 fun _ =>
 S.nc v0' fun v65 =>
 S.fad v65 2 fun v66 =>
 S.ld v66 fun v67 =>
 S.len v67 fun v68 =>
 S.bin .sub v68 (I 1) fun v69 =>
 K (.tuple #[v69, (I 0)])) (
 V Tryz.prog (Instr.buildSlice 56 1 #[(0, v49)]) fun v50' =>
 S.rck [S.ld v46 (fun v' _ => v' = v47)] <|
 CF Tryz.prog 61 [v47] fun v48' =>
 V Tryz.prog (Builtin.append_ #[56, 56] 56 #[v48', v50']) fun v51' =>
 S.nc v0' fun v52' =>
 S.fad v52' 2 fun v53' =>
 S.st 1 v53' v51' fun _ =>
 S.nc v0' fun v56' =>
 S.fad v56' 3 fun v57' =>
 S.ld v57' fun v58' =>
 V Tryz.prog (Instr.buildSlice 22 2 #[(0, v58'), (1, v1')]) fun v60' =>
 CF Tryz.prog 62 [v60'] fun v61' =>
 S.nc v0' fun v62' =>
 S.fad v62' 3 fun v63' =>
 S.st 1 v63' v61' fun _ =>
 S.nc v0' fun v65' =>
 S.fad v65' 2 fun v66' =>
 S.ld v66' fun v67' =>
 S.len v67' fun v68' =>
 S.bin .sub v68' (I 1) fun v69' =>
 K (.tuple #[v69', (I 0)]))) (
 S.box 109 (.agg #[(.int .u8 0), (.int .u8 0), (.int .u8 0), (.int .u8 0), (.int .u8 0), (.int .u8 0), (.int .u8 0), (.int .u8 0), (.int .u8 0), (.int .u8 0), (.int .u8 0), (.int .u8 0), (.int .u8 0), (.int .u8 0), (.int .u8 0), (.int .u8 0), (.int .u8 0), (.int .u8 0), (.int .u8 0), (.int .u8 0), (.int .u8 0), (.int .u8 0), (.int .u8 0), (.int .u8 0), (.int .u8 0), (.int .u8 0), (.int .u8 0), (.int .u8 0), (.int .u8 0), (.int .u8 0), (.int .u8 0), (.int .u8 0), (.int .i64 0), (.int .i64 0)]) fun v6' =>
 S.rck [S.ld v36 (fun v' _ => v' = v37)] <|
 V Tryz.prog (Instr.build 109 #[(0, v33), (1, v39), (2, v41)]) fun v42' =>
 S.st 34 v6' v42' fun _ =>
 S.dr <|
 S.nc v0' fun v45' =>
 S.fad v45' 2 fun v46' =>
 S.ld v46' fun v47' =>
 S.ldN 34 v6' fun v49' =>
 S.both (
 CF Tryz.prog 61 [v47'] fun v48'2 =>
 S.rck [S.ldN 34 v6' (fun v' _ => v' = v49')] <|
 V Tryz.prog (Instr.buildSlice 56 1 #[(0, v49')]) fun v50'2 =>
 V Tryz.prog (Builtin.append_ #[56, 56] 56 #[v48'2, v50'2]) fun v51'2 =>
 S.nc v0' fun v52'2 =>
 S.fad v52'2 2 fun v53'2 =>
 S.st 1 v53'2 v51'2 fun _ =>
 S.nc v0' fun v56'2 =>
 S.fad v56'2 3 fun v57'2 =>
 S.ld v57'2 fun v58'2 =>
 V Tryz.prog (Instr.buildSlice 22 2 #[(0, v58'2), (1, v1')]) fun v60'2 =>
 CF Tryz.prog 62 [v60'2] fun v61'2 =>
 S.nc v0' fun v62'2 =>
 S.fad v62'2 3 fun v63'2 =>
 S.st 1 v63'2 v61'2 fun _ =>
 S.nc v0' fun v65'2 =>
 S.fad v65'2 2 fun v66'2 =>
 S.ld v66'2 fun v67'2 =>
 S.len v67'2 fun v68'2 =>
 S.bin .sub v68'2 (I 1) fun v69'2 =>
 K (.tuple #[v69'2, (I 0)])) (
 V Tryz.prog (Instr.buildSlice 56 1 #[(0, v49')]) fun v50'3 =>
 S.rck [S.ld v46' (fun v' _ => v' = v47')] <|
 CF Tryz.prog 61 [v47'] fun v48'3 =>
 V Tryz.prog (Builtin.append_ #[56, 56] 56 #[v48'3, v50'3]) fun v51'3 =>
 S.nc v0' fun v52'3 =>
 S.fad v52'3 2 fun v53'3 =>
 S.st 1 v53'3 v51'3 fun _ =>
 S.nc v0' fun v56'3 =>
 S.fad v56'3 3 fun v57'3 =>
 S.ld v57'3 fun v58'3 =>
 V Tryz.prog (Instr.buildSlice 22 2 #[(0, v58'3), (1, v1')]) fun v60'3 =>
 CF Tryz.prog 62 [v60'3] fun v61'3 =>
 S.nc v0' fun v62'3 =>
 S.fad v62'3 3 fun v63'3 =>
 S.st 1 v63'3 v61'3 fun _ =>
 S.nc v0' fun v65'3 =>
 S.fad v65'3 2 fun v66'3 =>
 S.ld v66'3 fun v67'3 =>
 S.len v67'3 fun v68'3 =>
 S.bin .sub v68'3 (I 1) fun v69'3 =>
 K (.tuple #[v69'3, (I 0)])))) (
 S.box 109 (.agg #[(.int .u8 0), (.int .u8 0), (.int .u8 0), (.int .u8 0), (.int .u8 0), (.int .u8 0), (.int .u8 0), (.int .u8 0), (.int .u8 0), (.int .u8 0), (.int .u8 0), (.int .u8 0), (.int .u8 0), (.int .u8 0), (.int .u8 0), (.int .u8 0), (.int .u8 0), (.int .u8 0), (.int .u8 0), (.int .u8 0), (.int .u8 0), (.int .u8 0), (.int .u8 0), (.int .u8 0), (.int .u8 0), (.int .u8 0), (.int .u8 0), (.int .u8 0), (.int .u8 0), (.int .u8 0), (.int .u8 0), (.int .u8 0), (.int .i64 0), (.int .i64 0)]) fun v6'2 =>
 S.rck [S.ld v36 (fun v' _ => v' = v37)] <|
 CF Tryz.prog 60 [v1'] fun v33' =>
 S.rck [S.ld v36 (fun v' _ => v' = v37)] <|
 V Tryz.prog (Instr.build 109 #[(0, v33'), (1, v39), (2, v41)]) fun v42'2 =>
 S.st 34 v6'2 v42'2 fun _ =>
 S.dr <|
 S.nc v0' fun v45'2 =>
 S.fad v45'2 2 fun v46'2 =>
 S.ld v46'2 fun v47'2 =>
 S.ldN 34 v6'2 fun v49'2 =>
 S.both (
 CF Tryz.prog 61 [v47'2] fun v48'4 =>
 S.rck [S.ldN 34 v6'2 (fun v' _ => v' = v49'2)] <|
 V Tryz.prog (Instr.buildSlice 56 1 #[(0, v49'2)]) fun v50'4 =>
 V Tryz.prog (Builtin.append_ #[56, 56] 56 #[v48'4, v50'4]) fun v51'4 =>
 S.nc v0' fun v52'4 =>
 S.fad v52'4 2 fun v53'4 =>
 S.st 1 v53'4 v51'4 fun _ =>
 S.nc v0' fun v56'4 =>
 S.fad v56'4 3 fun v57'4 =>
 S.ld v57'4 fun v58'4 =>
 V Tryz.prog (Instr.buildSlice 22 2 #[(0, v58'4), (1, v1')]) fun v60'4 =>
 CF Tryz.prog 62 [v60'4] fun v61'4 =>
 S.nc v0' fun v62'4 =>
 S.fad v62'4 3 fun v63'4 =>
 S.st 1 v63'4 v61'4 fun _ =>
 S.nc v0' fun v65'4 =>
 S.fad v65'4 2 fun v66'4 =>
 S.ld v66'4 fun v67'4 =>
 S.len v67'4 fun v68'4 =>
 S.bin .sub v68'4 (I 1) fun v69'4 =>
 K (.tuple #[v69'4, (I 0)])) (
 V Tryz.prog (Instr.buildSlice 56 1 #[(0, v49'2)]) fun v50'5 =>
 S.rck [S.ld v46'2 (fun v' _ => v' = v47'2)] <|
 CF Tryz.prog 61 [v47'2] fun v48'5 =>
 V Tryz.prog (Builtin.append_ #[56, 56] 56 #[v48'5, v50'5]) fun v51'5 =>
 S.nc v0' fun v52'5 =>
 S.fad v52'5 2 fun v53'5 =>
 S.st 1 v53'5 v51'5 fun _ =>
 S.nc v0' fun v56'5 =>
 S.fad v56'5 3 fun v57'5 =>
 S.ld v57'5 fun v58'5 =>
 V Tryz.prog (Instr.buildSlice 22 2 #[(0, v58'5), (1, v1')]) fun v60'5 =>
 CF Tryz.prog 62 [v60'5] fun v61'5 =>
 S.nc v0' fun v62'5 =>
 S.fad v62'5 3 fun v63'5 =>
 S.st 1 v63'5 v61'5 fun _ =>
 S.nc v0' fun v65'5 =>
 S.fad v65'5 2 fun v66'5 =>
 S.ld v66'5 fun v67'5 =>
 S.len v67'5 fun v68'5 =>
 S.bin .sub v68'5 (I 1) fun v69'5 =>
 K (.tuple #[v69'5, (I 0)])))))))
theorem e32 [Amb] (v0 v1 : Value) (K : Value → WT) : s32 v0 v1 K = shal Tryz.prog Tryz.f32 .p a32 [v0, v1] K := by kernel_rfl
theorem c32 [Amb] {v0 v1 : Value} {K : Value → WT} {w : World} (h : s32 v0 v1 K w) : CF Tryz.prog 32 [v0, v1] K w := shal_sound Tryz.func32 (e32 v0 v1 K ▸ h)
def a33 : Ann := .seq (.z) (.seq (.join [0, 1, 14] (.z) (.cond (.seq (.z) (.z)) (.z))) (.seq (.seq (.z) (.cond (.seq (.z) (.z)) (.z))) (.seq (.drawT 11 (.one 1 (.one 2 (.one 3 (.one 4 (.one 6 (.one 7 (.two 0 (.two 5 (.one 8 (.one 9 (.one 10 .nil))) 8 (.one 5 (.one 9 (.one 10 .nil)))) 8 (.one 0 (.one 5 (.one 9 (.one 10 .nil)))))))))))) (.seq (.seq (.z) (.cond (.seq (.z) (.z)) (.z))) (.seq (.z) (.seq (.z) (.z)))))))
def s33 [Amb] (p_0 b_1 : Value) (K : Value → WT) : WT :=
 S.join 3 (fun K0 =>
 S.len b_1 fun v8 =>
 S.bin .lss v8 (I 1) fun v9 =>
 S.gd v9 false (fun k => k b_1) fun v11 =>
 S.gd v9 false (S.len v11) fun v12 =>
 S.gd v9 false (S.bin .gtr v12 (I 512)) fun v13 =>
 S.pick v9 (B true) v13 fun v14 =>
 K0 p_0 b_1 v14)
 <| fun p_0' b_1' v14' => S.fa fun _ =>
 S.cond v14' (
 K (.tuple #[(I 0), (I 2)])) (
 S.nc p_0' fun v16 =>
 S.fad v16 2 fun v17 =>
 S.ld v17 fun v18 =>
 S.len v18 fun v19 =>
 S.bin .geq v19 (I 64) fun v20 =>
 S.cond v20 (
 K (.tuple #[(I 0), (I 6)])) (
 S.dr <|
 S.nc p_0' fun v23 =>
 S.fad v23 2 fun v24 =>
 S.ld v24 fun v25 =>
 S.b2s b_1' fun v28 =>
 S.both (
 V Tryz.prog (Instr.buildSlice 45 0 #[]) fun v21 =>
 S.rck [S.b2s b_1' (fun v' _ => v' = v28), S.ld v24 (fun v' _ => v' = v25)] <|
 S.both (
 V Tryz.prog (Builtin.append_ #[45, 45] 45 #[v21, v25]) fun v26 =>
 S.rck [S.b2s b_1' (fun v' _ => v' = v28)] <|
 V Tryz.prog (Instr.buildSlice 45 1 #[(0, v28)]) fun v29 =>
 V Tryz.prog (Builtin.append_ #[45, 45] 45 #[v26, v29]) fun v30 =>
 S.nc p_0' fun v33 =>
 S.fad v33 1 fun v34 =>
 S.ld v34 fun v35 =>
 CF Tryz.prog 63 [v30, v35] fun v36 =>
 S.not1 v36 fun v37 =>
 S.cond v37 (
 K (.tuple #[(I 0), (I 8)])) (
 S.nc p_0' fun v40 =>
 S.fad v40 2 fun v41 =>
 S.st 1 v41 v30 fun _ =>
 S.len v30 fun v43 =>
 S.bin .sub v43 (I 1) fun v44 =>
 K (.tuple #[v44, (I 0)]))) (
 V Tryz.prog (Instr.buildSlice 45 1 #[(0, v28)]) fun v29' =>
 S.rck [S.ld v24 (fun v' _ => v' = v25)] <|
 V Tryz.prog (Builtin.append_ #[45, 45] 45 #[v21, v25]) fun v26' =>
 V Tryz.prog (Builtin.append_ #[45, 45] 45 #[v26', v29']) fun v30' =>
 S.nc p_0' fun v33' =>
 S.fad v33' 1 fun v34' =>
 S.ld v34' fun v35' =>
 CF Tryz.prog 63 [v30', v35'] fun v36' =>
 S.not1 v36' fun v37' =>
 S.cond v37' (
 K (.tuple #[(I 0), (I 8)])) (
 S.nc p_0' fun v40' =>
 S.fad v40' 2 fun v41' =>
 S.st 1 v41' v30' fun _ =>
 S.len v30' fun v43' =>
 S.bin .sub v43' (I 1) fun v44' =>
 K (.tuple #[v44', (I 0)])))) (
 V Tryz.prog (Instr.buildSlice 45 1 #[(0, v28)]) fun v29'2 =>
 S.rck [S.ld v24 (fun v' _ => v' = v25)] <|
 V Tryz.prog (Instr.buildSlice 45 0 #[]) fun v21' =>
 S.rck [S.ld v24 (fun v' _ => v' = v25)] <|
 V Tryz.prog (Builtin.append_ #[45, 45] 45 #[v21', v25]) fun v26'2 =>
 V Tryz.prog (Builtin.append_ #[45, 45] 45 #[v26'2, v29'2]) fun v30'2 =>
 S.nc p_0' fun v33'2 =>
 S.fad v33'2 1 fun v34'2 =>
 S.ld v34'2 fun v35'2 =>
 CF Tryz.prog 63 [v30'2, v35'2] fun v36'2 =>
 S.not1 v36'2 fun v37'2 =>
 S.cond v37'2 (
 K (.tuple #[(I 0), (I 8)])) (
 S.nc p_0' fun v40'2 =>
 S.fad v40'2 2 fun v41'2 =>
 S.st 1 v41'2 v30'2 fun _ =>
 S.len v30'2 fun v43'2 =>
 S.bin .sub v43'2 (I 1) fun v44'2 =>
 K (.tuple #[v44'2, (I 0)])))))
theorem e33 [Amb] (p_0 b_1 : Value) (K : Value → WT) : s33 p_0 b_1 K = shal Tryz.prog Tryz.f33 .p a33 [p_0, b_1] K := by kernel_rfl
theorem c33 [Amb] {p_0 b_1 : Value} {K : Value → WT} {w : World} (h : s33 p_0 b_1 K w) : CF Tryz.prog 33 [p_0, b_1] K w := shal_sound Tryz.func33 (e33 p_0 b_1 K ▸ h)
def a34 : Ann := .seq (.z) (.seq (.seq (.z) (.cond (.seq (.z) (.z)) (.z))) (.seq (.z) (.z)))
def s34 [Amb] (p_0 : Value) (K : Value → WT) : WT :=
 S.eqv Tryz.prog .eql 27 true p_0 (.pointer none) fun v4 =>
 S.cond v4 (
 K (I 0)) (
 S.nc p_0 fun v6 =>
 S.fad v6 2 fun v7 =>
 S.ld v7 fun v8 =>
 S.len v8 fun v9 =>
 K v9)
theorem e34 [Amb] (p_0 : Value) (K : Value → WT) : s34 p_0 K = shal Tryz.prog Tryz.f34 .p a34 [p_0] K := by kernel_rfl
theorem c34 [Amb] {p_0 : Value} {K : Value → WT} {w : World} (h : s34 p_0 K w) : CF Tryz.prog 34 [p_0] K w := shal_sound Tryz.func34 (e34 p_0 K ▸ h)
def a35 : Ann := .seq (.z) (.seq (.seq (.z) (.cond (.seq (.z) (.z)) (.z))) (.seq (.z) (.seq (.seq (.z) (.blk (.loop [0, 3, 12, 13, 14] (.seq (.z) (.seq (.cond (.z) (.z)) (.seq (.blk (.seq (.z) (.drawT 10 (.one 0 (.one 1 (.one 4 (.one 5 (.one 6 (.two 2 (.two 3 (.one 7 (.one 8 (.one 9 .nil))) 7 (.one 3 (.one 8 (.one 9 .nil)))) 7 (.one 2 (.one 3 (.one 8 (.one 9 .nil))))))))))))) (.z))))))) (.seq (.drawT 26 (.one 2 (.one 3 (.one 4 (.one 5 (.one 6 (.one 7 (.one 8 (.one 9 (.one 10 (.one 11 (.one 12 (.one 13 (.one 14 (.one 15 (.one 16 (.one 17 (.one 18 (.one 19 (.two 0 (.two 1 (.one 20 (.one 21 (.one 22 (.one 23 (.one 24 (.one 25 .nil)))))) 20 (.one 21 (.one 22 (.two 1 (.one 23 (.one 24 (.one 25 .nil))) 23 (.one 1 (.one 24 (.one 25 .nil))))))) 20 (.one 21 (.one 22 (.two 0 (.two 1 (.one 23 (.one 24 (.one 25 .nil))) 23 (.one 1 (.one 24 (.one 25 .nil)))) 23 (.one 0 (.one 1 (.one 24 (.one 25 .nil))))))))))))))))))))))))))) (.seq (.z) (.seq (.draw [0, 1, 2, 3, 5, 6, 7, 8, 9, 4, 10, 11, 12]) (.seq (.z) (.z))))))))
def s35 [Amb] (v0 : Value) (K : Value → WT) : WT :=
 S.eqv Tryz.prog .eql 27 true v0 (.pointer none) fun v8 =>
 S.cond v8 (
 K (.slice none 0 0)) (
 S.nc v0 fun v10 =>
 S.fad v10 2 fun v11 =>
 S.ld v11 fun v12 =>
 S.len v12 fun v13 =>
 S.loop 5 (fun K0 => fun v0' v3 v12' v13' v14 => S.fa fun _ =>
 S.bin .lss v14 v13' fun v15 =>
 S.cond v15 (
 S.ixS 34 v12' v14 fun v16 =>
 S.ldN 34 v16 fun v17 =>
 S.box 109 (.agg #[(.int .u8 0), (.int .u8 0), (.int .u8 0), (.int .u8 0), (.int .u8 0), (.int .u8 0), (.int .u8 0), (.int .u8 0), (.int .u8 0), (.int .u8 0), (.int .u8 0), (.int .u8 0), (.int .u8 0), (.int .u8 0), (.int .u8 0), (.int .u8 0), (.int .u8 0), (.int .u8 0), (.int .u8 0), (.int .u8 0), (.int .u8 0), (.int .u8 0), (.int .u8 0), (.int .u8 0), (.int .u8 0), (.int .u8 0), (.int .u8 0), (.int .u8 0), (.int .u8 0), (.int .u8 0), (.int .u8 0), (.int .u8 0), (.int .i64 0), (.int .i64 0)]) fun v5 =>
 S.st 34 v5 v17 fun _ =>
 S.dr <|
 S.fad v5 0 fun v19 =>
 S.fad v5 33 fun v22 =>
 S.ld v22 fun v23 =>
 V Tryz.prog (Instr.build 142 #[(0, v23), (1, (I 2))]) fun v24 =>
 S.both (
 V Tryz.prog (Instr.sliceAt 107 v19 none none none) fun v20 =>
 S.rck [S.ld v22 (fun v' _ => v' = v23)] <|
 S.both (
 V Tryz.prog (Builtin.append_ #[48, 48] 48 #[v3, v20]) fun v21 =>
 S.rck [S.ld v22 (fun v' _ => v' = v23)] <|
 V Tryz.prog (Instr.buildSlice 174 1 #[(0, v24)]) fun v25 =>
 CF Tryz.prog 64 [v21, v25] fun v26 =>
 S.bin .add v14 (I 1) fun v27 =>
 K0 v0' v26 v12' v13' v27) (
 V Tryz.prog (Instr.buildSlice 174 1 #[(0, v24)]) fun v25' =>
 V Tryz.prog (Builtin.append_ #[48, 48] 48 #[v3, v20]) fun v21' =>
 CF Tryz.prog 64 [v21', v25'] fun v26' =>
 S.bin .add v14 (I 1) fun v27' =>
 K0 v0' v26' v12' v13' v27')) (
 V Tryz.prog (Instr.buildSlice 174 1 #[(0, v24)]) fun v25'2 =>
 V Tryz.prog (Instr.sliceAt 107 v19 none none none) fun v20' =>
 V Tryz.prog (Builtin.append_ #[48, 48] 48 #[v3, v20']) fun v21'2 =>
 CF Tryz.prog 64 [v21'2, v25'2] fun v26'2 =>
 S.bin .add v14 (I 1) fun v27'2 =>
 K0 v0' v26'2 v12' v13' v27'2)) (
 S.dr <|
 S.nc v0' fun v31 =>
 S.fad v31 0 fun v32 =>
 S.ld v32 fun v33 =>
 V Tryz.prog (Instr.build 142 #[(0, v33), (1, (I 4))]) fun v34 =>
 S.nc v0' fun v36 =>
 S.fad v36 2 fun v37 =>
 S.ld v37 fun v38 =>
 S.len v38 fun v39 =>
 V Tryz.prog (Instr.build 142 #[(0, v39), (1, (I 2))]) fun v40 =>
 S.nc v0' fun v42 =>
 S.fad v42 3 fun v43 =>
 S.ld v43 fun v44 =>
 S.len v44 fun v45 =>
 V Tryz.prog (Instr.build 142 #[(0, v45), (1, (I 4))]) fun v46 =>
 S.both (
 V Tryz.prog (Instr.buildSlice 48 4 #[(0, (.int .u8 66)), (1, (.int .u8 73)), (2, (.int .u8 78)), (3, (.int .u8 49))]) fun v28 =>
 S.rck [S.ld v43 (fun v' _ => v' = v44), S.ld v37 (fun v' _ => v' = v38), S.ld v32 (fun v' _ => v' = v33)] <|
 S.both (
 V Tryz.prog (convert 48 48 v28) fun v29 =>
 S.rck [S.ld v43 (fun v' _ => v' = v44), S.ld v37 (fun v' _ => v' = v38), S.ld v32 (fun v' _ => v' = v33)] <|
 CF Tryz.prog 65 [v3] fun v48 =>
 S.rck [S.ld v43 (fun v' _ => v' = v44), S.ld v37 (fun v' _ => v' = v38), S.ld v32 (fun v' _ => v' = v33)] <|
 S.cvt .i64 v48 fun v49 =>
 V Tryz.prog (Instr.build 142 #[(0, v49), (1, (I 4))]) fun v50 =>
 V Tryz.prog (Instr.buildSlice 174 4 #[(0, v34), (1, v40), (2, v46), (3, v50)]) fun v51 =>
 CF Tryz.prog 64 [v29, v51] fun v52 =>
 CF Tryz.prog 65 [v52] fun v55 =>
 S.cvt .i64 v55 fun v56 =>
 V Tryz.prog (Instr.build 142 #[(0, v56), (1, (I 4))]) fun v57 =>
 V Tryz.prog (Instr.buildSlice 174 1 #[(0, v57)]) fun v58 =>
 CF Tryz.prog 64 [v52, v58] fun v59 =>
 S.dr <|
 S.len v59 fun v62 =>
 S.bin .sub (I 128) v62 fun v63 =>
 S.nc v0' fun v66 =>
 S.fad v66 3 fun v67 =>
 S.ld v67 fun v68 =>
 V Tryz.prog (Instr.makeSlice 48 v63 v63) fun v64 =>
 S.rck [S.ld v67 (fun v' _ => v' = v68)] <|
 V Tryz.prog (Instr.buildSlice 22 4 #[(0, v59), (1, v64), (2, v68), (3, v3)]) fun v70 =>
 CF Tryz.prog 62 [v70] fun v71 =>
 S.len v71 fun v74 =>
 S.bin .rem v74 (I 128) fun v75 =>
 S.bin .sub (I 128) v75 fun v76 =>
 S.bin .rem v76 (I 128) fun v77 =>
 V Tryz.prog (Builtin.append_ #[48, 3] 48 #[v71, v77]) fun v78 =>
 K v78) (
 CF Tryz.prog 65 [v3] fun v48' =>
 S.rck [S.ld v43 (fun v' _ => v' = v44), S.ld v37 (fun v' _ => v' = v38), S.ld v32 (fun v' _ => v' = v33)] <|
 S.cvt .i64 v48' fun v49' =>
 V Tryz.prog (Instr.build 142 #[(0, v49'), (1, (I 4))]) fun v50' =>
 S.both (
 V Tryz.prog (convert 48 48 v28) fun v29' =>
 S.rck [S.ld v43 (fun v' _ => v' = v44), S.ld v37 (fun v' _ => v' = v38), S.ld v32 (fun v' _ => v' = v33)] <|
 V Tryz.prog (Instr.buildSlice 174 4 #[(0, v34), (1, v40), (2, v46), (3, v50')]) fun v51' =>
 CF Tryz.prog 64 [v29', v51'] fun v52' =>
 CF Tryz.prog 65 [v52'] fun v55' =>
 S.cvt .i64 v55' fun v56' =>
 V Tryz.prog (Instr.build 142 #[(0, v56'), (1, (I 4))]) fun v57' =>
 V Tryz.prog (Instr.buildSlice 174 1 #[(0, v57')]) fun v58' =>
 CF Tryz.prog 64 [v52', v58'] fun v59' =>
 S.dr <|
 S.len v59' fun v62' =>
 S.bin .sub (I 128) v62' fun v63' =>
 S.nc v0' fun v66' =>
 S.fad v66' 3 fun v67' =>
 S.ld v67' fun v68' =>
 V Tryz.prog (Instr.makeSlice 48 v63' v63') fun v64' =>
 S.rck [S.ld v67' (fun v' _ => v' = v68')] <|
 V Tryz.prog (Instr.buildSlice 22 4 #[(0, v59'), (1, v64'), (2, v68'), (3, v3)]) fun v70' =>
 CF Tryz.prog 62 [v70'] fun v71' =>
 S.len v71' fun v74' =>
 S.bin .rem v74' (I 128) fun v75' =>
 S.bin .sub (I 128) v75' fun v76' =>
 S.bin .rem v76' (I 128) fun v77' =>
 V Tryz.prog (Builtin.append_ #[48, 3] 48 #[v71', v77']) fun v78' =>
 K v78') (
 V Tryz.prog (Instr.buildSlice 174 4 #[(0, v34), (1, v40), (2, v46), (3, v50')]) fun v51'2 =>
 V Tryz.prog (convert 48 48 v28) fun v29'2 =>
 CF Tryz.prog 64 [v29'2, v51'2] fun v52'2 =>
 CF Tryz.prog 65 [v52'2] fun v55'2 =>
 S.cvt .i64 v55'2 fun v56'2 =>
 V Tryz.prog (Instr.build 142 #[(0, v56'2), (1, (I 4))]) fun v57'2 =>
 V Tryz.prog (Instr.buildSlice 174 1 #[(0, v57'2)]) fun v58'2 =>
 CF Tryz.prog 64 [v52'2, v58'2] fun v59'2 =>
 S.dr <|
 S.len v59'2 fun v62'2 =>
 S.bin .sub (I 128) v62'2 fun v63'2 =>
 S.nc v0' fun v66'2 =>
 S.fad v66'2 3 fun v67'2 =>
 S.ld v67'2 fun v68'2 =>
 V Tryz.prog (Instr.makeSlice 48 v63'2 v63'2) fun v64'2 =>
 S.rck [S.ld v67'2 (fun v' _ => v' = v68'2)] <|
 V Tryz.prog (Instr.buildSlice 22 4 #[(0, v59'2), (1, v64'2), (2, v68'2), (3, v3)]) fun v70'2 =>
 CF Tryz.prog 62 [v70'2] fun v71'2 =>
 S.len v71'2 fun v74'2 =>
 S.bin .rem v74'2 (I 128) fun v75'2 =>
 S.bin .sub (I 128) v75'2 fun v76'2 =>
 S.bin .rem v76'2 (I 128) fun v77'2 =>
 V Tryz.prog (Builtin.append_ #[48, 3] 48 #[v71'2, v77'2]) fun v78'2 =>
 K v78'2))) (
 CF Tryz.prog 65 [v3] fun v48'2 =>
 S.rck [S.ld v43 (fun v' _ => v' = v44), S.ld v37 (fun v' _ => v' = v38), S.ld v32 (fun v' _ => v' = v33)] <|
 S.cvt .i64 v48'2 fun v49'2 =>
 V Tryz.prog (Instr.build 142 #[(0, v49'2), (1, (I 4))]) fun v50'2 =>
 S.both (
 V Tryz.prog (Instr.buildSlice 48 4 #[(0, (.int .u8 66)), (1, (.int .u8 73)), (2, (.int .u8 78)), (3, (.int .u8 49))]) fun v28' =>
 S.rck [S.ld v43 (fun v' _ => v' = v44), S.ld v37 (fun v' _ => v' = v38), S.ld v32 (fun v' _ => v' = v33)] <|
 S.both (
 V Tryz.prog (convert 48 48 v28') fun v29'3 =>
 S.rck [S.ld v43 (fun v' _ => v' = v44), S.ld v37 (fun v' _ => v' = v38), S.ld v32 (fun v' _ => v' = v33)] <|
 V Tryz.prog (Instr.buildSlice 174 4 #[(0, v34), (1, v40), (2, v46), (3, v50'2)]) fun v51'3 =>
 CF Tryz.prog 64 [v29'3, v51'3] fun v52'3 =>
 CF Tryz.prog 65 [v52'3] fun v55'3 =>
 S.cvt .i64 v55'3 fun v56'3 =>
 V Tryz.prog (Instr.build 142 #[(0, v56'3), (1, (I 4))]) fun v57'3 =>
 V Tryz.prog (Instr.buildSlice 174 1 #[(0, v57'3)]) fun v58'3 =>
 CF Tryz.prog 64 [v52'3, v58'3] fun v59'3 =>
 S.dr <|
 S.len v59'3 fun v62'3 =>
 S.bin .sub (I 128) v62'3 fun v63'3 =>
 S.nc v0' fun v66'3 =>
 S.fad v66'3 3 fun v67'3 =>
 S.ld v67'3 fun v68'3 =>
 V Tryz.prog (Instr.makeSlice 48 v63'3 v63'3) fun v64'3 =>
 S.rck [S.ld v67'3 (fun v' _ => v' = v68'3)] <|
 V Tryz.prog (Instr.buildSlice 22 4 #[(0, v59'3), (1, v64'3), (2, v68'3), (3, v3)]) fun v70'3 =>
 CF Tryz.prog 62 [v70'3] fun v71'3 =>
 S.len v71'3 fun v74'3 =>
 S.bin .rem v74'3 (I 128) fun v75'3 =>
 S.bin .sub (I 128) v75'3 fun v76'3 =>
 S.bin .rem v76'3 (I 128) fun v77'3 =>
 V Tryz.prog (Builtin.append_ #[48, 3] 48 #[v71'3, v77'3]) fun v78'3 =>
 K v78'3) (
 V Tryz.prog (Instr.buildSlice 174 4 #[(0, v34), (1, v40), (2, v46), (3, v50'2)]) fun v51'4 =>
 V Tryz.prog (convert 48 48 v28') fun v29'4 =>
 CF Tryz.prog 64 [v29'4, v51'4] fun v52'4 =>
 CF Tryz.prog 65 [v52'4] fun v55'4 =>
 S.cvt .i64 v55'4 fun v56'4 =>
 V Tryz.prog (Instr.build 142 #[(0, v56'4), (1, (I 4))]) fun v57'4 =>
 V Tryz.prog (Instr.buildSlice 174 1 #[(0, v57'4)]) fun v58'4 =>
 CF Tryz.prog 64 [v52'4, v58'4] fun v59'4 =>
 S.dr <|
 S.len v59'4 fun v62'4 =>
 S.bin .sub (I 128) v62'4 fun v63'4 =>
 S.nc v0' fun v66'4 =>
 S.fad v66'4 3 fun v67'4 =>
 S.ld v67'4 fun v68'4 =>
 V Tryz.prog (Instr.makeSlice 48 v63'4 v63'4) fun v64'4 =>
 S.rck [S.ld v67'4 (fun v' _ => v' = v68'4)] <|
 V Tryz.prog (Instr.buildSlice 22 4 #[(0, v59'4), (1, v64'4), (2, v68'4), (3, v3)]) fun v70'4 =>
 CF Tryz.prog 62 [v70'4] fun v71'4 =>
 S.len v71'4 fun v74'4 =>
 S.bin .rem v74'4 (I 128) fun v75'4 =>
 S.bin .sub (I 128) v75'4 fun v76'4 =>
 S.bin .rem v76'4 (I 128) fun v77'4 =>
 V Tryz.prog (Builtin.append_ #[48, 3] 48 #[v71'4, v77'4]) fun v78'4 =>
 K v78'4)) (
 V Tryz.prog (Instr.buildSlice 174 4 #[(0, v34), (1, v40), (2, v46), (3, v50'2)]) fun v51'5 =>
 V Tryz.prog (Instr.buildSlice 48 4 #[(0, (.int .u8 66)), (1, (.int .u8 73)), (2, (.int .u8 78)), (3, (.int .u8 49))]) fun v28'2 =>
 V Tryz.prog (convert 48 48 v28'2) fun v29'5 =>
 CF Tryz.prog 64 [v29'5, v51'5] fun v52'5 =>
 CF Tryz.prog 65 [v52'5] fun v55'5 =>
 S.cvt .i64 v55'5 fun v56'5 =>
 V Tryz.prog (Instr.build 142 #[(0, v56'5), (1, (I 4))]) fun v57'5 =>
 V Tryz.prog (Instr.buildSlice 174 1 #[(0, v57'5)]) fun v58'5 =>
 CF Tryz.prog 64 [v52'5, v58'5] fun v59'5 =>
 S.dr <|
 S.len v59'5 fun v62'5 =>
 S.bin .sub (I 128) v62'5 fun v63'5 =>
 S.nc v0' fun v66'5 =>
 S.fad v66'5 3 fun v67'5 =>
 S.ld v67'5 fun v68'5 =>
 V Tryz.prog (Instr.makeSlice 48 v63'5 v63'5) fun v64'5 =>
 S.rck [S.ld v67'5 (fun v' _ => v' = v68'5)] <|
 V Tryz.prog (Instr.buildSlice 22 4 #[(0, v59'5), (1, v64'5), (2, v68'5), (3, v3)]) fun v70'5 =>
 CF Tryz.prog 62 [v70'5] fun v71'5 =>
 S.len v71'5 fun v74'5 =>
 S.bin .rem v74'5 (I 128) fun v75'5 =>
 S.bin .sub (I 128) v75'5 fun v76'5 =>
 S.bin .rem v76'5 (I 128) fun v77'5 =>
 V Tryz.prog (Builtin.append_ #[48, 3] 48 #[v71'5, v77'5]) fun v78'5 =>
 K v78'5))))
 [v0, (.slice none 0 0), v12, v13, (I 0)])
theorem e35 [Amb] (v0 : Value) (K : Value → WT) : s35 v0 K = shal Tryz.prog Tryz.f35 .p a35 [v0] K := by kernel_rfl
theorem c35 [Amb] {v0 : Value} {K : Value → WT} {w : World} (h : s35 v0 K w) : CF Tryz.prog 35 [v0] K w := shal_sound Tryz.func35 (e35 v0 K ▸ h)
def a36 : Ann := .seq (.z) (.seq (.seq (.z) (.seq (.z) (.cond (.seq (.z) (.z)) (.z)))) (.seq (.z) (.seq (.z) (.seq (.z) (.seq (.seq (.draw [0, 3, 4, 1, 2, 5]) (.cond (.seq (.z) (.z)) (.z))) (.seq (.z) (.seq (.z) (.seq (.seq (.z) (.blk (.loop [2, 6, 7, 8, 9, 52, 53] (.seq (.z) (.seq (.cond (.z) (.z)) (.seq (.blk (.seq (.z) (.seq (.z) (.seq (.z) (.seq (.join [2, 6, 7, 8, 9, 11, 12, 52, 53, 74] (.z) (.cond (.seq (.z) (.z)) (.z))) (.seq (.draw [0, 1, 2, 3, 6, 7, 4, 5, 8, 9, 10, 11, 12]) (.z))))))) (.z))))))) (.seq (.seq (.z) (.cond (.seq (.z) (.z)) (.z))) (.seq (.z) (.z)))))))))))
def s36 [Amb] (v0 : Value) (K : Value → WT) : WT :=
 S.box 58 (.agg #[(.int .i64 0), (.int .i64 0), (.slice none 0 0)]) fun v2 =>
 CF Tryz.prog 66 [v0] fun v16 =>
 S.bin .neq v16 (I 0) fun v18 =>
 S.cond v18 (
 V Tryz.prog (Instr.build 58 #[]) fun v19 =>
 S.st 3 v2 v19 fun _ =>
 S.ldN 3 v2 fun v2' =>
 K (.tuple #[v2', v16])) (
 CF Tryz.prog 67 [v0] fun v22 =>
 S.box 146 (.agg #[(.int .i64 0), (.int .i64 0), (.int .i64 0), (.int .i64 0)]) fun v5 =>
 S.st 4 v5 v22 fun _ =>
 S.ixA 4 1 v5 (I 2) fun v23 =>
 S.ld v23 fun v24 =>
 S.bin .add (I 128) v24 fun v25 =>
 S.ixA 4 1 v5 (I 1) fun v29 =>
 S.ld v29 fun v30 =>
 S.bin .mul (I 34) v30 fun v31 =>
 S.bin .add v25 v31 fun v32 =>
 S.slc 1 v0 (some v25) (some v32) none fun v33 =>
 S.dr <|
 S.ixA 4 1 v5 (I 3) fun v37 =>
 S.ld v37 fun v38 =>
 CF Tryz.prog 65 [v33] fun v35 =>
 S.rck [S.ld v37 (fun v' _ => v' = v38)] <|
 S.cvt .i64 v35 fun v36 =>
 S.bin .neq v36 v38 fun v39 =>
 S.cond v39 (
 V Tryz.prog (Instr.build 58 #[]) fun v40 =>
 S.st 3 v2 v40 fun _ =>
 S.ldN 3 v2 fun v2'2 =>
 K (.tuple #[v2'2, (I 5)])) (
 S.ixA 4 1 v5 (I 0) fun v41 =>
 S.ld v41 fun v42 =>
 S.len v33 fun v45 =>
 S.bin .add v25 v45 fun v46 =>
 S.bin .add v46 (I 128) fun v47 =>
 S.bin .sub v47 (I 1) fun v48 =>
 S.bin .quo v48 (I 128) fun v49 =>
 V Tryz.prog (Instr.build 58 #[(0, v42), (1, v49)]) fun v50 =>
 S.box 58 (.agg #[(.int .i64 0), (.int .i64 0), (.slice none 0 0)]) fun v8 =>
 S.st 3 v8 v50 fun _ =>
 S.ixA 4 1 v5 (I 1) fun v51 =>
 S.ld v51 fun v52 =>
 S.loop 7 (fun K0 => fun v2'3 v6 v7 v8' v9 v52' v53 => S.fa fun _ =>
 S.bin .lss v53 v52' fun v54 =>
 S.cond v54 (
 S.bin .mul (I 34) v53 fun v58 =>
 S.bin .add v53 (I 1) fun v60 =>
 S.bin .mul (I 34) v60 fun v61 =>
 S.slc 1 v7 (some v58) (some v61) none fun v62 =>
 CF Tryz.prog 68 [v62, (I 32), (I 2)] fun v65 =>
 S.ext v65 0 fun v66 =>
 S.ext v65 1 fun v67 =>
 S.ext v65 2 fun v68 =>
 S.join 10 (fun K1 =>
 S.bin .lss v66 (I 1) fun v70 =>
 S.gd v70 false (fun k => k v66) fun v72 =>
 S.gd v70 false (S.bin .gtr v72 (I 512)) fun v73 =>
 S.pick v70 (B true) v73 fun v74 =>
 K1 v2'3 v6 v7 v8' v9 v62 v66 v52' v53 v74)
 <| fun v2'4 v6' v7' v8'2 v9' v11 v12 v52'2 v53' v74' => S.fa fun _ =>
 S.cond v74' (
 V Tryz.prog (Instr.build 58 #[]) fun v75 =>
 S.st 3 v2'4 v75 fun _ =>
 S.ldN 3 v2'4 fun v2'5 =>
 K (.tuple #[v2'5, (I 2)])) (
 S.dr <|
 S.fad v8'2 2 fun v76 =>
 S.ld v76 fun v77 =>
 S.slc 1 v11 none (some (I 32)) none fun v79 =>
 V Tryz.prog (Instr.arrayAt 107 v79) fun v80 =>
 S.rck [S.ld v76 (fun v' _ => v' = v77)] <|
 S.ldN 32 v80 fun v81 =>
 V Tryz.prog (Instr.build 109 #[(0, v81), (1, v9'), (2, v12)]) fun v84 =>
 S.rck [S.ld v76 (fun v' _ => v' = v77)] <|
 V Tryz.prog (Instr.buildSlice 56 1 #[(0, v84)]) fun v85 =>
 S.rck [S.ld v76 (fun v' _ => v' = v77)] <|
 V Tryz.prog (Builtin.append_ #[56, 56] 56 #[v77, v85]) fun v86 =>
 S.fad v8'2 2 fun v87 =>
 S.st 1 v87 v86 fun _ =>
 S.bin .add v9' v12 fun v90 =>
 S.bin .add v53' (I 1) fun v91 =>
 K0 v2'4 v6' v7' v8'2 v90 v52'2 v91)) (
 S.bin .neq v9 v6 fun v94 =>
 S.cond v94 (
 V Tryz.prog (Instr.build 58 #[]) fun v95 =>
 S.st 3 v2'3 v95 fun _ =>
 S.ldN 3 v2'3 fun v2'6 =>
 K (.tuple #[v2'6, (I 4)])) (
 S.ldN 3 v8' fun v96 =>
 S.st 3 v2'3 v96 fun _ =>
 S.ldN 3 v2'3 fun v2'7 =>
 K (.tuple #[v2'7, (I 0)]))))
 [v2, v25, v33, v8, (I 128), v52, (I 0)]))
theorem e36 [Amb] (v0 : Value) (K : Value → WT) : s36 v0 K = shal Tryz.prog Tryz.f36 .p a36 [v0] K := by kernel_rfl
theorem c36 [Amb] {v0 : Value} {K : Value → WT} {w : World} (h : s36 v0 K w) : CF Tryz.prog 36 [v0] K w := shal_sound Tryz.func36 (e36 v0 K ▸ h)
def a37 : Ann := .seq (.z) (.seq (.z) (.seq (.z) (.z)))
def s37 [Amb] (s_0 bin_1 : Value) (K : Value → WT) : WT :=
 S.nc s_0 fun v9 =>
 S.fad v9 2 fun v10 =>
 S.ld v10 fun v11 =>
 S.lk (.int .i64) (.agg #[(.int .i64 0), (.int .i64 0)]) true v11 bin_1 fun v13 =>
 S.ext v13 0 fun v14 =>
 S.ext v13 1 fun v15 =>
 S.box 32 (.agg #[(.int .i64 0), (.int .i64 0)]) fun v5 =>
 S.st 2 v5 v14 fun _ =>
 K v15
theorem e37 [Amb] (s_0 bin_1 : Value) (K : Value → WT) : s37 s_0 bin_1 K = shal Tryz.prog Tryz.f37 .p a37 [s_0, bin_1] K := by kernel_rfl
theorem c37 [Amb] {s_0 bin_1 : Value} {K : Value → WT} {w : World} (h : s37 s_0 bin_1 K w) : CF Tryz.prog 37 [s_0, bin_1] K w := shal_sound Tryz.func37 (e37 s_0 bin_1 K ▸ h)
def a38 : Ann := .seq (.z) (.seq (.blk (.seq (.z) (.cond (.seq (.z) (.z)) (.seq (.z) (.cond (.seq (.z) (.z)) (.z)))))) (.seq (.z) (.seq (.seq (.z) (.cond (.seq (.z) (.z)) (.z))) (.seq (.z) (.seq (.z) (.seq (.z) (.z)))))))
def s38 [Amb] (m_0 n_1 : Value) (K : Value → WT) : WT :=
 S.box 3 n_1 fun n_3 =>
 S.eqv Tryz.prog .eql 74 true m_0 (.pointer none) fun v10 =>
 S.cond v10 (
 K (.tuple #[(I 0), (I 1)])) (
 S.ld n_3 fun v12 =>
 S.bin .lss v12 (I 1) fun v13 =>
 S.cond v13 (
 K (.tuple #[(I 0), (I 2)])) (
 S.nc m_0 fun v15 =>
 S.fad v15 2 fun v16 =>
 S.ld v16 fun v17 =>
 CF Tryz.prog 69 [v17, (.func (Go.Fn.func 70) #[] #[n_3])] fun v19 =>
 S.bin .lss v19 (I 0) fun v21 =>
 S.cond v21 (
 K (.tuple #[(I 0), (I 8)])) (
 S.nc m_0 fun v23 =>
 S.fad v23 2 fun v24 =>
 S.ld v24 fun v25 =>
 S.ixS 2 v25 v19 fun v27 =>
 S.fad v27 0 fun v28 =>
 S.ld v28 fun v29 =>
 S.ld n_3 fun v33 =>
 V Tryz.prog (Instr.build 32 #[(0, v29), (1, v33)]) fun v34 =>
 CF Tryz.prog 71 [m_0, v19, v34] fun v35 =>
 K (.tuple #[v29, (I 0)]))))
theorem e38 [Amb] (m_0 n_1 : Value) (K : Value → WT) : s38 m_0 n_1 K = shal Tryz.prog Tryz.f38 .p a38 [m_0, n_1] K := by kernel_rfl
theorem c38 [Amb] {m_0 n_1 : Value} {K : Value → WT} {w : World} (h : s38 m_0 n_1 K w) : CF Tryz.prog 38 [m_0, n_1] K w := shal_sound Tryz.func38 (e38 m_0 n_1 K ▸ h)
def a39 : Ann := .seq (.z) (.seq (.seq (.z) (.blk (.loop [0, 2, 4, 10, 11] (.seq (.z) (.seq (.cond (.z) (.z)) (.seq (.blk (.seq (.z) (.seq (.draw [0, 1, 2, 3, 4, 5, 6, 7, 8, 9, 10, 11, 12, 13, 14, 15, 16]) (.seq (.z) (.cond (.seq (.z) (.z)) (.z)))))) (.z))))))) (.seq (.z) (.z)))
def s39 [Amb] (g_0 r_1 b_2 : Value) (K : Value → WT) : WT :=
 S.box 32 r_1 fun r_4 =>
 S.fad r_4 1 fun v9 =>
 S.ld v9 fun v10 =>
 S.loop 5 (fun K0 => fun g_0' b_2' r_4' v10' v11 => S.fa fun _ =>
 S.bin .lss v11 v10' fun v12 =>
 S.cond v12 (
 S.dr <|
 S.nc g_0' fun v15 =>
 S.fad v15 0 fun v16 =>
 S.ld v16 fun v17 =>
 S.fad r_4' 0 fun v18 =>
 S.ld v18 fun v19 =>
 S.bin .add v19 v11 fun v21 =>
 S.bin .mul v11 (I 128) fun v24 =>
 S.bin .add v11 (I 1) fun v26 =>
 S.bin .mul v26 (I 128) fun v27 =>
 S.slc 1 b_2' (some v24) (some v27) none fun v28 =>
 CF Tryz.prog 72 [v17, v21, v28] fun v29 =>
 S.bin .neq v29 (I 0) fun v31 =>
 S.cond v31 (
 K v29) (
 S.bin .add v11 (I 1) fun v33 =>
 K0 g_0' b_2' r_4' v10' v33)) (
 K (I 0)))
 [g_0, b_2, r_4, v10, (I 0)]
theorem e39 [Amb] (g_0 r_1 b_2 : Value) (K : Value → WT) : s39 g_0 r_1 b_2 K = shal Tryz.prog Tryz.f39 .p a39 [g_0, r_1, b_2] K := by kernel_rfl
theorem c39 [Amb] {g_0 r_1 b_2 : Value} {K : Value → WT} {w : World} (h : s39 g_0 r_1 b_2 K w) : CF Tryz.prog 39 [g_0, r_1, b_2] K w := shal_sound Tryz.func39 (e39 g_0 r_1 b_2 K ▸ h)
def a40 : Ann := .seq (.z) (.seq (.blk (.seq (.z) (.cond (.seq (.z) (.z)) (.seq (.z) (.cond (.seq (.z) (.z)) (.seq (.z) (.cond (.seq (.z) (.z)) (.z)))))))) (.seq (.z) (.seq (.blk (.loop [0, 3, 5] (.seq (.join [0, 3, 5, 40] (.draw [0, 1, 2, 3, 4, 5, 6, 7, 8, 9, 10, 11, 12, 13, 14, 15, 16, 17, 18, 19]) (.cond (.z) (.z))) (.blk (.z))))) (.seq (.drawT 13 (.one 0 (.one 1 (.one 2 (.one 3 (.one 4 (.one 6 (.one 7 (.two 5 (.one 8 (.one 9 (.one 10 (.one 11 (.one 12 .nil))))) 8 (.one 5 (.one 9 (.one 10 (.one 11 (.one 12 .nil)))))))))))))) (.seq (.z) (.seq (.z) (.seq (.z) (.z))))))))
def s40 [Amb] (m_0 r_1 : Value) (K : Value → WT) : WT :=
 S.box 32 r_1 fun r_3 =>
 S.eqv Tryz.prog .eql 74 true m_0 (.pointer none) fun v8 =>
 S.cond v8 (
 K (I 1)) (
 S.ldN 2 r_3 fun v11 =>
 CF Tryz.prog 73 [m_0, v11] fun v12 =>
 S.not1 v12 fun v13 =>
 S.cond v13 (
 K (I 2)) (
 S.nc m_0 fun v16 =>
 S.fad v16 2 fun v17 =>
 S.ld v17 fun v18 =>
 CF Tryz.prog 74 [v18, (.func (Go.Fn.func 75) #[] #[r_3])] fun v20 =>
 S.cond v20 (
 K (I 9)) (
 S.loop 3 (fun K0 => fun m_0' r_3' i_5 => S.fa fun _ =>
 S.join 4 (fun K1 =>
 S.dr <|
 S.nc m_0' fun v23 =>
 S.fad v23 2 fun v24 =>
 S.ld v24 fun v25 =>
 S.len v25 fun v26 =>
 S.bin .lss i_5 v26 fun v27 =>
 S.gd v27 true (fun k => k m_0') fun v29 =>
 S.gd v27 true (S.nc v29) fun v30 =>
 S.gd v27 true (S.fad v30 2) fun v31 =>
 S.gd v27 true (S.ld v31) fun v32 =>
 S.gd v27 true (fun k => k i_5) fun v33 =>
 S.gd v27 true (S.ixS 2 v32 v33) fun v34 =>
 S.gd v27 true (S.fad v34 0) fun v35 =>
 S.gd v27 true (S.ld v35) fun v36 =>
 S.gd v27 true (S.fad r_3' 0) fun v37 =>
 S.gd v27 true (S.ld v37) fun v38 =>
 S.gd v27 true (S.bin .lss v36 v38) fun v39 =>
 S.pick v27 v39 (B false) fun v40 =>
 K1 m_0' r_3' i_5 v40)
 <| fun m_0'2 r_3'2 i_5' v40' => S.fa fun _ =>
 S.cond v40' (
 S.bin .add i_5' (I 1) fun v42 =>
 K0 m_0'2 r_3'2 v42) (
 S.dr <|
 S.nc m_0'2 fun v45 =>
 S.fad v45 2 fun v46 =>
 S.ld v46 fun v47 =>
 S.ldN 2 r_3'2 fun v50 =>
 S.both (
 CF Tryz.prog 77 [v47] fun v48 =>
 S.rck [S.ldN 2 r_3'2 (fun v' _ => v' = v50)] <|
 V Tryz.prog (Instr.buildSlice 125 1 #[(0, v50)]) fun v51 =>
 CF Tryz.prog 76 [v48, i_5', v51] fun v52 =>
 S.nc m_0'2 fun v53 =>
 S.fad v53 2 fun v54 =>
 S.st 1 v54 v52 fun _ =>
 CF Tryz.prog 78 [m_0'2, i_5'] fun v57 =>
 S.bin .sub i_5' (I 1) fun v60 =>
 CF Tryz.prog 78 [m_0'2, v60] fun v61 =>
 K (I 0)) (
 V Tryz.prog (Instr.buildSlice 125 1 #[(0, v50)]) fun v51' =>
 S.rck [S.ld v46 (fun v' _ => v' = v47)] <|
 CF Tryz.prog 77 [v47] fun v48' =>
 CF Tryz.prog 76 [v48', i_5', v51'] fun v52' =>
 S.nc m_0'2 fun v53' =>
 S.fad v53' 2 fun v54' =>
 S.st 1 v54' v52' fun _ =>
 CF Tryz.prog 78 [m_0'2, i_5'] fun v57' =>
 S.bin .sub i_5' (I 1) fun v60' =>
 CF Tryz.prog 78 [m_0'2, v60'] fun v61' =>
 K (I 0))))
 [m_0, r_3, (I 0)])))
theorem e40 [Amb] (m_0 r_1 : Value) (K : Value → WT) : s40 m_0 r_1 K = shal Tryz.prog Tryz.f40 .p a40 [m_0, r_1] K := by kernel_rfl
theorem c40 [Amb] {m_0 r_1 : Value} {K : Value → WT} {w : World} (h : s40 m_0 r_1 K w) : CF Tryz.prog 40 [m_0, r_1] K w := shal_sound Tryz.func40 (e40 m_0 r_1 K ▸ h)
def a42 : Ann := .seq (.z) (.seq (.blk (.seq (.z) (.cond (.seq (.z) (.z)) (.seq (.z) (.cond (.seq (.z) (.z)) (.z)))))) (.seq (.draw [0, 1, 2, 3, 4, 5, 6, 7, 8, 9, 10, 11, 12, 13, 14]) (.seq (.seq (.z) (.cond (.seq (.z) (.z)) (.z))) (.seq (.z) (.seq (.join [5, 7, 9, 49] (.z) (.cond (.seq (.z) (.z)) (.z))) (.seq (.draw [0, 1, 2, 3, 4]) (.z)))))))
def s42 [Amb] (s_0 bin_1 : Value) (K : Value → WT) : WT :=
 S.box 58 (.agg #[(.int .i64 0), (.int .i64 0), (.slice none 0 0)]) fun v5 =>
 S.eqv Tryz.prog .eql 39 true s_0 (.pointer none) fun v12 =>
 S.cond v12 (
 V Tryz.prog (Instr.build 58 #[]) fun v13 =>
 S.st 3 v5 v13 fun _ =>
 S.ldN 3 v5 fun v5' =>
 K (.tuple #[(.slice none 0 0), v5', (I 1)])) (
 CF Tryz.prog 37 [s_0, bin_1] fun v17 =>
 S.not1 v17 fun v18 =>
 S.cond v18 (
 V Tryz.prog (Instr.build 58 #[]) fun v19 =>
 S.st 3 v5 v19 fun _ =>
 S.ldN 3 v5 fun v5'2 =>
 K (.tuple #[(.slice none 0 0), v5'2, (I 9)])) (
 S.dr <|
 S.nc s_0 fun v22 =>
 S.fad v22 0 fun v23 =>
 S.nc s_0 fun v25 =>
 S.fad v25 2 fun v26 =>
 S.ld v26 fun v27 =>
 S.lk (.int .i64) (.agg #[(.int .i64 0), (.int .i64 0)]) false v27 bin_1 fun v29 =>
 CF Tryz.prog 80 [v23, v29] fun v30 =>
 S.ext v30 0 fun v31 =>
 S.ext v30 1 fun v32 =>
 S.bin .neq v32 (I 0) fun v34 =>
 S.cond v34 (
 V Tryz.prog (Instr.build 58 #[]) fun v35 =>
 S.st 3 v5 v35 fun _ =>
 S.ldN 3 v5 fun v5'3 =>
 K (.tuple #[(.slice none 0 0), v5'3, v32])) (
 CF Tryz.prog 36 [v31] fun v39 =>
 S.ext v39 0 fun v40 =>
 S.ext v39 1 fun v41 =>
 S.box 58 (.agg #[(.int .i64 0), (.int .i64 0), (.slice none 0 0)]) fun h_9 =>
 S.st 3 h_9 v40 fun _ =>
 S.join 4 (fun K0 =>
 S.bin .neq v41 (I 0) fun v43 =>
 S.gd v43 false (S.fad h_9 0) fun v45 =>
 S.gd v43 false (S.ld v45) fun v46 =>
 S.gd v43 false (fun k => k bin_1) fun v47 =>
 S.gd v43 false (S.bin .neq v46 v47) fun v48 =>
 S.pick v43 (B true) v48 fun v49 =>
 K0 v5 v31 h_9 v49)
 <| fun v5'4 b_7 h_9' v49' => S.fa fun _ =>
 S.cond v49' (
 V Tryz.prog (Instr.build 58 #[]) fun v50 =>
 S.st 3 v5'4 v50 fun _ =>
 S.ldN 3 v5'4 fun v5'5 =>
 K (.tuple #[(.slice none 0 0), v5'5, (I 13)])) (
 S.dr <|
 S.ldN 3 h_9' fun v52 =>
 S.st 3 v5'4 v52 fun _ =>
 S.ldN 3 v5'4 fun v5'6 =>
 K (.tuple #[b_7, v5'6, (I 0)])))))
theorem e42 [Amb] (s_0 bin_1 : Value) (K : Value → WT) : s42 s_0 bin_1 K = shal Tryz.prog Tryz.f42 .p a42 [s_0, bin_1] K := by kernel_rfl
theorem c42 [Amb] {s_0 bin_1 : Value} {K : Value → WT} {w : World} (h : s42 s_0 bin_1 K w) : CF Tryz.prog 42 [s_0, bin_1] K w := shal_sound Tryz.func42 (e42 s_0 bin_1 K ▸ h)
def a43 : Ann := .seq (.z) (.seq (.blk (.join [0, 3, 7] (.z) (.cond (.seq (.z) (.z)) (.join [0, 3, 21] (.z) (.cond (.seq (.z) (.z)) (.z)))))) (.seq (.z) (.seq (.seq (.draw [0, 2, 3, 1, 4]) (.cond (.seq (.z) (.z)) (.z))) (.seq (.z) (.z)))))
def s43 [Amb] (b_0 s_1 : Value) (K : Value → WT) : WT :=
 S.box 109 s_1 fun s_3 =>
 S.join 3 (fun K0 =>
 S.fad s_3 33 fun v8 =>
 S.ld v8 fun v9 =>
 S.bin .lss v9 (I 1) fun v10 =>
 S.gd v10 false (S.fad s_3 33) fun v12 =>
 S.gd v10 false (S.ld v12) fun v13 =>
 S.gd v10 false (S.bin .gtr v13 (I 512)) fun v14 =>
 S.pick v10 (B true) v14 fun v15 =>
 S.gd v15 false (S.fad s_3 32) fun v17 =>
 S.gd v15 false (S.ld v17) fun v18 =>
 S.gd v15 false (S.bin .lss v18 (I 0)) fun v19 =>
 S.pick v15 (B true) v19 fun v20 =>
 K0 b_0 s_3 v20)
 <| fun b_0' s_3' v7 => S.fa fun _ =>
 S.cond v7 (
 K (.tuple #[(.slice none 0 0), (I 2)])) (
 S.join 3 (fun K1 =>
 S.fad s_3' 32 fun v22 =>
 S.ld v22 fun v23 =>
 S.len b_0' fun v25 =>
 S.bin .gtr v23 v25 fun v26 =>
 S.gd v26 false (S.fad s_3' 33) fun v28 =>
 S.gd v26 false (S.ld v28) fun v29 =>
 S.gd v26 false (fun k => k b_0') fun v30 =>
 S.gd v26 false (S.len v30) fun v31 =>
 S.gd v26 false (S.fad s_3' 32) fun v32 =>
 S.gd v26 false (S.ld v32) fun v33 =>
 S.gd v26 false (S.bin .sub v31 v33) fun v34 =>
 S.gd v26 false (S.bin .gtr v29 v34) fun v35 =>
 S.pick v26 (B true) v35 fun v36 =>
 K1 b_0' s_3' v36)
 <| fun b_0'2 s_3'2 v21 => S.fa fun _ =>
 S.cond v21 (
 K (.tuple #[(.slice none 0 0), (I 3)])) (
 S.fad s_3'2 32 fun v38 =>
 S.ld v38 fun v39 =>
 S.fad s_3'2 32 fun v40 =>
 S.ld v40 fun v41 =>
 S.fad s_3'2 33 fun v42 =>
 S.ld v42 fun v43 =>
 S.bin .add v41 v43 fun v44 =>
 S.slc 1 b_0'2 (some v39) (some v44) none fun v45 =>
 CF Tryz.prog 54 [v45] fun v46 =>
 S.dr <|
 S.fad s_3'2 0 fun v49 =>
 S.ldN 32 v49 fun v50 =>
 CF Tryz.prog 60 [v46] fun v48 =>
 S.rck [S.ldN 32 v49 (fun v' _ => v' = v50)] <|
 S.eqv Tryz.prog .neq 107 false v48 v50 fun v51 =>
 S.cond v51 (
 K (.tuple #[(.slice none 0 0), (I 13)])) (
 K (.tuple #[v46, (I 0)]))))
theorem e43 [Amb] (b_0 s_1 : Value) (K : Value → WT) : s43 b_0 s_1 K = shal Tryz.prog Tryz.f43 .p a43 [b_0, s_1] K := by kernel_rfl
theorem c43 [Amb] {b_0 s_1 : Value} {K : Value → WT} {w : World} (h : s43 b_0 s_1 K w) : CF Tryz.prog 43 [b_0, s_1] K w := shal_sound Tryz.func43 (e43 b_0 s_1 K ▸ h)
def a44 : Ann := .seq (.z) (.seq (.z) (.seq (.z) (.seq (.z) (.z))))
def s44 [Amb] (seq_0 : Value) (K : Value → WT) : WT :=
 CF Tryz.prog 81 [seq_0] fun v5 =>
 CF Tryz.prog 82 [v5] fun v7 =>
 K v5
theorem e44 [Amb] (seq_0 : Value) (K : Value → WT) : s44 seq_0 K = shal Tryz.prog Tryz.f44 .p a44 [seq_0] K := by kernel_rfl
theorem c44 [Amb] {seq_0 : Value} {K : Value → WT} {w : World} (h : s44 seq_0 K w) : CF Tryz.prog 44 [seq_0] K w := shal_sound Tryz.func44 (e44 seq_0 K ▸ h)
def a45 : Ann := .seq (.z) (.seq (.z) (.z))
def s45 [Amb] (m_0 : Value) (K : Value → WT) : WT :=
 S.box 95 m_0 fun m_1 =>
 K (.func (Go.Fn.func 83) #[] #[m_1])
theorem e45 [Amb] (m_0 : Value) (K : Value → WT) : s45 m_0 K = shal Tryz.prog Tryz.f45 .p a45 [m_0] K := by kernel_rfl
theorem c45 [Amb] {m_0 : Value} {K : Value → WT} {w : World} (h : s45 m_0 K w) : CF Tryz.prog 45 [m_0] K w := shal_sound Tryz.func45 (e45 m_0 K ▸ h)
def a46 : Ann := .seq (.z) (.seq (.seq (.z) (.blk (.seq (.z) (.cond (.seq (.z) (.seq (.seq (.z) (.cond (.seq (.z) (.z)) (.z))) (.seq (.z) (.seq (.z) (.seq (.z) (.z)))))) (.seq (.z) (.cond (.seq (.draw [0, 1, 2, 3, 4, 5, 7, 8, 9, 10, 11, 12, 6, 13, 14, 15]) (.z)) (.seq (.z) (.cond (.seq (.draw [0, 1, 2, 3, 4, 5, 7, 8, 9, 10, 11, 12, 6, 13, 14, 15]) (.z)) (.seq (.z) (.cond (.seq (.draw [0, 1, 2, 3, 4, 5, 6]) (.seq (.draw [0, 1, 2, 3, 4, 5, 6]) (.seq (.z) (.z)))) (.seq (.z) (.cond (.seq (.draw [0, 1, 2, 3, 4, 5, 6, 7, 9, 10, 11, 12, 13, 14, 15, 16, 8, 17, 18, 19]) (.z)) (.seq (.z) (.cond (.seq (.draw [0, 1, 2, 3, 4, 5, 6, 7, 9, 10, 11, 12, 13, 14, 15, 16, 8, 17, 18, 19]) (.z)) (.seq (.z) (.cond (.seq (.draw [0, 1, 2, 3, 4, 5, 7, 8, 9, 10, 11, 12, 6, 13, 14, 15]) (.z)) (.z))))))))))))))))) (.seq (.draw [0, 1, 2, 3, 5, 6, 7, 8, 4, 9, 10, 11]) (.z)))
def a48 : Ann := .seq (.z) (.seq (.seq (.z) (.blk (.loop [0, 3] (.seq (.seq (.z) (.cond (.z) (.z))) (.seq (.blk (.seq (.z) (.seq (.z) (.cond (.seq (.z) (.z)) (.z))))) (.z)))))) (.seq (.z) (.z)))
def s48 [Amb] (s_0 : Value) (K : Value → WT) : WT :=
 S.loop 2 (fun K0 => fun s_0' n_3 => S.fa fun _ =>
 S.bin .lss n_3 (I 4096) fun v7 =>
 S.cond v7 (
 CF Tryz.prog 93 [s_0', n_3] fun v13 =>
 S.ext v13 0 fun v14 =>
 S.ext v13 1 fun v15 =>
 S.not1 v15 fun v17 =>
 S.cond v17 (
 K n_3) (
 S.bin .add n_3 (I 1) fun v9 =>
 K0 s_0' v9)) (
 K (I (-1))))
 [s_0, (I 0)]
theorem e48 [Amb] (s_0 : Value) (K : Value → WT) : s48 s_0 K = shal Tryz.prog Tryz.f48 .p a48 [s_0] K := by kernel_rfl
end Go.Proofs.YtmbfmkiagdhcoaaGreat.Sh
end
