/-
  Part 12: ShW.
-/
import Derived.Test.YtjafpncngmbcdaaGreatProg
import Derived.KernelRfl
import Derived.Test.YtjafpncngmbcdaaGreatPkLk
set_option linter.unusedSimpArgs false
set_option linter.unusedVariables false
set_option linter.unusedSectionVars false
section
namespace Go.Proofs.YtjafpncngmbcdaaGreat.Sh
open Go Go.SL Go.Proofs
set_option maxRecDepth 100000
def a133 : Ann := .seq (.seq (.z) (.cond (.seq (.z) (.seq (.z) (.seq (.blk (.loop [0, 1, 4, 10, 11] (.seq (.seq (.z) (.cond (.z) (.z))) (.blk (.seq (.z) (.seq (.draw [0, 1, 2, 3, 4, 5, 6, 7, 8, 9, 10]) (.cond (.z) (.z)))))))) (.seq (.seq (.z) (.blk (.loop [0, 10, 13] (.seq (.seq (.z) (.cond (.z) (.z))) (.seq (.blk (.draw [0, 1, 2, 3, 4, 5, 6, 7, 8, 9, 10, 11, 12, 13, 14, 15, 16, 17])) (.z)))))) (.z))))) (.z))) (.seq (.seq (.z) (.cond (.seq (.z) (.seq (.z) (.seq (.blk (.loop [0, 2, 4, 14, 15] (.seq (.seq (.z) (.cond (.z) (.z))) (.blk (.seq (.z) (.seq (.draw [0, 1, 2, 3, 4, 5, 6, 7, 8, 9, 10, 11]) (.cond (.z) (.z)))))))) (.seq (.seq (.z) (.blk (.loop [0, 14, 17] (.seq (.seq (.z) (.cond (.z) (.z))) (.seq (.blk (.draw [0, 1, 2, 3, 4, 5, 6, 7, 8, 9, 10, 11, 12, 13, 14, 15, 16, 17])) (.z)))))) (.z))))) (.z))) (.seq (.z) (.seq (.z) (.seq (.z) (.join [0, 1, 2, 3, 4, 18, 19, 20, 21] (.seq (.z) (.cond (.seq (.z) (.z)) (.seq (.z) (.z)))) (.seq (.z) (.seq (.blk (.loop [0, 1, 2, 3, 4, 18, 19, 20, 21, 22] (.seq (.seq (.z) (.cond (.z) (.z))) (.blk (.seq (.z) (.seq (.draw [0, 1, 2, 3, 4, 5, 6, 7, 8, 9, 10, 11, 12, 13]) (.cond (.z) (.z)))))))) (.seq (.z) (.join [0, 1, 3, 4, 18, 20, 24] (.join [0, 1, 2, 3, 4, 18, 20, 24, 185] (.z) (.cond (.z) (.z))) (.join [0, 3, 4, 18, 24] (.join [0, 1, 3, 4, 18, 20, 24, 199] (.z) (.cond (.z) (.z))) (.join [0, 3, 4, 18, 24, 213] (.z) (.cond (.z) (.z)))))))))))))
def s133 [Amb] (v0 v1 v2 v3 v4 : Value) (K : Value → WT) : WT :=
 S.bin .sub v2 v1 fun v27 =>
 S.bin .eql v27 (I 1) fun v28 =>
 S.cond v28 (
 S.loop 5 (fun K0 => fun v0' v1' v4' v10 v11 => S.fa fun _ =>
 S.bin .lss v10 v11 fun v33 =>
 S.cond v33 (
 S.bin .add v10 v11 fun v36 =>
 S.cvt .u64 v36 fun v37 =>
 S.sh .shr v37 (.int .u64 1) fun v38 =>
 S.cvt .i64 v38 fun v39 =>
 S.dr <|
 S.ixS 35 v0' v39 fun v43 =>
 S.ldN 35 v43 fun v44 =>
 S.ixS 35 v0' v1' fun v47 =>
 S.ldN 35 v47 fun v48 =>
 S.cvv Tryz.prog v4' [v44, v48] fun v49 =>
 S.bin .lss v49 (I 0) fun v50 =>
 S.cond v50 (
 S.bin .add v39 (I 1) fun v52 =>
 K0 v0' v1' v4' v52 v11) (
 K0 v0' v1' v4' v10 v39)) (
 S.loop 3 (fun K1 => fun v0'2 v10' v13 => S.fa fun _ =>
 S.bin .sub v10' (I 1) fun v57 =>
 S.bin .lss v13 v57 fun v58 =>
 S.cond v58 (
 S.dr <|
 S.bin .add v13 (I 1) fun v65 =>
 S.bin .add v13 (I 1) fun v68 =>
 S.ixS 35 v0'2 v68 fun v69 =>
 S.ldN 35 v69 fun v70 =>
 S.ixS 35 v0'2 v13 fun v73 =>
 S.ldN 35 v73 fun v74 =>
 S.ixS 35 v0'2 v13 fun v75 =>
 S.st 35 v75 v70 fun _ =>
 S.ixS 35 v0'2 v65 fun v76 =>
 S.st 35 v76 v74 fun _ =>
 S.bin .add v13 (I 1) fun v60 =>
 K1 v0'2 v10' v60) (
 K (.tuple #[])))
 [v0', v10, v1']))
 [v0, v1, v4, v2, v3]) (
 S.bin .sub v3 v2 fun v79 =>
 S.bin .eql v79 (I 1) fun v80 =>
 S.cond v80 (
 S.loop 5 (fun K2 => fun v0'3 v2' v4'2 v14 v15 => S.fa fun _ =>
 S.bin .lss v14 v15 fun v85 =>
 S.cond v85 (
 S.bin .add v14 v15 fun v88 =>
 S.cvt .u64 v88 fun v89 =>
 S.sh .shr v89 (.int .u64 1) fun v90 =>
 S.cvt .i64 v90 fun v91 =>
 S.dr <|
 S.ixS 35 v0'3 v2' fun v95 =>
 S.ldN 35 v95 fun v96 =>
 S.ixS 35 v0'3 v91 fun v99 =>
 S.ldN 35 v99 fun v100 =>
 S.cvv Tryz.prog v4'2 [v96, v100] fun v101 =>
 S.bin .lss v101 (I 0) fun v102 =>
 S.not1 v102 fun v103 =>
 S.cond v103 (
 S.bin .add v91 (I 1) fun v105 =>
 K2 v0'3 v2' v4'2 v105 v15) (
 K2 v0'3 v2' v4'2 v14 v91)) (
 S.loop 3 (fun K3 => fun v0'4 v14' v17 => S.fa fun _ =>
 S.bin .gtr v17 v14' fun v110 =>
 S.cond v110 (
 S.dr <|
 S.bin .sub v17 (I 1) fun v117 =>
 S.bin .sub v17 (I 1) fun v120 =>
 S.ixS 35 v0'4 v120 fun v121 =>
 S.ldN 35 v121 fun v122 =>
 S.ixS 35 v0'4 v17 fun v125 =>
 S.ldN 35 v125 fun v126 =>
 S.ixS 35 v0'4 v17 fun v127 =>
 S.st 35 v127 v122 fun _ =>
 S.ixS 35 v0'4 v117 fun v128 =>
 S.st 35 v128 v126 fun _ =>
 S.bin .sub v17 (I 1) fun v112 =>
 K3 v0'4 v14' v112) (
 K (.tuple #[])))
 [v0'3, v14, v2']))
 [v0, v2, v4, v1, v2]) (
 S.bin .add v1 v3 fun v131 =>
 S.cvt .u64 v131 fun v132 =>
 S.sh .shr v132 (.int .u64 1) fun v133 =>
 S.cvt .i64 v133 fun v134 =>
 S.bin .add v134 v2 fun v137 =>
 S.join 9 (fun K4 =>
 S.bin .gtr v2 v134 fun v140 =>
 S.cond v140 (
 S.bin .sub v137 v3 fun v143 =>
 K4 v0 v1 v2 v3 v4 v134 v137 v143 v134) (
 K4 v0 v1 v2 v3 v4 v134 v137 v1 v2))
 <| fun v0'5 v1'2 v2'2 v3' v4'3 v18 v19 v20 v21 => S.fa fun _ =>
 S.bin .sub v19 (I 1) fun v148 =>
 S.loop 10 (fun K5 => fun v0'6 v1'3 v2'3 v3'2 v4'4 v18' v19' v20' v21' v22 => S.fa fun _ =>
 S.bin .lss v20' v21' fun v151 =>
 S.cond v151 (
 S.bin .add v20' v21' fun v154 =>
 S.cvt .u64 v154 fun v155 =>
 S.sh .shr v155 (.int .u64 1) fun v156 =>
 S.cvt .i64 v156 fun v157 =>
 S.dr <|
 S.bin .sub v22 v157 fun v162 =>
 S.ixS 35 v0'6 v162 fun v163 =>
 S.ldN 35 v163 fun v164 =>
 S.ixS 35 v0'6 v157 fun v167 =>
 S.ldN 35 v167 fun v168 =>
 S.cvv Tryz.prog v4'4 [v164, v168] fun v169 =>
 S.bin .lss v169 (I 0) fun v170 =>
 S.not1 v170 fun v171 =>
 S.cond v171 (
 S.bin .add v157 (I 1) fun v173 =>
 K5 v0'6 v1'3 v2'3 v3'2 v4'4 v18' v19' v173 v21' v22) (
 K5 v0'6 v1'3 v2'3 v3'2 v4'4 v18' v19' v20' v157 v22)) (
 S.bin .sub v19' v20' fun v177 =>
 S.join 7 (fun K6 =>
 S.join 9 (fun K7 =>
 S.bin .lss v20' v2'3 fun v180 =>
 S.gd v180 true (fun k => k v2'3) fun v182 =>
 S.gd v180 true (fun k => k v177) fun v183 =>
 S.gd v180 true (S.bin .lss v182 v183) fun v184 =>
 S.pick v180 v184 (B false) fun v185 =>
 K7 v0'6 v1'3 v2'3 v3'2 v4'4 v18' v20' v177 v185)
 <| fun v0'7 v1'4 v2'4 v3'3 v4'5 v18'2 v20'2 v24 v185' => S.fa fun _ =>
 S.cond v185' (
 CF Tryz.prog 148 [v0'7, v20'2, v2'4, v24, v4'5] fun v191 =>
 K6 v0'7 v1'4 v3'3 v4'5 v18'2 v20'2 v24) (
 K6 v0'7 v1'4 v3'3 v4'5 v18'2 v20'2 v24))
 <| fun v0'8 v1'5 v3'4 v4'6 v18'3 v20'3 v24' => S.fa fun _ =>
 S.join 5 (fun K8 =>
 S.join 8 (fun K9 =>
 S.bin .lss v1'5 v20'3 fun v194 =>
 S.gd v194 true (fun k => k v20'3) fun v196 =>
 S.gd v194 true (fun k => k v18'3) fun v197 =>
 S.gd v194 true (S.bin .lss v196 v197) fun v198 =>
 S.pick v194 v198 (B false) fun v199 =>
 K9 v0'8 v1'5 v3'4 v4'6 v18'3 v20'3 v24' v199)
 <| fun v0'9 v1'6 v3'5 v4'7 v18'4 v20'4 v24'2 v199' => S.fa fun _ =>
 S.cond v199' (
 CF Tryz.prog 133 [v0'9, v1'6, v20'4, v18'4, v4'7] fun v205 =>
 K8 v0'9 v3'5 v4'7 v18'4 v24'2) (
 K8 v0'9 v3'5 v4'7 v18'4 v24'2))
 <| fun v0'10 v3'6 v4'8 v18'5 v24'3 => S.fa fun _ =>
 S.join 6 (fun K10 =>
 S.bin .lss v18'5 v24'3 fun v208 =>
 S.gd v208 true (fun k => k v24'3) fun v210 =>
 S.gd v208 true (fun k => k v3'6) fun v211 =>
 S.gd v208 true (S.bin .lss v210 v211) fun v212 =>
 S.pick v208 v212 (B false) fun v213 =>
 K10 v0'10 v3'6 v4'8 v18'5 v24'3 v213)
 <| fun v0'11 v3'7 v4'9 v18'6 v24'4 v213' => S.fa fun _ =>
 S.cond v213' (
 CF Tryz.prog 133 [v0'11, v18'6, v24'4, v3'7, v4'9] fun v219 =>
 K (.tuple #[])) (
 K (.tuple #[]))))
 [v0'5, v1'2, v2'2, v3', v4'3, v18, v19, v20, v21, v148]))
theorem e133 [Amb] (v0 v1 v2 v3 v4 : Value) (K : Value → WT) : s133 v0 v1 v2 v3 v4 K = shal Tryz.prog Tryz.f133 .p a133 [v0, v1, v2, v3, v4] K := by kernel_rfl
theorem c133 [Amb] {v0 v1 v2 v3 v4 : Value} {K : Value → WT} {w : World} (h : s133 v0 v1 v2 v3 v4 K w) : CF Tryz.prog 133 [v0, v1, v2, v3, v4] K w := shal_sound Tryz.func133 (e133 v0 v1 v2 v3 v4 K ▸ h)
def a148 : Ann := .seq (.z) (.seq (.z) (.seq (.blk (.loop [0, 2, 4, 10, 11] (.seq (.seq (.z) (.cond (.z) (.z))) (.blk (.seq (.z) (.cond (.seq (.z) (.z)) (.seq (.z) (.z)))))))) (.z)))
def s148 [Amb] (data_0 a_1 m_2 b_3 cmp_4 : Value) (K : Value → WT) : WT :=
 S.bin .sub m_2 a_1 fun v14 =>
 S.bin .sub b_3 m_2 fun v17 =>
 S.loop 5 (fun K0 => fun data_0' m_2' cmp_4' i_10 j_11 => S.fa fun _ =>
 S.bin .neq i_10 j_11 fun v20 =>
 S.cond v20 (
 S.bin .gtr i_10 j_11 fun v23 =>
 S.cond v23 (
 S.bin .sub m_2' i_10 fun v27 =>
 CF Tryz.prog 171 [data_0', v27, m_2', j_11, cmp_4'] fun v31 =>
 S.bin .sub i_10 j_11 fun v34 =>
 K0 data_0' m_2' cmp_4' v34 j_11) (
 S.bin .sub m_2' i_10 fun v38 =>
 S.bin .add m_2' j_11 fun v41 =>
 S.bin .sub v41 i_10 fun v43 =>
 CF Tryz.prog 171 [data_0', v38, v43, i_10, cmp_4'] fun v46 =>
 S.bin .sub j_11 i_10 fun v49 =>
 K0 data_0' m_2' cmp_4' i_10 v49)) (
 S.bin .sub m_2' i_10 fun v53 =>
 CF Tryz.prog 171 [data_0', v53, m_2', i_10, cmp_4'] fun v57 =>
 K (.tuple #[])))
 [data_0, m_2, cmp_4, v14, v17]
theorem e148 [Amb] (data_0 a_1 m_2 b_3 cmp_4 : Value) (K : Value → WT) : s148 data_0 a_1 m_2 b_3 cmp_4 K = shal Tryz.prog Tryz.f148 .p a148 [data_0, a_1, m_2, b_3, cmp_4] K := by kernel_rfl
theorem c148 [Amb] {data_0 a_1 m_2 b_3 cmp_4 : Value} {K : Value → WT} {w : World} (h : s148 data_0 a_1 m_2 b_3 cmp_4 K w) : CF Tryz.prog 148 [data_0, a_1, m_2, b_3, cmp_4] K w := shal_sound Tryz.func148 (e148 data_0 a_1 m_2 b_3 cmp_4 K ▸ h)
def a171 : Ann := .seq (.z) (.blk (.loop [0, 1, 2, 3, 10] (.seq (.seq (.z) (.cond (.z) (.z))) (.seq (.blk (.draw [0, 1, 2, 3, 4, 5, 6, 7, 8, 9, 10, 11, 12, 13, 14, 15, 16, 17, 18, 19, 20, 21, 22, 23])) (.z)))))
def s171 [Amb] (data_0 a_1 b_2 n_3 cmp_4 : Value) (K : Value → WT) : WT :=
 S.loop 5 (fun K0 => fun data_0' a_1' b_2' n_3' i_10 => S.fa fun _ =>
 S.bin .lss i_10 n_3' fun v13 =>
 S.cond v13 (
 S.dr <|
 S.bin .add a_1' i_10 fun v19 =>
 S.bin .add b_2' i_10 fun v23 =>
 S.bin .add b_2' i_10 fun v27 =>
 S.ixS 35 data_0' v27 fun v28 =>
 S.ldN 35 v28 fun v29 =>
 S.bin .add a_1' i_10 fun v33 =>
 S.ixS 35 data_0' v33 fun v34 =>
 S.ldN 35 v34 fun v35 =>
 S.ixS 35 data_0' v19 fun v36 =>
 S.st 35 v36 v29 fun _ =>
 S.ixS 35 data_0' v23 fun v37 =>
 S.st 35 v37 v35 fun _ =>
 S.bin .add i_10 (I 1) fun v15 =>
 K0 data_0' a_1' b_2' n_3' v15) (
 K (.tuple #[])))
 [data_0, a_1, b_2, n_3, (I 0)]
theorem e171 [Amb] (data_0 a_1 b_2 n_3 cmp_4 : Value) (K : Value → WT) : s171 data_0 a_1 b_2 n_3 cmp_4 K = shal Tryz.prog Tryz.f171 .p a171 [data_0, a_1, b_2, n_3, cmp_4] K := by kernel_rfl
theorem c171 [Amb] {data_0 a_1 b_2 n_3 cmp_4 : Value} {K : Value → WT} {w : World} (h : s171 data_0 a_1 b_2 n_3 cmp_4 K w) : CF Tryz.prog 171 [data_0, a_1, b_2, n_3, cmp_4] K w := shal_sound Tryz.func171 (e171 data_0 a_1 b_2 n_3 cmp_4 K ▸ h)
def a102 : Ann := .seq (.z) (.seq (.z) (.z))
def s102 [Amb] (x_0 : Value) (K : Value → WT) : WT :=
 S.bin .neq x_0 x_0 fun v5 =>
 K v5
theorem e102 [Amb] (x_0 : Value) (K : Value → WT) : s102 x_0 K = shal Tryz.prog Tryz.f102 .p a102 [x_0] K := by kernel_rfl
theorem c102 [Amb] {x_0 : Value} {K : Value → WT} {w : World} (h : s102 x_0 K w) : CF Tryz.prog 102 [x_0] K w := shal_sound Tryz.func102 (e102 x_0 K ▸ h)
end Go.Proofs.YtjafpncngmbcdaaGreat.Sh
end
