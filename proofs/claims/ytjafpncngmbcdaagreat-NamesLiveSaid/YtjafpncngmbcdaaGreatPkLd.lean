/-
  Part 4: ShU.
-/
import Derived.Test.YtjafpncngmbcdaaGreatProg
import Derived.KernelRfl
import Derived.Test.YtjafpncngmbcdaaGreatPkLc
set_option linter.unusedSimpArgs false
set_option linter.unusedVariables false
set_option linter.unusedSectionVars false
section
namespace Go.Proofs.YtjafpncngmbcdaaGreat.Sh
open Go Go.SL Go.Proofs
set_option maxRecDepth 100000
def a76 : Ann := .seq (.z) (.seq (.seq (.z) (.blk (.loop [0, 2, 3] (.seq (.seq (.z) (.cond (.z) (.z))) (.join [0, 2, 3] (.blk (.seq (.z) (.seq (.seq (.z) (.blk (.loop [0, 2, 3, 4, 5] (.seq (.seq (.z) (.cond (.z) (.z))) (.join [0, 2, 3, 4, 5] (.blk (.seq (.z) (.seq (.z) (.seq (.seq (.z) (.blk (.loop [0, 2, 3, 4, 5, 6, 7, 8] (.seq (.seq (.z) (.cond (.z) (.z))) (.seq (.blk (.seq (.z) (.blk (.loop [0, 2, 3, 4, 5, 6, 7, 8, 9] (.seq (.seq (.z) (.cond (.z) (.z))) (.seq (.blk (.draw [0, 1, 2, 3, 4, 5, 6, 7, 8, 9, 10, 11, 12, 13, 14, 15, 16, 17, 18, 19, 20])) (.z))))))) (.z)))))) (.join [0, 2, 3, 4, 5, 6, 100] (.z) (.cond (.z) (.z))))))) (.z)))))) (.seq (.z) (.cond (.z) (.z)))))) (.z)))))) (.z))
def s76 [Amb] (v0 : Value) (K : Value → WT) : WT :=
 V Tryz.prog (Instr.buildSlice 71 0 #[]) fun v10 =>
 S.loop 3 (fun K0 => fun v0' v2 v3 => S.fa fun _ =>
 S.nc v0' fun v13 =>
 S.fad v13 0 fun v14 =>
 S.ld v14 fun v15 =>
 S.len v15 fun v16 =>
 S.bin .lss v3 v16 fun v17 =>
 S.cond v17 (
 S.join 3 (fun K1 =>
 S.nc v0' fun v21 =>
 S.fad v21 0 fun v22 =>
 S.ld v22 fun v23 =>
 S.ixS 2 v23 v3 fun v25 =>
 S.fad v25 0 fun v26 =>
 S.ld v26 fun v27 =>
 V Tryz.prog (Instr.build 86 #[(0, v27)]) fun v28 =>
 S.box 86 (.agg #[(.string ⟨#[]⟩), (.slice none 0 0)]) fun v4 =>
 S.st 2 v4 v28 fun _ =>
 S.loop 5 (fun K2 => fun v0'2 v2' v3' v4' v5 => S.fa fun _ =>
 S.nc v0'2 fun v31 =>
 S.fad v31 0 fun v32 =>
 S.ld v32 fun v33 =>
 S.ixS 2 v33 v3' fun v35 =>
 S.fad v35 1 fun v36 =>
 S.ld v36 fun v37 =>
 S.len v37 fun v38 =>
 S.bin .lss v5 v38 fun v39 =>
 S.cond v39 (
 S.join 5 (fun K3 =>
 S.nc v0'2 fun v43 =>
 S.fad v43 0 fun v44 =>
 S.ld v44 fun v45 =>
 S.ixS 2 v45 v3' fun v47 =>
 S.fad v47 1 fun v48 =>
 S.ld v48 fun v49 =>
 S.ixS 4 v49 v5 fun v51 =>
 S.ldN 4 v51 fun v52 =>
 S.box 31 (.agg #[(.int .i64 0), (.int .i64 0), (.slice none 0 0), (.bool false)]) fun v6 =>
 S.st 4 v6 v52 fun _ =>
 S.loop 8 (fun K4 => fun v0'3 v2'2 v3'2 v4'2 v5' v6' v7 v8 => S.fa fun _ =>
 S.nc v0'3 fun v55 =>
 S.fad v55 1 fun v56 =>
 S.ld v56 fun v57 =>
 S.len v57 fun v58 =>
 S.bin .lss v8 v58 fun v59 =>
 S.cond v59 (
 S.loop 9 (fun K5 => fun v0'4 v2'3 v3'3 v4'3 v5'2 v6'2 v7' v8' v9 => S.fa fun _ =>
 S.nc v0'4 fun v64 =>
 S.fad v64 1 fun v65 =>
 S.ld v65 fun v66 =>
 S.ixS 3 v66 v8' fun v68 =>
 S.fad v68 2 fun v69 =>
 S.ld v69 fun v70 =>
 S.len v70 fun v71 =>
 S.bin .lss v9 v71 fun v72 =>
 S.cond v72 (
 S.dr <|
 S.gd v7' false (fun k => k v0'4) fun v77 =>
 S.gd v7' false (S.nc v77) fun v78 =>
 S.gd v7' false (S.fad v78 1) fun v79 =>
 S.gd v7' false (S.ld v79) fun v80 =>
 S.gd v7' false (fun k => k v8') fun v81 =>
 S.gd v7' false (S.ixS 3 v80 v81) fun v82 =>
 S.gd v7' false (S.fad v82 2) fun v83 =>
 S.gd v7' false (S.ld v83) fun v84 =>
 S.gd v7' false (fun k => k v9) fun v85 =>
 S.gd v7' false (S.ixS 2 v84 v85) fun v86 =>
 S.gd v7' false (S.ldN 2 v86) fun v87 =>
 S.gd v7' false (S.fad v4'3 0) fun v88 =>
 S.gd v7' false (S.ld v88) fun v89 =>
 S.gd v7' false (S.fad v6'2 0) fun v90 =>
 S.gd v7' false (S.ld v90) fun v91 =>
 S.gd v7' false (V Tryz.prog (Instr.build 53 #[(0, v89), (1, v91)])) fun v92 =>
 S.rck [S.gd v7' false (S.ldN 2 v86) (fun v' _ => v' = v87), S.gd v7' false (S.ld v83) (fun v' _ => v' = v84), S.gd v7' false (S.ld v79) (fun v' _ => v' = v80)] <|
 S.gd v7' false (S.eqv Tryz.prog .eql 53 false v87 v92) fun v93 =>
 S.pick v7' (B true) v93 fun v94 =>
 S.bin .add v9 (I 1) fun v74 =>
 K5 v0'4 v2'3 v3'3 v4'3 v5'2 v6'2 v94 v8' v74) (
 S.bin .add v8' (I 1) fun v61 =>
 K4 v0'4 v2'3 v3'3 v4'3 v5'2 v6'2 v7' v61))
 [v0'3, v2'2, v3'2, v4'2, v5', v6', v7, v8, (I 0)]) (
 S.join 7 (fun K6 =>
 S.gd v7 false (S.fad v6' 3) fun v97 =>
 S.gd v7 false (S.ld v97) fun v98 =>
 S.gd v7 false (S.not1 v98) fun v99 =>
 S.pick v7 (B true) v99 fun v100 =>
 K6 v0'3 v2'2 v3'2 v4'2 v5' v6' v100)
 <| fun v0'5 v2'4 v3'4 v4'4 v5'3 v6'3 v100' => S.fa fun _ =>
 S.cond v100' (
 S.fad v4'4 1 fun v101 =>
 S.ld v101 fun v102 =>
 S.ldN 4 v6'3 fun v103 =>
 V Tryz.prog (Instr.buildSlice 63 1 #[(0, v103)]) fun v104 =>
 V Tryz.prog (Builtin.append_ #[63, 63] 63 #[v102, v104]) fun v105 =>
 S.fad v4'4 1 fun v106 =>
 S.st 1 v106 v105 fun _ =>
 K3 v0'5 v2'4 v3'4 v4'4 v5'3) (
 K3 v0'5 v2'4 v3'4 v4'4 v5'3)))
 [v0'2, v2', v3', v4', v5, v6, (B false), (I 0)])
 <| fun v0'6 v2'5 v3'5 v4'5 v5'4 => S.fa fun _ =>
 S.bin .add v5'4 (I 1) fun v41 =>
 K2 v0'6 v2'5 v3'5 v4'5 v41) (
 S.fad v4' 1 fun v107 =>
 S.ld v107 fun v108 =>
 S.len v108 fun v109 =>
 S.bin .gtr v109 (I 0) fun v110 =>
 S.cond v110 (
 S.ldN 2 v4' fun v112 =>
 V Tryz.prog (Instr.buildSlice 71 1 #[(0, v112)]) fun v113 =>
 V Tryz.prog (Builtin.append_ #[71, 71] 71 #[v2', v113]) fun v114 =>
 K1 v0'2 v114 v3') (
 K1 v0'2 v2' v3')))
 [v0', v2, v3, v4, (I 0)])
 <| fun v0'7 v2'6 v3'6 => S.fa fun _ =>
 S.bin .add v3'6 (I 1) fun v19 =>
 K0 v0'7 v2'6 v19) (
 S.nc v0' fun v117 =>
 S.fad v117 0 fun v118 =>
 S.st 1 v118 v2 fun _ =>
 K (.tuple #[])))
 [v0, v10, (I 0)]
theorem e76 [Amb] (v0 : Value) (K : Value → WT) : s76 v0 K = shal Tryz.prog Tryz.f76 .p a76 [v0] K := by kernel_rfl
theorem c76 [Amb] {v0 : Value} {K : Value → WT} {w : World} (h : s76 v0 K w) : CF Tryz.prog 76 [v0] K w := shal_sound Tryz.func76 (e76 v0 K ▸ h)
def a77 : Ann := .seq (.z) (.seq (.z) (.seq (.z) (.seq (.seq (.z) (.blk (.loop [0, 1, 6, 7, 8] (.seq (.seq (.z) (.cond (.z) (.z))) (.seq (.blk (.seq (.z) (.join [0, 1, 6, 7, 8, 9] (.seq (.z) (.blk (.loop [0, 1, 6, 7, 8, 9, 10] (.seq (.seq (.z) (.cond (.z) (.z))) (.seq (.blk (.join [0, 1, 6, 7, 8, 9, 10, 47] (.draw [0, 1, 2, 3, 4, 5, 6, 7, 8, 9, 10, 11, 12, 13, 14, 15, 16, 17, 18, 19]) (.cond (.seq (.z) (.seq (.z) (.seq (.z) (.z)))) (.z)))) (.z)))))) (.z)))) (.z)))))) (.seq (.z) (.z)))))
def s77 [Amb] (v0 v1 : Value) (K : Value → WT) : WT :=
 V Tryz.prog (Instr.buildSlice 29 0 #[]) fun v11 =>
 S.loop 5 (fun K0 => fun v0' v1' v6 v7 v8 => S.fa fun _ =>
 S.len v0' fun v14 =>
 S.bin .lss v8 v14 fun v15 =>
 S.cond v15 (
 S.ixS 35 v0' v8 fun v20 =>
 S.ldN 35 v20 fun v21 =>
 S.box 38 (.agg #[(.int .u8 0), (.int .u8 0), (.int .u8 0), (.int .u8 0), (.int .u8 0), (.int .u8 0), (.int .u8 0), (.int .u8 0), (.int .u8 0), (.int .u8 0), (.int .u8 0), (.int .u8 0), (.int .u8 0), (.int .u8 0), (.int .u8 0), (.int .u8 0), (.int .u8 0), (.int .u8 0), (.int .u8 0), (.int .u8 0), (.int .u8 0), (.int .u8 0), (.int .u8 0), (.int .u8 0), (.int .u8 0), (.int .u8 0), (.int .u8 0), (.int .u8 0), (.int .u8 0), (.int .u8 0), (.int .u8 0), (.int .u8 0), (.int .i64 0), (.int .i64 0), (.int .i64 0)]) fun v9 =>
 S.st 35 v9 v21 fun _ =>
 S.join 6 (fun K1 =>
 S.loop 7 (fun K2 => fun v0'2 v1'2 v6' v7' v8' v9' v10 => S.fa fun _ =>
 S.len v1'2 fun v24 =>
 S.bin .lss v10 v24 fun v25 =>
 S.cond v25 (
 S.join 8 (fun K3 =>
 S.dr <|
 S.ixS 4 v1'2 v10 fun v30 =>
 S.fad v30 0 fun v31 =>
 S.fad v31 0 fun v32 =>
 S.ld v32 fun v33 =>
 S.fad v9' 33 fun v34 =>
 S.ld v34 fun v35 =>
 S.bin .eql v33 v35 fun v36 =>
 S.gd v36 true (fun k => k v1'2) fun v38 =>
 S.gd v36 true (fun k => k v10) fun v39 =>
 S.gd v36 true (S.ixS 4 v38 v39) fun v40 =>
 S.gd v36 true (S.fad v40 0) fun v41 =>
 S.gd v36 true (S.fad v41 1) fun v42 =>
 S.gd v36 true (S.ld v42) fun v43 =>
 S.gd v36 true (S.fad v9' 34) fun v44 =>
 S.gd v36 true (S.ld v44) fun v45 =>
 S.gd v36 true (S.bin .eql v43 v45) fun v46 =>
 S.pick v36 v46 (B false) fun v47 =>
 K3 v0'2 v1'2 v6' v7' v8' v9' v10 v47)
 <| fun v0'3 v1'3 v6'2 v7'2 v8'2 v9'2 v10' v47' => S.fa fun _ =>
 S.cond v47' (
 S.ixS 4 v1'3 v10' fun v50 =>
 S.fad v50 2 fun v51 =>
 S.fad v51 0 fun v52 =>
 S.ld v52 fun v53 =>
 S.fad v9'2 33 fun v54 =>
 S.st 1 v54 v53 fun _ =>
 S.ixS 4 v1'3 v10' fun v57 =>
 S.fad v57 2 fun v58 =>
 S.fad v58 1 fun v59 =>
 S.ld v59 fun v60 =>
 S.fad v9'2 34 fun v61 =>
 S.st 1 v61 v60 fun _ =>
 S.bin .add v7'2 (I 1) fun v63 =>
 K1 v0'3 v1'3 v6'2 v63 v8'2 v9'2) (
 S.bin .add v10' (I 1) fun v27 =>
 K2 v0'3 v1'3 v6'2 v7'2 v8'2 v9'2 v27)) (
 K1 v0'2 v1'2 v6' v7' v8' v9'))
 [v0', v1', v6, v7, v8, v9, (I 0)])
 <| fun v0'4 v1'4 v6'3 v7'3 v8'3 v9'3 => S.fa fun _ =>
 S.ldN 35 v9'3 fun v65 =>
 V Tryz.prog (Instr.buildSlice 29 1 #[(0, v65)]) fun v66 =>
 V Tryz.prog (Builtin.append_ #[29, 29] 29 #[v6'3, v66]) fun v67 =>
 S.bin .add v8'3 (I 1) fun v17 =>
 K0 v0'4 v1'4 v67 v7'3 v17) (
 K (.tuple #[v6, v7])))
 [v0, v1, v11, (I 0), (I 0)]
theorem e77 [Amb] (v0 v1 : Value) (K : Value → WT) : s77 v0 v1 K = shal Tryz.prog Tryz.f77 .p a77 [v0, v1] K := by kernel_rfl
theorem c77 [Amb] {v0 v1 : Value} {K : Value → WT} {w : World} (h : s77 v0 v1 K w) : CF Tryz.prog 77 [v0, v1] K w := shal_sound Tryz.func77 (e77 v0 v1 K ▸ h)
def a78 : Ann := .seq (.z) (.seq (.z) (.seq (.blk (.join [1, 3, 10] (.z) (.cond (.seq (.z) (.z)) (.seq (.z) (.cond (.seq (.z) (.z)) (.join [1, 3, 30] (.z) (.cond (.seq (.z) (.z)) (.join [1, 47] (.join [1, 47] (.z) (.cond (.z) (.seq (.z) (.cond (.z) (.z))))) (.cond (.seq (.z) (.z)) (.z)))))))))) (.seq (.seq (.z) (.blk (.loop [1, 64, 65] (.seq (.z) (.seq (.cond (.z) (.z)) (.seq (.blk (.seq (.z) (.seq (.z) (.seq (.z) (.cond (.seq (.z) (.z)) (.z)))))) (.z))))))) (.seq (.z) (.z)))))
def s78 [Amb] (v0 : Value) (K : Value → WT) : WT :=
 S.box 60 v0 fun v1 =>
 S.fad v1 0 fun v7 =>
 S.ld v7 fun v8 =>
 CF Tryz.prog 106 [v8] fun v9 =>
 S.box 150 (.agg #[(.bool false), (.bool false), (.bool false), (.bool false), (.bool false), (.bool false), (.bool false), (.bool false)]) fun v3 =>
 S.st 8 v3 v9 fun _ =>
 S.join 3 (fun K0 =>
 S.fad v1 0 fun v11 =>
 S.ld v11 fun v12 =>
 S.bin .lss v12 (I 1) fun v13 =>
 S.gd v13 false (S.fad v1 0) fun v15 =>
 S.gd v13 false (S.ld v15) fun v16 =>
 S.gd v13 false (S.bin .gtr v16 (I 9)) fun v17 =>
 S.pick v13 (B true) v17 fun v18 =>
 S.gd v18 false (S.ldN 14 v1) fun v20 =>
 S.gd v18 false (S.ldN 8 v3) fun v21 =>
 S.gd v18 false (CF Tryz.prog 107 [v20, v21]) fun v22 =>
 S.gd v18 false (S.not1 v22) fun v23 =>
 S.pick v18 (B true) v23 fun v24 =>
 K0 v1 v3 v24)
 <| fun v1' v3' v10 => S.fa fun _ =>
 S.cond v10 (
 K (I 4)) (
 S.ldN 14 v1' fun v26 =>
 S.ldN 8 v3' fun v27 =>
 CF Tryz.prog 108 [v26, v27] fun v28 =>
 S.not1 v28 fun v29 =>
 S.cond v29 (
 K (I 2)) (
 S.join 3 (fun K1 =>
 S.fad v1' 7 fun v31 =>
 S.ld v31 fun v32 =>
 S.len v32 fun v33 =>
 S.bin .gtr v33 (I 256) fun v34 =>
 S.gd v34 false (S.fad v1' 8) fun v36 =>
 S.gd v34 false (S.ld v36) fun v37 =>
 S.gd v34 false (S.len v37) fun v38 =>
 S.gd v34 false (S.bin .gtr v38 (I 64)) fun v39 =>
 S.pick v34 (B true) v39 fun v40 =>
 S.gd v40 false (S.fad v1' 9) fun v42 =>
 S.gd v40 false (S.ld v42) fun v43 =>
 S.gd v40 false (S.len v43) fun v44 =>
 S.gd v40 false (S.bin .gtr v44 (I 64)) fun v45 =>
 S.pick v40 (B true) v45 fun v46 =>
 K1 v1' v3' v46)
 <| fun v1'2 v3'2 v30 => S.fa fun _ =>
 S.cond v30 (
 K (I 6)) (
 S.join 2 (fun K2 =>
 S.join 2 (fun K3 =>
 S.fad v3'2 6 fun v48 =>
 S.ld v48 fun v49 =>
 S.gd v49 true (S.fad v1'2 9) fun v51 =>
 S.gd v49 true (S.ld v51) fun v52 =>
 S.gd v49 true (S.len v52) fun v53 =>
 S.gd v49 true (S.bin .eql v53 (I 0)) fun v54 =>
 S.pick v49 v54 (B false) fun v55 =>
 K3 v1'2 v55)
 <| fun v1'3 v47 => S.fa fun _ =>
 S.cond v47 (
 K2 v1'3 v47) (
 S.fad v1'3 9 fun v56 =>
 S.ld v56 fun v57 =>
 CF Tryz.prog 109 [v57, (.func (.func 110) #[] #[])] fun v58 =>
 S.cond v58 (
 K2 v1'3 v58) (
 S.fad v1'3 8 fun v59 =>
 S.ld v59 fun v60 =>
 CF Tryz.prog 84 [v60, (.func (.func 112) #[] #[])] fun v61 =>
 K2 v1'3 v61)))
 <| fun v1'4 v47' => S.fa fun _ =>
 S.cond v47' (
 K (I 2)) (
 S.fad v1'4 7 fun v62 =>
 S.ld v62 fun v63 =>
 S.len v63 fun v64 =>
 S.loop 3 (fun K4 => fun v1'5 v64' v65 => S.fa fun _ =>
 S.bin .lss v65 v64' fun v66 =>
 S.cond v66 (
 S.fad v1'5 7 fun v69 =>
 S.ld v69 fun v70 =>
 S.bin .add v65 (I 1) fun v73 =>
 S.slc 35 v70 (some v65) (some v73) none fun v74 =>
 CF Tryz.prog 115 [v74] fun v75 =>
 S.ext v75 0 fun v76 =>
 S.ext v75 1 fun v77 =>
 S.bin .neq v77 (I 0) fun v79 =>
 S.cond v79 (
 K (I 2)) (
 S.bin .add v65 (I 1) fun v80 =>
 K4 v1'5 v64' v80)) (
 K (I 0)))
 [v1'4, v64, (I 0)]))))
theorem e78 [Amb] (v0 : Value) (K : Value → WT) : s78 v0 K = shal Tryz.prog Tryz.f78 .p a78 [v0] K := by kernel_rfl
theorem c78 [Amb] {v0 : Value} {K : Value → WT} {w : World} (h : s78 v0 K w) : CF Tryz.prog 78 [v0] K w := shal_sound Tryz.func78 (e78 v0 K ▸ h)
def a79 : Ann := .seq (.z) (.seq (.seq (.z) (.blk (.loop [5, 6, 7] (.seq (.z) (.seq (.cond (.z) (.z)) (.seq (.blk (.seq (.z) (.seq (.z) (.cond (.seq (.z) (.z)) (.z))))) (.z))))))) (.seq (.z) (.z)))
def s79 [Amb] (l_0 : Value) (K : Value → WT) : WT :=
 S.len l_0 fun v6 =>
 S.loop 3 (fun K0 => fun v5 v6' v7 => S.fa fun _ =>
 S.bin .lss v7 v6' fun v8 =>
 S.cond v8 (
 S.ixS 1 v5 v7 fun v9 =>
 S.ld v9 fun v10 =>
 S.bin .neq v10 (I 0) fun v12 =>
 S.cond v12 (
 K v10) (
 S.bin .add v7 (I 1) fun v14 =>
 K0 v5 v6' v14)) (
 K (I 0)))
 [l_0, v6, (I 0)]
theorem e79 [Amb] (l_0 : Value) (K : Value → WT) : s79 l_0 K = shal Tryz.prog Tryz.f79 .p a79 [l_0] K := by kernel_rfl
theorem c79 [Amb] {l_0 : Value} {K : Value → WT} {w : World} (h : s79 l_0 K w) : CF Tryz.prog 79 [l_0] K w := shal_sound Tryz.func79 (e79 l_0 K ▸ h)
def a80 : Ann := .seq (.z) (.seq (.seq (.z) (.cond (.seq (.z) (.z)) (.z))) (.seq (.z) (.z)))
def s80 [Amb] (is_0 e_1 : Value) (K : Value → WT) : WT :=
 S.cond is_0 (
 K e_1) (
 K (I 0))
theorem e80 [Amb] (is_0 e_1 : Value) (K : Value → WT) : s80 is_0 e_1 K = shal Tryz.prog Tryz.f80 .p a80 [is_0, e_1] K := by kernel_rfl
theorem c80 [Amb] {is_0 e_1 : Value} {K : Value → WT} {w : World} (h : s80 is_0 e_1 K w) : CF Tryz.prog 80 [is_0, e_1] K w := shal_sound Tryz.func80 (e80 is_0 e_1 K ▸ h)
def a81 : Ann := .seq (.z) (.seq (.seq (.z) (.blk (.loop [0, 1, 5] (.seq (.seq (.z) (.cond (.z) (.z))) (.seq (.blk (.seq (.draw [0, 1, 2, 3, 4, 5, 6, 7, 8, 9, 10, 11]) (.cond (.seq (.z) (.z)) (.z)))) (.z)))))) (.seq (.z) (.z)))
def s81 [Amb] (x_0 cmp_1 : Value) (K : Value → WT) : WT :=
 S.len x_0 fun v7 =>
 S.bin .sub v7 (I 1) fun v8 =>
 S.loop 3 (fun K0 => fun x_0' cmp_1' i_5 => S.fa fun _ =>
 S.bin .gtr i_5 (I 0) fun v10 =>
 S.cond v10 (
 S.dr <|
 S.ixS 2 x_0' i_5 fun v16 =>
 S.ldN 2 v16 fun v17 =>
 S.bin .sub i_5 (I 1) fun v20 =>
 S.ixS 2 x_0' v20 fun v21 =>
 S.ldN 2 v21 fun v22 =>
 S.cvv Tryz.prog cmp_1' [v17, v22] fun v23 =>
 S.bin .lss v23 (I 0) fun v24 =>
 S.cond v24 (
 K (B false)) (
 S.bin .sub i_5 (I 1) fun v12 =>
 K0 x_0' cmp_1' v12)) (
 K (B true)))
 [x_0, cmp_1, v8]
theorem e81 [Amb] (x_0 cmp_1 : Value) (K : Value → WT) : s81 x_0 cmp_1 K = shal Tryz.prog Tryz.f81 .p a81 [x_0, cmp_1] K := by kernel_rfl
theorem c81 [Amb] {x_0 cmp_1 : Value} {K : Value → WT} {w : World} (h : s81 x_0 cmp_1 K w) : CF Tryz.prog 81 [x_0, cmp_1] K w := shal_sound Tryz.func81 (e81 x_0 cmp_1 K ▸ h)
def a82 : Ann := .seq (.z) (.seq (.z) (.z))
def s82 [Amb] (x_0 y_1 : Value) (K : Value → WT) : WT :=
 S.box 53 x_0 fun x_2 =>
 S.box 53 y_1 fun y_3 =>
 S.fad x_2 0 fun v5 =>
 S.ld v5 fun v6 =>
 S.fad y_3 0 fun v7 =>
 S.ld v7 fun v8 =>
 CF Tryz.prog 83 [v6, v8] fun v9 =>
 S.bin .mul (I 2) v9 fun v10 =>
 S.bin .sub v10 (I 1) fun v11 =>
 K v11
theorem e82 [Amb] (x_0 y_1 : Value) (K : Value → WT) : s82 x_0 y_1 K = shal Tryz.prog Tryz.f82 .p a82 [x_0, y_1] K := by kernel_rfl
theorem c82 [Amb] {x_0 y_1 : Value} {K : Value → WT} {w : World} (h : s82 x_0 y_1 K w) : CF Tryz.prog 82 [x_0, y_1] K w := shal_sound Tryz.func82 (e82 x_0 y_1 K ▸ h)
def a83 : Ann := .seq (.z) (.seq (.z) (.z))
def s83 [Amb] (a_0 b_1 : Value) (K : Value → WT) : WT :=
 CF Tryz.prog 116 [a_0, b_1] fun v7 =>
 K v7
theorem e83 [Amb] (a_0 b_1 : Value) (K : Value → WT) : s83 a_0 b_1 K = shal Tryz.prog Tryz.f83 .p a83 [a_0, b_1] K := by kernel_rfl
def a84 : Ann := .seq (.z) (.seq (.z) (.z))
def s84 [Amb] (s_0 f_1 : Value) (K : Value → WT) : WT :=
 CF Tryz.prog 45 [s_0, f_1] fun v7 =>
 S.bin .geq v7 (I 0) fun v8 =>
 K v8
theorem e84 [Amb] (s_0 f_1 : Value) (K : Value → WT) : s84 s_0 f_1 K = shal Tryz.prog Tryz.f84 .p a84 [s_0, f_1] K := by kernel_rfl
theorem c84 [Amb] {s_0 f_1 : Value} {K : Value → WT} {w : World} (h : s84 s_0 f_1 K w) : CF Tryz.prog 84 [s_0, f_1] K w := shal_sound Tryz.func84 (e84 s_0 f_1 K ▸ h)
def a85 : Ann := .seq (.z) (.seq (.z) (.z))
def s85 [Amb] (h_0 v1 : Value) (K : Value → WT) : WT :=
 S.box 53 h_0 fun h_2 =>
 S.ld v1 fun v4 =>
 S.ldN 2 h_2 fun v5 =>
 CF Tryz.prog 41 [v4, v5] fun v6 =>
 S.not1 v6 fun v7 =>
 K v7
theorem e85 [Amb] (h_0 v1 : Value) (K : Value → WT) : s85 h_0 v1 K = shal Tryz.prog Tryz.f85 .p a85 [h_0, v1] K := by kernel_rfl
theorem c85 [Amb] {h_0 v1 : Value} {K : Value → WT} {w : World} (h : s85 h_0 v1 K w) : CF Tryz.prog 85 [h_0, v1] K w := shal_sound Tryz.func85 (e85 h_0 v1 K ▸ h)
def a86 : Ann := .seq (.z) (.join [2, 4] (.join [0, 2, 4, 19] (.z) (.cond (.z) (.z))) (.seq (.z) (.draw [0, 1, 2, 3, 4, 5, 6, 7, 8, 9, 10, 11])))
def s86 [Amb] (name_0 v_1 v2 : Value) (K : Value → WT) : WT :=
 S.box 31 v_1 fun v_4 =>
 S.join 2 (fun K0 =>
 S.join 4 (fun K1 =>
 S.ld v2 fun v6 =>
 S.len v6 fun v7 =>
 S.bin .eql v7 (I 0) fun v8 =>
 S.gd v8 false (S.ld v2) fun v10 =>
 S.gd v8 false (S.ld v2) fun v11 =>
 S.gd v8 false (S.len v11) fun v12 =>
 S.gd v8 false (S.bin .sub v12 (I 1)) fun v13 =>
 S.gd v8 false (S.ixS 2 v10 v13) fun v14 =>
 S.gd v8 false (S.fad v14 0) fun v15 =>
 S.gd v8 false (S.ld v15) fun v16 =>
 S.gd v8 false (fun k => k name_0) fun v17 =>
 S.gd v8 false (S.sbin .neq v16 v17) fun v18 =>
 S.pick v8 (B true) v18 fun v19 =>
 K1 name_0 v2 v_4 v19)
 <| fun name_0' v2' v_4' v19' => S.fa fun _ =>
 S.cond v19' (
 S.ld v2' fun v20 =>
 V Tryz.prog (Instr.build 86 #[(0, name_0')]) fun v22 =>
 V Tryz.prog (Instr.buildSlice 71 1 #[(0, v22)]) fun v23 =>
 V Tryz.prog (Builtin.append_ #[71, 71] 71 #[v20, v23]) fun v24 =>
 S.st 1 v2' v24 fun _ =>
 K0 v2' v_4') (
 K0 v2' v_4'))
 <| fun v2'2 v_4'2 => S.fa fun _ =>
 S.ld v2'2 fun v25 =>
 S.ld v2'2 fun v26 =>
 S.len v26 fun v27 =>
 S.bin .sub v27 (I 1) fun v28 =>
 S.ixS 2 v25 v28 fun v29 =>
 S.dr <|
 S.nc v29 fun v32 =>
 S.fad v32 1 fun v33 =>
 S.ld v33 fun v34 =>
 S.ldN 4 v_4'2 fun v35 =>
 CF Tryz.prog 42 [v35] fun v36 =>
 S.rck [S.ld v33 (fun v' _ => v' = v34)] <|
 V Tryz.prog (Instr.buildSlice 63 1 #[(0, v36)]) fun v37 =>
 S.rck [S.ld v33 (fun v' _ => v' = v34)] <|
 V Tryz.prog (Builtin.append_ #[63, 63] 63 #[v34, v37]) fun v38 =>
 S.nc v29 fun v39 =>
 S.fad v39 1 fun v40 =>
 S.st 1 v40 v38 fun _ =>
 K (.tuple #[])
theorem e86 [Amb] (name_0 v_1 v2 : Value) (K : Value → WT) : s86 name_0 v_1 v2 K = shal Tryz.prog Tryz.f86 .p a86 [name_0, v_1, v2] K := by kernel_rfl
theorem c86 [Amb] {name_0 v_1 v2 : Value} {K : Value → WT} {w : World} (h : s86 name_0 v_1 v2 K w) : CF Tryz.prog 86 [name_0, v_1, v2] K w := shal_sound Tryz.func86 (e86 name_0 v_1 v2 K ▸ h)
def a87 : Ann := .seq (.z) (.seq (.z) (.seq (.z) (.seq (.z) (.z))))
def s87 [Amb] (seq_0 : Value) (K : Value → WT) : WT :=
 CF Tryz.prog 117 [seq_0] fun v5 =>
 CF Tryz.prog 118 [v5] fun v7 =>
 K v5
theorem e87 [Amb] (seq_0 : Value) (K : Value → WT) : s87 seq_0 K = shal Tryz.prog Tryz.f87 .p a87 [seq_0] K := by kernel_rfl
theorem c87 [Amb] {seq_0 : Value} {K : Value → WT} {w : World} (h : s87 seq_0 K w) : CF Tryz.prog 87 [seq_0] K w := shal_sound Tryz.func87 (e87 seq_0 K ▸ h)
def a88 : Ann := .seq (.z) (.seq (.z) (.z))
def s88 [Amb] (m_0 : Value) (K : Value → WT) : WT :=
 S.box 79 m_0 fun m_1 =>
 K (.func (Go.Fn.func 119) #[] #[m_1])
theorem e88 [Amb] (m_0 : Value) (K : Value → WT) : s88 m_0 K = shal Tryz.prog Tryz.f88 .p a88 [m_0] K := by kernel_rfl
theorem c88 [Amb] {m_0 : Value} {K : Value → WT} {w : World} (h : s88 m_0 K w) : CF Tryz.prog 88 [m_0] K w := shal_sound Tryz.func88 (e88 m_0 K ▸ h)
def a89 : Ann := .seq (.z) (.seq (.z) (.seq (.join [1, 3, 16] (.z) (.cond (.seq (.z) (.z)) (.z))) (.join [1, 3, 4] (.z) (.join [1, 3, 4, 5] (.z) (.seq (.join [1, 3, 4, 5, 106] (.z) (.cond (.seq (.z) (.z)) (.z))) (.seq (.join [1, 3, 5, 119] (.z) (.cond (.seq (.z) (.z)) (.z))) (.seq (.join [1, 3, 5, 135] (.z) (.cond (.seq (.z) (.z)) (.z))) (.seq (.join [1, 3, 5, 165] (.z) (.cond (.seq (.z) (.z)) (.z))) (.seq (.join [1, 3, 5, 201] (.z) (.cond (.seq (.z) (.z)) (.z))) (.seq (.join [1, 3, 229] (.z) (.cond (.seq (.z) (.z)) (.z))) (.seq (.join [1, 3, 245] (.z) (.cond (.seq (.z) (.z)) (.z))) (.seq (.join [1, 253] (.z) (.cond (.seq (.z) (.z)) (.z))) (.seq (.seq (.z) (.blk (.loop [1, 6] (.seq (.seq (.z) (.cond (.z) (.z))) (.seq (.blk (.join [1, 6, 278] (.z) (.cond (.seq (.z) (.z)) (.z)))) (.z)))))) (.seq (.seq (.z) (.blk (.loop [1, 7] (.seq (.seq (.z) (.cond (.z) (.z))) (.seq (.blk (.join [1, 7, 312] (.z) (.cond (.seq (.z) (.z)) (.z)))) (.z)))))) (.seq (.seq (.z) (.blk (.loop [1, 8] (.seq (.seq (.z) (.cond (.z) (.z))) (.seq (.blk (.seq (.z) (.cond (.seq (.z) (.z)) (.z)))) (.z)))))) (.seq (.z) (.z)))))))))))))))))
def s89 [Amb] (v0 : Value) (K : Value → WT) : WT :=
 S.box 60 v0 fun v1 =>
 S.fad v1 0 fun v9 =>
 S.ld v9 fun v10 =>
 S.join 3 (fun K0 =>
 S.bin .lss v10 (I 1) fun v12 =>
 S.gd v12 false (fun k => k v10) fun v14 =>
 S.gd v12 false (S.bin .gtr v14 (I 9)) fun v15 =>
 S.pick v12 (B true) v15 fun v16 =>
 K0 v1 v10 v16)
 <| fun v1' v3 v16' => S.fa fun _ =>
 S.cond v16' (
 K (I 4)) (
 S.join 3 (fun K1 =>
 S.bin .eql v3 (I 1) fun v18 =>
 S.gd v18 false (fun k => k v3) fun v20 =>
 S.gd v18 false (S.bin .eql v20 (I 2)) fun v21 =>
 S.pick v18 (B true) v21 fun v22 =>
 K1 v1' v3 v22)
 <| fun v1'2 v3' v4 => S.fa fun _ =>
 S.join 4 (fun K2 =>
 S.bin .eql v3' (I 3) fun v24 =>
 S.gd v24 false (fun k => k v3') fun v26 =>
 S.gd v24 false (S.bin .eql v26 (I 4)) fun v27 =>
 S.pick v24 (B true) v27 fun v28 =>
 K2 v1'2 v3' v4 v28)
 <| fun v1'3 v3'2 v4' v5 => S.fa fun _ =>
 S.join 5 (fun K3 =>
 S.not1 v4' fun v30 =>
 S.gd v30 true (S.fad v1'3 1) fun v32 =>
 S.gd v30 true (S.ldN 3 v32) fun v33 =>
 S.gd v30 true (V Tryz.prog (Instr.build 57 #[])) fun v34 =>
 S.gd v30 true (S.eqv Tryz.prog .neq 57 false v33 v34) fun v35 =>
 S.pick v30 v35 (B false) fun v36 =>
 S.gd v36 false (fun k => k v3'2) fun v38 =>
 S.gd v36 false (CF Tryz.prog 120 [v38]) fun v39 =>
 S.gd v36 false (S.not1 v39) fun v40 =>
 S.gd v36 false (fun k => k v40) fun v41 =>
 S.gd v41 true (S.fad v1'3 4) fun v42 =>
 S.gd v41 true (S.ld v42) fun v43 =>
 S.gd v41 true (S.lenS v43) fun v44 =>
 S.gd v41 true (S.bin .gtr v44 (I 0)) fun v45 =>
 S.gd v36 false (S.pick v41 v45 (B false)) fun v46 =>
 S.pick v36 (B true) v46 fun v47 =>
 S.gd v47 false (fun k => k v5) fun v49 =>
 S.gd v47 false (S.not1 v49) fun v50 =>
 S.gd v47 false (fun k => k v50) fun v51 =>
 S.gd v51 true (S.fad v1'3 5) fun v52 =>
 S.gd v51 true (S.ld v52) fun v53 =>
 S.gd v51 true (S.bin .neq v53 (I 0)) fun v54 =>
 S.gd v47 false (S.pick v51 v54 (B false)) fun v55 =>
 S.pick v47 (B true) v55 fun v56 =>
 S.gd v56 false (fun k => k v3'2) fun v58 =>
 S.gd v56 false (CF Tryz.prog 121 [v58]) fun v59 =>
 S.gd v56 false (S.not1 v59) fun v60 =>
 S.gd v56 false (fun k => k v60) fun v61 =>
 S.gd v61 true (S.fad v1'3 6) fun v62 =>
 S.gd v61 true (S.ld v62) fun v63 =>
 S.gd v61 true (S.bin .neq v63 (I 0)) fun v64 =>
 S.gd v56 false (S.pick v61 v64 (B false)) fun v65 =>
 S.pick v56 (B true) v65 fun v66 =>
 S.gd v66 false (fun k => k v3'2) fun v68 =>
 S.gd v66 false (S.bin .neq v68 (I 3)) fun v69 =>
 S.gd v66 false (fun k => k v69) fun v70 =>
 S.gd v70 true (S.fad v1'3 7) fun v71 =>
 S.gd v70 true (S.ld v71) fun v72 =>
 S.gd v70 true (S.len v72) fun v73 =>
 S.gd v70 true (S.bin .gtr v73 (I 0)) fun v74 =>
 S.gd v66 false (S.pick v70 v74 (B false)) fun v75 =>
 S.pick v66 (B true) v75 fun v76 =>
 S.gd v76 false (fun k => k v3'2) fun v78 =>
 S.gd v76 false (S.bin .neq v78 (I 5)) fun v79 =>
 S.gd v76 false (fun k => k v79) fun v80 =>
 S.gd v80 true (S.fad v1'3 8) fun v81 =>
 S.gd v80 true (S.ld v81) fun v82 =>
 S.gd v80 true (S.len v82) fun v83 =>
 S.gd v80 true (S.bin .gtr v83 (I 0)) fun v84 =>
 S.gd v76 false (S.pick v80 v84 (B false)) fun v85 =>
 S.pick v76 (B true) v85 fun v86 =>
 S.gd v86 false (fun k => k v3'2) fun v88 =>
 S.gd v86 false (S.bin .neq v88 (I 7)) fun v89 =>
 S.gd v86 false (fun k => k v89) fun v90 =>
 S.gd v90 true (S.fad v1'3 9) fun v91 =>
 S.gd v90 true (S.ld v91) fun v92 =>
 S.gd v90 true (S.len v92) fun v93 =>
 S.gd v90 true (S.bin .gtr v93 (I 0)) fun v94 =>
 S.gd v86 false (S.pick v90 v94 (B false)) fun v95 =>
 S.pick v86 (B true) v95 fun v96 =>
 S.gd v96 false (fun k => k v3'2) fun v98 =>
 S.gd v96 false (S.bin .neq v98 (I 9)) fun v99 =>
 S.gd v96 false (fun k => k v99) fun v100 =>
 S.gd v100 true (S.fad v1'3 10) fun v101 =>
 S.gd v100 true (S.ldN 4 v101) fun v102 =>
 S.gd v100 true (V Tryz.prog (Instr.build 43 #[])) fun v103 =>
 S.gd v100 true (S.eqv Tryz.prog .neq 43 false v102 v103) fun v104 =>
 S.gd v96 false (S.pick v100 v104 (B false)) fun v105 =>
 S.pick v96 (B true) v105 fun v106 =>
 K3 v1'3 v3'2 v4' v5 v106)
 <| fun v1'4 v3'3 v4'2 v5' v106' => S.fa fun _ =>
 S.cond v106' (
 K (I 4)) (
 S.join 4 (fun K4 =>
 S.gd v4'2 true (S.fad v1'4 1) fun v109 =>
 S.gd v4'2 true (S.fad v109 0) fun v110 =>
 S.gd v4'2 true (S.ld v110) fun v111 =>
 S.gd v4'2 true (S.bin .lss v111 (I 0)) fun v112 =>
 S.gd v4'2 true (fun k => k v112) fun v113 =>
 S.gd v113 false (S.fad v1'4 1) fun v114 =>
 S.gd v113 false (S.fad v114 0) fun v115 =>
 S.gd v113 false (S.ld v115) fun v116 =>
 S.gd v113 false (S.bin .gtr v116 (I 4095)) fun v117 =>
 S.gd v4'2 true (S.pick v113 (B true) v117) fun v118 =>
 S.pick v4'2 v118 (B false) fun v119 =>
 K4 v1'4 v3'3 v5' v119)
 <| fun v1'5 v3'4 v5'2 v119' => S.fa fun _ =>
 S.cond v119' (
 K (I 2)) (
 S.join 4 (fun K5 =>
 S.bin .eql v3'4 (I 2) fun v121 =>
 S.gd v121 true (S.fad v1'5 1) fun v123 =>
 S.gd v121 true (S.fad v123 1) fun v124 =>
 S.gd v121 true (S.fad v124 0) fun v125 =>
 S.gd v121 true (S.ld v125) fun v126 =>
 S.gd v121 true (S.bin .neq v126 (I 0)) fun v127 =>
 S.gd v121 true (fun k => k v127) fun v128 =>
 S.gd v128 false (S.fad v1'5 1) fun v129 =>
 S.gd v128 false (S.fad v129 1) fun v130 =>
 S.gd v128 false (S.fad v130 1) fun v131 =>
 S.gd v128 false (S.ld v131) fun v132 =>
 S.gd v128 false (S.bin .neq v132 (I 0)) fun v133 =>
 S.gd v121 true (S.pick v128 (B true) v133) fun v134 =>
 S.pick v121 v134 (B false) fun v135 =>
 K5 v1'5 v3'4 v5'2 v135)
 <| fun v1'6 v3'5 v5'3 v135' => S.fa fun _ =>
 S.cond v135' (
 K (I 2)) (
 S.join 4 (fun K6 =>
 S.bin .eql v3'5 (I 1) fun v137 =>
 S.gd v137 true (S.fad v1'6 1) fun v139 =>
 S.gd v137 true (S.fad v139 1) fun v140 =>
 S.gd v137 true (S.fad v140 0) fun v141 =>
 S.gd v137 true (S.ld v141) fun v142 =>
 S.gd v137 true (S.bin .lss v142 (I 0)) fun v143 =>
 S.gd v137 true (fun k => k v143) fun v144 =>
 S.gd v144 false (S.fad v1'6 1) fun v145 =>
 S.gd v144 false (S.fad v145 1) fun v146 =>
 S.gd v144 false (S.fad v146 0) fun v147 =>
 S.gd v144 false (S.ld v147) fun v148 =>
 S.gd v144 false (S.bin .gtr v148 (I 4095)) fun v149 =>
 S.gd v137 true (S.pick v144 (B true) v149) fun v150 =>
 S.gd v137 true (fun k => k v150) fun v151 =>
 S.gd v151 false (S.fad v1'6 1) fun v152 =>
 S.gd v151 false (S.fad v152 1) fun v153 =>
 S.gd v151 false (S.fad v153 1) fun v154 =>
 S.gd v151 false (S.ld v154) fun v155 =>
 S.gd v151 false (S.bin .lss v155 (I 2)) fun v156 =>
 S.gd v137 true (S.pick v151 (B true) v156) fun v157 =>
 S.gd v137 true (fun k => k v157) fun v158 =>
 S.gd v158 false (S.fad v1'6 1) fun v159 =>
 S.gd v158 false (S.fad v159 1) fun v160 =>
 S.gd v158 false (S.fad v160 1) fun v161 =>
 S.gd v158 false (S.ld v161) fun v162 =>
 S.gd v158 false (S.bin .gtr v162 (I 64)) fun v163 =>
 S.gd v137 true (S.pick v158 (B true) v163) fun v164 =>
 S.pick v137 v164 (B false) fun v165 =>
 K6 v1'6 v3'5 v5'3 v165)
 <| fun v1'7 v3'6 v5'4 v165' => S.fa fun _ =>
 S.cond v165' (
 K (I 2)) (
 S.join 4 (fun K7 =>
 S.bin .eql v3'6 (I 9) fun v167 =>
 S.gd v167 true (S.fad v1'7 10) fun v169 =>
 S.gd v167 true (S.fad v169 0) fun v170 =>
 S.gd v167 true (S.ld v170) fun v171 =>
 S.gd v167 true (CF Tryz.prog 122 [v171]) fun v172 =>
 S.gd v167 true (S.not1 v172) fun v173 =>
 S.gd v167 true (fun k => k v173) fun v174 =>
 S.gd v174 false (S.fad v1'7 10) fun v175 =>
 S.gd v174 false (S.fad v175 1) fun v176 =>
 S.gd v174 false (S.ld v176) fun v177 =>
 S.gd v174 false (CF Tryz.prog 122 [v177]) fun v178 =>
 S.gd v174 false (S.not1 v178) fun v179 =>
 S.gd v167 true (S.pick v174 (B true) v179) fun v180 =>
 S.gd v167 true (fun k => k v180) fun v181 =>
 S.gd v181 false (S.fad v1'7 10) fun v182 =>
 S.gd v181 false (S.fad v182 2) fun v183 =>
 S.gd v181 false (S.ld v183) fun v184 =>
 S.gd v181 false (CF Tryz.prog 122 [v184]) fun v185 =>
 S.gd v181 false (S.not1 v185) fun v186 =>
 S.gd v167 true (S.pick v181 (B true) v186) fun v187 =>
 S.gd v167 true (fun k => k v187) fun v188 =>
 S.gd v188 false (S.fad v1'7 10) fun v189 =>
 S.gd v188 false (S.fad v189 2) fun v190 =>
 S.gd v188 false (S.ld v190) fun v191 =>
 S.gd v188 false (S.bin .lss v191 (I 1)) fun v192 =>
 S.gd v167 true (S.pick v188 (B true) v192) fun v193 =>
 S.gd v167 true (fun k => k v193) fun v194 =>
 S.gd v194 false (S.fad v1'7 10) fun v195 =>
 S.gd v194 false (S.fad v195 3) fun v196 =>
 S.gd v194 false (S.ld v196) fun v197 =>
 S.gd v194 false (CF Tryz.prog 122 [v197]) fun v198 =>
 S.gd v194 false (S.not1 v198) fun v199 =>
 S.gd v167 true (S.pick v194 (B true) v199) fun v200 =>
 S.pick v167 v200 (B false) fun v201 =>
 K7 v1'7 v3'6 v5'4 v201)
 <| fun v1'8 v3'7 v5'5 v201' => S.fa fun _ =>
 S.cond v201' (
 K (I 2)) (
 S.join 3 (fun K8 =>
 CF Tryz.prog 120 [v3'7] fun v203 =>
 S.gd v203 true (S.fad v1'8 4) fun v205 =>
 S.gd v203 true (S.ld v205) fun v206 =>
 S.gd v203 true (CF Tryz.prog 123 [v206]) fun v207 =>
 S.gd v203 true (S.not1 v207) fun v208 =>
 S.pick v203 v208 (B false) fun v209 =>
 S.gd v209 false (fun k => k v5'5) fun v211 =>
 S.gd v209 false (fun k => k v211) fun v212 =>
 S.gd v212 true (S.fad v1'8 5) fun v213 =>
 S.gd v212 true (S.ld v213) fun v214 =>
 S.gd v212 true (S.bin .lss v214 (I 1)) fun v215 =>
 S.gd v209 false (S.pick v212 v215 (B false)) fun v216 =>
 S.pick v209 (B true) v216 fun v217 =>
 S.gd v217 false (S.fad v1'8 5) fun v219 =>
 S.gd v217 false (S.ld v219) fun v220 =>
 S.gd v217 false (CF Tryz.prog 122 [v220]) fun v221 =>
 S.gd v217 false (S.not1 v221) fun v222 =>
 S.pick v217 (B true) v222 fun v223 =>
 S.gd v223 false (S.fad v1'8 6) fun v225 =>
 S.gd v223 false (S.ld v225) fun v226 =>
 S.gd v223 false (CF Tryz.prog 122 [v226]) fun v227 =>
 S.gd v223 false (S.not1 v227) fun v228 =>
 S.pick v223 (B true) v228 fun v229 =>
 K8 v1'8 v3'7 v229)
 <| fun v1'9 v3'8 v229' => S.fa fun _ =>
 S.cond v229' (
 K (I 2)) (
 S.join 3 (fun K9 =>
 S.fad v1'9 7 fun v230 =>
 S.ld v230 fun v231 =>
 S.len v231 fun v232 =>
 S.bin .gtr v232 (I 256) fun v233 =>
 S.gd v233 false (S.fad v1'9 8) fun v235 =>
 S.gd v233 false (S.ld v235) fun v236 =>
 S.gd v233 false (S.len v236) fun v237 =>
 S.gd v233 false (S.bin .gtr v237 (I 64)) fun v238 =>
 S.pick v233 (B true) v238 fun v239 =>
 S.gd v239 false (S.fad v1'9 9) fun v241 =>
 S.gd v239 false (S.ld v241) fun v242 =>
 S.gd v239 false (S.len v242) fun v243 =>
 S.gd v239 false (S.bin .gtr v243 (I 64)) fun v244 =>
 S.pick v239 (B true) v244 fun v245 =>
 K9 v1'9 v3'8 v245)
 <| fun v1'10 v3'9 v245' => S.fa fun _ =>
 S.cond v245' (
 K (I 6)) (
 S.join 2 (fun K10 =>
 S.bin .eql v3'9 (I 7) fun v247 =>
 S.gd v247 true (S.fad v1'10 9) fun v249 =>
 S.gd v247 true (S.ld v249) fun v250 =>
 S.gd v247 true (S.len v250) fun v251 =>
 S.gd v247 true (S.bin .eql v251 (I 0)) fun v252 =>
 S.pick v247 v252 (B false) fun v253 =>
 K10 v1'10 v253)
 <| fun v1'11 v253' => S.fa fun _ =>
 S.cond v253' (
 K (I 2)) (
 S.loop 2 (fun K11 => fun v1'12 v6 => S.fa fun _ =>
 S.fad v1'12 9 fun v255 =>
 S.ld v255 fun v256 =>
 S.len v256 fun v257 =>
 S.bin .lss v6 v257 fun v258 =>
 S.cond v258 (
 S.join 3 (fun K12 =>
 S.fad v1'12 9 fun v261 =>
 S.ld v261 fun v262 =>
 S.ixS 4 v262 v6 fun v264 =>
 S.fad v264 0 fun v265 =>
 S.ldN 2 v265 fun v266 =>
 CF Tryz.prog 124 [v266] fun v267 =>
 S.not1 v267 fun v268 =>
 S.gd v268 false (S.fad v1'12 9) fun v270 =>
 S.gd v268 false (S.ld v270) fun v271 =>
 S.gd v268 false (fun k => k v6) fun v272 =>
 S.gd v268 false (S.ixS 4 v271 v272) fun v273 =>
 S.gd v268 false (S.fad v273 2) fun v274 =>
 S.gd v268 false (S.ldN 2 v274) fun v275 =>
 S.gd v268 false (CF Tryz.prog 124 [v275]) fun v276 =>
 S.gd v268 false (S.not1 v276) fun v277 =>
 S.pick v268 (B true) v277 fun v278 =>
 K12 v1'12 v6 v278)
 <| fun v1'13 v6' v278' => S.fa fun _ =>
 S.cond v278' (
 K (I 2)) (
 S.bin .add v6' (I 1) fun v260 =>
 K11 v1'13 v260)) (
 S.loop 2 (fun K13 => fun v1'14 v7 => S.fa fun _ =>
 S.fad v1'14 8 fun v280 =>
 S.ld v280 fun v281 =>
 S.len v281 fun v282 =>
 S.bin .lss v7 v282 fun v283 =>
 S.cond v283 (
 S.join 3 (fun K14 =>
 S.fad v1'14 8 fun v286 =>
 S.ld v286 fun v287 =>
 S.ixS 2 v287 v7 fun v289 =>
 S.fad v289 0 fun v290 =>
 S.ld v290 fun v291 =>
 CF Tryz.prog 123 [v291] fun v292 =>
 S.not1 v292 fun v293 =>
 S.gd v293 false (S.fad v1'14 8) fun v295 =>
 S.gd v293 false (S.ld v295) fun v296 =>
 S.gd v293 false (fun k => k v7) fun v297 =>
 S.gd v293 false (S.ixS 2 v296 v297) fun v298 =>
 S.gd v293 false (S.fad v298 1) fun v299 =>
 S.gd v293 false (S.ld v299) fun v300 =>
 S.gd v293 false (S.bin .lss v300 (I 1)) fun v301 =>
 S.pick v293 (B true) v301 fun v302 =>
 S.gd v302 false (S.fad v1'14 8) fun v304 =>
 S.gd v302 false (S.ld v304) fun v305 =>
 S.gd v302 false (fun k => k v7) fun v306 =>
 S.gd v302 false (S.ixS 2 v305 v306) fun v307 =>
 S.gd v302 false (S.fad v307 1) fun v308 =>
 S.gd v302 false (S.ld v308) fun v309 =>
 S.gd v302 false (CF Tryz.prog 122 [v309]) fun v310 =>
 S.gd v302 false (S.not1 v310) fun v311 =>
 S.pick v302 (B true) v311 fun v312 =>
 K14 v1'14 v7 v312)
 <| fun v1'15 v7' v312' => S.fa fun _ =>
 S.cond v312' (
 K (I 2)) (
 S.bin .add v7' (I 1) fun v285 =>
 K13 v1'15 v285)) (
 S.loop 2 (fun K15 => fun v1'16 v8 => S.fa fun _ =>
 S.fad v1'16 7 fun v314 =>
 S.ld v314 fun v315 =>
 S.len v315 fun v316 =>
 S.bin .lss v8 v316 fun v317 =>
 S.cond v317 (
 S.fad v1'16 7 fun v320 =>
 S.ld v320 fun v321 =>
 S.ixS 35 v321 v8 fun v323 =>
 S.ldN 35 v323 fun v324 =>
 CF Tryz.prog 125 [v324] fun v325 =>
 S.not1 v325 fun v326 =>
 S.cond v326 (
 K (I 2)) (
 S.bin .add v8 (I 1) fun v319 =>
 K15 v1'16 v319)) (
 K (I 0)))
 [v1'14, (I 0)]))
 [v1'12, (I 0)]))
 [v1'11, (I 0)])))))))))
theorem e89 [Amb] (v0 : Value) (K : Value → WT) : s89 v0 K = shal Tryz.prog Tryz.f89 .p a89 [v0] K := by kernel_rfl
theorem c89 [Amb] {v0 : Value} {K : Value → WT} {w : World} (h : s89 v0 K w) : CF Tryz.prog 89 [v0] K w := shal_sound Tryz.func89 (e89 v0 K ▸ h)
def a90 : Ann := .seq (.z) (.seq (.z) (.seq (.z) (.z)))
def s90 [Amb] (b_0 h_1 : Value) (K : Value → WT) : WT :=
 S.box 53 h_1 fun h_3 =>
 S.ldN 2 h_3 fun v9 =>
 CF Tryz.prog 48 [b_0, v9] fun v10 =>
 S.ext v10 0 fun v11 =>
 S.ext v10 1 fun v12 =>
 S.bin .geq v11 (I 0) fun v14 =>
 S.gd v14 true (fun k => k b_0) fun v16 =>
 S.gd v14 true (S.nc v16) fun v17 =>
 S.gd v14 true (S.fad v17 0) fun v18 =>
 S.gd v14 true (S.ld v18) fun v19 =>
 S.gd v14 true (fun k => k v11) fun v20 =>
 S.gd v14 true (S.ixS 2 v19 v20) fun v21 =>
 S.gd v14 true (S.fad v21 1) fun v22 =>
 S.gd v14 true (S.ld v22) fun v23 =>
 S.gd v14 true (fun k => k v12) fun v24 =>
 S.gd v14 true (S.ixS 4 v23 v24) fun v25 =>
 S.gd v14 true (S.fad v25 3) fun v26 =>
 S.gd v14 true (S.ld v26) fun v27 =>
 S.gd v14 true (S.not1 v27) fun v28 =>
 S.pick v14 v28 (B false) fun v29 =>
 K v29
theorem e90 [Amb] (b_0 h_1 : Value) (K : Value → WT) : s90 b_0 h_1 K = shal Tryz.prog Tryz.f90 .p a90 [b_0, h_1] K := by kernel_rfl
theorem c90 [Amb] {b_0 h_1 : Value} {K : Value → WT} {w : World} (h : s90 b_0 h_1 K w) : CF Tryz.prog 90 [b_0, h_1] K w := shal_sound Tryz.func90 (e90 b_0 h_1 K ▸ h)
def a91 : Ann := .seq (.z) (.seq (.seq (.z) (.blk (.loop [0, 1, 7, 8] (.seq (.z) (.seq (.cond (.z) (.z)) (.seq (.blk (.seq (.z) (.seq (.z) (.cond (.seq (.z) (.z)) (.z))))) (.z))))))) (.seq (.z) (.z)))
def s91 [Amb] (s_0 f_1 : Value) (K : Value → WT) : WT :=
 S.len s_0 fun v7 =>
 S.loop 4 (fun K0 => fun s_0' f_1' v7' v8 => S.fa fun _ =>
 S.bin .lss v8 v7' fun v9 =>
 S.cond v9 (
 S.ixS 4 s_0' v8 fun v14 =>
 S.ldN 4 v14 fun v15 =>
 S.cvv Tryz.prog f_1' [v15] fun v16 =>
 S.cond v16 (
 K v8) (
 S.bin .add v8 (I 1) fun v18 =>
 K0 s_0' f_1' v7' v18)) (
 K (I (-1))))
 [s_0, f_1, v7, (I 0)]
theorem e91 [Amb] (s_0 f_1 : Value) (K : Value → WT) : s91 s_0 f_1 K = shal Tryz.prog Tryz.f91 .p a91 [s_0, f_1] K := by kernel_rfl
theorem c91 [Amb] {s_0 f_1 : Value} {K : Value → WT} {w : World} (h : s91 s_0 f_1 K w) : CF Tryz.prog 91 [s_0, f_1] K w := shal_sound Tryz.func91 (e91 s_0 f_1 K ▸ h)
def a92 : Ann := .seq (.z) (.seq (.z) (.z))
def s92 [Amb] (v_0 v1 : Value) (K : Value → WT) : WT :=
 S.box 31 v_0 fun v_2 =>
 S.fad v_2 0 fun v4 =>
 S.ld v4 fun v5 =>
 S.fad v1 1 fun v6 =>
 S.ld v6 fun v7 =>
 S.bin .eql v5 v7 fun v8 =>
 K v8
theorem e92 [Amb] (v_0 v1 : Value) (K : Value → WT) : s92 v_0 v1 K = shal Tryz.prog Tryz.f92 .p a92 [v_0, v1] K := by kernel_rfl
theorem c92 [Amb] {v_0 v1 : Value} {K : Value → WT} {w : World} (h : s92 v_0 v1 K w) : CF Tryz.prog 92 [v_0, v1] K w := shal_sound Tryz.func92 (e92 v_0 v1 K ▸ h)
def a93 : Ann := .seq (.z) (.seq (.z) (.z))
def s93 [Amb] (m_0 : Value) (K : Value → WT) : WT :=
 S.box 78 m_0 fun m_1 =>
 K (.func (Go.Fn.func 126) #[] #[m_1])
theorem e93 [Amb] (m_0 : Value) (K : Value → WT) : s93 m_0 K = shal Tryz.prog Tryz.f93 .p a93 [m_0] K := by kernel_rfl
theorem c93 [Amb] {m_0 : Value} {K : Value → WT} {w : World} (h : s93 m_0 K w) : CF Tryz.prog 93 [m_0] K w := shal_sound Tryz.func93 (e93 m_0 K ▸ h)
def a94 : Ann := .seq (.z) (.seq (.z) (.z))
def s94 [Amb] (time_0 step_1 : Value) (K : Value → WT) : WT :=
 S.bin .quo time_0 step_1 fun v7 =>
 K v7
theorem e94 [Amb] (time_0 step_1 : Value) (K : Value → WT) : s94 time_0 step_1 K = shal Tryz.prog Tryz.f94 .p a94 [time_0, step_1] K := by kernel_rfl
theorem c94 [Amb] {time_0 step_1 : Value} {K : Value → WT} {w : World} (h : s94 time_0 step_1 K w) : CF Tryz.prog 94 [time_0, step_1] K w := shal_sound Tryz.func94 (e94 time_0 step_1 K ▸ h)
def a95 : Ann := .seq (.z) (.seq (.z) (.z))
def s95 [Amb] (s_0 f_1 : Value) (K : Value → WT) : WT :=
 CF Tryz.prog 91 [s_0, f_1] fun v7 =>
 S.bin .geq v7 (I 0) fun v8 =>
 K v8
theorem e95 [Amb] (s_0 f_1 : Value) (K : Value → WT) : s95 s_0 f_1 K = shal Tryz.prog Tryz.f95 .p a95 [s_0, f_1] K := by kernel_rfl
theorem c95 [Amb] {s_0 f_1 : Value} {K : Value → WT} {w : World} (h : s95 s_0 f_1 K w) : CF Tryz.prog 95 [s_0, f_1] K w := shal_sound Tryz.func95 (e95 s_0 f_1 K ▸ h)
def a96 : Ann := .seq (.z) (.seq (.draw [0, 1, 2, 3, 5, 4, 6, 7]) (.z))
def s96 [Amb] (v_0 v1 v2 : Value) (K : Value → WT) : WT :=
 S.box 31 v_0 fun v_3 =>
 S.dr <|
 S.fad v_3 1 fun v5 =>
 S.ld v5 fun v6 =>
 S.fad v1 2 fun v7 =>
 S.ld v7 fun v8 =>
 S.ld v2 fun v10 =>
 CF Tryz.prog 94 [v6, v8] fun v9 =>
 S.rck [S.ld v2 (fun v' _ => v' = v10)] <|
 S.bin .eql v9 v10 fun v11 =>
 K v11
theorem e96 [Amb] (v_0 v1 v2 : Value) (K : Value → WT) : s96 v_0 v1 v2 K = shal Tryz.prog Tryz.f96 .p a96 [v_0, v1, v2] K := by kernel_rfl
theorem c96 [Amb] {v_0 v1 v2 : Value} {K : Value → WT} {w : World} (h : s96 v_0 v1 v2 K w) : CF Tryz.prog 96 [v_0, v1, v2] K w := shal_sound Tryz.func96 (e96 v_0 v1 v2 K ▸ h)
def a97 : Ann := .seq (.z) (.seq (.z) (.z))
def s97 [Amb] (s_0 v_1 : Value) (K : Value → WT) : WT :=
 CF Tryz.prog 127 [s_0, v_1] fun v7 =>
 S.bin .geq v7 (I 0) fun v8 =>
 K v8
theorem e97 [Amb] (s_0 v_1 : Value) (K : Value → WT) : s97 s_0 v_1 K = shal Tryz.prog Tryz.f97 .p a97 [s_0, v_1] K := by kernel_rfl
theorem c97 [Amb] {s_0 v_1 : Value} {K : Value → WT} {w : World} (h : s97 s_0 v_1 K w) : CF Tryz.prog 97 [s_0, v_1] K w := shal_sound Tryz.func97 (e97 s_0 v_1 K ▸ h)
def a98 : Ann := .seq (.z) (.seq (.z) (.seq (.seq (.z) (.blk (.rf [] (.z) (.blk (.draw [0, 1, 2, 3, 4, 5, 6, 7, 8]))))) (.seq (.z) (.seq (.z) (.seq (.z) (.z))))))
def s98 (l_0 k_1 : Value) (K : Value → WT) : WT :=
 S.box 43 k_1 fun k_3 =>
 S.box 141 (.slice none 0 0) fun out_5 =>
 CF Tryz.prog 128 [l_0] fun v9 =>
 S.rf Tryz.prog v9 undef 2 (fun l0 go0 Z0 => fun v10 v11 =>
 S.box 31 (.agg #[(.int .i64 0), (.int .i64 0), (.slice none 0 0), (.bool false)]) fun v_7 =>
 S.st 4 v_7 v11 fun _ =>
 go0 <|
 S.dr <|
 S.ld out_5 fun v12 =>
 S.fad v_7 1 fun v13 =>
 S.ld v13 fun v14 =>
 S.fad k_3 2 fun v15 =>
 S.ld v15 fun v16 =>
 CF Tryz.prog 94 [v14, v16] fun v17 =>
 S.rck [S.ld out_5 (fun v' _ => v' = v12)] <|
 V Tryz.prog (Instr.buildSlice 141 1 #[(0, v17)]) fun v18 =>
 S.rck [S.ld out_5 (fun v' _ => v' = v12)] <|
 V Tryz.prog (Builtin.append_ #[141, 141] 141 #[v12, v18]) fun v19 =>
 S.st 1 out_5 v19 fun _ =>
 Z0 .nrm)
 (fun m1 =>
 S.ld out_5 fun v20 =>
 CF Tryz.prog 129 [v20] fun v21 =>
 S.ld out_5 fun v22 =>
 CF Tryz.prog 130 [v22] fun v23 =>
 S.st 1 out_5 v23 fun _ =>
 S.ld out_5 fun v24 =>
 S.ld out_5 fun v25 =>
 S.len v25 fun v26 =>
 S.fad k_3 3 fun v27 =>
 S.ld v27 fun v28 =>
 S.bin .sub v26 v28 fun v29 =>
 S.mx (I 0) v29 fun v30 =>
 S.slc 1 v24 (some v30) none none fun v31 =>
 S.done m1 <|
 K v31)
 (fun m2 =>
 S.done m2 <|
 K (.slice none 0 0))
 [
 ]
theorem e98 (l_0 k_1 : Value) (K : Value → WT) : s98 l_0 k_1 K = shal Tryz.prog Tryz.f98 .m a98 [l_0, k_1] K := by kernel_rfl
theorem c98 {l_0 k_1 : Value} {K : Value → WT} {w : World} (h : s98 l_0 k_1 K w) : CF Tryz.prog 98 [l_0, k_1] K w := shal_sound Tryz.func98 (e98 l_0 k_1 K ▸ h)
def a99 : Ann := .seq (.z) (.seq (.z) (.z))
def s99 [Amb] (v_0 v1 v2 : Value) (K : Value → WT) : WT :=
 S.box 31 v_0 fun v_3 =>
 S.fad v_3 3 fun v5 =>
 S.ld v5 fun v6 =>
 S.gd v6 true (S.ld v1) fun v8 =>
 S.gd v6 true (S.ld v2) fun v9 =>
 S.gd v6 true (S.fad v_3 0) fun v10 =>
 S.gd v6 true (S.ld v10) fun v11 =>
 S.gd v6 true (V Tryz.prog (Instr.build 53 #[(0, v9), (1, v11)])) fun v12 =>
 S.gd v6 true (CF Tryz.prog 100 [v8, v12]) fun v13 =>
 S.gd v6 true (S.not1 v13) fun v14 =>
 S.pick v6 v14 (B false) fun v15 =>
 K v15
theorem e99 [Amb] (v_0 v1 v2 : Value) (K : Value → WT) : s99 v_0 v1 v2 K = shal Tryz.prog Tryz.f99 .p a99 [v_0, v1, v2] K := by kernel_rfl
theorem c99 [Amb] {v_0 v1 v2 : Value} {K : Value → WT} {w : World} (h : s99 v_0 v1 v2 K w) : CF Tryz.prog 99 [v_0, v1, v2] K w := shal_sound Tryz.func99 (e99 v_0 v1 v2 K ▸ h)
def a100 : Ann := .seq (.z) (.seq (.seq (.z) (.blk (.loop [3, 11] (.seq (.z) (.seq (.cond (.z) (.z)) (.blk (.seq (.z) (.seq (.z) (.cond (.seq (.z) (.z)) (.z)))))))))) (.seq (.z) (.z)))
def s100 [Amb] (b_0 h_1 : Value) (K : Value → WT) : WT :=
 S.box 53 h_1 fun h_3 =>
 S.nc b_0 fun v8 =>
 S.fad v8 1 fun v9 =>
 S.ld v9 fun v10 =>
 V Tryz.prog (Instr.range 79 v10) fun v11 =>
 S.loop 2 (fun K0 => fun h_3' v11' => S.fa fun _ =>
 V Tryz.prog (Instr.next v11' false 0) fun v12 =>
 S.ext v12 0 fun v13 =>
 S.cond v13 (
 V Tryz.prog (Instr.entry v11') fun v14 =>
 S.ext v14 1 fun v15 =>
 S.box 90 (.agg #[(.string ⟨#[]⟩), (.int .i64 0), (.slice none 0 0)]) fun s_6 =>
 S.st 3 s_6 v15 fun _ =>
 S.fad s_6 2 fun v16 =>
 S.ld v16 fun v17 =>
 S.ldN 2 h_3' fun v18 =>
 CF Tryz.prog 131 [v17, v18] fun v19 =>
 S.cond v19 (
 K (B true)) (
 K0 h_3' v11')) (
 K (B false)))
 [h_3, v11]
theorem e100 [Amb] (b_0 h_1 : Value) (K : Value → WT) : s100 b_0 h_1 K = shal Tryz.prog Tryz.f100 .p a100 [b_0, h_1] K := by kernel_rfl
theorem c100 [Amb] {b_0 h_1 : Value} {K : Value → WT} {w : World} (h : s100 b_0 h_1 K w) : CF Tryz.prog 100 [b_0, h_1] K w := shal_sound Tryz.func100 (e100 b_0 h_1 K ▸ h)
def a101 : Ann := .seq (.z) (.seq (.z) (.seq (.z) (.seq (.seq (.z) (.blk (.loop [6, 7, 8, 20, 21, 22] (.seq (.z) (.seq (.cond (.z) (.z)) (.join [6, 7, 8, 20, 21, 22] (.blk (.seq (.z) (.seq (.z) (.seq (.z) (.cond (.z) (.z)))))) (.z))))))) (.seq (.seq (.z) (.blk (.loop [6, 7, 8, 41, 42, 43] (.seq (.z) (.seq (.cond (.z) (.z)) (.join [6, 7, 8, 41, 42, 43] (.blk (.seq (.z) (.seq (.z) (.seq (.z) (.cond (.seq (.draw [0, 1, 2, 3, 4, 5, 6, 7, 8, 9, 10, 11, 12, 13]) (.z)) (.z)))))) (.z))))))) (.seq (.z) (.z))))))
def s101 [Amb] (v0 v1 : Value) (K : Value → WT) : WT :=
 CF Tryz.prog 71 [v0] fun v18 =>
 S.mkM fun v19 =>
 S.len v1 fun v21 =>
 S.loop 6 (fun K0 => fun v6 v7 v8 v20 v21' v22 => S.fa fun _ =>
 S.bin .lss v22 v21' fun v23 =>
 S.cond v23 (
 S.join 6 (fun K1 =>
 S.ixS 4 v20 v22 fun v24 =>
 S.ldN 4 v24 fun v25 =>
 S.box 147 (.agg #[(.int .i64 0), (.int .i64 0), (.int .i64 0), (.int .i64 0)]) fun v10 =>
 S.st 4 v10 v25 fun _ =>
 S.fad v10 0 fun v28 =>
 S.ldN 2 v28 fun v29 =>
 V Tryz.prog (Instr.lookup 171 v8 v29 true) fun v30 =>
 S.ext v30 0 fun v31 =>
 S.ext v30 1 fun v32 =>
 S.box 116 (.agg #[(.int .i64 0), (.int .i64 0)]) fun v11 =>
 S.st 2 v11 v31 fun _ =>
 S.not1 v32 fun v34 =>
 S.cond v34 (
 S.fad v10 0 fun v36 =>
 S.ldN 2 v36 fun v37 =>
 S.fad v10 2 fun v38 =>
 S.ldN 2 v38 fun v39 =>
 U Tryz.prog (Instr.mapUpdate 171 v8 v37 v39) fun _ =>
 K1 v6 v7 v8 v20 v21' v22) (
 K1 v6 v7 v8 v20 v21' v22))
 <| fun v6' v7' v8' v20' v21'2 v22' => S.fa fun _ =>
 S.bin .add v22' (I 1) fun v40 =>
 K0 v6' v7' v8' v20' v21'2 v40) (
 S.len v6 fun v42 =>
 S.loop 6 (fun K2 => fun v6'2 v7'2 v8'2 v41 v42' v43 => S.fa fun _ =>
 S.bin .lss v43 v42' fun v44 =>
 S.cond v44 (
 S.join 6 (fun K3 =>
 S.ixS 35 v41 v43 fun v46 =>
 S.ldN 35 v46 fun v47 =>
 S.box 38 (.agg #[(.int .u8 0), (.int .u8 0), (.int .u8 0), (.int .u8 0), (.int .u8 0), (.int .u8 0), (.int .u8 0), (.int .u8 0), (.int .u8 0), (.int .u8 0), (.int .u8 0), (.int .u8 0), (.int .u8 0), (.int .u8 0), (.int .u8 0), (.int .u8 0), (.int .u8 0), (.int .u8 0), (.int .u8 0), (.int .u8 0), (.int .u8 0), (.int .u8 0), (.int .u8 0), (.int .u8 0), (.int .u8 0), (.int .u8 0), (.int .u8 0), (.int .u8 0), (.int .u8 0), (.int .u8 0), (.int .u8 0), (.int .u8 0), (.int .i64 0), (.int .i64 0), (.int .i64 0)]) fun v14 =>
 S.st 35 v14 v47 fun _ =>
 S.fad v14 33 fun v50 =>
 S.ld v50 fun v51 =>
 S.fad v14 34 fun v52 =>
 S.ld v52 fun v53 =>
 V Tryz.prog (Instr.build 116 #[(0, v51), (1, v53)]) fun v54 =>
 V Tryz.prog (Instr.lookup 171 v8'2 v54 true) fun v55 =>
 S.ext v55 0 fun v56 =>
 S.ext v55 1 fun v57 =>
 S.box 116 (.agg #[(.int .i64 0), (.int .i64 0)]) fun v15 =>
 S.st 2 v15 v56 fun _ =>
 S.cond v57 (
 S.dr <|
 S.fad v15 0 fun v63 =>
 S.ld v63 fun v64 =>
 S.fad v15 1 fun v65 =>
 S.ld v65 fun v66 =>
 S.ixS 35 v6'2 v43 fun v67 =>
 S.fad v67 33 fun v68 =>
 S.st 1 v68 v64 fun _ =>
 S.rck [S.ld v65 (fun v' _ => v' = v66)] <|
 S.ixS 35 v6'2 v43 fun v69 =>
 S.fad v69 34 fun v70 =>
 S.st 1 v70 v66 fun _ =>
 S.bin .add v7'2 (I 1) fun v72 =>
 K3 v6'2 v72 v8'2 v41 v42' v43) (
 K3 v6'2 v7'2 v8'2 v41 v42' v43))
 <| fun v6'3 v7'3 v8'3 v41' v42'2 v43' => S.fa fun _ =>
 S.bin .add v43' (I 1) fun v73 =>
 K2 v6'3 v7'3 v8'3 v41' v42'2 v73) (
 K (.tuple #[v6'2, v7'2])))
 [v6, v7, v8, v6, v42, (I 0)]))
 [v18, (I 0), v19, v1, v21, (I 0)]
theorem e101 [Amb] (v0 v1 : Value) (K : Value → WT) : s101 v0 v1 K = shal Tryz.prog Tryz.f101 .p a101 [v0, v1] K := by kernel_rfl
theorem c101 [Amb] {v0 v1 : Value} {K : Value → WT} {w : World} (h : s101 v0 v1 K w) : CF Tryz.prog 101 [v0, v1] K w := shal_sound Tryz.func101 (e101 v0 v1 K ▸ h)
def a104 : Ann := .seq (.z) (.seq (.z) (.z))
def s104 [Amb] (a_0 b_1 : Value) (K : Value → WT) : WT :=
 S.box 116 a_0 fun a_2 =>
 S.box 116 b_1 fun b_3 =>
 S.fad a_2 0 fun v5 =>
 S.ld v5 fun v6 =>
 S.fad b_3 0 fun v7 =>
 S.ld v7 fun v8 =>
 S.bin .lss v6 v8 fun v9 =>
 S.gd v9 false (S.fad a_2 0) fun v11 =>
 S.gd v9 false (S.ld v11) fun v12 =>
 S.gd v9 false (S.fad b_3 0) fun v13 =>
 S.gd v9 false (S.ld v13) fun v14 =>
 S.gd v9 false (S.bin .eql v12 v14) fun v15 =>
 S.gd v9 false (fun k => k v15) fun v16 =>
 S.gd v16 true (S.fad a_2 1) fun v17 =>
 S.gd v16 true (S.ld v17) fun v18 =>
 S.gd v16 true (S.fad b_3 1) fun v19 =>
 S.gd v16 true (S.ld v19) fun v20 =>
 S.gd v16 true (S.bin .lss v18 v20) fun v21 =>
 S.gd v9 false (S.pick v16 v21 (B false)) fun v22 =>
 S.pick v9 (B true) v22 fun v23 =>
 K v23
theorem e104 [Amb] (a_0 b_1 : Value) (K : Value → WT) : s104 a_0 b_1 K = shal Tryz.prog Tryz.f104 .p a104 [a_0, b_1] K := by kernel_rfl
theorem c104 [Amb] {a_0 b_1 : Value} {K : Value → WT} {w : World} (h : s104 a_0 b_1 K w) : CF Tryz.prog 104 [a_0, b_1] K w := shal_sound Tryz.func104 (e104 a_0 b_1 K ▸ h)
def a106 : Ann := .seq (.z) (.seq (.z) (.seq (.z) (.z)))
def s106 [Amb] (k_0 : Value) (K : Value → WT) : WT :=
 S.box 51 k_0 fun k_1 =>
 S.box 150 (.agg #[(.bool false), (.bool false), (.bool false), (.bool false), (.bool false), (.bool false), (.bool false), (.bool false)]) fun v2 =>
 V Tryz.prog (Instr.buildSlice 175 2 #[(0, (I 1)), (1, (I 2))]) fun v6 =>
 S.cvv Tryz.prog (.func (Go.Fn.func 134) #[] #[k_1]) [v6] fun v7 =>
 V Tryz.prog (Instr.buildSlice 175 4 #[(0, (I 3)), (1, (I 4)), (2, (I 5)), (3, (I 6))]) fun v9 =>
 S.cvv Tryz.prog (.func (Go.Fn.func 134) #[] #[k_1]) [v9] fun v10 =>
 V Tryz.prog (Instr.buildSlice 175 2 #[(0, (I 3)), (1, (I 4))]) fun v12 =>
 S.cvv Tryz.prog (.func (Go.Fn.func 134) #[] #[k_1]) [v12] fun v13 =>
 V Tryz.prog (Instr.buildSlice 175 3 #[(0, (I 3)), (1, (I 5)), (2, (I 8))]) fun v15 =>
 S.cvv Tryz.prog (.func (Go.Fn.func 134) #[] #[k_1]) [v15] fun v16 =>
 V Tryz.prog (Instr.buildSlice 175 1 #[(0, (I 3))]) fun v18 =>
 S.cvv Tryz.prog (.func (Go.Fn.func 134) #[] #[k_1]) [v18] fun v19 =>
 V Tryz.prog (Instr.buildSlice 175 1 #[(0, (I 5))]) fun v21 =>
 S.cvv Tryz.prog (.func (Go.Fn.func 134) #[] #[k_1]) [v21] fun v22 =>
 V Tryz.prog (Instr.buildSlice 175 1 #[(0, (I 7))]) fun v24 =>
 S.cvv Tryz.prog (.func (Go.Fn.func 134) #[] #[k_1]) [v24] fun v25 =>
 V Tryz.prog (Instr.buildSlice 175 1 #[(0, (I 9))]) fun v27 =>
 S.cvv Tryz.prog (.func (Go.Fn.func 134) #[] #[k_1]) [v27] fun v28 =>
 V Tryz.prog (Instr.build 150 #[(0, v7), (1, v10), (2, v13), (3, v16), (4, v19), (5, v22), (6, v25), (7, v28)]) fun v29 =>
 S.st 8 v2 v29 fun _ =>
 S.ldN 8 v2 fun v2' =>
 K v2'
theorem e106 [Amb] (k_0 : Value) (K : Value → WT) : s106 k_0 K = shal Tryz.prog Tryz.f106 .p a106 [k_0] K := by kernel_rfl
theorem c106 [Amb] {k_0 : Value} {K : Value → WT} {w : World} (h : s106 k_0 K w) : CF Tryz.prog 106 [k_0] K w := shal_sound Tryz.func106 (e106 k_0 K ▸ h)
def a107 : Ann := .seq (.z) (.seq (.z) (.z))
def s107 [Amb] (v0 v1 : Value) (K : Value → WT) : WT :=
 S.box 60 v0 fun v2 =>
 S.box 150 v1 fun v3 =>
 S.fad v3 0 fun v5 =>
 S.ld v5 fun v6 =>
 S.gd v6 false (S.fad v2 1) fun v8 =>
 S.gd v6 false (S.ldN 3 v8) fun v9 =>
 S.gd v6 false (V Tryz.prog (Instr.build 57 #[])) fun v10 =>
 S.gd v6 false (S.eqv Tryz.prog .eql 57 false v9 v10) fun v11 =>
 S.pick v6 (B true) v11 fun v12 =>
 S.gd v12 true (S.fad v3 1) fun v14 =>
 S.gd v12 true (S.ld v14) fun v15 =>
 S.gd v12 true (fun k => k v15) fun v16 =>
 S.gd v16 false (S.fad v2 4) fun v17 =>
 S.gd v16 false (S.ld v17) fun v18 =>
 S.gd v16 false (S.sbin .eql v18 (.string ⟨#[]⟩)) fun v19 =>
 S.gd v12 true (S.pick v16 (B true) v19) fun v20 =>
 S.pick v12 v20 (B false) fun v21 =>
 S.gd v21 true (S.fad v3 2) fun v23 =>
 S.gd v21 true (S.ld v23) fun v24 =>
 S.gd v21 true (fun k => k v24) fun v25 =>
 S.gd v25 false (S.fad v2 5) fun v26 =>
 S.gd v25 false (S.ld v26) fun v27 =>
 S.gd v25 false (S.bin .eql v27 (I 0)) fun v28 =>
 S.gd v21 true (S.pick v25 (B true) v28) fun v29 =>
 S.pick v21 v29 (B false) fun v30 =>
 S.gd v30 true (S.fad v3 3) fun v32 =>
 S.gd v30 true (S.ld v32) fun v33 =>
 S.gd v30 true (fun k => k v33) fun v34 =>
 S.gd v34 false (S.fad v2 6) fun v35 =>
 S.gd v34 false (S.ld v35) fun v36 =>
 S.gd v34 false (S.bin .eql v36 (I 0)) fun v37 =>
 S.gd v30 true (S.pick v34 (B true) v37) fun v38 =>
 S.pick v30 v38 (B false) fun v39 =>
 S.gd v39 true (S.fad v3 4) fun v41 =>
 S.gd v39 true (S.ld v41) fun v42 =>
 S.gd v39 true (fun k => k v42) fun v43 =>
 S.gd v43 false (S.fad v2 7) fun v44 =>
 S.gd v43 false (S.ld v44) fun v45 =>
 S.gd v43 false (S.len v45) fun v46 =>
 S.gd v43 false (S.bin .eql v46 (I 0)) fun v47 =>
 S.gd v39 true (S.pick v43 (B true) v47) fun v48 =>
 S.pick v39 v48 (B false) fun v49 =>
 S.gd v49 true (S.fad v3 5) fun v51 =>
 S.gd v49 true (S.ld v51) fun v52 =>
 S.gd v49 true (fun k => k v52) fun v53 =>
 S.gd v53 false (S.fad v2 8) fun v54 =>
 S.gd v53 false (S.ld v54) fun v55 =>
 S.gd v53 false (S.len v55) fun v56 =>
 S.gd v53 false (S.bin .eql v56 (I 0)) fun v57 =>
 S.gd v49 true (S.pick v53 (B true) v57) fun v58 =>
 S.pick v49 v58 (B false) fun v59 =>
 S.gd v59 true (S.fad v3 6) fun v61 =>
 S.gd v59 true (S.ld v61) fun v62 =>
 S.gd v59 true (fun k => k v62) fun v63 =>
 S.gd v63 false (S.fad v2 9) fun v64 =>
 S.gd v63 false (S.ld v64) fun v65 =>
 S.gd v63 false (S.len v65) fun v66 =>
 S.gd v63 false (S.bin .eql v66 (I 0)) fun v67 =>
 S.gd v59 true (S.pick v63 (B true) v67) fun v68 =>
 S.pick v59 v68 (B false) fun v69 =>
 S.gd v69 true (S.fad v3 7) fun v71 =>
 S.gd v69 true (S.ld v71) fun v72 =>
 S.gd v69 true (fun k => k v72) fun v73 =>
 S.gd v73 false (S.fad v2 10) fun v74 =>
 S.gd v73 false (S.ldN 4 v74) fun v75 =>
 S.gd v73 false (V Tryz.prog (Instr.build 43 #[])) fun v76 =>
 S.gd v73 false (S.eqv Tryz.prog .eql 43 false v75 v76) fun v77 =>
 S.gd v69 true (S.pick v73 (B true) v77) fun v78 =>
 S.pick v69 v78 (B false) fun v79 =>
 K v79
theorem e107 [Amb] (v0 v1 : Value) (K : Value → WT) : s107 v0 v1 K = shal Tryz.prog Tryz.f107 .p a107 [v0, v1] K := by kernel_rfl
theorem c107 [Amb] {v0 v1 : Value} {K : Value → WT} {w : World} (h : s107 v0 v1 K w) : CF Tryz.prog 107 [v0, v1] K w := shal_sound Tryz.func107 (e107 v0 v1 K ▸ h)
def a108 : Ann := .seq (.z) (.seq (.z) (.seq (.blk (.join [2, 3, 5, 9] (.join [2, 3, 5, 9] (.z) (.cond (.z) (.z))) (.cond (.seq (.z) (.z)) (.join [2, 3, 27] (.z) (.cond (.seq (.z) (.z)) (.join [51] (.join [2, 3, 51] (.z) (.cond (.z) (.join [2, 3, 51] (.z) (.cond (.z) (.join [2, 51] (.z) (.cond (.z) (.seq (.z) (.cond (.z) (.z))))))))) (.cond (.seq (.z) (.z)) (.z)))))))) (.seq (.z) (.z))))
def s108 [Amb] (v0 v1 : Value) (K : Value → WT) : WT :=
 S.box 60 v0 fun v2 =>
 S.box 150 v1 fun v3 =>
 S.fad v2 1 fun v6 =>
 S.fad v6 1 fun v7 =>
 S.ldN 2 v7 fun v8 =>
 S.box 55 (.agg #[(.int .i64 0), (.int .i64 0)]) fun v5 =>
 S.st 2 v5 v8 fun _ =>
 S.join 4 (fun K0 =>
 S.join 4 (fun K1 =>
 S.fad v3 0 fun v10 =>
 S.ld v10 fun v11 =>
 S.gd v11 true (S.fad v2 1) fun v13 =>
 S.gd v11 true (S.fad v13 0) fun v14 =>
 S.gd v11 true (S.ld v14) fun v15 =>
 S.gd v11 true (CF Tryz.prog 136 [v15]) fun v16 =>
 S.gd v11 true (S.not1 v16) fun v17 =>
 S.pick v11 v17 (B false) fun v18 =>
 K1 v2 v3 v5 v18)
 <| fun v2' v3' v5' v9 => S.fa fun _ =>
 S.cond v9 (
 K0 v2' v3' v5' v9) (
 S.fad v2' 0 fun v19 =>
 S.ld v19 fun v20 =>
 S.bin .eql v20 (I 2) fun v21 =>
 S.gd v21 true (S.ldN 2 v5') fun v23 =>
 S.gd v21 true (V Tryz.prog (Instr.build 55 #[])) fun v24 =>
 S.gd v21 true (S.eqv Tryz.prog .neq 55 false v23 v24) fun v25 =>
 S.pick v21 v25 (B false) fun v26 =>
 K0 v2' v3' v5' v26))
 <| fun v2'2 v3'2 v5'2 v9' => S.fa fun _ =>
 S.cond v9' (
 K (B false)) (
 S.join 3 (fun K2 =>
 S.fad v2'2 0 fun v28 =>
 S.ld v28 fun v29 =>
 S.bin .eql v29 (I 1) fun v30 =>
 S.gd v30 true (S.fad v5'2 0) fun v32 =>
 S.gd v30 true (S.ld v32) fun v33 =>
 S.gd v30 true (S.bin .lss v33 (I 0)) fun v34 =>
 S.gd v30 true (fun k => k v34) fun v35 =>
 S.gd v35 false (S.fad v5'2 0) fun v36 =>
 S.gd v35 false (S.ld v36) fun v37 =>
 S.gd v35 false (S.bin .geq v37 (I 4096)) fun v38 =>
 S.gd v30 true (S.pick v35 (B true) v38) fun v39 =>
 S.gd v30 true (fun k => k v39) fun v40 =>
 S.gd v40 false (S.fad v5'2 1) fun v41 =>
 S.gd v40 false (S.ld v41) fun v42 =>
 S.gd v40 false (S.bin .lss v42 (I 2)) fun v43 =>
 S.gd v30 true (S.pick v40 (B true) v43) fun v44 =>
 S.gd v30 true (fun k => k v44) fun v45 =>
 S.gd v45 false (S.fad v5'2 1) fun v46 =>
 S.gd v45 false (S.ld v46) fun v47 =>
 S.gd v45 false (S.bin .gtr v47 (I 64)) fun v48 =>
 S.gd v30 true (S.pick v45 (B true) v48) fun v49 =>
 S.pick v30 v49 (B false) fun v50 =>
 K2 v2'2 v3'2 v50)
 <| fun v2'3 v3'3 v27 => S.fa fun _ =>
 S.cond v27 (
 K (B false)) (
 S.join 1 (fun K3 =>
 S.join 3 (fun K4 =>
 S.fad v3'3 7 fun v52 =>
 S.ld v52 fun v53 =>
 S.gd v53 true (S.fad v2'3 10) fun v55 =>
 S.gd v53 true (S.ldN 4 v55) fun v56 =>
 S.gd v53 true (CF Tryz.prog 137 [v56]) fun v57 =>
 S.gd v53 true (S.not1 v57) fun v58 =>
 S.pick v53 v58 (B false) fun v59 =>
 K4 v2'3 v3'3 v59)
 <| fun v2'4 v3'4 v51 => S.fa fun _ =>
 S.cond v51 (
 K3 v51) (
 S.join 3 (fun K5 =>
 S.fad v3'4 1 fun v60 =>
 S.ld v60 fun v61 =>
 S.gd v61 true (S.fad v2'4 4) fun v63 =>
 S.gd v61 true (S.ld v63) fun v64 =>
 S.gd v61 true (CF Tryz.prog 113 [v64]) fun v65 =>
 S.gd v61 true (S.not1 v65) fun v66 =>
 S.pick v61 v66 (B false) fun v67 =>
 K5 v2'4 v3'4 v67)
 <| fun v2'5 v3'5 v51' => S.fa fun _ =>
 S.cond v51' (
 K3 v51') (
 S.join 2 (fun K6 =>
 S.fad v3'5 2 fun v68 =>
 S.ld v68 fun v69 =>
 S.gd v69 true (S.fad v2'5 5) fun v71 =>
 S.gd v69 true (S.ld v71) fun v72 =>
 S.gd v69 true (S.bin .lss v72 (I 1)) fun v73 =>
 S.pick v69 v73 (B false) fun v74 =>
 K6 v2'5 v74)
 <| fun v2'6 v51'2 => S.fa fun _ =>
 S.cond v51'2 (
 K3 v51'2) (
 S.fad v2'6 5 fun v75 =>
 S.ld v75 fun v76 =>
 CF Tryz.prog 114 [v76] fun v77 =>
 S.not1 v77 fun v78 =>
 S.cond v78 (
 K3 v78) (
 S.fad v2'6 6 fun v79 =>
 S.ld v79 fun v80 =>
 CF Tryz.prog 114 [v80] fun v81 =>
 S.not1 v81 fun v82 =>
 K3 v82)))))
 <| fun v51'3 => S.fa fun _ =>
 S.cond v51'3 (
 K (B false)) (
 K (B true))))
theorem e108 [Amb] (v0 v1 : Value) (K : Value → WT) : s108 v0 v1 K = shal Tryz.prog Tryz.f108 .p a108 [v0, v1] K := by kernel_rfl
theorem c108 [Amb] {v0 v1 : Value} {K : Value → WT} {w : World} (h : s108 v0 v1 K w) : CF Tryz.prog 108 [v0, v1] K w := shal_sound Tryz.func108 (e108 v0 v1 K ▸ h)
def a109 : Ann := .seq (.z) (.seq (.z) (.z))
def s109 [Amb] (s_0 f_1 : Value) (K : Value → WT) : WT :=
 CF Tryz.prog 138 [s_0, f_1] fun v7 =>
 S.bin .geq v7 (I 0) fun v8 =>
 K v8
theorem e109 [Amb] (s_0 f_1 : Value) (K : Value → WT) : s109 s_0 f_1 K = shal Tryz.prog Tryz.f109 .p a109 [s_0, f_1] K := by kernel_rfl
theorem c109 [Amb] {s_0 f_1 : Value} {K : Value → WT} {w : World} (h : s109 s_0 f_1 K w) : CF Tryz.prog 109 [s_0, f_1] K w := shal_sound Tryz.func109 (e109 s_0 f_1 K ▸ h)
def a110 : Ann := .seq (.z) (.seq (.z) (.z))
def s110 [Amb] (m_0 : Value) (K : Value → WT) : WT :=
 S.box 147 m_0 fun m_1 =>
 S.fad m_1 0 fun v3 =>
 S.ldN 2 v3 fun v4 =>
 CF Tryz.prog 111 [v4] fun v5 =>
 S.not1 v5 fun v6 =>
 S.gd v6 false (S.fad m_1 2) fun v8 =>
 S.gd v6 false (S.ldN 2 v8) fun v9 =>
 S.gd v6 false (CF Tryz.prog 111 [v9]) fun v10 =>
 S.gd v6 false (S.not1 v10) fun v11 =>
 S.pick v6 (B true) v11 fun v12 =>
 K v12
theorem e110 [Amb] (m_0 : Value) (K : Value → WT) : s110 m_0 K = shal Tryz.prog Tryz.f110 .p a110 [m_0] K := by kernel_rfl
theorem c110 [Amb] {m_0 : Value} {K : Value → WT} {w : World} (h : s110 m_0 K w) : CF Tryz.prog 110 [m_0] K w := shal_sound Tryz.func110 (e110 m_0 K ▸ h)
def a111 : Ann := .seq (.z) (.seq (.z) (.z))
def s111 [Amb] (s_0 : Value) (K : Value → WT) : WT :=
 S.box 116 s_0 fun s_1 =>
 S.fad s_1 0 fun v3 =>
 S.ld v3 fun v4 =>
 CF Tryz.prog 136 [v4] fun v5 =>
 S.gd v5 true (S.fad s_1 1) fun v7 =>
 S.gd v5 true (S.ld v7) fun v8 =>
 S.gd v5 true (S.bin .geq v8 (I 0)) fun v9 =>
 S.pick v5 v9 (B false) fun v10 =>
 S.gd v10 true (S.fad s_1 1) fun v12 =>
 S.gd v10 true (S.ld v12) fun v13 =>
 S.gd v10 true (S.bin .lss v13 (I 64)) fun v14 =>
 S.pick v10 v14 (B false) fun v15 =>
 K v15
theorem e111 [Amb] (s_0 : Value) (K : Value → WT) : s111 s_0 K = shal Tryz.prog Tryz.f111 .p a111 [s_0] K := by kernel_rfl
theorem c111 [Amb] {s_0 : Value} {K : Value → WT} {w : World} (h : s111 s_0 K w) : CF Tryz.prog 111 [s_0] K w := shal_sound Tryz.func111 (e111 s_0 K ▸ h)
def a112 : Ann := .seq (.z) (.seq (.z) (.z))
def s112 [Amb] (h_0 : Value) (K : Value → WT) : WT :=
 S.box 53 h_0 fun h_1 =>
 S.fad h_1 0 fun v3 =>
 S.ld v3 fun v4 =>
 CF Tryz.prog 113 [v4] fun v5 =>
 S.not1 v5 fun v6 =>
 S.gd v6 false (S.fad h_1 1) fun v8 =>
 S.gd v6 false (S.ld v8) fun v9 =>
 S.gd v6 false (S.bin .lss v9 (I 1)) fun v10 =>
 S.pick v6 (B true) v10 fun v11 =>
 S.gd v11 false (S.fad h_1 1) fun v13 =>
 S.gd v11 false (S.ld v13) fun v14 =>
 S.gd v11 false (CF Tryz.prog 114 [v14]) fun v15 =>
 S.gd v11 false (S.not1 v15) fun v16 =>
 S.pick v11 (B true) v16 fun v17 =>
 K v17
theorem e112 [Amb] (h_0 : Value) (K : Value → WT) : s112 h_0 K = shal Tryz.prog Tryz.f112 .p a112 [h_0] K := by kernel_rfl
theorem c112 [Amb] {h_0 : Value} {K : Value → WT} {w : World} (h : s112 h_0 K w) : CF Tryz.prog 112 [h_0] K w := shal_sound Tryz.func112 (e112 h_0 K ▸ h)
def a113 : Ann := .seq (.z) (.seq (.seq (.z) (.blk (.loop [0, 5, 6] (.seq (.z) (.seq (.cond (.z) (.z)) (.seq (.blk (.seq (.z) (.join [0, 5, 6, 18] (.z) (.cond (.seq (.z) (.z)) (.z))))) (.z))))))) (.seq (.z) (.z)))
def s113 [Amb] (s_0 : Value) (K : Value → WT) : WT :=
 S.lenS s_0 fun v5 =>
 S.loop 3 (fun K0 => fun s_0' v5' v6 => S.fa fun _ =>
 S.bin .lss v6 v5' fun v7 =>
 S.cond v7 (
 S.join 4 (fun K1 =>
 S.chr s_0' v6 fun v11 =>
 S.bin .lss v11 (.int .u8 33) fun v12 =>
 S.gd v12 false (fun k => k s_0') fun v14 =>
 S.gd v12 false (fun k => k v6) fun v15 =>
 S.gd v12 false (S.chr v14 v15) fun v16 =>
 S.gd v12 false (S.bin .gtr v16 (.int .u8 126)) fun v17 =>
 S.pick v12 (B true) v17 fun v18 =>
 K1 s_0' v5' v6 v18)
 <| fun s_0'2 v5'2 v6' v18' => S.fa fun _ =>
 S.cond v18' (
 K (B false)) (
 S.bin .add v6' (I 1) fun v19 =>
 K0 s_0'2 v5'2 v19)) (
 S.sbin .neq s_0' (.string ⟨#[]⟩) fun v21 =>
 S.gd v21 true (fun k => k s_0') fun v23 =>
 S.gd v21 true (S.lenS v23) fun v24 =>
 S.gd v21 true (S.bin .leq v24 (I 32)) fun v25 =>
 S.pick v21 v25 (B false) fun v26 =>
 K v26))
 [s_0, v5, (I 0)]
theorem e113 [Amb] (s_0 : Value) (K : Value → WT) : s113 s_0 K = shal Tryz.prog Tryz.f113 .p a113 [s_0] K := by kernel_rfl
theorem c113 [Amb] {s_0 : Value} {K : Value → WT} {w : World} (h : s113 s_0 K w) : CF Tryz.prog 113 [s_0] K w := shal_sound Tryz.func113 (e113 s_0 K ▸ h)
def a114 : Ann := .seq (.z) (.seq (.z) (.z))
def s114 [Amb] (n_0 : Value) (K : Value → WT) : WT :=
 S.bin .geq n_0 (I 0) fun v4 =>
 S.gd v4 true (fun k => k n_0) fun v6 =>
 S.gd v4 true (S.bin .leq v6 (I 9007199254740991)) fun v7 =>
 S.pick v4 v7 (B false) fun v8 =>
 K v8
theorem e114 [Amb] (n_0 : Value) (K : Value → WT) : s114 n_0 K = shal Tryz.prog Tryz.f114 .p a114 [n_0] K := by kernel_rfl
theorem c114 [Amb] {n_0 : Value} {K : Value → WT} {w : World} (h : s114 n_0 K w) : CF Tryz.prog 114 [n_0] K w := shal_sound Tryz.func114 (e114 n_0 K ▸ h)
def a115 : Ann := .seq (.z) (.seq (.seq (.z) (.cond (.seq (.z) (.z)) (.z))) (.seq (.z) (.seq (.seq (.z) (.blk (.loop [4, 14, 15, 16] (.seq (.z) (.seq (.cond (.z) (.z)) (.seq (.blk (.seq (.z) (.seq (.seq (.z) (.cond (.seq (.z) (.z)) (.z))) (.drawT 13 (.one 0 (.one 1 (.one 4 (.one 5 (.one 6 (.one 7 (.one 8 (.one 9 (.two 2 (.two 3 (.one 10 (.one 11 (.one 12 .nil))) 10 (.one 3 (.one 11 (.one 12 .nil)))) 10 (.one 2 (.one 3 (.one 11 (.one 12 .nil))))))))))))))))) (.z))))))) (.seq (.z) (.z)))))
def s115 [Amb] (l_0 : Value) (K : Value → WT) : WT :=
 S.len l_0 fun v8 =>
 S.bin .gtr v8 (I 64) fun v9 =>
 S.cond v9 (
 K (.tuple #[(.slice none 0 0), (I 6)])) (
 S.len l_0 fun v11 =>
 V Tryz.prog (Instr.buildSlice 141 1 #[(0, v11)]) fun v12 =>
 CF Tryz.prog 139 [(.slice none 0 0), v12] fun v13 =>
 S.len l_0 fun v15 =>
 S.loop 4 (fun K0 => fun out_4 v14 v15' v16 => S.fa fun _ =>
 S.bin .lss v16 v15' fun v17 =>
 S.cond v17 (
 S.ixS 35 v14 v16 fun v18 =>
 S.ldN 35 v18 fun v19 =>
 S.box 38 (.agg #[(.int .u8 0), (.int .u8 0), (.int .u8 0), (.int .u8 0), (.int .u8 0), (.int .u8 0), (.int .u8 0), (.int .u8 0), (.int .u8 0), (.int .u8 0), (.int .u8 0), (.int .u8 0), (.int .u8 0), (.int .u8 0), (.int .u8 0), (.int .u8 0), (.int .u8 0), (.int .u8 0), (.int .u8 0), (.int .u8 0), (.int .u8 0), (.int .u8 0), (.int .u8 0), (.int .u8 0), (.int .u8 0), (.int .u8 0), (.int .u8 0), (.int .u8 0), (.int .u8 0), (.int .u8 0), (.int .u8 0), (.int .u8 0), (.int .i64 0), (.int .i64 0), (.int .i64 0)]) fun r_6 =>
 S.st 35 r_6 v19 fun _ =>
 S.ldN 35 r_6 fun v20 =>
 CF Tryz.prog 140 [v20] fun v21 =>
 S.not1 v21 fun v22 =>
 S.cond v22 (
 K (.tuple #[(.slice none 0 0), (I 2)])) (
 S.dr <|
 S.fad r_6 0 fun v24 =>
 S.fad r_6 32 fun v27 =>
 S.ld v27 fun v28 =>
 S.fad r_6 33 fun v29 =>
 S.ld v29 fun v30 =>
 S.fad r_6 34 fun v31 =>
 S.ld v31 fun v32 =>
 S.both (
 V Tryz.prog (Instr.sliceAt 36 v24 none none none) fun v25 =>
 S.rck [S.ld v31 (fun v' _ => v' = v32), S.ld v29 (fun v' _ => v' = v30), S.ld v27 (fun v' _ => v' = v28)] <|
 S.both (
 V Tryz.prog (Builtin.append_ #[157, 157] 157 #[out_4, v25]) fun v26 =>
 S.rck [S.ld v31 (fun v' _ => v' = v32), S.ld v29 (fun v' _ => v' = v30), S.ld v27 (fun v' _ => v' = v28)] <|
 V Tryz.prog (Instr.buildSlice 141 3 #[(0, v28), (1, v30), (2, v32)]) fun v33 =>
 CF Tryz.prog 139 [v26, v33] fun v34 =>
 S.bin .add v16 (I 1) fun v35 =>
 K0 v34 v14 v15' v35) (
 V Tryz.prog (Instr.buildSlice 141 3 #[(0, v28), (1, v30), (2, v32)]) fun v33' =>
 V Tryz.prog (Builtin.append_ #[157, 157] 157 #[out_4, v25]) fun v26' =>
 CF Tryz.prog 139 [v26', v33'] fun v34' =>
 S.bin .add v16 (I 1) fun v35' =>
 K0 v34' v14 v15' v35')) (
 V Tryz.prog (Instr.buildSlice 141 3 #[(0, v28), (1, v30), (2, v32)]) fun v33'2 =>
 V Tryz.prog (Instr.sliceAt 36 v24 none none none) fun v25' =>
 V Tryz.prog (Builtin.append_ #[157, 157] 157 #[out_4, v25']) fun v26'2 =>
 CF Tryz.prog 139 [v26'2, v33'2] fun v34'2 =>
 S.bin .add v16 (I 1) fun v35'2 =>
 K0 v34'2 v14 v15' v35'2))) (
 K (.tuple #[out_4, (I 0)])))
 [v13, l_0, v15, (I 0)])
theorem e115 [Amb] (l_0 : Value) (K : Value → WT) : s115 l_0 K = shal Tryz.prog Tryz.f115 .p a115 [l_0] K := by kernel_rfl
theorem c115 [Amb] {l_0 : Value} {K : Value → WT} {w : World} (h : s115 l_0 K w) : CF Tryz.prog 115 [l_0] K w := shal_sound Tryz.func115 (e115 l_0 K ▸ h)
def a117 : Ann := .seq (.z) (.seq (.z) (.z))
def s117 [Amb] (seq_0 : Value) (K : Value → WT) : WT :=
 CF Tryz.prog 142 [(.slice none 0 0), seq_0] fun v4 =>
 K v4
theorem e117 [Amb] (seq_0 : Value) (K : Value → WT) : s117 seq_0 K = shal Tryz.prog Tryz.f117 .p a117 [seq_0] K := by kernel_rfl
theorem c117 [Amb] {seq_0 : Value} {K : Value → WT} {w : World} (h : s117 seq_0 K w) : CF Tryz.prog 117 [seq_0] K w := shal_sound Tryz.func117 (e117 seq_0 K ▸ h)
def a119 : Ann := .seq (.z) (.blk (.loop [0, 5] (.seq (.z) (.seq (.cond (.z) (.z)) (.blk (.seq (.z) (.seq (.z) (.cond (.z) (.z)))))))))
def s119 [Amb] (yield_0 v1 : Value) (K : Value → WT) : WT :=
 S.ld v1 fun v4 =>
 V Tryz.prog (Instr.range 79 v4) fun v5 =>
 S.loop 2 (fun K0 => fun yield_0' v5' => S.fa fun _ =>
 V Tryz.prog (Instr.next v5' false 0) fun v6 =>
 S.ext v6 0 fun v7 =>
 S.cond v7 (
 V Tryz.prog (Instr.entry v5') fun v8 =>
 S.ext v8 0 fun v9 =>
 S.cvv Tryz.prog yield_0' [v9] fun v12 =>
 S.not1 v12 fun v13 =>
 S.cond v13 (
 K (.tuple #[])) (
 K0 yield_0' v5')) (
 K (.tuple #[])))
 [yield_0, v5]
theorem e119 [Amb] (yield_0 v1 : Value) (K : Value → WT) : s119 yield_0 v1 K = shal Tryz.prog Tryz.f119 .p a119 [yield_0, v1] K := by kernel_rfl
theorem c119 [Amb] {yield_0 v1 : Value} {K : Value → WT} {w : World} (h : s119 yield_0 v1 K w) : CF Tryz.prog 119 [yield_0, v1] K w := shal_sound Tryz.func119 (e119 yield_0 v1 K ▸ h)
def a120 : Ann := .seq (.z) (.seq (.z) (.z))
def s120 [Amb] (k_0 : Value) (K : Value → WT) : WT :=
 S.bin .eql k_0 (I 3) fun v4 =>
 S.gd v4 false (fun k => k k_0) fun v6 =>
 S.gd v4 false (S.bin .eql v6 (I 4)) fun v7 =>
 S.pick v4 (B true) v7 fun v8 =>
 S.gd v8 false (fun k => k k_0) fun v10 =>
 S.gd v8 false (S.bin .eql v10 (I 5)) fun v11 =>
 S.pick v8 (B true) v11 fun v12 =>
 S.gd v12 false (fun k => k k_0) fun v14 =>
 S.gd v12 false (S.bin .eql v14 (I 6)) fun v15 =>
 S.pick v12 (B true) v15 fun v16 =>
 K v16
theorem e120 [Amb] (k_0 : Value) (K : Value → WT) : s120 k_0 K = shal Tryz.prog Tryz.f120 .p a120 [k_0] K := by kernel_rfl
theorem c120 [Amb] {k_0 : Value} {K : Value → WT} {w : World} (h : s120 k_0 K w) : CF Tryz.prog 120 [k_0] K w := shal_sound Tryz.func120 (e120 k_0 K ▸ h)
def a121 : Ann := .seq (.z) (.seq (.z) (.z))
def s121 [Amb] (k_0 : Value) (K : Value → WT) : WT :=
 S.bin .eql k_0 (I 3) fun v4 =>
 S.gd v4 false (fun k => k k_0) fun v6 =>
 S.gd v4 false (S.bin .eql v6 (I 5)) fun v7 =>
 S.pick v4 (B true) v7 fun v8 =>
 S.gd v8 false (fun k => k k_0) fun v10 =>
 S.gd v8 false (S.bin .eql v10 (I 8)) fun v11 =>
 S.pick v8 (B true) v11 fun v12 =>
 K v12
theorem e121 [Amb] (k_0 : Value) (K : Value → WT) : s121 k_0 K = shal Tryz.prog Tryz.f121 .p a121 [k_0] K := by kernel_rfl
theorem c121 [Amb] {k_0 : Value} {K : Value → WT} {w : World} (h : s121 k_0 K w) : CF Tryz.prog 121 [k_0] K w := shal_sound Tryz.func121 (e121 k_0 K ▸ h)
def a122 : Ann := .seq (.z) (.seq (.z) (.z))
def s122 [Amb] (n_0 : Value) (K : Value → WT) : WT :=
 S.bin .geq n_0 (I 0) fun v4 =>
 S.gd v4 true (fun k => k n_0) fun v6 =>
 S.gd v4 true (S.bin .leq v6 (I 9007199254740991)) fun v7 =>
 S.pick v4 v7 (B false) fun v8 =>
 K v8
theorem e122 [Amb] (n_0 : Value) (K : Value → WT) : s122 n_0 K = shal Tryz.prog Tryz.f122 .p a122 [n_0] K := by kernel_rfl
theorem c122 [Amb] {n_0 : Value} {K : Value → WT} {w : World} (h : s122 n_0 K w) : CF Tryz.prog 122 [n_0] K w := shal_sound Tryz.func122 (e122 n_0 K ▸ h)
def a123 : Ann := .seq (.z) (.seq (.join [0, 11] (.z) (.cond (.seq (.z) (.z)) (.z))) (.seq (.seq (.z) (.blk (.loop [0, 3] (.seq (.seq (.z) (.cond (.z) (.z))) (.seq (.blk (.join [0, 3, 27] (.z) (.cond (.seq (.z) (.z)) (.z)))) (.z)))))) (.seq (.z) (.z))))
def s123 [Amb] (s_0 : Value) (K : Value → WT) : WT :=
 S.join 2 (fun K0 =>
 S.lenS s_0 fun v5 =>
 S.bin .lss v5 (I 1) fun v6 =>
 S.gd v6 false (fun k => k s_0) fun v8 =>
 S.gd v6 false (S.lenS v8) fun v9 =>
 S.gd v6 false (S.bin .gtr v9 (I 32)) fun v10 =>
 S.pick v6 (B true) v10 fun v11 =>
 K0 s_0 v11)
 <| fun s_0' v11' => S.fa fun _ =>
 S.cond v11' (
 K (B false)) (
 S.loop 2 (fun K1 => fun s_0'2 i_3 => S.fa fun _ =>
 S.lenS s_0'2 fun v14 =>
 S.bin .lss i_3 v14 fun v15 =>
 S.cond v15 (
 S.join 3 (fun K2 =>
 S.chr s_0'2 i_3 fun v20 =>
 S.bin .lss v20 (.int .u8 33) fun v21 =>
 S.gd v21 false (fun k => k s_0'2) fun v23 =>
 S.gd v21 false (fun k => k i_3) fun v24 =>
 S.gd v21 false (S.chr v23 v24) fun v25 =>
 S.gd v21 false (S.bin .gtr v25 (.int .u8 126)) fun v26 =>
 S.pick v21 (B true) v26 fun v27 =>
 K2 s_0'2 i_3 v27)
 <| fun s_0'3 i_3' v27' => S.fa fun _ =>
 S.cond v27' (
 K (B false)) (
 S.bin .add i_3' (I 1) fun v17 =>
 K1 s_0'3 v17)) (
 K (B true)))
 [s_0', (I 0)])
theorem e123 [Amb] (s_0 : Value) (K : Value → WT) : s123 s_0 K = shal Tryz.prog Tryz.f123 .p a123 [s_0] K := by kernel_rfl
theorem c123 [Amb] {s_0 : Value} {K : Value → WT} {w : World} (h : s123 s_0 K w) : CF Tryz.prog 123 [s_0] K w := shal_sound Tryz.func123 (e123 s_0 K ▸ h)
def a124 : Ann := .seq (.z) (.seq (.z) (.z))
def s124 [Amb] (s_0 : Value) (K : Value → WT) : WT :=
 S.box 116 s_0 fun s_1 =>
 S.fad s_1 0 fun v3 =>
 S.ld v3 fun v4 =>
 S.bin .geq v4 (I 0) fun v5 =>
 S.gd v5 true (S.fad s_1 0) fun v7 =>
 S.gd v5 true (S.ld v7) fun v8 =>
 S.gd v5 true (S.bin .leq v8 (I 4095)) fun v9 =>
 S.pick v5 v9 (B false) fun v10 =>
 S.gd v10 true (S.fad s_1 1) fun v12 =>
 S.gd v10 true (S.ld v12) fun v13 =>
 S.gd v10 true (S.bin .geq v13 (I 0)) fun v14 =>
 S.pick v10 v14 (B false) fun v15 =>
 S.gd v15 true (S.fad s_1 1) fun v17 =>
 S.gd v15 true (S.ld v17) fun v18 =>
 S.gd v15 true (S.bin .leq v18 (I 63)) fun v19 =>
 S.pick v15 v19 (B false) fun v20 =>
 K v20
theorem e124 [Amb] (s_0 : Value) (K : Value → WT) : s124 s_0 K = shal Tryz.prog Tryz.f124 .p a124 [s_0] K := by kernel_rfl
theorem c124 [Amb] {s_0 : Value} {K : Value → WT} {w : World} (h : s124 s_0 K w) : CF Tryz.prog 124 [s_0] K w := shal_sound Tryz.func124 (e124 s_0 K ▸ h)
def a125 : Ann := .seq (.z) (.seq (.z) (.z))
def s125 [Amb] (r_0 : Value) (K : Value → WT) : WT :=
 S.box 38 r_0 fun r_1 =>
 S.fad r_1 32 fun v3 =>
 S.ld v3 fun v4 =>
 S.bin .geq v4 (I 1) fun v5 =>
 S.gd v5 true (S.fad r_1 32) fun v7 =>
 S.gd v5 true (S.ld v7) fun v8 =>
 S.gd v5 true (S.bin .leq v8 (I 512)) fun v9 =>
 S.pick v5 v9 (B false) fun v10 =>
 S.gd v10 true (S.fad r_1 33) fun v12 =>
 S.gd v10 true (S.ld v12) fun v13 =>
 S.gd v10 true (S.bin .geq v13 (I 0)) fun v14 =>
 S.pick v10 v14 (B false) fun v15 =>
 S.gd v15 true (S.fad r_1 33) fun v17 =>
 S.gd v15 true (S.ld v17) fun v18 =>
 S.gd v15 true (S.bin .leq v18 (I 4095)) fun v19 =>
 S.pick v15 v19 (B false) fun v20 =>
 S.gd v20 true (S.fad r_1 34) fun v22 =>
 S.gd v20 true (S.ld v22) fun v23 =>
 S.gd v20 true (S.bin .geq v23 (I 0)) fun v24 =>
 S.pick v20 v24 (B false) fun v25 =>
 S.gd v25 true (S.fad r_1 34) fun v27 =>
 S.gd v25 true (S.ld v27) fun v28 =>
 S.gd v25 true (S.bin .leq v28 (I 63)) fun v29 =>
 S.pick v25 v29 (B false) fun v30 =>
 K v30
theorem e125 [Amb] (r_0 : Value) (K : Value → WT) : s125 r_0 K = shal Tryz.prog Tryz.f125 .p a125 [r_0] K := by kernel_rfl
theorem c125 [Amb] {r_0 : Value} {K : Value → WT} {w : World} (h : s125 r_0 K w) : CF Tryz.prog 125 [r_0] K w := shal_sound Tryz.func125 (e125 r_0 K ▸ h)
def a126 : Ann := .seq (.z) (.blk (.loop [0, 5] (.seq (.z) (.seq (.cond (.z) (.z)) (.blk (.seq (.z) (.seq (.z) (.cond (.z) (.z)))))))))
def s126 [Amb] (yield_0 v1 : Value) (K : Value → WT) : WT :=
 S.ld v1 fun v4 =>
 V Tryz.prog (Instr.range 78 v4) fun v5 =>
 S.loop 2 (fun K0 => fun yield_0' v5' => S.fa fun _ =>
 V Tryz.prog (Instr.next v5' false 0) fun v6 =>
 S.ext v6 0 fun v7 =>
 S.cond v7 (
 V Tryz.prog (Instr.entry v5') fun v8 =>
 S.ext v8 0 fun v9 =>
 S.cvv Tryz.prog yield_0' [v9] fun v12 =>
 S.not1 v12 fun v13 =>
 S.cond v13 (
 K (.tuple #[])) (
 K0 yield_0' v5')) (
 K (.tuple #[])))
 [yield_0, v5]
theorem e126 [Amb] (yield_0 v1 : Value) (K : Value → WT) : s126 yield_0 v1 K = shal Tryz.prog Tryz.f126 .p a126 [yield_0, v1] K := by kernel_rfl
theorem c126 [Amb] {yield_0 v1 : Value} {K : Value → WT} {w : World} (h : s126 yield_0 v1 K w) : CF Tryz.prog 126 [yield_0, v1] K w := shal_sound Tryz.func126 (e126 yield_0 v1 K ▸ h)
def a127 : Ann := .seq (.z) (.seq (.seq (.z) (.blk (.loop [0, 1, 7, 8] (.seq (.z) (.seq (.cond (.z) (.z)) (.seq (.blk (.seq (.z) (.seq (.z) (.cond (.seq (.z) (.z)) (.z))))) (.z))))))) (.seq (.z) (.z)))
def s127 [Amb] (s_0 v_1 : Value) (K : Value → WT) : WT :=
 S.len s_0 fun v7 =>
 S.loop 4 (fun K0 => fun s_0' v_1' v7' v8 => S.fa fun _ =>
 S.bin .lss v8 v7' fun v9 =>
 S.cond v9 (
 S.ixS 1 s_0' v8 fun v14 =>
 S.ld v14 fun v15 =>
 S.bin .eql v_1' v15 fun v16 =>
 S.cond v16 (
 K v8) (
 S.bin .add v8 (I 1) fun v18 =>
 K0 s_0' v_1' v7' v18)) (
 K (I (-1))))
 [s_0, v_1, v7, (I 0)]
theorem e127 [Amb] (s_0 v_1 : Value) (K : Value → WT) : s127 s_0 v_1 K = shal Tryz.prog Tryz.f127 .p a127 [s_0, v_1] K := by kernel_rfl
theorem c127 [Amb] {s_0 v_1 : Value} {K : Value → WT} {w : World} (h : s127 s_0 v_1 K w) : CF Tryz.prog 127 [s_0, v_1] K w := shal_sound Tryz.func127 (e127 s_0 v_1 K ▸ h)
def a128 : Ann := .seq (.z) (.seq (.z) (.z))
def s128 [Amb] (s_0 : Value) (K : Value → WT) : WT :=
 S.box 63 s_0 fun s_1 =>
 K (.func (Go.Fn.func 145) #[] #[s_1])
theorem e128 [Amb] (s_0 : Value) (K : Value → WT) : s128 s_0 K = shal Tryz.prog Tryz.f128 .p a128 [s_0] K := by kernel_rfl
theorem c128 [Amb] {s_0 : Value} {K : Value → WT} {w : World} (h : s128 s_0 K w) : CF Tryz.prog 128 [s_0] K w := shal_sound Tryz.func128 (e128 s_0 K ▸ h)
def a130 : Ann := .seq (.z) (.seq (.seq (.z) (.cond (.seq (.z) (.z)) (.z))) (.seq (.seq (.z) (.blk (.loop [0, 3] (.seq (.seq (.z) (.cond (.z) (.z))) (.seq (.blk (.seq (.draw [0, 1, 2, 3, 4, 5, 6, 7, 8, 9]) (.cond (.seq (.z) (.seq (.seq (.z) (.blk (.loop [0, 3, 4, 5] (.seq (.seq (.z) (.cond (.z) (.z))) (.join [0, 3, 4, 5] (.blk (.seq (.draw [0, 1, 2, 3, 4, 5, 6, 7, 8, 9]) (.cond (.seq (.z) (.z)) (.z)))) (.z)))))) (.seq (.z) (.seq (.z) (.z))))) (.z)))) (.z)))))) (.seq (.z) (.z))))
def s130 [Amb] (s_0 : Value) (K : Value → WT) : WT :=
 S.len s_0 fun v7 =>
 S.bin .lss v7 (I 2) fun v8 =>
 S.cond v8 (
 K s_0) (
 S.loop 2 (fun K0 => fun s_0' k_3 => S.fa fun _ =>
 S.len s_0' fun v12 =>
 S.bin .lss k_3 v12 fun v13 =>
 S.cond v13 (
 S.dr <|
 S.ixS 1 s_0' k_3 fun v18 =>
 S.ld v18 fun v19 =>
 S.bin .sub k_3 (I 1) fun v22 =>
 S.ixS 1 s_0' v22 fun v23 =>
 S.ld v23 fun v24 =>
 S.bin .eql v19 v24 fun v25 =>
 S.cond v25 (
 S.slc 1 s_0' (some k_3) none none fun v28 =>
 S.loop 4 (fun K1 => fun s_0'2 k_3' s2_4 k2_5 => S.fa fun _ =>
 S.len s2_4 fun v31 =>
 S.bin .lss k2_5 v31 fun v32 =>
 S.cond v32 (
 S.join 4 (fun K2 =>
 S.dr <|
 S.ixS 1 s2_4 k2_5 fun v37 =>
 S.ld v37 fun v38 =>
 S.bin .sub k2_5 (I 1) fun v41 =>
 S.ixS 1 s2_4 v41 fun v42 =>
 S.ld v42 fun v43 =>
 S.bin .neq v38 v43 fun v44 =>
 S.cond v44 (
 S.ixS 1 s2_4 k2_5 fun v49 =>
 S.ld v49 fun v50 =>
 S.ixS 1 s_0'2 k_3' fun v51 =>
 S.st 1 v51 v50 fun _ =>
 S.bin .add k_3' (I 1) fun v53 =>
 K2 s_0'2 v53 s2_4 k2_5) (
 K2 s_0'2 k_3' s2_4 k2_5))
 <| fun s_0'3 k_3'2 s2_4' k2_5' => S.fa fun _ =>
 S.bin .add k2_5' (I 1) fun v34 =>
 K1 s_0'3 k_3'2 s2_4' v34) (
 S.slc 1 s_0'2 (some k_3') none none fun v56 =>
 V Tryz.prog (Builtin.clear_ #[141] 0 #[v56]) fun _ =>
 S.slc 1 s_0'2 none (some k_3') none fun v59 =>
 K v59))
 [s_0', k_3, v28, (I 1)]) (
 S.bin .add k_3 (I 1) fun v15 =>
 K0 s_0' v15)) (
 K s_0'))
 [s_0, (I 1)])
theorem e130 [Amb] (s_0 : Value) (K : Value → WT) : s130 s_0 K = shal Tryz.prog Tryz.f130 .p a130 [s_0] K := by kernel_rfl
theorem c130 [Amb] {s_0 : Value} {K : Value → WT} {w : World} (h : s130 s_0 K w) : CF Tryz.prog 130 [s_0] K w := shal_sound Tryz.func130 (e130 s_0 K ▸ h)
def a131 : Ann := .seq (.z) (.seq (.z) (.z))
def s131 [Amb] (s_0 v_1 : Value) (K : Value → WT) : WT :=
 S.box 53 v_1 fun v_3 =>
 S.ldN 2 v_3 fun v6 =>
 CF Tryz.prog 147 [s_0, v6] fun v7 =>
 S.bin .geq v7 (I 0) fun v8 =>
 K v8
theorem e131 [Amb] (s_0 v_1 : Value) (K : Value → WT) : s131 s_0 v_1 K = shal Tryz.prog Tryz.f131 .p a131 [s_0, v_1] K := by kernel_rfl
theorem c131 [Amb] {s_0 v_1 : Value} {K : Value → WT} {w : World} (h : s131 s_0 v_1 K w) : CF Tryz.prog 131 [s_0, v_1] K w := shal_sound Tryz.func131 (e131 s_0 v_1 K ▸ h)
def a134 : Ann := .seq (.z) (.seq (.z) (.z))
def s134 [Amb] (l_0 v1 : Value) (K : Value → WT) : WT :=
 S.ld v1 fun v5 =>
 CF Tryz.prog 135 [l_0, v5] fun v6 =>
 K v6
theorem e134 [Amb] (l_0 v1 : Value) (K : Value → WT) : s134 l_0 v1 K = shal Tryz.prog Tryz.f134 .p a134 [l_0, v1] K := by kernel_rfl
theorem c134 [Amb] {l_0 v1 : Value} {K : Value → WT} {w : World} (h : s134 l_0 v1 K w) : CF Tryz.prog 134 [l_0, v1] K w := shal_sound Tryz.func134 (e134 l_0 v1 K ▸ h)
def a135 : Ann := .seq (.z) (.seq (.z) (.z))
def s135 [Amb] (s_0 v_1 : Value) (K : Value → WT) : WT :=
 CF Tryz.prog 149 [s_0, v_1] fun v7 =>
 S.bin .geq v7 (I 0) fun v8 =>
 K v8
theorem e135 [Amb] (s_0 v_1 : Value) (K : Value → WT) : s135 s_0 v_1 K = shal Tryz.prog Tryz.f135 .p a135 [s_0, v_1] K := by kernel_rfl
theorem c135 [Amb] {s_0 v_1 : Value} {K : Value → WT} {w : World} (h : s135 s_0 v_1 K w) : CF Tryz.prog 135 [s_0, v_1] K w := shal_sound Tryz.func135 (e135 s_0 v_1 K ▸ h)
def a136 : Ann := .seq (.z) (.seq (.z) (.z))
def s136 [Amb] (n_0 : Value) (K : Value → WT) : WT :=
 S.bin .geq n_0 (I 0) fun v4 =>
 S.gd v4 true (fun k => k n_0) fun v6 =>
 S.gd v4 true (S.bin .lss v6 (I 4096)) fun v7 =>
 S.pick v4 v7 (B false) fun v8 =>
 K v8
theorem e136 [Amb] (n_0 : Value) (K : Value → WT) : s136 n_0 K = shal Tryz.prog Tryz.f136 .p a136 [n_0] K := by kernel_rfl
theorem c136 [Amb] {n_0 : Value} {K : Value → WT} {w : World} (h : s136 n_0 K w) : CF Tryz.prog 136 [n_0] K w := shal_sound Tryz.func136 (e136 n_0 K ▸ h)
def a137 : Ann := .seq (.z) (.seq (.z) (.z))
def s137 [Amb] (k_0 : Value) (K : Value → WT) : WT :=
 S.box 43 k_0 fun k_1 =>
 S.fad k_1 0 fun v3 =>
 S.ld v3 fun v4 =>
 CF Tryz.prog 114 [v4] fun v5 =>
 S.gd v5 true (S.fad k_1 1) fun v7 =>
 S.gd v5 true (S.ld v7) fun v8 =>
 S.gd v5 true (CF Tryz.prog 114 [v8]) fun v9 =>
 S.pick v5 v9 (B false) fun v10 =>
 S.gd v10 true (S.fad k_1 2) fun v12 =>
 S.gd v10 true (S.ld v12) fun v13 =>
 S.gd v10 true (CF Tryz.prog 114 [v13]) fun v14 =>
 S.pick v10 v14 (B false) fun v15 =>
 S.gd v15 true (S.fad k_1 2) fun v17 =>
 S.gd v15 true (S.ld v17) fun v18 =>
 S.gd v15 true (S.bin .gtr v18 (I 0)) fun v19 =>
 S.pick v15 v19 (B false) fun v20 =>
 S.gd v20 true (S.fad k_1 3) fun v22 =>
 S.gd v20 true (S.ld v22) fun v23 =>
 S.gd v20 true (CF Tryz.prog 114 [v23]) fun v24 =>
 S.pick v20 v24 (B false) fun v25 =>
 K v25
theorem e137 [Amb] (k_0 : Value) (K : Value → WT) : s137 k_0 K = shal Tryz.prog Tryz.f137 .p a137 [k_0] K := by kernel_rfl
theorem c137 [Amb] {k_0 : Value} {K : Value → WT} {w : World} (h : s137 k_0 K w) : CF Tryz.prog 137 [k_0] K w := shal_sound Tryz.func137 (e137 k_0 K ▸ h)
def a138 : Ann := .seq (.z) (.seq (.seq (.z) (.blk (.loop [0, 1, 7, 8] (.seq (.z) (.seq (.cond (.z) (.z)) (.seq (.blk (.seq (.z) (.seq (.z) (.cond (.seq (.z) (.z)) (.z))))) (.z))))))) (.seq (.z) (.z)))
def s138 [Amb] (s_0 f_1 : Value) (K : Value → WT) : WT :=
 S.len s_0 fun v7 =>
 S.loop 4 (fun K0 => fun s_0' f_1' v7' v8 => S.fa fun _ =>
 S.bin .lss v8 v7' fun v9 =>
 S.cond v9 (
 S.ixS 4 s_0' v8 fun v14 =>
 S.ldN 4 v14 fun v15 =>
 S.cvv Tryz.prog f_1' [v15] fun v16 =>
 S.cond v16 (
 K v8) (
 S.bin .add v8 (I 1) fun v18 =>
 K0 s_0' f_1' v7' v18)) (
 K (I (-1))))
 [s_0, f_1, v7, (I 0)]
theorem e138 [Amb] (s_0 f_1 : Value) (K : Value → WT) : s138 s_0 f_1 K = shal Tryz.prog Tryz.f138 .p a138 [s_0, f_1] K := by kernel_rfl
theorem c138 [Amb] {s_0 f_1 : Value} {K : Value → WT} {w : World} (h : s138 s_0 f_1 K w) : CF Tryz.prog 138 [s_0, f_1] K w := shal_sound Tryz.func138 (e138 s_0 f_1 K ▸ h)
def a139 : Ann := .seq (.z) (.seq (.seq (.z) (.blk (.loop [0, 9, 10, 11] (.seq (.z) (.seq (.cond (.z) (.z)) (.seq (.blk (.seq (.z) (.seq (.z) (.z)))) (.z))))))) (.seq (.z) (.z)))
def s139 [Amb] (b_0 l_1 : Value) (K : Value → WT) : WT :=
 S.len l_1 fun v10 =>
 S.loop 4 (fun K0 => fun b_0' v9 v10' v11 => S.fa fun _ =>
 S.bin .lss v11 v10' fun v12 =>
 S.cond v12 (
 S.ixS 1 v9 v11 fun v13 =>
 S.ld v13 fun v14 =>
 CF Tryz.prog 150 [v14] fun v17 =>
 S.ext v17 0 fun v18 =>
 S.ext v17 1 fun v19 =>
 V Tryz.prog (Builtin.append_ #[157, 157] 157 #[b_0', v18]) fun v22 =>
 S.bin .add v11 (I 1) fun v23 =>
 K0 v22 v9 v10' v23) (
 K b_0'))
 [b_0, l_1, v10, (I 0)]
theorem e139 [Amb] (b_0 l_1 : Value) (K : Value → WT) : s139 b_0 l_1 K = shal Tryz.prog Tryz.f139 .p a139 [b_0, l_1] K := by kernel_rfl
theorem c139 [Amb] {b_0 l_1 : Value} {K : Value → WT} {w : World} (h : s139 b_0 l_1 K w) : CF Tryz.prog 139 [b_0, l_1] K w := shal_sound Tryz.func139 (e139 b_0 l_1 K ▸ h)
def a140 : Ann := .seq (.z) (.seq (.z) (.z))
def s140 [Amb] (r_0 : Value) (K : Value → WT) : WT :=
 S.box 38 r_0 fun r_1 =>
 S.fad r_1 32 fun v3 =>
 S.ld v3 fun v4 =>
 S.bin .geq v4 (I 1) fun v5 =>
 S.gd v5 true (S.fad r_1 32) fun v7 =>
 S.gd v5 true (S.ld v7) fun v8 =>
 S.gd v5 true (S.bin .leq v8 (I 512)) fun v9 =>
 S.pick v5 v9 (B false) fun v10 =>
 S.gd v10 true (S.fad r_1 33) fun v12 =>
 S.gd v10 true (S.ld v12) fun v13 =>
 S.gd v10 true (S.bin .geq v13 (I 0)) fun v14 =>
 S.pick v10 v14 (B false) fun v15 =>
 S.gd v15 true (S.fad r_1 33) fun v17 =>
 S.gd v15 true (S.ld v17) fun v18 =>
 S.gd v15 true (S.bin .lss v18 (I 4096)) fun v19 =>
 S.pick v15 v19 (B false) fun v20 =>
 S.gd v20 true (S.fad r_1 34) fun v22 =>
 S.gd v20 true (S.ld v22) fun v23 =>
 S.gd v20 true (S.bin .geq v23 (I 0)) fun v24 =>
 S.pick v20 v24 (B false) fun v25 =>
 S.gd v25 true (S.fad r_1 34) fun v27 =>
 S.gd v25 true (S.ld v27) fun v28 =>
 S.gd v25 true (S.bin .lss v28 (I 64)) fun v29 =>
 S.pick v25 v29 (B false) fun v30 =>
 K v30
theorem e140 [Amb] (r_0 : Value) (K : Value → WT) : s140 r_0 K = shal Tryz.prog Tryz.f140 .p a140 [r_0] K := by kernel_rfl
theorem c140 [Amb] {r_0 : Value} {K : Value → WT} {w : World} (h : s140 r_0 K w) : CF Tryz.prog 140 [r_0] K w := shal_sound Tryz.func140 (e140 r_0 K ▸ h)
def a142 : Ann := .seq (.z) (.seq (.seq (.z) (.blk (.rf [] (.z) (.blk (.z))))) (.seq (.z) (.z)))
def s142 (s_0 seq_1 : Value) (K : Value → WT) : WT :=
 S.box 94 s_0 fun s_2 =>
 S.rf Tryz.prog seq_1 undef 1 (fun l0 go0 Z0 => fun v7 =>
 go0 <|
 S.ld s_2 fun v8 =>
 V Tryz.prog (Instr.buildSlice 94 1 #[(0, v7)]) fun v10 =>
 V Tryz.prog (Builtin.append_ #[94, 94] 94 #[v8, v10]) fun v11 =>
 S.st 1 s_2 v11 fun _ =>
 Z0 .nrm)
 (fun m1 =>
 S.ld s_2 fun v12 =>
 S.done m1 <|
 K v12)
 (fun m2 =>
 S.done m2 <|
 K (.slice none 0 0))
 [
 ]
theorem e142 (s_0 seq_1 : Value) (K : Value → WT) : s142 s_0 seq_1 K = shal Tryz.prog Tryz.f142 .m a142 [s_0, seq_1] K := by kernel_rfl
theorem c142 {s_0 seq_1 : Value} {K : Value → WT} {w : World} (h : s142 s_0 seq_1 K w) : CF Tryz.prog 142 [s_0, seq_1] K w := shal_sound Tryz.func142 (e142 s_0 seq_1 K ▸ h)
def a145 : Ann := .seq (.z) (.blk (.loop [0, 1, 3] (.seq (.seq (.z) (.cond (.z) (.z))) (.seq (.blk (.seq (.z) (.cond (.z) (.z)))) (.z)))))
def s145 [Amb] (yield_0 v1 : Value) (K : Value → WT) : WT :=
 S.ld v1 fun v4 =>
 S.len v4 fun v5 =>
 S.bin .sub v5 (I 1) fun v6 =>
 S.loop 3 (fun K0 => fun yield_0' v1' i_3 => S.fa fun _ =>
 S.bin .geq i_3 (I 0) fun v8 =>
 S.cond v8 (
 S.ld v1' fun v13 =>
 S.ixS 4 v13 i_3 fun v15 =>
 S.ldN 4 v15 fun v16 =>
 S.cvv Tryz.prog yield_0' [i_3, v16] fun v17 =>
 S.not1 v17 fun v18 =>
 S.cond v18 (
 K (.tuple #[])) (
 S.bin .sub i_3 (I 1) fun v10 =>
 K0 yield_0' v1' v10)) (
 K (.tuple #[])))
 [yield_0, v1, v6]
theorem e145 [Amb] (yield_0 v1 : Value) (K : Value → WT) : s145 yield_0 v1 K = shal Tryz.prog Tryz.f145 .p a145 [yield_0, v1] K := by kernel_rfl
theorem c145 [Amb] {yield_0 v1 : Value} {K : Value → WT} {w : World} (h : s145 yield_0 v1 K w) : CF Tryz.prog 145 [yield_0, v1] K w := shal_sound Tryz.func145 (e145 yield_0 v1 K ▸ h)
def a147 : Ann := .seq (.z) (.seq (.seq (.z) (.blk (.loop [0, 3, 7, 8] (.seq (.z) (.seq (.cond (.z) (.z)) (.seq (.blk (.seq (.z) (.seq (.draw [0, 1, 2, 3, 4, 5]) (.cond (.seq (.z) (.z)) (.z))))) (.z))))))) (.seq (.z) (.z)))
def s147 [Amb] (s_0 v_1 : Value) (K : Value → WT) : WT :=
 S.box 53 v_1 fun v_3 =>
 S.len s_0 fun v7 =>
 S.loop 4 (fun K0 => fun s_0' v_3' v7' v8 => S.fa fun _ =>
 S.bin .lss v8 v7' fun v9 =>
 S.cond v9 (
 S.dr <|
 S.ldN 2 v_3' fun v11 =>
 S.ixS 2 s_0' v8 fun v14 =>
 S.ldN 2 v14 fun v15 =>
 S.eqv Tryz.prog .eql 53 false v11 v15 fun v16 =>
 S.cond v16 (
 K v8) (
 S.bin .add v8 (I 1) fun v18 =>
 K0 s_0' v_3' v7' v18)) (
 K (I (-1))))
 [s_0, v_3, v7, (I 0)]
theorem e147 [Amb] (s_0 v_1 : Value) (K : Value → WT) : s147 s_0 v_1 K = shal Tryz.prog Tryz.f147 .p a147 [s_0, v_1] K := by kernel_rfl
theorem c147 [Amb] {s_0 v_1 : Value} {K : Value → WT} {w : World} (h : s147 s_0 v_1 K w) : CF Tryz.prog 147 [s_0, v_1] K w := shal_sound Tryz.func147 (e147 s_0 v_1 K ▸ h)
def a149 : Ann := .seq (.z) (.seq (.seq (.z) (.blk (.loop [0, 1, 7, 8] (.seq (.z) (.seq (.cond (.z) (.z)) (.seq (.blk (.seq (.z) (.seq (.z) (.cond (.seq (.z) (.z)) (.z))))) (.z))))))) (.seq (.z) (.z)))
def s149 [Amb] (s_0 v_1 : Value) (K : Value → WT) : WT :=
 S.len s_0 fun v7 =>
 S.loop 4 (fun K0 => fun s_0' v_1' v7' v8 => S.fa fun _ =>
 S.bin .lss v8 v7' fun v9 =>
 S.cond v9 (
 S.ixS 1 s_0' v8 fun v14 =>
 S.ld v14 fun v15 =>
 S.bin .eql v_1' v15 fun v16 =>
 S.cond v16 (
 K v8) (
 S.bin .add v8 (I 1) fun v18 =>
 K0 s_0' v_1' v7' v18)) (
 K (I (-1))))
 [s_0, v_1, v7, (I 0)]
theorem e149 [Amb] (s_0 v_1 : Value) (K : Value → WT) : s149 s_0 v_1 K = shal Tryz.prog Tryz.f149 .p a149 [s_0, v_1] K := by kernel_rfl
theorem c149 [Amb] {s_0 v_1 : Value} {K : Value → WT} {w : World} (h : s149 s_0 v_1 K w) : CF Tryz.prog 149 [s_0, v_1] K w := shal_sound Tryz.func149 (e149 s_0 v_1 K ▸ h)
def a150 : Ann := .seq (.z) (.seq (.seq (.z) (.cond (.seq (.z) (.z)) (.z))) (.seq (.z) (.seq (.blk (.loop [0, 4] (.seq (.seq (.z) (.cond (.z) (.z))) (.seq (.blk (.z)) (.z))))) (.seq (.z) (.z)))))
def s150 [Amb] (n_0 : Value) (K : Value → WT) : WT :=
 CF Tryz.prog 172 [n_0] fun v6 =>
 S.not1 v6 fun v7 =>
 S.cond v7 (
 K (.tuple #[(.slice none 0 0), (I 6)])) (
 S.loop 2 (fun K0 => fun n_0' out_4 => S.fa fun _ =>
 S.bin .geq n_0' (I 128) fun v9 =>
 S.cond v9 (
 S.bin .rem n_0' (I 128) fun v14 =>
 S.cvt .u8 v14 fun v15 =>
 S.bin .add v15 (.int .u8 128) fun v16 =>
 V Tryz.prog (Instr.buildSlice 157 1 #[(0, v16)]) fun v17 =>
 V Tryz.prog (Builtin.append_ #[157, 157] 157 #[out_4, v17]) fun v18 =>
 S.sh .shr n_0' (.int .u64 7) fun v11 =>
 K0 v11 v18) (
 S.cvt .u8 n_0' fun v21 =>
 V Tryz.prog (Instr.buildSlice 157 1 #[(0, v21)]) fun v22 =>
 V Tryz.prog (Builtin.append_ #[157, 157] 157 #[out_4, v22]) fun v23 =>
 K (.tuple #[v23, (I 0)])))
 [n_0, (.slice none 0 0)])
theorem e150 [Amb] (n_0 : Value) (K : Value → WT) : s150 n_0 K = shal Tryz.prog Tryz.f150 .p a150 [n_0] K := by kernel_rfl
theorem c150 [Amb] {n_0 : Value} {K : Value → WT} {w : World} (h : s150 n_0 K w) : CF Tryz.prog 150 [n_0] K w := shal_sound Tryz.func150 (e150 n_0 K ▸ h)
def a172 : Ann := .seq (.z) (.seq (.z) (.z))
def s172 [Amb] (n_0 : Value) (K : Value → WT) : WT :=
 S.bin .geq n_0 (I 0) fun v4 =>
 S.gd v4 true (fun k => k n_0) fun v6 =>
 S.gd v4 true (S.bin .leq v6 (I 9007199254740991)) fun v7 =>
 S.pick v4 v7 (B false) fun v8 =>
 K v8
theorem e172 [Amb] (n_0 : Value) (K : Value → WT) : s172 n_0 K = shal Tryz.prog Tryz.f172 .p a172 [n_0] K := by kernel_rfl
theorem c172 [Amb] {n_0 : Value} {K : Value → WT} {w : World} (h : s172 n_0 K w) : CF Tryz.prog 172 [n_0] K w := shal_sound Tryz.func172 (e172 n_0 K ▸ h)
end Go.Proofs.YtjafpncngmbcdaaGreat.Sh
end
