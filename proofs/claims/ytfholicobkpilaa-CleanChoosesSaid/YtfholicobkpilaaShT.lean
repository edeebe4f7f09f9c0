/- The shallow forms of functions, printed by shal.py. -/
import Derived.Test.YtfholicobkpilaaSlCode
import Derived.Test.YtfholicobkpilaaProg
import Derived.KernelRfl
set_option linter.unusedSimpArgs false
set_option linter.unusedVariables false
set_option linter.unusedSectionVars false
namespace Go.Proofs.Ytfholicobkpilaa.Sh
open Go Go.SL Go.Proofs
set_option linter.unusedVariables false
set_option maxRecDepth 100000
/-- aumbry/aumbrylaw03.DiskNew -/
def a3 : Ann := .seq (.z) (.seq (.z) (.seq (.join [0, 3, 4, 15] (.z) (.cond (.seq (.z) (.z)) (.z))) (.seq (.z) (.z))))
def s3 (n_0 : Value) (K : Value → WT) : WT :=
  CF Try.prog 14 [n_0] fun v7 =>
  S.ext v7 0 fun v8 =>
  S.ext v7 1 fun v9 =>
  S.join 4 (fun K0 =>
    S.bin .lss n_0 (I 1) fun v11 =>
    S.gd v11 false (fun k => k n_0) fun v13 =>
    S.gd v11 false (fun k => S.bin .gtr v13 (I 4096) k) fun v14 =>
    S.pick v11 (B true) v14 fun v15 =>
    K0 n_0 v8 v9 v15)
  <| fun n_0' d_3 e_4 v15' => S.fa fun _ =>
  S.cond v15' (
    CF Try.prog 15 [] fun v16 =>
    S.gd v16 true (fun k => k d_3) fun v18 =>
    S.gd v16 true (fun k => S.eqv Try.prog .eql 22 true v18 (.pointer none) k) fun v19 =>
    S.pick v16 v19 (B false) fun v20 =>
    S.gd v20 true (fun k => k e_4) fun v22 =>
    S.gd v20 true (fun k => S.bin .eql v22 (I 2) k) fun v23 =>
    S.pick v20 v23 (B false) fun v24 =>
    K v24) (
    CF Try.prog 15 [] fun v25 =>
    S.gd v25 true (fun k => k e_4) fun v27 =>
    S.gd v25 true (fun k => S.bin .eql v27 (I 0) k) fun v28 =>
    S.pick v25 v28 (B false) fun v29 =>
    S.gd v29 true (fun k => k d_3) fun v31 =>
    S.gd v29 true (fun k => CF Try.prog 16 [v31] k) fun v32 =>
    S.gd v29 true (fun k => k n_0') fun v33 =>
    S.gd v29 true (fun k => S.bin .eql v32 v33 k) fun v34 =>
    S.pick v29 v34 (B false) fun v35 =>
    S.gd v35 true (fun k => k d_3) fun v37 =>
    S.gd v35 true (fun k => CF Try.prog 17 [v37] k) fun v38 =>
    S.gd v35 true (fun k => S.bin .eql v38 (I 0) k) fun v39 =>
    S.pick v35 v39 (B false) fun v40 =>
    S.gd v40 true (fun k => k d_3) fun v42 =>
    S.gd v40 true (fun k => CF Try.prog 18 [v42] k) fun v43 =>
    S.gd v40 true (fun k => S.not1 v43 k) fun v44 =>
    S.pick v40 v44 (B false) fun v45 =>
    S.gd v45 true (fun k => k d_3) fun v47 =>
    S.gd v45 true (fun k => CF Try.prog 19 [v47] k) fun v48 =>
    S.gd v45 true (fun k => S.len v48 k) fun v49 =>
    S.gd v45 true (fun k => S.bin .eql v49 (I 0) k) fun v50 =>
    S.pick v45 v50 (B false) fun v51 =>
    K v51)
theorem e3 (n_0 : Value) (K : Value → WT) : s3 n_0 K = shal Try.prog Try.f3 .p a3 [n_0] K := by kernel_rfl
theorem c3 {n_0 : Value} {K : Value → WT} {w : World} (h : s3 n_0 K w) : CF Try.prog 3 [n_0] K w := shal_sound Try.func3 (e3 n_0 K ▸ h)

/-- aumbry/aumbrylaw03.DiskLasts -/
def a4 : Ann := .seq (.z) (.seq (.z) (.seq (.seq (.z) (.cond (.seq (.z) (.z)) (.z))) (.join [3, 6, 9] (.seq (.z) (.cond (.z) (.z))) (.seq (.seq (.z) (.cond (.seq (.z) (.z)) (.z))) (.seq (.z) (.seq (.seq (.z) (.seq (.z) (.cond (.seq (.z) (.z)) (.z)))) (.seq (.seq (.z) (.cond (.seq (.z) (.z)) (.z))) (.seq (.z) (.seq (.seq (.z) (.blk (.loop [3, 6, 9, 14, 16] (.seq (.join [3, 6, 9, 14, 16, 64] (.z) (.cond (.z) (.z))) (.join [3, 6, 9, 14, 16] (.blk (.seq (.z) (.seq (.z) (.blk (.seq (.z) (.cond (.seq (.z) (.cond (.z) (.z))) (.seq (.z) (.cond (.z) (.seq (.z) (.cond (.z) (.seq (.z) (.cond (.z) (.seq (.z) (.cond (.seq (.z) (.cond (.z) (.z))) (.z))))))))))))))) (.z)))))) (.seq (.z) (.seq (.z) (.seq (.z) (.z)))))))))))))
def s4 (v0 v1 v2 v3 : Value) (K : Value → WT) : WT :=
  S.box 37 v2 fun v6 =>
  CF Try.prog 20 [v0, v1] fun v23 =>
  S.ext v23 0 fun v24 =>
  S.ext v23 1 fun v25 =>
  S.ext v23 2 fun v26 =>
  S.not1 v26 fun v28 =>
  S.cond v28 (
    K (B false)) (
    S.join 3 (fun K0 =>
      CF Try.prog 18 [v24] fun v30 =>
      S.cond v30 (
        V Try.prog (Instr.build 35 #[(1, (I (-1)))]) fun v32 =>
        CF Try.prog 21 [v24, v32] fun v33 =>
        K0 v3 v6 v24) (
        K0 v3 v6 v24))
    <| fun v3' v6' v9 => S.fa fun _ =>
    CF Try.prog 22 [v9, (I 0)] fun v35 =>
    S.bin .neq v35 (I 0) fun v36 =>
    S.cond v36 (
      K (B false)) (
      S.fad v6' 1 fun v38 =>
      S.ld v38 fun v39 =>
      S.fad v6' 2 fun v40 =>
      S.ld v40 fun v41 =>
      CF Try.prog 23 [v9, v39, v41] fun v42 =>
      CF Try.prog 24 [v9] fun v44 =>
      S.bin .neq v44 (I 0) fun v46 =>
      S.cond v46 (
        K (B false)) (
        S.bin .neq v42 (I 0) fun v48 =>
        S.cond v48 (
          CF Try.prog 15 [] fun v49 =>
          K v49) (
          S.fad v6' 1 fun v52 =>
          S.ld v52 fun v53 =>
          CF Try.prog 25 [v9, v53] fun v54 =>
          S.ext v54 0 fun v55 =>
          S.ext v54 1 fun v56 =>
          S.loop 5 (fun K1 => fun v3'2 v6'2 v9' v14 v16 => S.fa fun _ =>
            S.join 6 (fun K2 =>
              S.len v3'2 fun v59 =>
              S.bin .lss v16 v59 fun v60 =>
              S.gd v60 true (fun k => k v16) fun v62 =>
              S.gd v60 true (fun k => S.bin .lss v62 (I 100) k) fun v63 =>
              S.pick v60 v63 (B false) fun v64 =>
              K2 v3'2 v6'2 v9' v14 v16 v64)
            <| fun v3'3 v6'3 v9'2 v14' v16' v64' => S.fa fun _ =>
            S.cond v64' (
              S.join 5 (fun K3 =>
                S.ixS 6 v3'3 v16' fun v69 =>
                S.ldN 6 v69 fun v70 =>
                S.box 37 (.agg #[(.int .i64 0), (.int .i64 0), (.slice none 0 0), (.slice none 0 0), (.int .i64 0), (.int .i64 0)]) fun v17 =>
                S.st 6 v17 v70 fun _ =>
                S.fad v17 0 fun v71 =>
                S.ld v71 fun v72 =>
                S.bin .eql v72 (I 0) fun v78 =>
                S.cond v78 (
                  S.fad v17 1 fun v79 =>
                  S.ld v79 fun v80 =>
                  S.fad v6'3 1 fun v81 =>
                  S.ld v81 fun v82 =>
                  S.bin .neq v80 v82 fun v83 =>
                  S.cond v83 (
                    S.fad v17 1 fun v85 =>
                    S.ld v85 fun v86 =>
                    S.fad v17 2 fun v87 =>
                    S.ld v87 fun v88 =>
                    CF Try.prog 23 [v9'2, v86, v88] fun v89 =>
                    K3 v3'3 v6'3 v9'2 v14' v16') (
                    K3 v3'3 v6'3 v9'2 v14' v16')) (
                  S.bin .eql v72 (I 2) fun v91 =>
                  S.cond v91 (
                    CF Try.prog 24 [v9'2] fun v93 =>
                    K3 v3'3 v6'3 v9'2 v14' v16') (
                    S.bin .eql v72 (I 3) fun v95 =>
                    S.cond v95 (
                      S.fad v17 1 fun v97 =>
                      S.ld v97 fun v98 =>
                      CF Try.prog 22 [v9'2, v98] fun v99 =>
                      K3 v3'3 v6'3 v9'2 v14' v16') (
                      S.bin .eql v72 (I 4) fun v101 =>
                      S.cond v101 (
                        S.fad v17 3 fun v103 =>
                        S.ldN 3 v103 fun v104 =>
                        CF Try.prog 21 [v9'2, v104] fun v105 =>
                        K3 v3'3 v6'3 v9'2 v14' v16') (
                        S.bin .eql v72 (I 5) fun v107 =>
                        S.cond v107 (
                        S.fad v17 1 fun v108 =>
                        S.ld v108 fun v109 =>
                        S.fad v6'3 1 fun v110 =>
                        S.ld v110 fun v111 =>
                        S.bin .neq v109 v111 fun v112 =>
                        S.cond v112 (
                        S.fad v17 1 fun v114 =>
                        S.ld v114 fun v115 =>
                        S.fad v17 2 fun v116 =>
                        S.ld v116 fun v117 =>
                        CF Try.prog 26 [v9'2, v115, v117] fun v118 =>
                        K3 v3'3 v6'3 v9'2 v14' v16') (
                        K3 v3'3 v6'3 v9'2 v14' v16')) (
                        S.fad v17 1 fun v74 =>
                        S.ld v74 fun v75 =>
                        CF Try.prog 25 [v9'2, v75] fun v76 =>
                        K3 v3'3 v6'3 v9'2 v14' v16'))))))
              <| fun v3'4 v6'4 v9'3 v14'2 v16'2 => S.fa fun _ =>
              S.bin .add v16'2 (I 1) fun v66 =>
              K1 v3'4 v6'4 v9'3 v14'2 v66) (
              S.fad v6'3 3 fun v120 =>
              S.ldN 3 v120 fun v121 =>
              CF Try.prog 21 [v9'2, v121] fun v122 =>
              S.fad v6'3 1 fun v125 =>
              S.ld v125 fun v126 =>
              CF Try.prog 25 [v9'2, v126] fun v127 =>
              S.ext v127 0 fun v128 =>
              S.ext v127 1 fun v129 =>
              CF Try.prog 15 [] fun v130 =>
              S.gd v130 true (fun k => k v129) fun v132 =>
              S.gd v130 true (fun k => S.bin .eql v132 (I 0) k) fun v133 =>
              S.pick v130 v133 (B false) fun v134 =>
              S.gd v134 true (fun k => k v128) fun v136 =>
              S.gd v134 true (fun k => S.b2s v136 k) fun v137 =>
              S.gd v134 true (fun k => k v14') fun v138 =>
              S.gd v134 true (fun k => S.b2s v138 k) fun v139 =>
              S.gd v134 true (fun k => S.sbin .eql v137 v139 k) fun v140 =>
              S.pick v134 v140 (B false) fun v141 =>
              K v141))
          [v3', v6', v9, v55, (I 0)]))))
theorem e4 (v0 v1 v2 v3 : Value) (K : Value → WT) : s4 v0 v1 v2 v3 K = shal Try.prog Try.f4 .p a4 [v0, v1, v2, v3] K := by kernel_rfl
theorem c4 {v0 v1 v2 v3 : Value} {K : Value → WT} {w : World} (h : s4 v0 v1 v2 v3 K w) : CF Try.prog 4 [v0, v1, v2, v3] K w := shal_sound Try.func4 (e4 v0 v1 v2 v3 K ▸ h)

/-- aumbry/aumbrylaw03.DiskTorn -/
def a5 : Ann := .seq (.z) (.seq (.z) (.seq (.seq (.z) (.cond (.seq (.z) (.z)) (.z))) (.seq (.z) (.seq (.z) (.seq (.z) (.seq (.seq (.z) (.blk (.loop [5, 7, 10, 11, 12] (.seq (.seq (.z) (.cond (.z) (.z))) (.join [5, 7, 10, 11, 12] (.blk (.seq (.z) (.seq (.join [5, 7, 10, 11, 12, 13, 49] (.z) (.cond (.seq (.z) (.z)) (.z))) (.blk (.join [5, 7, 10, 11, 12, 13, 50] (.draw [0, 1, 2, 3, 4, 5, 6, 7, 8, 9, 10, 11, 12, 13, 14, 15, 16, 17, 18, 19, 20, 21, 22, 23, 24, 25]) (.cond (.z) (.join [5, 7, 10, 11, 12, 76] (.draw [0, 1, 2, 3, 4, 5, 6, 7, 8, 9, 10, 11, 12, 13, 14, 15, 16, 17, 18, 19, 20, 21, 22, 23, 24, 25, 26, 27, 28, 29, 30, 31, 32, 33, 34, 35, 36, 37]) (.cond (.z) (.seq (.z) (.z)))))))))) (.z)))))) (.seq (.z) (.z))))))))
def s5 (v0 v1 v2 : Value) (K : Value → WT) : WT :=
  S.box 35 v2 fun v5 =>
  CF Try.prog 20 [v0, v1] fun v18 =>
  S.ext v18 0 fun v19 =>
  S.ext v18 1 fun v20 =>
  S.ext v18 2 fun v21 =>
  S.not1 v21 fun v23 =>
  S.cond v23 (
    K (B false)) (
    S.nc v20 fun v25 =>
    S.fad v25 0 fun v26 =>
    S.ld v26 fun v27 =>
    S.ldN 3 v5 fun v29 =>
    CF Try.prog 21 [v19, v29] fun v30 =>
    S.loop 5 (fun K0 => fun v5' v7 v10 v11 v12 => S.fa fun _ =>
      S.len v10 fun v33 =>
      S.bin .lss v12 v33 fun v34 =>
      S.cond v34 (
        S.join 5 (fun K1 =>
          CF Try.prog 25 [v7, v12] fun v40 =>
          S.ext v40 0 fun v41 =>
          S.ext v40 1 fun v42 =>
          S.join 7 (fun K2 =>
            S.bin .neq v42 (I 0) fun v44 =>
            S.gd v44 false (fun k => k v41) fun v46 =>
            S.gd v44 false (fun k => S.len v46 k) fun v47 =>
            S.gd v44 false (fun k => S.bin .neq v47 (I 128) k) fun v48 =>
            S.pick v44 (B true) v48 fun v49 =>
            K2 v5' v7 v10 v11 v12 v41 v49)
          <| fun v5'2 v7' v10' v11' v12' v13 v49' => S.fa fun _ =>
          S.cond v49' (
            K (B false)) (
            S.join 7 (fun K3 =>
              S.dr <|
              S.b2s v13 fun v52 =>
              S.ixS 3 v10' v12' fun v55 =>
              S.fad v55 0 fun v56 =>
              S.ld v56 fun v57 =>
              S.sbin .eql v52 v57 fun v58 =>
              S.gd v58 false (fun k => k v10') fun v60 =>
              S.gd v58 false (fun k => k v12') fun v61 =>
              S.gd v58 false (fun k => S.ixS 3 v60 v61 k) fun v62 =>
              S.gd v58 false (fun k => S.fad v62 2 k) fun v63 =>
              S.gd v58 false (fun k => S.ld v63 k) fun v64 =>
              S.gd v58 false (fun k => k v64) fun v65 =>
              S.gd v65 true (fun k => k v13) fun v66 =>
              S.gd v65 true (fun k => S.b2s v66 k) fun v67 =>
              S.gd v65 true (fun k => k v10') fun v68 =>
              S.gd v65 true (fun k => k v12') fun v69 =>
              S.gd v65 true (fun k => S.ixS 3 v68 v69 k) fun v70 =>
              S.gd v65 true (fun k => S.fad v70 1 k) fun v71 =>
              S.gd v65 true (fun k => S.ld v71 k) fun v72 =>
              S.gd v65 true (fun k => S.sbin .eql v67 v72 k) fun v73 =>
              S.gd v58 false (fun k => S.pick v65 v73 (B false) k) fun v74 =>
              S.pick v58 (B true) v74 fun v75 =>
              K3 v5'2 v7' v10' v11' v12' v13 v75)
            <| fun v5'3 v7'2 v10'2 v11'2 v12'2 v13' v50 => S.fa fun _ =>
            S.cond v50 (
              K1 v5'3 v7'2 v10'2 v11'2 v12'2) (
              S.join 6 (fun K4 =>
                S.dr <|
                S.ixS 3 v10'2 v12'2 fun v79 =>
                S.fad v79 2 fun v80 =>
                S.ld v80 fun v81 =>
                S.gd v81 true (fun k => S.fad v5'3 2 k) fun v83 =>
                S.gd v81 true (fun k => S.ld v83 k) fun v84 =>
                S.gd v81 true (fun k => S.bin .geq v84 (I 0) k) fun v85 =>
                S.pick v81 v85 (B false) fun v86 =>
                S.gd v86 true (fun k => S.fad v5'3 2 k) fun v88 =>
                S.gd v86 true (fun k => S.ld v88 k) fun v89 =>
                S.gd v86 true (fun k => S.bin .leq v89 (I 128) k) fun v90 =>
                S.pick v86 v90 (B false) fun v91 =>
                S.gd v91 true (fun k => k v13') fun v93 =>
                S.gd v91 true (fun k => S.b2s v93 k) fun v94 =>
                S.gd v91 true (fun k => k v10'2) fun v95 =>
                S.gd v91 true (fun k => k v12'2) fun v96 =>
                S.gd v91 true (fun k => S.ixS 3 v95 v96 k) fun v97 =>
                S.gd v91 true (fun k => S.fad v97 1 k) fun v98 =>
                S.gd v91 true (fun k => S.ld v98 k) fun v99 =>
                S.gd v91 true (fun k => S.fad v5'3 2 k) fun v100 =>
                S.gd v91 true (fun k => S.ld v100 k) fun v101 =>
                S.gd v91 true (fun k => S.slcS v99 none (some v101) k) fun v102 =>
                S.gd v91 true (fun k => k v10'2) fun v103 =>
                S.gd v91 true (fun k => k v12'2) fun v104 =>
                S.gd v91 true (fun k => S.ixS 3 v103 v104 k) fun v105 =>
                S.gd v91 true (fun k => S.fad v105 0 k) fun v106 =>
                S.gd v91 true (fun k => S.ld v106 k) fun v107 =>
                S.gd v91 true (fun k => S.fad v5'3 2 k) fun v108 =>
                S.gd v91 true (fun k => S.ld v108 k) fun v109 =>
                S.gd v91 true (fun k => S.slcS v107 (some v109) none k) fun v110 =>
                S.gd v91 true (fun k => S.sbin .add v102 v110 k) fun v111 =>
                S.gd v91 true (fun k => S.sbin .eql v94 v111 k) fun v112 =>
                S.pick v91 v112 (B false) fun v113 =>
                K4 v5'3 v7'2 v10'2 v11'2 v12'2 v113)
              <| fun v5'4 v7'3 v10'3 v11'3 v12'3 v76 => S.fa fun _ =>
              S.cond v76 (
                S.bin .add v11'3 (I 1) fun v115 =>
                K1 v5'4 v7'3 v10'3 v115 v12'3) (
                K (B false)))))
        <| fun v5'5 v7'4 v10'4 v11'4 v12'4 => S.fa fun _ =>
        S.bin .add v12'4 (I 1) fun v36 =>
        K0 v5'5 v7'4 v10'4 v11'4 v36) (
        CF Try.prog 15 [] fun v116 =>
        S.gd v116 true (fun k => k v11) fun v118 =>
        S.gd v116 true (fun k => S.bin .leq v118 (I 1) k) fun v119 =>
        S.pick v116 v119 (B false) fun v120 =>
        S.gd v120 true (fun k => k v7) fun v122 =>
        S.gd v120 true (fun k => CF Try.prog 19 [v122] k) fun v123 =>
        S.gd v120 true (fun k => S.len v123 k) fun v124 =>
        S.gd v120 true (fun k => S.bin .eql v124 (I 0) k) fun v125 =>
        S.pick v120 v125 (B false) fun v126 =>
        K v126))
    [v5, v19, v27, (I 0), (I 0)])
theorem e5 (v0 v1 v2 : Value) (K : Value → WT) : s5 v0 v1 v2 K = shal Try.prog Try.f5 .p a5 [v0, v1, v2] K := by kernel_rfl
theorem c5 {v0 v1 v2 : Value} {K : Value → WT} {w : World} (h : s5 v0 v1 v2 K w) : CF Try.prog 5 [v0, v1, v2] K w := shal_sound Try.func5 (e5 v0 v1 v2 K ▸ h)

/-- aumbry/aumbrylaw03.DiskPlays -/
def a6 : Ann := .seq (.z) (.seq (.z) (.seq (.z) (.z)))
def s6 (n_0 l_1 : Value) (K : Value → WT) : WT :=
  CF Try.prog 20 [n_0, l_1] fun v11 =>
  S.ext v11 0 fun v12 =>
  S.ext v11 1 fun v13 =>
  S.ext v11 2 fun v14 =>
  S.gd v14 true (fun k => CF Try.prog 15 [] k) fun v17 =>
  S.pick v14 v17 (B false) fun v18 =>
  S.gd v18 true (fun k => k v12) fun v20 =>
  S.gd v18 true (fun k => k v13) fun v21 =>
  S.gd v18 true (fun k => CF Try.prog 27 [v20, v21] k) fun v22 =>
  S.pick v18 v22 (B false) fun v23 =>
  K v23
theorem e6 (n_0 l_1 : Value) (K : Value → WT) : s6 n_0 l_1 K = shal Try.prog Try.f6 .p a6 [n_0, l_1] K := by kernel_rfl
theorem c6 {n_0 l_1 : Value} {K : Value → WT} {w : World} (h : s6 n_0 l_1 K w) : CF Try.prog 6 [n_0, l_1] K w := shal_sound Try.func6 (e6 n_0 l_1 K ▸ h)

/-- aumbry/aumbrylaw03.DiskAll -/
def a7 : Ann := .seq (.z) (.seq (.z) (.seq (.seq (.z) (.cond (.seq (.z) (.z)) (.z))) (.seq (.z) (.seq (.z) (.seq (.z) (.seq (.z) (.seq (.seq (.z) (.blk (.loop [5, 7, 10, 11, 12, 13, 14] (.seq (.seq (.z) (.cond (.z) (.z))) (.seq (.blk (.z)) (.z)))))) (.seq (.z) (.seq (.z) (.seq (.join [5, 7, 11, 12, 15, 65] (.z) (.cond (.seq (.z) (.z)) (.z))) (.seq (.z) (.seq (.z) (.seq (.seq (.z) (.blk (.loop [7, 11, 12, 15, 16, 17] (.seq (.seq (.z) (.cond (.z) (.z))) (.seq (.blk (.seq (.z) (.seq (.z) (.seq (.z) (.join [7, 11, 12, 15, 16, 17, 118] (.z) (.cond (.seq (.z) (.z)) (.z))))))) (.z)))))) (.seq (.z) (.z)))))))))))))))
def s7 (v0 v1 v2 : Value) (K : Value → WT) : WT :=
  S.box 35 v2 fun v5 =>
  CF Try.prog 20 [v0, v1] fun v27 =>
  S.ext v27 0 fun v28 =>
  S.ext v27 1 fun v29 =>
  S.ext v27 2 fun v30 =>
  S.not1 v30 fun v32 =>
  S.cond v32 (
    K (B false)) (
    CF Try.prog 28 [v28] fun v34 =>
    CF Try.prog 28 [v28] fun v36 =>
    CF Try.prog 19 [v28] fun v38 =>
    S.loop 7 (fun K0 => fun v5' v7 v10 v11 v12 v13 v14 => S.fa fun _ =>
      S.len v13 fun v41 =>
      S.bin .lss v14 v41 fun v42 =>
      S.cond v42 (
        V Try.prog (Instr.buildSlice 33 1 #[(0, (B true))]) fun v46 =>
        V Try.prog (Builtin.append_ #[33, 33] 33 #[v10, v46]) fun v47 =>
        S.bin .add v14 (I 1) fun v44 =>
        K0 v5' v7 v47 v11 v12 v13 v44) (
        V Try.prog (Instr.build 35 #[(0, v10), (1, (I (-1)))]) fun v50 =>
        CF Try.prog 21 [v11, v50] fun v51 =>
        CF Try.prog 18 [v12] fun v53 =>
        S.join 6 (fun K1 =>
          S.not1 v53 fun v55 =>
          S.gd v55 true (fun k => k v12) fun v57 =>
          S.gd v55 true (fun k => CF Try.prog 22 [v57, (I 0)] k) fun v58 =>
          S.gd v55 true (fun k => S.bin .neq v58 (I 0) k) fun v59 =>
          S.gd v55 true (fun k => k v59) fun v60 =>
          S.gd v60 false (fun k => k v12) fun v61 =>
          S.gd v60 false (fun k => CF Try.prog 24 [v61] k) fun v62 =>
          S.gd v60 false (fun k => S.bin .neq v62 (I 0) k) fun v63 =>
          S.gd v55 true (fun k => S.pick v60 (B true) v63 k) fun v64 =>
          S.pick v55 v64 (B false) fun v65 =>
          K1 v5' v7 v11 v12 v53 v65)
        <| fun v5'2 v7' v11' v12' v15 v65' => S.fa fun _ =>
        S.cond v65' (
          K (B false)) (
          CF Try.prog 28 [v11'] fun v67 =>
          S.ldN 3 v5'2 fun v69 =>
          CF Try.prog 21 [v67, v69] fun v70 =>
          S.loop 6 (fun K2 => fun v7'2 v11'2 v12'2 v15' v16 v17 => S.fa fun _ =>
            CF Try.prog 16 [v7'2] fun v73 =>
            S.bin .lss v17 v73 fun v74 =>
            S.cond v74 (
              CF Try.prog 25 [v11'2, v17] fun v80 =>
              S.ext v80 0 fun v81 =>
              S.ext v80 1 fun v82 =>
              CF Try.prog 25 [v12'2, v17] fun v86 =>
              S.ext v86 0 fun v87 =>
              S.ext v86 1 fun v88 =>
              CF Try.prog 25 [v16, v17] fun v92 =>
              S.ext v92 0 fun v93 =>
              S.ext v92 1 fun v94 =>
              S.join 7 (fun K3 =>
                S.bin .neq v82 (I 0) fun v96 =>
                S.gd v96 false (fun k => k v15') fun v98 =>
                S.gd v96 false (fun k => S.not1 v98 k) fun v99 =>
                S.gd v96 false (fun k => k v99) fun v100 =>
                S.gd v100 true (fun k => k v88) fun v101 =>
                S.gd v100 true (fun k => S.bin .neq v101 (I 0) k) fun v102 =>
                S.gd v100 true (fun k => k v102) fun v103 =>
                S.gd v103 false (fun k => k v81) fun v104 =>
                S.gd v103 false (fun k => S.b2s v104 k) fun v105 =>
                S.gd v103 false (fun k => k v87) fun v106 =>
                S.gd v103 false (fun k => S.b2s v106 k) fun v107 =>
                S.gd v103 false (fun k => S.sbin .neq v105 v107 k) fun v108 =>
                S.gd v100 true (fun k => S.pick v103 (B true) v108 k) fun v109 =>
                S.gd v96 false (fun k => S.pick v100 v109 (B false) k) fun v110 =>
                S.pick v96 (B true) v110 fun v111 =>
                S.gd v111 false (fun k => k v81) fun v113 =>
                S.gd v111 false (fun k => S.b2s v113 k) fun v114 =>
                S.gd v111 false (fun k => k v93) fun v115 =>
                S.gd v111 false (fun k => S.b2s v115 k) fun v116 =>
                S.gd v111 false (fun k => S.sbin .neq v114 v116 k) fun v117 =>
                S.pick v111 (B true) v117 fun v118 =>
                K3 v7'2 v11'2 v12'2 v15' v16 v17 v118)
              <| fun v7'3 v11'3 v12'3 v15'2 v16' v17' v118' => S.fa fun _ =>
              S.cond v118' (
                K (B false)) (
                S.bin .add v17' (I 1) fun v76 =>
                K2 v7'3 v11'3 v12'3 v15'2 v16' v76)) (
              CF Try.prog 15 [] fun v119 =>
              K v119))
          [v7', v11', v12', v15, v67, (I 0)])))
    [v5, v28, (.slice none 0 0), v34, v36, v38, (I 0)])
theorem e7 (v0 v1 v2 : Value) (K : Value → WT) : s7 v0 v1 v2 K = shal Try.prog Try.f7 .p a7 [v0, v1, v2] K := by kernel_rfl
theorem c7 {v0 v1 v2 : Value} {K : Value → WT} {w : World} (h : s7 v0 v1 v2 K w) : CF Try.prog 7 [v0, v1, v2] K w := shal_sound Try.func7 (e7 v0 v1 v2 K ▸ h)

/-- aumbry/aumbrylaw03.DiskForks -/
def a8 : Ann := .seq (.z) (.seq (.z) (.seq (.seq (.z) (.cond (.seq (.z) (.z)) (.z))) (.seq (.z) (.seq (.seq (.z) (.blk (.loop [0, 2, 3, 9, 10, 12, 13, 14] (.seq (.join [0, 2, 3, 9, 10, 12, 13, 14, 38] (.z) (.cond (.z) (.z))) (.seq (.blk (.seq (.z) (.cond (.seq (.z) (.z)) (.z)))) (.z)))))) (.seq (.z) (.seq (.z) (.seq (.z) (.seq (.z) (.z)))))))))
def s8 (v0 v1 v2 v3 : Value) (K : Value → WT) : WT :=
  CF Try.prog 20 [v0, v1] fun v21 =>
  S.ext v21 0 fun v22 =>
  S.ext v21 1 fun v23 =>
  S.ext v21 2 fun v24 =>
  S.not1 v24 fun v26 =>
  S.cond v26 (
    K (B false)) (
    CF Try.prog 28 [v22] fun v28 =>
    CF Try.prog 29 [v23] fun v30 =>
    S.loop 8 (fun K0 => fun v0' v2' v3' v9 v10 v12 v13 v14 => S.fa fun _ =>
      S.join 9 (fun K1 =>
        S.len v2' fun v33 =>
        S.bin .lss v14 v33 fun v34 =>
        S.gd v34 true (fun k => k v14) fun v36 =>
        S.gd v34 true (fun k => S.bin .lss v36 (I 100) k) fun v37 =>
        S.pick v34 v37 (B false) fun v38 =>
        K1 v0' v2' v3' v9 v10 v12 v13 v14 v38)
      <| fun v0'2 v2'2 v3'2 v9' v10' v12' v13' v14' v38' => S.fa fun _ =>
      S.cond v38' (
        S.ixS 6 v2'2 v14' fun v45 =>
        S.ldN 6 v45 fun v46 =>
        CF Try.prog 30 [v12', v13', v46] fun v47 =>
        S.not1 v47 fun v48 =>
        S.cond v48 (
          K (B false)) (
          S.bin .add v14' (I 1) fun v40 =>
          K0 v0'2 v2'2 v3'2 v9' v10' v12' v13' v40)) (
        CF Try.prog 25 [(.pointer none), v0'2] fun v52 =>
        S.ext v52 0 fun v53 =>
        S.ext v52 1 fun v54 =>
        V Try.prog (Instr.build 35 #[]) fun v56 =>
        CF Try.prog 21 [(.pointer none), v56] fun v57 =>
        CF Try.prog 15 [] fun v58 =>
        S.gd v58 true (fun k => k v9') fun v60 =>
        S.gd v58 true (fun k => k v10') fun v61 =>
        S.gd v58 true (fun k => CF Try.prog 27 [v60, v61] k) fun v62 =>
        S.pick v58 v62 (B false) fun v63 =>
        S.gd v63 true (fun k => k v12') fun v65 =>
        S.gd v63 true (fun k => k v13') fun v66 =>
        S.gd v63 true (fun k => CF Try.prog 27 [v65, v66] k) fun v67 =>
        S.pick v63 v67 (B false) fun v68 =>
        S.gd v68 true (fun k => k (.pointer none)) fun v70 =>
        S.gd v68 true (fun k => k v0'2) fun v71 =>
        S.gd v68 true (fun k => k v3'2) fun v72 =>
        S.gd v68 true (fun k => CF Try.prog 23 [v70, v71, v72] k) fun v73 =>
        S.gd v68 true (fun k => S.bin .eql v73 (I 1) k) fun v74 =>
        S.pick v68 v74 (B false) fun v75 =>
        S.gd v75 true (fun k => k v54) fun v77 =>
        S.gd v75 true (fun k => S.bin .eql v77 (I 1) k) fun v78 =>
        S.pick v75 v78 (B false) fun v79 =>
        S.gd v79 true (fun k => k (.pointer none)) fun v81 =>
        S.gd v79 true (fun k => CF Try.prog 24 [v81] k) fun v82 =>
        S.gd v79 true (fun k => S.bin .eql v82 (I 1) k) fun v83 =>
        S.pick v79 v83 (B false) fun v84 =>
        S.gd v84 true (fun k => k (.pointer none)) fun v86 =>
        S.gd v84 true (fun k => k v0'2) fun v87 =>
        S.gd v84 true (fun k => CF Try.prog 22 [v86, v87] k) fun v88 =>
        S.gd v84 true (fun k => S.bin .eql v88 (I 1) k) fun v89 =>
        S.pick v84 v89 (B false) fun v90 =>
        S.gd v90 true (fun k => k (.pointer none)) fun v92 =>
        S.gd v90 true (fun k => k v0'2) fun v93 =>
        S.gd v90 true (fun k => k v3'2) fun v94 =>
        S.gd v90 true (fun k => CF Try.prog 26 [v92, v93, v94] k) fun v95 =>
        S.gd v90 true (fun k => S.bin .eql v95 (I 1) k) fun v96 =>
        S.pick v90 v96 (B false) fun v97 =>
        S.gd v97 true (fun k => k (.pointer none)) fun v99 =>
        S.gd v97 true (fun k => CF Try.prog 18 [v99] k) fun v100 =>
        S.gd v97 true (fun k => S.not1 v100 k) fun v101 =>
        S.pick v97 v101 (B false) fun v102 =>
        S.gd v102 true (fun k => k (.pointer none)) fun v104 =>
        S.gd v102 true (fun k => CF Try.prog 16 [v104] k) fun v105 =>
        S.gd v102 true (fun k => k (.pointer none)) fun v106 =>
        S.gd v102 true (fun k => CF Try.prog 17 [v106] k) fun v107 =>
        S.gd v102 true (fun k => S.bin .add v105 v107 k) fun v108 =>
        S.gd v102 true (fun k => k (.pointer none)) fun v109 =>
        S.gd v102 true (fun k => CF Try.prog 19 [v109] k) fun v110 =>
        S.gd v102 true (fun k => S.len v110 k) fun v111 =>
        S.gd v102 true (fun k => S.bin .add v108 v111 k) fun v112 =>
        S.gd v102 true (fun k => S.bin .eql v112 (I 0) k) fun v113 =>
        S.pick v102 v113 (B false) fun v114 =>
        S.gd v114 true (fun k => k (.pointer none)) fun v116 =>
        S.gd v114 true (fun k => CF Try.prog 28 [v116] k) fun v117 =>
        S.gd v114 true (fun k => S.eqv Try.prog .eql 22 true v117 (.pointer none) k) fun v118 =>
        S.pick v114 v118 (B false) fun v119 =>
        K v119))
    [v0, v2, v3, v22, v23, v28, v30, (I 0)])
theorem e8 (v0 v1 v2 v3 : Value) (K : Value → WT) : s8 v0 v1 v2 v3 K = shal Try.prog Try.f8 .p a8 [v0, v1, v2, v3] K := by kernel_rfl
theorem c8 {v0 v1 v2 v3 : Value} {K : Value → WT} {w : World} (h : s8 v0 v1 v2 v3 K w) : CF Try.prog 8 [v0, v1, v2, v3] K w := shal_sound Try.func8 (e8 v0 v1 v2 v3 K ▸ h)

/-- aumbry/aumbrylaw18.CleanChooses -/
def a9 : Ann := .seq (.z) (.seq (.z) (.seq (.z) (.seq (.z) (.z))))
def s9 (l_0 percent_1 most_2 : Value) (K : Value → WT) : WT :=
  CF Try.prog 31 [l_0, percent_1, most_2] fun v15 =>
  S.ext v15 0 fun v16 =>
  S.ext v15 1 fun v17 =>
  CF Try.prog 32 [l_0, percent_1, most_2] fun v22 =>
  S.ext v22 0 fun v23 =>
  S.ext v22 1 fun v24 =>
  CF Try.prog 33 [] fun v25 =>
  S.gd v25 true (fun k => k v16) fun v27 =>
  S.gd v25 true (fun k => k v23) fun v28 =>
  S.gd v25 true (fun k => CF Try.prog 34 [v27, v28] k) fun v29 =>
  S.pick v25 v29 (B false) fun v30 =>
  S.gd v30 true (fun k => k v17) fun v32 =>
  S.gd v30 true (fun k => k v24) fun v33 =>
  S.gd v30 true (fun k => S.bin .eql v32 v33 k) fun v34 =>
  S.pick v30 v34 (B false) fun v35 =>
  K v35
theorem e9 (l_0 percent_1 most_2 : Value) (K : Value → WT) : s9 l_0 percent_1 most_2 K = shal Try.prog Try.f9 .p a9 [l_0, percent_1, most_2] K := by kernel_rfl
theorem c9 {l_0 percent_1 most_2 : Value} {K : Value → WT} {w : World} (h : s9 l_0 percent_1 most_2 K w) : CF Try.prog 9 [l_0, percent_1, most_2] K w := shal_sound Try.func9 (e9 l_0 percent_1 most_2 K ▸ h)

/-- aumbry/aumbrylaw18.CleanAll -/
def a10 : Ann := .seq (.z) (.seq (.z) (.seq (.seq (.z) (.blk (.loop [0, 1, 5, 6] (.seq (.join [0, 1, 5, 6, 22] (.z) (.cond (.z) (.z))) (.join [0, 1, 5, 6] (.blk (.seq (.z) (.seq (.seq (.z) (.blk (.loop [0, 1, 5, 6, 7, 8] (.seq (.seq (.z) (.cond (.z) (.z))) (.seq (.blk (.draw [0, 1, 2, 3, 4, 5, 6, 7, 8, 9, 10, 11, 12, 13, 14])) (.z)))))) (.seq (.z) (.cond (.z) (.z)))))) (.z)))))) (.seq (.z) (.seq (.z) (.seq (.join [9, 10, 72] (.z) (.cond (.seq (.z) (.z)) (.z))) (.seq (.seq (.z) (.blk (.loop [9, 10, 12] (.seq (.seq (.z) (.cond (.z) (.z))) (.seq (.blk (.seq (.z) (.seq (.seq (.z) (.blk (.loop [9, 10, 12, 13, 14] (.seq (.seq (.z) (.cond (.z) (.z))) (.join [9, 10, 12, 13, 14] (.blk (.seq (.draw [0, 1, 2, 3, 4, 5, 6, 7, 8, 9]) (.cond (.z) (.z)))) (.z)))))) (.join [9, 10, 12, 126] (.draw [0, 1, 2, 3, 4, 5, 6, 7, 8, 9, 10, 11, 12, 13, 14, 15, 16, 17, 18, 19, 20, 21, 22, 23, 24, 25, 26, 27, 28, 29]) (.cond (.seq (.z) (.z)) (.z)))))) (.z)))))) (.seq (.z) (.z))))))))
def s10 (v0 v1 : Value) (K : Value → WT) : WT :=
  S.loop 4 (fun K0 => fun v0' v1' v5 v6 => S.fa fun _ =>
    S.join 5 (fun K1 =>
      S.len v0' fun v17 =>
      S.bin .lss v6 v17 fun v18 =>
      S.gd v18 true (fun k => k v6) fun v20 =>
      S.gd v18 true (fun k => S.bin .lss v20 (I 60) k) fun v21 =>
      S.pick v18 v21 (B false) fun v22 =>
      K1 v0' v1' v5 v6 v22)
    <| fun v0'2 v1'2 v5' v6' v22' => S.fa fun _ =>
    S.cond v22' (
      S.join 4 (fun K2 =>
        S.loop 6 (fun K3 => fun v0'3 v1'3 v5'2 v6'2 v7 v8 => S.fa fun _ =>
          S.len v5'2 fun v27 =>
          S.bin .lss v8 v27 fun v28 =>
          S.cond v28 (
            S.dr <|
            S.gd v7 false (fun k => k v5'2) fun v33 =>
            S.gd v7 false (fun k => k v8) fun v34 =>
            S.gd v7 false (fun k => S.ixS 2 v33 v34 k) fun v35 =>
            S.gd v7 false (fun k => S.fad v35 0 k) fun v36 =>
            S.gd v7 false (fun k => S.ld v36 k) fun v37 =>
            S.gd v7 false (fun k => k v0'3) fun v38 =>
            S.gd v7 false (fun k => k v6'2) fun v39 =>
            S.gd v7 false (fun k => S.ixS 2 v38 v39 k) fun v40 =>
            S.gd v7 false (fun k => S.fad v40 0 k) fun v41 =>
            S.gd v7 false (fun k => S.ld v41 k) fun v42 =>
            S.gd v7 false (fun k => S.bin .eql v37 v42 k) fun v43 =>
            S.pick v7 (B true) v43 fun v44 =>
            S.bin .add v8 (I 1) fun v30 =>
            K3 v0'3 v1'3 v5'2 v6'2 v44 v30) (
            S.not1 v7 fun v46 =>
            S.cond v46 (
              S.ixS 2 v0'3 v6'2 fun v50 =>
              S.ldN 2 v50 fun v51 =>
              V Try.prog (Instr.buildSlice 65 1 #[(0, v51)]) fun v52 =>
              V Try.prog (Builtin.append_ #[65, 65] 65 #[v5'2, v52]) fun v53 =>
              K2 v0'3 v1'3 v53 v6'2) (
              K2 v0'3 v1'3 v5'2 v6'2)))
        [v0'2, v1'2, v5', v6', (B false), (I 0)])
      <| fun v0'4 v1'4 v5'3 v6'3 => S.fa fun _ =>
      S.bin .add v6'3 (I 1) fun v24 =>
      K0 v0'4 v1'4 v5'3 v24) (
      CF Try.prog 35 [v5', v1'2] fun v56 =>
      S.len v5' fun v60 =>
      CF Try.prog 31 [v56, (I 100), v60] fun v61 =>
      S.ext v61 0 fun v62 =>
      S.ext v61 1 fun v63 =>
      S.join 3 (fun K4 =>
        S.bin .neq v63 (I 0) fun v65 =>
        S.gd v65 false (fun k => k v56) fun v67 =>
        S.gd v65 false (fun k => S.len v67 k) fun v68 =>
        S.gd v65 false (fun k => k v5') fun v69 =>
        S.gd v65 false (fun k => S.len v69 k) fun v70 =>
        S.gd v65 false (fun k => S.bin .neq v68 v70 k) fun v71 =>
        S.pick v65 (B true) v71 fun v72 =>
        K4 v56 v62 v72)
      <| fun v9 v10 v72' => S.fa fun _ =>
      S.cond v72' (
        K (B false)) (
        S.loop 3 (fun K5 => fun v9' v10' v12 => S.fa fun _ =>
          S.len v9' fun v75 =>
          S.bin .lss v12 v75 fun v76 =>
          S.cond v76 (
            S.loop 5 (fun K6 => fun v9'2 v10'2 v12' v13 v14 => S.fa fun _ =>
              S.len v10'2 fun v81 =>
              S.bin .lss v14 v81 fun v82 =>
              S.cond v82 (
                S.join 5 (fun K7 =>
                  S.dr <|
                  S.ixS 1 v10'2 v14 fun v87 =>
                  S.ld v87 fun v88 =>
                  S.ixS 3 v9'2 v12' fun v91 =>
                  S.fad v91 0 fun v92 =>
                  S.ld v92 fun v93 =>
                  S.bin .eql v88 v93 fun v94 =>
                  S.cond v94 (
                    S.bin .add v13 (I 1) fun v96 =>
                    K7 v9'2 v10'2 v12' v96 v14) (
                    K7 v9'2 v10'2 v12' v13 v14))
                <| fun v9'3 v10'3 v12'2 v13' v14' => S.fa fun _ =>
                S.bin .add v14' (I 1) fun v84 =>
                K6 v9'3 v10'3 v12'2 v13' v84) (
                S.join 4 (fun K8 =>
                  S.dr <|
                  S.bin .neq v13 (I 0) fun v98 =>
                  S.gd v98 true (fun k => k v13) fun v100 =>
                  S.gd v98 true (fun k => S.bin .neq v100 (I 1) k) fun v101 =>
                  S.pick v98 v101 (B false) fun v102 =>
                  S.gd v102 false (fun k => k v13) fun v104 =>
                  S.gd v102 false (fun k => S.bin .eql v104 (I 0) k) fun v105 =>
                  S.gd v102 false (fun k => k v9'2) fun v106 =>
                  S.gd v102 false (fun k => k v12') fun v107 =>
                  S.gd v102 false (fun k => S.ixS 3 v106 v107 k) fun v108 =>
                  S.gd v102 false (fun k => S.fad v108 1 k) fun v109 =>
                  S.gd v102 false (fun k => S.ld v109 k) fun v110 =>
                  S.gd v102 false (fun k => S.bin .gtr v110 (I 0) k) fun v111 =>
                  S.gd v102 false (fun k => k v111) fun v112 =>
                  S.gd v112 true (fun k => k v9'2) fun v113 =>
                  S.gd v112 true (fun k => k v12') fun v114 =>
                  S.gd v112 true (fun k => S.ixS 3 v113 v114 k) fun v115 =>
                  S.gd v112 true (fun k => S.fad v115 2 k) fun v116 =>
                  S.gd v112 true (fun k => S.ld v116 k) fun v117 =>
                  S.gd v112 true (fun k => k v9'2) fun v118 =>
                  S.gd v112 true (fun k => k v12') fun v119 =>
                  S.gd v112 true (fun k => S.ixS 3 v118 v119 k) fun v120 =>
                  S.gd v112 true (fun k => S.fad v120 1 k) fun v121 =>
                  S.gd v112 true (fun k => S.ld v121 k) fun v122 =>
                  S.gd v112 true (fun k => S.bin .eql v117 v122 k) fun v123 =>
                  S.gd v102 false (fun k => S.pick v112 v123 (B false) k) fun v124 =>
                  S.gd v102 false (fun k => S.beq .neq v105 v124 k) fun v125 =>
                  S.pick v102 (B true) v125 fun v126 =>
                  K8 v9'2 v10'2 v12' v126)
                <| fun v9'4 v10'4 v12'3 v126' => S.fa fun _ =>
                S.cond v126' (
                  K (B false)) (
                  S.bin .add v12'3 (I 1) fun v78 =>
                  K5 v9'4 v10'4 v78)))
            [v9', v10', v12, (I 0), (I 0)]) (
            CF Try.prog 33 [] fun v127 =>
            K v127))
        [v9, v10, (I 0)])))
  [v0, v1, (.slice none 0 0), (I 0)]
theorem e10 (v0 v1 : Value) (K : Value → WT) : s10 v0 v1 K = shal Try.prog Try.f10 .p a10 [v0, v1] K := by kernel_rfl
theorem c10 {v0 v1 : Value} {K : Value → WT} {w : World} (h : s10 v0 v1 K w) : CF Try.prog 10 [v0, v1] K w := shal_sound Try.func10 (e10 v0 v1 K ▸ h)

/-- aumbry/aumbrylaw18.CleanFirst -/
def a11 : Ann := .seq (.z) (.seq (.z) (.seq (.seq (.z) (.blk (.loop [0, 1, 2, 7, 8] (.seq (.join [0, 1, 2, 7, 8, 27] (.z) (.cond (.z) (.z))) (.seq (.blk (.seq (.draw [0, 1, 2, 3, 4, 5, 6, 7, 8, 9, 10, 11, 12, 13, 14, 15]) (.z))) (.z)))))) (.seq (.z) (.seq (.z) (.seq (.z) (.seq (.join [7, 12, 14, 96] (.z) (.cond (.seq (.z) (.z)) (.z))) (.seq (.seq (.z) (.blk (.loop [7, 12, 14, 16] (.seq (.seq (.z) (.cond (.z) (.z))) (.seq (.blk (.seq (.z) (.seq (.join [7, 12, 14, 16, 17, 128] (.z) (.cond (.seq (.z) (.z)) (.z))) (.seq (.z) (.blk (.loop [7, 12, 14, 16, 17, 18] (.seq (.seq (.z) (.cond (.z) (.z))) (.seq (.blk (.seq (.z) (.join [7, 12, 14, 16, 17, 18, 175] (.draw [0, 1, 2, 3, 4, 5, 6, 7, 8, 9, 10, 11, 12, 13, 14, 15, 16, 17, 18, 19, 20, 21, 22, 23, 24, 25, 26, 27, 28, 29, 30, 31, 32, 33, 34]) (.cond (.seq (.z) (.z)) (.z))))) (.z))))))))) (.z)))))) (.seq (.z) (.z)))))))))
def s11 (v0 v1 v2 : Value) (K : Value → WT) : WT :=
  S.loop 5 (fun K0 => fun v0' v1' v2' v7 v8 => S.fa fun _ =>
    S.join 6 (fun K1 =>
      S.len v0' fun v22 =>
      S.bin .lss v8 v22 fun v23 =>
      S.gd v23 true (fun k => k v8) fun v25 =>
      S.gd v23 true (fun k => S.bin .lss v25 (I 60) k) fun v26 =>
      S.pick v23 v26 (B false) fun v27 =>
      K1 v0' v1' v2' v7 v8 v27)
    <| fun v0'2 v1'2 v2'2 v7' v8' v27' => S.fa fun _ =>
    S.cond v27' (
      S.dr <|
      S.ixS 2 v0'2 v8' fun v32 =>
      S.ixA 2 1 v32 (I 0) fun v33 =>
      S.ld v33 fun v34 =>
      S.cvt .i64 v34 fun v35 =>
      S.bin .rem v35 (I 32769) fun v36 =>
      S.ixS 2 v0'2 v8' fun v39 =>
      S.ixA 2 1 v39 (I 1) fun v40 =>
      S.ld v40 fun v41 =>
      S.cvt .i64 v41 fun v42 =>
      S.bin .rem v42 (I 32769) fun v43 =>
      S.mx v36 v43 fun v48 =>
      S.mn v36 v43 fun v51 =>
      V Try.prog (Instr.build 71 #[(0, v8'), (1, v48), (2, v51)]) fun v52 =>
      V Try.prog (Instr.buildSlice 60 1 #[(0, v52)]) fun v53 =>
      V Try.prog (Builtin.append_ #[60, 60] 60 #[v7', v53]) fun v54 =>
      S.bin .add v8' (I 1) fun v29 =>
      K0 v0'2 v1'2 v2'2 v54 v29) (
      S.cvt .i64 v1'2 fun v56 =>
      S.bin .rem v56 (I 101) fun v57 =>
      S.cvt .i64 v2'2 fun v62 =>
      CF Try.prog 31 [v7', v57, v62] fun v63 =>
      S.ext v63 0 fun v64 =>
      S.ext v63 1 fun v65 =>
      S.len v7' fun v70 =>
      CF Try.prog 31 [v7', v57, v70] fun v71 =>
      S.ext v71 0 fun v72 =>
      S.ext v71 1 fun v73 =>
      S.join 4 (fun K2 =>
        S.bin .neq v65 (I 0) fun v75 =>
        S.gd v75 false (fun k => k v73) fun v77 =>
        S.gd v75 false (fun k => S.bin .neq v77 (I 0) k) fun v78 =>
        S.pick v75 (B true) v78 fun v79 =>
        S.gd v79 false (fun k => k v64) fun v81 =>
        S.gd v79 false (fun k => S.len v81 k) fun v82 =>
        S.gd v79 false (fun k => k v2'2) fun v83 =>
        S.gd v79 false (fun k => S.cvt .i64 v83 k) fun v84 =>
        S.gd v79 false (fun k => S.bin .gtr v82 v84 k) fun v85 =>
        S.pick v79 (B true) v85 fun v86 =>
        S.gd v86 false (fun k => k v64) fun v88 =>
        S.gd v86 false (fun k => S.len v88 k) fun v89 =>
        S.gd v86 false (fun k => k v72) fun v90 =>
        S.gd v86 false (fun k => S.len v90 k) fun v91 =>
        S.gd v86 false (fun k => k v2'2) fun v92 =>
        S.gd v86 false (fun k => S.cvt .i64 v92 k) fun v93 =>
        S.gd v86 false (fun k => S.mn v91 v93 k) fun v94 =>
        S.gd v86 false (fun k => S.bin .neq v89 v94 k) fun v95 =>
        S.pick v86 (B true) v95 fun v96 =>
        K2 v7' v64 v72 v96)
      <| fun v7'2 v12 v14 v96' => S.fa fun _ =>
      S.cond v96' (
        K (B false)) (
        S.loop 4 (fun K3 => fun v7'3 v12' v14' v16 => S.fa fun _ =>
          S.len v14' fun v99 =>
          S.bin .lss v16 v99 fun v100 =>
          S.cond v100 (
            S.ixS 1 v14' v16 fun v105 =>
            S.ld v105 fun v106 =>
            S.join 6 (fun K4 =>
              S.bin .lss v106 (I 0) fun v108 =>
              S.gd v108 false (fun k => k v106) fun v110 =>
              S.gd v108 false (fun k => k v7'3) fun v111 =>
              S.gd v108 false (fun k => S.len v111 k) fun v112 =>
              S.gd v108 false (fun k => S.bin .geq v110 v112 k) fun v113 =>
              S.pick v108 (B true) v113 fun v114 =>
              S.gd v114 false (fun k => k v16) fun v116 =>
              S.gd v114 false (fun k => k v12') fun v117 =>
              S.gd v114 false (fun k => S.len v117 k) fun v118 =>
              S.gd v114 false (fun k => S.bin .lss v116 v118 k) fun v119 =>
              S.gd v114 false (fun k => k v119) fun v120 =>
              S.gd v120 true (fun k => k v12') fun v121 =>
              S.gd v120 true (fun k => k v16) fun v122 =>
              S.gd v120 true (fun k => S.ixS 1 v121 v122 k) fun v123 =>
              S.gd v120 true (fun k => S.ld v123 k) fun v124 =>
              S.gd v120 true (fun k => k v106) fun v125 =>
              S.gd v120 true (fun k => S.bin .neq v124 v125 k) fun v126 =>
              S.gd v114 false (fun k => S.pick v120 v126 (B false) k) fun v127 =>
              S.pick v114 (B true) v127 fun v128 =>
              K4 v7'3 v12' v14' v16 v106 v128)
            <| fun v7'4 v12'2 v14'2 v16' v17 v128' => S.fa fun _ =>
            S.cond v128' (
              K (B false)) (
              S.bin .add v16' (I 1) fun v130 =>
              S.loop 6 (fun K5 => fun v7'5 v12'3 v14'3 v16'2 v17' v18 => S.fa fun _ =>
                S.len v14'3 fun v133 =>
                S.bin .lss v18 v133 fun v134 =>
                S.cond v134 (
                  S.ixS 1 v14'3 v18 fun v139 =>
                  S.ld v139 fun v140 =>
                  S.join 7 (fun K6 =>
                    S.dr <|
                    S.bin .lss v140 (I 0) fun v142 =>
                    S.gd v142 false (fun k => k v140) fun v144 =>
                    S.gd v142 false (fun k => k v7'5) fun v145 =>
                    S.gd v142 false (fun k => S.len v145 k) fun v146 =>
                    S.gd v142 false (fun k => S.bin .geq v144 v146 k) fun v147 =>
                    S.pick v142 (B true) v147 fun v148 =>
                    S.gd v148 false (fun k => k v7'5) fun v150 =>
                    S.gd v148 false (fun k => k v17') fun v151 =>
                    S.gd v148 false (fun k => S.ixS 3 v150 v151 k) fun v152 =>
                    S.gd v148 false (fun k => S.fad v152 2 k) fun v153 =>
                    S.gd v148 false (fun k => S.ld v153 k) fun v154 =>
                    S.gd v148 false (fun k => k v7'5) fun v155 =>
                    S.gd v148 false (fun k => k v140) fun v156 =>
                    S.gd v148 false (fun k => S.ixS 3 v155 v156 k) fun v157 =>
                    S.gd v148 false (fun k => S.fad v157 1 k) fun v158 =>
                    S.gd v148 false (fun k => S.ld v158 k) fun v159 =>
                    S.gd v148 false (fun k => S.mx v159 (I 1) k) fun v160 =>
                    S.gd v148 false (fun k => S.bin .mul v154 v160 k) fun v161 =>
                    S.gd v148 false (fun k => k v7'5) fun v162 =>
                    S.gd v148 false (fun k => k v140) fun v163 =>
                    S.gd v148 false (fun k => S.ixS 3 v162 v163 k) fun v164 =>
                    S.gd v148 false (fun k => S.fad v164 2 k) fun v165 =>
                    S.gd v148 false (fun k => S.ld v165 k) fun v166 =>
                    S.gd v148 false (fun k => k v7'5) fun v167 =>
                    S.gd v148 false (fun k => k v17') fun v168 =>
                    S.gd v148 false (fun k => S.ixS 3 v167 v168 k) fun v169 =>
                    S.gd v148 false (fun k => S.fad v169 1 k) fun v170 =>
                    S.gd v148 false (fun k => S.ld v170 k) fun v171 =>
                    S.gd v148 false (fun k => S.mx v171 (I 1) k) fun v172 =>
                    S.gd v148 false (fun k => S.bin .mul v166 v172 k) fun v173 =>
                    S.gd v148 false (fun k => S.bin .gtr v161 v173 k) fun v174 =>
                    S.pick v148 (B true) v174 fun v175 =>
                    K6 v7'5 v12'3 v14'3 v16'2 v17' v18 v175)
                  <| fun v7'6 v12'4 v14'4 v16'3 v17'2 v18' v175' => S.fa fun _ =>
                  S.cond v175' (
                    K (B false)) (
                    S.bin .add v18' (I 1) fun v136 =>
                    K5 v7'6 v12'4 v14'4 v16'3 v17'2 v136)) (
                  S.bin .add v16'2 (I 1) fun v102 =>
                  K3 v7'5 v12'3 v14'3 v102))
              [v7'4, v12'2, v14'2, v16', v17, v130])) (
            CF Try.prog 33 [] fun v176 =>
            K v176))
        [v7'2, v12, v14, (I 0)])))
  [v0, v1, v2, (.slice none 0 0), (I 0)]
theorem e11 (v0 v1 v2 : Value) (K : Value → WT) : s11 v0 v1 v2 K = shal Try.prog Try.f11 .p a11 [v0, v1, v2] K := by kernel_rfl
theorem c11 {v0 v1 v2 : Value} {K : Value → WT} {w : World} (h : s11 v0 v1 v2 K w) : CF Try.prog 11 [v0, v1, v2] K w := shal_sound Try.func11 (e11 v0 v1 v2 K ▸ h)

/-- aumbry/aumbrylaw18.CleanCopies -/
def a12 : Ann := .seq (.z) (.join [0, 1] (.seq (.z) (.cond (.z) (.z))) (.seq (.seq (.z) (.cond (.seq (.z) (.z)) (.z))) (.seq (.seq (.z) (.blk (.loop [1, 5] (.seq (.seq (.z) (.cond (.z) (.z))) (.seq (.blk (.seq (.z) (.seq (.z) (.seq (.seq (.z) (.blk (.loop [1, 5, 6, 7, 8] (.seq (.seq (.z) (.cond (.z) (.z))) (.join [1, 5, 6, 7, 8] (.blk (.seq (.draw [0, 1, 2, 3, 4, 5, 6, 7, 8, 9]) (.cond (.z) (.z)))) (.z)))))) (.seq (.z) (.cond (.seq (.z) (.z)) (.z))))))) (.z)))))) (.seq (.z) (.z)))))
def s12 (bin_0 spots_1 : Value) (K : Value → WT) : WT :=
  S.join 2 (fun K0 =>
    S.len spots_1 fun v10 =>
    S.bin .gtr v10 (I 80) fun v11 =>
    S.cond v11 (
      S.slc 2 spots_1 none (some (I 80)) none fun v13 =>
      K0 bin_0 v13) (
      K0 bin_0 spots_1))
  <| fun bin_0' spots_1' => S.fa fun _ =>
  CF Try.prog 36 [bin_0', spots_1'] fun v16 =>
  CF Try.prog 37 [bin_0', spots_1'] fun v19 =>
  CF Try.prog 34 [v16, v19] fun v20 =>
  S.not1 v20 fun v21 =>
  S.cond v21 (
    K (B false)) (
    S.loop 2 (fun K1 => fun spots_1'2 i_5 => S.fa fun _ =>
      S.len spots_1'2 fun v24 =>
      S.bin .lss i_5 v24 fun v25 =>
      S.cond v25 (
        S.ixS 2 spots_1'2 i_5 fun v30 =>
        S.fad v30 0 fun v31 =>
        S.ld v31 fun v32 =>
        CF Try.prog 36 [v32, spots_1'2] fun v34 =>
        S.loop 5 (fun K2 => fun spots_1'3 i_5' l_6 found_7 k_8 => S.fa fun _ =>
          S.len l_6 fun v37 =>
          S.bin .lss k_8 v37 fun v38 =>
          S.cond v38 (
            S.join 5 (fun K3 =>
              S.dr <|
              S.ixS 1 l_6 k_8 fun v43 =>
              S.ld v43 fun v44 =>
              S.ixS 2 spots_1'3 i_5' fun v47 =>
              S.fad v47 1 fun v48 =>
              S.ld v48 fun v49 =>
              S.bin .eql v44 v49 fun v50 =>
              S.cond v50 (
                S.bin .add found_7 (I 1) fun v52 =>
                K3 spots_1'3 i_5' l_6 v52 k_8) (
                K3 spots_1'3 i_5' l_6 found_7 k_8))
            <| fun spots_1'4 i_5'2 l_6' found_7' k_8' => S.fa fun _ =>
            S.bin .add k_8' (I 1) fun v40 =>
            K2 spots_1'4 i_5'2 l_6' found_7' v40) (
            S.bin .neq found_7 (I 1) fun v54 =>
            S.cond v54 (
              K (B false)) (
              S.bin .add i_5' (I 1) fun v27 =>
              K1 spots_1'3 v27)))
        [spots_1'2, i_5, v34, (I 0), (I 0)]) (
        CF Try.prog 33 [] fun v55 =>
        K v55))
    [spots_1', (I 0)])
theorem e12 (bin_0 spots_1 : Value) (K : Value → WT) : s12 bin_0 spots_1 K = shal Try.prog Try.f12 .p a12 [bin_0, spots_1] K := by kernel_rfl
theorem c12 {bin_0 spots_1 : Value} {K : Value → WT} {w : World} (h : s12 bin_0 spots_1 K w) : CF Try.prog 12 [bin_0, spots_1] K w := shal_sound Try.func12 (e12 bin_0 spots_1 K ▸ h)

/-- aumbry/aumbrylaw18.CleanShares -/
def a13 : Ann := .seq (.z) (.seq (.z) (.seq (.z) (.seq (.z) (.seq (.seq (.z) (.blk (.loop [0, 1, 5, 6, 7, 8] (.seq (.seq (.z) (.cond (.z) (.z))) (.seq (.blk (.draw [0, 1, 2, 3, 4, 5, 6, 7, 8, 9, 10, 11, 12, 13])) (.z)))))) (.seq (.z) (.z))))))
def s13 (bins_0 spots_1 : Value) (K : Value → WT) : WT :=
  CF Try.prog 35 [bins_0, spots_1] fun v11 =>
  CF Try.prog 38 [bins_0, spots_1] fun v14 =>
  S.loop 6 (fun K0 => fun bins_0' spots_1' a_5 b_6 n_7 i_8 => S.fa fun _ =>
    S.len b_6 fun v17 =>
    S.bin .lss i_8 v17 fun v18 =>
    S.cond v18 (
      S.dr <|
      S.ixS 3 b_6 i_8 fun v24 =>
      S.fad v24 1 fun v25 =>
      S.ld v25 fun v26 =>
      S.ixS 3 b_6 i_8 fun v29 =>
      S.fad v29 2 fun v30 =>
      S.ld v30 fun v31 =>
      S.bin .sub v26 v31 fun v32 =>
      S.bin .add n_7 v32 fun v33 =>
      S.bin .add i_8 (I 1) fun v20 =>
      K0 bins_0' spots_1' a_5 b_6 v33 v20) (
      CF Try.prog 33 [] fun v34 =>
      S.gd v34 true (fun k => k a_5) fun v36 =>
      S.gd v34 true (fun k => k b_6) fun v37 =>
      S.gd v34 true (fun k => CF Try.prog 39 [v36, v37] k) fun v38 =>
      S.pick v34 v38 (B false) fun v39 =>
      S.gd v39 true (fun k => k bins_0') fun v41 =>
      S.gd v39 true (fun k => k spots_1') fun v42 =>
      S.gd v39 true (fun k => CF Try.prog 40 [v41, v42] k) fun v43 =>
      S.gd v39 true (fun k => k n_7) fun v44 =>
      S.gd v39 true (fun k => S.bin .eql v43 v44 k) fun v45 =>
      S.pick v39 v45 (B false) fun v46 =>
      K v46))
  [bins_0, spots_1, v11, v14, (I 0), (I 0)]
theorem e13 (bins_0 spots_1 : Value) (K : Value → WT) : s13 bins_0 spots_1 K = shal Try.prog Try.f13 .p a13 [bins_0, spots_1] K := by kernel_rfl
theorem c13 {bins_0 spots_1 : Value} {K : Value → WT} {w : World} (h : s13 bins_0 spots_1 K w) : CF Try.prog 13 [bins_0, spots_1] K w := shal_sound Try.func13 (e13 bins_0 spots_1 K ▸ h)

/-- aumbry/disk.New -/
def a14 : Ann := .seq (.z) (.seq (.join [0, 10] (.z) (.cond (.seq (.z) (.z)) (.z))) (.seq (.z) (.seq (.seq (.z) (.blk (.loop [4, 14, 15] (.seq (.z) (.seq (.cond (.z) (.z)) (.seq (.blk (.draw [0, 1, 2, 3, 4, 5, 6, 7, 8, 9, 10])) (.z))))))) (.seq (.z) (.z)))))
def s14 (sectors_0 : Value) (K : Value → WT) : WT :=
  S.join 2 (fun K0 =>
    S.bin .lss sectors_0 (I 1) fun v6 =>
    S.gd v6 false (fun k => k sectors_0) fun v8 =>
    S.gd v6 false (fun k => S.bin .gtr v8 (I 4096) k) fun v9 =>
    S.pick v6 (B true) v9 fun v10 =>
    K0 sectors_0 v10)
  <| fun sectors_0' v10' => S.fa fun _ =>
  S.cond v10' (
    K (.tuple #[(.pointer none), (I 2)])) (
    S.mkM fun v11 =>
    V Try.prog (Instr.build 86 #[(1, v11)]) fun v12 =>
    S.box 86 v12 fun v13 =>
    S.loop 3 (fun K1 => fun d_4 v14 v15 => S.fa fun _ =>
      S.bin .lss v15 v14 fun v16 =>
      S.cond v16 (
        S.dr <|
        S.nc d_4 fun v19 =>
        S.fad v19 0 fun v20 =>
        S.ld v20 fun v21 =>
        V Try.prog (Instr.makeSlice 32 (I 128) (I 128)) fun v22 =>
        S.rck [S.ld v20 (fun v' _ => v' = v21)] <|
        V Try.prog (Instr.buildSlice 84 1 #[(0, v22)]) fun v23 =>
        S.rck [S.ld v20 (fun v' _ => v' = v21)] <|
        V Try.prog (Builtin.append_ #[84, 84] 84 #[v21, v23]) fun v24 =>
        S.nc d_4 fun v25 =>
        S.fad v25 0 fun v26 =>
        S.st 1 v26 v24 fun _ =>
        S.bin .add v15 (I 1) fun v27 =>
        K1 d_4 v14 v27) (
        K (.tuple #[d_4, (I 0)])))
    [v13, sectors_0', (I 0)])
theorem e14 (sectors_0 : Value) (K : Value → WT) : s14 sectors_0 K = shal Try.prog Try.f14 .p a14 [sectors_0] K := by kernel_rfl
theorem c14 {sectors_0 : Value} {K : Value → WT} {w : World} (h : s14 sectors_0 K w) : CF Try.prog 14 [sectors_0] K w := shal_sound Try.func14 (e14 sectors_0 K ▸ h)

/-- aumbry/aumbrylaw03.live -/
def a15 : Ann := .seq (.z) (.seq (.z) (.seq (.join [1, 29] (.z) (.cond (.seq (.z) (.z)) (.z))) (.seq (.z) (.seq (.z) (.seq (.z) (.seq (.z) (.z)))))))
def s15 (K : Value → WT) : WT :=
  CF Try.prog 14 [(I 2)] fun v7 =>
  S.ext v7 0 fun v8 =>
  S.ext v7 1 fun v9 =>
  S.join 2 (fun K0 =>
    S.bin .neq v9 (I 0) fun v11 =>
    S.gd v11 false (fun k => k v8) fun v13 =>
    S.gd v11 false (fun k => S.eqv Try.prog .eql 22 true v13 (.pointer none) k) fun v14 =>
    S.pick v11 (B true) v14 fun v15 =>
    S.gd v15 false (fun k => k v8) fun v17 =>
    S.gd v15 false (fun k => V Try.prog (Instr.buildSlice 32 1 #[(0, (.int .u8 97))]) k) fun v18 =>
    S.gd v15 false (fun k => V Try.prog (convert 32 32 v18) k) fun v19 =>
    S.gd v15 false (fun k => CF Try.prog 23 [v17, (I 0), v19] k) fun v20 =>
    S.gd v15 false (fun k => S.bin .neq v20 (I 0) k) fun v21 =>
    S.pick v15 (B true) v21 fun v22 =>
    S.gd v22 false (fun k => k v8) fun v24 =>
    S.gd v22 false (fun k => V Try.prog (Instr.buildSlice 32 1 #[(0, (.int .u8 98))]) k) fun v25 =>
    S.gd v22 false (fun k => V Try.prog (convert 32 32 v25) k) fun v26 =>
    S.gd v22 false (fun k => CF Try.prog 23 [v24, (I 0), v26] k) fun v27 =>
    S.gd v22 false (fun k => S.bin .neq v27 (I 0) k) fun v28 =>
    S.pick v22 (B true) v28 fun v29 =>
    K0 v8 v29)
  <| fun d_1 v29' => S.fa fun _ =>
  S.cond v29' (
    K (B false)) (
    CF Try.prog 19 [d_1] fun v31 =>
    V Try.prog (Instr.buildSlice 33 1 #[(0, (B true))]) fun v33 =>
    V Try.prog (Instr.build 35 #[(0, v33), (1, (I (-1)))]) fun v34 =>
    CF Try.prog 21 [d_1, v34] fun v35 =>
    CF Try.prog 25 [d_1, (I 0)] fun v38 =>
    S.ext v38 0 fun v39 =>
    S.ext v38 1 fun v40 =>
    S.len v31 fun v42 =>
    S.bin .eql v42 (I 1) fun v43 =>
    S.gd v43 true (fun k => k v40) fun v45 =>
    S.gd v43 true (fun k => S.bin .eql v45 (I 0) k) fun v46 =>
    S.pick v43 v46 (B false) fun v47 =>
    S.gd v47 true (fun k => k v39) fun v49 =>
    S.gd v47 true (fun k => S.len v49 k) fun v50 =>
    S.gd v47 true (fun k => S.bin .eql v50 (I 128) k) fun v51 =>
    S.pick v47 v51 (B false) fun v52 =>
    S.gd v52 true (fun k => k v39) fun v54 =>
    S.gd v52 true (fun k => S.ixS 1 v54 (I 0) k) fun v55 =>
    S.gd v52 true (fun k => S.ld v55 k) fun v56 =>
    S.gd v52 true (fun k => S.bin .eql v56 (.int .u8 98) k) fun v57 =>
    S.pick v52 v57 (B false) fun v58 =>
    S.gd v58 true (fun k => k d_1) fun v60 =>
    S.gd v58 true (fun k => CF Try.prog 17 [v60] k) fun v61 =>
    S.gd v58 true (fun k => S.bin .eql v61 (I 1) k) fun v62 =>
    S.pick v58 v62 (B false) fun v63 =>
    K v63)
theorem e15 (K : Value → WT) : s15  K = shal Try.prog Try.f15 .p a15 [] K := by kernel_rfl
theorem c15 {K : Value → WT} {w : World} (h : s15  K w) : CF Try.prog 15 [] K w := shal_sound Try.func15 (e15  K ▸ h)

/-- (*aumbry/disk.Disk).Sectors -/
def a16 : Ann := .seq (.z) (.seq (.seq (.z) (.cond (.seq (.z) (.z)) (.z))) (.seq (.z) (.z)))
def s16 (d_0 : Value) (K : Value → WT) : WT :=
  S.eqv Try.prog .eql 22 true d_0 (.pointer none) fun v4 =>
  S.cond v4 (
    K (I 0)) (
    S.nc d_0 fun v6 =>
    S.fad v6 0 fun v7 =>
    S.ld v7 fun v8 =>
    S.len v8 fun v9 =>
    K v9)
theorem e16 (d_0 : Value) (K : Value → WT) : s16 d_0 K = shal Try.prog Try.f16 .p a16 [d_0] K := by kernel_rfl
theorem c16 {d_0 : Value} {K : Value → WT} {w : World} (h : s16 d_0 K w) : CF Try.prog 16 [d_0] K w := shal_sound Try.func16 (e16 d_0 K ▸ h)

/-- (*aumbry/disk.Disk).Life -/
def a17 : Ann := .seq (.z) (.seq (.seq (.z) (.cond (.seq (.z) (.z)) (.z))) (.seq (.z) (.z)))
def s17 (d_0 : Value) (K : Value → WT) : WT :=
  S.eqv Try.prog .eql 22 true d_0 (.pointer none) fun v4 =>
  S.cond v4 (
    K (I 0)) (
    S.nc d_0 fun v6 =>
    S.fad v6 4 fun v7 =>
    S.ld v7 fun v8 =>
    K v8)
theorem e17 (d_0 : Value) (K : Value → WT) : s17 d_0 K = shal Try.prog Try.f17 .p a17 [d_0] K := by kernel_rfl
theorem c17 {d_0 : Value} {K : Value → WT} {w : World} (h : s17 d_0 K w) : CF Try.prog 17 [d_0] K w := shal_sound Try.func17 (e17 d_0 K ▸ h)

/-- (*aumbry/disk.Disk).Down -/
def a18 : Ann := .seq (.z) (.seq (.z) (.z))
def s18 (d_0 : Value) (K : Value → WT) : WT :=
  S.eqv Try.prog .neq 22 true d_0 (.pointer none) fun v4 =>
  S.gd v4 true (fun k => k d_0) fun v6 =>
  S.gd v4 true (fun k => S.nc v6 k) fun v7 =>
  S.gd v4 true (fun k => S.fad v7 3 k) fun v8 =>
  S.gd v4 true (fun k => S.ld v8 k) fun v9 =>
  S.pick v4 v9 (B false) fun v10 =>
  K v10
theorem e18 (d_0 : Value) (K : Value → WT) : s18 d_0 K = shal Try.prog Try.f18 .p a18 [d_0] K := by kernel_rfl
theorem c18 {d_0 : Value} {K : Value → WT} {w : World} (h : s18 d_0 K w) : CF Try.prog 18 [d_0] K w := shal_sound Try.func18 (e18 d_0 K ▸ h)

/-- (*aumbry/disk.Disk).Dirty -/
def a19 : Ann := .seq (.z) (.seq (.seq (.z) (.cond (.seq (.z) (.z)) (.z))) (.seq (.z) (.z)))
def s19 (d_0 : Value) (K : Value → WT) : WT :=
  S.eqv Try.prog .eql 22 true d_0 (.pointer none) fun v4 =>
  S.cond v4 (
    K (.slice none 0 0)) (
    S.nc d_0 fun v6 =>
    S.fad v6 1 fun v7 =>
    S.ld v7 fun v8 =>
    CF Try.prog 42 [v8] fun v9 =>
    CF Try.prog 41 [v9] fun v10 =>
    K v10)
theorem e19 (d_0 : Value) (K : Value → WT) : s19 d_0 K = shal Try.prog Try.f19 .p a19 [d_0] K := by kernel_rfl
theorem c19 {d_0 : Value} {K : Value → WT} {w : World} (h : s19 d_0 K w) : CF Try.prog 19 [d_0] K w := shal_sound Try.func19 (e19 d_0 K ▸ h)

/-- aumbry/aumbrylaw03.play -/
def a20 : Ann := .seq (.z) (.seq (.z) (.seq (.z) (.seq (.join [1, 7, 9, 33] (.z) (.cond (.seq (.z) (.z)) (.z))) (.seq (.seq (.z) (.blk (.loop [1, 7, 9, 11] (.seq (.join [1, 7, 9, 11, 43] (.z) (.cond (.z) (.z))) (.seq (.blk (.seq (.z) (.cond (.seq (.z) (.z)) (.z)))) (.z)))))) (.seq (.z) (.z))))))
def s20 (n_0 l_1 : Value) (K : Value → WT) : WT :=
  CF Try.prog 43 [n_0] fun v14 =>
  CF Try.prog 14 [v14] fun v15 =>
  S.ext v15 0 fun v16 =>
  S.ext v15 1 fun v17 =>
  CF Try.prog 43 [n_0] fun v20 =>
  CF Try.prog 44 [v20] fun v21 =>
  S.ext v21 0 fun v22 =>
  S.ext v21 1 fun v23 =>
  S.join 4 (fun K0 =>
    S.bin .neq v17 (I 0) fun v25 =>
    S.gd v25 false (fun k => k v23) fun v27 =>
    S.gd v25 false (fun k => S.bin .neq v27 (I 0) k) fun v28 =>
    S.pick v25 (B true) v28 fun v29 =>
    S.gd v29 false (fun k => k v16) fun v31 =>
    S.gd v29 false (fun k => S.eqv Try.prog .eql 22 true v31 (.pointer none) k) fun v32 =>
    S.pick v29 (B true) v32 fun v33 =>
    K0 l_1 v16 v22 v33)
  <| fun l_1' x_7 y_9 v33' => S.fa fun _ =>
  S.cond v33' (
    K (.tuple #[x_7, y_9, (B false)])) (
    S.loop 4 (fun K1 => fun l_1'2 x_7' y_9' i_11 => S.fa fun _ =>
      S.join 5 (fun K2 =>
        S.len l_1'2 fun v38 =>
        S.bin .lss i_11 v38 fun v39 =>
        S.gd v39 true (fun k => k i_11) fun v41 =>
        S.gd v39 true (fun k => S.bin .lss v41 (I 200) k) fun v42 =>
        S.pick v39 v42 (B false) fun v43 =>
        K2 l_1'2 x_7' y_9' i_11 v43)
      <| fun l_1'3 x_7'2 y_9'2 i_11' v43' => S.fa fun _ =>
      S.cond v43' (
        S.ixS 6 l_1'3 i_11' fun v50 =>
        S.ldN 6 v50 fun v51 =>
        CF Try.prog 30 [x_7'2, y_9'2, v51] fun v52 =>
        S.not1 v52 fun v53 =>
        S.cond v53 (
          K (.tuple #[x_7'2, y_9'2, (B false)])) (
          S.bin .add i_11' (I 1) fun v45 =>
          K1 l_1'3 x_7'2 y_9'2 v45)) (
        K (.tuple #[x_7'2, y_9'2, (B true)])))
    [l_1', x_7, y_9, (I 0)])
theorem e20 (n_0 l_1 : Value) (K : Value → WT) : s20 n_0 l_1 K = shal Try.prog Try.f20 .p a20 [n_0, l_1] K := by kernel_rfl
theorem c20 {n_0 l_1 : Value} {K : Value → WT} {w : World} (h : s20 n_0 l_1 K w) : CF Try.prog 20 [n_0, l_1] K w := shal_sound Try.func20 (e20 n_0 l_1 K ▸ h)

/-- (*aumbry/disk.Disk).Crash -/
def a21 : Ann := .seq (.z) (.seq (.seq (.z) (.cond (.z) (.z))) (.seq (.seq (.z) (.blk (.loop [0, 3, 10, 11, 12] (.seq (.z) (.seq (.cond (.z) (.z)) (.seq (.blk (.seq (.z) (.join [0, 3, 5, 10, 11, 12] (.seq (.z) (.blk (.join [0, 3, 4, 5, 6, 10, 11, 12, 23] (.z) (.cond (.draw [0, 1, 2, 3, 4, 5, 6, 7, 8, 10, 11, 12, 13, 14, 15, 16, 17, 18, 19, 9, 20, 21, 22]) (.join [0, 3, 5, 6, 10, 11, 12, 60] (.z) (.cond (.z) (.z))))))) (.z)))) (.z))))))) (.z)))
def s21 (v0 v1 : Value) (K : Value → WT) : WT :=
  S.box 35 v1 fun v3 =>
  S.eqv Try.prog .eql 22 true v0 (.pointer none) fun v8 =>
  S.cond v8 (
    K (.tuple #[])) (
    CF Try.prog 19 [v0] fun v10 =>
    S.len v10 fun v11 =>
    S.loop 5 (fun K0 => fun v0' v3' v10' v11' v12 => S.fa fun _ =>
      S.bin .lss v12 v11' fun v13 =>
      S.cond v13 (
        S.ixS 1 v10' v12 fun v15 =>
        S.ld v15 fun v16 =>
        S.join 6 (fun K1 =>
          S.nc v0' fun v18 =>
          S.fad v18 1 fun v19 =>
          S.ld v19 fun v20 =>
          S.lk (.int .i64) (.slice none 0 0) false v20 v16 fun v22 =>
          S.join 9 (fun K2 =>
            S.fad v3' 1 fun v25 =>
            S.ld v25 fun v26 =>
            S.bin .eql v12 v26 fun v27 =>
            S.gd v27 true (fun k => S.fad v3' 2 k) fun v29 =>
            S.gd v27 true (fun k => S.ld v29 k) fun v30 =>
            S.gd v27 true (fun k => S.bin .geq v30 (I 0) k) fun v31 =>
            S.pick v27 v31 (B false) fun v32 =>
            S.gd v32 true (fun k => S.fad v3' 2 k) fun v34 =>
            S.gd v32 true (fun k => S.ld v34 k) fun v35 =>
            S.gd v32 true (fun k => S.bin .leq v35 (I 128) k) fun v36 =>
            S.pick v32 v36 (B false) fun v37 =>
            K2 v0' v3' v12 v16 v22 v10' v11' v12 v37)
          <| fun v0'2 v3'2 v4 v5 v6 v10'2 v11'2 v12' v23 => S.fa fun _ =>
          S.cond v23 (
            S.dr <|
            S.nc v0'2 fun v39 =>
            S.fad v39 0 fun v40 =>
            S.ld v40 fun v41 =>
            S.fad v3'2 2 fun v44 =>
            S.ld v44 fun v45 =>
            S.slc 1 v6 none (some v45) none fun v46 =>
            S.nc v0'2 fun v49 =>
            S.fad v49 0 fun v50 =>
            S.ld v50 fun v51 =>
            S.ixS 1 v51 v5 fun v53 =>
            S.ld v53 fun v54 =>
            S.fad v3'2 2 fun v55 =>
            S.ld v55 fun v56 =>
            S.slc 1 v54 (some v56) none none fun v57 =>
            CF Try.prog 45 [v46] fun v47 =>
            S.rck [S.ld v55 (fun v' _ => v' = v56), S.ld v53 (fun v' _ => v' = v54), S.ld v50 (fun v' _ => v' = v51), S.ld v40 (fun v' _ => v' = v41)] <|
            V Try.prog (Builtin.append_ #[32, 32] 32 #[v47, v57]) fun v58 =>
            S.rck [S.ld v40 (fun v' _ => v' = v41)] <|
            S.ixS 1 v41 v5 fun v59 =>
            S.st 1 v59 v58 fun _ =>
            K1 v0'2 v3'2 v5 v10'2 v11'2 v12') (
            S.join 8 (fun K3 =>
              S.fad v3'2 0 fun v62 =>
              S.ld v62 fun v63 =>
              S.len v63 fun v64 =>
              S.bin .lss v4 v64 fun v65 =>
              S.gd v65 true (fun k => S.fad v3'2 0 k) fun v67 =>
              S.gd v65 true (fun k => S.ld v67 k) fun v68 =>
              S.gd v65 true (fun k => k v4) fun v69 =>
              S.gd v65 true (fun k => S.ixS 1 v68 v69 k) fun v70 =>
              S.gd v65 true (fun k => S.ld v70 k) fun v71 =>
              S.pick v65 v71 (B false) fun v72 =>
              K3 v0'2 v3'2 v5 v6 v10'2 v11'2 v12' v72)
            <| fun v0'3 v3'3 v5' v6' v10'3 v11'3 v12'2 v60 => S.fa fun _ =>
            S.cond v60 (
              S.nc v0'3 fun v74 =>
              S.fad v74 0 fun v75 =>
              S.ld v75 fun v76 =>
              S.ixS 1 v76 v5' fun v79 =>
              S.st 1 v79 v6' fun _ =>
              K1 v0'3 v3'3 v5' v10'3 v11'3 v12'2) (
              K1 v0'3 v3'3 v5' v10'3 v11'3 v12'2)))
        <| fun v0'4 v3'4 v5'2 v10'4 v11'4 v12'3 => S.fa fun _ =>
        S.nc v0'4 fun v81 =>
        S.fad v81 1 fun v82 =>
        S.ld v82 fun v83 =>
        V Try.prog (Builtin.delete_ #[83, 3] 0 #[v83, v5'2]) fun _ =>
        S.bin .add v12'3 (I 1) fun v85 =>
        K0 v0'4 v3'4 v10'4 v11'4 v85) (
        S.nc v0' fun v90 =>
        S.fad v90 4 fun v91 =>
        S.ld v91 fun v92 =>
        S.bin .add v92 (I 1) fun v93 =>
        S.nc v0' fun v94 =>
        S.fad v94 2 fun v95 =>
        S.st 1 v95 (I 0) fun _ =>
        S.nc v0' fun v96 =>
        S.fad v96 3 fun v97 =>
        S.st 1 v97 (B false) fun _ =>
        S.nc v0' fun v98 =>
        S.fad v98 4 fun v99 =>
        S.st 1 v99 v93 fun _ =>
        K (.tuple #[])))
    [v0, v3, v10, v11, (I 0)])
theorem e21 (v0 v1 : Value) (K : Value → WT) : s21 v0 v1 K = shal Try.prog Try.f21 .p a21 [v0, v1] K := by kernel_rfl
theorem c21 {v0 v1 : Value} {K : Value → WT} {w : World} (h : s21 v0 v1 K w) : CF Try.prog 21 [v0, v1] K w := shal_sound Try.func21 (e21 v0 v1 K ▸ h)

/-- (*aumbry/disk.Disk).Trip -/
def a22 : Ann := .seq (.z) (.seq (.blk (.seq (.z) (.cond (.seq (.z) (.z)) (.seq (.z) (.cond (.seq (.z) (.z)) (.seq (.z) (.cond (.seq (.z) (.z)) (.z)))))))) (.seq (.z) (.seq (.z) (.z))))
def s22 (d_0 n_1 : Value) (K : Value → WT) : WT :=
  S.eqv Try.prog .eql 22 true d_0 (.pointer none) fun v7 =>
  S.cond v7 (
    K (I 1)) (
    S.nc d_0 fun v10 =>
    S.fad v10 3 fun v11 =>
    S.ld v11 fun v12 =>
    S.cond v12 (
      K (I 7)) (
      S.bin .lss n_1 (I 0) fun v15 =>
      S.cond v15 (
        K (I 2)) (
        S.nc d_0 fun v18 =>
        S.fad v18 2 fun v19 =>
        S.st 1 v19 n_1 fun _ =>
        K (I 0))))
theorem e22 (d_0 n_1 : Value) (K : Value → WT) : s22 d_0 n_1 K = shal Try.prog Try.f22 .p a22 [d_0, n_1] K := by kernel_rfl
theorem c22 {d_0 n_1 : Value} {K : Value → WT} {w : World} (h : s22 d_0 n_1 K w) : CF Try.prog 22 [d_0, n_1] K w := shal_sound Try.func22 (e22 d_0 n_1 K ▸ h)

/-- (*aumbry/disk.Disk).Write -/
def a23 : Ann := .seq (.z) (.seq (.seq (.z) (.seq (.z) (.cond (.seq (.z) (.z)) (.z)))) (.seq (.seq (.z) (.cond (.seq (.z) (.z)) (.z))) (.seq (.z) (.seq (.z) (.z)))))
def s23 (d_0 i_1 b_2 : Value) (K : Value → WT) : WT :=
  S.box 22 d_0 fun d_3 =>
  S.box 3 i_1 fun i_4 =>
  S.ld d_3 fun v9 =>
  S.ld i_4 fun v10 =>
  CF Try.prog 46 [v9, v10] fun v11 =>
  S.bin .neq v11 (I 0) fun v13 =>
  S.cond v13 (
    K v11) (
    S.len b_2 fun v16 =>
    S.bin .gtr v16 (I 128) fun v17 =>
    S.cond v17 (
      K (I 6)) (
      CF Try.prog 47 [b_2] fun v19 =>
      S.box 32 (.slice none 0 0) fun p_8 =>
      S.st 1 p_8 v19 fun _ =>
      S.ld d_3 fun v20 =>
      CF Try.prog 48 [v20, (.func (Go.Fn.func 49) #[] #[p_8, d_3, i_4])] fun v22 =>
      K v22))
theorem e23 (d_0 i_1 b_2 : Value) (K : Value → WT) : s23 d_0 i_1 b_2 K = shal Try.prog Try.f23 .p a23 [d_0, i_1, b_2] K := by kernel_rfl
theorem c23 {d_0 i_1 b_2 : Value} {K : Value → WT} {w : World} (h : s23 d_0 i_1 b_2 K w) : CF Try.prog 23 [d_0, i_1, b_2] K w := shal_sound Try.func23 (e23 d_0 i_1 b_2 K ▸ h)

/-- (*aumbry/disk.Disk).Flush -/
def a24 : Ann := .seq (.z) (.seq (.seq (.z) (.seq (.z) (.cond (.seq (.z) (.z)) (.z)))) (.seq (.z) (.z)))
def s24 (d_0 : Value) (K : Value → WT) : WT :=
  CF Try.prog 46 [d_0, (I 0)] fun v5 =>
  S.bin .neq v5 (I 0) fun v7 =>
  S.cond v7 (
    K v5) (
    CF Try.prog 48 [d_0, (.func (Go.Fn.func 50) #[d_0] #[])] fun v12 =>
    K v12)
theorem e24 (d_0 : Value) (K : Value → WT) : s24 d_0 K = shal Try.prog Try.f24 .p a24 [d_0] K := by kernel_rfl
theorem c24 {d_0 : Value} {K : Value → WT} {w : World} (h : s24 d_0 K w) : CF Try.prog 24 [d_0] K w := shal_sound Try.func24 (e24 d_0 K ▸ h)

/-- (*aumbry/disk.Disk).Read -/
def a25 : Ann := .seq (.z) (.seq (.seq (.z) (.seq (.z) (.cond (.seq (.z) (.z)) (.z)))) (.seq (.seq (.z) (.seq (.z) (.cond (.seq (.z) (.z)) (.z)))) (.seq (.z) (.z))))
def s25 (d_0 i_1 : Value) (K : Value → WT) : WT :=
  CF Try.prog 46 [d_0, i_1] fun v11 =>
  S.bin .neq v11 (I 0) fun v13 =>
  S.cond v13 (
    K (.tuple #[(.slice none 0 0), v11])) (
    S.nc d_0 fun v17 =>
    S.fad v17 1 fun v18 =>
    S.ld v18 fun v19 =>
    S.lk (.int .i64) (.slice none 0 0) true v19 i_1 fun v21 =>
    S.ext v21 0 fun v22 =>
    S.ext v21 1 fun v23 =>
    S.cond v23 (
      CF Try.prog 45 [v22] fun v26 =>
      K (.tuple #[v26, (I 0)])) (
      S.nc d_0 fun v28 =>
      S.fad v28 0 fun v29 =>
      S.ld v29 fun v30 =>
      S.ixS 1 v30 i_1 fun v32 =>
      S.ld v32 fun v33 =>
      CF Try.prog 45 [v33] fun v34 =>
      K (.tuple #[v34, (I 0)])))
theorem e25 (d_0 i_1 : Value) (K : Value → WT) : s25 d_0 i_1 K = shal Try.prog Try.f25 .p a25 [d_0, i_1] K := by kernel_rfl
theorem c25 {d_0 i_1 : Value} {K : Value → WT} {w : World} (h : s25 d_0 i_1 K w) : CF Try.prog 25 [d_0, i_1] K w := shal_sound Try.func25 (e25 d_0 i_1 K ▸ h)

/-- (*aumbry/disk.Disk).Rot -/
def a26 : Ann := .seq (.z) (.seq (.blk (.seq (.z) (.cond (.seq (.z) (.z)) (.join [0, 1, 2, 10] (.z) (.cond (.seq (.z) (.z)) (.seq (.z) (.cond (.seq (.z) (.z)) (.z)))))))) (.seq (.draw [0, 1, 2, 3, 4, 5, 6, 7, 8]) (.seq (.z) (.seq (.z) (.z)))))
def s26 (d_0 i_1 b_2 : Value) (K : Value → WT) : WT :=
  S.eqv Try.prog .eql 22 true d_0 (.pointer none) fun v9 =>
  S.cond v9 (
    K (I 1)) (
    S.join 4 (fun K0 =>
      S.bin .lss i_1 (I 0) fun v12 =>
      S.gd v12 false (fun k => k i_1) fun v14 =>
      S.gd v12 false (fun k => k d_0) fun v15 =>
      S.gd v12 false (fun k => S.nc v15 k) fun v16 =>
      S.gd v12 false (fun k => S.fad v16 0 k) fun v17 =>
      S.gd v12 false (fun k => S.ld v17 k) fun v18 =>
      S.gd v12 false (fun k => S.len v18 k) fun v19 =>
      S.gd v12 false (fun k => S.bin .geq v14 v19 k) fun v20 =>
      S.pick v12 (B true) v20 fun v21 =>
      K0 d_0 i_1 b_2 v21)
    <| fun d_0' i_1' b_2' v10 => S.fa fun _ =>
    S.cond v10 (
      K (I 2)) (
      S.len b_2' fun v24 =>
      S.bin .gtr v24 (I 128) fun v25 =>
      S.cond v25 (
        K (I 6)) (
        S.dr <|
        S.nc d_0' fun v27 =>
        S.fad v27 0 fun v28 =>
        S.ld v28 fun v29 =>
        CF Try.prog 47 [b_2'] fun v32 =>
        S.rck [S.ld v28 (fun v' _ => v' = v29)] <|
        S.ixS 1 v29 i_1' fun v33 =>
        S.st 1 v33 v32 fun _ =>
        S.nc d_0' fun v35 =>
        S.fad v35 1 fun v36 =>
        S.ld v36 fun v37 =>
        V Try.prog (Builtin.delete_ #[83, 3] 0 #[v37, i_1']) fun _ =>
        K (I 0))))
theorem e26 (d_0 i_1 b_2 : Value) (K : Value → WT) : s26 d_0 i_1 b_2 K = shal Try.prog Try.f26 .p a26 [d_0, i_1, b_2] K := by kernel_rfl
theorem c26 {d_0 i_1 b_2 : Value} {K : Value → WT} {w : World} (h : s26 d_0 i_1 b_2 K w) : CF Try.prog 26 [d_0, i_1, b_2] K w := shal_sound Try.func26 (e26 d_0 i_1 b_2 K ▸ h)

/-- aumbry/aumbrylaw03.alike -/
def a27 : Ann := .seq (.z) (.seq (.z) (.seq (.join [0, 1, 5, 6, 31] (.draw [0, 1, 2, 3, 4, 5, 6, 8, 9, 10, 11, 12, 7, 13, 14]) (.cond (.seq (.z) (.z)) (.z))) (.seq (.seq (.z) (.blk (.loop [0, 1, 5, 6, 7] (.seq (.seq (.z) (.cond (.z) (.z))) (.seq (.blk (.seq (.draw [0, 1, 2, 3, 4, 5, 6, 7, 8]) (.cond (.seq (.z) (.z)) (.z)))) (.z)))))) (.seq (.seq (.z) (.blk (.loop [0, 1, 8] (.seq (.seq (.z) (.cond (.z) (.z))) (.seq (.blk (.seq (.z) (.seq (.z) (.join [0, 1, 8, 77] (.z) (.cond (.seq (.z) (.z)) (.z)))))) (.z)))))) (.seq (.z) (.z))))))
def s27 (v0 v1 : Value) (K : Value → WT) : WT :=
  CF Try.prog 19 [v0] fun v14 =>
  CF Try.prog 51 [v1] fun v16 =>
  S.join 5 (fun K0 =>
    S.dr <|
    S.len v14 fun v18 =>
    S.len v16 fun v20 =>
    S.bin .neq v18 v20 fun v21 =>
    S.gd v21 false (fun k => k v0) fun v23 =>
    S.gd v21 false (fun k => k v1) fun v25 =>
    S.gd v21 false (fun k => S.nc v25 k) fun v26 =>
    S.gd v21 false (fun k => S.fad v26 0 k) fun v27 =>
    S.gd v21 false (fun k => S.ld v27 k) fun v28 =>
    S.gd v21 false (fun k => S.len v28 k) fun v29 =>
    S.gd v21 false (fun k => CF Try.prog 16 [v23] k) fun v24 =>
    S.rck [S.gd v21 false (fun k => S.ld v27 k) (fun v' _ => v' = v28)] <|
    S.gd v21 false (fun k => S.bin .neq v24 v29 k) fun v30 =>
    S.pick v21 (B true) v30 fun v31 =>
    K0 v0 v1 v14 v16 v31)
  <| fun v0' v1' v5 v6 v31' => S.fa fun _ =>
  S.cond v31' (
    K (B false)) (
    S.loop 5 (fun K1 => fun v0'2 v1'2 v5' v6' v7 => S.fa fun _ =>
      S.len v5' fun v34 =>
      S.bin .lss v7 v34 fun v35 =>
      S.cond v35 (
        S.dr <|
        S.ixS 1 v5' v7 fun v40 =>
        S.ld v40 fun v41 =>
        S.ixS 1 v6' v7 fun v44 =>
        S.ld v44 fun v45 =>
        S.bin .neq v41 v45 fun v46 =>
        S.cond v46 (
          K (B false)) (
          S.bin .add v7 (I 1) fun v37 =>
          K1 v0'2 v1'2 v5' v6' v37)) (
        S.loop 3 (fun K2 => fun v0'3 v1'3 v8 => S.fa fun _ =>
          S.nc v1'3 fun v49 =>
          S.fad v49 0 fun v50 =>
          S.ld v50 fun v51 =>
          S.len v51 fun v52 =>
          S.bin .leq v8 v52 fun v53 =>
          S.cond v53 (
            CF Try.prog 25 [v0'3, v8] fun v59 =>
            S.ext v59 0 fun v60 =>
            S.ext v59 1 fun v61 =>
            CF Try.prog 52 [v1'3, v8] fun v65 =>
            S.ext v65 0 fun v66 =>
            S.ext v65 1 fun v67 =>
            S.join 4 (fun K3 =>
              S.b2s v60 fun v69 =>
              S.b2s v66 fun v71 =>
              S.sbin .neq v69 v71 fun v72 =>
              S.gd v72 false (fun k => k v61) fun v74 =>
              S.gd v72 false (fun k => k v67) fun v75 =>
              S.gd v72 false (fun k => S.bin .neq v74 v75 k) fun v76 =>
              S.pick v72 (B true) v76 fun v77 =>
              K3 v0'3 v1'3 v8 v77)
            <| fun v0'4 v1'4 v8' v77' => S.fa fun _ =>
            S.cond v77' (
              K (B false)) (
              S.bin .add v8' (I 1) fun v55 =>
              K2 v0'4 v1'4 v55)) (
            K (B true)))
        [v0'2, v1'2, (I (-1))]))
    [v0', v1', v5, v6, (I 0)])
theorem e27 (v0 v1 : Value) (K : Value → WT) : s27 v0 v1 K = shal Try.prog Try.f27 .p a27 [v0, v1] K := by kernel_rfl
theorem c27 {v0 v1 : Value} {K : Value → WT} {w : World} (h : s27 v0 v1 K w) : CF Try.prog 27 [v0, v1] K w := shal_sound Try.func27 (e27 v0 v1 K ▸ h)

/-- (*aumbry/disk.Disk).Fork -/
def a28 : Ann := .seq (.z) (.seq (.seq (.z) (.cond (.seq (.z) (.z)) (.z))) (.seq (.z) (.seq (.draw [0, 1, 2, 3, 5, 6, 7, 8, 4, 9, 10, 11, 12, 13]) (.seq (.z) (.z)))))
def s28 (d_0 : Value) (K : Value → WT) : WT :=
  S.eqv Try.prog .eql 22 true d_0 (.pointer none) fun v5 =>
  S.cond v5 (
    K (.pointer none)) (
    S.nc d_0 fun v7 =>
    S.ldN 5 v7 fun v8 =>
    S.box 86 (.agg #[(.slice none 0 0), (.map none), (.int .i64 0), (.bool false), (.int .i64 0)]) fun f_3 =>
    S.st 5 f_3 v8 fun _ =>
    S.dr <|
    S.nc d_0 fun v10 =>
    S.fad v10 0 fun v11 =>
    S.ld v11 fun v12 =>
    S.nc d_0 fun v15 =>
    S.fad v15 1 fun v16 =>
    S.ld v16 fun v17 =>
    CF Try.prog 53 [v12] fun v13 =>
    S.rck [S.ld v16 (fun v' _ => v' = v17)] <|
    CF Try.prog 54 [v17] fun v18 =>
    S.fad f_3 0 fun v19 =>
    S.st 1 v19 v13 fun _ =>
    S.fad f_3 1 fun v20 =>
    S.st 1 v20 v18 fun _ =>
    K f_3)
theorem e28 (d_0 : Value) (K : Value → WT) : s28 d_0 K = shal Try.prog Try.f28 .p a28 [d_0] K := by kernel_rfl
theorem c28 {d_0 : Value} {K : Value → WT} {w : World} (h : s28 d_0 K w) : CF Try.prog 28 [d_0] K w := shal_sound Try.func28 (e28 d_0 K ▸ h)

/-- (*aumbry/aumbryref03.Disk).Fork -/
def a29 : Ann := .seq (.z) (.seq (.z) (.seq (.z) (.z)))
def s29 (d_0 : Value) (K : Value → WT) : WT :=
  S.nc d_0 fun v5 =>
  S.ldN 4 v5 fun v6 =>
  S.box 50 (.agg #[(.slice none 0 0), (.int .i64 0), (.bool false), (.int .i64 0)]) fun f_3 =>
  S.st 4 f_3 v6 fun _ =>
  K f_3
theorem e29 (d_0 : Value) (K : Value → WT) : s29 d_0 K = shal Try.prog Try.f29 .p a29 [d_0] K := by kernel_rfl
theorem c29 {d_0 : Value} {K : Value → WT} {w : World} (h : s29 d_0 K w) : CF Try.prog 29 [d_0] K w := shal_sound Try.func29 (e29 d_0 K ▸ h)

/-- aumbry/aumbrylaw03.do -/
def a30 : Ann := .seq (.z) (.seq (.z) (.seq (.z) (.join [0, 1, 7, 8] (.seq (.z) (.blk (.seq (.z) (.cond (.draw [0, 1, 2, 3, 5, 6, 7, 8, 9, 4, 10, 11, 12]) (.seq (.z) (.cond (.seq (.z) (.seq (.z) (.join [0, 1, 7, 8, 9] (.z) (.seq (.z) (.blk (.loop [0, 1, 7, 8, 9, 13] (.seq (.seq (.z) (.cond (.z) (.z))) (.seq (.blk (.z)) (.z))))))))) (.seq (.z) (.cond (.z) (.seq (.z) (.cond (.draw [0, 1, 2, 4, 5, 6, 3, 7, 8, 9]) (.seq (.z) (.cond (.seq (.z) (.z)) (.draw [0, 1, 2, 3, 5, 6, 7, 8, 9, 4, 10, 11, 12]))))))))))))) (.seq (.seq (.z) (.blk (.loop [0, 1, 7, 8, 14] (.seq (.seq (.z) (.cond (.z) (.z))) (.seq (.blk (.z)) (.z)))))) (.seq (.draw [0, 1, 2, 4, 5, 6, 7, 3, 8, 9, 10, 11, 13, 14, 15, 16, 12, 17, 18, 19]) (.z))))))
def s30 (v0 v1 v2 : Value) (K : Value → WT) : WT :=
  S.box 37 v2 fun v5 =>
  V Try.prog (Instr.buildSlice 32 0 #[]) fun v15 =>
  S.fad v5 2 fun v16 =>
  S.ld v16 fun v17 =>
  V Try.prog (Builtin.append_ #[32, 32] 32 #[v15, v17]) fun v18 =>
  S.join 4 (fun K0 =>
    S.fad v5 0 fun v19 =>
    S.ld v19 fun v20 =>
    S.bin .eql v20 (I 0) fun v34 =>
    S.cond v34 (
      S.dr <|
      S.fad v5 1 fun v36 =>
      S.ld v36 fun v37 =>
      S.fad v5 1 fun v41 =>
      S.ld v41 fun v42 =>
      S.fad v5 2 fun v43 =>
      S.ld v43 fun v44 =>
      CF Try.prog 23 [v0, v37, v18] fun v39 =>
      S.rck [S.ld v43 (fun v' _ => v' = v44), S.ld v41 (fun v' _ => v' = v42)] <|
      CF Try.prog 55 [v1, v42, v44] fun v45 =>
      S.bin .eql v39 v45 fun v46 =>
      K0 v0 v1 v18 v46) (
      S.bin .eql v20 (I 1) fun v48 =>
      S.cond v48 (
        S.fad v5 1 fun v51 =>
        S.ld v51 fun v52 =>
        CF Try.prog 25 [v0, v52] fun v53 =>
        S.ext v53 0 fun v54 =>
        S.ext v53 1 fun v55 =>
        S.fad v5 1 fun v58 =>
        S.ld v58 fun v59 =>
        CF Try.prog 52 [v1, v59] fun v60 =>
        S.ext v60 0 fun v61 =>
        S.ext v60 1 fun v62 =>
        S.join 5 (fun K1 =>
          S.b2s v54 fun v64 =>
          S.b2s v61 fun v66 =>
          S.sbin .eql v64 v66 fun v67 =>
          S.gd v67 true (fun k => k v55) fun v69 =>
          S.gd v67 true (fun k => k v62) fun v70 =>
          S.gd v67 true (fun k => S.bin .eql v69 v70 k) fun v71 =>
          S.pick v67 v71 (B false) fun v72 =>
          K1 v0 v1 v18 v72 v54)
        <| fun v0' v1' v7 v8 v9 => S.fa fun _ =>
        S.loop 6 (fun K2 => fun v0'2 v1'2 v7' v8' v9' v13 => S.fa fun _ =>
          S.len v9' fun v75 =>
          S.bin .lss v13 v75 fun v76 =>
          S.cond v76 (
            S.ixS 1 v9' v13 fun v81 =>
            S.ld v81 fun v82 =>
            S.bin .xor v82 (.int .u8 1) fun v83 =>
            S.ixS 1 v9' v13 fun v84 =>
            S.st 1 v84 v83 fun _ =>
            S.bin .add v13 (I 1) fun v78 =>
            K2 v0'2 v1'2 v7' v8' v9' v78) (
            K0 v0'2 v1'2 v7' v8'))
        [v0', v1', v7, v8, v9, (I 0)]) (
        S.bin .eql v20 (I 2) fun v86 =>
        S.cond v86 (
          CF Try.prog 24 [v0] fun v88 =>
          CF Try.prog 56 [v1] fun v90 =>
          S.bin .eql v88 v90 fun v91 =>
          K0 v0 v1 v18 v91) (
          S.bin .eql v20 (I 3) fun v93 =>
          S.cond v93 (
            S.dr <|
            S.fad v5 1 fun v95 =>
            S.ld v95 fun v96 =>
            S.fad v5 1 fun v99 =>
            S.ld v99 fun v100 =>
            CF Try.prog 22 [v0, v96] fun v97 =>
            S.rck [S.ld v99 (fun v' _ => v' = v100)] <|
            CF Try.prog 57 [v1, v100] fun v101 =>
            S.bin .eql v97 v101 fun v102 =>
            K0 v0 v1 v18 v102) (
            S.bin .eql v20 (I 4) fun v104 =>
            S.cond v104 (
              S.fad v5 3 fun v106 =>
              S.ldN 3 v106 fun v107 =>
              CF Try.prog 21 [v0, v107] fun v108 =>
              S.fad v5 3 fun v110 =>
              S.ldN 3 v110 fun v111 =>
              CF Try.prog 58 [v1, v111] fun v112 =>
              K0 v0 v1 v18 (B true)) (
              S.dr <|
              S.fad v5 1 fun v22 =>
              S.ld v22 fun v23 =>
              S.fad v5 1 fun v27 =>
              S.ld v27 fun v28 =>
              S.fad v5 2 fun v29 =>
              S.ld v29 fun v30 =>
              CF Try.prog 26 [v0, v23, v18] fun v25 =>
              S.rck [S.ld v29 (fun v' _ => v' = v30), S.ld v27 (fun v' _ => v' = v28)] <|
              CF Try.prog 59 [v1, v28, v30] fun v31 =>
              S.bin .eql v25 v31 fun v32 =>
              K0 v0 v1 v18 v32))))))
  <| fun v0'3 v1'3 v7'2 v8'2 => S.fa fun _ =>
  S.loop 5 (fun K3 => fun v0'4 v1'4 v7'3 v8'3 v14 => S.fa fun _ =>
    S.len v7'3 fun v115 =>
    S.bin .lss v14 v115 fun v116 =>
    S.cond v116 (
      S.ixS 1 v7'3 v14 fun v121 =>
      S.ld v121 fun v122 =>
      S.bin .xor v122 (.int .u8 1) fun v123 =>
      S.ixS 1 v7'3 v14 fun v124 =>
      S.st 1 v124 v123 fun _ =>
      S.bin .add v14 (I 1) fun v118 =>
      K3 v0'4 v1'4 v7'3 v8'3 v118) (
      S.dr <|
      S.gd v8'3 true (fun k => k v0'4) fun v127 =>
      S.gd v8'3 true (fun k => k v1'4) fun v129 =>
      S.gd v8'3 true (fun k => S.nc v129 k) fun v130 =>
      S.gd v8'3 true (fun k => S.fad v130 2 k) fun v131 =>
      S.gd v8'3 true (fun k => S.ld v131 k) fun v132 =>
      S.gd v8'3 true (fun k => CF Try.prog 18 [v127] k) fun v128 =>
      S.rck [S.gd v8'3 true (fun k => S.ld v131 k) (fun v' _ => v' = v132)] <|
      S.gd v8'3 true (fun k => S.beq .eql v128 v132 k) fun v133 =>
      S.pick v8'3 v133 (B false) fun v134 =>
      S.gd v134 true (fun k => k v0'4) fun v136 =>
      S.gd v134 true (fun k => k v1'4) fun v138 =>
      S.gd v134 true (fun k => S.nc v138 k) fun v139 =>
      S.gd v134 true (fun k => S.fad v139 3 k) fun v140 =>
      S.gd v134 true (fun k => S.ld v140 k) fun v141 =>
      S.gd v134 true (fun k => CF Try.prog 17 [v136] k) fun v137 =>
      S.rck [S.gd v134 true (fun k => S.ld v140 k) (fun v' _ => v' = v141)] <|
      S.gd v134 true (fun k => S.bin .eql v137 v141 k) fun v142 =>
      S.pick v134 v142 (B false) fun v143 =>
      K v143))
  [v0'3, v1'3, v7'2, v8'2, (I 0)]
theorem e30 (v0 v1 v2 : Value) (K : Value → WT) : s30 v0 v1 v2 K = shal Try.prog Try.f30 .p a30 [v0, v1, v2] K := by kernel_rfl
theorem c30 {v0 v1 v2 : Value} {K : Value → WT} {w : World} (h : s30 v0 v1 v2 K w) : CF Try.prog 30 [v0, v1, v2] K w := shal_sound Try.func30 (e30 v0 v1 v2 K ▸ h)

/-- aumbry/clean.Choose -/
def a31 : Ann := .seq (.z) (.seq (.join [0, 1, 2, 23] (.z) (.cond (.seq (.z) (.z)) (.z))) (.seq (.z) (.seq (.seq (.z) (.blk (.loop [1, 2, 8, 24, 25, 26] (.seq (.z) (.seq (.cond (.z) (.z)) (.join [1, 2, 8, 24, 25, 26] (.blk (.seq (.z) (.seq (.join [1, 2, 8, 10, 24, 25, 26, 44] (.z) (.cond (.seq (.z) (.z)) (.z))) (.join [1, 2, 8, 10, 24, 25, 26, 61] (.z) (.cond (.z) (.z)))))) (.z))))))) (.seq (.z) (.seq (.z) (.seq (.blk (.loop [2, 8, 11] (.seq (.join [2, 8, 11, 77] (.z) (.cond (.z) (.z))) (.blk (.seq (.z) (.seq (.z) (.cond (.z) (.z)))))))) (.seq (.z) (.z))))))))
def s31 (v0 v1 v2 : Value) (K : Value → WT) : WT :=
  S.join 4 (fun K0 =>
    S.bin .lss v1 (I 0) fun v15 =>
    S.gd v15 false (fun k => k v1) fun v17 =>
    S.gd v15 false (fun k => S.bin .gtr v17 (I 100) k) fun v18 =>
    S.pick v15 (B true) v18 fun v19 =>
    S.gd v19 false (fun k => k v2) fun v21 =>
    S.gd v19 false (fun k => S.bin .lss v21 (I 0) k) fun v22 =>
    S.pick v19 (B true) v22 fun v23 =>
    K0 v0 v1 v2 v23)
  <| fun v0' v1' v2' v23' => S.fa fun _ =>
  S.cond v23' (
    K (.tuple #[(.slice none 0 0), (I 2)])) (
    S.box 99 (.slice none 0 0) fun v8 =>
    S.len v0' fun v25 =>
    S.loop 6 (fun K1 => fun v1'2 v2'2 v8' v24 v25' v26 => S.fa fun _ =>
      S.bin .lss v26 v25' fun v27 =>
      S.cond v27 (
        S.join 6 (fun K2 =>
          S.ixS 3 v24 v26 fun v28 =>
          S.ldN 3 v28 fun v29 =>
          S.box 71 (.agg #[(.int .i64 0), (.int .i64 0), (.int .i64 0)]) fun v10 =>
          S.st 3 v10 v29 fun _ =>
          S.join 8 (fun K3 =>
            S.fad v10 2 fun v30 =>
            S.ld v30 fun v31 =>
            S.bin .lss v31 (I 0) fun v32 =>
            S.gd v32 false (fun k => S.fad v10 2 k) fun v34 =>
            S.gd v32 false (fun k => S.ld v34 k) fun v35 =>
            S.gd v32 false (fun k => S.fad v10 1 k) fun v36 =>
            S.gd v32 false (fun k => S.ld v36 k) fun v37 =>
            S.gd v32 false (fun k => S.bin .gtr v35 v37 k) fun v38 =>
            S.pick v32 (B true) v38 fun v39 =>
            S.gd v39 false (fun k => S.fad v10 1 k) fun v41 =>
            S.gd v39 false (fun k => S.ld v41 k) fun v42 =>
            S.gd v39 false (fun k => S.bin .gtr v42 (I 32768) k) fun v43 =>
            S.pick v39 (B true) v43 fun v44 =>
            K3 v1'2 v2'2 v8' v10 v24 v25' v26 v44)
          <| fun v1'3 v2'3 v8'2 v10' v24' v25'2 v26' v44' => S.fa fun _ =>
          S.cond v44' (
            K (.tuple #[(.slice none 0 0), (I 2)])) (
            S.join 8 (fun K4 =>
              S.fad v10' 2 fun v45 =>
              S.ld v45 fun v46 =>
              S.bin .mul (I 100) v46 fun v47 =>
              S.fad v10' 1 fun v49 =>
              S.ld v49 fun v50 =>
              S.bin .mul v1'3 v50 fun v51 =>
              S.bin .lss v47 v51 fun v52 =>
              S.gd v52 false (fun k => S.fad v10' 1 k) fun v54 =>
              S.gd v52 false (fun k => S.ld v54 k) fun v55 =>
              S.gd v52 false (fun k => S.bin .eql v55 (I 0) k) fun v56 =>
              S.gd v52 false (fun k => k v56) fun v57 =>
              S.gd v57 true (fun k => k v1'3) fun v58 =>
              S.gd v57 true (fun k => S.bin .gtr v58 (I 0) k) fun v59 =>
              S.gd v52 false (fun k => S.pick v57 v59 (B false) k) fun v60 =>
              S.pick v52 (B true) v60 fun v61 =>
              K4 v1'3 v2'3 v8'2 v10' v24' v25'2 v26' v61)
            <| fun v1'4 v2'4 v8'3 v10'2 v24'2 v25'3 v26'2 v61' => S.fa fun _ =>
            S.cond v61' (
              S.ld v8'3 fun v62 =>
              S.ldN 3 v10'2 fun v63 =>
              V Try.prog (Instr.buildSlice 99 1 #[(0, v63)]) fun v64 =>
              V Try.prog (Builtin.append_ #[99, 99] 99 #[v62, v64]) fun v65 =>
              S.st 1 v8'3 v65 fun _ =>
              K2 v1'4 v2'4 v8'3 v24'2 v25'3 v26'2) (
              K2 v1'4 v2'4 v8'3 v24'2 v25'3 v26'2)))
        <| fun v1'5 v2'5 v8'4 v24'3 v25'4 v26'3 => S.fa fun _ =>
        S.bin .add v26'3 (I 1) fun v66 =>
        K1 v1'5 v2'5 v8'4 v24'3 v25'4 v66) (
        CF Try.prog 60 [(.iface 101 v8')] fun v68 =>
        S.loop 3 (fun K5 => fun v2'6 v8'5 v11 => S.fa fun _ =>
          S.join 4 (fun K6 =>
            S.ld v8'5 fun v69 =>
            CF Try.prog 61 [v69] fun v70 =>
            S.bin .gtr v70 (I 0) fun v71 =>
            S.gd v71 true (fun k => k v11) fun v73 =>
            S.gd v71 true (fun k => S.len v73 k) fun v74 =>
            S.gd v71 true (fun k => k v2'6) fun v75 =>
            S.gd v71 true (fun k => S.bin .lss v74 v75 k) fun v76 =>
            S.pick v71 v76 (B false) fun v77 =>
            K6 v2'6 v8'5 v11 v77)
          <| fun v2'7 v8'6 v11' v77' => S.fa fun _ =>
          S.cond v77' (
            CF Try.prog 62 [(.iface 101 v8'6)] fun v80 =>
            V Try.prog (Instr.typeAssert v80 20 71 true) fun v81 =>
            S.ext v81 0 fun v82 =>
            S.ext v81 1 fun v83 =>
            S.box 71 (.agg #[(.int .i64 0), (.int .i64 0), (.int .i64 0)]) fun v12 =>
            S.st 3 v12 v82 fun _ =>
            S.cond v83 (
              S.fad v12 0 fun v86 =>
              S.ld v86 fun v87 =>
              V Try.prog (Instr.buildSlice 28 1 #[(0, v87)]) fun v88 =>
              V Try.prog (Builtin.append_ #[28, 28] 28 #[v11', v88]) fun v89 =>
              K5 v2'7 v8'6 v89) (
              K5 v2'7 v8'6 v11')) (
            K (.tuple #[v11', (I 0)])))
        [v2'2, v8', (.slice none 0 0)]))
    [v1', v2', v8, v0', v25, (I 0)])
theorem e31 (v0 v1 v2 : Value) (K : Value → WT) : s31 v0 v1 v2 K = shal Try.prog Try.f31 .p a31 [v0, v1, v2] K := by kernel_rfl
theorem c31 {v0 v1 v2 : Value} {K : Value → WT} {w : World} (h : s31 v0 v1 v2 K w) : CF Try.prog 31 [v0, v1, v2] K w := shal_sound Try.func31 (e31 v0 v1 v2 K ▸ h)

/-- aumbry/aumbryref18.Choose -/
def a32 : Ann := .seq (.z) (.seq (.join [0, 1, 2, 24] (.z) (.cond (.seq (.z) (.z)) (.z))) (.seq (.z) (.seq (.seq (.z) (.blk (.loop [0, 1, 2, 8, 9] (.seq (.seq (.z) (.cond (.z) (.z))) (.join [0, 1, 2, 8, 9] (.blk (.seq (.z) (.seq (.join [0, 1, 2, 8, 9, 10, 50] (.z) (.cond (.seq (.z) (.z)) (.z))) (.join [0, 1, 2, 8, 9, 10, 67] (.z) (.cond (.seq (.z) (.seq (.blk (.loop [0, 1, 2, 8, 9, 10, 11] (.seq (.join [0, 1, 2, 8, 9, 10, 11, 80] (.draw [0, 1, 2, 3, 4, 5, 6, 7, 8, 9, 10, 11, 12]) (.cond (.z) (.z))) (.blk (.z))))) (.seq (.z) (.seq (.z) (.z))))) (.z)))))) (.z)))))) (.seq (.z) (.seq (.seq (.z) (.blk (.loop [2, 8, 13, 14] (.seq (.join [2, 8, 13, 14, 106] (.z) (.cond (.z) (.z))) (.seq (.blk (.z)) (.z)))))) (.seq (.z) (.z)))))))
def s32 (v0 v1 v2 : Value) (K : Value → WT) : WT :=
  S.join 4 (fun K0 =>
    S.bin .lss v1 (I 0) fun v16 =>
    S.gd v16 false (fun k => k v1) fun v18 =>
    S.gd v16 false (fun k => S.bin .gtr v18 (I 100) k) fun v19 =>
    S.pick v16 (B true) v19 fun v20 =>
    S.gd v20 false (fun k => k v2) fun v22 =>
    S.gd v20 false (fun k => S.bin .lss v22 (I 0) k) fun v23 =>
    S.pick v20 (B true) v23 fun v24 =>
    K0 v0 v1 v2 v24)
  <| fun v0' v1' v2' v24' => S.fa fun _ =>
  S.cond v24' (
    K (.tuple #[(.slice none 0 0), (I 2)])) (
    V Try.prog (Instr.buildSlice 60 0 #[]) fun v25 =>
    S.loop 5 (fun K1 => fun v0'2 v1'2 v2'2 v8 v9 => S.fa fun _ =>
      S.len v0'2 fun v28 =>
      S.bin .lss v9 v28 fun v29 =>
      S.cond v29 (
        S.join 5 (fun K2 =>
          S.ixS 3 v0'2 v9 fun v34 =>
          S.ldN 3 v34 fun v35 =>
          S.box 71 (.agg #[(.int .i64 0), (.int .i64 0), (.int .i64 0)]) fun v10 =>
          S.st 3 v10 v35 fun _ =>
          S.join 7 (fun K3 =>
            S.fad v10 2 fun v36 =>
            S.ld v36 fun v37 =>
            S.bin .lss v37 (I 0) fun v38 =>
            S.gd v38 false (fun k => S.fad v10 2 k) fun v40 =>
            S.gd v38 false (fun k => S.ld v40 k) fun v41 =>
            S.gd v38 false (fun k => S.fad v10 1 k) fun v42 =>
            S.gd v38 false (fun k => S.ld v42 k) fun v43 =>
            S.gd v38 false (fun k => S.bin .gtr v41 v43 k) fun v44 =>
            S.pick v38 (B true) v44 fun v45 =>
            S.gd v45 false (fun k => S.fad v10 1 k) fun v47 =>
            S.gd v45 false (fun k => S.ld v47 k) fun v48 =>
            S.gd v45 false (fun k => S.bin .gtr v48 (I 32768) k) fun v49 =>
            S.pick v45 (B true) v49 fun v50 =>
            K3 v0'2 v1'2 v2'2 v8 v9 v10 v50)
          <| fun v0'3 v1'3 v2'3 v8' v9' v10' v50' => S.fa fun _ =>
          S.cond v50' (
            K (.tuple #[(.slice none 0 0), (I 2)])) (
            S.join 7 (fun K4 =>
              S.fad v10' 2 fun v51 =>
              S.ld v51 fun v52 =>
              S.bin .mul (I 100) v52 fun v53 =>
              S.fad v10' 1 fun v55 =>
              S.ld v55 fun v56 =>
              S.bin .mul v1'3 v56 fun v57 =>
              S.bin .lss v53 v57 fun v58 =>
              S.gd v58 false (fun k => S.fad v10' 1 k) fun v60 =>
              S.gd v58 false (fun k => S.ld v60 k) fun v61 =>
              S.gd v58 false (fun k => S.bin .eql v61 (I 0) k) fun v62 =>
              S.gd v58 false (fun k => k v62) fun v63 =>
              S.gd v63 true (fun k => k v1'3) fun v64 =>
              S.gd v63 true (fun k => S.bin .gtr v64 (I 0) k) fun v65 =>
              S.gd v58 false (fun k => S.pick v63 v65 (B false) k) fun v66 =>
              S.pick v58 (B true) v66 fun v67 =>
              K4 v0'3 v1'3 v2'3 v8' v9' v10' v67)
            <| fun v0'4 v1'4 v2'4 v8'2 v9'2 v10'2 v67' => S.fa fun _ =>
            S.cond v67' (
              S.loop 7 (fun K5 => fun v0'5 v1'5 v2'5 v8'3 v9'3 v10'3 v11 => S.fa fun _ =>
                S.join 8 (fun K6 =>
                  S.dr <|
                  S.len v8'3 fun v70 =>
                  S.bin .lss v11 v70 fun v71 =>
                  S.gd v71 true (fun k => S.ldN 3 v10'3 k) fun v73 =>
                  S.gd v71 true (fun k => k v8'3) fun v74 =>
                  S.gd v71 true (fun k => k v11) fun v75 =>
                  S.gd v71 true (fun k => S.ixS 3 v74 v75 k) fun v76 =>
                  S.gd v71 true (fun k => S.ldN 3 v76 k) fun v77 =>
                  S.gd v71 true (fun k => CF Try.prog 63 [v73, v77] k) fun v78 =>
                  S.gd v71 true (fun k => S.not1 v78 k) fun v79 =>
                  S.pick v71 v79 (B false) fun v80 =>
                  K6 v0'5 v1'5 v2'5 v8'3 v9'3 v10'3 v11 v80)
                <| fun v0'6 v1'6 v2'6 v8'4 v9'4 v10'4 v11' v80' => S.fa fun _ =>
                S.cond v80' (
                  S.bin .add v11' (I 1) fun v82 =>
                  K5 v0'6 v1'6 v2'6 v8'4 v9'4 v10'4 v82) (
                  V Try.prog (Instr.buildSlice 60 0 #[]) fun v83 =>
                  S.slc 3 v8'4 none (some v11') none fun v86 =>
                  V Try.prog (Builtin.append_ #[60, 60] 60 #[v83, v86]) fun v87 =>
                  S.ldN 3 v10'4 fun v89 =>
                  V Try.prog (Instr.buildSlice 60 1 #[(0, v89)]) fun v90 =>
                  V Try.prog (Builtin.append_ #[60, 60] 60 #[v87, v90]) fun v91 =>
                  S.slc 3 v8'4 (some v11') none none fun v95 =>
                  V Try.prog (Builtin.append_ #[60, 60] 60 #[v91, v95]) fun v96 =>
                  K2 v0'6 v1'6 v2'6 v96 v9'4))
              [v0'4, v1'4, v2'4, v8'2, v9'2, v10'2, (I 0)]) (
              K2 v0'4 v1'4 v2'4 v8'2 v9'2)))
        <| fun v0'7 v1'7 v2'7 v8'5 v9'5 => S.fa fun _ =>
        S.bin .add v9'5 (I 1) fun v31 =>
        K1 v0'7 v1'7 v2'7 v8'5 v31) (
        V Try.prog (Instr.buildSlice 28 0 #[]) fun v97 =>
        S.loop 4 (fun K7 => fun v2'8 v8'6 v13 v14 => S.fa fun _ =>
          S.join 5 (fun K8 =>
            S.len v8'6 fun v100 =>
            S.bin .lss v14 v100 fun v101 =>
            S.gd v101 true (fun k => k v14) fun v103 =>
            S.gd v101 true (fun k => k v2'8) fun v104 =>
            S.gd v101 true (fun k => S.bin .lss v103 v104 k) fun v105 =>
            S.pick v101 v105 (B false) fun v106 =>
            K8 v2'8 v8'6 v13 v14 v106)
          <| fun v2'9 v8'7 v13' v14' v106' => S.fa fun _ =>
          S.cond v106' (
            S.ixS 3 v8'7 v14' fun v112 =>
            S.fad v112 0 fun v113 =>
            S.ld v113 fun v114 =>
            V Try.prog (Instr.buildSlice 28 1 #[(0, v114)]) fun v115 =>
            V Try.prog (Builtin.append_ #[28, 28] 28 #[v13', v115]) fun v116 =>
            S.bin .add v14' (I 1) fun v108 =>
            K7 v2'9 v8'7 v116 v108) (
            K (.tuple #[v13', (I 0)])))
        [v2'2, v8, v97, (I 0)]))
    [v0', v1', v2', v25, (I 0)])
theorem e32 (v0 v1 v2 : Value) (K : Value → WT) : s32 v0 v1 v2 K = shal Try.prog Try.f32 .p a32 [v0, v1, v2] K := by kernel_rfl
theorem c32 {v0 v1 v2 : Value} {K : Value → WT} {w : World} (h : s32 v0 v1 v2 K w) : CF Try.prog 32 [v0, v1, v2] K w := shal_sound Try.func32 (e32 v0 v1 v2 K ▸ h)

/-- aumbry/aumbrylaw18.live -/
def a33 : Ann := .seq (.z) (.seq (.z) (.seq (.z) (.seq (.z) (.z))))
def s33 (K : Value → WT) : WT :=
  V Try.prog (Instr.build 71 #[(0, (I 1)), (1, (I 10)), (2, (I 4))]) fun v5 =>
  V Try.prog (Instr.build 71 #[(0, (I 2)), (1, (I 10)), (2, (I 1))]) fun v6 =>
  V Try.prog (Instr.build 71 #[(0, (I 3)), (1, (I 10)), (2, (I 10))]) fun v7 =>
  V Try.prog (Instr.buildSlice 60 3 #[(0, v5), (1, v6), (2, v7)]) fun v8 =>
  CF Try.prog 31 [v8, (I 50), (I 9)] fun v9 =>
  S.ext v9 0 fun v10 =>
  S.ext v9 1 fun v11 =>
  V Try.prog (Instr.buildSlice 28 2 #[(0, (I 3)), (1, (I 4))]) fun v12 =>
  V Try.prog (Instr.build 68 #[(0, (I 1)), (1, v12)]) fun v13 =>
  V Try.prog (Instr.buildSlice 65 1 #[(0, v13)]) fun v14 =>
  V Try.prog (Instr.build 79 #[(0, (I 1)), (1, (I 1))]) fun v15 =>
  V Try.prog (Instr.buildSlice 66 1 #[(0, v15)]) fun v16 =>
  CF Try.prog 35 [v14, v16] fun v17 =>
  S.bin .eql v11 (I 0) fun v19 =>
  S.gd v19 true (fun k => k v10) fun v21 =>
  S.gd v19 true (fun k => S.len v21 k) fun v22 =>
  S.gd v19 true (fun k => S.bin .eql v22 (I 2) k) fun v23 =>
  S.pick v19 v23 (B false) fun v24 =>
  S.gd v24 true (fun k => k v10) fun v26 =>
  S.gd v24 true (fun k => S.ixS 1 v26 (I 0) k) fun v27 =>
  S.gd v24 true (fun k => S.ld v27 k) fun v28 =>
  S.gd v24 true (fun k => S.bin .eql v28 (I 2) k) fun v29 =>
  S.pick v24 v29 (B false) fun v30 =>
  S.gd v30 true (fun k => k v10) fun v32 =>
  S.gd v30 true (fun k => S.ixS 1 v32 (I 1) k) fun v33 =>
  S.gd v30 true (fun k => S.ld v33 k) fun v34 =>
  S.gd v30 true (fun k => S.bin .eql v34 (I 1) k) fun v35 =>
  S.pick v30 v35 (B false) fun v36 =>
  S.gd v36 true (fun k => k v17) fun v38 =>
  S.gd v36 true (fun k => S.len v38 k) fun v39 =>
  S.gd v36 true (fun k => S.bin .eql v39 (I 1) k) fun v40 =>
  S.pick v36 v40 (B false) fun v41 =>
  S.gd v41 true (fun k => k v17) fun v43 =>
  S.gd v41 true (fun k => S.ixS 3 v43 (I 0) k) fun v44 =>
  S.gd v41 true (fun k => S.ldN 3 v44 k) fun v45 =>
  S.gd v41 true (fun k => V Try.prog (Instr.build 71 #[(0, (I 1)), (1, (I 7)), (2, (I 4))]) k) fun v46 =>
  S.gd v41 true (fun k => S.eqv Try.prog .eql 71 false v45 v46 k) fun v47 =>
  S.pick v41 v47 (B false) fun v48 =>
  S.gd v48 true (fun k => V Try.prog (Instr.build 79 #[(0, (I 1)), (1, (I 1))]) k) fun v50 =>
  S.gd v48 true (fun k => V Try.prog (Instr.buildSlice 66 1 #[(0, v50)]) k) fun v51 =>
  S.gd v48 true (fun k => CF Try.prog 36 [(I 1), v51] k) fun v52 =>
  S.gd v48 true (fun k => S.len v52 k) fun v53 =>
  S.gd v48 true (fun k => S.bin .eql v53 (I 1) k) fun v54 =>
  S.pick v48 v54 (B false) fun v55 =>
  K v55
theorem e33 (K : Value → WT) : s33  K = shal Try.prog Try.f33 .p a33 [] K := by kernel_rfl
theorem c33 {K : Value → WT} {w : World} (h : s33  K w) : CF Try.prog 33 [] K w := shal_sound Try.func33 (e33  K ▸ h)

/-- aumbry/aumbryref09.Ints -/
def a34 : Ann := .seq (.z) (.seq (.seq (.z) (.cond (.seq (.z) (.z)) (.z))) (.seq (.seq (.z) (.blk (.loop [0, 1, 5] (.seq (.seq (.z) (.cond (.z) (.z))) (.seq (.blk (.seq (.draw [0, 1, 2, 3, 4, 5, 6, 7, 8]) (.cond (.seq (.z) (.z)) (.z)))) (.z)))))) (.seq (.z) (.z))))
def s34 (a_0 b_1 : Value) (K : Value → WT) : WT :=
  S.len a_0 fun v7 =>
  S.len b_1 fun v9 =>
  S.bin .neq v7 v9 fun v10 =>
  S.cond v10 (
    K (B false)) (
    S.loop 3 (fun K0 => fun a_0' b_1' i_5 => S.fa fun _ =>
      S.len a_0' fun v13 =>
      S.bin .lss i_5 v13 fun v14 =>
      S.cond v14 (
        S.dr <|
        S.ixS 1 a_0' i_5 fun v19 =>
        S.ld v19 fun v20 =>
        S.ixS 1 b_1' i_5 fun v23 =>
        S.ld v23 fun v24 =>
        S.bin .neq v20 v24 fun v25 =>
        S.cond v25 (
          K (B false)) (
          S.bin .add i_5 (I 1) fun v16 =>
          K0 a_0' b_1' v16)) (
        K (B true)))
    [a_0, b_1, (I 0)])
theorem e34 (a_0 b_1 : Value) (K : Value → WT) : s34 a_0 b_1 K = shal Try.prog Try.f34 .p a34 [a_0, b_1] K := by kernel_rfl
theorem c34 {a_0 b_1 : Value} {K : Value → WT} {w : World} (h : s34 a_0 b_1 K w) : CF Try.prog 34 [a_0, b_1] K w := shal_sound Try.func34 (e34 a_0 b_1 K ▸ h)

/-- aumbry/clean.Shares -/
def a35 : Ann := .seq (.z) (.seq (.z) (.seq (.seq (.z) (.blk (.loop [0, 5, 15, 16, 17] (.seq (.z) (.seq (.cond (.z) (.z)) (.seq (.blk (.seq (.z) (.z))) (.z))))))) (.seq (.z) (.seq (.seq (.z) (.blk (.loop [5, 8, 24, 25, 26] (.seq (.z) (.seq (.cond (.z) (.z)) (.seq (.blk (.seq (.z) (.seq (.z) (.seq (.seq (.z) (.blk (.loop [5, 8, 10, 11, 24, 25, 26, 39, 40, 41] (.seq (.z) (.seq (.cond (.z) (.z)) (.join [5, 8, 10, 11, 24, 25, 26, 39, 40, 41] (.blk (.seq (.z) (.seq (.draw [0, 1, 2, 3, 4, 5, 6]) (.seq (.z) (.cond (.draw [0, 1, 2, 3, 4, 5, 6]) (.z)))))) (.z))))))) (.z))))) (.z))))))) (.seq (.z) (.z))))))
def s35 (v0 v1 : Value) (K : Value → WT) : WT :=
  S.mkM fun v14 =>
  S.len v1 fun v16 =>
  S.loop 5 (fun K0 => fun v0' v5 v15 v16' v17 => S.fa fun _ =>
    S.bin .lss v17 v16' fun v18 =>
    S.cond v18 (
      S.ixS 2 v15 v17 fun v19 =>
      S.ldN 2 v19 fun v20 =>
      S.box 79 (.agg #[(.int .i64 0), (.int .i64 0)]) fun v7 =>
      S.st 2 v7 v20 fun _ =>
      S.ldN 2 v7 fun v22 =>
      U Try.prog (Instr.mapUpdate 105 v5 v22 (B true)) fun _ =>
      S.bin .add v17 (I 1) fun v23 =>
      K0 v0' v5 v15 v16' v23) (
      S.len v0' fun v25 =>
      S.loop 5 (fun K1 => fun v5' v8 v24 v25' v26 => S.fa fun _ =>
        S.bin .lss v26 v25' fun v27 =>
        S.cond v27 (
          S.ixS 2 v24 v26 fun v28 =>
          S.ldN 2 v28 fun v29 =>
          S.box 68 (.agg #[(.int .i64 0), (.slice none 0 0)]) fun v10 =>
          S.st 2 v10 v29 fun _ =>
          S.fad v10 0 fun v30 =>
          S.ld v30 fun v31 =>
          V Try.prog (Instr.build 71 #[(0, v31)]) fun v32 =>
          S.box 71 (.agg #[(.int .i64 0), (.int .i64 0), (.int .i64 0)]) fun v11 =>
          S.st 3 v11 v32 fun _ =>
          S.fad v10 1 fun v33 =>
          S.ld v33 fun v34 =>
          S.fad v10 1 fun v35 =>
          S.ld v35 fun v36 =>
          S.len v36 fun v37 =>
          S.mn v37 (I 64) fun v38 =>
          S.slc 1 v34 none (some v38) none fun v39 =>
          S.len v39 fun v40 =>
          S.loop 10 (fun K2 => fun v5'2 v8' v10' v11' v24' v25'2 v26' v39' v40' v41 => S.fa fun _ =>
            S.bin .lss v41 v40' fun v42 =>
            S.cond v42 (
              S.join 10 (fun K3 =>
                S.ixS 1 v39' v41 fun v44 =>
                S.ld v44 fun v45 =>
                S.dr <|
                S.fad v11' 1 fun v46 =>
                S.ld v46 fun v47 =>
                CF Try.prog 64 [v45] fun v49 =>
                S.rck [S.ld v46 (fun v' _ => v' = v47)] <|
                S.bin .add v47 v49 fun v50 =>
                S.fad v11' 1 fun v51 =>
                S.st 1 v51 v50 fun _ =>
                S.fad v10' 0 fun v53 =>
                S.ld v53 fun v54 =>
                V Try.prog (Instr.build 79 #[(0, v54), (1, v41)]) fun v56 =>
                V Try.prog (Instr.lookup 105 v5'2 v56 false) fun v57 =>
                S.cond v57 (
                  S.dr <|
                  S.fad v11' 2 fun v58 =>
                  S.ld v58 fun v59 =>
                  CF Try.prog 64 [v45] fun v61 =>
                  S.rck [S.ld v58 (fun v' _ => v' = v59)] <|
                  S.bin .add v59 v61 fun v62 =>
                  S.fad v11' 2 fun v63 =>
                  S.st 1 v63 v62 fun _ =>
                  K3 v5'2 v8' v10' v11' v24' v25'2 v26' v39' v40' v41) (
                  K3 v5'2 v8' v10' v11' v24' v25'2 v26' v39' v40' v41))
              <| fun v5'3 v8'2 v10'2 v11'2 v24'2 v25'3 v26'2 v39'2 v40'2 v41' => S.fa fun _ =>
              S.bin .add v41' (I 1) fun v64 =>
              K2 v5'3 v8'2 v10'2 v11'2 v24'2 v25'3 v26'2 v39'2 v40'2 v64) (
              S.ldN 3 v11' fun v66 =>
              V Try.prog (Instr.buildSlice 60 1 #[(0, v66)]) fun v67 =>
              V Try.prog (Builtin.append_ #[60, 60] 60 #[v8', v67]) fun v68 =>
              S.bin .add v26' (I 1) fun v69 =>
              K1 v5'2 v68 v24' v25'2 v69))
          [v5', v8, v10, v11, v24, v25', v26, v39, v40, (I 0)]) (
          K v8))
      [v5, (.slice none 0 0), v0', v25, (I 0)]))
  [v0, v14, v1, v16, (I 0)]
theorem e35 (v0 v1 : Value) (K : Value → WT) : s35 v0 v1 K = shal Try.prog Try.f35 .p a35 [v0, v1] K := by kernel_rfl
theorem c35 {v0 v1 : Value} {K : Value → WT} {w : World} (h : s35 v0 v1 K w) : CF Try.prog 35 [v0, v1] K w := shal_sound Try.func35 (e35 v0 v1 K ▸ h)

/-- aumbry/clean.Copies -/
def a36 : Ann := .seq (.z) (.seq (.z) (.seq (.seq (.z) (.blk (.loop [0, 5, 8, 9, 10] (.seq (.z) (.seq (.cond (.z) (.z)) (.join [0, 5, 8, 9, 10] (.blk (.seq (.z) (.seq (.z) (.cond (.z) (.z))))) (.z))))))) (.seq (.z) (.seq (.z) (.z)))))
def s36 (bin_0 live_1 : Value) (K : Value → WT) : WT :=
  S.len live_1 fun v9 =>
  S.loop 5 (fun K0 => fun bin_0' out_5 v8 v9' v10 => S.fa fun _ =>
    S.bin .lss v10 v9' fun v11 =>
    S.cond v11 (
      S.join 5 (fun K1 =>
        S.ixS 2 v8 v10 fun v12 =>
        S.ldN 2 v12 fun v13 =>
        S.box 79 (.agg #[(.int .i64 0), (.int .i64 0)]) fun s_7 =>
        S.st 2 s_7 v13 fun _ =>
        S.fad s_7 0 fun v14 =>
        S.ld v14 fun v15 =>
        S.bin .eql v15 bin_0' fun v17 =>
        S.cond v17 (
          S.fad s_7 1 fun v19 =>
          S.ld v19 fun v20 =>
          V Try.prog (Instr.buildSlice 28 1 #[(0, v20)]) fun v21 =>
          V Try.prog (Builtin.append_ #[28, 28] 28 #[out_5, v21]) fun v22 =>
          K1 bin_0' v22 v8 v9' v10) (
          K1 bin_0' out_5 v8 v9' v10))
      <| fun bin_0'2 out_5' v8' v9'2 v10' => S.fa fun _ =>
      S.bin .add v10' (I 1) fun v23 =>
      K0 bin_0'2 out_5' v8' v9'2 v23) (
      CF Try.prog 65 [out_5] fun v25 =>
      CF Try.prog 66 [out_5] fun v27 =>
      K v27))
  [bin_0, (.slice none 0 0), live_1, v9, (I 0)]
theorem e36 (bin_0 live_1 : Value) (K : Value → WT) : s36 bin_0 live_1 K = shal Try.prog Try.f36 .p a36 [bin_0, live_1] K := by kernel_rfl
theorem c36 {bin_0 live_1 : Value} {K : Value → WT} {w : World} (h : s36 bin_0 live_1 K w) : CF Try.prog 36 [bin_0, live_1] K w := shal_sound Try.func36 (e36 bin_0 live_1 K ▸ h)

/-- aumbry/aumbryref18.Copies -/
def a37 : Ann := .seq (.z) (.seq (.z) (.seq (.seq (.z) (.blk (.loop [0, 1, 5, 6] (.seq (.seq (.z) (.cond (.z) (.z))) (.join [0, 1, 5, 6] (.blk (.seq (.seq (.z) (.cond (.z) (.z))) (.seq (.z) (.seq (.blk (.loop [0, 1, 5, 6, 7] (.seq (.join [0, 1, 5, 6, 7, 38] (.draw [0, 1, 2, 3, 4, 5, 6, 7, 8, 9, 10, 11, 12, 13, 14, 15]) (.cond (.z) (.z))) (.blk (.z))))) (.seq (.join [0, 1, 5, 6, 7, 56] (.draw [0, 1, 2, 3, 4, 5, 6, 7, 8, 9, 10, 11, 12, 13, 14, 15]) (.cond (.z) (.z))) (.seq (.z) (.seq (.z) (.z)))))))) (.z)))))) (.seq (.z) (.z))))
def s37 (v0 v1 : Value) (K : Value → WT) : WT :=
  V Try.prog (Instr.buildSlice 28 0 #[]) fun v9 =>
  S.loop 4 (fun K0 => fun v0' v1' v5 v6 => S.fa fun _ =>
    S.len v1' fun v12 =>
    S.bin .lss v6 v12 fun v13 =>
    S.cond v13 (
      S.join 4 (fun K1 =>
        S.ixS 2 v1' v6 fun v18 =>
        S.fad v18 0 fun v19 =>
        S.ld v19 fun v20 =>
        S.bin .neq v20 v0' fun v22 =>
        S.cond v22 (
          K1 v0' v1' v5 v6) (
          S.loop 5 (fun K2 => fun v0'2 v1'2 v5' v6' v7 => S.fa fun _ =>
            S.join 6 (fun K3 =>
              S.dr <|
              S.len v5' fun v25 =>
              S.bin .lss v7 v25 fun v26 =>
              S.gd v26 true (fun k => k v5') fun v28 =>
              S.gd v26 true (fun k => k v7) fun v29 =>
              S.gd v26 true (fun k => S.ixS 1 v28 v29 k) fun v30 =>
              S.gd v26 true (fun k => S.ld v30 k) fun v31 =>
              S.gd v26 true (fun k => k v1'2) fun v32 =>
              S.gd v26 true (fun k => k v6') fun v33 =>
              S.gd v26 true (fun k => S.ixS 2 v32 v33 k) fun v34 =>
              S.gd v26 true (fun k => S.fad v34 1 k) fun v35 =>
              S.gd v26 true (fun k => S.ld v35 k) fun v36 =>
              S.gd v26 true (fun k => S.bin .lss v31 v36 k) fun v37 =>
              S.pick v26 v37 (B false) fun v38 =>
              K3 v0'2 v1'2 v5' v6' v7 v38)
            <| fun v0'3 v1'3 v5'2 v6'2 v7' v38' => S.fa fun _ =>
            S.cond v38' (
              S.bin .add v7' (I 1) fun v40 =>
              K2 v0'3 v1'3 v5'2 v6'2 v40) (
              S.join 6 (fun K4 =>
                S.dr <|
                S.len v5'2 fun v43 =>
                S.bin .lss v7' v43 fun v44 =>
                S.gd v44 true (fun k => k v5'2) fun v46 =>
                S.gd v44 true (fun k => k v7') fun v47 =>
                S.gd v44 true (fun k => S.ixS 1 v46 v47 k) fun v48 =>
                S.gd v44 true (fun k => S.ld v48 k) fun v49 =>
                S.gd v44 true (fun k => k v1'3) fun v50 =>
                S.gd v44 true (fun k => k v6'2) fun v51 =>
                S.gd v44 true (fun k => S.ixS 2 v50 v51 k) fun v52 =>
                S.gd v44 true (fun k => S.fad v52 1 k) fun v53 =>
                S.gd v44 true (fun k => S.ld v53 k) fun v54 =>
                S.gd v44 true (fun k => S.bin .eql v49 v54 k) fun v55 =>
                S.pick v44 v55 (B false) fun v56 =>
                K4 v0'3 v1'3 v5'2 v6'2 v7' v56)
              <| fun v0'4 v1'4 v5'3 v6'3 v7'2 v56' => S.fa fun _ =>
              S.cond v56' (
                K1 v0'4 v1'4 v5'3 v6'3) (
                V Try.prog (Instr.buildSlice 28 0 #[]) fun v57 =>
                S.slc 1 v5'3 none (some v7'2) none fun v60 =>
                V Try.prog (Builtin.append_ #[28, 28] 28 #[v57, v60]) fun v61 =>
                S.ixS 2 v1'4 v6'3 fun v65 =>
                S.fad v65 1 fun v66 =>
                S.ld v66 fun v67 =>
                V Try.prog (Instr.buildSlice 28 1 #[(0, v67)]) fun v68 =>
                V Try.prog (Builtin.append_ #[28, 28] 28 #[v61, v68]) fun v69 =>
                S.slc 1 v5'3 (some v7'2) none none fun v73 =>
                V Try.prog (Builtin.append_ #[28, 28] 28 #[v69, v73]) fun v74 =>
                K1 v0'4 v1'4 v74 v6'3)))
          [v0', v1', v5, v6, (I 0)]))
      <| fun v0'5 v1'5 v5'4 v6'4 => S.fa fun _ =>
      S.bin .add v6'4 (I 1) fun v15 =>
      K0 v0'5 v1'5 v5'4 v15) (
      K v5))
  [v0, v1, v9, (I 0)]
theorem e37 (v0 v1 : Value) (K : Value → WT) : s37 v0 v1 K = shal Try.prog Try.f37 .p a37 [v0, v1] K := by kernel_rfl
theorem c37 {v0 v1 : Value} {K : Value → WT} {w : World} (h : s37 v0 v1 K w) : CF Try.prog 37 [v0, v1] K w := shal_sound Try.func37 (e37 v0 v1 K ▸ h)

/-- aumbry/aumbryref18.Shares -/
def a38 : Ann := .seq (.z) (.seq (.z) (.seq (.seq (.z) (.blk (.loop [0, 1, 5, 6] (.seq (.seq (.z) (.cond (.z) (.z))) (.seq (.blk (.seq (.z) (.seq (.seq (.z) (.blk (.loop [0, 1, 5, 6, 7, 8] (.seq (.join [0, 1, 5, 6, 7, 8, 34] (.z) (.cond (.z) (.z))) (.join [0, 1, 5, 6, 7, 8] (.blk (.seq (.z) (.join [0, 1, 5, 6, 7, 8, 9] (.join [0, 1, 5, 6, 7, 8, 9, 50] (.z) (.cond (.z) (.z))) (.seq (.z) (.seq (.z) (.cond (.z) (.z))))))) (.z)))))) (.z)))) (.z)))))) (.seq (.z) (.z))))
def s38 (v0 v1 : Value) (K : Value → WT) : WT :=
  V Try.prog (Instr.buildSlice 60 0 #[]) fun v10 =>
  S.loop 4 (fun K0 => fun v0' v1' v5 v6 => S.fa fun _ =>
    S.len v0' fun v13 =>
    S.bin .lss v6 v13 fun v14 =>
    S.cond v14 (
      S.ixS 2 v0' v6 fun v19 =>
      S.fad v19 0 fun v20 =>
      S.ld v20 fun v21 =>
      V Try.prog (Instr.build 71 #[(0, v21)]) fun v22 =>
      S.box 71 (.agg #[(.int .i64 0), (.int .i64 0), (.int .i64 0)]) fun v7 =>
      S.st 3 v7 v22 fun _ =>
      S.loop 6 (fun K1 => fun v0'2 v1'2 v5' v6' v7' v8 => S.fa fun _ =>
        S.join 7 (fun K2 =>
          S.ixS 2 v0'2 v6' fun v26 =>
          S.fad v26 1 fun v27 =>
          S.ld v27 fun v28 =>
          S.len v28 fun v29 =>
          S.bin .lss v8 v29 fun v30 =>
          S.gd v30 true (fun k => k v8) fun v32 =>
          S.gd v30 true (fun k => S.bin .lss v32 (I 64) k) fun v33 =>
          S.pick v30 v33 (B false) fun v34 =>
          K2 v0'2 v1'2 v5' v6' v7' v8 v34)
        <| fun v0'3 v1'3 v5'2 v6'2 v7'2 v8' v34' => S.fa fun _ =>
        S.cond v34' (
          S.join 6 (fun K3 =>
            S.ixS 2 v0'3 v6'2 fun v39 =>
            S.fad v39 1 fun v40 =>
            S.ld v40 fun v41 =>
            S.ixS 1 v41 v8' fun v43 =>
            S.ld v43 fun v44 =>
            S.join 7 (fun K4 =>
              S.join 8 (fun K5 =>
                S.bin .lss v44 (I 1) fun v46 =>
                S.gd v46 false (fun k => k v44) fun v48 =>
                S.gd v46 false (fun k => S.bin .gtr v48 (I 512) k) fun v49 =>
                S.pick v46 (B true) v49 fun v50 =>
                K5 v0'3 v1'3 v5'2 v6'2 v7'2 v8' v44 v50)
              <| fun v0'4 v1'4 v5'3 v6'3 v7'3 v8'2 v9 v50' => S.fa fun _ =>
              S.cond v50' (
                K4 v0'4 v1'4 v5'3 v6'3 v7'3 v8'2 (I 0)) (
                K4 v0'4 v1'4 v5'3 v6'3 v7'3 v8'2 v9))
            <| fun v0'5 v1'5 v5'4 v6'4 v7'4 v8'3 v9' => S.fa fun _ =>
            S.fad v7'4 1 fun v51 =>
            S.ld v51 fun v52 =>
            S.bin .add v52 v9' fun v54 =>
            S.fad v7'4 1 fun v55 =>
            S.st 1 v55 v54 fun _ =>
            S.fad v7'4 0 fun v57 =>
            S.ld v57 fun v58 =>
            CF Try.prog 67 [v1'5, v58, v8'3] fun v60 =>
            S.cond v60 (
              S.fad v7'4 2 fun v61 =>
              S.ld v61 fun v62 =>
              S.bin .add v62 v9' fun v64 =>
              S.fad v7'4 2 fun v65 =>
              S.st 1 v65 v64 fun _ =>
              K3 v0'5 v1'5 v5'4 v6'4 v7'4 v8'3) (
              K3 v0'5 v1'5 v5'4 v6'4 v7'4 v8'3))
          <| fun v0'6 v1'6 v5'5 v6'5 v7'5 v8'4 => S.fa fun _ =>
          S.bin .add v8'4 (I 1) fun v36 =>
          K1 v0'6 v1'6 v5'5 v6'5 v7'5 v36) (
          S.ldN 3 v7'2 fun v67 =>
          V Try.prog (Instr.buildSlice 60 1 #[(0, v67)]) fun v68 =>
          V Try.prog (Builtin.append_ #[60, 60] 60 #[v5'2, v68]) fun v69 =>
          S.bin .add v6'2 (I 1) fun v16 =>
          K0 v0'3 v1'3 v69 v16))
      [v0', v1', v5, v6, v7, (I 0)]) (
      K v5))
  [v0, v1, v10, (I 0)]
theorem e38 (v0 v1 : Value) (K : Value → WT) : s38 v0 v1 K = shal Try.prog Try.f38 .p a38 [v0, v1] K := by kernel_rfl
theorem c38 {v0 v1 : Value} {K : Value → WT} {w : World} (h : s38 v0 v1 K w) : CF Try.prog 38 [v0, v1] K w := shal_sound Try.func38 (e38 v0 v1 K ▸ h)

/-- aumbry/aumbrylaw18.same -/
def a39 : Ann := .seq (.z) (.seq (.seq (.z) (.cond (.seq (.z) (.z)) (.z))) (.seq (.seq (.z) (.blk (.loop [0, 1, 5] (.seq (.seq (.z) (.cond (.z) (.z))) (.seq (.blk (.seq (.draw [0, 1, 2, 3, 4, 5, 6, 7, 8]) (.cond (.seq (.z) (.z)) (.z)))) (.z)))))) (.seq (.z) (.z))))
def s39 (a_0 b_1 : Value) (K : Value → WT) : WT :=
  S.len a_0 fun v7 =>
  S.len b_1 fun v9 =>
  S.bin .neq v7 v9 fun v10 =>
  S.cond v10 (
    K (B false)) (
    S.loop 3 (fun K0 => fun a_0' b_1' i_5 => S.fa fun _ =>
      S.len a_0' fun v13 =>
      S.bin .lss i_5 v13 fun v14 =>
      S.cond v14 (
        S.dr <|
        S.ixS 3 a_0' i_5 fun v19 =>
        S.ldN 3 v19 fun v20 =>
        S.ixS 3 b_1' i_5 fun v23 =>
        S.ldN 3 v23 fun v24 =>
        S.eqv Try.prog .neq 71 false v20 v24 fun v25 =>
        S.cond v25 (
          K (B false)) (
          S.bin .add i_5 (I 1) fun v16 =>
          K0 a_0' b_1' v16)) (
        K (B true)))
    [a_0, b_1, (I 0)])
theorem e39 (a_0 b_1 : Value) (K : Value → WT) : s39 a_0 b_1 K = shal Try.prog Try.f39 .p a39 [a_0, b_1] K := by kernel_rfl
theorem c39 {a_0 b_1 : Value} {K : Value → WT} {w : World} (h : s39 a_0 b_1 K w) : CF Try.prog 39 [a_0, b_1] K w := shal_sound Try.func39 (e39 a_0 b_1 K ▸ h)

/-- aumbry/clean.Dead -/
def a40 : Ann := .seq (.z) (.seq (.z) (.seq (.seq (.z) (.blk (.loop [5, 10, 11, 12] (.seq (.z) (.seq (.cond (.z) (.z)) (.seq (.blk (.seq (.z) (.z))) (.z))))))) (.seq (.z) (.z))))
def s40 (bins_0 live_1 : Value) (K : Value → WT) : WT :=
  CF Try.prog 35 [bins_0, live_1] fun v10 =>
  S.len v10 fun v11 =>
  S.loop 4 (fun K0 => fun n_5 v10' v11' v12 => S.fa fun _ =>
    S.bin .lss v12 v11' fun v13 =>
    S.cond v13 (
      S.ixS 3 v10' v12 fun v14 =>
      S.ldN 3 v14 fun v15 =>
      S.box 71 (.agg #[(.int .i64 0), (.int .i64 0), (.int .i64 0)]) fun x_7 =>
      S.st 3 x_7 v15 fun _ =>
      S.fad x_7 1 fun v17 =>
      S.ld v17 fun v18 =>
      S.fad x_7 2 fun v19 =>
      S.ld v19 fun v20 =>
      S.bin .sub v18 v20 fun v21 =>
      S.bin .add n_5 v21 fun v22 =>
      S.bin .add v12 (I 1) fun v23 =>
      K0 v22 v10' v11' v23) (
      K n_5))
  [(I 0), v10, v11, (I 0)]
theorem e40 (bins_0 live_1 : Value) (K : Value → WT) : s40 bins_0 live_1 K = shal Try.prog Try.f40 .p a40 [bins_0, live_1] K := by kernel_rfl
theorem c40 {bins_0 live_1 : Value} {K : Value → WT} {w : World} (h : s40 bins_0 live_1 K w) : CF Try.prog 40 [bins_0, live_1] K w := shal_sound Try.func40 (e40 bins_0 live_1 K ▸ h)

/-- slices.Sorted[int] -/
def a41 : Ann := .seq (.z) (.seq (.z) (.seq (.z) (.seq (.z) (.z))))
def s41 (seq_0 : Value) (K : Value → WT) : WT :=
  CF Try.prog 68 [seq_0] fun v5 =>
  CF Try.prog 65 [v5] fun v7 =>
  K v5
theorem e41 (seq_0 : Value) (K : Value → WT) : s41 seq_0 K = shal Try.prog Try.f41 .p a41 [seq_0] K := by kernel_rfl
theorem c41 {seq_0 : Value} {K : Value → WT} {w : World} (h : s41 seq_0 K w) : CF Try.prog 41 [seq_0] K w := shal_sound Try.func41 (e41 seq_0 K ▸ h)

/-- maps.Keys[map[int][]byte,int,[]byte] -/
def a42 : Ann := .seq (.z) (.seq (.z) (.z))
def s42 (m_0 : Value) (K : Value → WT) : WT :=
  S.box 83 m_0 fun m_1 =>
  K (.func (Go.Fn.func 69) #[] #[m_1])
theorem e42 (m_0 : Value) (K : Value → WT) : s42 m_0 K = shal Try.prog Try.f42 .p a42 [m_0] K := by kernel_rfl
theorem c42 {m_0 : Value} {K : Value → WT} {w : World} (h : s42 m_0 K w) : CF Try.prog 42 [m_0] K w := shal_sound Try.func42 (e42 m_0 K ▸ h)

/-- aumbry/aumbrylaw03.size -/
def a43 : Ann := .seq (.z) (.seq (.z) (.z))
def s43 (n_0 : Value) (K : Value → WT) : WT :=
  S.cvt .u64 n_0 fun v4 =>
  S.bin .rem v4 (.int .u64 12) fun v5 =>
  S.cvt .i64 v5 fun v6 =>
  S.bin .add (I 1) v6 fun v7 =>
  K v7
theorem e43 (n_0 : Value) (K : Value → WT) : s43 n_0 K = shal Try.prog Try.f43 .p a43 [n_0] K := by kernel_rfl
theorem c43 {n_0 : Value} {K : Value → WT} {w : World} (h : s43 n_0 K w) : CF Try.prog 43 [n_0] K w := shal_sound Try.func43 (e43 n_0 K ▸ h)

/-- aumbry/aumbryref03.New -/
def a44 : Ann := .seq (.z) (.seq (.join [0, 12] (.z) (.cond (.seq (.z) (.z)) (.z))) (.seq (.z) (.seq (.z) (.seq (.seq (.z) (.blk (.loop [0, 4, 5, 6] (.seq (.seq (.z) (.cond (.z) (.z))) (.seq (.blk (.z)) (.z)))))) (.seq (.z) (.z))))))
def s44 (n_0 : Value) (K : Value → WT) : WT :=
  S.join 2 (fun K0 =>
    S.bin .lss n_0 (I 1) fun v8 =>
    S.gd v8 false (fun k => k n_0) fun v10 =>
    S.gd v8 false (fun k => S.bin .gtr v10 (I 4096) k) fun v11 =>
    S.pick v8 (B true) v11 fun v12 =>
    K0 n_0 v12)
  <| fun n_0' v12' => S.fa fun _ =>
  S.cond v12' (
    K (.tuple #[(.pointer none), (I 2)])) (
    V Try.prog (Instr.build 50 #[]) fun v13 =>
    S.box 50 v13 fun v14 =>
    CF Try.prog 70 [(I 128)] fun v15 =>
    S.loop 4 (fun K1 => fun n_0'2 d_4 z_5 i_6 => S.fa fun _ =>
      S.bin .lss i_6 n_0'2 fun v18 =>
      S.cond v18 (
        S.nc d_4 fun v23 =>
        S.fad v23 0 fun v24 =>
        S.ld v24 fun v25 =>
        V Try.prog (Instr.build 52 #[(0, z_5)]) fun v27 =>
        V Try.prog (Instr.buildSlice 48 1 #[(0, v27)]) fun v28 =>
        V Try.prog (Builtin.append_ #[48, 48] 48 #[v25, v28]) fun v29 =>
        S.nc d_4 fun v30 =>
        S.fad v30 0 fun v31 =>
        S.st 1 v31 v29 fun _ =>
        S.bin .add i_6 (I 1) fun v20 =>
        K1 n_0'2 d_4 z_5 v20) (
        K (.tuple #[d_4, (I 0)])))
    [n_0', v14, v15, (I 0)])
theorem e44 (n_0 : Value) (K : Value → WT) : s44 n_0 K = shal Try.prog Try.f44 .p a44 [n_0] K := by kernel_rfl
theorem c44 {n_0 : Value} {K : Value → WT} {w : World} (h : s44 n_0 K w) : CF Try.prog 44 [n_0] K w := shal_sound Try.func44 (e44 n_0 K ▸ h)

/-- slices.Clone[[]byte,byte] -/
def a45 : Ann := .seq (.z) (.seq (.seq (.z) (.cond (.seq (.z) (.z)) (.z))) (.seq (.z) (.z)))
def s45 (s_0 : Value) (K : Value → WT) : WT :=
  S.eqv Try.prog .eql 32 true s_0 (.slice none 0 0) fun v4 =>
  S.cond v4 (
    K (.slice none 0 0)) (
    V Try.prog (Instr.buildSlice 32 0 #[]) fun v5 =>
    V Try.prog (Builtin.append_ #[32, 32] 32 #[v5, s_0]) fun v7 =>
    K v7)
theorem e45 (s_0 : Value) (K : Value → WT) : s45 s_0 K = shal Try.prog Try.f45 .p a45 [s_0] K := by kernel_rfl
theorem c45 {s_0 : Value} {K : Value → WT} {w : World} (h : s45 s_0 K w) : CF Try.prog 45 [s_0] K w := shal_sound Try.func45 (e45 s_0 K ▸ h)

/-- (*aumbry/disk.Disk).powered -/
def a46 : Ann := .seq (.z) (.seq (.blk (.seq (.z) (.cond (.seq (.z) (.z)) (.seq (.z) (.cond (.seq (.z) (.z)) (.join [13] (.z) (.cond (.seq (.z) (.z)) (.z)))))))) (.seq (.z) (.z)))
def s46 (d_0 i_1 : Value) (K : Value → WT) : WT :=
  S.eqv Try.prog .eql 22 true d_0 (.pointer none) fun v7 =>
  S.cond v7 (
    K (I 1)) (
    S.nc d_0 fun v10 =>
    S.fad v10 3 fun v11 =>
    S.ld v11 fun v12 =>
    S.cond v12 (
      K (I 7)) (
      S.join 1 (fun K0 =>
        S.bin .lss i_1 (I 0) fun v15 =>
        S.gd v15 false (fun k => k i_1) fun v17 =>
        S.gd v15 false (fun k => k d_0) fun v18 =>
        S.gd v15 false (fun k => S.nc v18 k) fun v19 =>
        S.gd v15 false (fun k => S.fad v19 0 k) fun v20 =>
        S.gd v15 false (fun k => S.ld v20 k) fun v21 =>
        S.gd v15 false (fun k => S.len v21 k) fun v22 =>
        S.gd v15 false (fun k => S.bin .geq v17 v22 k) fun v23 =>
        S.pick v15 (B true) v23 fun v24 =>
        K0 v24)
      <| fun v13 => S.fa fun _ =>
      S.cond v13 (
        K (I 2)) (
        K (I 0))))
theorem e46 (d_0 i_1 : Value) (K : Value → WT) : s46 d_0 i_1 K = shal Try.prog Try.f46 .p a46 [d_0, i_1] K := by kernel_rfl
theorem c46 {d_0 i_1 : Value} {K : Value → WT} {w : World} (h : s46 d_0 i_1 K w) : CF Try.prog 46 [d_0, i_1] K w := shal_sound Try.func46 (e46 d_0 i_1 K ▸ h)

/-- aumbry/disk.whole -/
def a47 : Ann := .seq (.z) (.seq (.z) (.z))
def s47 (b_0 : Value) (K : Value → WT) : WT :=
  CF Try.prog 45 [b_0] fun v4 =>
  S.len b_0 fun v6 =>
  S.bin .sub (I 128) v6 fun v7 =>
  V Try.prog (Builtin.append_ #[32, 3] 32 #[v4, v7]) fun v8 =>
  K v8
theorem e47 (b_0 : Value) (K : Value → WT) : s47 b_0 K = shal Try.prog Try.f47 .p a47 [b_0] K := by kernel_rfl
theorem c47 {b_0 : Value} {K : Value → WT} {w : World} (h : s47 b_0 K w) : CF Try.prog 47 [b_0] K w := shal_sound Try.func47 (e47 b_0 K ▸ h)

/-- (*aumbry/disk.Disk).trips -/
def a48 : Ann := .seq (.z) (.seq (.seq (.z) (.seq (.z) (.cond (.seq (.z) (.seq (.z) (.z))) (.z)))) (.seq (.z) (.seq (.z) (.seq (.z) (.z)))))
def s48 (d_0 does_1 : Value) (K : Value → WT) : WT :=
  S.nc d_0 fun v6 =>
  S.fad v6 2 fun v7 =>
  S.ld v7 fun v8 =>
  S.bin .sub v8 (I 1) fun v9 =>
  S.nc d_0 fun v10 =>
  S.fad v10 2 fun v11 =>
  S.st 1 v11 v9 fun _ =>
  S.nc d_0 fun v13 =>
  S.fad v13 2 fun v14 =>
  S.ld v14 fun v15 =>
  S.bin .eql v15 (I 0) fun v16 =>
  S.cond v16 (
    S.nc d_0 fun v18 =>
    S.fad v18 3 fun v19 =>
    S.st 1 v19 (B true) fun _ =>
    K (I 7)) (
    S.nc d_0 fun v22 =>
    S.fad v22 2 fun v23 =>
    S.ld v23 fun v24 =>
    S.mx v24 (I 0) fun v25 =>
    S.nc d_0 fun v26 =>
    S.fad v26 2 fun v27 =>
    S.st 1 v27 v25 fun _ =>
    S.cvv Try.prog does_1 [] fun v29 =>
    K (I 0))
theorem e48 (d_0 does_1 : Value) (K : Value → WT) : s48 d_0 does_1 K = shal Try.prog Try.f48 .p a48 [d_0, does_1] K := by kernel_rfl
theorem c48 {d_0 does_1 : Value} {K : Value → WT} {w : World} (h : s48 d_0 does_1 K w) : CF Try.prog 48 [d_0, does_1] K w := shal_sound Try.func48 (e48 d_0 does_1 K ▸ h)

/-- (*aumbry/disk.Disk).Write$1 -/
def a49 : Ann := .draw [0, 1, 2, 3, 4, 5, 6]
def s49 (v0 v1 v2 : Value) (K : Value → WT) : WT :=
  S.dr <|
  S.ld v1 fun v3 =>
  S.nc v3 fun v4 =>
  S.fad v4 1 fun v5 =>
  S.ld v5 fun v6 =>
  S.ld v2 fun v7 =>
  S.ld v0 fun v8 =>
  U Try.prog (Instr.mapUpdate 83 v6 v7 v8) fun _ =>
  K (.tuple #[])
theorem e49 (v0 v1 v2 : Value) (K : Value → WT) : s49 v0 v1 v2 K = shal Try.prog Try.f49 .p a49 [v0, v1, v2] K := by kernel_rfl
theorem c49 {v0 v1 v2 : Value} {K : Value → WT} {w : World} (h : s49 v0 v1 v2 K w) : CF Try.prog 49 [v0, v1, v2] K w := shal_sound Try.func49 (e49 v0 v1 v2 K ▸ h)

/-- (*aumbry/disk.Disk).settle -/
def a50 : Ann := .seq (.z) (.blk (.loop [0, 9, 10, 11] (.seq (.z) (.seq (.cond (.z) (.z)) (.seq (.blk (.seq (.z) (.seq (.draw [0, 1, 2, 3, 4, 5, 6, 7, 8, 9, 10, 11, 12]) (.z)))) (.z))))))
def s50 (d_0 : Value) (K : Value → WT) : WT :=
  S.nc d_0 fun v5 =>
  S.fad v5 1 fun v6 =>
  S.ld v6 fun v7 =>
  CF Try.prog 42 [v7] fun v8 =>
  CF Try.prog 41 [v8] fun v9 =>
  S.len v9 fun v10 =>
  S.loop 4 (fun K0 => fun d_0' v9' v10' v11 => S.fa fun _ =>
    S.bin .lss v11 v10' fun v12 =>
    S.cond v12 (
      S.ixS 1 v9' v11 fun v13 =>
      S.ld v13 fun v14 =>
      S.dr <|
      S.nc d_0' fun v16 =>
      S.fad v16 0 fun v17 =>
      S.ld v17 fun v18 =>
      S.nc d_0' fun v21 =>
      S.fad v21 1 fun v22 =>
      S.ld v22 fun v23 =>
      S.lk (.int .i64) (.slice none 0 0) false v23 v14 fun v25 =>
      S.ixS 1 v18 v14 fun v26 =>
      S.st 1 v26 v25 fun _ =>
      S.nc d_0' fun v28 =>
      S.fad v28 1 fun v29 =>
      S.ld v29 fun v30 =>
      V Try.prog (Builtin.delete_ #[83, 3] 0 #[v30, v14]) fun _ =>
      S.bin .add v11 (I 1) fun v32 =>
      K0 d_0' v9' v10' v32) (
      K (.tuple #[])))
  [d_0, v9, v10, (I 0)]
theorem e50 (d_0 : Value) (K : Value → WT) : s50 d_0 K = shal Try.prog Try.f50 .p a50 [d_0] K := by kernel_rfl
theorem c50 {d_0 : Value} {K : Value → WT} {w : World} (h : s50 d_0 K w) : CF Try.prog 50 [d_0] K w := shal_sound Try.func50 (e50 d_0 K ▸ h)

/-- (*aumbry/aumbryref03.Disk).Dirty -/
def a51 : Ann := .seq (.z) (.seq (.z) (.seq (.seq (.z) (.blk (.loop [0, 3, 4] (.seq (.seq (.z) (.cond (.z) (.z))) (.join [0, 3, 4] (.blk (.seq (.z) (.cond (.z) (.z)))) (.z)))))) (.seq (.z) (.z))))
def s51 (d_0 : Value) (K : Value → WT) : WT :=
  V Try.prog (Instr.buildSlice 28 0 #[]) fun v5 =>
  S.loop 3 (fun K0 => fun d_0' out_3 i_4 => S.fa fun _ =>
    S.nc d_0' fun v8 =>
    S.fad v8 0 fun v9 =>
    S.ld v9 fun v10 =>
    S.len v10 fun v11 =>
    S.bin .lss i_4 v11 fun v12 =>
    S.cond v12 (
      S.join 3 (fun K1 =>
        S.nc d_0' fun v16 =>
        S.fad v16 0 fun v17 =>
        S.ld v17 fun v18 =>
        S.ixS 3 v18 i_4 fun v20 =>
        S.fad v20 2 fun v21 =>
        S.ld v21 fun v22 =>
        S.cond v22 (
          V Try.prog (Instr.buildSlice 28 1 #[(0, i_4)]) fun v25 =>
          V Try.prog (Builtin.append_ #[28, 28] 28 #[out_3, v25]) fun v26 =>
          K1 d_0' v26 i_4) (
          K1 d_0' out_3 i_4))
      <| fun d_0'2 out_3' i_4' => S.fa fun _ =>
      S.bin .add i_4' (I 1) fun v14 =>
      K0 d_0'2 out_3' v14) (
      K out_3))
  [d_0, v5, (I 0)]
theorem e51 (d_0 : Value) (K : Value → WT) : s51 d_0 K = shal Try.prog Try.f51 .p a51 [d_0] K := by kernel_rfl
theorem c51 {d_0 : Value} {K : Value → WT} {w : World} (h : s51 d_0 K w) : CF Try.prog 51 [d_0] K w := shal_sound Try.func51 (e51 d_0 K ▸ h)

/-- (*aumbry/aumbryref03.Disk).Read -/
def a52 : Ann := .seq (.z) (.seq (.seq (.z) (.cond (.seq (.z) (.z)) (.z))) (.seq (.join [0, 1, 20] (.z) (.cond (.seq (.z) (.z)) (.z))) (.seq (.seq (.z) (.cond (.seq (.z) (.z)) (.z))) (.seq (.z) (.z)))))
def s52 (d_0 i_1 : Value) (K : Value → WT) : WT :=
  S.nc d_0 fun v7 =>
  S.fad v7 2 fun v8 =>
  S.ld v8 fun v9 =>
  S.cond v9 (
    K (.tuple #[(.slice none 0 0), (I 7)])) (
    S.join 3 (fun K0 =>
      S.bin .lss i_1 (I 0) fun v11 =>
      S.gd v11 false (fun k => k i_1) fun v13 =>
      S.gd v11 false (fun k => k d_0) fun v14 =>
      S.gd v11 false (fun k => S.nc v14 k) fun v15 =>
      S.gd v11 false (fun k => S.fad v15 0 k) fun v16 =>
      S.gd v11 false (fun k => S.ld v16 k) fun v17 =>
      S.gd v11 false (fun k => S.len v17 k) fun v18 =>
      S.gd v11 false (fun k => S.bin .geq v13 v18 k) fun v19 =>
      S.pick v11 (B true) v19 fun v20 =>
      K0 d_0 i_1 v20)
    <| fun d_0' i_1' v20' => S.fa fun _ =>
    S.cond v20' (
      K (.tuple #[(.slice none 0 0), (I 2)])) (
      S.nc d_0' fun v22 =>
      S.fad v22 0 fun v23 =>
      S.ld v23 fun v24 =>
      S.ixS 3 v24 i_1' fun v26 =>
      S.fad v26 2 fun v27 =>
      S.ld v27 fun v28 =>
      S.cond v28 (
        S.nc d_0' fun v30 =>
        S.fad v30 0 fun v31 =>
        S.ld v31 fun v32 =>
        S.ixS 3 v32 i_1' fun v34 =>
        S.fad v34 1 fun v35 =>
        S.ld v35 fun v36 =>
        V Try.prog (convert 9 32 v36) fun v37 =>
        K (.tuple #[v37, (I 0)])) (
        S.nc d_0' fun v39 =>
        S.fad v39 0 fun v40 =>
        S.ld v40 fun v41 =>
        S.ixS 3 v41 i_1' fun v43 =>
        S.fad v43 0 fun v44 =>
        S.ld v44 fun v45 =>
        V Try.prog (convert 9 32 v45) fun v46 =>
        K (.tuple #[v46, (I 0)]))))
theorem e52 (d_0 i_1 : Value) (K : Value → WT) : s52 d_0 i_1 K = shal Try.prog Try.f52 .p a52 [d_0, i_1] K := by kernel_rfl
theorem c52 {d_0 i_1 : Value} {K : Value → WT} {w : World} (h : s52 d_0 i_1 K w) : CF Try.prog 52 [d_0, i_1] K w := shal_sound Try.func52 (e52 d_0 i_1 K ▸ h)

/-- slices.Clone[[][]byte,[]byte] -/
def a53 : Ann := .seq (.z) (.seq (.seq (.z) (.cond (.seq (.z) (.z)) (.z))) (.seq (.z) (.z)))
def s53 (s_0 : Value) (K : Value → WT) : WT :=
  S.eqv Try.prog .eql 84 true s_0 (.slice none 0 0) fun v4 =>
  S.cond v4 (
    K (.slice none 0 0)) (
    V Try.prog (Instr.buildSlice 84 0 #[]) fun v5 =>
    V Try.prog (Builtin.append_ #[84, 84] 84 #[v5, s_0]) fun v7 =>
    K v7)
theorem e53 (s_0 : Value) (K : Value → WT) : s53 s_0 K = shal Try.prog Try.f53 .p a53 [s_0] K := by kernel_rfl
theorem c53 {s_0 : Value} {K : Value → WT} {w : World} (h : s53 s_0 K w) : CF Try.prog 53 [s_0] K w := shal_sound Try.func53 (e53 s_0 K ▸ h)

/-- maps.Clone[map[int][]byte,int,[]byte] -/
def a54 : Ann := .seq (.z) (.seq (.seq (.z) (.cond (.seq (.z) (.z)) (.z))) (.seq (.z) (.z)))
def s54 (m_0 : Value) (K : Value → WT) : WT :=
  S.eqv Try.prog .eql 83 true m_0 (.map none) fun v4 =>
  S.cond v4 (
    K (.map none)) (
    Gives Try.prog (callFunc 71 #[(.iface 83 m_0)]) fun v7 =>
    V Try.prog (Instr.typeAssert v7 20 83 false) fun v8 =>
    K v8)
theorem e54 (m_0 : Value) (K : Value → WT) : s54 m_0 K = shal Try.prog Try.f54 .p a54 [m_0] K := by kernel_rfl
theorem c54 {m_0 : Value} {K : Value → WT} {w : World} (h : s54 m_0 K w) : CF Try.prog 54 [m_0] K w := shal_sound Try.func54 (e54 m_0 K ▸ h)

/-- (*aumbry/aumbryref03.Disk).Write -/
def a55 : Ann := .seq (.z) (.seq (.seq (.z) (.cond (.seq (.z) (.z)) (.z))) (.seq (.join [0, 1, 2, 21] (.z) (.cond (.seq (.z) (.z)) (.z))) (.seq (.seq (.z) (.cond (.seq (.z) (.z)) (.z))) (.seq (.seq (.z) (.cond (.seq (.z) (.z)) (.z))) (.seq (.draw [0, 1, 2, 3, 4, 5, 6, 7, 8, 9, 10, 11, 12, 13, 14, 15, 16, 17, 18]) (.seq (.z) (.z)))))))
def s55 (d_0 i_1 b_2 : Value) (K : Value → WT) : WT :=
  S.nc d_0 fun v8 =>
  S.fad v8 2 fun v9 =>
  S.ld v9 fun v10 =>
  S.cond v10 (
    K (I 7)) (
    S.join 4 (fun K0 =>
      S.bin .lss i_1 (I 0) fun v12 =>
      S.gd v12 false (fun k => k i_1) fun v14 =>
      S.gd v12 false (fun k => k d_0) fun v15 =>
      S.gd v12 false (fun k => S.nc v15 k) fun v16 =>
      S.gd v12 false (fun k => S.fad v16 0 k) fun v17 =>
      S.gd v12 false (fun k => S.ld v17 k) fun v18 =>
      S.gd v12 false (fun k => S.len v18 k) fun v19 =>
      S.gd v12 false (fun k => S.bin .geq v14 v19 k) fun v20 =>
      S.pick v12 (B true) v20 fun v21 =>
      K0 d_0 i_1 b_2 v21)
    <| fun d_0' i_1' b_2' v21' => S.fa fun _ =>
    S.cond v21' (
      K (I 2)) (
      S.len b_2' fun v23 =>
      S.bin .gtr v23 (I 128) fun v24 =>
      S.cond v24 (
        K (I 6)) (
        CF Try.prog 72 [d_0'] fun v26 =>
        S.cond v26 (
          K (I 7)) (
          S.dr <|
          S.nc d_0' fun v30 =>
          S.fad v30 0 fun v31 =>
          S.ld v31 fun v32 =>
          S.ixS 3 v32 i_1' fun v34 =>
          S.fad v34 0 fun v35 =>
          S.ld v35 fun v36 =>
          S.b2s b_2' fun v38 =>
          S.len b_2' fun v40 =>
          S.bin .sub (I 128) v40 fun v41 =>
          CF Try.prog 70 [v41] fun v42 =>
          S.rck [S.b2s b_2' (fun v' _ => v' = v38), S.ld v35 (fun v' _ => v' = v36), S.ld v31 (fun v' _ => v' = v32)] <|
          S.sbin .add v38 v42 fun v43 =>
          V Try.prog (Instr.build 52 #[(0, v36), (1, v43), (2, (B true))]) fun v44 =>
          CF Try.prog 73 [d_0', i_1', v44] fun v45 =>
          K (I 0)))))
theorem e55 (d_0 i_1 b_2 : Value) (K : Value → WT) : s55 d_0 i_1 b_2 K = shal Try.prog Try.f55 .p a55 [d_0, i_1, b_2] K := by kernel_rfl
theorem c55 {d_0 i_1 b_2 : Value} {K : Value → WT} {w : World} (h : s55 d_0 i_1 b_2 K w) : CF Try.prog 55 [d_0, i_1, b_2] K w := shal_sound Try.func55 (e55 d_0 i_1 b_2 K ▸ h)

/-- (*aumbry/aumbryref03.Disk).Flush -/
def a56 : Ann := .seq (.z) (.seq (.join [0, 13] (.z) (.cond (.seq (.z) (.z)) (.z))) (.seq (.z) (.seq (.seq (.z) (.blk (.loop [0, 3, 4] (.seq (.seq (.z) (.cond (.z) (.z))) (.seq (.blk (.seq (.z) (.join [0, 3, 4, 5] (.seq (.z) (.cond (.z) (.z))) (.z)))) (.z)))))) (.seq (.z) (.seq (.z) (.z))))))
def s56 (d_0 : Value) (K : Value → WT) : WT :=
  S.join 2 (fun K0 =>
    S.nc d_0 fun v7 =>
    S.fad v7 2 fun v8 =>
    S.ld v8 fun v9 =>
    S.gd v9 false (fun k => k d_0) fun v11 =>
    S.gd v9 false (fun k => CF Try.prog 72 [v11] k) fun v12 =>
    S.pick v9 (B true) v12 fun v13 =>
    K0 d_0 v13)
  <| fun d_0' v13' => S.fa fun _ =>
  S.cond v13' (
    K (I 7)) (
    V Try.prog (Instr.buildSlice 48 0 #[]) fun v14 =>
    S.loop 3 (fun K1 => fun d_0'2 l_3 i_4 => S.fa fun _ =>
      S.nc d_0'2 fun v17 =>
      S.fad v17 0 fun v18 =>
      S.ld v18 fun v19 =>
      S.len v19 fun v20 =>
      S.bin .lss i_4 v20 fun v21 =>
      S.cond v21 (
        S.nc d_0'2 fun v25 =>
        S.fad v25 0 fun v26 =>
        S.ld v26 fun v27 =>
        S.ixS 3 v27 i_4 fun v29 =>
        S.ldN 3 v29 fun v30 =>
        S.box 52 (.agg #[(.string ⟨#[]⟩), (.string ⟨#[]⟩), (.bool false)]) fun p_5 =>
        S.st 3 p_5 v30 fun _ =>
        S.join 4 (fun K2 =>
          S.fad p_5 2 fun v31 =>
          S.ld v31 fun v32 =>
          S.cond v32 (
            S.fad p_5 1 fun v33 =>
            S.ld v33 fun v34 =>
            V Try.prog (Instr.build 52 #[(0, v34)]) fun v35 =>
            S.st 3 p_5 v35 fun _ =>
            K2 d_0'2 l_3 i_4 p_5) (
            K2 d_0'2 l_3 i_4 p_5))
        <| fun d_0'3 l_3' i_4' p_5' => S.fa fun _ =>
        S.ldN 3 p_5' fun v37 =>
        V Try.prog (Instr.buildSlice 48 1 #[(0, v37)]) fun v38 =>
        V Try.prog (Builtin.append_ #[48, 48] 48 #[l_3', v38]) fun v39 =>
        S.bin .add i_4' (I 1) fun v23 =>
        K1 d_0'3 v39 v23) (
        S.nc d_0'2 fun v42 =>
        S.fad v42 0 fun v43 =>
        S.st 1 v43 l_3 fun _ =>
        K (I 0)))
    [d_0', v14, (I 0)])
theorem e56 (d_0 : Value) (K : Value → WT) : s56 d_0 K = shal Try.prog Try.f56 .p a56 [d_0] K := by kernel_rfl
theorem c56 {d_0 : Value} {K : Value → WT} {w : World} (h : s56 d_0 K w) : CF Try.prog 56 [d_0] K w := shal_sound Try.func56 (e56 d_0 K ▸ h)

/-- (*aumbry/aumbryref03.Disk).Trip -/
def a57 : Ann := .seq (.z) (.seq (.seq (.z) (.cond (.seq (.z) (.z)) (.z))) (.seq (.seq (.z) (.cond (.seq (.z) (.z)) (.z))) (.seq (.z) (.seq (.z) (.z)))))
def s57 (d_0 n_1 : Value) (K : Value → WT) : WT :=
  S.nc d_0 fun v6 =>
  S.fad v6 2 fun v7 =>
  S.ld v7 fun v8 =>
  S.cond v8 (
    K (I 7)) (
    S.bin .lss n_1 (I 0) fun v10 =>
    S.cond v10 (
      K (I 2)) (
      S.nc d_0 fun v13 =>
      S.fad v13 1 fun v14 =>
      S.st 1 v14 n_1 fun _ =>
      K (I 0)))
theorem e57 (d_0 n_1 : Value) (K : Value → WT) : s57 d_0 n_1 K = shal Try.prog Try.f57 .p a57 [d_0, n_1] K := by kernel_rfl
theorem c57 {d_0 n_1 : Value} {K : Value → WT} {w : World} (h : s57 d_0 n_1 K w) : CF Try.prog 57 [d_0, n_1] K w := shal_sound Try.func57 (e57 d_0 n_1 K ▸ h)

/-- (*aumbry/aumbryref03.Disk).Crash -/
def a58 : Ann := .seq (.z) (.seq (.z) (.seq (.z) (.seq (.seq (.z) (.blk (.loop [0, 3, 4, 5, 6] (.seq (.seq (.z) (.cond (.z) (.z))) (.seq (.blk (.seq (.z) (.join [0, 3, 4, 5, 6, 7] (.seq (.z) (.cond (.seq (.z) (.join [0, 3, 4, 5, 6, 7, 8] (.join [0, 3, 4, 5, 6, 7, 8, 41] (.z) (.cond (.z) (.z))) (.join [0, 3, 4, 5, 6, 7, 8] (.join [0, 3, 4, 5, 6, 7, 8, 57] (.z) (.cond (.draw [0, 1, 2, 3, 4, 5, 6, 7, 8, 9, 10, 11]) (.z))) (.seq (.z) (.z))))) (.z))) (.z)))) (.z)))))) (.seq (.z) (.seq (.z) (.seq (.z) (.z)))))))
def s58 (v0 v1 : Value) (K : Value → WT) : WT :=
  S.box 35 v1 fun v3 =>
  V Try.prog (Instr.buildSlice 48 0 #[]) fun v9 =>
  S.loop 5 (fun K0 => fun v0' v3' v4 v5 v6 => S.fa fun _ =>
    S.nc v0' fun v12 =>
    S.fad v12 0 fun v13 =>
    S.ld v13 fun v14 =>
    S.len v14 fun v15 =>
    S.bin .lss v6 v15 fun v16 =>
    S.cond v16 (
      S.nc v0' fun v20 =>
      S.fad v20 0 fun v21 =>
      S.ld v21 fun v22 =>
      S.ixS 3 v22 v6 fun v24 =>
      S.ldN 3 v24 fun v25 =>
      S.box 52 (.agg #[(.string ⟨#[]⟩), (.string ⟨#[]⟩), (.bool false)]) fun v7 =>
      S.st 3 v7 v25 fun _ =>
      S.join 6 (fun K1 =>
        S.fad v7 2 fun v26 =>
        S.ld v26 fun v27 =>
        S.cond v27 (
          S.fad v7 0 fun v28 =>
          S.ld v28 fun v29 =>
          S.join 7 (fun K2 =>
            S.join 8 (fun K3 =>
              S.fad v3' 0 fun v31 =>
              S.ld v31 fun v32 =>
              S.len v32 fun v33 =>
              S.bin .lss v5 v33 fun v34 =>
              S.gd v34 true (fun k => S.fad v3' 0 k) fun v36 =>
              S.gd v34 true (fun k => S.ld v36 k) fun v37 =>
              S.gd v34 true (fun k => k v5) fun v38 =>
              S.gd v34 true (fun k => S.ixS 1 v37 v38 k) fun v39 =>
              S.gd v34 true (fun k => S.ld v39 k) fun v40 =>
              S.pick v34 v40 (B false) fun v41 =>
              K3 v0' v3' v4 v5 v6 v7 v29 v41)
            <| fun v0'2 v3'2 v4' v5' v6' v7' v8 v41' => S.fa fun _ =>
            S.cond v41' (
              S.fad v7' 1 fun v42 =>
              S.ld v42 fun v43 =>
              K2 v0'2 v3'2 v4' v5' v6' v7' v43) (
              K2 v0'2 v3'2 v4' v5' v6' v7' v8))
          <| fun v0'3 v3'3 v4'2 v5'2 v6'2 v7'2 v8' => S.fa fun _ =>
          S.join 7 (fun K4 =>
            S.join 8 (fun K5 =>
              S.fad v3'3 1 fun v45 =>
              S.ld v45 fun v46 =>
              S.bin .eql v5'2 v46 fun v47 =>
              S.gd v47 true (fun k => S.fad v3'3 2 k) fun v49 =>
              S.gd v47 true (fun k => S.ld v49 k) fun v50 =>
              S.gd v47 true (fun k => S.bin .geq v50 (I 0) k) fun v51 =>
              S.pick v47 v51 (B false) fun v52 =>
              S.gd v52 true (fun k => S.fad v3'3 2 k) fun v54 =>
              S.gd v52 true (fun k => S.ld v54 k) fun v55 =>
              S.gd v52 true (fun k => S.bin .leq v55 (I 128) k) fun v56 =>
              S.pick v52 v56 (B false) fun v57 =>
              K5 v0'3 v3'3 v4'2 v5'2 v6'2 v7'2 v8' v57)
            <| fun v0'4 v3'4 v4'3 v5'3 v6'3 v7'3 v8'2 v57' => S.fa fun _ =>
            S.cond v57' (
              S.dr <|
              S.fad v7'3 1 fun v58 =>
              S.ld v58 fun v59 =>
              S.fad v3'4 2 fun v60 =>
              S.ld v60 fun v61 =>
              S.slcS v59 none (some v61) fun v62 =>
              S.fad v7'3 0 fun v63 =>
              S.ld v63 fun v64 =>
              S.fad v3'4 2 fun v65 =>
              S.ld v65 fun v66 =>
              S.slcS v64 (some v66) none fun v67 =>
              S.sbin .add v62 v67 fun v68 =>
              K4 v0'4 v3'4 v4'3 v5'3 v6'3 v7'3 v68) (
              K4 v0'4 v3'4 v4'3 v5'3 v6'3 v7'3 v8'2))
          <| fun v0'5 v3'5 v4'4 v5'4 v6'4 v7'4 v8'3 => S.fa fun _ =>
          V Try.prog (Instr.build 52 #[(0, v8'3)]) fun v70 =>
          S.st 3 v7'4 v70 fun _ =>
          S.bin .add v5'4 (I 1) fun v72 =>
          K1 v0'5 v3'5 v4'4 v72 v6'4 v7'4) (
          K1 v0' v3' v4 v5 v6 v7))
      <| fun v0'6 v3'6 v4'5 v5'5 v6'5 v7'5 => S.fa fun _ =>
      S.ldN 3 v7'5 fun v74 =>
      V Try.prog (Instr.buildSlice 48 1 #[(0, v74)]) fun v75 =>
      V Try.prog (Builtin.append_ #[48, 48] 48 #[v4'5, v75]) fun v76 =>
      S.bin .add v6'5 (I 1) fun v18 =>
      K0 v0'6 v3'6 v76 v5'5 v18) (
      S.nc v0' fun v79 =>
      S.fad v79 0 fun v80 =>
      S.st 1 v80 v4 fun _ =>
      S.nc v0' fun v82 =>
      S.fad v82 1 fun v83 =>
      S.st 1 v83 (I 0) fun _ =>
      S.nc v0' fun v85 =>
      S.fad v85 2 fun v86 =>
      S.st 1 v86 (B false) fun _ =>
      S.nc v0' fun v89 =>
      S.fad v89 3 fun v90 =>
      S.ld v90 fun v91 =>
      S.bin .add v91 (I 1) fun v92 =>
      S.nc v0' fun v93 =>
      S.fad v93 3 fun v94 =>
      S.st 1 v94 v92 fun _ =>
      K (.tuple #[])))
  [v0, v3, v9, (I 0), (I 0)]
theorem e58 (v0 v1 : Value) (K : Value → WT) : s58 v0 v1 K = shal Try.prog Try.f58 .p a58 [v0, v1] K := by kernel_rfl
theorem c58 {v0 v1 : Value} {K : Value → WT} {w : World} (h : s58 v0 v1 K w) : CF Try.prog 58 [v0, v1] K w := shal_sound Try.func58 (e58 v0 v1 K ▸ h)

/-- (*aumbry/aumbryref03.Disk).Rot -/
def a59 : Ann := .seq (.z) (.seq (.join [0, 1, 2, 17] (.z) (.cond (.seq (.z) (.z)) (.z))) (.seq (.seq (.z) (.cond (.seq (.z) (.z)) (.z))) (.seq (.draw [0, 1, 2, 3, 4, 5, 6, 7, 8, 9, 10]) (.seq (.z) (.z)))))
def s59 (d_0 i_1 b_2 : Value) (K : Value → WT) : WT :=
  S.join 4 (fun K0 =>
    S.bin .lss i_1 (I 0) fun v8 =>
    S.gd v8 false (fun k => k i_1) fun v10 =>
    S.gd v8 false (fun k => k d_0) fun v11 =>
    S.gd v8 false (fun k => S.nc v11 k) fun v12 =>
    S.gd v8 false (fun k => S.fad v12 0 k) fun v13 =>
    S.gd v8 false (fun k => S.ld v13 k) fun v14 =>
    S.gd v8 false (fun k => S.len v14 k) fun v15 =>
    S.gd v8 false (fun k => S.bin .geq v10 v15 k) fun v16 =>
    S.pick v8 (B true) v16 fun v17 =>
    K0 d_0 i_1 b_2 v17)
  <| fun d_0' i_1' b_2' v17' => S.fa fun _ =>
  S.cond v17' (
    K (I 2)) (
    S.len b_2' fun v19 =>
    S.bin .gtr v19 (I 128) fun v20 =>
    S.cond v20 (
      K (I 6)) (
      S.dr <|
      S.b2s b_2' fun v24 =>
      S.len b_2' fun v26 =>
      S.bin .sub (I 128) v26 fun v27 =>
      CF Try.prog 70 [v27] fun v28 =>
      S.rck [S.b2s b_2' (fun v' _ => v' = v24)] <|
      S.sbin .add v24 v28 fun v29 =>
      V Try.prog (Instr.build 52 #[(0, v29)]) fun v30 =>
      CF Try.prog 73 [d_0', i_1', v30] fun v31 =>
      K (I 0)))
theorem e59 (d_0 i_1 b_2 : Value) (K : Value → WT) : s59 d_0 i_1 b_2 K = shal Try.prog Try.f59 .p a59 [d_0, i_1, b_2] K := by kernel_rfl
theorem c59 {d_0 i_1 b_2 : Value} {K : Value → WT} {w : World} (h : s59 d_0 i_1 b_2 K w) : CF Try.prog 59 [d_0, i_1, b_2] K w := shal_sound Try.func59 (e59 d_0 i_1 b_2 K ▸ h)

/-- container/heap.Init -/
def a60 : Ann := .seq (.z) (.seq (.z) (.blk (.loop [0, 2, 3] (.seq (.seq (.z) (.cond (.z) (.z))) (.seq (.blk (.z)) (.z))))))
def s60 (h_0 : Value) (K : Value → WT) : WT :=
  Gives Try.prog (invoke (.fn (.method "Len") #[]) #[h_0]) fun v5 =>
  S.bin .quo v5 (I 2) fun v7 =>
  S.bin .sub v7 (I 1) fun v8 =>
  S.loop 3 (fun K0 => fun h_0' n_2 i_3 => S.fa fun _ =>
    S.bin .geq i_3 (I 0) fun v10 =>
    S.cond v10 (
      CF Try.prog 74 [h_0', i_3, n_2] fun v16 =>
      S.bin .sub i_3 (I 1) fun v12 =>
      K0 h_0' n_2 v12) (
      K (.tuple #[])))
  [h_0, v5, v8]
theorem e60 (h_0 : Value) (K : Value → WT) : s60 h_0 K = shal Try.prog Try.f60 .p a60 [h_0] K := by kernel_rfl
theorem c60 {h_0 : Value} {K : Value → WT} {w : World} (h : s60 h_0 K w) : CF Try.prog 60 [h_0] K w := shal_sound Try.func60 (e60 h_0 K ▸ h)

/-- (aumbry/clean.row).Len -/
def a61 : Ann := .seq (.z) (.seq (.z) (.z))
def s61 (r_0 : Value) (K : Value → WT) : WT :=
  S.len r_0 fun v4 =>
  K v4
theorem e61 (r_0 : Value) (K : Value → WT) : s61 r_0 K = shal Try.prog Try.f61 .p a61 [r_0] K := by kernel_rfl
theorem c61 {r_0 : Value} {K : Value → WT} {w : World} (h : s61 r_0 K w) : CF Try.prog 61 [r_0] K w := shal_sound Try.func61 (e61 r_0 K ▸ h)

/-- container/heap.Pop -/
def a62 : Ann := .seq (.z) (.seq (.z) (.seq (.z) (.seq (.z) (.seq (.z) (.z)))))
def s62 (h_0 : Value) (K : Value → WT) : WT :=
  Gives Try.prog (invoke (.fn (.method "Len") #[]) #[h_0]) fun v5 =>
  S.bin .sub v5 (I 1) fun v6 =>
  Gives Try.prog (invoke (.fn (.method "Swap") #[]) #[h_0, (I 0), v6]) fun v9 =>
  CF Try.prog 74 [h_0, (I 0), v6] fun v12 =>
  Gives Try.prog (invoke (.fn (.method "Pop") #[]) #[h_0]) fun v14 =>
  K v14
theorem e62 (h_0 : Value) (K : Value → WT) : s62 h_0 K = shal Try.prog Try.f62 .p a62 [h_0] K := by kernel_rfl
theorem c62 {h_0 : Value} {K : Value → WT} {w : World} (h : s62 h_0 K w) : CF Try.prog 62 [h_0] K w := shal_sound Try.func62 (e62 h_0 K ▸ h)

/-- aumbry/aumbryref18.less -/
def a63 : Ann := .seq (.z) (.seq (.z) (.seq (.z) (.join [2, 3, 5, 6] (.seq (.z) (.cond (.z) (.z))) (.join [2, 3, 5, 6] (.seq (.z) (.cond (.z) (.z))) (.seq (.z) (.seq (.z) (.seq (.seq (.z) (.blk (.loop [2, 3, 7, 8, 9] (.seq (.seq (.z) (.cond (.z) (.z))) (.seq (.blk (.seq (.draw [0, 1, 2, 3, 4, 5, 6, 7, 8]) (.cond (.seq (.draw [0, 1, 2, 3, 4, 5, 6, 7, 8, 9]) (.z)) (.z)))) (.z)))))) (.seq (.z) (.z)))))))))
def s63 (a_0 b_1 : Value) (K : Value → WT) : WT :=
  S.box 71 a_0 fun a_2 =>
  S.box 71 b_1 fun b_3 =>
  S.fad a_2 1 fun v10 =>
  S.ld v10 fun v11 =>
  S.fad b_3 1 fun v12 =>
  S.ld v12 fun v13 =>
  S.join 4 (fun K0 =>
    S.bin .eql v11 (I 0) fun v15 =>
    S.cond v15 (
      K0 a_2 b_3 (I 1) v13) (
      K0 a_2 b_3 v11 v13))
  <| fun a_2' b_3' p_5 q_6 => S.fa fun _ =>
  S.join 4 (fun K1 =>
    S.bin .eql q_6 (I 0) fun v17 =>
    S.cond v17 (
      K1 a_2' b_3' p_5 (I 1)) (
      K1 a_2' b_3' p_5 q_6))
  <| fun a_2'2 b_3'2 p_5' q_6' => S.fa fun _ =>
  S.fad a_2'2 2 fun v18 =>
  S.ld v18 fun v19 =>
  CF Try.prog 75 [v19, p_5'] fun v21 =>
  S.fad b_3'2 2 fun v22 =>
  S.ld v22 fun v23 =>
  CF Try.prog 75 [v23, q_6'] fun v25 =>
  S.loop 5 (fun K2 => fun a_2'3 b_3'3 x_7 y_8 i_9 => S.fa fun _ =>
    S.len x_7 fun v28 =>
    S.bin .lss i_9 v28 fun v29 =>
    S.cond v29 (
      S.dr <|
      S.ixS 1 x_7 i_9 fun v34 =>
      S.ld v34 fun v35 =>
      S.ixS 1 y_8 i_9 fun v38 =>
      S.ld v38 fun v39 =>
      S.bin .neq v35 v39 fun v40 =>
      S.cond v40 (
        S.dr <|
        S.ixS 1 x_7 i_9 fun v43 =>
        S.ld v43 fun v44 =>
        S.ixS 1 y_8 i_9 fun v47 =>
        S.ld v47 fun v48 =>
        S.bin .lss v44 v48 fun v49 =>
        K v49) (
        S.bin .add i_9 (I 1) fun v31 =>
        K2 a_2'3 b_3'3 x_7 y_8 v31)) (
      S.fad a_2'3 0 fun v50 =>
      S.ld v50 fun v51 =>
      S.fad b_3'3 0 fun v52 =>
      S.ld v52 fun v53 =>
      S.bin .lss v51 v53 fun v54 =>
      K v54))
  [a_2'2, b_3'2, v21, v25, (I 0)]
theorem e63 (a_0 b_1 : Value) (K : Value → WT) : s63 a_0 b_1 K = shal Try.prog Try.f63 .p a63 [a_0, b_1] K := by kernel_rfl
theorem c63 {a_0 b_1 : Value} {K : Value → WT} {w : World} (h : s63 a_0 b_1 K w) : CF Try.prog 63 [a_0, b_1] K w := shal_sound Try.func63 (e63 a_0 b_1 K ▸ h)

/-- aumbry/clean.long -/
def a64 : Ann := .seq (.z) (.seq (.join [0, 8] (.z) (.cond (.seq (.z) (.z)) (.z))) (.seq (.z) (.z)))
def s64 (n_0 : Value) (K : Value → WT) : WT :=
  S.join 2 (fun K0 =>
    S.bin .lss n_0 (I 1) fun v4 =>
    S.gd v4 false (fun k => k n_0) fun v6 =>
    S.gd v4 false (fun k => S.bin .gtr v6 (I 512) k) fun v7 =>
    S.pick v4 (B true) v7 fun v8 =>
    K0 n_0 v8)
  <| fun n_0' v8' => S.fa fun _ =>
  S.cond v8' (
    K (I 0)) (
    K n_0')
theorem e64 (n_0 : Value) (K : Value → WT) : s64 n_0 K = shal Try.prog Try.f64 .p a64 [n_0] K := by kernel_rfl
theorem c64 {n_0 : Value} {K : Value → WT} {w : World} (h : s64 n_0 K w) : CF Try.prog 64 [n_0] K w := shal_sound Try.func64 (e64 n_0 K ▸ h)

/-- slices.Compact[[]int,int] -/
def a66 : Ann := .seq (.z) (.seq (.seq (.z) (.cond (.seq (.z) (.z)) (.z))) (.seq (.seq (.z) (.blk (.loop [0, 3] (.seq (.seq (.z) (.cond (.z) (.z))) (.seq (.blk (.seq (.draw [0, 1, 2, 3, 4, 5, 6, 7, 8, 9]) (.cond (.seq (.z) (.seq (.seq (.z) (.blk (.loop [0, 3, 4, 5] (.seq (.seq (.z) (.cond (.z) (.z))) (.join [0, 3, 4, 5] (.blk (.seq (.draw [0, 1, 2, 3, 4, 5, 6, 7, 8, 9]) (.cond (.seq (.z) (.z)) (.z)))) (.z)))))) (.seq (.z) (.seq (.z) (.z))))) (.z)))) (.z)))))) (.seq (.z) (.z))))
def s66 (s_0 : Value) (K : Value → WT) : WT :=
  S.len s_0 fun v7 =>
  S.bin .lss v7 (I 2) fun v8 =>
  S.cond v8 (
    K s_0) (
    S.loop 2 (fun K0 => fun s_0' k_3 => S.fa fun _ =>
      S.len s_0' fun v12 =>
      S.bin .lss k_3 v12 fun v13 =>
      S.cond v13 (
        S.dr <|
        S.ixS 1 s_0' k_3 fun v18 =>
        S.ld v18 fun v19 =>
        S.bin .sub k_3 (I 1) fun v22 =>
        S.ixS 1 s_0' v22 fun v23 =>
        S.ld v23 fun v24 =>
        S.bin .eql v19 v24 fun v25 =>
        S.cond v25 (
          S.slc 1 s_0' (some k_3) none none fun v28 =>
          S.loop 4 (fun K1 => fun s_0'2 k_3' s2_4 k2_5 => S.fa fun _ =>
            S.len s2_4 fun v31 =>
            S.bin .lss k2_5 v31 fun v32 =>
            S.cond v32 (
              S.join 4 (fun K2 =>
                S.dr <|
                S.ixS 1 s2_4 k2_5 fun v37 =>
                S.ld v37 fun v38 =>
                S.bin .sub k2_5 (I 1) fun v41 =>
                S.ixS 1 s2_4 v41 fun v42 =>
                S.ld v42 fun v43 =>
                S.bin .neq v38 v43 fun v44 =>
                S.cond v44 (
                  S.ixS 1 s2_4 k2_5 fun v49 =>
                  S.ld v49 fun v50 =>
                  S.ixS 1 s_0'2 k_3' fun v51 =>
                  S.st 1 v51 v50 fun _ =>
                  S.bin .add k_3' (I 1) fun v53 =>
                  K2 s_0'2 v53 s2_4 k2_5) (
                  K2 s_0'2 k_3' s2_4 k2_5))
              <| fun s_0'3 k_3'2 s2_4' k2_5' => S.fa fun _ =>
              S.bin .add k2_5' (I 1) fun v34 =>
              K1 s_0'3 k_3'2 s2_4' v34) (
              S.slc 1 s_0'2 (some k_3') none none fun v56 =>
              V Try.prog (Builtin.clear_ #[28] 0 #[v56]) fun _ =>
              S.slc 1 s_0'2 none (some k_3') none fun v59 =>
              K v59))
          [s_0', k_3, v28, (I 1)]) (
          S.bin .add k_3 (I 1) fun v15 =>
          K0 s_0' v15)) (
        K s_0'))
    [s_0, (I 1)])
theorem e66 (s_0 : Value) (K : Value → WT) : s66 s_0 K = shal Try.prog Try.f66 .p a66 [s_0] K := by kernel_rfl
theorem c66 {s_0 : Value} {K : Value → WT} {w : World} (h : s66 s_0 K w) : CF Try.prog 66 [s_0] K w := shal_sound Try.func66 (e66 s_0 K ▸ h)

/-- aumbry/aumbryref18.has -/
def a67 : Ann := .seq (.z) (.seq (.seq (.z) (.blk (.loop [0, 1, 2, 7] (.seq (.seq (.z) (.cond (.z) (.z))) (.seq (.blk (.join [0, 1, 2, 7, 29] (.z) (.cond (.seq (.z) (.z)) (.z)))) (.z)))))) (.seq (.z) (.z)))
def s67 (l_0 bin_1 slot_2 : Value) (K : Value → WT) : WT :=
  S.loop 4 (fun K0 => fun l_0' bin_1' slot_2' i_7 => S.fa fun _ =>
    S.len l_0' fun v10 =>
    S.bin .lss i_7 v10 fun v11 =>
    S.cond v11 (
      S.join 5 (fun K1 =>
        S.ixS 2 l_0' i_7 fun v16 =>
        S.fad v16 0 fun v17 =>
        S.ld v17 fun v18 =>
        S.bin .eql v18 bin_1' fun v20 =>
        S.gd v20 true (fun k => k l_0') fun v22 =>
        S.gd v20 true (fun k => k i_7) fun v23 =>
        S.gd v20 true (fun k => S.ixS 2 v22 v23 k) fun v24 =>
        S.gd v20 true (fun k => S.fad v24 1 k) fun v25 =>
        S.gd v20 true (fun k => S.ld v25 k) fun v26 =>
        S.gd v20 true (fun k => k slot_2') fun v27 =>
        S.gd v20 true (fun k => S.bin .eql v26 v27 k) fun v28 =>
        S.pick v20 v28 (B false) fun v29 =>
        K1 l_0' bin_1' slot_2' i_7 v29)
      <| fun l_0'2 bin_1'2 slot_2'2 i_7' v29' => S.fa fun _ =>
      S.cond v29' (
        K (B true)) (
        S.bin .add i_7' (I 1) fun v13 =>
        K0 l_0'2 bin_1'2 slot_2'2 v13)) (
      K (B false)))
  [l_0, bin_1, slot_2, (I 0)]
theorem e67 (l_0 bin_1 slot_2 : Value) (K : Value → WT) : s67 l_0 bin_1 slot_2 K = shal Try.prog Try.f67 .p a67 [l_0, bin_1, slot_2] K := by kernel_rfl
theorem c67 {l_0 bin_1 slot_2 : Value} {K : Value → WT} {w : World} (h : s67 l_0 bin_1 slot_2 K w) : CF Try.prog 67 [l_0, bin_1, slot_2] K w := shal_sound Try.func67 (e67 l_0 bin_1 slot_2 K ▸ h)

/-- slices.Collect[int] -/
def a68 : Ann := .seq (.z) (.seq (.z) (.z))
def s68 (seq_0 : Value) (K : Value → WT) : WT :=
  CF Try.prog 78 [(.slice none 0 0), seq_0] fun v4 =>
  K v4
theorem e68 (seq_0 : Value) (K : Value → WT) : s68 seq_0 K = shal Try.prog Try.f68 .p a68 [seq_0] K := by kernel_rfl
theorem c68 {seq_0 : Value} {K : Value → WT} {w : World} (h : s68 seq_0 K w) : CF Try.prog 68 [seq_0] K w := shal_sound Try.func68 (e68 seq_0 K ▸ h)

/-- maps.Keys[map[int][]byte,int,[]byte]$1 -/
def a69 : Ann := .seq (.z) (.blk (.loop [0, 5] (.seq (.z) (.seq (.cond (.z) (.z)) (.blk (.seq (.z) (.seq (.z) (.cond (.z) (.z)))))))))
def s69 (yield_0 v1 : Value) (K : Value → WT) : WT :=
  S.ld v1 fun v4 =>
  V Try.prog (Instr.range 83 v4) fun v5 =>
  S.loop 2 (fun K0 => fun yield_0' v5' => S.fa fun _ =>
    V Try.prog (Instr.next v5' false 0) fun v6 =>
    S.ext v6 0 fun v7 =>
    S.cond v7 (
      V Try.prog (Instr.entry v5') fun v8 =>
      S.ext v8 0 fun v9 =>
      S.cvv Try.prog yield_0' [v9] fun v12 =>
      S.not1 v12 fun v13 =>
      S.cond v13 (
        K (.tuple #[])) (
        K0 yield_0' v5')) (
      K (.tuple #[])))
  [yield_0, v5]
theorem e69 (yield_0 v1 : Value) (K : Value → WT) : s69 yield_0 v1 K = shal Try.prog Try.f69 .p a69 [yield_0, v1] K := by kernel_rfl
theorem c69 {yield_0 v1 : Value} {K : Value → WT} {w : World} (h : s69 yield_0 v1 K w) : CF Try.prog 69 [yield_0, v1] K w := shal_sound Try.func69 (e69 yield_0 v1 K ▸ h)

/-- aumbry/aumbryref03.Zeros -/
def a70 : Ann := .seq (.z) (.seq (.z) (.seq (.blk (.loop [0, 3] (.seq (.seq (.z) (.cond (.z) (.z))) (.blk (.z))))) (.seq (.z) (.z))))
def s70 (n_0 : Value) (K : Value → WT) : WT :=
  S.loop 2 (fun K0 => fun n_0' out_3 => S.fa fun _ =>
    S.lenS out_3 fun v5 =>
    S.bin .lss v5 n_0' fun v7 =>
    S.cond v7 (
      S.sbin .add out_3 (.string ⟨#[0]⟩) fun v9 =>
      K0 n_0' v9) (
      K out_3))
  [n_0, (.string ⟨#[]⟩)]
theorem e70 (n_0 : Value) (K : Value → WT) : s70 n_0 K = shal Try.prog Try.f70 .p a70 [n_0] K := by kernel_rfl
theorem c70 {n_0 : Value} {K : Value → WT} {w : World} (h : s70 n_0 K w) : CF Try.prog 70 [n_0] K w := shal_sound Try.func70 (e70 n_0 K ▸ h)

/-- (*aumbry/aumbryref03.Disk).trips -/
def a72 : Ann := .seq (.z) (.seq (.seq (.z) (.cond (.seq (.z) (.seq (.z) (.seq (.z) (.z)))) (.z))) (.join [] (.seq (.z) (.cond (.z) (.z))) (.seq (.z) (.z))))
def s72 (d_0 : Value) (K : Value → WT) : WT :=
  S.nc d_0 fun v4 =>
  S.fad v4 1 fun v5 =>
  S.ld v5 fun v6 =>
  S.bin .eql v6 (I 1) fun v7 =>
  S.cond v7 (
    S.nc d_0 fun v9 =>
    S.fad v9 1 fun v10 =>
    S.st 1 v10 (I 0) fun _ =>
    S.nc d_0 fun v12 =>
    S.fad v12 2 fun v13 =>
    S.st 1 v13 (B true) fun _ =>
    K (B true)) (
    S.join 0 (fun K0 =>
      S.nc d_0 fun v15 =>
      S.fad v15 1 fun v16 =>
      S.ld v16 fun v17 =>
      S.bin .gtr v17 (I 1) fun v18 =>
      S.cond v18 (
        S.nc d_0 fun v21 =>
        S.fad v21 1 fun v22 =>
        S.ld v22 fun v23 =>
        S.bin .sub v23 (I 1) fun v24 =>
        S.nc d_0 fun v25 =>
        S.fad v25 1 fun v26 =>
        S.st 1 v26 v24 fun _ =>
        K0) (
        K0))
    <| S.fa fun _ =>
    K (B false))
theorem e72 (d_0 : Value) (K : Value → WT) : s72 d_0 K = shal Try.prog Try.f72 .p a72 [d_0] K := by kernel_rfl
theorem c72 {d_0 : Value} {K : Value → WT} {w : World} (h : s72 d_0 K w) : CF Try.prog 72 [d_0] K w := shal_sound Try.func72 (e72 d_0 K ▸ h)

/-- (*aumbry/aumbryref03.Disk).set -/
def a73 : Ann := .seq (.z) (.seq (.z) (.seq (.z) (.z)))
def s73 (d_0 i_1 p_2 : Value) (K : Value → WT) : WT :=
  S.box 52 p_2 fun p_5 =>
  V Try.prog (Instr.buildSlice 48 0 #[]) fun v7 =>
  S.nc d_0 fun v9 =>
  S.fad v9 0 fun v10 =>
  S.ld v10 fun v11 =>
  V Try.prog (Builtin.append_ #[48, 48] 48 #[v7, v11]) fun v12 =>
  S.ldN 3 p_5 fun v15 =>
  S.ixS 3 v12 i_1 fun v16 =>
  S.st 3 v16 v15 fun _ =>
  S.nc d_0 fun v19 =>
  S.fad v19 0 fun v20 =>
  S.st 1 v20 v12 fun _ =>
  K (.tuple #[])
theorem e73 (d_0 i_1 p_2 : Value) (K : Value → WT) : s73 d_0 i_1 p_2 K = shal Try.prog Try.f73 .p a73 [d_0, i_1, p_2] K := by kernel_rfl
theorem c73 {d_0 i_1 p_2 : Value} {K : Value → WT} {w : World} (h : s73 d_0 i_1 p_2 K w) : CF Try.prog 73 [d_0, i_1, p_2] K w := shal_sound Try.func73 (e73 d_0 i_1 p_2 K ▸ h)

/-- container/heap.down -/
def a74 : Ann := .seq (.z) (.seq (.z) (.join [1, 7] (.blk (.loop [0, 1, 2, 7] (.blk (.seq (.z) (.seq (.join [0, 1, 2, 7, 8, 21] (.z) (.cond (.z) (.z))) (.seq (.z) (.join [0, 1, 2, 7, 9] (.seq (.z) (.join [0, 1, 2, 7, 9, 10, 33] (.z) (.cond (.z) (.z)))) (.seq (.seq (.z) (.cond (.z) (.z))) (.seq (.z) (.z)))))))))) (.seq (.z) (.z))))
def s74 (h_0 i0_1 n_2 : Value) (K : Value → WT) : WT :=
  S.join 2 (fun K0 =>
    S.loop 4 (fun K1 => fun h_0' i0_1' n_2' i_7 => S.fa fun _ =>
      S.bin .mul (I 2) i_7 fun v13 =>
      S.bin .add v13 (I 1) fun v14 =>
      S.join 6 (fun K2 =>
        S.bin .geq v14 n_2' fun v17 =>
        S.gd v17 false (fun k => k v14) fun v19 =>
        S.gd v17 false (fun k => S.bin .lss v19 (I 0) k) fun v20 =>
        S.pick v17 (B true) v20 fun v21 =>
        K2 h_0' i0_1' n_2' i_7 v14 v21)
      <| fun h_0'2 i0_1'2 n_2'2 i_7' j1_8 v21' => S.fa fun _ =>
      S.cond v21' (
        K0 i0_1'2 i_7') (
        S.join 5 (fun K3 =>
          S.bin .add j1_8 (I 1) fun v24 =>
          S.join 7 (fun K4 =>
            S.bin .lss v24 n_2'2 fun v27 =>
            S.gd v27 true (fun k => k h_0'2) fun v29 =>
            S.gd v27 true (fun k => k v24) fun v30 =>
            S.gd v27 true (fun k => k j1_8) fun v31 =>
            S.gd v27 true (fun k => Gives Try.prog (invoke (.fn (.method "Less") #[]) #[v29, v30, v31]) k) fun v32 =>
            S.pick v27 v32 (B false) fun v33 =>
            K4 h_0'2 i0_1'2 n_2'2 i_7' j1_8 v24 v33)
          <| fun h_0'3 i0_1'3 n_2'3 i_7'2 j_9 j2_10 v33' => S.fa fun _ =>
          S.cond v33' (
            K3 h_0'3 i0_1'3 n_2'3 i_7'2 j2_10) (
            K3 h_0'3 i0_1'3 n_2'3 i_7'2 j_9))
        <| fun h_0'4 i0_1'4 n_2'4 i_7'3 j_9' => S.fa fun _ =>
        Gives Try.prog (invoke (.fn (.method "Less") #[]) #[h_0'4, j_9', i_7'3]) fun v38 =>
        S.not1 v38 fun v39 =>
        S.cond v39 (
          K0 i0_1'4 i_7'3) (
          Gives Try.prog (invoke (.fn (.method "Swap") #[]) #[h_0'4, i_7'3, j_9']) fun v43 =>
          K1 h_0'4 i0_1'4 n_2'4 j_9')))
    [h_0, i0_1, n_2, i0_1])
  <| fun i0_1'5 i_7'4 => S.fa fun _ =>
  S.bin .gtr i_7'4 i0_1'5 fun v47 =>
  K v47
theorem e74 (h_0 i0_1 n_2 : Value) (K : Value → WT) : s74 h_0 i0_1 n_2 K = shal Try.prog Try.f74 .p a74 [h_0, i0_1, n_2] K := by kernel_rfl
theorem c74 {h_0 i0_1 n_2 : Value} {K : Value → WT} {w : World} (h : s74 h_0 i0_1 n_2 K w) : CF Try.prog 74 [h_0, i0_1, n_2] K w := shal_sound Try.func74 (e74 h_0 i0_1 n_2 K ▸ h)

/-- aumbry/aumbryref18.frac -/
def a75 : Ann := .seq (.z) (.seq (.z) (.seq (.z) (.seq (.seq (.z) (.blk (.loop [0, 1, 5, 6] (.seq (.seq (.z) (.cond (.z) (.z))) (.seq (.blk (.seq (.z) (.seq (.z) (.z)))) (.z)))))) (.seq (.z) (.z)))))
def s75 (n_0 by_1 : Value) (K : Value → WT) : WT :=
  S.bin .quo n_0 by_1 fun v9 =>
  V Try.prog (Instr.buildSlice 28 1 #[(0, v9)]) fun v10 =>
  S.bin .rem n_0 by_1 fun v13 =>
  S.loop 4 (fun K0 => fun n_0' by_1' out_5 i_6 => S.fa fun _ =>
    S.bin .lss i_6 (I 120) fun v15 =>
    S.cond v15 (
      S.bin .mul (I 2) n_0' fun v19 =>
      S.bin .quo v19 by_1' fun v23 =>
      V Try.prog (Instr.buildSlice 28 1 #[(0, v23)]) fun v24 =>
      V Try.prog (Builtin.append_ #[28, 28] 28 #[out_5, v24]) fun v25 =>
      S.bin .rem v19 by_1' fun v28 =>
      S.bin .add i_6 (I 1) fun v17 =>
      K0 v28 by_1' v25 v17) (
      K out_5))
  [v13, by_1, v10, (I 0)]
theorem e75 (n_0 by_1 : Value) (K : Value → WT) : s75 n_0 by_1 K = shal Try.prog Try.f75 .p a75 [n_0, by_1] K := by kernel_rfl
theorem c75 {n_0 by_1 : Value} {K : Value → WT} {w : World} (h : s75 n_0 by_1 K w) : CF Try.prog 75 [n_0, by_1] K w := shal_sound Try.func75 (e75 n_0 by_1 K ▸ h)

/-- slices.AppendSeq[[]int,int] -/
def a78 : Ann := .seq (.z) (.seq (.seq (.z) (.blk (.rf [] (.z) (.blk (.z))))) (.seq (.z) (.z)))
def s78 (s_0 seq_1 : Value) (K : Value → WT) : WT :=
  S.box 28 s_0 fun s_2 =>
  S.rf Try.prog seq_1 undef 1 (fun l0 go0 Z0 => fun v7 =>
    go0 <|
    S.ld s_2 fun v8 =>
    V Try.prog (Instr.buildSlice 28 1 #[(0, v7)]) fun v10 =>
    V Try.prog (Builtin.append_ #[28, 28] 28 #[v8, v10]) fun v11 =>
    S.st 1 s_2 v11 fun _ =>
    Z0 .nrm)
    (fun m1 =>
    S.ld s_2 fun v12 =>
    S.done m1 <|
    K v12)
    (fun m2 =>
    S.done m2 <|
    K (.slice none 0 0))
  [
  ]
theorem e78 (s_0 seq_1 : Value) (K : Value → WT) : s78 s_0 seq_1 K = shal Try.prog Try.f78 .m a78 [s_0, seq_1] K := by kernel_rfl
theorem c78 {s_0 seq_1 : Value} {K : Value → WT} {w : World} (h : s78 s_0 seq_1 K w) : CF Try.prog 78 [s_0, seq_1] K w := shal_sound Try.func78 (e78 s_0 seq_1 K ▸ h)

/-- (aumbry/clean.row).Less -/
def a113 : Ann := .seq (.z) (.seq (.draw [0, 1, 2, 3, 4, 5, 6, 7, 8, 9, 10]) (.z))
def s113 (r_0 i_1 j_2 : Value) (K : Value → WT) : WT :=
  S.dr <|
  S.ixS 3 r_0 i_1 fun v9 =>
  S.ldN 3 v9 fun v10 =>
  S.ixS 3 r_0 j_2 fun v13 =>
  S.ldN 3 v13 fun v14 =>
  CF Try.prog 115 [v10, v14] fun v15 =>
  S.bin .lss v15 (I 0) fun v16 =>
  K v16
theorem e113 (r_0 i_1 j_2 : Value) (K : Value → WT) : s113 r_0 i_1 j_2 K = shal Try.prog Try.f113 .p a113 [r_0, i_1, j_2] K := by kernel_rfl
theorem c113 {r_0 i_1 j_2 : Value} {K : Value → WT} {w : World} (h : s113 r_0 i_1 j_2 K w) : CF Try.prog 113 [r_0, i_1, j_2] K w := shal_sound Try.func113 (e113 r_0 i_1 j_2 K ▸ h)

/-- (aumbry/clean.row).Swap -/
def a114 : Ann := .draw [0, 1, 2, 3, 4, 5, 6, 7, 8, 9, 10, 11, 12, 13, 14, 15]
def s114 (r_0 i_1 j_2 : Value) (K : Value → WT) : WT :=
  S.dr <|
  S.ixS 3 r_0 j_2 fun v12 =>
  S.ldN 3 v12 fun v13 =>
  S.ixS 3 r_0 i_1 fun v16 =>
  S.ldN 3 v16 fun v17 =>
  S.ixS 3 r_0 i_1 fun v18 =>
  S.st 3 v18 v13 fun _ =>
  S.ixS 3 r_0 j_2 fun v19 =>
  S.st 3 v19 v17 fun _ =>
  K (.tuple #[])
theorem e114 (r_0 i_1 j_2 : Value) (K : Value → WT) : s114 r_0 i_1 j_2 K = shal Try.prog Try.f114 .p a114 [r_0, i_1, j_2] K := by kernel_rfl
theorem c114 {r_0 i_1 j_2 : Value} {K : Value → WT} {w : World} (h : s114 r_0 i_1 j_2 K w) : CF Try.prog 114 [r_0, i_1, j_2] K w := shal_sound Try.func114 (e114 r_0 i_1 j_2 K ▸ h)

/-- aumbry/clean.order -/
def a115 : Ann := .seq (.z) (.seq (.draw [0, 1, 2, 3, 4, 5, 6, 7, 8, 9, 10, 11, 12, 13]) (.seq (.draw [0, 1, 3, 4, 5, 6, 2, 7, 8, 9, 10]) (.z)))
def s115 (a_0 b_1 : Value) (K : Value → WT) : WT :=
  S.box 71 a_0 fun a_2 =>
  S.box 71 b_1 fun b_3 =>
  S.dr <|
  S.fad a_2 2 fun v7 =>
  S.ld v7 fun v8 =>
  S.fad b_3 1 fun v9 =>
  S.ld v9 fun v10 =>
  S.mx v10 (I 1) fun v11 =>
  S.bin .mul v8 v11 fun v12 =>
  S.fad b_3 2 fun v13 =>
  S.ld v13 fun v14 =>
  S.fad a_2 1 fun v15 =>
  S.ld v15 fun v16 =>
  S.mx v16 (I 1) fun v17 =>
  S.bin .mul v14 v17 fun v18 =>
  S.dr <|
  S.fad a_2 0 fun v22 =>
  S.ld v22 fun v23 =>
  S.fad b_3 0 fun v24 =>
  S.ld v24 fun v25 =>
  CF Try.prog 117 [v12, v18] fun v21 =>
  S.rck [S.ld v24 (fun v' _ => v' = v25), S.ld v22 (fun v' _ => v' = v23)] <|
  CF Try.prog 117 [v23, v25] fun v26 =>
  V Try.prog (Instr.buildSlice 28 2 #[(0, v21), (1, v26)]) fun v27 =>
  CF Try.prog 116 [v27] fun v28 =>
  K v28
theorem e115 (a_0 b_1 : Value) (K : Value → WT) : s115 a_0 b_1 K = shal Try.prog Try.f115 .p a115 [a_0, b_1] K := by kernel_rfl
theorem c115 {a_0 b_1 : Value} {K : Value → WT} {w : World} (h : s115 a_0 b_1 K w) : CF Try.prog 115 [a_0, b_1] K w := shal_sound Try.func115 (e115 a_0 b_1 K ▸ h)

/-- cmp.Or[int] -/
def a116 : Ann := .seq (.z) (.seq (.z) (.seq (.seq (.z) (.blk (.loop [3, 6, 7, 8] (.seq (.z) (.seq (.cond (.z) (.z)) (.seq (.blk (.seq (.z) (.seq (.z) (.cond (.seq (.z) (.z)) (.z))))) (.z))))))) (.seq (.z) (.z))))
def s116 (vals_0 : Value) (K : Value → WT) : WT :=
  S.len vals_0 fun v7 =>
  S.loop 4 (fun K0 => fun zero_3 v6 v7' v8 => S.fa fun _ =>
    S.bin .lss v8 v7' fun v9 =>
    S.cond v9 (
      S.ixS 1 v6 v8 fun v10 =>
      S.ld v10 fun v11 =>
      S.bin .neq v11 zero_3 fun v14 =>
      S.cond v14 (
        K v11) (
        S.bin .add v8 (I 1) fun v16 =>
        K0 zero_3 v6 v7' v16)) (
      K zero_3))
  [(I 0), vals_0, v7, (I 0)]
theorem e116 (vals_0 : Value) (K : Value → WT) : s116 vals_0 K = shal Try.prog Try.f116 .p a116 [vals_0] K := by kernel_rfl
theorem c116 {vals_0 : Value} {K : Value → WT} {w : World} (h : s116 vals_0 K w) : CF Try.prog 116 [vals_0] K w := shal_sound Try.func116 (e116 vals_0 K ▸ h)

/-- cmp.Compare[int] -/
def a117 : Ann := .seq (.z) (.seq (.z) (.seq (.z) (.seq (.seq (.z) (.cond (.seq (.seq (.z) (.cond (.seq (.z) (.z)) (.z))) (.seq (.z) (.z))) (.z))) (.seq (.seq (.z) (.cond (.seq (.z) (.z)) (.z))) (.seq (.seq (.z) (.cond (.seq (.z) (.z)) (.z))) (.seq (.seq (.z) (.cond (.seq (.z) (.z)) (.z))) (.seq (.z) (.z))))))))
def s117 (x_0 y_1 : Value) (K : Value → WT) : WT :=
  CF Try.prog 95 [x_0] fun v8 =>
  CF Try.prog 95 [y_1] fun v10 =>
  S.cond v8 (
    S.cond v10 (
      K (I 0)) (
      K (I (-1)))) (
    S.cond v10 (
      K (I 1)) (
      S.bin .lss x_0 y_1 fun v16 =>
      S.cond v16 (
        K (I (-1))) (
        S.bin .gtr x_0 y_1 fun v19 =>
        S.cond v19 (
          K (I 1)) (
          K (I 0)))))
theorem e117 (x_0 y_1 : Value) (K : Value → WT) : s117 x_0 y_1 K = shal Try.prog Try.f117 .p a117 [x_0, y_1] K := by kernel_rfl
theorem c117 {x_0 y_1 : Value} {K : Value → WT} {w : World} (h : s117 x_0 y_1 K w) : CF Try.prog 117 [x_0, y_1] K w := shal_sound Try.func117 (e117 x_0 y_1 K ▸ h)

/-- (*aumbry/clean.row).Pop -/
def a118 : Ann := .seq (.z) (.seq (.z) (.seq (.z) (.seq (.z) (.seq (.z) (.z)))))
def s118 (r_0 : Value) (K : Value → WT) : WT :=
  S.nc r_0 fun v6 =>
  S.ld v6 fun v7 =>
  S.len v7 fun v8 =>
  S.bin .sub v8 (I 1) fun v9 =>
  S.nc r_0 fun v11 =>
  S.ld v11 fun v12 =>
  S.ixS 3 v12 v9 fun v14 =>
  S.ldN 3 v14 fun v15 =>
  S.box 71 (.agg #[(.int .i64 0), (.int .i64 0), (.int .i64 0)]) fun s_4 =>
  S.st 3 s_4 v15 fun _ =>
  S.nc r_0 fun v18 =>
  S.ld v18 fun v19 =>
  S.slc 3 v19 none (some v9) none fun v21 =>
  S.nc r_0 fun v22 =>
  S.st 1 v22 v21 fun _ =>
  S.ldN 3 s_4 fun v23 =>
  K (.iface 71 v23)
theorem e118 (r_0 : Value) (K : Value → WT) : s118 r_0 K = shal Try.prog Try.f118 .p a118 [r_0] K := by kernel_rfl
theorem c118 {r_0 : Value} {K : Value → WT} {w : World} (h : s118 r_0 K w) : CF Try.prog 118 [r_0] K w := shal_sound Try.func118 (e118 r_0 K ▸ h)

end Go.Proofs.Ytfholicobkpilaa.Sh
