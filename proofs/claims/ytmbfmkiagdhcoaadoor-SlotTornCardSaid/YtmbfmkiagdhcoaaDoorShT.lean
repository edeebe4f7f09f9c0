/- The shallow forms of functions, printed by shal.py. -/
import Derived.Test.YtmbfmkiagdhcoaaDoorSlA
import Derived.Test.YtmbfmkiagdhcoaaDoorProg
import Derived.KernelRfl
namespace Go.Proofs.YtmbfmkiagdhcoaaDoor.Sh
open Go Go.SL Go.Proofs
set_option linter.unusedVariables false
set_option maxRecDepth 100000
/-- aumbry/aumbrylaw05.SlotSeen -/
def a3 : Ann := .seq (.z) (.seq (.z) (.seq (.join [0, 1, 2, 7, 9, 30] (.z) (.cond (.seq (.z) (.z)) (.z))) (.seq (.z) (.seq (.join [0, 1, 2, 7, 9, 11, 41] (.z) (.cond (.seq (.z) (.z)) (.z))) (.seq (.join [0, 1, 2, 7, 9, 11, 49] (.z) (.cond (.seq (.z) (.z)) (.z))) (.seq (.join [0, 1, 2, 7, 9, 11, 60] (.z) (.cond (.seq (.z) (.z)) (.z))) (.seq (.z) (.seq (.join [0, 1, 2, 7, 9, 11, 13, 72] (.z) (.cond (.seq (.z) (.z)) (.z))) (.seq (.z) (.seq (.z) (.seq (.seq (.z) (.blk (.loop [0, 1, 7, 9, 11, 13, 15, 16, 17] (.seq (.join [0, 1, 7, 9, 11, 13, 15, 16, 17, 83] (.z) (.cond (.z) (.z))) (.seq (.blk (.seq (.draw [0, 1, 2, 3, 4, 5, 6, 7, 8, 9, 10, 11]) (.z))) (.z)))))) (.seq (.seq (.z) (.cond (.seq (.z) (.z)) (.z))) (.seq (.z) (.seq (.z) (.join [11, 16, 18, 19, 20] (.seq (.z) (.cond (.z) (.z))) (.seq (.z) (.z)))))))))))))))))
def s3 (v0 v1 v2 v3 : Value) (K : Value → WT) : WT :=
  S.box 23 v3 fun v7 =>
  CF Tryd.prog 6 [(I 2)] fun v22 =>
  S.ext v22 0 fun v23 =>
  S.ext v22 1 fun v24 =>
  S.join 6 (fun K0 =>
    S.bin .neq v24 (I 0) fun v26 =>
    S.gd v26 false (fun k => k v23) fun v28 =>
    S.gd v26 false (fun k => S.eqv Tryd.prog .eql 24 true v28 (.pointer none) k) fun v29 =>
    S.pick v26 (B true) v29 fun v30 =>
    K0 v0 v1 v2 v7 v23 v30)
  <| fun v0' v1' v2' v7' v9 v30' => S.fa fun _ =>
  S.cond v30' (
    K (B false)) (
    CF Tryd.prog 7 [v9, (I 0)] fun v33 =>
    S.ext v33 0 fun v34 =>
    S.ext v33 1 fun v35 =>
    S.join 7 (fun K1 =>
      S.bin .neq v35 (I 0) fun v37 =>
      S.gd v37 false (fun k => k v34) fun v39 =>
      S.gd v37 false (fun k => S.eqv Tryd.prog .eql 28 true v39 (.pointer none) k) fun v40 =>
      S.pick v37 (B true) v40 fun v41 =>
      K1 v0' v1' v2' v7' v9 v34 v41)
    <| fun v0'2 v1'2 v2'2 v7'2 v9' v11 v41' => S.fa fun _ =>
    S.cond v41' (
      K (B false)) (
      S.join 7 (fun K2 =>
        S.len v0'2 fun v43 =>
        S.bin .gtr v43 (I 100) fun v44 =>
        S.gd v44 false (fun k => k v1'2) fun v46 =>
        S.gd v44 false (fun k => S.len v46 k) fun v47 =>
        S.gd v44 false (fun k => S.bin .gtr v47 (I 100) k) fun v48 =>
        S.pick v44 (B true) v48 fun v49 =>
        K2 v0'2 v1'2 v2'2 v7'2 v9' v11 v49)
      <| fun v0'3 v1'3 v2'3 v7'3 v9'2 v11' v49' => S.fa fun _ =>
      S.cond v49' (
        CF Tryd.prog 8 [] fun v50 =>
        K v50) (
        S.join 7 (fun K3 =>
          CF Tryd.prog 9 [v11', v0'3] fun v53 =>
          S.bin .neq v53 (I 0) fun v54 =>
          S.gd v54 false (fun k => k v11') fun v56 =>
          S.gd v54 false (fun k => k v1'3) fun v57 =>
          S.gd v54 false (fun k => CF Tryd.prog 9 [v56, v57] k) fun v58 =>
          S.gd v54 false (fun k => S.bin .neq v58 (I 0) k) fun v59 =>
          S.pick v54 (B true) v59 fun v60 =>
          K3 v0'3 v1'3 v2'3 v7'3 v9'2 v11' v60)
        <| fun v0'4 v1'4 v2'4 v7'4 v9'3 v11'2 v60' => S.fa fun _ =>
        S.cond v60' (
          K (B false)) (
          CF Tryd.prog 10 [v9'3, (I 1)] fun v63 =>
          S.ext v63 0 fun v64 =>
          S.ext v63 1 fun v65 =>
          S.join 8 (fun K4 =>
            S.bin .neq v65 (I 0) fun v67 =>
            S.gd v67 false (fun k => k v64) fun v69 =>
            S.gd v67 false (fun k => S.len v69 k) fun v70 =>
            S.gd v67 false (fun k => S.bin .neq v70 (I 128) k) fun v71 =>
            S.pick v67 (B true) v71 fun v72 =>
            K4 v0'4 v1'4 v2'4 v7'4 v9'3 v11'2 v64 v72)
          <| fun v0'5 v1'5 v2'5 v7'5 v9'4 v11'3 v13 v72' => S.fa fun _ =>
          S.cond v72' (
            K (B false)) (
            S.cvt .i64 v2'5 fun v74 =>
            S.bin .rem v74 (I 116) fun v75 =>
            S.loop 9 (fun K5 => fun v0'6 v1'6 v7'6 v9'5 v11'4 v13' v15 v16 v17 => S.fa fun _ =>
              S.join 10 (fun K6 =>
                S.bin .lss v17 (I 4) fun v77 =>
                S.gd v77 true (fun k => k v15) fun v79 =>
                S.gd v77 true (fun k => k v17) fun v80 =>
                S.gd v77 true (fun k => S.bin .add v79 v80 k) fun v81 =>
                S.gd v77 true (fun k => S.bin .lss v81 (I 116) k) fun v82 =>
                S.pick v77 v82 (B false) fun v83 =>
                K6 v0'6 v1'6 v7'6 v9'5 v11'4 v13' v15 v16 v17 v83)
              <| fun v0'7 v1'7 v7'7 v9'6 v11'5 v13'2 v15' v16' v17' v83' => S.fa fun _ =>
              S.cond v83' (
                S.dr <|
                S.bin .add v15' v17' fun v89 =>
                S.ixS 1 v13'2 v89 fun v90 =>
                S.ld v90 fun v91 =>
                S.ixA 4 1 v7'7 v17' fun v93 =>
                S.ld v93 fun v94 =>
                S.bin .xor v91 v94 fun v95 =>
                S.ixS 1 v13'2 v89 fun v96 =>
                S.st 1 v96 v95 fun _ =>
                S.gd v16' false (fun k => k v17') fun v99 =>
                S.gd v16' false (fun k => S.ixA 4 1 v7'7 v99 k) fun v100 =>
                S.gd v16' false (fun k => S.ld v100 k) fun v101 =>
                S.gd v16' false (fun k => S.bin .neq v101 (.int .u8 0) k) fun v102 =>
                S.pick v16' (B true) v102 fun v103 =>
                S.bin .add v17' (I 1) fun v85 =>
                K5 v0'7 v1'7 v7'7 v9'6 v11'5 v13'2 v15' v103 v85) (
                CF Tryd.prog 11 [v9'6, (I 1), v13'2] fun v106 =>
                S.bin .neq v106 (I 0) fun v107 =>
                S.cond v107 (
                  K (B false)) (
                  CF Tryd.prog 12 [v11'5] fun v110 =>
                  S.ext v110 0 fun v111 =>
                  S.ext v110 1 fun v112 =>
                  S.b2s v1'7 fun v114 =>
                  S.join 5 (fun K7 =>
                    S.cond v16' (
                      S.b2s v0'7 fun v117 =>
                      K7 v11'5 v16' v111 v112 v117) (
                      K7 v11'5 v16' v111 v112 v114))
                  <| fun v11'6 v16'2 v18 v19 v20 => S.fa fun _ =>
                  CF Tryd.prog 8 [] fun v118 =>
                  S.gd v118 true (fun k => k v19) fun v120 =>
                  S.gd v118 true (fun k => S.bin .eql v120 (I 0) k) fun v121 =>
                  S.pick v118 v121 (B false) fun v122 =>
                  S.gd v122 true (fun k => k v18) fun v124 =>
                  S.gd v122 true (fun k => S.b2s v124 k) fun v125 =>
                  S.gd v122 true (fun k => k v20) fun v126 =>
                  S.gd v122 true (fun k => S.sbin .eql v125 v126 k) fun v127 =>
                  S.pick v122 v127 (B false) fun v128 =>
                  S.gd v128 true (fun k => k v11'6) fun v130 =>
                  S.gd v128 true (fun k => CF Tryd.prog 13 [v130] k) fun v131 =>
                  S.gd v128 true (fun k => S.bin .eql v131 (I 1) k) fun v132 =>
                  S.gd v128 true (fun k => k v16'2) fun v133 =>
                  S.gd v128 true (fun k => S.beq .eql v132 v133 k) fun v134 =>
                  S.pick v128 v134 (B false) fun v135 =>
                  K v135)))
            [v0'5, v1'5, v7'5, v9'4, v11'3, v13, v75, (B false), (I 0)])))))
theorem e3 (v0 v1 v2 v3 : Value) (K : Value → WT) : s3 v0 v1 v2 v3 K = shal Tryd.prog Tryd.f3 .p a3 [v0, v1, v2, v3] K := by kernel_rfl
theorem c3 {v0 v1 v2 v3 : Value} {K : Value → WT} {w : World} (h : s3 v0 v1 v2 v3 K w) : CF Tryd.prog 3 [v0, v1, v2, v3] K w := shal_sound Tryd.func3 (e3 v0 v1 v2 v3 K ▸ h)

/-- aumbry/aumbrylaw05.SlotNone -/
def a4 : Ann := .seq (.z) (.seq (.z) (.seq (.z) (.seq (.z) (.seq (.z) (.seq (.join [1, 5, 7, 9, 10, 35] (.z) (.cond (.seq (.z) (.z)) (.z))) (.seq (.z) (.seq (.z) (.seq (.z) (.seq (.z) (.z))))))))))
def s4 (v0 v1 : Value) (K : Value → WT) : WT :=
  CF Tryd.prog 12 [(.pointer none)] fun v18 =>
  S.ext v18 0 fun v19 =>
  S.ext v18 1 fun v20 =>
  CF Tryd.prog 7 [(.pointer none), v0] fun v23 =>
  S.ext v23 0 fun v24 =>
  S.ext v23 1 fun v25 =>
  CF Tryd.prog 6 [(I 2)] fun v27 =>
  S.ext v27 0 fun v28 =>
  S.ext v27 1 fun v29 =>
  S.join 6 (fun K0 =>
    S.bin .neq v29 (I 0) fun v31 =>
    S.gd v31 false (fun k => k v28) fun v33 =>
    S.gd v31 false (fun k => S.eqv Tryd.prog .eql 24 true v33 (.pointer none) k) fun v34 =>
    S.pick v31 (B true) v34 fun v35 =>
    K0 v1 (.pointer none) v20 v25 v28 v35)
  <| fun v1' v5 v7 v9 v10 v35' => S.fa fun _ =>
  S.cond v35' (
    K (B false)) (
    CF Tryd.prog 7 [v10, (I 0)] fun v38 =>
    S.ext v38 0 fun v39 =>
    S.ext v38 1 fun v40 =>
    V Tryd.prog (Instr.build 42 #[(1, (I (-1)))]) fun v42 =>
    CF Tryd.prog 14 [v10, v42] fun v43 =>
    CF Tryd.prog 12 [v39] fun v46 =>
    S.ext v46 0 fun v47 =>
    S.ext v46 1 fun v48 =>
    CF Tryd.prog 8 [] fun v49 =>
    S.gd v49 true (fun k => k v7) fun v51 =>
    S.gd v49 true (fun k => S.bin .eql v51 (I 1) k) fun v52 =>
    S.pick v49 v52 (B false) fun v53 =>
    S.gd v53 true (fun k => k v5) fun v55 =>
    S.gd v53 true (fun k => k v1') fun v56 =>
    S.gd v53 true (fun k => CF Tryd.prog 9 [v55, v56] k) fun v57 =>
    S.gd v53 true (fun k => S.bin .eql v57 (I 1) k) fun v58 =>
    S.pick v53 v58 (B false) fun v59 =>
    S.gd v59 true (fun k => k v5) fun v61 =>
    S.gd v59 true (fun k => CF Tryd.prog 13 [v61] k) fun v62 =>
    S.gd v59 true (fun k => S.bin .eql v62 (I 0) k) fun v63 =>
    S.pick v59 v63 (B false) fun v64 =>
    S.gd v64 true (fun k => k v9) fun v66 =>
    S.gd v64 true (fun k => S.bin .eql v66 (I 1) k) fun v67 =>
    S.pick v64 v67 (B false) fun v68 =>
    S.gd v68 true (fun k => k v40) fun v70 =>
    S.gd v68 true (fun k => S.bin .eql v70 (I 0) k) fun v71 =>
    S.pick v68 v71 (B false) fun v72 =>
    S.gd v72 true (fun k => k v48) fun v74 =>
    S.gd v72 true (fun k => S.bin .eql v74 (I 14) k) fun v75 =>
    S.pick v72 v75 (B false) fun v76 =>
    S.gd v76 true (fun k => k v39) fun v78 =>
    S.gd v76 true (fun k => k v1') fun v79 =>
    S.gd v76 true (fun k => CF Tryd.prog 9 [v78, v79] k) fun v80 =>
    S.gd v76 true (fun k => S.bin .eql v80 (I 14) k) fun v81 =>
    S.pick v76 v81 (B false) fun v82 =>
    S.gd v82 true (fun k => k v39) fun v84 =>
    S.gd v82 true (fun k => CF Tryd.prog 13 [v84] k) fun v85 =>
    S.gd v82 true (fun k => S.bin .eql v85 (I 0) k) fun v86 =>
    S.pick v82 v86 (B false) fun v87 =>
    K v87)
theorem e4 (v0 v1 : Value) (K : Value → WT) : s4 v0 v1 K = shal Tryd.prog Tryd.f4 .p a4 [v0, v1] K := by kernel_rfl
theorem c4 {v0 v1 : Value} {K : Value → WT} {w : World} (h : s4 v0 v1 K w) : CF Tryd.prog 4 [v0, v1] K w := shal_sound Tryd.func4 (e4 v0 v1 K ▸ h)

/-- aumbry/aumbrylaw05.SlotTorn -/
def a5 : Ann := .seq (.z) (.seq (.z) (.seq (.join [0, 1, 2, 3, 9, 26] (.z) (.cond (.seq (.z) (.z)) (.z))) (.seq (.z) (.seq (.join [0, 1, 2, 3, 9, 11, 37] (.z) (.cond (.seq (.z) (.z)) (.z))) (.seq (.z) (.seq (.seq (.z) (.blk (.loop [0, 1, 2, 3, 9, 11, 13, 14, 15] (.seq (.join [0, 1, 2, 3, 9, 11, 13, 14, 15, 45] (.z) (.cond (.z) (.z))) (.join [0, 1, 2, 3, 9, 11, 13, 14, 15] (.blk (.seq (.z) (.cond (.z) (.z)))) (.z)))))) (.seq (.seq (.z) (.cond (.seq (.z) (.z)) (.z))) (.seq (.z) (.seq (.join [0, 1, 2, 3, 9, 13, 14, 16, 79] (.z) (.cond (.seq (.z) (.z)) (.z))) (.seq (.z) (.seq (.seq (.z) (.cond (.seq (.z) (.z)) (.z))) (.seq (.z) (.z)))))))))))))
def s5 (v0 v1 v2 v3 : Value) (K : Value → WT) : WT :=
  CF Tryd.prog 6 [(I 3)] fun v18 =>
  S.ext v18 0 fun v19 =>
  S.ext v18 1 fun v20 =>
  S.join 6 (fun K0 =>
    S.bin .neq v20 (I 0) fun v22 =>
    S.gd v22 false (fun k => k v19) fun v24 =>
    S.gd v22 false (fun k => S.eqv Tryd.prog .eql 24 true v24 (.pointer none) k) fun v25 =>
    S.pick v22 (B true) v25 fun v26 =>
    K0 v0 v1 v2 v3 v19 v26)
  <| fun v0' v1' v2' v3' v9 v26' => S.fa fun _ =>
  S.cond v26' (
    K (B false)) (
    CF Tryd.prog 7 [v9, (I 1)] fun v29 =>
    S.ext v29 0 fun v30 =>
    S.ext v29 1 fun v31 =>
    S.join 7 (fun K1 =>
      S.bin .neq v31 (I 0) fun v33 =>
      S.gd v33 false (fun k => k v30) fun v35 =>
      S.gd v33 false (fun k => S.eqv Tryd.prog .eql 28 true v35 (.pointer none) k) fun v36 =>
      S.pick v33 (B true) v36 fun v37 =>
      K1 v0' v1' v2' v3' v9 v30 v37)
    <| fun v0'2 v1'2 v2'2 v3'2 v9' v11 v37' => S.fa fun _ =>
    S.cond v37' (
      K (B false)) (
      S.loop 9 (fun K2 => fun v0'3 v1'3 v2'3 v3'3 v9'2 v11' v13 v14 v15 => S.fa fun _ =>
        S.join 10 (fun K3 =>
          S.len v0'3 fun v40 =>
          S.bin .lss v15 v40 fun v41 =>
          S.gd v41 true (fun k => k v15) fun v43 =>
          S.gd v41 true (fun k => S.bin .lss v43 (I 30) k) fun v44 =>
          S.pick v41 v44 (B false) fun v45 =>
          K3 v0'3 v1'3 v2'3 v3'3 v9'2 v11' v13 v14 v15 v45)
        <| fun v0'4 v1'4 v2'4 v3'4 v9'3 v11'2 v13' v14' v15' v45' => S.fa fun _ =>
        S.cond v45' (
          S.join 9 (fun K4 =>
            S.ixS 1 v0'4 v15' fun v51 =>
            S.ld v51 fun v52 =>
            CF Tryd.prog 9 [v11'2, v52] fun v53 =>
            S.bin .eql v53 (I 0) fun v54 =>
            S.cond v54 (
              S.ixS 1 v0'4 v15' fun v57 =>
              S.ld v57 fun v58 =>
              S.b2s v58 fun v59 =>
              K4 v0'4 v1'4 v2'4 v3'4 v9'3 v11'2 v59 (B true) v15') (
              K4 v0'4 v1'4 v2'4 v3'4 v9'3 v11'2 v13' v14' v15'))
          <| fun v0'5 v1'5 v2'5 v3'5 v9'4 v11'3 v13'2 v14'2 v15'2 => S.fa fun _ =>
          S.bin .add v15'2 (I 1) fun v47 =>
          K2 v0'5 v1'5 v2'5 v3'5 v9'4 v11'3 v13'2 v14'2 v47) (
          S.cvt .i64 v2'4 fun v62 =>
          S.bin .rem v62 (I 4) fun v63 =>
          CF Tryd.prog 15 [v9'3, v63] fun v64 =>
          S.bin .neq v64 (I 0) fun v65 =>
          S.cond v65 (
            K (B false)) (
            CF Tryd.prog 9 [v11'2, v1'4] fun v68 =>
            S.join 9 (fun K5 =>
              S.bin .neq v68 (I 0) fun v70 =>
              S.gd v70 true (fun k => k v68) fun v72 =>
              S.gd v70 true (fun k => S.bin .neq v72 (I 7) k) fun v73 =>
              S.pick v70 v73 (B false) fun v74 =>
              S.gd v74 true (fun k => k v1'4) fun v76 =>
              S.gd v74 true (fun k => S.len v76 k) fun v77 =>
              S.gd v74 true (fun k => S.bin .leq v77 (I 100) k) fun v78 =>
              S.pick v74 v78 (B false) fun v79 =>
              K5 v0'4 v1'4 v2'4 v3'4 v9'3 v13' v14' v68 v79)
            <| fun v0'6 v1'6 v2'6 v3'6 v9'5 v13'3 v14'3 v16 v79' => S.fa fun _ =>
            S.cond v79' (
              K (B false)) (
              V Tryd.prog (Instr.build 42 #[(1, (I (-1)))]) fun v81 =>
              CF Tryd.prog 14 [v9'5, v81] fun v82 =>
              S.len v3'6 fun v84 =>
              S.bin .gtr v84 (I 0) fun v85 =>
              S.cond v85 (
                CF Tryd.prog 8 [] fun v86 =>
                S.gd v86 true (fun k => k v0'6) fun v88 =>
                S.gd v86 true (fun k => k v1'6) fun v89 =>
                S.gd v86 true (fun k => k v2'6) fun v90 =>
                S.gd v86 true (fun k => k v3'6) fun v91 =>
                S.gd v86 true (fun k => S.ixS 3 v91 (I 0) k) fun v92 =>
                S.gd v86 true (fun k => S.ldN 3 v92 k) fun v93 =>
                S.gd v86 true (fun k => k v13'3) fun v94 =>
                S.gd v86 true (fun k => k v14'3) fun v95 =>
                S.gd v86 true (fun k => CF Tryd.prog 16 [v88, v89, v90, v93, v94, v95] k) fun v96 =>
                S.pick v86 v96 (B false) fun v97 =>
                K v97) (
                CF Tryd.prog 8 [] fun v98 =>
                S.gd v98 true (fun k => k v9'5) fun v100 =>
                S.gd v98 true (fun k => k v16) fun v101 =>
                S.gd v98 true (fun k => k v1'6) fun v102 =>
                S.gd v98 true (fun k => S.b2s v102 k) fun v103 =>
                S.gd v98 true (fun k => k v13'3) fun v104 =>
                S.gd v98 true (fun k => k v14'3) fun v105 =>
                S.gd v98 true (fun k => CF Tryd.prog 17 [v100, v101, v103, v104, v105] k) fun v106 =>
                S.pick v98 v106 (B false) fun v107 =>
                K v107)))))
      [v0'2, v1'2, v2'2, v3'2, v9', v11, (.string ⟨#[]⟩), (B false), (I 0)]))
theorem e5 (v0 v1 v2 v3 : Value) (K : Value → WT) : s5 v0 v1 v2 v3 K = shal Tryd.prog Tryd.f5 .p a5 [v0, v1, v2, v3] K := by kernel_rfl
theorem c5 {v0 v1 v2 v3 : Value} {K : Value → WT} {w : World} (h : s5 v0 v1 v2 v3 K w) : CF Tryd.prog 5 [v0, v1, v2, v3] K w := shal_sound Tryd.func5 (e5 v0 v1 v2 v3 K ▸ h)

/-- aumbry/disk.New -/
def a6 : Ann := .seq (.z) (.seq (.join [0, 10] (.z) (.cond (.seq (.z) (.z)) (.z))) (.seq (.z) (.seq (.seq (.z) (.blk (.loop [4, 14, 15] (.seq (.z) (.seq (.cond (.z) (.z)) (.seq (.blk (.draw [0, 1, 2, 3, 4, 5, 6, 7, 8, 9, 10])) (.z))))))) (.seq (.z) (.z)))))
def s6 (sectors_0 : Value) (K : Value → WT) : WT :=
  S.join 2 (fun K0 =>
    S.bin .lss sectors_0 (I 1) fun v6 =>
    S.gd v6 false (fun k => k sectors_0) fun v8 =>
    S.gd v6 false (fun k => S.bin .gtr v8 (I 4096) k) fun v9 =>
    S.pick v6 (B true) v9 fun v10 =>
    K0 sectors_0 v10)
  <| fun sectors_0' v10' => S.fa fun _ =>
  S.cond v10' (
    K (.tuple #[(.pointer none), (I 2)])) (
    S.mkM fun v11 =>
    V Tryd.prog (Instr.build 52 #[(1, v11)]) fun v12 =>
    S.box 52 v12 fun v13 =>
    S.loop 3 (fun K1 => fun d_4 v14 v15 => S.fa fun _ =>
      S.bin .lss v15 v14 fun v16 =>
      S.cond v16 (
        S.dr <|
        S.nc d_4 fun v19 =>
        S.fad v19 0 fun v20 =>
        S.ld v20 fun v21 =>
        V Tryd.prog (Instr.makeSlice 22 (I 128) (I 128)) fun v22 =>
        S.rck [S.ld v20 (fun v' _ => v' = v21)] <|
        V Tryd.prog (Instr.buildSlice 44 1 #[(0, v22)]) fun v23 =>
        S.rck [S.ld v20 (fun v' _ => v' = v21)] <|
        V Tryd.prog (Builtin.append_ #[44, 44] 44 #[v21, v23]) fun v24 =>
        S.nc d_4 fun v25 =>
        S.fad v25 0 fun v26 =>
        S.st 1 v26 v24 fun _ =>
        S.bin .add v15 (I 1) fun v27 =>
        K1 d_4 v14 v27) (
        K (.tuple #[d_4, (I 0)])))
    [v13, sectors_0', (I 0)])
theorem e6 (sectors_0 : Value) (K : Value → WT) : s6 sectors_0 K = shal Tryd.prog Tryd.f6 .p a6 [sectors_0] K := by kernel_rfl
theorem c6 {sectors_0 : Value} {K : Value → WT} {w : World} (h : s6 sectors_0 K w) : CF Tryd.prog 6 [sectors_0] K w := shal_sound Tryd.func6 (e6 sectors_0 K ▸ h)

/-- aumbry/slot.Open -/
def a7 : Ann := .seq (.z) (.seq (.blk (.seq (.z) (.cond (.seq (.z) (.z)) (.seq (.z) (.cond (.seq (.z) (.z)) (.join [0, 1, 12] (.z) (.cond (.seq (.z) (.z)) (.z)))))))) (.seq (.z) (.z)))
def s7 (d_0 base_1 : Value) (K : Value → WT) : WT :=
  S.eqv Tryd.prog .eql 24 true d_0 (.pointer none) fun v8 =>
  S.cond v8 (
    K (.tuple #[(.pointer none), (I 1)])) (
    CF Tryd.prog 18 [d_0] fun v11 =>
    S.cond v11 (
      K (.tuple #[(.pointer none), (I 7)])) (
      S.join 3 (fun K0 =>
        S.bin .lss base_1 (I 0) fun v14 =>
        S.gd v14 false (fun k => k base_1) fun v16 =>
        S.gd v14 false (fun k => k d_0) fun v17 =>
        S.gd v14 false (fun k => CF Tryd.prog 19 [v17] k) fun v18 =>
        S.gd v14 false (fun k => S.bin .sub v18 (I 1) k) fun v19 =>
        S.gd v14 false (fun k => S.bin .geq v16 v19 k) fun v20 =>
        S.pick v14 (B true) v20 fun v21 =>
        K0 d_0 base_1 v21)
      <| fun d_0' base_1' v12 => S.fa fun _ =>
      S.cond v12 (
        K (.tuple #[(.pointer none), (I 2)])) (
        CF Tryd.prog 20 [d_0'] fun v25 =>
        V Tryd.prog (Instr.build 54 #[(0, d_0'), (1, base_1'), (2, v25)]) fun v26 =>
        S.box 54 v26 fun v27 =>
        K (.tuple #[v27, (I 0)]))))
theorem e7 (d_0 base_1 : Value) (K : Value → WT) : s7 d_0 base_1 K = shal Tryd.prog Tryd.f7 .p a7 [d_0, base_1] K := by kernel_rfl
theorem c7 {d_0 base_1 : Value} {K : Value → WT} {w : World} (h : s7 d_0 base_1 K w) : CF Tryd.prog 7 [d_0, base_1] K w := shal_sound Tryd.func7 (e7 d_0 base_1 K ▸ h)

/-- aumbry/aumbrylaw05.live -/
def a8 : Ann := .seq (.z) (.seq (.z) (.seq (.join [1, 19] (.z) (.cond (.seq (.z) (.z)) (.z))) (.seq (.z) (.seq (.join [3, 30] (.z) (.cond (.seq (.z) (.z)) (.z))) (.seq (.z) (.seq (.z) (.seq (.z) (.seq (.z) (.z)))))))))
def s8 (K : Value → WT) : WT :=
  CF Tryd.prog 6 [(I 2)] fun v11 =>
  S.ext v11 0 fun v12 =>
  S.ext v11 1 fun v13 =>
  S.join 2 (fun K0 =>
    S.bin .neq v13 (I 0) fun v15 =>
    S.gd v15 false (fun k => k v12) fun v17 =>
    S.gd v15 false (fun k => S.eqv Tryd.prog .eql 24 true v17 (.pointer none) k) fun v18 =>
    S.pick v15 (B true) v18 fun v19 =>
    K0 v12 v19)
  <| fun v1 v19' => S.fa fun _ =>
  S.cond v19' (
    K (B false)) (
    CF Tryd.prog 7 [v1, (I 0)] fun v22 =>
    S.ext v22 0 fun v23 =>
    S.ext v22 1 fun v24 =>
    S.join 2 (fun K1 =>
      S.bin .neq v24 (I 0) fun v26 =>
      S.gd v26 false (fun k => k v23) fun v28 =>
      S.gd v26 false (fun k => S.eqv Tryd.prog .eql 28 true v28 (.pointer none) k) fun v29 =>
      S.pick v26 (B true) v29 fun v30 =>
      K1 v23 v30)
    <| fun v3 v30' => S.fa fun _ =>
    S.cond v30' (
      K (B false)) (
      CF Tryd.prog 12 [v3] fun v33 =>
      S.ext v33 0 fun v34 =>
      S.ext v33 1 fun v35 =>
      V Tryd.prog (Instr.buildSlice 22 1 #[(0, (.int .u8 97))]) fun v37 =>
      V Tryd.prog (convert 22 22 v37) fun v38 =>
      CF Tryd.prog 9 [v3, v38] fun v39 =>
      CF Tryd.prog 12 [v3] fun v42 =>
      S.ext v42 0 fun v43 =>
      S.ext v42 1 fun v44 =>
      S.bin .eql v35 (I 9) fun v46 =>
      S.gd v46 true (fun k => k v39) fun v48 =>
      S.gd v46 true (fun k => S.bin .eql v48 (I 0) k) fun v49 =>
      S.pick v46 v49 (B false) fun v50 =>
      S.gd v50 true (fun k => k v44) fun v52 =>
      S.gd v50 true (fun k => S.bin .eql v52 (I 0) k) fun v53 =>
      S.pick v50 v53 (B false) fun v54 =>
      S.gd v54 true (fun k => k v43) fun v56 =>
      S.gd v54 true (fun k => S.b2s v56 k) fun v57 =>
      S.gd v54 true (fun k => S.sbin .eql v57 (.string ⟨#[97]⟩) k) fun v58 =>
      S.pick v54 v58 (B false) fun v59 =>
      S.gd v59 true (fun k => k v3) fun v61 =>
      S.gd v59 true (fun k => CF Tryd.prog 13 [v61] k) fun v62 =>
      S.gd v59 true (fun k => S.bin .eql v62 (I 1) k) fun v63 =>
      S.pick v59 v63 (B false) fun v64 =>
      K v64))
theorem e8 (K : Value → WT) : s8  K = shal Tryd.prog Tryd.f8 .p a8 [] K := by kernel_rfl
theorem c8 {K : Value → WT} {w : World} (h : s8  K w) : CF Tryd.prog 8 [] K w := shal_sound Tryd.func8 (e8  K ▸ h)

/-- (*aumbry/slot.Cell).Set -/
def a9 : Ann := .seq (.z) (.seq (.seq (.z) (.seq (.z) (.cond (.seq (.z) (.z)) (.z)))) (.seq (.z) (.seq (.z) (.join [0, 1, 7, 8] (.seq (.z) (.cond (.z) (.z))) (.seq (.join [0, 1, 7, 8, 32] (.z) (.cond (.seq (.z) (.z)) (.z))) (.seq (.z) (.join [0, 1, 8, 9] (.seq (.z) (.cond (.z) (.z))) (.seq (.seq (.draw [0, 1, 2, 3, 4, 5, 6, 7, 8, 9, 10, 11, 12, 13, 14, 15, 16, 17]) (.seq (.z) (.cond (.seq (.z) (.z)) (.z)))) (.seq (.z) (.z))))))))))
def s9 (c_0 p_1 : Value) (K : Value → WT) : WT :=
  CF Tryd.prog 21 [c_0] fun v12 =>
  S.bin .neq v12 (I 0) fun v14 =>
  S.cond v14 (
    K v12) (
    CF Tryd.prog 22 [c_0] fun v17 =>
    S.box 58 (.agg #[(.int .i64 0), (.string ⟨#[]⟩), (.int .i64 0), (.string ⟨#[]⟩)]) fun l_6 =>
    S.st 4 l_6 v17 fun _ =>
    S.ldN 4 l_6 fun v18 =>
    CF Tryd.prog 23 [v18] fun v19 =>
    S.join 4 (fun K0 =>
      S.bin .geq v19 (I 0) fun v21 =>
      S.cond v21 (
        S.ixA 2 2 l_6 v19 fun v23 =>
        S.fad v23 0 fun v24 =>
        S.ld v24 fun v25 =>
        K0 c_0 p_1 v19 v25) (
        K0 c_0 p_1 v19 (I 0)))
    <| fun c_0' p_1' i_7 mark_8 => S.fa fun _ =>
    S.join 5 (fun K1 =>
      S.len p_1' fun v27 =>
      S.bin .gtr v27 (I 100) fun v28 =>
      S.gd v28 false (fun k => k mark_8) fun v30 =>
      S.gd v28 false (fun k => S.bin .eql v30 (I 9007199254740991) k) fun v31 =>
      S.pick v28 (B true) v31 fun v32 =>
      K1 c_0' p_1' i_7 mark_8 v32)
    <| fun c_0'2 p_1'2 i_7' mark_8' v32' => S.fa fun _ =>
    S.cond v32' (
      K (I 6)) (
      S.join 4 (fun K2 =>
        S.bin .eql i_7' (I 0) fun v34 =>
        S.cond v34 (
          K2 c_0'2 p_1'2 mark_8' (I 1)) (
          K2 c_0'2 p_1'2 mark_8' (I 0)))
      <| fun c_0'3 p_1'3 mark_8'2 other_9 => S.fa fun _ =>
      S.dr <|
      S.nc c_0'3 fun v36 =>
      S.fad v36 0 fun v37 =>
      S.ld v37 fun v38 =>
      S.nc c_0'3 fun v40 =>
      S.fad v40 1 fun v41 =>
      S.ld v41 fun v42 =>
      S.bin .add v42 other_9 fun v44 =>
      S.bin .add mark_8'2 (I 1) fun v46 =>
      S.b2s p_1'3 fun v48 =>
      V Tryd.prog (Instr.build 57 #[(0, v46), (1, v48)]) fun v49 =>
      S.rck [S.ld v41 (fun v' _ => v' = v42), S.ld v37 (fun v' _ => v' = v38)] <|
      CF Tryd.prog 25 [v49] fun v50 =>
      S.rck [S.ld v41 (fun v' _ => v' = v42), S.ld v37 (fun v' _ => v' = v38)] <|
      CF Tryd.prog 24 [v38, v44, v50] fun v51 =>
      S.bin .neq v51 (I 0) fun v53 =>
      S.cond v53 (
        K v51) (
        S.nc c_0'3 fun v56 =>
        S.fad v56 0 fun v57 =>
        S.ld v57 fun v58 =>
        CF Tryd.prog 26 [v58] fun v59 =>
        K v59)))
theorem e9 (c_0 p_1 : Value) (K : Value → WT) : s9 c_0 p_1 K = shal Tryd.prog Tryd.f9 .p a9 [c_0, p_1] K := by kernel_rfl
theorem c9 {c_0 p_1 : Value} {K : Value → WT} {w : World} (h : s9 c_0 p_1 K w) : CF Tryd.prog 9 [c_0, p_1] K w := shal_sound Tryd.func9 (e9 c_0 p_1 K ▸ h)

/-- (*aumbry/disk.Disk).Read -/
def a10 : Ann := .seq (.z) (.seq (.seq (.z) (.seq (.z) (.cond (.seq (.z) (.z)) (.z)))) (.seq (.seq (.z) (.seq (.z) (.cond (.seq (.z) (.z)) (.z)))) (.seq (.z) (.z))))
def s10 (d_0 i_1 : Value) (K : Value → WT) : WT :=
  CF Tryd.prog 27 [d_0, i_1] fun v11 =>
  S.bin .neq v11 (I 0) fun v13 =>
  S.cond v13 (
    K (.tuple #[(.slice none 0 0), v11])) (
    S.nc d_0 fun v17 =>
    S.fad v17 1 fun v18 =>
    S.ld v18 fun v19 =>
    S.lk (.int .i64) (.slice none 0 0) true v19 i_1 fun v21 =>
    S.ext v21 0 fun v22 =>
    S.ext v21 1 fun v23 =>
    S.cond v23 (
      CF Tryd.prog 28 [v22] fun v26 =>
      K (.tuple #[v26, (I 0)])) (
      S.nc d_0 fun v28 =>
      S.fad v28 0 fun v29 =>
      S.ld v29 fun v30 =>
      S.ixS 1 v30 i_1 fun v32 =>
      S.ld v32 fun v33 =>
      CF Tryd.prog 28 [v33] fun v34 =>
      K (.tuple #[v34, (I 0)])))
theorem e10 (d_0 i_1 : Value) (K : Value → WT) : s10 d_0 i_1 K = shal Tryd.prog Tryd.f10 .p a10 [d_0, i_1] K := by kernel_rfl
theorem c10 {d_0 i_1 : Value} {K : Value → WT} {w : World} (h : s10 d_0 i_1 K w) : CF Tryd.prog 10 [d_0, i_1] K w := shal_sound Tryd.func10 (e10 d_0 i_1 K ▸ h)

/-- (*aumbry/disk.Disk).Rot -/
def a11 : Ann := .seq (.z) (.seq (.blk (.seq (.z) (.cond (.seq (.z) (.z)) (.join [0, 1, 2, 10] (.z) (.cond (.seq (.z) (.z)) (.seq (.z) (.cond (.seq (.z) (.z)) (.z)))))))) (.seq (.draw [0, 1, 2, 3, 4, 5, 6, 7, 8]) (.seq (.z) (.seq (.z) (.z)))))
def s11 (d_0 i_1 b_2 : Value) (K : Value → WT) : WT :=
  S.eqv Tryd.prog .eql 24 true d_0 (.pointer none) fun v9 =>
  S.cond v9 (
    K (I 1)) (
    S.join 4 (fun K0 =>
      S.bin .lss i_1 (I 0) fun v12 =>
      S.gd v12 false (fun k => k i_1) fun v14 =>
      S.gd v12 false (fun k => k d_0) fun v15 =>
      S.gd v12 false (fun k => S.nc v15 k) fun v16 =>
      S.gd v12 false (fun k => S.fad v16 0 k) fun v17 =>
      S.gd v12 false (fun k => S.ld v17 k) fun v18 =>
      S.gd v12 false (fun k => S.len v18 k) fun v19 =>
      S.gd v12 false (fun k => S.bin .geq v14 v19 k) fun v20 =>
      S.pick v12 (B true) v20 fun v21 =>
      K0 d_0 i_1 b_2 v21)
    <| fun d_0' i_1' b_2' v10 => S.fa fun _ =>
    S.cond v10 (
      K (I 2)) (
      S.len b_2' fun v24 =>
      S.bin .gtr v24 (I 128) fun v25 =>
      S.cond v25 (
        K (I 6)) (
        S.dr <|
        S.nc d_0' fun v27 =>
        S.fad v27 0 fun v28 =>
        S.ld v28 fun v29 =>
        CF Tryd.prog 29 [b_2'] fun v32 =>
        S.rck [S.ld v28 (fun v' _ => v' = v29)] <|
        S.ixS 1 v29 i_1' fun v33 =>
        S.st 1 v33 v32 fun _ =>
        S.nc d_0' fun v35 =>
        S.fad v35 1 fun v36 =>
        S.ld v36 fun v37 =>
        V Tryd.prog (Builtin.delete_ #[50, 3] 0 #[v37, i_1']) fun _ =>
        K (I 0))))
theorem e11 (d_0 i_1 b_2 : Value) (K : Value → WT) : s11 d_0 i_1 b_2 K = shal Tryd.prog Tryd.f11 .p a11 [d_0, i_1, b_2] K := by kernel_rfl
theorem c11 {d_0 i_1 b_2 : Value} {K : Value → WT} {w : World} (h : s11 d_0 i_1 b_2 K w) : CF Tryd.prog 11 [d_0, i_1, b_2] K w := shal_sound Tryd.func11 (e11 d_0 i_1 b_2 K ▸ h)

/-- (*aumbry/slot.Cell).Get -/
def a12 : Ann := .seq (.z) (.seq (.seq (.z) (.seq (.z) (.cond (.seq (.z) (.z)) (.z)))) (.seq (.z) (.seq (.z) (.seq (.blk (.join [5, 6, 16] (.z) (.cond (.seq (.z) (.z)) (.seq (.z) (.cond (.seq (.z) (.z)) (.z)))))) (.seq (.z) (.z))))))
def s12 (c_0 : Value) (K : Value → WT) : WT :=
  CF Tryd.prog 21 [c_0] fun v8 =>
  S.bin .neq v8 (I 0) fun v10 =>
  S.cond v10 (
    K (.tuple #[(.slice none 0 0), v8])) (
    CF Tryd.prog 22 [c_0] fun v13 =>
    S.box 58 (.agg #[(.int .i64 0), (.string ⟨#[]⟩), (.int .i64 0), (.string ⟨#[]⟩)]) fun l_5 =>
    S.st 4 l_5 v13 fun _ =>
    S.ldN 4 l_5 fun v14 =>
    CF Tryd.prog 23 [v14] fun v15 =>
    S.join 3 (fun K0 =>
      S.bin .lss v15 (I 0) fun v18 =>
      S.gd v18 true (fun k => k c_0) fun v20 =>
      S.gd v18 true (fun k => CF Tryd.prog 30 [v20] k) fun v21 =>
      S.pick v18 v21 (B false) fun v22 =>
      K0 l_5 v15 v22)
    <| fun l_5' i_6 v16 => S.fa fun _ =>
    S.cond v16 (
      K (.tuple #[(.slice none 0 0), (I 9)])) (
      S.bin .lss i_6 (I 0) fun v25 =>
      S.cond v25 (
        K (.tuple #[(.slice none 0 0), (I 13)])) (
        S.ixA 2 2 l_5' i_6 fun v27 =>
        S.fad v27 1 fun v28 =>
        S.ld v28 fun v29 =>
        V Tryd.prog (convert 9 22 v29) fun v30 =>
        K (.tuple #[v30, (I 0)]))))
theorem e12 (c_0 : Value) (K : Value → WT) : s12 c_0 K = shal Tryd.prog Tryd.f12 .p a12 [c_0] K := by kernel_rfl
theorem c12 {c_0 : Value} {K : Value → WT} {w : World} (h : s12 c_0 K w) : CF Tryd.prog 12 [c_0] K w := shal_sound Tryd.func12 (e12 c_0 K ▸ h)

/-- (*aumbry/slot.Cell).Mark -/
def a13 : Ann := .seq (.z) (.seq (.seq (.z) (.cond (.seq (.z) (.z)) (.z))) (.seq (.z) (.seq (.z) (.seq (.seq (.z) (.cond (.seq (.z) (.z)) (.z))) (.seq (.z) (.z))))))
def s13 (c_0 : Value) (K : Value → WT) : WT :=
  CF Tryd.prog 21 [c_0] fun v6 =>
  S.bin .neq v6 (I 0) fun v7 =>
  S.cond v7 (
    K (I 0)) (
    CF Tryd.prog 22 [c_0] fun v9 =>
    S.box 58 (.agg #[(.int .i64 0), (.string ⟨#[]⟩), (.int .i64 0), (.string ⟨#[]⟩)]) fun l_3 =>
    S.st 4 l_3 v9 fun _ =>
    S.ldN 4 l_3 fun v10 =>
    CF Tryd.prog 23 [v10] fun v11 =>
    S.bin .lss v11 (I 0) fun v13 =>
    S.cond v13 (
      K (I 0)) (
      S.ixA 2 2 l_3 v11 fun v15 =>
      S.fad v15 0 fun v16 =>
      S.ld v16 fun v17 =>
      K v17))
theorem e13 (c_0 : Value) (K : Value → WT) : s13 c_0 K = shal Tryd.prog Tryd.f13 .p a13 [c_0] K := by kernel_rfl
theorem c13 {c_0 : Value} {K : Value → WT} {w : World} (h : s13 c_0 K w) : CF Tryd.prog 13 [c_0] K w := shal_sound Tryd.func13 (e13 c_0 K ▸ h)

/-- (*aumbry/disk.Disk).Crash -/
def a14 : Ann := .seq (.z) (.seq (.seq (.z) (.cond (.z) (.z))) (.seq (.seq (.z) (.blk (.loop [0, 3, 10, 11, 12] (.seq (.z) (.seq (.cond (.z) (.z)) (.seq (.blk (.seq (.z) (.join [0, 3, 5, 10, 11, 12] (.seq (.z) (.blk (.join [0, 3, 4, 5, 6, 10, 11, 12, 23] (.z) (.cond (.draw [0, 1, 2, 3, 4, 5, 6, 7, 8, 10, 11, 12, 13, 14, 15, 16, 17, 18, 19, 9, 20, 21, 22]) (.join [0, 3, 5, 6, 10, 11, 12, 60] (.z) (.cond (.z) (.z))))))) (.z)))) (.z))))))) (.z)))
def s14 (v0 v1 : Value) (K : Value → WT) : WT :=
  S.box 42 v1 fun v3 =>
  S.eqv Tryd.prog .eql 24 true v0 (.pointer none) fun v8 =>
  S.cond v8 (
    K (.tuple #[])) (
    CF Tryd.prog 31 [v0] fun v10 =>
    S.len v10 fun v11 =>
    S.loop 5 (fun K0 => fun v0' v3' v10' v11' v12 => S.fa fun _ =>
      S.bin .lss v12 v11' fun v13 =>
      S.cond v13 (
        S.ixS 1 v10' v12 fun v15 =>
        S.ld v15 fun v16 =>
        S.join 6 (fun K1 =>
          S.nc v0' fun v18 =>
          S.fad v18 1 fun v19 =>
          S.ld v19 fun v20 =>
          S.lk (.int .i64) (.slice none 0 0) false v20 v16 fun v22 =>
          S.join 9 (fun K2 =>
            S.fad v3' 1 fun v25 =>
            S.ld v25 fun v26 =>
            S.bin .eql v12 v26 fun v27 =>
            S.gd v27 true (fun k => S.fad v3' 2 k) fun v29 =>
            S.gd v27 true (fun k => S.ld v29 k) fun v30 =>
            S.gd v27 true (fun k => S.bin .geq v30 (I 0) k) fun v31 =>
            S.pick v27 v31 (B false) fun v32 =>
            S.gd v32 true (fun k => S.fad v3' 2 k) fun v34 =>
            S.gd v32 true (fun k => S.ld v34 k) fun v35 =>
            S.gd v32 true (fun k => S.bin .leq v35 (I 128) k) fun v36 =>
            S.pick v32 v36 (B false) fun v37 =>
            K2 v0' v3' v12 v16 v22 v10' v11' v12 v37)
          <| fun v0'2 v3'2 v4 v5 v6 v10'2 v11'2 v12' v23 => S.fa fun _ =>
          S.cond v23 (
            S.dr <|
            S.nc v0'2 fun v39 =>
            S.fad v39 0 fun v40 =>
            S.ld v40 fun v41 =>
            S.fad v3'2 2 fun v44 =>
            S.ld v44 fun v45 =>
            S.slc 1 v6 none (some v45) none fun v46 =>
            S.nc v0'2 fun v49 =>
            S.fad v49 0 fun v50 =>
            S.ld v50 fun v51 =>
            S.ixS 1 v51 v5 fun v53 =>
            S.ld v53 fun v54 =>
            S.fad v3'2 2 fun v55 =>
            S.ld v55 fun v56 =>
            S.slc 1 v54 (some v56) none none fun v57 =>
            CF Tryd.prog 28 [v46] fun v47 =>
            S.rck [S.ld v55 (fun v' _ => v' = v56), S.ld v53 (fun v' _ => v' = v54), S.ld v50 (fun v' _ => v' = v51), S.ld v40 (fun v' _ => v' = v41)] <|
            V Tryd.prog (Builtin.append_ #[22, 22] 22 #[v47, v57]) fun v58 =>
            S.rck [S.ld v40 (fun v' _ => v' = v41)] <|
            S.ixS 1 v41 v5 fun v59 =>
            S.st 1 v59 v58 fun _ =>
            K1 v0'2 v3'2 v5 v10'2 v11'2 v12') (
            S.join 8 (fun K3 =>
              S.fad v3'2 0 fun v62 =>
              S.ld v62 fun v63 =>
              S.len v63 fun v64 =>
              S.bin .lss v4 v64 fun v65 =>
              S.gd v65 true (fun k => S.fad v3'2 0 k) fun v67 =>
              S.gd v65 true (fun k => S.ld v67 k) fun v68 =>
              S.gd v65 true (fun k => k v4) fun v69 =>
              S.gd v65 true (fun k => S.ixS 1 v68 v69 k) fun v70 =>
              S.gd v65 true (fun k => S.ld v70 k) fun v71 =>
              S.pick v65 v71 (B false) fun v72 =>
              K3 v0'2 v3'2 v5 v6 v10'2 v11'2 v12' v72)
            <| fun v0'3 v3'3 v5' v6' v10'3 v11'3 v12'2 v60 => S.fa fun _ =>
            S.cond v60 (
              S.nc v0'3 fun v74 =>
              S.fad v74 0 fun v75 =>
              S.ld v75 fun v76 =>
              S.ixS 1 v76 v5' fun v79 =>
              S.st 1 v79 v6' fun _ =>
              K1 v0'3 v3'3 v5' v10'3 v11'3 v12'2) (
              K1 v0'3 v3'3 v5' v10'3 v11'3 v12'2)))
        <| fun v0'4 v3'4 v5'2 v10'4 v11'4 v12'3 => S.fa fun _ =>
        S.nc v0'4 fun v81 =>
        S.fad v81 1 fun v82 =>
        S.ld v82 fun v83 =>
        V Tryd.prog (Builtin.delete_ #[50, 3] 0 #[v83, v5'2]) fun _ =>
        S.bin .add v12'3 (I 1) fun v85 =>
        K0 v0'4 v3'4 v10'4 v11'4 v85) (
        S.nc v0' fun v90 =>
        S.fad v90 4 fun v91 =>
        S.ld v91 fun v92 =>
        S.bin .add v92 (I 1) fun v93 =>
        S.nc v0' fun v94 =>
        S.fad v94 2 fun v95 =>
        S.st 1 v95 (I 0) fun _ =>
        S.nc v0' fun v96 =>
        S.fad v96 3 fun v97 =>
        S.st 1 v97 (B false) fun _ =>
        S.nc v0' fun v98 =>
        S.fad v98 4 fun v99 =>
        S.st 1 v99 v93 fun _ =>
        K (.tuple #[])))
    [v0, v3, v10, v11, (I 0)])
theorem e14 (v0 v1 : Value) (K : Value → WT) : s14 v0 v1 K = shal Tryd.prog Tryd.f14 .p a14 [v0, v1] K := by kernel_rfl
theorem c14 {v0 v1 : Value} {K : Value → WT} {w : World} (h : s14 v0 v1 K w) : CF Tryd.prog 14 [v0, v1] K w := shal_sound Tryd.func14 (e14 v0 v1 K ▸ h)

/-- (*aumbry/disk.Disk).Trip -/
def a15 : Ann := .seq (.z) (.seq (.blk (.seq (.z) (.cond (.seq (.z) (.z)) (.seq (.z) (.cond (.seq (.z) (.z)) (.seq (.z) (.cond (.seq (.z) (.z)) (.z)))))))) (.seq (.z) (.seq (.z) (.z))))
def s15 (d_0 n_1 : Value) (K : Value → WT) : WT :=
  S.eqv Tryd.prog .eql 24 true d_0 (.pointer none) fun v7 =>
  S.cond v7 (
    K (I 1)) (
    S.nc d_0 fun v10 =>
    S.fad v10 3 fun v11 =>
    S.ld v11 fun v12 =>
    S.cond v12 (
      K (I 7)) (
      S.bin .lss n_1 (I 0) fun v15 =>
      S.cond v15 (
        K (I 2)) (
        S.nc d_0 fun v18 =>
        S.fad v18 2 fun v19 =>
        S.st 1 v19 n_1 fun _ =>
        K (I 0))))
theorem e15 (d_0 n_1 : Value) (K : Value → WT) : s15 d_0 n_1 K = shal Tryd.prog Tryd.f15 .p a15 [d_0, n_1] K := by kernel_rfl
theorem c15 {d_0 n_1 : Value} {K : Value → WT} {w : World} (h : s15 d_0 n_1 K w) : CF Tryd.prog 15 [d_0, n_1] K w := shal_sound Tryd.func15 (e15 d_0 n_1 K ▸ h)

/-- aumbry/aumbrylaw05.torn -/
def a16 : Ann := .seq (.z) (.seq (.z) (.seq (.join [0, 1, 2, 4, 5, 9, 13, 28] (.z) (.cond (.seq (.z) (.z)) (.z))) (.seq (.z) (.seq (.join [0, 1, 2, 4, 5, 9, 13, 15, 39] (.z) (.cond (.seq (.z) (.z)) (.z))) (.seq (.seq (.z) (.blk (.loop [0, 1, 2, 4, 5, 9, 13, 15, 17] (.seq (.join [0, 1, 2, 4, 5, 9, 13, 15, 17, 47] (.z) (.cond (.z) (.z))) (.seq (.blk (.z)) (.z)))))) (.seq (.seq (.z) (.cond (.seq (.z) (.z)) (.z))) (.seq (.z) (.seq (.z) (.seq (.z) (.z))))))))))
def s16 (v0 v1 v2 v3 v4 v5 : Value) (K : Value → WT) : WT :=
  S.box 42 v3 fun v9 =>
  CF Tryd.prog 6 [(I 3)] fun v20 =>
  S.ext v20 0 fun v21 =>
  S.ext v20 1 fun v22 =>
  S.join 8 (fun K0 =>
    S.bin .neq v22 (I 0) fun v24 =>
    S.gd v24 false (fun k => k v21) fun v26 =>
    S.gd v24 false (fun k => S.eqv Tryd.prog .eql 24 true v26 (.pointer none) k) fun v27 =>
    S.pick v24 (B true) v27 fun v28 =>
    K0 v0 v1 v2 v4 v5 v9 v21 v28)
  <| fun v0' v1' v2' v4' v5' v9' v13 v28' => S.fa fun _ =>
  S.cond v28' (
    K (B false)) (
    CF Tryd.prog 7 [v13, (I 1)] fun v31 =>
    S.ext v31 0 fun v32 =>
    S.ext v31 1 fun v33 =>
    S.join 9 (fun K1 =>
      S.bin .neq v33 (I 0) fun v35 =>
      S.gd v35 false (fun k => k v32) fun v37 =>
      S.gd v35 false (fun k => S.eqv Tryd.prog .eql 28 true v37 (.pointer none) k) fun v38 =>
      S.pick v35 (B true) v38 fun v39 =>
      K1 v0' v1' v2' v4' v5' v9' v13 v32 v39)
    <| fun v0'2 v1'2 v2'2 v4'2 v5'2 v9'2 v13' v15 v39' => S.fa fun _ =>
    S.cond v39' (
      K (B false)) (
      S.loop 9 (fun K2 => fun v0'3 v1'3 v2'3 v4'3 v5'3 v9'3 v13'2 v15' v17 => S.fa fun _ =>
        S.join 10 (fun K3 =>
          S.len v0'3 fun v42 =>
          S.bin .lss v17 v42 fun v43 =>
          S.gd v43 true (fun k => k v17) fun v45 =>
          S.gd v43 true (fun k => S.bin .lss v45 (I 30) k) fun v46 =>
          S.pick v43 v46 (B false) fun v47 =>
          K3 v0'3 v1'3 v2'3 v4'3 v5'3 v9'3 v13'2 v15' v17 v47)
        <| fun v0'4 v1'4 v2'4 v4'4 v5'4 v9'4 v13'3 v15'2 v17' v47' => S.fa fun _ =>
        S.cond v47' (
          S.ixS 1 v0'4 v17' fun v53 =>
          S.ld v53 fun v54 =>
          CF Tryd.prog 9 [v15'2, v54] fun v55 =>
          S.bin .add v17' (I 1) fun v49 =>
          K2 v0'4 v1'4 v2'4 v4'4 v5'4 v9'4 v13'3 v15'2 v49) (
          S.cvt .i64 v2'4 fun v58 =>
          S.bin .rem v58 (I 4) fun v59 =>
          CF Tryd.prog 15 [v13'3, v59] fun v60 =>
          S.bin .neq v60 (I 0) fun v61 =>
          S.cond v61 (
            K (B false)) (
            CF Tryd.prog 9 [v15'2, v1'4] fun v64 =>
            S.ldN 3 v9'4 fun v66 =>
            CF Tryd.prog 14 [v13'3, v66] fun v67 =>
            S.b2s v1'4 fun v71 =>
            CF Tryd.prog 17 [v13'3, v64, v71, v4'4, v5'4] fun v74 =>
            K v74)))
      [v0'2, v1'2, v2'2, v4'2, v5'2, v9'2, v13', v15, (I 0)]))
theorem e16 (v0 v1 v2 v3 v4 v5 : Value) (K : Value → WT) : s16 v0 v1 v2 v3 v4 v5 K = shal Tryd.prog Tryd.f16 .p a16 [v0, v1, v2, v3, v4, v5] K := by kernel_rfl
theorem c16 {v0 v1 v2 v3 v4 v5 : Value} {K : Value → WT} {w : World} (h : s16 v0 v1 v2 v3 v4 v5 K w) : CF Tryd.prog 16 [v0, v1, v2, v3, v4, v5] K w := shal_sound Tryd.func16 (e16 v0 v1 v2 v3 v4 v5 K ▸ h)

/-- aumbry/aumbrylaw05.tells -/
def a17 : Ann := .seq (.z) (.seq (.z) (.seq (.join [1, 2, 3, 4, 11, 27] (.z) (.cond (.seq (.z) (.z)) (.z))) (.seq (.z) (.join [1, 2, 4, 13, 14, 15] (.z) (.join [1, 4, 14, 15, 16] (.z) (.seq (.seq (.z) (.blk (.seq (.z) (.cond (.seq (.z) (.z)) (.seq (.z) (.cond (.seq (.z) (.z)) (.z))))))) (.seq (.z) (.z))))))))
def s17 (v0 v1 v2 v3 v4 : Value) (K : Value → WT) : WT :=
  CF Tryd.prog 7 [v0, (I 1)] fun v19 =>
  S.ext v19 0 fun v20 =>
  S.ext v19 1 fun v21 =>
  S.join 6 (fun K0 =>
    S.bin .neq v21 (I 0) fun v23 =>
    S.gd v23 false (fun k => k v20) fun v25 =>
    S.gd v23 false (fun k => S.eqv Tryd.prog .eql 28 true v25 (.pointer none) k) fun v26 =>
    S.pick v23 (B true) v26 fun v27 =>
    K0 v1 v2 v3 v4 v20 v27)
  <| fun v1' v2' v3' v4' v11 v27' => S.fa fun _ =>
  S.cond v27' (
    K (B false)) (
    CF Tryd.prog 12 [v11] fun v30 =>
    S.ext v30 0 fun v31 =>
    S.ext v30 1 fun v32 =>
    S.join 6 (fun K1 =>
      S.gd v4' true (fun k => k v32) fun v35 =>
      S.gd v4' true (fun k => S.bin .eql v35 (I 0) k) fun v36 =>
      S.pick v4' v36 (B false) fun v37 =>
      S.gd v37 true (fun k => k v31) fun v39 =>
      S.gd v37 true (fun k => S.b2s v39 k) fun v40 =>
      S.gd v37 true (fun k => k v3') fun v41 =>
      S.gd v37 true (fun k => S.sbin .eql v40 v41 k) fun v42 =>
      S.pick v37 v42 (B false) fun v43 =>
      S.gd v43 false (fun k => k v4') fun v45 =>
      S.gd v43 false (fun k => S.not1 v45 k) fun v46 =>
      S.gd v43 false (fun k => k v46) fun v47 =>
      S.gd v47 true (fun k => k v32) fun v48 =>
      S.gd v47 true (fun k => S.bin .eql v48 (I 9) k) fun v49 =>
      S.gd v43 false (fun k => S.pick v47 v49 (B false) k) fun v50 =>
      S.pick v43 (B true) v50 fun v51 =>
      K1 v1' v2' v4' v31 v32 v51)
    <| fun v1'2 v2'2 v4'2 v13 v14 v15 => S.fa fun _ =>
    S.join 5 (fun K2 =>
      S.bin .eql v14 (I 0) fun v53 =>
      S.gd v53 true (fun k => k v13) fun v55 =>
      S.gd v53 true (fun k => S.b2s v55 k) fun v56 =>
      S.gd v53 true (fun k => k v2'2) fun v57 =>
      S.gd v53 true (fun k => S.sbin .eql v56 v57 k) fun v58 =>
      S.pick v53 v58 (B false) fun v59 =>
      K2 v1'2 v4'2 v14 v15 v59)
    <| fun v1'3 v4'3 v14' v15' v16 => S.fa fun _ =>
    S.bin .eql v1'3 (I 0) fun v62 =>
    S.cond v62 (
      K v16) (
      S.bin .eql v1'3 (I 7) fun v65 =>
      S.cond v65 (
        S.gd v15' false (fun k => k v16) fun v68 =>
        S.pick v15' (B true) v68 fun v69 =>
        S.gd v69 false (fun k => k v4'3) fun v71 =>
        S.gd v69 false (fun k => S.not1 v71 k) fun v72 =>
        S.gd v69 false (fun k => k v72) fun v73 =>
        S.gd v73 true (fun k => k v14') fun v74 =>
        S.gd v73 true (fun k => S.bin .eql v74 (I 13) k) fun v75 =>
        S.gd v69 false (fun k => S.pick v73 v75 (B false) k) fun v76 =>
        S.pick v69 (B true) v76 fun v77 =>
        K v77) (
        K v15')))
theorem e17 (v0 v1 v2 v3 v4 : Value) (K : Value → WT) : s17 v0 v1 v2 v3 v4 K = shal Tryd.prog Tryd.f17 .p a17 [v0, v1, v2, v3, v4] K := by kernel_rfl
theorem c17 {v0 v1 v2 v3 v4 : Value} {K : Value → WT} {w : World} (h : s17 v0 v1 v2 v3 v4 K w) : CF Tryd.prog 17 [v0, v1, v2, v3, v4] K w := shal_sound Tryd.func17 (e17 v0 v1 v2 v3 v4 K ▸ h)

/-- (*aumbry/disk.Disk).Down -/
def a18 : Ann := .seq (.z) (.seq (.z) (.z))
def s18 (d_0 : Value) (K : Value → WT) : WT :=
  S.eqv Tryd.prog .neq 24 true d_0 (.pointer none) fun v4 =>
  S.gd v4 true (fun k => k d_0) fun v6 =>
  S.gd v4 true (fun k => S.nc v6 k) fun v7 =>
  S.gd v4 true (fun k => S.fad v7 3 k) fun v8 =>
  S.gd v4 true (fun k => S.ld v8 k) fun v9 =>
  S.pick v4 v9 (B false) fun v10 =>
  K v10
theorem e18 (d_0 : Value) (K : Value → WT) : s18 d_0 K = shal Tryd.prog Tryd.f18 .p a18 [d_0] K := by kernel_rfl
theorem c18 {d_0 : Value} {K : Value → WT} {w : World} (h : s18 d_0 K w) : CF Tryd.prog 18 [d_0] K w := shal_sound Tryd.func18 (e18 d_0 K ▸ h)

/-- (*aumbry/disk.Disk).Sectors -/
def a19 : Ann := .seq (.z) (.seq (.seq (.z) (.cond (.seq (.z) (.z)) (.z))) (.seq (.z) (.z)))
def s19 (d_0 : Value) (K : Value → WT) : WT :=
  S.eqv Tryd.prog .eql 24 true d_0 (.pointer none) fun v4 =>
  S.cond v4 (
    K (I 0)) (
    S.nc d_0 fun v6 =>
    S.fad v6 0 fun v7 =>
    S.ld v7 fun v8 =>
    S.len v8 fun v9 =>
    K v9)
theorem e19 (d_0 : Value) (K : Value → WT) : s19 d_0 K = shal Tryd.prog Tryd.f19 .p a19 [d_0] K := by kernel_rfl
theorem c19 {d_0 : Value} {K : Value → WT} {w : World} (h : s19 d_0 K w) : CF Tryd.prog 19 [d_0] K w := shal_sound Tryd.func19 (e19 d_0 K ▸ h)

/-- (*aumbry/disk.Disk).Life -/
def a20 : Ann := .seq (.z) (.seq (.seq (.z) (.cond (.seq (.z) (.z)) (.z))) (.seq (.z) (.z)))
def s20 (d_0 : Value) (K : Value → WT) : WT :=
  S.eqv Tryd.prog .eql 24 true d_0 (.pointer none) fun v4 =>
  S.cond v4 (
    K (I 0)) (
    S.nc d_0 fun v6 =>
    S.fad v6 4 fun v7 =>
    S.ld v7 fun v8 =>
    K v8)
theorem e20 (d_0 : Value) (K : Value → WT) : s20 d_0 K = shal Tryd.prog Tryd.f20 .p a20 [d_0] K := by kernel_rfl
theorem c20 {d_0 : Value} {K : Value → WT} {w : World} (h : s20 d_0 K w) : CF Tryd.prog 20 [d_0] K w := shal_sound Tryd.func20 (e20 d_0 K ▸ h)

/-- (*aumbry/slot.Cell).off -/
def a21 : Ann := .seq (.z) (.seq (.blk (.seq (.z) (.cond (.seq (.z) (.z)) (.seq (.draw [0, 1, 2, 3, 5, 6, 7, 8, 4, 9, 10]) (.cond (.seq (.z) (.z)) (.seq (.z) (.cond (.seq (.z) (.z)) (.z)))))))) (.seq (.z) (.z)))
def s21 (c_0 : Value) (K : Value → WT) : WT :=
  S.eqv Tryd.prog .eql 28 true c_0 (.pointer none) fun v5 =>
  S.cond v5 (
    K (I 1)) (
    S.dr <|
    S.nc c_0 fun v8 =>
    S.fad v8 0 fun v9 =>
    S.ld v9 fun v10 =>
    S.nc c_0 fun v13 =>
    S.fad v13 2 fun v14 =>
    S.ld v14 fun v15 =>
    CF Tryd.prog 20 [v10] fun v11 =>
    S.rck [S.ld v14 (fun v' _ => v' = v15)] <|
    S.bin .neq v11 v15 fun v16 =>
    S.cond v16 (
      K (I 14)) (
      S.nc c_0 fun v19 =>
      S.fad v19 0 fun v20 =>
      S.ld v20 fun v21 =>
      CF Tryd.prog 18 [v21] fun v22 =>
      S.cond v22 (
        K (I 7)) (
        K (I 0))))
theorem e21 (c_0 : Value) (K : Value → WT) : s21 c_0 K = shal Tryd.prog Tryd.f21 .p a21 [c_0] K := by kernel_rfl
theorem c21 {c_0 : Value} {K : Value → WT} {w : World} (h : s21 c_0 K w) : CF Tryd.prog 21 [c_0] K w := shal_sound Tryd.func21 (e21 c_0 K ▸ h)

/-- (*aumbry/slot.Cell).both -/
def a22 : Ann := .seq (.z) (.seq (.z) (.seq (.seq (.z) (.blk (.loop [0, 2, 3, 7] (.seq (.z) (.seq (.cond (.z) (.z)) (.seq (.blk (.seq (.z) (.seq (.draw [0, 1, 2, 3, 4, 5, 6, 7, 8, 9, 10, 11, 12, 13, 14, 15]) (.z)))) (.z))))))) (.seq (.z) (.z))))
def s22 (c_0 : Value) (K : Value → WT) : WT :=
  S.box 58 (.agg #[(.int .i64 0), (.string ⟨#[]⟩), (.int .i64 0), (.string ⟨#[]⟩)]) fun v2 =>
  S.box 58 (.agg #[(.int .i64 0), (.string ⟨#[]⟩), (.int .i64 0), (.string ⟨#[]⟩)]) fun out_3 =>
  S.loop 4 (fun K0 => fun c_0' v2' out_3' v7 => S.fa fun _ =>
    S.bin .lss v7 (I 2) fun v8 =>
    S.cond v8 (
      S.dr <|
      S.nc c_0' fun v12 =>
      S.fad v12 0 fun v13 =>
      S.ld v13 fun v14 =>
      S.nc c_0' fun v16 =>
      S.fad v16 1 fun v17 =>
      S.ld v17 fun v18 =>
      S.bin .add v18 v7 fun v20 =>
      CF Tryd.prog 10 [v14, v20] fun v21 =>
      S.ext v21 0 fun v22 =>
      S.ext v21 1 fun v23 =>
      CF Tryd.prog 32 [v22] fun v26 =>
      S.ixA 2 2 out_3' v7 fun v27 =>
      S.st 2 v27 v26 fun _ =>
      S.bin .add v7 (I 1) fun v28 =>
      K0 c_0' v2' out_3' v28) (
      S.ldN 4 out_3' fun v29 =>
      S.st 4 v2' v29 fun _ =>
      S.ldN 4 v2' fun v2'2 =>
      K v2'2))
  [c_0, v2, out_3, (I 0)]
theorem e22 (c_0 : Value) (K : Value → WT) : s22 c_0 K = shal Tryd.prog Tryd.f22 .p a22 [c_0] K := by kernel_rfl
theorem c22 {c_0 : Value} {K : Value → WT} {w : World} (h : s22 c_0 K w) : CF Tryd.prog 22 [c_0] K w := shal_sound Tryd.func22 (e22 c_0 K ▸ h)

/-- aumbry/slot.counts -/
def a23 : Ann := .seq (.z) (.seq (.z) (.seq (.blk (.join [1, 5] (.z) (.cond (.seq (.z) (.z)) (.seq (.z) (.cond (.seq (.z) (.z)) (.z)))))) (.seq (.z) (.z))))
def s23 (l_0 : Value) (K : Value → WT) : WT :=
  S.box 58 l_0 fun l_1 =>
  V Tryd.prog (Instr.build 57 #[]) fun v4 =>
  S.box 57 (.agg #[(.int .i64 0), (.string ⟨#[]⟩)]) fun none_3 =>
  S.st 2 none_3 v4 fun _ =>
  S.join 2 (fun K0 =>
    S.ixA 2 2 l_1 (I 0) fun v6 =>
    S.ldN 2 v6 fun v7 =>
    S.ldN 2 none_3 fun v8 =>
    S.eqv Tryd.prog .eql 57 false v7 v8 fun v9 =>
    S.gd v9 true (fun k => S.ixA 2 2 l_1 (I 1) k) fun v11 =>
    S.gd v9 true (fun k => S.ldN 2 v11 k) fun v12 =>
    S.gd v9 true (fun k => S.ldN 2 none_3 k) fun v13 =>
    S.gd v9 true (fun k => S.eqv Tryd.prog .eql 57 false v12 v13 k) fun v14 =>
    S.pick v9 v14 (B false) fun v15 =>
    K0 l_1 v15)
  <| fun l_1' v5 => S.fa fun _ =>
  S.cond v5 (
    K (I (-1))) (
    S.ixA 2 2 l_1' (I 1) fun v17 =>
    S.fad v17 0 fun v18 =>
    S.ld v18 fun v19 =>
    S.ixA 2 2 l_1' (I 0) fun v20 =>
    S.fad v20 0 fun v21 =>
    S.ld v21 fun v22 =>
    S.bin .gtr v19 v22 fun v23 =>
    S.cond v23 (
      K (I 1)) (
      K (I 0)))
theorem e23 (l_0 : Value) (K : Value → WT) : s23 l_0 K = shal Tryd.prog Tryd.f23 .p a23 [l_0] K := by kernel_rfl
theorem c23 {l_0 : Value} {K : Value → WT} {w : World} (h : s23 l_0 K w) : CF Tryd.prog 23 [l_0] K w := shal_sound Tryd.func23 (e23 l_0 K ▸ h)

/-- (*aumbry/disk.Disk).Write -/
def a24 : Ann := .seq (.z) (.seq (.seq (.z) (.seq (.z) (.cond (.seq (.z) (.z)) (.z)))) (.seq (.seq (.z) (.cond (.seq (.z) (.z)) (.z))) (.seq (.z) (.seq (.z) (.z)))))
def s24 (d_0 i_1 b_2 : Value) (K : Value → WT) : WT :=
  S.box 24 d_0 fun d_3 =>
  S.box 3 i_1 fun i_4 =>
  S.ld d_3 fun v9 =>
  S.ld i_4 fun v10 =>
  CF Tryd.prog 27 [v9, v10] fun v11 =>
  S.bin .neq v11 (I 0) fun v13 =>
  S.cond v13 (
    K v11) (
    S.len b_2 fun v16 =>
    S.bin .gtr v16 (I 128) fun v17 =>
    S.cond v17 (
      K (I 6)) (
      CF Tryd.prog 29 [b_2] fun v19 =>
      S.box 22 (.slice none 0 0) fun p_8 =>
      S.st 1 p_8 v19 fun _ =>
      S.ld d_3 fun v20 =>
      CF Tryd.prog 33 [v20, (.func (Go.Fn.func 34) #[] #[p_8, d_3, i_4])] fun v22 =>
      K v22))
theorem e24 (d_0 i_1 b_2 : Value) (K : Value → WT) : s24 d_0 i_1 b_2 K = shal Tryd.prog Tryd.f24 .p a24 [d_0, i_1, b_2] K := by kernel_rfl
theorem c24 {d_0 i_1 b_2 : Value} {K : Value → WT} {w : World} (h : s24 d_0 i_1 b_2 K w) : CF Tryd.prog 24 [d_0, i_1, b_2] K w := shal_sound Tryd.func24 (e24 d_0 i_1 b_2 K ▸ h)

/-- aumbry/slot.laid -/
def a25 : Ann := .seq (.z) (.seq (.z) (.seq (.draw [0, 1, 2, 3, 4, 5, 8, 9, 6, 7, 10, 11]) (.seq (.z) (.seq (.z) (.seq (.z) (.z))))))
def s25 (x_0 : Value) (K : Value → WT) : WT :=
  S.box 57 x_0 fun x_1 =>
  S.fad x_1 0 fun v9 =>
  S.ld v9 fun v10 =>
  CF Tryd.prog 35 [v10, (I 8)] fun v11 =>
  S.ext v11 0 fun v12 =>
  S.ext v11 1 fun v13 =>
  S.dr <|
  S.slc 1 v12 none (some (I 8)) (some (I 8)) fun v15 =>
  S.fad x_1 1 fun v16 =>
  S.ld v16 fun v17 =>
  S.lenS v17 fun v18 =>
  S.cvt .u8 v18 fun v19 =>
  S.fad x_1 1 fun v22 =>
  S.ld v22 fun v23 =>
  V Tryd.prog (Instr.buildSlice 22 1 #[(0, v19)]) fun v20 =>
  S.rck [S.ld v22 (fun v' _ => v' = v23)] <|
  V Tryd.prog (Builtin.append_ #[22, 22] 22 #[v15, v20]) fun v21 =>
  S.rck [S.ld v22 (fun v' _ => v' = v23)] <|
  V Tryd.prog (Builtin.append_ #[22, 9] 22 #[v21, v23]) fun v24 =>
  S.len v24 fun v27 =>
  S.bin .sub (I 116) v27 fun v28 =>
  V Tryd.prog (Builtin.append_ #[22, 3] 22 #[v24, v28]) fun v29 =>
  CF Tryd.prog 36 [v29] fun v32 =>
  S.cvt .i64 v32 fun v33 =>
  CF Tryd.prog 35 [v33, (I 4)] fun v34 =>
  S.ext v34 0 fun v35 =>
  S.ext v34 1 fun v36 =>
  V Tryd.prog (Builtin.append_ #[22, 22] 22 #[v29, v35]) fun v39 =>
  V Tryd.prog (Builtin.append_ #[22, 22] 22 #[v39, v12]) fun v41 =>
  K v41
theorem e25 (x_0 : Value) (K : Value → WT) : s25 x_0 K = shal Tryd.prog Tryd.f25 .p a25 [x_0] K := by kernel_rfl
theorem c25 {x_0 : Value} {K : Value → WT} {w : World} (h : s25 x_0 K w) : CF Tryd.prog 25 [x_0] K w := shal_sound Tryd.func25 (e25 x_0 K ▸ h)

/-- (*aumbry/disk.Disk).Flush -/
def a26 : Ann := .seq (.z) (.seq (.seq (.z) (.seq (.z) (.cond (.seq (.z) (.z)) (.z)))) (.seq (.z) (.z)))
def s26 (d_0 : Value) (K : Value → WT) : WT :=
  CF Tryd.prog 27 [d_0, (I 0)] fun v5 =>
  S.bin .neq v5 (I 0) fun v7 =>
  S.cond v7 (
    K v5) (
    CF Tryd.prog 33 [d_0, (.func (Go.Fn.func 37) #[d_0] #[])] fun v12 =>
    K v12)
theorem e26 (d_0 : Value) (K : Value → WT) : s26 d_0 K = shal Tryd.prog Tryd.f26 .p a26 [d_0] K := by kernel_rfl
theorem c26 {d_0 : Value} {K : Value → WT} {w : World} (h : s26 d_0 K w) : CF Tryd.prog 26 [d_0] K w := shal_sound Tryd.func26 (e26 d_0 K ▸ h)

/-- (*aumbry/disk.Disk).powered -/
def a27 : Ann := .seq (.z) (.seq (.blk (.seq (.z) (.cond (.seq (.z) (.z)) (.seq (.z) (.cond (.seq (.z) (.z)) (.join [13] (.z) (.cond (.seq (.z) (.z)) (.z)))))))) (.seq (.z) (.z)))
def s27 (d_0 i_1 : Value) (K : Value → WT) : WT :=
  S.eqv Tryd.prog .eql 24 true d_0 (.pointer none) fun v7 =>
  S.cond v7 (
    K (I 1)) (
    S.nc d_0 fun v10 =>
    S.fad v10 3 fun v11 =>
    S.ld v11 fun v12 =>
    S.cond v12 (
      K (I 7)) (
      S.join 1 (fun K0 =>
        S.bin .lss i_1 (I 0) fun v15 =>
        S.gd v15 false (fun k => k i_1) fun v17 =>
        S.gd v15 false (fun k => k d_0) fun v18 =>
        S.gd v15 false (fun k => S.nc v18 k) fun v19 =>
        S.gd v15 false (fun k => S.fad v19 0 k) fun v20 =>
        S.gd v15 false (fun k => S.ld v20 k) fun v21 =>
        S.gd v15 false (fun k => S.len v21 k) fun v22 =>
        S.gd v15 false (fun k => S.bin .geq v17 v22 k) fun v23 =>
        S.pick v15 (B true) v23 fun v24 =>
        K0 v24)
      <| fun v13 => S.fa fun _ =>
      S.cond v13 (
        K (I 2)) (
        K (I 0))))
theorem e27 (d_0 i_1 : Value) (K : Value → WT) : s27 d_0 i_1 K = shal Tryd.prog Tryd.f27 .p a27 [d_0, i_1] K := by kernel_rfl
theorem c27 {d_0 i_1 : Value} {K : Value → WT} {w : World} (h : s27 d_0 i_1 K w) : CF Tryd.prog 27 [d_0, i_1] K w := shal_sound Tryd.func27 (e27 d_0 i_1 K ▸ h)

/-- slices.Clone[[]byte,byte] -/
def a28 : Ann := .seq (.z) (.seq (.seq (.z) (.cond (.seq (.z) (.z)) (.z))) (.seq (.z) (.z)))
def s28 (s_0 : Value) (K : Value → WT) : WT :=
  S.eqv Tryd.prog .eql 22 true s_0 (.slice none 0 0) fun v4 =>
  S.cond v4 (
    K (.slice none 0 0)) (
    V Tryd.prog (Instr.buildSlice 22 0 #[]) fun v5 =>
    V Tryd.prog (Builtin.append_ #[22, 22] 22 #[v5, s_0]) fun v7 =>
    K v7)
theorem e28 (s_0 : Value) (K : Value → WT) : s28 s_0 K = shal Tryd.prog Tryd.f28 .p a28 [s_0] K := by kernel_rfl
theorem c28 {s_0 : Value} {K : Value → WT} {w : World} (h : s28 s_0 K w) : CF Tryd.prog 28 [s_0] K w := shal_sound Tryd.func28 (e28 s_0 K ▸ h)

/-- aumbry/disk.whole -/
def a29 : Ann := .seq (.z) (.seq (.z) (.z))
def s29 (b_0 : Value) (K : Value → WT) : WT :=
  CF Tryd.prog 28 [b_0] fun v4 =>
  S.len b_0 fun v6 =>
  S.bin .sub (I 128) v6 fun v7 =>
  V Tryd.prog (Builtin.append_ #[22, 3] 22 #[v4, v7]) fun v8 =>
  K v8
theorem e29 (b_0 : Value) (K : Value → WT) : s29 b_0 K = shal Tryd.prog Tryd.f29 .p a29 [b_0] K := by kernel_rfl
theorem c29 {b_0 : Value} {K : Value → WT} {w : World} (h : s29 b_0 K w) : CF Tryd.prog 29 [b_0] K w := shal_sound Tryd.func29 (e29 b_0 K ▸ h)

/-- (*aumbry/slot.Cell).blank -/
def a30 : Ann := .seq (.z) (.seq (.seq (.z) (.blk (.loop [0, 6] (.seq (.z) (.seq (.cond (.z) (.z)) (.seq (.blk (.seq (.z) (.seq (.draw [0, 1, 2, 3, 4, 5, 6, 7, 8, 9, 10, 11, 12, 13, 14, 15]) (.seq (.z) (.cond (.seq (.z) (.z)) (.z)))))) (.z))))))) (.seq (.z) (.z)))
def s30 (c_0 : Value) (K : Value → WT) : WT :=
  S.loop 2 (fun K0 => fun c_0' v6 => S.fa fun _ =>
    S.bin .lss v6 (I 2) fun v7 =>
    S.cond v7 (
      S.dr <|
      S.nc c_0' fun v11 =>
      S.fad v11 0 fun v12 =>
      S.ld v12 fun v13 =>
      S.nc c_0' fun v15 =>
      S.fad v15 1 fun v16 =>
      S.ld v16 fun v17 =>
      S.bin .add v17 v6 fun v19 =>
      CF Tryd.prog 10 [v13, v19] fun v20 =>
      S.ext v20 0 fun v21 =>
      S.ext v20 1 fun v22 =>
      CF Tryd.prog 38 [v21, (.func (.func 39) #[] #[])] fun v24 =>
      S.cond v24 (
        K (B false)) (
        S.bin .add v6 (I 1) fun v25 =>
        K0 c_0' v25)) (
      K (B true)))
  [c_0, (I 0)]
theorem e30 (c_0 : Value) (K : Value → WT) : s30 c_0 K = shal Tryd.prog Tryd.f30 .p a30 [c_0] K := by kernel_rfl
theorem c30 {c_0 : Value} {K : Value → WT} {w : World} (h : s30 c_0 K w) : CF Tryd.prog 30 [c_0] K w := shal_sound Tryd.func30 (e30 c_0 K ▸ h)

/-- (*aumbry/disk.Disk).Dirty -/
def a31 : Ann := .seq (.z) (.seq (.seq (.z) (.cond (.seq (.z) (.z)) (.z))) (.seq (.z) (.z)))
def s31 (d_0 : Value) (K : Value → WT) : WT :=
  S.eqv Tryd.prog .eql 24 true d_0 (.pointer none) fun v4 =>
  S.cond v4 (
    K (.slice none 0 0)) (
    S.nc d_0 fun v6 =>
    S.fad v6 1 fun v7 =>
    S.ld v7 fun v8 =>
    CF Tryd.prog 41 [v8] fun v9 =>
    CF Tryd.prog 40 [v9] fun v10 =>
    K v10)
theorem e31 (d_0 : Value) (K : Value → WT) : s31 d_0 K = shal Tryd.prog Tryd.f31 .p a31 [d_0] K := by kernel_rfl
theorem c31 {d_0 : Value} {K : Value → WT} {w : World} (h : s31 d_0 K w) : CF Tryd.prog 31 [d_0] K w := shal_sound Tryd.func31 (e31 d_0 K ▸ h)

/-- aumbry/slot.read -/
def a32 : Ann := .seq (.z) (.seq (.join [0, 2, 15] (.z) (.cond (.seq (.z) (.z)) (.z))) (.seq (.z) (.seq (.z) (.seq (.join [2, 6, 45] (.z) (.cond (.seq (.z) (.z)) (.z))) (.seq (.z) (.z))))))
def s32 (b_0 : Value) (K : Value → WT) : WT :=
  S.box 57 (.agg #[(.int .i64 0), (.string ⟨#[]⟩)]) fun v2 =>
  S.join 3 (fun K0 =>
    S.len b_0 fun v8 =>
    S.bin .neq v8 (I 128) fun v9 =>
    S.gd v9 false (fun k => k b_0) fun v11 =>
    S.gd v9 false (fun k => S.ixS 1 v11 (I 8) k) fun v12 =>
    S.gd v9 false (fun k => S.ld v12 k) fun v13 =>
    S.gd v9 false (fun k => S.bin .gtr v13 (.int .u8 100) k) fun v14 =>
    S.pick v9 (B true) v14 fun v15 =>
    K0 b_0 v2 v15)
  <| fun b_0' v2' v15' => S.fa fun _ =>
  S.cond v15' (
    V Tryd.prog (Instr.build 57 #[]) fun v16 =>
    S.st 2 v2' v16 fun _ =>
    S.ldN 2 v2' fun v2'2 =>
    K v2'2) (
    CF Tryd.prog 42 [b_0', (I 0), (I 8)] fun v19 =>
    S.ext v19 0 fun v20 =>
    S.ext v19 1 fun v21 =>
    S.ext v19 2 fun v22 =>
    S.ixS 1 b_0' (I 8) fun v26 =>
    S.ld v26 fun v27 =>
    S.cvt .i64 v27 fun v28 =>
    S.bin .add (I 9) v28 fun v29 =>
    S.slc 1 b_0' (some (I 9)) (some v29) none fun v30 =>
    S.b2s v30 fun v31 =>
    V Tryd.prog (Instr.build 57 #[(0, v20), (1, v31)]) fun v32 =>
    S.box 57 (.agg #[(.int .i64 0), (.string ⟨#[]⟩)]) fun x_6 =>
    S.st 2 x_6 v32 fun _ =>
    S.join 3 (fun K1 =>
      S.bin .neq v22 (I 0) fun v34 =>
      S.gd v34 false (fun k => k v20) fun v36 =>
      S.gd v34 false (fun k => S.bin .eql v36 (I 0) k) fun v37 =>
      S.pick v34 (B true) v37 fun v38 =>
      S.gd v38 false (fun k => S.ldN 2 x_6 k) fun v40 =>
      S.gd v38 false (fun k => CF Tryd.prog 25 [v40] k) fun v41 =>
      S.gd v38 false (fun k => k b_0') fun v42 =>
      S.gd v38 false (fun k => CF Tryd.prog 43 [v41, v42] k) fun v43 =>
      S.gd v38 false (fun k => S.not1 v43 k) fun v44 =>
      S.pick v38 (B true) v44 fun v45 =>
      K1 v2' x_6 v45)
    <| fun v2'3 x_6' v45' => S.fa fun _ =>
    S.cond v45' (
      V Tryd.prog (Instr.build 57 #[]) fun v46 =>
      S.st 2 v2'3 v46 fun _ =>
      S.ldN 2 v2'3 fun v2'4 =>
      K v2'4) (
      S.ldN 2 x_6' fun v47 =>
      S.st 2 v2'3 v47 fun _ =>
      S.ldN 2 v2'3 fun v2'5 =>
      K v2'5))
theorem e32 (b_0 : Value) (K : Value → WT) : s32 b_0 K = shal Tryd.prog Tryd.f32 .p a32 [b_0] K := by kernel_rfl
theorem c32 {b_0 : Value} {K : Value → WT} {w : World} (h : s32 b_0 K w) : CF Tryd.prog 32 [b_0] K w := shal_sound Tryd.func32 (e32 b_0 K ▸ h)

/-- (*aumbry/disk.Disk).trips -/
def a33 : Ann := .seq (.z) (.seq (.seq (.z) (.seq (.z) (.cond (.seq (.z) (.seq (.z) (.z))) (.z)))) (.seq (.z) (.seq (.z) (.seq (.z) (.z)))))
def s33 (d_0 does_1 : Value) (K : Value → WT) : WT :=
  S.nc d_0 fun v6 =>
  S.fad v6 2 fun v7 =>
  S.ld v7 fun v8 =>
  S.bin .sub v8 (I 1) fun v9 =>
  S.nc d_0 fun v10 =>
  S.fad v10 2 fun v11 =>
  S.st 1 v11 v9 fun _ =>
  S.nc d_0 fun v13 =>
  S.fad v13 2 fun v14 =>
  S.ld v14 fun v15 =>
  S.bin .eql v15 (I 0) fun v16 =>
  S.cond v16 (
    S.nc d_0 fun v18 =>
    S.fad v18 3 fun v19 =>
    S.st 1 v19 (B true) fun _ =>
    K (I 7)) (
    S.nc d_0 fun v22 =>
    S.fad v22 2 fun v23 =>
    S.ld v23 fun v24 =>
    S.mx v24 (I 0) fun v25 =>
    S.nc d_0 fun v26 =>
    S.fad v26 2 fun v27 =>
    S.st 1 v27 v25 fun _ =>
    S.cvv Tryd.prog does_1 [] fun v29 =>
    K (I 0))
theorem e33 (d_0 does_1 : Value) (K : Value → WT) : s33 d_0 does_1 K = shal Tryd.prog Tryd.f33 .p a33 [d_0, does_1] K := by kernel_rfl
theorem c33 {d_0 does_1 : Value} {K : Value → WT} {w : World} (h : s33 d_0 does_1 K w) : CF Tryd.prog 33 [d_0, does_1] K w := shal_sound Tryd.func33 (e33 d_0 does_1 K ▸ h)

/-- (*aumbry/disk.Disk).Write$1 -/
def a34 : Ann := .draw [0, 1, 2, 3, 4, 5, 6]
def s34 (v0 v1 v2 : Value) (K : Value → WT) : WT :=
  S.dr <|
  S.ld v1 fun v3 =>
  S.nc v3 fun v4 =>
  S.fad v4 1 fun v5 =>
  S.ld v5 fun v6 =>
  S.ld v2 fun v7 =>
  S.ld v0 fun v8 =>
  U Tryd.prog (Instr.mapUpdate 50 v6 v7 v8) fun _ =>
  K (.tuple #[])
theorem e34 (v0 v1 v2 : Value) (K : Value → WT) : s34 v0 v1 v2 K = shal Tryd.prog Tryd.f34 .p a34 [v0, v1, v2] K := by kernel_rfl
theorem c34 {v0 v1 v2 : Value} {K : Value → WT} {w : World} (h : s34 v0 v1 v2 K w) : CF Tryd.prog 34 [v0, v1, v2] K w := shal_sound Tryd.func34 (e34 v0 v1 v2 K ▸ h)

/-- aumbry/octet.Fixed -/
def a35 : Ann := .seq (.z) (.seq (.blk (.join [0, 1, 8] (.z) (.cond (.seq (.z) (.z)) (.join [0, 1, 15] (.z) (.cond (.seq (.z) (.z)) (.z)))))) (.seq (.z) (.seq (.seq (.z) (.blk (.loop [0, 6, 7] (.seq (.seq (.z) (.cond (.z) (.z))) (.seq (.blk (.seq (.z) (.z))) (.z)))))) (.seq (.z) (.z)))))
def s35 (n_0 width_1 : Value) (K : Value → WT) : WT :=
  S.join 3 (fun K0 =>
    S.bin .lss width_1 (I 1) fun v10 =>
    S.gd v10 false (fun k => k width_1) fun v12 =>
    S.gd v10 false (fun k => S.bin .gtr v12 (I 8) k) fun v13 =>
    S.pick v10 (B true) v13 fun v14 =>
    K0 n_0 width_1 v14)
  <| fun n_0' width_1' v8 => S.fa fun _ =>
  S.cond v8 (
    K (.tuple #[(.slice none 0 0), (I 2)])) (
    S.join 3 (fun K1 =>
      CF Tryd.prog 44 [n_0'] fun v17 =>
      S.not1 v17 fun v18 =>
      S.gd v18 false (fun k => k width_1') fun v20 =>
      S.gd v18 false (fun k => S.bin .lss v20 (I 7) k) fun v21 =>
      S.gd v18 false (fun k => k v21) fun v22 =>
      S.gd v22 true (fun k => k n_0') fun v23 =>
      S.gd v22 true (fun k => k width_1') fun v24 =>
      S.gd v22 true (fun k => S.bin .mul (I 8) v24 k) fun v25 =>
      S.gd v22 true (fun k => S.sh .shr v23 v25 k) fun v26 =>
      S.gd v22 true (fun k => S.bin .gtr v26 (I 0) k) fun v27 =>
      S.gd v18 false (fun k => S.pick v22 v27 (B false) k) fun v28 =>
      S.pick v18 (B true) v28 fun v29 =>
      K1 n_0' width_1' v29)
    <| fun n_0'2 width_1'2 v15 => S.fa fun _ =>
    S.cond v15 (
      K (.tuple #[(.slice none 0 0), (I 6)])) (
      V Tryd.prog (Instr.makeSlice 22 width_1'2 width_1'2) fun v31 =>
      S.bin .sub width_1'2 (I 1) fun v33 =>
      S.loop 3 (fun K2 => fun n_0'3 out_6 i_7 => S.fa fun _ =>
        S.bin .geq i_7 (I 0) fun v35 =>
        S.cond v35 (
          S.cvt .u8 n_0'3 fun v41 =>
          S.ixS 1 out_6 i_7 fun v42 =>
          S.st 1 v42 v41 fun _ =>
          S.sh .shr n_0'3 (.int .u64 8) fun v44 =>
          S.bin .sub i_7 (I 1) fun v37 =>
          K2 v44 out_6 v37) (
          K (.tuple #[out_6, (I 0)])))
      [n_0'2, v31, v33]))
theorem e35 (n_0 width_1 : Value) (K : Value → WT) : s35 n_0 width_1 K = shal Tryd.prog Tryd.f35 .p a35 [n_0, width_1] K := by kernel_rfl
theorem c35 {n_0 width_1 : Value} {K : Value → WT} {w : World} (h : s35 n_0 width_1 K w) : CF Tryd.prog 35 [n_0, width_1] K w := shal_sound Tryd.func35 (e35 n_0 width_1 K ▸ h)

/-- aumbry/digest.Crc -/
def a36 : Ann := .seq (.z) (.seq (.z) (.z))
def s36 (p_0 : Value) (K : Value → WT) : WT :=
  CF Tryd.prog 45 [(.int .u32 0), p_0] fun v4 =>
  K v4
theorem e36 (p_0 : Value) (K : Value → WT) : s36 p_0 K = shal Tryd.prog Tryd.f36 .p a36 [p_0] K := by kernel_rfl
theorem c36 {p_0 : Value} {K : Value → WT} {w : World} (h : s36 p_0 K w) : CF Tryd.prog 36 [p_0] K w := shal_sound Tryd.func36 (e36 p_0 K ▸ h)

/-- (*aumbry/disk.Disk).settle -/
def a37 : Ann := .seq (.z) (.blk (.loop [0, 9, 10, 11] (.seq (.z) (.seq (.cond (.z) (.z)) (.seq (.blk (.seq (.z) (.seq (.draw [0, 1, 2, 3, 4, 5, 6, 7, 8, 9, 10, 11, 12]) (.z)))) (.z))))))
def s37 (d_0 : Value) (K : Value → WT) : WT :=
  S.nc d_0 fun v5 =>
  S.fad v5 1 fun v6 =>
  S.ld v6 fun v7 =>
  CF Tryd.prog 41 [v7] fun v8 =>
  CF Tryd.prog 40 [v8] fun v9 =>
  S.len v9 fun v10 =>
  S.loop 4 (fun K0 => fun d_0' v9' v10' v11 => S.fa fun _ =>
    S.bin .lss v11 v10' fun v12 =>
    S.cond v12 (
      S.ixS 1 v9' v11 fun v13 =>
      S.ld v13 fun v14 =>
      S.dr <|
      S.nc d_0' fun v16 =>
      S.fad v16 0 fun v17 =>
      S.ld v17 fun v18 =>
      S.nc d_0' fun v21 =>
      S.fad v21 1 fun v22 =>
      S.ld v22 fun v23 =>
      S.lk (.int .i64) (.slice none 0 0) false v23 v14 fun v25 =>
      S.ixS 1 v18 v14 fun v26 =>
      S.st 1 v26 v25 fun _ =>
      S.nc d_0' fun v28 =>
      S.fad v28 1 fun v29 =>
      S.ld v29 fun v30 =>
      V Tryd.prog (Builtin.delete_ #[50, 3] 0 #[v30, v14]) fun _ =>
      S.bin .add v11 (I 1) fun v32 =>
      K0 d_0' v9' v10' v32) (
      K (.tuple #[])))
  [d_0, v9, v10, (I 0)]
theorem e37 (d_0 : Value) (K : Value → WT) : s37 d_0 K = shal Tryd.prog Tryd.f37 .p a37 [d_0] K := by kernel_rfl
theorem c37 {d_0 : Value} {K : Value → WT} {w : World} (h : s37 d_0 K w) : CF Tryd.prog 37 [d_0] K w := shal_sound Tryd.func37 (e37 d_0 K ▸ h)

/-- bytes.ContainsFunc -/
def a38 : Ann := .seq (.z) (.seq (.z) (.z))
def s38 (b_0 f_1 : Value) (K : Value → WT) : WT :=
  CF Tryd.prog 46 [b_0, f_1] fun v7 =>
  S.bin .geq v7 (I 0) fun v8 =>
  K v8
theorem e38 (b_0 f_1 : Value) (K : Value → WT) : s38 b_0 f_1 K = shal Tryd.prog Tryd.f38 .p a38 [b_0, f_1] K := by kernel_rfl
theorem c38 {b_0 f_1 : Value} {K : Value → WT} {w : World} (h : s38 b_0 f_1 K w) : CF Tryd.prog 38 [b_0, f_1] K w := shal_sound Tryd.func38 (e38 b_0 f_1 K ▸ h)

/-- (*aumbry/slot.Cell).blank$1 -/
def a39 : Ann := .seq (.z) (.seq (.z) (.z))
def s39 (r_0 : Value) (K : Value → WT) : WT :=
  S.bin .neq r_0 (.int .i32 0) fun v4 =>
  K v4
theorem e39 (r_0 : Value) (K : Value → WT) : s39 r_0 K = shal Tryd.prog Tryd.f39 .p a39 [r_0] K := by kernel_rfl
theorem c39 {r_0 : Value} {K : Value → WT} {w : World} (h : s39 r_0 K w) : CF Tryd.prog 39 [r_0] K w := shal_sound Tryd.func39 (e39 r_0 K ▸ h)

/-- slices.Sorted[int] -/
def a40 : Ann := .seq (.z) (.seq (.z) (.seq (.z) (.seq (.z) (.z))))
def s40 (seq_0 : Value) (K : Value → WT) : WT :=
  CF Tryd.prog 47 [seq_0] fun v5 =>
  CF Tryd.prog 48 [v5] fun v7 =>
  K v5
theorem e40 (seq_0 : Value) (K : Value → WT) : s40 seq_0 K = shal Tryd.prog Tryd.f40 .p a40 [seq_0] K := by kernel_rfl
theorem c40 {seq_0 : Value} {K : Value → WT} {w : World} (h : s40 seq_0 K w) : CF Tryd.prog 40 [seq_0] K w := shal_sound Tryd.func40 (e40 seq_0 K ▸ h)

/-- maps.Keys[map[int][]byte,int,[]byte] -/
def a41 : Ann := .seq (.z) (.seq (.z) (.z))
def s41 (m_0 : Value) (K : Value → WT) : WT :=
  S.box 50 m_0 fun m_1 =>
  K (.func (Go.Fn.func 49) #[] #[m_1])
theorem e41 (m_0 : Value) (K : Value → WT) : s41 m_0 K = shal Tryd.prog Tryd.f41 .p a41 [m_0] K := by kernel_rfl
theorem c41 {m_0 : Value} {K : Value → WT} {w : World} (h : s41 m_0 K w) : CF Tryd.prog 41 [m_0] K w := shal_sound Tryd.func41 (e41 m_0 K ▸ h)

/-- aumbry/octet.TakeFixed -/
def a42 : Ann := .seq (.z) (.seq (.blk (.join [0, 1, 2, 12] (.z) (.cond (.seq (.z) (.z)) (.seq (.z) (.cond (.seq (.z) (.z)) (.z)))))) (.seq (.z) (.seq (.seq (.z) (.blk (.loop [1, 2, 9, 41, 42, 43] (.seq (.z) (.seq (.cond (.z) (.z)) (.seq (.blk (.seq (.z) (.z))) (.z))))))) (.seq (.seq (.z) (.cond (.seq (.z) (.z)) (.z))) (.seq (.z) (.z))))))
def s42 (b_0 at_1 width_2 : Value) (K : Value → WT) : WT :=
  S.join 4 (fun K0 =>
    S.bin .lss width_2 (I 1) fun v14 =>
    S.gd v14 false (fun k => k width_2) fun v16 =>
    S.gd v14 false (fun k => S.bin .gtr v16 (I 8) k) fun v17 =>
    S.pick v14 (B true) v17 fun v18 =>
    S.gd v18 false (fun k => k at_1) fun v20 =>
    S.gd v18 false (fun k => S.bin .lss v20 (I 0) k) fun v21 =>
    S.pick v18 (B true) v21 fun v22 =>
    S.gd v22 false (fun k => k at_1) fun v24 =>
    S.gd v22 false (fun k => k b_0) fun v25 =>
    S.gd v22 false (fun k => S.len v25 k) fun v26 =>
    S.gd v22 false (fun k => S.bin .gtr v24 v26 k) fun v27 =>
    S.pick v22 (B true) v27 fun v28 =>
    K0 b_0 at_1 width_2 v28)
  <| fun b_0' at_1' width_2' v12 => S.fa fun _ =>
  S.cond v12 (
    K (.tuple #[(I 0), (I 0), (I 2)])) (
    S.len b_0' fun v31 =>
    S.bin .sub v31 at_1' fun v33 =>
    S.bin .lss v33 width_2' fun v35 =>
    S.cond v35 (
      K (.tuple #[(I 0), (I 0), (I 3)])) (
      S.bin .add at_1' width_2' fun v40 =>
      S.slc 1 b_0' (some at_1') (some v40) none fun v41 =>
      S.len v41 fun v42 =>
      S.loop 6 (fun K1 => fun at_1'2 width_2'2 n_9 v41' v42' v43 => S.fa fun _ =>
        S.bin .lss v43 v42' fun v44 =>
        S.cond v44 (
          S.ixS 1 v41' v43 fun v45 =>
          S.ld v45 fun v46 =>
          S.sh .shl n_9 (.int .u64 8) fun v48 =>
          S.cvt .u64 v46 fun v50 =>
          S.bin .or v48 v50 fun v51 =>
          S.bin .add v43 (I 1) fun v52 =>
          K1 at_1'2 width_2'2 v51 v41' v42' v52) (
          S.bin .gtr n_9 (.int .u64 9007199254740991) fun v54 =>
          S.cond v54 (
            K (.tuple #[(I 0), (I 0), (I 6)])) (
            S.cvt .i64 n_9 fun v56 =>
            S.bin .add at_1'2 width_2'2 fun v59 =>
            K (.tuple #[v56, v59, (I 0)]))))
      [at_1', width_2', (.int .u64 0), v41, v42, (I 0)]))
theorem e42 (b_0 at_1 width_2 : Value) (K : Value → WT) : s42 b_0 at_1 width_2 K = shal Tryd.prog Tryd.f42 .p a42 [b_0, at_1, width_2] K := by kernel_rfl
theorem c42 {b_0 at_1 width_2 : Value} {K : Value → WT} {w : World} (h : s42 b_0 at_1 width_2 K w) : CF Tryd.prog 42 [b_0, at_1, width_2] K w := shal_sound Tryd.func42 (e42 b_0 at_1 width_2 K ▸ h)

/-- bytes.Equal -/
def a43 : Ann := .seq (.z) (.seq (.z) (.z))
def s43 (a_0 b_1 : Value) (K : Value → WT) : WT :=
  S.b2s a_0 fun v6 =>
  S.b2s b_1 fun v8 =>
  S.sbin .eql v6 v8 fun v9 =>
  K v9
theorem e43 (a_0 b_1 : Value) (K : Value → WT) : s43 a_0 b_1 K = shal Tryd.prog Tryd.f43 .p a43 [a_0, b_1] K := by kernel_rfl
theorem c43 {a_0 b_1 : Value} {K : Value → WT} {w : World} (h : s43 a_0 b_1 K w) : CF Tryd.prog 43 [a_0, b_1] K w := shal_sound Tryd.func43 (e43 a_0 b_1 K ▸ h)

/-- aumbry/octet.number -/
def a44 : Ann := .seq (.z) (.seq (.z) (.z))
def s44 (n_0 : Value) (K : Value → WT) : WT :=
  S.bin .geq n_0 (I 0) fun v4 =>
  S.gd v4 true (fun k => k n_0) fun v6 =>
  S.gd v4 true (fun k => S.bin .leq v6 (I 9007199254740991) k) fun v7 =>
  S.pick v4 v7 (B false) fun v8 =>
  K v8
theorem e44 (n_0 : Value) (K : Value → WT) : s44 n_0 K = shal Tryd.prog Tryd.f44 .p a44 [n_0] K := by kernel_rfl
theorem c44 {n_0 : Value} {K : Value → WT} {w : World} (h : s44 n_0 K w) : CF Tryd.prog 44 [n_0] K w := shal_sound Tryd.func44 (e44 n_0 K ▸ h)

/-- aumbry/digest.CrcMore -/
def a45 : Ann := .seq (.z) (.seq (.z) (.seq (.seq (.z) (.blk (.loop [5, 11, 12, 13] (.seq (.z) (.seq (.cond (.z) (.z)) (.seq (.blk (.seq (.z) (.seq (.z) (.seq (.z) (.blk (.loop [5, 11, 12, 13, 21] (.seq (.z) (.seq (.cond (.z) (.z)) (.seq (.blk (.seq (.z) (.seq (.z) (.z)))) (.z)))))))))) (.z))))))) (.seq (.z) (.z))))
def s45 (sum_0 p_1 : Value) (K : Value → WT) : WT :=
  S.com1 sum_0 fun v10 =>
  S.len p_1 fun v12 =>
  S.loop 4 (fun K0 => fun r_5 v11 v12' v13 => S.fa fun _ =>
    S.bin .lss v13 v12' fun v14 =>
    S.cond v14 (
      S.ixS 1 v11 v13 fun v15 =>
      S.ld v15 fun v16 =>
      S.cvt .u32 v16 fun v19 =>
      S.bin .xor r_5 v19 fun v20 =>
      S.loop 5 (fun K1 => fun r_5' v11' v12'2 v13' v21 => S.fa fun _ =>
        S.bin .lss v21 (I 8) fun v22 =>
        S.cond v22 (
          S.bin .and r_5' (.int .u32 1) fun v24 =>
          S.sh .shr r_5' (.int .u64 1) fun v26 =>
          S.neg1 v24 fun v29 =>
          S.bin .and (.int .u32 2197175160) v29 fun v30 =>
          S.bin .xor v26 v30 fun v31 =>
          S.bin .add v21 (I 1) fun v32 =>
          K1 v31 v11' v12'2 v13' v32) (
          S.bin .add v13' (I 1) fun v33 =>
          K0 r_5' v11' v12'2 v33))
      [v20, v11, v12', v13, (I 0)]) (
      S.com1 r_5 fun v35 =>
      K v35))
  [v10, p_1, v12, (I 0)]
theorem e45 (sum_0 p_1 : Value) (K : Value → WT) : s45 sum_0 p_1 K = shal Tryd.prog Tryd.f45 .p a45 [sum_0, p_1] K := by kernel_rfl
theorem c45 {sum_0 p_1 : Value} {K : Value → WT} {w : World} (h : s45 sum_0 p_1 K w) : CF Tryd.prog 45 [sum_0, p_1] K w := shal_sound Tryd.func45 (e45 sum_0 p_1 K ▸ h)

/-- bytes.IndexFunc -/
def a46 : Ann := .seq (.z) (.seq (.z) (.z))
def s46 (s_0 f_1 : Value) (K : Value → WT) : WT :=
  CF Tryd.prog 50 [s_0, f_1, (B true)] fun v7 =>
  K v7
theorem e46 (s_0 f_1 : Value) (K : Value → WT) : s46 s_0 f_1 K = shal Tryd.prog Tryd.f46 .p a46 [s_0, f_1] K := by kernel_rfl
theorem c46 {s_0 f_1 : Value} {K : Value → WT} {w : World} (h : s46 s_0 f_1 K w) : CF Tryd.prog 46 [s_0, f_1] K w := shal_sound Tryd.func46 (e46 s_0 f_1 K ▸ h)

/-- slices.Collect[int] -/
def a47 : Ann := .seq (.z) (.seq (.z) (.z))
def s47 (seq_0 : Value) (K : Value → WT) : WT :=
  CF Tryd.prog 51 [(.slice none 0 0), seq_0] fun v4 =>
  K v4
theorem e47 (seq_0 : Value) (K : Value → WT) : s47 seq_0 K = shal Tryd.prog Tryd.f47 .p a47 [seq_0] K := by kernel_rfl
theorem c47 {seq_0 : Value} {K : Value → WT} {w : World} (h : s47 seq_0 K w) : CF Tryd.prog 47 [seq_0] K w := shal_sound Tryd.func47 (e47 seq_0 K ▸ h)

/-- slices.Sort[[]int,int] -/
def a48 : Ann := .seq (.z) (.z)
def s48 (x_0 : Value) (K : Value → WT) : WT :=
  S.len x_0 fun v4 =>
  S.cvt .u64 v4 fun v8 =>
  CF Tryd.prog 53 [v8] fun v9 =>
  CF Tryd.prog 52 [x_0, (I 0), v4, v9] fun v10 =>
  K (.tuple #[])
theorem e48 (x_0 : Value) (K : Value → WT) : s48 x_0 K = shal Tryd.prog Tryd.f48 .p a48 [x_0] K := by kernel_rfl
theorem c48 {x_0 : Value} {K : Value → WT} {w : World} (h : s48 x_0 K w) : CF Tryd.prog 48 [x_0] K w := shal_sound Tryd.func48 (e48 x_0 K ▸ h)

/-- maps.Keys[map[int][]byte,int,[]byte]$1 -/
def a49 : Ann := .seq (.z) (.blk (.loop [0, 5] (.seq (.z) (.seq (.cond (.z) (.z)) (.blk (.seq (.z) (.seq (.z) (.cond (.z) (.z)))))))))
def s49 (yield_0 v1 : Value) (K : Value → WT) : WT :=
  S.ld v1 fun v4 =>
  V Tryd.prog (Instr.range 50 v4) fun v5 =>
  S.loop 2 (fun K0 => fun yield_0' v5' => S.fa fun _ =>
    V Tryd.prog (Instr.next v5' false 0) fun v6 =>
    S.ext v6 0 fun v7 =>
    S.cond v7 (
      V Tryd.prog (Instr.entry v5') fun v8 =>
      S.ext v8 0 fun v9 =>
      S.cvv Tryd.prog yield_0' [v9] fun v12 =>
      S.not1 v12 fun v13 =>
      S.cond v13 (
        K (.tuple #[])) (
        K0 yield_0' v5')) (
      K (.tuple #[])))
  [yield_0, v5]
theorem e49 (yield_0 v1 : Value) (K : Value → WT) : s49 yield_0 v1 K = shal Tryd.prog Tryd.f49 .p a49 [yield_0, v1] K := by kernel_rfl
theorem c49 {yield_0 v1 : Value} {K : Value → WT} {w : World} (h : s49 yield_0 v1 K w) : CF Tryd.prog 49 [yield_0, v1] K w := shal_sound Tryd.func49 (e49 yield_0 v1 K ▸ h)

/-- bytes.indexFunc -/
def a50 : Ann := .seq (.z) (.seq (.z) (.seq (.blk (.loop [0, 1, 2, 7] (.seq (.seq (.z) (.cond (.z) (.z))) (.blk (.seq (.z) (.seq (.seq (.z) (.cond (.seq (.z) (.z)) (.z))) (.z))))))) (.seq (.z) (.z))))
def s50 (s_0 f_1 truth_2 : Value) (K : Value → WT) : WT :=
  S.loop 4 (fun K0 => fun s_0' f_1' truth_2' start_7 => S.fa fun _ =>
    S.len s_0' fun v12 =>
    S.bin .lss start_7 v12 fun v13 =>
    S.cond v13 (
      S.slc 1 s_0' (some start_7) none none fun v17 =>
      CF Tryd.prog 54 [v17] fun v18 =>
      S.ext v18 0 fun v19 =>
      S.ext v18 1 fun v20 =>
      S.cvv Tryd.prog f_1' [v19] fun v23 =>
      S.beq .eql v23 truth_2' fun v25 =>
      S.cond v25 (
        K start_7) (
        S.bin .add start_7 v20 fun v29 =>
        K0 s_0' f_1' truth_2' v29)) (
      K (I (-1))))
  [s_0, f_1, truth_2, (I 0)]
theorem e50 (s_0 f_1 truth_2 : Value) (K : Value → WT) : s50 s_0 f_1 truth_2 K = shal Tryd.prog Tryd.f50 .p a50 [s_0, f_1, truth_2] K := by kernel_rfl
theorem c50 {s_0 f_1 truth_2 : Value} {K : Value → WT} {w : World} (h : s50 s_0 f_1 truth_2 K w) : CF Tryd.prog 50 [s_0, f_1, truth_2] K w := shal_sound Tryd.func50 (e50 s_0 f_1 truth_2 K ▸ h)

/-- slices.AppendSeq[[]int,int] -/
def a51 : Ann := .seq (.z) (.seq (.seq (.z) (.blk (.rf [] (.z) (.blk (.z))))) (.seq (.z) (.z)))
def s51 (s_0 seq_1 : Value) (K : Value → WT) : WT :=
  S.box 64 s_0 fun s_2 =>
  S.rf Tryd.prog seq_1 undef 1 (fun l0 go0 Z0 => fun v7 =>
    go0 <|
    S.ld s_2 fun v8 =>
    V Tryd.prog (Instr.buildSlice 64 1 #[(0, v7)]) fun v10 =>
    V Tryd.prog (Builtin.append_ #[64, 64] 64 #[v8, v10]) fun v11 =>
    S.st 1 s_2 v11 fun _ =>
    Z0 .nrm)
    (fun m1 =>
    S.ld s_2 fun v12 =>
    S.done m1 <|
    K v12)
    (fun m2 =>
    S.done m2 <|
    K (.slice none 0 0))
  [
  ]
theorem e51 (s_0 seq_1 : Value) (K : Value → WT) : s51 s_0 seq_1 K = shal Tryd.prog Tryd.f51 .m a51 [s_0, seq_1] K := by kernel_rfl
theorem c51 {s_0 seq_1 : Value} {K : Value → WT} {w : World} (h : s51 s_0 seq_1 K w) : CF Tryd.prog 51 [s_0, seq_1] K w := shal_sound Tryd.func51 (e51 s_0 seq_1 K ▸ h)

/-- unicode/utf8.DecodeRune -/
def a54 : Ann := .seq (.z) (.join [0] (.seq (.z) (.blk (.loop [0, 6, 7, 8] (.seq (.z) (.seq (.cond (.z) (.z)) (.seq (.blk (.seq (.z) (.seq (.seq (.z) (.cond (.seq (.z) (.z)) (.z))) (.z)))) (.z))))))) (.seq (.z) (.z)))
def s54 (p_0 : Value) (K : Value → WT) : WT :=
  S.join 1 (fun K0 =>
    S.len p_0 fun v7 =>
    S.loop 4 (fun K1 => fun p_0' v6 v7' v8 => S.fa fun _ =>
      S.bin .lss v8 v7' fun v9 =>
      S.cond v9 (
        S.ixS 1 v6 v8 fun v10 =>
        S.ld v10 fun v11 =>
        S.bin .lss v11 (.int .u8 128) fun v13 =>
        S.cond v13 (
          S.cvt .i32 v11 fun v15 =>
          K (.tuple #[v15, (I 1)])) (
          K0 p_0')) (
        K0 p_0'))
    [p_0, p_0, v7, (I 0)])
  <| fun p_0'2 => S.fa fun _ =>
  CF Tryd.prog 66 [p_0'2] fun v19 =>
  S.ext v19 0 fun v20 =>
  S.ext v19 1 fun v21 =>
  K (.tuple #[v20, v21])
theorem e54 (p_0 : Value) (K : Value → WT) : s54 p_0 K = shal Tryd.prog Tryd.f54 .p a54 [p_0] K := by kernel_rfl
theorem c54 {p_0 : Value} {K : Value → WT} {w : World} (h : s54 p_0 K w) : CF Tryd.prog 54 [p_0] K w := shal_sound Tryd.func54 (e54 p_0 K ▸ h)

end Go.Proofs.YtmbfmkiagdhcoaaDoor.Sh
