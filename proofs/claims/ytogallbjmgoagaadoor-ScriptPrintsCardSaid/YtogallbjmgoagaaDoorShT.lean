/- The shallow forms of functions, printed by shal.py. -/
import Derived.Test.YtogallbjmgoagaaDoorSlA
import Derived.Test.YtogallbjmgoagaaDoorProg
import Derived.KernelRfl
namespace Go.Proofs.YtogallbjmgoagaaDoor.Sh
open Go Go.SL Go.Proofs
set_option linter.unusedVariables false
set_option maxRecDepth 100000
/-- aumbry/aumbrylaw20.ScriptParses -/
def a3 : Ann := .seq (.z) (.join [0] (.seq (.z) (.cond (.z) (.z))) (.seq (.z) (.seq (.z) (.seq (.z) (.z)))))
def s3 [Amb] (s_0 : Value) (K : Value → WT) : WT :=
  S.join 1 (fun K0 =>
    S.lenS s_0 fun v8 =>
    S.bin .gtr v8 (I 3000) fun v9 =>
    S.cond v9 (
      S.slcS s_0 none (some (I 3000)) fun v11 =>
      K0 v11) (
      K0 s_0))
  <| fun s_0' => S.fa fun _ =>
  CF Tryd.prog 7 [s_0'] fun v14 =>
  S.ext v14 0 fun v15 =>
  S.ext v14 1 fun v16 =>
  S.box 30 (.agg #[(.int .i64 0), (.int .i64 0), (.string ⟨#[]⟩), (.string ⟨#[]⟩), (.int .i64 0), (.int .i64 0), (.int .i64 0), (.slice none 0 0), (.int .i64 0), (.int .i64 0), (.int .i64 0), (.int .i64 0), (.slice none 0 0), (.int .i64 0), (.int .i64 0)]) fun a_3 =>
  S.st 15 a_3 v15 fun _ =>
  CF Tryd.prog 8 [s_0'] fun v19 =>
  S.ext v19 0 fun v20 =>
  S.ext v19 1 fun v21 =>
  S.box 30 (.agg #[(.int .i64 0), (.int .i64 0), (.string ⟨#[]⟩), (.string ⟨#[]⟩), (.int .i64 0), (.int .i64 0), (.int .i64 0), (.slice none 0 0), (.int .i64 0), (.int .i64 0), (.int .i64 0), (.int .i64 0), (.slice none 0 0), (.int .i64 0), (.int .i64 0)]) fun b_5 =>
  S.st 15 b_5 v20 fun _ =>
  CF Tryd.prog 9 [] fun v22 =>
  S.gd v22 true (fun k => S.ldN 15 a_3 k) fun v24 =>
  S.gd v22 true (fun k => S.ldN 15 b_5 k) fun v25 =>
  S.gd v22 true (fun k => CF Tryd.prog 10 [v24, v25] k) fun v26 =>
  S.pick v22 v26 (B false) fun v27 =>
  S.gd v27 true (fun k => k v16) fun v29 =>
  S.gd v27 true (fun k => k v21) fun v30 =>
  S.gd v27 true (fun k => S.bin .eql v29 v30 k) fun v31 =>
  S.pick v27 v31 (B false) fun v32 =>
  K v32
theorem e3 [Amb] (s_0 : Value) (K : Value → WT) : s3 s_0 K = shal Tryd.prog Tryd.f3 .p a3 [s_0] K := by kernel_rfl
theorem c3 [Amb] {s_0 : Value} {K : Value → WT} {w : World} (h : s3 s_0 K w) : CF Tryd.prog 3 [s_0] K w := shal_sound Tryd.func3 (e3 s_0 K ▸ h)

/-- aumbry/aumbrylaw20.ScriptPrints -/
def a4 : Ann := .seq (.z) (.seq (.join [1, 29] (.z) (.cond (.seq (.z) (.z)) (.z))) (.seq (.z) (.seq (.z) (.seq (.z) (.seq (.z) (.z))))))
def s4 [Amb] (v0 : Value) (K : Value → WT) : WT :=
  S.box 30 v0 fun v1 =>
  S.join 2 (fun K0 =>
    S.fad v1 7 fun v9 =>
    S.ld v9 fun v10 =>
    S.len v10 fun v11 =>
    S.bin .gtr v11 (I 2000) fun v12 =>
    S.gd v12 false (fun k => S.fad v1 2 k) fun v14 =>
    S.gd v12 false (fun k => S.ld v14 k) fun v15 =>
    S.gd v12 false (fun k => S.lenS v15 k) fun v16 =>
    S.gd v12 false (fun k => S.fad v1 3 k) fun v17 =>
    S.gd v12 false (fun k => S.ld v17 k) fun v18 =>
    S.gd v12 false (fun k => S.lenS v18 k) fun v19 =>
    S.gd v12 false (fun k => S.bin .add v16 v19 k) fun v20 =>
    S.gd v12 false (fun k => S.bin .gtr v20 (I 100) k) fun v21 =>
    S.pick v12 (B true) v21 fun v22 =>
    S.gd v22 false (fun k => S.fad v1 12 k) fun v24 =>
    S.gd v22 false (fun k => S.fad v24 0 k) fun v25 =>
    S.gd v22 false (fun k => S.ld v25 k) fun v26 =>
    S.gd v22 false (fun k => S.len v26 k) fun v27 =>
    S.gd v22 false (fun k => S.bin .gtr v27 (I 500) k) fun v28 =>
    S.pick v22 (B true) v28 fun v29 =>
    K0 v1 v29)
  <| fun v1' v29' => S.fa fun _ =>
  S.cond v29' (
    CF Tryd.prog 9 [] fun v30 =>
    K v30) (
    S.ldN 15 v1' fun v32 =>
    CF Tryd.prog 11 [v32] fun v33 =>
    S.ext v33 0 fun v34 =>
    S.ext v33 1 fun v35 =>
    S.ldN 15 v1' fun v37 =>
    CF Tryd.prog 12 [v37] fun v38 =>
    S.ext v38 0 fun v39 =>
    S.ext v38 1 fun v40 =>
    CF Tryd.prog 7 [v34] fun v43 =>
    S.ext v43 0 fun v44 =>
    S.ext v43 1 fun v45 =>
    S.box 30 (.agg #[(.int .i64 0), (.int .i64 0), (.string ⟨#[]⟩), (.string ⟨#[]⟩), (.int .i64 0), (.int .i64 0), (.int .i64 0), (.slice none 0 0), (.int .i64 0), (.int .i64 0), (.int .i64 0), (.int .i64 0), (.slice none 0 0), (.int .i64 0), (.int .i64 0)]) fun v7 =>
    S.st 15 v7 v44 fun _ =>
    CF Tryd.prog 9 [] fun v46 =>
    S.gd v46 true (fun k => k v34) fun v48 =>
    S.gd v46 true (fun k => k v39) fun v49 =>
    S.gd v46 true (fun k => S.sbin .eql v48 v49 k) fun v50 =>
    S.pick v46 v50 (B false) fun v51 =>
    S.gd v51 true (fun k => k v35) fun v53 =>
    S.gd v51 true (fun k => k v40) fun v54 =>
    S.gd v51 true (fun k => S.bin .eql v53 v54 k) fun v55 =>
    S.pick v51 v55 (B false) fun v56 =>
    S.gd v56 true (fun k => k v35) fun v58 =>
    S.gd v56 true (fun k => S.bin .neq v58 (I 0) k) fun v59 =>
    S.gd v56 true (fun k => k v59) fun v60 =>
    S.gd v60 false (fun k => k v45) fun v61 =>
    S.gd v60 false (fun k => S.bin .eql v61 (I 0) k) fun v62 =>
    S.gd v60 false (fun k => k v62) fun v63 =>
    S.gd v63 true (fun k => S.ldN 15 v7 k) fun v64 =>
    S.gd v63 true (fun k => S.ldN 15 v1' k) fun v65 =>
    S.gd v63 true (fun k => CF Tryd.prog 10 [v64, v65] k) fun v66 =>
    S.gd v60 false (fun k => S.pick v63 v66 (B false) k) fun v67 =>
    S.gd v56 true (fun k => S.pick v60 (B true) v67 k) fun v68 =>
    S.pick v56 v68 (B false) fun v69 =>
    K v69)
theorem e4 [Amb] (v0 : Value) (K : Value → WT) : s4 v0 K = shal Tryd.prog Tryd.f4 .p a4 [v0] K := by kernel_rfl
theorem c4 [Amb] {v0 : Value} {K : Value → WT} {w : World} (h : s4 v0 K w) : CF Tryd.prog 4 [v0] K w := shal_sound Tryd.func4 (e4 v0 K ▸ h)

/-- aumbry/aumbrylaw20.ScriptBack -/
def a5 : Ann := .seq (.z) (.join [0] (.seq (.z) (.cond (.z) (.z))) (.seq (.z) (.seq (.seq (.z) (.cond (.seq (.z) (.z)) (.z))) (.seq (.z) (.seq (.z) (.seq (.z) (.z)))))))
def s5 [Amb] (s_0 : Value) (K : Value → WT) : WT :=
  S.join 1 (fun K0 =>
    S.lenS s_0 fun v10 =>
    S.bin .gtr v10 (I 3000) fun v11 =>
    S.cond v11 (
      S.slcS s_0 none (some (I 3000)) fun v13 =>
      K0 v13) (
      K0 s_0))
  <| fun s_0' => S.fa fun _ =>
  CF Tryd.prog 7 [s_0'] fun v16 =>
  S.ext v16 0 fun v17 =>
  S.ext v16 1 fun v18 =>
  S.box 30 (.agg #[(.int .i64 0), (.int .i64 0), (.string ⟨#[]⟩), (.string ⟨#[]⟩), (.int .i64 0), (.int .i64 0), (.int .i64 0), (.slice none 0 0), (.int .i64 0), (.int .i64 0), (.int .i64 0), (.int .i64 0), (.slice none 0 0), (.int .i64 0), (.int .i64 0)]) fun o_3 =>
  S.st 15 o_3 v17 fun _ =>
  S.bin .neq v18 (I 0) fun v20 =>
  S.cond v20 (
    CF Tryd.prog 9 [] fun v21 =>
    S.gd v21 true (fun k => S.ldN 15 o_3 k) fun v23 =>
    S.gd v21 true (fun k => V Tryd.prog (Instr.build 30 #[]) k) fun v24 =>
    S.gd v21 true (fun k => CF Tryd.prog 10 [v23, v24] k) fun v25 =>
    S.pick v21 v25 (B false) fun v26 =>
    K v26) (
    S.ldN 15 o_3 fun v28 =>
    CF Tryd.prog 11 [v28] fun v29 =>
    S.ext v29 0 fun v30 =>
    S.ext v29 1 fun v31 =>
    CF Tryd.prog 7 [v30] fun v34 =>
    S.ext v34 0 fun v35 =>
    S.ext v34 1 fun v36 =>
    S.box 30 (.agg #[(.int .i64 0), (.int .i64 0), (.string ⟨#[]⟩), (.string ⟨#[]⟩), (.int .i64 0), (.int .i64 0), (.int .i64 0), (.slice none 0 0), (.int .i64 0), (.int .i64 0), (.int .i64 0), (.int .i64 0), (.slice none 0 0), (.int .i64 0), (.int .i64 0)]) fun p_7 =>
    S.st 15 p_7 v35 fun _ =>
    CF Tryd.prog 9 [] fun v37 =>
    S.gd v37 true (fun k => k v31) fun v39 =>
    S.gd v37 true (fun k => S.bin .eql v39 (I 0) k) fun v40 =>
    S.pick v37 v40 (B false) fun v41 =>
    S.gd v41 true (fun k => k v36) fun v43 =>
    S.gd v41 true (fun k => S.bin .eql v43 (I 0) k) fun v44 =>
    S.pick v41 v44 (B false) fun v45 =>
    S.gd v45 true (fun k => S.ldN 15 o_3 k) fun v47 =>
    S.gd v45 true (fun k => S.ldN 15 p_7 k) fun v48 =>
    S.gd v45 true (fun k => CF Tryd.prog 10 [v47, v48] k) fun v49 =>
    S.pick v45 v49 (B false) fun v50 =>
    K v50)
theorem e5 [Amb] (s_0 : Value) (K : Value → WT) : s5 s_0 K = shal Tryd.prog Tryd.f5 .p a5 [s_0] K := by kernel_rfl
theorem c5 [Amb] {s_0 : Value} {K : Value → WT} {w : World} (h : s5 s_0 K w) : CF Tryd.prog 5 [s_0] K w := shal_sound Tryd.func5 (e5 s_0 K ▸ h)

/-- aumbry/aumbrylaw20.ScriptTells -/
def a6 : Ann := .seq (.z) (.seq (.z) (.seq (.z) (.seq (.draw [0, 1, 2, 4, 3, 5, 6, 7, 8]) (.z))))
def s6 [Amb] (a_0 : Value) (K : Value → WT) : WT :=
  S.box 42 a_0 fun a_1 =>
  S.fad a_1 2 fun v3 =>
  S.ld v3 fun v4 =>
  S.fad a_1 2 fun v5 =>
  S.ld v5 fun v6 =>
  S.len v6 fun v7 =>
  S.mn v7 (I 2000) fun v8 =>
  S.slc 1 v4 none (some v8) none fun v9 =>
  S.fad a_1 2 fun v10 =>
  S.st 1 v10 v9 fun _ =>
  S.fad a_1 3 fun v11 =>
  S.ld v11 fun v12 =>
  S.fad a_1 3 fun v13 =>
  S.ld v13 fun v14 =>
  S.len v14 fun v15 =>
  S.mn v15 (I 100) fun v16 =>
  S.slc 2 v12 none (some v16) none fun v17 =>
  S.fad a_1 3 fun v18 =>
  S.st 1 v18 v17 fun _ =>
  S.dr <|
  CF Tryd.prog 9 [] fun v19 =>
  S.gd v19 true (fun k => S.ldN 4 a_1 k) fun v21 =>
  S.gd v19 true (fun k => S.ldN 4 a_1 k) fun v23 =>
  S.gd v19 true (fun k => CF Tryd.prog 13 [v21] k) fun v22 =>
  S.rck [S.gd v19 true (fun k => S.ldN 4 a_1 k) (fun v' _ => v' = v23)] <|
  S.gd v19 true (fun k => CF Tryd.prog 14 [v23] k) fun v24 =>
  S.gd v19 true (fun k => S.sbin .eql v22 v24 k) fun v25 =>
  S.pick v19 v25 (B false) fun v26 =>
  K v26
theorem e6 [Amb] (a_0 : Value) (K : Value → WT) : s6 a_0 K = shal Tryd.prog Tryd.f6 .p a6 [a_0] K := by kernel_rfl
theorem c6 [Amb] {a_0 : Value} {K : Value → WT} {w : World} (h : s6 a_0 K w) : CF Tryd.prog 6 [a_0] K w := shal_sound Tryd.func6 (e6 a_0 K ▸ h)

/-- aumbry/aumbryref20.Parse -/
def a8 : Ann := .seq (.z) (.seq (.z) (.seq (.z) (.seq (.z) (.seq (.seq (.z) (.blk (.loop [2, 4, 5, 6, 7] (.seq (.seq (.z) (.cond (.z) (.z))) (.join [2, 4, 5, 6, 7] (.blk (.seq (.draw [0, 1, 2, 3, 4, 5, 6, 7]) (.cond (.z) (.z)))) (.z)))))) (.seq (.seq (.z) (.cond (.seq (.z) (.z)) (.z))) (.seq (.draw [1, 2, 0, 3, 4, 5]) (.seq (.z) (.seq (.z) (.seq (.seq (.z) (.blk (.loop [2, 4, 5, 8, 9, 10] (.seq (.seq (.z) (.cond (.z) (.z))) (.seq (.blk (.seq (.z) (.join [2, 4, 5, 8, 9, 10, 11] (.seq (.z) (.blk (.seq (.z) (.cond (.seq (.z) (.z)) (.seq (.z) (.cond (.seq (.z) (.z)) (.seq (.seq (.z) (.cond (.seq (.z) (.z)) (.z))) (.seq (.z) (.seq (.z) (.seq (.z) (.cond (.seq (.z) (.seq (.z) (.z))) (.seq (.z) (.seq (.z) (.cond (.z) (.z))))))))))))))) (.seq (.z) (.cond (.seq (.z) (.z)) (.z)))))) (.z)))))) (.seq (.seq (.z) (.cond (.seq (.z) (.z)) (.z))) (.join [2, 5] (.seq (.z) (.blk (.join [2, 5, 9, 112, 113] (.seq (.z) (.cond (.z) (.z))) (.cond (.z) (.seq (.z) (.cond (.z) (.seq (.z) (.cond (.seq (.z) (.seq (.z) (.z))) (.seq (.z) (.cond (.draw [0, 1, 2, 3, 4, 5, 6, 7, 8, 9, 10, 11, 12, 13, 14]) (.z))))))))))) (.seq (.z) (.z)))))))))))))
def s8 [Amb] (v0 : Value) (K : Value → WT) : WT :=
  S.box 30 (.agg #[(.int .i64 0), (.int .i64 0), (.string ⟨#[]⟩), (.string ⟨#[]⟩), (.int .i64 0), (.int .i64 0), (.int .i64 0), (.slice none 0 0), (.int .i64 0), (.int .i64 0), (.int .i64 0), (.int .i64 0), (.slice none 0 0), (.int .i64 0), (.int .i64 0)]) fun v2 =>
  CF Tryd.prog 17 [v0] fun v16 =>
  V Tryd.prog (Instr.build 30 #[]) fun v17 =>
  S.box 30 (.agg #[(.int .i64 0), (.int .i64 0), (.string ⟨#[]⟩), (.string ⟨#[]⟩), (.int .i64 0), (.int .i64 0), (.int .i64 0), (.slice none 0 0), (.int .i64 0), (.int .i64 0), (.int .i64 0), (.int .i64 0), (.slice none 0 0), (.int .i64 0), (.int .i64 0)]) fun v5 =>
  S.st 15 v5 v17 fun _ =>
  CF Tryd.prog 18 [] fun v18 =>
  S.loop 5 (fun K0 => fun v2' v4 v5' v6 v7 => S.fa fun _ =>
    S.len v6 fun v21 =>
    S.bin .lss v7 v21 fun v22 =>
    S.cond v22 (
      S.join 5 (fun K1 =>
        S.dr <|
        S.ixS 1 v6 v7 fun v27 =>
        S.ld v27 fun v28 =>
        S.ixS 1 v4 (I 0) fun v30 =>
        S.ld v30 fun v31 =>
        S.sbin .eql v28 v31 fun v32 =>
        S.cond v32 (
          S.fad v5' 0 fun v34 =>
          S.st 1 v34 v7 fun _ =>
          K1 v2' v4 v5' v6 v7) (
          K1 v2' v4 v5' v6 v7))
      <| fun v2'2 v4' v5'2 v6' v7' => S.fa fun _ =>
      S.bin .add v7' (I 1) fun v24 =>
      K0 v2'2 v4' v5'2 v6' v24) (
      S.fad v5' 0 fun v35 =>
      S.ld v35 fun v36 =>
      S.bin .eql v36 (I 0) fun v37 =>
      S.cond v37 (
        V Tryd.prog (Instr.build 30 #[]) fun v38 =>
        S.st 15 v2' v38 fun _ =>
        S.ldN 15 v2' fun v2'3 =>
        K (.tuple #[v2'3, (I 4)])) (
        S.dr <|
        S.fad v5' 0 fun v40 =>
        S.ld v40 fun v41 =>
        CF Tryd.prog 19 [] fun v39 =>
        S.rck [S.ld v40 (fun v' _ => v' = v41)] <|
        S.ixS 1 v39 v41 fun v42 =>
        S.ld v42 fun v43 =>
        S.slc 1 v4 (some (I 1)) none none fun v45 =>
        V Tryd.prog (Instr.buildSlice 55 0 #[]) fun v46 =>
        S.loop 6 (fun K2 => fun v2'4 v4'2 v5'3 v8 v9 v10 => S.fa fun _ =>
          S.lenS v8 fun v49 =>
          S.bin .lss v10 v49 fun v50 =>
          S.cond v50 (
            S.join 7 (fun K3 =>
              S.chr v8 v10 fun v55 =>
              S.bin .eql v55 (.int .u8 107) fun v90 =>
              S.cond v90 (
                CF Tryd.prog 20 [v4'2] fun v93 =>
                S.ext v93 0 fun v94 =>
                S.ext v93 1 fun v95 =>
                S.fad v5'3 12 fun v96 =>
                S.st 3 v96 v94 fun _ =>
                K3 v2'4 (.slice none 0 0) v5'3 v8 v9 v10 v95) (
                S.bin .eql v55 (.int .u8 98) fun v98 =>
                S.cond v98 (
                  CF Tryd.prog 21 [v4'2] fun v101 =>
                  S.ext v101 0 fun v102 =>
                  S.ext v101 1 fun v103 =>
                  S.fad v5'3 7 fun v104 =>
                  S.st 1 v104 v102 fun _ =>
                  K3 v2'4 (.slice none 0 0) v5'3 v8 v9 v10 v103) (
                  S.len v4'2 fun v57 =>
                  S.bin .eql v57 (I 0) fun v58 =>
                  S.cond v58 (
                    V Tryd.prog (Instr.build 30 #[]) fun v59 =>
                    S.st 15 v2'4 v59 fun _ =>
                    S.ldN 15 v2'4 fun v2'5 =>
                    K (.tuple #[v2'5, (I 4)])) (
                    S.ixS 1 v4'2 (I 0) fun v61 =>
                    S.ld v61 fun v62 =>
                    S.slc 1 v4'2 (some (I 1)) none none fun v64 =>
                    S.chr v8 v10 fun v67 =>
                    S.bin .eql v67 (.int .u8 110) fun v68 =>
                    S.cond v68 (
                      CF Tryd.prog 22 [v62] fun v71 =>
                      S.ext v71 0 fun v72 =>
                      S.ext v71 1 fun v73 =>
                      V Tryd.prog (Instr.buildSlice 55 1 #[(0, v72)]) fun v76 =>
                      V Tryd.prog (Builtin.append_ #[55, 55] 55 #[v9, v76]) fun v77 =>
                      K3 v2'4 v64 v5'3 v8 v77 v10 v73) (
                      CF Tryd.prog 23 [v62] fun v80 =>
                      S.chr v8 v10 fun v83 =>
                      S.bin .eql v83 (.int .u8 97) fun v84 =>
                      S.cond v84 (
                        S.fad v5'3 2 fun v86 =>
                        S.st 1 v86 v62 fun _ =>
                        K3 v2'4 v64 v5'3 v8 v9 v10 v80) (
                        S.fad v5'3 3 fun v88 =>
                        S.st 1 v88 v62 fun _ =>
                        K3 v2'4 v64 v5'3 v8 v9 v10 v80))))))
            <| fun v2'6 v4'3 v5'4 v8' v9' v10' v11 => S.fa fun _ =>
            S.not1 v11 fun v106 =>
            S.cond v106 (
              V Tryd.prog (Instr.build 30 #[]) fun v107 =>
              S.st 15 v2'6 v107 fun _ =>
              S.ldN 15 v2'6 fun v2'7 =>
              K (.tuple #[v2'7, (I 4)])) (
              S.bin .add v10' (I 1) fun v52 =>
              K2 v2'6 v4'3 v5'4 v8' v9' v52)) (
            S.len v4'2 fun v109 =>
            S.bin .gtr v109 (I 0) fun v110 =>
            S.cond v110 (
              V Tryd.prog (Instr.build 30 #[]) fun v111 =>
              S.st 15 v2'4 v111 fun _ =>
              S.ldN 15 v2'4 fun v2'8 =>
              K (.tuple #[v2'8, (I 4)])) (
              S.join 2 (fun K4 =>
                S.join 5 (fun K5 =>
                  S.sbin .eql v8 (.string ⟨#[110]⟩) fun v114 =>
                  S.cond v114 (
                    K5 v2'4 v5'3 v9 v8 v114) (
                    S.sbin .eql v8 (.string ⟨#[110, 98]⟩) fun v115 =>
                    K5 v2'4 v5'3 v9 v8 v115))
                <| fun v2'9 v5'5 v9'2 v112 v113 => S.fa fun _ =>
                S.cond v113 (
                  S.ixS 1 v9'2 (I 0) fun v117 =>
                  S.ld v117 fun v118 =>
                  S.fad v5'5 1 fun v119 =>
                  S.st 1 v119 v118 fun _ =>
                  K4 v2'9 v5'5) (
                  S.sbin .eql v112 (.string ⟨#[97, 110]⟩) fun v121 =>
                  S.cond v121 (
                    S.ixS 1 v9'2 (I 0) fun v123 =>
                    S.ld v123 fun v124 =>
                    S.fad v5'5 4 fun v125 =>
                    S.st 1 v125 v124 fun _ =>
                    K4 v2'9 v5'5) (
                    S.sbin .eql v112 (.string ⟨#[97, 110, 110, 110]⟩) fun v127 =>
                    S.cond v127 (
                      S.ixS 1 v9'2 (I 0) fun v129 =>
                      S.ld v129 fun v130 =>
                      S.fad v5'5 4 fun v131 =>
                      S.st 1 v131 v130 fun _ =>
                      S.ixS 1 v9'2 (I 1) fun v133 =>
                      S.ld v133 fun v134 =>
                      S.fad v5'5 5 fun v135 =>
                      S.st 1 v135 v134 fun _ =>
                      S.ixS 1 v9'2 (I 2) fun v137 =>
                      S.ld v137 fun v138 =>
                      S.fad v5'5 6 fun v139 =>
                      S.st 1 v139 v138 fun _ =>
                      K4 v2'9 v5'5) (
                      S.sbin .eql v112 (.string ⟨#[110, 110, 110, 110]⟩) fun v141 =>
                      S.cond v141 (
                        S.dr <|
                        S.ixS 1 v9'2 (I 0) fun v143 =>
                        S.ld v143 fun v144 =>
                        S.ixS 1 v9'2 (I 1) fun v146 =>
                        S.ld v146 fun v147 =>
                        S.ixS 1 v9'2 (I 2) fun v149 =>
                        S.ld v149 fun v150 =>
                        S.ixS 1 v9'2 (I 3) fun v152 =>
                        S.ld v152 fun v153 =>
                        V Tryd.prog (Instr.build 25 #[(0, v144), (1, v147), (2, v150), (3, v153)]) fun v154 =>
                        S.fad v5'5 8 fun v155 =>
                        S.st 4 v155 v154 fun _ =>
                        K4 v2'9 v5'5) (
                        K4 v2'9 v5'5)))))
              <| fun v2'10 v5'6 => S.fa fun _ =>
              S.ldN 15 v5'6 fun v156 =>
              S.st 15 v2'10 v156 fun _ =>
              S.ldN 15 v2'10 fun v2'11 =>
              K (.tuple #[v2'11, (I 0)]))))
        [v2', v45, v5', v43, v46, (I 0)])))
  [v2, v16, v5, v18, (I 1)]
theorem e8 [Amb] (v0 : Value) (K : Value → WT) : s8 v0 K = shal Tryd.prog Tryd.f8 .p a8 [v0] K := by kernel_rfl
theorem c8 [Amb] {v0 : Value} {K : Value → WT} {w : World} (h : s8 v0 K w) : CF Tryd.prog 8 [v0] K w := shal_sound Tryd.func8 (e8 v0 K ▸ h)

/-- aumbry/aumbrylaw20.live -/
def a9 : Ann := .seq (.z) (.seq (.z) (.seq (.z) (.seq (.z) (.z))))
def s9 [Amb] (K : Value → WT) : WT :=
  CF Tryd.prog 7 [(.string ⟨#[119, 114, 105, 116, 101, 32, 51, 32, 61, 97, 32, 98]⟩)] fun v6 =>
  S.ext v6 0 fun v7 =>
  S.ext v6 1 fun v8 =>
  S.box 30 (.agg #[(.int .i64 0), (.int .i64 0), (.string ⟨#[]⟩), (.string ⟨#[]⟩), (.int .i64 0), (.int .i64 0), (.int .i64 0), (.slice none 0 0), (.int .i64 0), (.int .i64 0), (.int .i64 0), (.int .i64 0), (.slice none 0 0), (.int .i64 0), (.int .i64 0)]) fun o_1 =>
  S.st 15 o_1 v7 fun _ =>
  V Tryd.prog (Instr.build 30 #[(0, (I 13)), (1, (I 7))]) fun v10 =>
  CF Tryd.prog 11 [v10] fun v11 =>
  S.ext v11 0 fun v12 =>
  S.ext v11 1 fun v13 =>
  S.bin .eql v8 (I 0) fun v15 =>
  S.gd v15 true (fun k => S.fad o_1 0 k) fun v17 =>
  S.gd v15 true (fun k => S.ld v17 k) fun v18 =>
  S.gd v15 true (fun k => S.bin .eql v18 (I 2) k) fun v19 =>
  S.pick v15 v19 (B false) fun v20 =>
  S.gd v20 true (fun k => S.fad o_1 1 k) fun v22 =>
  S.gd v20 true (fun k => S.ld v22 k) fun v23 =>
  S.gd v20 true (fun k => S.bin .eql v23 (I 3) k) fun v24 =>
  S.pick v20 v24 (B false) fun v25 =>
  S.gd v25 true (fun k => S.fad o_1 7 k) fun v27 =>
  S.gd v25 true (fun k => S.ld v27 k) fun v28 =>
  S.gd v25 true (fun k => S.b2s v28 k) fun v29 =>
  S.gd v25 true (fun k => S.sbin .eql v29 (.string ⟨#[97, 32, 98]⟩) k) fun v30 =>
  S.pick v25 v30 (B false) fun v31 =>
  S.gd v31 true (fun k => k v12) fun v33 =>
  S.gd v31 true (fun k => S.sbin .eql v33 (.string ⟨#[116, 105, 99, 107, 32, 55]⟩) k) fun v34 =>
  S.pick v31 v34 (B false) fun v35 =>
  S.gd v35 true (fun k => k v13) fun v37 =>
  S.gd v35 true (fun k => S.bin .eql v37 (I 0) k) fun v38 =>
  S.pick v35 v38 (B false) fun v39 =>
  S.gd v39 true (fun k => V Tryd.prog (Instr.buildSlice 23 2 #[(0, (.int .u8 0)), (1, (.int .u8 0))]) k) fun v41 =>
  S.gd v39 true (fun k => V Tryd.prog (Instr.build 42 #[(2, v41)]) k) fun v42 =>
  S.gd v39 true (fun k => CF Tryd.prog 13 [v42] k) fun v43 =>
  S.gd v39 true (fun k => S.sbin .eql v43 (.string ⟨#[111, 107, 32, 120, 48, 48, 48, 48]⟩) k) fun v44 =>
  S.pick v39 v44 (B false) fun v45 =>
  K v45
theorem e9 [Amb] (K : Value → WT) : s9  K = shal Tryd.prog Tryd.f9 .p a9 [] K := by kernel_rfl
theorem c9 [Amb] {K : Value → WT} {w : World} (h : s9  K w) : CF Tryd.prog 9 [] K w := shal_sound Tryd.func9 (e9  K ▸ h)

/-- aumbry/aumbryref20.Same -/
def a10 : Ann := .seq (.z) (.seq (.join [2, 3, 97] (.z) (.cond (.seq (.z) (.z)) (.z))) (.seq (.seq (.z) (.blk (.loop [2, 3, 5] (.seq (.seq (.z) (.cond (.z) (.z))) (.seq (.blk (.seq (.draw [0, 1, 2, 3, 4, 5, 6, 7, 8, 9, 10, 11, 12]) (.cond (.seq (.z) (.z)) (.z)))) (.z)))))) (.seq (.z) (.z))))
def s10 [Amb] (v0 v1 : Value) (K : Value → WT) : WT :=
  S.box 30 v0 fun v2 =>
  S.box 30 v1 fun v3 =>
  S.join 3 (fun K0 =>
    S.fad v2 0 fun v6 =>
    S.ld v6 fun v7 =>
    S.fad v3 0 fun v8 =>
    S.ld v8 fun v9 =>
    S.bin .neq v7 v9 fun v10 =>
    S.gd v10 false (fun k => S.fad v2 1 k) fun v12 =>
    S.gd v10 false (fun k => S.ld v12 k) fun v13 =>
    S.gd v10 false (fun k => S.fad v3 1 k) fun v14 =>
    S.gd v10 false (fun k => S.ld v14 k) fun v15 =>
    S.gd v10 false (fun k => S.bin .neq v13 v15 k) fun v16 =>
    S.pick v10 (B true) v16 fun v17 =>
    S.gd v17 false (fun k => S.fad v2 2 k) fun v19 =>
    S.gd v17 false (fun k => S.ld v19 k) fun v20 =>
    S.gd v17 false (fun k => S.fad v3 2 k) fun v21 =>
    S.gd v17 false (fun k => S.ld v21 k) fun v22 =>
    S.gd v17 false (fun k => S.sbin .neq v20 v22 k) fun v23 =>
    S.pick v17 (B true) v23 fun v24 =>
    S.gd v24 false (fun k => S.fad v2 3 k) fun v26 =>
    S.gd v24 false (fun k => S.ld v26 k) fun v27 =>
    S.gd v24 false (fun k => S.fad v3 3 k) fun v28 =>
    S.gd v24 false (fun k => S.ld v28 k) fun v29 =>
    S.gd v24 false (fun k => S.sbin .neq v27 v29 k) fun v30 =>
    S.pick v24 (B true) v30 fun v31 =>
    S.gd v31 false (fun k => S.fad v2 4 k) fun v33 =>
    S.gd v31 false (fun k => S.ld v33 k) fun v34 =>
    S.gd v31 false (fun k => S.fad v3 4 k) fun v35 =>
    S.gd v31 false (fun k => S.ld v35 k) fun v36 =>
    S.gd v31 false (fun k => S.bin .neq v34 v36 k) fun v37 =>
    S.pick v31 (B true) v37 fun v38 =>
    S.gd v38 false (fun k => S.fad v2 5 k) fun v40 =>
    S.gd v38 false (fun k => S.ld v40 k) fun v41 =>
    S.gd v38 false (fun k => S.fad v3 5 k) fun v42 =>
    S.gd v38 false (fun k => S.ld v42 k) fun v43 =>
    S.gd v38 false (fun k => S.bin .neq v41 v43 k) fun v44 =>
    S.pick v38 (B true) v44 fun v45 =>
    S.gd v45 false (fun k => S.fad v2 6 k) fun v47 =>
    S.gd v45 false (fun k => S.ld v47 k) fun v48 =>
    S.gd v45 false (fun k => S.fad v3 6 k) fun v49 =>
    S.gd v45 false (fun k => S.ld v49 k) fun v50 =>
    S.gd v45 false (fun k => S.bin .neq v48 v50 k) fun v51 =>
    S.pick v45 (B true) v51 fun v52 =>
    S.gd v52 false (fun k => S.fad v2 7 k) fun v54 =>
    S.gd v52 false (fun k => S.ld v54 k) fun v55 =>
    S.gd v52 false (fun k => S.b2s v55 k) fun v56 =>
    S.gd v52 false (fun k => S.fad v3 7 k) fun v57 =>
    S.gd v52 false (fun k => S.ld v57 k) fun v58 =>
    S.gd v52 false (fun k => S.b2s v58 k) fun v59 =>
    S.gd v52 false (fun k => S.sbin .neq v56 v59 k) fun v60 =>
    S.pick v52 (B true) v60 fun v61 =>
    S.gd v61 false (fun k => S.fad v2 8 k) fun v63 =>
    S.gd v61 false (fun k => S.ldN 4 v63 k) fun v64 =>
    S.gd v61 false (fun k => S.fad v3 8 k) fun v65 =>
    S.gd v61 false (fun k => S.ldN 4 v65 k) fun v66 =>
    S.gd v61 false (fun k => S.eqv Tryd.prog .neq 25 false v64 v66 k) fun v67 =>
    S.pick v61 (B true) v67 fun v68 =>
    S.gd v68 false (fun k => S.fad v2 12 k) fun v70 =>
    S.gd v68 false (fun k => S.fad v70 1 k) fun v71 =>
    S.gd v68 false (fun k => S.ld v71 k) fun v72 =>
    S.gd v68 false (fun k => S.fad v3 12 k) fun v73 =>
    S.gd v68 false (fun k => S.fad v73 1 k) fun v74 =>
    S.gd v68 false (fun k => S.ld v74 k) fun v75 =>
    S.gd v68 false (fun k => S.bin .neq v72 v75 k) fun v76 =>
    S.pick v68 (B true) v76 fun v77 =>
    S.gd v77 false (fun k => S.fad v2 12 k) fun v79 =>
    S.gd v77 false (fun k => S.fad v79 2 k) fun v80 =>
    S.gd v77 false (fun k => S.ld v80 k) fun v81 =>
    S.gd v77 false (fun k => S.fad v3 12 k) fun v82 =>
    S.gd v77 false (fun k => S.fad v82 2 k) fun v83 =>
    S.gd v77 false (fun k => S.ld v83 k) fun v84 =>
    S.gd v77 false (fun k => S.bin .neq v81 v84 k) fun v85 =>
    S.pick v77 (B true) v85 fun v86 =>
    S.gd v86 false (fun k => S.fad v2 12 k) fun v88 =>
    S.gd v86 false (fun k => S.fad v88 0 k) fun v89 =>
    S.gd v86 false (fun k => S.ld v89 k) fun v90 =>
    S.gd v86 false (fun k => S.len v90 k) fun v91 =>
    S.gd v86 false (fun k => S.fad v3 12 k) fun v92 =>
    S.gd v86 false (fun k => S.fad v92 0 k) fun v93 =>
    S.gd v86 false (fun k => S.ld v93 k) fun v94 =>
    S.gd v86 false (fun k => S.len v94 k) fun v95 =>
    S.gd v86 false (fun k => S.bin .neq v91 v95 k) fun v96 =>
    S.pick v86 (B true) v96 fun v97 =>
    K0 v2 v3 v97)
  <| fun v2' v3' v97' => S.fa fun _ =>
  S.cond v97' (
    K (B false)) (
    S.loop 3 (fun K1 => fun v2'2 v3'2 v5 => S.fa fun _ =>
      S.fad v2'2 12 fun v99 =>
      S.fad v99 0 fun v100 =>
      S.ld v100 fun v101 =>
      S.len v101 fun v102 =>
      S.bin .lss v5 v102 fun v103 =>
      S.cond v103 (
        S.dr <|
        S.fad v2'2 12 fun v106 =>
        S.fad v106 0 fun v107 =>
        S.ld v107 fun v108 =>
        S.ixS 1 v108 v5 fun v110 =>
        S.ld v110 fun v111 =>
        S.fad v3'2 12 fun v112 =>
        S.fad v112 0 fun v113 =>
        S.ld v113 fun v114 =>
        S.ixS 1 v114 v5 fun v116 =>
        S.ld v116 fun v117 =>
        S.beq .neq v111 v117 fun v118 =>
        S.cond v118 (
          K (B false)) (
          S.bin .add v5 (I 1) fun v105 =>
          K1 v2'2 v3'2 v105)) (
        K (B true)))
    [v2', v3', (I 0)])
theorem e10 [Amb] (v0 v1 : Value) (K : Value → WT) : s10 v0 v1 K = shal Tryd.prog Tryd.f10 .p a10 [v0, v1] K := by kernel_rfl
theorem c10 [Amb] {v0 v1 : Value} {K : Value → WT} {w : World} (h : s10 v0 v1 K w) : CF Tryd.prog 10 [v0, v1] K w := shal_sound Tryd.func10 (e10 v0 v1 K ▸ h)

/-- aumbry/script.Print -/
def a11 : Ann := .seq (.z) (.seq (.join [1, 14] (.z) (.cond (.seq (.z) (.z)) (.z))) (.seq (.drawT 12 (.one 1 (.one 2 (.one 3 (.one 7 (.one 0 (.one 4 (.one 5 (.two 6 (.one 8 (.one 9 (.one 10 (.one 11 .nil)))) 8 (.one 6 (.one 9 (.one 10 (.one 11 .nil))))))))))))) (.seq (.seq (.z) (.join [4, 38] (.z) (.cond (.seq (.z) (.z)) (.z)))) (.seq (.z) (.z)))))
def s11 [Amb] (o_0 : Value) (K : Value → WT) : WT :=
  S.box 30 o_0 fun o_1 =>
  S.join 2 (fun K0 =>
    S.fad o_1 0 fun v7 =>
    S.ld v7 fun v8 =>
    S.bin .lss v8 (I 1) fun v9 =>
    S.gd v9 false (fun k => S.fad o_1 0 k) fun v11 =>
    S.gd v9 false (fun k => S.ld v11 k) fun v12 =>
    S.gd v9 false (fun k => S.bin .gtr v12 (I 21) k) fun v13 =>
    S.pick v9 (B true) v13 fun v14 =>
    K0 o_1 v14)
  <| fun o_1' v14' => S.fa fun _ =>
  S.cond v14' (
    K (.tuple #[(.string ⟨#[]⟩), (I 4)])) (
    S.dr <|
    S.fad o_1' 0 fun v16 =>
    S.ld v16 fun v17 =>
    S.bin .sub v17 (I 1) fun v18 =>
    S.ldN 15 o_1' fun v22 =>
    CF Tryd.prog 25 [] fun v15 =>
    S.rck [S.ldN 15 o_1' (fun v' _ => v' = v22), S.ld v16 (fun v' _ => v' = v17)] <|
    S.ixS 1 v15 v18 fun v19 =>
    S.ld v19 fun v20 =>
    S.both (
      V Tryd.prog (Instr.buildSlice 52 1 #[(0, v20)]) fun v21 =>
      S.rck [S.ldN 15 o_1' (fun v' _ => v' = v22)] <|
      CF Tryd.prog 26 [v22] fun v23 =>
      V Tryd.prog (Builtin.append_ #[52, 52] 52 #[v21, v23]) fun v24 =>
      CF Tryd.prog 24 [v24, (.string ⟨#[32]⟩)] fun v25 =>
      CF Tryd.prog 7 [v25] fun v28 =>
      S.ext v28 0 fun v29 =>
      S.ext v28 1 fun v30 =>
      S.box 30 (.agg #[(.int .i64 0), (.int .i64 0), (.string ⟨#[]⟩), (.string ⟨#[]⟩), (.int .i64 0), (.int .i64 0), (.int .i64 0), (.slice none 0 0), (.int .i64 0), (.int .i64 0), (.int .i64 0), (.int .i64 0), (.slice none 0 0), (.int .i64 0), (.int .i64 0)]) fun p_5 =>
      S.st 15 p_5 v29 fun _ =>
      S.join 2 (fun K1 =>
        S.bin .neq v30 (I 0) fun v32 =>
        S.gd v32 false (fun k => S.ldN 15 p_5 k) fun v34 =>
        S.gd v32 false (fun k => S.ldN 15 o_1' k) fun v35 =>
        S.gd v32 false (fun k => CF Tryd.prog 27 [v34, v35] k) fun v36 =>
        S.gd v32 false (fun k => S.not1 v36 k) fun v37 =>
        S.pick v32 (B true) v37 fun v38 =>
        K1 v25 v38)
      <| fun line_4 v38' => S.fa fun _ =>
      S.cond v38' (
        K (.tuple #[(.string ⟨#[]⟩), (I 4)])) (
        K (.tuple #[line_4, (I 0)]))) (
      CF Tryd.prog 26 [v22] fun v23' =>
      S.rck [S.ld v19 (fun v' _ => v' = v20), S.ld v16 (fun v' _ => v' = v17)] <|
      V Tryd.prog (Instr.buildSlice 52 1 #[(0, v20)]) fun v21' =>
      V Tryd.prog (Builtin.append_ #[52, 52] 52 #[v21', v23']) fun v24' =>
      CF Tryd.prog 24 [v24', (.string ⟨#[32]⟩)] fun v25' =>
      CF Tryd.prog 7 [v25'] fun v28' =>
      S.ext v28' 0 fun v29' =>
      S.ext v28' 1 fun v30' =>
      S.box 30 (.agg #[(.int .i64 0), (.int .i64 0), (.string ⟨#[]⟩), (.string ⟨#[]⟩), (.int .i64 0), (.int .i64 0), (.int .i64 0), (.slice none 0 0), (.int .i64 0), (.int .i64 0), (.int .i64 0), (.int .i64 0), (.slice none 0 0), (.int .i64 0), (.int .i64 0)]) fun p_5' =>
      S.st 15 p_5' v29' fun _ =>
      S.join 2 (fun K2 =>
        S.bin .neq v30' (I 0) fun v32' =>
        S.gd v32' false (fun k => S.ldN 15 p_5' k) fun v34' =>
        S.gd v32' false (fun k => S.ldN 15 o_1' k) fun v35' =>
        S.gd v32' false (fun k => CF Tryd.prog 27 [v34', v35'] k) fun v36' =>
        S.gd v32' false (fun k => S.not1 v36' k) fun v37' =>
        S.pick v32' (B true) v37' fun v38'2 =>
        K2 v25' v38'2)
      <| fun line_4' v38'3 => S.fa fun _ =>
      S.cond v38'3 (
        K (.tuple #[(.string ⟨#[]⟩), (I 4)])) (
        K (.tuple #[line_4', (I 0)]))))
theorem e11 [Amb] (o_0 : Value) (K : Value → WT) : s11 o_0 K = shal Tryd.prog Tryd.f11 .p a11 [o_0] K := by kernel_rfl
theorem c11 [Amb] {o_0 : Value} {K : Value → WT} {w : World} (h : s11 o_0 K w) : CF Tryd.prog 11 [o_0] K w := shal_sound Tryd.func11 (e11 o_0 K ▸ h)

/-- aumbry/aumbryref20.Print -/
def a12 : Ann := .seq (.z) (.seq (.join [1, 20] (.z) (.cond (.seq (.z) (.z)) (.z))) (.seq (.draw [1, 2, 0, 3, 4, 5]) (.seq (.draw [1, 2, 0, 3, 4, 5]) (.seq (.z) (.join [1, 4, 5, 6] (.seq (.z) (.blk (.seq (.z) (.cond (.z) (.seq (.z) (.cond (.z) (.seq (.z) (.cond (.z) (.z))))))))) (.seq (.z) (.seq (.seq (.z) (.blk (.loop [1, 4, 5, 6, 7, 8] (.seq (.seq (.z) (.cond (.z) (.z))) (.join [1, 4, 5, 6, 7, 8] (.blk (.seq (.z) (.blk (.seq (.z) (.cond (.seq (.z) (.z)) (.seq (.z) (.cond (.z) (.seq (.z) (.cond (.z) (.seq (.z) (.cond (.z) (.seq (.z) (.cond (.seq (.z) (.seq (.seq (.z) (.blk (.loop [1, 4, 5, 6, 7, 8, 9] (.seq (.seq (.z) (.cond (.z) (.z))) (.join [1, 4, 5, 6, 7, 8, 9] (.blk (.seq (.z) (.cond (.z) (.z)))) (.z)))))) (.seq (.z) (.join [1, 4, 5, 6, 7, 8, 10] (.seq (.z) (.cond (.z) (.z))) (.z))))) (.z)))))))))))))) (.z)))))) (.seq (.z) (.seq (.join [4, 159] (.z) (.cond (.seq (.z) (.z)) (.z))) (.seq (.z) (.z)))))))))))
def s12 [Amb] (v0 : Value) (K : Value → WT) : WT :=
  S.box 30 v0 fun v1 =>
  S.join 2 (fun K0 =>
    S.fad v1 0 fun v13 =>
    S.ld v13 fun v14 =>
    S.bin .lss v14 (I 1) fun v15 =>
    S.gd v15 false (fun k => S.fad v1 0 k) fun v17 =>
    S.gd v15 false (fun k => S.ld v17 k) fun v18 =>
    S.gd v15 false (fun k => S.bin .gtr v18 (I 21) k) fun v19 =>
    S.pick v15 (B true) v19 fun v20 =>
    K0 v1 v20)
  <| fun v1' v20' => S.fa fun _ =>
  S.cond v20' (
    K (.tuple #[(.string ⟨#[]⟩), (I 4)])) (
    S.dr <|
    S.fad v1' 0 fun v22 =>
    S.ld v22 fun v23 =>
    CF Tryd.prog 18 [] fun v21 =>
    S.rck [S.ld v22 (fun v' _ => v' = v23)] <|
    S.ixS 1 v21 v23 fun v24 =>
    S.ld v24 fun v25 =>
    S.dr <|
    S.fad v1' 0 fun v27 =>
    S.ld v27 fun v28 =>
    CF Tryd.prog 19 [] fun v26 =>
    S.rck [S.ld v27 (fun v' _ => v' = v28)] <|
    S.ixS 1 v26 v28 fun v29 =>
    S.ld v29 fun v30 =>
    S.fad v1' 1 fun v31 =>
    S.ld v31 fun v32 =>
    V Tryd.prog (Instr.buildSlice 55 1 #[(0, v32)]) fun v33 =>
    S.join 4 (fun K1 =>
      S.sbin .eql v30 (.string ⟨#[97, 110]⟩) fun v36 =>
      S.cond v36 (
        S.fad v1' 4 fun v37 =>
        S.ld v37 fun v38 =>
        V Tryd.prog (Instr.buildSlice 55 1 #[(0, v38)]) fun v39 =>
        K1 v1' v25 v30 v39) (
        S.sbin .eql v30 (.string ⟨#[97, 110, 110, 110]⟩) fun v41 =>
        S.cond v41 (
          S.fad v1' 4 fun v42 =>
          S.ld v42 fun v43 =>
          S.fad v1' 5 fun v44 =>
          S.ld v44 fun v45 =>
          S.fad v1' 6 fun v46 =>
          S.ld v46 fun v47 =>
          V Tryd.prog (Instr.buildSlice 55 3 #[(0, v43), (1, v45), (2, v47)]) fun v48 =>
          K1 v1' v25 v30 v48) (
          S.sbin .eql v30 (.string ⟨#[110, 110, 110, 110]⟩) fun v50 =>
          S.cond v50 (
            S.fad v1' 8 fun v51 =>
            S.fad v51 0 fun v52 =>
            S.ld v52 fun v53 =>
            S.fad v1' 8 fun v54 =>
            S.fad v54 1 fun v55 =>
            S.ld v55 fun v56 =>
            S.fad v1' 8 fun v57 =>
            S.fad v57 2 fun v58 =>
            S.ld v58 fun v59 =>
            S.fad v1' 8 fun v60 =>
            S.fad v60 3 fun v61 =>
            S.ld v61 fun v62 =>
            V Tryd.prog (Instr.buildSlice 55 4 #[(0, v53), (1, v56), (2, v59), (3, v62)]) fun v63 =>
            K1 v1' v25 v30 v63) (
            K1 v1' v25 v30 v33))))
    <| fun v1'2 v4 v5 v6 => S.fa fun _ =>
    S.loop 6 (fun K2 => fun v1'3 v4' v5' v6' v7 v8 => S.fa fun _ =>
      S.lenS v5' fun v66 =>
      S.bin .lss v8 v66 fun v67 =>
      S.cond v67 (
        S.join 6 (fun K3 =>
          S.chr v5' v8 fun v72 =>
          S.bin .eql v72 (.int .u8 110) fun v74 =>
          S.cond v74 (
            S.sbin .add v4' (.string ⟨#[32]⟩) fun v76 =>
            S.ixS 1 v6' v7 fun v79 =>
            S.ld v79 fun v80 =>
            CF Tryd.prog 28 [v80] fun v81 =>
            S.sbin .add v76 v81 fun v82 =>
            S.bin .add v7 (I 1) fun v84 =>
            K3 v1'3 v82 v5' v6' v84 v8) (
            S.bin .eql v72 (.int .u8 97) fun v86 =>
            S.cond v86 (
              S.sbin .add v4' (.string ⟨#[32]⟩) fun v88 =>
              S.fad v1'3 2 fun v89 =>
              S.ld v89 fun v90 =>
              S.sbin .add v88 v90 fun v91 =>
              K3 v1'3 v91 v5' v6' v7 v8) (
              S.bin .eql v72 (.int .u8 115) fun v93 =>
              S.cond v93 (
                S.sbin .add v4' (.string ⟨#[32]⟩) fun v95 =>
                S.fad v1'3 3 fun v96 =>
                S.ld v96 fun v97 =>
                S.sbin .add v95 v97 fun v98 =>
                K3 v1'3 v98 v5' v6' v7 v8) (
                S.bin .eql v72 (.int .u8 98) fun v100 =>
                S.cond v100 (
                  S.sbin .add v4' (.string ⟨#[32]⟩) fun v102 =>
                  S.fad v1'3 7 fun v103 =>
                  S.ld v103 fun v104 =>
                  CF Tryd.prog 29 [v104] fun v105 =>
                  S.sbin .add v102 v105 fun v106 =>
                  K3 v1'3 v106 v5' v6' v7 v8) (
                  S.bin .eql v72 (.int .u8 107) fun v108 =>
                  S.cond v108 (
                    S.sbin .add v4' (.string ⟨#[32, 107]⟩) fun v110 =>
                    S.loop 7 (fun K4 => fun v1'4 v4'2 v5'2 v6'2 v7' v8' v9 => S.fa fun _ =>
                      S.fad v1'4 12 fun v112 =>
                      S.fad v112 0 fun v113 =>
                      S.ld v113 fun v114 =>
                      S.len v114 fun v115 =>
                      S.bin .lss v9 v115 fun v116 =>
                      S.cond v116 (
                        S.join 7 (fun K5 =>
                        S.fad v1'4 12 fun v119 =>
                        S.fad v119 0 fun v120 =>
                        S.ld v120 fun v121 =>
                        S.ixS 1 v121 v9 fun v123 =>
                        S.ld v123 fun v124 =>
                        S.cond v124 (
                        S.sbin .add v4'2 (.string ⟨#[49]⟩) fun v126 =>
                        K5 v1'4 v126 v5'2 v6'2 v7' v8' v9) (
                        S.sbin .add v4'2 (.string ⟨#[48]⟩) fun v128 =>
                        K5 v1'4 v128 v5'2 v6'2 v7' v8' v9))
                        <| fun v1'5 v4'3 v5'3 v6'3 v7'2 v8'2 v9' => S.fa fun _ =>
                        S.bin .add v9' (I 1) fun v118 =>
                        K4 v1'5 v4'3 v5'3 v6'3 v7'2 v8'2 v118) (
                        S.join 7 (fun K6 =>
                        S.fad v1'4 12 fun v129 =>
                        S.fad v129 1 fun v130 =>
                        S.ld v130 fun v131 =>
                        S.bin .neq v131 (I (-1)) fun v132 =>
                        S.cond v132 (
                        S.fad v1'4 12 fun v133 =>
                        S.fad v133 1 fun v134 =>
                        S.ld v134 fun v135 =>
                        CF Tryd.prog 28 [v135] fun v136 =>
                        K6 v1'4 v4'2 v5'2 v6'2 v7' v8' v136) (
                        K6 v1'4 v4'2 v5'2 v6'2 v7' v8' (.string ⟨#[45]⟩)))
                        <| fun v1'6 v4'4 v5'4 v6'4 v7'3 v8'3 v10 => S.fa fun _ =>
                        S.sbin .add v4'4 (.string ⟨#[32]⟩) fun v138 =>
                        S.sbin .add v138 v10 fun v140 =>
                        S.sbin .add v140 (.string ⟨#[32]⟩) fun v141 =>
                        S.fad v1'6 12 fun v142 =>
                        S.fad v142 2 fun v143 =>
                        S.ld v143 fun v144 =>
                        CF Tryd.prog 28 [v144] fun v145 =>
                        S.sbin .add v141 v145 fun v146 =>
                        K3 v1'6 v146 v5'4 v6'4 v7'3 v8'3))
                    [v1'3, v110, v5', v6', v7, v8, (I 0)]) (
                    K3 v1'3 v4' v5' v6' v7 v8))))))
        <| fun v1'7 v4'5 v5'5 v6'5 v7'4 v8'4 => S.fa fun _ =>
        S.bin .add v8'4 (I 1) fun v69 =>
        K2 v1'7 v4'5 v5'5 v6'5 v7'4 v69) (
        CF Tryd.prog 8 [v4'] fun v149 =>
        S.ext v149 0 fun v150 =>
        S.ext v149 1 fun v151 =>
        S.box 30 (.agg #[(.int .i64 0), (.int .i64 0), (.string ⟨#[]⟩), (.string ⟨#[]⟩), (.int .i64 0), (.int .i64 0), (.int .i64 0), (.slice none 0 0), (.int .i64 0), (.int .i64 0), (.int .i64 0), (.int .i64 0), (.slice none 0 0), (.int .i64 0), (.int .i64 0)]) fun v11 =>
        S.st 15 v11 v150 fun _ =>
        S.join 2 (fun K7 =>
          S.bin .neq v151 (I 0) fun v153 =>
          S.gd v153 false (fun k => S.ldN 15 v11 k) fun v155 =>
          S.gd v153 false (fun k => S.ldN 15 v1'3 k) fun v156 =>
          S.gd v153 false (fun k => CF Tryd.prog 10 [v155, v156] k) fun v157 =>
          S.gd v153 false (fun k => S.not1 v157 k) fun v158 =>
          S.pick v153 (B true) v158 fun v159 =>
          K7 v4' v159)
        <| fun v4'6 v159' => S.fa fun _ =>
        S.cond v159' (
          K (.tuple #[(.string ⟨#[]⟩), (I 4)])) (
          K (.tuple #[v4'6, (I 0)]))))
    [v1'2, v4, v5, v6, (I 0), (I 0)])
theorem e12 [Amb] (v0 : Value) (K : Value → WT) : s12 v0 K = shal Tryd.prog Tryd.f12 .p a12 [v0] K := by kernel_rfl
theorem c12 [Amb] {v0 : Value} {K : Value → WT} {w : World} (h : s12 v0 K w) : CF Tryd.prog 12 [v0] K w := shal_sound Tryd.func12 (e12 v0 K ▸ h)

/-- aumbry/script.Told -/
def a13 : Ann := .seq (.z) (.seq (.seq (.z) (.cond (.seq (.z) (.z)) (.z))) (.seq (.z) (.join [1, 3] (.seq (.z) (.cond (.z) (.z))) (.seq (.seq (.z) (.blk (.loop [1, 3, 23, 24, 25] (.seq (.z) (.seq (.cond (.z) (.z)) (.seq (.blk (.seq (.z) (.draw [0, 1, 2, 3, 4, 5, 6, 7, 8, 9, 10]))) (.z))))))) (.join [3] (.seq (.z) (.cond (.z) (.z))) (.seq (.z) (.z)))))))
def s13 [Amb] (a_0 : Value) (K : Value → WT) : WT :=
  S.box 42 a_0 fun a_1 =>
  S.fad a_1 0 fun v6 =>
  S.ld v6 fun v7 =>
  S.bin .neq v7 (I 0) fun v8 =>
  S.cond v8 (
    S.fad a_1 0 fun v9 =>
    S.ld v9 fun v10 =>
    CF Tryd.prog 30 [v10] fun v11 =>
    S.sbin .add (.string ⟨#[101, 114, 114, 111, 114, 32]⟩) v11 fun v12 =>
    K v12) (
    S.join 2 (fun K0 =>
      S.fad a_1 1 fun v13 =>
      S.ld v13 fun v14 =>
      S.bin .neq v14 (I 0) fun v15 =>
      S.cond v15 (
        S.fad a_1 1 fun v17 =>
        S.ld v17 fun v18 =>
        CF Tryd.prog 30 [v18] fun v19 =>
        S.sbin .add (.string ⟨#[32, 110]⟩) v19 fun v20 =>
        S.sbin .add (.string ⟨#[111, 107]⟩) v20 fun v21 =>
        K0 a_1 v21) (
        K0 a_1 (.string ⟨#[111, 107]⟩)))
    <| fun a_1' out_3 => S.fa fun _ =>
    S.fad a_1' 3 fun v22 =>
    S.ld v22 fun v23 =>
    S.len v23 fun v24 =>
    S.loop 5 (fun K1 => fun a_1'2 out_3' v23' v24' v25 => S.fa fun _ =>
      S.bin .lss v25 v24' fun v26 =>
      S.cond v26 (
        S.ixS 2 v23' v25 fun v27 =>
        S.ldN 2 v27 fun v28 =>
        S.box 67 (.agg #[(.string ⟨#[]⟩), (.int .i64 0)]) fun h_5 =>
        S.st 2 h_5 v28 fun _ =>
        S.dr <|
        S.fad h_5 0 fun v30 =>
        S.ld v30 fun v31 =>
        S.sbin .add (.string ⟨#[32]⟩) v31 fun v32 =>
        S.sbin .add v32 (.string ⟨#[64]⟩) fun v33 =>
        S.fad h_5 1 fun v34 =>
        S.ld v34 fun v35 =>
        CF Tryd.prog 30 [v35] fun v36 =>
        S.rck [S.ld v30 (fun v' _ => v' = v31)] <|
        S.sbin .add v33 v36 fun v37 =>
        S.sbin .add out_3' v37 fun v38 =>
        S.bin .add v25 (I 1) fun v39 =>
        K1 a_1'2 v38 v23' v24' v39) (
        S.join 1 (fun K2 =>
          S.fad a_1'2 2 fun v40 =>
          S.ld v40 fun v41 =>
          S.len v41 fun v42 =>
          S.bin .gtr v42 (I 0) fun v43 =>
          S.cond v43 (
            S.fad a_1'2 2 fun v45 =>
            S.ld v45 fun v46 =>
            CF Tryd.prog 31 [v46] fun v47 =>
            S.sbin .add (.string ⟨#[32]⟩) v47 fun v48 =>
            S.sbin .add out_3' v48 fun v49 =>
            K2 v49) (
            K2 out_3'))
        <| fun out_3'2 => S.fa fun _ =>
        K out_3'2))
    [a_1', out_3, v23, v24, (I 0)])
theorem e13 [Amb] (a_0 : Value) (K : Value → WT) : s13 a_0 K = shal Tryd.prog Tryd.f13 .p a13 [a_0] K := by kernel_rfl
theorem c13 [Amb] {a_0 : Value} {K : Value → WT} {w : World} (h : s13 a_0 K w) : CF Tryd.prog 13 [a_0] K w := shal_sound Tryd.func13 (e13 a_0 K ▸ h)

/-- aumbry/aumbryref20.Told -/
def a14 : Ann := .seq (.z) (.seq (.seq (.z) (.cond (.seq (.z) (.z)) (.z))) (.seq (.z) (.join [1, 3] (.seq (.z) (.cond (.z) (.z))) (.seq (.seq (.z) (.blk (.loop [1, 3, 4] (.seq (.seq (.z) (.cond (.z) (.z))) (.seq (.blk (.draw [0, 1, 2, 3, 4, 5, 6, 7, 8, 9, 10, 11, 12, 13, 14, 15, 16, 17, 18])) (.z)))))) (.join [3] (.seq (.z) (.cond (.z) (.z))) (.seq (.z) (.z)))))))
def s14 [Amb] (a_0 : Value) (K : Value → WT) : WT :=
  S.box 42 a_0 fun a_1 =>
  S.fad a_1 0 fun v5 =>
  S.ld v5 fun v6 =>
  S.bin .neq v6 (I 0) fun v7 =>
  S.cond v7 (
    S.fad a_1 0 fun v8 =>
    S.ld v8 fun v9 =>
    CF Tryd.prog 28 [v9] fun v10 =>
    S.sbin .add (.string ⟨#[101, 114, 114, 111, 114, 32]⟩) v10 fun v11 =>
    K v11) (
    S.join 2 (fun K0 =>
      S.fad a_1 1 fun v12 =>
      S.ld v12 fun v13 =>
      S.bin .neq v13 (I 0) fun v14 =>
      S.cond v14 (
        S.sbin .add (.string ⟨#[111, 107]⟩) (.string ⟨#[32, 110]⟩) fun v16 =>
        S.fad a_1 1 fun v17 =>
        S.ld v17 fun v18 =>
        CF Tryd.prog 28 [v18] fun v19 =>
        S.sbin .add v16 v19 fun v20 =>
        K0 a_1 v20) (
        K0 a_1 (.string ⟨#[111, 107]⟩)))
    <| fun a_1' out_3 => S.fa fun _ =>
    S.loop 3 (fun K1 => fun a_1'2 out_3' i_4 => S.fa fun _ =>
      S.fad a_1'2 3 fun v22 =>
      S.ld v22 fun v23 =>
      S.len v23 fun v24 =>
      S.bin .lss i_4 v24 fun v25 =>
      S.cond v25 (
        S.dr <|
        S.sbin .add out_3' (.string ⟨#[32]⟩) fun v29 =>
        S.fad a_1'2 3 fun v30 =>
        S.ld v30 fun v31 =>
        S.ixS 2 v31 i_4 fun v33 =>
        S.fad v33 0 fun v34 =>
        S.ld v34 fun v35 =>
        S.sbin .add v29 v35 fun v36 =>
        S.sbin .add v36 (.string ⟨#[64]⟩) fun v37 =>
        S.fad a_1'2 3 fun v38 =>
        S.ld v38 fun v39 =>
        S.ixS 2 v39 i_4 fun v41 =>
        S.fad v41 1 fun v42 =>
        S.ld v42 fun v43 =>
        CF Tryd.prog 28 [v43] fun v44 =>
        S.rck [S.ld v34 (fun v' _ => v' = v35), S.ld v30 (fun v' _ => v' = v31)] <|
        S.sbin .add v37 v44 fun v45 =>
        S.bin .add i_4 (I 1) fun v27 =>
        K1 a_1'2 v45 v27) (
        S.join 1 (fun K2 =>
          S.fad a_1'2 2 fun v46 =>
          S.ld v46 fun v47 =>
          S.len v47 fun v48 =>
          S.bin .gtr v48 (I 0) fun v49 =>
          S.cond v49 (
            S.sbin .add out_3' (.string ⟨#[32]⟩) fun v51 =>
            S.fad a_1'2 2 fun v52 =>
            S.ld v52 fun v53 =>
            CF Tryd.prog 29 [v53] fun v54 =>
            S.sbin .add v51 v54 fun v55 =>
            K2 v55) (
            K2 out_3'))
        <| fun out_3'2 => S.fa fun _ =>
        K out_3'2))
    [a_1', out_3, (I 0)])
theorem e14 [Amb] (a_0 : Value) (K : Value → WT) : s14 a_0 K = shal Tryd.prog Tryd.f14 .p a14 [a_0] K := by kernel_rfl
theorem c14 [Amb] {a_0 : Value} {K : Value → WT} {w : World} (h : s14 a_0 K w) : CF Tryd.prog 14 [a_0] K w := shal_sound Tryd.func14 (e14 a_0 K ▸ h)

/-- (*aumbry/script.reading).op -/
def a16 : Ann := .seq (.z) (.seq (.z) (.join [0, 2, 3] (.seq (.z) (.blk (.seq (.z) (.cond (.z) (.seq (.z) (.cond (.z) (.join [0, 2, 3, 9, 18] (.seq (.z) (.cond (.z) (.z))) (.cond (.seq (.z) (.z)) (.join [0, 2, 3, 9, 27] (.seq (.z) (.cond (.z) (.seq (.z) (.cond (.z) (.seq (.z) (.cond (.z) (.seq (.z) (.cond (.z) (.z))))))))) (.cond (.z) (.join [0, 2, 3, 9, 36] (.seq (.z) (.cond (.z) (.seq (.z) (.cond (.z) (.z))))) (.cond (.seq (.z) (.z)) (.seq (.z) (.cond (.seq (.z) (.z)) (.seq (.z) (.cond (.seq (.z) (.z)) (.join [0, 2, 3, 9, 68] (.seq (.z) (.cond (.z) (.z))) (.cond (.z) (.seq (.z) (.cond (.z) (.seq (.z) (.cond (.z) (.z))))))))))))))))))))))) (.seq (.z) (.seq (.z) (.z)))))
def s16 [Amb] (v0 : Value) (K : Value → WT) : WT :=
  S.box 30 (.agg #[(.int .i64 0), (.int .i64 0), (.string ⟨#[]⟩), (.string ⟨#[]⟩), (.int .i64 0), (.int .i64 0), (.int .i64 0), (.slice none 0 0), (.int .i64 0), (.int .i64 0), (.int .i64 0), (.int .i64 0), (.slice none 0 0), (.int .i64 0), (.int .i64 0)]) fun v2 =>
  CF Tryd.prog 33 [v0] fun v5 =>
  CF Tryd.prog 32 [v5] fun v6 =>
  V Tryd.prog (Instr.build 30 #[(0, v6)]) fun v7 =>
  S.box 30 (.agg #[(.int .i64 0), (.int .i64 0), (.string ⟨#[]⟩), (.string ⟨#[]⟩), (.int .i64 0), (.int .i64 0), (.int .i64 0), (.slice none 0 0), (.int .i64 0), (.int .i64 0), (.int .i64 0), (.int .i64 0), (.slice none 0 0), (.int .i64 0), (.int .i64 0)]) fun v3 =>
  S.st 15 v3 v7 fun _ =>
  S.join 3 (fun K0 =>
    S.fad v3 0 fun v8 =>
    S.ld v8 fun v9 =>
    S.bin .eql v9 (I 0) fun v11 =>
    S.cond v11 (
      CF Tryd.prog 34 [(B false)] fun v12 =>
      K0 v0 v2 v3) (
      S.bin .eql v9 (I 1) fun v14 =>
      S.cond v14 (
        CF Tryd.prog 35 [v0] fun v16 =>
        S.fad v3 2 fun v17 =>
        S.st 1 v17 v16 fun _ =>
        K0 v0 v2 v3) (
        S.join 5 (fun K1 =>
          S.bin .eql v9 (I 2) fun v19 =>
          S.cond v19 (
            K1 v0 v2 v3 v9 v19) (
            S.bin .eql v9 (I 21) fun v20 =>
            K1 v0 v2 v3 v9 v20))
        <| fun v0' v2' v3' v9' v18 => S.fa fun _ =>
        S.cond v18 (
          CF Tryd.prog 36 [v0'] fun v22 =>
          S.fad v3' 1 fun v23 =>
          S.st 1 v23 v22 fun _ =>
          CF Tryd.prog 37 [v0'] fun v25 =>
          S.fad v3' 7 fun v26 =>
          S.st 1 v26 v25 fun _ =>
          K0 v0' v2' v3') (
          S.join 5 (fun K2 =>
            S.bin .eql v9' (I 3) fun v28 =>
            S.cond v28 (
              K2 v0' v2' v3' v9' v28) (
              S.bin .eql v9' (I 4) fun v29 =>
              S.cond v29 (
                K2 v0' v2' v3' v9' v29) (
                S.bin .eql v9' (I 13) fun v30 =>
                S.cond v30 (
                  K2 v0' v2' v3' v9' v30) (
                  S.bin .eql v9' (I 15) fun v31 =>
                  S.cond v31 (
                    K2 v0' v2' v3' v9' v31) (
                    S.bin .eql v9' (I 18) fun v32 =>
                    K2 v0' v2' v3' v9' v32)))))
          <| fun v0'2 v2'2 v3'2 v9'2 v27 => S.fa fun _ =>
          S.cond v27 (
            CF Tryd.prog 36 [v0'2] fun v34 =>
            S.fad v3'2 1 fun v35 =>
            S.st 1 v35 v34 fun _ =>
            K0 v0'2 v2'2 v3'2) (
            S.join 5 (fun K3 =>
              S.bin .eql v9'2 (I 5) fun v37 =>
              S.cond v37 (
                K3 v0'2 v2'2 v3'2 v9'2 v37) (
                S.bin .eql v9'2 (I 8) fun v38 =>
                S.cond v38 (
                  K3 v0'2 v2'2 v3'2 v9'2 v38) (
                  S.bin .eql v9'2 (I 10) fun v39 =>
                  K3 v0'2 v2'2 v3'2 v9'2 v39)))
            <| fun v0'3 v2'3 v3'3 v9'3 v36 => S.fa fun _ =>
            S.cond v36 (
              CF Tryd.prog 35 [v0'3] fun v41 =>
              S.fad v3'3 2 fun v42 =>
              S.st 1 v42 v41 fun _ =>
              CF Tryd.prog 36 [v0'3] fun v44 =>
              S.fad v3'3 4 fun v45 =>
              S.st 1 v45 v44 fun _ =>
              K0 v0'3 v2'3 v3'3) (
              S.bin .eql v9'3 (I 6) fun v47 =>
              S.cond v47 (
                CF Tryd.prog 35 [v0'3] fun v49 =>
                S.fad v3'3 2 fun v50 =>
                S.st 1 v50 v49 fun _ =>
                CF Tryd.prog 36 [v0'3] fun v52 =>
                CF Tryd.prog 36 [v0'3] fun v54 =>
                CF Tryd.prog 36 [v0'3] fun v56 =>
                S.fad v3'3 4 fun v57 =>
                S.st 1 v57 v52 fun _ =>
                S.fad v3'3 5 fun v58 =>
                S.st 1 v58 v54 fun _ =>
                S.fad v3'3 6 fun v59 =>
                S.st 1 v59 v56 fun _ =>
                K0 v0'3 v2'3 v3'3) (
                S.bin .eql v9'3 (I 7) fun v61 =>
                S.cond v61 (
                  CF Tryd.prog 35 [v0'3] fun v63 =>
                  S.fad v3'3 3 fun v64 =>
                  S.st 1 v64 v63 fun _ =>
                  CF Tryd.prog 35 [v0'3] fun v66 =>
                  S.fad v3'3 2 fun v67 =>
                  S.st 1 v67 v66 fun _ =>
                  K0 v0'3 v2'3 v3'3) (
                  S.join 5 (fun K4 =>
                    S.bin .eql v9'3 (I 11) fun v69 =>
                    S.cond v69 (
                      K4 v0'3 v2'3 v3'3 v9'3 v69) (
                      S.bin .eql v9'3 (I 12) fun v70 =>
                      K4 v0'3 v2'3 v3'3 v9'3 v70))
                  <| fun v0'4 v2'4 v3'4 v9'4 v68 => S.fa fun _ =>
                  S.cond v68 (
                    CF Tryd.prog 35 [v0'4] fun v72 =>
                    S.fad v3'4 3 fun v73 =>
                    S.st 1 v73 v72 fun _ =>
                    K0 v0'4 v2'4 v3'4) (
                    S.bin .eql v9'4 (I 14) fun v75 =>
                    S.cond v75 (
                      CF Tryd.prog 36 [v0'4] fun v77 =>
                      CF Tryd.prog 36 [v0'4] fun v79 =>
                      CF Tryd.prog 36 [v0'4] fun v81 =>
                      CF Tryd.prog 36 [v0'4] fun v83 =>
                      V Tryd.prog (Instr.build 25 #[(0, v77), (1, v79), (2, v81), (3, v83)]) fun v84 =>
                      S.fad v3'4 8 fun v85 =>
                      S.st 4 v85 v84 fun _ =>
                      K0 v0'4 v2'4 v3'4) (
                      S.bin .eql v9'4 (I 19) fun v87 =>
                      S.cond v87 (
                        CF Tryd.prog 38 [v0'4] fun v89 =>
                        S.fad v3'4 12 fun v90 =>
                        S.st 3 v90 v89 fun _ =>
                        K0 v0'4 v2'4 v3'4) (
                        K0 v0'4 v2'4 v3'4)))))))))))
  <| fun v0'5 v2'5 v3'5 => S.fa fun _ =>
  S.nc v0'5 fun v92 =>
  S.fad v92 1 fun v93 =>
  S.ld v93 fun v94 =>
  S.not1 v94 fun v95 =>
  CF Tryd.prog 34 [v95] fun v96 =>
  S.ldN 15 v3'5 fun v97 =>
  S.st 15 v2'5 v97 fun _ =>
  S.ldN 15 v2'5 fun v2'6 =>
  K v2'6
theorem e16 [Amb] (v0 : Value) (K : Value → WT) : s16 v0 K = shal Tryd.prog Tryd.f16 .p a16 [v0] K := by kernel_rfl
theorem c16 [Amb] {v0 : Value} {K : Value → WT} {w : World} (h : s16 v0 K w) : CF Tryd.prog 16 [v0] K w := shal_sound Tryd.func16 (e16 v0 K ▸ h)

/-- aumbry/aumbryref20.words -/
def a17 : Ann := .seq (.z) (.seq (.z) (.seq (.seq (.z) (.blk (.loop [0, 3, 4] (.seq (.seq (.z) (.cond (.z) (.z))) (.join [0, 3, 4] (.blk (.seq (.z) (.cond (.z) (.draw [0, 1, 2, 3, 4, 5, 6, 7, 8, 9, 10, 11, 12, 13, 14, 15, 16, 17])))) (.z)))))) (.seq (.z) (.z))))
def s17 [Amb] (s_0 : Value) (K : Value → WT) : WT :=
  V Tryd.prog (Instr.buildSlice 52 1 #[(0, (.string ⟨#[]⟩))]) fun v5 =>
  S.loop 3 (fun K0 => fun s_0' out_3 i_4 => S.fa fun _ =>
    S.lenS s_0' fun v8 =>
    S.bin .lss i_4 v8 fun v9 =>
    S.cond v9 (
      S.join 3 (fun K1 =>
        S.chr s_0' i_4 fun v14 =>
        S.bin .eql v14 (.int .u8 32) fun v15 =>
        S.cond v15 (
          V Tryd.prog (Instr.buildSlice 52 1 #[(0, (.string ⟨#[]⟩))]) fun v17 =>
          V Tryd.prog (Builtin.append_ #[52, 52] 52 #[out_3, v17]) fun v18 =>
          K1 s_0' v18 i_4) (
          S.dr <|
          S.len out_3 fun v21 =>
          S.bin .sub v21 (I 1) fun v22 =>
          S.len out_3 fun v25 =>
          S.bin .sub v25 (I 1) fun v26 =>
          S.ixS 1 out_3 v26 fun v27 =>
          S.ld v27 fun v28 =>
          S.bin .add i_4 (I 1) fun v32 =>
          S.slcS s_0' (some i_4) (some v32) fun v33 =>
          S.sbin .add v28 v33 fun v34 =>
          S.ixS 1 out_3 v22 fun v35 =>
          S.st 1 v35 v34 fun _ =>
          K1 s_0' out_3 i_4))
      <| fun s_0'2 out_3' i_4' => S.fa fun _ =>
      S.bin .add i_4' (I 1) fun v11 =>
      K0 s_0'2 out_3' v11) (
      K out_3))
  [s_0, v5, (I 0)]
theorem e17 [Amb] (s_0 : Value) (K : Value → WT) : s17 s_0 K = shal Tryd.prog Tryd.f17 .p a17 [s_0] K := by kernel_rfl
theorem c17 [Amb] {s_0 : Value} {K : Value → WT} {w : World} (h : s17 s_0 K w) : CF Tryd.prog 17 [s_0] K w := shal_sound Tryd.func17 (e17 s_0 K ▸ h)

/-- aumbry/aumbryref20.verbs -/
def a18 : Ann := .seq (.z) (.seq (.z) (.z))
def s18 [Amb] (K : Value → WT) : WT :=
  V Tryd.prog (Instr.buildSlice 52 22 #[(0, (.string ⟨#[]⟩)), (1, (.string ⟨#[98, 101, 103, 105, 110]⟩)), (2, (.string ⟨#[119, 114, 105, 116, 101]⟩)), (3, (.string ⟨#[99, 111, 109, 109, 105, 116]⟩)), (4, (.string ⟨#[97, 98, 111, 114, 116]⟩)), (5, (.string ⟨#[114, 101, 97, 100]⟩)), (6, (.string ⟨#[114, 97, 110, 103, 101]⟩)), (7, (.string ⟨#[115, 104, 111, 119, 110]⟩)), (8, (.string ⟨#[115, 116, 97, 116]⟩)), (9, (.string ⟨#[108, 105, 115, 116]⟩)), (10, (.string ⟨#[100, 101, 108, 101, 116, 101]⟩)), (11, (.string ⟨#[115, 110, 97, 112]⟩)), (12, (.string ⟨#[117, 110, 115, 110, 97, 112]⟩)), (13, (.string ⟨#[116, 105, 99, 107]⟩)), (14, (.string ⟨#[101, 120, 112, 105, 114, 101]⟩)), (15, (.string ⟨#[99, 108, 101, 97, 110]⟩)), (16, (.string ⟨#[115, 99, 114, 117, 98]⟩)), (17, (.string ⟨#[114, 101, 98, 117, 105, 108, 100]⟩)), (18, (.string ⟨#[116, 114, 105, 112]⟩)), (19, (.string ⟨#[102, 97, 108, 108]⟩)), (20, (.string ⟨#[109, 111, 117, 110, 116]⟩)), (21, (.string ⟨#[114, 111, 116]⟩))]) fun v1 =>
  K v1
theorem e18 [Amb] (K : Value → WT) : s18  K = shal Tryd.prog Tryd.f18 .p a18 [] K := by kernel_rfl
theorem c18 [Amb] {K : Value → WT} {w : World} (h : s18  K w) : CF Tryd.prog 18 [] K w := shal_sound Tryd.func18 (e18  K ▸ h)

/-- aumbry/aumbryref20.forms -/
def a19 : Ann := .seq (.z) (.seq (.z) (.z))
def s19 [Amb] (K : Value → WT) : WT :=
  V Tryd.prog (Instr.buildSlice 52 22 #[(0, (.string ⟨#[]⟩)), (1, (.string ⟨#[97]⟩)), (2, (.string ⟨#[110, 98]⟩)), (3, (.string ⟨#[110]⟩)), (4, (.string ⟨#[110]⟩)), (5, (.string ⟨#[97, 110]⟩)), (6, (.string ⟨#[97, 110, 110, 110]⟩)), (7, (.string ⟨#[115, 97]⟩)), (8, (.string ⟨#[97, 110]⟩)), (9, (.string ⟨#[]⟩)), (10, (.string ⟨#[97, 110]⟩)), (11, (.string ⟨#[115]⟩)), (12, (.string ⟨#[115]⟩)), (13, (.string ⟨#[110]⟩)), (14, (.string ⟨#[110, 110, 110, 110]⟩)), (15, (.string ⟨#[110]⟩)), (16, (.string ⟨#[]⟩)), (17, (.string ⟨#[]⟩)), (18, (.string ⟨#[110]⟩)), (19, (.string ⟨#[107]⟩)), (20, (.string ⟨#[]⟩)), (21, (.string ⟨#[110, 98]⟩))]) fun v1 =>
  K v1
theorem e19 [Amb] (K : Value → WT) : s19  K = shal Tryd.prog Tryd.f19 .p a19 [] K := by kernel_rfl
theorem c19 [Amb] {K : Value → WT} {w : World} (h : s19  K w) : CF Tryd.prog 19 [] K w := shal_sound Tryd.func19 (e19  K ▸ h)

/-- aumbry/aumbryref20.crash -/
def a20 : Ann := .seq (.z) (.seq (.z) (.seq (.join [0, 2, 4, 26] (.z) (.cond (.seq (.z) (.z)) (.z))) (.seq (.seq (.z) (.blk (.loop [0, 2, 4, 5] (.seq (.seq (.z) (.cond (.z) (.z))) (.seq (.blk (.seq (.join [0, 2, 4, 5, 49] (.z) (.cond (.seq (.z) (.z)) (.z))) (.draw [0, 1, 2, 3, 4, 5, 6, 7, 8, 9, 10, 11]))) (.z)))))) (.seq (.z) (.join [0, 2, 4, 6] (.seq (.z) (.cond (.z) (.z))) (.seq (.z) (.seq (.z) (.seq (.z) (.z)))))))))
def s20 [Amb] (v0 : Value) (K : Value → WT) : WT :=
  S.box 28 (.agg #[(.slice none 0 0), (.int .i64 0), (.int .i64 0)]) fun v2 =>
  V Tryd.prog (Instr.build 28 #[(1, (I (-1)))]) fun v9 =>
  S.box 28 (.agg #[(.slice none 0 0), (.int .i64 0), (.int .i64 0)]) fun v4 =>
  S.st 3 v4 v9 fun _ =>
  S.join 4 (fun K0 =>
    S.len v0 fun v11 =>
    S.bin .neq v11 (I 3) fun v12 =>
    S.gd v12 false (fun k => k v0) fun v14 =>
    S.gd v12 false (fun k => S.ixS 1 v14 (I 0) k) fun v15 =>
    S.gd v12 false (fun k => S.ld v15 k) fun v16 =>
    S.gd v12 false (fun k => S.lenS v16 k) fun v17 =>
    S.gd v12 false (fun k => S.bin .eql v17 (I 0) k) fun v18 =>
    S.pick v12 (B true) v18 fun v19 =>
    S.gd v19 false (fun k => k v0) fun v21 =>
    S.gd v19 false (fun k => S.ixS 1 v21 (I 0) k) fun v22 =>
    S.gd v19 false (fun k => S.ld v22 k) fun v23 =>
    S.gd v19 false (fun k => S.chr v23 (I 0) k) fun v24 =>
    S.gd v19 false (fun k => S.bin .neq v24 (.int .u8 107) k) fun v25 =>
    S.pick v19 (B true) v25 fun v26 =>
    K0 v0 v2 v4 v26)
  <| fun v0' v2' v4' v26' => S.fa fun _ =>
  S.cond v26' (
    S.ldN 3 v4' fun v27 =>
    S.st 3 v2' v27 fun _ =>
    S.ldN 3 v2' fun v2'2 =>
    K (.tuple #[v2'2, (B false)])) (
    S.loop 4 (fun K1 => fun v0'2 v2'3 v4'2 v5 => S.fa fun _ =>
      S.ixS 1 v0'2 (I 0) fun v30 =>
      S.ld v30 fun v31 =>
      S.lenS v31 fun v32 =>
      S.bin .lss v5 v32 fun v33 =>
      S.cond v33 (
        S.join 5 (fun K2 =>
          S.ixS 1 v0'2 (I 0) fun v37 =>
          S.ld v37 fun v38 =>
          S.chr v38 v5 fun v40 =>
          S.bin .neq v40 (.int .u8 48) fun v41 =>
          S.gd v41 true (fun k => k v0'2) fun v43 =>
          S.gd v41 true (fun k => S.ixS 1 v43 (I 0) k) fun v44 =>
          S.gd v41 true (fun k => S.ld v44 k) fun v45 =>
          S.gd v41 true (fun k => k v5) fun v46 =>
          S.gd v41 true (fun k => S.chr v45 v46 k) fun v47 =>
          S.gd v41 true (fun k => S.bin .neq v47 (.int .u8 49) k) fun v48 =>
          S.pick v41 v48 (B false) fun v49 =>
          K2 v0'2 v2'3 v4'2 v5 v49)
        <| fun v0'3 v2'4 v4'3 v5' v49' => S.fa fun _ =>
        S.cond v49' (
          S.ldN 3 v4'3 fun v50 =>
          S.st 3 v2'4 v50 fun _ =>
          S.ldN 3 v2'4 fun v2'5 =>
          K (.tuple #[v2'5, (B false)])) (
          S.dr <|
          S.fad v4'3 0 fun v51 =>
          S.ld v51 fun v52 =>
          S.ixS 1 v0'3 (I 0) fun v54 =>
          S.ld v54 fun v55 =>
          S.chr v55 v5' fun v57 =>
          S.bin .eql v57 (.int .u8 49) fun v58 =>
          V Tryd.prog (Instr.buildSlice 26 1 #[(0, v58)]) fun v59 =>
          S.rck [S.ld v51 (fun v' _ => v' = v52)] <|
          V Tryd.prog (Builtin.append_ #[26, 26] 26 #[v52, v59]) fun v60 =>
          S.fad v4'3 0 fun v61 =>
          S.st 1 v61 v60 fun _ =>
          S.bin .add v5' (I 1) fun v35 =>
          K1 v0'3 v2'4 v4'3 v35)) (
        S.join 4 (fun K3 =>
          S.ixS 1 v0'2 (I 1) fun v63 =>
          S.ld v63 fun v64 =>
          S.sbin .neq v64 (.string ⟨#[45]⟩) fun v65 =>
          S.cond v65 (
            S.ixS 1 v0'2 (I 1) fun v68 =>
            S.ld v68 fun v69 =>
            CF Tryd.prog 22 [v69] fun v70 =>
            S.ext v70 0 fun v71 =>
            S.ext v70 1 fun v72 =>
            S.fad v4'2 1 fun v73 =>
            S.st 1 v73 v71 fun _ =>
            K3 v0'2 v2'3 v4'2 v72) (
            K3 v0'2 v2'3 v4'2 (B true)))
        <| fun v0'4 v2'6 v4'4 v6 => S.fa fun _ =>
        S.ixS 1 v0'4 (I 2) fun v76 =>
        S.ld v76 fun v77 =>
        CF Tryd.prog 22 [v77] fun v78 =>
        S.ext v78 0 fun v79 =>
        S.ext v78 1 fun v80 =>
        S.fad v4'4 2 fun v82 =>
        S.st 1 v82 v79 fun _ =>
        S.ldN 3 v4'4 fun v83 =>
        S.gd v6 true (fun k => k v80) fun v86 =>
        S.pick v6 v86 (B false) fun v87 =>
        S.st 3 v2'6 v83 fun _ =>
        S.ldN 3 v2'6 fun v2'7 =>
        K (.tuple #[v2'7, v87])))
    [v0', v2', v4', (I 1)])
theorem e20 [Amb] (v0 : Value) (K : Value → WT) : s20 v0 K = shal Tryd.prog Tryd.f20 .p a20 [v0] K := by kernel_rfl
theorem c20 [Amb] {v0 : Value} {K : Value → WT} {w : World} (h : s20 v0 K w) : CF Tryd.prog 20 [v0] K w := shal_sound Tryd.func20 (e20 v0 K ▸ h)

/-- aumbry/aumbryref20.Bytes -/
def a21 : Ann := .seq (.z) (.seq (.z) (.seq (.seq (.z) (.blk (.loop [0, 4, 5] (.seq (.seq (.z) (.cond (.z) (.z))) (.seq (.blk (.join [0, 4, 5] (.seq (.z) (.cond (.z) (.z))) (.z))) (.z)))))) (.seq (.seq (.z) (.cond (.seq (.z) (.z)) (.z))) (.seq (.z) (.seq (.seq (.z) (.cond (.seq (.seq (.z) (.blk (.loop [4, 6, 7] (.seq (.seq (.z) (.cond (.z) (.z))) (.seq (.blk (.seq (.join [4, 6, 7, 51] (.z) (.cond (.seq (.z) (.z)) (.z))) (.z))) (.z)))))) (.seq (.z) (.z))) (.z))) (.seq (.join [4, 6, 67] (.z) (.cond (.seq (.z) (.z)) (.z))) (.seq (.seq (.z) (.blk (.loop [4, 6, 8] (.seq (.seq (.z) (.cond (.z) (.z))) (.seq (.blk (.seq (.z) (.seq (.z) (.seq (.join [4, 6, 8, 9, 11, 94] (.z) (.cond (.seq (.z) (.z)) (.z))) (.z))))) (.z)))))) (.seq (.z) (.z)))))))))
def s21 [Amb] (v0 : Value) (K : Value → WT) : WT :=
  S.loop 3 (fun K0 => fun v0' v4 v5 => S.fa fun _ =>
    S.len v0' fun v15 =>
    S.bin .lss v5 v15 fun v16 =>
    S.cond v16 (
      S.join 3 (fun K1 =>
        S.bin .gtr v5 (I 0) fun v20 =>
        S.cond v20 (
          S.sbin .add v4 (.string ⟨#[32]⟩) fun v22 =>
          K1 v0' v22 v5) (
          K1 v0' v4 v5))
      <| fun v0'2 v4' v5' => S.fa fun _ =>
      S.ixS 1 v0'2 v5' fun v26 =>
      S.ld v26 fun v27 =>
      S.sbin .add v4' v27 fun v28 =>
      S.bin .add v5' (I 1) fun v18 =>
      K0 v0'2 v28 v18) (
      S.lenS v4 fun v30 =>
      S.bin .eql v30 (I 0) fun v31 =>
      S.cond v31 (
        K (.tuple #[(.slice none 0 0), (B false)])) (
        V Tryd.prog (Instr.buildSlice 23 0 #[]) fun v32 =>
        S.chr v4 (I 0) fun v34 =>
        S.bin .eql v34 (.int .u8 61) fun v35 =>
        S.cond v35 (
          S.loop 3 (fun K2 => fun v4'2 v6 v7 => S.fa fun _ =>
            S.lenS v4'2 fun v38 =>
            S.bin .lss v7 v38 fun v39 =>
            S.cond v39 (
              S.join 4 (fun K3 =>
                S.chr v4'2 v7 fun v44 =>
                S.bin .lss v44 (.int .u8 32) fun v45 =>
                S.gd v45 false (fun k => k v4'2) fun v47 =>
                S.gd v45 false (fun k => k v7) fun v48 =>
                S.gd v45 false (fun k => S.chr v47 v48 k) fun v49 =>
                S.gd v45 false (fun k => S.bin .gtr v49 (.int .u8 126) k) fun v50 =>
                S.pick v45 (B true) v50 fun v51 =>
                K3 v4'2 v6 v7 v51)
              <| fun v4'3 v6' v7' v51' => S.fa fun _ =>
              S.cond v51' (
                K (.tuple #[(.slice none 0 0), (B false)])) (
                S.chr v4'3 v7' fun v55 =>
                V Tryd.prog (Instr.buildSlice 23 1 #[(0, v55)]) fun v56 =>
                V Tryd.prog (Builtin.append_ #[23, 23] 23 #[v6', v56]) fun v57 =>
                S.bin .add v7' (I 1) fun v41 =>
                K2 v4'3 v57 v41)) (
              K (.tuple #[v6, (B true)])))
          [v4, v32, (I 1)]) (
          S.join 3 (fun K4 =>
            S.chr v4 (I 0) fun v60 =>
            S.bin .neq v60 (.int .u8 120) fun v61 =>
            S.gd v61 false (fun k => k v4) fun v63 =>
            S.gd v61 false (fun k => S.lenS v63 k) fun v64 =>
            S.gd v61 false (fun k => S.bin .rem v64 (I 2) k) fun v65 =>
            S.gd v61 false (fun k => S.bin .eql v65 (I 0) k) fun v66 =>
            S.pick v61 (B true) v66 fun v67 =>
            K4 v4 v32 v67)
          <| fun v4'4 v6'2 v67' => S.fa fun _ =>
          S.cond v67' (
            K (.tuple #[(.slice none 0 0), (B false)])) (
            S.loop 3 (fun K5 => fun v4'5 v6'3 v8 => S.fa fun _ =>
              S.lenS v4'5 fun v70 =>
              S.bin .lss v8 v70 fun v71 =>
              S.cond v71 (
                S.chr v4'5 v8 fun v77 =>
                CF Tryd.prog 39 [v77] fun v78 =>
                S.ext v78 0 fun v79 =>
                S.ext v78 1 fun v80 =>
                S.bin .add v8 (I 1) fun v84 =>
                S.chr v4'5 v84 fun v85 =>
                CF Tryd.prog 39 [v85] fun v86 =>
                S.ext v86 0 fun v87 =>
                S.ext v86 1 fun v88 =>
                S.join 6 (fun K6 =>
                  S.not1 v80 fun v90 =>
                  S.gd v90 false (fun k => k v88) fun v92 =>
                  S.gd v90 false (fun k => S.not1 v92 k) fun v93 =>
                  S.pick v90 (B true) v93 fun v94 =>
                  K6 v4'5 v6'3 v8 v79 v87 v94)
                <| fun v4'6 v6'4 v8' v9 v11 v94' => S.fa fun _ =>
                S.cond v94' (
                  K (.tuple #[(.slice none 0 0), (B false)])) (
                  S.bin .mul (I 16) v9 fun v97 =>
                  S.bin .add v97 v11 fun v99 =>
                  S.cvt .u8 v99 fun v100 =>
                  V Tryd.prog (Instr.buildSlice 23 1 #[(0, v100)]) fun v101 =>
                  V Tryd.prog (Builtin.append_ #[23, 23] 23 #[v6'4, v101]) fun v102 =>
                  S.bin .add v8' (I 2) fun v73 =>
                  K5 v4'6 v102 v73)) (
                K (.tuple #[v6'3, (B true)])))
            [v4'4, v6'2, (I 1)])))))
  [v0, (.string ⟨#[]⟩), (I 0)]
theorem e21 [Amb] (v0 : Value) (K : Value → WT) : s21 v0 K = shal Tryd.prog Tryd.f21 .p a21 [v0] K := by kernel_rfl
theorem c21 [Amb] {v0 : Value} {K : Value → WT} {w : World} (h : s21 v0 K w) : CF Tryd.prog 21 [v0] K w := shal_sound Tryd.func21 (e21 v0 K ▸ h)

/-- aumbry/aumbryref20.number -/
def a22 : Ann := .seq (.z) (.seq (.join [0, 23] (.z) (.cond (.seq (.z) (.z)) (.z))) (.seq (.z) (.seq (.seq (.z) (.blk (.loop [0, 4, 5] (.seq (.seq (.z) (.cond (.z) (.z))) (.seq (.blk (.seq (.join [0, 4, 5, 39] (.z) (.cond (.seq (.z) (.z)) (.z))) (.z))) (.z)))))) (.seq (.z) (.z)))))
def s22 [Amb] (w_0 : Value) (K : Value → WT) : WT :=
  S.join 2 (fun K0 =>
    S.lenS w_0 fun v7 =>
    S.bin .eql v7 (I 0) fun v8 =>
    S.gd v8 false (fun k => k w_0) fun v10 =>
    S.gd v8 false (fun k => S.lenS v10 k) fun v11 =>
    S.gd v8 false (fun k => S.bin .gtr v11 (I 16) k) fun v12 =>
    S.pick v8 (B true) v12 fun v13 =>
    S.gd v13 false (fun k => k w_0) fun v15 =>
    S.gd v13 false (fun k => S.lenS v15 k) fun v16 =>
    S.gd v13 false (fun k => S.bin .gtr v16 (I 1) k) fun v17 =>
    S.gd v13 false (fun k => k v17) fun v18 =>
    S.gd v18 true (fun k => k w_0) fun v19 =>
    S.gd v18 true (fun k => S.chr v19 (I 0) k) fun v20 =>
    S.gd v18 true (fun k => S.bin .eql v20 (.int .u8 48) k) fun v21 =>
    S.gd v13 false (fun k => S.pick v18 v21 (B false) k) fun v22 =>
    S.pick v13 (B true) v22 fun v23 =>
    K0 w_0 v23)
  <| fun w_0' v23' => S.fa fun _ =>
  S.cond v23' (
    K (.tuple #[(I 0), (B false)])) (
    S.loop 3 (fun K1 => fun w_0'2 n_4 i_5 => S.fa fun _ =>
      S.lenS w_0'2 fun v26 =>
      S.bin .lss i_5 v26 fun v27 =>
      S.cond v27 (
        S.join 4 (fun K2 =>
          S.chr w_0'2 i_5 fun v32 =>
          S.bin .lss v32 (.int .u8 48) fun v33 =>
          S.gd v33 false (fun k => k w_0'2) fun v35 =>
          S.gd v33 false (fun k => k i_5) fun v36 =>
          S.gd v33 false (fun k => S.chr v35 v36 k) fun v37 =>
          S.gd v33 false (fun k => S.bin .gtr v37 (.int .u8 57) k) fun v38 =>
          S.pick v33 (B true) v38 fun v39 =>
          K2 w_0'2 n_4 i_5 v39)
        <| fun w_0'3 n_4' i_5' v39' => S.fa fun _ =>
        S.cond v39' (
          K (.tuple #[(I 0), (B false)])) (
          S.bin .mul (I 10) n_4' fun v41 =>
          S.chr w_0'3 i_5' fun v44 =>
          S.cvt .i64 v44 fun v45 =>
          S.bin .add v41 v45 fun v46 =>
          S.bin .sub v46 (I 48) fun v47 =>
          S.bin .add i_5' (I 1) fun v29 =>
          K1 w_0'3 v47 v29)) (
        S.bin .leq n_4 (I 9007199254740991) fun v50 =>
        K (.tuple #[n_4, v50])))
    [w_0', (I 0), (I 0)])
theorem e22 [Amb] (w_0 : Value) (K : Value → WT) : s22 w_0 K = shal Tryd.prog Tryd.f22 .p a22 [w_0] K := by kernel_rfl
theorem c22 [Amb] {w_0 : Value} {K : Value → WT} {w : World} (h : s22 w_0 K w) : CF Tryd.prog 22 [w_0] K w := shal_sound Tryd.func22 (e22 w_0 K ▸ h)

/-- aumbry/aumbryref13.Name -/
def a23 : Ann := .seq (.z) (.seq (.join [0, 11] (.z) (.cond (.seq (.z) (.z)) (.z))) (.seq (.seq (.z) (.blk (.loop [0, 3] (.seq (.seq (.z) (.cond (.z) (.z))) (.seq (.blk (.join [0, 3, 27] (.z) (.cond (.seq (.z) (.z)) (.z)))) (.z)))))) (.seq (.z) (.z))))
def s23 [Amb] (s_0 : Value) (K : Value → WT) : WT :=
  S.join 2 (fun K0 =>
    S.lenS s_0 fun v5 =>
    S.bin .lss v5 (I 1) fun v6 =>
    S.gd v6 false (fun k => k s_0) fun v8 =>
    S.gd v6 false (fun k => S.lenS v8 k) fun v9 =>
    S.gd v6 false (fun k => S.bin .gtr v9 (I 32) k) fun v10 =>
    S.pick v6 (B true) v10 fun v11 =>
    K0 s_0 v11)
  <| fun s_0' v11' => S.fa fun _ =>
  S.cond v11' (
    K (B false)) (
    S.loop 2 (fun K1 => fun s_0'2 i_3 => S.fa fun _ =>
      S.lenS s_0'2 fun v14 =>
      S.bin .lss i_3 v14 fun v15 =>
      S.cond v15 (
        S.join 3 (fun K2 =>
          S.chr s_0'2 i_3 fun v20 =>
          S.bin .lss v20 (.int .u8 33) fun v21 =>
          S.gd v21 false (fun k => k s_0'2) fun v23 =>
          S.gd v21 false (fun k => k i_3) fun v24 =>
          S.gd v21 false (fun k => S.chr v23 v24 k) fun v25 =>
          S.gd v21 false (fun k => S.bin .gtr v25 (.int .u8 126) k) fun v26 =>
          S.pick v21 (B true) v26 fun v27 =>
          K2 s_0'2 i_3 v27)
        <| fun s_0'3 i_3' v27' => S.fa fun _ =>
        S.cond v27' (
          K (B false)) (
          S.bin .add i_3' (I 1) fun v17 =>
          K1 s_0'3 v17)) (
        K (B true)))
    [s_0', (I 0)])
theorem e23 [Amb] (s_0 : Value) (K : Value → WT) : s23 s_0 K = shal Tryd.prog Tryd.f23 .p a23 [s_0] K := by kernel_rfl
theorem c23 [Amb] {s_0 : Value} {K : Value → WT} {w : World} (h : s23 s_0 K w) : CF Tryd.prog 23 [s_0] K w := shal_sound Tryd.func23 (e23 s_0 K ▸ h)

/-- strings.Join -/
def a24 : Ann := .seq (.z) (.seq (.seq (.z) (.blk (.seq (.z) (.cond (.seq (.z) (.z)) (.seq (.z) (.cond (.seq (.z) (.z)) (.z))))))) (.seq (.z) (.join [0, 1, 5] (.seq (.z) (.cond (.join [0, 1, 5] (.seq (.z) (.cond (.z) (.z))) (.z)) (.z))) (.seq (.seq (.z) (.blk (.loop [0, 1, 5, 39, 40, 41] (.seq (.z) (.seq (.cond (.z) (.z)) (.seq (.blk (.seq (.z) (.join [0, 1, 5, 7, 39, 40, 41] (.seq (.z) (.cond (.z) (.z))) (.z)))) (.z))))))) (.seq (.z) (.seq (.z) (.seq (.z) (.seq (.seq (.z) (.blk (.loop [1, 8, 63, 64, 65] (.seq (.z) (.seq (.cond (.z) (.z)) (.seq (.blk (.seq (.z) (.seq (.z) (.z)))) (.z))))))) (.seq (.z) (.z))))))))))
def s24 [Amb] (v0 v1 : Value) (K : Value → WT) : WT :=
  S.len v0 fun v12 =>
  S.bin .eql v12 (I 0) fun v14 =>
  S.cond v14 (
    K (.string ⟨#[]⟩)) (
    S.bin .eql v12 (I 1) fun v16 =>
    S.cond v16 (
      S.ixS 1 v0 (I 0) fun v18 =>
      S.ld v18 fun v19 =>
      K v19) (
      S.join 3 (fun K0 =>
        S.lenS v1 fun v21 =>
        S.bin .gtr v21 (I 0) fun v22 =>
        S.cond v22 (
          S.join 3 (fun K1 =>
            S.lenS v1 fun v24 =>
            S.len v0 fun v26 =>
            S.bin .sub v26 (I 1) fun v27 =>
            S.bin .quo (I 9223372036854775807) v27 fun v28 =>
            S.bin .geq v24 v28 fun v29 =>
            S.cond v29 (
              S.pan (.iface 9 (.string ⟨#[115, 116, 114, 105, 110, 103, 115, 58, 32, 74, 111, 105, 110, 32, 111, 117, 116, 112, 117, 116, 32, 108, 101, 110, 103, 116, 104, 32, 111, 118, 101, 114, 102, 108, 111, 119]⟩))) (
              K1 v0 v1 (I 0)))
          <| fun v0' v1' v5 => S.fa fun _ =>
          S.lenS v1' fun v33 =>
          S.len v0' fun v35 =>
          S.bin .sub v35 (I 1) fun v36 =>
          S.bin .mul v33 v36 fun v37 =>
          S.bin .add v5 v37 fun v38 =>
          K0 v0' v1' v38) (
          K0 v0 v1 (I 0)))
      <| fun v0'2 v1'2 v5' => S.fa fun _ =>
      S.len v0'2 fun v40 =>
      S.loop 6 (fun K2 => fun v0'3 v1'3 v5'2 v39 v40' v41 => S.fa fun _ =>
        S.bin .lss v41 v40' fun v42 =>
        S.cond v42 (
          S.ixS 1 v39 v41 fun v43 =>
          S.ld v43 fun v44 =>
          S.join 7 (fun K3 =>
            S.lenS v44 fun v46 =>
            S.bin .sub (I 9223372036854775807) v5'2 fun v48 =>
            S.bin .gtr v46 v48 fun v49 =>
            S.cond v49 (
              S.pan (.iface 9 (.string ⟨#[115, 116, 114, 105, 110, 103, 115, 58, 32, 74, 111, 105, 110, 32, 111, 117, 116, 112, 117, 116, 32, 108, 101, 110, 103, 116, 104, 32, 111, 118, 101, 114, 102, 108, 111, 119]⟩))) (
              K3 v0'3 v1'3 v5'2 v44 v39 v40' v41))
          <| fun v0'4 v1'4 v5'3 v7 v39' v40'2 v41' => S.fa fun _ =>
          S.lenS v7 fun v53 =>
          S.bin .add v5'3 v53 fun v54 =>
          S.bin .add v41' (I 1) fun v55 =>
          K2 v0'4 v1'4 v54 v39' v40'2 v55) (
          S.box 77 (.agg #[(.pointer none), (.slice none 0 0)]) fun v8 =>
          CF Tryd.prog 40 [v8, v5'2] fun v57 =>
          S.ixS 1 v0'3 (I 0) fun v59 =>
          S.ld v59 fun v60 =>
          CF Tryd.prog 41 [v8, v60] fun v61 =>
          S.slc 1 v0'3 (some (I 1)) none none fun v63 =>
          S.len v63 fun v64 =>
          S.loop 5 (fun K4 => fun v1'5 v8' v63' v64' v65 => S.fa fun _ =>
            S.bin .lss v65 v64' fun v66 =>
            S.cond v66 (
              S.ixS 1 v63' v65 fun v67 =>
              S.ld v67 fun v68 =>
              CF Tryd.prog 41 [v8', v1'5] fun v70 =>
              CF Tryd.prog 41 [v8', v68] fun v72 =>
              S.bin .add v65 (I 1) fun v73 =>
              K4 v1'5 v8' v63' v64' v73) (
              CF Tryd.prog 42 [v8'] fun v74 =>
              K v74))
          [v1'3, v8, v63, v64, (I 0)]))
      [v0'2, v1'2, v5', v0'2, v40, (I 0)]))
theorem e24 [Amb] (v0 v1 : Value) (K : Value → WT) : s24 v0 v1 K = shal Tryd.prog Tryd.f24 .p a24 [v0, v1] K := by kernel_rfl
theorem c24 [Amb] {v0 v1 : Value} {K : Value → WT} {w : World} (h : s24 v0 v1 K w) : CF Tryd.prog 24 [v0, v1] K w := shal_sound Tryd.func24 (e24 v0 v1 K ▸ h)

/-- aumbry/script.verbs -/
def a25 : Ann := .seq (.z) (.seq (.z) (.z))
def s25 [Amb] (K : Value → WT) : WT :=
  CF Tryd.prog 43 [(.string ⟨#[98, 101, 103, 105, 110, 32, 119, 114, 105, 116, 101, 32, 99, 111, 109, 109, 105, 116, 32, 97, 98, 111, 114, 116, 32, 114, 101, 97, 100, 32, 114, 97, 110, 103, 101, 32, 115, 104, 111, 119, 110, 32, 115, 116, 97, 116, 32, 108, 105, 115, 116, 32, 100, 101, 108, 101, 116, 101, 32, 115, 110, 97, 112, 32, 117, 110, 115, 110, 97, 112, 32, 116, 105, 99, 107, 32, 101, 120, 112, 105, 114, 101, 32, 99, 108, 101, 97, 110, 32, 115, 99, 114, 117, 98, 32, 114, 101, 98, 117, 105, 108, 100, 32, 116, 114, 105, 112, 32, 102, 97, 108, 108, 32, 109, 111, 117, 110, 116, 32, 114, 111, 116]⟩)] fun v1 =>
  K v1
theorem e25 [Amb] (K : Value → WT) : s25  K = shal Tryd.prog Tryd.f25 .p a25 [] K := by kernel_rfl
theorem c25 [Amb] {K : Value → WT} {w : World} (h : s25  K w) : CF Tryd.prog 25 [] K w := shal_sound Tryd.func25 (e25  K ▸ h)

/-- aumbry/script.words -/
def a26 : Ann := .seq (.z) (.seq (.seq (.z) (.blk (.seq (.z) (.cond (.seq (.z) (.z)) (.join [1, 5, 11] (.seq (.z) (.cond (.z) (.z))) (.cond (.seq (.draw [0, 1, 3, 4, 2, 5, 6, 7]) (.z)) (.join [1, 5, 21] (.seq (.z) (.cond (.z) (.seq (.z) (.cond (.z) (.seq (.z) (.cond (.z) (.seq (.z) (.cond (.z) (.z))))))))) (.cond (.seq (.z) (.z)) (.join [1, 5, 31] (.seq (.z) (.cond (.z) (.seq (.z) (.cond (.z) (.z))))) (.cond (.seq (.draw [0, 1, 2, 3, 4, 5, 6]) (.z)) (.seq (.z) (.cond (.seq (.draw [0, 1, 2, 3, 5, 6, 8, 9, 4, 7, 10, 11, 12]) (.z)) (.seq (.z) (.cond (.seq (.z) (.z)) (.join [1, 5, 62] (.seq (.z) (.cond (.z) (.z))) (.cond (.seq (.z) (.z)) (.seq (.z) (.cond (.seq (.draw [0, 1, 2, 4, 5, 6, 8, 9, 10, 12, 13, 14, 3, 7, 11, 15, 16, 17]) (.z)) (.seq (.z) (.cond (.seq (.z) (.join [1, 3] (.seq (.z) (.cond (.z) (.z))) (.seq (.draw [0, 1, 2, 4, 5, 6, 7, 3, 8, 9, 10]) (.z)))) (.z))))))))))))))))))))) (.seq (.z) (.z)))
def s26 [Amb] (v0 : Value) (K : Value → WT) : WT :=
  S.box 30 v0 fun v1 =>
  S.fad v1 0 fun v4 =>
  S.ld v4 fun v5 =>
  S.bin .eql v5 (I 1) fun v7 =>
  S.cond v7 (
    S.fad v1 2 fun v8 =>
    S.ld v8 fun v9 =>
    V Tryd.prog (Instr.buildSlice 52 1 #[(0, v9)]) fun v10 =>
    K v10) (
    S.join 3 (fun K0 =>
      S.bin .eql v5 (I 2) fun v12 =>
      S.cond v12 (
        K0 v1 v5 v12) (
        S.bin .eql v5 (I 21) fun v13 =>
        K0 v1 v5 v13))
    <| fun v1' v5' v11 => S.fa fun _ =>
    S.cond v11 (
      S.dr <|
      S.fad v1' 1 fun v14 =>
      S.ld v14 fun v15 =>
      S.fad v1' 7 fun v17 =>
      S.ld v17 fun v18 =>
      CF Tryd.prog 30 [v15] fun v16 =>
      S.rck [S.ld v17 (fun v' _ => v' = v18)] <|
      CF Tryd.prog 31 [v18] fun v19 =>
      V Tryd.prog (Instr.buildSlice 52 2 #[(0, v16), (1, v19)]) fun v20 =>
      K v20) (
      S.join 3 (fun K1 =>
        S.bin .eql v5' (I 3) fun v22 =>
        S.cond v22 (
          K1 v1' v5' v22) (
          S.bin .eql v5' (I 4) fun v23 =>
          S.cond v23 (
            K1 v1' v5' v23) (
            S.bin .eql v5' (I 13) fun v24 =>
            S.cond v24 (
              K1 v1' v5' v24) (
              S.bin .eql v5' (I 15) fun v25 =>
              S.cond v25 (
                K1 v1' v5' v25) (
                S.bin .eql v5' (I 18) fun v26 =>
                K1 v1' v5' v26)))))
      <| fun v1'2 v5'2 v21 => S.fa fun _ =>
      S.cond v21 (
        S.fad v1'2 1 fun v27 =>
        S.ld v27 fun v28 =>
        CF Tryd.prog 30 [v28] fun v29 =>
        V Tryd.prog (Instr.buildSlice 52 1 #[(0, v29)]) fun v30 =>
        K v30) (
        S.join 3 (fun K2 =>
          S.bin .eql v5'2 (I 5) fun v32 =>
          S.cond v32 (
            K2 v1'2 v5'2 v32) (
            S.bin .eql v5'2 (I 8) fun v33 =>
            S.cond v33 (
              K2 v1'2 v5'2 v33) (
              S.bin .eql v5'2 (I 10) fun v34 =>
              K2 v1'2 v5'2 v34)))
        <| fun v1'3 v5'3 v31 => S.fa fun _ =>
        S.cond v31 (
          S.dr <|
          S.fad v1'3 2 fun v35 =>
          S.ld v35 fun v36 =>
          S.fad v1'3 4 fun v37 =>
          S.ld v37 fun v38 =>
          CF Tryd.prog 30 [v38] fun v39 =>
          S.rck [S.ld v35 (fun v' _ => v' = v36)] <|
          V Tryd.prog (Instr.buildSlice 52 2 #[(0, v36), (1, v39)]) fun v40 =>
          K v40) (
          S.bin .eql v5'3 (I 6) fun v42 =>
          S.cond v42 (
            S.dr <|
            S.fad v1'3 2 fun v43 =>
            S.ld v43 fun v44 =>
            S.fad v1'3 4 fun v45 =>
            S.ld v45 fun v46 =>
            S.fad v1'3 5 fun v48 =>
            S.ld v48 fun v49 =>
            S.fad v1'3 6 fun v51 =>
            S.ld v51 fun v52 =>
            CF Tryd.prog 30 [v46] fun v47 =>
            S.rck [S.ld v51 (fun v' _ => v' = v52), S.ld v48 (fun v' _ => v' = v49), S.ld v43 (fun v' _ => v' = v44)] <|
            CF Tryd.prog 30 [v49] fun v50 =>
            S.rck [S.ld v51 (fun v' _ => v' = v52), S.ld v43 (fun v' _ => v' = v44)] <|
            CF Tryd.prog 30 [v52] fun v53 =>
            S.rck [S.ld v43 (fun v' _ => v' = v44)] <|
            V Tryd.prog (Instr.buildSlice 52 4 #[(0, v44), (1, v47), (2, v50), (3, v53)]) fun v54 =>
            K v54) (
            S.bin .eql v5'3 (I 7) fun v56 =>
            S.cond v56 (
              S.fad v1'3 3 fun v57 =>
              S.ld v57 fun v58 =>
              S.fad v1'3 2 fun v59 =>
              S.ld v59 fun v60 =>
              V Tryd.prog (Instr.buildSlice 52 2 #[(0, v58), (1, v60)]) fun v61 =>
              K v61) (
              S.join 3 (fun K3 =>
                S.bin .eql v5'3 (I 11) fun v63 =>
                S.cond v63 (
                  K3 v1'3 v5'3 v63) (
                  S.bin .eql v5'3 (I 12) fun v64 =>
                  K3 v1'3 v5'3 v64))
              <| fun v1'4 v5'4 v62 => S.fa fun _ =>
              S.cond v62 (
                S.fad v1'4 3 fun v65 =>
                S.ld v65 fun v66 =>
                V Tryd.prog (Instr.buildSlice 52 1 #[(0, v66)]) fun v67 =>
                K v67) (
                S.bin .eql v5'4 (I 14) fun v69 =>
                S.cond v69 (
                  S.dr <|
                  S.fad v1'4 8 fun v70 =>
                  S.fad v70 0 fun v71 =>
                  S.ld v71 fun v72 =>
                  S.fad v1'4 8 fun v74 =>
                  S.fad v74 1 fun v75 =>
                  S.ld v75 fun v76 =>
                  S.fad v1'4 8 fun v78 =>
                  S.fad v78 2 fun v79 =>
                  S.ld v79 fun v80 =>
                  S.fad v1'4 8 fun v82 =>
                  S.fad v82 3 fun v83 =>
                  S.ld v83 fun v84 =>
                  CF Tryd.prog 30 [v72] fun v73 =>
                  S.rck [S.ld v83 (fun v' _ => v' = v84), S.ld v79 (fun v' _ => v' = v80), S.ld v75 (fun v' _ => v' = v76)] <|
                  CF Tryd.prog 30 [v76] fun v77 =>
                  S.rck [S.ld v83 (fun v' _ => v' = v84), S.ld v79 (fun v' _ => v' = v80)] <|
                  CF Tryd.prog 30 [v80] fun v81 =>
                  S.rck [S.ld v83 (fun v' _ => v' = v84)] <|
                  CF Tryd.prog 30 [v84] fun v85 =>
                  V Tryd.prog (Instr.buildSlice 52 4 #[(0, v73), (1, v77), (2, v81), (3, v85)]) fun v86 =>
                  K v86) (
                  S.bin .eql v5'4 (I 19) fun v88 =>
                  S.cond v88 (
                    S.fad v1'4 12 fun v89 =>
                    S.fad v89 1 fun v90 =>
                    S.ld v90 fun v91 =>
                    CF Tryd.prog 30 [v91] fun v92 =>
                    S.join 2 (fun K4 =>
                      S.fad v1'4 12 fun v93 =>
                      S.fad v93 1 fun v94 =>
                      S.ld v94 fun v95 =>
                      S.bin .eql v95 (I (-1)) fun v96 =>
                      S.cond v96 (
                        K4 v1'4 (.string ⟨#[45]⟩)) (
                        K4 v1'4 v92))
                    <| fun v1'5 v3 => S.fa fun _ =>
                    S.dr <|
                    S.fad v1'5 12 fun v97 =>
                    S.fad v97 0 fun v98 =>
                    S.ld v98 fun v99 =>
                    S.fad v1'5 12 fun v102 =>
                    S.fad v102 2 fun v103 =>
                    S.ld v103 fun v104 =>
                    CF Tryd.prog 44 [v99] fun v100 =>
                    S.rck [S.ld v103 (fun v' _ => v' = v104)] <|
                    CF Tryd.prog 30 [v104] fun v105 =>
                    V Tryd.prog (Instr.buildSlice 52 3 #[(0, v100), (1, v3), (2, v105)]) fun v106 =>
                    K v106) (
                    K (.slice none 0 0))))))))))
theorem e26 [Amb] (v0 : Value) (K : Value → WT) : s26 v0 K = shal Tryd.prog Tryd.f26 .p a26 [v0] K := by kernel_rfl
theorem c26 [Amb] {v0 : Value} {K : Value → WT} {w : World} (h : s26 v0 K w) : CF Tryd.prog 26 [v0] K w := shal_sound Tryd.func26 (e26 v0 K ▸ h)

/-- aumbry/script.same -/
def a27 : Ann := .seq (.z) (.seq (.z) (.z))
def s27 [Amb] (v0 v1 : Value) (K : Value → WT) : WT :=
  S.box 30 v0 fun v2 =>
  S.box 30 v1 fun v3 =>
  S.fad v2 0 fun v5 =>
  S.ld v5 fun v6 =>
  S.fad v3 0 fun v7 =>
  S.ld v7 fun v8 =>
  S.bin .eql v6 v8 fun v9 =>
  S.gd v9 true (fun k => S.fad v2 1 k) fun v11 =>
  S.gd v9 true (fun k => S.ld v11 k) fun v12 =>
  S.gd v9 true (fun k => S.fad v3 1 k) fun v13 =>
  S.gd v9 true (fun k => S.ld v13 k) fun v14 =>
  S.gd v9 true (fun k => S.bin .eql v12 v14 k) fun v15 =>
  S.pick v9 v15 (B false) fun v16 =>
  S.gd v16 true (fun k => S.fad v2 2 k) fun v18 =>
  S.gd v16 true (fun k => S.ld v18 k) fun v19 =>
  S.gd v16 true (fun k => S.fad v3 2 k) fun v20 =>
  S.gd v16 true (fun k => S.ld v20 k) fun v21 =>
  S.gd v16 true (fun k => S.sbin .eql v19 v21 k) fun v22 =>
  S.pick v16 v22 (B false) fun v23 =>
  S.gd v23 true (fun k => S.fad v2 3 k) fun v25 =>
  S.gd v23 true (fun k => S.ld v25 k) fun v26 =>
  S.gd v23 true (fun k => S.fad v3 3 k) fun v27 =>
  S.gd v23 true (fun k => S.ld v27 k) fun v28 =>
  S.gd v23 true (fun k => S.sbin .eql v26 v28 k) fun v29 =>
  S.pick v23 v29 (B false) fun v30 =>
  S.gd v30 true (fun k => S.fad v2 4 k) fun v32 =>
  S.gd v30 true (fun k => S.ld v32 k) fun v33 =>
  S.gd v30 true (fun k => S.fad v3 4 k) fun v34 =>
  S.gd v30 true (fun k => S.ld v34 k) fun v35 =>
  S.gd v30 true (fun k => S.bin .eql v33 v35 k) fun v36 =>
  S.pick v30 v36 (B false) fun v37 =>
  S.gd v37 true (fun k => S.fad v2 5 k) fun v39 =>
  S.gd v37 true (fun k => S.ld v39 k) fun v40 =>
  S.gd v37 true (fun k => S.fad v3 5 k) fun v41 =>
  S.gd v37 true (fun k => S.ld v41 k) fun v42 =>
  S.gd v37 true (fun k => S.bin .eql v40 v42 k) fun v43 =>
  S.pick v37 v43 (B false) fun v44 =>
  S.gd v44 true (fun k => S.fad v2 6 k) fun v46 =>
  S.gd v44 true (fun k => S.ld v46 k) fun v47 =>
  S.gd v44 true (fun k => S.fad v3 6 k) fun v48 =>
  S.gd v44 true (fun k => S.ld v48 k) fun v49 =>
  S.gd v44 true (fun k => S.bin .eql v47 v49 k) fun v50 =>
  S.pick v44 v50 (B false) fun v51 =>
  S.gd v51 true (fun k => S.fad v2 7 k) fun v53 =>
  S.gd v51 true (fun k => S.ld v53 k) fun v54 =>
  S.gd v51 true (fun k => S.fad v3 7 k) fun v55 =>
  S.gd v51 true (fun k => S.ld v55 k) fun v56 =>
  S.gd v51 true (fun k => CF Tryd.prog 45 [v54, v56] k) fun v57 =>
  S.pick v51 v57 (B false) fun v58 =>
  S.gd v58 true (fun k => S.fad v2 8 k) fun v60 =>
  S.gd v58 true (fun k => S.ldN 4 v60 k) fun v61 =>
  S.gd v58 true (fun k => S.fad v3 8 k) fun v62 =>
  S.gd v58 true (fun k => S.ldN 4 v62 k) fun v63 =>
  S.gd v58 true (fun k => S.eqv Tryd.prog .eql 25 false v61 v63 k) fun v64 =>
  S.pick v58 v64 (B false) fun v65 =>
  S.gd v65 true (fun k => S.fad v2 12 k) fun v67 =>
  S.gd v65 true (fun k => S.fad v67 0 k) fun v68 =>
  S.gd v65 true (fun k => S.ld v68 k) fun v69 =>
  S.gd v65 true (fun k => S.fad v3 12 k) fun v70 =>
  S.gd v65 true (fun k => S.fad v70 0 k) fun v71 =>
  S.gd v65 true (fun k => S.ld v71 k) fun v72 =>
  S.gd v65 true (fun k => CF Tryd.prog 46 [v69, v72] k) fun v73 =>
  S.pick v65 v73 (B false) fun v74 =>
  S.gd v74 true (fun k => S.fad v2 12 k) fun v76 =>
  S.gd v74 true (fun k => S.fad v76 1 k) fun v77 =>
  S.gd v74 true (fun k => S.ld v77 k) fun v78 =>
  S.gd v74 true (fun k => S.fad v3 12 k) fun v79 =>
  S.gd v74 true (fun k => S.fad v79 1 k) fun v80 =>
  S.gd v74 true (fun k => S.ld v80 k) fun v81 =>
  S.gd v74 true (fun k => S.bin .eql v78 v81 k) fun v82 =>
  S.pick v74 v82 (B false) fun v83 =>
  S.gd v83 true (fun k => S.fad v2 12 k) fun v85 =>
  S.gd v83 true (fun k => S.fad v85 2 k) fun v86 =>
  S.gd v83 true (fun k => S.ld v86 k) fun v87 =>
  S.gd v83 true (fun k => S.fad v3 12 k) fun v88 =>
  S.gd v83 true (fun k => S.fad v88 2 k) fun v89 =>
  S.gd v83 true (fun k => S.ld v89 k) fun v90 =>
  S.gd v83 true (fun k => S.bin .eql v87 v90 k) fun v91 =>
  S.pick v83 v91 (B false) fun v92 =>
  K v92
theorem e27 [Amb] (v0 v1 : Value) (K : Value → WT) : s27 v0 v1 K = shal Tryd.prog Tryd.f27 .p a27 [v0, v1] K := by kernel_rfl
theorem c27 [Amb] {v0 v1 : Value} {K : Value → WT} {w : World} (h : s27 v0 v1 K w) : CF Tryd.prog 27 [v0, v1] K w := shal_sound Tryd.func27 (e27 v0 v1 K ▸ h)

/-- aumbry/aumbryref20.num -/
def a28 : Ann := .seq (.z) (.seq (.seq (.z) (.cond (.seq (.z) (.z)) (.z))) (.seq (.z) (.seq (.blk (.loop [0, 3] (.seq (.join [0, 3, 12] (.z) (.cond (.z) (.z))) (.blk (.seq (.z) (.z)))))) (.seq (.z) (.z)))))
def s28 [Amb] (n_0 : Value) (K : Value → WT) : WT :=
  S.bin .lss n_0 (I 0) fun v5 =>
  S.cond v5 (
    K (.string ⟨#[63]⟩)) (
    S.loop 2 (fun K0 => fun n_0' out_3 => S.fa fun _ =>
      S.join 3 (fun K1 =>
        S.bin .gtr n_0' (I 0) fun v7 =>
        S.gd v7 false (fun k => k out_3) fun v9 =>
        S.gd v7 false (fun k => S.lenS v9 k) fun v10 =>
        S.gd v7 false (fun k => S.bin .eql v10 (I 0) k) fun v11 =>
        S.pick v7 (B true) v11 fun v12 =>
        K1 n_0' out_3 v12)
      <| fun n_0'2 out_3' v12' => S.fa fun _ =>
      S.cond v12' (
        S.bin .rem n_0'2 (I 10) fun v14 =>
        S.bin .add (I 48) v14 fun v15 =>
        S.cvt .u8 v15 fun v16 =>
        V Tryd.prog (Instr.buildSlice 23 1 #[(0, v16)]) fun v17 =>
        S.b2s v17 fun v18 =>
        S.sbin .add v18 out_3' fun v20 =>
        S.bin .quo n_0'2 (I 10) fun v22 =>
        K0 v22 v20) (
        K out_3'))
    [n_0, (.string ⟨#[]⟩)])
theorem e28 [Amb] (n_0 : Value) (K : Value → WT) : s28 n_0 K = shal Tryd.prog Tryd.f28 .p a28 [n_0] K := by kernel_rfl
theorem c28 [Amb] {n_0 : Value} {K : Value → WT} {w : World} (h : s28 n_0 K w) : CF Tryd.prog 28 [n_0] K w := shal_sound Tryd.func28 (e28 n_0 K ▸ h)

/-- aumbry/aumbryref20.text -/
def a29 : Ann := .seq (.z) (.seq (.z) (.seq (.seq (.z) (.blk (.loop [0, 3, 4] (.seq (.seq (.z) (.cond (.z) (.z))) (.seq (.blk (.seq (.join [0, 3, 4, 23] (.z) (.cond (.seq (.z) (.seq (.seq (.z) (.blk (.loop [0, 3, 5] (.seq (.seq (.z) (.cond (.z) (.z))) (.seq (.blk (.draw [0, 1, 2, 3, 4, 5, 6, 7, 8, 9, 10, 11, 12, 13, 14, 15, 16])) (.z)))))) (.seq (.z) (.z)))) (.z))) (.z))) (.z)))))) (.seq (.z) (.z))))
def s29 [Amb] (b_0 : Value) (K : Value → WT) : WT :=
  S.loop 3 (fun K0 => fun b_0' out_3 i_4 => S.fa fun _ =>
    S.len b_0' fun v8 =>
    S.bin .lss i_4 v8 fun v9 =>
    S.cond v9 (
      S.join 4 (fun K1 =>
        S.ixS 1 b_0' i_4 fun v14 =>
        S.ld v14 fun v15 =>
        S.bin .lss v15 (.int .u8 32) fun v16 =>
        S.gd v16 false (fun k => k b_0') fun v18 =>
        S.gd v16 false (fun k => k i_4) fun v19 =>
        S.gd v16 false (fun k => S.ixS 1 v18 v19 k) fun v20 =>
        S.gd v16 false (fun k => S.ld v20 k) fun v21 =>
        S.gd v16 false (fun k => S.bin .gtr v21 (.int .u8 126) k) fun v22 =>
        S.pick v16 (B true) v22 fun v23 =>
        K1 b_0' out_3 i_4 v23)
      <| fun b_0'2 out_3' i_4' v23' => S.fa fun _ =>
      S.cond v23' (
        S.loop 3 (fun K2 => fun b_0'3 out_3'2 k_5 => S.fa fun _ =>
          S.len b_0'3 fun v26 =>
          S.bin .lss k_5 v26 fun v27 =>
          S.cond v27 (
            S.dr <|
            S.ixS 1 b_0'3 k_5 fun v33 =>
            S.ld v33 fun v34 =>
            S.bin .quo v34 (.int .u8 16) fun v35 =>
            S.chr (.string ⟨#[48, 49, 50, 51, 52, 53, 54, 55, 56, 57, 97, 98, 99, 100, 101, 102]⟩) v35 fun v36 =>
            S.ixS 1 b_0'3 k_5 fun v39 =>
            S.ld v39 fun v40 =>
            S.bin .rem v40 (.int .u8 16) fun v41 =>
            S.chr (.string ⟨#[48, 49, 50, 51, 52, 53, 54, 55, 56, 57, 97, 98, 99, 100, 101, 102]⟩) v41 fun v42 =>
            V Tryd.prog (Instr.buildSlice 23 2 #[(0, v36), (1, v42)]) fun v43 =>
            S.b2s v43 fun v44 =>
            S.sbin .add out_3'2 v44 fun v45 =>
            S.bin .add k_5 (I 1) fun v29 =>
            K2 b_0'3 v45 v29) (
            K out_3'2))
        [b_0'2, (.string ⟨#[120]⟩), (I 0)]) (
        S.ixS 1 b_0'2 i_4' fun v50 =>
        S.ld v50 fun v51 =>
        V Tryd.prog (Instr.buildSlice 23 1 #[(0, v51)]) fun v52 =>
        S.b2s v52 fun v53 =>
        S.sbin .add out_3' v53 fun v54 =>
        S.bin .add i_4' (I 1) fun v11 =>
        K0 b_0'2 v54 v11)) (
      K out_3))
  [b_0, (.string ⟨#[61]⟩), (I 0)]
theorem e29 [Amb] (b_0 : Value) (K : Value → WT) : s29 b_0 K = shal Tryd.prog Tryd.f29 .p a29 [b_0] K := by kernel_rfl
theorem c29 [Amb] {b_0 : Value} {K : Value → WT} {w : World} (h : s29 b_0 K w) : CF Tryd.prog 29 [b_0] K w := shal_sound Tryd.func29 (e29 b_0 K ▸ h)

/-- aumbry/script.number -/
def a30 : Ann := .seq (.z) (.seq (.seq (.z) (.cond (.seq (.z) (.z)) (.z))) (.seq (.z) (.blk (.loop [0, 3] (.blk (.seq (.z) (.seq (.z) (.seq (.z) (.cond (.seq (.z) (.z)) (.z))))))))))
def s30 [Amb] (n_0 : Value) (K : Value → WT) : WT :=
  S.bin .lss n_0 (I 0) fun v5 =>
  S.cond v5 (
    K (.string ⟨#[63]⟩)) (
    S.loop 2 (fun K0 => fun n_0' out_3 => S.fa fun _ =>
      S.bin .rem n_0' (I 10) fun v7 =>
      S.bin .add (I 48) v7 fun v8 =>
      S.cvt .u8 v8 fun v9 =>
      V Tryd.prog (Instr.buildSlice 23 1 #[(0, v9)]) fun v10 =>
      S.b2s v10 fun v11 =>
      S.sbin .add v11 out_3 fun v13 =>
      S.bin .quo n_0' (I 10) fun v15 =>
      S.bin .eql v15 (I 0) fun v17 =>
      S.cond v17 (
        K v13) (
        K0 v15 v13))
    [n_0, (.string ⟨#[]⟩)])
theorem e30 [Amb] (n_0 : Value) (K : Value → WT) : s30 n_0 K = shal Tryd.prog Tryd.f30 .p a30 [n_0] K := by kernel_rfl
theorem c30 [Amb] {n_0 : Value} {K : Value → WT} {w : World} (h : s30 n_0 K w) : CF Tryd.prog 30 [n_0] K w := shal_sound Tryd.func30 (e30 n_0 K ▸ h)

/-- aumbry/script.text -/
def a31 : Ann := .seq (.z) (.seq (.seq (.z) (.cond (.seq (.z) (.z)) (.z))) (.seq (.z) (.seq (.seq (.z) (.blk (.loop [3, 12, 13, 14] (.seq (.z) (.seq (.cond (.z) (.z)) (.seq (.blk (.seq (.z) (.draw [0, 1, 2, 3, 4, 5, 6, 7, 8, 9]))) (.z))))))) (.seq (.z) (.z)))))
def s31 [Amb] (b_0 : Value) (K : Value → WT) : WT :=
  CF Tryd.prog 47 [b_0] fun v7 =>
  S.cond v7 (
    S.b2s b_0 fun v9 =>
    S.sbin .add (.string ⟨#[61]⟩) v9 fun v10 =>
    K v10) (
    V Tryd.prog (Instr.buildSlice 23 1 #[(0, (.int .u8 120))]) fun v11 =>
    S.len b_0 fun v13 =>
    S.loop 4 (fun K0 => fun out_3 v12 v13' v14 => S.fa fun _ =>
      S.bin .lss v14 v13' fun v15 =>
      S.cond v15 (
        S.ixS 1 v12 v14 fun v16 =>
        S.ld v16 fun v17 =>
        S.dr <|
        S.bin .quo v17 (.int .u8 16) fun v20 =>
        S.chr (.string ⟨#[48, 49, 50, 51, 52, 53, 54, 55, 56, 57, 97, 98, 99, 100, 101, 102]⟩) v20 fun v21 =>
        S.bin .rem v17 (.int .u8 16) fun v23 =>
        S.chr (.string ⟨#[48, 49, 50, 51, 52, 53, 54, 55, 56, 57, 97, 98, 99, 100, 101, 102]⟩) v23 fun v24 =>
        V Tryd.prog (Instr.buildSlice 23 2 #[(0, v21), (1, v24)]) fun v25 =>
        V Tryd.prog (Builtin.append_ #[23, 23] 23 #[out_3, v25]) fun v26 =>
        S.bin .add v14 (I 1) fun v27 =>
        K0 v26 v12 v13' v27) (
        S.b2s out_3 fun v29 =>
        K v29))
    [v11, b_0, v13, (I 0)])
theorem e31 [Amb] (b_0 : Value) (K : Value → WT) : s31 b_0 K = shal Tryd.prog Tryd.f31 .p a31 [b_0] K := by kernel_rfl
theorem c31 [Amb] {b_0 : Value} {K : Value → WT} {w : World} (h : s31 b_0 K w) : CF Tryd.prog 31 [b_0] K w := shal_sound Tryd.func31 (e31 b_0 K ▸ h)

/-- aumbry/script.verb -/
def a32 : Ann := .seq (.z) (.seq (.seq (.z) (.blk (.loop [0, 3] (.seq (.seq (.z) (.cond (.z) (.z))) (.seq (.blk (.seq (.z) (.cond (.seq (.z) (.z)) (.z)))) (.z)))))) (.seq (.z) (.z)))
def s32 [Amb] (w_0 : Value) (K : Value → WT) : WT :=
  S.loop 2 (fun K0 => fun w_0' d_3 => S.fa fun _ =>
    S.bin .leq d_3 (I 21) fun v5 =>
    S.cond v5 (
      CF Tryd.prog 25 [] fun v8 =>
      S.bin .sub d_3 (I 1) fun v10 =>
      S.ixS 1 v8 v10 fun v11 =>
      S.ld v11 fun v12 =>
      S.sbin .eql v12 w_0' fun v14 =>
      S.cond v14 (
        K d_3) (
        S.bin .add d_3 (I 1) fun v7 =>
        K0 w_0' v7)) (
      K (I 0)))
  [w_0, (I 1)]
theorem e32 [Amb] (w_0 : Value) (K : Value → WT) : s32 w_0 K = shal Tryd.prog Tryd.f32 .p a32 [w_0] K := by kernel_rfl
theorem c32 [Amb] {w_0 : Value} {K : Value → WT} {w : World} (h : s32 w_0 K w) : CF Tryd.prog 32 [w_0] K w := shal_sound Tryd.func32 (e32 w_0 K ▸ h)

/-- (*aumbry/script.reading).word -/
def a33 : Ann := .seq (.z) (.seq (.z) (.seq (.z) (.seq (.z) (.seq (.z) (.z)))))
def s33 [Amb] (r_0 : Value) (K : Value → WT) : WT :=
  S.nc r_0 fun v7 =>
  S.fad v7 1 fun v8 =>
  S.ld v8 fun v9 =>
  CF Tryd.prog 34 [v9] fun v10 =>
  S.nc r_0 fun v13 =>
  S.fad v13 0 fun v14 =>
  S.ld v14 fun v15 =>
  CF Tryd.prog 48 [v15, (.string ⟨#[32]⟩)] fun v16 =>
  S.ext v16 0 fun v17 =>
  S.ext v16 1 fun v18 =>
  S.ext v16 2 fun v19 =>
  S.nc r_0 fun v24 =>
  S.fad v24 0 fun v25 =>
  S.st 1 v25 v18 fun _ =>
  S.nc r_0 fun v26 =>
  S.fad v26 1 fun v27 =>
  S.st 1 v27 v19 fun _ =>
  K v17
theorem e33 [Amb] (r_0 : Value) (K : Value → WT) : s33 r_0 K = shal Tryd.prog Tryd.f33 .p a33 [r_0] K := by kernel_rfl
theorem c33 [Amb] {r_0 : Value} {K : Value → WT} {w : World} (h : s33 r_0 K w) : CF Tryd.prog 33 [r_0] K w := shal_sound Tryd.func33 (e33 r_0 K ▸ h)

/-- aumbry/script.must -/
def a34 : Ann := .seq (.z) (.cond (.z) (.z))
def s34 [Amb] (ok_0 : Value) (K : Value → WT) : WT :=
  S.not1 ok_0 fun v3 =>
  S.cond v3 (
    V Tryd.prog (Instr.build 46 #[]) fun v4 =>
    S.pan (.iface 46 v4)) (
    K (.tuple #[]))
theorem e34 [Amb] (ok_0 : Value) (K : Value → WT) : s34 ok_0 K = shal Tryd.prog Tryd.f34 .p a34 [ok_0] K := by kernel_rfl
theorem c34 [Amb] {ok_0 : Value} {K : Value → WT} {w : World} (h : s34 ok_0 K w) : CF Tryd.prog 34 [ok_0] K w := shal_sound Tryd.func34 (e34 ok_0 K ▸ h)

/-- (*aumbry/script.reading).name -/
def a35 : Ann := .seq (.z) (.seq (.z) (.seq (.z) (.seq (.z) (.z))))
def s35 [Amb] (r_0 : Value) (K : Value → WT) : WT :=
  CF Tryd.prog 33 [r_0] fun v5 =>
  CF Tryd.prog 49 [v5] fun v7 =>
  CF Tryd.prog 34 [v7] fun v8 =>
  K v5
theorem e35 [Amb] (r_0 : Value) (K : Value → WT) : s35 r_0 K = shal Tryd.prog Tryd.f35 .p a35 [r_0] K := by kernel_rfl
theorem c35 [Amb] {r_0 : Value} {K : Value → WT} {w : World} (h : s35 r_0 K w) : CF Tryd.prog 35 [r_0] K w := shal_sound Tryd.func35 (e35 r_0 K ▸ h)

/-- (*aumbry/script.reading).num -/
def a36 : Ann := .seq (.z) (.seq (.z) (.z))
def s36 [Amb] (r_0 : Value) (K : Value → WT) : WT :=
  CF Tryd.prog 33 [r_0] fun v4 =>
  CF Tryd.prog 50 [v4] fun v5 =>
  K v5
theorem e36 [Amb] (r_0 : Value) (K : Value → WT) : s36 r_0 K = shal Tryd.prog Tryd.f36 .p a36 [r_0] K := by kernel_rfl
theorem c36 [Amb] {r_0 : Value} {K : Value → WT} {w : World} (h : s36 r_0 K w) : CF Tryd.prog 36 [r_0] K w := shal_sound Tryd.func36 (e36 r_0 K ▸ h)

/-- (*aumbry/script.reading).bytes -/
def a37 : Ann := .seq (.z) (.join [0] (.z) (.seq (.z) (.seq (.z) (.seq (.z) (.seq (.seq (.z) (.cond (.seq (.z) (.seq (.z) (.z))) (.z))) (.join [3] (.z) (.seq (.z) (.seq (.seq (.z) (.blk (.loop [3, 5, 6] (.seq (.seq (.z) (.cond (.z) (.z))) (.seq (.blk (.seq (.draw [0, 1, 2, 4, 5, 6, 7, 3, 8, 9, 10]) (.join [3, 5, 6, 7, 8] (.z) (.z)))) (.z)))))) (.seq (.z) (.z))))))))))
def s37 [Amb] (v0 : Value) (K : Value → WT) : WT :=
  S.join 1 (fun K0 =>
    S.nc v0 fun v10 =>
    S.fad v10 1 fun v11 =>
    S.ld v11 fun v12 =>
    S.gd v12 true (fun k => k v0) fun v14 =>
    S.gd v12 true (fun k => S.nc v14 k) fun v15 =>
    S.gd v12 true (fun k => S.fad v15 0 k) fun v16 =>
    S.gd v12 true (fun k => S.ld v16 k) fun v17 =>
    S.gd v12 true (fun k => S.sbin .neq v17 (.string ⟨#[]⟩) k) fun v18 =>
    S.pick v12 v18 (B false) fun v19 =>
    CF Tryd.prog 34 [v19] fun v20 =>
    K0 v0)
  <| fun v0' => S.fa fun _ =>
  S.nc v0' fun v22 =>
  S.fad v22 0 fun v23 =>
  S.ld v23 fun v24 =>
  S.slcS v24 (some (I 1)) none fun v25 =>
  S.nc v0' fun v27 =>
  S.fad v27 0 fun v28 =>
  S.ld v28 fun v29 =>
  S.chr v29 (I 0) fun v30 =>
  S.nc v0' fun v33 =>
  S.fad v33 0 fun v34 =>
  S.st 1 v34 (.string ⟨#[]⟩) fun _ =>
  S.nc v0' fun v35 =>
  S.fad v35 1 fun v36 =>
  S.st 1 v36 (B false) fun _ =>
  S.bin .eql v30 (.int .u8 61) fun v38 =>
  S.cond v38 (
    V Tryd.prog (convert 9 23 v25) fun v40 =>
    CF Tryd.prog 47 [v40] fun v41 =>
    CF Tryd.prog 34 [v41] fun v42 =>
    V Tryd.prog (convert 9 23 v25) fun v44 =>
    K v44) (
    S.join 1 (fun K1 =>
      S.bin .eql v30 (.int .u8 120) fun v46 =>
      S.gd v46 true (fun k => k v25) fun v48 =>
      S.gd v46 true (fun k => S.lenS v48 k) fun v49 =>
      S.gd v46 true (fun k => S.bin .rem v49 (I 2) k) fun v50 =>
      S.gd v46 true (fun k => S.bin .eql v50 (I 0) k) fun v51 =>
      S.pick v46 v51 (B false) fun v52 =>
      CF Tryd.prog 34 [v52] fun v53 =>
      K1 v25)
    <| fun v3 => S.fa fun _ =>
    S.loop 3 (fun K2 => fun v3' v5 v6 => S.fa fun _ =>
      S.lenS v3' fun v56 =>
      S.bin .lss v6 v56 fun v57 =>
      S.cond v57 (
        S.dr <|
        S.chr v3' v6 fun v62 =>
        S.bin .add v6 (I 1) fun v66 =>
        S.chr v3' v66 fun v67 =>
        CF Tryd.prog 51 [(.string ⟨#[48, 49, 50, 51, 52, 53, 54, 55, 56, 57, 97, 98, 99, 100, 101, 102]⟩), v62] fun v63 =>
        CF Tryd.prog 51 [(.string ⟨#[48, 49, 50, 51, 52, 53, 54, 55, 56, 57, 97, 98, 99, 100, 101, 102]⟩), v67] fun v68 =>
        S.join 5 (fun K3 =>
          S.bin .geq v63 (I 0) fun v70 =>
          S.gd v70 true (fun k => k v68) fun v72 =>
          S.gd v70 true (fun k => S.bin .geq v72 (I 0) k) fun v73 =>
          S.pick v70 v73 (B false) fun v74 =>
          CF Tryd.prog 34 [v74] fun v75 =>
          K3 v3' v5 v6 v63 v68)
        <| fun v3'2 v5' v6' v7 v8 => S.fa fun _ =>
        S.bin .mul (I 16) v7 fun v78 =>
        S.bin .add v78 v8 fun v80 =>
        S.cvt .u8 v80 fun v81 =>
        V Tryd.prog (Instr.buildSlice 23 1 #[(0, v81)]) fun v82 =>
        V Tryd.prog (Builtin.append_ #[23, 23] 23 #[v5', v82]) fun v83 =>
        S.bin .add v6' (I 2) fun v59 =>
        K2 v3'2 v83 v59) (
        K v5))
    [v3, (.slice none 0 0), (I 0)])
theorem e37 [Amb] (v0 : Value) (K : Value → WT) : s37 v0 K = shal Tryd.prog Tryd.f37 .p a37 [v0] K := by kernel_rfl
theorem c37 [Amb] {v0 : Value} {K : Value → WT} {w : World} (h : s37 v0 K w) : CF Tryd.prog 37 [v0] K w := shal_sound Tryd.func37 (e37 v0 K ▸ h)

/-- (*aumbry/script.reading).crash -/
def a38 : Ann := .seq (.z) (.seq (.z) (.seq (.z) (.seq (.z) (.seq (.seq (.z) (.blk (.loop [0, 2, 3, 4, 14, 15] (.seq (.z) (.seq (.cond (.z) (.z)) (.seq (.blk (.seq (.z) (.join [0, 2, 3, 4, 5, 14, 15] (.z) (.draw [0, 1, 2, 3, 4, 5, 6, 7, 8, 9, 10])))) (.z))))))) (.seq (.z) (.join [0, 2, 3] (.seq (.z) (.seq (.z) (.cond (.z) (.z)))) (.seq (.z) (.seq (.z) (.z)))))))))
def s38 [Amb] (r_0 : Value) (K : Value → WT) : WT :=
  S.box 28 (.agg #[(.slice none 0 0), (.int .i64 0), (.int .i64 0)]) fun v2 =>
  S.box 28 (.agg #[(.slice none 0 0), (.int .i64 0), (.int .i64 0)]) fun c_3 =>
  CF Tryd.prog 33 [r_0] fun v8 =>
  CF Tryd.prog 52 [v8, (.string ⟨#[107]⟩)] fun v10 =>
  CF Tryd.prog 34 [v10] fun v11 =>
  S.lenS v8 fun v13 =>
  S.bin .sub v13 (I 1) fun v14 =>
  S.loop 6 (fun K0 => fun r_0' v2' c_3' k_4 v14' v15 => S.fa fun _ =>
    S.bin .lss v15 v14' fun v16 =>
    S.cond v16 (
      S.join 7 (fun K1 =>
        S.bin .add v15 (I 1) fun v20 =>
        S.chr k_4 v20 fun v21 =>
        S.bin .eql v21 (.int .u8 48) fun v22 =>
        S.gd v22 false (fun k => k k_4) fun v24 =>
        S.gd v22 false (fun k => k v15) fun v25 =>
        S.gd v22 false (fun k => S.bin .add v25 (I 1) k) fun v26 =>
        S.gd v22 false (fun k => S.chr v24 v26 k) fun v27 =>
        S.gd v22 false (fun k => S.bin .eql v27 (.int .u8 49) k) fun v28 =>
        S.pick v22 (B true) v28 fun v29 =>
        CF Tryd.prog 34 [v29] fun v30 =>
        K1 r_0' v2' c_3' k_4 v15 v14' v15)
      <| fun r_0'2 v2'2 c_3'2 k_4' i_5 v14'2 v15' => S.fa fun _ =>
      S.dr <|
      S.fad c_3'2 0 fun v31 =>
      S.ld v31 fun v32 =>
      S.bin .add i_5 (I 1) fun v35 =>
      S.chr k_4' v35 fun v36 =>
      S.bin .eql v36 (.int .u8 49) fun v37 =>
      V Tryd.prog (Instr.buildSlice 26 1 #[(0, v37)]) fun v38 =>
      S.rck [S.ld v31 (fun v' _ => v' = v32)] <|
      V Tryd.prog (Builtin.append_ #[26, 26] 26 #[v32, v38]) fun v39 =>
      S.fad c_3'2 0 fun v40 =>
      S.st 1 v40 v39 fun _ =>
      S.bin .add v15' (I 1) fun v41 =>
      K0 r_0'2 v2'2 c_3'2 k_4' v14'2 v41) (
      S.fad c_3' 1 fun v42 =>
      S.st 1 v42 (I (-1)) fun _ =>
      S.join 3 (fun K2 =>
        CF Tryd.prog 33 [r_0'] fun v44 =>
        S.sbin .neq v44 (.string ⟨#[45]⟩) fun v46 =>
        S.cond v46 (
          CF Tryd.prog 50 [v44] fun v48 =>
          S.fad c_3' 1 fun v49 =>
          S.st 1 v49 v48 fun _ =>
          K2 r_0' v2' c_3') (
          K2 r_0' v2' c_3'))
      <| fun r_0'3 v2'3 c_3'3 => S.fa fun _ =>
      CF Tryd.prog 36 [r_0'3] fun v51 =>
      S.fad c_3'3 2 fun v52 =>
      S.st 1 v52 v51 fun _ =>
      S.ldN 3 c_3'3 fun v53 =>
      S.st 3 v2'3 v53 fun _ =>
      S.ldN 3 v2'3 fun v2'4 =>
      K v2'4))
  [r_0, v2, c_3, v8, v14, (I 0)]
theorem e38 [Amb] (r_0 : Value) (K : Value → WT) : s38 r_0 K = shal Tryd.prog Tryd.f38 .p a38 [r_0] K := by kernel_rfl
theorem c38 [Amb] {r_0 : Value} {K : Value → WT} {w : World} (h : s38 r_0 K w) : CF Tryd.prog 38 [r_0] K w := shal_sound Tryd.func38 (e38 r_0 K ▸ h)

/-- aumbry/aumbryref20.digit -/
def a39 : Ann := .seq (.z) (.seq (.join [0, 9] (.z) (.cond (.seq (.z) (.z)) (.z))) (.seq (.join [0, 18] (.z) (.cond (.seq (.z) (.z)) (.z))) (.seq (.z) (.z))))
def s39 [Amb] (c_0 : Value) (K : Value → WT) : WT :=
  S.join 2 (fun K0 =>
    S.bin .geq c_0 (.int .u8 48) fun v5 =>
    S.gd v5 true (fun k => k c_0) fun v7 =>
    S.gd v5 true (fun k => S.bin .leq v7 (.int .u8 57) k) fun v8 =>
    S.pick v5 v8 (B false) fun v9 =>
    K0 c_0 v9)
  <| fun c_0' v9' => S.fa fun _ =>
  S.cond v9' (
    S.cvt .i64 c_0' fun v11 =>
    S.bin .sub v11 (I 48) fun v12 =>
    K (.tuple #[v12, (B true)])) (
    S.join 2 (fun K1 =>
      S.bin .geq c_0' (.int .u8 97) fun v14 =>
      S.gd v14 true (fun k => k c_0') fun v16 =>
      S.gd v14 true (fun k => S.bin .leq v16 (.int .u8 102) k) fun v17 =>
      S.pick v14 v17 (B false) fun v18 =>
      K1 c_0' v18)
    <| fun c_0'2 v18' => S.fa fun _ =>
    S.cond v18' (
      S.cvt .i64 c_0'2 fun v20 =>
      S.bin .sub v20 (I 87) fun v21 =>
      K (.tuple #[v21, (B true)])) (
      K (.tuple #[(I 0), (B false)])))
theorem e39 [Amb] (c_0 : Value) (K : Value → WT) : s39 c_0 K = shal Tryd.prog Tryd.f39 .p a39 [c_0] K := by kernel_rfl
theorem c39 [Amb] {c_0 : Value} {K : Value → WT} {w : World} (h : s39 c_0 K w) : CF Tryd.prog 39 [c_0] K w := shal_sound Tryd.func39 (e39 c_0 K ▸ h)

/-- (*strings.Builder).Grow -/
def a40 : Ann := .seq (.z) (.join [0, 1] (.seq (.z) (.cond (.z) (.z))) (.seq (.draw [0, 1, 2, 3, 4, 5, 6, 7, 8, 9, 10, 11, 12]) (.cond (.z) (.z))))
def s40 [Amb] (b_0 n_1 : Value) (K : Value → WT) : WT :=
  CF Tryd.prog 53 [b_0] fun v5 =>
  S.join 2 (fun K0 =>
    S.bin .lss n_1 (I 0) fun v7 =>
    S.cond v7 (
      S.pan (.iface 9 (.string ⟨#[115, 116, 114, 105, 110, 103, 115, 46, 66, 117, 105, 108, 100, 101, 114, 46, 71, 114, 111, 119, 58, 32, 110, 101, 103, 97, 116, 105, 118, 101, 32, 99, 111, 117, 110, 116]⟩))) (
      K0 b_0 n_1))
  <| fun b_0' n_1' => S.fa fun _ =>
  S.dr <|
  S.nc b_0' fun v10 =>
  S.fad v10 1 fun v11 =>
  S.ld v11 fun v12 =>
  S.cap v12 fun v13 =>
  S.nc b_0' fun v15 =>
  S.fad v15 1 fun v16 =>
  S.ld v16 fun v17 =>
  S.len v17 fun v18 =>
  S.bin .sub v13 v18 fun v19 =>
  S.bin .lss v19 n_1' fun v21 =>
  S.cond v21 (
    CF Tryd.prog 54 [b_0', n_1'] fun v24 =>
    K (.tuple #[])) (
    K (.tuple #[]))
theorem e40 [Amb] (b_0 n_1 : Value) (K : Value → WT) : s40 b_0 n_1 K = shal Tryd.prog Tryd.f40 .p a40 [b_0, n_1] K := by kernel_rfl
theorem c40 [Amb] {b_0 n_1 : Value} {K : Value → WT} {w : World} (h : s40 b_0 n_1 K w) : CF Tryd.prog 40 [b_0, n_1] K w := shal_sound Tryd.func40 (e40 b_0 n_1 K ▸ h)

/-- (*strings.Builder).WriteString -/
def a41 : Ann := .seq (.z) (.seq (.z) (.seq (.z) (.seq (.z) (.z))))
def s41 [Amb] (b_0 s_1 : Value) (K : Value → WT) : WT :=
  CF Tryd.prog 53 [b_0] fun v7 =>
  S.nc b_0 fun v10 =>
  S.fad v10 1 fun v11 =>
  S.ld v11 fun v12 =>
  V Tryd.prog (Builtin.append_ #[23, 9] 23 #[v12, s_1]) fun v14 =>
  S.nc b_0 fun v15 =>
  S.fad v15 1 fun v16 =>
  S.st 1 v16 v14 fun _ =>
  S.lenS s_1 fun v18 =>
  K (.tuple #[v18, .nilIface])
theorem e41 [Amb] (b_0 s_1 : Value) (K : Value → WT) : s41 b_0 s_1 K = shal Tryd.prog Tryd.f41 .p a41 [b_0, s_1] K := by kernel_rfl
theorem c41 [Amb] {b_0 s_1 : Value} {K : Value → WT} {w : World} (h : s41 b_0 s_1 K w) : CF Tryd.prog 41 [b_0, s_1] K w := shal_sound Tryd.func41 (e41 b_0 s_1 K ▸ h)

/-- strings.Fields -/
def a43 : Ann := .seq (.z) (.seq (.z) (.seq (.z) (.seq (.z) (.seq (.seq (.z) (.blk (.loop [0, 3, 4, 5, 6] (.seq (.seq (.z) (.cond (.z) (.z))) (.seq (.blk (.seq (.z) (.seq (.z) (.seq (.z) (.seq (.z) (.z)))))) (.z)))))) (.seq (.seq (.z) (.cond (.seq (.z) (.z)) (.z))) (.seq (.z) (.seq (.z) (.seq (.z) (.seq (.z) (.seq (.blk (.loop [0, 9, 10, 12] (.seq (.join [0, 9, 10, 12, 53] (.z) (.cond (.z) (.z))) (.blk (.z))))) (.seq (.z) (.seq (.blk (.loop [0, 9, 10, 11, 12] (.seq (.seq (.z) (.cond (.z) (.z))) (.blk (.seq (.seq (.z) (.cond (.seq (.z) (.z)) (.z))) (.seq (.z) (.seq (.z) (.seq (.z) (.seq (.blk (.loop [0, 9, 10, 12] (.seq (.join [0, 9, 10, 12, 91] (.z) (.cond (.z) (.z))) (.blk (.z))))) (.z)))))))))) (.join [9] (.seq (.z) (.cond (.z) (.z))) (.seq (.z) (.z)))))))))))))))
def s43 [Amb] (v0 : Value) (K : Value → WT) : WT :=
  S.loop 5 (fun K0 => fun v0' v3 v4 v5 v6 => S.fa fun _ =>
    S.lenS v0' fun v15 =>
    S.bin .lss v6 v15 fun v16 =>
    S.cond v16 (
      S.chr v0' v6 fun v21 =>
      S.bin .or v5 v21 fun v24 =>
      S.ixA 256 1 (.pointer (some ⟨0, 0, none⟩)) v21 fun v26 =>
      S.ld v26 fun v27 =>
      S.cvt .i64 v27 fun v28 =>
      S.com1 v28 fun v32 =>
      S.bin .and v4 v32 fun v33 =>
      S.bin .add v3 v33 fun v34 =>
      S.bin .add v6 (I 1) fun v18 =>
      K0 v0' v34 v28 v24 v18) (
      S.bin .geq v5 (.int .u8 128) fun v37 =>
      S.cond v37 (
        CF Tryd.prog 55 [v0', (.func (.func 56) #[] #[])] fun v39 =>
        K v39) (
        V Tryd.prog (Instr.makeSlice 52 v3 v3) fun v41 =>
        S.loop 4 (fun K1 => fun v0'2 v9 v10 v12 => S.fa fun _ =>
          S.join 5 (fun K2 =>
            S.lenS v0'2 fun v44 =>
            S.bin .lss v12 v44 fun v45 =>
            S.gd v45 true (fun k => k v0'2) fun v47 =>
            S.gd v45 true (fun k => k v12) fun v48 =>
            S.gd v45 true (fun k => S.chr v47 v48 k) fun v49 =>
            S.gd v45 true (fun k => S.ixA 256 1 (.pointer (some ⟨0, 0, none⟩)) v49 k) fun v50 =>
            S.gd v45 true (fun k => S.ld v50 k) fun v51 =>
            S.gd v45 true (fun k => S.bin .neq v51 (.int .u8 0) k) fun v52 =>
            S.pick v45 v52 (B false) fun v53 =>
            K2 v0'2 v9 v10 v12 v53)
          <| fun v0'3 v9' v10' v12' v53' => S.fa fun _ =>
          S.cond v53' (
            S.bin .add v12' (I 1) fun v55 =>
            K1 v0'3 v9' v10' v55) (
            S.loop 5 (fun K3 => fun v0'4 v9'2 v10'2 v11 v12'2 => S.fa fun _ =>
              S.lenS v0'4 fun v59 =>
              S.bin .lss v12'2 v59 fun v60 =>
              S.cond v60 (
                S.chr v0'4 v12'2 fun v63 =>
                S.ixA 256 1 (.pointer (some ⟨0, 0, none⟩)) v63 fun v64 =>
                S.ld v64 fun v65 =>
                S.bin .eql v65 (.int .u8 0) fun v66 =>
                S.cond v66 (
                  S.bin .add v12'2 (I 1) fun v68 =>
                  K3 v0'4 v9'2 v10'2 v11 v68) (
                  S.slcS v0'4 (some v11) (some v12'2) fun v74 =>
                  S.ixS 1 v9'2 v10'2 fun v75 =>
                  S.st 1 v75 v74 fun _ =>
                  S.bin .add v10'2 (I 1) fun v77 =>
                  S.bin .add v12'2 (I 1) fun v79 =>
                  S.loop 4 (fun K4 => fun v0'5 v9'3 v10'3 v12'3 => S.fa fun _ =>
                    S.join 5 (fun K5 =>
                      S.lenS v0'5 fun v82 =>
                      S.bin .lss v12'3 v82 fun v83 =>
                      S.gd v83 true (fun k => k v0'5) fun v85 =>
                      S.gd v83 true (fun k => k v12'3) fun v86 =>
                      S.gd v83 true (fun k => S.chr v85 v86 k) fun v87 =>
                      S.gd v83 true (fun k => S.ixA 256 1 (.pointer (some ⟨0, 0, none⟩)) v87 k) fun v88 =>
                      S.gd v83 true (fun k => S.ld v88 k) fun v89 =>
                      S.gd v83 true (fun k => S.bin .neq v89 (.int .u8 0) k) fun v90 =>
                      S.pick v83 v90 (B false) fun v91 =>
                      K5 v0'5 v9'3 v10'3 v12'3 v91)
                    <| fun v0'6 v9'4 v10'4 v12'4 v91' => S.fa fun _ =>
                    S.cond v91' (
                      S.bin .add v12'4 (I 1) fun v93 =>
                      K4 v0'6 v9'4 v10'4 v93) (
                      K3 v0'6 v9'4 v10'4 v12'4 v12'4))
                  [v0'4, v9'2, v77, v79])) (
                S.join 1 (fun K6 =>
                  S.lenS v0'4 fun v97 =>
                  S.bin .lss v11 v97 fun v98 =>
                  S.cond v98 (
                    S.slcS v0'4 (some v11) none fun v103 =>
                    S.ixS 1 v9'2 v10'2 fun v104 =>
                    S.st 1 v104 v103 fun _ =>
                    K6 v9'2) (
                    K6 v9'2))
                <| fun v9'5 => S.fa fun _ =>
                K v9'5))
            [v0'3, v9', v10', v12', v12']))
        [v0', v41, (I 0), (I 0)])))
  [v0, (I 0), (I 1), (.int .u8 0), (I 0)]
theorem e43 [Amb] (v0 : Value) (K : Value → WT) : s43 v0 K = shal Tryd.prog Tryd.f43 .p a43 [v0] K := by kernel_rfl
theorem c43 [Amb] {v0 : Value} {K : Value → WT} {w : World} (h : s43 v0 K w) : CF Tryd.prog 43 [v0] K w := shal_sound Tryd.func43 (e43 v0 K ▸ h)

/-- aumbry/script.keep -/
def a44 : Ann := .seq (.z) (.seq (.z) (.seq (.seq (.z) (.blk (.loop [3, 6, 7, 8] (.seq (.z) (.seq (.cond (.z) (.z)) (.join [3, 6, 7, 8] (.blk (.seq (.z) (.seq (.z) (.cond (.z) (.z))))) (.z))))))) (.seq (.z) (.z))))
def s44 [Amb] (l_0 : Value) (K : Value → WT) : WT :=
  S.len l_0 fun v7 =>
  S.loop 4 (fun K0 => fun out_3 v6 v7' v8 => S.fa fun _ =>
    S.bin .lss v8 v7' fun v9 =>
    S.cond v9 (
      S.join 4 (fun K1 =>
        S.ixS 1 v6 v8 fun v10 =>
        S.ld v10 fun v11 =>
        S.cond v11 (
          S.sbin .add out_3 (.string ⟨#[49]⟩) fun v14 =>
          K1 v14 v6 v7' v8) (
          S.sbin .add out_3 (.string ⟨#[48]⟩) fun v16 =>
          K1 v16 v6 v7' v8))
      <| fun out_3' v6' v7'2 v8' => S.fa fun _ =>
      S.bin .add v8' (I 1) fun v17 =>
      K0 out_3' v6' v7'2 v17) (
      K out_3))
  [(.string ⟨#[107]⟩), l_0, v7, (I 0)]
theorem e44 [Amb] (l_0 : Value) (K : Value → WT) : s44 l_0 K = shal Tryd.prog Tryd.f44 .p a44 [l_0] K := by kernel_rfl
theorem c44 [Amb] {l_0 : Value} {K : Value → WT} {w : World} (h : s44 l_0 K w) : CF Tryd.prog 44 [l_0] K w := shal_sound Tryd.func44 (e44 l_0 K ▸ h)

/-- slices.Equal[[]byte,byte] -/
def a45 : Ann := .seq (.z) (.seq (.seq (.z) (.cond (.seq (.z) (.z)) (.z))) (.seq (.seq (.z) (.blk (.loop [0, 1, 12, 13] (.seq (.z) (.seq (.cond (.z) (.z)) (.seq (.blk (.seq (.z) (.seq (.draw [0, 1, 2, 3, 4, 5, 6, 7, 8]) (.cond (.seq (.z) (.z)) (.z))))) (.z))))))) (.seq (.z) (.z))))
def s45 [Amb] (s1_0 s2_1 : Value) (K : Value → WT) : WT :=
  S.len s1_0 fun v7 =>
  S.len s2_1 fun v9 =>
  S.bin .neq v7 v9 fun v10 =>
  S.cond v10 (
    K (B false)) (
    S.len s1_0 fun v12 =>
    S.loop 4 (fun K0 => fun s1_0' s2_1' v12' v13 => S.fa fun _ =>
      S.bin .lss v13 v12' fun v14 =>
      S.cond v14 (
        S.dr <|
        S.ixS 1 s1_0' v13 fun v18 =>
        S.ld v18 fun v19 =>
        S.ixS 1 s2_1' v13 fun v22 =>
        S.ld v22 fun v23 =>
        S.bin .neq v19 v23 fun v24 =>
        S.cond v24 (
          K (B false)) (
          S.bin .add v13 (I 1) fun v25 =>
          K0 s1_0' s2_1' v12' v25)) (
        K (B true)))
    [s1_0, s2_1, v12, (I 0)])
theorem e45 [Amb] (s1_0 s2_1 : Value) (K : Value → WT) : s45 s1_0 s2_1 K = shal Tryd.prog Tryd.f45 .p a45 [s1_0, s2_1] K := by kernel_rfl
theorem c45 [Amb] {s1_0 s2_1 : Value} {K : Value → WT} {w : World} (h : s45 s1_0 s2_1 K w) : CF Tryd.prog 45 [s1_0, s2_1] K w := shal_sound Tryd.func45 (e45 s1_0 s2_1 K ▸ h)

/-- slices.Equal[[]bool,bool] -/
def a46 : Ann := .seq (.z) (.seq (.seq (.z) (.cond (.seq (.z) (.z)) (.z))) (.seq (.seq (.z) (.blk (.loop [0, 1, 12, 13] (.seq (.z) (.seq (.cond (.z) (.z)) (.seq (.blk (.seq (.z) (.seq (.draw [0, 1, 2, 3, 4, 5, 6, 7, 8]) (.cond (.seq (.z) (.z)) (.z))))) (.z))))))) (.seq (.z) (.z))))
def s46 [Amb] (s1_0 s2_1 : Value) (K : Value → WT) : WT :=
  S.len s1_0 fun v7 =>
  S.len s2_1 fun v9 =>
  S.bin .neq v7 v9 fun v10 =>
  S.cond v10 (
    K (B false)) (
    S.len s1_0 fun v12 =>
    S.loop 4 (fun K0 => fun s1_0' s2_1' v12' v13 => S.fa fun _ =>
      S.bin .lss v13 v12' fun v14 =>
      S.cond v14 (
        S.dr <|
        S.ixS 1 s1_0' v13 fun v18 =>
        S.ld v18 fun v19 =>
        S.ixS 1 s2_1' v13 fun v22 =>
        S.ld v22 fun v23 =>
        S.beq .neq v19 v23 fun v24 =>
        S.cond v24 (
          K (B false)) (
          S.bin .add v13 (I 1) fun v25 =>
          K0 s1_0' s2_1' v12' v25)) (
        K (B true)))
    [s1_0, s2_1, v12, (I 0)])
theorem e46 [Amb] (s1_0 s2_1 : Value) (K : Value → WT) : s46 s1_0 s2_1 K = shal Tryd.prog Tryd.f46 .p a46 [s1_0, s2_1] K := by kernel_rfl
theorem c46 [Amb] {s1_0 s2_1 : Value} {K : Value → WT} {w : World} (h : s46 s1_0 s2_1 K w) : CF Tryd.prog 46 [s1_0, s2_1] K w := shal_sound Tryd.func46 (e46 s1_0 s2_1 K ▸ h)

/-- aumbry/script.plain -/
def a47 : Ann := .seq (.z) (.seq (.z) (.z))
def s47 [Amb] (b_0 : Value) (K : Value → WT) : WT :=
  CF Tryd.prog 57 [b_0, (.func (.func 58) #[] #[])] fun v4 =>
  S.not1 v4 fun v5 =>
  K v5
theorem e47 [Amb] (b_0 : Value) (K : Value → WT) : s47 b_0 K = shal Tryd.prog Tryd.f47 .p a47 [b_0] K := by kernel_rfl
theorem c47 [Amb] {b_0 : Value} {K : Value → WT} {w : World} (h : s47 b_0 K w) : CF Tryd.prog 47 [b_0] K w := shal_sound Tryd.func47 (e47 b_0 K ▸ h)

/-- strings.Cut -/
def a48 : Ann := .seq (.z) (.seq (.z) (.z))
def s48 [Amb] (s_0 sep_1 : Value) (K : Value → WT) : WT :=
  CF Tryd.prog 59 [s_0, sep_1] fun v9 =>
  S.ext v9 0 fun v10 =>
  S.ext v9 1 fun v11 =>
  S.ext v9 2 fun v12 =>
  K (.tuple #[v10, v11, v12])
theorem e48 [Amb] (s_0 sep_1 : Value) (K : Value → WT) : s48 s_0 sep_1 K = shal Tryd.prog Tryd.f48 .p a48 [s_0, sep_1] K := by kernel_rfl
theorem c48 [Amb] {s_0 sep_1 : Value} {K : Value → WT} {w : World} (h : s48 s_0 sep_1 K w) : CF Tryd.prog 48 [s_0, sep_1] K w := shal_sound Tryd.func48 (e48 s_0 sep_1 K ▸ h)

/-- aumbry/record.Name -/
def a49 : Ann := .seq (.z) (.seq (.seq (.z) (.blk (.loop [0, 5, 6] (.seq (.z) (.seq (.cond (.z) (.z)) (.seq (.blk (.seq (.z) (.join [0, 5, 6, 18] (.z) (.cond (.seq (.z) (.z)) (.z))))) (.z))))))) (.seq (.z) (.z)))
def s49 [Amb] (s_0 : Value) (K : Value → WT) : WT :=
  S.lenS s_0 fun v5 =>
  S.loop 3 (fun K0 => fun s_0' v5' v6 => S.fa fun _ =>
    S.bin .lss v6 v5' fun v7 =>
    S.cond v7 (
      S.join 4 (fun K1 =>
        S.chr s_0' v6 fun v11 =>
        S.bin .lss v11 (.int .u8 33) fun v12 =>
        S.gd v12 false (fun k => k s_0') fun v14 =>
        S.gd v12 false (fun k => k v6) fun v15 =>
        S.gd v12 false (fun k => S.chr v14 v15 k) fun v16 =>
        S.gd v12 false (fun k => S.bin .gtr v16 (.int .u8 126) k) fun v17 =>
        S.pick v12 (B true) v17 fun v18 =>
        K1 s_0' v5' v6 v18)
      <| fun s_0'2 v5'2 v6' v18' => S.fa fun _ =>
      S.cond v18' (
        K (B false)) (
        S.bin .add v6' (I 1) fun v19 =>
        K0 s_0'2 v5'2 v19)) (
      S.sbin .neq s_0' (.string ⟨#[]⟩) fun v21 =>
      S.gd v21 true (fun k => k s_0') fun v23 =>
      S.gd v21 true (fun k => S.lenS v23 k) fun v24 =>
      S.gd v21 true (fun k => S.bin .leq v24 (I 32) k) fun v25 =>
      S.pick v21 v25 (B false) fun v26 =>
      K v26))
  [s_0, v5, (I 0)]
theorem e49 [Amb] (s_0 : Value) (K : Value → WT) : s49 s_0 K = shal Tryd.prog Tryd.f49 .p a49 [s_0] K := by kernel_rfl
theorem c49 [Amb] {s_0 : Value} {K : Value → WT} {w : World} (h : s49 s_0 K w) : CF Tryd.prog 49 [s_0] K w := shal_sound Tryd.func49 (e49 s_0 K ▸ h)

/-- aumbry/script.parsed -/
def a50 : Ann := .seq (.z) (.seq (.z) (.join [0, 3] (.z) (.seq (.seq (.z) (.blk (.loop [0, 3, 23, 24] (.seq (.z) (.seq (.cond (.z) (.z)) (.seq (.blk (.seq (.z) (.join [0, 3, 4, 23, 24] (.z) (.z)))) (.z))))))) (.seq (.z) (.seq (.z) (.z))))))
def s50 [Amb] (w_0 : Value) (K : Value → WT) : WT :=
  S.join 2 (fun K0 =>
    S.sbin .eql w_0 (.string ⟨#[48]⟩) fun v6 =>
    S.gd v6 false (fun k => k w_0) fun v8 =>
    S.gd v6 false (fun k => S.sbin .neq v8 (.string ⟨#[]⟩) k) fun v9 =>
    S.gd v6 false (fun k => k v9) fun v10 =>
    S.gd v10 true (fun k => k w_0) fun v11 =>
    S.gd v10 true (fun k => S.chr v11 (I 0) k) fun v12 =>
    S.gd v10 true (fun k => S.bin .neq v12 (.int .u8 48) k) fun v13 =>
    S.gd v6 false (fun k => S.pick v10 v13 (B false) k) fun v14 =>
    S.gd v6 false (fun k => k v14) fun v15 =>
    S.gd v15 true (fun k => k w_0) fun v16 =>
    S.gd v15 true (fun k => S.lenS v16 k) fun v17 =>
    S.gd v15 true (fun k => S.bin .leq v17 (I 16) k) fun v18 =>
    S.gd v6 false (fun k => S.pick v15 v18 (B false) k) fun v19 =>
    S.pick v6 (B true) v19 fun v20 =>
    CF Tryd.prog 34 [v20] fun v21 =>
    K0 w_0 (I 0))
  <| fun w_0' n_3 => S.fa fun _ =>
  S.lenS w_0' fun v23 =>
  S.loop 4 (fun K1 => fun w_0'2 n_3' v23' v24 => S.fa fun _ =>
    S.bin .lss v24 v23' fun v25 =>
    S.cond v25 (
      S.join 5 (fun K2 =>
        S.chr w_0'2 v24 fun v29 =>
        S.bin .geq v29 (.int .u8 48) fun v30 =>
        S.gd v30 true (fun k => k w_0'2) fun v32 =>
        S.gd v30 true (fun k => k v24) fun v33 =>
        S.gd v30 true (fun k => S.chr v32 v33 k) fun v34 =>
        S.gd v30 true (fun k => S.bin .leq v34 (.int .u8 57) k) fun v35 =>
        S.pick v30 v35 (B false) fun v36 =>
        CF Tryd.prog 34 [v36] fun v37 =>
        K2 w_0'2 n_3' v24 v23' v24)
      <| fun w_0'3 n_3'2 i_4 v23'2 v24' => S.fa fun _ =>
      S.bin .mul (I 10) n_3'2 fun v39 =>
      S.chr w_0'3 i_4 fun v42 =>
      S.bin .sub v42 (.int .u8 48) fun v43 =>
      S.cvt .i64 v43 fun v44 =>
      S.bin .add v39 v44 fun v45 =>
      S.bin .add v24' (I 1) fun v46 =>
      K1 w_0'3 v45 v23'2 v46) (
      S.bin .leq n_3' (I 9007199254740991) fun v48 =>
      CF Tryd.prog 34 [v48] fun v49 =>
      K n_3'))
  [w_0', n_3, v23, (I 0)]
theorem e50 [Amb] (w_0 : Value) (K : Value → WT) : s50 w_0 K = shal Tryd.prog Tryd.f50 .p a50 [w_0] K := by kernel_rfl
theorem c50 [Amb] {w_0 : Value} {K : Value → WT} {w : World} (h : s50 w_0 K w) : CF Tryd.prog 50 [w_0] K w := shal_sound Tryd.func50 (e50 w_0 K ▸ h)

/-- strings.IndexByte -/
def a51 : Ann := .seq (.z) (.seq (.z) (.z))
def s51 [Amb] (s_0 c_1 : Value) (K : Value → WT) : WT :=
  CF Tryd.prog 60 [s_0, c_1] fun v7 =>
  K v7
theorem e51 [Amb] (s_0 c_1 : Value) (K : Value → WT) : s51 s_0 c_1 K = shal Tryd.prog Tryd.f51 .p a51 [s_0, c_1] K := by kernel_rfl
theorem c51 [Amb] {s_0 c_1 : Value} {K : Value → WT} {w : World} (h : s51 s_0 c_1 K w) : CF Tryd.prog 51 [s_0, c_1] K w := shal_sound Tryd.func51 (e51 s_0 c_1 K ▸ h)

/-- strings.HasPrefix -/
def a52 : Ann := .seq (.z) (.seq (.z) (.z))
def s52 [Amb] (s_0 prefix_1 : Value) (K : Value → WT) : WT :=
  CF Tryd.prog 61 [s_0, prefix_1] fun v7 =>
  K v7
theorem e52 [Amb] (s_0 prefix_1 : Value) (K : Value → WT) : s52 s_0 prefix_1 K = shal Tryd.prog Tryd.f52 .p a52 [s_0, prefix_1] K := by kernel_rfl
theorem c52 [Amb] {s_0 prefix_1 : Value} {K : Value → WT} {w : World} (h : s52 s_0 prefix_1 K w) : CF Tryd.prog 52 [s_0, prefix_1] K w := shal_sound Tryd.func52 (e52 s_0 prefix_1 K ▸ h)

/-- (*strings.Builder).grow -/
def a54 : Ann := .seq (.draw [0, 1, 2, 3, 4, 5, 6, 7, 9, 10, 11, 12, 13, 8, 14, 15]) (.seq (.z) (.z))
def s54 [Amb] (b_0 n_1 : Value) (K : Value → WT) : WT :=
  S.dr <|
  S.nc b_0 fun v6 =>
  S.fad v6 1 fun v7 =>
  S.ld v7 fun v8 =>
  S.cap v8 fun v9 =>
  S.bin .mul (I 2) v9 fun v10 =>
  S.bin .add v10 n_1 fun v12 =>
  S.nc b_0 fun v15 =>
  S.fad v15 1 fun v16 =>
  S.ld v16 fun v17 =>
  S.len v17 fun v18 =>
  Gives Tryd.prog (callFunc 63 #[v12]) fun v13 =>
  S.rck [S.ld v16 (fun v' _ => v' = v17)] <|
  S.slc 1 v13 none (some v18) none fun v19 =>
  S.nc b_0 fun v22 =>
  S.fad v22 1 fun v23 =>
  S.ld v23 fun v24 =>
  V Tryd.prog (Builtin.copy_ #[23, 23] 3 #[v19, v24]) fun v25 =>
  S.nc b_0 fun v28 =>
  S.fad v28 1 fun v29 =>
  S.st 1 v29 v19 fun _ =>
  K (.tuple #[])
theorem e54 [Amb] (b_0 n_1 : Value) (K : Value → WT) : s54 b_0 n_1 K = shal Tryd.prog Tryd.f54 .p a54 [b_0, n_1] K := by kernel_rfl
theorem c54 [Amb] {b_0 n_1 : Value} {K : Value → WT} {w : World} (h : s54 b_0 n_1 K w) : CF Tryd.prog 54 [b_0, n_1] K w := shal_sound Tryd.func54 (e54 b_0 n_1 K ▸ h)

/-- strings.FieldsFunc -/
def a55 : Ann := .seq (.z) (.seq (.z) (.seq (.z) (.seq (.seq (.z) (.blk (.loop [0, 1, 5, 6, 14] (.seq (.z) (.seq (.cond (.z) (.z)) (.blk (.seq (.z) (.seq (.z) (.cond (.seq (.z) (.cond (.seq (.z) (.z)) (.z))) (.seq (.z) (.cond (.z) (.z)))))))))))) (.join [0, 5] (.seq (.z) (.cond (.z) (.z))) (.seq (.z) (.seq (.seq (.z) (.blk (.loop [0, 9, 47, 48, 49] (.seq (.z) (.seq (.cond (.z) (.z)) (.seq (.blk (.seq (.z) (.z))) (.z))))))) (.seq (.z) (.z))))))))
def s55 [Amb] (v0 v1 : Value) (K : Value → WT) : WT :=
  V Tryd.prog (Instr.makeSlice 101 (I 0) (I 32)) fun v12 =>
  V Tryd.prog (Instr.range 9 v0) fun v14 =>
  S.loop 5 (fun K0 => fun v0' v1' v5 v6 v14' => S.fa fun _ =>
    V Tryd.prog (Instr.next v14' true 0) fun v15 =>
    S.ext v15 0 fun v16 =>
    S.cond v16 (
      S.ext v15 1 fun v17 =>
      S.ext v15 2 fun v18 =>
      S.cvv Tryd.prog v1' [v18] fun v21 =>
      S.cond v21 (
        S.bin .geq v6 (I 0) fun v23 =>
        S.cond v23 (
          V Tryd.prog (Instr.build 103 #[(0, v6), (1, v17)]) fun v27 =>
          V Tryd.prog (Instr.buildSlice 101 1 #[(0, v27)]) fun v28 =>
          V Tryd.prog (Builtin.append_ #[101, 101] 101 #[v5, v28]) fun v29 =>
          S.com1 v6 fun v31 =>
          K0 v0' v1' v29 v31 v14') (
          K0 v0' v1' v5 v6 v14')) (
        S.bin .lss v6 (I 0) fun v33 =>
        S.cond v33 (
          K0 v0' v1' v5 v17 v14') (
          K0 v0' v1' v5 v6 v14'))) (
      S.join 2 (fun K1 =>
        S.bin .geq v6 (I 0) fun v36 =>
        S.cond v36 (
          S.lenS v0' fun v40 =>
          V Tryd.prog (Instr.build 103 #[(0, v6), (1, v40)]) fun v41 =>
          V Tryd.prog (Instr.buildSlice 101 1 #[(0, v41)]) fun v42 =>
          V Tryd.prog (Builtin.append_ #[101, 101] 101 #[v5, v42]) fun v43 =>
          K1 v0' v43) (
          K1 v0' v5))
      <| fun v0'2 v5' => S.fa fun _ =>
      S.len v5' fun v45 =>
      V Tryd.prog (Instr.makeSlice 52 v45 v45) fun v46 =>
      S.len v5' fun v48 =>
      S.loop 5 (fun K2 => fun v0'3 v9 v47 v48' v49 => S.fa fun _ =>
        S.bin .lss v49 v48' fun v50 =>
        S.cond v50 (
          S.ixS 2 v47 v49 fun v52 =>
          S.ldN 2 v52 fun v53 =>
          S.box 103 (.agg #[(.int .i64 0), (.int .i64 0)]) fun v11 =>
          S.st 2 v11 v53 fun _ =>
          S.fad v11 0 fun v57 =>
          S.ld v57 fun v58 =>
          S.fad v11 1 fun v59 =>
          S.ld v59 fun v60 =>
          S.slcS v0'3 (some v58) (some v60) fun v61 =>
          S.ixS 1 v9 v49 fun v62 =>
          S.st 1 v62 v61 fun _ =>
          S.bin .add v49 (I 1) fun v63 =>
          K2 v0'3 v9 v47 v48' v63) (
          K v9))
      [v0'2, v46, v5', v48, (I 0)]))
  [v0, v1, v12, (I (-1)), v14]
theorem e55 [Amb] (v0 v1 : Value) (K : Value → WT) : s55 v0 v1 K = shal Tryd.prog Tryd.f55 .p a55 [v0, v1] K := by kernel_rfl
theorem c55 [Amb] {v0 v1 : Value} {K : Value → WT} {w : World} (h : s55 v0 v1 K w) : CF Tryd.prog 55 [v0, v1] K w := shal_sound Tryd.func55 (e55 v0 v1 K ▸ h)

/-- unicode.IsSpace -/
def a56 : Ann := .seq (.z) (.seq (.seq (.z) (.cond (.seq (.seq (.z) (.blk (.join [7] (.seq (.z) (.cond (.z) (.seq (.z) (.cond (.z) (.seq (.z) (.cond (.z) (.seq (.z) (.cond (.z) (.seq (.z) (.cond (.z) (.seq (.z) (.cond (.z) (.seq (.z) (.cond (.z) (.z))))))))))))))) (.cond (.seq (.z) (.z)) (.z))))) (.seq (.z) (.z))) (.z))) (.seq (.z) (.z)))
def s56 [Amb] (r_0 : Value) (K : Value → WT) : WT :=
  S.cvt .u32 r_0 fun v4 =>
  S.bin .leq v4 (.int .u32 255) fun v5 =>
  S.cond v5 (
    S.join 1 (fun K0 =>
      S.bin .eql r_0 (.int .i32 9) fun v8 =>
      S.cond v8 (
        K0 v8) (
        S.bin .eql r_0 (.int .i32 10) fun v9 =>
        S.cond v9 (
          K0 v9) (
          S.bin .eql r_0 (.int .i32 11) fun v10 =>
          S.cond v10 (
            K0 v10) (
            S.bin .eql r_0 (.int .i32 12) fun v11 =>
            S.cond v11 (
              K0 v11) (
              S.bin .eql r_0 (.int .i32 13) fun v12 =>
              S.cond v12 (
                K0 v12) (
                S.bin .eql r_0 (.int .i32 32) fun v13 =>
                S.cond v13 (
                  K0 v13) (
                  S.bin .eql r_0 (.int .i32 133) fun v14 =>
                  S.cond v14 (
                    K0 v14) (
                    S.bin .eql r_0 (.int .i32 160) fun v15 =>
                    K0 v15))))))))
    <| fun v7 => S.fa fun _ =>
    S.cond v7 (
      K (B true)) (
      K (B false))) (
    S.ld (.pointer (some ⟨1, 0, none⟩)) fun v16 =>
    CF Tryd.prog 64 [v16, r_0] fun v18 =>
    K v18)
theorem e56 [Amb] (r_0 : Value) (K : Value → WT) : s56 r_0 K = shal Tryd.prog Tryd.f56 .p a56 [r_0] K := by kernel_rfl
theorem c56 [Amb] {r_0 : Value} {K : Value → WT} {w : World} (h : s56 r_0 K w) : CF Tryd.prog 56 [r_0] K w := shal_sound Tryd.func56 (e56 r_0 K ▸ h)

/-- slices.ContainsFunc[[]byte,byte] -/
def a57 : Ann := .seq (.z) (.seq (.z) (.z))
def s57 [Amb] (s_0 f_1 : Value) (K : Value → WT) : WT :=
  CF Tryd.prog 65 [s_0, f_1] fun v7 =>
  S.bin .geq v7 (I 0) fun v8 =>
  K v8
theorem e57 [Amb] (s_0 f_1 : Value) (K : Value → WT) : s57 s_0 f_1 K = shal Tryd.prog Tryd.f57 .p a57 [s_0, f_1] K := by kernel_rfl
theorem c57 [Amb] {s_0 f_1 : Value} {K : Value → WT} {w : World} (h : s57 s_0 f_1 K w) : CF Tryd.prog 57 [s_0, f_1] K w := shal_sound Tryd.func57 (e57 s_0 f_1 K ▸ h)

/-- aumbry/script.plain$1 -/
def a58 : Ann := .seq (.z) (.seq (.z) (.z))
def s58 [Amb] (c_0 : Value) (K : Value → WT) : WT :=
  S.bin .lss c_0 (.int .u8 32) fun v4 =>
  S.gd v4 false (fun k => k c_0) fun v6 =>
  S.gd v4 false (fun k => S.bin .gtr v6 (.int .u8 126) k) fun v7 =>
  S.pick v4 (B true) v7 fun v8 =>
  K v8
theorem e58 [Amb] (c_0 : Value) (K : Value → WT) : s58 c_0 K = shal Tryd.prog Tryd.f58 .p a58 [c_0] K := by kernel_rfl
theorem c58 [Amb] {c_0 : Value} {K : Value → WT} {w : World} (h : s58 c_0 K w) : CF Tryd.prog 58 [c_0] K w := shal_sound Tryd.func58 (e58 c_0 K ▸ h)

/-- internal/stringslite.Cut -/
def a59 : Ann := .seq (.z) (.seq (.seq (.z) (.seq (.z) (.cond (.seq (.draw [0, 1, 2, 3, 4, 5, 6, 7, 8, 9, 10, 11]) (.z)) (.z)))) (.seq (.z) (.z)))
def s59 [Amb] (s_0 sep_1 : Value) (K : Value → WT) : WT :=
  CF Tryd.prog 66 [s_0, sep_1] fun v10 =>
  S.bin .geq v10 (I 0) fun v12 =>
  S.cond v12 (
    S.dr <|
    S.slcS s_0 none (some v10) fun v15 =>
    S.lenS sep_1 fun v19 =>
    S.bin .add v10 v19 fun v20 =>
    S.slcS s_0 (some v20) none fun v21 =>
    K (.tuple #[v15, v21, (B true)])) (
    K (.tuple #[s_0, (.string ⟨#[]⟩), (B false)]))
theorem e59 [Amb] (s_0 sep_1 : Value) (K : Value → WT) : s59 s_0 sep_1 K = shal Tryd.prog Tryd.f59 .p a59 [s_0, sep_1] K := by kernel_rfl
theorem c59 [Amb] {s_0 sep_1 : Value} {K : Value → WT} {w : World} (h : s59 s_0 sep_1 K w) : CF Tryd.prog 59 [s_0, sep_1] K w := shal_sound Tryd.func59 (e59 s_0 sep_1 K ▸ h)

/-- internal/stringslite.IndexByte -/
def a60 : Ann := .seq (.z) (.seq (.z) (.z))
def s60 [Amb] (s_0 c_1 : Value) (K : Value → WT) : WT :=
  Gives Tryd.prog (callFunc 67 #[s_0, c_1]) fun v7 =>
  K v7
theorem e60 [Amb] (s_0 c_1 : Value) (K : Value → WT) : s60 s_0 c_1 K = shal Tryd.prog Tryd.f60 .p a60 [s_0, c_1] K := by kernel_rfl
theorem c60 [Amb] {s_0 c_1 : Value} {K : Value → WT} {w : World} (h : s60 s_0 c_1 K w) : CF Tryd.prog 60 [s_0, c_1] K w := shal_sound Tryd.func60 (e60 s_0 c_1 K ▸ h)

/-- internal/stringslite.HasPrefix -/
def a61 : Ann := .seq (.z) (.seq (.z) (.z))
def s61 [Amb] (s_0 prefix_1 : Value) (K : Value → WT) : WT :=
  S.lenS s_0 fun v6 =>
  S.lenS prefix_1 fun v8 =>
  S.bin .geq v6 v8 fun v9 =>
  S.gd v9 true (fun k => k s_0) fun v11 =>
  S.gd v9 true (fun k => k prefix_1) fun v12 =>
  S.gd v9 true (fun k => S.lenS v12 k) fun v13 =>
  S.gd v9 true (fun k => S.slcS v11 none (some v13) k) fun v14 =>
  S.gd v9 true (fun k => k prefix_1) fun v15 =>
  S.gd v9 true (fun k => S.sbin .eql v14 v15 k) fun v16 =>
  S.pick v9 v16 (B false) fun v17 =>
  K v17
theorem e61 [Amb] (s_0 prefix_1 : Value) (K : Value → WT) : s61 s_0 prefix_1 K = shal Tryd.prog Tryd.f61 .p a61 [s_0, prefix_1] K := by kernel_rfl
theorem c61 [Amb] {s_0 prefix_1 : Value} {K : Value → WT} {w : World} (h : s61 s_0 prefix_1 K w) : CF Tryd.prog 61 [s_0, prefix_1] K w := shal_sound Tryd.func61 (e61 s_0 prefix_1 K ▸ h)

/-- unicode.isExcludingLatin -/
def a64 : Ann := .seq (.z) (.seq (.z) (.seq (.seq (.z) (.join [0, 1, 5, 6, 32] (.z) (.cond (.seq (.z) (.z)) (.z)))) (.seq (.z) (.seq (.join [1, 7, 54] (.z) (.cond (.seq (.z) (.z)) (.z))) (.seq (.z) (.z))))))
def s64 [Amb] (rangeTab_0 r_1 : Value) (K : Value → WT) : WT :=
  S.nc rangeTab_0 fun v9 =>
  S.fad v9 0 fun v10 =>
  S.ld v10 fun v11 =>
  S.nc rangeTab_0 fun v13 =>
  S.fad v13 2 fun v14 =>
  S.ld v14 fun v15 =>
  S.join 5 (fun K0 =>
    S.len v11 fun v17 =>
    S.bin .gtr v17 v15 fun v19 =>
    S.gd v19 true (fun k => k r_1) fun v21 =>
    S.gd v19 true (fun k => S.cvt .u32 v21 k) fun v22 =>
    S.gd v19 true (fun k => k v11) fun v23 =>
    S.gd v19 true (fun k => k v11) fun v24 =>
    S.gd v19 true (fun k => S.len v24 k) fun v25 =>
    S.gd v19 true (fun k => S.bin .sub v25 (I 1) k) fun v26 =>
    S.gd v19 true (fun k => S.ixS 3 v23 v26 k) fun v27 =>
    S.gd v19 true (fun k => S.fad v27 1 k) fun v28 =>
    S.gd v19 true (fun k => S.ld v28 k) fun v29 =>
    S.gd v19 true (fun k => S.cvt .u32 v29 k) fun v30 =>
    S.gd v19 true (fun k => S.bin .leq v22 v30 k) fun v31 =>
    S.pick v19 v31 (B false) fun v32 =>
    K0 rangeTab_0 r_1 v11 v15 v32)
  <| fun rangeTab_0' r_1' r16_5 off_6 v32' => S.fa fun _ =>
  S.cond v32' (
    S.slc 3 r16_5 (some off_6) none none fun v35 =>
    S.cvt .u16 r_1' fun v37 =>
    CF Tryd.prog 68 [v35, v37] fun v38 =>
    K v38) (
    S.nc rangeTab_0' fun v40 =>
    S.fad v40 1 fun v41 =>
    S.ld v41 fun v42 =>
    S.join 3 (fun K1 =>
      S.len v42 fun v44 =>
      S.bin .gtr v44 (I 0) fun v45 =>
      S.gd v45 true (fun k => k r_1') fun v47 =>
      S.gd v45 true (fun k => k v42) fun v48 =>
      S.gd v45 true (fun k => S.ixS 3 v48 (I 0) k) fun v49 =>
      S.gd v45 true (fun k => S.fad v49 0 k) fun v50 =>
      S.gd v45 true (fun k => S.ld v50 k) fun v51 =>
      S.gd v45 true (fun k => S.cvt .i32 v51 k) fun v52 =>
      S.gd v45 true (fun k => S.bin .geq v47 v52 k) fun v53 =>
      S.pick v45 v53 (B false) fun v54 =>
      K1 r_1' v42 v54)
    <| fun r_1'2 r32_7 v54' => S.fa fun _ =>
    S.cond v54' (
      S.cvt .u32 r_1'2 fun v57 =>
      CF Tryd.prog 69 [r32_7, v57] fun v58 =>
      K v58) (
      K (B false)))
theorem e64 [Amb] (rangeTab_0 r_1 : Value) (K : Value → WT) : s64 rangeTab_0 r_1 K = shal Tryd.prog Tryd.f64 .p a64 [rangeTab_0, r_1] K := by kernel_rfl
theorem c64 [Amb] {rangeTab_0 r_1 : Value} {K : Value → WT} {w : World} (h : s64 rangeTab_0 r_1 K w) : CF Tryd.prog 64 [rangeTab_0, r_1] K w := shal_sound Tryd.func64 (e64 rangeTab_0 r_1 K ▸ h)

/-- slices.IndexFunc[[]byte,byte] -/
def a65 : Ann := .seq (.z) (.seq (.seq (.z) (.blk (.loop [0, 1, 7, 8] (.seq (.z) (.seq (.cond (.z) (.z)) (.seq (.blk (.seq (.z) (.seq (.z) (.cond (.seq (.z) (.z)) (.z))))) (.z))))))) (.seq (.z) (.z)))
def s65 [Amb] (s_0 f_1 : Value) (K : Value → WT) : WT :=
  S.len s_0 fun v7 =>
  S.loop 4 (fun K0 => fun s_0' f_1' v7' v8 => S.fa fun _ =>
    S.bin .lss v8 v7' fun v9 =>
    S.cond v9 (
      S.ixS 1 s_0' v8 fun v14 =>
      S.ld v14 fun v15 =>
      S.cvv Tryd.prog f_1' [v15] fun v16 =>
      S.cond v16 (
        K v8) (
        S.bin .add v8 (I 1) fun v18 =>
        K0 s_0' f_1' v7' v18)) (
      K (I (-1))))
  [s_0, f_1, v7, (I 0)]
theorem e65 [Amb] (s_0 f_1 : Value) (K : Value → WT) : s65 s_0 f_1 K = shal Tryd.prog Tryd.f65 .p a65 [s_0, f_1] K := by kernel_rfl
theorem c65 [Amb] {s_0 f_1 : Value} {K : Value → WT} {w : World} (h : s65 s_0 f_1 K w) : CF Tryd.prog 65 [s_0, f_1] K w := shal_sound Tryd.func65 (e65 s_0 f_1 K ▸ h)

/-- internal/stringslite.Index -/
def a66 : Ann := .seq (.z) (.seq (.z) (.seq (.blk (.join [0, 1, 5, 16] (.z) (.cond (.seq (.z) (.z)) (.seq (.z) (.cond (.seq (.z) (.z)) (.seq (.z) (.cond (.seq (.z) (.z)) (.join [0, 1, 5, 36] (.z) (.cond (.seq (.z) (.z)) (.z)))))))))) (.seq (.z) (.seq (.z) (.seq (.z) (.seq (.z) (.seq (.z) (.seq (.blk (.loop [0, 1, 5, 6, 7, 8, 9, 10] (.seq (.seq (.z) (.cond (.z) (.z))) (.blk (.join [0, 1, 5, 6, 7, 8, 9, 10] (.seq (.z) (.cond (.seq (.z) (.seq (.seq (.z) (.cond (.seq (.z) (.z)) (.z))) (.z))) (.z))) (.seq (.join [0, 1, 5, 6, 7, 8, 9, 10, 93] (.z) (.cond (.seq (.z) (.z)) (.z))) (.seq (.z) (.seq (.z) (.join [0, 1, 5, 6, 7, 8, 9, 10, 107] (.z) (.cond (.seq (.z) (.seq (.seq (.z) (.cond (.seq (.z) (.z)) (.z))) (.seq (.z) (.z)))) (.join [0, 1, 5, 6, 7, 8, 9, 10, 132] (.z) (.cond (.seq (.z) (.seq (.seq (.z) (.cond (.seq (.z) (.z)) (.z))) (.seq (.z) (.z)))) (.z))))))))))))) (.seq (.z) (.z))))))))))
def s66 [Amb] (v0 v1 : Value) (K : Value → WT) : WT :=
  S.lenS v1 fun v15 =>
  S.join 4 (fun K0 =>
    S.bin .eql v15 (I 0) fun v18 =>
    S.gd v18 false (fun k => k v1) fun v20 =>
    S.gd v18 false (fun k => k v0) fun v21 =>
    S.gd v18 false (fun k => S.sbin .eql v20 v21 k) fun v22 =>
    S.pick v18 (B true) v22 fun v23 =>
    K0 v0 v1 v15 v23)
  <| fun v0' v1' v5 v16 => S.fa fun _ =>
  S.cond v16 (
    K (I 0)) (
    S.bin .eql v5 (I 1) fun v26 =>
    S.cond v26 (
      S.chr v1' (I 0) fun v29 =>
      CF Tryd.prog 60 [v0', v29] fun v30 =>
      K v30) (
      S.lenS v0' fun v34 =>
      S.bin .geq v5 v34 fun v35 =>
      S.cond v35 (
        K (I (-1))) (
        S.join 4 (fun K1 =>
          S.ld (.pointer (some ⟨2, 0, none⟩)) fun v38 =>
          S.bin .leq v5 v38 fun v39 =>
          S.gd v39 true (fun k => k v0') fun v41 =>
          S.gd v39 true (fun k => S.lenS v41 k) fun v42 =>
          S.gd v39 true (fun k => S.bin .leq v42 (I 64) k) fun v43 =>
          S.pick v39 v43 (B false) fun v44 =>
          K1 v0' v1' v5 v44)
        <| fun v0'2 v1'2 v5' v36 => S.fa fun _ =>
        S.cond v36 (
          Gives Tryd.prog (callFunc 70 #[v0'2, v1'2]) fun v47 =>
          K v47) (
          S.chr v1'2 (I 0) fun v49 =>
          S.chr v1'2 (I 1) fun v51 =>
          S.lenS v0'2 fun v53 =>
          S.bin .sub v53 v5' fun v55 =>
          S.bin .add v55 (I 1) fun v56 =>
          S.loop 8 (fun K2 => fun v0'3 v1'3 v5'2 v6 v7 v8 v9 v10 => S.fa fun _ =>
            S.bin .lss v8 v9 fun v59 =>
            S.cond v59 (
              S.join 8 (fun K3 =>
                S.chr v0'3 v8 fun v62 =>
                S.bin .neq v62 v6 fun v64 =>
                S.cond v64 (
                  S.bin .add v8 (I 1) fun v67 =>
                  S.slcS v0'3 (some v67) (some v9) fun v69 =>
                  CF Tryd.prog 60 [v69, v6] fun v71 =>
                  S.bin .lss v71 (I 0) fun v73 =>
                  S.cond v73 (
                    K (I (-1))) (
                    S.bin .add v71 (I 1) fun v76 =>
                    S.bin .add v8 v76 fun v77 =>
                    K3 v0'3 v1'3 v5'2 v6 v7 v77 v9 v10)) (
                  K3 v0'3 v1'3 v5'2 v6 v7 v8 v9 v10))
              <| fun v0'4 v1'4 v5'3 v6' v7' v8' v9' v10' => S.fa fun _ =>
              S.join 9 (fun K4 =>
                S.bin .add v8' (I 1) fun v80 =>
                S.chr v0'4 v80 fun v81 =>
                S.bin .eql v81 v7' fun v83 =>
                S.gd v83 true (fun k => k v0'4) fun v85 =>
                S.gd v83 true (fun k => k v8') fun v86 =>
                S.gd v83 true (fun k => k v8') fun v87 =>
                S.gd v83 true (fun k => k v5'3) fun v88 =>
                S.gd v83 true (fun k => S.bin .add v87 v88 k) fun v89 =>
                S.gd v83 true (fun k => S.slcS v85 (some v86) (some v89) k) fun v90 =>
                S.gd v83 true (fun k => k v1'4) fun v91 =>
                S.gd v83 true (fun k => S.sbin .eql v90 v91 k) fun v92 =>
                S.pick v83 v92 (B false) fun v93 =>
                K4 v0'4 v1'4 v5'3 v6' v7' v8' v9' v10' v93)
              <| fun v0'5 v1'5 v5'4 v6'2 v7'2 v8'2 v9'2 v10'2 v93' => S.fa fun _ =>
              S.cond v93' (
                K v8'2) (
                S.bin .add v8'2 (I 1) fun v96 =>
                S.bin .add v10'2 (I 1) fun v98 =>
                S.join 9 (fun K5 =>
                  S.ld (.pointer (some ⟨2, 0, none⟩)) fun v100 =>
                  S.bin .leq v5'4 v100 fun v101 =>
                  S.gd v101 true (fun k => k v98) fun v103 =>
                  S.gd v101 true (fun k => k v96) fun v104 =>
                  S.gd v101 true (fun k => CF Tryd.prog 71 [v104] k) fun v105 =>
                  S.gd v101 true (fun k => S.bin .gtr v103 v105 k) fun v106 =>
                  S.pick v101 v106 (B false) fun v107 =>
                  K5 v0'5 v1'5 v5'4 v6'2 v7'2 v96 v9'2 v98 v107)
                <| fun v0'6 v1'6 v5'5 v6'3 v7'3 v8'3 v9'3 v10'3 v107' => S.fa fun _ =>
                S.cond v107' (
                  S.slcS v0'6 (some v8'3) none fun v110 =>
                  Gives Tryd.prog (callFunc 70 #[v110, v1'6]) fun v112 =>
                  S.bin .geq v112 (I 0) fun v114 =>
                  S.cond v114 (
                    S.bin .add v112 v8'3 fun v117 =>
                    K v117) (
                    K (I (-1)))) (
                  S.join 9 (fun K6 =>
                    S.ld (.pointer (some ⟨2, 0, none⟩)) fun v119 =>
                    S.bin .gtr v5'5 v119 fun v120 =>
                    S.gd v120 true (fun k => k v10'3) fun v122 =>
                    S.gd v120 true (fun k => k v8'3) fun v123 =>
                    S.gd v120 true (fun k => S.sh .shr v123 (.int .u64 4) k) fun v124 =>
                    S.gd v120 true (fun k => S.bin .add (I 4) v124 k) fun v125 =>
                    S.gd v120 true (fun k => S.bin .geq v122 v125 k) fun v126 =>
                    S.pick v120 v126 (B false) fun v127 =>
                    S.gd v127 true (fun k => k v8'3) fun v129 =>
                    S.gd v127 true (fun k => k v9'3) fun v130 =>
                    S.gd v127 true (fun k => S.bin .lss v129 v130 k) fun v131 =>
                    S.pick v127 v131 (B false) fun v132 =>
                    K6 v0'6 v1'6 v5'5 v6'3 v7'3 v8'3 v9'3 v10'3 v132)
                  <| fun v0'7 v1'7 v5'6 v6'4 v7'4 v8'4 v9'4 v10'4 v132' => S.fa fun _ =>
                  S.cond v132' (
                    S.slcS v0'7 (some v8'4) none fun v135 =>
                    CF Tryd.prog 72 [v135, v1'7] fun v137 =>
                    S.bin .lss v137 (I 0) fun v139 =>
                    S.cond v139 (
                      K (I (-1))) (
                      S.bin .add v8'4 v137 fun v142 =>
                      K v142)) (
                    K2 v0'7 v1'7 v5'6 v6'4 v7'4 v8'4 v9'4 v10'4)))) (
              K (I (-1))))
          [v0'2, v1'2, v5', v49, v51, (I 0), v56, (I 0)]))))
theorem e66 [Amb] (v0 v1 : Value) (K : Value → WT) : s66 v0 v1 K = shal Tryd.prog Tryd.f66 .p a66 [v0, v1] K := by kernel_rfl
theorem c66 [Amb] {v0 v1 : Value} {K : Value → WT} {w : World} (h : s66 v0 v1 K w) : CF Tryd.prog 66 [v0, v1] K w := shal_sound Tryd.func66 (e66 v0 v1 K ▸ h)

/-- unicode.is16 -/
def a68 : Ann := .seq (.z) (.seq (.join [0, 1, 17] (.z) (.cond (.seq (.seq (.z) (.blk (.loop [0, 1, 19, 20] (.seq (.z) (.seq (.cond (.z) (.z)) (.seq (.blk (.seq (.z) (.seq (.z) (.seq (.seq (.z) (.cond (.seq (.z) (.z)) (.z))) (.seq (.z) (.cond (.seq (.draw [0, 1, 2, 3, 4, 5, 6, 7, 8, 9, 10, 11, 12, 13, 14, 15, 16, 17, 18, 19]) (.z)) (.z))))))) (.z))))))) (.seq (.z) (.z))) (.z))) (.seq (.z) (.seq (.z) (.seq (.blk (.loop [0, 1, 7, 8] (.seq (.seq (.z) (.cond (.z) (.z))) (.blk (.seq (.z) (.seq (.z) (.seq (.join [0, 1, 7, 8, 9, 10, 85] (.z) (.cond (.seq (.draw [0, 1, 2, 3, 4, 5, 6, 7, 8, 9, 10, 11, 12, 13, 14, 15, 16, 17, 18, 19]) (.z)) (.z))) (.seq (.z) (.cond (.z) (.z)))))))))) (.seq (.z) (.z))))))
def s68 [Amb] (v0 v1 : Value) (K : Value → WT) : WT :=
  S.join 3 (fun K0 =>
    S.len v0 fun v12 =>
    S.bin .leq v12 (I 18) fun v13 =>
    S.gd v13 false (fun k => k v1) fun v15 =>
    S.gd v13 false (fun k => S.bin .leq v15 (.int .u16 255) k) fun v16 =>
    S.pick v13 (B true) v16 fun v17 =>
    K0 v0 v1 v17)
  <| fun v0' v1' v17' => S.fa fun _ =>
  S.cond v17' (
    S.len v0' fun v19 =>
    S.loop 4 (fun K1 => fun v0'2 v1'2 v19' v20 => S.fa fun _ =>
      S.bin .lss v20 v19' fun v21 =>
      S.cond v21 (
        S.ixS 3 v0'2 v20 fun v25 =>
        S.nc v25 fun v28 =>
        S.fad v28 0 fun v29 =>
        S.ld v29 fun v30 =>
        S.bin .lss v1'2 v30 fun v31 =>
        S.cond v31 (
          K (B false)) (
          S.nc v25 fun v34 =>
          S.fad v34 1 fun v35 =>
          S.ld v35 fun v36 =>
          S.bin .leq v1'2 v36 fun v37 =>
          S.cond v37 (
            S.dr <|
            S.nc v25 fun v39 =>
            S.fad v39 2 fun v40 =>
            S.ld v40 fun v41 =>
            S.bin .eql v41 (.int .u16 1) fun v42 =>
            S.gd v42 false (fun k => k v1'2) fun v44 =>
            S.gd v42 false (fun k => k v25) fun v45 =>
            S.gd v42 false (fun k => S.nc v45 k) fun v46 =>
            S.gd v42 false (fun k => S.fad v46 0 k) fun v47 =>
            S.gd v42 false (fun k => S.ld v47 k) fun v48 =>
            S.gd v42 false (fun k => S.bin .sub v44 v48 k) fun v49 =>
            S.gd v42 false (fun k => k v25) fun v50 =>
            S.gd v42 false (fun k => S.nc v50 k) fun v51 =>
            S.gd v42 false (fun k => S.fad v51 2 k) fun v52 =>
            S.gd v42 false (fun k => S.ld v52 k) fun v53 =>
            S.gd v42 false (fun k => S.bin .rem v49 v53 k) fun v54 =>
            S.gd v42 false (fun k => S.bin .eql v54 (.int .u16 0) k) fun v55 =>
            S.pick v42 (B true) v55 fun v56 =>
            K v56) (
            S.bin .add v20 (I 1) fun v57 =>
            K1 v0'2 v1'2 v19' v57))) (
        K (B false)))
    [v0', v1', v19, (I 0)]) (
    S.len v0' fun v59 =>
    S.loop 4 (fun K2 => fun v0'3 v1'3 v7 v8 => S.fa fun _ =>
      S.bin .lss v7 v8 fun v62 =>
      S.cond v62 (
        S.bin .add v7 v8 fun v65 =>
        S.cvt .u64 v65 fun v66 =>
        S.sh .shr v66 (.int .u64 1) fun v67 =>
        S.cvt .i64 v67 fun v68 =>
        S.ixS 3 v0'3 v68 fun v71 =>
        S.join 7 (fun K3 =>
          S.nc v71 fun v73 =>
          S.fad v73 0 fun v74 =>
          S.ld v74 fun v75 =>
          S.bin .leq v75 v1'3 fun v77 =>
          S.gd v77 true (fun k => k v1'3) fun v79 =>
          S.gd v77 true (fun k => k v71) fun v80 =>
          S.gd v77 true (fun k => S.nc v80 k) fun v81 =>
          S.gd v77 true (fun k => S.fad v81 1 k) fun v82 =>
          S.gd v77 true (fun k => S.ld v82 k) fun v83 =>
          S.gd v77 true (fun k => S.bin .leq v79 v83 k) fun v84 =>
          S.pick v77 v84 (B false) fun v85 =>
          K3 v0'3 v1'3 v7 v8 v68 v71 v85)
        <| fun v0'4 v1'4 v7' v8' v9 v10 v85' => S.fa fun _ =>
        S.cond v85' (
          S.dr <|
          S.nc v10 fun v87 =>
          S.fad v87 2 fun v88 =>
          S.ld v88 fun v89 =>
          S.bin .eql v89 (.int .u16 1) fun v90 =>
          S.gd v90 false (fun k => k v1'4) fun v92 =>
          S.gd v90 false (fun k => k v10) fun v93 =>
          S.gd v90 false (fun k => S.nc v93 k) fun v94 =>
          S.gd v90 false (fun k => S.fad v94 0 k) fun v95 =>
          S.gd v90 false (fun k => S.ld v95 k) fun v96 =>
          S.gd v90 false (fun k => S.bin .sub v92 v96 k) fun v97 =>
          S.gd v90 false (fun k => k v10) fun v98 =>
          S.gd v90 false (fun k => S.nc v98 k) fun v99 =>
          S.gd v90 false (fun k => S.fad v99 2 k) fun v100 =>
          S.gd v90 false (fun k => S.ld v100 k) fun v101 =>
          S.gd v90 false (fun k => S.bin .rem v97 v101 k) fun v102 =>
          S.gd v90 false (fun k => S.bin .eql v102 (.int .u16 0) k) fun v103 =>
          S.pick v90 (B true) v103 fun v104 =>
          K v104) (
          S.nc v10 fun v107 =>
          S.fad v107 0 fun v108 =>
          S.ld v108 fun v109 =>
          S.bin .lss v1'4 v109 fun v110 =>
          S.cond v110 (
            K2 v0'4 v1'4 v7' v9) (
            S.bin .add v9 (I 1) fun v113 =>
            K2 v0'4 v1'4 v113 v8'))) (
        K (B false)))
    [v0', v1', (I 0), v59])
theorem e68 [Amb] (v0 v1 : Value) (K : Value → WT) : s68 v0 v1 K = shal Tryd.prog Tryd.f68 .p a68 [v0, v1] K := by kernel_rfl
theorem c68 [Amb] {v0 v1 : Value} {K : Value → WT} {w : World} (h : s68 v0 v1 K w) : CF Tryd.prog 68 [v0, v1] K w := shal_sound Tryd.func68 (e68 v0 v1 K ▸ h)

/-- unicode.is32 -/
def a69 : Ann := .seq (.z) (.seq (.seq (.z) (.cond (.seq (.seq (.z) (.blk (.loop [0, 1, 15, 16] (.seq (.z) (.seq (.cond (.z) (.z)) (.seq (.blk (.seq (.z) (.seq (.z) (.seq (.seq (.z) (.cond (.seq (.z) (.z)) (.z))) (.seq (.z) (.cond (.seq (.draw [0, 1, 2, 3, 4, 5, 6, 7, 8, 9, 10, 11, 12, 13, 14, 15, 16, 17, 18, 19]) (.z)) (.z))))))) (.z))))))) (.seq (.z) (.z))) (.z))) (.seq (.z) (.seq (.z) (.seq (.blk (.loop [0, 1, 7, 8] (.seq (.seq (.z) (.cond (.z) (.z))) (.blk (.seq (.z) (.seq (.z) (.seq (.join [0, 1, 7, 8, 9, 10, 78] (.z) (.cond (.seq (.z) (.z)) (.z))) (.seq (.z) (.cond (.z) (.z)))))))))) (.seq (.z) (.z))))))
def s69 [Amb] (v0 v1 : Value) (K : Value → WT) : WT :=
  S.len v0 fun v12 =>
  S.bin .leq v12 (I 18) fun v13 =>
  S.cond v13 (
    S.len v0 fun v15 =>
    S.loop 4 (fun K0 => fun v0' v1' v15' v16 => S.fa fun _ =>
      S.bin .lss v16 v15' fun v17 =>
      S.cond v17 (
        S.ixS 3 v0' v16 fun v21 =>
        S.nc v21 fun v24 =>
        S.fad v24 0 fun v25 =>
        S.ld v25 fun v26 =>
        S.bin .lss v1' v26 fun v27 =>
        S.cond v27 (
          K (B false)) (
          S.nc v21 fun v30 =>
          S.fad v30 1 fun v31 =>
          S.ld v31 fun v32 =>
          S.bin .leq v1' v32 fun v33 =>
          S.cond v33 (
            S.dr <|
            S.nc v21 fun v35 =>
            S.fad v35 2 fun v36 =>
            S.ld v36 fun v37 =>
            S.bin .eql v37 (.int .u32 1) fun v38 =>
            S.gd v38 false (fun k => k v1') fun v40 =>
            S.gd v38 false (fun k => k v21) fun v41 =>
            S.gd v38 false (fun k => S.nc v41 k) fun v42 =>
            S.gd v38 false (fun k => S.fad v42 0 k) fun v43 =>
            S.gd v38 false (fun k => S.ld v43 k) fun v44 =>
            S.gd v38 false (fun k => S.bin .sub v40 v44 k) fun v45 =>
            S.gd v38 false (fun k => k v21) fun v46 =>
            S.gd v38 false (fun k => S.nc v46 k) fun v47 =>
            S.gd v38 false (fun k => S.fad v47 2 k) fun v48 =>
            S.gd v38 false (fun k => S.ld v48 k) fun v49 =>
            S.gd v38 false (fun k => S.bin .rem v45 v49 k) fun v50 =>
            S.gd v38 false (fun k => S.bin .eql v50 (.int .u32 0) k) fun v51 =>
            S.pick v38 (B true) v51 fun v52 =>
            K v52) (
            S.bin .add v16 (I 1) fun v53 =>
            K0 v0' v1' v15' v53))) (
        K (B false)))
    [v0, v1, v15, (I 0)]) (
    S.len v0 fun v55 =>
    S.loop 4 (fun K1 => fun v0'2 v1'2 v7 v8 => S.fa fun _ =>
      S.bin .lss v7 v8 fun v58 =>
      S.cond v58 (
        S.bin .add v7 v8 fun v61 =>
        S.cvt .u64 v61 fun v62 =>
        S.sh .shr v62 (.int .u64 1) fun v63 =>
        S.cvt .i64 v63 fun v64 =>
        S.ixS 3 v0'2 v64 fun v67 =>
        S.ldN 3 v67 fun v68 =>
        S.box 118 (.agg #[(.int .u32 0), (.int .u32 0), (.int .u32 0)]) fun v10 =>
        S.st 3 v10 v68 fun _ =>
        S.join 7 (fun K2 =>
          S.fad v10 0 fun v69 =>
          S.ld v69 fun v70 =>
          S.bin .leq v70 v1'2 fun v72 =>
          S.gd v72 true (fun k => k v1'2) fun v74 =>
          S.gd v72 true (fun k => S.fad v10 1 k) fun v75 =>
          S.gd v72 true (fun k => S.ld v75 k) fun v76 =>
          S.gd v72 true (fun k => S.bin .leq v74 v76 k) fun v77 =>
          S.pick v72 v77 (B false) fun v78 =>
          K2 v0'2 v1'2 v7 v8 v64 v10 v78)
        <| fun v0'3 v1'3 v7' v8' v9 v10' v78' => S.fa fun _ =>
        S.cond v78' (
          S.fad v10' 2 fun v79 =>
          S.ld v79 fun v80 =>
          S.bin .eql v80 (.int .u32 1) fun v81 =>
          S.gd v81 false (fun k => k v1'3) fun v83 =>
          S.gd v81 false (fun k => S.fad v10' 0 k) fun v84 =>
          S.gd v81 false (fun k => S.ld v84 k) fun v85 =>
          S.gd v81 false (fun k => S.bin .sub v83 v85 k) fun v86 =>
          S.gd v81 false (fun k => S.fad v10' 2 k) fun v87 =>
          S.gd v81 false (fun k => S.ld v87 k) fun v88 =>
          S.gd v81 false (fun k => S.bin .rem v86 v88 k) fun v89 =>
          S.gd v81 false (fun k => S.bin .eql v89 (.int .u32 0) k) fun v90 =>
          S.pick v81 (B true) v90 fun v91 =>
          K v91) (
          S.fad v10' 0 fun v93 =>
          S.ld v93 fun v94 =>
          S.bin .lss v1'3 v94 fun v95 =>
          S.cond v95 (
            K1 v0'3 v1'3 v7' v9) (
            S.bin .add v9 (I 1) fun v98 =>
            K1 v0'3 v1'3 v98 v8'))) (
        K (B false)))
    [v0, v1, (I 0), v55])
theorem e69 [Amb] (v0 v1 : Value) (K : Value → WT) : s69 v0 v1 K = shal Tryd.prog Tryd.f69 .p a69 [v0, v1] K := by kernel_rfl
theorem c69 [Amb] {v0 v1 : Value} {K : Value → WT} {w : World} (h : s69 v0 v1 K w) : CF Tryd.prog 69 [v0, v1] K w := shal_sound Tryd.func69 (e69 v0 v1 K ▸ h)

end Go.Proofs.YtogallbjmgoagaaDoor.Sh
