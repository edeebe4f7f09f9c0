/-
  Part 4: ShT.
-/
import Derived.Test.YtblgkgobakhigaaProg
import Derived.KernelRfl
import Derived.Test.YtblgkgobakhigaaPkCodeBacka
set_option linter.unusedSimpArgs false
set_option linter.unusedVariables false
set_option linter.unusedSectionVars false
section
namespace Go.Proofs.Ytblgkgobakhigaa.Sh
open Go Go.SL Go.Proofs
set_option maxRecDepth 100000
def a3 : Ann := .seq (.z) (.seq (.z) (.seq (.z) (.seq (.z) (.z))))
def s3 [Amb] (counts_0 : Value) (K : Value → WT) : WT :=
 S.box 22 counts_0 fun counts_1 =>
 S.ldN 256 counts_1 fun v8 =>
 CF Try.prog 8 [v8] fun v9 =>
 S.ext v9 0 fun v10 =>
 S.ext v9 1 fun v11 =>
 S.box 22 (.agg (List.replicate 256 (.int .i64 0)).toArray) fun a_3 =>
 S.st 256 a_3 v10 fun _ =>
 S.ldN 256 counts_1 fun v13 =>
 CF Try.prog 9 [v13] fun v14 =>
 S.ext v14 0 fun v15 =>
 S.ext v14 1 fun v16 =>
 S.box 22 (.agg (List.replicate 256 (.int .i64 0)).toArray) fun b_5 =>
 S.st 256 b_5 v15 fun _ =>
 CF Try.prog 10 [] fun v17 =>
 S.gd v17 true (S.ldN 256 a_3) fun v19 =>
 S.gd v17 true (S.ldN 256 b_5) fun v20 =>
 S.gd v17 true (S.eqv Try.prog .eql 22 false v19 v20) fun v21 =>
 S.pick v17 v21 (B false) fun v22 =>
 S.gd v22 true (fun k => k v11) fun v24 =>
 S.gd v22 true (fun k => k v16) fun v25 =>
 S.gd v22 true (S.bin .eql v24 v25) fun v26 =>
 S.pick v22 v26 (B false) fun v27 =>
 K v27
theorem e3 [Amb] (counts_0 : Value) (K : Value → WT) : s3 counts_0 K = shal Try.prog Try.f3 .p a3 [counts_0] K := by kernel_rfl
theorem c3 [Amb] {counts_0 : Value} {K : Value → WT} {w : World} (h : s3 counts_0 K w) : CF Try.prog 3 [counts_0] K w := shal_sound Try.func3 (e3 counts_0 K ▸ h)
def a4 : Ann := .seq (.z) (.seq (.z) (.seq (.z) (.seq (.join [3, 26] (.z) (.cond (.seq (.z) (.z)) (.z))) (.seq (.seq (.z) (.blk (.loop [3, 7] (.seq (.seq (.z) (.cond (.z) (.z))) (.seq (.blk (.seq (.z) (.blk (.loop [3, 7, 8] (.seq (.seq (.z) (.cond (.z) (.z))) (.seq (.blk (.join [3, 7, 8, 69] (.draw [0, 1, 2, 3, 4, 5, 6, 7, 8, 9, 10, 11, 12, 13, 14, 15, 16, 17, 18, 19, 20, 21, 22, 23, 24, 25, 26, 27, 28, 29, 30, 31, 32, 33, 34]) (.cond (.seq (.z) (.z)) (.z)))) (.z))))))) (.z)))))) (.seq (.z) (.z))))))
def s4 [Amb] (v0 : Value) (K : Value → WT) : WT :=
 S.box 22 v0 fun v1 =>
 S.ldN 256 v1 fun v10 =>
 CF Try.prog 11 [v10] fun v11 =>
 S.ext v11 0 fun v12 =>
 S.ext v11 1 fun v13 =>
 S.box 28 (.agg (List.replicate 256 (.string ⟨#[]⟩)).toArray) fun v3 =>
 S.st 256 v3 v12 fun _ =>
 S.ldN 256 v1 fun v15 =>
 CF Try.prog 12 [v15] fun v16 =>
 S.ext v16 0 fun v17 =>
 S.ext v16 1 fun v18 =>
 S.box 28 (.agg (List.replicate 256 (.string ⟨#[]⟩)).toArray) fun v5 =>
 S.st 256 v5 v17 fun _ =>
 S.join 2 (fun K0 =>
 S.ldN 256 v3 fun v19 =>
 S.ldN 256 v5 fun v20 =>
 S.eqv Try.prog .neq 28 false v19 v20 fun v21 =>
 S.gd v21 false (fun k => k v13) fun v23 =>
 S.gd v21 false (fun k => k v18) fun v24 =>
 S.gd v21 false (S.bin .neq v23 v24) fun v25 =>
 S.pick v21 (B true) v25 fun v26 =>
 K0 v3 v26)
 <| fun v3' v26' => S.fa fun _ =>
 S.cond v26' (
 K (B false)) (
 S.loop 2 (fun K1 => fun v3'2 v7 => S.fa fun _ =>
 S.bin .lss v7 (I 256) fun v28 =>
 S.cond v28 (
 S.loop 3 (fun K2 => fun v3'3 v7' v8 => S.fa fun _ =>
 S.bin .lss v8 (I 256) fun v32 =>
 S.cond v32 (
 S.join 4 (fun K3 =>
 S.dr <|
 S.bin .neq v7' v8 fun v37 =>
 S.gd v37 true (fun k => k v7') fun v39 =>
 S.gd v37 true (S.ixA 256 1 v3'3 v39) fun v40 =>
 S.gd v37 true (S.ld v40) fun v41 =>
 S.gd v37 true (S.lenS v41) fun v42 =>
 S.gd v37 true (S.bin .gtr v42 (I 0)) fun v43 =>
 S.pick v37 v43 (B false) fun v44 =>
 S.gd v44 true (fun k => k v7') fun v46 =>
 S.gd v44 true (S.ixA 256 1 v3'3 v46) fun v47 =>
 S.gd v44 true (S.ld v47) fun v48 =>
 S.gd v44 true (S.lenS v48) fun v49 =>
 S.gd v44 true (fun k => k v8) fun v50 =>
 S.gd v44 true (S.ixA 256 1 v3'3 v50) fun v51 =>
 S.gd v44 true (S.ld v51) fun v52 =>
 S.gd v44 true (S.lenS v52) fun v53 =>
 S.gd v44 true (S.bin .leq v49 v53) fun v54 =>
 S.pick v44 v54 (B false) fun v55 =>
 S.gd v55 true (fun k => k v8) fun v57 =>
 S.gd v55 true (S.ixA 256 1 v3'3 v57) fun v58 =>
 S.gd v55 true (S.ld v58) fun v59 =>
 S.gd v55 true (fun k => k v7') fun v60 =>
 S.gd v55 true (S.ixA 256 1 v3'3 v60) fun v61 =>
 S.gd v55 true (S.ld v61) fun v62 =>
 S.gd v55 true (S.lenS v62) fun v63 =>
 S.gd v55 true (S.slcS v59 none (some v63)) fun v64 =>
 S.gd v55 true (fun k => k v7') fun v65 =>
 S.gd v55 true (S.ixA 256 1 v3'3 v65) fun v66 =>
 S.gd v55 true (S.ld v66) fun v67 =>
 S.gd v55 true (S.sbin .eql v64 v67) fun v68 =>
 S.pick v55 v68 (B false) fun v69 =>
 K3 v3'3 v7' v8 v69)
 <| fun v3'4 v7'2 v8' v69' => S.fa fun _ =>
 S.cond v69' (
 K (B false)) (
 S.bin .add v8' (I 1) fun v34 =>
 K2 v3'4 v7'2 v34)) (
 S.bin .add v7' (I 1) fun v30 =>
 K1 v3'3 v30))
 [v3'2, v7, (I 0)]) (
 CF Try.prog 10 [] fun v70 =>
 K v70))
 [v3', (I 0)])
theorem e4 [Amb] (v0 : Value) (K : Value → WT) : s4 v0 K = shal Try.prog Try.f4 .p a4 [v0] K := by kernel_rfl
def a5 : Ann := .seq (.z) (.seq (.z) (.seq (.z) (.seq (.z) (.seq (.z) (.seq (.z) (.z))))))
def a7 : Ann := .seq (.z) (.seq (.z) (.seq (.seq (.z) (.cond (.seq (.z) (.z)) (.z))) (.seq (.z) (.seq (.z) (.seq (.z) (.z))))))
def s7 [Amb] (p_0 : Value) (K : Value → WT) : WT :=
 CF Try.prog 13 [p_0] fun v11 =>
 S.ext v11 0 fun v12 =>
 S.ext v11 1 fun v13 =>
 S.len p_0 fun v15 =>
 S.bin .gtr v15 (I 8192) fun v16 =>
 S.cond v16 (
 CF Try.prog 10 [] fun v17 =>
 S.gd v17 true (fun k => k v13) fun v19 =>
 S.gd v17 true (S.bin .eql v19 (I 6)) fun v20 =>
 S.pick v17 v20 (B false) fun v21 =>
 S.gd v21 true (fun k => k v12) fun v23 =>
 S.gd v21 true (S.len v23) fun v24 =>
 S.gd v21 true (S.bin .eql v24 (I 0)) fun v25 =>
 S.pick v21 v25 (B false) fun v26 =>
 K v26) (
 S.len p_0 fun v30 =>
 CF Try.prog 17 [v12, v30] fun v31 =>
 S.ext v31 0 fun v32 =>
 S.ext v31 1 fun v33 =>
 S.len p_0 fun v37 =>
 S.bin .sub v37 (I 1) fun v38 =>
 CF Try.prog 17 [v12, v38] fun v39 =>
 S.ext v39 0 fun v40 =>
 S.ext v39 1 fun v41 =>
 CF Try.prog 10 [] fun v42 =>
 S.gd v42 true (fun k => k v13) fun v44 =>
 S.gd v42 true (S.bin .eql v44 (I 0)) fun v45 =>
 S.pick v42 v45 (B false) fun v46 =>
 S.gd v46 true (fun k => k v33) fun v48 =>
 S.gd v46 true (S.bin .eql v48 (I 0)) fun v49 =>
 S.pick v46 v49 (B false) fun v50 =>
 S.gd v50 true (fun k => k v32) fun v52 =>
 S.gd v50 true (S.b2s v52) fun v53 =>
 S.gd v50 true (fun k => k p_0) fun v54 =>
 S.gd v50 true (S.b2s v54) fun v55 =>
 S.gd v50 true (S.sbin .eql v53 v55) fun v56 =>
 S.pick v50 v56 (B false) fun v57 =>
 S.gd v57 true (fun k => k v41) fun v59 =>
 S.gd v57 true (S.bin .eql v59 (I 6)) fun v60 =>
 S.pick v57 v60 (B false) fun v61 =>
 K v61)
theorem e7 [Amb] (p_0 : Value) (K : Value → WT) : s7 p_0 K = shal Try.prog Try.f7 .p a7 [p_0] K := by kernel_rfl
theorem c7 [Amb] {p_0 : Value} {K : Value → WT} {w : World} (h : s7 p_0 K w) : CF Try.prog 7 [p_0] K w := shal_sound Try.func7 (e7 p_0 K ▸ h)
def a8 : Ann := .seq (.z) (.seq (.z) (.seq (.z) (.seq (.seq (.z) (.blk (.loop [2, 4, 5, 13, 14] (.seq (.z) (.seq (.cond (.z) (.z)) (.join [2, 4, 5, 13, 14] (.blk (.seq (.z) (.blk (.join [2, 4, 5, 6, 7, 13, 14, 18] (.z) (.cond (.seq (.z) (.z)) (.seq (.z) (.cond (.z) (.z)))))))) (.z))))))) (.join [2, 4, 5] (.seq (.z) (.cond (.z) (.z))) (.seq (.z) (.seq (.blk (.loop [2, 4, 5] (.seq (.seq (.z) (.cond (.z) (.z))) (.blk (.seq (.z) (.seq (.z) (.seq (.seq (.z) (.blk (.loop [2, 4, 5, 8, 9, 10, 60, 61, 62] (.seq (.z) (.seq (.cond (.z) (.z)) (.seq (.blk (.seq (.z) (.z))) (.z))))))) (.seq (.z) (.z))))))))) (.seq (.z) (.z))))))))
def s8 [Amb] (v0 : Value) (K : Value → WT) : WT :=
 S.box 22 v0 fun v1 =>
 S.box 22 (.agg (List.replicate 256 (.int .i64 0)).toArray) fun v2 =>
 S.box 22 (.agg (List.replicate 256 (.int .i64 0)).toArray) fun v4 =>
 S.box 39 (.slice none 0 0) fun v5 =>
 S.ldN 256 v1 fun v13 =>
 S.loop 5 (fun K0 => fun v2' v4' v5' v13' v14 => S.fa fun _ =>
 S.bin .lss v14 (I 256) fun v15 =>
 S.cond v15 (
 S.join 5 (fun K1 =>
 V Try.prog (Instr.index 22 v13' v14) fun v17 =>
 S.join 8 (fun K2 =>
 S.bin .lss v17 (I 0) fun v20 =>
 S.gd v20 false (fun k => k v17) fun v22 =>
 S.gd v20 false (S.bin .gtr v22 (I 8192)) fun v23 =>
 S.pick v20 (B true) v23 fun v24 =>
 K2 v2' v4' v5' v14 v17 v13' v14 v24)
 <| fun v2'2 v4'2 v5'2 v6 v7 v13'2 v14' v18 => S.fa fun _ =>
 S.cond v18 (
 V Try.prog (Instr.build 22 #[]) fun v25 =>
 S.st 256 v2'2 v25 fun _ =>
 S.ldN 256 v2'2 fun v2'3 =>
 K (.tuple #[v2'3, (I 2)])) (
 S.bin .gtr v7 (I 0) fun v28 =>
 S.cond v28 (
 S.ld v5'2 fun v29 =>
 V Try.prog (Instr.buildSlice 40 1 #[(0, v6)]) fun v32 =>
 V Try.prog (Instr.build 42 #[(0, v7), (1, v32)]) fun v33 =>
 V Try.prog (Instr.buildSlice 39 1 #[(0, v33)]) fun v34 =>
 V Try.prog (Builtin.append_ #[39, 39] 39 #[v29, v34]) fun v35 =>
 S.st 1 v5'2 v35 fun _ =>
 K1 v2'2 v4'2 v5'2 v13'2 v14') (
 K1 v2'2 v4'2 v5'2 v13'2 v14')))
 <| fun v2'4 v4'3 v5'3 v13'3 v14'2 => S.fa fun _ =>
 S.bin .add v14'2 (I 1) fun v36 =>
 K0 v2'4 v4'3 v5'3 v13'3 v36) (
 S.join 3 (fun K3 =>
 S.ld v5' fun v37 =>
 S.len v37 fun v38 =>
 S.bin .eql v38 (I 1) fun v39 =>
 S.cond v39 (
 S.ld v5' fun v40 =>
 S.ixS 2 v40 (I 0) fun v41 =>
 S.fad v41 1 fun v42 =>
 S.ld v42 fun v43 =>
 S.ixS 1 v43 (I 0) fun v44 =>
 S.ld v44 fun v45 =>
 S.ixA 256 1 v4' v45 fun v46 =>
 S.st 1 v46 (I 1) fun _ =>
 K3 v2' v4' v5') (
 K3 v2' v4' v5'))
 <| fun v2'5 v4'4 v5'4 => S.fa fun _ =>
 CF Try.prog 18 [(.iface 44 v5'4)] fun v48 =>
 S.loop 3 (fun K4 => fun v2'6 v4'5 v5'5 => S.fa fun _ =>
 S.ld v5'5 fun v49 =>
 CF Try.prog 19 [v49] fun v50 =>
 S.bin .gtr v50 (I 1) fun v51 =>
 S.cond v51 (
 CF Try.prog 20 [v5'5] fun v52 =>
 CF Try.prog 20 [v5'5] fun v53 =>
 S.box 42 (.agg #[(.int .i64 0), (.slice none 0 0)]) fun v8 =>
 S.box 42 (.agg #[(.int .i64 0), (.slice none 0 0)]) fun v9 =>
 S.st 2 v8 v52 fun _ =>
 S.st 2 v9 v53 fun _ =>
 S.fad v8 1 fun v54 =>
 S.ld v54 fun v55 =>
 S.fad v9 1 fun v56 =>
 S.ld v56 fun v57 =>
 V Try.prog (Instr.buildSlice 83 2 #[(0, v55), (1, v57)]) fun v58 =>
 CF Try.prog 21 [v58] fun v59 =>
 S.len v59 fun v61 =>
 S.loop 9 (fun K5 => fun v2'7 v4'6 v5'6 v8' v9' v10 v60 v61' v62 => S.fa fun _ =>
 S.bin .lss v62 v61' fun v63 =>
 S.cond v63 (
 S.ixS 1 v60 v62 fun v64 =>
 S.ld v64 fun v65 =>
 S.ixA 256 1 v4'6 v65 fun v67 =>
 S.ld v67 fun v68 =>
 S.bin .add v68 (I 1) fun v69 =>
 S.ixA 256 1 v4'6 v65 fun v70 =>
 S.st 1 v70 v69 fun _ =>
 S.bin .add v62 (I 1) fun v71 =>
 K5 v2'7 v4'6 v5'6 v8' v9' v10 v60 v61' v71) (
 CF Try.prog 22 [v10] fun v73 =>
 S.fad v8' 0 fun v75 =>
 S.ld v75 fun v76 =>
 S.fad v9' 0 fun v77 =>
 S.ld v77 fun v78 =>
 S.bin .add v76 v78 fun v79 =>
 V Try.prog (Instr.build 42 #[(0, v79), (1, v10)]) fun v81 =>
 CF Try.prog 23 [(.iface 44 v5'6), (.iface 42 v81)] fun v83 =>
 K4 v2'7 v4'6 v5'6))
 [v2'6, v4'5, v5'5, v8, v9, v59, v59, v61, (I 0)]) (
 S.ldN 256 v4'5 fun v84 =>
 S.st 256 v2'6 v84 fun _ =>
 S.ldN 256 v2'6 fun v2'8 =>
 K (.tuple #[v2'8, (I 0)])))
 [v2'5, v4'4, v5'4]))
 [v2, v4, v5, v13, (I 0)]
theorem e8 [Amb] (v0 : Value) (K : Value → WT) : s8 v0 K = shal Try.prog Try.f8 .p a8 [v0] K := by kernel_rfl
theorem c8 [Amb] {v0 : Value} {K : Value → WT} {w : World} (h : s8 v0 K w) : CF Try.prog 8 [v0] K w := shal_sound Try.func8 (e8 v0 K ▸ h)
def a9 : Ann := .seq (.z) (.seq (.z) (.seq (.z) (.seq (.seq (.z) (.blk (.loop [1, 2, 4, 5, 6] (.seq (.seq (.z) (.cond (.z) (.z))) (.join [1, 2, 4, 5, 6] (.blk (.seq (.join [1, 2, 4, 5, 6, 29] (.z) (.cond (.seq (.z) (.z)) (.z))) (.seq (.z) (.cond (.seq (.z) (.seq (.z) (.z))) (.z))))) (.z)))))) (.join [2, 4, 5] (.seq (.z) (.cond (.z) (.z))) (.seq (.blk (.loop [2, 4, 5] (.seq (.seq (.z) (.cond (.z) (.z))) (.blk (.seq (.z) (.seq (.z) (.seq (.z) (.seq (.seq (.z) (.blk (.loop [2, 4, 8, 10, 11, 12, 13] (.seq (.seq (.z) (.cond (.z) (.z))) (.join [2, 4, 8, 10, 11, 12, 13] (.blk (.join [2, 4, 8, 10, 11, 12, 13] (.z) (.seq (.z) (.cond (.z) (.z))))) (.z)))))) (.z))))))))) (.seq (.z) (.z)))))))
def a10 : Ann := .seq (.z) (.seq (.z) (.seq (.z) (.seq (.z) (.z))))
def s10 [Amb] (K : Value → WT) : WT :=
 V Try.prog (Instr.buildSlice 31 3 #[(0, (.int .u8 97)), (1, (.int .u8 97)), (2, (.int .u8 98))]) fun v6 =>
 V Try.prog (convert 31 31 v6) fun v7 =>
 CF Try.prog 13 [v7] fun v8 =>
 S.ext v8 0 fun v9 =>
 S.ext v8 1 fun v10 =>
 V Try.prog (Instr.build 22 #[(97, (I 5)), (98, (I 2)), (99, (I 1))]) fun v12 =>
 CF Try.prog 8 [v12] fun v13 =>
 S.ext v13 0 fun v14 =>
 S.ext v13 1 fun v15 =>
 S.box 22 (.agg (List.replicate 256 (.int .i64 0)).toArray) fun l_3 =>
 S.st 256 l_3 v14 fun _ =>
 S.bin .eql v10 (I 0) fun v17 =>
 S.gd v17 true (fun k => k v9) fun v19 =>
 S.gd v17 true (S.b2s v19) fun v20 =>
 S.gd v17 true (S.sbin .eql v20 (.string ⟨#[3, 2, 97, 1, 98, 1, 32]⟩)) fun v21 =>
 S.pick v17 v21 (B false) fun v22 =>
 S.gd v22 true (fun k => k v15) fun v24 =>
 S.gd v22 true (S.bin .eql v24 (I 0)) fun v25 =>
 S.pick v22 v25 (B false) fun v26 =>
 S.gd v26 true (S.ldN 256 l_3) fun v28 =>
 S.gd v26 true (V Try.prog (Instr.build 22 #[(97, (I 1)), (98, (I 2)), (99, (I 2))])) fun v29 =>
 S.gd v26 true (S.eqv Try.prog .eql 22 false v28 v29) fun v30 =>
 S.pick v26 v30 (B false) fun v31 =>
 K v31
theorem e10 [Amb] (K : Value → WT) : s10  K = shal Try.prog Try.f10 .p a10 [] K := by kernel_rfl
theorem c10 [Amb] {K : Value → WT} {w : World} (h : s10  K w) : CF Try.prog 10 [] K w := shal_sound Try.func10 (e10  K ▸ h)
def a11 : Ann := .seq (.z) (.seq (.seq (.z) (.cond (.seq (.z) (.z)) (.z))) (.seq (.z) (.seq (.z) (.seq (.seq (.z) (.blk (.loop [1, 2, 4, 5, 6, 14, 15, 16] (.seq (.z) (.seq (.cond (.z) (.z)) (.seq (.blk (.seq (.z) (.join [1, 2, 4, 5, 6, 8, 14, 15, 16] (.seq (.z) (.cond (.z) (.z))) (.seq (.z) (.seq (.z) (.z)))))) (.z))))))) (.seq (.z) (.z))))))
def s11 [Amb] (lengths_0 : Value) (K : Value → WT) : WT :=
 S.box 22 lengths_0 fun lengths_1 =>
 S.box 28 (.agg (List.replicate 256 (.string ⟨#[]⟩)).toArray) fun v2 =>
 S.ldN 256 lengths_1 fun v9 =>
 CF Try.prog 26 [v9] fun v10 =>
 S.not1 v10 fun v11 =>
 S.cond v11 (
 V Try.prog (Instr.build 28 #[]) fun v12 =>
 S.st 256 v2 v12 fun _ =>
 S.ldN 256 v2 fun v2' =>
 K (.tuple #[v2', (I 2)])) (
 S.box 28 (.agg (List.replicate 256 (.string ⟨#[]⟩)).toArray) fun out_4 =>
 S.ldN 256 lengths_1 fun v13 =>
 CF Try.prog 27 [v13] fun v14 =>
 S.len v14 fun v15 =>
 S.loop 8 (fun K0 => fun lengths_1' v2'2 out_4' n_5 long_6 v14' v15' v16 => S.fa fun _ =>
 S.bin .lss v16 v15' fun v17 =>
 S.cond v17 (
 S.ixS 1 v14' v16 fun v19 =>
 S.ld v19 fun v20 =>
 S.join 9 (fun K1 =>
 S.bin .gtr v16 (I 0) fun v22 =>
 S.cond v22 (
 S.bin .add n_5 (.int .u64 1) fun v24 =>
 K1 lengths_1' v2'2 out_4' v24 long_6 v20 v14' v15' v16) (
 K1 lengths_1' v2'2 out_4' n_5 long_6 v20 v14' v15' v16))
 <| fun lengths_1'2 v2'3 out_4'2 n_5' long_6' b_8 v14'2 v15'2 v16' => S.fa fun _ =>
 S.ixA 256 1 lengths_1'2 b_8 fun v27 =>
 S.ld v27 fun v28 =>
 S.bin .sub v28 long_6' fun v30 =>
 S.sh .shl n_5' v30 fun v31 =>
 S.ixA 256 1 lengths_1'2 b_8 fun v33 =>
 S.ld v33 fun v34 =>
 CF Try.prog 28 [v31, v34] fun v38 =>
 S.ixA 256 1 out_4'2 b_8 fun v39 =>
 S.st 1 v39 v38 fun _ =>
 S.bin .add v16' (I 1) fun v40 =>
 K0 lengths_1'2 v2'3 out_4'2 v31 v34 v14'2 v15'2 v40) (
 S.ldN 256 out_4' fun v41 =>
 S.st 256 v2'2 v41 fun _ =>
 S.ldN 256 v2'2 fun v2'4 =>
 K (.tuple #[v2'4, (I 0)])))
 [lengths_1, v2, out_4, (.int .u64 0), (I 0), v14, v15, (I 0)])
theorem e11 [Amb] (lengths_0 : Value) (K : Value → WT) : s11 lengths_0 K = shal Try.prog Try.f11 .p a11 [lengths_0] K := by kernel_rfl
theorem c11 [Amb] {lengths_0 : Value} {K : Value → WT} {w : World} (h : s11 lengths_0 K w) : CF Try.prog 11 [lengths_0] K w := shal_sound Try.func11 (e11 lengths_0 K ▸ h)
def a13 : Ann := .seq (.z) (.seq (.seq (.z) (.cond (.seq (.z) (.z)) (.z))) (.seq (.z) (.seq (.seq (.z) (.blk (.loop [0, 4, 20, 21, 22] (.seq (.z) (.seq (.cond (.z) (.z)) (.seq (.blk (.seq (.z) (.z))) (.z))))))) (.seq (.z) (.seq (.z) (.seq (.z) (.seq (.z) (.seq (.z) (.seq (.z) (.seq (.z) (.seq (.seq (.z) (.blk (.loop [0, 7, 9, 12, 56, 57, 58] (.seq (.z) (.seq (.cond (.z) (.z)) (.seq (.blk (.seq (.z) (.draw [0, 1, 2, 3, 4, 5, 6, 7, 8, 9, 10, 11, 12, 13, 14, 15]))) (.z))))))) (.seq (.seq (.z) (.blk (.loop [9, 12, 78, 79, 80] (.seq (.z) (.seq (.cond (.z) (.z)) (.seq (.blk (.seq (.z) (.z))) (.z))))))) (.seq (.z) (.z))))))))))))))
def s13 [Amb] (v0 : Value) (K : Value → WT) : WT :=
 S.len v0 fun v18 =>
 S.bin .gtr v18 (I 8192) fun v19 =>
 S.cond v19 (
 K (.tuple #[(.slice none 0 0), (I 6)])) (
 S.box 22 (.agg (List.replicate 256 (.int .i64 0)).toArray) fun v4 =>
 S.len v0 fun v21 =>
 S.loop 5 (fun K0 => fun v0' v4' v20 v21' v22 => S.fa fun _ =>
 S.bin .lss v22 v21' fun v23 =>
 S.cond v23 (
 S.ixS 1 v20 v22 fun v24 =>
 S.ld v24 fun v25 =>
 S.ixA 256 1 v4' v25 fun v27 =>
 S.ld v27 fun v28 =>
 S.bin .add v28 (I 1) fun v29 =>
 S.ixA 256 1 v4' v25 fun v30 =>
 S.st 1 v30 v29 fun _ =>
 S.bin .add v22 (I 1) fun v31 =>
 K0 v0' v4' v20 v21' v31) (
 S.ldN 256 v4' fun v33 =>
 CF Try.prog 8 [v33] fun v34 =>
 S.ext v34 0 fun v35 =>
 S.ext v34 1 fun v36 =>
 S.box 22 (.agg (List.replicate 256 (.int .i64 0)).toArray) fun v7 =>
 S.st 256 v7 v35 fun _ =>
 S.ldN 256 v7 fun v38 =>
 CF Try.prog 11 [v38] fun v39 =>
 S.ext v39 0 fun v40 =>
 S.ext v39 1 fun v41 =>
 S.box 28 (.agg (List.replicate 256 (.string ⟨#[]⟩)).toArray) fun v9 =>
 S.st 256 v9 v40 fun _ =>
 S.ldN 256 v7 fun v42 =>
 CF Try.prog 27 [v42] fun v43 =>
 CF Try.prog 22 [v43] fun v45 =>
 V Try.prog (Instr.build 63 #[]) fun v46 =>
 S.box 63 v46 fun v47 =>
 S.len v0' fun v50 =>
 CF Try.prog 30 [v47, v50] fun v51 =>
 S.len v43 fun v54 =>
 CF Try.prog 30 [v47, v54] fun v55 =>
 S.len v43 fun v57 =>
 S.loop 7 (fun K1 => fun v0'2 v7' v9' v12 v56 v57' v58 => S.fa fun _ =>
 S.bin .lss v58 v57' fun v59 =>
 S.cond v59 (
 S.ixS 1 v56 v58 fun v60 =>
 S.ld v60 fun v61 =>
 S.dr <|
 S.nc v12 fun v64 =>
 S.fad v64 0 fun v65 =>
 S.ld v65 fun v66 =>
 S.cvt .u8 v61 fun v68 =>
 S.ixA 256 1 v7' v61 fun v70 =>
 S.ld v70 fun v71 =>
 S.cvt .u8 v71 fun v72 =>
 V Try.prog (Instr.buildSlice 31 2 #[(0, v68), (1, v72)]) fun v73 =>
 S.rck [S.ld v65 (fun v' _ => v' = v66)] <|
 V Try.prog (Builtin.append_ #[31, 31] 31 #[v66, v73]) fun v74 =>
 S.nc v12 fun v75 =>
 S.fad v75 0 fun v76 =>
 S.st 1 v76 v74 fun _ =>
 S.bin .add v58 (I 1) fun v77 =>
 K1 v0'2 v7' v9' v12 v56 v57' v77) (
 S.len v0'2 fun v79 =>
 S.loop 5 (fun K2 => fun v9'2 v12' v78 v79' v80 => S.fa fun _ =>
 S.bin .lss v80 v79' fun v81 =>
 S.cond v81 (
 S.ixS 1 v78 v80 fun v82 =>
 S.ld v82 fun v83 =>
 S.ixA 256 1 v9'2 v83 fun v86 =>
 S.ld v86 fun v87 =>
 CF Try.prog 31 [v12', v87] fun v88 =>
 S.bin .add v80 (I 1) fun v89 =>
 K2 v9'2 v12' v78 v79' v89) (
 S.nc v12' fun v91 =>
 S.fad v91 0 fun v92 =>
 S.ld v92 fun v93 =>
 K (.tuple #[v93, (I 0)])))
 [v9', v12, v0'2, v79, (I 0)]))
 [v0', v7, v9, v47, v43, v57, (I 0)]))
 [v0, v4, v0, v21, (I 0)])
theorem e13 [Amb] (v0 : Value) (K : Value → WT) : s13 v0 K = shal Try.prog Try.f13 .p a13 [v0] K := by kernel_rfl
theorem c13 [Amb] {v0 : Value} {K : Value → WT} {w : World} (h : s13 v0 K w) : CF Try.prog 13 [v0] K w := shal_sound Try.func13 (e13 v0 K ▸ h)
def a17 : Ann := .seq (.z) (.seq (.z) (.seq (.seq (.z) (.cond (.seq (.z) (.z)) (.z))) (.seq (.seq (.z) (.cond (.seq (.z) (.z)) (.z))) (.seq (.z) (.seq (.blk (.seq (.z) (.cond (.seq (.z) (.z)) (.join [0, 6, 7, 9, 41] (.z) (.cond (.seq (.z) (.z)) (.z)))))) (.seq (.z) (.seq (.seq (.z) (.cond (.seq (.z) (.z)) (.z))) (.seq (.z) (.seq (.seq (.z) (.cond (.seq (.z) (.z)) (.z))) (.seq (.drawT 9 (.one 0 (.one 2 (.one 3 (.one 4 (.two 1 (.one 7 (.one 5 (.one 6 (.one 8 .nil)))) 5 (.two 1 (.one 7 (.one 6 (.one 8 .nil))) 6 (.one 1 (.one 7 (.one 8 .nil)))))))))) (.seq (.z) (.seq (.seq (.z) (.blk (.loop [12, 13, 14, 77, 78] (.seq (.z) (.seq (.cond (.z) (.z)) (.seq (.blk (.seq (.z) (.seq (.seq (.z) (.cond (.seq (.z) (.z)) (.z))) (.z)))) (.z))))))) (.seq (.seq (.z) (.cond (.seq (.z) (.z)) (.z))) (.seq (.z) (.z)))))))))))))))
def s17 [Amb] (v0 v1 : Value) (K : Value → WT) : WT :=
 CF Try.prog 33 [v0, (I 0)] fun v19 =>
 S.ext v19 0 fun v20 =>
 S.ext v19 1 fun v21 =>
 S.ext v19 2 fun v22 =>
 S.bin .neq v22 (I 0) fun v24 =>
 S.cond v24 (
 K (.tuple #[(.slice none 0 0), v22])) (
 S.mn v1 (I 8192) fun v28 =>
 S.bin .gtr v20 v28 fun v29 =>
 S.cond v29 (
 K (.tuple #[(.slice none 0 0), (I 6)])) (
 CF Try.prog 33 [v0, v21] fun v33 =>
 S.ext v33 0 fun v34 =>
 S.ext v33 1 fun v35 =>
 S.ext v33 2 fun v36 =>
 S.bin .neq v36 (I 0) fun v39 =>
 S.cond v39 (
 K (.tuple #[(.slice none 0 0), v36])) (
 S.join 5 (fun K0 =>
 S.bin .gtr v34 (I 256) fun v43 =>
 S.gd v43 false (fun k => k v34) fun v45 =>
 S.gd v43 false (S.bin .eql v45 (I 0)) fun v46 =>
 S.gd v43 false (fun k => k v20) fun v47 =>
 S.gd v43 false (S.bin .eql v47 (I 0)) fun v48 =>
 S.gd v43 false (S.beq .neq v46 v48) fun v49 =>
 S.pick v43 (B true) v49 fun v50 =>
 K0 v0 v20 v35 v34 v50)
 <| fun v0' v6 v7 v9 v41 => S.fa fun _ =>
 S.cond v41 (
 K (.tuple #[(.slice none 0 0), (I 4)])) (
 CF Try.prog 34 [v0', v7, v9] fun v55 =>
 S.ext v55 0 fun v56 =>
 S.ext v55 1 fun v57 =>
 S.ext v55 2 fun v58 =>
 S.box 22 (.agg (List.replicate 256 (.int .i64 0)).toArray) fun v10 =>
 S.st 256 v10 v56 fun _ =>
 S.bin .neq v58 (I 0) fun v60 =>
 S.cond v60 (
 K (.tuple #[(.slice none 0 0), v58])) (
 S.ldN 256 v10 fun v63 =>
 CF Try.prog 11 [v63] fun v64 =>
 S.ext v64 0 fun v65 =>
 S.ext v64 1 fun v66 =>
 S.box 28 (.agg (List.replicate 256 (.string ⟨#[]⟩)).toArray) fun v11 =>
 S.st 256 v11 v65 fun _ =>
 S.bin .neq v66 (I 0) fun v68 =>
 S.cond v68 (
 K (.tuple #[(.slice none 0 0), v66])) (
 S.dr <|
 S.ldN 256 v11 fun v70 =>
 S.slc 1 v0' (some v57) none none fun v74 =>
 S.both (
 CF Try.prog 35 [v70] fun v71 =>
 V Try.prog (Instr.build 75 #[(0, v74)]) fun v75 =>
 S.box 75 v75 fun v76 =>
 S.loop 5 (fun K1 => fun v12 v13 v14 v77 v78 => S.fa fun _ =>
 S.bin .lss v78 v77 fun v79 =>
 S.cond v79 (
 CF Try.prog 36 [v13, v12] fun v83 =>
 S.ext v83 0 fun v84 =>
 S.ext v83 1 fun v85 =>
 S.bin .neq v85 (I 0) fun v87 =>
 S.cond v87 (
 K (.tuple #[(.slice none 0 0), v85])) (
 V Try.prog (Instr.buildSlice 31 1 #[(0, v84)]) fun v91 =>
 V Try.prog (Builtin.append_ #[31, 31] 31 #[v14, v91]) fun v92 =>
 S.bin .add v78 (I 1) fun v93 =>
 K1 v12 v13 v92 v77 v93)) (
 CF Try.prog 37 [v13] fun v95 =>
 S.not1 v95 fun v96 =>
 S.cond v96 (
 K (.tuple #[(.slice none 0 0), (I 4)])) (
 K (.tuple #[v14, (I 0)]))))
 [v71, v76, (.slice none 0 0), v6, (I 0)]) (
 V Try.prog (Instr.build 75 #[(0, v74)]) fun v75' =>
 S.rck [S.ldN 256 v11 (fun v' _ => v' = v70)] <|
 S.both (
 CF Try.prog 35 [v70] fun v71' =>
 S.box 75 v75' fun v76' =>
 S.loop 5 (fun K2 => fun v12' v13' v14' v77' v78' => S.fa fun _ =>
 S.bin .lss v78' v77' fun v79' =>
 S.cond v79' (
 CF Try.prog 36 [v13', v12'] fun v83' =>
 S.ext v83' 0 fun v84' =>
 S.ext v83' 1 fun v85' =>
 S.bin .neq v85' (I 0) fun v87' =>
 S.cond v87' (
 K (.tuple #[(.slice none 0 0), v85'])) (
 V Try.prog (Instr.buildSlice 31 1 #[(0, v84')]) fun v91' =>
 V Try.prog (Builtin.append_ #[31, 31] 31 #[v14', v91']) fun v92' =>
 S.bin .add v78' (I 1) fun v93' =>
 K2 v12' v13' v92' v77' v93')) (
 CF Try.prog 37 [v13'] fun v95' =>
 S.not1 v95' fun v96' =>
 S.cond v96' (
 K (.tuple #[(.slice none 0 0), (I 4)])) (
 K (.tuple #[v14', (I 0)]))))
 [v71', v76', (.slice none 0 0), v6, (I 0)]) (
 S.box 75 v75' fun v76'2 =>
 S.rck [S.ldN 256 v11 (fun v' _ => v' = v70)] <|
 CF Try.prog 35 [v70] fun v71'2 =>
 S.loop 5 (fun K3 => fun v12'2 v13'2 v14'2 v77'2 v78'2 => S.fa fun _ =>
 S.bin .lss v78'2 v77'2 fun v79'2 =>
 S.cond v79'2 (
 CF Try.prog 36 [v13'2, v12'2] fun v83'2 =>
 S.ext v83'2 0 fun v84'2 =>
 S.ext v83'2 1 fun v85'2 =>
 S.bin .neq v85'2 (I 0) fun v87'2 =>
 S.cond v87'2 (
 K (.tuple #[(.slice none 0 0), v85'2])) (
 V Try.prog (Instr.buildSlice 31 1 #[(0, v84'2)]) fun v91'2 =>
 V Try.prog (Builtin.append_ #[31, 31] 31 #[v14'2, v91'2]) fun v92'2 =>
 S.bin .add v78'2 (I 1) fun v93'2 =>
 K3 v12'2 v13'2 v92'2 v77'2 v93'2)) (
 CF Try.prog 37 [v13'2] fun v95'2 =>
 S.not1 v95'2 fun v96'2 =>
 S.cond v96'2 (
 K (.tuple #[(.slice none 0 0), (I 4)])) (
 K (.tuple #[v14'2, (I 0)]))))
 [v71'2, v76'2, (.slice none 0 0), v6, (I 0)]))))))))
theorem e17 [Amb] (v0 v1 : Value) (K : Value → WT) : s17 v0 v1 K = shal Try.prog Try.f17 .p a17 [v0, v1] K := by kernel_rfl
theorem c17 [Amb] {v0 v1 : Value} {K : Value → WT} {w : World} (h : s17 v0 v1 K w) : CF Try.prog 17 [v0, v1] K w := shal_sound Try.func17 (e17 v0 v1 K ▸ h)
def a18 : Ann := .seq (.z) (.seq (.z) (.blk (.loop [0, 2, 3] (.seq (.seq (.z) (.cond (.z) (.z))) (.seq (.blk (.z)) (.z))))))
def s18 [Amb] (h_0 : Value) (K : Value → WT) : WT :=
 Gives Try.prog (invoke (.fn (.method "Len") #[]) #[h_0]) fun v5 =>
 S.bin .quo v5 (I 2) fun v7 =>
 S.bin .sub v7 (I 1) fun v8 =>
 S.loop 3 (fun K0 => fun h_0' n_2 i_3 => S.fa fun _ =>
 S.bin .geq i_3 (I 0) fun v10 =>
 S.cond v10 (
 CF Try.prog 38 [h_0', i_3, n_2] fun v16 =>
 S.bin .sub i_3 (I 1) fun v12 =>
 K0 h_0' n_2 v12) (
 K (.tuple #[])))
 [h_0, v5, v8]
theorem e18 [Amb] (h_0 : Value) (K : Value → WT) : s18 h_0 K = shal Try.prog Try.f18 .p a18 [h_0] K := by kernel_rfl
theorem c18 [Amb] {h_0 : Value} {K : Value → WT} {w : World} (h : s18 h_0 K w) : CF Try.prog 18 [h_0] K w := shal_sound Try.func18 (e18 h_0 K ▸ h)
def a19 : Ann := .seq (.z) (.seq (.z) (.z))
def s19 [Amb] (r_0 : Value) (K : Value → WT) : WT :=
 S.len r_0 fun v4 =>
 K v4
theorem e19 [Amb] (r_0 : Value) (K : Value → WT) : s19 r_0 K = shal Try.prog Try.f19 .p a19 [r_0] K := by kernel_rfl
theorem c19 [Amb] {r_0 : Value} {K : Value → WT} {w : World} (h : s19 r_0 K w) : CF Try.prog 19 [r_0] K w := shal_sound Try.func19 (e19 r_0 K ▸ h)
def a20 : Ann := .seq (.z) (.seq (.z) (.seq (.seq (.z) (.cond (.seq (.z) (.z)) (.z))) (.seq (.z) (.z))))
def s20 [Amb] (r_0 : Value) (K : Value → WT) : WT :=
 S.box 42 (.agg #[(.int .i64 0), (.slice none 0 0)]) fun v2 =>
 CF Try.prog 39 [(.iface 44 r_0)] fun v8 =>
 V Try.prog (Instr.typeAssert v8 20 42 true) fun v9 =>
 S.ext v9 0 fun v10 =>
 S.ext v9 1 fun v11 =>
 S.box 42 (.agg #[(.int .i64 0), (.slice none 0 0)]) fun t_3 =>
 S.st 2 t_3 v10 fun _ =>
 S.not1 v11 fun v13 =>
 S.cond v13 (
 V Try.prog (Instr.build 42 #[]) fun v14 =>
 S.st 2 v2 v14 fun _ =>
 S.ldN 2 v2 fun v2' =>
 K v2') (
 S.ldN 2 t_3 fun v15 =>
 S.st 2 v2 v15 fun _ =>
 S.ldN 2 v2 fun v2'2 =>
 K v2'2)
theorem e20 [Amb] (r_0 : Value) (K : Value → WT) : s20 r_0 K = shal Try.prog Try.f20 .p a20 [r_0] K := by kernel_rfl
theorem c20 [Amb] {r_0 : Value} {K : Value → WT} {w : World} (h : s20 r_0 K w) : CF Try.prog 20 [r_0] K w := shal_sound Try.func20 (e20 r_0 K ▸ h)
def a21 : Ann := .seq (.z) (.seq (.z) (.seq (.seq (.z) (.blk (.loop [0, 3, 9, 10, 11] (.seq (.z) (.seq (.cond (.z) (.z)) (.join [0, 3, 9, 10, 11] (.blk (.seq (.z) (.seq (.z) (.seq (.z) (.cond (.z) (.z)))))) (.z))))))) (.seq (.z) (.seq (.seq (.z) (.blk (.loop [6, 25, 26, 27] (.seq (.z) (.seq (.cond (.z) (.z)) (.seq (.blk (.seq (.z) (.z))) (.z))))))) (.seq (.z) (.z))))))
def s21 [Amb] (slices_0 : Value) (K : Value → WT) : WT :=
 S.len slices_0 fun v10 =>
 S.loop 5 (fun K0 => fun slices_0' size_3 v9 v10' v11 => S.fa fun _ =>
 S.bin .lss v11 v10' fun v12 =>
 S.cond v12 (
 S.join 5 (fun K1 =>
 S.ixS 1 v9 v11 fun v13 =>
 S.ld v13 fun v14 =>
 S.len v14 fun v17 =>
 S.bin .add size_3 v17 fun v18 =>
 S.bin .lss v18 (I 0) fun v20 =>
 S.cond v20 (
 S.pan (.iface 9 (.string ⟨#[108, 101, 110, 32, 111, 117, 116, 32, 111, 102, 32, 114, 97, 110, 103, 101]⟩))) (
 K1 slices_0' v18 v9 v10' v11))
 <| fun slices_0'2 size_3' v9' v10'2 v11' => S.fa fun _ =>
 S.bin .add v11' (I 1) fun v22 =>
 K0 slices_0'2 size_3' v9' v10'2 v22) (
 CF Try.prog 40 [(.slice none 0 0), size_3] fun v24 =>
 S.len slices_0' fun v26 =>
 S.loop 4 (fun K2 => fun newslice_6 v25 v26' v27 => S.fa fun _ =>
 S.bin .lss v27 v26' fun v28 =>
 S.cond v28 (
 S.ixS 1 v25 v27 fun v29 =>
 S.ld v29 fun v30 =>
 V Try.prog (Builtin.append_ #[40, 40] 40 #[newslice_6, v30]) fun v33 =>
 S.bin .add v27 (I 1) fun v34 =>
 K2 v33 v25 v26' v34) (
 K newslice_6))
 [v24, slices_0', v26, (I 0)]))
 [slices_0, (I 0), slices_0, v10, (I 0)]
theorem e21 [Amb] (slices_0 : Value) (K : Value → WT) : s21 slices_0 K = shal Try.prog Try.f21 .p a21 [slices_0] K := by kernel_rfl
theorem c21 [Amb] {slices_0 : Value} {K : Value → WT} {w : World} (h : s21 slices_0 K w) : CF Try.prog 21 [slices_0] K w := shal_sound Try.func21 (e21 slices_0 K ▸ h)
def a23 : Ann := .seq (.z) (.z)
def s23 [Amb] (h_0 x_1 : Value) (K : Value → WT) : WT :=
 Gives Try.prog (invoke (.fn (.method "Push") #[]) #[h_0, x_1]) fun v6 =>
 Gives Try.prog (invoke (.fn (.method "Len") #[]) #[h_0]) fun v9 =>
 S.bin .sub v9 (I 1) fun v10 =>
 CF Try.prog 43 [h_0, v10] fun v11 =>
 K (.tuple #[])
theorem e23 [Amb] (h_0 x_1 : Value) (K : Value → WT) : s23 h_0 x_1 K = shal Try.prog Try.f23 .p a23 [h_0, x_1] K := by kernel_rfl
theorem c23 [Amb] {h_0 x_1 : Value} {K : Value → WT} {w : World} (h : s23 h_0 x_1 K w) : CF Try.prog 23 [h_0, x_1] K w := shal_sound Try.func23 (e23 h_0 x_1 K ▸ h)
def a24 : Ann := .seq (.z) (.seq (.seq (.z) (.blk (.loop [1, 3] (.seq (.seq (.z) (.cond (.z) (.z))) (.seq (.blk (.seq (.z) (.cond (.seq (.z) (.z)) (.z)))) (.z)))))) (.seq (.z) (.z)))
def s24 [Amb] (t_0 : Value) (K : Value → WT) : WT :=
 S.box 53 t_0 fun t_1 =>
 S.loop 2 (fun K0 => fun t_1' i_3 => S.fa fun _ =>
 S.bin .lss i_3 (I 256) fun v5 =>
 S.cond v5 (
 S.fad t_1' 1 fun v9 =>
 S.ixA 256 1 v9 i_3 fun v10 =>
 S.ld v10 fun v11 =>
 S.cond v11 (
 K i_3) (
 S.bin .add i_3 (I 1) fun v7 =>
 K0 t_1' v7)) (
 K (I 256)))
 [t_1, (I 0)]
theorem e24 [Amb] (t_0 : Value) (K : Value → WT) : s24 t_0 K = shal Try.prog Try.f24 .p a24 [t_0] K := by kernel_rfl
def a26 : Ann := .seq (.z) (.seq (.z) (.seq (.seq (.z) (.blk (.loop [3, 6, 7] (.seq (.z) (.seq (.cond (.z) (.z)) (.join [3, 6, 7] (.blk (.seq (.z) (.blk (.join [3, 5, 6, 7, 10] (.z) (.cond (.seq (.z) (.z)) (.join [3, 5, 6, 7, 17] (.z) (.cond (.seq (.z) (.z)) (.seq (.z) (.cond (.z) (.z)))))))))) (.z))))))) (.seq (.z) (.z))))
def s26 [Amb] (lengths_0 : Value) (K : Value → WT) : WT :=
 S.box 22 lengths_0 fun lengths_1 =>
 S.ldN 256 lengths_1 fun v6 =>
 S.loop 3 (fun K0 => fun room_3 v6' v7 => S.fa fun _ =>
 S.bin .lss v7 (I 256) fun v8 =>
 S.cond v8 (
 S.join 3 (fun K1 =>
 V Try.prog (Instr.index 22 v6' v7) fun v9 =>
 S.join 5 (fun K2 =>
 S.bin .lss v9 (I 0) fun v12 =>
 S.gd v12 false (fun k => k v9) fun v14 =>
 S.gd v12 false (S.bin .gtr v14 (I 60)) fun v15 =>
 S.pick v12 (B true) v15 fun v16 =>
 K2 room_3 v9 v6' v7 v16)
 <| fun room_3' n_5 v6'2 v7' v10 => S.fa fun _ =>
 S.cond v10 (
 K (B false)) (
 S.join 5 (fun K3 =>
 S.bin .gtr n_5 (I 0) fun v19 =>
 S.gd v19 true (fun k => k room_3') fun v21 =>
 S.gd v19 true (fun k => k n_5) fun v22 =>
 S.gd v19 true (S.sh .shr (.int .u64 1152921504606846976) v22) fun v23 =>
 S.gd v19 true (S.bin .lss v21 v23) fun v24 =>
 S.pick v19 v24 (B false) fun v25 =>
 K3 room_3' n_5 v6'2 v7' v25)
 <| fun room_3'2 n_5' v6'3 v7'2 v17 => S.fa fun _ =>
 S.cond v17 (
 K (B false)) (
 S.bin .gtr n_5' (I 0) fun v28 =>
 S.cond v28 (
 S.sh .shr (.int .u64 1152921504606846976) n_5' fun v31 =>
 S.bin .sub room_3'2 v31 fun v32 =>
 K1 v32 v6'3 v7'2) (
 K1 room_3'2 v6'3 v7'2))))
 <| fun room_3'3 v6'4 v7'3 => S.fa fun _ =>
 S.bin .add v7'3 (I 1) fun v33 =>
 K0 room_3'3 v6'4 v33) (
 K (B true)))
 [(.int .u64 1152921504606846976), v6, (I 0)]
theorem e26 [Amb] (lengths_0 : Value) (K : Value → WT) : s26 lengths_0 K = shal Try.prog Try.f26 .p a26 [lengths_0] K := by kernel_rfl
theorem c26 [Amb] {lengths_0 : Value} {K : Value → WT} {w : World} (h : s26 lengths_0 K w) : CF Try.prog 26 [lengths_0] K w := shal_sound Try.func26 (e26 lengths_0 K ▸ h)
def a27 : Ann := .seq (.z) (.seq (.z) (.seq (.seq (.z) (.blk (.loop [1, 3, 6, 7] (.seq (.z) (.seq (.cond (.z) (.z)) (.join [1, 3, 6, 7] (.blk (.seq (.z) (.seq (.z) (.cond (.z) (.z))))) (.z))))))) (.seq (.z) (.seq (.z) (.z)))))
def s27 [Amb] (lengths_0 : Value) (K : Value → WT) : WT :=
 S.box 22 lengths_0 fun lengths_1 =>
 S.ldN 256 lengths_1 fun v6 =>
 S.loop 4 (fun K0 => fun lengths_1' out_3 v6' v7 => S.fa fun _ =>
 S.bin .lss v7 (I 256) fun v8 =>
 S.cond v8 (
 S.join 4 (fun K1 =>
 V Try.prog (Instr.index 22 v6' v7) fun v10 =>
 S.bin .gtr v10 (I 0) fun v12 =>
 S.cond v12 (
 V Try.prog (Instr.buildSlice 40 1 #[(0, v7)]) fun v15 =>
 V Try.prog (Builtin.append_ #[40, 40] 40 #[out_3, v15]) fun v16 =>
 K1 lengths_1' v16 v6' v7) (
 K1 lengths_1' out_3 v6' v7))
 <| fun lengths_1'2 out_3' v6'2 v7' => S.fa fun _ =>
 S.bin .add v7' (I 1) fun v17 =>
 K0 lengths_1'2 out_3' v6'2 v17) (
 CF Try.prog 44 [out_3, (.func (Go.Fn.func 45) #[] #[lengths_1'])] fun v20 =>
 K out_3))
 [lengths_1, (.slice none 0 0), v6, (I 0)]
theorem e27 [Amb] (lengths_0 : Value) (K : Value → WT) : s27 lengths_0 K = shal Try.prog Try.f27 .p a27 [lengths_0] K := by kernel_rfl
theorem c27 [Amb] {lengths_0 : Value} {K : Value → WT} {w : World} (h : s27 lengths_0 K w) : CF Try.prog 27 [lengths_0] K w := shal_sound Try.func27 (e27 lengths_0 K ▸ h)
def a28 : Ann := .seq (.z) (.seq (.z) (.seq (.seq (.z) (.blk (.loop [0, 5, 6] (.seq (.seq (.z) (.cond (.z) (.z))) (.seq (.blk (.z)) (.z)))))) (.seq (.z) (.z))))
def s28 [Amb] (n_0 long_1 : Value) (K : Value → WT) : WT :=
 S.box 94 (.agg #[(.pointer none), (.slice none 0 0)]) fun b_5 =>
 S.bin .sub long_1 (I 1) fun v8 =>
 S.loop 3 (fun K0 => fun n_0' b_5' i_6 => S.fa fun _ =>
 S.bin .geq i_6 (I 0) fun v10 =>
 S.cond v10 (
 S.sh .shr n_0' i_6 fun v15 =>
 S.bin .and v15 (.int .u64 1) fun v16 =>
 S.cvt .u8 v16 fun v17 =>
 S.bin .add (.int .u8 48) v17 fun v18 =>
 CF Try.prog 46 [b_5', v18] fun v19 =>
 S.bin .sub i_6 (I 1) fun v12 =>
 K0 n_0' b_5' v12) (
 CF Try.prog 47 [b_5'] fun v20 =>
 K v20))
 [n_0, b_5, v8]
theorem e28 [Amb] (n_0 long_1 : Value) (K : Value → WT) : s28 n_0 long_1 K = shal Try.prog Try.f28 .p a28 [n_0, long_1] K := by kernel_rfl
theorem c28 [Amb] {n_0 long_1 : Value} {K : Value → WT} {w : World} (h : s28 n_0 long_1 K w) : CF Try.prog 28 [n_0, long_1] K w := shal_sound Try.func28 (e28 n_0 long_1 K ▸ h)
def a30 : Ann := .seq (.z) (.z)
def s30 [Amb] (p_0 n_1 : Value) (K : Value → WT) : WT :=
 CF Try.prog 48 [n_1] fun v8 =>
 S.ext v8 0 fun v9 =>
 S.ext v8 1 fun v10 =>
 S.nc p_0 fun v13 =>
 S.fad v13 0 fun v14 =>
 S.ld v14 fun v15 =>
 V Try.prog (Builtin.append_ #[31, 31] 31 #[v15, v9]) fun v17 =>
 S.nc p_0 fun v18 =>
 S.fad v18 0 fun v19 =>
 S.st 1 v19 v17 fun _ =>
 K (.tuple #[])
theorem e30 [Amb] (p_0 n_1 : Value) (K : Value → WT) : s30 p_0 n_1 K = shal Try.prog Try.f30 .p a30 [p_0, n_1] K := by kernel_rfl
theorem c30 [Amb] {p_0 n_1 : Value} {K : Value → WT} {w : World} (h : s30 p_0 n_1 K w) : CF Try.prog 30 [p_0, n_1] K w := shal_sound Try.func30 (e30 p_0 n_1 K ▸ h)
def a31 : Ann := .seq (.z) (.blk (.loop [0, 1, 6, 7] (.seq (.z) (.seq (.cond (.z) (.z)) (.seq (.blk (.seq (.z) (.join [0, 1, 4, 6, 7] (.seq (.z) (.cond (.z) (.z))) (.seq (.draw [0, 1, 2, 3, 4, 5, 6, 7, 8, 9, 10, 11, 12, 13, 14, 15, 16, 17, 18, 19, 20, 21, 22, 23, 24]) (.z))))) (.z))))))
def s31 [Amb] (p_0 word_1 : Value) (K : Value → WT) : WT :=
 S.lenS word_1 fun v6 =>
 S.loop 4 (fun K0 => fun p_0' word_1' v6' v7 => S.fa fun _ =>
 S.bin .lss v7 v6' fun v8 =>
 S.cond v8 (
 S.join 5 (fun K1 =>
 S.nc p_0' fun v11 =>
 S.fad v11 1 fun v12 =>
 S.ld v12 fun v13 =>
 S.bin .eql v13 (I 0) fun v14 =>
 S.cond v14 (
 S.nc p_0' fun v17 =>
 S.fad v17 0 fun v18 =>
 S.ld v18 fun v19 =>
 V Try.prog (Instr.buildSlice 31 1 #[(0, (.int .u8 0))]) fun v20 =>
 V Try.prog (Builtin.append_ #[31, 31] 31 #[v19, v20]) fun v21 =>
 S.nc p_0' fun v22 =>
 S.fad v22 0 fun v23 =>
 S.st 1 v23 v21 fun _ =>
 K1 p_0' word_1' v7 v6' v7) (
 K1 p_0' word_1' v7 v6' v7))
 <| fun p_0'2 word_1'2 i_4 v6'2 v7' => S.fa fun _ =>
 S.dr <|
 S.nc p_0'2 fun v25 =>
 S.fad v25 0 fun v26 =>
 S.ld v26 fun v27 =>
 S.nc p_0'2 fun v29 =>
 S.fad v29 0 fun v30 =>
 S.ld v30 fun v31 =>
 S.len v31 fun v32 =>
 S.bin .sub v32 (I 1) fun v33 =>
 S.ixS 1 v27 v33 fun v34 =>
 S.ld v34 fun v35 =>
 S.chr word_1'2 i_4 fun v38 =>
 S.bin .sub v38 (.int .u8 48) fun v39 =>
 S.nc p_0'2 fun v41 =>
 S.fad v41 1 fun v42 =>
 S.ld v42 fun v43 =>
 S.bin .sub (I 7) v43 fun v44 =>
 S.sh .shl v39 v44 fun v45 =>
 S.bin .or v35 v45 fun v46 =>
 S.ixS 1 v27 v33 fun v47 =>
 S.st 1 v47 v46 fun _ =>
 S.nc p_0'2 fun v50 =>
 S.fad v50 1 fun v51 =>
 S.ld v51 fun v52 =>
 S.bin .add v52 (I 1) fun v53 =>
 S.bin .rem v53 (I 8) fun v54 =>
 S.nc p_0'2 fun v55 =>
 S.fad v55 1 fun v56 =>
 S.st 1 v56 v54 fun _ =>
 S.bin .add v7' (I 1) fun v57 =>
 K0 p_0'2 word_1'2 v6'2 v57) (
 K (.tuple #[])))
 [p_0, word_1, v6, (I 0)]
theorem e31 [Amb] (p_0 word_1 : Value) (K : Value → WT) : s31 p_0 word_1 K = shal Try.prog Try.f31 .p a31 [p_0, word_1] K := by kernel_rfl
theorem c31 [Amb] {p_0 word_1 : Value} {K : Value → WT} {w : World} (h : s31 p_0 word_1 K w) : CF Try.prog 31 [p_0, word_1] K w := shal_sound Try.func31 (e31 p_0 word_1 K ▸ h)
def a33 : Ann := .seq (.z) (.seq (.join [0, 1, 17] (.z) (.cond (.seq (.z) (.z)) (.z))) (.seq (.z) (.seq (.seq (.z) (.blk (.loop [1, 7, 20, 21, 22] (.seq (.z) (.seq (.cond (.z) (.z)) (.seq (.blk (.seq (.z) (.seq (.join [1, 7, 8, 9, 20, 21, 22, 32] (.z) (.cond (.seq (.z) (.z)) (.z))) (.seq (.z) (.blk (.seq (.z) (.cond (.z) (.join [1, 7, 8, 49] (.z) (.cond (.seq (.z) (.z)) (.seq (.z) (.z))))))))))) (.z))))))) (.seq (.z) (.z)))))
def s33 [Amb] (b_0 at_1 : Value) (K : Value → WT) : WT :=
 S.join 3 (fun K0 =>
 S.bin .lss at_1 (I 0) fun v11 =>
 S.gd v11 false (fun k => k at_1) fun v13 =>
 S.gd v11 false (fun k => k b_0) fun v14 =>
 S.gd v11 false (S.len v14) fun v15 =>
 S.gd v11 false (S.bin .gtr v13 v15) fun v16 =>
 S.pick v11 (B true) v16 fun v17 =>
 K0 b_0 at_1 v17)
 <| fun b_0' at_1' v17' => S.fa fun _ =>
 S.cond v17' (
 K (.tuple #[(I 0), (I 0), (I 2)])) (
 S.slc 1 b_0' (some at_1') none none fun v20 =>
 S.len v20 fun v21 =>
 S.loop 5 (fun K1 => fun at_1'2 n_7 v20' v21' v22 => S.fa fun _ =>
 S.bin .lss v22 v21' fun v23 =>
 S.cond v23 (
 S.ixS 1 v20' v22 fun v25 =>
 S.ld v25 fun v26 =>
 S.join 8 (fun K2 =>
 S.bin .eql v22 (I 7) fun v28 =>
 S.gd v28 true (fun k => k v26) fun v30 =>
 S.gd v28 true (S.bin .gtr v30 (.int .u8 15)) fun v31 =>
 S.pick v28 v31 (B false) fun v32 =>
 K2 at_1'2 n_7 v22 v26 v20' v21' v22 v32)
 <| fun at_1'3 n_7' i_8 c_9 v20'2 v21'2 v22' v32' => S.fa fun _ =>
 S.cond v32' (
 K (.tuple #[(I 0), (I 0), (I 6)])) (
 S.bin .rem c_9 (.int .u8 128) fun v35 =>
 S.cvt .i64 v35 fun v36 =>
 S.bin .mul (I 7) i_8 fun v38 =>
 S.sh .shl v36 v38 fun v39 =>
 S.bin .or n_7' v39 fun v40 =>
 S.bin .geq c_9 (.int .u8 128) fun v48 =>
 S.cond v48 (
 S.bin .add v22' (I 1) fun v56 =>
 K1 at_1'3 v40 v20'2 v21'2 v56) (
 S.join 4 (fun K3 =>
 S.bin .eql c_9 (.int .u8 0) fun v51 =>
 S.gd v51 true (fun k => k i_8) fun v53 =>
 S.gd v51 true (S.bin .gtr v53 (I 0)) fun v54 =>
 S.pick v51 v54 (B false) fun v55 =>
 K3 at_1'3 v40 i_8 v55)
 <| fun at_1'4 n_7'2 i_8' v49 => S.fa fun _ =>
 S.cond v49 (
 K (.tuple #[(I 0), (I 0), (I 4)])) (
 S.bin .add at_1'4 i_8' fun v44 =>
 S.bin .add v44 (I 1) fun v45 =>
 K (.tuple #[n_7'2, v45, (I 0)]))))) (
 K (.tuple #[(I 0), (I 0), (I 3)])))
 [at_1', (I 0), v20, v21, (I 0)])
theorem e33 [Amb] (b_0 at_1 : Value) (K : Value → WT) : s33 b_0 at_1 K = shal Try.prog Try.f33 .p a33 [b_0, at_1] K := by kernel_rfl
theorem c33 [Amb] {b_0 at_1 : Value} {K : Value → WT} {w : World} (h : s33 b_0 at_1 K w) : CF Try.prog 33 [b_0, at_1] K w := shal_sound Try.func33 (e33 b_0 at_1 K ▸ h)
def a34 : Ann := .seq (.z) (.seq (.z) (.seq (.z) (.seq (.seq (.z) (.blk (.loop [0, 1, 6, 9, 10, 13, 14] (.seq (.z) (.seq (.cond (.z) (.z)) (.seq (.blk (.seq (.seq (.z) (.cond (.seq (.z) (.z)) (.z))) (.seq (.draw [0, 1, 2, 3, 4, 5, 6, 7, 8, 9, 10, 11, 12]) (.seq (.blk (.seq (.z) (.cond (.seq (.z) (.z)) (.seq (.z) (.cond (.seq (.z) (.z)) (.z)))))) (.seq (.z) (.z)))))) (.z))))))) (.seq (.z) (.z)))))
def s34 [Amb] (b_0 at_1 n_2 : Value) (K : Value → WT) : WT :=
 S.box 22 (.agg (List.replicate 256 (.int .i64 0)).toArray) fun v6 =>
 S.box 22 (.agg (List.replicate 256 (.int .i64 0)).toArray) fun out_9 =>
 S.loop 7 (fun K0 => fun b_0' at_1' v6' out_9' last_10 v13 v14 => S.fa fun _ =>
 S.bin .lss v14 v13 fun v15 =>
 S.cond v15 (
 S.len b_0' fun v17 =>
 S.bin .sub v17 at_1' fun v19 =>
 S.bin .lss v19 (I 2) fun v20 =>
 S.cond v20 (
 S.ldN 256 out_9' fun v21 =>
 S.st 256 v6' v21 fun _ =>
 S.ldN 256 v6' fun v6'2 =>
 K (.tuple #[v6'2, (I 0), (I 3)])) (
 S.dr <|
 S.ixS 1 b_0' at_1' fun v24 =>
 S.ld v24 fun v25 =>
 S.cvt .i64 v25 fun v26 =>
 S.bin .add at_1' (I 1) fun v29 =>
 S.ixS 1 b_0' v29 fun v30 =>
 S.ld v30 fun v31 =>
 S.cvt .i64 v31 fun v32 =>
 S.bin .leq v26 last_10 fun v36 =>
 S.cond v36 (
 S.ldN 256 out_9' fun v37 =>
 S.st 256 v6' v37 fun _ =>
 S.ldN 256 v6' fun v6'3 =>
 K (.tuple #[v6'3, (I 0), (I 4)])) (
 S.bin .eql v32 (I 0) fun v40 =>
 S.cond v40 (
 S.ldN 256 out_9' fun v41 =>
 S.st 256 v6' v41 fun _ =>
 S.ldN 256 v6' fun v6'4 =>
 K (.tuple #[v6'4, (I 0), (I 2)])) (
 S.ixA 256 1 out_9' v26 fun v45 =>
 S.st 1 v45 v32 fun _ =>
 S.bin .add at_1' (I 2) fun v47 =>
 S.bin .add v14 (I 1) fun v48 =>
 K0 b_0' v47 v6' out_9' v26 v13 v48)))) (
 S.ldN 256 out_9' fun v49 =>
 S.st 256 v6' v49 fun _ =>
 S.ldN 256 v6' fun v6'5 =>
 K (.tuple #[v6'5, at_1', (I 0)])))
 [b_0, at_1, v6, out_9, (I (-1)), n_2, (I 0)]
theorem e34 [Amb] (b_0 at_1 n_2 : Value) (K : Value → WT) : s34 b_0 at_1 n_2 K = shal Try.prog Try.f34 .p a34 [b_0, at_1, n_2] K := by kernel_rfl
theorem c34 [Amb] {b_0 at_1 n_2 : Value} {K : Value → WT} {w : World} (h : s34 b_0 at_1 n_2 K w) : CF Try.prog 34 [b_0, at_1, n_2] K w := shal_sound Try.func34 (e34 b_0 at_1 n_2 K ▸ h)
def a35 : Ann := .seq (.z) (.seq (.z) (.seq (.seq (.z) (.blk (.loop [3, 11, 12] (.seq (.z) (.seq (.cond (.z) (.z)) (.join [3, 11, 12] (.blk (.seq (.z) (.seq (.seq (.z) (.cond (.z) (.z))) (.seq (.z) (.seq (.seq (.z) (.blk (.loop [3, 4, 5, 6, 11, 12, 20, 21] (.seq (.z) (.seq (.cond (.z) (.z)) (.seq (.blk (.seq (.z) (.seq (.z) (.join [3, 4, 5, 6, 8, 11, 12, 20, 21] (.seq (.z) (.cond (.z) (.z))) (.z))))) (.z))))))) (.z)))))) (.z))))))) (.seq (.z) (.z))))
def s35 [Amb] (words_0 : Value) (K : Value → WT) : WT :=
 S.box 28 words_0 fun words_1 =>
 V Try.prog (Instr.build 101 #[]) fun v9 =>
 S.box 101 v9 fun v10 =>
 S.ldN 256 words_1 fun v11 =>
 S.loop 3 (fun K0 => fun top_3 v11' v12 => S.fa fun _ =>
 S.bin .lss v12 (I 256) fun v13 =>
 S.cond v13 (
 S.join 3 (fun K1 =>
 V Try.prog (Instr.index 28 v11' v12) fun v15 =>
 S.sbin .eql v15 (.string ⟨#[]⟩) fun v17 =>
 S.cond v17 (
 K1 top_3 v11' v12) (
 S.lenS v15 fun v20 =>
 S.loop 8 (fun K2 => fun top_3' b_4 w_5 x_6 v11'2 v12' v20' v21 => S.fa fun _ =>
 S.bin .lss v21 v20' fun v22 =>
 S.cond v22 (
 S.chr w_5 v21 fun v26 =>
 S.bin .sub v26 (.int .u8 48) fun v27 =>
 S.join 9 (fun K3 =>
 S.nc x_6 fun v30 =>
 S.fad v30 0 fun v31 =>
 S.ixA 2 1 v31 v27 fun v32 =>
 S.ld v32 fun v33 =>
 S.eqv Try.prog .eql 71 true v33 (.pointer none) fun v34 =>
 S.cond v34 (
 V Try.prog (Instr.build 101 #[]) fun v37 =>
 S.box 101 v37 fun v38 =>
 S.nc x_6 fun v39 =>
 S.fad v39 0 fun v40 =>
 S.ixA 2 1 v40 v27 fun v41 =>
 S.st 1 v41 v38 fun _ =>
 K3 top_3' b_4 w_5 x_6 v27 v11'2 v12' v20' v21) (
 K3 top_3' b_4 w_5 x_6 v27 v11'2 v12' v20' v21))
 <| fun top_3'2 b_4' w_5' x_6' k_8 v11'3 v12'2 v20'2 v21' => S.fa fun _ =>
 S.nc x_6' fun v44 =>
 S.fad v44 0 fun v45 =>
 S.ixA 2 1 v45 k_8 fun v46 =>
 S.ld v46 fun v47 =>
 S.bin .add v21' (I 1) fun v48 =>
 K2 top_3'2 b_4' w_5' v47 v11'3 v12'2 v20'2 v48) (
 S.cvt .u8 b_4 fun v52 =>
 S.nc x_6 fun v53 =>
 S.fad v53 2 fun v54 =>
 S.st 1 v54 (B true) fun _ =>
 S.nc x_6 fun v55 =>
 S.fad v55 3 fun v56 =>
 S.st 1 v56 v52 fun _ =>
 K1 top_3' v11'2 v12'))
 [top_3, v12, v15, top_3, v11', v12, v20, (I 0)]))
 <| fun top_3'3 v11'4 v12'3 => S.fa fun _ =>
 S.bin .add v12'3 (I 1) fun v57 =>
 K0 top_3'3 v11'4 v57) (
 K top_3))
 [v10, v11, (I 0)]
theorem e35 [Amb] (words_0 : Value) (K : Value → WT) : s35 words_0 K = shal Try.prog Try.f35 .p a35 [words_0] K := by kernel_rfl
theorem c35 [Amb] {words_0 : Value} {K : Value → WT} {w : World} (h : s35 words_0 K w) : CF Try.prog 35 [words_0] K w := shal_sound Try.func35 (e35 words_0 K ▸ h)
def a36 : Ann := .seq (.z) (.seq (.z) (.blk (.loop [0, 6] (.blk (.seq (.z) (.seq (.seq (.z) (.cond (.seq (.z) (.z)) (.z))) (.seq (.z) (.blk (.seq (.z) (.cond (.seq (.z) (.z)) (.seq (.z) (.cond (.seq (.z) (.z)) (.z)))))))))))))
def s36 [Amb] (x_0 top_1 : Value) (K : Value → WT) : WT :=
 S.loop 2 (fun K0 => fun x_0' n_6 => S.fa fun _ =>
 CF Try.prog 49 [x_0'] fun v12 =>
 S.ext v12 0 fun v13 =>
 S.ext v12 1 fun v14 =>
 S.not1 v14 fun v16 =>
 S.cond v16 (
 K (.tuple #[(.int .u8 0), (I 3)])) (
 S.nc n_6 fun v19 =>
 S.fad v19 0 fun v20 =>
 S.ixA 2 1 v20 v13 fun v21 =>
 S.ld v21 fun v22 =>
 S.eqv Try.prog .eql 71 true v22 (.pointer none) fun v25 =>
 S.cond v25 (
 K (.tuple #[(.int .u8 0), (I 4)])) (
 S.nc v22 fun v28 =>
 S.fad v28 2 fun v29 =>
 S.ld v29 fun v30 =>
 S.cond v30 (
 S.nc v22 fun v32 =>
 S.fad v32 3 fun v33 =>
 S.ld v33 fun v34 =>
 K (.tuple #[v34, (I 0)])) (
 K0 x_0' v22))))
 [x_0, top_1]
theorem e36 [Amb] (x_0 top_1 : Value) (K : Value → WT) : s36 x_0 top_1 K = shal Try.prog Try.f36 .p a36 [x_0, top_1] K := by kernel_rfl
theorem c36 [Amb] {x_0 top_1 : Value} {K : Value → WT} {w : World} (h : s36 x_0 top_1 K w) : CF Try.prog 36 [x_0, top_1] K w := shal_sound Try.func36 (e36 x_0 top_1 K ▸ h)
def a37 : Ann := .seq (.z) (.seq (.blk (.loop [0] (.seq (.seq (.z) (.cond (.z) (.z))) (.blk (.seq (.z) (.seq (.z) (.cond (.seq (.z) (.z)) (.z)))))))) (.seq (.draw [0, 1, 2, 3, 4, 5, 6, 7, 8, 9, 10, 11]) (.z)))
def s37 [Amb] (x_0 : Value) (K : Value → WT) : WT :=
 S.loop 1 (fun K0 => fun x_0' => S.fa fun _ =>
 S.nc x_0' fun v6 =>
 S.fad v6 1 fun v7 =>
 S.ld v7 fun v8 =>
 S.bin .rem v8 (I 8) fun v9 =>
 S.bin .gtr v9 (I 0) fun v10 =>
 S.cond v10 (
 CF Try.prog 49 [x_0'] fun v13 =>
 S.ext v13 0 fun v14 =>
 S.ext v13 1 fun v15 =>
 S.bin .neq v14 (.int .u8 0) fun v17 =>
 S.cond v17 (
 K (B false)) (
 K0 x_0')) (
 S.dr <|
 S.nc x_0' fun v19 =>
 S.fad v19 1 fun v20 =>
 S.ld v20 fun v21 =>
 S.bin .quo v21 (I 8) fun v22 =>
 S.nc x_0' fun v24 =>
 S.fad v24 0 fun v25 =>
 S.ld v25 fun v26 =>
 S.len v26 fun v27 =>
 S.bin .eql v22 v27 fun v28 =>
 K v28))
 [x_0]
theorem e37 [Amb] (x_0 : Value) (K : Value → WT) : s37 x_0 K = shal Try.prog Try.f37 .p a37 [x_0] K := by kernel_rfl
theorem c37 [Amb] {x_0 : Value} {K : Value → WT} {w : World} (h : s37 x_0 K w) : CF Try.prog 37 [x_0] K w := shal_sound Try.func37 (e37 x_0 K ▸ h)
def a38 : Ann := .seq (.z) (.seq (.z) (.join [1, 7] (.blk (.loop [0, 1, 2, 7] (.blk (.seq (.z) (.seq (.join [0, 1, 2, 7, 8, 21] (.z) (.cond (.z) (.z))) (.seq (.z) (.join [0, 1, 2, 7, 9] (.seq (.z) (.join [0, 1, 2, 7, 9, 10, 33] (.z) (.cond (.z) (.z)))) (.seq (.seq (.z) (.cond (.z) (.z))) (.seq (.z) (.z)))))))))) (.seq (.z) (.z))))
def s38 [Amb] (h_0 i0_1 n_2 : Value) (K : Value → WT) : WT :=
 S.join 2 (fun K0 =>
 S.loop 4 (fun K1 => fun h_0' i0_1' n_2' i_7 => S.fa fun _ =>
 S.bin .mul (I 2) i_7 fun v13 =>
 S.bin .add v13 (I 1) fun v14 =>
 S.join 6 (fun K2 =>
 S.bin .geq v14 n_2' fun v17 =>
 S.gd v17 false (fun k => k v14) fun v19 =>
 S.gd v17 false (S.bin .lss v19 (I 0)) fun v20 =>
 S.pick v17 (B true) v20 fun v21 =>
 K2 h_0' i0_1' n_2' i_7 v14 v21)
 <| fun h_0'2 i0_1'2 n_2'2 i_7' j1_8 v21' => S.fa fun _ =>
 S.cond v21' (
 K0 i0_1'2 i_7') (
 S.join 5 (fun K3 =>
 S.bin .add j1_8 (I 1) fun v24 =>
 S.join 7 (fun K4 =>
 S.bin .lss v24 n_2'2 fun v27 =>
 S.gd v27 true (fun k => k h_0'2) fun v29 =>
 S.gd v27 true (fun k => k v24) fun v30 =>
 S.gd v27 true (fun k => k j1_8) fun v31 =>
 S.gd v27 true (Gives Try.prog (invoke (.fn (.method "Less") #[]) #[v29, v30, v31])) fun v32 =>
 S.pick v27 v32 (B false) fun v33 =>
 K4 h_0'2 i0_1'2 n_2'2 i_7' j1_8 v24 v33)
 <| fun h_0'3 i0_1'3 n_2'3 i_7'2 j_9 j2_10 v33' => S.fa fun _ =>
 S.cond v33' (
 K3 h_0'3 i0_1'3 n_2'3 i_7'2 j2_10) (
 K3 h_0'3 i0_1'3 n_2'3 i_7'2 j_9))
 <| fun h_0'4 i0_1'4 n_2'4 i_7'3 j_9' => S.fa fun _ =>
 Gives Try.prog (invoke (.fn (.method "Less") #[]) #[h_0'4, j_9', i_7'3]) fun v38 =>
 S.not1 v38 fun v39 =>
 S.cond v39 (
 K0 i0_1'4 i_7'3) (
 Gives Try.prog (invoke (.fn (.method "Swap") #[]) #[h_0'4, i_7'3, j_9']) fun v43 =>
 K1 h_0'4 i0_1'4 n_2'4 j_9')))
 [h_0, i0_1, n_2, i0_1])
 <| fun i0_1'5 i_7'4 => S.fa fun _ =>
 S.bin .gtr i_7'4 i0_1'5 fun v47 =>
 K v47
theorem e38 [Amb] (h_0 i0_1 n_2 : Value) (K : Value → WT) : s38 h_0 i0_1 n_2 K = shal Try.prog Try.f38 .p a38 [h_0, i0_1, n_2] K := by kernel_rfl
theorem c38 [Amb] {h_0 i0_1 n_2 : Value} {K : Value → WT} {w : World} (h : s38 h_0 i0_1 n_2 K w) : CF Try.prog 38 [h_0, i0_1, n_2] K w := shal_sound Try.func38 (e38 h_0 i0_1 n_2 K ▸ h)
def a39 : Ann := .seq (.z) (.seq (.z) (.seq (.z) (.seq (.z) (.seq (.z) (.z)))))
def s39 [Amb] (h_0 : Value) (K : Value → WT) : WT :=
 Gives Try.prog (invoke (.fn (.method "Len") #[]) #[h_0]) fun v5 =>
 S.bin .sub v5 (I 1) fun v6 =>
 Gives Try.prog (invoke (.fn (.method "Swap") #[]) #[h_0, (I 0), v6]) fun v9 =>
 CF Try.prog 38 [h_0, (I 0), v6] fun v12 =>
 Gives Try.prog (invoke (.fn (.method "Pop") #[]) #[h_0]) fun v14 =>
 K v14
theorem e39 [Amb] (h_0 : Value) (K : Value → WT) : s39 h_0 K = shal Try.prog Try.f39 .p a39 [h_0] K := by kernel_rfl
theorem c39 [Amb] {h_0 : Value} {K : Value → WT} {w : World} (h : s39 h_0 K w) : CF Try.prog 39 [h_0] K w := shal_sound Try.func39 (e39 h_0 K ▸ h)
def a40 : Ann := .seq (.z) (.join [0, 1] (.seq (.z) (.cond (.z) (.z))) (.join [0] (.seq (.z) (.seq (.z) (.cond (.z) (.z)))) (.seq (.z) (.z))))
def s40 [Amb] (s_0 n_1 : Value) (K : Value → WT) : WT :=
 S.join 2 (fun K0 =>
 S.bin .lss n_1 (I 0) fun v6 =>
 S.cond v6 (
 S.pan (.iface 9 (.string ⟨#[99, 97, 110, 110, 111, 116, 32, 98, 101, 32, 110, 101, 103, 97, 116, 105, 118, 101]⟩))) (
 K0 s_0 n_1))
 <| fun s_0' n_1' => S.fa fun _ =>
 S.join 1 (fun K1 =>
 S.cap s_0' fun v10 =>
 S.len s_0' fun v12 =>
 S.bin .sub v10 v12 fun v13 =>
 S.bin .sub n_1' v13 fun v14 =>
 S.bin .gtr v14 (I 0) fun v16 =>
 S.cond v16 (
 S.cap s_0' fun v19 =>
 S.slc 1 s_0' none (some v19) none fun v20 =>
 V Try.prog (Builtin.append_ #[40, 3] 40 #[v20, v14]) fun v22 =>
 S.len s_0' fun v24 =>
 S.slc 1 v22 none (some v24) none fun v25 =>
 K1 v25) (
 K1 s_0'))
 <| fun s_0'2 => S.fa fun _ =>
 K s_0'2
theorem e40 [Amb] (s_0 n_1 : Value) (K : Value → WT) : s40 s_0 n_1 K = shal Try.prog Try.f40 .p a40 [s_0, n_1] K := by kernel_rfl
theorem c40 [Amb] {s_0 n_1 : Value} {K : Value → WT} {w : World} (h : s40 s_0 n_1 K w) : CF Try.prog 40 [s_0, n_1] K w := shal_sound Try.func40 (e40 s_0 n_1 K ▸ h)
def a43 : Ann := .blk (.loop [0, 1] (.blk (.seq (.z) (.seq (.join [0, 1, 4, 17] (.z) (.cond (.z) (.z))) (.seq (.z) (.z))))))
def s43 [Amb] (h_0 j_1 : Value) (K : Value → WT) : WT :=
 S.loop 2 (fun K0 => fun h_0' j_1' => S.fa fun _ =>
 S.bin .sub j_1' (I 1) fun v6 =>
 S.bin .quo v6 (I 2) fun v7 =>
 S.join 4 (fun K1 =>
 S.bin .eql v7 j_1' fun v10 =>
 S.gd v10 false (fun k => k h_0') fun v12 =>
 S.gd v10 false (fun k => k j_1') fun v13 =>
 S.gd v10 false (fun k => k v7) fun v14 =>
 S.gd v10 false (Gives Try.prog (invoke (.fn (.method "Less") #[]) #[v12, v13, v14])) fun v15 =>
 S.gd v10 false (S.not1 v15) fun v16 =>
 S.pick v10 (B true) v16 fun v17 =>
 K1 h_0' j_1' v7 v17)
 <| fun h_0'2 j_1'2 i_4 v17' => S.fa fun _ =>
 S.cond v17' (
 K (.tuple #[])) (
 Gives Try.prog (invoke (.fn (.method "Swap") #[]) #[h_0'2, i_4, j_1'2]) fun v21 =>
 K0 h_0'2 i_4))
 [h_0, j_1]
theorem e43 [Amb] (h_0 j_1 : Value) (K : Value → WT) : s43 h_0 j_1 K = shal Try.prog Try.f43 .p a43 [h_0, j_1] K := by kernel_rfl
theorem c43 [Amb] {h_0 j_1 : Value} {K : Value → WT} {w : World} (h : s43 h_0 j_1 K w) : CF Try.prog 43 [h_0, j_1] K w := shal_sound Try.func43 (e43 h_0 j_1 K ▸ h)
def a44 : Ann := .z
def s44 [Amb] (x_0 cmp_1 : Value) (K : Value → WT) : WT :=
 S.len x_0 fun v6 =>
 CF Try.prog 61 [x_0, v6, cmp_1] fun v8 =>
 K (.tuple #[])
theorem e44 [Amb] (x_0 cmp_1 : Value) (K : Value → WT) : s44 x_0 cmp_1 K = shal Try.prog Try.f44 .p a44 [x_0, cmp_1] K := by kernel_rfl
theorem c44 [Amb] {x_0 cmp_1 : Value} {K : Value → WT} {w : World} (h : s44 x_0 cmp_1 K w) : CF Try.prog 44 [x_0, cmp_1] K w := shal_sound Try.func44 (e44 x_0 cmp_1 K ▸ h)
def a45 : Ann := .seq (.z) (.seq (.draw [0, 1, 2, 3, 4, 5, 6, 7]) (.z))
def s45 [Amb] (a_0 b_1 v2 : Value) (K : Value → WT) : WT :=
 S.dr <|
 S.ixA 256 1 v2 a_0 fun v7 =>
 S.ld v7 fun v8 =>
 S.ixA 256 1 v2 b_1 fun v10 =>
 S.ld v10 fun v11 =>
 S.bin .sub v8 v11 fun v12 =>
 K v12
theorem e45 [Amb] (a_0 b_1 v2 : Value) (K : Value → WT) : s45 a_0 b_1 v2 K = shal Try.prog Try.f45 .p a45 [a_0, b_1, v2] K := by kernel_rfl
theorem c45 [Amb] {a_0 b_1 v2 : Value} {K : Value → WT} {w : World} (h : s45 a_0 b_1 v2 K w) : CF Try.prog 45 [a_0, b_1, v2] K w := shal_sound Try.func45 (e45 a_0 b_1 v2 K ▸ h)
def a46 : Ann := .seq (.z) (.seq (.z) (.seq (.z) (.seq (.z) (.z))))
def s46 [Amb] (b_0 c_1 : Value) (K : Value → WT) : WT :=
 CF Try.prog 62 [b_0] fun v6 =>
 S.nc b_0 fun v9 =>
 S.fad v9 1 fun v10 =>
 S.ld v10 fun v11 =>
 V Try.prog (Instr.buildSlice 31 1 #[(0, c_1)]) fun v13 =>
 V Try.prog (Builtin.append_ #[31, 31] 31 #[v11, v13]) fun v14 =>
 S.nc b_0 fun v15 =>
 S.fad v15 1 fun v16 =>
 S.st 1 v16 v14 fun _ =>
 K .nilIface
theorem e46 [Amb] (b_0 c_1 : Value) (K : Value → WT) : s46 b_0 c_1 K = shal Try.prog Try.f46 .p a46 [b_0, c_1] K := by kernel_rfl
theorem c46 [Amb] {b_0 c_1 : Value} {K : Value → WT} {w : World} (h : s46 b_0 c_1 K w) : CF Try.prog 46 [b_0, c_1] K w := shal_sound Try.func46 (e46 b_0 c_1 K ▸ h)
def a47 : Ann := .seq (.z) (.seq (.draw [0, 1, 2, 3, 5, 6, 7, 8, 9, 4, 10, 11]) (.z))
def s47 [Amb] (b_0 : Value) (K : Value → WT) : WT :=
 S.dr <|
 S.nc b_0 fun v4 =>
 S.fad v4 1 fun v5 =>
 S.ld v5 fun v6 =>
 S.nc b_0 fun v9 =>
 S.fad v9 1 fun v10 =>
 S.ld v10 fun v11 =>
 S.len v11 fun v12 =>
 V Try.prog (Builtin.unsafeSliceData_ #[31] 119 #[v6]) fun v7 =>
 S.rck [S.ld v10 (fun v' _ => v' = v11)] <|
 V Try.prog (Builtin.unsafeString_ #[119, 3] 9 #[v7, v12]) fun v13 =>
 K v13
theorem e47 [Amb] (b_0 : Value) (K : Value → WT) : s47 b_0 K = shal Try.prog Try.f47 .p a47 [b_0] K := by kernel_rfl
theorem c47 [Amb] {b_0 : Value} {K : Value → WT} {w : World} (h : s47 b_0 K w) : CF Try.prog 47 [b_0] K w := shal_sound Try.func47 (e47 b_0 K ▸ h)
def a48 : Ann := .seq (.z) (.seq (.seq (.z) (.cond (.seq (.z) (.z)) (.z))) (.seq (.z) (.seq (.blk (.loop [0, 4] (.seq (.seq (.z) (.cond (.z) (.z))) (.seq (.blk (.z)) (.z))))) (.seq (.z) (.z)))))
def s48 [Amb] (n_0 : Value) (K : Value → WT) : WT :=
 CF Try.prog 63 [n_0] fun v6 =>
 S.not1 v6 fun v7 =>
 S.cond v7 (
 K (.tuple #[(.slice none 0 0), (I 6)])) (
 S.loop 2 (fun K0 => fun n_0' out_4 => S.fa fun _ =>
 S.bin .geq n_0' (I 128) fun v9 =>
 S.cond v9 (
 S.bin .rem n_0' (I 128) fun v14 =>
 S.cvt .u8 v14 fun v15 =>
 S.bin .add v15 (.int .u8 128) fun v16 =>
 V Try.prog (Instr.buildSlice 31 1 #[(0, v16)]) fun v17 =>
 V Try.prog (Builtin.append_ #[31, 31] 31 #[out_4, v17]) fun v18 =>
 S.sh .shr n_0' (.int .u64 7) fun v11 =>
 K0 v11 v18) (
 S.cvt .u8 n_0' fun v21 =>
 V Try.prog (Instr.buildSlice 31 1 #[(0, v21)]) fun v22 =>
 V Try.prog (Builtin.append_ #[31, 31] 31 #[out_4, v22]) fun v23 =>
 K (.tuple #[v23, (I 0)])))
 [n_0, (.slice none 0 0)])
theorem e48 [Amb] (n_0 : Value) (K : Value → WT) : s48 n_0 K = shal Try.prog Try.f48 .p a48 [n_0] K := by kernel_rfl
theorem c48 [Amb] {n_0 : Value} {K : Value → WT} {w : World} (h : s48 n_0 K w) : CF Try.prog 48 [n_0] K w := shal_sound Try.func48 (e48 n_0 K ▸ h)
def a49 : Ann := .seq (.z) (.seq (.seq (.draw [0, 1, 2, 3, 4, 5, 6, 7, 8, 9, 10]) (.cond (.seq (.z) (.z)) (.z))) (.seq (.draw [0, 1, 2, 3, 4, 5, 6, 7, 8, 9, 10, 11, 12, 13, 14, 15, 16, 17, 18, 19]) (.seq (.z) (.seq (.z) (.z)))))
def s49 [Amb] (x_0 : Value) (K : Value → WT) : WT :=
 S.dr <|
 S.nc x_0 fun v6 =>
 S.fad v6 1 fun v7 =>
 S.ld v7 fun v8 =>
 S.bin .quo v8 (I 8) fun v9 =>
 S.nc x_0 fun v11 =>
 S.fad v11 0 fun v12 =>
 S.ld v12 fun v13 =>
 S.len v13 fun v14 =>
 S.bin .geq v9 v14 fun v15 =>
 S.cond v15 (
 K (.tuple #[(.int .u8 0), (B false)])) (
 S.dr <|
 S.nc x_0 fun v17 =>
 S.fad v17 0 fun v18 =>
 S.ld v18 fun v19 =>
 S.nc x_0 fun v21 =>
 S.fad v21 1 fun v22 =>
 S.ld v22 fun v23 =>
 S.bin .quo v23 (I 8) fun v24 =>
 S.ixS 1 v19 v24 fun v25 =>
 S.ld v25 fun v26 =>
 S.nc x_0 fun v28 =>
 S.fad v28 1 fun v29 =>
 S.ld v29 fun v30 =>
 S.bin .rem v30 (I 8) fun v31 =>
 S.bin .sub (I 7) v31 fun v32 =>
 S.sh .shr v26 v32 fun v33 =>
 S.bin .and v33 (.int .u8 1) fun v34 =>
 S.nc x_0 fun v36 =>
 S.fad v36 1 fun v37 =>
 S.ld v37 fun v38 =>
 S.bin .add v38 (I 1) fun v39 =>
 S.nc x_0 fun v40 =>
 S.fad v40 1 fun v41 =>
 S.st 1 v41 v39 fun _ =>
 K (.tuple #[v34, (B true)]))
theorem e49 [Amb] (x_0 : Value) (K : Value → WT) : s49 x_0 K = shal Try.prog Try.f49 .p a49 [x_0] K := by kernel_rfl
theorem c49 [Amb] {x_0 : Value} {K : Value → WT} {w : World} (h : s49 x_0 K w) : CF Try.prog 49 [x_0] K w := shal_sound Try.func49 (e49 x_0 K ▸ h)
def a61 : Ann := .seq (.z) (.seq (.z) (.seq (.blk (.loop [0, 1, 2, 6, 7, 8] (.seq (.seq (.z) (.cond (.z) (.z))) (.blk (.seq (.z) (.seq (.z) (.z))))))) (.seq (.z) (.blk (.loop [0, 1, 2, 6] (.seq (.seq (.z) (.cond (.z) (.z))) (.blk (.seq (.z) (.seq (.blk (.loop [0, 1, 2, 6, 7, 8] (.seq (.seq (.z) (.cond (.z) (.z))) (.blk (.seq (.z) (.seq (.z) (.z))))))) (.join [0, 1, 2, 6] (.seq (.z) (.seq (.z) (.cond (.z) (.z)))) (.z)))))))))))
def s61 [Amb] (data_0 n_1 cmp_2 : Value) (K : Value → WT) : WT :=
 S.loop 6 (fun K0 => fun data_0' n_1' cmp_2' blockSize_6 a_7 b_8 => S.fa fun _ =>
 S.bin .leq b_8 n_1' fun v13 =>
 S.cond v13 (
 CF Try.prog 70 [data_0', a_7, b_8, cmp_2'] fun v18 =>
 S.bin .add b_8 blockSize_6 fun v22 =>
 K0 data_0' n_1' cmp_2' blockSize_6 b_8 v22) (
 CF Try.prog 70 [data_0', a_7, n_1', cmp_2'] fun v27 =>
 S.loop 4 (fun K1 => fun data_0'2 n_1'2 cmp_2'2 blockSize_6' => S.fa fun _ =>
 S.bin .lss blockSize_6' n_1'2 fun v30 =>
 S.cond v30 (
 S.bin .mul (I 2) blockSize_6' fun v32 =>
 S.loop 6 (fun K2 => fun data_0'3 n_1'3 cmp_2'3 blockSize_6'2 a_7' b_8' => S.fa fun _ =>
 S.bin .leq b_8' n_1'3 fun v35 =>
 S.cond v35 (
 S.bin .add a_7' blockSize_6'2 fun v40 =>
 CF Try.prog 71 [data_0'3, a_7', v40, b_8', cmp_2'3] fun v43 =>
 S.bin .mul (I 2) blockSize_6'2 fun v47 =>
 S.bin .add b_8' v47 fun v48 =>
 K2 data_0'3 n_1'3 cmp_2'3 blockSize_6'2 b_8' v48) (
 S.join 4 (fun K3 =>
 S.bin .add a_7' blockSize_6'2 fun v51 =>
 S.bin .lss v51 n_1'3 fun v54 =>
 S.cond v54 (
 CF Try.prog 71 [data_0'3, a_7', v51, n_1'3, cmp_2'3] fun v60 =>
 K3 data_0'3 n_1'3 cmp_2'3 blockSize_6'2) (
 K3 data_0'3 n_1'3 cmp_2'3 blockSize_6'2))
 <| fun data_0'4 n_1'4 cmp_2'4 blockSize_6'3 => S.fa fun _ =>
 S.bin .mul blockSize_6'3 (I 2) fun v62 =>
 K1 data_0'4 n_1'4 cmp_2'4 v62))
 [data_0'2, n_1'2, cmp_2'2, blockSize_6', (I 0), v32]) (
 K (.tuple #[])))
 [data_0', n_1', cmp_2', blockSize_6]))
 [data_0, n_1, cmp_2, (I 20), (I 0), (I 20)]
theorem e61 [Amb] (data_0 n_1 cmp_2 : Value) (K : Value → WT) : s61 data_0 n_1 cmp_2 K = shal Try.prog Try.f61 .p a61 [data_0, n_1, cmp_2] K := by kernel_rfl
theorem c61 [Amb] {data_0 n_1 cmp_2 : Value} {K : Value → WT} {w : World} (h : s61 data_0 n_1 cmp_2 K w) : CF Try.prog 61 [data_0, n_1, cmp_2] K w := shal_sound Try.func61 (e61 data_0 n_1 cmp_2 K ▸ h)
def a62 : Ann := .seq (.z) (.cond (.z) (.seq (.z) (.cond (.z) (.z))))
def s62 [Amb] (b_0 : Value) (K : Value → WT) : WT :=
 S.nc b_0 fun v3 =>
 S.fad v3 0 fun v4 =>
 S.ld v4 fun v5 =>
 S.eqv Try.prog .eql 92 true v5 (.pointer none) fun v6 =>
 S.cond v6 (
 V Try.prog (convert 92 129 b_0) fun v9 =>
 Gives Try.prog (callFunc 72 #[v9]) fun v10 =>
 V Try.prog (convert 129 92 v10) fun v11 =>
 S.nc b_0 fun v12 =>
 S.fad v12 0 fun v13 =>
 S.st 1 v13 v11 fun _ =>
 K (.tuple #[])) (
 S.nc b_0 fun v15 =>
 S.fad v15 0 fun v16 =>
 S.ld v16 fun v17 =>
 S.eqv Try.prog .neq 92 false v17 b_0 fun v19 =>
 S.cond v19 (
 nope) (
 K (.tuple #[])))
theorem e62 [Amb] (b_0 : Value) (K : Value → WT) : s62 b_0 K = shal Try.prog Try.f62 .p a62 [b_0] K := by kernel_rfl
theorem c62 [Amb] {b_0 : Value} {K : Value → WT} {w : World} (h : s62 b_0 K w) : CF Try.prog 62 [b_0] K w := shal_sound Try.func62 (e62 b_0 K ▸ h)
def a63 : Ann := .seq (.z) (.seq (.z) (.z))
def s63 [Amb] (n_0 : Value) (K : Value → WT) : WT :=
 S.bin .geq n_0 (I 0) fun v4 =>
 S.gd v4 true (fun k => k n_0) fun v6 =>
 S.gd v4 true (S.bin .leq v6 (I 9007199254740991)) fun v7 =>
 S.pick v4 v7 (B false) fun v8 =>
 K v8
theorem e63 [Amb] (n_0 : Value) (K : Value → WT) : s63 n_0 K = shal Try.prog Try.f63 .p a63 [n_0] K := by kernel_rfl
theorem c63 [Amb] {n_0 : Value} {K : Value → WT} {w : World} (h : s63 n_0 K w) : CF Try.prog 63 [n_0] K w := shal_sound Try.func63 (e63 n_0 K ▸ h)
def a69 : Ann := .seq (.z) (.seq (.z) (.z))
def s69 [Amb] (x_0 : Value) (K : Value → WT) : WT :=
 S.bin .neq x_0 x_0 fun v5 =>
 K v5
theorem e69 [Amb] (x_0 : Value) (K : Value → WT) : s69 x_0 K = shal Try.prog Try.f69 .p a69 [x_0] K := by kernel_rfl
theorem c69 [Amb] {x_0 : Value} {K : Value → WT} {w : World} (h : s69 x_0 K w) : CF Try.prog 69 [x_0] K w := shal_sound Try.func69 (e69 x_0 K ▸ h)
def a70 : Ann := .seq (.z) (.blk (.loop [0, 1, 2, 3, 8] (.seq (.seq (.z) (.cond (.z) (.z))) (.seq (.blk (.seq (.z) (.blk (.loop [0, 1, 2, 3, 8, 9] (.seq (.join [0, 1, 2, 3, 8, 9, 34] (.draw [0, 1, 2, 3, 4, 5, 6, 7, 8, 9, 10, 11, 12, 13, 14, 15, 16]) (.cond (.z) (.z))) (.seq (.blk (.draw [0, 1, 2, 3, 4, 5, 6, 7, 8, 9, 10, 11, 12, 13, 14, 15, 16, 17])) (.z))))))) (.z)))))
def s70 [Amb] (data_0 a_1 b_2 cmp_3 : Value) (K : Value → WT) : WT :=
 S.bin .add a_1 (I 1) fun v11 =>
 S.loop 5 (fun K0 => fun data_0' a_1' b_2' cmp_3' i_8 => S.fa fun _ =>
 S.bin .lss i_8 b_2' fun v14 =>
 S.cond v14 (
 S.loop 6 (fun K1 => fun data_0'2 a_1'2 b_2'2 cmp_3'2 i_8' j_9 => S.fa fun _ =>
 S.join 7 (fun K2 =>
 S.dr <|
 S.bin .gtr j_9 a_1'2 fun v20 =>
 S.gd v20 true (fun k => k cmp_3'2) fun v22 =>
 S.gd v20 true (fun k => k data_0'2) fun v23 =>
 S.gd v20 true (fun k => k j_9) fun v24 =>
 S.gd v20 true (S.ixS 1 v23 v24) fun v25 =>
 S.gd v20 true (S.ld v25) fun v26 =>
 S.gd v20 true (fun k => k data_0'2) fun v27 =>
 S.gd v20 true (fun k => k j_9) fun v28 =>
 S.gd v20 true (S.bin .sub v28 (I 1)) fun v29 =>
 S.gd v20 true (S.ixS 1 v27 v29) fun v30 =>
 S.gd v20 true (S.ld v30) fun v31 =>
 S.gd v20 true (S.cvv Try.prog v22 [v26, v31]) fun v32 =>
 S.gd v20 true (S.bin .lss v32 (I 0)) fun v33 =>
 S.pick v20 v33 (B false) fun v34 =>
 K2 data_0'2 a_1'2 b_2'2 cmp_3'2 i_8' j_9 v34)
 <| fun data_0'3 a_1'3 b_2'3 cmp_3'3 i_8'2 j_9' v34' => S.fa fun _ =>
 S.cond v34' (
 S.dr <|
 S.bin .sub j_9' (I 1) fun v41 =>
 S.bin .sub j_9' (I 1) fun v44 =>
 S.ixS 1 data_0'3 v44 fun v45 =>
 S.ld v45 fun v46 =>
 S.ixS 1 data_0'3 j_9' fun v49 =>
 S.ld v49 fun v50 =>
 S.ixS 1 data_0'3 j_9' fun v51 =>
 S.st 1 v51 v46 fun _ =>
 S.ixS 1 data_0'3 v41 fun v52 =>
 S.st 1 v52 v50 fun _ =>
 S.bin .sub j_9' (I 1) fun v36 =>
 K1 data_0'3 a_1'3 b_2'3 cmp_3'3 i_8'2 v36) (
 S.bin .add i_8'2 (I 1) fun v16 =>
 K0 data_0'3 a_1'3 b_2'3 cmp_3'3 v16))
 [data_0', a_1', b_2', cmp_3', i_8, i_8]) (
 K (.tuple #[])))
 [data_0, a_1, b_2, cmp_3, v11]
theorem e70 [Amb] (data_0 a_1 b_2 cmp_3 : Value) (K : Value → WT) : s70 data_0 a_1 b_2 cmp_3 K = shal Try.prog Try.f70 .p a70 [data_0, a_1, b_2, cmp_3] K := by kernel_rfl
theorem c70 [Amb] {data_0 a_1 b_2 cmp_3 : Value} {K : Value → WT} {w : World} (h : s70 data_0 a_1 b_2 cmp_3 K w) : CF Try.prog 70 [data_0, a_1, b_2, cmp_3] K w := shal_sound Try.func70 (e70 data_0 a_1 b_2 cmp_3 K ▸ h)
def a71 : Ann := .seq (.seq (.z) (.cond (.seq (.z) (.seq (.z) (.seq (.blk (.loop [0, 1, 4, 10, 11] (.seq (.seq (.z) (.cond (.z) (.z))) (.blk (.seq (.z) (.seq (.draw [0, 1, 2, 3, 4, 5, 6, 7, 8, 9, 10]) (.cond (.z) (.z)))))))) (.seq (.seq (.z) (.blk (.loop [0, 10, 13] (.seq (.seq (.z) (.cond (.z) (.z))) (.seq (.blk (.draw [0, 1, 2, 3, 4, 5, 6, 7, 8, 9, 10, 11, 12, 13, 14, 15, 16, 17])) (.z)))))) (.z))))) (.z))) (.seq (.seq (.z) (.cond (.seq (.z) (.seq (.z) (.seq (.blk (.loop [0, 2, 4, 14, 15] (.seq (.seq (.z) (.cond (.z) (.z))) (.blk (.seq (.z) (.seq (.draw [0, 1, 2, 3, 4, 5, 6, 7, 8, 9, 10, 11]) (.cond (.z) (.z)))))))) (.seq (.seq (.z) (.blk (.loop [0, 14, 17] (.seq (.seq (.z) (.cond (.z) (.z))) (.seq (.blk (.draw [0, 1, 2, 3, 4, 5, 6, 7, 8, 9, 10, 11, 12, 13, 14, 15, 16, 17])) (.z)))))) (.z))))) (.z))) (.seq (.z) (.seq (.z) (.seq (.z) (.join [0, 1, 2, 3, 4, 18, 19, 20, 21] (.seq (.z) (.cond (.seq (.z) (.z)) (.seq (.z) (.z)))) (.seq (.z) (.seq (.blk (.loop [0, 1, 2, 3, 4, 18, 19, 20, 21, 22] (.seq (.seq (.z) (.cond (.z) (.z))) (.blk (.seq (.z) (.seq (.draw [0, 1, 2, 3, 4, 5, 6, 7, 8, 9, 10, 11, 12, 13]) (.cond (.z) (.z)))))))) (.seq (.z) (.join [0, 1, 3, 4, 18, 20, 24] (.join [0, 1, 2, 3, 4, 18, 20, 24, 185] (.z) (.cond (.z) (.z))) (.join [0, 3, 4, 18, 24] (.join [0, 1, 3, 4, 18, 20, 24, 199] (.z) (.cond (.z) (.z))) (.join [0, 3, 4, 18, 24, 213] (.z) (.cond (.z) (.z)))))))))))))
def s71 [Amb] (v0 v1 v2 v3 v4 : Value) (K : Value → WT) : WT :=
 S.bin .sub v2 v1 fun v27 =>
 S.bin .eql v27 (I 1) fun v28 =>
 S.cond v28 (
 S.loop 5 (fun K0 => fun v0' v1' v4' v10 v11 => S.fa fun _ =>
 S.bin .lss v10 v11 fun v33 =>
 S.cond v33 (
 S.bin .add v10 v11 fun v36 =>
 S.cvt .u64 v36 fun v37 =>
 S.sh .shr v37 (.int .u64 1) fun v38 =>
 S.cvt .i64 v38 fun v39 =>
 S.dr <|
 S.ixS 1 v0' v39 fun v43 =>
 S.ld v43 fun v44 =>
 S.ixS 1 v0' v1' fun v47 =>
 S.ld v47 fun v48 =>
 S.cvv Try.prog v4' [v44, v48] fun v49 =>
 S.bin .lss v49 (I 0) fun v50 =>
 S.cond v50 (
 S.bin .add v39 (I 1) fun v52 =>
 K0 v0' v1' v4' v52 v11) (
 K0 v0' v1' v4' v10 v39)) (
 S.loop 3 (fun K1 => fun v0'2 v10' v13 => S.fa fun _ =>
 S.bin .sub v10' (I 1) fun v57 =>
 S.bin .lss v13 v57 fun v58 =>
 S.cond v58 (
 S.dr <|
 S.bin .add v13 (I 1) fun v65 =>
 S.bin .add v13 (I 1) fun v68 =>
 S.ixS 1 v0'2 v68 fun v69 =>
 S.ld v69 fun v70 =>
 S.ixS 1 v0'2 v13 fun v73 =>
 S.ld v73 fun v74 =>
 S.ixS 1 v0'2 v13 fun v75 =>
 S.st 1 v75 v70 fun _ =>
 S.ixS 1 v0'2 v65 fun v76 =>
 S.st 1 v76 v74 fun _ =>
 S.bin .add v13 (I 1) fun v60 =>
 K1 v0'2 v10' v60) (
 K (.tuple #[])))
 [v0', v10, v1']))
 [v0, v1, v4, v2, v3]) (
 S.bin .sub v3 v2 fun v79 =>
 S.bin .eql v79 (I 1) fun v80 =>
 S.cond v80 (
 S.loop 5 (fun K2 => fun v0'3 v2' v4'2 v14 v15 => S.fa fun _ =>
 S.bin .lss v14 v15 fun v85 =>
 S.cond v85 (
 S.bin .add v14 v15 fun v88 =>
 S.cvt .u64 v88 fun v89 =>
 S.sh .shr v89 (.int .u64 1) fun v90 =>
 S.cvt .i64 v90 fun v91 =>
 S.dr <|
 S.ixS 1 v0'3 v2' fun v95 =>
 S.ld v95 fun v96 =>
 S.ixS 1 v0'3 v91 fun v99 =>
 S.ld v99 fun v100 =>
 S.cvv Try.prog v4'2 [v96, v100] fun v101 =>
 S.bin .lss v101 (I 0) fun v102 =>
 S.not1 v102 fun v103 =>
 S.cond v103 (
 S.bin .add v91 (I 1) fun v105 =>
 K2 v0'3 v2' v4'2 v105 v15) (
 K2 v0'3 v2' v4'2 v14 v91)) (
 S.loop 3 (fun K3 => fun v0'4 v14' v17 => S.fa fun _ =>
 S.bin .gtr v17 v14' fun v110 =>
 S.cond v110 (
 S.dr <|
 S.bin .sub v17 (I 1) fun v117 =>
 S.bin .sub v17 (I 1) fun v120 =>
 S.ixS 1 v0'4 v120 fun v121 =>
 S.ld v121 fun v122 =>
 S.ixS 1 v0'4 v17 fun v125 =>
 S.ld v125 fun v126 =>
 S.ixS 1 v0'4 v17 fun v127 =>
 S.st 1 v127 v122 fun _ =>
 S.ixS 1 v0'4 v117 fun v128 =>
 S.st 1 v128 v126 fun _ =>
 S.bin .sub v17 (I 1) fun v112 =>
 K3 v0'4 v14' v112) (
 K (.tuple #[])))
 [v0'3, v14, v2']))
 [v0, v2, v4, v1, v2]) (
 S.bin .add v1 v3 fun v131 =>
 S.cvt .u64 v131 fun v132 =>
 S.sh .shr v132 (.int .u64 1) fun v133 =>
 S.cvt .i64 v133 fun v134 =>
 S.bin .add v134 v2 fun v137 =>
 S.join 9 (fun K4 =>
 S.bin .gtr v2 v134 fun v140 =>
 S.cond v140 (
 S.bin .sub v137 v3 fun v143 =>
 K4 v0 v1 v2 v3 v4 v134 v137 v143 v134) (
 K4 v0 v1 v2 v3 v4 v134 v137 v1 v2))
 <| fun v0'5 v1'2 v2'2 v3' v4'3 v18 v19 v20 v21 => S.fa fun _ =>
 S.bin .sub v19 (I 1) fun v148 =>
 S.loop 10 (fun K5 => fun v0'6 v1'3 v2'3 v3'2 v4'4 v18' v19' v20' v21' v22 => S.fa fun _ =>
 S.bin .lss v20' v21' fun v151 =>
 S.cond v151 (
 S.bin .add v20' v21' fun v154 =>
 S.cvt .u64 v154 fun v155 =>
 S.sh .shr v155 (.int .u64 1) fun v156 =>
 S.cvt .i64 v156 fun v157 =>
 S.dr <|
 S.bin .sub v22 v157 fun v162 =>
 S.ixS 1 v0'6 v162 fun v163 =>
 S.ld v163 fun v164 =>
 S.ixS 1 v0'6 v157 fun v167 =>
 S.ld v167 fun v168 =>
 S.cvv Try.prog v4'4 [v164, v168] fun v169 =>
 S.bin .lss v169 (I 0) fun v170 =>
 S.not1 v170 fun v171 =>
 S.cond v171 (
 S.bin .add v157 (I 1) fun v173 =>
 K5 v0'6 v1'3 v2'3 v3'2 v4'4 v18' v19' v173 v21' v22) (
 K5 v0'6 v1'3 v2'3 v3'2 v4'4 v18' v19' v20' v157 v22)) (
 S.bin .sub v19' v20' fun v177 =>
 S.join 7 (fun K6 =>
 S.join 9 (fun K7 =>
 S.bin .lss v20' v2'3 fun v180 =>
 S.gd v180 true (fun k => k v2'3) fun v182 =>
 S.gd v180 true (fun k => k v177) fun v183 =>
 S.gd v180 true (S.bin .lss v182 v183) fun v184 =>
 S.pick v180 v184 (B false) fun v185 =>
 K7 v0'6 v1'3 v2'3 v3'2 v4'4 v18' v20' v177 v185)
 <| fun v0'7 v1'4 v2'4 v3'3 v4'5 v18'2 v20'2 v24 v185' => S.fa fun _ =>
 S.cond v185' (
 CF Try.prog 74 [v0'7, v20'2, v2'4, v24, v4'5] fun v191 =>
 K6 v0'7 v1'4 v3'3 v4'5 v18'2 v20'2 v24) (
 K6 v0'7 v1'4 v3'3 v4'5 v18'2 v20'2 v24))
 <| fun v0'8 v1'5 v3'4 v4'6 v18'3 v20'3 v24' => S.fa fun _ =>
 S.join 5 (fun K8 =>
 S.join 8 (fun K9 =>
 S.bin .lss v1'5 v20'3 fun v194 =>
 S.gd v194 true (fun k => k v20'3) fun v196 =>
 S.gd v194 true (fun k => k v18'3) fun v197 =>
 S.gd v194 true (S.bin .lss v196 v197) fun v198 =>
 S.pick v194 v198 (B false) fun v199 =>
 K9 v0'8 v1'5 v3'4 v4'6 v18'3 v20'3 v24' v199)
 <| fun v0'9 v1'6 v3'5 v4'7 v18'4 v20'4 v24'2 v199' => S.fa fun _ =>
 S.cond v199' (
 CF Try.prog 71 [v0'9, v1'6, v20'4, v18'4, v4'7] fun v205 =>
 K8 v0'9 v3'5 v4'7 v18'4 v24'2) (
 K8 v0'9 v3'5 v4'7 v18'4 v24'2))
 <| fun v0'10 v3'6 v4'8 v18'5 v24'3 => S.fa fun _ =>
 S.join 6 (fun K10 =>
 S.bin .lss v18'5 v24'3 fun v208 =>
 S.gd v208 true (fun k => k v24'3) fun v210 =>
 S.gd v208 true (fun k => k v3'6) fun v211 =>
 S.gd v208 true (S.bin .lss v210 v211) fun v212 =>
 S.pick v208 v212 (B false) fun v213 =>
 K10 v0'10 v3'6 v4'8 v18'5 v24'3 v213)
 <| fun v0'11 v3'7 v4'9 v18'6 v24'4 v213' => S.fa fun _ =>
 S.cond v213' (
 CF Try.prog 71 [v0'11, v18'6, v24'4, v3'7, v4'9] fun v219 =>
 K (.tuple #[])) (
 K (.tuple #[]))))
 [v0'5, v1'2, v2'2, v3', v4'3, v18, v19, v20, v21, v148]))
theorem e71 [Amb] (v0 v1 v2 v3 v4 : Value) (K : Value → WT) : s71 v0 v1 v2 v3 v4 K = shal Try.prog Try.f71 .p a71 [v0, v1, v2, v3, v4] K := by kernel_rfl
theorem c71 [Amb] {v0 v1 v2 v3 v4 : Value} {K : Value → WT} {w : World} (h : s71 v0 v1 v2 v3 v4 K w) : CF Try.prog 71 [v0, v1, v2, v3, v4] K w := shal_sound Try.func71 (e71 v0 v1 v2 v3 v4 K ▸ h)
def a74 : Ann := .seq (.z) (.seq (.z) (.seq (.blk (.loop [0, 2, 4, 10, 11] (.seq (.seq (.z) (.cond (.z) (.z))) (.blk (.seq (.z) (.cond (.seq (.z) (.z)) (.seq (.z) (.z)))))))) (.z)))
def s74 [Amb] (data_0 a_1 m_2 b_3 cmp_4 : Value) (K : Value → WT) : WT :=
 S.bin .sub m_2 a_1 fun v14 =>
 S.bin .sub b_3 m_2 fun v17 =>
 S.loop 5 (fun K0 => fun data_0' m_2' cmp_4' i_10 j_11 => S.fa fun _ =>
 S.bin .neq i_10 j_11 fun v20 =>
 S.cond v20 (
 S.bin .gtr i_10 j_11 fun v23 =>
 S.cond v23 (
 S.bin .sub m_2' i_10 fun v27 =>
 CF Try.prog 75 [data_0', v27, m_2', j_11, cmp_4'] fun v31 =>
 S.bin .sub i_10 j_11 fun v34 =>
 K0 data_0' m_2' cmp_4' v34 j_11) (
 S.bin .sub m_2' i_10 fun v38 =>
 S.bin .add m_2' j_11 fun v41 =>
 S.bin .sub v41 i_10 fun v43 =>
 CF Try.prog 75 [data_0', v38, v43, i_10, cmp_4'] fun v46 =>
 S.bin .sub j_11 i_10 fun v49 =>
 K0 data_0' m_2' cmp_4' i_10 v49)) (
 S.bin .sub m_2' i_10 fun v53 =>
 CF Try.prog 75 [data_0', v53, m_2', i_10, cmp_4'] fun v57 =>
 K (.tuple #[])))
 [data_0, m_2, cmp_4, v14, v17]
theorem e74 [Amb] (data_0 a_1 m_2 b_3 cmp_4 : Value) (K : Value → WT) : s74 data_0 a_1 m_2 b_3 cmp_4 K = shal Try.prog Try.f74 .p a74 [data_0, a_1, m_2, b_3, cmp_4] K := by kernel_rfl
theorem c74 [Amb] {data_0 a_1 m_2 b_3 cmp_4 : Value} {K : Value → WT} {w : World} (h : s74 data_0 a_1 m_2 b_3 cmp_4 K w) : CF Try.prog 74 [data_0, a_1, m_2, b_3, cmp_4] K w := shal_sound Try.func74 (e74 data_0 a_1 m_2 b_3 cmp_4 K ▸ h)
def a75 : Ann := .seq (.z) (.blk (.loop [0, 1, 2, 3, 10] (.seq (.seq (.z) (.cond (.z) (.z))) (.seq (.blk (.draw [0, 1, 2, 3, 4, 5, 6, 7, 8, 9, 10, 11, 12, 13, 14, 15, 16, 17, 18, 19, 20, 21, 22, 23])) (.z)))))
def s75 [Amb] (data_0 a_1 b_2 n_3 cmp_4 : Value) (K : Value → WT) : WT :=
 S.loop 5 (fun K0 => fun data_0' a_1' b_2' n_3' i_10 => S.fa fun _ =>
 S.bin .lss i_10 n_3' fun v13 =>
 S.cond v13 (
 S.dr <|
 S.bin .add a_1' i_10 fun v19 =>
 S.bin .add b_2' i_10 fun v23 =>
 S.bin .add b_2' i_10 fun v27 =>
 S.ixS 1 data_0' v27 fun v28 =>
 S.ld v28 fun v29 =>
 S.bin .add a_1' i_10 fun v33 =>
 S.ixS 1 data_0' v33 fun v34 =>
 S.ld v34 fun v35 =>
 S.ixS 1 data_0' v19 fun v36 =>
 S.st 1 v36 v29 fun _ =>
 S.ixS 1 data_0' v23 fun v37 =>
 S.st 1 v37 v35 fun _ =>
 S.bin .add i_10 (I 1) fun v15 =>
 K0 data_0' a_1' b_2' n_3' v15) (
 K (.tuple #[])))
 [data_0, a_1, b_2, n_3, (I 0)]
theorem e75 [Amb] (data_0 a_1 b_2 n_3 cmp_4 : Value) (K : Value → WT) : s75 data_0 a_1 b_2 n_3 cmp_4 K = shal Try.prog Try.f75 .p a75 [data_0, a_1, b_2, n_3, cmp_4] K := by kernel_rfl
theorem c75 [Amb] {data_0 a_1 b_2 n_3 cmp_4 : Value} {K : Value → WT} {w : World} (h : s75 data_0 a_1 b_2 n_3 cmp_4 K w) : CF Try.prog 75 [data_0, a_1, b_2, n_3, cmp_4] K w := shal_sound Try.func75 (e75 data_0 a_1 b_2 n_3 cmp_4 K ▸ h)
def a92 : Ann := .seq (.z) (.seq (.draw [0, 1, 2, 3, 4, 5, 6, 7, 8, 9, 11, 12, 13, 14, 15, 16, 17, 18, 19, 20, 21, 22, 23, 24, 10, 25, 26, 27, 28, 29]) (.z))
def s92 [Amb] (r_0 i_1 j_2 : Value) (K : Value → WT) : WT :=
 S.dr <|
 S.ixS 2 r_0 i_1 fun v9 =>
 S.fad v9 0 fun v10 =>
 S.ld v10 fun v11 =>
 S.ixS 2 r_0 j_2 fun v14 =>
 S.fad v14 0 fun v15 =>
 S.ld v15 fun v16 =>
 S.ixS 2 r_0 i_1 fun v20 =>
 S.fad v20 1 fun v21 =>
 S.ld v21 fun v22 =>
 S.ixS 1 v22 (I 0) fun v23 =>
 S.ld v23 fun v24 =>
 S.ixS 2 r_0 j_2 fun v27 =>
 S.fad v27 1 fun v28 =>
 S.ld v28 fun v29 =>
 S.ixS 1 v29 (I 0) fun v30 =>
 S.ld v30 fun v31 =>
 CF Try.prog 95 [v11, v16] fun v17 =>
 S.rck [S.ld v30 (fun v' _ => v' = v31), S.ld v28 (fun v' _ => v' = v29), S.ld v23 (fun v' _ => v' = v24), S.ld v21 (fun v' _ => v' = v22)] <|
 CF Try.prog 95 [v24, v31] fun v32 =>
 V Try.prog (Instr.buildSlice 40 2 #[(0, v17), (1, v32)]) fun v33 =>
 CF Try.prog 94 [v33] fun v34 =>
 S.bin .lss v34 (I 0) fun v35 =>
 K v35
theorem e92 [Amb] (r_0 i_1 j_2 : Value) (K : Value → WT) : s92 r_0 i_1 j_2 K = shal Try.prog Try.f92 .p a92 [r_0, i_1, j_2] K := by kernel_rfl
theorem c92 [Amb] {r_0 i_1 j_2 : Value} {K : Value → WT} {w : World} (h : s92 r_0 i_1 j_2 K w) : CF Try.prog 92 [r_0, i_1, j_2] K w := shal_sound Try.func92 (e92 r_0 i_1 j_2 K ▸ h)
def a93 : Ann := .draw [0, 1, 2, 3, 4, 5, 6, 7, 8, 9, 10, 11, 12, 13, 14, 15]
def s93 [Amb] (r_0 i_1 j_2 : Value) (K : Value → WT) : WT :=
 S.dr <|
 S.ixS 2 r_0 j_2 fun v12 =>
 S.ldN 2 v12 fun v13 =>
 S.ixS 2 r_0 i_1 fun v16 =>
 S.ldN 2 v16 fun v17 =>
 S.ixS 2 r_0 i_1 fun v18 =>
 S.st 2 v18 v13 fun _ =>
 S.ixS 2 r_0 j_2 fun v19 =>
 S.st 2 v19 v17 fun _ =>
 K (.tuple #[])
theorem e93 [Amb] (r_0 i_1 j_2 : Value) (K : Value → WT) : s93 r_0 i_1 j_2 K = shal Try.prog Try.f93 .p a93 [r_0, i_1, j_2] K := by kernel_rfl
theorem c93 [Amb] {r_0 i_1 j_2 : Value} {K : Value → WT} {w : World} (h : s93 r_0 i_1 j_2 K w) : CF Try.prog 93 [r_0, i_1, j_2] K w := shal_sound Try.func93 (e93 r_0 i_1 j_2 K ▸ h)
def a94 : Ann := .seq (.z) (.seq (.z) (.seq (.seq (.z) (.blk (.loop [3, 6, 7, 8] (.seq (.z) (.seq (.cond (.z) (.z)) (.seq (.blk (.seq (.z) (.seq (.z) (.cond (.seq (.z) (.z)) (.z))))) (.z))))))) (.seq (.z) (.z))))
def s94 [Amb] (vals_0 : Value) (K : Value → WT) : WT :=
 S.len vals_0 fun v7 =>
 S.loop 4 (fun K0 => fun zero_3 v6 v7' v8 => S.fa fun _ =>
 S.bin .lss v8 v7' fun v9 =>
 S.cond v9 (
 S.ixS 1 v6 v8 fun v10 =>
 S.ld v10 fun v11 =>
 S.bin .neq v11 zero_3 fun v14 =>
 S.cond v14 (
 K v11) (
 S.bin .add v8 (I 1) fun v16 =>
 K0 zero_3 v6 v7' v16)) (
 K zero_3))
 [(I 0), vals_0, v7, (I 0)]
theorem e94 [Amb] (vals_0 : Value) (K : Value → WT) : s94 vals_0 K = shal Try.prog Try.f94 .p a94 [vals_0] K := by kernel_rfl
theorem c94 [Amb] {vals_0 : Value} {K : Value → WT} {w : World} (h : s94 vals_0 K w) : CF Try.prog 94 [vals_0] K w := shal_sound Try.func94 (e94 vals_0 K ▸ h)
def a95 : Ann := .seq (.z) (.seq (.z) (.seq (.z) (.seq (.seq (.z) (.cond (.seq (.seq (.z) (.cond (.seq (.z) (.z)) (.z))) (.seq (.z) (.z))) (.z))) (.seq (.seq (.z) (.cond (.seq (.z) (.z)) (.z))) (.seq (.seq (.z) (.cond (.seq (.z) (.z)) (.z))) (.seq (.seq (.z) (.cond (.seq (.z) (.z)) (.z))) (.seq (.z) (.z))))))))
def s95 [Amb] (x_0 y_1 : Value) (K : Value → WT) : WT :=
 CF Try.prog 69 [x_0] fun v8 =>
 CF Try.prog 69 [y_1] fun v10 =>
 S.cond v8 (
 S.cond v10 (
 K (I 0)) (
 K (I (-1)))) (
 S.cond v10 (
 K (I 1)) (
 S.bin .lss x_0 y_1 fun v16 =>
 S.cond v16 (
 K (I (-1))) (
 S.bin .gtr x_0 y_1 fun v19 =>
 S.cond v19 (
 K (I 1)) (
 K (I 0)))))
theorem e95 [Amb] (x_0 y_1 : Value) (K : Value → WT) : s95 x_0 y_1 K = shal Try.prog Try.f95 .p a95 [x_0, y_1] K := by kernel_rfl
theorem c95 [Amb] {x_0 y_1 : Value} {K : Value → WT} {w : World} (h : s95 x_0 y_1 K w) : CF Try.prog 95 [x_0, y_1] K w := shal_sound Try.func95 (e95 x_0 y_1 K ▸ h)
def a96 : Ann := .seq (.z) (.seq (.z) (.seq (.z) (.seq (.z) (.seq (.z) (.z)))))
def s96 [Amb] (r_0 : Value) (K : Value → WT) : WT :=
 S.nc r_0 fun v6 =>
 S.ld v6 fun v7 =>
 S.len v7 fun v8 =>
 S.bin .sub v8 (I 1) fun v9 =>
 S.nc r_0 fun v11 =>
 S.ld v11 fun v12 =>
 S.ixS 2 v12 v9 fun v14 =>
 S.ldN 2 v14 fun v15 =>
 S.box 42 (.agg #[(.int .i64 0), (.slice none 0 0)]) fun t_4 =>
 S.st 2 t_4 v15 fun _ =>
 S.nc r_0 fun v18 =>
 S.ld v18 fun v19 =>
 S.slc 2 v19 none (some v9) none fun v21 =>
 S.nc r_0 fun v22 =>
 S.st 1 v22 v21 fun _ =>
 S.ldN 2 t_4 fun v23 =>
 K (.iface 42 v23)
theorem e96 [Amb] (r_0 : Value) (K : Value → WT) : s96 r_0 K = shal Try.prog Try.f96 .p a96 [r_0] K := by kernel_rfl
theorem c96 [Amb] {r_0 : Value} {K : Value → WT} {w : World} (h : s96 r_0 K w) : CF Try.prog 96 [r_0] K w := shal_sound Try.func96 (e96 r_0 K ▸ h)
def a97 : Ann := .seq (.z) (.seq (.z) (.cond (.draw [0, 1, 2, 3, 4, 5, 6, 7, 8]) (.z)))
def s97 [Amb] (r_0 x_1 : Value) (K : Value → WT) : WT :=
 V Try.prog (Instr.typeAssert x_1 20 42 true) fun v8 =>
 S.ext v8 0 fun v9 =>
 S.ext v8 1 fun v10 =>
 S.box 42 (.agg #[(.int .i64 0), (.slice none 0 0)]) fun t_4 =>
 S.st 2 t_4 v9 fun _ =>
 S.cond v10 (
 S.dr <|
 S.nc r_0 fun v14 =>
 S.ld v14 fun v15 =>
 S.ldN 2 t_4 fun v16 =>
 V Try.prog (Instr.buildSlice 39 1 #[(0, v16)]) fun v17 =>
 S.rck [S.ld v14 (fun v' _ => v' = v15)] <|
 V Try.prog (Builtin.append_ #[39, 39] 39 #[v15, v17]) fun v18 =>
 S.nc r_0 fun v19 =>
 S.st 1 v19 v18 fun _ =>
 K (.tuple #[])) (
 K (.tuple #[]))
theorem e97 [Amb] (r_0 x_1 : Value) (K : Value → WT) : s97 r_0 x_1 K = shal Try.prog Try.f97 .p a97 [r_0, x_1] K := by kernel_rfl
theorem c97 [Amb] {r_0 x_1 : Value} {K : Value → WT} {w : World} (h : s97 r_0 x_1 K w) : CF Try.prog 97 [r_0, x_1] K w := shal_sound Try.func97 (e97 r_0 x_1 K ▸ h)
end Go.Proofs.Ytblgkgobakhigaa.Sh
end
