/-
  Part 5: ShT.
-/
import Derived.Test.YtmbfmkiagdhcoaaGreatProg
import Derived.KernelRfl
import Derived.Test.YtmbfmkiagdhcoaaGreatPkBinNoned
set_option linter.unusedSimpArgs false
set_option linter.unusedVariables false
set_option linter.unusedSectionVars false
section
namespace Go.Proofs.YtmbfmkiagdhcoaaGreat.Sh
open Go Go.SL Go.Proofs
set_option maxRecDepth 100000
def a51 : Ann := .seq (.z) (.seq (.z) (.seq (.seq (.z) (.cond (.seq (.z) (.z)) (.z))) (.seq (.join [2, 8, 9, 31] (.z) (.cond (.seq (.z) (.z)) (.z))) (.seq (.z) (.seq (.seq (.z) (.cond (.seq (.z) (.z)) (.z))) (.seq (.z) (.z)))))))
def a53 : Ann := .seq (.z) (.seq (.seq (.z) (.cond (.seq (.z) (.z)) (.z))) (.seq (.z) (.z)))
def s53 [Amb] (d_0 : Value) (K : Value → WT) : WT :=
 S.eqv Tryz.prog .eql 37 true d_0 (.pointer none) fun v4 =>
 S.cond v4 (
 K (.slice none 0 0)) (
 S.nc d_0 fun v6 =>
 S.fad v6 1 fun v7 =>
 S.ld v7 fun v8 =>
 CF Tryz.prog 99 [v8] fun v9 =>
 CF Tryz.prog 44 [v9] fun v10 =>
 K v10)
theorem e53 [Amb] (d_0 : Value) (K : Value → WT) : s53 d_0 K = shal Tryz.prog Tryz.f53 .p a53 [d_0] K := by kernel_rfl
theorem c53 [Amb] {d_0 : Value} {K : Value → WT} {w : World} (h : s53 d_0 K w) : CF Tryz.prog 53 [d_0] K w := shal_sound Tryz.func53 (e53 d_0 K ▸ h)
def a54 : Ann := .seq (.z) (.seq (.seq (.z) (.cond (.seq (.z) (.z)) (.z))) (.seq (.z) (.z)))
def s54 [Amb] (s_0 : Value) (K : Value → WT) : WT :=
 S.eqv Tryz.prog .eql 48 true s_0 (.slice none 0 0) fun v4 =>
 S.cond v4 (
 K (.slice none 0 0)) (
 V Tryz.prog (Instr.buildSlice 48 0 #[]) fun v5 =>
 V Tryz.prog (Builtin.append_ #[48, 48] 48 #[v5, s_0]) fun v7 =>
 K v7)
theorem e54 [Amb] (s_0 : Value) (K : Value → WT) : s54 s_0 K = shal Tryz.prog Tryz.f54 .p a54 [s_0] K := by kernel_rfl
theorem c54 [Amb] {s_0 : Value} {K : Value → WT} {w : World} (h : s54 s_0 K w) : CF Tryz.prog 54 [s_0] K w := shal_sound Tryz.func54 (e54 s_0 K ▸ h)
def a55 : Ann := .seq (.z) (.seq (.blk (.seq (.z) (.cond (.seq (.z) (.z)) (.seq (.z) (.cond (.seq (.z) (.z)) (.join [13] (.z) (.cond (.seq (.z) (.z)) (.z)))))))) (.seq (.z) (.z)))
def s55 [Amb] (d_0 i_1 : Value) (K : Value → WT) : WT :=
 S.eqv Tryz.prog .eql 37 true d_0 (.pointer none) fun v7 =>
 S.cond v7 (
 K (I 1)) (
 S.nc d_0 fun v10 =>
 S.fad v10 3 fun v11 =>
 S.ld v11 fun v12 =>
 S.cond v12 (
 K (I 7)) (
 S.join 1 (fun K0 =>
 S.bin .lss i_1 (I 0) fun v15 =>
 S.gd v15 false (fun k => k i_1) fun v17 =>
 S.gd v15 false (fun k => k d_0) fun v18 =>
 S.gd v15 false (S.nc v18) fun v19 =>
 S.gd v15 false (S.fad v19 0) fun v20 =>
 S.gd v15 false (S.ld v20) fun v21 =>
 S.gd v15 false (S.len v21) fun v22 =>
 S.gd v15 false (S.bin .geq v17 v22) fun v23 =>
 S.pick v15 (B true) v23 fun v24 =>
 K0 v24)
 <| fun v13 => S.fa fun _ =>
 S.cond v13 (
 K (I 2)) (
 K (I 0))))
theorem e55 [Amb] (d_0 i_1 : Value) (K : Value → WT) : s55 d_0 i_1 K = shal Tryz.prog Tryz.f55 .p a55 [d_0, i_1] K := by kernel_rfl
theorem c55 [Amb] {d_0 i_1 : Value} {K : Value → WT} {w : World} (h : s55 d_0 i_1 K w) : CF Tryz.prog 55 [d_0, i_1] K w := shal_sound Tryz.func55 (e55 d_0 i_1 K ▸ h)
def a56 : Ann := .seq (.z) (.seq (.seq (.z) (.seq (.z) (.cond (.seq (.z) (.seq (.z) (.z))) (.z)))) (.seq (.z) (.seq (.z) (.seq (.z) (.z)))))
def s56 [Amb] (d_0 does_1 : Value) (K : Value → WT) : WT :=
 S.nc d_0 fun v6 =>
 S.fad v6 2 fun v7 =>
 S.ld v7 fun v8 =>
 S.bin .sub v8 (I 1) fun v9 =>
 S.nc d_0 fun v10 =>
 S.fad v10 2 fun v11 =>
 S.st 1 v11 v9 fun _ =>
 S.nc d_0 fun v13 =>
 S.fad v13 2 fun v14 =>
 S.ld v14 fun v15 =>
 S.bin .eql v15 (I 0) fun v16 =>
 S.cond v16 (
 S.nc d_0 fun v18 =>
 S.fad v18 3 fun v19 =>
 S.st 1 v19 (B true) fun _ =>
 K (I 7)) (
 S.nc d_0 fun v22 =>
 S.fad v22 2 fun v23 =>
 S.ld v23 fun v24 =>
 S.mx v24 (I 0) fun v25 =>
 S.nc d_0 fun v26 =>
 S.fad v26 2 fun v27 =>
 S.st 1 v27 v25 fun _ =>
 S.cvv Tryz.prog does_1 [] fun v29 =>
 K (I 0))
theorem e56 [Amb] (d_0 does_1 : Value) (K : Value → WT) : s56 d_0 does_1 K = shal Tryz.prog Tryz.f56 .p a56 [d_0, does_1] K := by kernel_rfl
theorem c56 [Amb] {d_0 does_1 : Value} {K : Value → WT} {w : World} (h : s56 d_0 does_1 K w) : CF Tryz.prog 56 [d_0, does_1] K w := shal_sound Tryz.func56 (e56 d_0 does_1 K ▸ h)
def a58 : Ann := .seq (.z) (.seq (.z) (.seq (.blk (.loop [0, 3] (.seq (.seq (.z) (.cond (.z) (.z))) (.blk (.z))))) (.seq (.z) (.z))))
def s58 [Amb] (n_0 : Value) (K : Value → WT) : WT :=
 S.loop 2 (fun K0 => fun n_0' out_3 => S.fa fun _ =>
 S.lenS out_3 fun v5 =>
 S.bin .lss v5 n_0' fun v7 =>
 S.cond v7 (
 S.sbin .add out_3 (.string ⟨#[0]⟩) fun v9 =>
 K0 n_0' v9) (
 K out_3))
 [n_0, (.string ⟨#[]⟩)]
theorem e58 [Amb] (n_0 : Value) (K : Value → WT) : s58 n_0 K = shal Tryz.prog Tryz.f58 .p a58 [n_0] K := by kernel_rfl
theorem c58 [Amb] {n_0 : Value} {K : Value → WT} {w : World} (h : s58 n_0 K w) : CF Tryz.prog 58 [n_0] K w := shal_sound Tryz.func58 (e58 n_0 K ▸ h)
def a59 : Ann := .seq (.z) (.seq (.join [0, 13] (.z) (.cond (.seq (.z) (.z)) (.z))) (.seq (.draw [0, 1, 2, 3, 4, 5, 6, 7, 8, 9, 10, 11, 12, 13, 14, 15, 16, 17, 18, 19, 20]) (.seq (.z) (.z))))
def s59 [Amb] (p_0 : Value) (K : Value → WT) : WT :=
 S.join 2 (fun K0 =>
 S.eqv Tryz.prog .eql 27 true p_0 (.pointer none) fun v5 =>
 S.gd v5 false (fun k => k p_0) fun v7 =>
 S.gd v5 false (S.nc v7) fun v8 =>
 S.gd v5 false (S.fad v8 2) fun v9 =>
 S.gd v5 false (S.ld v9) fun v10 =>
 S.gd v5 false (S.len v10) fun v11 =>
 S.gd v5 false (S.bin .eql v11 (I 64)) fun v12 =>
 S.pick v5 (B true) v12 fun v13 =>
 K0 p_0 v13)
 <| fun p_0' v13' => S.fa fun _ =>
 S.cond v13' (
 K (I 0)) (
 S.dr <|
 S.nc p_0' fun v15 =>
 S.fad v15 1 fun v16 =>
 S.ld v16 fun v17 =>
 S.bin .sub v17 (I 1) fun v18 =>
 S.bin .mul v18 (I 128) fun v19 =>
 S.nc p_0' fun v21 =>
 S.fad v21 3 fun v22 =>
 S.ld v22 fun v23 =>
 S.len v23 fun v24 =>
 S.bin .sub v19 v24 fun v25 =>
 S.nc p_0' fun v27 =>
 S.fad v27 2 fun v28 =>
 S.ld v28 fun v29 =>
 S.len v29 fun v30 =>
 S.bin .add v30 (I 1) fun v31 =>
 S.bin .mul (I 34) v31 fun v32 =>
 S.bin .sub v25 v32 fun v33 =>
 S.mx v33 (I 0) fun v35 =>
 S.mn v35 (I 512) fun v36 =>
 K v36)
theorem e59 [Amb] (p_0 : Value) (K : Value → WT) : s59 p_0 K = shal Tryz.prog Tryz.f59 .p a59 [p_0] K := by kernel_rfl
theorem c59 [Amb] {p_0 : Value} {K : Value → WT} {w : World} (h : s59 p_0 K w) : CF Tryz.prog 59 [p_0] K w := shal_sound Tryz.func59 (e59 p_0 K ▸ h)
def a60 : Ann := .seq (.z) (.seq (.z) (.seq (.z) (.seq (.z) (.z))))
def s60 [Amb] (p_0 : Value) (K : Value → WT) : WT :=
 S.box 107 (.agg #[(.int .u8 0), (.int .u8 0), (.int .u8 0), (.int .u8 0), (.int .u8 0), (.int .u8 0), (.int .u8 0), (.int .u8 0), (.int .u8 0), (.int .u8 0), (.int .u8 0), (.int .u8 0), (.int .u8 0), (.int .u8 0), (.int .u8 0), (.int .u8 0), (.int .u8 0), (.int .u8 0), (.int .u8 0), (.int .u8 0), (.int .u8 0), (.int .u8 0), (.int .u8 0), (.int .u8 0), (.int .u8 0), (.int .u8 0), (.int .u8 0), (.int .u8 0), (.int .u8 0), (.int .u8 0), (.int .u8 0), (.int .u8 0)]) fun v2 =>
 CF Tryz.prog 100 [] fun v4 =>
 CF Tryz.prog 101 [v4, p_0] fun v7 =>
 CF Tryz.prog 102 [v4] fun v9 =>
 S.st 32 v2 v9 fun _ =>
 S.ldN 32 v2 fun v2' =>
 K v2'
theorem e60 [Amb] (p_0 : Value) (K : Value → WT) : s60 p_0 K = shal Tryz.prog Tryz.f60 .p a60 [p_0] K := by kernel_rfl
theorem c60 [Amb] {p_0 : Value} {K : Value → WT} {w : World} (h : s60 p_0 K w) : CF Tryz.prog 60 [p_0] K w := shal_sound Tryz.func60 (e60 p_0 K ▸ h)
def a61 : Ann := .seq (.z) (.seq (.seq (.z) (.cond (.seq (.z) (.z)) (.z))) (.seq (.z) (.z)))
def s61 [Amb] (s_0 : Value) (K : Value → WT) : WT :=
 S.eqv Tryz.prog .eql 56 true s_0 (.slice none 0 0) fun v4 =>
 S.cond v4 (
 K (.slice none 0 0)) (
 V Tryz.prog (Instr.buildSlice 56 0 #[]) fun v5 =>
 V Tryz.prog (Builtin.append_ #[56, 56] 56 #[v5, s_0]) fun v7 =>
 K v7)
theorem e61 [Amb] (s_0 : Value) (K : Value → WT) : s61 s_0 K = shal Tryz.prog Tryz.f61 .p a61 [s_0] K := by kernel_rfl
theorem c61 [Amb] {s_0 : Value} {K : Value → WT} {w : World} (h : s61 s_0 K w) : CF Tryz.prog 61 [s_0] K w := shal_sound Tryz.func61 (e61 s_0 K ▸ h)
def a62 : Ann := .seq (.z) (.seq (.z) (.seq (.seq (.z) (.blk (.loop [0, 3, 9, 10, 11] (.seq (.z) (.seq (.cond (.z) (.z)) (.join [0, 3, 9, 10, 11] (.blk (.seq (.z) (.seq (.z) (.seq (.z) (.cond (.z) (.z)))))) (.z))))))) (.seq (.z) (.seq (.seq (.z) (.blk (.loop [6, 25, 26, 27] (.seq (.z) (.seq (.cond (.z) (.z)) (.seq (.blk (.seq (.z) (.z))) (.z))))))) (.seq (.z) (.z))))))
def s62 [Amb] (slices_0 : Value) (K : Value → WT) : WT :=
 S.len slices_0 fun v10 =>
 S.loop 5 (fun K0 => fun slices_0' size_3 v9 v10' v11 => S.fa fun _ =>
 S.bin .lss v11 v10' fun v12 =>
 S.cond v12 (
 S.join 5 (fun K1 =>
 S.ixS 1 v9 v11 fun v13 =>
 S.ld v13 fun v14 =>
 S.len v14 fun v17 =>
 S.bin .add size_3 v17 fun v18 =>
 S.bin .lss v18 (I 0) fun v20 =>
 S.cond v20 (
 S.pan (.iface 9 (.string ⟨#[108, 101, 110, 32, 111, 117, 116, 32, 111, 102, 32, 114, 97, 110, 103, 101]⟩))) (
 K1 slices_0' v18 v9 v10' v11))
 <| fun slices_0'2 size_3' v9' v10'2 v11' => S.fa fun _ =>
 S.bin .add v11' (I 1) fun v22 =>
 K0 slices_0'2 size_3' v9' v10'2 v22) (
 CF Tryz.prog 103 [(.slice none 0 0), size_3] fun v24 =>
 S.len slices_0' fun v26 =>
 S.loop 4 (fun K2 => fun newslice_6 v25 v26' v27 => S.fa fun _ =>
 S.bin .lss v27 v26' fun v28 =>
 S.cond v28 (
 S.ixS 1 v25 v27 fun v29 =>
 S.ld v29 fun v30 =>
 V Tryz.prog (Builtin.append_ #[48, 48] 48 #[newslice_6, v30]) fun v33 =>
 S.bin .add v27 (I 1) fun v34 =>
 K2 v33 v25 v26' v34) (
 K newslice_6))
 [v24, slices_0', v26, (I 0)]))
 [slices_0, (I 0), slices_0, v10, (I 0)]
theorem e62 [Amb] (slices_0 : Value) (K : Value → WT) : s62 slices_0 K = shal Tryz.prog Tryz.f62 .p a62 [slices_0] K := by kernel_rfl
theorem c62 [Amb] {slices_0 : Value} {K : Value → WT} {w : World} (h : s62 slices_0 K w) : CF Tryz.prog 62 [slices_0] K w := shal_sound Tryz.func62 (e62 slices_0 K ▸ h)
def a63 : Ann := .seq (.z) (.seq (.z) (.seq (.seq (.z) (.blk (.loop [0, 1, 5, 6] (.seq (.seq (.z) (.cond (.z) (.z))) (.seq (.blk (.z)) (.z)))))) (.seq (.z) (.z))))
def s63 [Amb] (l_0 sectors_1 : Value) (K : Value → WT) : WT :=
 S.loop 4 (fun K0 => fun l_0' sectors_1' n_5 i_6 => S.fa fun _ =>
 S.len l_0' fun v9 =>
 S.bin .lss i_6 v9 fun v10 =>
 S.cond v10 (
 S.ixS 1 l_0' i_6 fun v16 =>
 S.ld v16 fun v17 =>
 S.lenS v17 fun v18 =>
 S.bin .add n_5 v18 fun v19 =>
 S.bin .add v19 (I 34) fun v20 =>
 S.bin .add i_6 (I 1) fun v12 =>
 K0 l_0' sectors_1' v20 v12) (
 S.bin .mul (I 128) sectors_1' fun v23 =>
 S.bin .leq n_5 v23 fun v24 =>
 K v24))
 [l_0, sectors_1, (I 128), (I 0)]
theorem e63 [Amb] (l_0 sectors_1 : Value) (K : Value → WT) : s63 l_0 sectors_1 K = shal Tryz.prog Tryz.f63 .p a63 [l_0, sectors_1] K := by kernel_rfl
theorem c63 [Amb] {l_0 sectors_1 : Value} {K : Value → WT} {w : World} (h : s63 l_0 sectors_1 K w) : CF Tryz.prog 63 [l_0, sectors_1] K w := shal_sound Tryz.func63 (e63 l_0 sectors_1 K ▸ h)
def a64 : Ann := .seq (.z) (.seq (.seq (.z) (.blk (.loop [0, 9, 10, 11] (.seq (.z) (.seq (.cond (.z) (.z)) (.seq (.blk (.seq (.z) (.seq (.z) (.z)))) (.z))))))) (.seq (.z) (.z)))
def s64 [Amb] (b_0 l_1 : Value) (K : Value → WT) : WT :=
 S.len l_1 fun v10 =>
 S.loop 4 (fun K0 => fun b_0' v9 v10' v11 => S.fa fun _ =>
 S.bin .lss v11 v10' fun v12 =>
 S.cond v12 (
 S.ixS 2 v9 v11 fun v13 =>
 S.ldN 2 v13 fun v14 =>
 S.box 142 (.agg #[(.int .i64 0), (.int .i64 0)]) fun x_6 =>
 S.st 2 x_6 v14 fun _ =>
 S.ixA 2 1 x_6 (I 0) fun v16 =>
 S.ld v16 fun v17 =>
 S.ixA 2 1 x_6 (I 1) fun v18 =>
 S.ld v18 fun v19 =>
 CF Tryz.prog 104 [v17, v19] fun v20 =>
 S.ext v20 0 fun v21 =>
 S.ext v20 1 fun v22 =>
 V Tryz.prog (Builtin.append_ #[48, 48] 48 #[b_0', v21]) fun v25 =>
 S.bin .add v11 (I 1) fun v26 =>
 K0 v25 v9 v10' v26) (
 K b_0'))
 [b_0, l_1, v10, (I 0)]
theorem e64 [Amb] (b_0 l_1 : Value) (K : Value → WT) : s64 b_0 l_1 K = shal Tryz.prog Tryz.f64 .p a64 [b_0, l_1] K := by kernel_rfl
theorem c64 [Amb] {b_0 l_1 : Value} {K : Value → WT} {w : World} (h : s64 b_0 l_1 K w) : CF Tryz.prog 64 [b_0, l_1] K w := shal_sound Tryz.func64 (e64 b_0 l_1 K ▸ h)
def a65 : Ann := .seq (.z) (.seq (.z) (.z))
def s65 [Amb] (p_0 : Value) (K : Value → WT) : WT :=
 CF Tryz.prog 105 [(.int .u32 0), p_0] fun v4 =>
 K v4
theorem e65 [Amb] (p_0 : Value) (K : Value → WT) : s65 p_0 K = shal Tryz.prog Tryz.f65 .p a65 [p_0] K := by kernel_rfl
theorem c65 [Amb] {p_0 : Value} {K : Value → WT} {w : World} (h : s65 p_0 K w) : CF Tryz.prog 65 [p_0] K w := shal_sound Tryz.func65 (e65 p_0 K ▸ h)
def a66 : Ann := .seq (.z) (.seq (.blk (.seq (.z) (.cond (.seq (.z) (.z)) (.seq (.z) (.cond (.seq (.z) (.z)) (.z)))))) (.seq (.z) (.seq (.seq (.z) (.blk (.seq (.z) (.cond (.seq (.z) (.z)) (.seq (.z) (.cond (.seq (.z) (.z)) (.join [0, 6, 35] (.z) (.cond (.seq (.z) (.z)) (.join [44] (.z) (.cond (.seq (.z) (.z)) (.z))))))))))) (.seq (.z) (.z)))))
def s66 [Amb] (b_0 : Value) (K : Value → WT) : WT :=
 S.len b_0 fun v9 =>
 S.bin .lss v9 (I 128) fun v10 =>
 S.cond v10 (
 K (I 3)) (
 S.slc 1 b_0 none (some (I 4)) none fun v13 =>
 S.b2s v13 fun v14 =>
 S.sbin .neq v14 (.string ⟨#[66, 73, 78, 49]⟩) fun v15 =>
 S.cond v15 (
 K (I 4)) (
 CF Tryz.prog 68 [b_0, (I 18), (I 4)] fun v18 =>
 S.ext v18 0 fun v19 =>
 S.ext v18 1 fun v20 =>
 S.ext v18 2 fun v21 =>
 CF Tryz.prog 67 [b_0] fun v23 =>
 S.box 146 (.agg #[(.int .i64 0), (.int .i64 0), (.int .i64 0), (.int .i64 0)]) fun n_6 =>
 S.st 4 n_6 v23 fun _ =>
 S.slc 1 b_0 none (some (I 18)) none fun v27 =>
 CF Tryz.prog 65 [v27] fun v28 =>
 S.cvt .i64 v28 fun v29 =>
 S.bin .neq v19 v29 fun v30 =>
 S.cond v30 (
 K (I 5)) (
 S.slc 1 b_0 (some (I 22)) (some (I 128)) none fun v33 =>
 CF Tryz.prog 106 [v33, (.func (.func 107) #[] #[])] fun v34 =>
 S.cond v34 (
 K (I 4)) (
 S.join 3 (fun K0 =>
 S.ixA 4 1 n_6 (I 0) fun v36 =>
 S.ld v36 fun v37 =>
 S.bin .geq v37 (I 4096) fun v38 =>
 S.gd v38 false (S.ixA 4 1 n_6 (I 1)) fun v40 =>
 S.gd v38 false (S.ld v40) fun v41 =>
 S.gd v38 false (S.bin .gtr v41 (I 64)) fun v42 =>
 S.pick v38 (B true) v42 fun v43 =>
 K0 b_0 n_6 v43)
 <| fun b_0' n_6' v35 => S.fa fun _ =>
 S.cond v35 (
 K (I 6)) (
 S.join 1 (fun K1 =>
 S.ixA 4 1 n_6' (I 2) fun v45 =>
 S.ld v45 fun v46 =>
 S.len b_0' fun v48 =>
 S.bin .sub v48 (I 128) fun v49 =>
 S.bin .gtr v46 v49 fun v50 =>
 S.gd v50 false (S.ixA 4 1 n_6' (I 1)) fun v52 =>
 S.gd v50 false (S.ld v52) fun v53 =>
 S.gd v50 false (S.bin .mul (I 34) v53) fun v54 =>
 S.gd v50 false (fun k => k b_0') fun v55 =>
 S.gd v50 false (S.len v55) fun v56 =>
 S.gd v50 false (S.bin .sub v56 (I 128)) fun v57 =>
 S.gd v50 false (S.ixA 4 1 n_6' (I 2)) fun v58 =>
 S.gd v50 false (S.ld v58) fun v59 =>
 S.gd v50 false (S.bin .sub v57 v59) fun v60 =>
 S.gd v50 false (S.bin .gtr v54 v60) fun v61 =>
 S.pick v50 (B true) v61 fun v62 =>
 K1 v62)
 <| fun v44 => S.fa fun _ =>
 S.cond v44 (
 K (I 3)) (
 K (I 0)))))))
theorem e66 [Amb] (b_0 : Value) (K : Value → WT) : s66 b_0 K = shal Tryz.prog Tryz.f66 .p a66 [b_0] K := by kernel_rfl
theorem c66 [Amb] {b_0 : Value} {K : Value → WT} {w : World} (h : s66 b_0 K w) : CF Tryz.prog 66 [b_0] K w := shal_sound Tryz.func66 (e66 b_0 K ▸ h)
def a67 : Ann := .seq (.z) (.seq (.z) (.seq (.seq (.z) (.blk (.loop [0, 2, 3, 6, 7] (.seq (.z) (.seq (.cond (.z) (.z)) (.seq (.blk (.seq (.z) (.z))) (.z))))))) (.seq (.z) (.z))))
def s67 [Amb] (b_0 : Value) (K : Value → WT) : WT :=
 S.box 146 (.agg #[(.int .i64 0), (.int .i64 0), (.int .i64 0), (.int .i64 0)]) fun out_2 =>
 V Tryz.prog (Instr.build 146 #[(0, (I 4)), (1, (I 2)), (2, (I 4)), (3, (I 4))]) fun v6 =>
 S.loop 5 (fun K0 => fun b_0' out_2' at_3 v6' v7 => S.fa fun _ =>
 S.bin .lss v7 (I 4) fun v8 =>
 S.cond v8 (
 V Tryz.prog (Instr.index 146 v6' v7) fun v10 =>
 CF Tryz.prog 68 [b_0', at_3, v10] fun v16 =>
 S.ext v16 0 fun v17 =>
 S.ext v16 1 fun v18 =>
 S.ext v16 2 fun v19 =>
 S.ixA 4 1 out_2' v7 fun v20 =>
 S.st 1 v20 v17 fun _ =>
 S.bin .add v7 (I 1) fun v21 =>
 K0 b_0' out_2' v18 v6' v21) (
 S.ldN 4 out_2' fun v22 =>
 S.st 4 out_2' v22 fun _ =>
 S.ldN 4 out_2' fun out_2'2 =>
 K out_2'2))
 [b_0, out_2, (I 4), v6, (I 0)]
theorem e67 [Amb] (b_0 : Value) (K : Value → WT) : s67 b_0 K = shal Tryz.prog Tryz.f67 .p a67 [b_0] K := by kernel_rfl
theorem c67 [Amb] {b_0 : Value} {K : Value → WT} {w : World} (h : s67 b_0 K w) : CF Tryz.prog 67 [b_0] K w := shal_sound Tryz.func67 (e67 b_0 K ▸ h)
def a68 : Ann := .seq (.z) (.seq (.blk (.join [0, 1, 2, 12] (.z) (.cond (.seq (.z) (.z)) (.seq (.z) (.cond (.seq (.z) (.z)) (.z)))))) (.seq (.z) (.seq (.seq (.z) (.blk (.loop [1, 2, 9, 41, 42, 43] (.seq (.z) (.seq (.cond (.z) (.z)) (.seq (.blk (.seq (.z) (.z))) (.z))))))) (.seq (.seq (.z) (.cond (.seq (.z) (.z)) (.z))) (.seq (.z) (.z))))))
def s68 [Amb] (b_0 at_1 width_2 : Value) (K : Value → WT) : WT :=
 S.join 4 (fun K0 =>
 S.bin .lss width_2 (I 1) fun v14 =>
 S.gd v14 false (fun k => k width_2) fun v16 =>
 S.gd v14 false (S.bin .gtr v16 (I 8)) fun v17 =>
 S.pick v14 (B true) v17 fun v18 =>
 S.gd v18 false (fun k => k at_1) fun v20 =>
 S.gd v18 false (S.bin .lss v20 (I 0)) fun v21 =>
 S.pick v18 (B true) v21 fun v22 =>
 S.gd v22 false (fun k => k at_1) fun v24 =>
 S.gd v22 false (fun k => k b_0) fun v25 =>
 S.gd v22 false (S.len v25) fun v26 =>
 S.gd v22 false (S.bin .gtr v24 v26) fun v27 =>
 S.pick v22 (B true) v27 fun v28 =>
 K0 b_0 at_1 width_2 v28)
 <| fun b_0' at_1' width_2' v12 => S.fa fun _ =>
 S.cond v12 (
 K (.tuple #[(I 0), (I 0), (I 2)])) (
 S.len b_0' fun v31 =>
 S.bin .sub v31 at_1' fun v33 =>
 S.bin .lss v33 width_2' fun v35 =>
 S.cond v35 (
 K (.tuple #[(I 0), (I 0), (I 3)])) (
 S.bin .add at_1' width_2' fun v40 =>
 S.slc 1 b_0' (some at_1') (some v40) none fun v41 =>
 S.len v41 fun v42 =>
 S.loop 6 (fun K1 => fun at_1'2 width_2'2 n_9 v41' v42' v43 => S.fa fun _ =>
 S.bin .lss v43 v42' fun v44 =>
 S.cond v44 (
 S.ixS 1 v41' v43 fun v45 =>
 S.ld v45 fun v46 =>
 S.sh .shl n_9 (.int .u64 8) fun v48 =>
 S.cvt .u64 v46 fun v50 =>
 S.bin .or v48 v50 fun v51 =>
 S.bin .add v43 (I 1) fun v52 =>
 K1 at_1'2 width_2'2 v51 v41' v42' v52) (
 S.bin .gtr n_9 (.int .u64 9007199254740991) fun v54 =>
 S.cond v54 (
 K (.tuple #[(I 0), (I 0), (I 6)])) (
 S.cvt .i64 n_9 fun v56 =>
 S.bin .add at_1'2 width_2'2 fun v59 =>
 K (.tuple #[v56, v59, (I 0)]))))
 [at_1', width_2', (.int .u64 0), v41, v42, (I 0)]))
theorem e68 [Amb] (b_0 at_1 width_2 : Value) (K : Value → WT) : s68 b_0 at_1 width_2 K = shal Tryz.prog Tryz.f68 .p a68 [b_0, at_1, width_2] K := by kernel_rfl
theorem c68 [Amb] {b_0 at_1 width_2 : Value} {K : Value → WT} {w : World} (h : s68 b_0 at_1 width_2 K w) : CF Tryz.prog 68 [b_0, at_1, width_2] K w := shal_sound Tryz.func68 (e68 b_0 at_1 width_2 K ▸ h)
def a69 : Ann := .seq (.z) (.seq (.seq (.z) (.blk (.loop [0, 1, 7, 8] (.seq (.z) (.seq (.cond (.z) (.z)) (.seq (.blk (.seq (.z) (.seq (.z) (.cond (.seq (.z) (.z)) (.z))))) (.z))))))) (.seq (.z) (.z)))
def s69 [Amb] (s_0 f_1 : Value) (K : Value → WT) : WT :=
 S.len s_0 fun v7 =>
 S.loop 4 (fun K0 => fun s_0' f_1' v7' v8 => S.fa fun _ =>
 S.bin .lss v8 v7' fun v9 =>
 S.cond v9 (
 S.ixS 2 s_0' v8 fun v14 =>
 S.ldN 2 v14 fun v15 =>
 S.cvv Tryz.prog f_1' [v15] fun v16 =>
 S.cond v16 (
 K v8) (
 S.bin .add v8 (I 1) fun v18 =>
 K0 s_0' f_1' v7' v18)) (
 K (I (-1))))
 [s_0, f_1, v7, (I 0)]
theorem e69 [Amb] (s_0 f_1 : Value) (K : Value → WT) : s69 s_0 f_1 K = shal Tryz.prog Tryz.f69 .p a69 [s_0, f_1] K := by kernel_rfl
theorem c69 [Amb] {s_0 f_1 : Value} {K : Value → WT} {w : World} (h : s69 s_0 f_1 K w) : CF Tryz.prog 69 [s_0, f_1] K w := shal_sound Tryz.func69 (e69 s_0 f_1 K ▸ h)
def a70 : Ann := .seq (.z) (.seq (.z) (.z))
def s70 [Amb] (r_0 v1 : Value) (K : Value → WT) : WT :=
 S.box 32 r_0 fun r_2 =>
 S.fad r_2 1 fun v4 =>
 S.ld v4 fun v5 =>
 S.ld v1 fun v6 =>
 S.bin .geq v5 v6 fun v7 =>
 K v7
theorem e70 [Amb] (r_0 v1 : Value) (K : Value → WT) : s70 r_0 v1 K = shal Tryz.prog Tryz.f70 .p a70 [r_0, v1] K := by kernel_rfl
theorem c70 [Amb] {r_0 v1 : Value} {K : Value → WT} {w : World} (h : s70 r_0 v1 K w) : CF Tryz.prog 70 [r_0, v1] K w := shal_sound Tryz.func70 (e70 r_0 v1 K ▸ h)
def a71 : Ann := .seq (.z) (.seq (.z) (.seq (.z) (.seq (.seq (.z) (.blk (.loop [0, 1, 7, 42, 43, 44] (.seq (.z) (.seq (.cond (.z) (.z)) (.join [0, 1, 7, 42, 43, 44] (.blk (.seq (.z) (.seq (.z) (.cond (.z) (.z))))) (.z))))))) (.draw [0, 1, 2, 3, 4, 5, 6, 7, 8, 9, 10, 11, 12, 13, 14, 15, 16, 17, 18, 19, 20]))))
def s71 [Amb] (v0 v1 v2 : Value) (K : Value → WT) : WT :=
 S.box 32 v2 fun v5 =>
 S.nc v0 fun v11 =>
 S.fad v11 2 fun v12 =>
 S.ld v12 fun v13 =>
 S.ixS 2 v13 v1 fun v15 =>
 S.ldN 2 v15 fun v16 =>
 S.box 32 (.agg #[(.int .i64 0), (.int .i64 0)]) fun v6 =>
 S.st 2 v6 v16 fun _ =>
 S.fad v6 0 fun v17 =>
 S.ld v17 fun v18 =>
 S.fad v5 0 fun v19 =>
 S.ld v19 fun v20 =>
 S.fad v6 0 fun v21 =>
 S.ld v21 fun v22 =>
 S.bin .sub v20 v22 fun v23 =>
 V Tryz.prog (Instr.build 32 #[(0, v18), (1, v23)]) fun v24 =>
 S.fad v5 0 fun v25 =>
 S.ld v25 fun v26 =>
 S.fad v5 1 fun v27 =>
 S.ld v27 fun v28 =>
 S.bin .add v26 v28 fun v29 =>
 S.fad v6 0 fun v30 =>
 S.ld v30 fun v31 =>
 S.fad v6 1 fun v32 =>
 S.ld v32 fun v33 =>
 S.bin .add v31 v33 fun v34 =>
 S.fad v5 0 fun v35 =>
 S.ld v35 fun v36 =>
 S.bin .sub v34 v36 fun v37 =>
 S.fad v5 1 fun v38 =>
 S.ld v38 fun v39 =>
 S.bin .sub v37 v39 fun v40 =>
 V Tryz.prog (Instr.build 32 #[(0, v29), (1, v40)]) fun v41 =>
 V Tryz.prog (Instr.buildSlice 125 2 #[(0, v24), (1, v41)]) fun v42 =>
 S.len v42 fun v43 =>
 S.loop 6 (fun K0 => fun v0' v1' v7 v42' v43' v44 => S.fa fun _ =>
 S.bin .lss v44 v43' fun v45 =>
 S.cond v45 (
 S.join 6 (fun K1 =>
 S.ixS 2 v42' v44 fun v46 =>
 S.ldN 2 v46 fun v47 =>
 S.box 32 (.agg #[(.int .i64 0), (.int .i64 0)]) fun v9 =>
 S.st 2 v9 v47 fun _ =>
 S.fad v9 1 fun v48 =>
 S.ld v48 fun v49 =>
 S.bin .gtr v49 (I 0) fun v50 =>
 S.cond v50 (
 S.ldN 2 v9 fun v52 =>
 V Tryz.prog (Instr.buildSlice 125 1 #[(0, v52)]) fun v53 =>
 V Tryz.prog (Builtin.append_ #[125, 125] 125 #[v7, v53]) fun v54 =>
 K1 v0' v1' v54 v42' v43' v44) (
 K1 v0' v1' v7 v42' v43' v44))
 <| fun v0'2 v1'2 v7' v42'2 v43'2 v44' => S.fa fun _ =>
 S.bin .add v44' (I 1) fun v55 =>
 K0 v0'2 v1'2 v7' v42'2 v43'2 v55) (
 S.dr <|
 S.nc v0' fun v58 =>
 S.fad v58 2 fun v59 =>
 S.ld v59 fun v60 =>
 S.slc 2 v60 none (some v1') (some v1') fun v63 =>
 S.nc v0' fun v66 =>
 S.fad v66 2 fun v67 =>
 S.ld v67 fun v68 =>
 S.bin .add v1' (I 1) fun v70 =>
 S.slc 2 v68 (some v70) none none fun v71 =>
 V Tryz.prog (Instr.buildSlice 195 3 #[(0, v63), (1, v7), (2, v71)]) fun v72 =>
 CF Tryz.prog 108 [v72] fun v73 =>
 S.nc v0' fun v74 =>
 S.fad v74 2 fun v75 =>
 S.st 1 v75 v73 fun _ =>
 K (.tuple #[])))
 [v0, v1, (.slice none 0 0), v42, v43, (I 0)]
theorem e71 [Amb] (v0 v1 v2 : Value) (K : Value → WT) : s71 v0 v1 v2 K = shal Tryz.prog Tryz.f71 .p a71 [v0, v1, v2] K := by kernel_rfl
theorem c71 [Amb] {v0 v1 v2 : Value} {K : Value → WT} {w : World} (h : s71 v0 v1 v2 K w) : CF Tryz.prog 71 [v0, v1, v2] K w := shal_sound Tryz.func71 (e71 v0 v1 v2 K ▸ h)
def a72 : Ann := .seq (.z) (.seq (.seq (.z) (.seq (.z) (.cond (.seq (.z) (.z)) (.z)))) (.seq (.seq (.z) (.cond (.seq (.z) (.z)) (.z))) (.seq (.z) (.seq (.z) (.z)))))
def s72 [Amb] (d_0 i_1 b_2 : Value) (K : Value → WT) : WT :=
 S.box 37 d_0 fun d_3 =>
 S.box 3 i_1 fun i_4 =>
 S.ld d_3 fun v9 =>
 S.ld i_4 fun v10 =>
 CF Tryz.prog 55 [v9, v10] fun v11 =>
 S.bin .neq v11 (I 0) fun v13 =>
 S.cond v13 (
 K v11) (
 S.len b_2 fun v16 =>
 S.bin .gtr v16 (I 128) fun v17 =>
 S.cond v17 (
 K (I 6)) (
 CF Tryz.prog 109 [b_2] fun v19 =>
 S.box 48 (.slice none 0 0) fun p_8 =>
 S.st 1 p_8 v19 fun _ =>
 S.ld d_3 fun v20 =>
 CF Tryz.prog 56 [v20, (.func (Go.Fn.func 110) #[] #[p_8, d_3, i_4])] fun v22 =>
 K v22))
theorem e72 [Amb] (d_0 i_1 b_2 : Value) (K : Value → WT) : s72 d_0 i_1 b_2 K = shal Tryz.prog Tryz.f72 .p a72 [d_0, i_1, b_2] K := by kernel_rfl
theorem c72 [Amb] {d_0 i_1 b_2 : Value} {K : Value → WT} {w : World} (h : s72 d_0 i_1 b_2 K w) : CF Tryz.prog 72 [d_0, i_1, b_2] K w := shal_sound Tryz.func72 (e72 d_0 i_1 b_2 K ▸ h)
def a73 : Ann := .seq (.z) (.seq (.draw [0, 1, 2, 3, 4, 5, 6, 7, 8, 9, 10, 11, 12, 13, 14, 15, 16, 17, 18, 19, 20, 21, 22, 23, 24, 25, 26, 27, 28, 29, 30, 31, 32, 33]) (.z))
def s73 [Amb] (m_0 r_1 : Value) (K : Value → WT) : WT :=
 S.box 32 r_1 fun r_3 =>
 S.dr <|
 S.fad r_3 1 fun v5 =>
 S.ld v5 fun v6 =>
 S.bin .geq v6 (I 1) fun v7 =>
 S.gd v7 true (S.fad r_3 0) fun v9 =>
 S.gd v7 true (S.ld v9) fun v10 =>
 S.gd v7 true (fun k => k m_0) fun v11 =>
 S.gd v7 true (S.nc v11) fun v12 =>
 S.gd v7 true (S.fad v12 0) fun v13 =>
 S.gd v7 true (S.ld v13) fun v14 =>
 S.gd v7 true (S.bin .geq v10 v14) fun v15 =>
 S.pick v7 v15 (B false) fun v16 =>
 S.gd v16 true (S.fad r_3 0) fun v18 =>
 S.gd v16 true (S.ld v18) fun v19 =>
 S.gd v16 true (fun k => k m_0) fun v20 =>
 S.gd v16 true (S.nc v20) fun v21 =>
 S.gd v16 true (S.fad v21 1) fun v22 =>
 S.gd v16 true (S.ld v22) fun v23 =>
 S.gd v16 true (S.bin .lss v19 v23) fun v24 =>
 S.pick v16 v24 (B false) fun v25 =>
 S.gd v25 true (S.fad r_3 1) fun v27 =>
 S.gd v25 true (S.ld v27) fun v28 =>
 S.gd v25 true (fun k => k m_0) fun v29 =>
 S.gd v25 true (S.nc v29) fun v30 =>
 S.gd v25 true (S.fad v30 1) fun v31 =>
 S.gd v25 true (S.ld v31) fun v32 =>
 S.gd v25 true (S.fad r_3 0) fun v33 =>
 S.gd v25 true (S.ld v33) fun v34 =>
 S.gd v25 true (S.bin .sub v32 v34) fun v35 =>
 S.gd v25 true (S.bin .leq v28 v35) fun v36 =>
 S.pick v25 v36 (B false) fun v37 =>
 K v37
theorem e73 [Amb] (m_0 r_1 : Value) (K : Value → WT) : s73 m_0 r_1 K = shal Tryz.prog Tryz.f73 .p a73 [m_0, r_1] K := by kernel_rfl
theorem c73 [Amb] {m_0 r_1 : Value} {K : Value → WT} {w : World} (h : s73 m_0 r_1 K w) : CF Tryz.prog 73 [m_0, r_1] K w := shal_sound Tryz.func73 (e73 m_0 r_1 K ▸ h)
def a74 : Ann := .seq (.z) (.seq (.z) (.z))
def s74 [Amb] (s_0 f_1 : Value) (K : Value → WT) : WT :=
 CF Tryz.prog 69 [s_0, f_1] fun v7 =>
 S.bin .geq v7 (I 0) fun v8 =>
 K v8
theorem e74 [Amb] (s_0 f_1 : Value) (K : Value → WT) : s74 s_0 f_1 K = shal Tryz.prog Tryz.f74 .p a74 [s_0, f_1] K := by kernel_rfl
theorem c74 [Amb] {s_0 f_1 : Value} {K : Value → WT} {w : World} (h : s74 s_0 f_1 K w) : CF Tryz.prog 74 [s_0, f_1] K w := shal_sound Tryz.func74 (e74 s_0 f_1 K ▸ h)
def a75 : Ann := .seq (.z) (.seq (.z) (.z))
def s75 [Amb] (x_0 v1 : Value) (K : Value → WT) : WT :=
 S.box 32 x_0 fun x_2 =>
 S.fad x_2 0 fun v4 =>
 S.ld v4 fun v5 =>
 S.fad v1 0 fun v6 =>
 S.ld v6 fun v7 =>
 S.fad v1 1 fun v8 =>
 S.ld v8 fun v9 =>
 S.bin .add v7 v9 fun v10 =>
 S.bin .lss v5 v10 fun v11 =>
 S.gd v11 true (S.fad v1 0) fun v13 =>
 S.gd v11 true (S.ld v13) fun v14 =>
 S.gd v11 true (S.fad x_2 0) fun v15 =>
 S.gd v11 true (S.ld v15) fun v16 =>
 S.gd v11 true (S.fad x_2 1) fun v17 =>
 S.gd v11 true (S.ld v17) fun v18 =>
 S.gd v11 true (S.bin .add v16 v18) fun v19 =>
 S.gd v11 true (S.bin .lss v14 v19) fun v20 =>
 S.pick v11 v20 (B false) fun v21 =>
 K v21
theorem e75 [Amb] (x_0 v1 : Value) (K : Value → WT) : s75 x_0 v1 K = shal Tryz.prog Tryz.f75 .p a75 [x_0, v1] K := by kernel_rfl
theorem c75 [Amb] {x_0 v1 : Value} {K : Value → WT} {w : World} (h : s75 x_0 v1 K w) : CF Tryz.prog 75 [x_0, v1] K w := shal_sound Tryz.func75 (e75 x_0 v1 K ▸ h)
def a76 : Ann := .seq (.z) (.seq (.z) (.seq (.z) (.seq (.seq (.z) (.cond (.seq (.z) (.z)) (.z))) (.seq (.z) (.seq (.seq (.z) (.cond (.seq (.z) (.z)) (.z))) (.seq (.seq (.z) (.cond (.seq (.z) (.seq (.z) (.seq (.draw [0, 1, 2, 3, 4, 5, 6, 7, 8]) (.seq (.z) (.z))))) (.z))) (.seq (.z) (.seq (.seq (.z) (.cond (.seq (.draw [0, 1, 2, 3, 4, 5, 6, 7, 8]) (.seq (.z) (.seq (.z) (.z)))) (.z))) (.seq (.z) (.seq (.z) (.seq (.z) (.z))))))))))))
def s76 [Amb] (v0 v1 v2 : Value) (K : Value → WT) : WT :=
 S.slc 2 v0 (some v1) none none fun v12 =>
 S.len v2 fun v14 =>
 S.bin .eql v14 (I 0) fun v16 =>
 S.cond v16 (
 K v0) (
 S.len v0 fun v19 =>
 S.bin .eql v1 v19 fun v22 =>
 S.cond v22 (
 V Tryz.prog (Builtin.append_ #[125, 125] 125 #[v0, v2]) fun v25 =>
 K v25) (
 S.bin .add v19 v14 fun v28 =>
 S.cap v0 fun v30 =>
 S.bin .gtr v28 v30 fun v31 =>
 S.cond v31 (
 S.slc 2 v0 none (some v1) none fun v34 =>
 S.bin .add v19 v14 fun v37 =>
 S.bin .sub v37 v1 fun v39 =>
 V Tryz.prog (Builtin.append_ #[125, 3] 125 #[v34, v39]) fun v40 =>
 S.slc 2 v40 (some v1) none none fun v43 =>
 V Tryz.prog (Builtin.copy_ #[125, 125] 3 #[v43, v2]) fun v45 =>
 S.dr <|
 S.bin .add v1 v14 fun v49 =>
 S.slc 2 v40 (some v49) none none fun v50 =>
 S.slc 2 v0 (some v1) none none fun v53 =>
 V Tryz.prog (Builtin.copy_ #[125, 125] 3 #[v50, v53]) fun v54 =>
 K v40) (
 S.bin .add v19 v14 fun v59 =>
 S.slc 2 v0 none (some v59) none fun v60 =>
 S.bin .add v1 v14 fun v65 =>
 S.slc 2 v60 (some v65) none none fun v66 =>
 Gives Tryz.prog (callFunc 111 #[v2, v66]) fun v67 =>
 S.not1 v67 fun v68 =>
 S.cond v68 (
 S.dr <|
 S.bin .add v1 v14 fun v72 =>
 S.slc 2 v60 (some v72) none none fun v73 =>
 S.slc 2 v60 (some v1) none none fun v76 =>
 V Tryz.prog (Builtin.copy_ #[125, 125] 3 #[v73, v76]) fun v77 =>
 S.slc 2 v60 (some v1) none none fun v80 =>
 V Tryz.prog (Builtin.copy_ #[125, 125] 3 #[v80, v2]) fun v82 =>
 K v60) (
 S.slc 2 v60 (some v19) none none fun v86 =>
 V Tryz.prog (Builtin.copy_ #[125, 125] 3 #[v86, v2]) fun v88 =>
 S.slc 2 v60 (some v1) none none fun v91 =>
 CF Tryz.prog 112 [v91, v14] fun v93 =>
 K v60))))
theorem e76 [Amb] (v0 v1 v2 : Value) (K : Value → WT) : s76 v0 v1 v2 K = shal Tryz.prog Tryz.f76 .p a76 [v0, v1, v2] K := by kernel_rfl
theorem c76 [Amb] {v0 v1 v2 : Value} {K : Value → WT} {w : World} (h : s76 v0 v1 v2 K w) : CF Tryz.prog 76 [v0, v1, v2] K w := shal_sound Tryz.func76 (e76 v0 v1 v2 K ▸ h)
def a77 : Ann := .seq (.z) (.seq (.seq (.z) (.cond (.seq (.z) (.z)) (.z))) (.seq (.z) (.z)))
def s77 [Amb] (s_0 : Value) (K : Value → WT) : WT :=
 S.eqv Tryz.prog .eql 125 true s_0 (.slice none 0 0) fun v4 =>
 S.cond v4 (
 K (.slice none 0 0)) (
 V Tryz.prog (Instr.buildSlice 125 0 #[]) fun v5 =>
 V Tryz.prog (Builtin.append_ #[125, 125] 125 #[v5, s_0]) fun v7 =>
 K v7)
theorem e77 [Amb] (s_0 : Value) (K : Value → WT) : s77 s_0 K = shal Tryz.prog Tryz.f77 .p a77 [s_0] K := by kernel_rfl
theorem c77 [Amb] {s_0 : Value} {K : Value → WT} {w : World} (h : s77 s_0 K w) : CF Tryz.prog 77 [s_0] K w := shal_sound Tryz.func77 (e77 s_0 K ▸ h)
def a78 : Ann := .seq (.join [0, 1, 44] (.draw [0, 1, 2, 3, 4, 5, 6, 7, 8, 9, 10, 11, 12, 13, 14, 15, 16, 17, 18, 19, 20, 21, 22, 23, 24, 25, 26, 27, 28, 29, 30, 31, 32, 33, 34, 35, 36, 37, 38, 39, 40]) (.cond (.z) (.z))) (.seq (.draw [0, 1, 2, 3, 4, 5, 6, 7, 8, 9, 10, 11, 12, 13, 14, 15, 16, 17, 18, 19, 20]) (.z))
def s78 [Amb] (v0 v1 : Value) (K : Value → WT) : WT :=
 S.join 3 (fun K0 =>
 S.dr <|
 S.bin .lss v1 (I 0) fun v5 =>
 S.gd v5 false (fun k => k v1) fun v7 =>
 S.gd v5 false (S.bin .add v7 (I 1)) fun v8 =>
 S.gd v5 false (fun k => k v0) fun v9 =>
 S.gd v5 false (S.nc v9) fun v10 =>
 S.gd v5 false (S.fad v10 2) fun v11 =>
 S.gd v5 false (S.ld v11) fun v12 =>
 S.gd v5 false (S.len v12) fun v13 =>
 S.gd v5 false (S.bin .geq v8 v13) fun v14 =>
 S.pick v5 (B true) v14 fun v15 =>
 S.gd v15 false (fun k => k v0) fun v17 =>
 S.gd v15 false (S.nc v17) fun v18 =>
 S.gd v15 false (S.fad v18 2) fun v19 =>
 S.gd v15 false (S.ld v19) fun v20 =>
 S.gd v15 false (fun k => k v1) fun v21 =>
 S.gd v15 false (S.ixS 2 v20 v21) fun v22 =>
 S.gd v15 false (S.fad v22 0) fun v23 =>
 S.gd v15 false (S.ld v23) fun v24 =>
 S.gd v15 false (fun k => k v0) fun v25 =>
 S.gd v15 false (S.nc v25) fun v26 =>
 S.gd v15 false (S.fad v26 2) fun v27 =>
 S.gd v15 false (S.ld v27) fun v28 =>
 S.gd v15 false (fun k => k v1) fun v29 =>
 S.gd v15 false (S.ixS 2 v28 v29) fun v30 =>
 S.gd v15 false (S.fad v30 1) fun v31 =>
 S.gd v15 false (S.ld v31) fun v32 =>
 S.gd v15 false (S.bin .add v24 v32) fun v33 =>
 S.gd v15 false (fun k => k v0) fun v34 =>
 S.gd v15 false (S.nc v34) fun v35 =>
 S.gd v15 false (S.fad v35 2) fun v36 =>
 S.gd v15 false (S.ld v36) fun v37 =>
 S.gd v15 false (fun k => k v1) fun v38 =>
 S.gd v15 false (S.bin .add v38 (I 1)) fun v39 =>
 S.gd v15 false (S.ixS 2 v37 v39) fun v40 =>
 S.gd v15 false (S.fad v40 0) fun v41 =>
 S.gd v15 false (S.ld v41) fun v42 =>
 S.gd v15 false (S.bin .neq v33 v42) fun v43 =>
 S.pick v15 (B true) v43 fun v44 =>
 K0 v0 v1 v44)
 <| fun v0' v1' v44' => S.fa fun _ =>
 S.cond v44' (
 K (.tuple #[])) (
 S.dr <|
 S.nc v0' fun v46 =>
 S.fad v46 2 fun v47 =>
 S.ld v47 fun v48 =>
 S.ixS 2 v48 v1' fun v50 =>
 S.fad v50 1 fun v51 =>
 S.ld v51 fun v52 =>
 S.nc v0' fun v54 =>
 S.fad v54 2 fun v55 =>
 S.ld v55 fun v56 =>
 S.bin .add v1' (I 1) fun v58 =>
 S.ixS 2 v56 v58 fun v59 =>
 S.fad v59 1 fun v60 =>
 S.ld v60 fun v61 =>
 S.bin .add v52 v61 fun v62 =>
 S.ixS 2 v48 v1' fun v63 =>
 S.fad v63 1 fun v64 =>
 S.st 1 v64 v62 fun _ =>
 S.nc v0' fun v67 =>
 S.fad v67 2 fun v68 =>
 S.ld v68 fun v69 =>
 S.bin .add v1' (I 1) fun v71 =>
 S.bin .add v1' (I 2) fun v73 =>
 CF Tryz.prog 113 [v69, v71, v73] fun v74 =>
 S.nc v0' fun v75 =>
 S.fad v75 2 fun v76 =>
 S.st 1 v76 v74 fun _ =>
 K (.tuple #[]))
theorem e78 [Amb] (v0 v1 : Value) (K : Value → WT) : s78 v0 v1 K = shal Tryz.prog Tryz.f78 .p a78 [v0, v1] K := by kernel_rfl
theorem c78 [Amb] {v0 v1 : Value} {K : Value → WT} {w : World} (h : s78 v0 v1 K w) : CF Tryz.prog 78 [v0, v1] K w := shal_sound Tryz.func78 (e78 v0 v1 K ▸ h)
def a80 : Ann := .seq (.z) (.seq (.z) (.seq (.seq (.z) (.blk (.loop [0, 3, 6, 11, 12] (.seq (.z) (.seq (.cond (.z) (.z)) (.seq (.blk (.seq (.z) (.seq (.draw [0, 1, 2, 3, 4, 5, 6, 7, 8, 9, 10, 11, 12, 13]) (.seq (.seq (.z) (.cond (.seq (.z) (.z)) (.z))) (.z))))) (.z))))))) (.seq (.z) (.z))))
def s80 [Amb] (g_0 r_1 : Value) (K : Value → WT) : WT :=
 S.box 32 r_1 fun r_3 =>
 S.fad r_3 1 fun v10 =>
 S.ld v10 fun v11 =>
 S.loop 5 (fun K0 => fun g_0' r_3' out_6 v11' v12 => S.fa fun _ =>
 S.bin .lss v12 v11' fun v13 =>
 S.cond v13 (
 S.dr <|
 S.nc g_0' fun v17 =>
 S.fad v17 0 fun v18 =>
 S.ld v18 fun v19 =>
 S.fad r_3' 0 fun v20 =>
 S.ld v20 fun v21 =>
 S.bin .add v21 v12 fun v23 =>
 CF Tryz.prog 114 [v19, v23] fun v24 =>
 S.ext v24 0 fun v25 =>
 S.ext v24 1 fun v26 =>
 S.bin .neq v26 (I 0) fun v28 =>
 S.cond v28 (
 K (.tuple #[(.slice none 0 0), v26])) (
 V Tryz.prog (Builtin.append_ #[48, 48] 48 #[out_6, v25]) fun v32 =>
 S.bin .add v12 (I 1) fun v33 =>
 K0 g_0' r_3' v32 v11' v33)) (
 K (.tuple #[out_6, (I 0)])))
 [g_0, r_3, (.slice none 0 0), v11, (I 0)]
theorem e80 [Amb] (g_0 r_1 : Value) (K : Value → WT) : s80 g_0 r_1 K = shal Tryz.prog Tryz.f80 .p a80 [g_0, r_1] K := by kernel_rfl
theorem c80 [Amb] {g_0 r_1 : Value} {K : Value → WT} {w : World} (h : s80 g_0 r_1 K w) : CF Tryz.prog 80 [g_0, r_1] K w := shal_sound Tryz.func80 (e80 g_0 r_1 K ▸ h)
def a81 : Ann := .seq (.z) (.seq (.z) (.z))
def s81 [Amb] (seq_0 : Value) (K : Value → WT) : WT :=
 CF Tryz.prog 115 [(.slice none 0 0), seq_0] fun v4 =>
 K v4
theorem e81 [Amb] (seq_0 : Value) (K : Value → WT) : s81 seq_0 K = shal Tryz.prog Tryz.f81 .p a81 [seq_0] K := by kernel_rfl
theorem c81 [Amb] {seq_0 : Value} {K : Value → WT} {w : World} (h : s81 seq_0 K w) : CF Tryz.prog 81 [seq_0] K w := shal_sound Tryz.func81 (e81 seq_0 K ▸ h)
def a83 : Ann := .seq (.z) (.blk (.loop [0, 5] (.seq (.z) (.seq (.cond (.z) (.z)) (.blk (.seq (.z) (.seq (.z) (.cond (.z) (.z)))))))))
def s83 [Amb] (yield_0 v1 : Value) (K : Value → WT) : WT :=
 S.ld v1 fun v4 =>
 V Tryz.prog (Instr.range 95 v4) fun v5 =>
 S.loop 2 (fun K0 => fun yield_0' v5' => S.fa fun _ =>
 V Tryz.prog (Instr.next v5' false 0) fun v6 =>
 S.ext v6 0 fun v7 =>
 S.cond v7 (
 V Tryz.prog (Instr.entry v5') fun v8 =>
 S.ext v8 0 fun v9 =>
 S.cvv Tryz.prog yield_0' [v9] fun v12 =>
 S.not1 v12 fun v13 =>
 S.cond v13 (
 K (.tuple #[])) (
 K0 yield_0' v5')) (
 K (.tuple #[])))
 [yield_0, v5]
theorem e83 [Amb] (yield_0 v1 : Value) (K : Value → WT) : s83 yield_0 v1 K = shal Tryz.prog Tryz.f83 .p a83 [yield_0, v1] K := by kernel_rfl
theorem c83 [Amb] {yield_0 v1 : Value} {K : Value → WT} {w : World} (h : s83 yield_0 v1 K w) : CF Tryz.prog 83 [yield_0, v1] K w := shal_sound Tryz.func83 (e83 yield_0 v1 K ▸ h)
def a98 : Ann := .seq (.z) (.seq (.z) (.z))
def s98 [Amb] (x_0 n_1 : Value) (K : Value → WT) : WT :=
 S.sh .shr x_0 n_1 fun v7 =>
 S.bin .sub (.int .u32 32) n_1 fun v10 =>
 S.sh .shl x_0 v10 fun v11 =>
 S.bin .or v7 v11 fun v12 =>
 K v12
theorem e98 [Amb] (x_0 n_1 : Value) (K : Value → WT) : s98 x_0 n_1 K = shal Tryz.prog Tryz.f98 .p a98 [x_0, n_1] K := by kernel_rfl
theorem c98 [Amb] {x_0 n_1 : Value} {K : Value → WT} {w : World} (h : s98 x_0 n_1 K w) : CF Tryz.prog 98 [x_0, n_1] K w := shal_sound Tryz.func98 (e98 x_0 n_1 K ▸ h)
def a99 : Ann := .seq (.z) (.seq (.z) (.z))
def s99 [Amb] (m_0 : Value) (K : Value → WT) : WT :=
 S.box 119 m_0 fun m_1 =>
 K (.func (Go.Fn.func 127) #[] #[m_1])
theorem e99 [Amb] (m_0 : Value) (K : Value → WT) : s99 m_0 K = shal Tryz.prog Tryz.f99 .p a99 [m_0] K := by kernel_rfl
theorem c99 [Amb] {m_0 : Value} {K : Value → WT} {w : World} (h : s99 m_0 K w) : CF Tryz.prog 99 [m_0] K w := shal_sound Tryz.func99 (e99 m_0 K ▸ h)
def a100 : Ann := .seq (.z) (.seq (.z) (.z))
def s100 [Amb] (K : Value → WT) : WT :=
 CF Tryz.prog 128 [] fun v1 =>
 V Tryz.prog (Instr.build 192 #[(0, v1)]) fun v2 =>
 S.box 192 v2 fun v3 =>
 K v3
theorem e100 [Amb] (K : Value → WT) : s100  K = shal Tryz.prog Tryz.f100 .p a100 [] K := by kernel_rfl
theorem c100 [Amb] {K : Value → WT} {w : World} (h : s100  K w) : CF Tryz.prog 100 [] K w := shal_sound Tryz.func100 (e100  K ▸ h)
def a101 : Ann := .seq (.z) (.seq (.seq (.z) (.cond (.seq (.z) (.z)) (.z))) (.seq (.z) (.seq (.z) (.seq (.blk (.loop [0, 5] (.seq (.seq (.z) (.cond (.z) (.z))) (.blk (.seq (.draw [0, 1, 2, 3, 4, 5, 6, 7, 8, 9, 10]) (.z)))))) (.seq (.z) (.seq (.z) (.z)))))))
def s101 [Amb] (h_0 p_1 : Value) (K : Value → WT) : WT :=
 S.eqv Tryz.prog .eql 170 true h_0 (.pointer none) fun v7 =>
 S.cond v7 (
 K (I 1)) (
 S.nc h_0 fun v9 =>
 S.fad v9 9 fun v10 =>
 S.ld v10 fun v11 =>
 S.len p_1 fun v13 =>
 S.bin .add v11 v13 fun v14 =>
 S.nc h_0 fun v15 =>
 S.fad v15 9 fun v16 =>
 S.st 1 v16 v14 fun _ =>
 S.nc h_0 fun v18 =>
 S.fad v18 8 fun v19 =>
 S.ld v19 fun v20 =>
 CF Tryz.prog 54 [v20] fun v21 =>
 V Tryz.prog (Builtin.append_ #[48, 48] 48 #[v21, p_1]) fun v23 =>
 S.loop 2 (fun K0 => fun h_0' b_5 => S.fa fun _ =>
 S.len b_5 fun v25 =>
 S.bin .geq v25 (I 64) fun v26 =>
 S.cond v26 (
 S.dr <|
 S.nc h_0' fun v29 =>
 S.fad v29 0 fun v30 =>
 S.ldN 8 v30 fun v31 =>
 S.slc 1 b_5 none (some (I 64)) none fun v33 =>
 CF Tryz.prog 129 [v31, v33] fun v34 =>
 S.nc h_0' fun v35 =>
 S.fad v35 0 fun v36 =>
 S.st 8 v36 v34 fun _ =>
 S.slc 1 b_5 (some (I 64)) none none fun v38 =>
 K0 h_0' v38) (
 S.nc h_0' fun v41 =>
 S.fad v41 8 fun v42 =>
 S.st 1 v42 b_5 fun _ =>
 K (I 0)))
 [h_0, v23])
theorem e101 [Amb] (h_0 p_1 : Value) (K : Value → WT) : s101 h_0 p_1 K = shal Tryz.prog Tryz.f101 .p a101 [h_0, p_1] K := by kernel_rfl
theorem c101 [Amb] {h_0 p_1 : Value} {K : Value → WT} {w : World} (h : s101 h_0 p_1 K w) : CF Tryz.prog 101 [h_0, p_1] K w := shal_sound Tryz.func101 (e101 h_0 p_1 K ▸ h)
def a102 : Ann := .seq (.z) (.seq (.z) (.seq (.seq (.z) (.cond (.seq (.z) (.z)) (.z))) (.seq (.z) (.seq (.blk (.loop [0, 2, 3, 4] (.seq (.seq (.z) (.cond (.z) (.z))) (.blk (.z))))) (.seq (.z) (.seq (.z) (.seq (.seq (.z) (.blk (.loop [2, 3, 7, 8] (.seq (.seq (.z) (.cond (.z) (.z))) (.seq (.blk (.draw [0, 1, 2, 3, 4])) (.z)))))) (.seq (.seq (.z) (.blk (.loop [2, 3, 7, 52] (.seq (.z) (.seq (.cond (.z) (.z)) (.seq (.blk (.seq (.z) (.z))) (.z))))))) (.seq (.z) (.z))))))))))
def s102 [Amb] (v0 : Value) (K : Value → WT) : WT :=
 S.box 107 (.agg #[(.int .u8 0), (.int .u8 0), (.int .u8 0), (.int .u8 0), (.int .u8 0), (.int .u8 0), (.int .u8 0), (.int .u8 0), (.int .u8 0), (.int .u8 0), (.int .u8 0), (.int .u8 0), (.int .u8 0), (.int .u8 0), (.int .u8 0), (.int .u8 0), (.int .u8 0), (.int .u8 0), (.int .u8 0), (.int .u8 0), (.int .u8 0), (.int .u8 0), (.int .u8 0), (.int .u8 0), (.int .u8 0), (.int .u8 0), (.int .u8 0), (.int .u8 0), (.int .u8 0), (.int .u8 0), (.int .u8 0), (.int .u8 0)]) fun v2 =>
 S.box 107 (.agg #[(.int .u8 0), (.int .u8 0), (.int .u8 0), (.int .u8 0), (.int .u8 0), (.int .u8 0), (.int .u8 0), (.int .u8 0), (.int .u8 0), (.int .u8 0), (.int .u8 0), (.int .u8 0), (.int .u8 0), (.int .u8 0), (.int .u8 0), (.int .u8 0), (.int .u8 0), (.int .u8 0), (.int .u8 0), (.int .u8 0), (.int .u8 0), (.int .u8 0), (.int .u8 0), (.int .u8 0), (.int .u8 0), (.int .u8 0), (.int .u8 0), (.int .u8 0), (.int .u8 0), (.int .u8 0), (.int .u8 0), (.int .u8 0)]) fun v3 =>
 S.eqv Tryz.prog .eql 170 true v0 (.pointer none) fun v11 =>
 S.cond v11 (
 S.ldN 32 v3 fun v12 =>
 S.st 32 v2 v12 fun _ =>
 S.ldN 32 v2 fun v2' =>
 K v2') (
 S.nc v0 fun v14 =>
 S.fad v14 8 fun v15 =>
 S.ld v15 fun v16 =>
 CF Tryz.prog 54 [v16] fun v17 =>
 V Tryz.prog (Instr.buildSlice 48 1 #[(0, (.int .u8 128))]) fun v18 =>
 V Tryz.prog (Builtin.append_ #[48, 48] 48 #[v17, v18]) fun v19 =>
 S.loop 4 (fun K0 => fun v0' v2'2 v3' v4 => S.fa fun _ =>
 S.len v4 fun v21 =>
 S.bin .rem v21 (I 64) fun v22 =>
 S.bin .neq v22 (I 56) fun v23 =>
 S.cond v23 (
 V Tryz.prog (Instr.buildSlice 48 1 #[(0, (.int .u8 0))]) fun v25 =>
 V Tryz.prog (Builtin.append_ #[48, 48] 48 #[v4, v25]) fun v26 =>
 K0 v0' v2'2 v3' v26) (
 S.nc v0' fun v29 =>
 S.fad v29 9 fun v30 =>
 S.ld v30 fun v31 =>
 S.bin .mul (I 8) v31 fun v32 =>
 CF Tryz.prog 104 [v32, (I 8)] fun v33 =>
 S.ext v33 0 fun v34 =>
 S.ext v33 1 fun v35 =>
 S.nc v0' fun v37 =>
 S.fad v37 0 fun v38 =>
 S.ldN 8 v38 fun v39 =>
 S.box 189 (.agg #[(.int .u32 0), (.int .u32 0), (.int .u32 0), (.int .u32 0), (.int .u32 0), (.int .u32 0), (.int .u32 0), (.int .u32 0)]) fun v7 =>
 S.st 8 v7 v39 fun _ =>
 V Tryz.prog (Builtin.append_ #[48, 48] 48 #[v4, v34]) fun v42 =>
 S.loop 4 (fun K1 => fun v2'3 v3'2 v7' v8 => S.fa fun _ =>
 S.len v8 fun v44 =>
 S.bin .gtr v44 (I 0) fun v45 =>
 S.cond v45 (
 S.dr <|
 S.ldN 8 v7' fun v48 =>
 S.slc 1 v8 none (some (I 64)) none fun v50 =>
 CF Tryz.prog 129 [v48, v50] fun v51 =>
 S.st 8 v7' v51 fun _ =>
 S.slc 1 v8 (some (I 64)) none none fun v47 =>
 K1 v2'3 v3'2 v7' v47) (
 S.loop 4 (fun K2 => fun v2'4 v3'3 v7'2 v52 => S.fa fun _ =>
 S.bin .lss v52 (I 32) fun v53 =>
 S.cond v53 (
 S.bin .quo v52 (I 4) fun v57 =>
 S.ixA 8 1 v7'2 v57 fun v58 =>
 S.ld v58 fun v59 =>
 S.bin .rem v52 (I 4) fun v61 =>
 S.bin .mul (I 8) v61 fun v62 =>
 S.bin .sub (I 24) v62 fun v63 =>
 S.sh .shr v59 v63 fun v64 =>
 S.cvt .u8 v64 fun v65 =>
 S.ixA 32 1 v3'3 v52 fun v66 =>
 S.st 1 v66 v65 fun _ =>
 S.bin .add v52 (I 1) fun v67 =>
 K2 v2'4 v3'3 v7'2 v67) (
 S.ldN 32 v3'3 fun v68 =>
 S.st 32 v2'4 v68 fun _ =>
 S.ldN 32 v2'4 fun v2'5 =>
 K v2'5))
 [v2'3, v3'2, v7', (I 0)]))
 [v2'2, v3', v7, v42]))
 [v0, v2, v3, v19])
theorem e102 [Amb] (v0 : Value) (K : Value → WT) : s102 v0 K = shal Tryz.prog Tryz.f102 .p a102 [v0] K := by kernel_rfl
theorem c102 [Amb] {v0 : Value} {K : Value → WT} {w : World} (h : s102 v0 K w) : CF Tryz.prog 102 [v0] K w := shal_sound Tryz.func102 (e102 v0 K ▸ h)
def a103 : Ann := .seq (.z) (.join [0, 1] (.seq (.z) (.cond (.z) (.z))) (.join [0] (.seq (.z) (.seq (.z) (.cond (.z) (.z)))) (.seq (.z) (.z))))
def s103 [Amb] (s_0 n_1 : Value) (K : Value → WT) : WT :=
 S.join 2 (fun K0 =>
 S.bin .lss n_1 (I 0) fun v6 =>
 S.cond v6 (
 S.pan (.iface 9 (.string ⟨#[99, 97, 110, 110, 111, 116, 32, 98, 101, 32, 110, 101, 103, 97, 116, 105, 118, 101]⟩))) (
 K0 s_0 n_1))
 <| fun s_0' n_1' => S.fa fun _ =>
 S.join 1 (fun K1 =>
 S.cap s_0' fun v10 =>
 S.len s_0' fun v12 =>
 S.bin .sub v10 v12 fun v13 =>
 S.bin .sub n_1' v13 fun v14 =>
 S.bin .gtr v14 (I 0) fun v16 =>
 S.cond v16 (
 S.cap s_0' fun v19 =>
 S.slc 1 s_0' none (some v19) none fun v20 =>
 V Tryz.prog (Builtin.append_ #[48, 3] 48 #[v20, v14]) fun v22 =>
 S.len s_0' fun v24 =>
 S.slc 1 v22 none (some v24) none fun v25 =>
 K1 v25) (
 K1 s_0'))
 <| fun s_0'2 => S.fa fun _ =>
 K s_0'2
theorem e103 [Amb] (s_0 n_1 : Value) (K : Value → WT) : s103 s_0 n_1 K = shal Tryz.prog Tryz.f103 .p a103 [s_0, n_1] K := by kernel_rfl
theorem c103 [Amb] {s_0 n_1 : Value} {K : Value → WT} {w : World} (h : s103 s_0 n_1 K w) : CF Tryz.prog 103 [s_0, n_1] K w := shal_sound Tryz.func103 (e103 s_0 n_1 K ▸ h)
def a104 : Ann := .seq (.z) (.seq (.blk (.join [0, 1, 8] (.z) (.cond (.seq (.z) (.z)) (.join [0, 1, 15] (.z) (.cond (.seq (.z) (.z)) (.z)))))) (.seq (.z) (.seq (.seq (.z) (.blk (.loop [0, 6, 7] (.seq (.seq (.z) (.cond (.z) (.z))) (.seq (.blk (.seq (.z) (.z))) (.z)))))) (.seq (.z) (.z)))))
def s104 [Amb] (n_0 width_1 : Value) (K : Value → WT) : WT :=
 S.join 3 (fun K0 =>
 S.bin .lss width_1 (I 1) fun v10 =>
 S.gd v10 false (fun k => k width_1) fun v12 =>
 S.gd v10 false (S.bin .gtr v12 (I 8)) fun v13 =>
 S.pick v10 (B true) v13 fun v14 =>
 K0 n_0 width_1 v14)
 <| fun n_0' width_1' v8 => S.fa fun _ =>
 S.cond v8 (
 K (.tuple #[(.slice none 0 0), (I 2)])) (
 S.join 3 (fun K1 =>
 CF Tryz.prog 130 [n_0'] fun v17 =>
 S.not1 v17 fun v18 =>
 S.gd v18 false (fun k => k width_1') fun v20 =>
 S.gd v18 false (S.bin .lss v20 (I 7)) fun v21 =>
 S.gd v18 false (fun k => k v21) fun v22 =>
 S.gd v22 true (fun k => k n_0') fun v23 =>
 S.gd v22 true (fun k => k width_1') fun v24 =>
 S.gd v22 true (S.bin .mul (I 8) v24) fun v25 =>
 S.gd v22 true (S.sh .shr v23 v25) fun v26 =>
 S.gd v22 true (S.bin .gtr v26 (I 0)) fun v27 =>
 S.gd v18 false (S.pick v22 v27 (B false)) fun v28 =>
 S.pick v18 (B true) v28 fun v29 =>
 K1 n_0' width_1' v29)
 <| fun n_0'2 width_1'2 v15 => S.fa fun _ =>
 S.cond v15 (
 K (.tuple #[(.slice none 0 0), (I 6)])) (
 V Tryz.prog (Instr.makeSlice 48 width_1'2 width_1'2) fun v31 =>
 S.bin .sub width_1'2 (I 1) fun v33 =>
 S.loop 3 (fun K2 => fun n_0'3 out_6 i_7 => S.fa fun _ =>
 S.bin .geq i_7 (I 0) fun v35 =>
 S.cond v35 (
 S.cvt .u8 n_0'3 fun v41 =>
 S.ixS 1 out_6 i_7 fun v42 =>
 S.st 1 v42 v41 fun _ =>
 S.sh .shr n_0'3 (.int .u64 8) fun v44 =>
 S.bin .sub i_7 (I 1) fun v37 =>
 K2 v44 out_6 v37) (
 K (.tuple #[out_6, (I 0)])))
 [n_0'2, v31, v33]))
theorem e104 [Amb] (n_0 width_1 : Value) (K : Value → WT) : s104 n_0 width_1 K = shal Tryz.prog Tryz.f104 .p a104 [n_0, width_1] K := by kernel_rfl
theorem c104 [Amb] {n_0 width_1 : Value} {K : Value → WT} {w : World} (h : s104 n_0 width_1 K w) : CF Tryz.prog 104 [n_0, width_1] K w := shal_sound Tryz.func104 (e104 n_0 width_1 K ▸ h)
def a105 : Ann := .seq (.z) (.seq (.z) (.seq (.seq (.z) (.blk (.loop [5, 11, 12, 13] (.seq (.z) (.seq (.cond (.z) (.z)) (.seq (.blk (.seq (.z) (.seq (.z) (.seq (.z) (.blk (.loop [5, 11, 12, 13, 21] (.seq (.z) (.seq (.cond (.z) (.z)) (.seq (.blk (.seq (.z) (.seq (.z) (.z)))) (.z)))))))))) (.z))))))) (.seq (.z) (.z))))
def s105 [Amb] (sum_0 p_1 : Value) (K : Value → WT) : WT :=
 S.com1 sum_0 fun v10 =>
 S.len p_1 fun v12 =>
 S.loop 4 (fun K0 => fun r_5 v11 v12' v13 => S.fa fun _ =>
 S.bin .lss v13 v12' fun v14 =>
 S.cond v14 (
 S.ixS 1 v11 v13 fun v15 =>
 S.ld v15 fun v16 =>
 S.cvt .u32 v16 fun v19 =>
 S.bin .xor r_5 v19 fun v20 =>
 S.loop 5 (fun K1 => fun r_5' v11' v12'2 v13' v21 => S.fa fun _ =>
 S.bin .lss v21 (I 8) fun v22 =>
 S.cond v22 (
 S.bin .and r_5' (.int .u32 1) fun v24 =>
 S.sh .shr r_5' (.int .u64 1) fun v26 =>
 S.neg1 v24 fun v29 =>
 S.bin .and (.int .u32 2197175160) v29 fun v30 =>
 S.bin .xor v26 v30 fun v31 =>
 S.bin .add v21 (I 1) fun v32 =>
 K1 v31 v11' v12'2 v13' v32) (
 S.bin .add v13' (I 1) fun v33 =>
 K0 r_5' v11' v12'2 v33))
 [v20, v11, v12', v13, (I 0)]) (
 S.com1 r_5 fun v35 =>
 K v35))
 [v10, p_1, v12, (I 0)]
theorem e105 [Amb] (sum_0 p_1 : Value) (K : Value → WT) : s105 sum_0 p_1 K = shal Tryz.prog Tryz.f105 .p a105 [sum_0, p_1] K := by kernel_rfl
theorem c105 [Amb] {sum_0 p_1 : Value} {K : Value → WT} {w : World} (h : s105 sum_0 p_1 K w) : CF Tryz.prog 105 [sum_0, p_1] K w := shal_sound Tryz.func105 (e105 sum_0 p_1 K ▸ h)
def a106 : Ann := .seq (.z) (.seq (.z) (.z))
def s106 [Amb] (s_0 f_1 : Value) (K : Value → WT) : WT :=
 CF Tryz.prog 131 [s_0, f_1] fun v7 =>
 S.bin .geq v7 (I 0) fun v8 =>
 K v8
theorem e106 [Amb] (s_0 f_1 : Value) (K : Value → WT) : s106 s_0 f_1 K = shal Tryz.prog Tryz.f106 .p a106 [s_0, f_1] K := by kernel_rfl
theorem c106 [Amb] {s_0 f_1 : Value} {K : Value → WT} {w : World} (h : s106 s_0 f_1 K w) : CF Tryz.prog 106 [s_0, f_1] K w := shal_sound Tryz.func106 (e106 s_0 f_1 K ▸ h)
def a107 : Ann := .seq (.z) (.seq (.z) (.z))
def s107 [Amb] (c_0 : Value) (K : Value → WT) : WT :=
 S.bin .neq c_0 (.int .u8 0) fun v4 =>
 K v4
theorem e107 [Amb] (c_0 : Value) (K : Value → WT) : s107 c_0 K = shal Tryz.prog Tryz.f107 .p a107 [c_0] K := by kernel_rfl
theorem c107 [Amb] {c_0 : Value} {K : Value → WT} {w : World} (h : s107 c_0 K w) : CF Tryz.prog 107 [c_0] K w := shal_sound Tryz.func107 (e107 c_0 K ▸ h)
def a108 : Ann := .seq (.z) (.seq (.z) (.seq (.seq (.z) (.blk (.loop [0, 3, 9, 10, 11] (.seq (.z) (.seq (.cond (.z) (.z)) (.join [0, 3, 9, 10, 11] (.blk (.seq (.z) (.seq (.z) (.seq (.z) (.cond (.z) (.z)))))) (.z))))))) (.seq (.z) (.seq (.seq (.z) (.blk (.loop [6, 25, 26, 27] (.seq (.z) (.seq (.cond (.z) (.z)) (.seq (.blk (.seq (.z) (.z))) (.z))))))) (.seq (.z) (.z))))))
def s108 [Amb] (slices_0 : Value) (K : Value → WT) : WT :=
 S.len slices_0 fun v10 =>
 S.loop 5 (fun K0 => fun slices_0' size_3 v9 v10' v11 => S.fa fun _ =>
 S.bin .lss v11 v10' fun v12 =>
 S.cond v12 (
 S.join 5 (fun K1 =>
 S.ixS 1 v9 v11 fun v13 =>
 S.ld v13 fun v14 =>
 S.len v14 fun v17 =>
 S.bin .add size_3 v17 fun v18 =>
 S.bin .lss v18 (I 0) fun v20 =>
 S.cond v20 (
 S.pan (.iface 9 (.string ⟨#[108, 101, 110, 32, 111, 117, 116, 32, 111, 102, 32, 114, 97, 110, 103, 101]⟩))) (
 K1 slices_0' v18 v9 v10' v11))
 <| fun slices_0'2 size_3' v9' v10'2 v11' => S.fa fun _ =>
 S.bin .add v11' (I 1) fun v22 =>
 K0 slices_0'2 size_3' v9' v10'2 v22) (
 CF Tryz.prog 132 [(.slice none 0 0), size_3] fun v24 =>
 S.len slices_0' fun v26 =>
 S.loop 4 (fun K2 => fun newslice_6 v25 v26' v27 => S.fa fun _ =>
 S.bin .lss v27 v26' fun v28 =>
 S.cond v28 (
 S.ixS 1 v25 v27 fun v29 =>
 S.ld v29 fun v30 =>
 V Tryz.prog (Builtin.append_ #[125, 125] 125 #[newslice_6, v30]) fun v33 =>
 S.bin .add v27 (I 1) fun v34 =>
 K2 v33 v25 v26' v34) (
 K newslice_6))
 [v24, slices_0', v26, (I 0)]))
 [slices_0, (I 0), slices_0, v10, (I 0)]
theorem e108 [Amb] (slices_0 : Value) (K : Value → WT) : s108 slices_0 K = shal Tryz.prog Tryz.f108 .p a108 [slices_0] K := by kernel_rfl
theorem c108 [Amb] {slices_0 : Value} {K : Value → WT} {w : World} (h : s108 slices_0 K w) : CF Tryz.prog 108 [slices_0] K w := shal_sound Tryz.func108 (e108 slices_0 K ▸ h)
def a109 : Ann := .seq (.z) (.seq (.z) (.z))
def s109 [Amb] (b_0 : Value) (K : Value → WT) : WT :=
 CF Tryz.prog 54 [b_0] fun v4 =>
 S.len b_0 fun v6 =>
 S.bin .sub (I 128) v6 fun v7 =>
 V Tryz.prog (Builtin.append_ #[48, 3] 48 #[v4, v7]) fun v8 =>
 K v8
theorem e109 [Amb] (b_0 : Value) (K : Value → WT) : s109 b_0 K = shal Tryz.prog Tryz.f109 .p a109 [b_0] K := by kernel_rfl
theorem c109 [Amb] {b_0 : Value} {K : Value → WT} {w : World} (h : s109 b_0 K w) : CF Tryz.prog 109 [b_0] K w := shal_sound Tryz.func109 (e109 b_0 K ▸ h)
def a110 : Ann := .draw [0, 1, 2, 3, 4, 5, 6]
def s110 [Amb] (v0 v1 v2 : Value) (K : Value → WT) : WT :=
 S.dr <|
 S.ld v1 fun v3 =>
 S.nc v3 fun v4 =>
 S.fad v4 1 fun v5 =>
 S.ld v5 fun v6 =>
 S.ld v2 fun v7 =>
 S.ld v0 fun v8 =>
 U Tryz.prog (Instr.mapUpdate 119 v6 v7 v8) fun _ =>
 K (.tuple #[])
theorem e110 [Amb] (v0 v1 v2 : Value) (K : Value → WT) : s110 v0 v1 v2 K = shal Tryz.prog Tryz.f110 .p a110 [v0, v1, v2] K := by kernel_rfl
theorem c110 [Amb] {v0 v1 v2 : Value} {K : Value → WT} {w : World} (h : s110 v0 v1 v2 K w) : CF Tryz.prog 110 [v0, v1, v2] K w := shal_sound Tryz.func110 (e110 v0 v1 v2 K ▸ h)
def a113 : Ann := .seq (.z) (.seq (.z) (.seq (.seq (.z) (.cond (.seq (.z) (.z)) (.z))) (.seq (.z) (.seq (.draw [0, 1, 2, 3, 4, 5, 6, 7]) (.seq (.z) (.seq (.z) (.z)))))))
def s113 [Amb] (s_0 i_1 j_2 : Value) (K : Value → WT) : WT :=
 S.len s_0 fun v12 =>
 S.slc 2 s_0 (some i_1) (some j_2) (some v12) fun v13 =>
 S.bin .eql i_1 j_2 fun v16 =>
 S.cond v16 (
 K s_0) (
 S.len s_0 fun v19 =>
 S.dr <|
 S.slc 2 s_0 none (some i_1) none fun v22 =>
 S.slc 2 s_0 (some j_2) none none fun v25 =>
 V Tryz.prog (Builtin.append_ #[125, 125] 125 #[v22, v25]) fun v26 =>
 S.len v26 fun v29 =>
 S.slc 2 v26 (some v29) (some v19) none fun v31 =>
 V Tryz.prog (Builtin.clear_ #[125] 0 #[v31]) fun _ =>
 K v26)
theorem e113 [Amb] (s_0 i_1 j_2 : Value) (K : Value → WT) : s113 s_0 i_1 j_2 K = shal Tryz.prog Tryz.f113 .p a113 [s_0, i_1, j_2] K := by kernel_rfl
theorem c113 [Amb] {s_0 i_1 j_2 : Value} {K : Value → WT} {w : World} (h : s113 s_0 i_1 j_2 K w) : CF Tryz.prog 113 [s_0, i_1, j_2] K w := shal_sound Tryz.func113 (e113 s_0 i_1 j_2 K ▸ h)
def a114 : Ann := .seq (.z) (.seq (.seq (.z) (.seq (.z) (.cond (.seq (.z) (.z)) (.z)))) (.seq (.seq (.z) (.seq (.z) (.cond (.seq (.z) (.z)) (.z)))) (.seq (.z) (.z))))
def s114 [Amb] (d_0 i_1 : Value) (K : Value → WT) : WT :=
 CF Tryz.prog 55 [d_0, i_1] fun v11 =>
 S.bin .neq v11 (I 0) fun v13 =>
 S.cond v13 (
 K (.tuple #[(.slice none 0 0), v11])) (
 S.nc d_0 fun v17 =>
 S.fad v17 1 fun v18 =>
 S.ld v18 fun v19 =>
 S.lk (.int .i64) (.slice none 0 0) true v19 i_1 fun v21 =>
 S.ext v21 0 fun v22 =>
 S.ext v21 1 fun v23 =>
 S.cond v23 (
 CF Tryz.prog 54 [v22] fun v26 =>
 K (.tuple #[v26, (I 0)])) (
 S.nc d_0 fun v28 =>
 S.fad v28 0 fun v29 =>
 S.ld v29 fun v30 =>
 S.ixS 1 v30 i_1 fun v32 =>
 S.ld v32 fun v33 =>
 CF Tryz.prog 54 [v33] fun v34 =>
 K (.tuple #[v34, (I 0)])))
theorem e114 [Amb] (d_0 i_1 : Value) (K : Value → WT) : s114 d_0 i_1 K = shal Tryz.prog Tryz.f114 .p a114 [d_0, i_1] K := by kernel_rfl
theorem c114 [Amb] {d_0 i_1 : Value} {K : Value → WT} {w : World} (h : s114 d_0 i_1 K w) : CF Tryz.prog 114 [d_0, i_1] K w := shal_sound Tryz.func114 (e114 d_0 i_1 K ▸ h)
def a115 : Ann := .seq (.z) (.seq (.seq (.z) (.blk (.rf [] (.z) (.blk (.z))))) (.seq (.z) (.z)))
def s115 (s_0 seq_1 : Value) (K : Value → WT) : WT :=
 S.box 110 s_0 fun s_2 =>
 S.rf Tryz.prog seq_1 undef 1 (fun l0 go0 Z0 => fun v7 =>
 go0 <|
 S.ld s_2 fun v8 =>
 V Tryz.prog (Instr.buildSlice 110 1 #[(0, v7)]) fun v10 =>
 V Tryz.prog (Builtin.append_ #[110, 110] 110 #[v8, v10]) fun v11 =>
 S.st 1 s_2 v11 fun _ =>
 Z0 .nrm)
 (fun m1 =>
 S.ld s_2 fun v12 =>
 S.done m1 <|
 K v12)
 (fun m2 =>
 S.done m2 <|
 K (.slice none 0 0))
 [
 ]
theorem e115 (s_0 seq_1 : Value) (K : Value → WT) : s115 s_0 seq_1 K = shal Tryz.prog Tryz.f115 .m a115 [s_0, seq_1] K := by kernel_rfl
theorem c115 {s_0 seq_1 : Value} {K : Value → WT} {w : World} (h : s115 s_0 seq_1 K w) : CF Tryz.prog 115 [s_0, seq_1] K w := shal_sound Tryz.func115 (e115 s_0 seq_1 K ▸ h)
def a127 : Ann := .seq (.z) (.blk (.loop [0, 5] (.seq (.z) (.seq (.cond (.z) (.z)) (.blk (.seq (.z) (.seq (.z) (.cond (.z) (.z)))))))))
def s127 [Amb] (yield_0 v1 : Value) (K : Value → WT) : WT :=
 S.ld v1 fun v4 =>
 V Tryz.prog (Instr.range 119 v4) fun v5 =>
 S.loop 2 (fun K0 => fun yield_0' v5' => S.fa fun _ =>
 V Tryz.prog (Instr.next v5' false 0) fun v6 =>
 S.ext v6 0 fun v7 =>
 S.cond v7 (
 V Tryz.prog (Instr.entry v5') fun v8 =>
 S.ext v8 0 fun v9 =>
 S.cvv Tryz.prog yield_0' [v9] fun v12 =>
 S.not1 v12 fun v13 =>
 S.cond v13 (
 K (.tuple #[])) (
 K0 yield_0' v5')) (
 K (.tuple #[])))
 [yield_0, v5]
theorem e127 [Amb] (yield_0 v1 : Value) (K : Value → WT) : s127 yield_0 v1 K = shal Tryz.prog Tryz.f127 .p a127 [yield_0, v1] K := by kernel_rfl
theorem c127 [Amb] {yield_0 v1 : Value} {K : Value → WT} {w : World} (h : s127 yield_0 v1 K w) : CF Tryz.prog 127 [yield_0, v1] K w := shal_sound Tryz.func127 (e127 yield_0 v1 K ▸ h)
def a128 : Ann := .seq (.z) (.seq (.z) (.z))
def s128 [Amb] (K : Value → WT) : WT :=
 S.box 189 (.agg #[(.int .u32 0), (.int .u32 0), (.int .u32 0), (.int .u32 0), (.int .u32 0), (.int .u32 0), (.int .u32 0), (.int .u32 0)]) fun v0 =>
 V Tryz.prog (Instr.build 189 #[(0, (.int .u32 1779033703)), (1, (.int .u32 3144134277)), (2, (.int .u32 1013904242)), (3, (.int .u32 2773480762)), (4, (.int .u32 1359893119)), (5, (.int .u32 2600822924)), (6, (.int .u32 528734635)), (7, (.int .u32 1541459225))]) fun v1 =>
 S.st 8 v0 v1 fun _ =>
 S.ldN 8 v0 fun v0' =>
 K v0'
theorem e128 [Amb] (K : Value → WT) : s128  K = shal Tryz.prog Tryz.f128 .p a128 [] K := by kernel_rfl
theorem c128 [Amb] {K : Value → WT} {w : World} (h : s128  K w) : CF Tryz.prog 128 [] K w := shal_sound Tryz.func128 (e128  K ▸ h)
def a129 : Ann := .seq (.z) (.join [2, 4, 5, 6, 7] (.drawT 10 (.one 0 (.one 3 (.four 1 (.four 2 (.three 4 (.two 5 (.one 6 (.one 7 (.one 8 (.one 9 .nil)))) 6 (.one 5 (.one 7 (.one 8 (.one 9 .nil))))) 5 (.two 4 (.one 6 (.one 7 (.one 8 (.one 9 .nil)))) 6 (.one 4 (.one 7 (.one 8 (.one 9 .nil))))) 6 (.two 4 (.one 5 (.one 7 (.one 8 (.one 9 .nil)))) 5 (.one 4 (.one 7 (.one 8 (.one 9 .nil)))))) 4 (.three 2 (.two 5 (.one 6 (.one 7 (.one 8 (.one 9 .nil)))) 6 (.one 5 (.one 7 (.one 8 (.one 9 .nil))))) 5 (.two 2 (.one 6 (.one 7 (.one 8 (.one 9 .nil)))) 6 (.one 2 (.one 7 (.one 8 (.one 9 .nil))))) 6 (.two 2 (.one 5 (.one 7 (.one 8 (.one 9 .nil)))) 5 (.one 2 (.one 7 (.one 8 (.one 9 .nil)))))) 5 (.three 2 (.two 4 (.one 6 (.one 7 (.one 8 (.one 9 .nil)))) 6 (.one 4 (.one 7 (.one 8 (.one 9 .nil))))) 4 (.two 2 (.one 6 (.one 7 (.one 8 (.one 9 .nil)))) 6 (.one 2 (.one 7 (.one 8 (.one 9 .nil))))) 6 (.two 2 (.one 4 (.one 7 (.one 8 (.one 9 .nil)))) 4 (.one 2 (.one 7 (.one 8 (.one 9 .nil)))))) 6 (.three 2 (.two 4 (.one 5 (.one 7 (.one 8 (.one 9 .nil)))) 5 (.one 4 (.one 7 (.one 8 (.one 9 .nil))))) 4 (.two 2 (.one 5 (.one 7 (.one 8 (.one 9 .nil)))) 5 (.one 2 (.one 7 (.one 8 (.one 9 .nil))))) 5 (.two 2 (.one 4 (.one 7 (.one 8 (.one 9 .nil)))) 4 (.one 2 (.one 7 (.one 8 (.one 9 .nil))))))) 4 (.three 1 (.three 2 (.two 5 (.one 6 (.one 7 (.one 8 (.one 9 .nil)))) 6 (.one 5 (.one 7 (.one 8 (.one 9 .nil))))) 5 (.two 2 (.one 6 (.one 7 (.one 8 (.one 9 .nil)))) 6 (.one 2 (.one 7 (.one 8 (.one 9 .nil))))) 6 (.two 2 (.one 5 (.one 7 (.one 8 (.one 9 .nil)))) 5 (.one 2 (.one 7 (.one 8 (.one 9 .nil)))))) 5 (.two 1 (.two 2 (.one 6 (.one 7 (.one 8 (.one 9 .nil)))) 6 (.one 2 (.one 7 (.one 8 (.one 9 .nil))))) 6 (.one 1 (.one 2 (.one 7 (.one 8 (.one 9 .nil)))))) 6 (.two 1 (.two 2 (.one 5 (.one 7 (.one 8 (.one 9 .nil)))) 5 (.one 2 (.one 7 (.one 8 (.one 9 .nil))))) 5 (.one 1 (.one 2 (.one 7 (.one 8 (.one 9 .nil))))))) 5 (.three 1 (.three 2 (.two 4 (.one 6 (.one 7 (.one 8 (.one 9 .nil)))) 6 (.one 4 (.one 7 (.one 8 (.one 9 .nil))))) 4 (.two 2 (.one 6 (.one 7 (.one 8 (.one 9 .nil)))) 6 (.one 2 (.one 7 (.one 8 (.one 9 .nil))))) 6 (.two 2 (.one 4 (.one 7 (.one 8 (.one 9 .nil)))) 4 (.one 2 (.one 7 (.one 8 (.one 9 .nil)))))) 4 (.two 1 (.two 2 (.one 6 (.one 7 (.one 8 (.one 9 .nil)))) 6 (.one 2 (.one 7 (.one 8 (.one 9 .nil))))) 6 (.one 1 (.one 2 (.one 7 (.one 8 (.one 9 .nil)))))) 6 (.two 1 (.two 2 (.one 4 (.one 7 (.one 8 (.one 9 .nil)))) 4 (.one 2 (.one 7 (.one 8 (.one 9 .nil))))) 4 (.one 1 (.one 2 (.one 7 (.one 8 (.one 9 .nil))))))) 6 (.three 1 (.three 2 (.two 4 (.one 5 (.one 7 (.one 8 (.one 9 .nil)))) 5 (.one 4 (.one 7 (.one 8 (.one 9 .nil))))) 4 (.two 2 (.one 5 (.one 7 (.one 8 (.one 9 .nil)))) 5 (.one 2 (.one 7 (.one 8 (.one 9 .nil))))) 5 (.two 2 (.one 4 (.one 7 (.one 8 (.one 9 .nil)))) 4 (.one 2 (.one 7 (.one 8 (.one 9 .nil)))))) 4 (.two 1 (.two 2 (.one 5 (.one 7 (.one 8 (.one 9 .nil)))) 5 (.one 2 (.one 7 (.one 8 (.one 9 .nil))))) 5 (.one 1 (.one 2 (.one 7 (.one 8 (.one 9 .nil)))))) 5 (.two 1 (.two 2 (.one 4 (.one 7 (.one 8 (.one 9 .nil)))) 4 (.one 2 (.one 7 (.one 8 (.one 9 .nil))))) 4 (.one 1 (.one 2 (.one 7 (.one 8 (.one 9 .nil))))))))))) (.seq (.seq (.z) (.blk (.loop [2, 4, 5, 6, 7, 22] (.seq (.z) (.seq (.cond (.z) (.z)) (.seq (.blk (.seq (.z) (.seq (.draw [0, 1, 2, 3, 4, 5, 6, 7, 8, 9, 10, 11, 12, 13, 14, 15, 16, 17]) (.seq (.draw [0, 1, 2, 4, 7, 11, 12, 13, 14, 15, 16, 17, 19, 20, 21, 23, 24, 25, 3, 5, 6, 8, 9, 10, 18, 22, 26, 27]) (.seq (.z) (.z)))))) (.z))))))) (.seq (.seq (.z) (.blk (.loop [2, 4, 7, 97] (.seq (.z) (.seq (.cond (.z) (.z)) (.seq (.blk (.seq (.z) (.draw [0, 1, 2, 3, 4, 5, 6, 7, 8]))) (.z))))))) (.seq (.z) (.z)))))
def s129 [Amb] (v0 v1 : Value) (K : Value → WT) : WT :=
 S.box 189 v0 fun v2 =>
 S.box 189 (.agg #[(.int .u32 0), (.int .u32 0), (.int .u32 0), (.int .u32 0), (.int .u32 0), (.int .u32 0), (.int .u32 0), (.int .u32 0)]) fun v4 =>
 S.join 5 (fun K0 =>
 S.dr <|
 S.ldN 8 v2 fun v21 =>
 S.both (
 CF Tryz.prog 153 [v1] fun v19 =>
 S.rck [S.ldN 8 v2 (fun v' _ => v' = v21)] <|
 S.both (
 CF Tryz.prog 154 [] fun v20 =>
 S.rck [S.ldN 8 v2 (fun v' _ => v' = v21)] <|
 S.both (
 S.box 214 (.agg (List.replicate 64 (.int .u32 0)).toArray) fun v5 =>
 S.rck [S.ldN 8 v2 (fun v' _ => v' = v21)] <|
 S.both (
 S.box 214 (.agg (List.replicate 64 (.int .u32 0)).toArray) fun v6 =>
 S.rck [S.ldN 8 v2 (fun v' _ => v' = v21)] <|
 S.box 189 (.agg #[(.int .u32 0), (.int .u32 0), (.int .u32 0), (.int .u32 0), (.int .u32 0), (.int .u32 0), (.int .u32 0), (.int .u32 0)]) fun v7 =>
 S.rck [S.ldN 8 v2 (fun v' _ => v' = v21)] <|
 S.st 64 v5 v19 fun _ =>
 S.rck [S.ldN 8 v2 (fun v' _ => v' = v21)] <|
 S.st 64 v6 v20 fun _ =>
 S.rck [S.ldN 8 v2 (fun v' _ => v' = v21)] <|
 S.st 8 v7 v21 fun _ =>
 K0 v2 v4 v5 v6 v7) (
 S.box 189 (.agg #[(.int .u32 0), (.int .u32 0), (.int .u32 0), (.int .u32 0), (.int .u32 0), (.int .u32 0), (.int .u32 0), (.int .u32 0)]) fun v7' =>
 S.rck [S.ldN 8 v2 (fun v' _ => v' = v21)] <|
 S.box 214 (.agg (List.replicate 64 (.int .u32 0)).toArray) fun v6' =>
 S.rck [S.ldN 8 v2 (fun v' _ => v' = v21)] <|
 S.st 64 v5 v19 fun _ =>
 S.rck [S.ldN 8 v2 (fun v' _ => v' = v21)] <|
 S.st 64 v6' v20 fun _ =>
 S.rck [S.ldN 8 v2 (fun v' _ => v' = v21)] <|
 S.st 8 v7' v21 fun _ =>
 K0 v2 v4 v5 v6' v7')) (
 S.both (
 S.box 214 (.agg (List.replicate 64 (.int .u32 0)).toArray) fun v6'2 =>
 S.rck [S.ldN 8 v2 (fun v' _ => v' = v21)] <|
 S.both (
 S.box 214 (.agg (List.replicate 64 (.int .u32 0)).toArray) fun v5' =>
 S.rck [S.ldN 8 v2 (fun v' _ => v' = v21)] <|
 S.box 189 (.agg #[(.int .u32 0), (.int .u32 0), (.int .u32 0), (.int .u32 0), (.int .u32 0), (.int .u32 0), (.int .u32 0), (.int .u32 0)]) fun v7'2 =>
 S.rck [S.ldN 8 v2 (fun v' _ => v' = v21)] <|
 S.st 64 v5' v19 fun _ =>
 S.rck [S.ldN 8 v2 (fun v' _ => v' = v21)] <|
 S.st 64 v6'2 v20 fun _ =>
 S.rck [S.ldN 8 v2 (fun v' _ => v' = v21)] <|
 S.st 8 v7'2 v21 fun _ =>
 K0 v2 v4 v5' v6'2 v7'2) (
 S.box 189 (.agg #[(.int .u32 0), (.int .u32 0), (.int .u32 0), (.int .u32 0), (.int .u32 0), (.int .u32 0), (.int .u32 0), (.int .u32 0)]) fun v7'3 =>
 S.rck [S.ldN 8 v2 (fun v' _ => v' = v21)] <|
 S.box 214 (.agg (List.replicate 64 (.int .u32 0)).toArray) fun v5'2 =>
 S.rck [S.ldN 8 v2 (fun v' _ => v' = v21)] <|
 S.st 64 v5'2 v19 fun _ =>
 S.rck [S.ldN 8 v2 (fun v' _ => v' = v21)] <|
 S.st 64 v6'2 v20 fun _ =>
 S.rck [S.ldN 8 v2 (fun v' _ => v' = v21)] <|
 S.st 8 v7'3 v21 fun _ =>
 K0 v2 v4 v5'2 v6'2 v7'3)) (
 S.box 189 (.agg #[(.int .u32 0), (.int .u32 0), (.int .u32 0), (.int .u32 0), (.int .u32 0), (.int .u32 0), (.int .u32 0), (.int .u32 0)]) fun v7'4 =>
 S.rck [S.ldN 8 v2 (fun v' _ => v' = v21)] <|
 S.both (
 S.box 214 (.agg (List.replicate 64 (.int .u32 0)).toArray) fun v5'3 =>
 S.rck [S.ldN 8 v2 (fun v' _ => v' = v21)] <|
 S.box 214 (.agg (List.replicate 64 (.int .u32 0)).toArray) fun v6'3 =>
 S.rck [S.ldN 8 v2 (fun v' _ => v' = v21)] <|
 S.st 64 v5'3 v19 fun _ =>
 S.rck [S.ldN 8 v2 (fun v' _ => v' = v21)] <|
 S.st 64 v6'3 v20 fun _ =>
 S.rck [S.ldN 8 v2 (fun v' _ => v' = v21)] <|
 S.st 8 v7'4 v21 fun _ =>
 K0 v2 v4 v5'3 v6'3 v7'4) (
 S.box 214 (.agg (List.replicate 64 (.int .u32 0)).toArray) fun v6'4 =>
 S.rck [S.ldN 8 v2 (fun v' _ => v' = v21)] <|
 S.box 214 (.agg (List.replicate 64 (.int .u32 0)).toArray) fun v5'4 =>
 S.rck [S.ldN 8 v2 (fun v' _ => v' = v21)] <|
 S.st 64 v5'4 v19 fun _ =>
 S.rck [S.ldN 8 v2 (fun v' _ => v' = v21)] <|
 S.st 64 v6'4 v20 fun _ =>
 S.rck [S.ldN 8 v2 (fun v' _ => v' = v21)] <|
 S.st 8 v7'4 v21 fun _ =>
 K0 v2 v4 v5'4 v6'4 v7'4)))) (
 S.both (
 S.box 214 (.agg (List.replicate 64 (.int .u32 0)).toArray) fun v5'5 =>
 S.rck [S.ldN 8 v2 (fun v' _ => v' = v21)] <|
 S.both (
 CF Tryz.prog 154 [] fun v20' =>
 S.rck [S.ldN 8 v2 (fun v' _ => v' = v21)] <|
 S.both (
 S.box 214 (.agg (List.replicate 64 (.int .u32 0)).toArray) fun v6'5 =>
 S.rck [S.ldN 8 v2 (fun v' _ => v' = v21)] <|
 S.box 189 (.agg #[(.int .u32 0), (.int .u32 0), (.int .u32 0), (.int .u32 0), (.int .u32 0), (.int .u32 0), (.int .u32 0), (.int .u32 0)]) fun v7'5 =>
 S.rck [S.ldN 8 v2 (fun v' _ => v' = v21)] <|
 S.st 64 v5'5 v19 fun _ =>
 S.rck [S.ldN 8 v2 (fun v' _ => v' = v21)] <|
 S.st 64 v6'5 v20' fun _ =>
 S.rck [S.ldN 8 v2 (fun v' _ => v' = v21)] <|
 S.st 8 v7'5 v21 fun _ =>
 K0 v2 v4 v5'5 v6'5 v7'5) (
 S.box 189 (.agg #[(.int .u32 0), (.int .u32 0), (.int .u32 0), (.int .u32 0), (.int .u32 0), (.int .u32 0), (.int .u32 0), (.int .u32 0)]) fun v7'6 =>
 S.rck [S.ldN 8 v2 (fun v' _ => v' = v21)] <|
 S.box 214 (.agg (List.replicate 64 (.int .u32 0)).toArray) fun v6'6 =>
 S.rck [S.ldN 8 v2 (fun v' _ => v' = v21)] <|
 S.st 64 v5'5 v19 fun _ =>
 S.rck [S.ldN 8 v2 (fun v' _ => v' = v21)] <|
 S.st 64 v6'6 v20' fun _ =>
 S.rck [S.ldN 8 v2 (fun v' _ => v' = v21)] <|
 S.st 8 v7'6 v21 fun _ =>
 K0 v2 v4 v5'5 v6'6 v7'6)) (
 S.both (
 S.box 214 (.agg (List.replicate 64 (.int .u32 0)).toArray) fun v6'7 =>
 S.rck [S.ldN 8 v2 (fun v' _ => v' = v21)] <|
 S.both (
 CF Tryz.prog 154 [] fun v20'2 =>
 S.rck [S.ldN 8 v2 (fun v' _ => v' = v21)] <|
 S.box 189 (.agg #[(.int .u32 0), (.int .u32 0), (.int .u32 0), (.int .u32 0), (.int .u32 0), (.int .u32 0), (.int .u32 0), (.int .u32 0)]) fun v7'7 =>
 S.rck [S.ldN 8 v2 (fun v' _ => v' = v21)] <|
 S.st 64 v5'5 v19 fun _ =>
 S.rck [S.ldN 8 v2 (fun v' _ => v' = v21)] <|
 S.st 64 v6'7 v20'2 fun _ =>
 S.rck [S.ldN 8 v2 (fun v' _ => v' = v21)] <|
 S.st 8 v7'7 v21 fun _ =>
 K0 v2 v4 v5'5 v6'7 v7'7) (
 S.box 189 (.agg #[(.int .u32 0), (.int .u32 0), (.int .u32 0), (.int .u32 0), (.int .u32 0), (.int .u32 0), (.int .u32 0), (.int .u32 0)]) fun v7'8 =>
 S.rck [S.ldN 8 v2 (fun v' _ => v' = v21)] <|
 CF Tryz.prog 154 [] fun v20'3 =>
 S.rck [S.ldN 8 v2 (fun v' _ => v' = v21)] <|
 S.st 64 v5'5 v19 fun _ =>
 S.rck [S.ldN 8 v2 (fun v' _ => v' = v21)] <|
 S.st 64 v6'7 v20'3 fun _ =>
 S.rck [S.ldN 8 v2 (fun v' _ => v' = v21)] <|
 S.st 8 v7'8 v21 fun _ =>
 K0 v2 v4 v5'5 v6'7 v7'8)) (
 S.box 189 (.agg #[(.int .u32 0), (.int .u32 0), (.int .u32 0), (.int .u32 0), (.int .u32 0), (.int .u32 0), (.int .u32 0), (.int .u32 0)]) fun v7'9 =>
 S.rck [S.ldN 8 v2 (fun v' _ => v' = v21)] <|
 S.both (
 CF Tryz.prog 154 [] fun v20'4 =>
 S.rck [S.ldN 8 v2 (fun v' _ => v' = v21)] <|
 S.box 214 (.agg (List.replicate 64 (.int .u32 0)).toArray) fun v6'8 =>
 S.rck [S.ldN 8 v2 (fun v' _ => v' = v21)] <|
 S.st 64 v5'5 v19 fun _ =>
 S.rck [S.ldN 8 v2 (fun v' _ => v' = v21)] <|
 S.st 64 v6'8 v20'4 fun _ =>
 S.rck [S.ldN 8 v2 (fun v' _ => v' = v21)] <|
 S.st 8 v7'9 v21 fun _ =>
 K0 v2 v4 v5'5 v6'8 v7'9) (
 S.box 214 (.agg (List.replicate 64 (.int .u32 0)).toArray) fun v6'9 =>
 S.rck [S.ldN 8 v2 (fun v' _ => v' = v21)] <|
 CF Tryz.prog 154 [] fun v20'5 =>
 S.rck [S.ldN 8 v2 (fun v' _ => v' = v21)] <|
 S.st 64 v5'5 v19 fun _ =>
 S.rck [S.ldN 8 v2 (fun v' _ => v' = v21)] <|
 S.st 64 v6'9 v20'5 fun _ =>
 S.rck [S.ldN 8 v2 (fun v' _ => v' = v21)] <|
 S.st 8 v7'9 v21 fun _ =>
 K0 v2 v4 v5'5 v6'9 v7'9)))) (
 S.both (
 S.box 214 (.agg (List.replicate 64 (.int .u32 0)).toArray) fun v6'10 =>
 S.rck [S.ldN 8 v2 (fun v' _ => v' = v21)] <|
 S.both (
 CF Tryz.prog 154 [] fun v20'6 =>
 S.rck [S.ldN 8 v2 (fun v' _ => v' = v21)] <|
 S.both (
 S.box 214 (.agg (List.replicate 64 (.int .u32 0)).toArray) fun v5'6 =>
 S.rck [S.ldN 8 v2 (fun v' _ => v' = v21)] <|
 S.box 189 (.agg #[(.int .u32 0), (.int .u32 0), (.int .u32 0), (.int .u32 0), (.int .u32 0), (.int .u32 0), (.int .u32 0), (.int .u32 0)]) fun v7'10 =>
 S.rck [S.ldN 8 v2 (fun v' _ => v' = v21)] <|
 S.st 64 v5'6 v19 fun _ =>
 S.rck [S.ldN 8 v2 (fun v' _ => v' = v21)] <|
 S.st 64 v6'10 v20'6 fun _ =>
 S.rck [S.ldN 8 v2 (fun v' _ => v' = v21)] <|
 S.st 8 v7'10 v21 fun _ =>
 K0 v2 v4 v5'6 v6'10 v7'10) (
 S.box 189 (.agg #[(.int .u32 0), (.int .u32 0), (.int .u32 0), (.int .u32 0), (.int .u32 0), (.int .u32 0), (.int .u32 0), (.int .u32 0)]) fun v7'11 =>
 S.rck [S.ldN 8 v2 (fun v' _ => v' = v21)] <|
 S.box 214 (.agg (List.replicate 64 (.int .u32 0)).toArray) fun v5'7 =>
 S.rck [S.ldN 8 v2 (fun v' _ => v' = v21)] <|
 S.st 64 v5'7 v19 fun _ =>
 S.rck [S.ldN 8 v2 (fun v' _ => v' = v21)] <|
 S.st 64 v6'10 v20'6 fun _ =>
 S.rck [S.ldN 8 v2 (fun v' _ => v' = v21)] <|
 S.st 8 v7'11 v21 fun _ =>
 K0 v2 v4 v5'7 v6'10 v7'11)) (
 S.both (
 S.box 214 (.agg (List.replicate 64 (.int .u32 0)).toArray) fun v5'8 =>
 S.rck [S.ldN 8 v2 (fun v' _ => v' = v21)] <|
 S.both (
 CF Tryz.prog 154 [] fun v20'7 =>
 S.rck [S.ldN 8 v2 (fun v' _ => v' = v21)] <|
 S.box 189 (.agg #[(.int .u32 0), (.int .u32 0), (.int .u32 0), (.int .u32 0), (.int .u32 0), (.int .u32 0), (.int .u32 0), (.int .u32 0)]) fun v7'12 =>
 S.rck [S.ldN 8 v2 (fun v' _ => v' = v21)] <|
 S.st 64 v5'8 v19 fun _ =>
 S.rck [S.ldN 8 v2 (fun v' _ => v' = v21)] <|
 S.st 64 v6'10 v20'7 fun _ =>
 S.rck [S.ldN 8 v2 (fun v' _ => v' = v21)] <|
 S.st 8 v7'12 v21 fun _ =>
 K0 v2 v4 v5'8 v6'10 v7'12) (
 S.box 189 (.agg #[(.int .u32 0), (.int .u32 0), (.int .u32 0), (.int .u32 0), (.int .u32 0), (.int .u32 0), (.int .u32 0), (.int .u32 0)]) fun v7'13 =>
 S.rck [S.ldN 8 v2 (fun v' _ => v' = v21)] <|
 CF Tryz.prog 154 [] fun v20'8 =>
 S.rck [S.ldN 8 v2 (fun v' _ => v' = v21)] <|
 S.st 64 v5'8 v19 fun _ =>
 S.rck [S.ldN 8 v2 (fun v' _ => v' = v21)] <|
 S.st 64 v6'10 v20'8 fun _ =>
 S.rck [S.ldN 8 v2 (fun v' _ => v' = v21)] <|
 S.st 8 v7'13 v21 fun _ =>
 K0 v2 v4 v5'8 v6'10 v7'13)) (
 S.box 189 (.agg #[(.int .u32 0), (.int .u32 0), (.int .u32 0), (.int .u32 0), (.int .u32 0), (.int .u32 0), (.int .u32 0), (.int .u32 0)]) fun v7'14 =>
 S.rck [S.ldN 8 v2 (fun v' _ => v' = v21)] <|
 S.both (
 CF Tryz.prog 154 [] fun v20'9 =>
 S.rck [S.ldN 8 v2 (fun v' _ => v' = v21)] <|
 S.box 214 (.agg (List.replicate 64 (.int .u32 0)).toArray) fun v5'9 =>
 S.rck [S.ldN 8 v2 (fun v' _ => v' = v21)] <|
 S.st 64 v5'9 v19 fun _ =>
 S.rck [S.ldN 8 v2 (fun v' _ => v' = v21)] <|
 S.st 64 v6'10 v20'9 fun _ =>
 S.rck [S.ldN 8 v2 (fun v' _ => v' = v21)] <|
 S.st 8 v7'14 v21 fun _ =>
 K0 v2 v4 v5'9 v6'10 v7'14) (
 S.box 214 (.agg (List.replicate 64 (.int .u32 0)).toArray) fun v5'10 =>
 S.rck [S.ldN 8 v2 (fun v' _ => v' = v21)] <|
 CF Tryz.prog 154 [] fun v20'10 =>
 S.rck [S.ldN 8 v2 (fun v' _ => v' = v21)] <|
 S.st 64 v5'10 v19 fun _ =>
 S.rck [S.ldN 8 v2 (fun v' _ => v' = v21)] <|
 S.st 64 v6'10 v20'10 fun _ =>
 S.rck [S.ldN 8 v2 (fun v' _ => v' = v21)] <|
 S.st 8 v7'14 v21 fun _ =>
 K0 v2 v4 v5'10 v6'10 v7'14)))) (
 S.box 189 (.agg #[(.int .u32 0), (.int .u32 0), (.int .u32 0), (.int .u32 0), (.int .u32 0), (.int .u32 0), (.int .u32 0), (.int .u32 0)]) fun v7'15 =>
 S.rck [S.ldN 8 v2 (fun v' _ => v' = v21)] <|
 S.both (
 CF Tryz.prog 154 [] fun v20'11 =>
 S.rck [S.ldN 8 v2 (fun v' _ => v' = v21)] <|
 S.both (
 S.box 214 (.agg (List.replicate 64 (.int .u32 0)).toArray) fun v5'11 =>
 S.rck [S.ldN 8 v2 (fun v' _ => v' = v21)] <|
 S.box 214 (.agg (List.replicate 64 (.int .u32 0)).toArray) fun v6'11 =>
 S.rck [S.ldN 8 v2 (fun v' _ => v' = v21)] <|
 S.st 64 v5'11 v19 fun _ =>
 S.rck [S.ldN 8 v2 (fun v' _ => v' = v21)] <|
 S.st 64 v6'11 v20'11 fun _ =>
 S.rck [S.ldN 8 v2 (fun v' _ => v' = v21)] <|
 S.st 8 v7'15 v21 fun _ =>
 K0 v2 v4 v5'11 v6'11 v7'15) (
 S.box 214 (.agg (List.replicate 64 (.int .u32 0)).toArray) fun v6'12 =>
 S.rck [S.ldN 8 v2 (fun v' _ => v' = v21)] <|
 S.box 214 (.agg (List.replicate 64 (.int .u32 0)).toArray) fun v5'12 =>
 S.rck [S.ldN 8 v2 (fun v' _ => v' = v21)] <|
 S.st 64 v5'12 v19 fun _ =>
 S.rck [S.ldN 8 v2 (fun v' _ => v' = v21)] <|
 S.st 64 v6'12 v20'11 fun _ =>
 S.rck [S.ldN 8 v2 (fun v' _ => v' = v21)] <|
 S.st 8 v7'15 v21 fun _ =>
 K0 v2 v4 v5'12 v6'12 v7'15)) (
 S.both (
 S.box 214 (.agg (List.replicate 64 (.int .u32 0)).toArray) fun v5'13 =>
 S.rck [S.ldN 8 v2 (fun v' _ => v' = v21)] <|
 S.both (
 CF Tryz.prog 154 [] fun v20'12 =>
 S.rck [S.ldN 8 v2 (fun v' _ => v' = v21)] <|
 S.box 214 (.agg (List.replicate 64 (.int .u32 0)).toArray) fun v6'13 =>
 S.rck [S.ldN 8 v2 (fun v' _ => v' = v21)] <|
 S.st 64 v5'13 v19 fun _ =>
 S.rck [S.ldN 8 v2 (fun v' _ => v' = v21)] <|
 S.st 64 v6'13 v20'12 fun _ =>
 S.rck [S.ldN 8 v2 (fun v' _ => v' = v21)] <|
 S.st 8 v7'15 v21 fun _ =>
 K0 v2 v4 v5'13 v6'13 v7'15) (
 S.box 214 (.agg (List.replicate 64 (.int .u32 0)).toArray) fun v6'14 =>
 S.rck [S.ldN 8 v2 (fun v' _ => v' = v21)] <|
 CF Tryz.prog 154 [] fun v20'13 =>
 S.rck [S.ldN 8 v2 (fun v' _ => v' = v21)] <|
 S.st 64 v5'13 v19 fun _ =>
 S.rck [S.ldN 8 v2 (fun v' _ => v' = v21)] <|
 S.st 64 v6'14 v20'13 fun _ =>
 S.rck [S.ldN 8 v2 (fun v' _ => v' = v21)] <|
 S.st 8 v7'15 v21 fun _ =>
 K0 v2 v4 v5'13 v6'14 v7'15)) (
 S.box 214 (.agg (List.replicate 64 (.int .u32 0)).toArray) fun v6'15 =>
 S.rck [S.ldN 8 v2 (fun v' _ => v' = v21)] <|
 S.both (
 CF Tryz.prog 154 [] fun v20'14 =>
 S.rck [S.ldN 8 v2 (fun v' _ => v' = v21)] <|
 S.box 214 (.agg (List.replicate 64 (.int .u32 0)).toArray) fun v5'14 =>
 S.rck [S.ldN 8 v2 (fun v' _ => v' = v21)] <|
 S.st 64 v5'14 v19 fun _ =>
 S.rck [S.ldN 8 v2 (fun v' _ => v' = v21)] <|
 S.st 64 v6'15 v20'14 fun _ =>
 S.rck [S.ldN 8 v2 (fun v' _ => v' = v21)] <|
 S.st 8 v7'15 v21 fun _ =>
 K0 v2 v4 v5'14 v6'15 v7'15) (
 S.box 214 (.agg (List.replicate 64 (.int .u32 0)).toArray) fun v5'15 =>
 S.rck [S.ldN 8 v2 (fun v' _ => v' = v21)] <|
 CF Tryz.prog 154 [] fun v20'15 =>
 S.rck [S.ldN 8 v2 (fun v' _ => v' = v21)] <|
 S.st 64 v5'15 v19 fun _ =>
 S.rck [S.ldN 8 v2 (fun v' _ => v' = v21)] <|
 S.st 64 v6'15 v20'15 fun _ =>
 S.rck [S.ldN 8 v2 (fun v' _ => v' = v21)] <|
 S.st 8 v7'15 v21 fun _ =>
 K0 v2 v4 v5'15 v6'15 v7'15))))))) (
 S.both (
 S.box 214 (.agg (List.replicate 64 (.int .u32 0)).toArray) fun v5'16 =>
 S.rck [S.ldN 8 v2 (fun v' _ => v' = v21)] <|
 S.both (
 CF Tryz.prog 153 [v1] fun v19' =>
 S.rck [S.ldN 8 v2 (fun v' _ => v' = v21)] <|
 S.both (
 CF Tryz.prog 154 [] fun v20'16 =>
 S.rck [S.ldN 8 v2 (fun v' _ => v' = v21)] <|
 S.both (
 S.box 214 (.agg (List.replicate 64 (.int .u32 0)).toArray) fun v6'16 =>
 S.rck [S.ldN 8 v2 (fun v' _ => v' = v21)] <|
 S.box 189 (.agg #[(.int .u32 0), (.int .u32 0), (.int .u32 0), (.int .u32 0), (.int .u32 0), (.int .u32 0), (.int .u32 0), (.int .u32 0)]) fun v7'16 =>
 S.rck [S.ldN 8 v2 (fun v' _ => v' = v21)] <|
 S.st 64 v5'16 v19' fun _ =>
 S.rck [S.ldN 8 v2 (fun v' _ => v' = v21)] <|
 S.st 64 v6'16 v20'16 fun _ =>
 S.rck [S.ldN 8 v2 (fun v' _ => v' = v21)] <|
 S.st 8 v7'16 v21 fun _ =>
 K0 v2 v4 v5'16 v6'16 v7'16) (
 S.box 189 (.agg #[(.int .u32 0), (.int .u32 0), (.int .u32 0), (.int .u32 0), (.int .u32 0), (.int .u32 0), (.int .u32 0), (.int .u32 0)]) fun v7'17 =>
 S.rck [S.ldN 8 v2 (fun v' _ => v' = v21)] <|
 S.box 214 (.agg (List.replicate 64 (.int .u32 0)).toArray) fun v6'17 =>
 S.rck [S.ldN 8 v2 (fun v' _ => v' = v21)] <|
 S.st 64 v5'16 v19' fun _ =>
 S.rck [S.ldN 8 v2 (fun v' _ => v' = v21)] <|
 S.st 64 v6'17 v20'16 fun _ =>
 S.rck [S.ldN 8 v2 (fun v' _ => v' = v21)] <|
 S.st 8 v7'17 v21 fun _ =>
 K0 v2 v4 v5'16 v6'17 v7'17)) (
 S.both (
 S.box 214 (.agg (List.replicate 64 (.int .u32 0)).toArray) fun v6'18 =>
 S.rck [S.ldN 8 v2 (fun v' _ => v' = v21)] <|
 S.both (
 CF Tryz.prog 154 [] fun v20'17 =>
 S.rck [S.ldN 8 v2 (fun v' _ => v' = v21)] <|
 S.box 189 (.agg #[(.int .u32 0), (.int .u32 0), (.int .u32 0), (.int .u32 0), (.int .u32 0), (.int .u32 0), (.int .u32 0), (.int .u32 0)]) fun v7'18 =>
 S.rck [S.ldN 8 v2 (fun v' _ => v' = v21)] <|
 S.st 64 v5'16 v19' fun _ =>
 S.rck [S.ldN 8 v2 (fun v' _ => v' = v21)] <|
 S.st 64 v6'18 v20'17 fun _ =>
 S.rck [S.ldN 8 v2 (fun v' _ => v' = v21)] <|
 S.st 8 v7'18 v21 fun _ =>
 K0 v2 v4 v5'16 v6'18 v7'18) (
 S.box 189 (.agg #[(.int .u32 0), (.int .u32 0), (.int .u32 0), (.int .u32 0), (.int .u32 0), (.int .u32 0), (.int .u32 0), (.int .u32 0)]) fun v7'19 =>
 S.rck [S.ldN 8 v2 (fun v' _ => v' = v21)] <|
 CF Tryz.prog 154 [] fun v20'18 =>
 S.rck [S.ldN 8 v2 (fun v' _ => v' = v21)] <|
 S.st 64 v5'16 v19' fun _ =>
 S.rck [S.ldN 8 v2 (fun v' _ => v' = v21)] <|
 S.st 64 v6'18 v20'18 fun _ =>
 S.rck [S.ldN 8 v2 (fun v' _ => v' = v21)] <|
 S.st 8 v7'19 v21 fun _ =>
 K0 v2 v4 v5'16 v6'18 v7'19)) (
 S.box 189 (.agg #[(.int .u32 0), (.int .u32 0), (.int .u32 0), (.int .u32 0), (.int .u32 0), (.int .u32 0), (.int .u32 0), (.int .u32 0)]) fun v7'20 =>
 S.rck [S.ldN 8 v2 (fun v' _ => v' = v21)] <|
 S.both (
 CF Tryz.prog 154 [] fun v20'19 =>
 S.rck [S.ldN 8 v2 (fun v' _ => v' = v21)] <|
 S.box 214 (.agg (List.replicate 64 (.int .u32 0)).toArray) fun v6'19 =>
 S.rck [S.ldN 8 v2 (fun v' _ => v' = v21)] <|
 S.st 64 v5'16 v19' fun _ =>
 S.rck [S.ldN 8 v2 (fun v' _ => v' = v21)] <|
 S.st 64 v6'19 v20'19 fun _ =>
 S.rck [S.ldN 8 v2 (fun v' _ => v' = v21)] <|
 S.st 8 v7'20 v21 fun _ =>
 K0 v2 v4 v5'16 v6'19 v7'20) (
 S.box 214 (.agg (List.replicate 64 (.int .u32 0)).toArray) fun v6'20 =>
 S.rck [S.ldN 8 v2 (fun v' _ => v' = v21)] <|
 CF Tryz.prog 154 [] fun v20'20 =>
 S.rck [S.ldN 8 v2 (fun v' _ => v' = v21)] <|
 S.st 64 v5'16 v19' fun _ =>
 S.rck [S.ldN 8 v2 (fun v' _ => v' = v21)] <|
 S.st 64 v6'20 v20'20 fun _ =>
 S.rck [S.ldN 8 v2 (fun v' _ => v' = v21)] <|
 S.st 8 v7'20 v21 fun _ =>
 K0 v2 v4 v5'16 v6'20 v7'20)))) (
 S.both (
 S.box 214 (.agg (List.replicate 64 (.int .u32 0)).toArray) fun v6'21 =>
 S.rck [S.ldN 8 v2 (fun v' _ => v' = v21)] <|
 S.both (
 CF Tryz.prog 153 [v1] fun v19'2 =>
 S.rck [S.ldN 8 v2 (fun v' _ => v' = v21)] <|
 S.both (
 CF Tryz.prog 154 [] fun v20'21 =>
 S.rck [S.ldN 8 v2 (fun v' _ => v' = v21)] <|
 S.box 189 (.agg #[(.int .u32 0), (.int .u32 0), (.int .u32 0), (.int .u32 0), (.int .u32 0), (.int .u32 0), (.int .u32 0), (.int .u32 0)]) fun v7'21 =>
 S.rck [S.ldN 8 v2 (fun v' _ => v' = v21)] <|
 S.st 64 v5'16 v19'2 fun _ =>
 S.rck [S.ldN 8 v2 (fun v' _ => v' = v21)] <|
 S.st 64 v6'21 v20'21 fun _ =>
 S.rck [S.ldN 8 v2 (fun v' _ => v' = v21)] <|
 S.st 8 v7'21 v21 fun _ =>
 K0 v2 v4 v5'16 v6'21 v7'21) (
 S.box 189 (.agg #[(.int .u32 0), (.int .u32 0), (.int .u32 0), (.int .u32 0), (.int .u32 0), (.int .u32 0), (.int .u32 0), (.int .u32 0)]) fun v7'22 =>
 S.rck [S.ldN 8 v2 (fun v' _ => v' = v21)] <|
 CF Tryz.prog 154 [] fun v20'22 =>
 S.rck [S.ldN 8 v2 (fun v' _ => v' = v21)] <|
 S.st 64 v5'16 v19'2 fun _ =>
 S.rck [S.ldN 8 v2 (fun v' _ => v' = v21)] <|
 S.st 64 v6'21 v20'22 fun _ =>
 S.rck [S.ldN 8 v2 (fun v' _ => v' = v21)] <|
 S.st 8 v7'22 v21 fun _ =>
 K0 v2 v4 v5'16 v6'21 v7'22)) (
 S.box 189 (.agg #[(.int .u32 0), (.int .u32 0), (.int .u32 0), (.int .u32 0), (.int .u32 0), (.int .u32 0), (.int .u32 0), (.int .u32 0)]) fun v7'23 =>
 S.rck [S.ldN 8 v2 (fun v' _ => v' = v21)] <|
 CF Tryz.prog 153 [v1] fun v19'3 =>
 S.rck [S.ldN 8 v2 (fun v' _ => v' = v21)] <|
 CF Tryz.prog 154 [] fun v20'23 =>
 S.rck [S.ldN 8 v2 (fun v' _ => v' = v21)] <|
 S.st 64 v5'16 v19'3 fun _ =>
 S.rck [S.ldN 8 v2 (fun v' _ => v' = v21)] <|
 S.st 64 v6'21 v20'23 fun _ =>
 S.rck [S.ldN 8 v2 (fun v' _ => v' = v21)] <|
 S.st 8 v7'23 v21 fun _ =>
 K0 v2 v4 v5'16 v6'21 v7'23)) (
 S.box 189 (.agg #[(.int .u32 0), (.int .u32 0), (.int .u32 0), (.int .u32 0), (.int .u32 0), (.int .u32 0), (.int .u32 0), (.int .u32 0)]) fun v7'24 =>
 S.rck [S.ldN 8 v2 (fun v' _ => v' = v21)] <|
 S.both (
 CF Tryz.prog 153 [v1] fun v19'4 =>
 S.rck [S.ldN 8 v2 (fun v' _ => v' = v21)] <|
 S.both (
 CF Tryz.prog 154 [] fun v20'24 =>
 S.rck [S.ldN 8 v2 (fun v' _ => v' = v21)] <|
 S.box 214 (.agg (List.replicate 64 (.int .u32 0)).toArray) fun v6'22 =>
 S.rck [S.ldN 8 v2 (fun v' _ => v' = v21)] <|
 S.st 64 v5'16 v19'4 fun _ =>
 S.rck [S.ldN 8 v2 (fun v' _ => v' = v21)] <|
 S.st 64 v6'22 v20'24 fun _ =>
 S.rck [S.ldN 8 v2 (fun v' _ => v' = v21)] <|
 S.st 8 v7'24 v21 fun _ =>
 K0 v2 v4 v5'16 v6'22 v7'24) (
 S.box 214 (.agg (List.replicate 64 (.int .u32 0)).toArray) fun v6'23 =>
 S.rck [S.ldN 8 v2 (fun v' _ => v' = v21)] <|
 CF Tryz.prog 154 [] fun v20'25 =>
 S.rck [S.ldN 8 v2 (fun v' _ => v' = v21)] <|
 S.st 64 v5'16 v19'4 fun _ =>
 S.rck [S.ldN 8 v2 (fun v' _ => v' = v21)] <|
 S.st 64 v6'23 v20'25 fun _ =>
 S.rck [S.ldN 8 v2 (fun v' _ => v' = v21)] <|
 S.st 8 v7'24 v21 fun _ =>
 K0 v2 v4 v5'16 v6'23 v7'24)) (
 S.box 214 (.agg (List.replicate 64 (.int .u32 0)).toArray) fun v6'24 =>
 S.rck [S.ldN 8 v2 (fun v' _ => v' = v21)] <|
 CF Tryz.prog 153 [v1] fun v19'5 =>
 S.rck [S.ldN 8 v2 (fun v' _ => v' = v21)] <|
 CF Tryz.prog 154 [] fun v20'26 =>
 S.rck [S.ldN 8 v2 (fun v' _ => v' = v21)] <|
 S.st 64 v5'16 v19'5 fun _ =>
 S.rck [S.ldN 8 v2 (fun v' _ => v' = v21)] <|
 S.st 64 v6'24 v20'26 fun _ =>
 S.rck [S.ldN 8 v2 (fun v' _ => v' = v21)] <|
 S.st 8 v7'24 v21 fun _ =>
 K0 v2 v4 v5'16 v6'24 v7'24)))) (
 S.both (
 S.box 214 (.agg (List.replicate 64 (.int .u32 0)).toArray) fun v6'25 =>
 S.rck [S.ldN 8 v2 (fun v' _ => v' = v21)] <|
 S.both (
 CF Tryz.prog 153 [v1] fun v19'6 =>
 S.rck [S.ldN 8 v2 (fun v' _ => v' = v21)] <|
 S.both (
 CF Tryz.prog 154 [] fun v20'27 =>
 S.rck [S.ldN 8 v2 (fun v' _ => v' = v21)] <|
 S.both (
 S.box 214 (.agg (List.replicate 64 (.int .u32 0)).toArray) fun v5'17 =>
 S.rck [S.ldN 8 v2 (fun v' _ => v' = v21)] <|
 S.box 189 (.agg #[(.int .u32 0), (.int .u32 0), (.int .u32 0), (.int .u32 0), (.int .u32 0), (.int .u32 0), (.int .u32 0), (.int .u32 0)]) fun v7'25 =>
 S.rck [S.ldN 8 v2 (fun v' _ => v' = v21)] <|
 S.st 64 v5'17 v19'6 fun _ =>
 S.rck [S.ldN 8 v2 (fun v' _ => v' = v21)] <|
 S.st 64 v6'25 v20'27 fun _ =>
 S.rck [S.ldN 8 v2 (fun v' _ => v' = v21)] <|
 S.st 8 v7'25 v21 fun _ =>
 K0 v2 v4 v5'17 v6'25 v7'25) (
 S.box 189 (.agg #[(.int .u32 0), (.int .u32 0), (.int .u32 0), (.int .u32 0), (.int .u32 0), (.int .u32 0), (.int .u32 0), (.int .u32 0)]) fun v7'26 =>
 S.rck [S.ldN 8 v2 (fun v' _ => v' = v21)] <|
 S.box 214 (.agg (List.replicate 64 (.int .u32 0)).toArray) fun v5'18 =>
 S.rck [S.ldN 8 v2 (fun v' _ => v' = v21)] <|
 S.st 64 v5'18 v19'6 fun _ =>
 S.rck [S.ldN 8 v2 (fun v' _ => v' = v21)] <|
 S.st 64 v6'25 v20'27 fun _ =>
 S.rck [S.ldN 8 v2 (fun v' _ => v' = v21)] <|
 S.st 8 v7'26 v21 fun _ =>
 K0 v2 v4 v5'18 v6'25 v7'26)) (
 S.both (
 S.box 214 (.agg (List.replicate 64 (.int .u32 0)).toArray) fun v5'19 =>
 S.rck [S.ldN 8 v2 (fun v' _ => v' = v21)] <|
 S.both (
 CF Tryz.prog 154 [] fun v20'28 =>
 S.rck [S.ldN 8 v2 (fun v' _ => v' = v21)] <|
 S.box 189 (.agg #[(.int .u32 0), (.int .u32 0), (.int .u32 0), (.int .u32 0), (.int .u32 0), (.int .u32 0), (.int .u32 0), (.int .u32 0)]) fun v7'27 =>
 S.rck [S.ldN 8 v2 (fun v' _ => v' = v21)] <|
 S.st 64 v5'19 v19'6 fun _ =>
 S.rck [S.ldN 8 v2 (fun v' _ => v' = v21)] <|
 S.st 64 v6'25 v20'28 fun _ =>
 S.rck [S.ldN 8 v2 (fun v' _ => v' = v21)] <|
 S.st 8 v7'27 v21 fun _ =>
 K0 v2 v4 v5'19 v6'25 v7'27) (
 S.box 189 (.agg #[(.int .u32 0), (.int .u32 0), (.int .u32 0), (.int .u32 0), (.int .u32 0), (.int .u32 0), (.int .u32 0), (.int .u32 0)]) fun v7'28 =>
 S.rck [S.ldN 8 v2 (fun v' _ => v' = v21)] <|
 CF Tryz.prog 154 [] fun v20'29 =>
 S.rck [S.ldN 8 v2 (fun v' _ => v' = v21)] <|
 S.st 64 v5'19 v19'6 fun _ =>
 S.rck [S.ldN 8 v2 (fun v' _ => v' = v21)] <|
 S.st 64 v6'25 v20'29 fun _ =>
 S.rck [S.ldN 8 v2 (fun v' _ => v' = v21)] <|
 S.st 8 v7'28 v21 fun _ =>
 K0 v2 v4 v5'19 v6'25 v7'28)) (
 S.box 189 (.agg #[(.int .u32 0), (.int .u32 0), (.int .u32 0), (.int .u32 0), (.int .u32 0), (.int .u32 0), (.int .u32 0), (.int .u32 0)]) fun v7'29 =>
 S.rck [S.ldN 8 v2 (fun v' _ => v' = v21)] <|
 S.both (
 CF Tryz.prog 154 [] fun v20'30 =>
 S.rck [S.ldN 8 v2 (fun v' _ => v' = v21)] <|
 S.box 214 (.agg (List.replicate 64 (.int .u32 0)).toArray) fun v5'20 =>
 S.rck [S.ldN 8 v2 (fun v' _ => v' = v21)] <|
 S.st 64 v5'20 v19'6 fun _ =>
 S.rck [S.ldN 8 v2 (fun v' _ => v' = v21)] <|
 S.st 64 v6'25 v20'30 fun _ =>
 S.rck [S.ldN 8 v2 (fun v' _ => v' = v21)] <|
 S.st 8 v7'29 v21 fun _ =>
 K0 v2 v4 v5'20 v6'25 v7'29) (
 S.box 214 (.agg (List.replicate 64 (.int .u32 0)).toArray) fun v5'21 =>
 S.rck [S.ldN 8 v2 (fun v' _ => v' = v21)] <|
 CF Tryz.prog 154 [] fun v20'31 =>
 S.rck [S.ldN 8 v2 (fun v' _ => v' = v21)] <|
 S.st 64 v5'21 v19'6 fun _ =>
 S.rck [S.ldN 8 v2 (fun v' _ => v' = v21)] <|
 S.st 64 v6'25 v20'31 fun _ =>
 S.rck [S.ldN 8 v2 (fun v' _ => v' = v21)] <|
 S.st 8 v7'29 v21 fun _ =>
 K0 v2 v4 v5'21 v6'25 v7'29)))) (
 S.both (
 S.box 214 (.agg (List.replicate 64 (.int .u32 0)).toArray) fun v5'22 =>
 S.rck [S.ldN 8 v2 (fun v' _ => v' = v21)] <|
 S.both (
 CF Tryz.prog 153 [v1] fun v19'7 =>
 S.rck [S.ldN 8 v2 (fun v' _ => v' = v21)] <|
 S.both (
 CF Tryz.prog 154 [] fun v20'32 =>
 S.rck [S.ldN 8 v2 (fun v' _ => v' = v21)] <|
 S.box 189 (.agg #[(.int .u32 0), (.int .u32 0), (.int .u32 0), (.int .u32 0), (.int .u32 0), (.int .u32 0), (.int .u32 0), (.int .u32 0)]) fun v7'30 =>
 S.rck [S.ldN 8 v2 (fun v' _ => v' = v21)] <|
 S.st 64 v5'22 v19'7 fun _ =>
 S.rck [S.ldN 8 v2 (fun v' _ => v' = v21)] <|
 S.st 64 v6'25 v20'32 fun _ =>
 S.rck [S.ldN 8 v2 (fun v' _ => v' = v21)] <|
 S.st 8 v7'30 v21 fun _ =>
 K0 v2 v4 v5'22 v6'25 v7'30) (
 S.box 189 (.agg #[(.int .u32 0), (.int .u32 0), (.int .u32 0), (.int .u32 0), (.int .u32 0), (.int .u32 0), (.int .u32 0), (.int .u32 0)]) fun v7'31 =>
 S.rck [S.ldN 8 v2 (fun v' _ => v' = v21)] <|
 CF Tryz.prog 154 [] fun v20'33 =>
 S.rck [S.ldN 8 v2 (fun v' _ => v' = v21)] <|
 S.st 64 v5'22 v19'7 fun _ =>
 S.rck [S.ldN 8 v2 (fun v' _ => v' = v21)] <|
 S.st 64 v6'25 v20'33 fun _ =>
 S.rck [S.ldN 8 v2 (fun v' _ => v' = v21)] <|
 S.st 8 v7'31 v21 fun _ =>
 K0 v2 v4 v5'22 v6'25 v7'31)) (
 S.box 189 (.agg #[(.int .u32 0), (.int .u32 0), (.int .u32 0), (.int .u32 0), (.int .u32 0), (.int .u32 0), (.int .u32 0), (.int .u32 0)]) fun v7'32 =>
 S.rck [S.ldN 8 v2 (fun v' _ => v' = v21)] <|
 CF Tryz.prog 153 [v1] fun v19'8 =>
 S.rck [S.ldN 8 v2 (fun v' _ => v' = v21)] <|
 CF Tryz.prog 154 [] fun v20'34 =>
 S.rck [S.ldN 8 v2 (fun v' _ => v' = v21)] <|
 S.st 64 v5'22 v19'8 fun _ =>
 S.rck [S.ldN 8 v2 (fun v' _ => v' = v21)] <|
 S.st 64 v6'25 v20'34 fun _ =>
 S.rck [S.ldN 8 v2 (fun v' _ => v' = v21)] <|
 S.st 8 v7'32 v21 fun _ =>
 K0 v2 v4 v5'22 v6'25 v7'32)) (
 S.box 189 (.agg #[(.int .u32 0), (.int .u32 0), (.int .u32 0), (.int .u32 0), (.int .u32 0), (.int .u32 0), (.int .u32 0), (.int .u32 0)]) fun v7'33 =>
 S.rck [S.ldN 8 v2 (fun v' _ => v' = v21)] <|
 S.both (
 CF Tryz.prog 153 [v1] fun v19'9 =>
 S.rck [S.ldN 8 v2 (fun v' _ => v' = v21)] <|
 S.both (
 CF Tryz.prog 154 [] fun v20'35 =>
 S.rck [S.ldN 8 v2 (fun v' _ => v' = v21)] <|
 S.box 214 (.agg (List.replicate 64 (.int .u32 0)).toArray) fun v5'23 =>
 S.rck [S.ldN 8 v2 (fun v' _ => v' = v21)] <|
 S.st 64 v5'23 v19'9 fun _ =>
 S.rck [S.ldN 8 v2 (fun v' _ => v' = v21)] <|
 S.st 64 v6'25 v20'35 fun _ =>
 S.rck [S.ldN 8 v2 (fun v' _ => v' = v21)] <|
 S.st 8 v7'33 v21 fun _ =>
 K0 v2 v4 v5'23 v6'25 v7'33) (
 S.box 214 (.agg (List.replicate 64 (.int .u32 0)).toArray) fun v5'24 =>
 S.rck [S.ldN 8 v2 (fun v' _ => v' = v21)] <|
 CF Tryz.prog 154 [] fun v20'36 =>
 S.rck [S.ldN 8 v2 (fun v' _ => v' = v21)] <|
 S.st 64 v5'24 v19'9 fun _ =>
 S.rck [S.ldN 8 v2 (fun v' _ => v' = v21)] <|
 S.st 64 v6'25 v20'36 fun _ =>
 S.rck [S.ldN 8 v2 (fun v' _ => v' = v21)] <|
 S.st 8 v7'33 v21 fun _ =>
 K0 v2 v4 v5'24 v6'25 v7'33)) (
 S.box 214 (.agg (List.replicate 64 (.int .u32 0)).toArray) fun v5'25 =>
 S.rck [S.ldN 8 v2 (fun v' _ => v' = v21)] <|
 CF Tryz.prog 153 [v1] fun v19'10 =>
 S.rck [S.ldN 8 v2 (fun v' _ => v' = v21)] <|
 CF Tryz.prog 154 [] fun v20'37 =>
 S.rck [S.ldN 8 v2 (fun v' _ => v' = v21)] <|
 S.st 64 v5'25 v19'10 fun _ =>
 S.rck [S.ldN 8 v2 (fun v' _ => v' = v21)] <|
 S.st 64 v6'25 v20'37 fun _ =>
 S.rck [S.ldN 8 v2 (fun v' _ => v' = v21)] <|
 S.st 8 v7'33 v21 fun _ =>
 K0 v2 v4 v5'25 v6'25 v7'33)))) (
 S.box 189 (.agg #[(.int .u32 0), (.int .u32 0), (.int .u32 0), (.int .u32 0), (.int .u32 0), (.int .u32 0), (.int .u32 0), (.int .u32 0)]) fun v7'34 =>
 S.rck [S.ldN 8 v2 (fun v' _ => v' = v21)] <|
 S.both (
 CF Tryz.prog 153 [v1] fun v19'11 =>
 S.rck [S.ldN 8 v2 (fun v' _ => v' = v21)] <|
 S.both (
 CF Tryz.prog 154 [] fun v20'38 =>
 S.rck [S.ldN 8 v2 (fun v' _ => v' = v21)] <|
 S.both (
 S.box 214 (.agg (List.replicate 64 (.int .u32 0)).toArray) fun v5'26 =>
 S.rck [S.ldN 8 v2 (fun v' _ => v' = v21)] <|
 S.box 214 (.agg (List.replicate 64 (.int .u32 0)).toArray) fun v6'26 =>
 S.rck [S.ldN 8 v2 (fun v' _ => v' = v21)] <|
 S.st 64 v5'26 v19'11 fun _ =>
 S.rck [S.ldN 8 v2 (fun v' _ => v' = v21)] <|
 S.st 64 v6'26 v20'38 fun _ =>
 S.rck [S.ldN 8 v2 (fun v' _ => v' = v21)] <|
 S.st 8 v7'34 v21 fun _ =>
 K0 v2 v4 v5'26 v6'26 v7'34) (
 S.box 214 (.agg (List.replicate 64 (.int .u32 0)).toArray) fun v6'27 =>
 S.rck [S.ldN 8 v2 (fun v' _ => v' = v21)] <|
 S.box 214 (.agg (List.replicate 64 (.int .u32 0)).toArray) fun v5'27 =>
 S.rck [S.ldN 8 v2 (fun v' _ => v' = v21)] <|
 S.st 64 v5'27 v19'11 fun _ =>
 S.rck [S.ldN 8 v2 (fun v' _ => v' = v21)] <|
 S.st 64 v6'27 v20'38 fun _ =>
 S.rck [S.ldN 8 v2 (fun v' _ => v' = v21)] <|
 S.st 8 v7'34 v21 fun _ =>
 K0 v2 v4 v5'27 v6'27 v7'34)) (
 S.both (
 S.box 214 (.agg (List.replicate 64 (.int .u32 0)).toArray) fun v5'28 =>
 S.rck [S.ldN 8 v2 (fun v' _ => v' = v21)] <|
 S.both (
 CF Tryz.prog 154 [] fun v20'39 =>
 S.rck [S.ldN 8 v2 (fun v' _ => v' = v21)] <|
 S.box 214 (.agg (List.replicate 64 (.int .u32 0)).toArray) fun v6'28 =>
 S.rck [S.ldN 8 v2 (fun v' _ => v' = v21)] <|
 S.st 64 v5'28 v19'11 fun _ =>
 S.rck [S.ldN 8 v2 (fun v' _ => v' = v21)] <|
 S.st 64 v6'28 v20'39 fun _ =>
 S.rck [S.ldN 8 v2 (fun v' _ => v' = v21)] <|
 S.st 8 v7'34 v21 fun _ =>
 K0 v2 v4 v5'28 v6'28 v7'34) (
 S.box 214 (.agg (List.replicate 64 (.int .u32 0)).toArray) fun v6'29 =>
 S.rck [S.ldN 8 v2 (fun v' _ => v' = v21)] <|
 CF Tryz.prog 154 [] fun v20'40 =>
 S.rck [S.ldN 8 v2 (fun v' _ => v' = v21)] <|
 S.st 64 v5'28 v19'11 fun _ =>
 S.rck [S.ldN 8 v2 (fun v' _ => v' = v21)] <|
 S.st 64 v6'29 v20'40 fun _ =>
 S.rck [S.ldN 8 v2 (fun v' _ => v' = v21)] <|
 S.st 8 v7'34 v21 fun _ =>
 K0 v2 v4 v5'28 v6'29 v7'34)) (
 S.box 214 (.agg (List.replicate 64 (.int .u32 0)).toArray) fun v6'30 =>
 S.rck [S.ldN 8 v2 (fun v' _ => v' = v21)] <|
 S.both (
 CF Tryz.prog 154 [] fun v20'41 =>
 S.rck [S.ldN 8 v2 (fun v' _ => v' = v21)] <|
 S.box 214 (.agg (List.replicate 64 (.int .u32 0)).toArray) fun v5'29 =>
 S.rck [S.ldN 8 v2 (fun v' _ => v' = v21)] <|
 S.st 64 v5'29 v19'11 fun _ =>
 S.rck [S.ldN 8 v2 (fun v' _ => v' = v21)] <|
 S.st 64 v6'30 v20'41 fun _ =>
 S.rck [S.ldN 8 v2 (fun v' _ => v' = v21)] <|
 S.st 8 v7'34 v21 fun _ =>
 K0 v2 v4 v5'29 v6'30 v7'34) (
 S.box 214 (.agg (List.replicate 64 (.int .u32 0)).toArray) fun v5'30 =>
 S.rck [S.ldN 8 v2 (fun v' _ => v' = v21)] <|
 CF Tryz.prog 154 [] fun v20'42 =>
 S.rck [S.ldN 8 v2 (fun v' _ => v' = v21)] <|
 S.st 64 v5'30 v19'11 fun _ =>
 S.rck [S.ldN 8 v2 (fun v' _ => v' = v21)] <|
 S.st 64 v6'30 v20'42 fun _ =>
 S.rck [S.ldN 8 v2 (fun v' _ => v' = v21)] <|
 S.st 8 v7'34 v21 fun _ =>
 K0 v2 v4 v5'30 v6'30 v7'34)))) (
 S.both (
 S.box 214 (.agg (List.replicate 64 (.int .u32 0)).toArray) fun v5'31 =>
 S.rck [S.ldN 8 v2 (fun v' _ => v' = v21)] <|
 S.both (
 CF Tryz.prog 153 [v1] fun v19'12 =>
 S.rck [S.ldN 8 v2 (fun v' _ => v' = v21)] <|
 S.both (
 CF Tryz.prog 154 [] fun v20'43 =>
 S.rck [S.ldN 8 v2 (fun v' _ => v' = v21)] <|
 S.box 214 (.agg (List.replicate 64 (.int .u32 0)).toArray) fun v6'31 =>
 S.rck [S.ldN 8 v2 (fun v' _ => v' = v21)] <|
 S.st 64 v5'31 v19'12 fun _ =>
 S.rck [S.ldN 8 v2 (fun v' _ => v' = v21)] <|
 S.st 64 v6'31 v20'43 fun _ =>
 S.rck [S.ldN 8 v2 (fun v' _ => v' = v21)] <|
 S.st 8 v7'34 v21 fun _ =>
 K0 v2 v4 v5'31 v6'31 v7'34) (
 S.box 214 (.agg (List.replicate 64 (.int .u32 0)).toArray) fun v6'32 =>
 S.rck [S.ldN 8 v2 (fun v' _ => v' = v21)] <|
 CF Tryz.prog 154 [] fun v20'44 =>
 S.rck [S.ldN 8 v2 (fun v' _ => v' = v21)] <|
 S.st 64 v5'31 v19'12 fun _ =>
 S.rck [S.ldN 8 v2 (fun v' _ => v' = v21)] <|
 S.st 64 v6'32 v20'44 fun _ =>
 S.rck [S.ldN 8 v2 (fun v' _ => v' = v21)] <|
 S.st 8 v7'34 v21 fun _ =>
 K0 v2 v4 v5'31 v6'32 v7'34)) (
 S.box 214 (.agg (List.replicate 64 (.int .u32 0)).toArray) fun v6'33 =>
 S.rck [S.ldN 8 v2 (fun v' _ => v' = v21)] <|
 CF Tryz.prog 153 [v1] fun v19'13 =>
 S.rck [S.ldN 8 v2 (fun v' _ => v' = v21)] <|
 CF Tryz.prog 154 [] fun v20'45 =>
 S.rck [S.ldN 8 v2 (fun v' _ => v' = v21)] <|
 S.st 64 v5'31 v19'13 fun _ =>
 S.rck [S.ldN 8 v2 (fun v' _ => v' = v21)] <|
 S.st 64 v6'33 v20'45 fun _ =>
 S.rck [S.ldN 8 v2 (fun v' _ => v' = v21)] <|
 S.st 8 v7'34 v21 fun _ =>
 K0 v2 v4 v5'31 v6'33 v7'34)) (
 S.box 214 (.agg (List.replicate 64 (.int .u32 0)).toArray) fun v6'34 =>
 S.rck [S.ldN 8 v2 (fun v' _ => v' = v21)] <|
 S.both (
 CF Tryz.prog 153 [v1] fun v19'14 =>
 S.rck [S.ldN 8 v2 (fun v' _ => v' = v21)] <|
 S.both (
 CF Tryz.prog 154 [] fun v20'46 =>
 S.rck [S.ldN 8 v2 (fun v' _ => v' = v21)] <|
 S.box 214 (.agg (List.replicate 64 (.int .u32 0)).toArray) fun v5'32 =>
 S.rck [S.ldN 8 v2 (fun v' _ => v' = v21)] <|
 S.st 64 v5'32 v19'14 fun _ =>
 S.rck [S.ldN 8 v2 (fun v' _ => v' = v21)] <|
 S.st 64 v6'34 v20'46 fun _ =>
 S.rck [S.ldN 8 v2 (fun v' _ => v' = v21)] <|
 S.st 8 v7'34 v21 fun _ =>
 K0 v2 v4 v5'32 v6'34 v7'34) (
 S.box 214 (.agg (List.replicate 64 (.int .u32 0)).toArray) fun v5'33 =>
 S.rck [S.ldN 8 v2 (fun v' _ => v' = v21)] <|
 CF Tryz.prog 154 [] fun v20'47 =>
 S.rck [S.ldN 8 v2 (fun v' _ => v' = v21)] <|
 S.st 64 v5'33 v19'14 fun _ =>
 S.rck [S.ldN 8 v2 (fun v' _ => v' = v21)] <|
 S.st 64 v6'34 v20'47 fun _ =>
 S.rck [S.ldN 8 v2 (fun v' _ => v' = v21)] <|
 S.st 8 v7'34 v21 fun _ =>
 K0 v2 v4 v5'33 v6'34 v7'34)) (
 S.box 214 (.agg (List.replicate 64 (.int .u32 0)).toArray) fun v5'34 =>
 S.rck [S.ldN 8 v2 (fun v' _ => v' = v21)] <|
 CF Tryz.prog 153 [v1] fun v19'15 =>
 S.rck [S.ldN 8 v2 (fun v' _ => v' = v21)] <|
 CF Tryz.prog 154 [] fun v20'48 =>
 S.rck [S.ldN 8 v2 (fun v' _ => v' = v21)] <|
 S.st 64 v5'34 v19'15 fun _ =>
 S.rck [S.ldN 8 v2 (fun v' _ => v' = v21)] <|
 S.st 64 v6'34 v20'48 fun _ =>
 S.rck [S.ldN 8 v2 (fun v' _ => v' = v21)] <|
 S.st 8 v7'34 v21 fun _ =>
 K0 v2 v4 v5'34 v6'34 v7'34)))))))
 <| fun v2' v4' v5'35 v6'35 v7'35 => S.fa fun _ =>
 S.loop 6 (fun K1 => fun v2'2 v4'2 v5'36 v6'36 v7'36 v22 => S.fa fun _ =>
 S.bin .lss v22 (I 64) fun v23 =>
 S.cond v23 (
 S.dr <|
 S.ixA 8 1 v7'36 (I 0) fun v25 =>
 S.ld v25 fun v26 =>
 S.ixA 8 1 v7'36 (I 1) fun v27 =>
 S.ld v27 fun v28 =>
 S.ixA 8 1 v7'36 (I 2) fun v29 =>
 S.ld v29 fun v30 =>
 S.ixA 8 1 v7'36 (I 4) fun v31 =>
 S.ld v31 fun v32 =>
 S.ixA 8 1 v7'36 (I 5) fun v33 =>
 S.ld v33 fun v34 =>
 S.ixA 8 1 v7'36 (I 6) fun v35 =>
 S.ld v35 fun v36 =>
 S.dr <|
 S.ixA 8 1 v7'36 (I 7) fun v37 =>
 S.ld v37 fun v38 =>
 S.bin .xor v34 v36 fun v52 =>
 S.bin .and v32 v52 fun v53 =>
 S.bin .xor v36 v53 fun v54 =>
 S.ixA 64 1 v6'36 v22 fun v57 =>
 S.ld v57 fun v58 =>
 S.ixA 64 1 v5'36 v22 fun v61 =>
 S.ld v61 fun v62 =>
 CF Tryz.prog 155 [v32, (I 6)] fun v40 =>
 S.rck [S.ld v61 (fun v' _ => v' = v62), S.ld v57 (fun v' _ => v' = v58), S.ld v37 (fun v' _ => v' = v38)] <|
 CF Tryz.prog 155 [v32, (I 11)] fun v42 =>
 S.rck [S.ld v61 (fun v' _ => v' = v62), S.ld v57 (fun v' _ => v' = v58), S.ld v37 (fun v' _ => v' = v38)] <|
 S.bin .xor v40 v42 fun v43 =>
 CF Tryz.prog 155 [v32, (I 25)] fun v45 =>
 S.rck [S.ld v61 (fun v' _ => v' = v62), S.ld v57 (fun v' _ => v' = v58), S.ld v37 (fun v' _ => v' = v38)] <|
 S.bin .xor v43 v45 fun v46 =>
 S.bin .add v38 v46 fun v47 =>
 S.bin .add v47 v54 fun v55 =>
 S.bin .add v55 v58 fun v59 =>
 S.bin .add v59 v62 fun v63 =>
 CF Tryz.prog 155 [v26, (I 2)] fun v65 =>
 CF Tryz.prog 155 [v26, (I 13)] fun v67 =>
 S.bin .xor v65 v67 fun v68 =>
 CF Tryz.prog 155 [v26, (I 22)] fun v70 =>
 S.bin .xor v68 v70 fun v71 =>
 S.bin .or v28 v30 fun v75 =>
 S.bin .and v26 v75 fun v76 =>
 S.bin .and v28 v30 fun v79 =>
 S.bin .or v76 v79 fun v80 =>
 S.bin .add v71 v80 fun v81 =>
 S.bin .add v63 v81 fun v84 =>
 S.ixA 8 1 v7'36 (I 3) fun v88 =>
 S.ld v88 fun v89 =>
 S.bin .add v89 v63 fun v91 =>
 V Tryz.prog (Instr.build 189 #[(0, v84), (1, v26), (2, v28), (3, v30), (4, v91), (5, v32), (6, v34), (7, v36)]) fun v95 =>
 S.st 8 v7'36 v95 fun _ =>
 S.bin .add v22 (I 1) fun v96 =>
 K1 v2'2 v4'2 v5'36 v6'36 v7'36 v96) (
 S.loop 4 (fun K2 => fun v2'3 v4'3 v7'37 v97 => S.fa fun _ =>
 S.bin .lss v97 (I 8) fun v98 =>
 S.cond v98 (
 S.dr <|
 S.ixA 8 1 v2'3 v97 fun v101 =>
 S.ld v101 fun v102 =>
 S.ixA 8 1 v7'37 v97 fun v104 =>
 S.ld v104 fun v105 =>
 S.bin .add v102 v105 fun v106 =>
 S.ixA 8 1 v2'3 v97 fun v107 =>
 S.st 1 v107 v106 fun _ =>
 S.bin .add v97 (I 1) fun v108 =>
 K2 v2'3 v4'3 v7'37 v108) (
 S.ldN 8 v2'3 fun v109 =>
 S.st 8 v4'3 v109 fun _ =>
 S.ldN 8 v4'3 fun v4'4 =>
 K v4'4))
 [v2'2, v4'2, v7'36, (I 0)]))
 [v2', v4', v5'35, v6'35, v7'35, (I 0)]
theorem e129 [Amb] (v0 v1 : Value) (K : Value → WT) : s129 v0 v1 K = shal Tryz.prog Tryz.f129 .p a129 [v0, v1] K := by kernel_rfl
theorem c129 [Amb] {v0 v1 : Value} {K : Value → WT} {w : World} (h : s129 v0 v1 K w) : CF Tryz.prog 129 [v0, v1] K w := shal_sound Tryz.func129 (e129 v0 v1 K ▸ h)
def a130 : Ann := .seq (.z) (.seq (.z) (.z))
def s130 [Amb] (n_0 : Value) (K : Value → WT) : WT :=
 S.bin .geq n_0 (I 0) fun v4 =>
 S.gd v4 true (fun k => k n_0) fun v6 =>
 S.gd v4 true (S.bin .leq v6 (I 9007199254740991)) fun v7 =>
 S.pick v4 v7 (B false) fun v8 =>
 K v8
theorem e130 [Amb] (n_0 : Value) (K : Value → WT) : s130 n_0 K = shal Tryz.prog Tryz.f130 .p a130 [n_0] K := by kernel_rfl
theorem c130 [Amb] {n_0 : Value} {K : Value → WT} {w : World} (h : s130 n_0 K w) : CF Tryz.prog 130 [n_0] K w := shal_sound Tryz.func130 (e130 n_0 K ▸ h)
def a131 : Ann := .seq (.z) (.seq (.seq (.z) (.blk (.loop [0, 1, 7, 8] (.seq (.z) (.seq (.cond (.z) (.z)) (.seq (.blk (.seq (.z) (.seq (.z) (.cond (.seq (.z) (.z)) (.z))))) (.z))))))) (.seq (.z) (.z)))
def s131 [Amb] (s_0 f_1 : Value) (K : Value → WT) : WT :=
 S.len s_0 fun v7 =>
 S.loop 4 (fun K0 => fun s_0' f_1' v7' v8 => S.fa fun _ =>
 S.bin .lss v8 v7' fun v9 =>
 S.cond v9 (
 S.ixS 1 s_0' v8 fun v14 =>
 S.ld v14 fun v15 =>
 S.cvv Tryz.prog f_1' [v15] fun v16 =>
 S.cond v16 (
 K v8) (
 S.bin .add v8 (I 1) fun v18 =>
 K0 s_0' f_1' v7' v18)) (
 K (I (-1))))
 [s_0, f_1, v7, (I 0)]
theorem e131 [Amb] (s_0 f_1 : Value) (K : Value → WT) : s131 s_0 f_1 K = shal Tryz.prog Tryz.f131 .p a131 [s_0, f_1] K := by kernel_rfl
theorem c131 [Amb] {s_0 f_1 : Value} {K : Value → WT} {w : World} (h : s131 s_0 f_1 K w) : CF Tryz.prog 131 [s_0, f_1] K w := shal_sound Tryz.func131 (e131 s_0 f_1 K ▸ h)
def a132 : Ann := .seq (.z) (.join [0, 1] (.seq (.z) (.cond (.z) (.z))) (.join [0] (.seq (.z) (.seq (.z) (.cond (.z) (.z)))) (.seq (.z) (.z))))
def s132 [Amb] (s_0 n_1 : Value) (K : Value → WT) : WT :=
 S.join 2 (fun K0 =>
 S.bin .lss n_1 (I 0) fun v6 =>
 S.cond v6 (
 S.pan (.iface 9 (.string ⟨#[99, 97, 110, 110, 111, 116, 32, 98, 101, 32, 110, 101, 103, 97, 116, 105, 118, 101]⟩))) (
 K0 s_0 n_1))
 <| fun s_0' n_1' => S.fa fun _ =>
 S.join 1 (fun K1 =>
 S.cap s_0' fun v10 =>
 S.len s_0' fun v12 =>
 S.bin .sub v10 v12 fun v13 =>
 S.bin .sub n_1' v13 fun v14 =>
 S.bin .gtr v14 (I 0) fun v16 =>
 S.cond v16 (
 S.cap s_0' fun v19 =>
 S.slc 2 s_0' none (some v19) none fun v20 =>
 V Tryz.prog (Builtin.append_ #[125, 3] 125 #[v20, v14]) fun v22 =>
 S.len s_0' fun v24 =>
 S.slc 2 v22 none (some v24) none fun v25 =>
 K1 v25) (
 K1 s_0'))
 <| fun s_0'2 => S.fa fun _ =>
 K s_0'2
theorem e132 [Amb] (s_0 n_1 : Value) (K : Value → WT) : s132 s_0 n_1 K = shal Tryz.prog Tryz.f132 .p a132 [s_0, n_1] K := by kernel_rfl
theorem c132 [Amb] {s_0 n_1 : Value} {K : Value → WT} {w : World} (h : s132 s_0 n_1 K w) : CF Tryz.prog 132 [s_0, n_1] K w := shal_sound Tryz.func132 (e132 s_0 n_1 K ▸ h)
def a153 : Ann := .seq (.z) (.seq (.z) (.seq (.seq (.z) (.blk (.loop [0, 2, 3, 10] (.seq (.z) (.seq (.cond (.z) (.z)) (.seq (.blk (.seq (.z) (.seq (.z) (.blk (.loop [0, 2, 3, 4, 10, 19, 20, 21] (.seq (.z) (.seq (.cond (.z) (.z)) (.seq (.blk (.seq (.z) (.z))) (.z))))))))) (.z))))))) (.seq (.seq (.z) (.blk (.loop [2, 3, 7] (.seq (.seq (.z) (.cond (.z) (.z))) (.seq (.blk (.seq (.draw [0, 1, 2, 3, 4, 5, 6, 7, 8, 9]) (.draw [0, 1, 2, 3, 4, 5, 7, 10, 11, 14, 15, 16, 17, 19, 21, 24, 25, 6, 8, 9, 12, 13, 18, 20, 22, 23, 26, 27, 28, 29]))) (.z)))))) (.seq (.z) (.z)))))
def s153 [Amb] (v0 : Value) (K : Value → WT) : WT :=
 S.box 214 (.agg (List.replicate 64 (.int .u32 0)).toArray) fun v2 =>
 S.box 214 (.agg (List.replicate 64 (.int .u32 0)).toArray) fun v3 =>
 S.loop 4 (fun K0 => fun v0' v2' v3' v10 => S.fa fun _ =>
 S.bin .lss v10 (I 16) fun v11 =>
 S.cond v11 (
 S.bin .mul (I 4) v10 fun v15 =>
 S.bin .mul (I 4) v10 fun v17 =>
 S.bin .add v17 (I 4) fun v18 =>
 S.slc 1 v0' (some v15) (some v18) none fun v19 =>
 S.len v19 fun v20 =>
 S.loop 8 (fun K1 => fun v0'2 v2'2 v3'2 v4 v10' v19' v20' v21 => S.fa fun _ =>
 S.bin .lss v21 v20' fun v22 =>
 S.cond v22 (
 S.ixS 1 v19' v21 fun v23 =>
 S.ld v23 fun v24 =>
 S.ixA 64 1 v3'2 v4 fun v27 =>
 S.ld v27 fun v28 =>
 S.sh .shl v28 (.int .u64 8) fun v29 =>
 S.cvt .u32 v24 fun v31 =>
 S.bin .or v29 v31 fun v32 =>
 S.ixA 64 1 v3'2 v4 fun v33 =>
 S.st 1 v33 v32 fun _ =>
 S.bin .add v21 (I 1) fun v34 =>
 K1 v0'2 v2'2 v3'2 v4 v10' v19' v20' v34) (
 S.bin .add v10' (I 1) fun v35 =>
 K0 v0'2 v2'2 v3'2 v35))
 [v0', v2', v3', v10, v10, v19, v20, (I 0)]) (
 S.loop 3 (fun K2 => fun v2'3 v3'3 v7 => S.fa fun _ =>
 S.bin .lss v7 (I 64) fun v37 =>
 S.cond v37 (
 S.dr <|
 S.bin .sub v7 (I 15) fun v41 =>
 S.ixA 64 1 v3'3 v41 fun v42 =>
 S.ld v42 fun v43 =>
 S.bin .sub v7 (I 2) fun v45 =>
 S.ixA 64 1 v3'3 v45 fun v46 =>
 S.ld v46 fun v47 =>
 S.dr <|
 S.bin .sub v7 (I 16) fun v50 =>
 S.ixA 64 1 v3'3 v50 fun v51 =>
 S.ld v51 fun v52 =>
 S.sh .shr v43 (.int .u64 3) fun v59 =>
 S.bin .sub v7 (I 7) fun v63 =>
 S.ixA 64 1 v3'3 v63 fun v64 =>
 S.ld v64 fun v65 =>
 S.sh .shr v47 (.int .u64 10) fun v73 =>
 CF Tryz.prog 155 [v43, (I 7)] fun v54 =>
 S.rck [S.ld v64 (fun v' _ => v' = v65), S.ld v51 (fun v' _ => v' = v52)] <|
 CF Tryz.prog 155 [v43, (I 18)] fun v56 =>
 S.rck [S.ld v64 (fun v' _ => v' = v65), S.ld v51 (fun v' _ => v' = v52)] <|
 S.bin .xor v54 v56 fun v57 =>
 S.bin .xor v57 v59 fun v60 =>
 S.bin .add v52 v60 fun v61 =>
 S.bin .add v61 v65 fun v66 =>
 CF Tryz.prog 155 [v47, (I 17)] fun v68 =>
 S.rck [S.ld v64 (fun v' _ => v' = v65), S.ld v51 (fun v' _ => v' = v52)] <|
 CF Tryz.prog 155 [v47, (I 19)] fun v70 =>
 S.rck [S.ld v64 (fun v' _ => v' = v65), S.ld v51 (fun v' _ => v' = v52)] <|
 S.bin .xor v68 v70 fun v71 =>
 S.bin .xor v71 v73 fun v74 =>
 S.bin .add v66 v74 fun v75 =>
 S.ixA 64 1 v3'3 v7 fun v76 =>
 S.st 1 v76 v75 fun _ =>
 S.bin .add v7 (I 1) fun v39 =>
 K2 v2'3 v3'3 v39) (
 S.ldN 64 v3'3 fun v77 =>
 S.st 64 v2'3 v77 fun _ =>
 S.ldN 64 v2'3 fun v2'4 =>
 K v2'4))
 [v2', v3', (I 16)]))
 [v0, v2, v3, (I 0)]
theorem e153 [Amb] (v0 : Value) (K : Value → WT) : s153 v0 K = shal Tryz.prog Tryz.f153 .p a153 [v0] K := by kernel_rfl
theorem c153 [Amb] {v0 : Value} {K : Value → WT} {w : World} (h : s153 v0 K w) : CF Tryz.prog 153 [v0] K w := shal_sound Tryz.func153 (e153 v0 K ▸ h)
def a154 : Ann := .seq (.z) (.seq (.z) (.z))
def s154 [Amb] (K : Value → WT) : WT :=
 S.box 214 (.agg (List.replicate 64 (.int .u32 0)).toArray) fun v0 =>
 V Tryz.prog (Instr.build 214 #[(0, (.int .u32 1116352408)), (1, (.int .u32 1899447441)), (2, (.int .u32 3049323471)), (3, (.int .u32 3921009573)), (4, (.int .u32 961987163)), (5, (.int .u32 1508970993)), (6, (.int .u32 2453635748)), (7, (.int .u32 2870763221)), (8, (.int .u32 3624381080)), (9, (.int .u32 310598401)), (10, (.int .u32 607225278)), (11, (.int .u32 1426881987)), (12, (.int .u32 1925078388)), (13, (.int .u32 2162078206)), (14, (.int .u32 2614888103)), (15, (.int .u32 3248222580)), (16, (.int .u32 3835390401)), (17, (.int .u32 4022224774)), (18, (.int .u32 264347078)), (19, (.int .u32 604807628)), (20, (.int .u32 770255983)), (21, (.int .u32 1249150122)), (22, (.int .u32 1555081692)), (23, (.int .u32 1996064986)), (24, (.int .u32 2554220882)), (25, (.int .u32 2821834349)), (26, (.int .u32 2952996808)), (27, (.int .u32 3210313671)), (28, (.int .u32 3336571891)), (29, (.int .u32 3584528711)), (30, (.int .u32 113926993)), (31, (.int .u32 338241895)), (32, (.int .u32 666307205)), (33, (.int .u32 773529912)), (34, (.int .u32 1294757372)), (35, (.int .u32 1396182291)), (36, (.int .u32 1695183700)), (37, (.int .u32 1986661051)), (38, (.int .u32 2177026350)), (39, (.int .u32 2456956037)), (40, (.int .u32 2730485921)), (41, (.int .u32 2820302411)), (42, (.int .u32 3259730800)), (43, (.int .u32 3345764771)), (44, (.int .u32 3516065817)), (45, (.int .u32 3600352804)), (46, (.int .u32 4094571909)), (47, (.int .u32 275423344)), (48, (.int .u32 430227734)), (49, (.int .u32 506948616)), (50, (.int .u32 659060556)), (51, (.int .u32 883997877)), (52, (.int .u32 958139571)), (53, (.int .u32 1322822218)), (54, (.int .u32 1537002063)), (55, (.int .u32 1747873779)), (56, (.int .u32 1955562222)), (57, (.int .u32 2024104815)), (58, (.int .u32 2227730452)), (59, (.int .u32 2361852424)), (60, (.int .u32 2428436474)), (61, (.int .u32 2756734187)), (62, (.int .u32 3204031479)), (63, (.int .u32 3329325298))]) fun v1 =>
 S.st 64 v0 v1 fun _ =>
 S.ldN 64 v0 fun v0' =>
 K v0'
theorem e154 [Amb] (K : Value → WT) : s154  K = shal Tryz.prog Tryz.f154 .p a154 [] K := by kernel_rfl
theorem c154 [Amb] {K : Value → WT} {w : World} (h : s154  K w) : CF Tryz.prog 154 [] K w := shal_sound Tryz.func154 (e154  K ▸ h)
def a155 : Ann := .seq (.z) (.seq (.z) (.z))
def s155 [Amb] (x_0 n_1 : Value) (K : Value → WT) : WT :=
 S.neg1 n_1 fun v7 =>
 CF Tryz.prog 165 [x_0, v7] fun v8 =>
 K v8
theorem e155 [Amb] (x_0 n_1 : Value) (K : Value → WT) : s155 x_0 n_1 K = shal Tryz.prog Tryz.f155 .p a155 [x_0, n_1] K := by kernel_rfl
theorem c155 [Amb] {x_0 n_1 : Value} {K : Value → WT} {w : World} (h : s155 x_0 n_1 K w) : CF Tryz.prog 155 [x_0, n_1] K w := shal_sound Tryz.func155 (e155 x_0 n_1 K ▸ h)
def a165 : Ann := .seq (.z) (.seq (.z) (.seq (.z) (.z)))
def s165 [Amb] (x_0 k_1 : Value) (K : Value → WT) : WT :=
 S.cvt .u64 k_1 fun v7 =>
 S.bin .and v7 (.int .u64 31) fun v8 =>
 S.sh .shl x_0 v8 fun v11 =>
 S.bin .sub (.int .u64 32) v8 fun v14 =>
 S.sh .shr x_0 v14 fun v15 =>
 S.bin .or v11 v15 fun v16 =>
 K v16
theorem e165 [Amb] (x_0 k_1 : Value) (K : Value → WT) : s165 x_0 k_1 K = shal Tryz.prog Tryz.f165 .p a165 [x_0, k_1] K := by kernel_rfl
theorem c165 [Amb] {x_0 k_1 : Value} {K : Value → WT} {w : World} (h : s165 x_0 k_1 K w) : CF Tryz.prog 165 [x_0, k_1] K w := shal_sound Tryz.func165 (e165 x_0 k_1 K ▸ h)
end Go.Proofs.YtmbfmkiagdhcoaaGreat.Sh
end
