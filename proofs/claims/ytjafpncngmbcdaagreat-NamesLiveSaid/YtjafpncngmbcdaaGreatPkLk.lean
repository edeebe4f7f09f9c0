/-
  Part 11: ShV.
-/
import Derived.Test.YtjafpncngmbcdaaGreatProg
import Derived.KernelRfl
import Derived.Test.YtjafpncngmbcdaaGreatPkLd
set_option linter.unusedSimpArgs false
set_option linter.unusedVariables false
set_option linter.unusedSectionVars false
section
namespace Go.Proofs.YtjafpncngmbcdaaGreat.Sh
open Go Go.SL Go.Proofs
set_option maxRecDepth 100000
def a103 : Ann := .seq (.z) (.seq (.z) (.seq (.blk (.loop [0, 1, 2, 6, 7, 8] (.seq (.seq (.z) (.cond (.z) (.z))) (.blk (.seq (.z) (.seq (.z) (.z))))))) (.seq (.z) (.blk (.loop [0, 1, 2, 6] (.seq (.seq (.z) (.cond (.z) (.z))) (.blk (.seq (.z) (.seq (.blk (.loop [0, 1, 2, 6, 7, 8] (.seq (.seq (.z) (.cond (.z) (.z))) (.blk (.seq (.z) (.seq (.z) (.z))))))) (.join [0, 1, 2, 6] (.seq (.z) (.seq (.z) (.cond (.z) (.z)))) (.z)))))))))))
def s103 [Amb] (data_0 n_1 cmp_2 : Value) (K : Value → WT) : WT :=
 S.loop 6 (fun K0 => fun data_0' n_1' cmp_2' blockSize_6 a_7 b_8 => S.fa fun _ =>
 S.bin .leq b_8 n_1' fun v13 =>
 S.cond v13 (
 CF Tryz.prog 132 [data_0', a_7, b_8, cmp_2'] fun v18 =>
 S.bin .add b_8 blockSize_6 fun v22 =>
 K0 data_0' n_1' cmp_2' blockSize_6 b_8 v22) (
 CF Tryz.prog 132 [data_0', a_7, n_1', cmp_2'] fun v27 =>
 S.loop 4 (fun K1 => fun data_0'2 n_1'2 cmp_2'2 blockSize_6' => S.fa fun _ =>
 S.bin .lss blockSize_6' n_1'2 fun v30 =>
 S.cond v30 (
 S.bin .mul (I 2) blockSize_6' fun v32 =>
 S.loop 6 (fun K2 => fun data_0'3 n_1'3 cmp_2'3 blockSize_6'2 a_7' b_8' => S.fa fun _ =>
 S.bin .leq b_8' n_1'3 fun v35 =>
 S.cond v35 (
 S.bin .add a_7' blockSize_6'2 fun v40 =>
 CF Tryz.prog 133 [data_0'3, a_7', v40, b_8', cmp_2'3] fun v43 =>
 S.bin .mul (I 2) blockSize_6'2 fun v47 =>
 S.bin .add b_8' v47 fun v48 =>
 K2 data_0'3 n_1'3 cmp_2'3 blockSize_6'2 b_8' v48) (
 S.join 4 (fun K3 =>
 S.bin .add a_7' blockSize_6'2 fun v51 =>
 S.bin .lss v51 n_1'3 fun v54 =>
 S.cond v54 (
 CF Tryz.prog 133 [data_0'3, a_7', v51, n_1'3, cmp_2'3] fun v60 =>
 K3 data_0'3 n_1'3 cmp_2'3 blockSize_6'2) (
 K3 data_0'3 n_1'3 cmp_2'3 blockSize_6'2))
 <| fun data_0'4 n_1'4 cmp_2'4 blockSize_6'3 => S.fa fun _ =>
 S.bin .mul blockSize_6'3 (I 2) fun v62 =>
 K1 data_0'4 n_1'4 cmp_2'4 v62))
 [data_0'2, n_1'2, cmp_2'2, blockSize_6', (I 0), v32]) (
 K (.tuple #[])))
 [data_0', n_1', cmp_2', blockSize_6]))
 [data_0, n_1, cmp_2, (I 20), (I 0), (I 20)]
theorem e103 [Amb] (data_0 n_1 cmp_2 : Value) (K : Value → WT) : s103 data_0 n_1 cmp_2 K = shal Tryz.prog Tryz.f103 .p a103 [data_0, n_1, cmp_2] K := by kernel_rfl
theorem c103 [Amb] {data_0 n_1 cmp_2 : Value} {K : Value → WT} {w : World} (h : s103 data_0 n_1 cmp_2 K w) : CF Tryz.prog 103 [data_0, n_1, cmp_2] K w := shal_sound Tryz.func103 (e103 data_0 n_1 cmp_2 K ▸ h)
def a132 : Ann := .seq (.z) (.blk (.loop [0, 1, 2, 3, 8] (.seq (.seq (.z) (.cond (.z) (.z))) (.seq (.blk (.seq (.z) (.blk (.loop [0, 1, 2, 3, 8, 9] (.seq (.join [0, 1, 2, 3, 8, 9, 34] (.draw [0, 1, 2, 3, 4, 5, 6, 7, 8, 9, 10, 11, 12, 13, 14, 15, 16]) (.cond (.z) (.z))) (.seq (.blk (.draw [0, 1, 2, 3, 4, 5, 6, 7, 8, 9, 10, 11, 12, 13, 14, 15, 16, 17])) (.z))))))) (.z)))))
def s132 [Amb] (data_0 a_1 b_2 cmp_3 : Value) (K : Value → WT) : WT :=
 S.bin .add a_1 (I 1) fun v11 =>
 S.loop 5 (fun K0 => fun data_0' a_1' b_2' cmp_3' i_8 => S.fa fun _ =>
 S.bin .lss i_8 b_2' fun v14 =>
 S.cond v14 (
 S.loop 6 (fun K1 => fun data_0'2 a_1'2 b_2'2 cmp_3'2 i_8' j_9 => S.fa fun _ =>
 S.join 7 (fun K2 =>
 S.dr <|
 S.bin .gtr j_9 a_1'2 fun v20 =>
 S.gd v20 true (fun k => k cmp_3'2) fun v22 =>
 S.gd v20 true (fun k => k data_0'2) fun v23 =>
 S.gd v20 true (fun k => k j_9) fun v24 =>
 S.gd v20 true (S.ixS 35 v23 v24) fun v25 =>
 S.gd v20 true (S.ldN 35 v25) fun v26 =>
 S.gd v20 true (fun k => k data_0'2) fun v27 =>
 S.gd v20 true (fun k => k j_9) fun v28 =>
 S.gd v20 true (S.bin .sub v28 (I 1)) fun v29 =>
 S.gd v20 true (S.ixS 35 v27 v29) fun v30 =>
 S.gd v20 true (S.ldN 35 v30) fun v31 =>
 S.gd v20 true (S.cvv Tryz.prog v22 [v26, v31]) fun v32 =>
 S.gd v20 true (S.bin .lss v32 (I 0)) fun v33 =>
 S.pick v20 v33 (B false) fun v34 =>
 K2 data_0'2 a_1'2 b_2'2 cmp_3'2 i_8' j_9 v34)
 <| fun data_0'3 a_1'3 b_2'3 cmp_3'3 i_8'2 j_9' v34' => S.fa fun _ =>
 S.cond v34' (
 S.dr <|
 S.bin .sub j_9' (I 1) fun v41 =>
 S.bin .sub j_9' (I 1) fun v44 =>
 S.ixS 35 data_0'3 v44 fun v45 =>
 S.ldN 35 v45 fun v46 =>
 S.ixS 35 data_0'3 j_9' fun v49 =>
 S.ldN 35 v49 fun v50 =>
 S.ixS 35 data_0'3 j_9' fun v51 =>
 S.st 35 v51 v46 fun _ =>
 S.ixS 35 data_0'3 v41 fun v52 =>
 S.st 35 v52 v50 fun _ =>
 S.bin .sub j_9' (I 1) fun v36 =>
 K1 data_0'3 a_1'3 b_2'3 cmp_3'3 i_8'2 v36) (
 S.bin .add i_8'2 (I 1) fun v16 =>
 K0 data_0'3 a_1'3 b_2'3 cmp_3'3 v16))
 [data_0', a_1', b_2', cmp_3', i_8, i_8]) (
 K (.tuple #[])))
 [data_0, a_1, b_2, cmp_3, v11]
theorem e132 [Amb] (data_0 a_1 b_2 cmp_3 : Value) (K : Value → WT) : s132 data_0 a_1 b_2 cmp_3 K = shal Tryz.prog Tryz.f132 .p a132 [data_0, a_1, b_2, cmp_3] K := by kernel_rfl
theorem c132 [Amb] {data_0 a_1 b_2 cmp_3 : Value} {K : Value → WT} {w : World} (h : s132 data_0 a_1 b_2 cmp_3 K w) : CF Tryz.prog 132 [data_0, a_1, b_2, cmp_3] K w := shal_sound Tryz.func132 (e132 data_0 a_1 b_2 cmp_3 K ▸ h)
end Go.Proofs.YtjafpncngmbcdaaGreat.Sh
end
