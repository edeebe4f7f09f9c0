/-
  The row of shares, its order and its methods.
-/
import Derived.Test.YtfholicobkpilaaSlLst
import Derived.Test.YtfholicobkpilaaKeysInt
import Derived.Test.YtfholicobkpilaaCleanM
import Derived.Test.YtfholicobkpilaaShU
set_option linter.unusedSimpArgs false
set_option linter.unusedVariables false
set_option linter.unusedSectionVars false
namespace Go.Proofs.Ytfholicobkpilaa.Clean
open Go Go.SL Go.Proofs Go.Proofs.Ytfholicobkpilaa Go.Proofs.Ytfholicobkpilaa.Sh Go.Proofs.Ytfholicobkpilaa.HeapM
open Go.Proofs.Ytfholicobkpilaa.Disk (u_ints u_int elt_int)
attribute [local irreducible] S.pick S.ld S.ldN S.st S.box S.nc S.fad S.ixS S.ixA S.chr S.prt S.ext S.bin S.sh S.sbin S.beq S.neg1 S.com1 S.not1 S.cvt S.str1 S.lenS S.len S.cap S.lenM S.mx S.mn S.mkM S.cond S.gd S.fa S.dr S.rck S.join S.loop S.cvv S.eqv S.slc S.slcS S.b2s S.lk V U CF Gives E cel mpb osl ros dct dit itr lpo dfo
attribute [local irreducible] sls
variable {B : World} {H : List Asrt} {K : Value → WT}
abbrev shc (x : Sh) : List Value := [I x.bin, I x.all, I x.live]
instance : Enc shc 3 := ⟨fun _ => rfl, fun x y hy => by simp at hy; rcases hy with rfl | rfl | rfl <;> rfl⟩
theorem u_shares : Try.prog.underlying 60 = some (.slice 71) := by kernel_rfl
theorem u_row : Try.prog.underlying 99 = some (.slice 71) := by kernel_rfl
theorem elt_share : Elt Try.prog 71 3 24 [I 0, I 0, I 0] := elt_of (zv := .agg #[I 0, I 0, I 0]) (by kernel_rfl) rfl rfl
theorem str_share : Str Try.prog 71 [(0, 1), (1, 1), (2, 1)] [I 0, I 0, I 0] := str_of (zv := .agg #[I 0, I 0, I 0]) (by kernel_rfl) (by kernel_rfl) rfl

theorem isNaN {x : Int} (h : E B H (K (.bool false))) : E B H (CF Try.prog 95 [I x] K) := by
  refine E_mono (W := s95 _ K) ?_ fun _ => c95
  unfold s95
  refine E_neq ?_
  have e : decide (x ≠ x) = false := by simp
  rw [e]; exact h
theorem compare {x y : Int} (h : E B H (K (I (cmp3 x y)))) : E B H (CF Try.prog 117 [I x, I y] K) := by
  refine E_mono (W := s117 _ _ K) ?_ fun _ => c117
  unfold s117
  refine isNaN (isNaN ?_)
  unfold cmp3 at h
  (repeat (first | (refine E_ld ?_) | (refine E_fad0 ?_) | (refine E_fad ?_) | (refine E_nc ?_) | (refine E_tt ?_) | (refine E_ff ?_) | (refine E_st ?_) | (refine E_len ?_) | (refine E_lenS ?_) | (refine E_box fun _ => ?_) | (refine E_eql ?_) | (refine E_neq ?_) | (refine E_lss ?_) | (refine E_leq ?_) | (refine E_gtr ?_) | (refine E_geq ?_) | (refine E_ext ?_) | (refine E_prt ?_) | (refine E_mx ?_) | (refine E_mn ?_) | (refine E_cap ?_) | (refine E_gdu ?_) | (refine E_fa fun _ => ?_) | (refine E_dr ?_) | (refine E_nc_f ?_) | (refine E_nc_i ?_) | (refine E_not ?_) | (refine E_str1 ?_) | (refine E_rck0 ?_) | (refine E_gff ?_) | (refine E_gtt ?_) | (refine E_gft ?_) | (refine E_gtf ?_) | (refine E_pff ?_) | (refine E_ptt ?_) | (refine E_streqS ?_) | (refine E_strneS ?_) | (refine E_streq ?_) | (refine E_strne ?_) | (refine E_stA ?_) | (refine E_ldNA ?_) | (refine E_ptfad0 fun _ _ => ?_) | (refine E_ptfad fun _ _ => ?_) | (refine E_ptld ?_) | (refine E_ptldA ?_) | (refine E_rsix (by assumption) fun _ _ => ?_) | (refine E_rslen ?_) | (refine E_ifT (by assumption) ?_) | (refine E_ifF (by assumption) ?_) | (refine E_gdT (by assumption) ?_) | (refine E_gdF (by assumption) ?_) | (refine E_gdnT (by assumption) ?_) | (refine E_gdnF (by assumption) ?_) | (refine E_pickT (by assumption) ?_) | (refine E_pickF (by assumption) ?_) | (refine E_ifT (by decide) ?_) | (refine E_ifF (by decide) ?_) | (refine E_gdT (by decide) ?_) | (refine E_gdF (by decide) ?_) | (refine E_gdnT (by decide) ?_) | (refine E_gdnF (by decide) ?_) | (refine E_pickT (by decide) ?_) | (refine E_pickF (by decide) ?_) | (refine E_ixN (by omega) ?_) | (refine E_ld' (by assumption) ?_) | (refine E_addI (by omega) (by omega) ?_) | (refine E_subI (by omega) (by omega) ?_) | (refine E_mulI (by omega) (by omega) ?_)))
  refine E_if (fun hc => ?_) (fun hc => ?_)
  · rw [if_pos hc] at h; exact h
  · rw [if_neg hc] at h
    (repeat (first | (refine E_ld ?_) | (refine E_fad0 ?_) | (refine E_fad ?_) | (refine E_nc ?_) | (refine E_tt ?_) | (refine E_ff ?_) | (refine E_st ?_) | (refine E_len ?_) | (refine E_lenS ?_) | (refine E_box fun _ => ?_) | (refine E_eql ?_) | (refine E_neq ?_) | (refine E_lss ?_) | (refine E_leq ?_) | (refine E_gtr ?_) | (refine E_geq ?_) | (refine E_ext ?_) | (refine E_prt ?_) | (refine E_mx ?_) | (refine E_mn ?_) | (refine E_cap ?_) | (refine E_gdu ?_) | (refine E_fa fun _ => ?_) | (refine E_dr ?_) | (refine E_nc_f ?_) | (refine E_nc_i ?_) | (refine E_not ?_) | (refine E_str1 ?_) | (refine E_rck0 ?_) | (refine E_gff ?_) | (refine E_gtt ?_) | (refine E_gft ?_) | (refine E_gtf ?_) | (refine E_pff ?_) | (refine E_ptt ?_) | (refine E_streqS ?_) | (refine E_strneS ?_) | (refine E_streq ?_) | (refine E_strne ?_) | (refine E_stA ?_) | (refine E_ldNA ?_) | (refine E_ptfad0 fun _ _ => ?_) | (refine E_ptfad fun _ _ => ?_) | (refine E_ptld ?_) | (refine E_ptldA ?_) | (refine E_rsix (by assumption) fun _ _ => ?_) | (refine E_rslen ?_) | (refine E_ifT (by assumption) ?_) | (refine E_ifF (by assumption) ?_) | (refine E_gdT (by assumption) ?_) | (refine E_gdF (by assumption) ?_) | (refine E_gdnT (by assumption) ?_) | (refine E_gdnF (by assumption) ?_) | (refine E_pickT (by assumption) ?_) | (refine E_pickF (by assumption) ?_) | (refine E_ifT (by decide) ?_) | (refine E_ifF (by decide) ?_) | (refine E_gdT (by decide) ?_) | (refine E_gdF (by decide) ?_) | (refine E_gdnT (by decide) ?_) | (refine E_gdnF (by decide) ?_) | (refine E_pickT (by decide) ?_) | (refine E_pickF (by decide) ?_) | (refine E_ixN (by omega) ?_) | (refine E_ld' (by assumption) ?_) | (refine E_addI (by omega) (by omega) ?_) | (refine E_subI (by omega) (by omega) ?_) | (refine E_mulI (by omega) (by omega) ?_)))
    refine E_if (fun hc => ?_) (fun hc => ?_)
    · rw [if_pos hc] at h; exact h
    · rw [if_neg hc] at h; exact h
def orL : List Int → Int
  | [] => 0
  | x :: l => if x ≠ 0 then x else orL l
/-- cmp.Or. -/
theorem cmpOr {v : Value} {l : List Int} [Rs B H v cI l] (hl : l.length ≤ 1000) (h : E B H (K (I (orL l)))) : E B H (CF Try.prog 116 [v] K) := by
  refine E_mono (W := s116 _ K) ?_ fun _ => c116
  unfold s116
  (repeat (first | (refine E_ld ?_) | (refine E_fad0 ?_) | (refine E_fad ?_) | (refine E_nc ?_) | (refine E_tt ?_) | (refine E_ff ?_) | (refine E_st ?_) | (refine E_len ?_) | (refine E_lenS ?_) | (refine E_box fun _ => ?_) | (refine E_eql ?_) | (refine E_neq ?_) | (refine E_lss ?_) | (refine E_leq ?_) | (refine E_gtr ?_) | (refine E_geq ?_) | (refine E_ext ?_) | (refine E_prt ?_) | (refine E_mx ?_) | (refine E_mn ?_) | (refine E_cap ?_) | (refine E_gdu ?_) | (refine E_fa fun _ => ?_) | (refine E_dr ?_) | (refine E_nc_f ?_) | (refine E_nc_i ?_) | (refine E_not ?_) | (refine E_str1 ?_) | (refine E_rck0 ?_) | (refine E_gff ?_) | (refine E_gtt ?_) | (refine E_gft ?_) | (refine E_gtf ?_) | (refine E_pff ?_) | (refine E_ptt ?_) | (refine E_streqS ?_) | (refine E_strneS ?_) | (refine E_streq ?_) | (refine E_strne ?_) | (refine E_stA ?_) | (refine E_ldNA ?_) | (refine E_ptfad0 fun _ _ => ?_) | (refine E_ptfad fun _ _ => ?_) | (refine E_ptld ?_) | (refine E_ptldA ?_) | (refine E_rsix (by assumption) fun _ _ => ?_) | (refine E_rslen ?_) | (refine E_ifT (by assumption) ?_) | (refine E_ifF (by assumption) ?_) | (refine E_gdT (by assumption) ?_) | (refine E_gdF (by assumption) ?_) | (refine E_gdnT (by assumption) ?_) | (refine E_gdnF (by assumption) ?_) | (refine E_pickT (by assumption) ?_) | (refine E_pickF (by assumption) ?_) | (refine E_ifT (by decide) ?_) | (refine E_ifF (by decide) ?_) | (refine E_gdT (by decide) ?_) | (refine E_gdF (by decide) ?_) | (refine E_gdnT (by decide) ?_) | (refine E_gdnF (by decide) ?_) | (refine E_pickT (by decide) ?_) | (refine E_pickF (by decide) ?_) | (refine E_ixN (by omega) ?_) | (refine E_ld' (by assumption) ?_) | (refine E_addI (by omega) (by omega) ?_) | (refine E_subI (by omega) (by omega) ?_) | (refine E_mulI (by omega) (by omega) ?_)))
  refine E_loop (σ := Nat) (fun j => j ≤ l.length ∧ orL (l.drop j) = orL l) (fun j => [I 0, v, I l.length, I j]) (fun _ => H) (fun j => l.length - j) 0 (fun _ => rfl) rfl ⟨Nat.zero_le _, rfl⟩ (fun W hW => hW) ?_
  intro j K0 ⟨hj, hj2⟩ hk
  refine E_fa fun _ => ?_
  (repeat (first | (refine E_ld ?_) | (refine E_fad0 ?_) | (refine E_fad ?_) | (refine E_nc ?_) | (refine E_tt ?_) | (refine E_ff ?_) | (refine E_st ?_) | (refine E_len ?_) | (refine E_lenS ?_) | (refine E_box fun _ => ?_) | (refine E_eql ?_) | (refine E_neq ?_) | (refine E_lss ?_) | (refine E_leq ?_) | (refine E_gtr ?_) | (refine E_geq ?_) | (refine E_ext ?_) | (refine E_prt ?_) | (refine E_mx ?_) | (refine E_mn ?_) | (refine E_cap ?_) | (refine E_gdu ?_) | (refine E_fa fun _ => ?_) | (refine E_dr ?_) | (refine E_nc_f ?_) | (refine E_nc_i ?_) | (refine E_not ?_) | (refine E_str1 ?_) | (refine E_rck0 ?_) | (refine E_gff ?_) | (refine E_gtt ?_) | (refine E_gft ?_) | (refine E_gtf ?_) | (refine E_pff ?_) | (refine E_ptt ?_) | (refine E_streqS ?_) | (refine E_strneS ?_) | (refine E_streq ?_) | (refine E_strne ?_) | (refine E_stA ?_) | (refine E_ldNA ?_) | (refine E_ptfad0 fun _ _ => ?_) | (refine E_ptfad fun _ _ => ?_) | (refine E_ptld ?_) | (refine E_ptldA ?_) | (refine E_rsix (by assumption) fun _ _ => ?_) | (refine E_rslen ?_) | (refine E_ifT (by assumption) ?_) | (refine E_ifF (by assumption) ?_) | (refine E_gdT (by assumption) ?_) | (refine E_gdF (by assumption) ?_) | (refine E_gdnT (by assumption) ?_) | (refine E_gdnF (by assumption) ?_) | (refine E_pickT (by assumption) ?_) | (refine E_pickF (by assumption) ?_) | (refine E_ifT (by decide) ?_) | (refine E_ifF (by decide) ?_) | (refine E_gdT (by decide) ?_) | (refine E_gdF (by decide) ?_) | (refine E_gdnT (by decide) ?_) | (refine E_gdnF (by decide) ?_) | (refine E_pickT (by decide) ?_) | (refine E_pickF (by decide) ?_) | (refine E_ixN (by omega) ?_) | (refine E_ld' (by assumption) ?_) | (refine E_addI (by omega) (by omega) ?_) | (refine E_subI (by omega) (by omega) ?_) | (refine E_mulI (by omega) (by omega) ?_)))
  refine E_if (fun hc => ?_) (fun hc => ?_)
  · have hs : l[j]? = some l[j] := List.getElem?_eq_getElem (by omega)
    generalize l[j] = x at hs
    have hd : l.drop j = x :: l.drop (j + 1) := by
      have hlt := (List.getElem?_eq_some_iff.1 hs).1
      rw [List.drop_eq_getElem_cons hlt, (List.getElem?_eq_some_iff.1 hs).2]
    rw [hd, orL] at hj2
    (repeat (first | (refine E_ld ?_) | (refine E_fad0 ?_) | (refine E_fad ?_) | (refine E_nc ?_) | (refine E_tt ?_) | (refine E_ff ?_) | (refine E_st ?_) | (refine E_len ?_) | (refine E_lenS ?_) | (refine E_box fun _ => ?_) | (refine E_eql ?_) | (refine E_neq ?_) | (refine E_lss ?_) | (refine E_leq ?_) | (refine E_gtr ?_) | (refine E_geq ?_) | (refine E_ext ?_) | (refine E_prt ?_) | (refine E_mx ?_) | (refine E_mn ?_) | (refine E_cap ?_) | (refine E_gdu ?_) | (refine E_fa fun _ => ?_) | (refine E_dr ?_) | (refine E_nc_f ?_) | (refine E_nc_i ?_) | (refine E_not ?_) | (refine E_str1 ?_) | (refine E_rck0 ?_) | (refine E_gff ?_) | (refine E_gtt ?_) | (refine E_gft ?_) | (refine E_gtf ?_) | (refine E_pff ?_) | (refine E_ptt ?_) | (refine E_streqS ?_) | (refine E_strneS ?_) | (refine E_streq ?_) | (refine E_strne ?_) | (refine E_stA ?_) | (refine E_ldNA ?_) | (refine E_ptfad0 fun _ _ => ?_) | (refine E_ptfad fun _ _ => ?_) | (refine E_ptld ?_) | (refine E_ptldA ?_) | (refine E_rsix (by assumption) fun _ _ => ?_) | (refine E_rslen ?_) | (refine E_ifT (by assumption) ?_) | (refine E_ifF (by assumption) ?_) | (refine E_gdT (by assumption) ?_) | (refine E_gdF (by assumption) ?_) | (refine E_gdnT (by assumption) ?_) | (refine E_gdnF (by assumption) ?_) | (refine E_pickT (by assumption) ?_) | (refine E_pickF (by assumption) ?_) | (refine E_ifT (by decide) ?_) | (refine E_ifF (by decide) ?_) | (refine E_gdT (by decide) ?_) | (refine E_gdF (by decide) ?_) | (refine E_gdnT (by decide) ?_) | (refine E_gdnF (by decide) ?_) | (refine E_pickT (by decide) ?_) | (refine E_pickF (by decide) ?_) | (refine E_ixN (by omega) ?_) | (refine E_ld' (by assumption) ?_) | (refine E_addI (by omega) (by omega) ?_) | (refine E_subI (by omega) (by omega) ?_) | (refine E_mulI (by omega) (by omega) ?_)))
    refine E_if (fun hc => ?_) (fun hc => ?_)
    · rw [if_pos hc] at hj2; rw [← hj2] at h; exact h
    · rw [if_neg hc] at hj2
      (repeat (first | (refine E_ld ?_) | (refine E_fad0 ?_) | (refine E_fad ?_) | (refine E_nc ?_) | (refine E_tt ?_) | (refine E_ff ?_) | (refine E_st ?_) | (refine E_len ?_) | (refine E_lenS ?_) | (refine E_box fun _ => ?_) | (refine E_eql ?_) | (refine E_neq ?_) | (refine E_lss ?_) | (refine E_leq ?_) | (refine E_gtr ?_) | (refine E_geq ?_) | (refine E_ext ?_) | (refine E_prt ?_) | (refine E_mx ?_) | (refine E_mn ?_) | (refine E_cap ?_) | (refine E_gdu ?_) | (refine E_fa fun _ => ?_) | (refine E_dr ?_) | (refine E_nc_f ?_) | (refine E_nc_i ?_) | (refine E_not ?_) | (refine E_str1 ?_) | (refine E_rck0 ?_) | (refine E_gff ?_) | (refine E_gtt ?_) | (refine E_gft ?_) | (refine E_gtf ?_) | (refine E_pff ?_) | (refine E_ptt ?_) | (refine E_streqS ?_) | (refine E_strneS ?_) | (refine E_streq ?_) | (refine E_strne ?_) | (refine E_stA ?_) | (refine E_ldNA ?_) | (refine E_ptfad0 fun _ _ => ?_) | (refine E_ptfad fun _ _ => ?_) | (refine E_ptld ?_) | (refine E_ptldA ?_) | (refine E_rsix (by assumption) fun _ _ => ?_) | (refine E_rslen ?_) | (refine E_ifT (by assumption) ?_) | (refine E_ifF (by assumption) ?_) | (refine E_gdT (by assumption) ?_) | (refine E_gdF (by assumption) ?_) | (refine E_gdnT (by assumption) ?_) | (refine E_gdnF (by assumption) ?_) | (refine E_pickT (by assumption) ?_) | (refine E_pickF (by assumption) ?_) | (refine E_ifT (by decide) ?_) | (refine E_ifF (by decide) ?_) | (refine E_gdT (by decide) ?_) | (refine E_gdF (by decide) ?_) | (refine E_gdnT (by decide) ?_) | (refine E_gdnF (by decide) ?_) | (refine E_pickT (by decide) ?_) | (refine E_pickF (by decide) ?_) | (refine E_ixN (by omega) ?_) | (refine E_ld' (by assumption) ?_) | (refine E_addI (by omega) (by omega) ?_) | (refine E_subI (by omega) (by omega) ?_) | (refine E_mulI (by omega) (by omega) ?_)))
      exact hk (j + 1) ⟨by omega, hj2⟩ (by omega)
  · have : j = l.length := by omega
    subst this
    rw [List.drop_length] at hj2
    rw [← hj2] at h; exact h
theorem order {x y : Sh} (hx : x.Ok) (hy : y.Ok) (h : E B H (K (I (x.order y)))) : E B H (CF Try.prog 115 [.agg (shc x).toArray, .agg (shc y).toArray] K) := by
  refine E_mono (W := s115 _ _ K) ?_ fun _ => c115
  unfold s115
  have hd1 := den_ok hx
  have hd2 := den_ok hy
  have b1 : x.live * y.den ≤ 32768 * 32768 := Int.mul_le_mul (by have := hx.l1; have := hx.l2; omega) hd2.2 (by omega) (by omega)
  have b2 : y.live * x.den ≤ 32768 * 32768 := Int.mul_le_mul (by have := hy.l1; have := hy.l2; omega) hd1.2 (by omega) (by omega)
  have b3 : 0 ≤ x.live * y.den := Int.mul_nonneg hx.l0 (by omega)
  have b4 : 0 ≤ y.live * x.den := Int.mul_nonneg hy.l0 (by omega)
  unfold Sh.order at h
  unfold Sh.den at *
  (repeat (first | (refine E_ld ?_) | (refine E_fad0 ?_) | (refine E_fad ?_) | (refine E_nc ?_) | (refine E_tt ?_) | (refine E_ff ?_) | (refine E_st ?_) | (refine E_len ?_) | (refine E_lenS ?_) | (refine E_box fun _ => ?_) | (refine E_eql ?_) | (refine E_neq ?_) | (refine E_lss ?_) | (refine E_leq ?_) | (refine E_gtr ?_) | (refine E_geq ?_) | (refine E_ext ?_) | (refine E_prt ?_) | (refine E_mx ?_) | (refine E_mn ?_) | (refine E_cap ?_) | (refine E_gdu ?_) | (refine E_fa fun _ => ?_) | (refine E_dr ?_) | (refine E_nc_f ?_) | (refine E_nc_i ?_) | (refine E_not ?_) | (refine E_str1 ?_) | (refine E_rck0 ?_) | (refine E_gff ?_) | (refine E_gtt ?_) | (refine E_gft ?_) | (refine E_gtf ?_) | (refine E_pff ?_) | (refine E_ptt ?_) | (refine E_streqS ?_) | (refine E_strneS ?_) | (refine E_streq ?_) | (refine E_strne ?_) | (refine E_stA ?_) | (refine E_ldNA ?_) | (refine E_ptfad0 fun _ _ => ?_) | (refine E_ptfad fun _ _ => ?_) | (refine E_ptld ?_) | (refine E_ptldA ?_) | (refine E_rsix (by assumption) fun _ _ => ?_) | (refine E_rslen ?_) | (refine E_ifT (by assumption) ?_) | (refine E_ifF (by assumption) ?_) | (refine E_gdT (by assumption) ?_) | (refine E_gdF (by assumption) ?_) | (refine E_gdnT (by assumption) ?_) | (refine E_gdnF (by assumption) ?_) | (refine E_pickT (by assumption) ?_) | (refine E_pickF (by assumption) ?_) | (refine E_ifT (by decide) ?_) | (refine E_ifF (by decide) ?_) | (refine E_gdT (by decide) ?_) | (refine E_gdF (by decide) ?_) | (refine E_gdnT (by decide) ?_) | (refine E_gdnF (by decide) ?_) | (refine E_pickT (by decide) ?_) | (refine E_pickF (by decide) ?_) | (refine E_ixN (by omega) ?_) | (refine E_ld' (by assumption) ?_) | (refine E_addI (by omega) (by omega) ?_) | (refine E_subI (by omega) (by omega) ?_) | (refine E_mulI (by omega) (by omega) ?_)))
  refine compare ?_
  (repeat (refine E_rck1 (by first | exact E_ld (E_fact rfl) | exact E_ld' (by assumption) (E_fact rfl) | exact E_b2sR (E_fact rfl) | exact E_gdnF (by assumption) (E_ld (E_fact rfl)) | exact E_gdT (by assumption) (E_ld (E_fact rfl)) | exact E_gtf (E_ld (E_fact rfl)) | exact E_gft (E_ld (E_fact rfl))) ?_)); (first | (refine E_rck0 ?_) | skip)
  refine compare ?_
  refine E_bsl (l0 := [I 0, I 0]) [(0, 1), (1, 1)] u_ints elt_int (by simp) (by decide) rfl fun b => ?_
  have hr : Rs B (cel true b 3 [I (cmp3 (x.live * max y.all 1) (y.live * max x.all 1)), I (cmp3 x.bin y.bin)] :: H) (.slice (some ⟨b, 0, none⟩) 2 2) cI [cmp3 (x.live * max y.all 1) (y.live * max x.all 1), cmp3 x.bin y.bin] := rs_cel (by simp) rfl
  refine E_same (G := cel true b 3 [I (cmp3 (x.live * max y.all 1) (y.live * max x.all 1)), I (cmp3 x.bin y.bin)] :: H) (by repeat (first | exact Same.refl | (refine Same.cons (by repeat (first | exact Find.here | apply Find.there)) ?_) | (refine Same.drop ?_))) ?_
  refine cmpOr (l := [cmp3 (x.live * max y.all 1) (y.live * max x.all 1), cmp3 x.bin y.bin]) (by simp) ?_
  have e : orL [cmp3 (x.live * max y.all 1) (y.live * max x.all 1), cmp3 x.bin y.bin] = if cmp3 (x.live * max y.all 1) (y.live * max x.all 1) ≠ 0 then cmp3 (x.live * max y.all 1) (y.live * max x.all 1) else cmp3 x.bin y.bin := by
    unfold orL orL orL
    split
    · rfl
    · split
      · rfl
      · rename_i h; simp at h; rw [h]
  rw [e]
  exact E_drop h
end Go.Proofs.Ytfholicobkpilaa.Clean
