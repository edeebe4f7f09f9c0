/-
  The row of shares as a heap: its methods, down, Init, Pop.
-/
import Derived.Test.YtfholicobkpilaaCleanA
set_option linter.unusedSimpArgs false
set_option linter.unusedVariables false
set_option linter.unusedSectionVars false
namespace Go.Proofs.Ytfholicobkpilaa.Clean
open Go Go.SL Go.Proofs Go.Proofs.Ytfholicobkpilaa Go.Proofs.Ytfholicobkpilaa.Sh Go.Proofs.Ytfholicobkpilaa.HeapM
open Go.Proofs.Ytfholicobkpilaa.Disk (u_ints u_int elt_int)
variable {B : World} {H : List Asrt} {K : Value → WT} {W : WT}
abbrev ptr (p : Nat) : Value := .pointer (some ⟨p, 0, none⟩)
abbrev rowI (p : Nat) : Value := .iface 101 (ptr p)
/-- The row l at p. -/
def row (p : Nat) (l : List Sh) : Asrt := ex fun (sv : Value) => all [cel true p 99 [sv], sls shc 71 3 sv l, pur (isCell sv = true)]
theorem E_row {p : Nat} {l : List Sh} (h : ∀ sv [CellI sv], E B (cel true p 99 [sv] :: sls shc 71 3 sv l :: H) W) : E B (row p l :: H) W := by
  refine E_ex fun sv => E_all ?_
  refine E_find (a := pur (isCell sv = true)) (by repeat (first | exact Find.here | apply Find.there)) (E_pur fun hc => ?_)
  have : CellI sv := ⟨hc⟩
  exact E_same (by repeat (first | exact Same.refl | (refine Same.cons (by repeat (first | exact Find.here | apply Find.there)) ?_) | (refine Same.drop ?_))) (h sv)
theorem E_rows {p : Nat} {l : List Sh} {sv : Value} [hc : CellI sv] (h : E B (row p l :: H) W) : E B (cel true p 99 [sv] :: sls shc 71 3 sv l :: H) W := by
  refine E_pur' hc.pf ?_
  have h' := E_all' (E_ex' (f := fun (sv : Value) => all [cel true p 99 [sv], sls shc 71 3 sv l, pur (isCell sv = true)]) sv h)
  exact E_same (by repeat (first | exact Same.refl | (refine Same.cons (by repeat (first | exact Find.here | apply Find.there)) ?_) | (refine Same.drop ?_))) h'
attribute [local irreducible] S.pick S.ld S.ldN S.st S.box S.nc S.fad S.ixS S.ixA S.chr S.prt S.ext S.bin S.sh S.sbin S.beq S.neg1 S.com1 S.not1 S.cvt S.str1 S.lenS S.len S.cap S.lenM S.mx S.mn S.mkM S.cond S.gd S.fa S.dr S.rck S.join S.loop S.cvv S.eqv S.slc S.slcS S.b2s S.lk V U CF Gives E cel mpb osl ros dct dit itr lpo dfo
attribute [local irreducible] sls row

theorem inv_Len : MethV Try.prog 101 "Len" 61 := methV (by kernel_rfl) (by kernel_rfl : Try.prog.underlying 101 = some (.pointer 99)) u_row rfl (by kernel_rfl)
theorem inv_Less : MethV Try.prog 101 "Less" 113 := methV (by kernel_rfl) (by kernel_rfl : Try.prog.underlying 101 = some (.pointer 99)) u_row rfl (by kernel_rfl)
theorem inv_Swap : MethV Try.prog 101 "Swap" 114 := methV (by kernel_rfl) (by kernel_rfl : Try.prog.underlying 101 = some (.pointer 99)) u_row rfl (by kernel_rfl)
theorem inv_Pop (p : Nat) (w : World) : (invoke (.fn (.method "Pop") #[]) #[rowI p]).run Try.prog w = .ok (.enter 118 #[ptr p]) w := by kernel_rfl

theorem len_ {sv : Value} {l : List Sh} [Rs B H sv shc l] (h : E B H (K (I l.length))) : E B H (CF Try.prog 61 [sv] K) := by
  refine E_mono (W := s61 _ K) ?_ fun _ => c61
  unfold s61
  (repeat (first | (refine E_ld ?_) | (refine E_fad0 ?_) | (refine E_fad ?_) | (refine E_nc ?_) | (refine E_tt ?_) | (refine E_ff ?_) | (refine E_st ?_) | (refine E_len ?_) | (refine E_lenS ?_) | (refine E_box fun _ => ?_) | (refine E_eql ?_) | (refine E_neq ?_) | (refine E_lss ?_) | (refine E_leq ?_) | (refine E_gtr ?_) | (refine E_geq ?_) | (refine E_ext ?_) | (refine E_prt ?_) | (refine E_mx ?_) | (refine E_mn ?_) | (refine E_cap ?_) | (refine E_gdu ?_) | (refine E_fa fun _ => ?_) | (refine E_dr ?_) | (refine E_nc_f ?_) | (refine E_nc_i ?_) | (refine E_not ?_) | (refine E_str1 ?_) | (refine E_rck0 ?_) | (refine E_gff ?_) | (refine E_gtt ?_) | (refine E_gft ?_) | (refine E_gtf ?_) | (refine E_pff ?_) | (refine E_ptt ?_) | (refine E_streqS ?_) | (refine E_strneS ?_) | (refine E_streq ?_) | (refine E_strne ?_) | (refine E_stA ?_) | (refine E_ldNA ?_) | (refine E_ptfad0 fun _ _ => ?_) | (refine E_ptfad fun _ _ => ?_) | (refine E_ptld ?_) | (refine E_ptldA ?_) | (refine E_rsix (by assumption) fun _ _ => ?_) | (refine E_rslen ?_) | (refine E_ifT (by assumption) ?_) | (refine E_ifF (by assumption) ?_) | (refine E_gdT (by assumption) ?_) | (refine E_gdF (by assumption) ?_) | (refine E_gdnT (by assumption) ?_) | (refine E_gdnF (by assumption) ?_) | (refine E_pickT (by assumption) ?_) | (refine E_pickF (by assumption) ?_) | (refine E_ifT (by decide) ?_) | (refine E_ifF (by decide) ?_) | (refine E_gdT (by decide) ?_) | (refine E_gdF (by decide) ?_) | (refine E_gdnT (by decide) ?_) | (refine E_gdnF (by decide) ?_) | (refine E_pickT (by decide) ?_) | (refine E_pickF (by decide) ?_) | (refine E_ixN (by omega) ?_) | (refine E_ld' (by assumption) ?_) | (refine E_addI (by omega) (by omega) ?_) | (refine E_subI (by omega) (by omega) ?_) | (refine E_mulI (by omega) (by omega) ?_)))
  exact h
theorem mLen {p : Nat} {l : List Sh} (h : E B (row p l :: H) (K (I l.length))) : E B (row p l :: H) (Gives Try.prog (invoke (.fn (.method "Len") #[]) #[rowI p]) K) := by
  refine E_row fun sv _ => ?_
  refine E_invV (args := []) inv_Len ?_
  refine len_ ?_
  exact E_rows h
theorem mLess {p : Nat} {l : List Sh} {i j : Nat} {x y : Sh} (hx : l[i]? = some x) (hy : l[j]? = some y) (hok : ∀ x ∈ l, x.Ok) (h : E B (row p l :: H) (K (.bool (decide (x.key.lt y.key))))) :
    E B (row p l :: H) (Gives Try.prog (invoke (.fn (.method "Less") #[]) #[rowI p, I i, I j]) K) := by
  have ox := hok x (List.mem_of_getElem? hx)
  have oy := hok y (List.mem_of_getElem? hy)
  refine E_row fun sv _ => ?_
  refine E_invV (args := [I i, I j]) inv_Less ?_
  refine E_mono (W := s113 _ _ _ K) ?_ fun _ => c113
  unfold s113
  (repeat (first | (refine E_ld ?_) | (refine E_fad0 ?_) | (refine E_fad ?_) | (refine E_nc ?_) | (refine E_tt ?_) | (refine E_ff ?_) | (refine E_st ?_) | (refine E_len ?_) | (refine E_lenS ?_) | (refine E_box fun _ => ?_) | (refine E_eql ?_) | (refine E_neq ?_) | (refine E_lss ?_) | (refine E_leq ?_) | (refine E_gtr ?_) | (refine E_geq ?_) | (refine E_ext ?_) | (refine E_prt ?_) | (refine E_mx ?_) | (refine E_mn ?_) | (refine E_cap ?_) | (refine E_gdu ?_) | (refine E_fa fun _ => ?_) | (refine E_dr ?_) | (refine E_nc_f ?_) | (refine E_nc_i ?_) | (refine E_not ?_) | (refine E_str1 ?_) | (refine E_rck0 ?_) | (refine E_gff ?_) | (refine E_gtt ?_) | (refine E_gft ?_) | (refine E_gtf ?_) | (refine E_pff ?_) | (refine E_ptt ?_) | (refine E_streqS ?_) | (refine E_strneS ?_) | (refine E_streq ?_) | (refine E_strne ?_) | (refine E_stA ?_) | (refine E_ldNA ?_) | (refine E_ptfad0 fun _ _ => ?_) | (refine E_ptfad fun _ _ => ?_) | (refine E_ptld ?_) | (refine E_ptldA ?_) | (refine E_rsix (by assumption) fun _ _ => ?_) | (refine E_rslen ?_) | (refine E_ifT (by assumption) ?_) | (refine E_ifF (by assumption) ?_) | (refine E_gdT (by assumption) ?_) | (refine E_gdF (by assumption) ?_) | (refine E_gdnT (by assumption) ?_) | (refine E_gdnF (by assumption) ?_) | (refine E_pickT (by assumption) ?_) | (refine E_pickF (by assumption) ?_) | (refine E_ifT (by decide) ?_) | (refine E_ifF (by decide) ?_) | (refine E_gdT (by decide) ?_) | (refine E_gdF (by decide) ?_) | (refine E_gdnT (by decide) ?_) | (refine E_gdnF (by decide) ?_) | (refine E_pickT (by decide) ?_) | (refine E_pickF (by decide) ?_) | (refine E_ixN (by omega) ?_) | (refine E_ld' (by assumption) ?_) | (refine E_addI (by omega) (by omega) ?_) | (refine E_subI (by omega) (by omega) ?_) | (refine E_mulI (by omega) (by omega) ?_)))
  refine order ox oy ?_
  (repeat (first | (refine E_ld ?_) | (refine E_fad0 ?_) | (refine E_fad ?_) | (refine E_nc ?_) | (refine E_tt ?_) | (refine E_ff ?_) | (refine E_st ?_) | (refine E_len ?_) | (refine E_lenS ?_) | (refine E_box fun _ => ?_) | (refine E_eql ?_) | (refine E_neq ?_) | (refine E_lss ?_) | (refine E_leq ?_) | (refine E_gtr ?_) | (refine E_geq ?_) | (refine E_ext ?_) | (refine E_prt ?_) | (refine E_mx ?_) | (refine E_mn ?_) | (refine E_cap ?_) | (refine E_gdu ?_) | (refine E_fa fun _ => ?_) | (refine E_dr ?_) | (refine E_nc_f ?_) | (refine E_nc_i ?_) | (refine E_not ?_) | (refine E_str1 ?_) | (refine E_rck0 ?_) | (refine E_gff ?_) | (refine E_gtt ?_) | (refine E_gft ?_) | (refine E_gtf ?_) | (refine E_pff ?_) | (refine E_ptt ?_) | (refine E_streqS ?_) | (refine E_strneS ?_) | (refine E_streq ?_) | (refine E_strne ?_) | (refine E_stA ?_) | (refine E_ldNA ?_) | (refine E_ptfad0 fun _ _ => ?_) | (refine E_ptfad fun _ _ => ?_) | (refine E_ptld ?_) | (refine E_ptldA ?_) | (refine E_rsix (by assumption) fun _ _ => ?_) | (refine E_rslen ?_) | (refine E_ifT (by assumption) ?_) | (refine E_ifF (by assumption) ?_) | (refine E_gdT (by assumption) ?_) | (refine E_gdF (by assumption) ?_) | (refine E_gdnT (by assumption) ?_) | (refine E_gdnF (by assumption) ?_) | (refine E_pickT (by assumption) ?_) | (refine E_pickF (by assumption) ?_) | (refine E_ifT (by decide) ?_) | (refine E_ifF (by decide) ?_) | (refine E_gdT (by decide) ?_) | (refine E_gdF (by decide) ?_) | (refine E_gdnT (by decide) ?_) | (refine E_gdnF (by decide) ?_) | (refine E_pickT (by decide) ?_) | (refine E_pickF (by decide) ?_) | (refine E_ixN (by omega) ?_) | (refine E_ld' (by assumption) ?_) | (refine E_addI (by omega) (by omega) ?_) | (refine E_subI (by omega) (by omega) ?_) | (refine E_mulI (by omega) (by omega) ?_)))
  have e : decide (x.order y < 0) = decide (x.key.lt y.key) := by simp [order_lt ox oy]
  rw [e]
  exact E_rows h
theorem mSwap {p : Nat} {l : List Sh} {i j : Nat} (hi : i < l.length) (hj : j < l.length) (h : E B (row p (sw l i j) :: H) (K (.tuple #[]))) :
    E B (row p l :: H) (Gives Try.prog (invoke (.fn (.method "Swap") #[]) #[rowI p, I i, I j]) K) := by
  refine E_row fun sv _ => ?_
  refine E_invV (args := [I i, I j]) inv_Swap ?_
  refine E_mono (W := s114 _ _ _ K) ?_ fun _ => c114
  unfold s114
  have hx : l[i]? = some (at_ l i) := by rw [at_eq hi]; exact List.getElem?_eq_getElem hi
  have hy : l[j]? = some (at_ l j) := by rw [at_eq hj]; exact List.getElem?_eq_getElem hj
  refine E_dr ?_
  refine E_rsix hy fun _ _ => ?_
  refine E_ptldA ?_
  refine E_rsix hx fun _ _ => ?_
  refine E_ptldA ?_
  refine E_use (sls shc 71 3 sv) (E_sset (at_ l j) hi rfl ?_)
  refine E_use (sls shc 71 3 sv) (E_sset (at_ l i) (by simpa using hj) rfl ?_)
  exact E_same (by repeat (first | exact Same.refl | (refine Same.cons (by repeat (first | exact Find.here | apply Find.there)) ?_) | (refine Same.drop ?_))) (E_rows (sv := sv) h)
theorem mPop {p : Nat} {l : List Sh} {x : Sh} (hn : l.length ≤ 9223372036854775807) (h : E B (row p l :: H) (K (.iface 71 (.agg (shc x).toArray)))) :
    E B (row p (l ++ [x]) :: H) (Gives Try.prog (invoke (.fn (.method "Pop") #[]) #[rowI p]) K) := by
  refine E_row fun sv _ => ?_
  refine E_invP (args' := [ptr p]) (inv_Pop p) ?_
  refine E_mono (W := s118 _ K) ?_ fun _ => c118
  unfold s118
  have hx : (l ++ [x])[l.length]? = some x := by simp
  have e : ((l ++ [x]).length : Int) - 1 = (l.length : Int) := by simp
  (repeat (first | (refine E_ld ?_) | (refine E_fad0 ?_) | (refine E_fad ?_) | (refine E_nc ?_) | (refine E_tt ?_) | (refine E_ff ?_) | (refine E_st ?_) | (refine E_len ?_) | (refine E_lenS ?_) | (refine E_box fun _ => ?_) | (refine E_eql ?_) | (refine E_neq ?_) | (refine E_lss ?_) | (refine E_leq ?_) | (refine E_gtr ?_) | (refine E_geq ?_) | (refine E_ext ?_) | (refine E_prt ?_) | (refine E_mx ?_) | (refine E_mn ?_) | (refine E_cap ?_) | (refine E_gdu ?_) | (refine E_fa fun _ => ?_) | (refine E_dr ?_) | (refine E_nc_f ?_) | (refine E_nc_i ?_) | (refine E_not ?_) | (refine E_str1 ?_) | (refine E_rck0 ?_) | (refine E_gff ?_) | (refine E_gtt ?_) | (refine E_gft ?_) | (refine E_gtf ?_) | (refine E_pff ?_) | (refine E_ptt ?_) | (refine E_streqS ?_) | (refine E_strneS ?_) | (refine E_streq ?_) | (refine E_strne ?_) | (refine E_stA ?_) | (refine E_ldNA ?_) | (refine E_ptfad0 fun _ _ => ?_) | (refine E_ptfad fun _ _ => ?_) | (refine E_ptld ?_) | (refine E_ptldA ?_) | (refine E_rsix (by assumption) fun _ _ => ?_) | (refine E_rslen ?_) | (refine E_ifT (by assumption) ?_) | (refine E_ifF (by assumption) ?_) | (refine E_gdT (by assumption) ?_) | (refine E_gdF (by assumption) ?_) | (refine E_gdnT (by assumption) ?_) | (refine E_gdnF (by assumption) ?_) | (refine E_pickT (by assumption) ?_) | (refine E_pickF (by assumption) ?_) | (refine E_ifT (by decide) ?_) | (refine E_ifF (by decide) ?_) | (refine E_gdT (by decide) ?_) | (refine E_gdF (by decide) ?_) | (refine E_gdnT (by decide) ?_) | (refine E_gdnF (by decide) ?_) | (refine E_pickT (by decide) ?_) | (refine E_pickF (by decide) ?_) | (refine E_ixN (by omega) ?_) | (refine E_ld' (by assumption) ?_) | (refine E_addI (by omega) (by omega) ?_) | (refine E_subI (by omega) (by omega) ?_) | (refine E_mulI (by omega) (by omega) ?_)))
  rw [e]
  (repeat (first | (refine E_ld ?_) | (refine E_fad0 ?_) | (refine E_fad ?_) | (refine E_nc ?_) | (refine E_tt ?_) | (refine E_ff ?_) | (refine E_st ?_) | (refine E_len ?_) | (refine E_lenS ?_) | (refine E_box fun _ => ?_) | (refine E_eql ?_) | (refine E_neq ?_) | (refine E_lss ?_) | (refine E_leq ?_) | (refine E_gtr ?_) | (refine E_geq ?_) | (refine E_ext ?_) | (refine E_prt ?_) | (refine E_mx ?_) | (refine E_mn ?_) | (refine E_cap ?_) | (refine E_gdu ?_) | (refine E_fa fun _ => ?_) | (refine E_dr ?_) | (refine E_nc_f ?_) | (refine E_nc_i ?_) | (refine E_not ?_) | (refine E_str1 ?_) | (refine E_rck0 ?_) | (refine E_gff ?_) | (refine E_gtt ?_) | (refine E_gft ?_) | (refine E_gtf ?_) | (refine E_pff ?_) | (refine E_ptt ?_) | (refine E_streqS ?_) | (refine E_strneS ?_) | (refine E_streq ?_) | (refine E_strne ?_) | (refine E_stA ?_) | (refine E_ldNA ?_) | (refine E_ptfad0 fun _ _ => ?_) | (refine E_ptfad fun _ _ => ?_) | (refine E_ptld ?_) | (refine E_ptldA ?_) | (refine E_rsix (by assumption) fun _ _ => ?_) | (refine E_rslen ?_) | (refine E_ifT (by assumption) ?_) | (refine E_ifF (by assumption) ?_) | (refine E_gdT (by assumption) ?_) | (refine E_gdF (by assumption) ?_) | (refine E_gdnT (by assumption) ?_) | (refine E_gdnF (by assumption) ?_) | (refine E_pickT (by assumption) ?_) | (refine E_pickF (by assumption) ?_) | (refine E_ifT (by decide) ?_) | (refine E_ifF (by decide) ?_) | (refine E_gdT (by decide) ?_) | (refine E_gdF (by decide) ?_) | (refine E_gdnT (by decide) ?_) | (refine E_gdnF (by decide) ?_) | (refine E_pickT (by decide) ?_) | (refine E_pickF (by decide) ?_) | (refine E_ixN (by omega) ?_) | (refine E_ld' (by assumption) ?_) | (refine E_addI (by omega) (by omega) ?_) | (refine E_subI (by omega) (by omega) ?_) | (refine E_mulI (by omega) (by omega) ?_)))
  refine E_use (sls shc 71 3 sv) (E_stake (by simp) fun sv' _ => ?_)
  rw [List.take_left]
  (repeat (first | (refine E_ld ?_) | (refine E_fad0 ?_) | (refine E_fad ?_) | (refine E_nc ?_) | (refine E_tt ?_) | (refine E_ff ?_) | (refine E_st ?_) | (refine E_len ?_) | (refine E_lenS ?_) | (refine E_box fun _ => ?_) | (refine E_eql ?_) | (refine E_neq ?_) | (refine E_lss ?_) | (refine E_leq ?_) | (refine E_gtr ?_) | (refine E_geq ?_) | (refine E_ext ?_) | (refine E_prt ?_) | (refine E_mx ?_) | (refine E_mn ?_) | (refine E_cap ?_) | (refine E_gdu ?_) | (refine E_fa fun _ => ?_) | (refine E_dr ?_) | (refine E_nc_f ?_) | (refine E_nc_i ?_) | (refine E_not ?_) | (refine E_str1 ?_) | (refine E_rck0 ?_) | (refine E_gff ?_) | (refine E_gtt ?_) | (refine E_gft ?_) | (refine E_gtf ?_) | (refine E_pff ?_) | (refine E_ptt ?_) | (refine E_streqS ?_) | (refine E_strneS ?_) | (refine E_streq ?_) | (refine E_strne ?_) | (refine E_stA ?_) | (refine E_ldNA ?_) | (refine E_ptfad0 fun _ _ => ?_) | (refine E_ptfad fun _ _ => ?_) | (refine E_ptld ?_) | (refine E_ptldA ?_) | (refine E_rsix (by assumption) fun _ _ => ?_) | (refine E_rslen ?_) | (refine E_ifT (by assumption) ?_) | (refine E_ifF (by assumption) ?_) | (refine E_gdT (by assumption) ?_) | (refine E_gdF (by assumption) ?_) | (refine E_gdnT (by assumption) ?_) | (refine E_gdnF (by assumption) ?_) | (refine E_pickT (by assumption) ?_) | (refine E_pickF (by assumption) ?_) | (refine E_ifT (by decide) ?_) | (refine E_ifF (by decide) ?_) | (refine E_gdT (by decide) ?_) | (refine E_gdF (by decide) ?_) | (refine E_gdnT (by decide) ?_) | (refine E_gdnF (by decide) ?_) | (refine E_pickT (by decide) ?_) | (refine E_pickF (by decide) ?_) | (refine E_ixN (by omega) ?_) | (refine E_ld' (by assumption) ?_) | (refine E_addI (by omega) (by omega) ?_) | (refine E_subI (by omega) (by omega) ?_) | (refine E_mulI (by omega) (by omega) ?_)))
  refine E_same (by repeat (first | exact Same.refl | (refine Same.cons (by repeat (first | exact Find.here | apply Find.there)) ?_) | (refine Same.drop ?_))) (E_rows (sv := sv') (H := H) h)
end Go.Proofs.Ytfholicobkpilaa.Clean
