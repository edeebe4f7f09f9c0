/-
  The disk.
-/
import Derived.Test.YtmbfmkiagdhcoaaDoorSlB
import Derived.Test.YtmbfmkiagdhcoaaDoorShelf
import Derived.Test.YtmbfmkiagdhcoaaDoorShT
import Derived.Test.YtmbfmkiagdhcoaaDoorSlA
set_option linter.unusedSimpArgs false
set_option linter.unusedVariables false
set_option linter.unusedSectionVars false
/-
  slices.Sorted(maps.Keys(m)) at map[int][]byte.
-/
namespace Go.Proofs.YtmbfmkiagdhcoaaDoor.Disk
open Go Go.SL Go.Proofs Go.Proofs.YtmbfmkiagdhcoaaDoor.Sh
attribute [local irreducible] S.pick S.ld S.ldN S.st S.box S.nc S.fad S.ixS S.ixA S.chr S.prt S.ext S.bin S.sh S.sbin S.beq S.neg1 S.com1 S.not1 S.cvt S.str1 S.lenS S.len S.cap S.lenM S.mx S.mn S.mkM S.cond S.gd S.fa S.dr S.rck S.join S.loop S.cvv S.eqv S.slc S.slcS S.b2s S.lk V U CF Gives E cel mpb osl ros dct dit itr lpo dfo

theorem u_ints : Tryd.prog.underlying 64 = some (.slice 3) := by kernel_rfl
theorem u_int : Tryd.prog.underlying 3 = some (.int .i64) := by kernel_rfl
theorem u_mapIB : Tryd.prog.underlying 50 = some (.map 3 22) := by kernel_rfl
theorem elt_int : Elt Tryd.prog 3 1 8 [.int .i64 0] := elt_of (zv := .int .i64 0) (by kernel_rfl) rfl rfl
theorem key_mapIB : Key Tryd.prog 50 3 22 (.int .i64) := ⟨u_mapIB, u_int, rfl⟩
theorem sortOk : SortOk Tryd.prog 48 := ⟨fun blk off cap zs w h1 h2 h3 => Tryd.slices_Sort_int blk off cap zs w h1 h2 h3, fun p cap w => Tryd.slices_Sort_int_none p cap w⟩

variable {B : World} {H : List Asrt} {K : Value → WT}
theorem ints_snoc (zs : List Int) (k : Int) : ints zs ++ [.int .i64 k] = ints (zs ++ [k]) := by simp [ints]

theorem sortedKeys {o : Bool} {r : Nat} {kv : List (Int × Value)} {H' : List Asrt} [ht : TakD H kI o r kv H'] (hn : kv.length ≤ 1099511627776)
    (h : ∀ sv zs, zs.Perm (kv.map (·.1)) → E B (osl 3 1 sv kv.length (ints (sortI zs)) :: dct kI o r kv :: H') (K sv)) :
    E B H (CF Tryd.prog 41 [.map (some r)] fun v9 => CF Tryd.prog 40 [v9] K) := by
  refine E_find ht.pf ?_
  refine E_mono (W := s41 _ _) ?_ fun _ => c41
  unfold s41
  (first | (refine E_ld ?_) | (refine E_fad0 ?_) | (refine E_fad ?_) | (refine E_nc ?_) | (refine E_tt ?_) | (refine E_ff ?_) | (refine E_st ?_) | (refine E_len ?_) | (refine E_lenS ?_) | (refine E_box fun _ => ?_) | (refine E_eql ?_) | (refine E_neq ?_) | (refine E_lss ?_) | (refine E_leq ?_) | (refine E_gtr ?_) | (refine E_geq ?_) | (refine E_ext ?_) | (refine E_prt ?_) | (refine E_mx ?_) | (refine E_mn ?_) | (refine E_cap ?_) | (refine E_gdu ?_) | (refine E_fa fun _ => ?_) | (refine E_dr ?_) | (refine E_nc_f ?_) | (refine E_nc_i ?_) | (refine E_not ?_) | (refine E_str1 ?_) | (refine E_rck0 ?_) | (refine E_gff ?_) | (refine E_gtt ?_) | (refine E_gft ?_) | (refine E_gtf ?_) | (refine E_pff ?_) | (refine E_ptt ?_) | (refine E_ifT (by assumption) ?_) | (refine E_ifF (by assumption) ?_) | (refine E_gdT (by assumption) ?_) | (refine E_gdF (by assumption) ?_) | (refine E_gdnT (by assumption) ?_) | (refine E_gdnF (by assumption) ?_) | (refine E_pickT (by assumption) ?_) | (refine E_pickF (by assumption) ?_) | (refine E_ifT (by decide) ?_) | (refine E_ifF (by decide) ?_) | (refine E_gdT (by decide) ?_) | (refine E_gdF (by decide) ?_) | (refine E_gdnT (by decide) ?_) | (refine E_gdnF (by decide) ?_) | (refine E_pickT (by decide) ?_) | (refine E_pickF (by decide) ?_) | (refine E_addI (by omega) (by omega) ?_) | (refine E_subI (by omega) (by omega) ?_) | (refine E_mulI (by omega) (by omega) ?_))
  rename_i mb
  refine E_mono (W := s40 _ _) ?_ fun _ => c40
  unfold s40
  refine E_mono (W := s47 _ _) ?_ fun _ => c47
  unfold s47
  refine E_mono (W := s51 _ _ _) ?_ fun _ => c51
  unfold s51
  (first | (refine E_ld ?_) | (refine E_fad0 ?_) | (refine E_fad ?_) | (refine E_nc ?_) | (refine E_tt ?_) | (refine E_ff ?_) | (refine E_st ?_) | (refine E_len ?_) | (refine E_lenS ?_) | (refine E_box fun _ => ?_) | (refine E_eql ?_) | (refine E_neq ?_) | (refine E_lss ?_) | (refine E_leq ?_) | (refine E_gtr ?_) | (refine E_geq ?_) | (refine E_ext ?_) | (refine E_prt ?_) | (refine E_mx ?_) | (refine E_mn ?_) | (refine E_cap ?_) | (refine E_gdu ?_) | (refine E_fa fun _ => ?_) | (refine E_dr ?_) | (refine E_nc_f ?_) | (refine E_nc_i ?_) | (refine E_not ?_) | (refine E_str1 ?_) | (refine E_rck0 ?_) | (refine E_gff ?_) | (refine E_gtt ?_) | (refine E_gft ?_) | (refine E_gtf ?_) | (refine E_pff ?_) | (refine E_ptt ?_) | (refine E_ifT (by assumption) ?_) | (refine E_ifF (by assumption) ?_) | (refine E_gdT (by assumption) ?_) | (refine E_gdF (by assumption) ?_) | (refine E_gdnT (by assumption) ?_) | (refine E_gdnF (by assumption) ?_) | (refine E_pickT (by assumption) ?_) | (refine E_pickF (by assumption) ?_) | (refine E_ifT (by decide) ?_) | (refine E_ifF (by decide) ?_) | (refine E_gdT (by decide) ?_) | (refine E_gdF (by decide) ?_) | (refine E_gdnT (by decide) ?_) | (refine E_gdnF (by decide) ?_) | (refine E_pickT (by decide) ?_) | (refine E_pickF (by decide) ?_) | (refine E_addI (by omega) (by omega) ?_) | (refine E_subI (by omega) (by omega) ?_) | (refine E_mulI (by omega) (by omega) ?_))
  rename_i sb
  refine E_rf (by kernel_rfl) fun l dl L hY => ?_
  refine E_mono (W := s49 _ _ _) ?_ fun _ => c49
  unfold s49
  (repeat (first | (refine E_ld ?_) | (refine E_fad0 ?_) | (refine E_fad ?_) | (refine E_nc ?_) | (refine E_tt ?_) | (refine E_ff ?_) | (refine E_st ?_) | (refine E_len ?_) | (refine E_lenS ?_) | (refine E_box fun _ => ?_) | (refine E_eql ?_) | (refine E_neq ?_) | (refine E_lss ?_) | (refine E_leq ?_) | (refine E_gtr ?_) | (refine E_geq ?_) | (refine E_ext ?_) | (refine E_prt ?_) | (refine E_mx ?_) | (refine E_mn ?_) | (refine E_cap ?_) | (refine E_gdu ?_) | (refine E_fa fun _ => ?_) | (refine E_dr ?_) | (refine E_nc_f ?_) | (refine E_nc_i ?_) | (refine E_not ?_) | (refine E_str1 ?_) | (refine E_rck0 ?_) | (refine E_gff ?_) | (refine E_gtt ?_) | (refine E_gft ?_) | (refine E_gtf ?_) | (refine E_pff ?_) | (refine E_ptt ?_) | (refine E_ifT (by assumption) ?_) | (refine E_ifF (by assumption) ?_) | (refine E_gdT (by assumption) ?_) | (refine E_gdF (by assumption) ?_) | (refine E_gdnT (by assumption) ?_) | (refine E_gdnF (by assumption) ?_) | (refine E_pickT (by assumption) ?_) | (refine E_pickF (by assumption) ?_) | (refine E_ifT (by decide) ?_) | (refine E_ifF (by decide) ?_) | (refine E_gdT (by decide) ?_) | (refine E_gdF (by decide) ?_) | (refine E_gdnT (by decide) ?_) | (refine E_gdnF (by decide) ?_) | (refine E_pickT (by decide) ?_) | (refine E_pickF (by decide) ?_) | (refine E_addI (by omega) (by omega) ?_) | (refine E_subI (by omega) (by omega) ?_) | (refine E_mulI (by omega) (by omega) ?_)))
  refine E_drange (κ := Int) u_mapIB fun it => ?_
  refine E_loop (σ := List (Int × Value) × Option (Int × Value) × List Int × Value)
    (fun s => (s.2.2.1 ++ s.1.map (·.1)).Perm (kv.map (·.1)))
    (fun s => [.func (.yield l) #[] #[], .pointer (some ⟨it, 0, none⟩)])
    (fun s => dit kI o it r kv s.1 s.2.1 :: lpo l L .ready .nrm :: osl 3 1 s.2.2.2 s.2.2.1.length (ints s.2.2.1) :: cel true sb 64 [s.2.2.2] :: dfo dl :: cel true mb 50 [.map (some r)] :: H')
    (fun s => s.1.length) (kv, none, [], .slice none 0 0) (fun s => rfl) rfl (by simp) ?_ ?_
  · intro W hW
    refine osl_nil (E_same (by repeat (first | exact Same.refl | (refine Same.cons (by repeat (first | exact Find.here | apply Find.there)) ?_) | (refine Same.drop ?_))) hW)
  · rintro ⟨rest, cur, zs, sv⟩ K hφ hk
    simp only at hφ hk ⊢
    refine E_fa fun _ => ?_
    refine E_dnext (κ := Int) (fun hr => ?_) (fun p rest' hp => ?_)
    · subst hr
      (repeat (first | (refine E_ld ?_) | (refine E_fad0 ?_) | (refine E_fad ?_) | (refine E_nc ?_) | (refine E_tt ?_) | (refine E_ff ?_) | (refine E_st ?_) | (refine E_len ?_) | (refine E_lenS ?_) | (refine E_box fun _ => ?_) | (refine E_eql ?_) | (refine E_neq ?_) | (refine E_lss ?_) | (refine E_leq ?_) | (refine E_gtr ?_) | (refine E_geq ?_) | (refine E_ext ?_) | (refine E_prt ?_) | (refine E_mx ?_) | (refine E_mn ?_) | (refine E_cap ?_) | (refine E_gdu ?_) | (refine E_fa fun _ => ?_) | (refine E_dr ?_) | (refine E_nc_f ?_) | (refine E_nc_i ?_) | (refine E_not ?_) | (refine E_str1 ?_) | (refine E_rck0 ?_) | (refine E_gff ?_) | (refine E_gtt ?_) | (refine E_gft ?_) | (refine E_gtf ?_) | (refine E_pff ?_) | (refine E_ptt ?_) | (refine E_ifT (by assumption) ?_) | (refine E_ifF (by assumption) ?_) | (refine E_gdT (by assumption) ?_) | (refine E_gdF (by assumption) ?_) | (refine E_gdnT (by assumption) ?_) | (refine E_gdnF (by assumption) ?_) | (refine E_pickT (by assumption) ?_) | (refine E_pickF (by assumption) ?_) | (refine E_ifT (by decide) ?_) | (refine E_ifF (by decide) ?_) | (refine E_gdT (by decide) ?_) | (refine E_gdF (by decide) ?_) | (refine E_gdnT (by decide) ?_) | (refine E_gdnF (by decide) ?_) | (refine E_pickT (by decide) ?_) | (refine E_pickF (by decide) ?_) | (refine E_addI (by omega) (by omega) ?_) | (refine E_subI (by omega) (by omega) ?_) | (refine E_mulI (by omega) (by omega) ?_)))
      refine E_find (a := lpo l L .ready .nrm) (by repeat (first | exact Find.here | apply Find.there)) (E_over (by simp) ?_)
      unfold aft
      (repeat (first | (refine E_ld ?_) | (refine E_fad0 ?_) | (refine E_fad ?_) | (refine E_nc ?_) | (refine E_tt ?_) | (refine E_ff ?_) | (refine E_st ?_) | (refine E_len ?_) | (refine E_lenS ?_) | (refine E_box fun _ => ?_) | (refine E_eql ?_) | (refine E_neq ?_) | (refine E_lss ?_) | (refine E_leq ?_) | (refine E_gtr ?_) | (refine E_geq ?_) | (refine E_ext ?_) | (refine E_prt ?_) | (refine E_mx ?_) | (refine E_mn ?_) | (refine E_cap ?_) | (refine E_gdu ?_) | (refine E_fa fun _ => ?_) | (refine E_dr ?_) | (refine E_nc_f ?_) | (refine E_nc_i ?_) | (refine E_not ?_) | (refine E_str1 ?_) | (refine E_rck0 ?_) | (refine E_gff ?_) | (refine E_gtt ?_) | (refine E_gft ?_) | (refine E_gtf ?_) | (refine E_pff ?_) | (refine E_ptt ?_) | (refine E_ifT (by assumption) ?_) | (refine E_ifF (by assumption) ?_) | (refine E_gdT (by assumption) ?_) | (refine E_gdF (by assumption) ?_) | (refine E_gdnT (by assumption) ?_) | (refine E_gdnF (by assumption) ?_) | (refine E_pickT (by assumption) ?_) | (refine E_pickF (by assumption) ?_) | (refine E_ifT (by decide) ?_) | (refine E_ifF (by decide) ?_) | (refine E_gdT (by decide) ?_) | (refine E_gdF (by decide) ?_) | (refine E_gdnT (by decide) ?_) | (refine E_gdnF (by decide) ?_) | (refine E_pickT (by decide) ?_) | (refine E_pickF (by decide) ?_) | (refine E_addI (by omega) (by omega) ?_) | (refine E_subI (by omega) (by omega) ?_) | (refine E_mulI (by omega) (by omega) ?_)))
      refine E_find (a := dfo dl) (by repeat (first | exact Find.here | apply Find.there)) (E_done1 ?_)
      refine E_find (a := osl 3 1 sv zs.length (ints zs)) (by repeat (first | exact Find.here | apply Find.there)) ?_
      have hz : zs.Perm (kv.map (·.1)) := by simpa using hφ
      have hl : zs.length = kv.length := by have := hz.length_eq; simpa using this
      refine E_sortI sortOk (by omega) ?_
      rw [hl]
      refine E_find (a := dit kI o it r kv [] none) (by repeat (first | exact Find.here | apply Find.there)) (E_idone ?_)
      refine E_same (by repeat (first | exact Same.refl | (refine Same.cons (by repeat (first | exact Find.here | apply Find.there)) ?_) | (refine Same.drop ?_))) (h sv zs hz)
    · (repeat (first | (refine E_ld ?_) | (refine E_fad0 ?_) | (refine E_fad ?_) | (refine E_nc ?_) | (refine E_tt ?_) | (refine E_ff ?_) | (refine E_st ?_) | (refine E_len ?_) | (refine E_lenS ?_) | (refine E_box fun _ => ?_) | (refine E_eql ?_) | (refine E_neq ?_) | (refine E_lss ?_) | (refine E_leq ?_) | (refine E_gtr ?_) | (refine E_geq ?_) | (refine E_ext ?_) | (refine E_prt ?_) | (refine E_mx ?_) | (refine E_mn ?_) | (refine E_cap ?_) | (refine E_gdu ?_) | (refine E_fa fun _ => ?_) | (refine E_dr ?_) | (refine E_nc_f ?_) | (refine E_nc_i ?_) | (refine E_not ?_) | (refine E_str1 ?_) | (refine E_rck0 ?_) | (refine E_gff ?_) | (refine E_gtt ?_) | (refine E_gft ?_) | (refine E_gtf ?_) | (refine E_pff ?_) | (refine E_ptt ?_) | (refine E_ifT (by assumption) ?_) | (refine E_ifF (by assumption) ?_) | (refine E_gdT (by assumption) ?_) | (refine E_gdF (by assumption) ?_) | (refine E_gdnT (by assumption) ?_) | (refine E_gdnF (by assumption) ?_) | (refine E_pickT (by assumption) ?_) | (refine E_pickF (by assumption) ?_) | (refine E_ifT (by decide) ?_) | (refine E_ifF (by decide) ?_) | (refine E_gdT (by decide) ?_) | (refine E_gdF (by decide) ?_) | (refine E_gdnT (by decide) ?_) | (refine E_gdnF (by decide) ?_) | (refine E_pickT (by decide) ?_) | (refine E_pickF (by decide) ?_) | (refine E_addI (by omega) (by omega) ?_) | (refine E_subI (by omega) (by omega) ?_) | (refine E_mulI (by omega) (by omega) ?_)))
      refine E_dentry (κ := Int) ?_
      (repeat (first | (refine E_ld ?_) | (refine E_fad0 ?_) | (refine E_fad ?_) | (refine E_nc ?_) | (refine E_tt ?_) | (refine E_ff ?_) | (refine E_st ?_) | (refine E_len ?_) | (refine E_lenS ?_) | (refine E_box fun _ => ?_) | (refine E_eql ?_) | (refine E_neq ?_) | (refine E_lss ?_) | (refine E_leq ?_) | (refine E_gtr ?_) | (refine E_geq ?_) | (refine E_ext ?_) | (refine E_prt ?_) | (refine E_mx ?_) | (refine E_mn ?_) | (refine E_cap ?_) | (refine E_gdu ?_) | (refine E_fa fun _ => ?_) | (refine E_dr ?_) | (refine E_nc_f ?_) | (refine E_nc_i ?_) | (refine E_not ?_) | (refine E_str1 ?_) | (refine E_rck0 ?_) | (refine E_gff ?_) | (refine E_gtt ?_) | (refine E_gft ?_) | (refine E_gtf ?_) | (refine E_pff ?_) | (refine E_ptt ?_) | (refine E_ifT (by assumption) ?_) | (refine E_ifF (by assumption) ?_) | (refine E_gdT (by assumption) ?_) | (refine E_gdF (by assumption) ?_) | (refine E_gdnT (by assumption) ?_) | (refine E_gdnF (by assumption) ?_) | (refine E_pickT (by assumption) ?_) | (refine E_pickF (by assumption) ?_) | (refine E_ifT (by decide) ?_) | (refine E_ifF (by decide) ?_) | (refine E_gdT (by decide) ?_) | (refine E_gdF (by decide) ?_) | (refine E_gdnT (by decide) ?_) | (refine E_gdnF (by decide) ?_) | (refine E_pickT (by decide) ?_) | (refine E_pickF (by decide) ?_) | (refine E_addI (by omega) (by omega) ?_) | (refine E_subI (by omega) (by omega) ?_) | (refine E_mulI (by omega) (by omega) ?_)))
      refine E_find (a := lpo l L .ready .nrm) (by repeat (first | exact Find.here | apply Find.there)) (hY _ _ _ rfl ?_)
      refine E_begun ?_
      (repeat (first | (refine E_ld ?_) | (refine E_fad0 ?_) | (refine E_fad ?_) | (refine E_nc ?_) | (refine E_tt ?_) | (refine E_ff ?_) | (refine E_st ?_) | (refine E_len ?_) | (refine E_lenS ?_) | (refine E_box fun _ => ?_) | (refine E_eql ?_) | (refine E_neq ?_) | (refine E_lss ?_) | (refine E_leq ?_) | (refine E_gtr ?_) | (refine E_geq ?_) | (refine E_ext ?_) | (refine E_prt ?_) | (refine E_mx ?_) | (refine E_mn ?_) | (refine E_cap ?_) | (refine E_gdu ?_) | (refine E_fa fun _ => ?_) | (refine E_dr ?_) | (refine E_nc_f ?_) | (refine E_nc_i ?_) | (refine E_not ?_) | (refine E_str1 ?_) | (refine E_rck0 ?_) | (refine E_gff ?_) | (refine E_gtt ?_) | (refine E_gft ?_) | (refine E_gtf ?_) | (refine E_pff ?_) | (refine E_ptt ?_) | (refine E_ifT (by assumption) ?_) | (refine E_ifF (by assumption) ?_) | (refine E_gdT (by assumption) ?_) | (refine E_gdF (by assumption) ?_) | (refine E_gdnT (by assumption) ?_) | (refine E_gdnF (by assumption) ?_) | (refine E_pickT (by assumption) ?_) | (refine E_pickF (by assumption) ?_) | (refine E_ifT (by decide) ?_) | (refine E_ifF (by decide) ?_) | (refine E_gdT (by decide) ?_) | (refine E_gdF (by decide) ?_) | (refine E_gdnT (by decide) ?_) | (refine E_gdnF (by decide) ?_) | (refine E_pickT (by decide) ?_) | (refine E_pickF (by decide) ?_) | (refine E_addI (by omega) (by omega) ?_) | (refine E_subI (by omega) (by omega) ?_) | (refine E_mulI (by omega) (by omega) ?_)))
      refine E_bsl [(0, 1)] u_ints elt_int (by simp) (by decide) (l0 := [.int .i64 0]) rfl fun b => ?_
      refine E_find (a := osl 3 1 sv zs.length (ints zs)) (by repeat (first | exact Find.here | apply Find.there)) ?_
      have hl : zs.length + rest.length = kv.length := by have := hφ.length_eq; simpa using this
      have hr : rest.length = rest'.length + 1 := by simpa using hp.length_eq
      refine E_app (m := 1) (ys := [.int .i64 p.1]) u_ints elt_int (rd_slice (l := [.int .i64 p.1]) (T := 3) (κ := true) u_ints rfl rfl (by simp [isCell])) (by omega) (by omega) fun v' _ => ?_
      rw [ints_snoc]
      (repeat (first | (refine E_ld ?_) | (refine E_fad0 ?_) | (refine E_fad ?_) | (refine E_nc ?_) | (refine E_tt ?_) | (refine E_ff ?_) | (refine E_st ?_) | (refine E_len ?_) | (refine E_lenS ?_) | (refine E_box fun _ => ?_) | (refine E_eql ?_) | (refine E_neq ?_) | (refine E_lss ?_) | (refine E_leq ?_) | (refine E_gtr ?_) | (refine E_geq ?_) | (refine E_ext ?_) | (refine E_prt ?_) | (refine E_mx ?_) | (refine E_mn ?_) | (refine E_cap ?_) | (refine E_gdu ?_) | (refine E_fa fun _ => ?_) | (refine E_dr ?_) | (refine E_nc_f ?_) | (refine E_nc_i ?_) | (refine E_not ?_) | (refine E_str1 ?_) | (refine E_rck0 ?_) | (refine E_gff ?_) | (refine E_gtt ?_) | (refine E_gft ?_) | (refine E_gtf ?_) | (refine E_pff ?_) | (refine E_ptt ?_) | (refine E_ifT (by assumption) ?_) | (refine E_ifF (by assumption) ?_) | (refine E_gdT (by assumption) ?_) | (refine E_gdF (by assumption) ?_) | (refine E_gdnT (by assumption) ?_) | (refine E_gdnF (by assumption) ?_) | (refine E_pickT (by assumption) ?_) | (refine E_pickF (by assumption) ?_) | (refine E_ifT (by decide) ?_) | (refine E_ifF (by decide) ?_) | (refine E_gdT (by decide) ?_) | (refine E_gdF (by decide) ?_) | (refine E_gdnT (by decide) ?_) | (refine E_gdnF (by decide) ?_) | (refine E_pickT (by decide) ?_) | (refine E_pickF (by decide) ?_) | (refine E_addI (by omega) (by omega) ?_) | (refine E_subI (by omega) (by omega) ?_) | (refine E_mulI (by omega) (by omega) ?_)))
      refine E_find (a := lpo l L .busy .nrm) (by repeat (first | exact Find.here | apply Find.there)) (E_ended ?_)
      refine E_notb ?_
      (repeat (first | (refine E_ld ?_) | (refine E_fad0 ?_) | (refine E_fad ?_) | (refine E_nc ?_) | (refine E_tt ?_) | (refine E_ff ?_) | (refine E_st ?_) | (refine E_len ?_) | (refine E_lenS ?_) | (refine E_box fun _ => ?_) | (refine E_eql ?_) | (refine E_neq ?_) | (refine E_lss ?_) | (refine E_leq ?_) | (refine E_gtr ?_) | (refine E_geq ?_) | (refine E_ext ?_) | (refine E_prt ?_) | (refine E_mx ?_) | (refine E_mn ?_) | (refine E_cap ?_) | (refine E_gdu ?_) | (refine E_fa fun _ => ?_) | (refine E_dr ?_) | (refine E_nc_f ?_) | (refine E_nc_i ?_) | (refine E_not ?_) | (refine E_str1 ?_) | (refine E_rck0 ?_) | (refine E_gff ?_) | (refine E_gtt ?_) | (refine E_gft ?_) | (refine E_gtf ?_) | (refine E_pff ?_) | (refine E_ptt ?_) | (refine E_ifT (by assumption) ?_) | (refine E_ifF (by assumption) ?_) | (refine E_gdT (by assumption) ?_) | (refine E_gdF (by assumption) ?_) | (refine E_gdnT (by assumption) ?_) | (refine E_gdnF (by assumption) ?_) | (refine E_pickT (by assumption) ?_) | (refine E_pickF (by assumption) ?_) | (refine E_ifT (by decide) ?_) | (refine E_ifF (by decide) ?_) | (refine E_gdT (by decide) ?_) | (refine E_gdF (by decide) ?_) | (refine E_gdnT (by decide) ?_) | (refine E_gdnF (by decide) ?_) | (refine E_pickT (by decide) ?_) | (refine E_pickF (by decide) ?_) | (refine E_addI (by omega) (by omega) ?_) | (refine E_subI (by omega) (by omega) ?_) | (refine E_mulI (by omega) (by omega) ?_)))
      have h1 := (hp.map (·.1)).append_left zs
      have hk' := hk (rest', some p, zs ++ [p.1], v') (by simpa using h1.symm.trans hφ) (by simp [hr])
      simp only [List.length_append, List.length_cons, List.length_nil, Nat.zero_add] at hk'
      exact E_same (by repeat (first | exact Same.refl | (refine Same.cons (by repeat (first | exact Find.here | apply Find.there)) ?_) | (refine Same.drop ?_))) hk'
end Go.Proofs.YtmbfmkiagdhcoaaDoor.Disk

/-
  What a disk is: the document's words.
-/
namespace Go.Proofs.YtmbfmkiagdhcoaaDoor.Disk
/-- A sector: its sure bytes, and those that were written last. -/
structure Sec where
  sure : List UInt8
  last : Option (List UInt8)
def Sec.now (s : Sec) : List UInt8 := s.last.getD s.sure
structure Dk where
  S : List Sec
  trip : Int
  down : Bool
  life : Int
structure Dk.Ok (D : Dk) : Prop where
  n1 : 1 ≤ D.S.length
  n2 : D.S.length ≤ 4096
  t1 : 0 ≤ D.trip
  t2 : D.trip ≤ 9223372036854775807
  len : ∀ s ∈ D.S, s.sure.length = 128 ∧ ∀ b, s.last = some b → b.length = 128
def pad (bs : List UInt8) : List UInt8 := bs ++ List.replicate (128 - bs.length) 0
theorem pad_length {bs : List UInt8} (h : bs.length ≤ 128) : (pad bs).length = 128 := by simp [pad]; omega
def zero128 : List UInt8 := List.replicate 128 0
def Dk.new (n : Nat) : Dk := ⟨List.replicate n ⟨zero128, none⟩, 0, false, 0⟩
def Dk.out (D : Dk) (i : Int) : Prop := i < 0 ∨ (D.S.length : Int) ≤ i
instance (D : Dk) (i : Int) : Decidable (D.out i) := inferInstanceAs (Decidable (_ ∨ _))
/-- What is wrong with a disk, or a sector's number. -/
def Dk.pow (D : Dk) (i : Int) : Int := if D.down = true then 7 else if D.out i then 2 else 0
/-- The power goes. -/
def Dk.gone (D : Dk) : Dk := { D with trip := 0, down := true }
def Dk.tick (D : Dk) : Dk := { D with trip := max (D.trip - 1) 0 }
def Dk.setS (D : Dk) (i : Nat) (f : Sec → Sec) : Dk := { D with S := D.S.modify i f }
def Dk.wrE (D : Dk) (i : Int) (bs : List UInt8) : Int := if D.pow i ≠ 0 then D.pow i else if 128 < bs.length then 6 else if D.trip = 1 then 7 else 0
def Dk.wr (D : Dk) (i : Int) (bs : List UInt8) : Dk := if D.pow i ≠ 0 then D else if 128 < bs.length then D else if D.trip = 1 then D.gone else D.tick.setS i.toNat fun s => { s with last := some (pad bs) }
def Dk.rd (D : Dk) (i : Int) : List UInt8 := if D.pow i ≠ 0 then [] else match D.S[i.toNat]? with | some s => s.now | none => []
def Sec.settle (s : Sec) : Sec := ⟨s.now, none⟩
def Dk.flE (D : Dk) : Int := if D.down = true then 7 else if D.trip = 1 then 7 else 0
def Dk.fl (D : Dk) : Dk := if D.down = true then D else if D.trip = 1 then D.gone else { D.tick with S := D.S.map Sec.settle }
def Dk.trE (D : Dk) (n : Int) : Int := if D.down = true then 7 else if n < 0 then 2 else 0
def Dk.tr (D : Dk) (n : Int) : Dk := if D.down = true then D else if n < 0 then D else { D with trip := n }
def Dk.rotE (D : Dk) (i : Int) (bs : List UInt8) : Int := if D.out i then 2 else if 128 < bs.length then 6 else 0
def Dk.rot (D : Dk) (i : Int) (bs : List UInt8) : Dk := if D.out i then D else if 128 < bs.length then D else D.setS i.toNat fun _ => ⟨pad bs, none⟩
/-- The numbers of the sectors that were written, but not flushed. -/
def dirtyFrom : List Sec → Nat → List Int
  | [], _ => []
  | s :: l, i => if s.last.isSome then (i : Int) :: dirtyFrom l (i + 1) else dirtyFrom l (i + 1)
def Dk.dirty (D : Dk) : List Int := dirtyFrom D.S 0
/-- A crash: which are kept, which one is torn, and where. -/
structure Cr where
  keep : List Bool
  torn : Int
  at_ : Int
def Cr.one (c : Cr) (k : Nat) (s : Sec) (b : List UInt8) : List UInt8 :=
  if (k : Int) = c.torn ∧ 0 ≤ c.at_ ∧ c.at_ ≤ 128 then b.take c.at_.toNat ++ s.sure.drop c.at_.toNat else if c.keep.getD k false then b else s.sure
/-- What each sector that was written becomes, the k-th of them by g k. -/
def crashG (g : Nat → Sec → Sec) : List Sec → Nat → List Sec
  | [], _ => []
  | s :: l, k => if s.last.isSome then g k s :: crashG g l (k + 1) else s :: crashG g l k
def Cr.sec (c : Cr) (k : Nat) (s : Sec) : Sec := ⟨c.one k s s.now, none⟩
def Dk.crash (D : Dk) (c : Cr) : Dk := ⟨crashG c.sec D.S 0, 0, false, Go.IntKind.i64.wrap (D.life + 1)⟩

theorem dirty_head : ∀ {S : List Sec} {p : Nat} {k : Int} {ks : List Int}, dirtyFrom S p = k :: ks → ∃ (i : Nat) (s : Sec), k = ((p + i : Nat) : Int) ∧ S[i]? = some s ∧ s.last.isSome = true ∧
    (∀ s' : Sec, s'.last = none → dirtyFrom (S.set i s') p = ks) ∧ ∀ (g : Nat → Sec → Sec) (n : Nat), (g n s).last = none → crashG g S n = crashG g (S.set i (g n s)) (n + 1)
  | [], p, k, ks, h => by simp [dirtyFrom] at h
  | s :: S, p, k, ks, h => by
    unfold dirtyFrom at h
    by_cases hs : s.last.isSome = true
    · rw [if_pos hs] at h
      simp only [List.cons.injEq] at h
      refine ⟨0, s, by simp [← h.1], rfl, hs, fun s' hs' => ?_, fun g n hg => ?_⟩
      · simp [dirtyFrom, hs', h.2]
      · simp [crashG, hs, hg]
    · rw [if_neg hs] at h
      obtain ⟨i, s1, h1, h2, h3, h4, h5⟩ := dirty_head h
      refine ⟨i + 1, s1, by rw [h1]; congr 1; omega, by simpa using h2, h3, fun s' hs' => ?_, fun g n hg => ?_⟩
      · simp [dirtyFrom, hs, h4 s' hs']
      · simp [crashG, hs, h5 g n hg]
theorem dirty_nil : ∀ {S : List Sec} {p : Nat}, dirtyFrom S p = [] → (∀ s ∈ S, s.last = none) ∧ ∀ (g : Nat → Sec → Sec) (n : Nat), crashG g S n = S
  | [], p, h => ⟨by simp, fun g n => rfl⟩
  | s :: S, p, h => by
    unfold dirtyFrom at h
    by_cases hs : s.last.isSome = true
    · rw [if_pos hs] at h; cases h
    · rw [if_neg hs] at h
      obtain ⟨h1, h2⟩ := dirty_nil h
      refine ⟨fun x hx => ?_, fun g n => by simp [crashG, hs, h2 g n]⟩
      rcases List.mem_cons.1 hx with rfl | hx
      · cases hl : x.last with
        | none => rfl
        | some b => rw [hl] at hs; exact absurd rfl hs
      · exact h1 x hx
theorem mem_dirty : ∀ {S : List Sec} {p : Nat} {k : Int}, k ∈ dirtyFrom S p ↔ ∃ (i : Nat) (s : Sec), k = ((p + i : Nat) : Int) ∧ S[i]? = some s ∧ s.last.isSome = true
  | [], p, k => by simp [dirtyFrom]
  | s :: S, p, k => by
    have ih := mem_dirty (S := S) (p := p + 1) (k := k)
    have key : (∃ (i : Nat) (s' : Sec), k = ((p + i : Nat) : Int) ∧ (s :: S)[i]? = some s' ∧ s'.last.isSome = true) ↔ (k = (p : Int) ∧ s.last.isSome = true) ∨ k ∈ dirtyFrom S (p + 1) := by
      rw [ih]
      constructor
      · rintro ⟨i, s', h1, h2, h3⟩
        cases i with
        | zero => simp at h2; subst h2; exact .inl ⟨by simpa using h1, h3⟩
        | succ i => exact .inr ⟨i, s', by rw [h1]; congr 1; omega, by simpa using h2, h3⟩
      · rintro (⟨h1, h2⟩ | ⟨i, s', h1, h2, h3⟩)
        · exact ⟨0, s, by simpa using h1, rfl, h2⟩
        · exact ⟨i + 1, s', by rw [h1]; congr 1; omega, by simpa using h2, h3⟩
    rw [key, show dirtyFrom (s :: S) p = if s.last.isSome then (p : Int) :: dirtyFrom S (p + 1) else dirtyFrom S (p + 1) from rfl]
    by_cases hs : s.last.isSome = true
    · simp [hs]
    · simp [hs]
theorem dirty_sorted : ∀ {S : List Sec} {p : Nat}, (dirtyFrom S p).Pairwise (· < ·)
  | [], p => by simp [dirtyFrom]
  | s :: S, p => by
    unfold dirtyFrom
    split
    · refine List.pairwise_cons.2 ⟨fun k hk => ?_, dirty_sorted⟩
      obtain ⟨i, _, h, _⟩ := mem_dirty.1 hk
      rw [h]; omega
    · exact dirty_sorted
theorem dirty_length : ∀ {S : List Sec} {p : Nat}, (dirtyFrom S p).length ≤ S.length
  | [], p => by simp [dirtyFrom]
  | s :: S, p => by
    unfold dirtyFrom
    have := dirty_length (S := S) (p := p + 1)
    split <;> simp <;> omega
theorem settle_all : ∀ {S : List Sec} {n : Nat}, crashG (fun _ s => s.settle) S n = S.map Sec.settle
  | [], n => rfl
  | s :: S, n => by
    unfold crashG
    split
    · simp [settle_all]
    · rename_i h
      have : s.last = none := by cases hl : s.last with
        | none => rfl
        | some b => rw [hl] at h; exact absurd rfl h
      have : s.settle = s := by cases s; simp only at this; subst this; rfl
      simp [settle_all, this]
theorem sort_dirty {S : List Sec} {zs : List Int} (hz : zs.Perm (dirtyFrom S 0)) : (zs.mergeSort fun x y => decide (x ≤ y)) = dirtyFrom S 0 := by
  refine List.Perm.eq_of_pairwise (le := fun x y : Int => x ≤ y) (fun a b _ _ h1 h2 => by omega) ?_ ?_ ((List.mergeSort_perm ..).trans hz)
  · have := List.pairwise_mergeSort (le := fun x y : Int => decide (x ≤ y)) (by intro a b c; simp; omega) (by intro a b; simp; omega) zs
    exact this.imp fun h => by simpa using h
  · exact dirty_sorted.imp fun h => by omega
end Go.Proofs.YtmbfmkiagdhcoaaDoor.Disk

/-
  The disk: clones, padding, what holds of the type table.
-/
namespace Go.Proofs.YtmbfmkiagdhcoaaDoor.Disk
open Go Go.SL Go.Proofs Go.Proofs.YtmbfmkiagdhcoaaDoor.Sh
attribute [local irreducible] S.pick S.ld S.ldN S.st S.box S.nc S.fad S.ixS S.ixA S.chr S.prt S.ext S.bin S.sh S.sbin S.beq S.neg1 S.com1 S.not1 S.cvt S.str1 S.lenS S.len S.cap S.lenM S.mx S.mn S.mkM S.cond S.gd S.fa S.dr S.rck S.join S.loop S.cvv S.eqv S.slc S.slcS S.b2s S.lk V U CF Gives E cel mpb osl ros dct dit itr lpo dfo

theorem u_pDisk : Tryd.prog.underlying 24 = some (.pointer 52) := by kernel_rfl
theorem u_bytes : Tryd.prog.underlying 22 = some (.slice 5) := by kernel_rfl
theorem u_byte : Tryd.prog.underlying 5 = some (.int .u8) := by kernel_rfl
theorem u_bytess : Tryd.prog.underlying 44 = some (.slice 22) := by kernel_rfl
theorem elt_byte : Elt Tryd.prog 5 1 1 [.int .u8 0] := elt_of (zv := .int .u8 0) (by kernel_rfl) rfl rfl
theorem elt_bytes : Elt Tryd.prog 22 1 24 [.slice none 0 0] := elt_of (zv := .slice none 0 0) (by kernel_rfl) rfl rfl

variable {B : World} {H : List Asrt} {K : Value → WT}

/-- slices.Clone of bytes. -/
theorem clone {v : Value} {bs : List UInt8} [hf : Rb B H v bs] (hn : bs.length ≤ 70368744177664)
    (h : ∀ v' [CellI v'], E B (osl 5 1 v' bs.length (bcs bs) :: H) (K v')) : E B H (CF Tryd.prog 28 [v] K) := by
  refine E_mono (W := s28 _ K) ?_ fun _ => c28
  refine E_rb (hf := hf) (fun hv hb => ?_) (fun a' cap hv hle => ?_)
  · subst hv hb
    unfold s28
    refine E_sleq u_bytes ?_
    (repeat (first | (refine E_ld ?_) | (refine E_fad0 ?_) | (refine E_fad ?_) | (refine E_nc ?_) | (refine E_tt ?_) | (refine E_ff ?_) | (refine E_st ?_) | (refine E_len ?_) | (refine E_lenS ?_) | (refine E_box fun _ => ?_) | (refine E_eql ?_) | (refine E_neq ?_) | (refine E_lss ?_) | (refine E_leq ?_) | (refine E_gtr ?_) | (refine E_geq ?_) | (refine E_ext ?_) | (refine E_prt ?_) | (refine E_mx ?_) | (refine E_mn ?_) | (refine E_cap ?_) | (refine E_gdu ?_) | (refine E_fa fun _ => ?_) | (refine E_dr ?_) | (refine E_nc_f ?_) | (refine E_nc_i ?_) | (refine E_not ?_) | (refine E_str1 ?_) | (refine E_rck0 ?_) | (refine E_gff ?_) | (refine E_gtt ?_) | (refine E_gft ?_) | (refine E_gtf ?_) | (refine E_pff ?_) | (refine E_ptt ?_) | (refine E_ifT (by assumption) ?_) | (refine E_ifF (by assumption) ?_) | (refine E_gdT (by assumption) ?_) | (refine E_gdF (by assumption) ?_) | (refine E_gdnT (by assumption) ?_) | (refine E_gdnF (by assumption) ?_) | (refine E_pickT (by assumption) ?_) | (refine E_pickF (by assumption) ?_) | (refine E_ifT (by decide) ?_) | (refine E_ifF (by decide) ?_) | (refine E_gdT (by decide) ?_) | (refine E_gdF (by decide) ?_) | (refine E_gdnT (by decide) ?_) | (refine E_gdnF (by decide) ?_) | (refine E_pickT (by decide) ?_) | (refine E_pickF (by decide) ?_) | (refine E_addI (by omega) (by omega) ?_) | (refine E_subI (by omega) (by omega) ?_) | (refine E_mulI (by omega) (by omega) ?_)))
    exact osl_nil (h _)
  · unfold s28
    rw [hv]
    refine E_sleq u_bytes ?_
    rw [← hv]
    (repeat (first | (refine E_ld ?_) | (refine E_fad0 ?_) | (refine E_fad ?_) | (refine E_nc ?_) | (refine E_tt ?_) | (refine E_ff ?_) | (refine E_st ?_) | (refine E_len ?_) | (refine E_lenS ?_) | (refine E_box fun _ => ?_) | (refine E_eql ?_) | (refine E_neq ?_) | (refine E_lss ?_) | (refine E_leq ?_) | (refine E_gtr ?_) | (refine E_geq ?_) | (refine E_ext ?_) | (refine E_prt ?_) | (refine E_mx ?_) | (refine E_mn ?_) | (refine E_cap ?_) | (refine E_gdu ?_) | (refine E_fa fun _ => ?_) | (refine E_dr ?_) | (refine E_nc_f ?_) | (refine E_nc_i ?_) | (refine E_not ?_) | (refine E_str1 ?_) | (refine E_rck0 ?_) | (refine E_gff ?_) | (refine E_gtt ?_) | (refine E_gft ?_) | (refine E_gtf ?_) | (refine E_pff ?_) | (refine E_ptt ?_) | (refine E_ifT (by assumption) ?_) | (refine E_ifF (by assumption) ?_) | (refine E_gdT (by assumption) ?_) | (refine E_gdF (by assumption) ?_) | (refine E_gdnT (by assumption) ?_) | (refine E_gdnF (by assumption) ?_) | (refine E_pickT (by assumption) ?_) | (refine E_pickF (by assumption) ?_) | (refine E_ifT (by decide) ?_) | (refine E_ifF (by decide) ?_) | (refine E_gdT (by decide) ?_) | (refine E_gdF (by decide) ?_) | (refine E_gdnT (by decide) ?_) | (refine E_gdnF (by decide) ?_) | (refine E_pickT (by decide) ?_) | (refine E_pickF (by decide) ?_) | (refine E_addI (by omega) (by omega) ?_) | (refine E_subI (by omega) (by omega) ?_) | (refine E_mulI (by omega) (by omega) ?_)))
    refine E_bsl0 u_bytes elt_byte fun b' => ?_
    refine osl_of_cel (n := 0) (sz := 1) rfl ?_
    refine E_app (m := bs.length) u_bytes elt_byte (rd_rb (hf := hf) u_bytes) (by omega) (by omega) fun v' _ => ?_
    simpa using h v'

theorem rep_zero (n : Nat) : rep n [.int .u8 0] = bcs (List.replicate n 0) := by
  simp [rep, bcs]

/-- whole: a sector's bytes. -/
theorem whole {v : Value} {bs : List UInt8} [hf : Rb B H v bs] (hn : bs.length ≤ 128)
    (h : ∀ v' [CellI v'], E B (osl 5 1 v' 128 (bcs (pad bs)) :: H) (K v')) : E B H (CF Tryd.prog 29 [v] K) := by
  refine E_mono (W := s29 _ K) ?_ fun _ => c29
  have fin : ∀ v1 [CellI v1], E B (osl 5 1 v1 bs.length (bcs bs) :: H) (V Tryd.prog (Builtin.append_ #[22, 3] 22 #[v1, .int .i64 (128 - bs.length)]) fun v8 => K v8) := fun v1 _ => by
    refine E_appz (k := 128 - bs.length) u_bytes u_int elt_byte (by simp [isCell]) (by omega) (by omega) (by omega) (by omega) (by omega) fun v' _ => ?_
    have e1 : ((128 : Int) - bs.length).toNat = 128 - bs.length := by omega
    have e3 : bs.length + (128 - bs.length) = 128 := by omega
    rw [e1, rep_zero]
    have e2 : bcs bs ++ bcs (List.replicate (128 - bs.length) 0) = bcs (pad bs) := by simp [bcs, pad]
    rw [e2, e3]
    exact h v'
  refine E_rb (hf := hf) (fun hv hb => ?_) (fun a' cap hv hle => ?_)
  · subst hv hb
    unfold s29
    refine clone (hf := hf) (by simp) fun v1 _ => ?_
    (repeat (first | (refine E_ld ?_) | (refine E_fad0 ?_) | (refine E_fad ?_) | (refine E_nc ?_) | (refine E_tt ?_) | (refine E_ff ?_) | (refine E_st ?_) | (refine E_len ?_) | (refine E_lenS ?_) | (refine E_box fun _ => ?_) | (refine E_eql ?_) | (refine E_neq ?_) | (refine E_lss ?_) | (refine E_leq ?_) | (refine E_gtr ?_) | (refine E_geq ?_) | (refine E_ext ?_) | (refine E_prt ?_) | (refine E_mx ?_) | (refine E_mn ?_) | (refine E_cap ?_) | (refine E_gdu ?_) | (refine E_fa fun _ => ?_) | (refine E_dr ?_) | (refine E_nc_f ?_) | (refine E_nc_i ?_) | (refine E_not ?_) | (refine E_str1 ?_) | (refine E_rck0 ?_) | (refine E_gff ?_) | (refine E_gtt ?_) | (refine E_gft ?_) | (refine E_gtf ?_) | (refine E_pff ?_) | (refine E_ptt ?_) | (refine E_ifT (by assumption) ?_) | (refine E_ifF (by assumption) ?_) | (refine E_gdT (by assumption) ?_) | (refine E_gdF (by assumption) ?_) | (refine E_gdnT (by assumption) ?_) | (refine E_gdnF (by assumption) ?_) | (refine E_pickT (by assumption) ?_) | (refine E_pickF (by assumption) ?_) | (refine E_ifT (by decide) ?_) | (refine E_ifF (by decide) ?_) | (refine E_gdT (by decide) ?_) | (refine E_gdF (by decide) ?_) | (refine E_gdnT (by decide) ?_) | (refine E_gdnF (by decide) ?_) | (refine E_pickT (by decide) ?_) | (refine E_pickF (by decide) ?_) | (refine E_addI (by omega) (by omega) ?_) | (refine E_subI (by omega) (by omega) ?_) | (refine E_mulI (by omega) (by omega) ?_)))
    exact fin v1
  · unfold s29
    refine clone (hf := hf) (by omega) fun v1 _ => ?_
    rw [hv]
    (repeat (first | (refine E_ld ?_) | (refine E_fad0 ?_) | (refine E_fad ?_) | (refine E_nc ?_) | (refine E_tt ?_) | (refine E_ff ?_) | (refine E_st ?_) | (refine E_len ?_) | (refine E_lenS ?_) | (refine E_box fun _ => ?_) | (refine E_eql ?_) | (refine E_neq ?_) | (refine E_lss ?_) | (refine E_leq ?_) | (refine E_gtr ?_) | (refine E_geq ?_) | (refine E_ext ?_) | (refine E_prt ?_) | (refine E_mx ?_) | (refine E_mn ?_) | (refine E_cap ?_) | (refine E_gdu ?_) | (refine E_fa fun _ => ?_) | (refine E_dr ?_) | (refine E_nc_f ?_) | (refine E_nc_i ?_) | (refine E_not ?_) | (refine E_str1 ?_) | (refine E_rck0 ?_) | (refine E_gff ?_) | (refine E_gtt ?_) | (refine E_gft ?_) | (refine E_gtf ?_) | (refine E_pff ?_) | (refine E_ptt ?_) | (refine E_ifT (by assumption) ?_) | (refine E_ifF (by assumption) ?_) | (refine E_gdT (by assumption) ?_) | (refine E_gdF (by assumption) ?_) | (refine E_gdnT (by assumption) ?_) | (refine E_gdnF (by assumption) ?_) | (refine E_pickT (by assumption) ?_) | (refine E_pickF (by assumption) ?_) | (refine E_ifT (by decide) ?_) | (refine E_ifF (by decide) ?_) | (refine E_gdT (by decide) ?_) | (refine E_gdF (by decide) ?_) | (refine E_gdnT (by decide) ?_) | (refine E_gdnF (by decide) ?_) | (refine E_pickT (by decide) ?_) | (refine E_pickF (by decide) ?_) | (refine E_addI (by omega) (by omega) ?_) | (refine E_subI (by omega) (by omega) ?_) | (refine E_mulI (by omega) (by omega) ?_)))
    exact fin v1
end Go.Proofs.YtmbfmkiagdhcoaaDoor.Disk

/-
  How a disk lies in memory; its small methods.
-/
namespace Go.Proofs.YtmbfmkiagdhcoaaDoor.Disk
open Go Go.SL Go.Proofs Go.Proofs.YtmbfmkiagdhcoaaDoor.Sh

structure DRep (D : Dk) (vs : List Value) (kv : List (Int × Value)) (L : List (Value × List UInt8)) : Prop where
  len : vs.length = D.S.length
  sur : ∀ (i : Nat) s, D.S[i]? = some s → ∃ v, vs[i]? = some v ∧ CellI v ∧ (v, s.sure) ∈ L
  las : ∀ (i : Nat) s b, D.S[i]? = some s → s.last = some b → ∃ v, kv.lookup (i : Int) = some v ∧ CellI v ∧ (v, b) ∈ L
  nol : ∀ (i : Nat) s, D.S[i]? = some s → s.last = none → kv.lookup (i : Int) = none
  dom : ∀ k ∈ kv.map (·.1), ∃ (i : Nat) (s : Sec), k = (i : Int) ∧ D.S[i]? = some s
  nod : (kv.map (·.1)).Nodup
  ok : D.Ok
structure DW where
  sv : Value
  m : Nat
  vs : List Value
  kv : List (Int × Value)
  L : List (Value × List UInt8)
/-- The disk D at a. -/
def disk (a : Nat) (D : Dk) : Asrt := ex fun (x : DW) => all [cel true a 52 [x.sv, .map (some x.m), I D.trip, .bool D.down, I D.life],
  osl 22 1 x.sv D.S.length x.vs, dct kI true x.m x.kv, ros x.L, pur (DRep D x.vs x.kv x.L)]

variable {B : World} {H : List Asrt} {K : Value → WT} {W : WT}
theorem E_disk {a : Nat} {D : Dk} (h : ∀ b cap m vs sp kv L, DRep D vs kv L → D.S.length ≤ cap → sp.length = cap - D.S.length →
    E B (cel true a 52 [.slice (some ⟨b, 0, none⟩) D.S.length cap, .map (some m), I D.trip, .bool D.down, I D.life] :: cel true b 22 (vs ++ sp) :: dct kI true m kv :: ros L :: H) W) : E B (disk a D :: H) W := by
  refine E_ex fun x => E_all ?_
  refine E_find (a := pur (DRep D x.vs x.kv x.L)) (by repeat (first | exact Find.here | apply Find.there)) (E_pur fun hr => ?_)
  refine E_find (a := osl 22 1 x.sv D.S.length x.vs) (by repeat (first | exact Find.here | apply Find.there)) (E_oslo hr.ok.n1 fun b cap sp hv hle hxl hsl => ?_)
  rw [hv]
  exact E_same (by repeat (first | exact Same.refl | (refine Same.cons (by repeat (first | exact Find.here | apply Find.there)) ?_) | (refine Same.drop ?_))) (h b cap x.m x.vs sp x.kv x.L hr hle (by simpa using hsl))
theorem E_disks {a b cap m : Nat} {n : Nat} {D : Dk} {vs sp : List Value} {kv : List (Int × Value)} {L : List (Value × List UInt8)} {tr li : Int} {dn : Bool} (hr : DRep D vs kv L) (hle : n ≤ cap) (hsl : sp.length = cap - n)
    (hn : n = D.S.length) (h1 : tr = D.trip) (h2 : dn = D.down) (h3 : li = D.life)
    (h : E B (disk a D :: H) W) : E B (cel true a 52 [.slice (some ⟨b, 0, none⟩) n cap, .map (some m), I tr, .bool dn, I li] :: cel true b 22 (vs ++ sp) :: dct kI true m kv :: ros L :: H) W := by
  subst hn h1 h2 h3
  refine E_find (a := cel true b 22 (vs ++ sp)) (by repeat (first | exact Find.here | apply Find.there)) (E_osls (n := D.S.length) (cap := cap) (sz := 1) hle (by rw [hr.len]; simp) (by simpa using hsl) ?_)
  refine E_pur' hr ?_
  have h' := E_all' (E_ex' (f := fun (x : DW) => all [cel true a 52 [x.sv, .map (some x.m), I D.trip, .bool D.down, I D.life],
    osl 22 1 x.sv D.S.length x.vs, dct kI true x.m x.kv, ros x.L, pur (DRep D x.vs x.kv x.L)]) ⟨.slice (some ⟨b, 0, none⟩) D.S.length cap, m, vs, kv, L⟩ h)
  exact E_same (by repeat (first | exact Same.refl | (refine Same.cons (by repeat (first | exact Find.here | apply Find.there)) ?_) | (refine Same.drop ?_))) h'
theorem E_dkok {a : Nat} {D : Dk} (h : D.Ok → E B (disk a D :: H) W) : E B (disk a D :: H) W :=
  E_disk fun b cap m vs sp kv L hr hle hsl => E_disks hr hle hsl rfl rfl rfl rfl (h hr.ok)
end Go.Proofs.YtmbfmkiagdhcoaaDoor.Disk

/-
  The disk's small methods.
-/
namespace Go.Proofs.YtmbfmkiagdhcoaaDoor.Disk
open Go Go.SL Go.Proofs Go.Proofs.YtmbfmkiagdhcoaaDoor.Sh
attribute [local irreducible] S.pick S.ld S.ldN S.st S.box S.nc S.fad S.ixS S.ixA S.chr S.prt S.ext S.bin S.sh S.sbin S.beq S.neg1 S.com1 S.not1 S.cvt S.str1 S.lenS S.len S.cap S.lenM S.mx S.mn S.mkM S.cond S.gd S.fa S.dr S.rck S.join S.loop S.cvv S.eqv S.slc S.slcS S.b2s S.lk V U CF Gives E cel mpb osl ros dct dit itr lpo dfo
attribute [local irreducible] disk
variable {B : World} {H : List Asrt} {K : Value → WT}
abbrev ptr (a : Nat) : Value := .pointer (some ⟨a, 0, none⟩)

theorem powered {a : Nat} {D : Dk} {i : Int} (h : E B (disk a D :: H) (K (I (D.pow i)))) : E B (disk a D :: H) (CF Tryd.prog 27 [ptr a, I i] K) := by
  refine E_disk fun b cap m vs sp kv L hr hle hsl => ?_
  have h' := E_disks (H := H) hr hle hsl rfl rfl rfl rfl (b := b) (m := m) h
  unfold Dk.pow at h'
  refine E_mono (W := s27 _ _ K) ?_ fun _ => c27
  unfold s27
  refine E_peq u_pDisk ?_
  (repeat (first | (refine E_ld ?_) | (refine E_fad0 ?_) | (refine E_fad ?_) | (refine E_nc ?_) | (refine E_tt ?_) | (refine E_ff ?_) | (refine E_st ?_) | (refine E_len ?_) | (refine E_lenS ?_) | (refine E_box fun _ => ?_) | (refine E_eql ?_) | (refine E_neq ?_) | (refine E_lss ?_) | (refine E_leq ?_) | (refine E_gtr ?_) | (refine E_geq ?_) | (refine E_ext ?_) | (refine E_prt ?_) | (refine E_mx ?_) | (refine E_mn ?_) | (refine E_cap ?_) | (refine E_gdu ?_) | (refine E_fa fun _ => ?_) | (refine E_dr ?_) | (refine E_nc_f ?_) | (refine E_nc_i ?_) | (refine E_not ?_) | (refine E_str1 ?_) | (refine E_rck0 ?_) | (refine E_gff ?_) | (refine E_gtt ?_) | (refine E_gft ?_) | (refine E_gtf ?_) | (refine E_pff ?_) | (refine E_ptt ?_) | (refine E_ifT (by assumption) ?_) | (refine E_ifF (by assumption) ?_) | (refine E_gdT (by assumption) ?_) | (refine E_gdF (by assumption) ?_) | (refine E_gdnT (by assumption) ?_) | (refine E_gdnF (by assumption) ?_) | (refine E_pickT (by assumption) ?_) | (refine E_pickF (by assumption) ?_) | (refine E_ifT (by decide) ?_) | (refine E_ifF (by decide) ?_) | (refine E_gdT (by decide) ?_) | (refine E_gdF (by decide) ?_) | (refine E_gdnT (by decide) ?_) | (refine E_gdnF (by decide) ?_) | (refine E_pickT (by decide) ?_) | (refine E_pickF (by decide) ?_) | (refine E_addI (by omega) (by omega) ?_) | (refine E_subI (by omega) (by omega) ?_) | (refine E_mulI (by omega) (by omega) ?_)))
  refine E_ifb (fun hd => ?_) (fun hd => ?_)
  · rw [if_pos hd] at h'
    rw [hd] at h' ⊢
    exact h'
  · have hd' : ¬ D.down = true := by simp [hd]
    rw [if_neg hd'] at h'
    rw [hd] at h' ⊢
    refine E_join0 ?_
    (repeat (first | (refine E_ld ?_) | (refine E_fad0 ?_) | (refine E_fad ?_) | (refine E_nc ?_) | (refine E_tt ?_) | (refine E_ff ?_) | (refine E_st ?_) | (refine E_len ?_) | (refine E_lenS ?_) | (refine E_box fun _ => ?_) | (refine E_eql ?_) | (refine E_neq ?_) | (refine E_lss ?_) | (refine E_leq ?_) | (refine E_gtr ?_) | (refine E_geq ?_) | (refine E_ext ?_) | (refine E_prt ?_) | (refine E_mx ?_) | (refine E_mn ?_) | (refine E_cap ?_) | (refine E_gdu ?_) | (refine E_fa fun _ => ?_) | (refine E_dr ?_) | (refine E_nc_f ?_) | (refine E_nc_i ?_) | (refine E_not ?_) | (refine E_str1 ?_) | (refine E_rck0 ?_) | (refine E_gff ?_) | (refine E_gtt ?_) | (refine E_gft ?_) | (refine E_gtf ?_) | (refine E_pff ?_) | (refine E_ptt ?_) | (refine E_ifT (by assumption) ?_) | (refine E_ifF (by assumption) ?_) | (refine E_gdT (by assumption) ?_) | (refine E_gdF (by assumption) ?_) | (refine E_gdnT (by assumption) ?_) | (refine E_gdnF (by assumption) ?_) | (refine E_pickT (by assumption) ?_) | (refine E_pickF (by assumption) ?_) | (refine E_ifT (by decide) ?_) | (refine E_ifF (by decide) ?_) | (refine E_gdT (by decide) ?_) | (refine E_gdF (by decide) ?_) | (refine E_gdnT (by decide) ?_) | (refine E_gdnF (by decide) ?_) | (refine E_pickT (by decide) ?_) | (refine E_pickF (by decide) ?_) | (refine E_addI (by omega) (by omega) ?_) | (refine E_subI (by omega) (by omega) ?_) | (refine E_mulI (by omega) (by omega) ?_)))
    by_cases hi : i < 0
    · (repeat (first | (refine E_ld ?_) | (refine E_fad0 ?_) | (refine E_fad ?_) | (refine E_nc ?_) | (refine E_tt ?_) | (refine E_ff ?_) | (refine E_st ?_) | (refine E_len ?_) | (refine E_lenS ?_) | (refine E_box fun _ => ?_) | (refine E_eql ?_) | (refine E_neq ?_) | (refine E_lss ?_) | (refine E_leq ?_) | (refine E_gtr ?_) | (refine E_geq ?_) | (refine E_ext ?_) | (refine E_prt ?_) | (refine E_mx ?_) | (refine E_mn ?_) | (refine E_cap ?_) | (refine E_gdu ?_) | (refine E_fa fun _ => ?_) | (refine E_dr ?_) | (refine E_nc_f ?_) | (refine E_nc_i ?_) | (refine E_not ?_) | (refine E_str1 ?_) | (refine E_rck0 ?_) | (refine E_gff ?_) | (refine E_gtt ?_) | (refine E_gft ?_) | (refine E_gtf ?_) | (refine E_pff ?_) | (refine E_ptt ?_) | (refine E_ifT (by assumption) ?_) | (refine E_ifF (by assumption) ?_) | (refine E_gdT (by assumption) ?_) | (refine E_gdF (by assumption) ?_) | (refine E_gdnT (by assumption) ?_) | (refine E_gdnF (by assumption) ?_) | (refine E_pickT (by assumption) ?_) | (refine E_pickF (by assumption) ?_) | (refine E_ifT (by decide) ?_) | (refine E_ifF (by decide) ?_) | (refine E_gdT (by decide) ?_) | (refine E_gdF (by decide) ?_) | (refine E_gdnT (by decide) ?_) | (refine E_gdnF (by decide) ?_) | (refine E_pickT (by decide) ?_) | (refine E_pickF (by decide) ?_) | (refine E_addI (by omega) (by omega) ?_) | (refine E_subI (by omega) (by omega) ?_) | (refine E_mulI (by omega) (by omega) ?_)))
      rw [if_pos (show D.out i from .inl hi)] at h'
      exact h'
    · (repeat (first | (refine E_ld ?_) | (refine E_fad0 ?_) | (refine E_fad ?_) | (refine E_nc ?_) | (refine E_tt ?_) | (refine E_ff ?_) | (refine E_st ?_) | (refine E_len ?_) | (refine E_lenS ?_) | (refine E_box fun _ => ?_) | (refine E_eql ?_) | (refine E_neq ?_) | (refine E_lss ?_) | (refine E_leq ?_) | (refine E_gtr ?_) | (refine E_geq ?_) | (refine E_ext ?_) | (refine E_prt ?_) | (refine E_mx ?_) | (refine E_mn ?_) | (refine E_cap ?_) | (refine E_gdu ?_) | (refine E_fa fun _ => ?_) | (refine E_dr ?_) | (refine E_nc_f ?_) | (refine E_nc_i ?_) | (refine E_not ?_) | (refine E_str1 ?_) | (refine E_rck0 ?_) | (refine E_gff ?_) | (refine E_gtt ?_) | (refine E_gft ?_) | (refine E_gtf ?_) | (refine E_pff ?_) | (refine E_ptt ?_) | (refine E_ifT (by assumption) ?_) | (refine E_ifF (by assumption) ?_) | (refine E_gdT (by assumption) ?_) | (refine E_gdF (by assumption) ?_) | (refine E_gdnT (by assumption) ?_) | (refine E_gdnF (by assumption) ?_) | (refine E_pickT (by assumption) ?_) | (refine E_pickF (by assumption) ?_) | (refine E_ifT (by decide) ?_) | (refine E_ifF (by decide) ?_) | (refine E_gdT (by decide) ?_) | (refine E_gdF (by decide) ?_) | (refine E_gdnT (by decide) ?_) | (refine E_gdnF (by decide) ?_) | (refine E_pickT (by decide) ?_) | (refine E_pickF (by decide) ?_) | (refine E_addI (by omega) (by omega) ?_) | (refine E_subI (by omega) (by omega) ?_) | (refine E_mulI (by omega) (by omega) ?_)))
      refine E_if (fun hc => ?_) (fun hc => ?_)
      · rw [if_pos (show D.out i from .inr hc)] at h'
        exact h'
      · rw [if_neg (show ¬ D.out i from fun ho => by unfold Dk.out at ho; omega)] at h'
        exact h'

theorem powered_nil {i : Value} (h : E B H (K (I 1))) : E B H (CF Tryd.prog 27 [.pointer none, i] K) := by
  refine E_mono (W := s27 _ _ K) ?_ fun _ => c27
  unfold s27
  refine E_peq0 u_pDisk ?_
  (repeat (first | (refine E_ld ?_) | (refine E_fad0 ?_) | (refine E_fad ?_) | (refine E_nc ?_) | (refine E_tt ?_) | (refine E_ff ?_) | (refine E_st ?_) | (refine E_len ?_) | (refine E_lenS ?_) | (refine E_box fun _ => ?_) | (refine E_eql ?_) | (refine E_neq ?_) | (refine E_lss ?_) | (refine E_leq ?_) | (refine E_gtr ?_) | (refine E_geq ?_) | (refine E_ext ?_) | (refine E_prt ?_) | (refine E_mx ?_) | (refine E_mn ?_) | (refine E_cap ?_) | (refine E_gdu ?_) | (refine E_fa fun _ => ?_) | (refine E_dr ?_) | (refine E_nc_f ?_) | (refine E_nc_i ?_) | (refine E_not ?_) | (refine E_str1 ?_) | (refine E_rck0 ?_) | (refine E_gff ?_) | (refine E_gtt ?_) | (refine E_gft ?_) | (refine E_gtf ?_) | (refine E_pff ?_) | (refine E_ptt ?_) | (refine E_ifT (by assumption) ?_) | (refine E_ifF (by assumption) ?_) | (refine E_gdT (by assumption) ?_) | (refine E_gdF (by assumption) ?_) | (refine E_gdnT (by assumption) ?_) | (refine E_gdnF (by assumption) ?_) | (refine E_pickT (by assumption) ?_) | (refine E_pickF (by assumption) ?_) | (refine E_ifT (by decide) ?_) | (refine E_ifF (by decide) ?_) | (refine E_gdT (by decide) ?_) | (refine E_gdF (by decide) ?_) | (refine E_gdnT (by decide) ?_) | (refine E_gdnF (by decide) ?_) | (refine E_pickT (by decide) ?_) | (refine E_pickF (by decide) ?_) | (refine E_addI (by omega) (by omega) ?_) | (refine E_subI (by omega) (by omega) ?_) | (refine E_mulI (by omega) (by omega) ?_)))
  exact h

theorem trips {a : Nat} {D : Dk} {f : Value} (h1 : D.trip = 1 → E B (disk a D.gone :: H) (K (I 7))) (h2 : D.trip ≠ 1 → E B (disk a D.tick :: H) (S.cvv Tryd.prog f [] fun _ => K (I 0))) :
    E B (disk a D :: H) (CF Tryd.prog 33 [ptr a, f] K) := by
  refine E_disk fun b cap m vs sp kv L hr hle hsl => ?_
  have t1 := hr.ok.t1
  have t2 := hr.ok.t2
  refine E_mono (W := s33 _ _ K) ?_ fun _ => c33
  unfold s33
  (repeat (first | (refine E_ld ?_) | (refine E_fad0 ?_) | (refine E_fad ?_) | (refine E_nc ?_) | (refine E_tt ?_) | (refine E_ff ?_) | (refine E_st ?_) | (refine E_len ?_) | (refine E_lenS ?_) | (refine E_box fun _ => ?_) | (refine E_eql ?_) | (refine E_neq ?_) | (refine E_lss ?_) | (refine E_leq ?_) | (refine E_gtr ?_) | (refine E_geq ?_) | (refine E_ext ?_) | (refine E_prt ?_) | (refine E_mx ?_) | (refine E_mn ?_) | (refine E_cap ?_) | (refine E_gdu ?_) | (refine E_fa fun _ => ?_) | (refine E_dr ?_) | (refine E_nc_f ?_) | (refine E_nc_i ?_) | (refine E_not ?_) | (refine E_str1 ?_) | (refine E_rck0 ?_) | (refine E_gff ?_) | (refine E_gtt ?_) | (refine E_gft ?_) | (refine E_gtf ?_) | (refine E_pff ?_) | (refine E_ptt ?_) | (refine E_ifT (by assumption) ?_) | (refine E_ifF (by assumption) ?_) | (refine E_gdT (by assumption) ?_) | (refine E_gdF (by assumption) ?_) | (refine E_gdnT (by assumption) ?_) | (refine E_gdnF (by assumption) ?_) | (refine E_pickT (by assumption) ?_) | (refine E_pickF (by assumption) ?_) | (refine E_ifT (by decide) ?_) | (refine E_ifF (by decide) ?_) | (refine E_gdT (by decide) ?_) | (refine E_gdF (by decide) ?_) | (refine E_gdnT (by decide) ?_) | (refine E_gdnF (by decide) ?_) | (refine E_pickT (by decide) ?_) | (refine E_pickF (by decide) ?_) | (refine E_addI (by omega) (by omega) ?_) | (refine E_subI (by omega) (by omega) ?_) | (refine E_mulI (by omega) (by omega) ?_)))
  refine E_if (fun hc => ?_) (fun hc => ?_)
  · (repeat (first | (refine E_ld ?_) | (refine E_fad0 ?_) | (refine E_fad ?_) | (refine E_nc ?_) | (refine E_tt ?_) | (refine E_ff ?_) | (refine E_st ?_) | (refine E_len ?_) | (refine E_lenS ?_) | (refine E_box fun _ => ?_) | (refine E_eql ?_) | (refine E_neq ?_) | (refine E_lss ?_) | (refine E_leq ?_) | (refine E_gtr ?_) | (refine E_geq ?_) | (refine E_ext ?_) | (refine E_prt ?_) | (refine E_mx ?_) | (refine E_mn ?_) | (refine E_cap ?_) | (refine E_gdu ?_) | (refine E_fa fun _ => ?_) | (refine E_dr ?_) | (refine E_nc_f ?_) | (refine E_nc_i ?_) | (refine E_not ?_) | (refine E_str1 ?_) | (refine E_rck0 ?_) | (refine E_gff ?_) | (refine E_gtt ?_) | (refine E_gft ?_) | (refine E_gtf ?_) | (refine E_pff ?_) | (refine E_ptt ?_) | (refine E_ifT (by assumption) ?_) | (refine E_ifF (by assumption) ?_) | (refine E_gdT (by assumption) ?_) | (refine E_gdF (by assumption) ?_) | (refine E_gdnT (by assumption) ?_) | (refine E_gdnF (by assumption) ?_) | (refine E_pickT (by assumption) ?_) | (refine E_pickF (by assumption) ?_) | (refine E_ifT (by decide) ?_) | (refine E_ifF (by decide) ?_) | (refine E_gdT (by decide) ?_) | (refine E_gdF (by decide) ?_) | (refine E_gdnT (by decide) ?_) | (refine E_gdnF (by decide) ?_) | (refine E_pickT (by decide) ?_) | (refine E_pickF (by decide) ?_) | (refine E_addI (by omega) (by omega) ?_) | (refine E_subI (by omega) (by omega) ?_) | (refine E_mulI (by omega) (by omega) ?_)))
    have ht : D.trip = 1 := by omega
    refine E_same (by repeat (first | exact Same.refl | (refine Same.cons (by repeat (first | exact Find.here | apply Find.there)) ?_) | (refine Same.drop ?_))) (E_disks (D := D.gone) (n := D.S.length) ⟨hr.len, hr.sur, hr.las, hr.nol, hr.dom, hr.nod, ⟨hr.ok.n1, hr.ok.n2, by simp [Dk.gone], by simp [Dk.gone], hr.ok.len⟩⟩ hle hsl rfl ?_ rfl rfl (h1 ht))
    simp [Dk.gone]; omega
  · have ht : D.trip ≠ 1 := by omega
    (repeat (first | (refine E_ld ?_) | (refine E_fad0 ?_) | (refine E_fad ?_) | (refine E_nc ?_) | (refine E_tt ?_) | (refine E_ff ?_) | (refine E_st ?_) | (refine E_len ?_) | (refine E_lenS ?_) | (refine E_box fun _ => ?_) | (refine E_eql ?_) | (refine E_neq ?_) | (refine E_lss ?_) | (refine E_leq ?_) | (refine E_gtr ?_) | (refine E_geq ?_) | (refine E_ext ?_) | (refine E_prt ?_) | (refine E_mx ?_) | (refine E_mn ?_) | (refine E_cap ?_) | (refine E_gdu ?_) | (refine E_fa fun _ => ?_) | (refine E_dr ?_) | (refine E_nc_f ?_) | (refine E_nc_i ?_) | (refine E_not ?_) | (refine E_str1 ?_) | (refine E_rck0 ?_) | (refine E_gff ?_) | (refine E_gtt ?_) | (refine E_gft ?_) | (refine E_gtf ?_) | (refine E_pff ?_) | (refine E_ptt ?_) | (refine E_ifT (by assumption) ?_) | (refine E_ifF (by assumption) ?_) | (refine E_gdT (by assumption) ?_) | (refine E_gdF (by assumption) ?_) | (refine E_gdnT (by assumption) ?_) | (refine E_gdnF (by assumption) ?_) | (refine E_pickT (by assumption) ?_) | (refine E_pickF (by assumption) ?_) | (refine E_ifT (by decide) ?_) | (refine E_ifF (by decide) ?_) | (refine E_gdT (by decide) ?_) | (refine E_gdF (by decide) ?_) | (refine E_gdnT (by decide) ?_) | (refine E_gdnF (by decide) ?_) | (refine E_pickT (by decide) ?_) | (refine E_pickF (by decide) ?_) | (refine E_addI (by omega) (by omega) ?_) | (refine E_subI (by omega) (by omega) ?_) | (refine E_mulI (by omega) (by omega) ?_)))
    exact E_same (by repeat (first | exact Same.refl | (refine Same.cons (by repeat (first | exact Find.here | apply Find.there)) ?_) | (refine Same.drop ?_))) (E_disks (D := D.tick) (n := D.S.length) ⟨hr.len, hr.sur, hr.las, hr.nol, hr.dom, hr.nod, ⟨hr.ok.n1, hr.ok.n2, by simp only [Dk.tick]; omega, by simp only [Dk.tick]; omega, hr.ok.len⟩⟩ hle hsl rfl rfl rfl rfl (h2 ht))

/-! ### plain facts of how it lies -/
theorem DRep.keys {D : Dk} {vs : List Value} {kv : List (Int × Value)} {L : List (Value × List UInt8)} (hr : DRep D vs kv L) : (kv.map (·.1)).Perm D.dirty := by
  unfold Dk.dirty
  rw [List.perm_ext_iff_of_nodup hr.nod (dirty_sorted.imp fun h => by omega)]
  intro k
  rw [mem_dirty]
  constructor
  · intro hk
    obtain ⟨i, s, rfl, hs⟩ := hr.dom k hk
    refine ⟨i, s, by simp, hs, ?_⟩
    cases hl : s.last with
    | some b => rfl
    | none => exact absurd hk (lookup_none.1 (hr.nol i s hs hl))
  · rintro ⟨i, s, rfl, hs, hl⟩
    obtain ⟨b, hb⟩ := Option.isSome_iff_exists.1 hl
    obtain ⟨v, hv, _⟩ := hr.las i s b hs hb
    simp only [Nat.zero_add]
    exact List.mem_map.2 ⟨_, lookup_mem hv, rfl⟩
theorem DRep.kvlen {D : Dk} {vs : List Value} {kv : List (Int × Value)} {L : List (Value × List UInt8)} (hr : DRep D vs kv L) : kv.length = D.dirty.length := by
  have := hr.keys.length_eq; simpa using this
theorem DRep.sub {D : Dk} {vs : List Value} {kv : List (Int × Value)} {L L' : List (Value × List UInt8)} (hr : DRep D vs kv L) (hs : ∀ p ∈ L, p ∈ L') : DRep D vs kv L' :=
  ⟨hr.len, fun i s h => let ⟨v, a, b, c⟩ := hr.sur i s h; ⟨v, a, b, hs _ c⟩, fun i s b h h' => let ⟨v, a, e, c⟩ := hr.las i s b h h'; ⟨v, a, e, hs _ c⟩, hr.nol, hr.dom, hr.nod, hr.ok⟩
theorem DRep.clean {D : Dk} {vs : List Value} {kv : List (Int × Value)} {L : List (Value × List UInt8)} (hr : DRep D vs kv L) {i : Nat} {s' : Sec} {v : Value} (hi : i < D.S.length) (hl : s'.last = none) (hn : s'.sure.length = 128)
    (hv : (v, s'.sure) ∈ L) (hc : CellI v) : DRep { D with S := D.S.set i s' } (vs.set i v) (ddel kv (i : Int)) L := by
  have get : ∀ (j : Nat) (s : Sec), (D.S.set i s')[j]? = some s → (j = i ∧ s = s') ∨ (j ≠ i ∧ D.S[j]? = some s) := fun j s h => by
    by_cases hj : j = i
    · subst hj; rw [List.getElem?_set_self hi] at h; exact .inl ⟨rfl, (Option.some.inj h).symm⟩
    · rw [List.getElem?_set_ne (Ne.symm hj)] at h; exact .inr ⟨hj, h⟩
  refine ⟨by simp [hr.len], fun j s h => ?_, fun j s b h hb => ?_, fun j s h hb => ?_, fun k hk => ?_, ddel_nodup hr.nod, ?_⟩
  · rcases get j s h with ⟨rfl, rfl⟩ | ⟨hj, h⟩
    · exact ⟨v, List.getElem?_set_self (by rw [hr.len]; exact hi), hc, hv⟩
    · obtain ⟨u, a, b, c⟩ := hr.sur j s h
      exact ⟨u, by rw [List.getElem?_set_ne (Ne.symm hj)]; exact a, b, c⟩
  · rcases get j s h with ⟨rfl, rfl⟩ | ⟨hj, h⟩
    · rw [hl] at hb; cases hb
    · obtain ⟨u, a, e, c⟩ := hr.las j s b h hb
      exact ⟨u, by rw [lookup_ddel, if_neg (by omega)]; exact a, e, c⟩
  · rcases get j s h with ⟨rfl, rfl⟩ | ⟨hj, h⟩
    · rw [lookup_ddel, if_pos rfl]
    · rw [lookup_ddel, if_neg (by omega)]; exact hr.nol j s h hb
  · obtain ⟨p, hp, rfl⟩ := List.mem_map.1 hk
    obtain ⟨h1, h2⟩ := List.mem_filter.1 hp
    obtain ⟨j, s, hj, hs⟩ := hr.dom p.1 (List.mem_map.2 ⟨p, h1, rfl⟩)
    have hne : j ≠ i := fun e => by subst e; simp [hj] at h2
    exact ⟨j, s, hj, by rw [List.getElem?_set_ne (Ne.symm hne)]; exact hs⟩
  · refine ⟨by simpa using hr.ok.n1, by simpa using hr.ok.n2, hr.ok.t1, hr.ok.t2, fun s hs => ?_⟩
    rcases List.mem_or_eq_of_mem_set hs with hs | rfl
    · exact hr.ok.len s hs
    · exact ⟨hn, fun b hb => by rw [hl] at hb; cases hb⟩
theorem DRep.dirt {D : Dk} {vs : List Value} {kv : List (Int × Value)} {L : List (Value × List UInt8)} (hr : DRep D vs kv L) {i : Nat} {s : Sec} {v : Value} {b : List UInt8} (hi : D.S[i]? = some s) (hn : b.length = 128)
    (hv : (v, b) ∈ L) (hc : CellI v) : DRep { D with S := D.S.set i { s with last := some b } } vs (dput kv (i : Int) v) L := by
  have hlt : i < D.S.length := (List.getElem?_eq_some_iff.1 hi).1
  have get : ∀ (j : Nat) (x : Sec), (D.S.set i { s with last := some b })[j]? = some x → (j = i ∧ x = { s with last := some b }) ∨ (j ≠ i ∧ D.S[j]? = some x) := fun j x h => by
    by_cases hj : j = i
    · subst hj; rw [List.getElem?_set_self hlt] at h; exact .inl ⟨rfl, (Option.some.inj h).symm⟩
    · rw [List.getElem?_set_ne (Ne.symm hj)] at h; exact .inr ⟨hj, h⟩
  refine ⟨by simp [hr.len], fun j x h => ?_, fun j x b' h hb => ?_, fun j x h hb => ?_, fun k hk => ?_, dput_nodup hr.nod, ?_⟩
  · rcases get j x h with ⟨rfl, rfl⟩ | ⟨hj, h⟩
    · exact hr.sur j s hi
    · exact hr.sur j x h
  · rcases get j x h with ⟨rfl, rfl⟩ | ⟨hj, h⟩
    · cases hb
      exact ⟨v, by rw [lookup_dput, if_pos rfl], hc, hv⟩
    · obtain ⟨u, a, e, c⟩ := hr.las j x b' h hb
      exact ⟨u, by rw [lookup_dput, if_neg (by omega)]; exact a, e, c⟩
  · rcases get j x h with ⟨rfl, rfl⟩ | ⟨hj, h⟩
    · cases hb
    · rw [lookup_dput, if_neg (by omega)]; exact hr.nol j x h hb
  · have hex : ∀ j, j < D.S.length → ∃ x, (D.S.set i { s with last := some b })[j]? = some x := fun j hj => ⟨_, List.getElem?_eq_getElem (by simpa using hj)⟩
    rw [dput_keys] at hk
    have : k ∈ kv.map (·.1) ∨ k = (i : Int) := by
      split at hk
      · exact .inl hk
      · rcases List.mem_append.1 hk with hk | hk
        · exact .inl hk
        · exact .inr (by simpa using hk)
    rcases this with hk | rfl
    · obtain ⟨j, x, rfl, hx⟩ := hr.dom k hk
      obtain ⟨x', hx'⟩ := hex j (List.getElem?_eq_some_iff.1 hx).1
      exact ⟨j, x', rfl, hx'⟩
    · obtain ⟨x', hx'⟩ := hex i hlt
      exact ⟨i, x', rfl, hx'⟩
  · refine ⟨by simpa using hr.ok.n1, by simpa using hr.ok.n2, hr.ok.t1, hr.ok.t2, fun x hx => ?_⟩
    rcases List.mem_or_eq_of_mem_set hx with hx | rfl
    · exact hr.ok.len x hx
    · exact ⟨(hr.ok.len s (List.mem_of_getElem? hi)).1, fun b' hb => by cases hb; exact hn⟩
end Go.Proofs.YtmbfmkiagdhcoaaDoor.Disk

/-
  The disk's methods.
-/
namespace Go.Proofs.YtmbfmkiagdhcoaaDoor.Disk
open Go Go.SL Go.Proofs Go.Proofs.YtmbfmkiagdhcoaaDoor.Sh
attribute [local irreducible] S.pick S.ld S.ldN S.st S.box S.nc S.fad S.ixS S.ixA S.chr S.prt S.ext S.bin S.sh S.sbin S.beq S.neg1 S.com1 S.not1 S.cvt S.str1 S.lenS S.len S.cap S.lenM S.mx S.mn S.mkM S.cond S.gd S.fa S.dr S.rck S.join S.loop S.cvv S.eqv S.slc S.slcS S.b2s S.lk V U CF Gives E cel mpb osl ros dct dit itr lpo dfo
attribute [local irreducible] disk
variable {B : World} {H : List Asrt} {K : Value → WT}

theorem sectors {a : Nat} {D : Dk} (h : E B (disk a D :: H) (K (I D.S.length))) : E B (disk a D :: H) (CF Tryd.prog 19 [ptr a] K) := by
  refine E_disk fun b cap m vs sp kv L hr hle hsl => ?_
  refine E_mono (W := s19 _ K) ?_ fun _ => c19
  unfold s19
  refine E_peq u_pDisk ?_
  (repeat (first | (refine E_ld ?_) | (refine E_fad0 ?_) | (refine E_fad ?_) | (refine E_nc ?_) | (refine E_tt ?_) | (refine E_ff ?_) | (refine E_st ?_) | (refine E_len ?_) | (refine E_lenS ?_) | (refine E_box fun _ => ?_) | (refine E_eql ?_) | (refine E_neq ?_) | (refine E_lss ?_) | (refine E_leq ?_) | (refine E_gtr ?_) | (refine E_geq ?_) | (refine E_ext ?_) | (refine E_prt ?_) | (refine E_mx ?_) | (refine E_mn ?_) | (refine E_cap ?_) | (refine E_gdu ?_) | (refine E_fa fun _ => ?_) | (refine E_dr ?_) | (refine E_nc_f ?_) | (refine E_nc_i ?_) | (refine E_not ?_) | (refine E_str1 ?_) | (refine E_rck0 ?_) | (refine E_gff ?_) | (refine E_gtt ?_) | (refine E_gft ?_) | (refine E_gtf ?_) | (refine E_pff ?_) | (refine E_ptt ?_) | (refine E_ifT (by assumption) ?_) | (refine E_ifF (by assumption) ?_) | (refine E_gdT (by assumption) ?_) | (refine E_gdF (by assumption) ?_) | (refine E_gdnT (by assumption) ?_) | (refine E_gdnF (by assumption) ?_) | (refine E_pickT (by assumption) ?_) | (refine E_pickF (by assumption) ?_) | (refine E_ifT (by decide) ?_) | (refine E_ifF (by decide) ?_) | (refine E_gdT (by decide) ?_) | (refine E_gdF (by decide) ?_) | (refine E_gdnT (by decide) ?_) | (refine E_gdnF (by decide) ?_) | (refine E_pickT (by decide) ?_) | (refine E_pickF (by decide) ?_) | (refine E_addI (by omega) (by omega) ?_) | (refine E_subI (by omega) (by omega) ?_) | (refine E_mulI (by omega) (by omega) ?_)))
  exact E_disks hr hle hsl rfl rfl rfl rfl h
theorem life {a : Nat} {D : Dk} (h : E B (disk a D :: H) (K (I D.life))) : E B (disk a D :: H) (CF Tryd.prog 20 [ptr a] K) := by
  refine E_disk fun b cap m vs sp kv L hr hle hsl => ?_
  refine E_mono (W := s20 _ K) ?_ fun _ => c20
  unfold s20
  refine E_peq u_pDisk ?_
  (repeat (first | (refine E_ld ?_) | (refine E_fad0 ?_) | (refine E_fad ?_) | (refine E_nc ?_) | (refine E_tt ?_) | (refine E_ff ?_) | (refine E_st ?_) | (refine E_len ?_) | (refine E_lenS ?_) | (refine E_box fun _ => ?_) | (refine E_eql ?_) | (refine E_neq ?_) | (refine E_lss ?_) | (refine E_leq ?_) | (refine E_gtr ?_) | (refine E_geq ?_) | (refine E_ext ?_) | (refine E_prt ?_) | (refine E_mx ?_) | (refine E_mn ?_) | (refine E_cap ?_) | (refine E_gdu ?_) | (refine E_fa fun _ => ?_) | (refine E_dr ?_) | (refine E_nc_f ?_) | (refine E_nc_i ?_) | (refine E_not ?_) | (refine E_str1 ?_) | (refine E_rck0 ?_) | (refine E_gff ?_) | (refine E_gtt ?_) | (refine E_gft ?_) | (refine E_gtf ?_) | (refine E_pff ?_) | (refine E_ptt ?_) | (refine E_ifT (by assumption) ?_) | (refine E_ifF (by assumption) ?_) | (refine E_gdT (by assumption) ?_) | (refine E_gdF (by assumption) ?_) | (refine E_gdnT (by assumption) ?_) | (refine E_gdnF (by assumption) ?_) | (refine E_pickT (by assumption) ?_) | (refine E_pickF (by assumption) ?_) | (refine E_ifT (by decide) ?_) | (refine E_ifF (by decide) ?_) | (refine E_gdT (by decide) ?_) | (refine E_gdF (by decide) ?_) | (refine E_gdnT (by decide) ?_) | (refine E_gdnF (by decide) ?_) | (refine E_pickT (by decide) ?_) | (refine E_pickF (by decide) ?_) | (refine E_addI (by omega) (by omega) ?_) | (refine E_subI (by omega) (by omega) ?_) | (refine E_mulI (by omega) (by omega) ?_)))
  exact E_disks hr hle hsl rfl rfl rfl rfl h
theorem down {a : Nat} {D : Dk} (h : E B (disk a D :: H) (K (.bool D.down))) : E B (disk a D :: H) (CF Tryd.prog 18 [ptr a] K) := by
  refine E_disk fun b cap m vs sp kv L hr hle hsl => ?_
  refine E_mono (W := s18 _ K) ?_ fun _ => c18
  unfold s18
  refine E_pne u_pDisk ?_
  refine E_gdb (fun _ => ?_) (fun h => by cases h)
  (repeat (first | (refine E_ld ?_) | (refine E_fad0 ?_) | (refine E_fad ?_) | (refine E_nc ?_) | (refine E_tt ?_) | (refine E_ff ?_) | (refine E_st ?_) | (refine E_len ?_) | (refine E_lenS ?_) | (refine E_box fun _ => ?_) | (refine E_eql ?_) | (refine E_neq ?_) | (refine E_lss ?_) | (refine E_leq ?_) | (refine E_gtr ?_) | (refine E_geq ?_) | (refine E_ext ?_) | (refine E_prt ?_) | (refine E_mx ?_) | (refine E_mn ?_) | (refine E_cap ?_) | (refine E_gdu ?_) | (refine E_fa fun _ => ?_) | (refine E_dr ?_) | (refine E_nc_f ?_) | (refine E_nc_i ?_) | (refine E_not ?_) | (refine E_str1 ?_) | (refine E_rck0 ?_) | (refine E_gff ?_) | (refine E_gtt ?_) | (refine E_gft ?_) | (refine E_gtf ?_) | (refine E_pff ?_) | (refine E_ptt ?_) | (refine E_ifT (by assumption) ?_) | (refine E_ifF (by assumption) ?_) | (refine E_gdT (by assumption) ?_) | (refine E_gdF (by assumption) ?_) | (refine E_gdnT (by assumption) ?_) | (refine E_gdnF (by assumption) ?_) | (refine E_pickT (by assumption) ?_) | (refine E_pickF (by assumption) ?_) | (refine E_ifT (by decide) ?_) | (refine E_ifF (by decide) ?_) | (refine E_gdT (by decide) ?_) | (refine E_gdF (by decide) ?_) | (refine E_gdnT (by decide) ?_) | (refine E_gdnF (by decide) ?_) | (refine E_pickT (by decide) ?_) | (refine E_pickF (by decide) ?_) | (refine E_addI (by omega) (by omega) ?_) | (refine E_subI (by omega) (by omega) ?_) | (refine E_mulI (by omega) (by omega) ?_)))
  exact E_disks hr hle hsl rfl rfl rfl rfl h
theorem dirty {a : Nat} {D : Dk} (h : ∀ sv, E B (osl 3 1 sv D.dirty.length (ints D.dirty) :: disk a D :: H) (K sv)) : E B (disk a D :: H) (CF Tryd.prog 31 [ptr a] K) := by
  refine E_disk fun b cap m vs sp kv L hr hle hsl => ?_
  refine E_mono (W := s31 _ K) ?_ fun _ => c31
  unfold s31
  refine E_peq u_pDisk ?_
  (repeat (first | (refine E_ld ?_) | (refine E_fad0 ?_) | (refine E_fad ?_) | (refine E_nc ?_) | (refine E_tt ?_) | (refine E_ff ?_) | (refine E_st ?_) | (refine E_len ?_) | (refine E_lenS ?_) | (refine E_box fun _ => ?_) | (refine E_eql ?_) | (refine E_neq ?_) | (refine E_lss ?_) | (refine E_leq ?_) | (refine E_gtr ?_) | (refine E_geq ?_) | (refine E_ext ?_) | (refine E_prt ?_) | (refine E_mx ?_) | (refine E_mn ?_) | (refine E_cap ?_) | (refine E_gdu ?_) | (refine E_fa fun _ => ?_) | (refine E_dr ?_) | (refine E_nc_f ?_) | (refine E_nc_i ?_) | (refine E_not ?_) | (refine E_str1 ?_) | (refine E_rck0 ?_) | (refine E_gff ?_) | (refine E_gtt ?_) | (refine E_gft ?_) | (refine E_gtf ?_) | (refine E_pff ?_) | (refine E_ptt ?_) | (refine E_ifT (by assumption) ?_) | (refine E_ifF (by assumption) ?_) | (refine E_gdT (by assumption) ?_) | (refine E_gdF (by assumption) ?_) | (refine E_gdnT (by assumption) ?_) | (refine E_gdnF (by assumption) ?_) | (refine E_pickT (by assumption) ?_) | (refine E_pickF (by assumption) ?_) | (refine E_ifT (by decide) ?_) | (refine E_ifF (by decide) ?_) | (refine E_gdT (by decide) ?_) | (refine E_gdF (by decide) ?_) | (refine E_gdnT (by decide) ?_) | (refine E_gdnF (by decide) ?_) | (refine E_pickT (by decide) ?_) | (refine E_pickF (by decide) ?_) | (refine E_addI (by omega) (by omega) ?_) | (refine E_subI (by omega) (by omega) ?_) | (refine E_mulI (by omega) (by omega) ?_)))
  have hd := dirty_length (S := D.S) (p := 0)
  have hk := hr.kvlen
  have h2 := hr.ok.n2
  unfold Dk.dirty at hk
  refine sortedKeys (by omega) fun sv zs hz => ?_
  have e : sortI zs = D.dirty := sort_dirty (hz.trans hr.keys)
  rw [e, hr.kvlen]
  exact E_same (by repeat (first | exact Same.refl | (refine Same.cons (by repeat (first | exact Find.here | apply Find.there)) ?_) | (refine Same.drop ?_))) (E_disks (H := osl 3 1 sv D.dirty.length (ints D.dirty) :: H) hr hle hsl rfl rfl rfl rfl (b := b) (m := m) (E_perm (List.Perm.swap ..) (h sv)))
theorem trip {a : Nat} {D : Dk} {n : Int} (hn : n ≤ 9223372036854775807) (h : E B (disk a (D.tr n) :: H) (K (I (D.trE n)))) : E B (disk a D :: H) (CF Tryd.prog 15 [ptr a, I n] K) := by
  refine E_disk fun b cap m vs sp kv L hr hle hsl => ?_
  refine E_mono (W := s15 _ _ K) ?_ fun _ => c15
  unfold s15
  unfold Dk.tr Dk.trE at h
  refine E_peq u_pDisk ?_
  (repeat (first | (refine E_ld ?_) | (refine E_fad0 ?_) | (refine E_fad ?_) | (refine E_nc ?_) | (refine E_tt ?_) | (refine E_ff ?_) | (refine E_st ?_) | (refine E_len ?_) | (refine E_lenS ?_) | (refine E_box fun _ => ?_) | (refine E_eql ?_) | (refine E_neq ?_) | (refine E_lss ?_) | (refine E_leq ?_) | (refine E_gtr ?_) | (refine E_geq ?_) | (refine E_ext ?_) | (refine E_prt ?_) | (refine E_mx ?_) | (refine E_mn ?_) | (refine E_cap ?_) | (refine E_gdu ?_) | (refine E_fa fun _ => ?_) | (refine E_dr ?_) | (refine E_nc_f ?_) | (refine E_nc_i ?_) | (refine E_not ?_) | (refine E_str1 ?_) | (refine E_rck0 ?_) | (refine E_gff ?_) | (refine E_gtt ?_) | (refine E_gft ?_) | (refine E_gtf ?_) | (refine E_pff ?_) | (refine E_ptt ?_) | (refine E_ifT (by assumption) ?_) | (refine E_ifF (by assumption) ?_) | (refine E_gdT (by assumption) ?_) | (refine E_gdF (by assumption) ?_) | (refine E_gdnT (by assumption) ?_) | (refine E_gdnF (by assumption) ?_) | (refine E_pickT (by assumption) ?_) | (refine E_pickF (by assumption) ?_) | (refine E_ifT (by decide) ?_) | (refine E_ifF (by decide) ?_) | (refine E_gdT (by decide) ?_) | (refine E_gdF (by decide) ?_) | (refine E_gdnT (by decide) ?_) | (refine E_gdnF (by decide) ?_) | (refine E_pickT (by decide) ?_) | (refine E_pickF (by decide) ?_) | (refine E_addI (by omega) (by omega) ?_) | (refine E_subI (by omega) (by omega) ?_) | (refine E_mulI (by omega) (by omega) ?_)))
  refine E_ifb (fun hd => ?_) (fun hd => ?_)
  · simp only [if_pos hd] at h
    exact E_disks hr hle hsl rfl rfl rfl rfl h
  · simp only [if_neg (show ¬ D.down = true by simp [hd])] at h
    (repeat (first | (refine E_ld ?_) | (refine E_fad0 ?_) | (refine E_fad ?_) | (refine E_nc ?_) | (refine E_tt ?_) | (refine E_ff ?_) | (refine E_st ?_) | (refine E_len ?_) | (refine E_lenS ?_) | (refine E_box fun _ => ?_) | (refine E_eql ?_) | (refine E_neq ?_) | (refine E_lss ?_) | (refine E_leq ?_) | (refine E_gtr ?_) | (refine E_geq ?_) | (refine E_ext ?_) | (refine E_prt ?_) | (refine E_mx ?_) | (refine E_mn ?_) | (refine E_cap ?_) | (refine E_gdu ?_) | (refine E_fa fun _ => ?_) | (refine E_dr ?_) | (refine E_nc_f ?_) | (refine E_nc_i ?_) | (refine E_not ?_) | (refine E_str1 ?_) | (refine E_rck0 ?_) | (refine E_gff ?_) | (refine E_gtt ?_) | (refine E_gft ?_) | (refine E_gtf ?_) | (refine E_pff ?_) | (refine E_ptt ?_) | (refine E_ifT (by assumption) ?_) | (refine E_ifF (by assumption) ?_) | (refine E_gdT (by assumption) ?_) | (refine E_gdF (by assumption) ?_) | (refine E_gdnT (by assumption) ?_) | (refine E_gdnF (by assumption) ?_) | (refine E_pickT (by assumption) ?_) | (refine E_pickF (by assumption) ?_) | (refine E_ifT (by decide) ?_) | (refine E_ifF (by decide) ?_) | (refine E_gdT (by decide) ?_) | (refine E_gdF (by decide) ?_) | (refine E_gdnT (by decide) ?_) | (refine E_gdnF (by decide) ?_) | (refine E_pickT (by decide) ?_) | (refine E_pickF (by decide) ?_) | (refine E_addI (by omega) (by omega) ?_) | (refine E_subI (by omega) (by omega) ?_) | (refine E_mulI (by omega) (by omega) ?_)))
    refine E_if (fun hc => ?_) (fun hc => ?_)
    · simp only [if_pos hc] at h
      exact E_disks hr hle hsl rfl rfl rfl rfl h
    · simp only [if_neg hc] at h
      (repeat (first | (refine E_ld ?_) | (refine E_fad0 ?_) | (refine E_fad ?_) | (refine E_nc ?_) | (refine E_tt ?_) | (refine E_ff ?_) | (refine E_st ?_) | (refine E_len ?_) | (refine E_lenS ?_) | (refine E_box fun _ => ?_) | (refine E_eql ?_) | (refine E_neq ?_) | (refine E_lss ?_) | (refine E_leq ?_) | (refine E_gtr ?_) | (refine E_geq ?_) | (refine E_ext ?_) | (refine E_prt ?_) | (refine E_mx ?_) | (refine E_mn ?_) | (refine E_cap ?_) | (refine E_gdu ?_) | (refine E_fa fun _ => ?_) | (refine E_dr ?_) | (refine E_nc_f ?_) | (refine E_nc_i ?_) | (refine E_not ?_) | (refine E_str1 ?_) | (refine E_rck0 ?_) | (refine E_gff ?_) | (refine E_gtt ?_) | (refine E_gft ?_) | (refine E_gtf ?_) | (refine E_pff ?_) | (refine E_ptt ?_) | (refine E_ifT (by assumption) ?_) | (refine E_ifF (by assumption) ?_) | (refine E_gdT (by assumption) ?_) | (refine E_gdF (by assumption) ?_) | (refine E_gdnT (by assumption) ?_) | (refine E_gdnF (by assumption) ?_) | (refine E_pickT (by assumption) ?_) | (refine E_pickF (by assumption) ?_) | (refine E_ifT (by decide) ?_) | (refine E_ifF (by decide) ?_) | (refine E_gdT (by decide) ?_) | (refine E_gdF (by decide) ?_) | (refine E_gdnT (by decide) ?_) | (refine E_gdnF (by decide) ?_) | (refine E_pickT (by decide) ?_) | (refine E_pickF (by decide) ?_) | (refine E_addI (by omega) (by omega) ?_) | (refine E_subI (by omega) (by omega) ?_) | (refine E_mulI (by omega) (by omega) ?_)))
      exact E_disks (D := { D with trip := n }) ⟨hr.len, hr.sur, hr.las, hr.nol, hr.dom, hr.nod, ⟨hr.ok.n1, hr.ok.n2, by simp only; omega, hn, hr.ok.len⟩⟩ hle hsl rfl rfl rfl rfl h

theorem Dk.inR {D : Dk} {i : Int} (h : ¬ D.out i) : ∃ (j : Nat) (s : Sec), i = (j : Int) ∧ D.S[j]? = some s ∧ j < D.S.length := by
  unfold Dk.out at h
  have hlt : i.toNat < D.S.length := by omega
  exact ⟨i.toNat, D.S[i.toNat], by omega, List.getElem?_eq_getElem hlt, hlt⟩
theorem Dk.pow0 {D : Dk} {i : Int} (h : D.pow i = 0) : D.down = false ∧ ¬ D.out i := by
  unfold Dk.pow at h
  split at h
  · omega
  · rename_i h'
    split at h
    · omega
    · exact ⟨by simpa using h', by assumption⟩
theorem modify_set {S : List Sec} {j : Nat} {s : Sec} (f : Sec → Sec) (h : S[j]? = some s) : S.modify j f = S.set j (f s) := by
  apply List.ext_getElem?
  intro i
  rw [List.getElem?_modify]
  by_cases hi : j = i
  · subst hi
    have hlt := (List.getElem?_eq_some_iff.1 h).1
    rw [List.getElem?_set_self hlt, h]; simp
  · rw [List.getElem?_set_ne hi]; cases S[i]? <;> simp [hi]

theorem read {a : Nat} {D : Dk} {i : Int} (h : ∀ v [CellI v], E B (osl 5 1 v (D.rd i).length (bcs (D.rd i)) :: disk a D :: H) (K (.tuple #[v, I (D.pow i)]))) : E B (disk a D :: H) (CF Tryd.prog 10 [ptr a, I i] K) := by
  refine E_mono (W := s10 _ _ K) ?_ fun _ => c10
  unfold s10
  refine powered ?_
  (repeat (first | (refine E_ld ?_) | (refine E_fad0 ?_) | (refine E_fad ?_) | (refine E_nc ?_) | (refine E_tt ?_) | (refine E_ff ?_) | (refine E_st ?_) | (refine E_len ?_) | (refine E_lenS ?_) | (refine E_box fun _ => ?_) | (refine E_eql ?_) | (refine E_neq ?_) | (refine E_lss ?_) | (refine E_leq ?_) | (refine E_gtr ?_) | (refine E_geq ?_) | (refine E_ext ?_) | (refine E_prt ?_) | (refine E_mx ?_) | (refine E_mn ?_) | (refine E_cap ?_) | (refine E_gdu ?_) | (refine E_fa fun _ => ?_) | (refine E_dr ?_) | (refine E_nc_f ?_) | (refine E_nc_i ?_) | (refine E_not ?_) | (refine E_str1 ?_) | (refine E_rck0 ?_) | (refine E_gff ?_) | (refine E_gtt ?_) | (refine E_gft ?_) | (refine E_gtf ?_) | (refine E_pff ?_) | (refine E_ptt ?_) | (refine E_ifT (by assumption) ?_) | (refine E_ifF (by assumption) ?_) | (refine E_gdT (by assumption) ?_) | (refine E_gdF (by assumption) ?_) | (refine E_gdnT (by assumption) ?_) | (refine E_gdnF (by assumption) ?_) | (refine E_pickT (by assumption) ?_) | (refine E_pickF (by assumption) ?_) | (refine E_ifT (by decide) ?_) | (refine E_ifF (by decide) ?_) | (refine E_gdT (by decide) ?_) | (refine E_gdF (by decide) ?_) | (refine E_gdnT (by decide) ?_) | (refine E_gdnF (by decide) ?_) | (refine E_pickT (by decide) ?_) | (refine E_pickF (by decide) ?_) | (refine E_addI (by omega) (by omega) ?_) | (refine E_subI (by omega) (by omega) ?_) | (refine E_mulI (by omega) (by omega) ?_)))
  refine E_if (fun hc => ?_) (fun hc => ?_)
  · have := h (.slice none 0 0)
    unfold Dk.rd at this
    rw [if_pos hc] at this
    exact osl_nil this
  · have hp : D.pow i = 0 := by simpa using hc
    obtain ⟨hd, ho⟩ := Dk.pow0 hp
    obtain ⟨j, s, rfl, hs, hj⟩ := Dk.inR ho
    unfold Dk.rd at h
    rw [if_neg hc, Int.toNat_natCast, hs, hp] at h
    simp only at h
    refine E_disk fun b cap m vs sp kv L hr hle hsl => ?_
    (repeat (first | (refine E_ld ?_) | (refine E_fad0 ?_) | (refine E_fad ?_) | (refine E_nc ?_) | (refine E_tt ?_) | (refine E_ff ?_) | (refine E_st ?_) | (refine E_len ?_) | (refine E_lenS ?_) | (refine E_box fun _ => ?_) | (refine E_eql ?_) | (refine E_neq ?_) | (refine E_lss ?_) | (refine E_leq ?_) | (refine E_gtr ?_) | (refine E_geq ?_) | (refine E_ext ?_) | (refine E_prt ?_) | (refine E_mx ?_) | (refine E_mn ?_) | (refine E_cap ?_) | (refine E_gdu ?_) | (refine E_fa fun _ => ?_) | (refine E_dr ?_) | (refine E_nc_f ?_) | (refine E_nc_i ?_) | (refine E_not ?_) | (refine E_str1 ?_) | (refine E_rck0 ?_) | (refine E_gff ?_) | (refine E_gtt ?_) | (refine E_gft ?_) | (refine E_gtf ?_) | (refine E_pff ?_) | (refine E_ptt ?_) | (refine E_ifT (by assumption) ?_) | (refine E_ifF (by assumption) ?_) | (refine E_gdT (by assumption) ?_) | (refine E_gdF (by assumption) ?_) | (refine E_gdnT (by assumption) ?_) | (refine E_gdnF (by assumption) ?_) | (refine E_pickT (by assumption) ?_) | (refine E_pickF (by assumption) ?_) | (refine E_ifT (by decide) ?_) | (refine E_ifF (by decide) ?_) | (refine E_gdT (by decide) ?_) | (refine E_gdF (by decide) ?_) | (refine E_gdnT (by decide) ?_) | (refine E_gdnF (by decide) ?_) | (refine E_pickT (by decide) ?_) | (refine E_pickF (by decide) ?_) | (refine E_addI (by omega) (by omega) ?_) | (refine E_subI (by omega) (by omega) ?_) | (refine E_mulI (by omega) (by omega) ?_)))
    cases hl : s.last with
    | none =>
      refine E_dlk0 (κ := Int) (hr.nol j s hs hl) ?_
      (repeat (first | (refine E_ld ?_) | (refine E_fad0 ?_) | (refine E_fad ?_) | (refine E_nc ?_) | (refine E_tt ?_) | (refine E_ff ?_) | (refine E_st ?_) | (refine E_len ?_) | (refine E_lenS ?_) | (refine E_box fun _ => ?_) | (refine E_eql ?_) | (refine E_neq ?_) | (refine E_lss ?_) | (refine E_leq ?_) | (refine E_gtr ?_) | (refine E_geq ?_) | (refine E_ext ?_) | (refine E_prt ?_) | (refine E_mx ?_) | (refine E_mn ?_) | (refine E_cap ?_) | (refine E_gdu ?_) | (refine E_fa fun _ => ?_) | (refine E_dr ?_) | (refine E_nc_f ?_) | (refine E_nc_i ?_) | (refine E_not ?_) | (refine E_str1 ?_) | (refine E_rck0 ?_) | (refine E_gff ?_) | (refine E_gtt ?_) | (refine E_gft ?_) | (refine E_gtf ?_) | (refine E_pff ?_) | (refine E_ptt ?_) | (refine E_ifT (by assumption) ?_) | (refine E_ifF (by assumption) ?_) | (refine E_gdT (by assumption) ?_) | (refine E_gdF (by assumption) ?_) | (refine E_gdnT (by assumption) ?_) | (refine E_gdnF (by assumption) ?_) | (refine E_pickT (by assumption) ?_) | (refine E_pickF (by assumption) ?_) | (refine E_ifT (by decide) ?_) | (refine E_ifF (by decide) ?_) | (refine E_gdT (by decide) ?_) | (refine E_gdF (by decide) ?_) | (refine E_gdnT (by decide) ?_) | (refine E_gdnF (by decide) ?_) | (refine E_pickT (by decide) ?_) | (refine E_pickF (by decide) ?_) | (refine E_addI (by omega) (by omega) ?_) | (refine E_subI (by omega) (by omega) ?_) | (refine E_mulI (by omega) (by omega) ?_)))
      refine E_ixS (by omega) (by omega) ?_
      obtain ⟨v, hv, hcv, hvL⟩ := hr.sur j s hs
      refine E_ld' (v := v) (l := vs ++ sp) ?_ ?_
      · rw [List.getElem?_append_left (by rw [hr.len]; simp; omega)]; simpa using hv
      have hin : InL L v s.sure := ⟨hvL⟩
      refine clone (bs := s.sure) (by rw [(hr.ok.len s (List.mem_of_getElem? hs)).1]; omega) fun v' _ => ?_
      have hn : s.now = s.sure := by simp [Sec.now, hl]
      rw [hn] at h
      exact E_same (by repeat (first | exact Same.refl | (refine Same.cons (by repeat (first | exact Find.here | apply Find.there)) ?_) | (refine Same.drop ?_))) (E_disks (H := osl 5 1 v' s.sure.length (bcs s.sure) :: H) hr hle hsl rfl rfl rfl rfl (b := b) (m := m) (E_perm (List.Perm.swap ..) (h v')))
    | some bs =>
      obtain ⟨v, hv, hcv, hvL⟩ := hr.las j s bs hs hl
      refine E_dlk1 (κ := Int) hv ?_
      (repeat (first | (refine E_ld ?_) | (refine E_fad0 ?_) | (refine E_fad ?_) | (refine E_nc ?_) | (refine E_tt ?_) | (refine E_ff ?_) | (refine E_st ?_) | (refine E_len ?_) | (refine E_lenS ?_) | (refine E_box fun _ => ?_) | (refine E_eql ?_) | (refine E_neq ?_) | (refine E_lss ?_) | (refine E_leq ?_) | (refine E_gtr ?_) | (refine E_geq ?_) | (refine E_ext ?_) | (refine E_prt ?_) | (refine E_mx ?_) | (refine E_mn ?_) | (refine E_cap ?_) | (refine E_gdu ?_) | (refine E_fa fun _ => ?_) | (refine E_dr ?_) | (refine E_nc_f ?_) | (refine E_nc_i ?_) | (refine E_not ?_) | (refine E_str1 ?_) | (refine E_rck0 ?_) | (refine E_gff ?_) | (refine E_gtt ?_) | (refine E_gft ?_) | (refine E_gtf ?_) | (refine E_pff ?_) | (refine E_ptt ?_) | (refine E_ifT (by assumption) ?_) | (refine E_ifF (by assumption) ?_) | (refine E_gdT (by assumption) ?_) | (refine E_gdF (by assumption) ?_) | (refine E_gdnT (by assumption) ?_) | (refine E_gdnF (by assumption) ?_) | (refine E_pickT (by assumption) ?_) | (refine E_pickF (by assumption) ?_) | (refine E_ifT (by decide) ?_) | (refine E_ifF (by decide) ?_) | (refine E_gdT (by decide) ?_) | (refine E_gdF (by decide) ?_) | (refine E_gdnT (by decide) ?_) | (refine E_gdnF (by decide) ?_) | (refine E_pickT (by decide) ?_) | (refine E_pickF (by decide) ?_) | (refine E_addI (by omega) (by omega) ?_) | (refine E_subI (by omega) (by omega) ?_) | (refine E_mulI (by omega) (by omega) ?_)))
      have hin : InL L v bs := ⟨hvL⟩
      have hlen := (hr.ok.len s (List.mem_of_getElem? hs)).2 bs hl
      refine clone (bs := bs) (by omega) fun v' _ => ?_
      have hn : s.now = bs := by simp [Sec.now, hl]
      rw [hn] at h
      exact E_same (by repeat (first | exact Same.refl | (refine Same.cons (by repeat (first | exact Find.here | apply Find.there)) ?_) | (refine Same.drop ?_))) (E_disks (H := osl 5 1 v' bs.length (bcs bs) :: H) hr hle hsl rfl rfl rfl rfl (b := b) (m := m) (E_perm (List.Perm.swap ..) (h v')))
end Go.Proofs.YtmbfmkiagdhcoaaDoor.Disk

/-
  The disk's methods that change it.
-/
namespace Go.Proofs.YtmbfmkiagdhcoaaDoor.Disk
open Go Go.SL Go.Proofs Go.Proofs.YtmbfmkiagdhcoaaDoor.Sh
attribute [local irreducible] S.pick S.ld S.ldN S.st S.box S.nc S.fad S.ixS S.ixA S.chr S.prt S.ext S.bin S.sh S.sbin S.beq S.neg1 S.com1 S.not1 S.cvt S.str1 S.lenS S.len S.cap S.lenM S.mx S.mn S.mkM S.cond S.gd S.fa S.dr S.rck S.join S.loop S.cvv S.eqv S.slc S.slcS S.b2s S.lk V U CF Gives E cel mpb osl ros dct dit itr lpo dfo
attribute [local irreducible] disk
variable {B : World} {H : List Asrt} {K : Value → WT}

theorem write {a : Nat} {D : Dk} {i : Int} {v : Value} {bs : List UInt8} [hf : Rb B H v bs] (h : E B (disk a (D.wr i bs) :: H) (K (I (D.wrE i bs)))) :
    E B (disk a D :: H) (CF Tryd.prog 24 [ptr a, I i, v] K) := by
  unfold Dk.wr Dk.wrE at h
  refine E_mono (W := s24 _ _ _ K) ?_ fun _ => c24
  unfold s24
  (repeat (first | (refine E_ld ?_) | (refine E_fad0 ?_) | (refine E_fad ?_) | (refine E_nc ?_) | (refine E_tt ?_) | (refine E_ff ?_) | (refine E_st ?_) | (refine E_len ?_) | (refine E_lenS ?_) | (refine E_box fun _ => ?_) | (refine E_eql ?_) | (refine E_neq ?_) | (refine E_lss ?_) | (refine E_leq ?_) | (refine E_gtr ?_) | (refine E_geq ?_) | (refine E_ext ?_) | (refine E_prt ?_) | (refine E_mx ?_) | (refine E_mn ?_) | (refine E_cap ?_) | (refine E_gdu ?_) | (refine E_fa fun _ => ?_) | (refine E_dr ?_) | (refine E_nc_f ?_) | (refine E_nc_i ?_) | (refine E_not ?_) | (refine E_str1 ?_) | (refine E_rck0 ?_) | (refine E_gff ?_) | (refine E_gtt ?_) | (refine E_gft ?_) | (refine E_gtf ?_) | (refine E_pff ?_) | (refine E_ptt ?_) | (refine E_ifT (by assumption) ?_) | (refine E_ifF (by assumption) ?_) | (refine E_gdT (by assumption) ?_) | (refine E_gdF (by assumption) ?_) | (refine E_gdnT (by assumption) ?_) | (refine E_gdnF (by assumption) ?_) | (refine E_pickT (by assumption) ?_) | (refine E_pickF (by assumption) ?_) | (refine E_ifT (by decide) ?_) | (refine E_ifF (by decide) ?_) | (refine E_gdT (by decide) ?_) | (refine E_gdF (by decide) ?_) | (refine E_gdnT (by decide) ?_) | (refine E_gdnF (by decide) ?_) | (refine E_pickT (by decide) ?_) | (refine E_pickF (by decide) ?_) | (refine E_addI (by omega) (by omega) ?_) | (refine E_subI (by omega) (by omega) ?_) | (refine E_mulI (by omega) (by omega) ?_)))
  rename_i bd bi
  refine E_find (a := disk a D) (by repeat (first | exact Find.here | apply Find.there)) (powered ?_)
  (repeat (first | (refine E_ld ?_) | (refine E_fad0 ?_) | (refine E_fad ?_) | (refine E_nc ?_) | (refine E_tt ?_) | (refine E_ff ?_) | (refine E_st ?_) | (refine E_len ?_) | (refine E_lenS ?_) | (refine E_box fun _ => ?_) | (refine E_eql ?_) | (refine E_neq ?_) | (refine E_lss ?_) | (refine E_leq ?_) | (refine E_gtr ?_) | (refine E_geq ?_) | (refine E_ext ?_) | (refine E_prt ?_) | (refine E_mx ?_) | (refine E_mn ?_) | (refine E_cap ?_) | (refine E_gdu ?_) | (refine E_fa fun _ => ?_) | (refine E_dr ?_) | (refine E_nc_f ?_) | (refine E_nc_i ?_) | (refine E_not ?_) | (refine E_str1 ?_) | (refine E_rck0 ?_) | (refine E_gff ?_) | (refine E_gtt ?_) | (refine E_gft ?_) | (refine E_gtf ?_) | (refine E_pff ?_) | (refine E_ptt ?_) | (refine E_ifT (by assumption) ?_) | (refine E_ifF (by assumption) ?_) | (refine E_gdT (by assumption) ?_) | (refine E_gdF (by assumption) ?_) | (refine E_gdnT (by assumption) ?_) | (refine E_gdnF (by assumption) ?_) | (refine E_pickT (by assumption) ?_) | (refine E_pickF (by assumption) ?_) | (refine E_ifT (by decide) ?_) | (refine E_ifF (by decide) ?_) | (refine E_gdT (by decide) ?_) | (refine E_gdF (by decide) ?_) | (refine E_gdnT (by decide) ?_) | (refine E_gdnF (by decide) ?_) | (refine E_pickT (by decide) ?_) | (refine E_pickF (by decide) ?_) | (refine E_addI (by omega) (by omega) ?_) | (refine E_subI (by omega) (by omega) ?_) | (refine E_mulI (by omega) (by omega) ?_)))
  refine E_if (fun hc => ?_) (fun hc => ?_)
  · simp only [if_pos hc] at h
    exact E_same (by repeat (first | exact Same.refl | (refine Same.cons (by repeat (first | exact Find.here | apply Find.there)) ?_) | (refine Same.drop ?_))) h
  simp only [if_neg hc] at h
  obtain ⟨hd, ho⟩ := Dk.pow0 (by simpa using hc)
  obtain ⟨j, s, rfl, hs, hj⟩ := Dk.inR ho
  refine E_rb_len (v := v) ?_
  (repeat (first | (refine E_ld ?_) | (refine E_fad0 ?_) | (refine E_fad ?_) | (refine E_nc ?_) | (refine E_tt ?_) | (refine E_ff ?_) | (refine E_st ?_) | (refine E_len ?_) | (refine E_lenS ?_) | (refine E_box fun _ => ?_) | (refine E_eql ?_) | (refine E_neq ?_) | (refine E_lss ?_) | (refine E_leq ?_) | (refine E_gtr ?_) | (refine E_geq ?_) | (refine E_ext ?_) | (refine E_prt ?_) | (refine E_mx ?_) | (refine E_mn ?_) | (refine E_cap ?_) | (refine E_gdu ?_) | (refine E_fa fun _ => ?_) | (refine E_dr ?_) | (refine E_nc_f ?_) | (refine E_nc_i ?_) | (refine E_not ?_) | (refine E_str1 ?_) | (refine E_rck0 ?_) | (refine E_gff ?_) | (refine E_gtt ?_) | (refine E_gft ?_) | (refine E_gtf ?_) | (refine E_pff ?_) | (refine E_ptt ?_) | (refine E_ifT (by assumption) ?_) | (refine E_ifF (by assumption) ?_) | (refine E_gdT (by assumption) ?_) | (refine E_gdF (by assumption) ?_) | (refine E_gdnT (by assumption) ?_) | (refine E_gdnF (by assumption) ?_) | (refine E_pickT (by assumption) ?_) | (refine E_pickF (by assumption) ?_) | (refine E_ifT (by decide) ?_) | (refine E_ifF (by decide) ?_) | (refine E_gdT (by decide) ?_) | (refine E_gdF (by decide) ?_) | (refine E_gdnT (by decide) ?_) | (refine E_gdnF (by decide) ?_) | (refine E_pickT (by decide) ?_) | (refine E_pickF (by decide) ?_) | (refine E_addI (by omega) (by omega) ?_) | (refine E_subI (by omega) (by omega) ?_) | (refine E_mulI (by omega) (by omega) ?_)))
  refine E_if (fun hc => ?_) (fun hc => ?_)
  · simp only [if_pos (show 128 < bs.length by omega)] at h
    exact E_same (by repeat (first | exact Same.refl | (refine Same.cons (by repeat (first | exact Find.here | apply Find.there)) ?_) | (refine Same.drop ?_))) h
  simp only [if_neg (show ¬ 128 < bs.length by omega)] at h
  have hbs : bs.length ≤ 128 := by omega
  refine whole (bs := bs) hbs fun pv _ => ?_
  (repeat (first | (refine E_ld ?_) | (refine E_fad0 ?_) | (refine E_fad ?_) | (refine E_nc ?_) | (refine E_tt ?_) | (refine E_ff ?_) | (refine E_st ?_) | (refine E_len ?_) | (refine E_lenS ?_) | (refine E_box fun _ => ?_) | (refine E_eql ?_) | (refine E_neq ?_) | (refine E_lss ?_) | (refine E_leq ?_) | (refine E_gtr ?_) | (refine E_geq ?_) | (refine E_ext ?_) | (refine E_prt ?_) | (refine E_mx ?_) | (refine E_mn ?_) | (refine E_cap ?_) | (refine E_gdu ?_) | (refine E_fa fun _ => ?_) | (refine E_dr ?_) | (refine E_nc_f ?_) | (refine E_nc_i ?_) | (refine E_not ?_) | (refine E_str1 ?_) | (refine E_rck0 ?_) | (refine E_gff ?_) | (refine E_gtt ?_) | (refine E_gft ?_) | (refine E_gtf ?_) | (refine E_pff ?_) | (refine E_ptt ?_) | (refine E_ifT (by assumption) ?_) | (refine E_ifF (by assumption) ?_) | (refine E_gdT (by assumption) ?_) | (refine E_gdF (by assumption) ?_) | (refine E_gdnT (by assumption) ?_) | (refine E_gdnF (by assumption) ?_) | (refine E_pickT (by assumption) ?_) | (refine E_pickF (by assumption) ?_) | (refine E_ifT (by decide) ?_) | (refine E_ifF (by decide) ?_) | (refine E_gdT (by decide) ?_) | (refine E_gdF (by decide) ?_) | (refine E_gdnT (by decide) ?_) | (refine E_gdnF (by decide) ?_) | (refine E_pickT (by decide) ?_) | (refine E_pickF (by decide) ?_) | (refine E_addI (by omega) (by omega) ?_) | (refine E_subI (by omega) (by omega) ?_) | (refine E_mulI (by omega) (by omega) ?_)))
  rename_i bp
  refine E_find (a := disk a D) (by repeat (first | exact Find.here | apply Find.there)) (trips (fun ht => ?_) (fun ht => ?_))
  · simp only [if_pos ht] at h
    exact E_same (by repeat (first | exact Same.refl | (refine Same.cons (by repeat (first | exact Find.here | apply Find.there)) ?_) | (refine Same.drop ?_))) h
  simp only [if_neg ht] at h
  refine E_cvv (by kernel_rfl) ?_
  refine E_mono (W := s34 _ _ _ _) ?_ fun _ => c34
  unfold s34
  refine E_disk fun b cap m vs sp kv L hr hle hsl => ?_
  (repeat (first | (refine E_ld ?_) | (refine E_fad0 ?_) | (refine E_fad ?_) | (refine E_nc ?_) | (refine E_tt ?_) | (refine E_ff ?_) | (refine E_st ?_) | (refine E_len ?_) | (refine E_lenS ?_) | (refine E_box fun _ => ?_) | (refine E_eql ?_) | (refine E_neq ?_) | (refine E_lss ?_) | (refine E_leq ?_) | (refine E_gtr ?_) | (refine E_geq ?_) | (refine E_ext ?_) | (refine E_prt ?_) | (refine E_mx ?_) | (refine E_mn ?_) | (refine E_cap ?_) | (refine E_gdu ?_) | (refine E_fa fun _ => ?_) | (refine E_dr ?_) | (refine E_nc_f ?_) | (refine E_nc_i ?_) | (refine E_not ?_) | (refine E_str1 ?_) | (refine E_rck0 ?_) | (refine E_gff ?_) | (refine E_gtt ?_) | (refine E_gft ?_) | (refine E_gtf ?_) | (refine E_pff ?_) | (refine E_ptt ?_) | (refine E_ifT (by assumption) ?_) | (refine E_ifF (by assumption) ?_) | (refine E_gdT (by assumption) ?_) | (refine E_gdF (by assumption) ?_) | (refine E_gdnT (by assumption) ?_) | (refine E_gdnF (by assumption) ?_) | (refine E_pickT (by assumption) ?_) | (refine E_pickF (by assumption) ?_) | (refine E_ifT (by decide) ?_) | (refine E_ifF (by decide) ?_) | (refine E_gdT (by decide) ?_) | (refine E_gdF (by decide) ?_) | (refine E_gdnT (by decide) ?_) | (refine E_gdnF (by decide) ?_) | (refine E_pickT (by decide) ?_) | (refine E_pickF (by decide) ?_) | (refine E_addI (by omega) (by omega) ?_) | (refine E_subI (by omega) (by omega) ?_) | (refine E_mulI (by omega) (by omega) ?_)))
  refine E_dmu (κ := Int) key_mapIB ?_
  refine E_find (a := osl 5 1 pv 128 (bcs (pad bs))) (by repeat (first | exact Find.here | apply Find.there)) ?_
  refine E_find (a := ros L) (by repeat (first | exact Find.here | apply Find.there)) (E_perm (List.Perm.swap ..) (osl_ros (pad_length hbs).symm ?_))
  have hs' : D.tick.S[j]? = some s := hs
  have hr' := (hr.sub (L' := (pv, pad bs) :: L) (fun p hp => List.mem_cons_of_mem _ hp)).dirt hs' (pad_length hbs) (List.mem_cons_self ..) (by assumption)
  have e : D.tick.setS j (fun s => { s with last := some (pad bs) }) = { D.tick with S := D.tick.S.set j { s with last := some (pad bs) } } := by
    unfold Dk.setS; rw [modify_set _ hs']
  rw [Int.toNat_natCast, e] at h
  exact E_same (by repeat (first | exact Same.refl | (refine Same.cons (by repeat (first | exact Find.here | apply Find.there)) ?_) | (refine Same.drop ?_))) (E_disks (H := H) hr' (by simpa using hle) (by simpa using hsl) (by simp [Dk.tick]) rfl rfl rfl (b := b) (m := m) h)

theorem settle {a : Nat} {D : Dk} (h : E B (disk a { D with S := D.S.map Sec.settle } :: H) (K (.tuple #[]))) : E B (disk a D :: H) (CF Tryd.prog 37 [ptr a] K) := by
  refine E_mono (W := s37 _ K) ?_ fun _ => c37
  unfold s37
  refine E_disk fun b cap m vs sp kv L hr hle hsl => ?_
  (repeat (first | (refine E_ld ?_) | (refine E_fad0 ?_) | (refine E_fad ?_) | (refine E_nc ?_) | (refine E_tt ?_) | (refine E_ff ?_) | (refine E_st ?_) | (refine E_len ?_) | (refine E_lenS ?_) | (refine E_box fun _ => ?_) | (refine E_eql ?_) | (refine E_neq ?_) | (refine E_lss ?_) | (refine E_leq ?_) | (refine E_gtr ?_) | (refine E_geq ?_) | (refine E_ext ?_) | (refine E_prt ?_) | (refine E_mx ?_) | (refine E_mn ?_) | (refine E_cap ?_) | (refine E_gdu ?_) | (refine E_fa fun _ => ?_) | (refine E_dr ?_) | (refine E_nc_f ?_) | (refine E_nc_i ?_) | (refine E_not ?_) | (refine E_str1 ?_) | (refine E_rck0 ?_) | (refine E_gff ?_) | (refine E_gtt ?_) | (refine E_gft ?_) | (refine E_gtf ?_) | (refine E_pff ?_) | (refine E_ptt ?_) | (refine E_ifT (by assumption) ?_) | (refine E_ifF (by assumption) ?_) | (refine E_gdT (by assumption) ?_) | (refine E_gdF (by assumption) ?_) | (refine E_gdnT (by assumption) ?_) | (refine E_gdnF (by assumption) ?_) | (refine E_pickT (by assumption) ?_) | (refine E_pickF (by assumption) ?_) | (refine E_ifT (by decide) ?_) | (refine E_ifF (by decide) ?_) | (refine E_gdT (by decide) ?_) | (refine E_gdF (by decide) ?_) | (refine E_gdnT (by decide) ?_) | (refine E_gdnF (by decide) ?_) | (refine E_pickT (by decide) ?_) | (refine E_pickF (by decide) ?_) | (refine E_addI (by omega) (by omega) ?_) | (refine E_subI (by omega) (by omega) ?_) | (refine E_mulI (by omega) (by omega) ?_)))
  have hd := dirty_length (S := D.S) (p := 0)
  have hk := hr.kvlen
  have h2 := hr.ok.n2
  unfold Dk.dirty at hk
  refine sortedKeys (by omega) fun sv zs hz => ?_
  have e : sortI zs = D.dirty := sort_dirty (hz.trans hr.keys)
  rw [e, hr.kvlen]
  refine E_rx_len (v := sv) ?_
  refine E_loop (σ := Nat × List Sec) (fun s => dirtyFrom s.2 0 = D.dirty.drop s.1 ∧ s.1 ≤ D.dirty.length ∧ crashG (fun _ s => s.settle) s.2 s.1 = D.S.map Sec.settle)
    (fun s => [ptr a, sv, I D.dirty.length, I s.1]) (fun s => disk a { D with S := s.2 } :: osl 3 1 sv D.dirty.length (ints D.dirty) :: H) (fun s => D.dirty.length - s.1) (0, D.S) (fun s => rfl) rfl
    ⟨rfl, Nat.zero_le _, settle_all⟩ (fun W hW => E_same (by repeat (first | exact Same.refl | (refine Same.cons (by repeat (first | exact Find.here | apply Find.there)) ?_) | (refine Same.drop ?_))) (E_disks (H := osl 3 1 sv D.dirty.length (ints D.dirty) :: H) hr hle hsl rfl rfl rfl rfl (b := b) (m := m) hW)) ?_
  have hd' : D.dirty.length ≤ 4096 := by unfold Dk.dirty; omega
  clear hr hz hk e hle hsl
  rintro ⟨j, S⟩ K0 ⟨hφ1, hφ2, hφ3⟩ hk
  simp only at hφ1 hφ2 hφ3 hk ⊢
  refine E_fa fun _ => ?_
  (repeat (first | (refine E_ld ?_) | (refine E_fad0 ?_) | (refine E_fad ?_) | (refine E_nc ?_) | (refine E_tt ?_) | (refine E_ff ?_) | (refine E_st ?_) | (refine E_len ?_) | (refine E_lenS ?_) | (refine E_box fun _ => ?_) | (refine E_eql ?_) | (refine E_neq ?_) | (refine E_lss ?_) | (refine E_leq ?_) | (refine E_gtr ?_) | (refine E_geq ?_) | (refine E_ext ?_) | (refine E_prt ?_) | (refine E_mx ?_) | (refine E_mn ?_) | (refine E_cap ?_) | (refine E_gdu ?_) | (refine E_fa fun _ => ?_) | (refine E_dr ?_) | (refine E_nc_f ?_) | (refine E_nc_i ?_) | (refine E_not ?_) | (refine E_str1 ?_) | (refine E_rck0 ?_) | (refine E_gff ?_) | (refine E_gtt ?_) | (refine E_gft ?_) | (refine E_gtf ?_) | (refine E_pff ?_) | (refine E_ptt ?_) | (refine E_ifT (by assumption) ?_) | (refine E_ifF (by assumption) ?_) | (refine E_gdT (by assumption) ?_) | (refine E_gdF (by assumption) ?_) | (refine E_gdnT (by assumption) ?_) | (refine E_gdnF (by assumption) ?_) | (refine E_pickT (by assumption) ?_) | (refine E_pickF (by assumption) ?_) | (refine E_ifT (by decide) ?_) | (refine E_ifF (by decide) ?_) | (refine E_gdT (by decide) ?_) | (refine E_gdF (by decide) ?_) | (refine E_gdnT (by decide) ?_) | (refine E_gdnF (by decide) ?_) | (refine E_pickT (by decide) ?_) | (refine E_pickF (by decide) ?_) | (refine E_addI (by omega) (by omega) ?_) | (refine E_subI (by omega) (by omega) ?_) | (refine E_mulI (by omega) (by omega) ?_)))
  refine E_if (fun hc => ?_) (fun hc => ?_)
  · have hj : j < D.dirty.length := by omega
    refine E_rxn (v := sv) (by simp; omega) (fun b1 o1 cap1 hv1 hle1 => ?_)
    subst hv1
    refine E_ixS (by omega) (by omega) ?_
    have hdrop := List.drop_eq_getElem_cons hj
    rw [hdrop] at hφ1
    obtain ⟨i, s, hi, hs, hl, hset, hcr⟩ := dirty_head hφ1
    simp only [Nat.zero_add] at hi
    refine E_rx_ld (m := D.dirty.length) (cap := cap1) (u := I i) ?_ ?_
    · simp [ints, hj, hi]
    (repeat (first | (refine E_ld ?_) | (refine E_fad0 ?_) | (refine E_fad ?_) | (refine E_nc ?_) | (refine E_tt ?_) | (refine E_ff ?_) | (refine E_st ?_) | (refine E_len ?_) | (refine E_lenS ?_) | (refine E_box fun _ => ?_) | (refine E_eql ?_) | (refine E_neq ?_) | (refine E_lss ?_) | (refine E_leq ?_) | (refine E_gtr ?_) | (refine E_geq ?_) | (refine E_ext ?_) | (refine E_prt ?_) | (refine E_mx ?_) | (refine E_mn ?_) | (refine E_cap ?_) | (refine E_gdu ?_) | (refine E_fa fun _ => ?_) | (refine E_dr ?_) | (refine E_nc_f ?_) | (refine E_nc_i ?_) | (refine E_not ?_) | (refine E_str1 ?_) | (refine E_rck0 ?_) | (refine E_gff ?_) | (refine E_gtt ?_) | (refine E_gft ?_) | (refine E_gtf ?_) | (refine E_pff ?_) | (refine E_ptt ?_) | (refine E_ifT (by assumption) ?_) | (refine E_ifF (by assumption) ?_) | (refine E_gdT (by assumption) ?_) | (refine E_gdF (by assumption) ?_) | (refine E_gdnT (by assumption) ?_) | (refine E_gdnF (by assumption) ?_) | (refine E_pickT (by assumption) ?_) | (refine E_pickF (by assumption) ?_) | (refine E_ifT (by decide) ?_) | (refine E_ifF (by decide) ?_) | (refine E_gdT (by decide) ?_) | (refine E_gdF (by decide) ?_) | (refine E_gdnT (by decide) ?_) | (refine E_gdnF (by decide) ?_) | (refine E_pickT (by decide) ?_) | (refine E_pickF (by decide) ?_) | (refine E_addI (by omega) (by omega) ?_) | (refine E_subI (by omega) (by omega) ?_) | (refine E_mulI (by omega) (by omega) ?_)))
    refine E_find (a := disk a { D with S := S }) (by repeat (first | exact Find.here | apply Find.there)) (E_disk fun b cap m vs sp kv L hr hle hsl => ?_)
    simp only at hr hle hsl ⊢
    (repeat (first | (refine E_ld ?_) | (refine E_fad0 ?_) | (refine E_fad ?_) | (refine E_nc ?_) | (refine E_tt ?_) | (refine E_ff ?_) | (refine E_st ?_) | (refine E_len ?_) | (refine E_lenS ?_) | (refine E_box fun _ => ?_) | (refine E_eql ?_) | (refine E_neq ?_) | (refine E_lss ?_) | (refine E_leq ?_) | (refine E_gtr ?_) | (refine E_geq ?_) | (refine E_ext ?_) | (refine E_prt ?_) | (refine E_mx ?_) | (refine E_mn ?_) | (refine E_cap ?_) | (refine E_gdu ?_) | (refine E_fa fun _ => ?_) | (refine E_dr ?_) | (refine E_nc_f ?_) | (refine E_nc_i ?_) | (refine E_not ?_) | (refine E_str1 ?_) | (refine E_rck0 ?_) | (refine E_gff ?_) | (refine E_gtt ?_) | (refine E_gft ?_) | (refine E_gtf ?_) | (refine E_pff ?_) | (refine E_ptt ?_) | (refine E_ifT (by assumption) ?_) | (refine E_ifF (by assumption) ?_) | (refine E_gdT (by assumption) ?_) | (refine E_gdF (by assumption) ?_) | (refine E_gdnT (by assumption) ?_) | (refine E_gdnF (by assumption) ?_) | (refine E_pickT (by assumption) ?_) | (refine E_pickF (by assumption) ?_) | (refine E_ifT (by decide) ?_) | (refine E_ifF (by decide) ?_) | (refine E_gdT (by decide) ?_) | (refine E_gdF (by decide) ?_) | (refine E_gdnT (by decide) ?_) | (refine E_gdnF (by decide) ?_) | (refine E_pickT (by decide) ?_) | (refine E_pickF (by decide) ?_) | (refine E_addI (by omega) (by omega) ?_) | (refine E_subI (by omega) (by omega) ?_) | (refine E_mulI (by omega) (by omega) ?_)))
    obtain ⟨bs, hbs⟩ := Option.isSome_iff_exists.1 hl
    obtain ⟨v, hv, hcv, hvL⟩ := hr.las i s bs hs hbs
    refine E_dlk1 (κ := Int) hv ?_
    simp only
    have hlt : i < S.length := (List.getElem?_eq_some_iff.1 hs).1
    have hlen := hr.len
    simp only at hlen
    refine E_ixS (by omega) (by omega) ?_
    refine E_st' (by simp; omega) ?_
    (repeat (first | (refine E_ld ?_) | (refine E_fad0 ?_) | (refine E_fad ?_) | (refine E_nc ?_) | (refine E_tt ?_) | (refine E_ff ?_) | (refine E_st ?_) | (refine E_len ?_) | (refine E_lenS ?_) | (refine E_box fun _ => ?_) | (refine E_eql ?_) | (refine E_neq ?_) | (refine E_lss ?_) | (refine E_leq ?_) | (refine E_gtr ?_) | (refine E_geq ?_) | (refine E_ext ?_) | (refine E_prt ?_) | (refine E_mx ?_) | (refine E_mn ?_) | (refine E_cap ?_) | (refine E_gdu ?_) | (refine E_fa fun _ => ?_) | (refine E_dr ?_) | (refine E_nc_f ?_) | (refine E_nc_i ?_) | (refine E_not ?_) | (refine E_str1 ?_) | (refine E_rck0 ?_) | (refine E_gff ?_) | (refine E_gtt ?_) | (refine E_gft ?_) | (refine E_gtf ?_) | (refine E_pff ?_) | (refine E_ptt ?_) | (refine E_ifT (by assumption) ?_) | (refine E_ifF (by assumption) ?_) | (refine E_gdT (by assumption) ?_) | (refine E_gdF (by assumption) ?_) | (refine E_gdnT (by assumption) ?_) | (refine E_gdnF (by assumption) ?_) | (refine E_pickT (by assumption) ?_) | (refine E_pickF (by assumption) ?_) | (refine E_ifT (by decide) ?_) | (refine E_ifF (by decide) ?_) | (refine E_gdT (by decide) ?_) | (refine E_gdF (by decide) ?_) | (refine E_gdnT (by decide) ?_) | (refine E_gdnF (by decide) ?_) | (refine E_pickT (by decide) ?_) | (refine E_pickF (by decide) ?_) | (refine E_addI (by omega) (by omega) ?_) | (refine E_subI (by omega) (by omega) ?_) | (refine E_mulI (by omega) (by omega) ?_)))
    refine E_ddel (κ := Int) rfl key_mapIB ?_
    (repeat (first | (refine E_ld ?_) | (refine E_fad0 ?_) | (refine E_fad ?_) | (refine E_nc ?_) | (refine E_tt ?_) | (refine E_ff ?_) | (refine E_st ?_) | (refine E_len ?_) | (refine E_lenS ?_) | (refine E_box fun _ => ?_) | (refine E_eql ?_) | (refine E_neq ?_) | (refine E_lss ?_) | (refine E_leq ?_) | (refine E_gtr ?_) | (refine E_geq ?_) | (refine E_ext ?_) | (refine E_prt ?_) | (refine E_mx ?_) | (refine E_mn ?_) | (refine E_cap ?_) | (refine E_gdu ?_) | (refine E_fa fun _ => ?_) | (refine E_dr ?_) | (refine E_nc_f ?_) | (refine E_nc_i ?_) | (refine E_not ?_) | (refine E_str1 ?_) | (refine E_rck0 ?_) | (refine E_gff ?_) | (refine E_gtt ?_) | (refine E_gft ?_) | (refine E_gtf ?_) | (refine E_pff ?_) | (refine E_ptt ?_) | (refine E_ifT (by assumption) ?_) | (refine E_ifF (by assumption) ?_) | (refine E_gdT (by assumption) ?_) | (refine E_gdF (by assumption) ?_) | (refine E_gdnT (by assumption) ?_) | (refine E_gdnF (by assumption) ?_) | (refine E_pickT (by assumption) ?_) | (refine E_pickF (by assumption) ?_) | (refine E_ifT (by decide) ?_) | (refine E_ifF (by decide) ?_) | (refine E_gdT (by decide) ?_) | (refine E_gdF (by decide) ?_) | (refine E_gdnT (by decide) ?_) | (refine E_gdnF (by decide) ?_) | (refine E_pickT (by decide) ?_) | (refine E_pickF (by decide) ?_) | (refine E_addI (by omega) (by omega) ?_) | (refine E_subI (by omega) (by omega) ?_) | (refine E_mulI (by omega) (by omega) ?_)))
    have hr' := hr.clean (s' := s.settle) (v := v) hlt rfl (by simp only [Sec.settle, Sec.now, hbs]; exact (hr.ok.len s (List.mem_of_getElem? hs)).2 bs hbs) (by simpa [Sec.settle, Sec.now, hbs] using hvL) hcv
    have e2 : (vs ++ sp).set (0 + (i : Int).toNat * 1) v = vs.set i v ++ sp := by
      rw [List.set_append_left _ _ (by simp; omega)]; simp
    rw [e2]
    (repeat (first | (refine E_ld ?_) | (refine E_fad0 ?_) | (refine E_fad ?_) | (refine E_nc ?_) | (refine E_tt ?_) | (refine E_ff ?_) | (refine E_st ?_) | (refine E_len ?_) | (refine E_lenS ?_) | (refine E_box fun _ => ?_) | (refine E_eql ?_) | (refine E_neq ?_) | (refine E_lss ?_) | (refine E_leq ?_) | (refine E_gtr ?_) | (refine E_geq ?_) | (refine E_ext ?_) | (refine E_prt ?_) | (refine E_mx ?_) | (refine E_mn ?_) | (refine E_cap ?_) | (refine E_gdu ?_) | (refine E_fa fun _ => ?_) | (refine E_dr ?_) | (refine E_nc_f ?_) | (refine E_nc_i ?_) | (refine E_not ?_) | (refine E_str1 ?_) | (refine E_rck0 ?_) | (refine E_gff ?_) | (refine E_gtt ?_) | (refine E_gft ?_) | (refine E_gtf ?_) | (refine E_pff ?_) | (refine E_ptt ?_) | (refine E_ifT (by assumption) ?_) | (refine E_ifF (by assumption) ?_) | (refine E_gdT (by assumption) ?_) | (refine E_gdF (by assumption) ?_) | (refine E_gdnT (by assumption) ?_) | (refine E_gdnF (by assumption) ?_) | (refine E_pickT (by assumption) ?_) | (refine E_pickF (by assumption) ?_) | (refine E_ifT (by decide) ?_) | (refine E_ifF (by decide) ?_) | (refine E_gdT (by decide) ?_) | (refine E_gdF (by decide) ?_) | (refine E_gdnT (by decide) ?_) | (refine E_gdnF (by decide) ?_) | (refine E_pickT (by decide) ?_) | (refine E_pickF (by decide) ?_) | (refine E_addI (by omega) (by omega) ?_) | (refine E_subI (by omega) (by omega) ?_) | (refine E_mulI (by omega) (by omega) ?_)))
    have hk' := hk (j + 1, S.set i s.settle) ⟨hset _ rfl, by omega, by rw [← hφ3, hcr (fun _ s => s.settle) j rfl]⟩ (by simp only; omega)
    refine E_same (by repeat (first | exact Same.refl | (refine Same.cons (by repeat (first | exact Find.here | apply Find.there)) ?_) | (refine Same.drop ?_))) (E_disks (H := osl 3 1 (.slice (some ⟨b1, o1, none⟩) D.dirty.length cap1) D.dirty.length (ints D.dirty) :: H) hr' (by simpa using hle) (by simpa using hsl) (by simp) rfl rfl rfl (b := b) (m := m) hk')
  · have hj : j = D.dirty.length := by omega
    subst hj
    simp only [List.drop_length] at hφ1
    have := (dirty_nil hφ1).2 (fun _ s => s.settle) D.dirty.length
    rw [this] at hφ3
    rw [hφ3]
    exact E_same (by repeat (first | exact Same.refl | (refine Same.cons (by repeat (first | exact Find.here | apply Find.there)) ?_) | (refine Same.drop ?_))) h

theorem flush {a : Nat} {D : Dk} (h : E B (disk a D.fl :: H) (K (I D.flE))) : E B (disk a D :: H) (CF Tryd.prog 26 [ptr a] K) := by
  unfold Dk.fl Dk.flE at h
  refine E_mono (W := s26 _ K) ?_ fun _ => c26
  unfold s26
  refine E_disk fun b cap m vs sp kv L hr hle hsl => ?_
  have n1 := hr.ok.n1
  refine E_disks (H := H) hr hle hsl rfl rfl rfl rfl (b := b) (m := m) ?_
  refine powered ?_
  have hp : D.pow 0 = if D.down = true then 7 else 0 := by
    have ho : ¬ D.out 0 := by unfold Dk.out; omega
    unfold Dk.pow; simp only [if_neg ho]
  rw [hp]
  (repeat (first | (refine E_ld ?_) | (refine E_fad0 ?_) | (refine E_fad ?_) | (refine E_nc ?_) | (refine E_tt ?_) | (refine E_ff ?_) | (refine E_st ?_) | (refine E_len ?_) | (refine E_lenS ?_) | (refine E_box fun _ => ?_) | (refine E_eql ?_) | (refine E_neq ?_) | (refine E_lss ?_) | (refine E_leq ?_) | (refine E_gtr ?_) | (refine E_geq ?_) | (refine E_ext ?_) | (refine E_prt ?_) | (refine E_mx ?_) | (refine E_mn ?_) | (refine E_cap ?_) | (refine E_gdu ?_) | (refine E_fa fun _ => ?_) | (refine E_dr ?_) | (refine E_nc_f ?_) | (refine E_nc_i ?_) | (refine E_not ?_) | (refine E_str1 ?_) | (refine E_rck0 ?_) | (refine E_gff ?_) | (refine E_gtt ?_) | (refine E_gft ?_) | (refine E_gtf ?_) | (refine E_pff ?_) | (refine E_ptt ?_) | (refine E_ifT (by assumption) ?_) | (refine E_ifF (by assumption) ?_) | (refine E_gdT (by assumption) ?_) | (refine E_gdF (by assumption) ?_) | (refine E_gdnT (by assumption) ?_) | (refine E_gdnF (by assumption) ?_) | (refine E_pickT (by assumption) ?_) | (refine E_pickF (by assumption) ?_) | (refine E_ifT (by decide) ?_) | (refine E_ifF (by decide) ?_) | (refine E_gdT (by decide) ?_) | (refine E_gdF (by decide) ?_) | (refine E_gdnT (by decide) ?_) | (refine E_gdnF (by decide) ?_) | (refine E_pickT (by decide) ?_) | (refine E_pickF (by decide) ?_) | (refine E_addI (by omega) (by omega) ?_) | (refine E_subI (by omega) (by omega) ?_) | (refine E_mulI (by omega) (by omega) ?_)))
  by_cases hd : D.down = true
  · simp only [if_pos hd] at h ⊢
    refine E_if (fun _ => h) (fun hc => by simp at hc)
  simp only [if_neg hd] at h ⊢
  refine E_if (fun hc => by simp at hc) (fun _ => ?_)
  refine trips (fun ht => ?_) (fun ht => ?_)
  · simp only [if_pos ht] at h
    exact h
  simp only [if_neg ht] at h
  refine E_cvv (by kernel_rfl) ?_
  exact settle h

theorem rot {a : Nat} {D : Dk} {i : Int} {v : Value} {bs : List UInt8} [hf : Rb B H v bs] (h : E B (disk a (D.rot i bs) :: H) (K (I (D.rotE i bs)))) :
    E B (disk a D :: H) (CF Tryd.prog 11 [ptr a, I i, v] K) := by
  unfold Dk.rot Dk.rotE at h
  refine E_mono (W := s11 _ _ _ K) ?_ fun _ => c11
  unfold s11
  refine E_disk fun b cap m vs sp kv L hr hle hsl => ?_
  refine E_peq u_pDisk ?_
  (repeat (first | (refine E_ld ?_) | (refine E_fad0 ?_) | (refine E_fad ?_) | (refine E_nc ?_) | (refine E_tt ?_) | (refine E_ff ?_) | (refine E_st ?_) | (refine E_len ?_) | (refine E_lenS ?_) | (refine E_box fun _ => ?_) | (refine E_eql ?_) | (refine E_neq ?_) | (refine E_lss ?_) | (refine E_leq ?_) | (refine E_gtr ?_) | (refine E_geq ?_) | (refine E_ext ?_) | (refine E_prt ?_) | (refine E_mx ?_) | (refine E_mn ?_) | (refine E_cap ?_) | (refine E_gdu ?_) | (refine E_fa fun _ => ?_) | (refine E_dr ?_) | (refine E_nc_f ?_) | (refine E_nc_i ?_) | (refine E_not ?_) | (refine E_str1 ?_) | (refine E_rck0 ?_) | (refine E_gff ?_) | (refine E_gtt ?_) | (refine E_gft ?_) | (refine E_gtf ?_) | (refine E_pff ?_) | (refine E_ptt ?_) | (refine E_ifT (by assumption) ?_) | (refine E_ifF (by assumption) ?_) | (refine E_gdT (by assumption) ?_) | (refine E_gdF (by assumption) ?_) | (refine E_gdnT (by assumption) ?_) | (refine E_gdnF (by assumption) ?_) | (refine E_pickT (by assumption) ?_) | (refine E_pickF (by assumption) ?_) | (refine E_ifT (by decide) ?_) | (refine E_ifF (by decide) ?_) | (refine E_gdT (by decide) ?_) | (refine E_gdF (by decide) ?_) | (refine E_gdnT (by decide) ?_) | (refine E_gdnF (by decide) ?_) | (refine E_pickT (by decide) ?_) | (refine E_pickF (by decide) ?_) | (refine E_addI (by omega) (by omega) ?_) | (refine E_subI (by omega) (by omega) ?_) | (refine E_mulI (by omega) (by omega) ?_)))
  refine E_join0 ?_
  (repeat (first | (refine E_ld ?_) | (refine E_fad0 ?_) | (refine E_fad ?_) | (refine E_nc ?_) | (refine E_tt ?_) | (refine E_ff ?_) | (refine E_st ?_) | (refine E_len ?_) | (refine E_lenS ?_) | (refine E_box fun _ => ?_) | (refine E_eql ?_) | (refine E_neq ?_) | (refine E_lss ?_) | (refine E_leq ?_) | (refine E_gtr ?_) | (refine E_geq ?_) | (refine E_ext ?_) | (refine E_prt ?_) | (refine E_mx ?_) | (refine E_mn ?_) | (refine E_cap ?_) | (refine E_gdu ?_) | (refine E_fa fun _ => ?_) | (refine E_dr ?_) | (refine E_nc_f ?_) | (refine E_nc_i ?_) | (refine E_not ?_) | (refine E_str1 ?_) | (refine E_rck0 ?_) | (refine E_gff ?_) | (refine E_gtt ?_) | (refine E_gft ?_) | (refine E_gtf ?_) | (refine E_pff ?_) | (refine E_ptt ?_) | (refine E_ifT (by assumption) ?_) | (refine E_ifF (by assumption) ?_) | (refine E_gdT (by assumption) ?_) | (refine E_gdF (by assumption) ?_) | (refine E_gdnT (by assumption) ?_) | (refine E_gdnF (by assumption) ?_) | (refine E_pickT (by assumption) ?_) | (refine E_pickF (by assumption) ?_) | (refine E_ifT (by decide) ?_) | (refine E_ifF (by decide) ?_) | (refine E_gdT (by decide) ?_) | (refine E_gdF (by decide) ?_) | (refine E_gdnT (by decide) ?_) | (refine E_gdnF (by decide) ?_) | (refine E_pickT (by decide) ?_) | (refine E_pickF (by decide) ?_) | (refine E_addI (by omega) (by omega) ?_) | (refine E_subI (by omega) (by omega) ?_) | (refine E_mulI (by omega) (by omega) ?_)))
  have go : ¬ D.out i → E B (cel true a 52 [.slice (some ⟨b, 0, none⟩) D.S.length cap, .map (some m), I D.trip, .bool D.down, I D.life] :: cel true b 22 (vs ++ sp) :: dct kI true m kv :: ros L :: H)
      (S.len v fun v24 => S.bin .gtr v24 (I 128) fun v25 => S.cond v25 (K (I 6)) (S.dr <| S.nc (ptr a) fun v27 => S.fad v27 0 fun v28 => S.ld v28 fun v29 => CF Tryd.prog 29 [v] fun v32 =>
        S.rck [S.ld v28 (fun v' _ => v' = v29)] <| S.ixS 1 v29 (I i) fun v33 => S.st 1 v33 v32 fun _ => S.nc (ptr a) fun v35 => S.fad v35 1 fun v36 => S.ld v36 fun v37 =>
        V Tryd.prog (Builtin.delete_ #[50, 3] 0 #[v37, I i]) fun _ => K (I 0))) := fun ho => by
    simp only [if_neg ho] at h
    refine E_rb_len (v := v) ?_
    (repeat (first | (refine E_ld ?_) | (refine E_fad0 ?_) | (refine E_fad ?_) | (refine E_nc ?_) | (refine E_tt ?_) | (refine E_ff ?_) | (refine E_st ?_) | (refine E_len ?_) | (refine E_lenS ?_) | (refine E_box fun _ => ?_) | (refine E_eql ?_) | (refine E_neq ?_) | (refine E_lss ?_) | (refine E_leq ?_) | (refine E_gtr ?_) | (refine E_geq ?_) | (refine E_ext ?_) | (refine E_prt ?_) | (refine E_mx ?_) | (refine E_mn ?_) | (refine E_cap ?_) | (refine E_gdu ?_) | (refine E_fa fun _ => ?_) | (refine E_dr ?_) | (refine E_nc_f ?_) | (refine E_nc_i ?_) | (refine E_not ?_) | (refine E_str1 ?_) | (refine E_rck0 ?_) | (refine E_gff ?_) | (refine E_gtt ?_) | (refine E_gft ?_) | (refine E_gtf ?_) | (refine E_pff ?_) | (refine E_ptt ?_) | (refine E_ifT (by assumption) ?_) | (refine E_ifF (by assumption) ?_) | (refine E_gdT (by assumption) ?_) | (refine E_gdF (by assumption) ?_) | (refine E_gdnT (by assumption) ?_) | (refine E_gdnF (by assumption) ?_) | (refine E_pickT (by assumption) ?_) | (refine E_pickF (by assumption) ?_) | (refine E_ifT (by decide) ?_) | (refine E_ifF (by decide) ?_) | (refine E_gdT (by decide) ?_) | (refine E_gdF (by decide) ?_) | (refine E_gdnT (by decide) ?_) | (refine E_gdnF (by decide) ?_) | (refine E_pickT (by decide) ?_) | (refine E_pickF (by decide) ?_) | (refine E_addI (by omega) (by omega) ?_) | (refine E_subI (by omega) (by omega) ?_) | (refine E_mulI (by omega) (by omega) ?_)))
    refine E_if (fun hc => ?_) (fun hc => ?_)
    · simp only [if_pos (show 128 < bs.length by omega)] at h
      exact E_disks hr hle hsl rfl rfl rfl rfl h
    simp only [if_neg (show ¬ 128 < bs.length by omega)] at h
    have hbs : bs.length ≤ 128 := by omega
    obtain ⟨j, s, rfl, hs, hj⟩ := Dk.inR ho
    (repeat (first | (refine E_ld ?_) | (refine E_fad0 ?_) | (refine E_fad ?_) | (refine E_nc ?_) | (refine E_tt ?_) | (refine E_ff ?_) | (refine E_st ?_) | (refine E_len ?_) | (refine E_lenS ?_) | (refine E_box fun _ => ?_) | (refine E_eql ?_) | (refine E_neq ?_) | (refine E_lss ?_) | (refine E_leq ?_) | (refine E_gtr ?_) | (refine E_geq ?_) | (refine E_ext ?_) | (refine E_prt ?_) | (refine E_mx ?_) | (refine E_mn ?_) | (refine E_cap ?_) | (refine E_gdu ?_) | (refine E_fa fun _ => ?_) | (refine E_dr ?_) | (refine E_nc_f ?_) | (refine E_nc_i ?_) | (refine E_not ?_) | (refine E_str1 ?_) | (refine E_rck0 ?_) | (refine E_gff ?_) | (refine E_gtt ?_) | (refine E_gft ?_) | (refine E_gtf ?_) | (refine E_pff ?_) | (refine E_ptt ?_) | (refine E_ifT (by assumption) ?_) | (refine E_ifF (by assumption) ?_) | (refine E_gdT (by assumption) ?_) | (refine E_gdF (by assumption) ?_) | (refine E_gdnT (by assumption) ?_) | (refine E_gdnF (by assumption) ?_) | (refine E_pickT (by assumption) ?_) | (refine E_pickF (by assumption) ?_) | (refine E_ifT (by decide) ?_) | (refine E_ifF (by decide) ?_) | (refine E_gdT (by decide) ?_) | (refine E_gdF (by decide) ?_) | (refine E_gdnT (by decide) ?_) | (refine E_gdnF (by decide) ?_) | (refine E_pickT (by decide) ?_) | (refine E_pickF (by decide) ?_) | (refine E_addI (by omega) (by omega) ?_) | (refine E_subI (by omega) (by omega) ?_) | (refine E_mulI (by omega) (by omega) ?_)))
    refine whole (bs := bs) hbs fun pv _ => ?_
    (repeat (refine E_rck1 (by first | exact E_ld (E_fact rfl) | exact E_ld' (by assumption) (E_fact rfl) | exact E_b2sR (E_fact rfl) | exact E_gdnF (by assumption) (E_ld (E_fact rfl)) | exact E_gdT (by assumption) (E_ld (E_fact rfl)) | exact E_gtf (E_ld (E_fact rfl)) | exact E_gft (E_ld (E_fact rfl))) ?_)); (first | (refine E_rck0 ?_) | skip)
    have hlen := hr.len
    refine E_ixS (by omega) (by omega) ?_
    refine E_st' (by simp; omega) ?_
    (repeat (first | (refine E_ld ?_) | (refine E_fad0 ?_) | (refine E_fad ?_) | (refine E_nc ?_) | (refine E_tt ?_) | (refine E_ff ?_) | (refine E_st ?_) | (refine E_len ?_) | (refine E_lenS ?_) | (refine E_box fun _ => ?_) | (refine E_eql ?_) | (refine E_neq ?_) | (refine E_lss ?_) | (refine E_leq ?_) | (refine E_gtr ?_) | (refine E_geq ?_) | (refine E_ext ?_) | (refine E_prt ?_) | (refine E_mx ?_) | (refine E_mn ?_) | (refine E_cap ?_) | (refine E_gdu ?_) | (refine E_fa fun _ => ?_) | (refine E_dr ?_) | (refine E_nc_f ?_) | (refine E_nc_i ?_) | (refine E_not ?_) | (refine E_str1 ?_) | (refine E_rck0 ?_) | (refine E_gff ?_) | (refine E_gtt ?_) | (refine E_gft ?_) | (refine E_gtf ?_) | (refine E_pff ?_) | (refine E_ptt ?_) | (refine E_ifT (by assumption) ?_) | (refine E_ifF (by assumption) ?_) | (refine E_gdT (by assumption) ?_) | (refine E_gdF (by assumption) ?_) | (refine E_gdnT (by assumption) ?_) | (refine E_gdnF (by assumption) ?_) | (refine E_pickT (by assumption) ?_) | (refine E_pickF (by assumption) ?_) | (refine E_ifT (by decide) ?_) | (refine E_ifF (by decide) ?_) | (refine E_gdT (by decide) ?_) | (refine E_gdF (by decide) ?_) | (refine E_gdnT (by decide) ?_) | (refine E_gdnF (by decide) ?_) | (refine E_pickT (by decide) ?_) | (refine E_pickF (by decide) ?_) | (refine E_addI (by omega) (by omega) ?_) | (refine E_subI (by omega) (by omega) ?_) | (refine E_mulI (by omega) (by omega) ?_)))
    refine E_ddel (κ := Int) rfl key_mapIB ?_
    refine E_find (a := osl 5 1 pv 128 (bcs (pad bs))) (by repeat (first | exact Find.here | apply Find.there)) ?_
    refine E_find (a := ros L) (by repeat (first | exact Find.here | apply Find.there)) (E_perm (List.Perm.swap ..) (osl_ros (pad_length hbs).symm ?_))
    have hr' := (hr.sub (L' := (pv, pad bs) :: L) (fun p hp => List.mem_cons_of_mem _ hp)).clean (s' := ⟨pad bs, none⟩) (v := pv) hj rfl (pad_length hbs) (List.mem_cons_self ..) (by assumption)
    have e2 : (vs ++ sp).set (0 + (j : Int).toNat * 1) pv = vs.set j pv ++ sp := by
      rw [List.set_append_left _ _ (by simp; omega)]; simp
    rw [e2]
    have e : D.setS j (fun _ => ⟨pad bs, none⟩) = { D with S := D.S.set j ⟨pad bs, none⟩ } := by
      unfold Dk.setS; rw [modify_set _ hs]
    rw [Int.toNat_natCast, e] at h
    exact E_same (by repeat (first | exact Same.refl | (refine Same.cons (by repeat (first | exact Find.here | apply Find.there)) ?_) | (refine Same.drop ?_))) (E_disks (H := H) hr' (by simpa using hle) (by simpa using hsl) (by simp) rfl rfl rfl (b := b) (m := m) h)
  by_cases hi : i < 0
  · (repeat (first | (refine E_ld ?_) | (refine E_fad0 ?_) | (refine E_fad ?_) | (refine E_nc ?_) | (refine E_tt ?_) | (refine E_ff ?_) | (refine E_st ?_) | (refine E_len ?_) | (refine E_lenS ?_) | (refine E_box fun _ => ?_) | (refine E_eql ?_) | (refine E_neq ?_) | (refine E_lss ?_) | (refine E_leq ?_) | (refine E_gtr ?_) | (refine E_geq ?_) | (refine E_ext ?_) | (refine E_prt ?_) | (refine E_mx ?_) | (refine E_mn ?_) | (refine E_cap ?_) | (refine E_gdu ?_) | (refine E_fa fun _ => ?_) | (refine E_dr ?_) | (refine E_nc_f ?_) | (refine E_nc_i ?_) | (refine E_not ?_) | (refine E_str1 ?_) | (refine E_rck0 ?_) | (refine E_gff ?_) | (refine E_gtt ?_) | (refine E_gft ?_) | (refine E_gtf ?_) | (refine E_pff ?_) | (refine E_ptt ?_) | (refine E_ifT (by assumption) ?_) | (refine E_ifF (by assumption) ?_) | (refine E_gdT (by assumption) ?_) | (refine E_gdF (by assumption) ?_) | (refine E_gdnT (by assumption) ?_) | (refine E_gdnF (by assumption) ?_) | (refine E_pickT (by assumption) ?_) | (refine E_pickF (by assumption) ?_) | (refine E_ifT (by decide) ?_) | (refine E_ifF (by decide) ?_) | (refine E_gdT (by decide) ?_) | (refine E_gdF (by decide) ?_) | (refine E_gdnT (by decide) ?_) | (refine E_gdnF (by decide) ?_) | (refine E_pickT (by decide) ?_) | (refine E_pickF (by decide) ?_) | (refine E_addI (by omega) (by omega) ?_) | (refine E_subI (by omega) (by omega) ?_) | (refine E_mulI (by omega) (by omega) ?_)))
    simp only [if_pos (show D.out i from .inl hi)] at h
    exact E_disks hr hle hsl rfl rfl rfl rfl h
  · (repeat (first | (refine E_ld ?_) | (refine E_fad0 ?_) | (refine E_fad ?_) | (refine E_nc ?_) | (refine E_tt ?_) | (refine E_ff ?_) | (refine E_st ?_) | (refine E_len ?_) | (refine E_lenS ?_) | (refine E_box fun _ => ?_) | (refine E_eql ?_) | (refine E_neq ?_) | (refine E_lss ?_) | (refine E_leq ?_) | (refine E_gtr ?_) | (refine E_geq ?_) | (refine E_ext ?_) | (refine E_prt ?_) | (refine E_mx ?_) | (refine E_mn ?_) | (refine E_cap ?_) | (refine E_gdu ?_) | (refine E_fa fun _ => ?_) | (refine E_dr ?_) | (refine E_nc_f ?_) | (refine E_nc_i ?_) | (refine E_not ?_) | (refine E_str1 ?_) | (refine E_rck0 ?_) | (refine E_gff ?_) | (refine E_gtt ?_) | (refine E_gft ?_) | (refine E_gtf ?_) | (refine E_pff ?_) | (refine E_ptt ?_) | (refine E_ifT (by assumption) ?_) | (refine E_ifF (by assumption) ?_) | (refine E_gdT (by assumption) ?_) | (refine E_gdF (by assumption) ?_) | (refine E_gdnT (by assumption) ?_) | (refine E_gdnF (by assumption) ?_) | (refine E_pickT (by assumption) ?_) | (refine E_pickF (by assumption) ?_) | (refine E_ifT (by decide) ?_) | (refine E_ifF (by decide) ?_) | (refine E_gdT (by decide) ?_) | (refine E_gdF (by decide) ?_) | (refine E_gdnT (by decide) ?_) | (refine E_gdnF (by decide) ?_) | (refine E_pickT (by decide) ?_) | (refine E_pickF (by decide) ?_) | (refine E_addI (by omega) (by omega) ?_) | (refine E_subI (by omega) (by omega) ?_) | (refine E_mulI (by omega) (by omega) ?_)))
    refine E_if (fun hc => ?_) (fun hc => ?_)
    · simp only [if_pos (show D.out i from .inr hc)] at h
      exact E_disks hr hle hsl rfl rfl rfl rfl h
    · exact go (fun ho => by unfold Dk.out at ho; omega)
end Go.Proofs.YtmbfmkiagdhcoaaDoor.Disk

/-
  Crash.
-/
namespace Go.Proofs.YtmbfmkiagdhcoaaDoor.Disk
open Go Go.SL Go.Proofs Go.Proofs.YtmbfmkiagdhcoaaDoor.Sh
attribute [local irreducible] S.pick S.ld S.ldN S.st S.box S.nc S.fad S.ixS S.ixA S.chr S.prt S.ext S.bin S.sh S.sbin S.beq S.neg1 S.com1 S.not1 S.cvt S.str1 S.lenS S.len S.cap S.lenM S.mx S.mn S.mkM S.cond S.gd S.fa S.dr S.rck S.join S.loop S.cvv S.eqv S.slc S.slcS S.b2s S.lk V U CF Gives E cel mpb osl ros dct dit itr lpo dfo
attribute [local irreducible] disk
variable {B : World} {H : List Asrt} {K : Value → WT}
theorem sec_len {c : Cr} {k : Nat} {s : Sec} (h1 : s.sure.length = 128) (h2 : ∀ b, s.last = some b → b.length = 128) : (c.sec k s).sure.length = 128 := by
  have hn : s.now.length = 128 := by
    unfold Sec.now
    cases hl : s.last with
    | none => simpa using h1
    | some b => simpa using h2 b hl
  unfold Cr.sec Cr.one
  simp only
  split
  · simp; omega
  · split <;> assumption
theorem crash {a : Nat} {D : Dk} {c : Cr} {kv' : Value} [hf : Rx B H kv' c.keep.length (bools c.keep)] [hck : CellI kv'] (h : E B (disk a (D.crash c) :: H) (K (.tuple #[]))) :
    E B (disk a D :: H) (CF Tryd.prog 14 [ptr a, .agg #[kv', I c.torn, I c.at_]] K) := by
  refine E_mono (W := s14 _ _ K) ?_ fun _ => c14
  unfold s14
  (repeat (first | (refine E_ld ?_) | (refine E_fad0 ?_) | (refine E_fad ?_) | (refine E_nc ?_) | (refine E_tt ?_) | (refine E_ff ?_) | (refine E_st ?_) | (refine E_len ?_) | (refine E_lenS ?_) | (refine E_box fun _ => ?_) | (refine E_eql ?_) | (refine E_neq ?_) | (refine E_lss ?_) | (refine E_leq ?_) | (refine E_gtr ?_) | (refine E_geq ?_) | (refine E_ext ?_) | (refine E_prt ?_) | (refine E_mx ?_) | (refine E_mn ?_) | (refine E_cap ?_) | (refine E_gdu ?_) | (refine E_fa fun _ => ?_) | (refine E_dr ?_) | (refine E_nc_f ?_) | (refine E_nc_i ?_) | (refine E_not ?_) | (refine E_str1 ?_) | (refine E_rck0 ?_) | (refine E_gff ?_) | (refine E_gtt ?_) | (refine E_gft ?_) | (refine E_gtf ?_) | (refine E_pff ?_) | (refine E_ptt ?_) | (refine E_ifT (by assumption) ?_) | (refine E_ifF (by assumption) ?_) | (refine E_gdT (by assumption) ?_) | (refine E_gdF (by assumption) ?_) | (refine E_gdnT (by assumption) ?_) | (refine E_gdnF (by assumption) ?_) | (refine E_pickT (by assumption) ?_) | (refine E_pickF (by assumption) ?_) | (refine E_ifT (by decide) ?_) | (refine E_ifF (by decide) ?_) | (refine E_gdT (by decide) ?_) | (refine E_gdF (by decide) ?_) | (refine E_gdnT (by decide) ?_) | (refine E_gdnF (by decide) ?_) | (refine E_pickT (by decide) ?_) | (refine E_pickF (by decide) ?_) | (refine E_addI (by omega) (by omega) ?_) | (refine E_subI (by omega) (by omega) ?_) | (refine E_mulI (by omega) (by omega) ?_)))
  rename_i bc
  refine E_peq u_pDisk ?_
  (repeat (first | (refine E_ld ?_) | (refine E_fad0 ?_) | (refine E_fad ?_) | (refine E_nc ?_) | (refine E_tt ?_) | (refine E_ff ?_) | (refine E_st ?_) | (refine E_len ?_) | (refine E_lenS ?_) | (refine E_box fun _ => ?_) | (refine E_eql ?_) | (refine E_neq ?_) | (refine E_lss ?_) | (refine E_leq ?_) | (refine E_gtr ?_) | (refine E_geq ?_) | (refine E_ext ?_) | (refine E_prt ?_) | (refine E_mx ?_) | (refine E_mn ?_) | (refine E_cap ?_) | (refine E_gdu ?_) | (refine E_fa fun _ => ?_) | (refine E_dr ?_) | (refine E_nc_f ?_) | (refine E_nc_i ?_) | (refine E_not ?_) | (refine E_str1 ?_) | (refine E_rck0 ?_) | (refine E_gff ?_) | (refine E_gtt ?_) | (refine E_gft ?_) | (refine E_gtf ?_) | (refine E_pff ?_) | (refine E_ptt ?_) | (refine E_ifT (by assumption) ?_) | (refine E_ifF (by assumption) ?_) | (refine E_gdT (by assumption) ?_) | (refine E_gdF (by assumption) ?_) | (refine E_gdnT (by assumption) ?_) | (refine E_gdnF (by assumption) ?_) | (refine E_pickT (by assumption) ?_) | (refine E_pickF (by assumption) ?_) | (refine E_ifT (by decide) ?_) | (refine E_ifF (by decide) ?_) | (refine E_gdT (by decide) ?_) | (refine E_gdF (by decide) ?_) | (refine E_gdnT (by decide) ?_) | (refine E_gdnF (by decide) ?_) | (refine E_pickT (by decide) ?_) | (refine E_pickF (by decide) ?_) | (refine E_addI (by omega) (by omega) ?_) | (refine E_subI (by omega) (by omega) ?_) | (refine E_mulI (by omega) (by omega) ?_)))
  refine E_find (a := disk a D) (by repeat (first | exact Find.here | apply Find.there)) (E_dkok fun hok => ?_)
  have h2 := hok.n2
  refine dirty fun sv => ?_
  have hdl : D.dirty.length ≤ 4096 := Nat.le_trans dirty_length h2
  refine E_rx_len (v := sv) ?_
  refine E_loop (σ := Nat × List Sec) (fun s => dirtyFrom s.2 0 = D.dirty.drop s.1 ∧ s.1 ≤ D.dirty.length ∧ crashG c.sec s.2 s.1 = crashG c.sec D.S 0)
    (fun s => [ptr a, ptr bc, sv, I D.dirty.length, I s.1]) (fun s => disk a { D with S := s.2 } :: osl 3 1 sv D.dirty.length (ints D.dirty) :: cel true bc 42 [kv', I c.torn, I c.at_] :: H) (fun s => D.dirty.length - s.1) (0, D.S) (fun s => rfl) rfl
    ⟨rfl, Nat.zero_le _, rfl⟩ (fun W hW => E_same (by repeat (first | exact Same.refl | (refine Same.cons (by repeat (first | exact Find.here | apply Find.there)) ?_) | (refine Same.drop ?_))) hW) ?_
  rintro ⟨j, SS⟩ K0 ⟨hφ1, hφ2, hφ3⟩ hk
  simp only at hφ1 hφ2 hφ3 hk ⊢
  refine E_fa fun _ => ?_
  (repeat (first | (refine E_ld ?_) | (refine E_fad0 ?_) | (refine E_fad ?_) | (refine E_nc ?_) | (refine E_tt ?_) | (refine E_ff ?_) | (refine E_st ?_) | (refine E_len ?_) | (refine E_lenS ?_) | (refine E_box fun _ => ?_) | (refine E_eql ?_) | (refine E_neq ?_) | (refine E_lss ?_) | (refine E_leq ?_) | (refine E_gtr ?_) | (refine E_geq ?_) | (refine E_ext ?_) | (refine E_prt ?_) | (refine E_mx ?_) | (refine E_mn ?_) | (refine E_cap ?_) | (refine E_gdu ?_) | (refine E_fa fun _ => ?_) | (refine E_dr ?_) | (refine E_nc_f ?_) | (refine E_nc_i ?_) | (refine E_not ?_) | (refine E_str1 ?_) | (refine E_rck0 ?_) | (refine E_gff ?_) | (refine E_gtt ?_) | (refine E_gft ?_) | (refine E_gtf ?_) | (refine E_pff ?_) | (refine E_ptt ?_) | (refine E_ifT (by assumption) ?_) | (refine E_ifF (by assumption) ?_) | (refine E_gdT (by assumption) ?_) | (refine E_gdF (by assumption) ?_) | (refine E_gdnT (by assumption) ?_) | (refine E_gdnF (by assumption) ?_) | (refine E_pickT (by assumption) ?_) | (refine E_pickF (by assumption) ?_) | (refine E_ifT (by decide) ?_) | (refine E_ifF (by decide) ?_) | (refine E_gdT (by decide) ?_) | (refine E_gdF (by decide) ?_) | (refine E_gdnT (by decide) ?_) | (refine E_gdnF (by decide) ?_) | (refine E_pickT (by decide) ?_) | (refine E_pickF (by decide) ?_) | (refine E_addI (by omega) (by omega) ?_) | (refine E_subI (by omega) (by omega) ?_) | (refine E_mulI (by omega) (by omega) ?_)))
  refine E_if (fun hc => ?_) (fun hc => ?_)
  · have hj : j < D.dirty.length := by omega
    refine E_rxn (v := sv) (by simp; omega) (fun b1 o1 cap1 hv1 hle1 => ?_)
    subst hv1
    refine E_ixS (by omega) (by omega) ?_
    have hdrop := List.drop_eq_getElem_cons hj
    rw [hdrop] at hφ1
    obtain ⟨i, s, hi, hs, hl, hset, hcr⟩ := dirty_head hφ1
    simp only [Nat.zero_add] at hi
    refine E_rx_ld (m := D.dirty.length) (cap := cap1) (u := I i) ?_ ?_
    · simp [ints, hj, hi]
    refine E_find (a := disk a { D with S := SS }) (by repeat (first | exact Find.here | apply Find.there)) (E_disk fun b cap m vs sp kv L hr hle hsl => ?_)
    simp only at hr hle hsl ⊢
    refine E_join0 ?_
    (repeat (first | (refine E_ld ?_) | (refine E_fad0 ?_) | (refine E_fad ?_) | (refine E_nc ?_) | (refine E_tt ?_) | (refine E_ff ?_) | (refine E_st ?_) | (refine E_len ?_) | (refine E_lenS ?_) | (refine E_box fun _ => ?_) | (refine E_eql ?_) | (refine E_neq ?_) | (refine E_lss ?_) | (refine E_leq ?_) | (refine E_gtr ?_) | (refine E_geq ?_) | (refine E_ext ?_) | (refine E_prt ?_) | (refine E_mx ?_) | (refine E_mn ?_) | (refine E_cap ?_) | (refine E_gdu ?_) | (refine E_fa fun _ => ?_) | (refine E_dr ?_) | (refine E_nc_f ?_) | (refine E_nc_i ?_) | (refine E_not ?_) | (refine E_str1 ?_) | (refine E_rck0 ?_) | (refine E_gff ?_) | (refine E_gtt ?_) | (refine E_gft ?_) | (refine E_gtf ?_) | (refine E_pff ?_) | (refine E_ptt ?_) | (refine E_ifT (by assumption) ?_) | (refine E_ifF (by assumption) ?_) | (refine E_gdT (by assumption) ?_) | (refine E_gdF (by assumption) ?_) | (refine E_gdnT (by assumption) ?_) | (refine E_gdnF (by assumption) ?_) | (refine E_pickT (by assumption) ?_) | (refine E_pickF (by assumption) ?_) | (refine E_ifT (by decide) ?_) | (refine E_ifF (by decide) ?_) | (refine E_gdT (by decide) ?_) | (refine E_gdF (by decide) ?_) | (refine E_gdnT (by decide) ?_) | (refine E_gdnF (by decide) ?_) | (refine E_pickT (by decide) ?_) | (refine E_pickF (by decide) ?_) | (refine E_addI (by omega) (by omega) ?_) | (refine E_subI (by omega) (by omega) ?_) | (refine E_mulI (by omega) (by omega) ?_)))
    obtain ⟨bs, hbs⟩ := Option.isSome_iff_exists.1 hl
    obtain ⟨v, hv, hcv, hvL⟩ := hr.las i s bs hs hbs
    refine E_dlk1 (κ := Int) hv ?_
    simp only
    refine E_join0 ?_
    (repeat (first | (refine E_ld ?_) | (refine E_fad0 ?_) | (refine E_fad ?_) | (refine E_nc ?_) | (refine E_tt ?_) | (refine E_ff ?_) | (refine E_st ?_) | (refine E_len ?_) | (refine E_lenS ?_) | (refine E_box fun _ => ?_) | (refine E_eql ?_) | (refine E_neq ?_) | (refine E_lss ?_) | (refine E_leq ?_) | (refine E_gtr ?_) | (refine E_geq ?_) | (refine E_ext ?_) | (refine E_prt ?_) | (refine E_mx ?_) | (refine E_mn ?_) | (refine E_cap ?_) | (refine E_gdu ?_) | (refine E_fa fun _ => ?_) | (refine E_dr ?_) | (refine E_nc_f ?_) | (refine E_nc_i ?_) | (refine E_not ?_) | (refine E_str1 ?_) | (refine E_rck0 ?_) | (refine E_gff ?_) | (refine E_gtt ?_) | (refine E_gft ?_) | (refine E_gtf ?_) | (refine E_pff ?_) | (refine E_ptt ?_) | (refine E_ifT (by assumption) ?_) | (refine E_ifF (by assumption) ?_) | (refine E_gdT (by assumption) ?_) | (refine E_gdF (by assumption) ?_) | (refine E_gdnT (by assumption) ?_) | (refine E_gdnF (by assumption) ?_) | (refine E_pickT (by assumption) ?_) | (refine E_pickF (by assumption) ?_) | (refine E_ifT (by decide) ?_) | (refine E_ifF (by decide) ?_) | (refine E_gdT (by decide) ?_) | (refine E_gdF (by decide) ?_) | (refine E_gdnT (by decide) ?_) | (refine E_gdnF (by decide) ?_) | (refine E_pickT (by decide) ?_) | (refine E_pickF (by decide) ?_) | (refine E_addI (by omega) (by omega) ?_) | (refine E_subI (by omega) (by omega) ?_) | (refine E_mulI (by omega) (by omega) ?_)))
    obtain ⟨u, hu, hcu, huL⟩ := hr.sur i s hs
    have hlt : i < SS.length := (List.getElem?_eq_some_iff.1 hs).1
    have hlen := hr.len
    simp only at hlen
    have h128 := hr.ok.len s (List.mem_of_getElem? hs)
    have hnow : s.now = bs := by simp [Sec.now, hbs]
    have fin : ∀ v' L', CellI v' → (v', (c.sec j s).sure) ∈ L' → (∀ p ∈ L, p ∈ L') →
        E B (cel true a 52 [.slice (some ⟨b, 0, none⟩) SS.length cap, .map (some m), I D.trip, .bool D.down, I D.life] :: cel true b 22 (vs.set i v' ++ sp) :: dct kI true m kv :: ros L' ::
          osl 3 1 (.slice (some ⟨b1, o1, none⟩) D.dirty.length cap1) D.dirty.length (ints D.dirty) :: cel true bc 42 [kv', I c.torn, I c.at_] :: H)
        (V Tryd.prog (Builtin.delete_ #[50, 3] 0 #[.map (some m), I i]) fun _ =>
          S.bin .add (I j) (I 1) fun v85 => K0 (ptr a) (ptr bc) (.slice (some ⟨b1, o1, none⟩) D.dirty.length cap1) (I D.dirty.length) v85) := by
      intro v' L' hc' hm hsub
      refine E_ddel (κ := Int) rfl key_mapIB ?_
      (repeat (first | (refine E_ld ?_) | (refine E_fad0 ?_) | (refine E_fad ?_) | (refine E_nc ?_) | (refine E_tt ?_) | (refine E_ff ?_) | (refine E_st ?_) | (refine E_len ?_) | (refine E_lenS ?_) | (refine E_box fun _ => ?_) | (refine E_eql ?_) | (refine E_neq ?_) | (refine E_lss ?_) | (refine E_leq ?_) | (refine E_gtr ?_) | (refine E_geq ?_) | (refine E_ext ?_) | (refine E_prt ?_) | (refine E_mx ?_) | (refine E_mn ?_) | (refine E_cap ?_) | (refine E_gdu ?_) | (refine E_fa fun _ => ?_) | (refine E_dr ?_) | (refine E_nc_f ?_) | (refine E_nc_i ?_) | (refine E_not ?_) | (refine E_str1 ?_) | (refine E_rck0 ?_) | (refine E_gff ?_) | (refine E_gtt ?_) | (refine E_gft ?_) | (refine E_gtf ?_) | (refine E_pff ?_) | (refine E_ptt ?_) | (refine E_ifT (by assumption) ?_) | (refine E_ifF (by assumption) ?_) | (refine E_gdT (by assumption) ?_) | (refine E_gdF (by assumption) ?_) | (refine E_gdnT (by assumption) ?_) | (refine E_gdnF (by assumption) ?_) | (refine E_pickT (by assumption) ?_) | (refine E_pickF (by assumption) ?_) | (refine E_ifT (by decide) ?_) | (refine E_ifF (by decide) ?_) | (refine E_gdT (by decide) ?_) | (refine E_gdF (by decide) ?_) | (refine E_gdnT (by decide) ?_) | (refine E_gdnF (by decide) ?_) | (refine E_pickT (by decide) ?_) | (refine E_pickF (by decide) ?_) | (refine E_addI (by omega) (by omega) ?_) | (refine E_subI (by omega) (by omega) ?_) | (refine E_mulI (by omega) (by omega) ?_)))
      have hr' := (hr.sub hsub).clean (s' := c.sec j s) (v := v') hlt rfl (sec_len h128.1 h128.2) hm hc'
      have hk' := hk (j + 1, SS.set i (c.sec j s)) ⟨hset _ rfl, by omega, by rw [← hφ3, hcr c.sec j rfl]⟩ (by simp only; omega)
      exact E_same (by repeat (first | exact Same.refl | (refine Same.cons (by repeat (first | exact Find.here | apply Find.there)) ?_) | (refine Same.drop ?_))) (E_disks (H := osl 3 1 (.slice (some ⟨b1, o1, none⟩) D.dirty.length cap1) D.dirty.length (ints D.dirty) :: cel true bc 42 [kv', I c.torn, I c.at_] :: H) hr' (by simpa using hle) (by simpa using hsl) (by simp) rfl rfl rfl (b := b) (m := m) hk')
    have gate : ∀ R : Value → WT, E B (cel true bc 42 [kv', I c.torn, I c.at_] :: dct kI true m kv :: cel true a 52 [.slice (some ⟨b, 0, none⟩) SS.length cap, .map (some m), I D.trip, .bool D.down, I D.life] :: cel true b 22 (vs ++ sp) :: ros L ::
          osl 3 1 (.slice (some ⟨b1, o1, none⟩) D.dirty.length cap1) D.dirty.length (ints D.dirty) :: H) (R (.bool (decide ((j : Int) = c.torn ∧ 0 ≤ c.at_ ∧ c.at_ ≤ 128)))) →
        E B (dct kI true m kv :: cel true a 52 [.slice (some ⟨b, 0, none⟩) SS.length cap, .map (some m), I D.trip, .bool D.down, I D.life] :: cel true b 22 (vs ++ sp) :: ros L ::
          osl 3 1 (.slice (some ⟨b1, o1, none⟩) D.dirty.length cap1) D.dirty.length (ints D.dirty) :: cel true bc 42 [kv', I c.torn, I c.at_] :: H)
        (S.gd (.bool (decide ((j : Int) = c.torn))) true (fun k => S.fad (ptr bc) 2 k) fun v29 => S.gd (.bool (decide ((j : Int) = c.torn))) true (fun k => S.ld v29 k) fun v30 =>
          S.gd (.bool (decide ((j : Int) = c.torn))) true (fun k => S.bin .geq v30 (I 0) k) fun v31 => S.pick (.bool (decide ((j : Int) = c.torn))) v31 (.bool false) fun v32 =>
          S.gd v32 true (fun k => S.fad (ptr bc) 2 k) fun v34 => S.gd v32 true (fun k => S.ld v34 k) fun v35 => S.gd v32 true (fun k => S.bin .leq v35 (I 128) k) fun v36 =>
          S.pick v32 v36 (.bool false) R) := by
      intro R hR
      have hR' : ∀ q : Bool, q = decide ((j : Int) = c.torn ∧ 0 ≤ c.at_ ∧ c.at_ ≤ 128) → E B (dct kI true m kv :: cel true a 52 [.slice (some ⟨b, 0, none⟩) SS.length cap, .map (some m), I D.trip, .bool D.down, I D.life] :: cel true b 22 (vs ++ sp) :: ros L ::
          osl 3 1 (.slice (some ⟨b1, o1, none⟩) D.dirty.length cap1) D.dirty.length (ints D.dirty) :: cel true bc 42 [kv', I c.torn, I c.at_] :: H) (R (.bool q)) := fun q hq => by subst hq; exact E_same (by repeat (first | exact Same.refl | (refine Same.cons (by repeat (first | exact Find.here | apply Find.there)) ?_) | (refine Same.drop ?_))) hR
      by_cases h1 : (j : Int) = c.torn
      · by_cases h2 : 0 ≤ c.at_
        · (repeat (first | (refine E_ld ?_) | (refine E_fad0 ?_) | (refine E_fad ?_) | (refine E_nc ?_) | (refine E_tt ?_) | (refine E_ff ?_) | (refine E_st ?_) | (refine E_len ?_) | (refine E_lenS ?_) | (refine E_box fun _ => ?_) | (refine E_eql ?_) | (refine E_neq ?_) | (refine E_lss ?_) | (refine E_leq ?_) | (refine E_gtr ?_) | (refine E_geq ?_) | (refine E_ext ?_) | (refine E_prt ?_) | (refine E_mx ?_) | (refine E_mn ?_) | (refine E_cap ?_) | (refine E_gdu ?_) | (refine E_fa fun _ => ?_) | (refine E_dr ?_) | (refine E_nc_f ?_) | (refine E_nc_i ?_) | (refine E_not ?_) | (refine E_str1 ?_) | (refine E_rck0 ?_) | (refine E_gff ?_) | (refine E_gtt ?_) | (refine E_gft ?_) | (refine E_gtf ?_) | (refine E_pff ?_) | (refine E_ptt ?_) | (refine E_ifT (by assumption) ?_) | (refine E_ifF (by assumption) ?_) | (refine E_gdT (by assumption) ?_) | (refine E_gdF (by assumption) ?_) | (refine E_gdnT (by assumption) ?_) | (refine E_gdnF (by assumption) ?_) | (refine E_pickT (by assumption) ?_) | (refine E_pickF (by assumption) ?_) | (refine E_ifT (by decide) ?_) | (refine E_ifF (by decide) ?_) | (refine E_gdT (by decide) ?_) | (refine E_gdF (by decide) ?_) | (refine E_gdnT (by decide) ?_) | (refine E_gdnF (by decide) ?_) | (refine E_pickT (by decide) ?_) | (refine E_pickF (by decide) ?_) | (refine E_addI (by omega) (by omega) ?_) | (refine E_subI (by omega) (by omega) ?_) | (refine E_mulI (by omega) (by omega) ?_)))
          exact hR' _ (by simp [h1, h2])
        · (repeat (first | (refine E_ld ?_) | (refine E_fad0 ?_) | (refine E_fad ?_) | (refine E_nc ?_) | (refine E_tt ?_) | (refine E_ff ?_) | (refine E_st ?_) | (refine E_len ?_) | (refine E_lenS ?_) | (refine E_box fun _ => ?_) | (refine E_eql ?_) | (refine E_neq ?_) | (refine E_lss ?_) | (refine E_leq ?_) | (refine E_gtr ?_) | (refine E_geq ?_) | (refine E_ext ?_) | (refine E_prt ?_) | (refine E_mx ?_) | (refine E_mn ?_) | (refine E_cap ?_) | (refine E_gdu ?_) | (refine E_fa fun _ => ?_) | (refine E_dr ?_) | (refine E_nc_f ?_) | (refine E_nc_i ?_) | (refine E_not ?_) | (refine E_str1 ?_) | (refine E_rck0 ?_) | (refine E_gff ?_) | (refine E_gtt ?_) | (refine E_gft ?_) | (refine E_gtf ?_) | (refine E_pff ?_) | (refine E_ptt ?_) | (refine E_ifT (by assumption) ?_) | (refine E_ifF (by assumption) ?_) | (refine E_gdT (by assumption) ?_) | (refine E_gdF (by assumption) ?_) | (refine E_gdnT (by assumption) ?_) | (refine E_gdnF (by assumption) ?_) | (refine E_pickT (by assumption) ?_) | (refine E_pickF (by assumption) ?_) | (refine E_ifT (by decide) ?_) | (refine E_ifF (by decide) ?_) | (refine E_gdT (by decide) ?_) | (refine E_gdF (by decide) ?_) | (refine E_gdnT (by decide) ?_) | (refine E_gdnF (by decide) ?_) | (refine E_pickT (by decide) ?_) | (refine E_pickF (by decide) ?_) | (refine E_addI (by omega) (by omega) ?_) | (refine E_subI (by omega) (by omega) ?_) | (refine E_mulI (by omega) (by omega) ?_)))
          exact hR' _ (by simp [h2])
      · (repeat (first | (refine E_ld ?_) | (refine E_fad0 ?_) | (refine E_fad ?_) | (refine E_nc ?_) | (refine E_tt ?_) | (refine E_ff ?_) | (refine E_st ?_) | (refine E_len ?_) | (refine E_lenS ?_) | (refine E_box fun _ => ?_) | (refine E_eql ?_) | (refine E_neq ?_) | (refine E_lss ?_) | (refine E_leq ?_) | (refine E_gtr ?_) | (refine E_geq ?_) | (refine E_ext ?_) | (refine E_prt ?_) | (refine E_mx ?_) | (refine E_mn ?_) | (refine E_cap ?_) | (refine E_gdu ?_) | (refine E_fa fun _ => ?_) | (refine E_dr ?_) | (refine E_nc_f ?_) | (refine E_nc_i ?_) | (refine E_not ?_) | (refine E_str1 ?_) | (refine E_rck0 ?_) | (refine E_gff ?_) | (refine E_gtt ?_) | (refine E_gft ?_) | (refine E_gtf ?_) | (refine E_pff ?_) | (refine E_ptt ?_) | (refine E_ifT (by assumption) ?_) | (refine E_ifF (by assumption) ?_) | (refine E_gdT (by assumption) ?_) | (refine E_gdF (by assumption) ?_) | (refine E_gdnT (by assumption) ?_) | (refine E_gdnF (by assumption) ?_) | (refine E_pickT (by assumption) ?_) | (refine E_pickF (by assumption) ?_) | (refine E_ifT (by decide) ?_) | (refine E_ifF (by decide) ?_) | (refine E_gdT (by decide) ?_) | (refine E_gdF (by decide) ?_) | (refine E_gdnT (by decide) ?_) | (refine E_gdnF (by decide) ?_) | (refine E_pickT (by decide) ?_) | (refine E_pickF (by decide) ?_) | (refine E_addI (by omega) (by omega) ?_) | (refine E_subI (by omega) (by omega) ?_) | (refine E_mulI (by omega) (by omega) ?_)))
        exact hR' _ (by simp [h1])
    refine gate _ ?_
    refine E_fa fun _ => ?_
    refine E_if (fun hT => ?_) (fun hT => ?_)
    · have hone : (c.sec j s).sure = bs.take c.at_.toNat ++ s.sure.drop c.at_.toNat := by
        unfold Cr.sec Cr.one; simp only [if_pos hT, hnow]
      rw [hone] at fin
      (repeat (first | (refine E_ld ?_) | (refine E_fad0 ?_) | (refine E_fad ?_) | (refine E_nc ?_) | (refine E_tt ?_) | (refine E_ff ?_) | (refine E_st ?_) | (refine E_len ?_) | (refine E_lenS ?_) | (refine E_box fun _ => ?_) | (refine E_eql ?_) | (refine E_neq ?_) | (refine E_lss ?_) | (refine E_leq ?_) | (refine E_gtr ?_) | (refine E_geq ?_) | (refine E_ext ?_) | (refine E_prt ?_) | (refine E_mx ?_) | (refine E_mn ?_) | (refine E_cap ?_) | (refine E_gdu ?_) | (refine E_fa fun _ => ?_) | (refine E_dr ?_) | (refine E_nc_f ?_) | (refine E_nc_i ?_) | (refine E_not ?_) | (refine E_str1 ?_) | (refine E_rck0 ?_) | (refine E_gff ?_) | (refine E_gtt ?_) | (refine E_gft ?_) | (refine E_gtf ?_) | (refine E_pff ?_) | (refine E_ptt ?_) | (refine E_ifT (by assumption) ?_) | (refine E_ifF (by assumption) ?_) | (refine E_gdT (by assumption) ?_) | (refine E_gdF (by assumption) ?_) | (refine E_gdnT (by assumption) ?_) | (refine E_gdnF (by assumption) ?_) | (refine E_pickT (by assumption) ?_) | (refine E_pickF (by assumption) ?_) | (refine E_ifT (by decide) ?_) | (refine E_ifF (by decide) ?_) | (refine E_gdT (by decide) ?_) | (refine E_gdF (by decide) ?_) | (refine E_gdnT (by decide) ?_) | (refine E_gdnF (by decide) ?_) | (refine E_pickT (by decide) ?_) | (refine E_pickF (by decide) ?_) | (refine E_addI (by omega) (by omega) ?_) | (refine E_subI (by omega) (by omega) ?_) | (refine E_mulI (by omega) (by omega) ?_)))
      have hb128 : bs.length = 128 := h128.2 bs hbs
      have hin : InL L v bs := ⟨hvL⟩
      have hin' : InL L u s.sure := ⟨huL⟩
      have hb1 : S.bound (some (I c.at_)) bs.length = some c.at_.toNat := by simp [S.bound, hT.2.1]
      refine E_slcR (v := v) (bs := bs) (l := 0) hb1 rfl (by omega) (by omega) fun v1 _ _ => ?_
      (repeat (first | (refine E_ld ?_) | (refine E_fad0 ?_) | (refine E_fad ?_) | (refine E_nc ?_) | (refine E_tt ?_) | (refine E_ff ?_) | (refine E_st ?_) | (refine E_len ?_) | (refine E_lenS ?_) | (refine E_box fun _ => ?_) | (refine E_eql ?_) | (refine E_neq ?_) | (refine E_lss ?_) | (refine E_leq ?_) | (refine E_gtr ?_) | (refine E_geq ?_) | (refine E_ext ?_) | (refine E_prt ?_) | (refine E_mx ?_) | (refine E_mn ?_) | (refine E_cap ?_) | (refine E_gdu ?_) | (refine E_fa fun _ => ?_) | (refine E_dr ?_) | (refine E_nc_f ?_) | (refine E_nc_i ?_) | (refine E_not ?_) | (refine E_str1 ?_) | (refine E_rck0 ?_) | (refine E_gff ?_) | (refine E_gtt ?_) | (refine E_gft ?_) | (refine E_gtf ?_) | (refine E_pff ?_) | (refine E_ptt ?_) | (refine E_ifT (by assumption) ?_) | (refine E_ifF (by assumption) ?_) | (refine E_gdT (by assumption) ?_) | (refine E_gdF (by assumption) ?_) | (refine E_gdnT (by assumption) ?_) | (refine E_gdnF (by assumption) ?_) | (refine E_pickT (by assumption) ?_) | (refine E_pickF (by assumption) ?_) | (refine E_ifT (by decide) ?_) | (refine E_ifF (by decide) ?_) | (refine E_gdT (by decide) ?_) | (refine E_gdF (by decide) ?_) | (refine E_gdnT (by decide) ?_) | (refine E_gdnF (by decide) ?_) | (refine E_pickT (by decide) ?_) | (refine E_pickF (by decide) ?_) | (refine E_addI (by omega) (by omega) ?_) | (refine E_subI (by omega) (by omega) ?_) | (refine E_mulI (by omega) (by omega) ?_)))
      refine E_ixS (by omega) (by omega) ?_
      have hget : (vs ++ sp)[0 + (i : Int).toNat * 1]? = some u := by rw [List.getElem?_append_left (by simp; omega)]; simpa using hu
      refine E_ld' (v := u) (l := vs ++ sp) hget ?_
      (repeat (first | (refine E_ld ?_) | (refine E_fad0 ?_) | (refine E_fad ?_) | (refine E_nc ?_) | (refine E_tt ?_) | (refine E_ff ?_) | (refine E_st ?_) | (refine E_len ?_) | (refine E_lenS ?_) | (refine E_box fun _ => ?_) | (refine E_eql ?_) | (refine E_neq ?_) | (refine E_lss ?_) | (refine E_leq ?_) | (refine E_gtr ?_) | (refine E_geq ?_) | (refine E_ext ?_) | (refine E_prt ?_) | (refine E_mx ?_) | (refine E_mn ?_) | (refine E_cap ?_) | (refine E_gdu ?_) | (refine E_fa fun _ => ?_) | (refine E_dr ?_) | (refine E_nc_f ?_) | (refine E_nc_i ?_) | (refine E_not ?_) | (refine E_str1 ?_) | (refine E_rck0 ?_) | (refine E_gff ?_) | (refine E_gtt ?_) | (refine E_gft ?_) | (refine E_gtf ?_) | (refine E_pff ?_) | (refine E_ptt ?_) | (refine E_ifT (by assumption) ?_) | (refine E_ifF (by assumption) ?_) | (refine E_gdT (by assumption) ?_) | (refine E_gdF (by assumption) ?_) | (refine E_gdnT (by assumption) ?_) | (refine E_gdnF (by assumption) ?_) | (refine E_pickT (by assumption) ?_) | (refine E_pickF (by assumption) ?_) | (refine E_ifT (by decide) ?_) | (refine E_ifF (by decide) ?_) | (refine E_gdT (by decide) ?_) | (refine E_gdF (by decide) ?_) | (refine E_gdnT (by decide) ?_) | (refine E_gdnF (by decide) ?_) | (refine E_pickT (by decide) ?_) | (refine E_pickF (by decide) ?_) | (refine E_addI (by omega) (by omega) ?_) | (refine E_subI (by omega) (by omega) ?_) | (refine E_mulI (by omega) (by omega) ?_)))
      have hb2 : S.bound (some (I c.at_)) 0 = some c.at_.toNat := by simp [S.bound, hT.2.1]
      refine E_slcR (v := u) (bs := s.sure) (hi := none) (hh := s.sure.length) rfl hb2 (by omega) (by omega) fun v2 _ _ => ?_
      refine clone (v := v1) (by simp; omega) fun v3 _ => ?_
      (repeat (refine E_rck1 (by first | exact E_ld (E_fact rfl) | exact E_ld' (by assumption) (E_fact rfl) | exact E_b2sR (E_fact rfl) | exact E_gdnF (by assumption) (E_ld (E_fact rfl)) | exact E_gdT (by assumption) (E_ld (E_fact rfl)) | exact E_gtf (E_ld (E_fact rfl)) | exact E_gft (E_ld (E_fact rfl))) ?_)); (first | (refine E_rck0 ?_) | skip)
      have hl1 : ((bs.drop 0).take (c.at_.toNat - 0)).length = c.at_.toNat := by simp; omega
      have hl2 : ((s.sure.drop c.at_.toNat).take (s.sure.length - c.at_.toNat)).length = 128 - c.at_.toNat := by simp; omega
      refine E_app (m := ((s.sure.drop c.at_.toNat).take (s.sure.length - c.at_.toNat)).length) (ys := bcs ((s.sure.drop c.at_.toNat).take (s.sure.length - c.at_.toNat))) u_bytes elt_byte (rd_rb u_bytes) (by omega) (by omega) fun v4 _ => ?_
      have e1 : bcs ((bs.drop 0).take (c.at_.toNat - 0)) ++ bcs ((s.sure.drop c.at_.toNat).take (s.sure.length - c.at_.toNat)) = bcs (bs.take c.at_.toNat ++ s.sure.drop c.at_.toNat) := by
        have : (s.sure.drop c.at_.toNat).take (s.sure.length - c.at_.toNat) = s.sure.drop c.at_.toNat := List.take_of_length_le (by simp)
        rw [this]; simp [bcs]
      have e2 : ((bs.drop 0).take (c.at_.toNat - 0)).length + ((s.sure.drop c.at_.toNat).take (s.sure.length - c.at_.toNat)).length = (bs.take c.at_.toNat ++ s.sure.drop c.at_.toNat).length := by
        rw [hl1, hl2]; simp; omega
      rw [e1, e2]
      (repeat (refine E_rck1 (by first | exact E_ld (E_fact rfl) | exact E_ld' (by assumption) (E_fact rfl) | exact E_b2sR (E_fact rfl) | exact E_gdnF (by assumption) (E_ld (E_fact rfl)) | exact E_gdT (by assumption) (E_ld (E_fact rfl)) | exact E_gtf (E_ld (E_fact rfl)) | exact E_gft (E_ld (E_fact rfl))) ?_)); (first | (refine E_rck0 ?_) | skip)
      refine E_ixS (by omega) (by omega) ?_
      refine E_st' (by simp; omega) ?_
      have e3 : (vs ++ sp).set (0 + (i : Int).toNat * 1) v4 = vs.set i v4 ++ sp := by
        rw [List.set_append_left _ _ (by simp; omega)]; simp
      rw [e3]
      refine E_find (a := osl 5 1 v4 (bs.take c.at_.toNat ++ s.sure.drop c.at_.toNat).length (bcs (bs.take c.at_.toNat ++ s.sure.drop c.at_.toNat))) (by repeat (first | exact Find.here | apply Find.there)) ?_
      refine E_find (a := ros L) (by repeat (first | exact Find.here | apply Find.there)) (E_perm (List.Perm.swap ..) (osl_ros rfl ?_))
      (repeat (first | (refine E_ld ?_) | (refine E_fad0 ?_) | (refine E_fad ?_) | (refine E_nc ?_) | (refine E_tt ?_) | (refine E_ff ?_) | (refine E_st ?_) | (refine E_len ?_) | (refine E_lenS ?_) | (refine E_box fun _ => ?_) | (refine E_eql ?_) | (refine E_neq ?_) | (refine E_lss ?_) | (refine E_leq ?_) | (refine E_gtr ?_) | (refine E_geq ?_) | (refine E_ext ?_) | (refine E_prt ?_) | (refine E_mx ?_) | (refine E_mn ?_) | (refine E_cap ?_) | (refine E_gdu ?_) | (refine E_fa fun _ => ?_) | (refine E_dr ?_) | (refine E_nc_f ?_) | (refine E_nc_i ?_) | (refine E_not ?_) | (refine E_str1 ?_) | (refine E_rck0 ?_) | (refine E_gff ?_) | (refine E_gtt ?_) | (refine E_gft ?_) | (refine E_gtf ?_) | (refine E_pff ?_) | (refine E_ptt ?_) | (refine E_ifT (by assumption) ?_) | (refine E_ifF (by assumption) ?_) | (refine E_gdT (by assumption) ?_) | (refine E_gdF (by assumption) ?_) | (refine E_gdnT (by assumption) ?_) | (refine E_gdnF (by assumption) ?_) | (refine E_pickT (by assumption) ?_) | (refine E_pickF (by assumption) ?_) | (refine E_ifT (by decide) ?_) | (refine E_ifF (by decide) ?_) | (refine E_gdT (by decide) ?_) | (refine E_gdF (by decide) ?_) | (refine E_gdnT (by decide) ?_) | (refine E_gdnF (by decide) ?_) | (refine E_pickT (by decide) ?_) | (refine E_pickF (by decide) ?_) | (refine E_addI (by omega) (by omega) ?_) | (refine E_subI (by omega) (by omega) ?_) | (refine E_mulI (by omega) (by omega) ?_)))
      exact E_same (by repeat (first | exact Same.refl | (refine Same.cons (by repeat (first | exact Find.here | apply Find.there)) ?_) | (refine Same.drop ?_))) (fin v4 ((v4, bs.take c.at_.toNat ++ s.sure.drop c.at_.toNat) :: L) (by assumption) (List.mem_cons_self ..) (fun p hp => List.mem_cons_of_mem _ hp))
    · refine E_join0 ?_
      (repeat (first | (refine E_ld ?_) | (refine E_fad0 ?_) | (refine E_fad ?_) | (refine E_nc ?_) | (refine E_tt ?_) | (refine E_ff ?_) | (refine E_st ?_) | (refine E_len ?_) | (refine E_lenS ?_) | (refine E_box fun _ => ?_) | (refine E_eql ?_) | (refine E_neq ?_) | (refine E_lss ?_) | (refine E_leq ?_) | (refine E_gtr ?_) | (refine E_geq ?_) | (refine E_ext ?_) | (refine E_prt ?_) | (refine E_mx ?_) | (refine E_mn ?_) | (refine E_cap ?_) | (refine E_gdu ?_) | (refine E_fa fun _ => ?_) | (refine E_dr ?_) | (refine E_nc_f ?_) | (refine E_nc_i ?_) | (refine E_not ?_) | (refine E_str1 ?_) | (refine E_rck0 ?_) | (refine E_gff ?_) | (refine E_gtt ?_) | (refine E_gft ?_) | (refine E_gtf ?_) | (refine E_pff ?_) | (refine E_ptt ?_) | (refine E_ifT (by assumption) ?_) | (refine E_ifF (by assumption) ?_) | (refine E_gdT (by assumption) ?_) | (refine E_gdF (by assumption) ?_) | (refine E_gdnT (by assumption) ?_) | (refine E_gdnF (by assumption) ?_) | (refine E_pickT (by assumption) ?_) | (refine E_pickF (by assumption) ?_) | (refine E_ifT (by decide) ?_) | (refine E_ifF (by decide) ?_) | (refine E_gdT (by decide) ?_) | (refine E_gdF (by decide) ?_) | (refine E_gdnT (by decide) ?_) | (refine E_gdnF (by decide) ?_) | (refine E_pickT (by decide) ?_) | (refine E_pickF (by decide) ?_) | (refine E_addI (by omega) (by omega) ?_) | (refine E_subI (by omega) (by omega) ?_) | (refine E_mulI (by omega) (by omega) ?_)))
      refine E_rx_len (v := kv') ?_
      (repeat (first | (refine E_ld ?_) | (refine E_fad0 ?_) | (refine E_fad ?_) | (refine E_nc ?_) | (refine E_tt ?_) | (refine E_ff ?_) | (refine E_st ?_) | (refine E_len ?_) | (refine E_lenS ?_) | (refine E_box fun _ => ?_) | (refine E_eql ?_) | (refine E_neq ?_) | (refine E_lss ?_) | (refine E_leq ?_) | (refine E_gtr ?_) | (refine E_geq ?_) | (refine E_ext ?_) | (refine E_prt ?_) | (refine E_mx ?_) | (refine E_mn ?_) | (refine E_cap ?_) | (refine E_gdu ?_) | (refine E_fa fun _ => ?_) | (refine E_dr ?_) | (refine E_nc_f ?_) | (refine E_nc_i ?_) | (refine E_not ?_) | (refine E_str1 ?_) | (refine E_rck0 ?_) | (refine E_gff ?_) | (refine E_gtt ?_) | (refine E_gft ?_) | (refine E_gtf ?_) | (refine E_pff ?_) | (refine E_ptt ?_) | (refine E_ifT (by assumption) ?_) | (refine E_ifF (by assumption) ?_) | (refine E_gdT (by assumption) ?_) | (refine E_gdF (by assumption) ?_) | (refine E_gdnT (by assumption) ?_) | (refine E_gdnF (by assumption) ?_) | (refine E_pickT (by assumption) ?_) | (refine E_pickF (by assumption) ?_) | (refine E_ifT (by decide) ?_) | (refine E_ifF (by decide) ?_) | (refine E_gdT (by decide) ?_) | (refine E_gdF (by decide) ?_) | (refine E_gdnT (by decide) ?_) | (refine E_gdnF (by decide) ?_) | (refine E_pickT (by decide) ?_) | (refine E_pickF (by decide) ?_) | (refine E_addI (by omega) (by omega) ?_) | (refine E_subI (by omega) (by omega) ?_) | (refine E_mulI (by omega) (by omega) ?_)))
      have hone : (c.sec j s).sure = if c.keep.getD j false then bs else s.sure := by
        unfold Cr.sec Cr.one; simp only [if_neg hT, hnow]
      have yes : c.keep.getD j false = true → E B (cel true bc 42 [kv', I c.torn, I c.at_] :: dct kI true m kv :: cel true a 52 [.slice (some ⟨b, 0, none⟩) SS.length cap, .map (some m), I D.trip, .bool D.down, I D.life] :: cel true b 22 (vs ++ sp) :: ros L ::
          osl 3 1 (.slice (some ⟨b1, o1, none⟩) D.dirty.length cap1) D.dirty.length (ints D.dirty) :: H)
          (S.nc (ptr a) fun v74 => S.fad v74 0 fun v75 => S.ld v75 fun v76 => S.ixS 1 v76 (I i) fun v79 => S.st 1 v79 v fun _ =>
            S.fa fun _ => S.nc (ptr a) fun v81 => S.fad v81 1 fun v82 => S.ld v82 fun v83 => V Tryd.prog (Builtin.delete_ #[50, 3] 0 #[v83, I i]) fun _ =>
          S.bin .add (I j) (I 1) fun v85 => K0 (ptr a) (ptr bc) (.slice (some ⟨b1, o1, none⟩) D.dirty.length cap1) (I D.dirty.length) v85) := fun hy => by
        rw [hone, if_pos hy] at fin
        (repeat (first | (refine E_ld ?_) | (refine E_fad0 ?_) | (refine E_fad ?_) | (refine E_nc ?_) | (refine E_tt ?_) | (refine E_ff ?_) | (refine E_st ?_) | (refine E_len ?_) | (refine E_lenS ?_) | (refine E_box fun _ => ?_) | (refine E_eql ?_) | (refine E_neq ?_) | (refine E_lss ?_) | (refine E_leq ?_) | (refine E_gtr ?_) | (refine E_geq ?_) | (refine E_ext ?_) | (refine E_prt ?_) | (refine E_mx ?_) | (refine E_mn ?_) | (refine E_cap ?_) | (refine E_gdu ?_) | (refine E_fa fun _ => ?_) | (refine E_dr ?_) | (refine E_nc_f ?_) | (refine E_nc_i ?_) | (refine E_not ?_) | (refine E_str1 ?_) | (refine E_rck0 ?_) | (refine E_gff ?_) | (refine E_gtt ?_) | (refine E_gft ?_) | (refine E_gtf ?_) | (refine E_pff ?_) | (refine E_ptt ?_) | (refine E_ifT (by assumption) ?_) | (refine E_ifF (by assumption) ?_) | (refine E_gdT (by assumption) ?_) | (refine E_gdF (by assumption) ?_) | (refine E_gdnT (by assumption) ?_) | (refine E_gdnF (by assumption) ?_) | (refine E_pickT (by assumption) ?_) | (refine E_pickF (by assumption) ?_) | (refine E_ifT (by decide) ?_) | (refine E_ifF (by decide) ?_) | (refine E_gdT (by decide) ?_) | (refine E_gdF (by decide) ?_) | (refine E_gdnT (by decide) ?_) | (refine E_gdnF (by decide) ?_) | (refine E_pickT (by decide) ?_) | (refine E_pickF (by decide) ?_) | (refine E_addI (by omega) (by omega) ?_) | (refine E_subI (by omega) (by omega) ?_) | (refine E_mulI (by omega) (by omega) ?_)))
        refine E_ixS (by omega) (by omega) ?_
        refine E_st' (by simp; omega) ?_
        have e3 : (vs ++ sp).set (0 + (i : Int).toNat * 1) v = vs.set i v ++ sp := by
          rw [List.set_append_left _ _ (by simp; omega)]; simp
        rw [e3]
        (repeat (first | (refine E_ld ?_) | (refine E_fad0 ?_) | (refine E_fad ?_) | (refine E_nc ?_) | (refine E_tt ?_) | (refine E_ff ?_) | (refine E_st ?_) | (refine E_len ?_) | (refine E_lenS ?_) | (refine E_box fun _ => ?_) | (refine E_eql ?_) | (refine E_neq ?_) | (refine E_lss ?_) | (refine E_leq ?_) | (refine E_gtr ?_) | (refine E_geq ?_) | (refine E_ext ?_) | (refine E_prt ?_) | (refine E_mx ?_) | (refine E_mn ?_) | (refine E_cap ?_) | (refine E_gdu ?_) | (refine E_fa fun _ => ?_) | (refine E_dr ?_) | (refine E_nc_f ?_) | (refine E_nc_i ?_) | (refine E_not ?_) | (refine E_str1 ?_) | (refine E_rck0 ?_) | (refine E_gff ?_) | (refine E_gtt ?_) | (refine E_gft ?_) | (refine E_gtf ?_) | (refine E_pff ?_) | (refine E_ptt ?_) | (refine E_ifT (by assumption) ?_) | (refine E_ifF (by assumption) ?_) | (refine E_gdT (by assumption) ?_) | (refine E_gdF (by assumption) ?_) | (refine E_gdnT (by assumption) ?_) | (refine E_gdnF (by assumption) ?_) | (refine E_pickT (by assumption) ?_) | (refine E_pickF (by assumption) ?_) | (refine E_ifT (by decide) ?_) | (refine E_ifF (by decide) ?_) | (refine E_gdT (by decide) ?_) | (refine E_gdF (by decide) ?_) | (refine E_gdnT (by decide) ?_) | (refine E_gdnF (by decide) ?_) | (refine E_pickT (by decide) ?_) | (refine E_pickF (by decide) ?_) | (refine E_addI (by omega) (by omega) ?_) | (refine E_subI (by omega) (by omega) ?_) | (refine E_mulI (by omega) (by omega) ?_)))
        exact E_same (by repeat (first | exact Same.refl | (refine Same.cons (by repeat (first | exact Find.here | apply Find.there)) ?_) | (refine Same.drop ?_))) (fin v L hcv hvL (fun p hp => hp))
      have no : c.keep.getD j false = false → E B (cel true bc 42 [kv', I c.torn, I c.at_] :: dct kI true m kv :: cel true a 52 [.slice (some ⟨b, 0, none⟩) SS.length cap, .map (some m), I D.trip, .bool D.down, I D.life] :: cel true b 22 (vs ++ sp) :: ros L ::
          osl 3 1 (.slice (some ⟨b1, o1, none⟩) D.dirty.length cap1) D.dirty.length (ints D.dirty) :: H)
          (V Tryd.prog (Builtin.delete_ #[50, 3] 0 #[.map (some m), I i]) fun _ =>
          S.bin .add (I j) (I 1) fun v85 => K0 (ptr a) (ptr bc) (.slice (some ⟨b1, o1, none⟩) D.dirty.length cap1) (I D.dirty.length) v85) := fun hy => by
        rw [hone, if_neg (by rw [hy]; simp)] at fin
        have e3 : vs.set i u = vs := by
          apply List.ext_getElem?
          intro q
          by_cases hq : i = q
          · subst hq; rw [List.getElem?_set_self (by omega), hu]
          · rw [List.getElem?_set_ne hq]
        have := fin u L hcu huL (fun p hp => hp)
        rw [e3] at this
        exact E_same (by repeat (first | exact Same.refl | (refine Same.cons (by repeat (first | exact Find.here | apply Find.there)) ?_) | (refine Same.drop ?_))) this
      by_cases hjk : j < c.keep.length
      · have hg : c.keep.getD j false = c.keep[j] := by simp [hjk]
        have hlt' : (j : Int) < (c.keep.length : Int) := by omega
        (repeat (first | (refine E_ld ?_) | (refine E_fad0 ?_) | (refine E_fad ?_) | (refine E_nc ?_) | (refine E_tt ?_) | (refine E_ff ?_) | (refine E_st ?_) | (refine E_len ?_) | (refine E_lenS ?_) | (refine E_box fun _ => ?_) | (refine E_eql ?_) | (refine E_neq ?_) | (refine E_lss ?_) | (refine E_leq ?_) | (refine E_gtr ?_) | (refine E_geq ?_) | (refine E_ext ?_) | (refine E_prt ?_) | (refine E_mx ?_) | (refine E_mn ?_) | (refine E_cap ?_) | (refine E_gdu ?_) | (refine E_fa fun _ => ?_) | (refine E_dr ?_) | (refine E_nc_f ?_) | (refine E_nc_i ?_) | (refine E_not ?_) | (refine E_str1 ?_) | (refine E_rck0 ?_) | (refine E_gff ?_) | (refine E_gtt ?_) | (refine E_gft ?_) | (refine E_gtf ?_) | (refine E_pff ?_) | (refine E_ptt ?_) | (refine E_ifT (by assumption) ?_) | (refine E_ifF (by assumption) ?_) | (refine E_gdT (by assumption) ?_) | (refine E_gdF (by assumption) ?_) | (refine E_gdnT (by assumption) ?_) | (refine E_gdnF (by assumption) ?_) | (refine E_pickT (by assumption) ?_) | (refine E_pickF (by assumption) ?_) | (refine E_ifT (by decide) ?_) | (refine E_ifF (by decide) ?_) | (refine E_gdT (by decide) ?_) | (refine E_gdF (by decide) ?_) | (refine E_gdnT (by decide) ?_) | (refine E_gdnF (by decide) ?_) | (refine E_pickT (by decide) ?_) | (refine E_pickF (by decide) ?_) | (refine E_addI (by omega) (by omega) ?_) | (refine E_subI (by omega) (by omega) ?_) | (refine E_mulI (by omega) (by omega) ?_)))
        refine E_rxn (v := kv') (by simp; omega) (fun b2 o2 cap2 hv2 hle2 => ?_)
        subst hv2
        refine E_ixS (by omega) (by omega) ?_
        (repeat (first | (refine E_ld ?_) | (refine E_fad0 ?_) | (refine E_fad ?_) | (refine E_nc ?_) | (refine E_tt ?_) | (refine E_ff ?_) | (refine E_st ?_) | (refine E_len ?_) | (refine E_lenS ?_) | (refine E_box fun _ => ?_) | (refine E_eql ?_) | (refine E_neq ?_) | (refine E_lss ?_) | (refine E_leq ?_) | (refine E_gtr ?_) | (refine E_geq ?_) | (refine E_ext ?_) | (refine E_prt ?_) | (refine E_mx ?_) | (refine E_mn ?_) | (refine E_cap ?_) | (refine E_gdu ?_) | (refine E_fa fun _ => ?_) | (refine E_dr ?_) | (refine E_nc_f ?_) | (refine E_nc_i ?_) | (refine E_not ?_) | (refine E_str1 ?_) | (refine E_rck0 ?_) | (refine E_gff ?_) | (refine E_gtt ?_) | (refine E_gft ?_) | (refine E_gtf ?_) | (refine E_pff ?_) | (refine E_ptt ?_) | (refine E_ifT (by assumption) ?_) | (refine E_ifF (by assumption) ?_) | (refine E_gdT (by assumption) ?_) | (refine E_gdF (by assumption) ?_) | (refine E_gdnT (by assumption) ?_) | (refine E_gdnF (by assumption) ?_) | (refine E_pickT (by assumption) ?_) | (refine E_pickF (by assumption) ?_) | (refine E_ifT (by decide) ?_) | (refine E_ifF (by decide) ?_) | (refine E_gdT (by decide) ?_) | (refine E_gdF (by decide) ?_) | (refine E_gdnT (by decide) ?_) | (refine E_gdnF (by decide) ?_) | (refine E_pickT (by decide) ?_) | (refine E_pickF (by decide) ?_) | (refine E_addI (by omega) (by omega) ?_) | (refine E_subI (by omega) (by omega) ?_) | (refine E_mulI (by omega) (by omega) ?_)))
        refine E_rx_ld (m := c.keep.length) (cap := cap2) (u := .bool c.keep[j]) ?_ ?_
        · simp [bools, hjk]
        (repeat (first | (refine E_ld ?_) | (refine E_fad0 ?_) | (refine E_fad ?_) | (refine E_nc ?_) | (refine E_tt ?_) | (refine E_ff ?_) | (refine E_st ?_) | (refine E_len ?_) | (refine E_lenS ?_) | (refine E_box fun _ => ?_) | (refine E_eql ?_) | (refine E_neq ?_) | (refine E_lss ?_) | (refine E_leq ?_) | (refine E_gtr ?_) | (refine E_geq ?_) | (refine E_ext ?_) | (refine E_prt ?_) | (refine E_mx ?_) | (refine E_mn ?_) | (refine E_cap ?_) | (refine E_gdu ?_) | (refine E_fa fun _ => ?_) | (refine E_dr ?_) | (refine E_nc_f ?_) | (refine E_nc_i ?_) | (refine E_not ?_) | (refine E_str1 ?_) | (refine E_rck0 ?_) | (refine E_gff ?_) | (refine E_gtt ?_) | (refine E_gft ?_) | (refine E_gtf ?_) | (refine E_pff ?_) | (refine E_ptt ?_) | (refine E_ifT (by assumption) ?_) | (refine E_ifF (by assumption) ?_) | (refine E_gdT (by assumption) ?_) | (refine E_gdF (by assumption) ?_) | (refine E_gdnT (by assumption) ?_) | (refine E_gdnF (by assumption) ?_) | (refine E_pickT (by assumption) ?_) | (refine E_pickF (by assumption) ?_) | (refine E_ifT (by decide) ?_) | (refine E_ifF (by decide) ?_) | (refine E_gdT (by decide) ?_) | (refine E_gdF (by decide) ?_) | (refine E_gdnT (by decide) ?_) | (refine E_gdnF (by decide) ?_) | (refine E_pickT (by decide) ?_) | (refine E_pickF (by decide) ?_) | (refine E_addI (by omega) (by omega) ?_) | (refine E_subI (by omega) (by omega) ?_) | (refine E_mulI (by omega) (by omega) ?_)))
        refine E_ifb (fun hy => ?_) (fun hy => ?_)
        · exact E_same (by repeat (first | exact Same.refl | (refine Same.cons (by repeat (first | exact Find.here | apply Find.there)) ?_) | (refine Same.drop ?_))) (yes (hg.trans hy))
        · (repeat (first | (refine E_ld ?_) | (refine E_fad0 ?_) | (refine E_fad ?_) | (refine E_nc ?_) | (refine E_tt ?_) | (refine E_ff ?_) | (refine E_st ?_) | (refine E_len ?_) | (refine E_lenS ?_) | (refine E_box fun _ => ?_) | (refine E_eql ?_) | (refine E_neq ?_) | (refine E_lss ?_) | (refine E_leq ?_) | (refine E_gtr ?_) | (refine E_geq ?_) | (refine E_ext ?_) | (refine E_prt ?_) | (refine E_mx ?_) | (refine E_mn ?_) | (refine E_cap ?_) | (refine E_gdu ?_) | (refine E_fa fun _ => ?_) | (refine E_dr ?_) | (refine E_nc_f ?_) | (refine E_nc_i ?_) | (refine E_not ?_) | (refine E_str1 ?_) | (refine E_rck0 ?_) | (refine E_gff ?_) | (refine E_gtt ?_) | (refine E_gft ?_) | (refine E_gtf ?_) | (refine E_pff ?_) | (refine E_ptt ?_) | (refine E_ifT (by assumption) ?_) | (refine E_ifF (by assumption) ?_) | (refine E_gdT (by assumption) ?_) | (refine E_gdF (by assumption) ?_) | (refine E_gdnT (by assumption) ?_) | (refine E_gdnF (by assumption) ?_) | (refine E_pickT (by assumption) ?_) | (refine E_pickF (by assumption) ?_) | (refine E_ifT (by decide) ?_) | (refine E_ifF (by decide) ?_) | (refine E_gdT (by decide) ?_) | (refine E_gdF (by decide) ?_) | (refine E_gdnT (by decide) ?_) | (refine E_gdnF (by decide) ?_) | (refine E_pickT (by decide) ?_) | (refine E_pickF (by decide) ?_) | (refine E_addI (by omega) (by omega) ?_) | (refine E_subI (by omega) (by omega) ?_) | (refine E_mulI (by omega) (by omega) ?_)))
          exact E_same (by repeat (first | exact Same.refl | (refine Same.cons (by repeat (first | exact Find.here | apply Find.there)) ?_) | (refine Same.drop ?_))) (no (hg.trans hy))
      · have hlt' : ¬ (j : Int) < (c.keep.length : Int) := by omega
        (repeat (first | (refine E_ld ?_) | (refine E_fad0 ?_) | (refine E_fad ?_) | (refine E_nc ?_) | (refine E_tt ?_) | (refine E_ff ?_) | (refine E_st ?_) | (refine E_len ?_) | (refine E_lenS ?_) | (refine E_box fun _ => ?_) | (refine E_eql ?_) | (refine E_neq ?_) | (refine E_lss ?_) | (refine E_leq ?_) | (refine E_gtr ?_) | (refine E_geq ?_) | (refine E_ext ?_) | (refine E_prt ?_) | (refine E_mx ?_) | (refine E_mn ?_) | (refine E_cap ?_) | (refine E_gdu ?_) | (refine E_fa fun _ => ?_) | (refine E_dr ?_) | (refine E_nc_f ?_) | (refine E_nc_i ?_) | (refine E_not ?_) | (refine E_str1 ?_) | (refine E_rck0 ?_) | (refine E_gff ?_) | (refine E_gtt ?_) | (refine E_gft ?_) | (refine E_gtf ?_) | (refine E_pff ?_) | (refine E_ptt ?_) | (refine E_ifT (by assumption) ?_) | (refine E_ifF (by assumption) ?_) | (refine E_gdT (by assumption) ?_) | (refine E_gdF (by assumption) ?_) | (refine E_gdnT (by assumption) ?_) | (refine E_gdnF (by assumption) ?_) | (refine E_pickT (by assumption) ?_) | (refine E_pickF (by assumption) ?_) | (refine E_ifT (by decide) ?_) | (refine E_ifF (by decide) ?_) | (refine E_gdT (by decide) ?_) | (refine E_gdF (by decide) ?_) | (refine E_gdnT (by decide) ?_) | (refine E_gdnF (by decide) ?_) | (refine E_pickT (by decide) ?_) | (refine E_pickF (by decide) ?_) | (refine E_addI (by omega) (by omega) ?_) | (refine E_subI (by omega) (by omega) ?_) | (refine E_mulI (by omega) (by omega) ?_)))
        exact E_same (by repeat (first | exact Same.refl | (refine Same.cons (by repeat (first | exact Find.here | apply Find.there)) ?_) | (refine Same.drop ?_))) (no (by simp [List.getD, List.getElem?_eq_none (Nat.le_of_not_lt hjk)]))
  · have hj : j = D.dirty.length := by omega
    subst hj
    simp only [List.drop_length] at hφ1
    have := (dirty_nil hφ1).2 c.sec D.dirty.length
    rw [this] at hφ3
    (repeat (first | (refine E_ld ?_) | (refine E_fad0 ?_) | (refine E_fad ?_) | (refine E_nc ?_) | (refine E_tt ?_) | (refine E_ff ?_) | (refine E_st ?_) | (refine E_len ?_) | (refine E_lenS ?_) | (refine E_box fun _ => ?_) | (refine E_eql ?_) | (refine E_neq ?_) | (refine E_lss ?_) | (refine E_leq ?_) | (refine E_gtr ?_) | (refine E_geq ?_) | (refine E_ext ?_) | (refine E_prt ?_) | (refine E_mx ?_) | (refine E_mn ?_) | (refine E_cap ?_) | (refine E_gdu ?_) | (refine E_fa fun _ => ?_) | (refine E_dr ?_) | (refine E_nc_f ?_) | (refine E_nc_i ?_) | (refine E_not ?_) | (refine E_str1 ?_) | (refine E_rck0 ?_) | (refine E_gff ?_) | (refine E_gtt ?_) | (refine E_gft ?_) | (refine E_gtf ?_) | (refine E_pff ?_) | (refine E_ptt ?_) | (refine E_ifT (by assumption) ?_) | (refine E_ifF (by assumption) ?_) | (refine E_gdT (by assumption) ?_) | (refine E_gdF (by assumption) ?_) | (refine E_gdnT (by assumption) ?_) | (refine E_gdnF (by assumption) ?_) | (refine E_pickT (by assumption) ?_) | (refine E_pickF (by assumption) ?_) | (refine E_ifT (by decide) ?_) | (refine E_ifF (by decide) ?_) | (refine E_gdT (by decide) ?_) | (refine E_gdF (by decide) ?_) | (refine E_gdnT (by decide) ?_) | (refine E_gdnF (by decide) ?_) | (refine E_pickT (by decide) ?_) | (refine E_pickF (by decide) ?_) | (refine E_addI (by omega) (by omega) ?_) | (refine E_subI (by omega) (by omega) ?_) | (refine E_mulI (by omega) (by omega) ?_)))
    refine E_find (a := disk a { D with S := SS }) (by repeat (first | exact Find.here | apply Find.there)) (E_disk fun b cap m vs sp kv L hr hle hsl => ?_)
    simp only at hr hle hsl ⊢
    (repeat (first | (refine E_ld ?_) | (refine E_fad0 ?_) | (refine E_fad ?_) | (refine E_nc ?_) | (refine E_tt ?_) | (refine E_ff ?_) | (refine E_st ?_) | (refine E_len ?_) | (refine E_lenS ?_) | (refine E_box fun _ => ?_) | (refine E_eql ?_) | (refine E_neq ?_) | (refine E_lss ?_) | (refine E_leq ?_) | (refine E_gtr ?_) | (refine E_geq ?_) | (refine E_ext ?_) | (refine E_prt ?_) | (refine E_mx ?_) | (refine E_mn ?_) | (refine E_cap ?_) | (refine E_gdu ?_) | (refine E_fa fun _ => ?_) | (refine E_dr ?_) | (refine E_nc_f ?_) | (refine E_nc_i ?_) | (refine E_not ?_) | (refine E_str1 ?_) | (refine E_rck0 ?_) | (refine E_gff ?_) | (refine E_gtt ?_) | (refine E_gft ?_) | (refine E_gtf ?_) | (refine E_pff ?_) | (refine E_ptt ?_) | (refine E_ifT (by assumption) ?_) | (refine E_ifF (by assumption) ?_) | (refine E_gdT (by assumption) ?_) | (refine E_gdF (by assumption) ?_) | (refine E_gdnT (by assumption) ?_) | (refine E_gdnF (by assumption) ?_) | (refine E_pickT (by assumption) ?_) | (refine E_pickF (by assumption) ?_) | (refine E_ifT (by decide) ?_) | (refine E_ifF (by decide) ?_) | (refine E_gdT (by decide) ?_) | (refine E_gdF (by decide) ?_) | (refine E_gdnT (by decide) ?_) | (refine E_gdnF (by decide) ?_) | (refine E_pickT (by decide) ?_) | (refine E_pickF (by decide) ?_) | (refine E_addI (by omega) (by omega) ?_) | (refine E_subI (by omega) (by omega) ?_) | (refine E_mulI (by omega) (by omega) ?_)))
    refine E_add ?_
    (repeat (first | (refine E_ld ?_) | (refine E_fad0 ?_) | (refine E_fad ?_) | (refine E_nc ?_) | (refine E_tt ?_) | (refine E_ff ?_) | (refine E_st ?_) | (refine E_len ?_) | (refine E_lenS ?_) | (refine E_box fun _ => ?_) | (refine E_eql ?_) | (refine E_neq ?_) | (refine E_lss ?_) | (refine E_leq ?_) | (refine E_gtr ?_) | (refine E_geq ?_) | (refine E_ext ?_) | (refine E_prt ?_) | (refine E_mx ?_) | (refine E_mn ?_) | (refine E_cap ?_) | (refine E_gdu ?_) | (refine E_fa fun _ => ?_) | (refine E_dr ?_) | (refine E_nc_f ?_) | (refine E_nc_i ?_) | (refine E_not ?_) | (refine E_str1 ?_) | (refine E_rck0 ?_) | (refine E_gff ?_) | (refine E_gtt ?_) | (refine E_gft ?_) | (refine E_gtf ?_) | (refine E_pff ?_) | (refine E_ptt ?_) | (refine E_ifT (by assumption) ?_) | (refine E_ifF (by assumption) ?_) | (refine E_gdT (by assumption) ?_) | (refine E_gdF (by assumption) ?_) | (refine E_gdnT (by assumption) ?_) | (refine E_gdnF (by assumption) ?_) | (refine E_pickT (by assumption) ?_) | (refine E_pickF (by assumption) ?_) | (refine E_ifT (by decide) ?_) | (refine E_ifF (by decide) ?_) | (refine E_gdT (by decide) ?_) | (refine E_gdF (by decide) ?_) | (refine E_gdnT (by decide) ?_) | (refine E_gdnF (by decide) ?_) | (refine E_pickT (by decide) ?_) | (refine E_pickF (by decide) ?_) | (refine E_addI (by omega) (by omega) ?_) | (refine E_subI (by omega) (by omega) ?_) | (refine E_mulI (by omega) (by omega) ?_)))
    subst hφ3
    have hr' : DRep (D.crash c) vs kv L := ⟨hr.len, hr.sur, hr.las, hr.nol, hr.dom, hr.nod, ⟨hr.ok.n1, hr.ok.n2, by simp [Dk.crash], by simp [Dk.crash], hr.ok.len⟩⟩
    exact E_same (by repeat (first | exact Same.refl | (refine Same.cons (by repeat (first | exact Find.here | apply Find.there)) ?_) | (refine Same.drop ?_))) (E_disks (H := H) hr' hle hsl rfl rfl rfl rfl (b := b) (m := m) h)
end Go.Proofs.YtmbfmkiagdhcoaaDoor.Disk

/-
  New.
-/
namespace Go.Proofs.YtmbfmkiagdhcoaaDoor.Disk
open Go Go.SL Go.Proofs Go.Proofs.YtmbfmkiagdhcoaaDoor.Sh
attribute [local irreducible] S.pick S.ld S.ldN S.st S.box S.nc S.fad S.ixS S.ixA S.chr S.prt S.ext S.bin S.sh S.sbin S.beq S.neg1 S.com1 S.not1 S.cvt S.str1 S.lenS S.len S.cap S.lenM S.mx S.mn S.mkM S.cond S.gd S.fa S.dr S.rck S.join S.loop S.cvv S.eqv S.slc S.slcS S.b2s S.lk V U CF Gives E cel mpb osl ros dct dit itr lpo dfo
attribute [local irreducible] disk
variable {B : World} {H : List Asrt} {K : Value → WT}
theorem new {n : Int} (h0 : n < 1 ∨ 4096 < n → E B H (K (.tuple #[.pointer none, I 2]))) (h1 : 1 ≤ n → n ≤ 4096 → ∀ a, E B (disk a (Dk.new n.toNat) :: H) (K (.tuple #[ptr a, I 0]))) : E B H (CF Tryd.prog 6 [I n] K) := by
  refine E_mono (W := s6 _ K) ?_ fun _ => c6
  unfold s6
  refine E_join0 ?_
  (repeat (first | (refine E_ld ?_) | (refine E_fad0 ?_) | (refine E_fad ?_) | (refine E_nc ?_) | (refine E_tt ?_) | (refine E_ff ?_) | (refine E_st ?_) | (refine E_len ?_) | (refine E_lenS ?_) | (refine E_box fun _ => ?_) | (refine E_eql ?_) | (refine E_neq ?_) | (refine E_lss ?_) | (refine E_leq ?_) | (refine E_gtr ?_) | (refine E_geq ?_) | (refine E_ext ?_) | (refine E_prt ?_) | (refine E_mx ?_) | (refine E_mn ?_) | (refine E_cap ?_) | (refine E_gdu ?_) | (refine E_fa fun _ => ?_) | (refine E_dr ?_) | (refine E_nc_f ?_) | (refine E_nc_i ?_) | (refine E_not ?_) | (refine E_str1 ?_) | (refine E_rck0 ?_) | (refine E_gff ?_) | (refine E_gtt ?_) | (refine E_gft ?_) | (refine E_gtf ?_) | (refine E_pff ?_) | (refine E_ptt ?_) | (refine E_ifT (by assumption) ?_) | (refine E_ifF (by assumption) ?_) | (refine E_gdT (by assumption) ?_) | (refine E_gdF (by assumption) ?_) | (refine E_gdnT (by assumption) ?_) | (refine E_gdnF (by assumption) ?_) | (refine E_pickT (by assumption) ?_) | (refine E_pickF (by assumption) ?_) | (refine E_ifT (by decide) ?_) | (refine E_ifF (by decide) ?_) | (refine E_gdT (by decide) ?_) | (refine E_gdF (by decide) ?_) | (refine E_gdnT (by decide) ?_) | (refine E_gdnF (by decide) ?_) | (refine E_pickT (by decide) ?_) | (refine E_pickF (by decide) ?_) | (refine E_addI (by omega) (by omega) ?_) | (refine E_subI (by omega) (by omega) ?_) | (refine E_mulI (by omega) (by omega) ?_)))
  by_cases hn1 : n < 1
  · (repeat (first | (refine E_ld ?_) | (refine E_fad0 ?_) | (refine E_fad ?_) | (refine E_nc ?_) | (refine E_tt ?_) | (refine E_ff ?_) | (refine E_st ?_) | (refine E_len ?_) | (refine E_lenS ?_) | (refine E_box fun _ => ?_) | (refine E_eql ?_) | (refine E_neq ?_) | (refine E_lss ?_) | (refine E_leq ?_) | (refine E_gtr ?_) | (refine E_geq ?_) | (refine E_ext ?_) | (refine E_prt ?_) | (refine E_mx ?_) | (refine E_mn ?_) | (refine E_cap ?_) | (refine E_gdu ?_) | (refine E_fa fun _ => ?_) | (refine E_dr ?_) | (refine E_nc_f ?_) | (refine E_nc_i ?_) | (refine E_not ?_) | (refine E_str1 ?_) | (refine E_rck0 ?_) | (refine E_gff ?_) | (refine E_gtt ?_) | (refine E_gft ?_) | (refine E_gtf ?_) | (refine E_pff ?_) | (refine E_ptt ?_) | (refine E_ifT (by assumption) ?_) | (refine E_ifF (by assumption) ?_) | (refine E_gdT (by assumption) ?_) | (refine E_gdF (by assumption) ?_) | (refine E_gdnT (by assumption) ?_) | (refine E_gdnF (by assumption) ?_) | (refine E_pickT (by assumption) ?_) | (refine E_pickF (by assumption) ?_) | (refine E_ifT (by decide) ?_) | (refine E_ifF (by decide) ?_) | (refine E_gdT (by decide) ?_) | (refine E_gdF (by decide) ?_) | (refine E_gdnT (by decide) ?_) | (refine E_gdnF (by decide) ?_) | (refine E_pickT (by decide) ?_) | (refine E_pickF (by decide) ?_) | (refine E_addI (by omega) (by omega) ?_) | (refine E_subI (by omega) (by omega) ?_) | (refine E_mulI (by omega) (by omega) ?_)))
    exact h0 (.inl hn1)
  (repeat (first | (refine E_ld ?_) | (refine E_fad0 ?_) | (refine E_fad ?_) | (refine E_nc ?_) | (refine E_tt ?_) | (refine E_ff ?_) | (refine E_st ?_) | (refine E_len ?_) | (refine E_lenS ?_) | (refine E_box fun _ => ?_) | (refine E_eql ?_) | (refine E_neq ?_) | (refine E_lss ?_) | (refine E_leq ?_) | (refine E_gtr ?_) | (refine E_geq ?_) | (refine E_ext ?_) | (refine E_prt ?_) | (refine E_mx ?_) | (refine E_mn ?_) | (refine E_cap ?_) | (refine E_gdu ?_) | (refine E_fa fun _ => ?_) | (refine E_dr ?_) | (refine E_nc_f ?_) | (refine E_nc_i ?_) | (refine E_not ?_) | (refine E_str1 ?_) | (refine E_rck0 ?_) | (refine E_gff ?_) | (refine E_gtt ?_) | (refine E_gft ?_) | (refine E_gtf ?_) | (refine E_pff ?_) | (refine E_ptt ?_) | (refine E_ifT (by assumption) ?_) | (refine E_ifF (by assumption) ?_) | (refine E_gdT (by assumption) ?_) | (refine E_gdF (by assumption) ?_) | (refine E_gdnT (by assumption) ?_) | (refine E_gdnF (by assumption) ?_) | (refine E_pickT (by assumption) ?_) | (refine E_pickF (by assumption) ?_) | (refine E_ifT (by decide) ?_) | (refine E_ifF (by decide) ?_) | (refine E_gdT (by decide) ?_) | (refine E_gdF (by decide) ?_) | (refine E_gdnT (by decide) ?_) | (refine E_gdnF (by decide) ?_) | (refine E_pickT (by decide) ?_) | (refine E_pickF (by decide) ?_) | (refine E_addI (by omega) (by omega) ?_) | (refine E_subI (by omega) (by omega) ?_) | (refine E_mulI (by omega) (by omega) ?_)))
  refine E_if (fun hc => ?_) (fun hc => ?_)
  · exact h0 (.inr (by omega))
  refine E_mkM fun m => E_dnew (enc := kI) ?_
  refine E_build (z := [.slice none 0 0, .map none, I 0, .bool false, I 0]) (pl := [(0, 1), (1, 1), (2, 1), (3, 1), (4, 1)]) (l := [.slice none 0 0, .map (some m), I 0, .bool false, I 0]) ?_ ?_
  · exact str_of (zv := .agg #[.slice none 0 0, .map none, I 0, .bool false, I 0]) (by kernel_rfl) (by kernel_rfl) rfl
  (repeat (first | (refine E_ld ?_) | (refine E_fad0 ?_) | (refine E_fad ?_) | (refine E_nc ?_) | (refine E_tt ?_) | (refine E_ff ?_) | (refine E_st ?_) | (refine E_len ?_) | (refine E_lenS ?_) | (refine E_box fun _ => ?_) | (refine E_eql ?_) | (refine E_neq ?_) | (refine E_lss ?_) | (refine E_leq ?_) | (refine E_gtr ?_) | (refine E_geq ?_) | (refine E_ext ?_) | (refine E_prt ?_) | (refine E_mx ?_) | (refine E_mn ?_) | (refine E_cap ?_) | (refine E_gdu ?_) | (refine E_fa fun _ => ?_) | (refine E_dr ?_) | (refine E_nc_f ?_) | (refine E_nc_i ?_) | (refine E_not ?_) | (refine E_str1 ?_) | (refine E_rck0 ?_) | (refine E_gff ?_) | (refine E_gtt ?_) | (refine E_gft ?_) | (refine E_gtf ?_) | (refine E_pff ?_) | (refine E_ptt ?_) | (refine E_ifT (by assumption) ?_) | (refine E_ifF (by assumption) ?_) | (refine E_gdT (by assumption) ?_) | (refine E_gdF (by assumption) ?_) | (refine E_gdnT (by assumption) ?_) | (refine E_gdnF (by assumption) ?_) | (refine E_pickT (by assumption) ?_) | (refine E_pickF (by assumption) ?_) | (refine E_ifT (by decide) ?_) | (refine E_ifF (by decide) ?_) | (refine E_gdT (by decide) ?_) | (refine E_gdF (by decide) ?_) | (refine E_gdnT (by decide) ?_) | (refine E_gdnF (by decide) ?_) | (refine E_pickT (by decide) ?_) | (refine E_pickF (by decide) ?_) | (refine E_addI (by omega) (by omega) ?_) | (refine E_subI (by omega) (by omega) ?_) | (refine E_mulI (by omega) (by omega) ?_)))
  rename_i a
  refine ros_new ?_
  refine osl_nil (T := 22) (sz := 1) ?_
  refine E_loop (σ := Nat × Value × List Value × List (Value × List UInt8)) (fun s => s.1 ≤ n.toNat ∧ s.2.2.1.length = s.1 ∧ CellI s.2.1 ∧ ∀ v ∈ s.2.2.1, CellI v ∧ (v, zero128) ∈ s.2.2.2)
    (fun s => [ptr a, I n, I s.1]) (fun s => osl 22 1 s.2.1 s.1 s.2.2.1 :: ros s.2.2.2 :: cel true a 52 [s.2.1, .map (some m), I 0, .bool false, I 0] :: dct kI true m [] :: H) (fun s => n.toNat - s.1)
    (0, .slice none 0 0, [], []) (fun s => rfl) rfl ⟨Nat.zero_le _, rfl, ⟨rfl⟩, by simp⟩ (fun W hW => E_same (by repeat (first | exact Same.refl | (refine Same.cons (by repeat (first | exact Find.here | apply Find.there)) ?_) | (refine Same.drop ?_))) hW) ?_
  rintro ⟨j, sv, vs, L⟩ K0 ⟨hj, hlen, hcs, hall⟩ hk
  simp only at hj hlen hall hk hcs ⊢
  refine E_fa fun _ => ?_
  (repeat (first | (refine E_ld ?_) | (refine E_fad0 ?_) | (refine E_fad ?_) | (refine E_nc ?_) | (refine E_tt ?_) | (refine E_ff ?_) | (refine E_st ?_) | (refine E_len ?_) | (refine E_lenS ?_) | (refine E_box fun _ => ?_) | (refine E_eql ?_) | (refine E_neq ?_) | (refine E_lss ?_) | (refine E_leq ?_) | (refine E_gtr ?_) | (refine E_geq ?_) | (refine E_ext ?_) | (refine E_prt ?_) | (refine E_mx ?_) | (refine E_mn ?_) | (refine E_cap ?_) | (refine E_gdu ?_) | (refine E_fa fun _ => ?_) | (refine E_dr ?_) | (refine E_nc_f ?_) | (refine E_nc_i ?_) | (refine E_not ?_) | (refine E_str1 ?_) | (refine E_rck0 ?_) | (refine E_gff ?_) | (refine E_gtt ?_) | (refine E_gft ?_) | (refine E_gtf ?_) | (refine E_pff ?_) | (refine E_ptt ?_) | (refine E_ifT (by assumption) ?_) | (refine E_ifF (by assumption) ?_) | (refine E_gdT (by assumption) ?_) | (refine E_gdF (by assumption) ?_) | (refine E_gdnT (by assumption) ?_) | (refine E_gdnF (by assumption) ?_) | (refine E_pickT (by assumption) ?_) | (refine E_pickF (by assumption) ?_) | (refine E_ifT (by decide) ?_) | (refine E_ifF (by decide) ?_) | (refine E_gdT (by decide) ?_) | (refine E_gdF (by decide) ?_) | (refine E_gdnT (by decide) ?_) | (refine E_gdnF (by decide) ?_) | (refine E_pickT (by decide) ?_) | (refine E_pickF (by decide) ?_) | (refine E_addI (by omega) (by omega) ?_) | (refine E_subI (by omega) (by omega) ?_) | (refine E_mulI (by omega) (by omega) ?_)))
  refine E_if (fun hc => ?_) (fun hc => ?_)
  · (repeat (first | (refine E_ld ?_) | (refine E_fad0 ?_) | (refine E_fad ?_) | (refine E_nc ?_) | (refine E_tt ?_) | (refine E_ff ?_) | (refine E_st ?_) | (refine E_len ?_) | (refine E_lenS ?_) | (refine E_box fun _ => ?_) | (refine E_eql ?_) | (refine E_neq ?_) | (refine E_lss ?_) | (refine E_leq ?_) | (refine E_gtr ?_) | (refine E_geq ?_) | (refine E_ext ?_) | (refine E_prt ?_) | (refine E_mx ?_) | (refine E_mn ?_) | (refine E_cap ?_) | (refine E_gdu ?_) | (refine E_fa fun _ => ?_) | (refine E_dr ?_) | (refine E_nc_f ?_) | (refine E_nc_i ?_) | (refine E_not ?_) | (refine E_str1 ?_) | (refine E_rck0 ?_) | (refine E_gff ?_) | (refine E_gtt ?_) | (refine E_gft ?_) | (refine E_gtf ?_) | (refine E_pff ?_) | (refine E_ptt ?_) | (refine E_ifT (by assumption) ?_) | (refine E_ifF (by assumption) ?_) | (refine E_gdT (by assumption) ?_) | (refine E_gdF (by assumption) ?_) | (refine E_gdnT (by assumption) ?_) | (refine E_gdnF (by assumption) ?_) | (refine E_pickT (by assumption) ?_) | (refine E_pickF (by assumption) ?_) | (refine E_ifT (by decide) ?_) | (refine E_ifF (by decide) ?_) | (refine E_gdT (by decide) ?_) | (refine E_gdF (by decide) ?_) | (refine E_gdnT (by decide) ?_) | (refine E_gdnF (by decide) ?_) | (refine E_pickT (by decide) ?_) | (refine E_pickF (by decide) ?_) | (refine E_addI (by omega) (by omega) ?_) | (refine E_subI (by omega) (by omega) ?_) | (refine E_mulI (by omega) (by omega) ?_)))
    refine E_mkS u_bytes elt_byte (by omega) (by omega) (by omega) (by omega) fun b => ?_
    have e1 : rep (128 : Int).toNat [.int .u8 0] = bcs zero128 := rep_zero 128
    rw [e1]
    (repeat (refine E_rck1 (by first | exact E_ld (E_fact rfl) | exact E_ld' (by assumption) (E_fact rfl) | exact E_b2sR (E_fact rfl) | exact E_gdnF (by assumption) (E_ld (E_fact rfl)) | exact E_gdT (by assumption) (E_ld (E_fact rfl)) | exact E_gtf (E_ld (E_fact rfl)) | exact E_gft (E_ld (E_fact rfl))) ?_)); (first | (refine E_rck0 ?_) | skip)
    refine E_bsl [(0, 1)] u_bytess elt_bytes (by simp) (by decide) (l0 := [.slice none 0 0]) rfl fun b' => ?_
    (repeat (refine E_rck1 (by first | exact E_ld (E_fact rfl) | exact E_ld' (by assumption) (E_fact rfl) | exact E_b2sR (E_fact rfl) | exact E_gdnF (by assumption) (E_ld (E_fact rfl)) | exact E_gdT (by assumption) (E_ld (E_fact rfl)) | exact E_gtf (E_ld (E_fact rfl)) | exact E_gft (E_ld (E_fact rfl))) ?_)); (first | (refine E_rck0 ?_) | skip)
    refine E_find (a := osl 22 1 sv j vs) (by repeat (first | exact Find.here | apply Find.there)) ?_
    refine E_app (m := 1) (ys := [.slice (some ⟨b, 0, none⟩) 128 128]) u_bytess elt_bytes (rd_slice (l := [.slice (some ⟨b, 0, none⟩) 128 128]) (T := 22) (κ := true) u_bytess rfl rfl (by simp [isCell])) (by omega) (by omega) fun v' _ => ?_
    (repeat (first | (refine E_ld ?_) | (refine E_fad0 ?_) | (refine E_fad ?_) | (refine E_nc ?_) | (refine E_tt ?_) | (refine E_ff ?_) | (refine E_st ?_) | (refine E_len ?_) | (refine E_lenS ?_) | (refine E_box fun _ => ?_) | (refine E_eql ?_) | (refine E_neq ?_) | (refine E_lss ?_) | (refine E_leq ?_) | (refine E_gtr ?_) | (refine E_geq ?_) | (refine E_ext ?_) | (refine E_prt ?_) | (refine E_mx ?_) | (refine E_mn ?_) | (refine E_cap ?_) | (refine E_gdu ?_) | (refine E_fa fun _ => ?_) | (refine E_dr ?_) | (refine E_nc_f ?_) | (refine E_nc_i ?_) | (refine E_not ?_) | (refine E_str1 ?_) | (refine E_rck0 ?_) | (refine E_gff ?_) | (refine E_gtt ?_) | (refine E_gft ?_) | (refine E_gtf ?_) | (refine E_pff ?_) | (refine E_ptt ?_) | (refine E_ifT (by assumption) ?_) | (refine E_ifF (by assumption) ?_) | (refine E_gdT (by assumption) ?_) | (refine E_gdF (by assumption) ?_) | (refine E_gdnT (by assumption) ?_) | (refine E_gdnF (by assumption) ?_) | (refine E_pickT (by assumption) ?_) | (refine E_pickF (by assumption) ?_) | (refine E_ifT (by decide) ?_) | (refine E_ifF (by decide) ?_) | (refine E_gdT (by decide) ?_) | (refine E_gdF (by decide) ?_) | (refine E_gdnT (by decide) ?_) | (refine E_gdnF (by decide) ?_) | (refine E_pickT (by decide) ?_) | (refine E_pickF (by decide) ?_) | (refine E_addI (by omega) (by omega) ?_) | (refine E_subI (by omega) (by omega) ?_) | (refine E_mulI (by omega) (by omega) ?_)))
    refine E_find (a := ros L) (by repeat (first | exact Find.here | apply Find.there)) ?_
    refine E_find (a := cel true b 5 (bcs zero128)) (by repeat (first | exact Find.here | apply Find.there)) (ros_add (o := 0) (cap := 128) (bs := zero128) (Nat.le_of_eq List.length_replicate) (by rw [List.drop_zero]; exact List.take_of_length_le (by simp)) ?_)
    have hk' := hk (j + 1, v', vs ++ [.slice (some ⟨b, 0, none⟩) 128 128], (.slice (some ⟨b, 0, none⟩) zero128.length 128, zero128) :: L)
      ⟨by omega, by simp [hlen], by assumption, fun v hv => by
        rcases List.mem_append.1 hv with hv | hv
        · exact ⟨(hall v hv).1, List.mem_cons_of_mem _ (hall v hv).2⟩
        · simp at hv; subst hv; exact ⟨⟨rfl⟩, List.mem_cons_self ..⟩⟩ (by simp only; omega)
    exact E_same (by repeat (first | exact Same.refl | (refine Same.cons (by repeat (first | exact Find.here | apply Find.there)) ?_) | (refine Same.drop ?_))) hk'
  · (repeat (first | (refine E_ld ?_) | (refine E_fad0 ?_) | (refine E_fad ?_) | (refine E_nc ?_) | (refine E_tt ?_) | (refine E_ff ?_) | (refine E_st ?_) | (refine E_len ?_) | (refine E_lenS ?_) | (refine E_box fun _ => ?_) | (refine E_eql ?_) | (refine E_neq ?_) | (refine E_lss ?_) | (refine E_leq ?_) | (refine E_gtr ?_) | (refine E_geq ?_) | (refine E_ext ?_) | (refine E_prt ?_) | (refine E_mx ?_) | (refine E_mn ?_) | (refine E_cap ?_) | (refine E_gdu ?_) | (refine E_fa fun _ => ?_) | (refine E_dr ?_) | (refine E_nc_f ?_) | (refine E_nc_i ?_) | (refine E_not ?_) | (refine E_str1 ?_) | (refine E_rck0 ?_) | (refine E_gff ?_) | (refine E_gtt ?_) | (refine E_gft ?_) | (refine E_gtf ?_) | (refine E_pff ?_) | (refine E_ptt ?_) | (refine E_ifT (by assumption) ?_) | (refine E_ifF (by assumption) ?_) | (refine E_gdT (by assumption) ?_) | (refine E_gdF (by assumption) ?_) | (refine E_gdnT (by assumption) ?_) | (refine E_gdnF (by assumption) ?_) | (refine E_pickT (by assumption) ?_) | (refine E_pickF (by assumption) ?_) | (refine E_ifT (by decide) ?_) | (refine E_ifF (by decide) ?_) | (refine E_gdT (by decide) ?_) | (refine E_gdF (by decide) ?_) | (refine E_gdnT (by decide) ?_) | (refine E_gdnF (by decide) ?_) | (refine E_pickT (by decide) ?_) | (refine E_pickF (by decide) ?_) | (refine E_addI (by omega) (by omega) ?_) | (refine E_subI (by omega) (by omega) ?_) | (refine E_mulI (by omega) (by omega) ?_)))
    have hj' : j = n.toNat := by omega
    refine E_oslo (by omega) fun b cap sp hv hle hxl hsl => ?_
    subst hv
    have hr : DRep (Dk.new n.toNat) vs [] L := by
      have get : ∀ (i : Nat) s, (Dk.new n.toNat).S[i]? = some s → i < n.toNat ∧ s = ⟨zero128, none⟩ := fun i s h => by
        simp only [Dk.new, List.getElem?_replicate] at h
        split at h
        · exact ⟨by assumption, by cases h; rfl⟩
        · cases h
      refine ⟨by simp [Dk.new, hlen, hj'], fun i s h => ?_, fun i s b h hb => ?_, fun _ _ _ _ => rfl, by simp, by simp, ⟨by simp [Dk.new]; omega, by simp [Dk.new]; omega, by simp [Dk.new], by simp [Dk.new], fun s hs => ?_⟩⟩
      · obtain ⟨hi, rfl⟩ := get i s h
        have hi' : i < vs.length := by omega
        have := hall vs[i] (List.getElem_mem hi')
        exact ⟨vs[i], List.getElem?_eq_getElem hi', this.1, this.2⟩
      · obtain ⟨hi, rfl⟩ := get i s h
        cases hb
      · simp only [Dk.new, List.mem_replicate] at hs
        rw [hs.2]; exact ⟨by simp [zero128], fun b hb => by cases hb⟩
    exact E_same (by repeat (first | exact Same.refl | (refine Same.cons (by repeat (first | exact Find.here | apply Find.there)) ?_) | (refine Same.drop ?_))) (E_disks (H := H) (D := Dk.new n.toNat) (n := j) hr (by omega) (by simpa using hsl) (by simp [Dk.new, hj']) rfl rfl rfl (b := b) (m := m) (h1 (by omega) (by omega) a))
end Go.Proofs.YtmbfmkiagdhcoaaDoor.Disk
