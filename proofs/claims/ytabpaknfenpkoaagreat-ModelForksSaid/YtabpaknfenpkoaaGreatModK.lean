/-
  Model: types; the keys of maps, sorted.
-/
import Derived.Test.YtabpaknfenpkoaaGreatSlB
import Derived.Test.YtabpaknfenpkoaaGreatShT
import Derived.Test.YtabpaknfenpkoaaGreatShelf
import Derived.Test.YtabpaknfenpkoaaGreatModM
set_option linter.unusedSimpArgs false
set_option linter.unusedVariables false
set_option linter.unusedSectionVars false
namespace Go.Proofs.YtabpaknfenpkoaaGreat.Mod
open Go Go.SL Go.Proofs Go.Proofs.YtabpaknfenpkoaaGreat.Sh
attribute [local irreducible] S.pick S.ld S.ldN S.st S.box S.nc S.fad S.ixS S.ixA S.chr S.prt S.ext S.bin S.sh S.sbin S.beq S.neg1 S.com1 S.not1 S.cvt S.str1 S.lenS S.len S.cap S.lenM S.mx S.mn S.mkM S.cond S.gd S.fa S.dr S.rck S.join S.loop S.cvv S.eqv S.slc S.slcS S.b2s S.lk V U CF Gives E cel mpb osl ros dct dit itr lpo dfo
theorem u_strs : Tryz.prog.underlying 107 = some (.slice 9) := by kernel_rfl
theorem u_ints : Tryz.prog.underlying 48 = some (.slice 3) := by kernel_rfl
theorem u_int : Tryz.prog.underlying 3 = some (.int .i64) := by kernel_rfl
theorem u_string : Tryz.prog.underlying 9 = some .string := by kernel_rfl
theorem u_files : Tryz.prog.underlying 78 = some (.map 9 90) := by kernel_rfl
theorem u_shots : Tryz.prog.underlying 79 = some (.map 9 93) := by kernel_rfl
theorem u_sess : Tryz.prog.underlying 80 = some (.map 3 88) := by kernel_rfl
theorem u_shot : Tryz.prog.underlying 93 = some (.map 9 3) := by kernel_rfl
theorem elt_string : Elt Tryz.prog 9 1 16 [.string ⟨#[]⟩] := elt_of (zv := .string ⟨#[]⟩) (by kernel_rfl) rfl rfl
theorem elt_int : Elt Tryz.prog 3 1 8 [.int .i64 0] := elt_of (zv := .int .i64 0) (by kernel_rfl) rfl rfl
theorem key_files : Key Tryz.prog 78 9 90 .string := ⟨u_files, u_string, rfl⟩
theorem key_shots : Key Tryz.prog 79 9 93 .string := ⟨u_shots, u_string, rfl⟩
theorem key_sess : Key Tryz.prog 80 3 88 (.int .i64) := ⟨u_sess, u_int, rfl⟩
theorem key_shot : Key Tryz.prog 93 9 3 .string := ⟨u_shot, u_string, rfl⟩
theorem sortOkS : SortOkS Tryz.prog 88 := ⟨fun blk off cap zs w h1 h2 h3 => Tryz.slices_Sort_string blk off cap zs w h1 h2 h3, fun p cap w => Tryz.slices_Sort_string_none p cap w⟩
theorem sortOk : SortOk Tryz.prog 84 := ⟨fun blk off cap zs w h1 h2 h3 => Tryz.slices_Sort_int blk off cap zs w h1 h2 h3, fun p cap w => Tryz.slices_Sort_int_none p cap w⟩

variable {B : World} {H : List Asrt} {K : Value → WT}
theorem sortedNames {o : Bool} {r : Nat} {kv : List (List UInt8 × Value)} {H' : List Asrt} [ht : TakD H kL o r kv H'] (hn : kv.length ≤ 1048576)
    (h : ∀ sv zs [CellI sv], zs.Perm (kv.map (·.1)) → E B (sls cS 9 1 sv (sortS zs) :: dct kL o r kv :: H') (K sv)) :
    E B H (CF Tryz.prog 63 [.map (some r)] fun v9 => CF Tryz.prog 62 [v9] K) := by
  refine E_find ht.pf ?_
  refine E_mono (W := s63 _ _) ?_ fun _ => c63
  unfold s63
  (first | refine gS ?_ | refine gA fun _ => ?_ | refine gX fun _ _ => ?_ | refine gT ?_ | refine gF ?_ | refine gI ?_)
  rename_i mb
  refine E_mono (W := s62 _ _) ?_ fun _ => c62
  unfold s62
  refine E_mono (W := s87 _ _) ?_ fun _ => c87
  unfold s87
  refine E_mono (W := s99 _ _ _) ?_ fun _ => c99
  unfold s99
  (first | refine gS ?_ | refine gA fun _ => ?_ | refine gX fun _ _ => ?_ | refine gT ?_ | refine gF ?_ | refine gI ?_)
  rename_i sb
  refine E_rf (by kernel_rfl) fun l dl L hY => ?_
  refine E_mono (W := s89 _ _ _) ?_ fun _ => c89
  unfold s89
  (repeat first | refine gS ?_ | refine gA fun _ => ?_ | refine gX fun _ _ => ?_ | refine gT ?_ | refine gF ?_ | refine gI ?_)
  refine E_drange (κ := List UInt8) u_files fun it => ?_
  refine E_loop (σ := List (List UInt8 × Value) × Option (List UInt8 × Value) × List (List UInt8) × Value)
    (fun s => (s.2.2.1 ++ s.1.map (·.1)).Perm (kv.map (·.1)) ∧ isCell s.2.2.2 = true)
    (fun s => [.func (.yield l) #[] #[], .pointer (some ⟨it, 0, none⟩)])
    (fun s => dit kL o it r kv s.1 s.2.1 :: lpo l L .ready .nrm :: sls cS 9 1 s.2.2.2 s.2.2.1 :: cel true sb 107 [s.2.2.2] :: dfo dl :: cel true mb 78 [.map (some r)] :: H')
    (fun s => s.1.length) (kv, none, [], .slice none 0 0) (fun s => rfl) rfl ⟨by simp, rfl⟩ ?_ ?_
  · intro W hW
    refine sls_nil cS 1 (E_same (by repeat (first | exact Same.refl | (refine Same.cons (by repeat (first | exact Find.here | apply Find.there)) ?_) | (refine Same.drop ?_))) hW)
  · rintro ⟨rest, cur, zs, sv⟩ K ⟨hφ, hcl⟩ hk
    simp only at hφ hk hcl ⊢
    have : CellI sv := ⟨hcl⟩
    refine E_fa fun _ => ?_
    refine E_dnext (κ := List UInt8) (fun hr => ?_) (fun p rest' hp => ?_)
    · subst hr
      (repeat first | refine gS ?_ | refine gA fun _ => ?_ | refine gX fun _ _ => ?_ | refine gT ?_ | refine gF ?_ | refine gI ?_)
      refine fd (a := lpo l L .ready .nrm) (E_over (by simp) ?_)
      unfold aft
      (repeat first | refine gS ?_ | refine gA fun _ => ?_ | refine gX fun _ _ => ?_ | refine gT ?_ | refine gF ?_ | refine gI ?_)
      refine fd (a := dfo dl) (E_done1 ?_)
      refine fd (a := sls cS 9 1 sv zs) ?_
      have hz : zs.Perm (kv.map (·.1)) := by simpa using hφ
      have hl : zs.length = kv.length := by have := hz.length_eq; simpa using this
      refine E_sortS sortOkS (by omega) ?_
      refine fd (a := dit kL o it r kv [] none) (E_idone ?_)
      refine sm (h sv zs hz)
    · (repeat first | refine gS ?_ | refine gA fun _ => ?_ | refine gX fun _ _ => ?_ | refine gT ?_ | refine gF ?_ | refine gI ?_)
      refine E_dentry (κ := List UInt8) ?_
      (repeat first | refine gS ?_ | refine gA fun _ => ?_ | refine gX fun _ _ => ?_ | refine gT ?_ | refine gF ?_ | refine gI ?_)
      refine fd (a := lpo l L .ready .nrm) (hY _ _ _ rfl ?_)
      refine E_begun ?_
      (repeat first | refine gS ?_ | refine gA fun _ => ?_ | refine gX fun _ _ => ?_ | refine gT ?_ | refine gF ?_ | refine gI ?_)
      refine fd (a := sls cS 9 1 sv zs) ?_
      have hl : zs.length + rest.length = kv.length := by have := hφ.length_eq; simpa using this
      have hr : rest.length = rest'.length + 1 := by simpa using hp.length_eq
      refine E_sapp1 (enc := cS) p.1 u_strs elt_string rfl (by decide) (by omega) (by omega) fun v' _ => ?_
      (repeat first | refine gS ?_ | refine gA fun _ => ?_ | refine gX fun _ _ => ?_ | refine gT ?_ | refine gF ?_ | refine gI ?_)
      refine fd (a := lpo l L .busy .nrm) (E_ended ?_)
      refine E_notb ?_
      refine E_ff ?_
      show E _ _ (K _ _)
      have h1 := (hp.map (·.1)).append_left zs
      have hk' := hk (rest', some p, zs ++ [p.1], v') ⟨by simpa using h1.symm.trans hφ, CellI.pf⟩ (by simp [hr])
      simp only at hk'
      exact sm hk'
theorem sortS_sorted (l : List (List UInt8)) : (sortS l).Pairwise (· ≤ ·) := by
  have h : (sortS l).Pairwise fun x y => decide (x ≤ y) = true := by
    refine List.pairwise_mergeSort (fun a b c h1 h2 => ?_) (fun a b => ?_) l
    · simp only [decide_eq_true_eq] at *
      exact List.le_trans h1 h2
    · simp only [Bool.or_eq_true, decide_eq_true_eq]
      exact List.le_total a b
  exact h.imp fun h => by simpa using h
/-- Names, sorted, are those of one sorted list with as many. -/
theorem sortS_eq {l s : List (List UInt8)} (hp : l.Perm s) (hs : s.Pairwise (· < ·)) : sortS l = s := by
  have h1 := sortS_sorted l
  have hpm : (sortS l).Perm s := (List.mergeSort_perm l _).trans hp
  refine List.Perm.eq_of_pairwise (le := fun a b => a ≤ b) (fun a b _ _ h h' => List.le_antisymm h h') h1 (hs.imp fun h => List.le_of_lt h) hpm
end Go.Proofs.YtabpaknfenpkoaaGreat.Mod
