/-
  The disk's small methods.
-/
import Derived.Test.YtfholicobkpilaaDiskB
set_option linter.unusedSimpArgs false
set_option linter.unusedVariables false
set_option linter.unusedSectionVars false
namespace Go.Proofs.Ytfholicobkpilaa.Disk
open Go Go.SL Go.Proofs Go.Proofs.Ytfholicobkpilaa.Sh
attribute [local irreducible] S.pick S.ld S.ldN S.st S.box S.nc S.fad S.ixS S.ixA S.chr S.prt S.ext S.bin S.sh S.sbin S.beq S.neg1 S.com1 S.not1 S.cvt S.str1 S.lenS S.len S.cap S.lenM S.mx S.mn S.mkM S.cond S.gd S.fa S.dr S.rck S.join S.loop S.cvv S.eqv S.slc S.slcS S.b2s S.lk V U CF Gives E cel mpb osl ros dct dit itr lpo dfo
attribute [local irreducible] disk
variable {B : World} {H : List Asrt} {K : Value → WT}
abbrev ptr (a : Nat) : Value := .pointer (some ⟨a, 0, none⟩)

theorem powered {a : Nat} {D : Dk} {i : Int} (h : E B (disk a D :: H) (K (I (D.pow i)))) : E B (disk a D :: H) (CF Try.prog 46 [ptr a, I i] K) := by
  refine E_disk fun b cap m vs sp kv L hr hle hsl => ?_
  have h' := E_disks (H := H) hr hle hsl rfl rfl rfl rfl (b := b) (m := m) h
  unfold Dk.pow at h'
  refine E_mono (W := s46 _ _ K) ?_ fun _ => c46
  unfold s46
  refine E_peq u_pDisk ?_
  (repeat (first | (refine E_ld ?_) | (refine E_fad0 ?_) | (refine E_fad ?_) | (refine E_nc ?_) | (refine E_tt ?_) | (refine E_ff ?_) | (refine E_st ?_) | (refine E_len ?_) | (refine E_lenS ?_) | (refine E_box fun _ => ?_) | (refine E_eql ?_) | (refine E_neq ?_) | (refine E_lss ?_) | (refine E_leq ?_) | (refine E_gtr ?_) | (refine E_geq ?_) | (refine E_ext ?_) | (refine E_prt ?_) | (refine E_mx ?_) | (refine E_mn ?_) | (refine E_cap ?_) | (refine E_gdu ?_) | (refine E_fa fun _ => ?_) | (refine E_dr ?_) | (refine E_nc_f ?_) | (refine E_nc_i ?_) | (refine E_not ?_) | (refine E_str1 ?_) | (refine E_rck0 ?_) | (refine E_gff ?_) | (refine E_gtt ?_) | (refine E_gft ?_) | (refine E_gtf ?_) | (refine E_pff ?_) | (refine E_ptt ?_) | (refine E_ifT (by assumption) ?_) | (refine E_ifF (by assumption) ?_) | (refine E_gdT (by assumption) ?_) | (refine E_gdF (by assumption) ?_) | (refine E_gdnT (by assumption) ?_) | (refine E_gdnF (by assumption) ?_) | (refine E_pickT (by assumption) ?_) | (refine E_pickF (by assumption) ?_) | (refine E_ifT (by decide) ?_) | (refine E_ifF (by decide) ?_) | (refine E_gdT (by decide) ?_) | (refine E_gdF (by decide) ?_) | (refine E_gdnT (by decide) ?_) | (refine E_gdnF (by decide) ?_) | (refine E_pickT (by decide) ?_) | (refine E_pickF (by decide) ?_) | (refine E_addI (by omega) (by omega) ?_) | (refine E_subI (by omega) (by omega) ?_) | (refine E_mulI (by omega) (by omega) ?_)))
  refine E_ifb (fun hd => ?_) (fun hd => ?_)
  · rw [if_pos hd] at h'
    rw [hd] at h' ⊢
    exact h'
  · have hd' : ¬ D.down = true := by simp [hd]
    rw [if_neg hd'] at h'
    rw [hd] at h' ⊢
    refine E_join0 ?_
    (repeat (first | (refine E_ld ?_) | (refine E_fad0 ?_) | (refine E_fad ?_) | (refine E_nc ?_) | (refine E_tt ?_) | (refine E_ff ?_) | (refine E_st ?_) | (refine E_len ?_) | (refine E_lenS ?_) | (refine E_box fun _ => ?_) | (refine E_eql ?_) | (refine E_neq ?_) | (refine E_lss ?_) | (refine E_leq ?_) | (refine E_gtr ?_) | (refine E_geq ?_) | (refine E_ext ?_) | (refine E_prt ?_) | (refine E_mx ?_) | (refine E_mn ?_) | (refine E_cap ?_) | (refine E_gdu ?_) | (refine E_fa fun _ => ?_) | (refine E_dr ?_) | (refine E_nc_f ?_) | (refine E_nc_i ?_) | (refine E_not ?_) | (refine E_str1 ?_) | (refine E_rck0 ?_) | (refine E_gff ?_) | (refine E_gtt ?_) | (refine E_gft ?_) | (refine E_gtf ?_) | (refine E_pff ?_) | (refine E_ptt ?_) | (refine E_ifT (by assumption) ?_) | (refine E_ifF (by assumption) ?_) | (refine E_gdT (by assumption) ?_) | (refine E_gdF (by assumption) ?_) | (refine E_gdnT (by assumption) ?_) | (refine E_gdnF (by assumption) ?_) | (refine E_pickT (by assumption) ?_) | (refine E_pickF (by assumption) ?_) | (refine E_ifT (by decide) ?_) | (refine E_ifF (by decide) ?_) | (refine E_gdT (by decide) ?_) | (refine E_gdF (by decide) ?_) | (refine E_gdnT (by decide) ?_) | (refine E_gdnF (by decide) ?_) | (refine E_pickT (by decide) ?_) | (refine E_pickF (by decide) ?_) | (refine E_addI (by omega) (by omega) ?_) | (refine E_subI (by omega) (by omega) ?_) | (refine E_mulI (by omega) (by omega) ?_)))
    by_cases hi : i < 0
    · (repeat (first | (refine E_ld ?_) | (refine E_fad0 ?_) | (refine E_fad ?_) | (refine E_nc ?_) | (refine E_tt ?_) | (refine E_ff ?_) | (refine E_st ?_) | (refine E_len ?_) | (refine E_lenS ?_) | (refine E_box fun _ => ?_) | (refine E_eql ?_) | (refine E_neq ?_) | (refine E_lss ?_) | (refine E_leq ?_) | (refine E_gtr ?_) | (refine E_geq ?_) | (refine E_ext ?_) | (refine E_prt ?_) | (refine E_mx ?_) | (refine E_mn ?_) | (refine E_cap ?_) | (refine E_gdu ?_) | (refine E_fa fun _ => ?_) | (refine E_dr ?_) | (refine E_nc_f ?_) | (refine E_nc_i ?_) | (refine E_not ?_) | (refine E_str1 ?_) | (refine E_rck0 ?_) | (refine E_gff ?_) | (refine E_gtt ?_) | (refine E_gft ?_) | (refine E_gtf ?_) | (refine E_pff ?_) | (refine E_ptt ?_) | (refine E_ifT (by assumption) ?_) | (refine E_ifF (by assumption) ?_) | (refine E_gdT (by assumption) ?_) | (refine E_gdF (by assumption) ?_) | (refine E_gdnT (by assumption) ?_) | (refine E_gdnF (by assumption) ?_) | (refine E_pickT (by assumption) ?_) | (refine E_pickF (by assumption) ?_) | (refine E_ifT (by decide) ?_) | (refine E_ifF (by decide) ?_) | (refine E_gdT (by decide) ?_) | (refine E_gdF (by decide) ?_) | (refine E_gdnT (by decide) ?_) | (refine E_gdnF (by decide) ?_) | (refine E_pickT (by decide) ?_) | (refine E_pickF (by decide) ?_) | (refine E_addI (by omega) (by omega) ?_) | (refine E_subI (by omega) (by omega) ?_) | (refine E_mulI (by omega) (by omega) ?_)))
      rw [if_pos (show D.out i from .inl hi)] at h'
      exact h'
    · (repeat (first | (refine E_ld ?_) | (refine E_fad0 ?_) | (refine E_fad ?_) | (refine E_nc ?_) | (refine E_tt ?_) | (refine E_ff ?_) | (refine E_st ?_) | (refine E_len ?_) | (refine E_lenS ?_) | (refine E_box fun _ => ?_) | (refine E_eql ?_) | (refine E_neq ?_) | (refine E_lss ?_) | (refine E_leq ?_) | (refine E_gtr ?_) | (refine E_geq ?_) | (refine E_ext ?_) | (refine E_prt ?_) | (refine E_mx ?_) | (refine E_mn ?_) | (refine E_cap ?_) | (refine E_gdu ?_) | (refine E_fa fun _ => ?_) | (refine E_dr ?_) | (refine E_nc_f ?_) | (refine E_nc_i ?_) | (refine E_not ?_) | (refine E_str1 ?_) | (refine E_rck0 ?_) | (refine E_gff ?_) | (refine E_gtt ?_) | (refine E_gft ?_) | (refine E_gtf ?_) | (refine E_pff ?_) | (refine E_ptt ?_) | (refine E_ifT (by assumption) ?_) | (refine E_ifF (by assumption) ?_) | (refine E_gdT (by assumption) ?_) | (refine E_gdF (by assumption) ?_) | (refine E_gdnT (by assumption) ?_) | (refine E_gdnF (by assumption) ?_) | (refine E_pickT (by assumption) ?_) | (refine E_pickF (by assumption) ?_) | (refine E_ifT (by decide) ?_) | (refine E_ifF (by decide) ?_) | (refine E_gdT (by decide) ?_) | (refine E_gdF (by decide) ?_) | (refine E_gdnT (by decide) ?_) | (refine E_gdnF (by decide) ?_) | (refine E_pickT (by decide) ?_) | (refine E_pickF (by decide) ?_) | (refine E_addI (by omega) (by omega) ?_) | (refine E_subI (by omega) (by omega) ?_) | (refine E_mulI (by omega) (by omega) ?_)))
      refine E_if (fun hc => ?_) (fun hc => ?_)
      · rw [if_pos (show D.out i from .inr hc)] at h'
        exact h'
      · rw [if_neg (show ¬ D.out i from fun ho => by unfold Dk.out at ho; omega)] at h'
        exact h'

theorem powered_nil {i : Value} (h : E B H (K (I 1))) : E B H (CF Try.prog 46 [.pointer none, i] K) := by
  refine E_mono (W := s46 _ _ K) ?_ fun _ => c46
  unfold s46
  refine E_peq0 u_pDisk ?_
  (repeat (first | (refine E_ld ?_) | (refine E_fad0 ?_) | (refine E_fad ?_) | (refine E_nc ?_) | (refine E_tt ?_) | (refine E_ff ?_) | (refine E_st ?_) | (refine E_len ?_) | (refine E_lenS ?_) | (refine E_box fun _ => ?_) | (refine E_eql ?_) | (refine E_neq ?_) | (refine E_lss ?_) | (refine E_leq ?_) | (refine E_gtr ?_) | (refine E_geq ?_) | (refine E_ext ?_) | (refine E_prt ?_) | (refine E_mx ?_) | (refine E_mn ?_) | (refine E_cap ?_) | (refine E_gdu ?_) | (refine E_fa fun _ => ?_) | (refine E_dr ?_) | (refine E_nc_f ?_) | (refine E_nc_i ?_) | (refine E_not ?_) | (refine E_str1 ?_) | (refine E_rck0 ?_) | (refine E_gff ?_) | (refine E_gtt ?_) | (refine E_gft ?_) | (refine E_gtf ?_) | (refine E_pff ?_) | (refine E_ptt ?_) | (refine E_ifT (by assumption) ?_) | (refine E_ifF (by assumption) ?_) | (refine E_gdT (by assumption) ?_) | (refine E_gdF (by assumption) ?_) | (refine E_gdnT (by assumption) ?_) | (refine E_gdnF (by assumption) ?_) | (refine E_pickT (by assumption) ?_) | (refine E_pickF (by assumption) ?_) | (refine E_ifT (by decide) ?_) | (refine E_ifF (by decide) ?_) | (refine E_gdT (by decide) ?_) | (refine E_gdF (by decide) ?_) | (refine E_gdnT (by decide) ?_) | (refine E_gdnF (by decide) ?_) | (refine E_pickT (by decide) ?_) | (refine E_pickF (by decide) ?_) | (refine E_addI (by omega) (by omega) ?_) | (refine E_subI (by omega) (by omega) ?_) | (refine E_mulI (by omega) (by omega) ?_)))
  exact h

theorem trips {a : Nat} {D : Dk} {f : Value} (h1 : D.trip = 1 → E B (disk a D.gone :: H) (K (I 7))) (h2 : D.trip ≠ 1 → E B (disk a D.tick :: H) (S.cvv Try.prog f [] fun _ => K (I 0))) :
    E B (disk a D :: H) (CF Try.prog 48 [ptr a, f] K) := by
  refine E_disk fun b cap m vs sp kv L hr hle hsl => ?_
  have t1 := hr.ok.t1
  have t2 := hr.ok.t2
  refine E_mono (W := s48 _ _ K) ?_ fun _ => c48
  unfold s48
  (repeat (first | (refine E_ld ?_) | (refine E_fad0 ?_) | (refine E_fad ?_) | (refine E_nc ?_) | (refine E_tt ?_) | (refine E_ff ?_) | (refine E_st ?_) | (refine E_len ?_) | (refine E_lenS ?_) | (refine E_box fun _ => ?_) | (refine E_eql ?_) | (refine E_neq ?_) | (refine E_lss ?_) | (refine E_leq ?_) | (refine E_gtr ?_) | (refine E_geq ?_) | (refine E_ext ?_) | (refine E_prt ?_) | (refine E_mx ?_) | (refine E_mn ?_) | (refine E_cap ?_) | (refine E_gdu ?_) | (refine E_fa fun _ => ?_) | (refine E_dr ?_) | (refine E_nc_f ?_) | (refine E_nc_i ?_) | (refine E_not ?_) | (refine E_str1 ?_) | (refine E_rck0 ?_) | (refine E_gff ?_) | (refine E_gtt ?_) | (refine E_gft ?_) | (refine E_gtf ?_) | (refine E_pff ?_) | (refine E_ptt ?_) | (refine E_ifT (by assumption) ?_) | (refine E_ifF (by assumption) ?_) | (refine E_gdT (by assumption) ?_) | (refine E_gdF (by assumption) ?_) | (refine E_gdnT (by assumption) ?_) | (refine E_gdnF (by assumption) ?_) | (refine E_pickT (by assumption) ?_) | (refine E_pickF (by assumption) ?_) | (refine E_ifT (by decide) ?_) | (refine E_ifF (by decide) ?_) | (refine E_gdT (by decide) ?_) | (refine E_gdF (by decide) ?_) | (refine E_gdnT (by decide) ?_) | (refine E_gdnF (by decide) ?_) | (refine E_pickT (by decide) ?_) | (refine E_pickF (by decide) ?_) | (refine E_addI (by omega) (by omega) ?_) | (refine E_subI (by omega) (by omega) ?_) | (refine E_mulI (by omega) (by omega) ?_)))
  refine E_if (fun hc => ?_) (fun hc => ?_)
  · (repeat (first | (refine E_ld ?_) | (refine E_fad0 ?_) | (refine E_fad ?_) | (refine E_nc ?_) | (refine E_tt ?_) | (refine E_ff ?_) | (refine E_st ?_) | (refine E_len ?_) | (refine E_lenS ?_) | (refine E_box fun _ => ?_) | (refine E_eql ?_) | (refine E_neq ?_) | (refine E_lss ?_) | (refine E_leq ?_) | (refine E_gtr ?_) | (refine E_geq ?_) | (refine E_ext ?_) | (refine E_prt ?_) | (refine E_mx ?_) | (refine E_mn ?_) | (refine E_cap ?_) | (refine E_gdu ?_) | (refine E_fa fun _ => ?_) | (refine E_dr ?_) | (refine E_nc_f ?_) | (refine E_nc_i ?_) | (refine E_not ?_) | (refine E_str1 ?_) | (refine E_rck0 ?_) | (refine E_gff ?_) | (refine E_gtt ?_) | (refine E_gft ?_) | (refine E_gtf ?_) | (refine E_pff ?_) | (refine E_ptt ?_) | (refine E_ifT (by assumption) ?_) | (refine E_ifF (by assumption) ?_) | (refine E_gdT (by assumption) ?_) | (refine E_gdF (by assumption) ?_) | (refine E_gdnT (by assumption) ?_) | (refine E_gdnF (by assumption) ?_) | (refine E_pickT (by assumption) ?_) | (refine E_pickF (by assumption) ?_) | (refine E_ifT (by decide) ?_) | (refine E_ifF (by decide) ?_) | (refine E_gdT (by decide) ?_) | (refine E_gdF (by decide) ?_) | (refine E_gdnT (by decide) ?_) | (refine E_gdnF (by decide) ?_) | (refine E_pickT (by decide) ?_) | (refine E_pickF (by decide) ?_) | (refine E_addI (by omega) (by omega) ?_) | (refine E_subI (by omega) (by omega) ?_) | (refine E_mulI (by omega) (by omega) ?_)))
    have ht : D.trip = 1 := by omega
    refine E_same (by repeat (first | exact Same.refl | (refine Same.cons (by repeat (first | exact Find.here | apply Find.there)) ?_) | (refine Same.drop ?_))) (E_disks (D := D.gone) (n := D.S.length) ⟨hr.len, hr.sur, hr.las, hr.nol, hr.dom, hr.nod, ⟨hr.ok.n1, hr.ok.n2, by simp [Dk.gone], by simp [Dk.gone], hr.ok.len⟩⟩ hle hsl rfl ?_ rfl rfl (h1 ht))
    simp [Dk.gone]; omega
  · have ht : D.trip ≠ 1 := by omega
    (repeat (first | (refine E_ld ?_) | (refine E_fad0 ?_) | (refine E_fad ?_) | (refine E_nc ?_) | (refine E_tt ?_) | (refine E_ff ?_) | (refine E_st ?_) | (refine E_len ?_) | (refine E_lenS ?_) | (refine E_box fun _ => ?_) | (refine E_eql ?_) | (refine E_neq ?_) | (refine E_lss ?_) | (refine E_leq ?_) | (refine E_gtr ?_) | (refine E_geq ?_) | (refine E_ext ?_) | (refine E_prt ?_) | (refine E_mx ?_) | (refine E_mn ?_) | (refine E_cap ?_) | (refine E_gdu ?_) | (refine E_fa fun _ => ?_) | (refine E_dr ?_) | (refine E_nc_f ?_) | (refine E_nc_i ?_) | (refine E_not ?_) | (refine E_str1 ?_) | (refine E_rck0 ?_) | (refine E_gff ?_) | (refine E_gtt ?_) | (refine E_gft ?_) | (refine E_gtf ?_) | (refine E_pff ?_) | (refine E_ptt ?_) | (refine E_ifT (by assumption) ?_) | (refine E_ifF (by assumption) ?_) | (refine E_gdT (by assumption) ?_) | (refine E_gdF (by assumption) ?_) | (refine E_gdnT (by assumption) ?_) | (refine E_gdnF (by assumption) ?_) | (refine E_pickT (by assumption) ?_) | (refine E_pickF (by assumption) ?_) | (refine E_ifT (by decide) ?_) | (refine E_ifF (by decide) ?_) | (refine E_gdT (by decide) ?_) | (refine E_gdF (by decide) ?_) | (refine E_gdnT (by decide) ?_) | (refine E_gdnF (by decide) ?_) | (refine E_pickT (by decide) ?_) | (refine E_pickF (by decide) ?_) | (refine E_addI (by omega) (by omega) ?_) | (refine E_subI (by omega) (by omega) ?_) | (refine E_mulI (by omega) (by omega) ?_)))
    exact E_same (by repeat (first | exact Same.refl | (refine Same.cons (by repeat (first | exact Find.here | apply Find.there)) ?_) | (refine Same.drop ?_))) (E_disks (D := D.tick) (n := D.S.length) ⟨hr.len, hr.sur, hr.las, hr.nol, hr.dom, hr.nod, ⟨hr.ok.n1, hr.ok.n2, by simp only [Dk.tick]; omega, by simp only [Dk.tick]; omega, hr.ok.len⟩⟩ hle hsl rfl rfl rfl rfl (h2 ht))

/-! ### plain facts of how it lies -/
theorem DRep.keys {D : Dk} {vs : List Value} {kv : List (Int × Value)} {L : List (Value × List UInt8)} (hr : DRep D vs kv L) : (kv.map (·.1)).Perm D.dirty := by
  unfold Dk.dirty
  rw [List.perm_ext_iff_of_nodup hr.nod (dirty_sorted.imp fun h => by omega)]
  intro k
  rw [mem_dirty]
  constructor
  · intro hk
    obtain ⟨i, s, rfl, hs⟩ := hr.dom k hk
    refine ⟨i, s, by simp, hs, ?_⟩
    cases hl : s.last with
    | some b => rfl
    | none => exact absurd hk (lookup_none.1 (hr.nol i s hs hl))
  · rintro ⟨i, s, rfl, hs, hl⟩
    obtain ⟨b, hb⟩ := Option.isSome_iff_exists.1 hl
    obtain ⟨v, hv, _⟩ := hr.las i s b hs hb
    simp only [Nat.zero_add]
    exact List.mem_map.2 ⟨_, lookup_mem hv, rfl⟩
theorem DRep.kvlen {D : Dk} {vs : List Value} {kv : List (Int × Value)} {L : List (Value × List UInt8)} (hr : DRep D vs kv L) : kv.length = D.dirty.length := by
  have := hr.keys.length_eq; simpa using this
theorem DRep.sub {D : Dk} {vs : List Value} {kv : List (Int × Value)} {L L' : List (Value × List UInt8)} (hr : DRep D vs kv L) (hs : ∀ p ∈ L, p ∈ L') : DRep D vs kv L' :=
  ⟨hr.len, fun i s h => let ⟨v, a, b, c⟩ := hr.sur i s h; ⟨v, a, b, hs _ c⟩, fun i s b h h' => let ⟨v, a, e, c⟩ := hr.las i s b h h'; ⟨v, a, e, hs _ c⟩, hr.nol, hr.dom, hr.nod, hr.ok⟩
theorem DRep.clean {D : Dk} {vs : List Value} {kv : List (Int × Value)} {L : List (Value × List UInt8)} (hr : DRep D vs kv L) {i : Nat} {s' : Sec} {v : Value} (hi : i < D.S.length) (hl : s'.last = none) (hn : s'.sure.length = 128)
    (hv : (v, s'.sure) ∈ L) (hc : CellI v) : DRep { D with S := D.S.set i s' } (vs.set i v) (ddel kv (i : Int)) L := by
  have get : ∀ (j : Nat) (s : Sec), (D.S.set i s')[j]? = some s → (j = i ∧ s = s') ∨ (j ≠ i ∧ D.S[j]? = some s) := fun j s h => by
    by_cases hj : j = i
    · subst hj; rw [List.getElem?_set_self hi] at h; exact .inl ⟨rfl, (Option.some.inj h).symm⟩
    · rw [List.getElem?_set_ne (Ne.symm hj)] at h; exact .inr ⟨hj, h⟩
  refine ⟨by simp [hr.len], fun j s h => ?_, fun j s b h hb => ?_, fun j s h hb => ?_, fun k hk => ?_, ddel_nodup hr.nod, ?_⟩
  · rcases get j s h with ⟨rfl, rfl⟩ | ⟨hj, h⟩
    · exact ⟨v, List.getElem?_set_self (by rw [hr.len]; exact hi), hc, hv⟩
    · obtain ⟨u, a, b, c⟩ := hr.sur j s h
      exact ⟨u, by rw [List.getElem?_set_ne (Ne.symm hj)]; exact a, b, c⟩
  · rcases get j s h with ⟨rfl, rfl⟩ | ⟨hj, h⟩
    · rw [hl] at hb; cases hb
    · obtain ⟨u, a, e, c⟩ := hr.las j s b h hb
      exact ⟨u, by rw [lookup_ddel, if_neg (by omega)]; exact a, e, c⟩
  · rcases get j s h with ⟨rfl, rfl⟩ | ⟨hj, h⟩
    · rw [lookup_ddel, if_pos rfl]
    · rw [lookup_ddel, if_neg (by omega)]; exact hr.nol j s h hb
  · obtain ⟨p, hp, rfl⟩ := List.mem_map.1 hk
    obtain ⟨h1, h2⟩ := List.mem_filter.1 hp
    obtain ⟨j, s, hj, hs⟩ := hr.dom p.1 (List.mem_map.2 ⟨p, h1, rfl⟩)
    have hne : j ≠ i := fun e => by subst e; simp [hj] at h2
    exact ⟨j, s, hj, by rw [List.getElem?_set_ne (Ne.symm hne)]; exact hs⟩
  · refine ⟨by simpa using hr.ok.n1, by simpa using hr.ok.n2, hr.ok.t1, hr.ok.t2, fun s hs => ?_⟩
    rcases List.mem_or_eq_of_mem_set hs with hs | rfl
    · exact hr.ok.len s hs
    · exact ⟨hn, fun b hb => by rw [hl] at hb; cases hb⟩
theorem DRep.dirt {D : Dk} {vs : List Value} {kv : List (Int × Value)} {L : List (Value × List UInt8)} (hr : DRep D vs kv L) {i : Nat} {s : Sec} {v : Value} {b : List UInt8} (hi : D.S[i]? = some s) (hn : b.length = 128)
    (hv : (v, b) ∈ L) (hc : CellI v) : DRep { D with S := D.S.set i { s with last := some b } } vs (dput kv (i : Int) v) L := by
  have hlt : i < D.S.length := (List.getElem?_eq_some_iff.1 hi).1
  have get : ∀ (j : Nat) (x : Sec), (D.S.set i { s with last := some b })[j]? = some x → (j = i ∧ x = { s with last := some b }) ∨ (j ≠ i ∧ D.S[j]? = some x) := fun j x h => by
    by_cases hj : j = i
    · subst hj; rw [List.getElem?_set_self hlt] at h; exact .inl ⟨rfl, (Option.some.inj h).symm⟩
    · rw [List.getElem?_set_ne (Ne.symm hj)] at h; exact .inr ⟨hj, h⟩
  refine ⟨by simp [hr.len], fun j x h => ?_, fun j x b' h hb => ?_, fun j x h hb => ?_, fun k hk => ?_, dput_nodup hr.nod, ?_⟩
  · rcases get j x h with ⟨rfl, rfl⟩ | ⟨hj, h⟩
    · exact hr.sur j s hi
    · exact hr.sur j x h
  · rcases get j x h with ⟨rfl, rfl⟩ | ⟨hj, h⟩
    · cases hb
      exact ⟨v, by rw [lookup_dput, if_pos rfl], hc, hv⟩
    · obtain ⟨u, a, e, c⟩ := hr.las j x b' h hb
      exact ⟨u, by rw [lookup_dput, if_neg (by omega)]; exact a, e, c⟩
  · rcases get j x h with ⟨rfl, rfl⟩ | ⟨hj, h⟩
    · cases hb
    · rw [lookup_dput, if_neg (by omega)]; exact hr.nol j x h hb
  · have hex : ∀ j, j < D.S.length → ∃ x, (D.S.set i { s with last := some b })[j]? = some x := fun j hj => ⟨_, List.getElem?_eq_getElem (by simpa using hj)⟩
    rw [dput_keys] at hk
    have : k ∈ kv.map (·.1) ∨ k = (i : Int) := by
      split at hk
      · exact .inl hk
      · rcases List.mem_append.1 hk with hk | hk
        · exact .inl hk
        · exact .inr (by simpa using hk)
    rcases this with hk | rfl
    · obtain ⟨j, x, rfl, hx⟩ := hr.dom k hk
      obtain ⟨x', hx'⟩ := hex j (List.getElem?_eq_some_iff.1 hx).1
      exact ⟨j, x', rfl, hx'⟩
    · obtain ⟨x', hx'⟩ := hex i hlt
      exact ⟨i, x', rfl, hx'⟩
  · refine ⟨by simpa using hr.ok.n1, by simpa using hr.ok.n2, hr.ok.t1, hr.ok.t2, fun x hx => ?_⟩
    rcases List.mem_or_eq_of_mem_set hx with hx | rfl
    · exact hr.ok.len x hx
    · exact ⟨(hr.ok.len s (List.mem_of_getElem? hi)).1, fun b' hb => by cases hb; exact hn⟩
end Go.Proofs.Ytfholicobkpilaa.Disk
