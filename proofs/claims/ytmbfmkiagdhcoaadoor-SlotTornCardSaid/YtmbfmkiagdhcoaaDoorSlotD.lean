/-
  Whether a cell is blank: bytes told as letters, where the first that is not nought is under 128.
-/
import Derived.Test.YtmbfmkiagdhcoaaDoorSlotC
set_option linter.unusedSimpArgs false
set_option linter.unusedVariables false
set_option linter.unusedSectionVars false
namespace Go.Proofs.YtmbfmkiagdhcoaaDoor.Slot
open Go Go.SL Go.Proofs Go.Proofs.YtmbfmkiagdhcoaaDoor.Sh Go.Proofs.YtmbfmkiagdhcoaaDoor.Oct Go.Proofs.YtmbfmkiagdhcoaaDoor.Disk
variable {B : World} {H : List Asrt} {K : Value → WT} {W : WT}
def Ah (bs : List UInt8) : Prop := ∀ (i : Nat) (b : UInt8), bs[i]? = some b → (∀ j, j < i → bs[j]? = some 0) → b.toNat < 128
theorem ah_zero {bs : List UInt8} (h : ∀ b ∈ bs, b = 0) : Ah bs := fun i b hb _ => by
  rw [h b (List.mem_of_getElem? hb)]; decide
theorem E_beqI {a b : Bool} (h : E B H (K (.bool (a == b)))) : E B H (S.beq .eql (.bool a) (.bool b) K) := fun w hw => by
  unfold S.beq
  exact h w hw
attribute [local irreducible] S.pick S.ld S.ldN S.st S.box S.nc S.fad S.ixS S.ixA S.chr S.prt S.ext S.bin S.sh S.sbin S.beq S.neg1 S.com1 S.not1 S.cvt S.str1 S.lenS S.len S.cap S.lenM S.mx S.mn S.mkM S.cond S.gd S.fa S.dr S.rck S.join S.loop S.cvv S.eqv S.slc S.slcS S.b2s S.lk V U CF Gives E cel mpb osl ros dct dit itr lpo dfo
attribute [local irreducible] sls disk
set_option maxRecDepth 4000
theorem decodeRune {v : Value} {bs : List UInt8} {b : UInt8} [Rb B H v bs] (hb : bs[0]? = some b) (h7 : b.toNat < 128) (h : E B H (K (.tuple #[.int .i32 (b.toNat : Int), I 1]))) : E B H (CF Tryd.prog 54 [v] K) := by
  refine E_mono (W := s54 _ K) ?_ fun _ => c54
  unfold s54
  have hl : 0 < bs.length := (List.getElem?_eq_some_iff.1 hb).1
  refine E_join0 ?_
  refine E_rslen (v := v) ?_
  refine E_loop (σ := Unit) (fun _ => True) (fun _ => [v, v, I bs.length, I 0]) (fun _ => H) (fun _ => 0) () (fun _ => rfl) rfl trivial (fun W hW => hW) ?_
  intro _ K0 _ hk
  refine E_fa fun _ => ?_
  (repeat (first | (refine E_ld ?_) | (refine E_fad0 ?_) | (refine E_fad ?_) | (refine E_nc ?_) | (refine E_tt ?_) | (refine E_ff ?_) | (refine E_st ?_) | (refine E_len ?_) | (refine E_lenstr ?_) | (refine E_lenS ?_) | (refine E_box fun _ => ?_) | (refine E_eql ?_) | (refine E_neq ?_) | (refine E_lss ?_) | (refine E_leq ?_) | (refine E_gtr ?_) | (refine E_geq ?_) | (refine E_ext ?_) | (refine E_prt ?_) | (refine E_mx ?_) | (refine E_mn ?_) | (refine E_cap ?_) | (refine E_gdu ?_) | (refine E_fa fun _ => ?_) | (refine E_dr ?_) | (refine E_nc_f ?_) | (refine E_nc_i ?_) | (refine E_not ?_) | (refine E_str1 ?_) | (refine E_rck0 ?_) | (refine E_gff ?_) | (refine E_gtt ?_) | (refine E_gft ?_) | (refine E_gtf ?_) | (refine E_pff ?_) | (refine E_ptt ?_) | (refine E_streqS ?_) | (refine E_strneS ?_) | (refine E_streq ?_) | (refine E_strne ?_) | (refine E_stA ?_) | (refine E_ldNA ?_) | (refine E_ptfad0 fun _ _ => ?_) | (refine E_ptfad fun _ _ => ?_) | (refine E_ptld ?_) | (refine E_ptldA ?_) | (refine E_rsix (by assumption) fun _ _ => ?_) | (refine E_rslen ?_) | (refine E_ifT (by assumption) ?_) | (refine E_ifF (by assumption) ?_) | (refine E_gdT (by assumption) ?_) | (refine E_gdF (by assumption) ?_) | (refine E_gdnT (by assumption) ?_) | (refine E_gdnF (by assumption) ?_) | (refine E_pickT (by assumption) ?_) | (refine E_pickF (by assumption) ?_) | (refine E_ifT (by decide) ?_) | (refine E_ifF (by decide) ?_) | (refine E_gdT (by decide) ?_) | (refine E_gdF (by decide) ?_) | (refine E_gdnT (by decide) ?_) | (refine E_gdnF (by decide) ?_) | (refine E_pickT (by decide) ?_) | (refine E_pickF (by decide) ?_) | (refine E_ixN (by omega) ?_) | (refine E_ld' (by assumption) ?_) | (refine E_addI (by omega) (by omega) ?_) | (refine E_subI (by omega) (by omega) ?_) | (refine E_mulI (by omega) (by omega) ?_)))
  refine E_ifT (by omega) ?_
  refine E_rsix (v := v) (i := 0) hb fun _ _ => ?_
  refine E_ptld ?_
  refine E_lss ?_
  refine E_ifT (by omega) ?_
  refine E_cvt ?_
  have e : IntKind.wrap .i32 (b.toNat : Int) = (b.toNat : Int) := by
    unfold IntKind.wrap
    simp [IntKind.signed, IntKind.bits]
    omega
  rw [e]
  exact h
theorem indexFunc {v : Value} {bs : List UInt8} [Rb B H v bs] (ha : Ah bs) (hm : bs.length ≤ 9223372036854775807) (h : ∀ n : Int, (0 ≤ n ↔ ∃ b ∈ bs, b ≠ 0) → E B H (K (I n))) : E B H (CF Tryd.prog 50 [v, .func (.func 39) #[] #[], .bool true] K) := by
  refine E_mono (W := s50 _ _ _ K) ?_ fun _ => c50
  unfold s50
  refine E_loop (σ := Nat) (fun i => i ≤ bs.length ∧ ∀ j, j < i → bs[j]? = some 0) (fun i => [v, .func (.func 39) #[] #[], .bool true, I i]) (fun _ => H) (fun i => bs.length - i) 0 (fun _ => rfl) rfl ⟨Nat.zero_le _, by omega⟩ (fun W hW => hW) ?_
  rintro i K0 ⟨hi, hz⟩ hk
  refine E_fa fun _ => ?_
  refine E_rslen (v := v) ?_
  refine E_lss ?_
  refine E_if (fun hc => ?_) (fun hc => ?_)
  · have hs : bs[i]? = some bs[i] := List.getElem?_eq_getElem (by omega)
    generalize bs[i] = x at hs
    refine E_slcB (v := v) (l := i) (hh := bs.length) (by simp [S.bound]) bound_nat hi (Nat.le_refl _) fun u _ _ => ?_
    have hx0 : ((bs.drop i).take (bs.length - i))[0]? = some x := by
      rw [List.getElem?_take_of_lt (by omega), List.getElem?_drop]; exact hs
    refine decodeRune (v := u) hx0 (ha i x hs hz) ?_
    (repeat (first | (refine E_ld ?_) | (refine E_fad0 ?_) | (refine E_fad ?_) | (refine E_nc ?_) | (refine E_tt ?_) | (refine E_ff ?_) | (refine E_st ?_) | (refine E_len ?_) | (refine E_lenstr ?_) | (refine E_lenS ?_) | (refine E_box fun _ => ?_) | (refine E_eql ?_) | (refine E_neq ?_) | (refine E_lss ?_) | (refine E_leq ?_) | (refine E_gtr ?_) | (refine E_geq ?_) | (refine E_ext ?_) | (refine E_prt ?_) | (refine E_mx ?_) | (refine E_mn ?_) | (refine E_cap ?_) | (refine E_gdu ?_) | (refine E_fa fun _ => ?_) | (refine E_dr ?_) | (refine E_nc_f ?_) | (refine E_nc_i ?_) | (refine E_not ?_) | (refine E_str1 ?_) | (refine E_rck0 ?_) | (refine E_gff ?_) | (refine E_gtt ?_) | (refine E_gft ?_) | (refine E_gtf ?_) | (refine E_pff ?_) | (refine E_ptt ?_) | (refine E_streqS ?_) | (refine E_strneS ?_) | (refine E_streq ?_) | (refine E_strne ?_) | (refine E_stA ?_) | (refine E_ldNA ?_) | (refine E_ptfad0 fun _ _ => ?_) | (refine E_ptfad fun _ _ => ?_) | (refine E_ptld ?_) | (refine E_ptldA ?_) | (refine E_rsix (by assumption) fun _ _ => ?_) | (refine E_rslen ?_) | (refine E_ifT (by assumption) ?_) | (refine E_ifF (by assumption) ?_) | (refine E_gdT (by assumption) ?_) | (refine E_gdF (by assumption) ?_) | (refine E_gdnT (by assumption) ?_) | (refine E_gdnF (by assumption) ?_) | (refine E_pickT (by assumption) ?_) | (refine E_pickF (by assumption) ?_) | (refine E_ifT (by decide) ?_) | (refine E_ifF (by decide) ?_) | (refine E_gdT (by decide) ?_) | (refine E_gdF (by decide) ?_) | (refine E_gdnT (by decide) ?_) | (refine E_gdnF (by decide) ?_) | (refine E_pickT (by decide) ?_) | (refine E_pickF (by decide) ?_) | (refine E_ixN (by omega) ?_) | (refine E_ld' (by assumption) ?_) | (refine E_addI (by omega) (by omega) ?_) | (refine E_subI (by omega) (by omega) ?_) | (refine E_mulI (by omega) (by omega) ?_)))
    refine E_cvv (by kernel_rfl) ?_
    refine E_mono (W := s39 _ _) ?_ fun _ => c39
    unfold s39
    refine E_neq ?_
    refine E_beqI ?_
    by_cases hx : x = 0
    · subst hx
      refine E_ff ?_
      refine E_addI (by omega) (by omega) ?_
      exact hk (i + 1) ⟨by omega, fun j hj => by
        by_cases hj' : j = i
        · rw [hj', hs]
        · exact hz j (by omega)⟩ (by omega)
    · have hn : ((x.toNat : Int) ≠ 0) := by
        intro hh
        apply hx
        exact UInt8.toNat_inj.1 (by rw [show x.toNat = 0 by omega]; rfl)
      rw [decide_eq_true hn]
      refine E_tt ?_
      exact h i ⟨fun _ => ⟨x, List.mem_of_getElem? hs, hx⟩, fun _ => by omega⟩
  · refine h (-1) ⟨by omega, ?_⟩
    rintro ⟨b, hb, h0⟩
    obtain ⟨j, hj, rfl⟩ := List.getElem_of_mem hb
    have := hz j (by omega)
    rw [List.getElem?_eq_getElem hj] at this
    exact absurd (Option.some.inj this) h0
theorem containsFunc {v : Value} {bs : List UInt8} [Rb B H v bs] (ha : Ah bs) (hm : bs.length ≤ 9223372036854775807) (h : E B H (K (.bool (decide (∃ b ∈ bs, b ≠ 0))))) : E B H (CF Tryd.prog 38 [v, .func (.func 39) #[] #[]] K) := by
  refine E_mono (W := s38 _ _ K) ?_ fun _ => c38
  unfold s38
  refine E_mono (W := CF Tryd.prog 50 [v, .func (.func 39) #[] #[], .bool true] _) ?_ fun _ => c46
  refine indexFunc ha hm fun n hn => ?_
  refine E_geq ?_
  have : decide ((n : Int) ≥ 0) = decide (∃ b ∈ bs, b ≠ 0) := by
    rw [decide_eq_decide]; exact hn
  rw [this]; exact h
/-- Whether neither of a cell's two places holds a byte that is not nought. -/
def blk (D : Dk) (base : Int) : Prop := (∀ b ∈ D.rd base, b = 0) ∧ ∀ b ∈ D.rd (base + 1), b = 0
theorem blank {a c : Nat} {D : Dk} {base life : Int} {κ : Bool} [HasC H c κ 54 [ptr a, I base, I life]] (h0 : 0 ≤ base) (h1 : base ≤ 4096) (ha : Ah (D.rd base)) (hb : Ah (D.rd (base + 1)))
    (h : ∀ q : Bool, (q = true ↔ blk D base) → E B (disk a D :: H) (K (.bool q))) : E B (disk a D :: H) (CF Tryd.prog 30 [ptr c] K) := by
  refine E_mono (W := s30 _ K) ?_ fun _ => c30
  unfold s30
  refine E_dkok fun hok => ?_
  refine E_loop (σ := Fin 3) (fun i => (0 < i.val → ∀ b ∈ D.rd base, b = 0) ∧ (1 < i.val → ∀ b ∈ D.rd (base + 1), b = 0)) (fun i => [ptr c, I ((i.val : Nat) : Int)]) (fun _ => disk a D :: H)
    (fun i => 2 - i.val) 0 (fun _ => rfl) rfl ⟨fun h => (Nat.lt_irrefl _ h).elim, fun h => (Nat.not_lt_zero _ h).elim⟩ (fun W hW => hW) ?_
  rintro ⟨i, hi⟩ K0 ⟨hz0, hz1⟩ hk
  simp only at hz0 hz1 hk ⊢
  refine E_fa fun _ => ?_
  refine E_lss ?_
  refine E_if (fun hc => ?_) (fun hc => ?_)
  · (repeat (first | (refine E_ld ?_) | (refine E_fad0 ?_) | (refine E_fad ?_) | (refine E_nc ?_) | (refine E_tt ?_) | (refine E_ff ?_) | (refine E_st ?_) | (refine E_len ?_) | (refine E_lenstr ?_) | (refine E_lenS ?_) | (refine E_box fun _ => ?_) | (refine E_eql ?_) | (refine E_neq ?_) | (refine E_lss ?_) | (refine E_leq ?_) | (refine E_gtr ?_) | (refine E_geq ?_) | (refine E_ext ?_) | (refine E_prt ?_) | (refine E_mx ?_) | (refine E_mn ?_) | (refine E_cap ?_) | (refine E_gdu ?_) | (refine E_fa fun _ => ?_) | (refine E_dr ?_) | (refine E_nc_f ?_) | (refine E_nc_i ?_) | (refine E_not ?_) | (refine E_str1 ?_) | (refine E_rck0 ?_) | (refine E_gff ?_) | (refine E_gtt ?_) | (refine E_gft ?_) | (refine E_gtf ?_) | (refine E_pff ?_) | (refine E_ptt ?_) | (refine E_streqS ?_) | (refine E_strneS ?_) | (refine E_streq ?_) | (refine E_strne ?_) | (refine E_stA ?_) | (refine E_ldNA ?_) | (refine E_ptfad0 fun _ _ => ?_) | (refine E_ptfad fun _ _ => ?_) | (refine E_ptld ?_) | (refine E_ptldA ?_) | (refine E_rsix (by assumption) fun _ _ => ?_) | (refine E_rslen ?_) | (refine E_ifT (by assumption) ?_) | (refine E_ifF (by assumption) ?_) | (refine E_gdT (by assumption) ?_) | (refine E_gdF (by assumption) ?_) | (refine E_gdnT (by assumption) ?_) | (refine E_gdnF (by assumption) ?_) | (refine E_pickT (by assumption) ?_) | (refine E_pickF (by assumption) ?_) | (refine E_ifT (by decide) ?_) | (refine E_ifF (by decide) ?_) | (refine E_gdT (by decide) ?_) | (refine E_gdF (by decide) ?_) | (refine E_gdnT (by decide) ?_) | (refine E_gdnF (by decide) ?_) | (refine E_pickT (by decide) ?_) | (refine E_pickF (by decide) ?_) | (refine E_ixN (by omega) ?_) | (refine E_ld' (by assumption) ?_) | (refine E_addI (by omega) (by omega) ?_) | (refine E_subI (by omega) (by omega) ?_) | (refine E_mulI (by omega) (by omega) ?_)))
    refine E_use (Disk.disk a) (Disk.read fun v1 _ => ?_)
    (repeat (first | (refine E_ld ?_) | (refine E_fad0 ?_) | (refine E_fad ?_) | (refine E_nc ?_) | (refine E_tt ?_) | (refine E_ff ?_) | (refine E_st ?_) | (refine E_len ?_) | (refine E_lenstr ?_) | (refine E_lenS ?_) | (refine E_box fun _ => ?_) | (refine E_eql ?_) | (refine E_neq ?_) | (refine E_lss ?_) | (refine E_leq ?_) | (refine E_gtr ?_) | (refine E_geq ?_) | (refine E_ext ?_) | (refine E_prt ?_) | (refine E_mx ?_) | (refine E_mn ?_) | (refine E_cap ?_) | (refine E_gdu ?_) | (refine E_fa fun _ => ?_) | (refine E_dr ?_) | (refine E_nc_f ?_) | (refine E_nc_i ?_) | (refine E_not ?_) | (refine E_str1 ?_) | (refine E_rck0 ?_) | (refine E_gff ?_) | (refine E_gtt ?_) | (refine E_gft ?_) | (refine E_gtf ?_) | (refine E_pff ?_) | (refine E_ptt ?_) | (refine E_streqS ?_) | (refine E_strneS ?_) | (refine E_streq ?_) | (refine E_strne ?_) | (refine E_stA ?_) | (refine E_ldNA ?_) | (refine E_ptfad0 fun _ _ => ?_) | (refine E_ptfad fun _ _ => ?_) | (refine E_ptld ?_) | (refine E_ptldA ?_) | (refine E_rsix (by assumption) fun _ _ => ?_) | (refine E_rslen ?_) | (refine E_ifT (by assumption) ?_) | (refine E_ifF (by assumption) ?_) | (refine E_gdT (by assumption) ?_) | (refine E_gdF (by assumption) ?_) | (refine E_gdnT (by assumption) ?_) | (refine E_gdnF (by assumption) ?_) | (refine E_pickT (by assumption) ?_) | (refine E_pickF (by assumption) ?_) | (refine E_ifT (by decide) ?_) | (refine E_ifF (by decide) ?_) | (refine E_gdT (by decide) ?_) | (refine E_gdF (by decide) ?_) | (refine E_gdnT (by decide) ?_) | (refine E_gdnF (by decide) ?_) | (refine E_pickT (by decide) ?_) | (refine E_pickF (by decide) ?_) | (refine E_ixN (by omega) ?_) | (refine E_ld' (by assumption) ?_) | (refine E_addI (by omega) (by omega) ?_) | (refine E_subI (by omega) (by omega) ?_) | (refine E_mulI (by omega) (by omega) ?_)))
    have hah : Ah (D.rd (base + (i : Int))) := by
      match i, hc with
      | 0, _ => simpa using ha
      | 1, _ => exact hb
      | n + 2, hc => omega
    refine containsFunc (v := v1) (bs := D.rd (base + (i : Int))) hah (by have := rd_len hok (base + (i : Int)); omega) ?_
    refine E_if (fun hex => ?_) (fun hex => ?_)
    · refine E_drop (h false ⟨fun h => Bool.noConfusion h, fun hb => ?_⟩)
      obtain ⟨b, hbm, hbn⟩ := hex
      match i, hc, hbm with
      | 0, _, hbm => exact absurd (hb.1 b (by simpa using hbm)) hbn
      | 1, _, hbm => exact absurd (hb.2 b hbm) hbn
      | n + 2, hc, _ => omega
    · have hall : ∀ b ∈ D.rd (base + (i : Int)), b = 0 := fun b hb => Decidable.byContradiction fun hn => hex ⟨b, hb, hn⟩
      refine E_addI (by omega) (by omega) ?_
      have c1 : ∀ b ∈ D.rd base, b = 0 := by
        match i, hc, hall with
        | 0, _, hall => simpa using hall
        | 1, _, _ => exact hz0 (by omega)
        | n + 2, hc, _ => omega
      have c2 : 1 < i + 1 → ∀ b ∈ D.rd (base + 1), b = 0 := by
        match i, hc, hall with
        | 0, _, _ => omega
        | 1, _, hall => exact fun _ => hall
        | n + 2, hc, _ => omega
      exact E_drop (hk ⟨i + 1, by omega⟩ ⟨fun _ => c1, c2⟩ (by simp only; omega))
  · exact h true ⟨fun _ => ⟨hz0 (by omega), hz1 (by omega)⟩, fun _ => rfl⟩
end Go.Proofs.YtmbfmkiagdhcoaaDoor.Slot
