/-
  Script: bytes that may stand as they are.
-/
import Derived.Test.YtogallbjmgoagaaDoorScrB
set_option linter.unusedSimpArgs false
set_option linter.unusedVariables false
set_option linter.unusedSectionVars false
namespace Go.Proofs.YtogallbjmgoagaaDoor.Scr
open Go Go.SL Go.Proofs Go.Proofs.YtogallbjmgoagaaDoor.Sh
variable {B : World} {H : List Asrt} {K : Value → WT} {W : WT}
def plainL (l : List UInt8) : Prop := ∀ c ∈ l, 32 ≤ c.toNat ∧ c.toNat ≤ 126
instance (l : List UInt8) : Decidable (plainL l) := inferInstanceAs (Decidable (∀ c ∈ l, _))
attribute [local irreducible] S.pick S.ld S.ldN S.st S.box S.nc S.fad S.ixS S.ixA S.chr S.prt S.ext S.bin S.sh S.sbin S.beq S.neg1 S.com1 S.not1 S.cvt S.str1 S.lenS S.len S.cap S.lenM S.mx S.mn S.mkM S.cond S.gd S.fa S.dr S.rck S.join S.loop S.cvv S.eqv S.slc S.slcS S.b2s S.lk V U CF Gives E cel mpb osl ros dct dit itr lpo dfo
attribute [local irreducible] sls
set_option maxRecDepth 4000
theorem plain [Amb] {v : Value} {l : List UInt8} [Rb B H v l] (hm : l.length ≤ 9223372036854775806) (h : E B H (K (.bool (decide (plainL l))))) : E B H (CF Tryd.prog 47 [v] K) := by
  refine E_mono (W := s47 _ K) ?_ fun _ => c47
  unfold s47
  refine E_mono (W := s57 _ _ _) ?_ fun _ => c57
  unfold s57
  refine E_mono (W := s65 _ _ _) ?_ fun _ => c65
  unfold s65
  refine E_rslen (v := v) ?_
  refine E_loop (σ := Nat) (fun i => i ≤ l.length ∧ plainL (l.take i)) (fun i => [v, .func (.func 58) #[] #[], I l.length, I i]) (fun _ => H) (fun i => l.length - i) 0 (fun _ => rfl) rfl ⟨Nat.zero_le _, by intro c h; simp at h⟩ (fun W hW => hW) ?_
  rintro i K0 ⟨hi, hp⟩ hk
  refine E_fa fun _ => ?_
  refine E_lss ?_
  refine E_if (fun hc => ?_) (fun hc => ?_)
  · have hs : l[i]? = some l[i] := List.getElem?_eq_getElem (by omega)
    generalize l[i] = c at hs
    refine E_rsix (v := v) hs fun _ _ => ?_
    refine E_ptld ?_
    refine E_cvv (by kernel_rfl) ?_
    refine E_mono (W := s58 _ _) ?_ fun _ => c58
    unfold s58
    have bad : ¬ (32 ≤ c.toNat ∧ c.toNat ≤ 126) → E B H (K (.bool false)) := fun hb => by
      rw [decide_eq_false (fun hh => hb (hh c (List.mem_of_getElem? hs)))] at h; exact h
    refine E_lss ?_
    by_cases h1 : (c.toNat : Int) < 32
    · have g : ((i : Int) ≥ 0) := by omega
      (repeat (first | refine goS ?_ | refine E_box fun _ => ?_ | refine E_fa fun _ => ?_ | refine E_ptfad0 fun _ _ => ?_ | refine E_ptfad fun _ _ => ?_ | refine E_rsix (by assumption) fun _ _ => ?_ | refine E_ifT (by first | assumption | decide) ?_ | refine E_ifF (by first | assumption | decide) ?_ | refine E_gdT (by first | assumption | decide) ?_ | refine E_gdF (by first | assumption | decide) ?_ | refine E_gdnT (by first | assumption | decide) ?_ | refine E_gdnF (by first | assumption | decide) ?_ | refine E_pickT (by first | assumption | decide) ?_ | refine E_pickF (by first | assumption | decide) ?_ | refine E_ixN (by omega) ?_ | refine E_ld' (by assumption) ?_ | refine E_addI (by omega) (by omega) ?_ | refine E_subI (by omega) (by omega) ?_ | refine E_mulI (by omega) (by omega) ?_))
      rw [decide_eq_false (by omega)]
      exact bad (by omega)
    · by_cases h2 : (c.toNat : Int) > 126
      · have g : ((i : Int) ≥ 0) := by omega
        (repeat (first | refine goS ?_ | refine E_box fun _ => ?_ | refine E_fa fun _ => ?_ | refine E_ptfad0 fun _ _ => ?_ | refine E_ptfad fun _ _ => ?_ | refine E_rsix (by assumption) fun _ _ => ?_ | refine E_ifT (by first | assumption | decide) ?_ | refine E_ifF (by first | assumption | decide) ?_ | refine E_gdT (by first | assumption | decide) ?_ | refine E_gdF (by first | assumption | decide) ?_ | refine E_gdnT (by first | assumption | decide) ?_ | refine E_gdnF (by first | assumption | decide) ?_ | refine E_pickT (by first | assumption | decide) ?_ | refine E_pickF (by first | assumption | decide) ?_ | refine E_ixN (by omega) ?_ | refine E_ld' (by assumption) ?_ | refine E_addI (by omega) (by omega) ?_ | refine E_subI (by omega) (by omega) ?_ | refine E_mulI (by omega) (by omega) ?_))
        rw [decide_eq_false (by omega)]
        exact bad (by omega)
      · (repeat (first | refine goS ?_ | refine E_box fun _ => ?_ | refine E_fa fun _ => ?_ | refine E_ptfad0 fun _ _ => ?_ | refine E_ptfad fun _ _ => ?_ | refine E_rsix (by assumption) fun _ _ => ?_ | refine E_ifT (by first | assumption | decide) ?_ | refine E_ifF (by first | assumption | decide) ?_ | refine E_gdT (by first | assumption | decide) ?_ | refine E_gdF (by first | assumption | decide) ?_ | refine E_gdnT (by first | assumption | decide) ?_ | refine E_gdnF (by first | assumption | decide) ?_ | refine E_pickT (by first | assumption | decide) ?_ | refine E_pickF (by first | assumption | decide) ?_ | refine E_ixN (by omega) ?_ | refine E_ld' (by assumption) ?_ | refine E_addI (by omega) (by omega) ?_ | refine E_subI (by omega) (by omega) ?_ | refine E_mulI (by omega) (by omega) ?_))
        refine hk (i + 1) ⟨by omega, ?_⟩ (by omega)
        rw [List.take_add_one, hs]
        intro d hd
        rcases List.mem_append.1 hd with hd | hd
        · exact hp d hd
        · have : d = c := by simpa using hd
          subst this; omega
  · have ei : i = l.length := by omega
    subst ei
    rw [List.take_length] at hp
    rw [decide_eq_true hp] at h
    (repeat (first | refine goS ?_ | refine E_box fun _ => ?_ | refine E_fa fun _ => ?_ | refine E_ptfad0 fun _ _ => ?_ | refine E_ptfad fun _ _ => ?_ | refine E_rsix (by assumption) fun _ _ => ?_ | refine E_ifT (by first | assumption | decide) ?_ | refine E_ifF (by first | assumption | decide) ?_ | refine E_gdT (by first | assumption | decide) ?_ | refine E_gdF (by first | assumption | decide) ?_ | refine E_gdnT (by first | assumption | decide) ?_ | refine E_gdnF (by first | assumption | decide) ?_ | refine E_pickT (by first | assumption | decide) ?_ | refine E_pickF (by first | assumption | decide) ?_ | refine E_ixN (by omega) ?_ | refine E_ld' (by assumption) ?_ | refine E_addI (by omega) (by omega) ?_ | refine E_subI (by omega) (by omega) ?_ | refine E_mulI (by omega) (by omega) ?_))
    rw [decide_eq_true (by decide)]
    exact h
end Go.Proofs.YtogallbjmgoagaaDoor.Scr
