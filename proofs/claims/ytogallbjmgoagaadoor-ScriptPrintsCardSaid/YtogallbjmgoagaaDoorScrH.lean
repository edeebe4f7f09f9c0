/-
  Script: numbers, bytes, crashes as text; operations compared.
-/
import Derived.Test.YtogallbjmgoagaaDoorScrG
set_option linter.unusedSimpArgs false
set_option linter.unusedVariables false
set_option linter.unusedSectionVars false
namespace Go.Proofs.YtogallbjmgoagaaDoor.Scr
open Go Go.SL Go.Proofs Go.Proofs.YtogallbjmgoagaaDoor.Sh
variable {B : World} {H : List Asrt} {K : Value → WT} {W : WT}
theorem numT_len : ∀ (k n : Nat), n < 10 ^ k → (numT n).length ≤ max k 1
  | 0, n, h => by
    have : n = 0 := by simpa using h
    subst this
    rw [numT_lt (by decide)]; simp
  | k + 1, n, h => by
    by_cases h10 : n < 10
    · rw [numT_lt h10]; simp
    · have ih := numT_len k (n / 10) (by rw [Nat.pow_succ] at h; omega)
      rw [numT_ge h10, List.length_append, List.length_singleton]
      have : 1 ≤ k := by
        rcases Nat.eq_zero_or_pos k with h0 | h0
        · subst h0; simp at h; omega
        · exact h0
      omega
theorem numI_len {n : Int} (h : n ≤ 9223372036854775807) : (numI n).length ≤ 19 := by
  unfold numI
  split
  · simp
  · have := numT_len 19 n.toNat (by
      have e : (10 : Nat) ^ 19 = 10000000000000000000 := by decide
      omega)
    omega
theorem u8_div (c : UInt8) : IntKind.wrap .u8 (((c.toNat : Int)).tdiv 16) = ((c.toNat / 16 : Nat) : Int) := by
  have hb := c.toNat_lt
  rw [Int.tdiv_eq_ediv_of_nonneg (by omega)]
  unfold IntKind.wrap
  simp [IntKind.signed, IntKind.bits]
  omega
theorem u8_mod (c : UInt8) : ((c.toNat : Int)).tmod 16 = ((c.toNat % 16 : Nat) : Int) := by
  rw [Int.tmod_eq_emod_of_nonneg (by omega)]; omega
theorem hexS_get {k : Nat} (h : k < 16) : hexS[k]? = some (hexD k) := by
  have hl : k < hexS.length := h
  unfold hexD
  rw [List.getD_eq_getElem?_getD, List.getElem?_eq_getElem hl]; rfl
theorem hexT_len (b : List UInt8) : (hexT b).length = 2 * b.length := by
  induction b with
  | nil => rfl
  | cons c b ih => unfold hexT at ih ⊢; rw [List.flatMap_cons, List.length_append, ih]; simp; omega
theorem E_bne {a b : Bool} (h : E B H (K (.bool (decide (a ≠ b))))) : E B H (S.beq .neq (.bool a) (.bool b) K) := fun w hw => by
  unfold S.beq
  have := h w hw
  cases a <;> cases b <;> exact this
attribute [local irreducible] S.pick S.ld S.ldN S.st S.box S.nc S.fad S.ixS S.ixA S.chr S.prt S.ext S.bin S.sh S.sbin S.beq S.neg1 S.com1 S.not1 S.cvt S.str1 S.lenS S.len S.cap S.lenM S.mx S.mn S.mkM S.cond S.gd S.fa S.dr S.rck S.join S.loop S.cvv S.eqv S.slc S.slcS S.b2s S.lk V U CF Gives E cel mpb osl ros dct dit itr lpo dfo
attribute [local irreducible] sls
set_option maxRecDepth 8000
theorem number [Amb] {n : Int} (hn : n ≤ 9223372036854775807) (h : E B H (K (str (numI n)))) : E B H (CF Tryd.prog 30 [I n] K) := by
  refine E_mono (W := s30 _ K) ?_ fun _ => c30
  unfold s30
  refine E_lss ?_
  refine E_if (fun hc => ?_) (fun hc => ?_)
  · have e : numI n = [63] := by unfold numI; rw [if_pos hc]
    rw [e] at h; exact h
  obtain ⟨m, rfl⟩ : ∃ m : Nat, n = m := ⟨n.toNat, by omega⟩
  have hlen := numI_len hn
  have e : numI (m : Int) = numT m := by unfold numI; rw [if_neg hc]; rfl
  rw [e] at h hlen
  refine E_loop (σ := Nat × List UInt8) (fun z => numT z.1 ++ z.2 = numT m ∧ z.1 ≤ m) (fun z => [I z.1, str z.2]) (fun _ => H) (fun z => z.1) (m, []) (fun _ => rfl) rfl ⟨by simp, Nat.le_refl _⟩ (fun W hW => hW) ?_
  rintro ⟨q, out⟩ K0 ⟨hq, hle⟩ hk
  simp only at hq hle
  have hol : out.length ≤ 19 := by have := congrArg List.length hq; rw [List.length_append] at this; omega
  refine E_fa fun _ => ?_
  refine E_remI (by omega) (by omega) ?_
  refine E_addI (by omega) (by omega) ?_
  refine E_cvt8 (by omega) ?_
  rw [show ((48 : Int) + ((q : Int) % 10)).toNat = 48 + q % 10 by omega]
  refine E_bsl (l0 := [.int .u8 0]) [(0, 1)] u_bytes elt_byte (by simp) (by decide) rfl fun b1 => ?_
  refine E_slsC (enc := cB) [UInt8.ofNat (48 + q % 10)] 1 rfl rfl ?_
  refine E_b2sR ?_
  refine E_stradd (by simp; omega) ?_
  refine E_quoI (by omega) (by omega) (by omega) ?_
  refine E_eql ?_
  refine E_if (fun hz => ?_) (fun hz => ?_)
  · have h10 : q < 10 := by omega
    rw [numT_lt h10, show (48 : Nat) + q = 48 + q % 10 by omega] at hq
    refine E_drop ?_
    rw [hq]; exact h
  · have h10 : ¬ q < 10 := by omega
    rw [numT_ge h10] at hq
    refine E_drop ?_
    have hk' := hk (q / 10, [UInt8.ofNat (48 + q % 10)] ++ out) ⟨by rw [← List.append_assoc]; exact hq, by simp only; omega⟩ (by simp only; omega)
    exact hk'
theorem text [Amb] {v : Value} {l : List UInt8} [Rb B H v l] (hm : l.length ≤ 1000000) (h : E B H (K (str (textT l)))) : E B H (CF Tryd.prog 31 [v] K) := by
  refine E_mono (W := s31 _ K) ?_ fun _ => c31
  unfold s31
  refine plain (v := v) (by omega) ?_
  unfold textT at h
  refine E_if (fun hp => ?_) (fun hp => ?_)
  · rw [if_pos hp] at h
    refine E_b2sR ?_
    refine E_stradd (a := [61]) (by simp; omega) ?_
    exact h
  rw [if_neg hp] at h
  refine E_bsl (l0 := [.int .u8 0]) [(0, 1)] u_bytes elt_byte (by simp) (by decide) rfl fun b1 => ?_
  refine E_slsC (enc := cB) [120] 1 rfl rfl ?_
  refine E_rslen (v := v) ?_
  refine E_loop (σ := Nat × Value) (fun z => z.1 ≤ l.length ∧ CellI z.2) (fun z => [z.2, v, I l.length, I z.1]) (fun z => sls cB 5 1 z.2 (120 :: hexT (l.take z.1)) :: H) (fun z => l.length - z.1) (0, .slice (some ⟨b1, 0, none⟩) 1 1) (fun _ => rfl) rfl ⟨by omega, ⟨rfl⟩⟩ (fun W hW => hW) ?_
  rintro ⟨i, u⟩ K0 ⟨hi, hcu⟩ hk
  simp only at hi hcu
  refine E_fa fun _ => ?_
  refine E_lss ?_
  refine E_if (fun hc => ?_) (fun hc => ?_)
  · have hs : l[i]? = some l[i] := List.getElem?_eq_getElem (by omega)
    generalize l[i] = c at hs
    have hc256 := c.toNat_lt
    refine E_rsix (v := v) hs fun _ _ => ?_
    refine E_ptld ?_
    refine E_dr ?_
    refine E_quo (by omega) ?_
    rw [u8_div]
    refine E_chrL (hexS_get (by omega)) ?_
    refine E_rem (by omega) ?_
    rw [u8_mod]
    refine E_chrL (hexS_get (by omega)) ?_
    refine E_bsl (l0 := [.int .u8 0, .int .u8 0]) [(0, 1), (1, 1)] u_bytes elt_byte (by simp) (by decide) rfl fun b2 => ?_
    refine E_slsC (enc := cB) [hexD (c.toNat / 16), hexD (c.toNat % 16)] 2 rfl rfl ?_
    have hll := hexT_len (l.take i)
    rw [List.length_take] at hll
    refine E_use (sls cB 5 1 u) (E_sapps (m := [hexD (c.toNat / 16), hexD (c.toNat % 16)]) u_bytes elt_byte (by simp; omega) (by simp; omega) fun v' _ => ?_)
    refine E_addI (by omega) (by omega) ?_
    have hk' := hk (i + 1, v') ⟨by simp only; omega, inferInstance⟩ (by simp only; omega)
    simp only at hk'
    rw [List.take_add_one, hs] at hk'
    have et : hexT (l.take i ++ (some c).toList) = hexT (l.take i) ++ [hexD (c.toNat / 16), hexD (c.toNat % 16)] := by unfold hexT; simp
    rw [et] at hk'
    exact E_same (by repeat (first | exact Same.refl | (refine Same.cons (by repeat (first | exact Find.here | apply Find.there)) ?_) | (refine Same.drop ?_))) hk'
  · have ei : i = l.length := by omega
    subst ei
    rw [List.take_length]
    refine E_b2sR ?_
    exact E_drop h
theorem keep [Amb] {v : Value} {l : List Bool} [Rs B H v cL l] (hm : l.length ≤ 1000000) (h : E B H (K (str (keepT l)))) : E B H (CF Tryd.prog 44 [v] K) := by
  refine E_mono (W := s44 _ K) ?_ fun _ => c44
  unfold s44
  refine E_rslen (v := v) ?_
  refine E_loop (σ := Nat) (fun i => i ≤ l.length) (fun i => [str (keepT (l.take i)), v, I l.length, I i]) (fun _ => H) (fun i => l.length - i) 0 (fun _ => rfl) rfl (Nat.zero_le _) (fun W hW => hW) ?_
  rintro i K0 hi hk
  refine E_fa fun _ => ?_
  refine E_lss ?_
  refine E_if (fun hc => ?_) (fun hc => ?_)
  · have hs : l[i]? = some l[i] := List.getElem?_eq_getElem (by omega)
    generalize l[i] = c at hs
    have hk' := hk (i + 1) (by omega) (by omega)
    have et : keepT (l.take (i + 1)) = keepT (l.take i) ++ [if c then 49 else 48] := by unfold keepT; rw [List.take_add_one, hs]; simp
    rw [et] at hk'
    refine E_joinC (σ := Unit) (fun _ => True) (fun _ => [str (keepT (l.take i) ++ [if c then 49 else 48]), v, I l.length, I i]) (fun _ => H) (fun q hq => ?_) ?_
    · have hq := hq () trivial
      refine E_rsix (v := v) hs fun _ _ => ?_
      refine E_ptld ?_
      have hkl : (keepT (l.take i)).length ≤ 1000001 := by unfold keepT; simp; omega
      cases c with
      | true =>
        (repeat (first | refine goS ?_ | refine E_box fun _ => ?_ | refine E_fa fun _ => ?_ | refine E_ptfad0 fun _ _ => ?_ | refine E_ptfad fun _ _ => ?_ | refine E_rsix (by assumption) fun _ _ => ?_ | refine E_ifT (by first | assumption | decide) ?_ | refine E_ifF (by first | assumption | decide) ?_ | refine E_gdT (by first | assumption | decide) ?_ | refine E_gdF (by first | assumption | decide) ?_ | refine E_gdnT (by first | assumption | decide) ?_ | refine E_gdnF (by first | assumption | decide) ?_ | refine E_pickT (by first | assumption | decide) ?_ | refine E_pickF (by first | assumption | decide) ?_ | refine E_ixN (by omega) ?_ | refine E_ld' (by assumption) ?_ | refine E_addI (by omega) (by omega) ?_ | refine E_subI (by omega) (by omega) ?_ | refine E_mulI (by omega) (by omega) ?_))
        refine E_stradd (b := [49]) (by simp; omega) ?_
        exact hq
      | false =>
        (repeat (first | refine goS ?_ | refine E_box fun _ => ?_ | refine E_fa fun _ => ?_ | refine E_ptfad0 fun _ _ => ?_ | refine E_ptfad fun _ _ => ?_ | refine E_rsix (by assumption) fun _ _ => ?_ | refine E_ifT (by first | assumption | decide) ?_ | refine E_ifF (by first | assumption | decide) ?_ | refine E_gdT (by first | assumption | decide) ?_ | refine E_gdF (by first | assumption | decide) ?_ | refine E_gdnT (by first | assumption | decide) ?_ | refine E_gdnF (by first | assumption | decide) ?_ | refine E_pickT (by first | assumption | decide) ?_ | refine E_pickF (by first | assumption | decide) ?_ | refine E_ixN (by omega) ?_ | refine E_ld' (by assumption) ?_ | refine E_addI (by omega) (by omega) ?_ | refine E_subI (by omega) (by omega) ?_ | refine E_mulI (by omega) (by omega) ?_))
        refine E_stradd (b := [48]) (by simp; omega) ?_
        exact hq
    intro _ _
    refine E_fa fun _ => ?_
    refine E_addI (by omega) (by omega) ?_
    exact hk'
  · have ei : i = l.length := by omega
    subst ei
    rw [List.take_length]
    exact h
theorem eqBytes [Amb] {u v : Value} {l m : List UInt8} [Rb B H u l] [Rb B H v m] (hm : l.length ≤ 9223372036854775806) (h : E B H (K (.bool (decide (l = m))))) : E B H (CF Tryd.prog 45 [u, v] K) := by
  refine E_mono (W := s45 _ _ K) ?_ fun _ => c45
  unfold s45
  refine E_rslen (v := u) (E_rslen (v := v) ?_)
  refine E_neq ?_
  refine E_if (fun hc => ?_) (fun hc => ?_)
  · rw [decide_eq_false (fun e => hc (by rw [e]))] at h; exact h
  have hlen : l.length = m.length := by omega
  refine E_rslen (v := u) ?_
  refine E_loop (σ := Nat) (fun i => i ≤ l.length ∧ l.take i = m.take i) (fun i => [u, v, I l.length, I i]) (fun _ => H) (fun i => l.length - i) 0 (fun _ => rfl) rfl ⟨Nat.zero_le _, rfl⟩ (fun W hW => hW) ?_
  rintro i K0 ⟨hi, ht⟩ hk
  refine E_fa fun _ => ?_
  refine E_lss ?_
  refine E_if (fun hc => ?_) (fun hc => ?_)
  · have hs : l[i]? = some l[i] := List.getElem?_eq_getElem (by omega)
    have hs2 : m[i]? = some m[i] := List.getElem?_eq_getElem (by omega)
    generalize l[i] = c at hs
    generalize m[i] = d at hs2
    refine E_dr ?_
    refine E_rsix (v := u) hs fun _ _ => ?_
    refine E_ptld ?_
    refine E_rsix (v := v) hs2 fun _ _ => ?_
    refine E_ptld ?_
    refine E_neq ?_
    refine E_if (fun he => ?_) (fun he => ?_)
    · rw [decide_eq_false (fun e => he (by subst e; rw [hs] at hs2; cases hs2; rfl))] at h; exact h
    · refine E_addI (by omega) (by omega) ?_
      have hcd : c = d := UInt8.toNat_inj.1 (by omega)
      exact hk (i + 1) ⟨by omega, by rw [List.take_add_one, List.take_add_one, ht, hs, hs2, hcd]⟩ (by omega)
  · have ei : i = l.length := by omega
    subst ei
    rw [List.take_length, hlen, List.take_length] at ht
    rw [decide_eq_true ht] at h
    exact h
theorem eqBools [Amb] {u v : Value} {l m : List Bool} [Rs B H u cL l] [Rs B H v cL m] (hm : l.length ≤ 9223372036854775806) (h : E B H (K (.bool (decide (l = m))))) : E B H (CF Tryd.prog 46 [u, v] K) := by
  refine E_mono (W := s46 _ _ K) ?_ fun _ => c46
  unfold s46
  refine E_rslen (v := u) (E_rslen (v := v) ?_)
  refine E_neq ?_
  refine E_if (fun hc => ?_) (fun hc => ?_)
  · rw [decide_eq_false (fun e => hc (by rw [e]))] at h; exact h
  have hlen : l.length = m.length := by omega
  refine E_rslen (v := u) ?_
  refine E_loop (σ := Nat) (fun i => i ≤ l.length ∧ l.take i = m.take i) (fun i => [u, v, I l.length, I i]) (fun _ => H) (fun i => l.length - i) 0 (fun _ => rfl) rfl ⟨Nat.zero_le _, rfl⟩ (fun W hW => hW) ?_
  rintro i K0 ⟨hi, ht⟩ hk
  refine E_fa fun _ => ?_
  refine E_lss ?_
  refine E_if (fun hc => ?_) (fun hc => ?_)
  · have hs : l[i]? = some l[i] := List.getElem?_eq_getElem (by omega)
    have hs2 : m[i]? = some m[i] := List.getElem?_eq_getElem (by omega)
    generalize l[i] = c at hs
    generalize m[i] = d at hs2
    refine E_dr ?_
    refine E_rsix (v := u) hs fun _ _ => ?_
    refine E_ptld ?_
    refine E_rsix (v := v) hs2 fun _ _ => ?_
    refine E_ptld ?_
    refine E_bne ?_
    refine E_if (fun he => ?_) (fun he => ?_)
    · rw [decide_eq_false (fun e => he (by subst e; rw [hs] at hs2; cases hs2; rfl))] at h; exact h
    · refine E_addI (by omega) (by omega) ?_
      have hcd : c = d := Decidable.not_not.1 he
      exact hk (i + 1) ⟨by omega, by rw [List.take_add_one, List.take_add_one, ht, hs, hs2, hcd]⟩ (by omega)
  · have ei : i = l.length := by omega
    subst ei
    rw [List.take_length, hlen, List.take_length] at ht
    rw [decide_eq_true ht] at h
    exact h
end Go.Proofs.YtogallbjmgoagaaDoor.Scr
