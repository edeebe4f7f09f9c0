/-
  Script: the reference's numbers, texts, comparing.
-/
import Derived.Test.YtogallbjmgoagaaDoorScrN
set_option linter.unusedSimpArgs false
set_option linter.unusedVariables false
set_option linter.unusedSectionVars false
namespace Go.Proofs.YtogallbjmgoagaaDoor.Scr
open Go Go.SL Go.Proofs Go.Proofs.YtogallbjmgoagaaDoor.Sh
variable {B : World} {H : List Asrt} {K : Value → WT} {W : WT}
attribute [local irreducible] S.pick S.ld S.ldN S.st S.box S.nc S.fad S.ixS S.ixA S.chr S.prt S.ext S.bin S.sh S.sbin S.beq S.neg1 S.com1 S.not1 S.cvt S.str1 S.lenS S.len S.cap S.lenM S.mx S.mn S.mkM S.cond S.gd S.fa S.dr S.rck S.join S.loop S.cvv S.eqv S.slc S.slcS S.b2s S.lk V U CF Gives E cel mpb osl ros dct dit itr lpo dfo
attribute [local irreducible] sls
set_option maxRecDepth 8000
theorem rnum [Amb] {n : Int} (hn : n ≤ 9223372036854775807) (h : E B H (K (str (numI n)))) : E B H (CF Tryd.prog 28 [I n] K) := by
  refine E_mono (W := s28 _ K) ?_ fun _ => c28
  unfold s28
  refine E_lss ?_
  refine E_if (fun hc => ?_) (fun hc => ?_)
  · have e : numI n = [63] := by unfold numI; rw [if_pos hc]
    rw [e] at h; exact h
  obtain ⟨m, rfl⟩ : ∃ m : Nat, n = m := ⟨n.toNat, by omega⟩
  have hlen := numI_len hn
  have e : numI (m : Int) = numT m := by unfold numI; rw [if_neg hc]; rfl
  rw [e] at h hlen
  refine E_loop (σ := Nat × List UInt8) (fun z => z.1 ≤ m ∧ ((z.2 = [] ∧ z.1 = m) ∨ (z.2 ≠ [] ∧ (if z.1 = 0 then [] else numT z.1) ++ z.2 = numT m))) (fun z => [I z.1, str z.2]) (fun _ => H) (fun z => z.1 + (if z.2 = [] then 1 else 0)) (m, []) (fun _ => rfl) rfl ⟨Nat.le_refl _, .inl ⟨rfl, rfl⟩⟩ (fun W hW => hW) ?_
  rintro ⟨q, out⟩ K0 ⟨hle, hq⟩ hk
  simp only at hle hq
  have hol : out.length ≤ 19 := by
    rcases hq with ⟨rfl, _⟩ | ⟨_, hq⟩
    · simp
    · have := congrArg List.length hq; rw [List.length_append] at this; omega
  refine E_fa fun _ => ?_
  refine E_join1 [I q, str out, .bool (decide (0 < q ∨ out = []))] H (fun q0 hq0 => ?_) ?_
  · have fin : ∀ b : Bool, decide (0 < q ∨ out = []) = b → E B H (app 3 q0 [I q, str out, .bool b]) := fun b h => h ▸ hq0
    refine E_gtr ?_
    by_cases g : (0 : Int) < (q : Int)
    · (repeat (first | refine goS ?_ | refine E_box fun _ => ?_ | refine E_fa fun _ => ?_ | refine E_ptfad0 fun _ _ => ?_ | refine E_ptfad fun _ _ => ?_ | refine E_rsix (by assumption) fun _ _ => ?_ | refine E_ifT (by first | assumption | decide) ?_ | refine E_ifF (by first | assumption | decide) ?_ | refine E_gdT (by first | assumption | decide) ?_ | refine E_gdF (by first | assumption | decide) ?_ | refine E_gdnT (by first | assumption | decide) ?_ | refine E_gdnF (by first | assumption | decide) ?_ | refine E_pickT (by first | assumption | decide) ?_ | refine E_pickF (by first | assumption | decide) ?_ | refine E_ixN (by omega) ?_ | refine E_ld' (by assumption) ?_ | refine E_addI (by omega) (by omega) ?_ | refine E_subI (by omega) (by omega) ?_ | refine E_mulI (by omega) (by omega) ?_))
      exact fin _ (decide_eq_true (by omega))
    · (repeat (first | refine goS ?_ | refine E_box fun _ => ?_ | refine E_fa fun _ => ?_ | refine E_ptfad0 fun _ _ => ?_ | refine E_ptfad fun _ _ => ?_ | refine E_rsix (by assumption) fun _ _ => ?_ | refine E_ifT (by first | assumption | decide) ?_ | refine E_ifF (by first | assumption | decide) ?_ | refine E_gdT (by first | assumption | decide) ?_ | refine E_gdF (by first | assumption | decide) ?_ | refine E_gdnT (by first | assumption | decide) ?_ | refine E_gdnF (by first | assumption | decide) ?_ | refine E_pickT (by first | assumption | decide) ?_ | refine E_pickF (by first | assumption | decide) ?_ | refine E_ixN (by omega) ?_ | refine E_ld' (by assumption) ?_ | refine E_addI (by omega) (by omega) ?_ | refine E_subI (by omega) (by omega) ?_ | refine E_mulI (by omega) (by omega) ?_))
      refine fin _ ?_
      rw [decide_eq_decide]
      have : ((out.length : Int) = 0) ↔ out = [] := by rw [← List.length_eq_zero_iff]; omega
      rw [this]
      exact ⟨fun h => h.resolve_left (by omega), .inr⟩
  refine E_fa fun _ => ?_
  refine E_if (fun hb => ?_) (fun hb => ?_)
  rotate_left
  · have h0 : q = 0 := by omega
    have hne : out ≠ [] := fun h => hb (.inr h)
    rcases hq with ⟨ho, _⟩ | ⟨_, hq⟩
    · exact absurd ho hne
    · rw [if_pos h0] at hq
      have : out = numT m := hq
      rw [this]; exact h
  refine E_remI (by omega) (by omega) ?_
  refine E_addI (by omega) (by omega) ?_
  refine E_cvt8 (by omega) ?_
  rw [show ((48 : Int) + ((q : Int) % 10)).toNat = 48 + q % 10 by omega]
  refine E_bsl (l0 := [.int .u8 0]) [(0, 1)] u_bytes elt_byte (by simp) (by decide) rfl fun b1 => ?_
  refine E_slsC (enc := cB) [UInt8.ofNat (48 + q % 10)] 1 rfl rfl ?_
  refine E_b2sR ?_
  refine E_stradd (by simp; omega) ?_
  refine E_quoI (by omega) (by omega) (by omega) ?_
  refine E_drop ?_
  have hstep : (if q / 10 = 0 then [] else numT (q / 10)) ++ ([UInt8.ofNat (48 + q % 10)] ++ out) = numT m := by
    have hb2 : numT q = (if q / 10 = 0 then [] else numT (q / 10)) ++ [UInt8.ofNat (48 + q % 10)] := by
      by_cases h10 : q < 10
      · rw [numT_lt h10, if_pos (by omega), Nat.mod_eq_of_lt h10]; rfl
      · rw [numT_ge h10, if_neg (by omega)]
    rw [← List.append_assoc, ← hb2]
    rcases hq with ⟨rfl, rfl⟩ | ⟨hne, hq⟩
    · simp
    · by_cases h0 : q = 0
      · exact absurd (hb.resolve_left (by omega)) hne
      · rw [if_neg h0] at hq; exact hq
  have hk' := hk (q / 10, [UInt8.ofNat (48 + q % 10)] ++ out) ⟨by simp only; omega, .inr ⟨by simp, hstep⟩⟩ (by
    simp only
    rw [if_neg (by simp)]
    rcases hb with hb | hb
    · split <;> omega
    · rw [if_pos hb]; omega)
  exact hk'
theorem rtext [Amb] {v : Value} {l : List UInt8} [Rb B H v l] (hm : l.length ≤ 1000000) (h : E B H (K (str (textT l)))) : E B H (CF Tryd.prog 29 [v] K) := by
  refine E_mono (W := s29 _ K) ?_ fun _ => c29
  unfold s29
  refine E_loop (σ := Nat) (fun i => i ≤ l.length ∧ plainL (l.take i)) (fun i => [v, str (61 :: l.take i), I i]) (fun _ => H) (fun i => l.length - i) 0 (fun _ => rfl) rfl ⟨Nat.zero_le _, by intro c h; simp at h⟩ (fun W hW => hW) ?_
  rintro i K0 ⟨hi, hp⟩ hk
  refine E_fa fun _ => ?_
  refine E_rslen (v := v) ?_
  refine E_lss ?_
  refine E_if (fun hc => ?_) (fun hc => ?_)
  rotate_left
  · have ei : i = l.length := by omega
    subst ei
    rw [List.take_length] at hp ⊢
    unfold textT at h
    rw [if_pos hp] at h
    exact h
  have hs : l[i]? = some l[i] := List.getElem?_eq_getElem (by omega)
  generalize l[i] = d at hs
  refine E_join1 [v, str (61 :: l.take i), I i, .bool (decide (¬ (32 ≤ d.toNat ∧ d.toNat ≤ 126)))] H (fun q hq => ?_) ?_
  · have fin : ∀ b : Bool, decide (¬ (32 ≤ d.toNat ∧ d.toNat ≤ 126)) = b → E B H (app 4 q [v, str (61 :: l.take i), I i, .bool b]) := fun b h => h ▸ hq
    refine E_rsix (v := v) hs fun _ _ => ?_
    refine E_ptld ?_
    refine E_lss ?_
    by_cases g : (d.toNat : Int) < 32
    · (repeat (first | refine goS ?_ | refine E_box fun _ => ?_ | refine E_fa fun _ => ?_ | refine E_ptfad0 fun _ _ => ?_ | refine E_ptfad fun _ _ => ?_ | refine E_rsix (by assumption) fun _ _ => ?_ | refine E_ifT (by first | assumption | decide) ?_ | refine E_ifF (by first | assumption | decide) ?_ | refine E_gdT (by first | assumption | decide) ?_ | refine E_gdF (by first | assumption | decide) ?_ | refine E_gdnT (by first | assumption | decide) ?_ | refine E_gdnF (by first | assumption | decide) ?_ | refine E_pickT (by first | assumption | decide) ?_ | refine E_pickF (by first | assumption | decide) ?_ | refine E_ixN (by omega) ?_ | refine E_ld' (by assumption) ?_ | refine E_addI (by omega) (by omega) ?_ | refine E_subI (by omega) (by omega) ?_ | refine E_mulI (by omega) (by omega) ?_))
      exact fin _ (decide_eq_true (by omega))
    · (repeat (first | refine goS ?_ | refine E_box fun _ => ?_ | refine E_fa fun _ => ?_ | refine E_ptfad0 fun _ _ => ?_ | refine E_ptfad fun _ _ => ?_ | refine E_rsix (by assumption) fun _ _ => ?_ | refine E_ifT (by first | assumption | decide) ?_ | refine E_ifF (by first | assumption | decide) ?_ | refine E_gdT (by first | assumption | decide) ?_ | refine E_gdF (by first | assumption | decide) ?_ | refine E_gdnT (by first | assumption | decide) ?_ | refine E_gdnF (by first | assumption | decide) ?_ | refine E_pickT (by first | assumption | decide) ?_ | refine E_pickF (by first | assumption | decide) ?_ | refine E_ixN (by omega) ?_ | refine E_ld' (by assumption) ?_ | refine E_addI (by omega) (by omega) ?_ | refine E_subI (by omega) (by omega) ?_ | refine E_mulI (by omega) (by omega) ?_))
      exact fin _ (by rw [decide_eq_decide]; omega)
  refine E_fa fun _ => ?_
  refine E_if (fun hb => ?_) (fun hb => ?_)
  rotate_left
  · refine E_rsix (v := v) hs fun _ _ => ?_
    refine E_ptld ?_
    refine E_bsl (l0 := [.int .u8 0]) [(0, 1)] u_bytes elt_byte (by simp) (by decide) rfl fun b1 => ?_
    refine E_slsC (enc := cB) [d] 1 rfl rfl ?_
    refine E_b2sR ?_
    refine E_stradd (by simp; omega) ?_
    refine E_addI (by omega) (by omega) ?_
    refine E_drop ?_
    have hk' := hk (i + 1) ⟨by omega, by
      rw [List.take_add_one, hs]
      intro x hx
      rcases List.mem_append.1 hx with hx | hx
      · exact hp x hx
      · have : x = d := by simpa using hx
        rw [this]; exact Decidable.not_not.1 hb⟩ (by omega)
    rw [List.take_add_one, hs] at hk'
    exact hk'
  have hnp : ¬ plainL l := fun hh => hb (hh d (List.mem_of_getElem? hs))
  unfold textT at h
  rw [if_neg hnp] at h
  refine E_loop (σ := Nat) (fun i => i ≤ l.length) (fun i => [v, str (120 :: hexT (l.take i)), I i]) (fun _ => H) (fun i => l.length - i) 0 (fun _ => rfl) rfl (Nat.zero_le _) (fun W hW => hW) ?_
  intro j K1 hj hk1
  refine E_fa fun _ => ?_
  refine E_rslen (v := v) ?_
  refine E_lss ?_
  refine E_if (fun hcj => ?_) (fun hcj => ?_)
  rotate_left
  · have ej : j = l.length := by omega
    subst ej
    rw [List.take_length]
    exact h
  have hsj : l[j]? = some l[j] := List.getElem?_eq_getElem (by omega)
  generalize l[j] = c at hsj
  have hc256 := c.toNat_lt
  refine E_dr ?_
  refine E_rsix (v := v) hsj fun _ _ => ?_
  refine E_ptld ?_
  refine E_quo (by omega) ?_
  rw [u8_div]
  refine E_chrL (hexS_get (by omega)) ?_
  refine E_rsix (v := v) hsj fun _ _ => ?_
  refine E_ptld ?_
  refine E_rem (by omega) ?_
  rw [u8_mod]
  refine E_chrL (hexS_get (by omega)) ?_
  refine E_bsl (l0 := [.int .u8 0, .int .u8 0]) [(0, 1), (1, 1)] u_bytes elt_byte (by simp) (by decide) rfl fun b2 => ?_
  refine E_slsC (enc := cB) [hexD (c.toNat / 16), hexD (c.toNat % 16)] 2 rfl rfl ?_
  refine E_b2sR ?_
  have hll := hexT_len (l.take j)
  rw [List.length_take] at hll
  refine E_stradd (by simp; omega) ?_
  refine E_addI (by omega) (by omega) ?_
  refine E_drop ?_
  have hk' := hk1 (j + 1) (by omega) (by omega)
  rw [List.take_add_one, hsj] at hk'
  have et : hexT (l.take j ++ (some c).toList) = hexT (l.take j) ++ [hexD (c.toNat / 16), hexD (c.toNat % 16)] := by unfold hexT; simp
  rw [et] at hk'
  exact hk'
theorem rsame [Amb] {o p : OpV} {v1 u1 v2 u2 : Value} [CellI v1] [CellI u1] [CellI v2] [CellI u2] [Rb B H v1 o.bytes] [Rs B H u1 cL o.keep] [Rb B H v2 p.bytes] [Rs B H u2 cL p.keep] (hk0 : o.keep.length ≤ 1000000)
    (h : E B H (K (.bool (decide (o = p))))) : E B H (CF Tryd.prog 10 [.agg (opC o v1 u1).toArray, .agg (opC p v2 u2).toArray] K) := by
  refine E_mono (W := s10 _ _ K) ?_ fun _ => c10
  unfold s10
  refine E_box (vs := opC o v1 u1) fun b1 => ?_
  refine E_box (vs := opC p v2 u2) fun b2 => ?_
  refine E_join1 [ptr b1, ptr b2, .bool (decide (¬ (o.d = p.d ∧ o.n = p.n ∧ o.name = p.name ∧ o.shot = p.shot ∧ o.gen = p.gen ∧ o.from_ = p.from_ ∧ o.size = p.size ∧ o.bytes = p.bytes ∧ (o.last = p.last ∧ o.young = p.young ∧ o.step = p.step ∧ o.count = p.count) ∧ o.torn = p.torn ∧ o.at_ = p.at_ ∧ ((o.keep.length : Int) = (p.keep.length : Int)))))] (cel true b2 30 (opC p v2 u2) :: cel true b1 30 (opC o v1 u1) :: H) (fun q hq => ?_) ?_
  · have fin : ∀ b : Bool, decide (¬ (o.d = p.d ∧ o.n = p.n ∧ o.name = p.name ∧ o.shot = p.shot ∧ o.gen = p.gen ∧ o.from_ = p.from_ ∧ o.size = p.size ∧ o.bytes = p.bytes ∧ (o.last = p.last ∧ o.young = p.young ∧ o.step = p.step ∧ o.count = p.count) ∧ o.torn = p.torn ∧ o.at_ = p.at_ ∧ ((o.keep.length : Int) = (p.keep.length : Int)))) = b → E B (cel true b2 30 (opC p v2 u2) :: cel true b1 30 (opC o v1 u1) :: H) (app 3 q [ptr b1, ptr b2, .bool b]) := fun b h => h ▸ hq
    (repeat (first | refine goS ?_ | refine E_box fun _ => ?_ | refine E_fa fun _ => ?_ | refine E_ptfad0 fun _ _ => ?_ | refine E_ptfad fun _ _ => ?_ | refine E_rsix (by assumption) fun _ _ => ?_ | refine E_ifT (by first | assumption | decide) ?_ | refine E_ifF (by first | assumption | decide) ?_ | refine E_gdT (by first | assumption | decide) ?_ | refine E_gdF (by first | assumption | decide) ?_ | refine E_gdnT (by first | assumption | decide) ?_ | refine E_gdnF (by first | assumption | decide) ?_ | refine E_pickT (by first | assumption | decide) ?_ | refine E_pickF (by first | assumption | decide) ?_ | refine E_ixN (by omega) ?_ | refine E_ld' (by assumption) ?_ | refine E_addI (by omega) (by omega) ?_ | refine E_subI (by omega) (by omega) ?_ | refine E_mulI (by omega) (by omega) ?_))
    by_cases e0 : ¬ (o.d = p.d)
    · (repeat (first | refine goS ?_ | refine E_box fun _ => ?_ | refine E_fa fun _ => ?_ | refine E_ptfad0 fun _ _ => ?_ | refine E_ptfad fun _ _ => ?_ | refine E_rsix (by assumption) fun _ _ => ?_ | refine E_ifT (by first | assumption | decide) ?_ | refine E_ifF (by first | assumption | decide) ?_ | refine E_gdT (by first | assumption | decide) ?_ | refine E_gdF (by first | assumption | decide) ?_ | refine E_gdnT (by first | assumption | decide) ?_ | refine E_gdnF (by first | assumption | decide) ?_ | refine E_pickT (by first | assumption | decide) ?_ | refine E_pickF (by first | assumption | decide) ?_ | refine E_ixN (by omega) ?_ | refine E_ld' (by assumption) ?_ | refine E_addI (by omega) (by omega) ?_ | refine E_subI (by omega) (by omega) ?_ | refine E_mulI (by omega) (by omega) ?_))
      exact E_same (by repeat (first | exact Same.refl | (refine Same.cons (by repeat (first | exact Find.here | apply Find.there)) ?_) | (refine Same.drop ?_))) (fin true (decide_eq_true fun h => e0 h.1))
    (repeat (first | refine goS ?_ | refine E_box fun _ => ?_ | refine E_fa fun _ => ?_ | refine E_ptfad0 fun _ _ => ?_ | refine E_ptfad fun _ _ => ?_ | refine E_rsix (by assumption) fun _ _ => ?_ | refine E_ifT (by first | assumption | decide) ?_ | refine E_ifF (by first | assumption | decide) ?_ | refine E_gdT (by first | assumption | decide) ?_ | refine E_gdF (by first | assumption | decide) ?_ | refine E_gdnT (by first | assumption | decide) ?_ | refine E_gdnF (by first | assumption | decide) ?_ | refine E_pickT (by first | assumption | decide) ?_ | refine E_pickF (by first | assumption | decide) ?_ | refine E_ixN (by omega) ?_ | refine E_ld' (by assumption) ?_ | refine E_addI (by omega) (by omega) ?_ | refine E_subI (by omega) (by omega) ?_ | refine E_mulI (by omega) (by omega) ?_))
    by_cases e1 : ¬ (o.n = p.n)
    · (repeat (first | refine goS ?_ | refine E_box fun _ => ?_ | refine E_fa fun _ => ?_ | refine E_ptfad0 fun _ _ => ?_ | refine E_ptfad fun _ _ => ?_ | refine E_rsix (by assumption) fun _ _ => ?_ | refine E_ifT (by first | assumption | decide) ?_ | refine E_ifF (by first | assumption | decide) ?_ | refine E_gdT (by first | assumption | decide) ?_ | refine E_gdF (by first | assumption | decide) ?_ | refine E_gdnT (by first | assumption | decide) ?_ | refine E_gdnF (by first | assumption | decide) ?_ | refine E_pickT (by first | assumption | decide) ?_ | refine E_pickF (by first | assumption | decide) ?_ | refine E_ixN (by omega) ?_ | refine E_ld' (by assumption) ?_ | refine E_addI (by omega) (by omega) ?_ | refine E_subI (by omega) (by omega) ?_ | refine E_mulI (by omega) (by omega) ?_))
      exact E_same (by repeat (first | exact Same.refl | (refine Same.cons (by repeat (first | exact Find.here | apply Find.there)) ?_) | (refine Same.drop ?_))) (fin true (decide_eq_true fun h => e1 h.2.1))
    (repeat (first | refine goS ?_ | refine E_box fun _ => ?_ | refine E_fa fun _ => ?_ | refine E_ptfad0 fun _ _ => ?_ | refine E_ptfad fun _ _ => ?_ | refine E_rsix (by assumption) fun _ _ => ?_ | refine E_ifT (by first | assumption | decide) ?_ | refine E_ifF (by first | assumption | decide) ?_ | refine E_gdT (by first | assumption | decide) ?_ | refine E_gdF (by first | assumption | decide) ?_ | refine E_gdnT (by first | assumption | decide) ?_ | refine E_gdnF (by first | assumption | decide) ?_ | refine E_pickT (by first | assumption | decide) ?_ | refine E_pickF (by first | assumption | decide) ?_ | refine E_ixN (by omega) ?_ | refine E_ld' (by assumption) ?_ | refine E_addI (by omega) (by omega) ?_ | refine E_subI (by omega) (by omega) ?_ | refine E_mulI (by omega) (by omega) ?_))
    by_cases e2 : ¬ (o.name = p.name)
    · (repeat (first | refine goS ?_ | refine E_box fun _ => ?_ | refine E_fa fun _ => ?_ | refine E_ptfad0 fun _ _ => ?_ | refine E_ptfad fun _ _ => ?_ | refine E_rsix (by assumption) fun _ _ => ?_ | refine E_ifT (by first | assumption | decide) ?_ | refine E_ifF (by first | assumption | decide) ?_ | refine E_gdT (by first | assumption | decide) ?_ | refine E_gdF (by first | assumption | decide) ?_ | refine E_gdnT (by first | assumption | decide) ?_ | refine E_gdnF (by first | assumption | decide) ?_ | refine E_pickT (by first | assumption | decide) ?_ | refine E_pickF (by first | assumption | decide) ?_ | refine E_ixN (by omega) ?_ | refine E_ld' (by assumption) ?_ | refine E_addI (by omega) (by omega) ?_ | refine E_subI (by omega) (by omega) ?_ | refine E_mulI (by omega) (by omega) ?_))
      exact E_same (by repeat (first | exact Same.refl | (refine Same.cons (by repeat (first | exact Find.here | apply Find.there)) ?_) | (refine Same.drop ?_))) (fin true (decide_eq_true fun h => e2 h.2.2.1))
    (repeat (first | refine goS ?_ | refine E_box fun _ => ?_ | refine E_fa fun _ => ?_ | refine E_ptfad0 fun _ _ => ?_ | refine E_ptfad fun _ _ => ?_ | refine E_rsix (by assumption) fun _ _ => ?_ | refine E_ifT (by first | assumption | decide) ?_ | refine E_ifF (by first | assumption | decide) ?_ | refine E_gdT (by first | assumption | decide) ?_ | refine E_gdF (by first | assumption | decide) ?_ | refine E_gdnT (by first | assumption | decide) ?_ | refine E_gdnF (by first | assumption | decide) ?_ | refine E_pickT (by first | assumption | decide) ?_ | refine E_pickF (by first | assumption | decide) ?_ | refine E_ixN (by omega) ?_ | refine E_ld' (by assumption) ?_ | refine E_addI (by omega) (by omega) ?_ | refine E_subI (by omega) (by omega) ?_ | refine E_mulI (by omega) (by omega) ?_))
    by_cases e3 : ¬ (o.shot = p.shot)
    · (repeat (first | refine goS ?_ | refine E_box fun _ => ?_ | refine E_fa fun _ => ?_ | refine E_ptfad0 fun _ _ => ?_ | refine E_ptfad fun _ _ => ?_ | refine E_rsix (by assumption) fun _ _ => ?_ | refine E_ifT (by first | assumption | decide) ?_ | refine E_ifF (by first | assumption | decide) ?_ | refine E_gdT (by first | assumption | decide) ?_ | refine E_gdF (by first | assumption | decide) ?_ | refine E_gdnT (by first | assumption | decide) ?_ | refine E_gdnF (by first | assumption | decide) ?_ | refine E_pickT (by first | assumption | decide) ?_ | refine E_pickF (by first | assumption | decide) ?_ | refine E_ixN (by omega) ?_ | refine E_ld' (by assumption) ?_ | refine E_addI (by omega) (by omega) ?_ | refine E_subI (by omega) (by omega) ?_ | refine E_mulI (by omega) (by omega) ?_))
      exact E_same (by repeat (first | exact Same.refl | (refine Same.cons (by repeat (first | exact Find.here | apply Find.there)) ?_) | (refine Same.drop ?_))) (fin true (decide_eq_true fun h => e3 h.2.2.2.1))
    (repeat (first | refine goS ?_ | refine E_box fun _ => ?_ | refine E_fa fun _ => ?_ | refine E_ptfad0 fun _ _ => ?_ | refine E_ptfad fun _ _ => ?_ | refine E_rsix (by assumption) fun _ _ => ?_ | refine E_ifT (by first | assumption | decide) ?_ | refine E_ifF (by first | assumption | decide) ?_ | refine E_gdT (by first | assumption | decide) ?_ | refine E_gdF (by first | assumption | decide) ?_ | refine E_gdnT (by first | assumption | decide) ?_ | refine E_gdnF (by first | assumption | decide) ?_ | refine E_pickT (by first | assumption | decide) ?_ | refine E_pickF (by first | assumption | decide) ?_ | refine E_ixN (by omega) ?_ | refine E_ld' (by assumption) ?_ | refine E_addI (by omega) (by omega) ?_ | refine E_subI (by omega) (by omega) ?_ | refine E_mulI (by omega) (by omega) ?_))
    by_cases e4 : ¬ (o.gen = p.gen)
    · (repeat (first | refine goS ?_ | refine E_box fun _ => ?_ | refine E_fa fun _ => ?_ | refine E_ptfad0 fun _ _ => ?_ | refine E_ptfad fun _ _ => ?_ | refine E_rsix (by assumption) fun _ _ => ?_ | refine E_ifT (by first | assumption | decide) ?_ | refine E_ifF (by first | assumption | decide) ?_ | refine E_gdT (by first | assumption | decide) ?_ | refine E_gdF (by first | assumption | decide) ?_ | refine E_gdnT (by first | assumption | decide) ?_ | refine E_gdnF (by first | assumption | decide) ?_ | refine E_pickT (by first | assumption | decide) ?_ | refine E_pickF (by first | assumption | decide) ?_ | refine E_ixN (by omega) ?_ | refine E_ld' (by assumption) ?_ | refine E_addI (by omega) (by omega) ?_ | refine E_subI (by omega) (by omega) ?_ | refine E_mulI (by omega) (by omega) ?_))
      exact E_same (by repeat (first | exact Same.refl | (refine Same.cons (by repeat (first | exact Find.here | apply Find.there)) ?_) | (refine Same.drop ?_))) (fin true (decide_eq_true fun h => e4 h.2.2.2.2.1))
    (repeat (first | refine goS ?_ | refine E_box fun _ => ?_ | refine E_fa fun _ => ?_ | refine E_ptfad0 fun _ _ => ?_ | refine E_ptfad fun _ _ => ?_ | refine E_rsix (by assumption) fun _ _ => ?_ | refine E_ifT (by first | assumption | decide) ?_ | refine E_ifF (by first | assumption | decide) ?_ | refine E_gdT (by first | assumption | decide) ?_ | refine E_gdF (by first | assumption | decide) ?_ | refine E_gdnT (by first | assumption | decide) ?_ | refine E_gdnF (by first | assumption | decide) ?_ | refine E_pickT (by first | assumption | decide) ?_ | refine E_pickF (by first | assumption | decide) ?_ | refine E_ixN (by omega) ?_ | refine E_ld' (by assumption) ?_ | refine E_addI (by omega) (by omega) ?_ | refine E_subI (by omega) (by omega) ?_ | refine E_mulI (by omega) (by omega) ?_))
    by_cases e5 : ¬ (o.from_ = p.from_)
    · (repeat (first | refine goS ?_ | refine E_box fun _ => ?_ | refine E_fa fun _ => ?_ | refine E_ptfad0 fun _ _ => ?_ | refine E_ptfad fun _ _ => ?_ | refine E_rsix (by assumption) fun _ _ => ?_ | refine E_ifT (by first | assumption | decide) ?_ | refine E_ifF (by first | assumption | decide) ?_ | refine E_gdT (by first | assumption | decide) ?_ | refine E_gdF (by first | assumption | decide) ?_ | refine E_gdnT (by first | assumption | decide) ?_ | refine E_gdnF (by first | assumption | decide) ?_ | refine E_pickT (by first | assumption | decide) ?_ | refine E_pickF (by first | assumption | decide) ?_ | refine E_ixN (by omega) ?_ | refine E_ld' (by assumption) ?_ | refine E_addI (by omega) (by omega) ?_ | refine E_subI (by omega) (by omega) ?_ | refine E_mulI (by omega) (by omega) ?_))
      exact E_same (by repeat (first | exact Same.refl | (refine Same.cons (by repeat (first | exact Find.here | apply Find.there)) ?_) | (refine Same.drop ?_))) (fin true (decide_eq_true fun h => e5 h.2.2.2.2.2.1))
    (repeat (first | refine goS ?_ | refine E_box fun _ => ?_ | refine E_fa fun _ => ?_ | refine E_ptfad0 fun _ _ => ?_ | refine E_ptfad fun _ _ => ?_ | refine E_rsix (by assumption) fun _ _ => ?_ | refine E_ifT (by first | assumption | decide) ?_ | refine E_ifF (by first | assumption | decide) ?_ | refine E_gdT (by first | assumption | decide) ?_ | refine E_gdF (by first | assumption | decide) ?_ | refine E_gdnT (by first | assumption | decide) ?_ | refine E_gdnF (by first | assumption | decide) ?_ | refine E_pickT (by first | assumption | decide) ?_ | refine E_pickF (by first | assumption | decide) ?_ | refine E_ixN (by omega) ?_ | refine E_ld' (by assumption) ?_ | refine E_addI (by omega) (by omega) ?_ | refine E_subI (by omega) (by omega) ?_ | refine E_mulI (by omega) (by omega) ?_))
    by_cases e6 : ¬ (o.size = p.size)
    · (repeat (first | refine goS ?_ | refine E_box fun _ => ?_ | refine E_fa fun _ => ?_ | refine E_ptfad0 fun _ _ => ?_ | refine E_ptfad fun _ _ => ?_ | refine E_rsix (by assumption) fun _ _ => ?_ | refine E_ifT (by first | assumption | decide) ?_ | refine E_ifF (by first | assumption | decide) ?_ | refine E_gdT (by first | assumption | decide) ?_ | refine E_gdF (by first | assumption | decide) ?_ | refine E_gdnT (by first | assumption | decide) ?_ | refine E_gdnF (by first | assumption | decide) ?_ | refine E_pickT (by first | assumption | decide) ?_ | refine E_pickF (by first | assumption | decide) ?_ | refine E_ixN (by omega) ?_ | refine E_ld' (by assumption) ?_ | refine E_addI (by omega) (by omega) ?_ | refine E_subI (by omega) (by omega) ?_ | refine E_mulI (by omega) (by omega) ?_))
      exact E_same (by repeat (first | exact Same.refl | (refine Same.cons (by repeat (first | exact Find.here | apply Find.there)) ?_) | (refine Same.drop ?_))) (fin true (decide_eq_true fun h => e6 h.2.2.2.2.2.2.1))
    (repeat (first | refine goS ?_ | refine E_box fun _ => ?_ | refine E_fa fun _ => ?_ | refine E_ptfad0 fun _ _ => ?_ | refine E_ptfad fun _ _ => ?_ | refine E_rsix (by assumption) fun _ _ => ?_ | refine E_ifT (by first | assumption | decide) ?_ | refine E_ifF (by first | assumption | decide) ?_ | refine E_gdT (by first | assumption | decide) ?_ | refine E_gdF (by first | assumption | decide) ?_ | refine E_gdnT (by first | assumption | decide) ?_ | refine E_gdnF (by first | assumption | decide) ?_ | refine E_pickT (by first | assumption | decide) ?_ | refine E_pickF (by first | assumption | decide) ?_ | refine E_ixN (by omega) ?_ | refine E_ld' (by assumption) ?_ | refine E_addI (by omega) (by omega) ?_ | refine E_subI (by omega) (by omega) ?_ | refine E_mulI (by omega) (by omega) ?_))
    refine E_b2sR (v := v1) ?_
    (repeat (first | refine goS ?_ | refine E_box fun _ => ?_ | refine E_fa fun _ => ?_ | refine E_ptfad0 fun _ _ => ?_ | refine E_ptfad fun _ _ => ?_ | refine E_rsix (by assumption) fun _ _ => ?_ | refine E_ifT (by first | assumption | decide) ?_ | refine E_ifF (by first | assumption | decide) ?_ | refine E_gdT (by first | assumption | decide) ?_ | refine E_gdF (by first | assumption | decide) ?_ | refine E_gdnT (by first | assumption | decide) ?_ | refine E_gdnF (by first | assumption | decide) ?_ | refine E_pickT (by first | assumption | decide) ?_ | refine E_pickF (by first | assumption | decide) ?_ | refine E_ixN (by omega) ?_ | refine E_ld' (by assumption) ?_ | refine E_addI (by omega) (by omega) ?_ | refine E_subI (by omega) (by omega) ?_ | refine E_mulI (by omega) (by omega) ?_))
    refine E_b2sR (v := v2) ?_
    (repeat (first | refine goS ?_ | refine E_box fun _ => ?_ | refine E_fa fun _ => ?_ | refine E_ptfad0 fun _ _ => ?_ | refine E_ptfad fun _ _ => ?_ | refine E_rsix (by assumption) fun _ _ => ?_ | refine E_ifT (by first | assumption | decide) ?_ | refine E_ifF (by first | assumption | decide) ?_ | refine E_gdT (by first | assumption | decide) ?_ | refine E_gdF (by first | assumption | decide) ?_ | refine E_gdnT (by first | assumption | decide) ?_ | refine E_gdnF (by first | assumption | decide) ?_ | refine E_pickT (by first | assumption | decide) ?_ | refine E_pickF (by first | assumption | decide) ?_ | refine E_ixN (by omega) ?_ | refine E_ld' (by assumption) ?_ | refine E_addI (by omega) (by omega) ?_ | refine E_subI (by omega) (by omega) ?_ | refine E_mulI (by omega) (by omega) ?_))
    by_cases e7 : ¬ (o.bytes = p.bytes)
    · (repeat (first | refine goS ?_ | refine E_box fun _ => ?_ | refine E_fa fun _ => ?_ | refine E_ptfad0 fun _ _ => ?_ | refine E_ptfad fun _ _ => ?_ | refine E_rsix (by assumption) fun _ _ => ?_ | refine E_ifT (by first | assumption | decide) ?_ | refine E_ifF (by first | assumption | decide) ?_ | refine E_gdT (by first | assumption | decide) ?_ | refine E_gdF (by first | assumption | decide) ?_ | refine E_gdnT (by first | assumption | decide) ?_ | refine E_gdnF (by first | assumption | decide) ?_ | refine E_pickT (by first | assumption | decide) ?_ | refine E_pickF (by first | assumption | decide) ?_ | refine E_ixN (by omega) ?_ | refine E_ld' (by assumption) ?_ | refine E_addI (by omega) (by omega) ?_ | refine E_subI (by omega) (by omega) ?_ | refine E_mulI (by omega) (by omega) ?_))
      exact E_same (by repeat (first | exact Same.refl | (refine Same.cons (by repeat (first | exact Find.here | apply Find.there)) ?_) | (refine Same.drop ?_))) (fin true (decide_eq_true fun h => e7 h.2.2.2.2.2.2.2.1))
    (repeat (first | refine goS ?_ | refine E_box fun _ => ?_ | refine E_fa fun _ => ?_ | refine E_ptfad0 fun _ _ => ?_ | refine E_ptfad fun _ _ => ?_ | refine E_rsix (by assumption) fun _ _ => ?_ | refine E_ifT (by first | assumption | decide) ?_ | refine E_ifF (by first | assumption | decide) ?_ | refine E_gdT (by first | assumption | decide) ?_ | refine E_gdF (by first | assumption | decide) ?_ | refine E_gdnT (by first | assumption | decide) ?_ | refine E_gdnF (by first | assumption | decide) ?_ | refine E_pickT (by first | assumption | decide) ?_ | refine E_pickF (by first | assumption | decide) ?_ | refine E_ixN (by omega) ?_ | refine E_ld' (by assumption) ?_ | refine E_addI (by omega) (by omega) ?_ | refine E_subI (by omega) (by omega) ?_ | refine E_mulI (by omega) (by omega) ?_))
    refine E_ldN (cs := [I o.last, I o.young, I o.step, I o.count]) rfl rfl ?_
    (repeat (first | refine goS ?_ | refine E_box fun _ => ?_ | refine E_fa fun _ => ?_ | refine E_ptfad0 fun _ _ => ?_ | refine E_ptfad fun _ _ => ?_ | refine E_rsix (by assumption) fun _ _ => ?_ | refine E_ifT (by first | assumption | decide) ?_ | refine E_ifF (by first | assumption | decide) ?_ | refine E_gdT (by first | assumption | decide) ?_ | refine E_gdF (by first | assumption | decide) ?_ | refine E_gdnT (by first | assumption | decide) ?_ | refine E_gdnF (by first | assumption | decide) ?_ | refine E_pickT (by first | assumption | decide) ?_ | refine E_pickF (by first | assumption | decide) ?_ | refine E_ixN (by omega) ?_ | refine E_ld' (by assumption) ?_ | refine E_addI (by omega) (by omega) ?_ | refine E_subI (by omega) (by omega) ?_ | refine E_mulI (by omega) (by omega) ?_))
    refine E_ldN (cs := [I p.last, I p.young, I p.step, I p.count]) rfl rfl ?_
    (repeat (first | refine goS ?_ | refine E_box fun _ => ?_ | refine E_fa fun _ => ?_ | refine E_ptfad0 fun _ _ => ?_ | refine E_ptfad fun _ _ => ?_ | refine E_rsix (by assumption) fun _ _ => ?_ | refine E_ifT (by first | assumption | decide) ?_ | refine E_ifF (by first | assumption | decide) ?_ | refine E_gdT (by first | assumption | decide) ?_ | refine E_gdF (by first | assumption | decide) ?_ | refine E_gdnT (by first | assumption | decide) ?_ | refine E_gdnF (by first | assumption | decide) ?_ | refine E_pickT (by first | assumption | decide) ?_ | refine E_pickF (by first | assumption | decide) ?_ | refine E_ixN (by omega) ?_ | refine E_ld' (by assumption) ?_ | refine E_addI (by omega) (by omega) ?_ | refine E_subI (by omega) (by omega) ?_ | refine E_mulI (by omega) (by omega) ?_))
    refine E_ane (xs := #[I o.last, I o.young, I o.step, I o.count]) (ys := #[I p.last, I p.young, I p.step, I p.count]) (by kernel_rfl) (eq_keep o.last o.young o.step o.count p.last p.young p.step p.count) ?_
    rw [show (!decide (o.last = p.last ∧ o.young = p.young ∧ o.step = p.step ∧ o.count = p.count)) = decide (¬ (o.last = p.last ∧ o.young = p.young ∧ o.step = p.step ∧ o.count = p.count)) from by rw [decide_not]]
    by_cases e8 : ¬ ((o.last = p.last ∧ o.young = p.young ∧ o.step = p.step ∧ o.count = p.count))
    · (repeat (first | refine goS ?_ | refine E_box fun _ => ?_ | refine E_fa fun _ => ?_ | refine E_ptfad0 fun _ _ => ?_ | refine E_ptfad fun _ _ => ?_ | refine E_rsix (by assumption) fun _ _ => ?_ | refine E_ifT (by first | assumption | decide) ?_ | refine E_ifF (by first | assumption | decide) ?_ | refine E_gdT (by first | assumption | decide) ?_ | refine E_gdF (by first | assumption | decide) ?_ | refine E_gdnT (by first | assumption | decide) ?_ | refine E_gdnF (by first | assumption | decide) ?_ | refine E_pickT (by first | assumption | decide) ?_ | refine E_pickF (by first | assumption | decide) ?_ | refine E_ixN (by omega) ?_ | refine E_ld' (by assumption) ?_ | refine E_addI (by omega) (by omega) ?_ | refine E_subI (by omega) (by omega) ?_ | refine E_mulI (by omega) (by omega) ?_))
      exact E_same (by repeat (first | exact Same.refl | (refine Same.cons (by repeat (first | exact Find.here | apply Find.there)) ?_) | (refine Same.drop ?_))) (fin true (decide_eq_true fun h => e8 h.2.2.2.2.2.2.2.2.1))
    (repeat (first | refine goS ?_ | refine E_box fun _ => ?_ | refine E_fa fun _ => ?_ | refine E_ptfad0 fun _ _ => ?_ | refine E_ptfad fun _ _ => ?_ | refine E_rsix (by assumption) fun _ _ => ?_ | refine E_ifT (by first | assumption | decide) ?_ | refine E_ifF (by first | assumption | decide) ?_ | refine E_gdT (by first | assumption | decide) ?_ | refine E_gdF (by first | assumption | decide) ?_ | refine E_gdnT (by first | assumption | decide) ?_ | refine E_gdnF (by first | assumption | decide) ?_ | refine E_pickT (by first | assumption | decide) ?_ | refine E_pickF (by first | assumption | decide) ?_ | refine E_ixN (by omega) ?_ | refine E_ld' (by assumption) ?_ | refine E_addI (by omega) (by omega) ?_ | refine E_subI (by omega) (by omega) ?_ | refine E_mulI (by omega) (by omega) ?_))
    by_cases e9 : ¬ (o.torn = p.torn)
    · (repeat (first | refine goS ?_ | refine E_box fun _ => ?_ | refine E_fa fun _ => ?_ | refine E_ptfad0 fun _ _ => ?_ | refine E_ptfad fun _ _ => ?_ | refine E_rsix (by assumption) fun _ _ => ?_ | refine E_ifT (by first | assumption | decide) ?_ | refine E_ifF (by first | assumption | decide) ?_ | refine E_gdT (by first | assumption | decide) ?_ | refine E_gdF (by first | assumption | decide) ?_ | refine E_gdnT (by first | assumption | decide) ?_ | refine E_gdnF (by first | assumption | decide) ?_ | refine E_pickT (by first | assumption | decide) ?_ | refine E_pickF (by first | assumption | decide) ?_ | refine E_ixN (by omega) ?_ | refine E_ld' (by assumption) ?_ | refine E_addI (by omega) (by omega) ?_ | refine E_subI (by omega) (by omega) ?_ | refine E_mulI (by omega) (by omega) ?_))
      exact E_same (by repeat (first | exact Same.refl | (refine Same.cons (by repeat (first | exact Find.here | apply Find.there)) ?_) | (refine Same.drop ?_))) (fin true (decide_eq_true fun h => e9 h.2.2.2.2.2.2.2.2.2.1))
    (repeat (first | refine goS ?_ | refine E_box fun _ => ?_ | refine E_fa fun _ => ?_ | refine E_ptfad0 fun _ _ => ?_ | refine E_ptfad fun _ _ => ?_ | refine E_rsix (by assumption) fun _ _ => ?_ | refine E_ifT (by first | assumption | decide) ?_ | refine E_ifF (by first | assumption | decide) ?_ | refine E_gdT (by first | assumption | decide) ?_ | refine E_gdF (by first | assumption | decide) ?_ | refine E_gdnT (by first | assumption | decide) ?_ | refine E_gdnF (by first | assumption | decide) ?_ | refine E_pickT (by first | assumption | decide) ?_ | refine E_pickF (by first | assumption | decide) ?_ | refine E_ixN (by omega) ?_ | refine E_ld' (by assumption) ?_ | refine E_addI (by omega) (by omega) ?_ | refine E_subI (by omega) (by omega) ?_ | refine E_mulI (by omega) (by omega) ?_))
    by_cases e10 : ¬ (o.at_ = p.at_)
    · (repeat (first | refine goS ?_ | refine E_box fun _ => ?_ | refine E_fa fun _ => ?_ | refine E_ptfad0 fun _ _ => ?_ | refine E_ptfad fun _ _ => ?_ | refine E_rsix (by assumption) fun _ _ => ?_ | refine E_ifT (by first | assumption | decide) ?_ | refine E_ifF (by first | assumption | decide) ?_ | refine E_gdT (by first | assumption | decide) ?_ | refine E_gdF (by first | assumption | decide) ?_ | refine E_gdnT (by first | assumption | decide) ?_ | refine E_gdnF (by first | assumption | decide) ?_ | refine E_pickT (by first | assumption | decide) ?_ | refine E_pickF (by first | assumption | decide) ?_ | refine E_ixN (by omega) ?_ | refine E_ld' (by assumption) ?_ | refine E_addI (by omega) (by omega) ?_ | refine E_subI (by omega) (by omega) ?_ | refine E_mulI (by omega) (by omega) ?_))
      exact E_same (by repeat (first | exact Same.refl | (refine Same.cons (by repeat (first | exact Find.here | apply Find.there)) ?_) | (refine Same.drop ?_))) (fin true (decide_eq_true fun h => e10 h.2.2.2.2.2.2.2.2.2.2.1))
    (repeat (first | refine goS ?_ | refine E_box fun _ => ?_ | refine E_fa fun _ => ?_ | refine E_ptfad0 fun _ _ => ?_ | refine E_ptfad fun _ _ => ?_ | refine E_rsix (by assumption) fun _ _ => ?_ | refine E_ifT (by first | assumption | decide) ?_ | refine E_ifF (by first | assumption | decide) ?_ | refine E_gdT (by first | assumption | decide) ?_ | refine E_gdF (by first | assumption | decide) ?_ | refine E_gdnT (by first | assumption | decide) ?_ | refine E_gdnF (by first | assumption | decide) ?_ | refine E_pickT (by first | assumption | decide) ?_ | refine E_pickF (by first | assumption | decide) ?_ | refine E_ixN (by omega) ?_ | refine E_ld' (by assumption) ?_ | refine E_addI (by omega) (by omega) ?_ | refine E_subI (by omega) (by omega) ?_ | refine E_mulI (by omega) (by omega) ?_))
    by_cases e11 : ¬ (((o.keep.length : Int) = (p.keep.length : Int)))
    · (repeat (first | refine goS ?_ | refine E_box fun _ => ?_ | refine E_fa fun _ => ?_ | refine E_ptfad0 fun _ _ => ?_ | refine E_ptfad fun _ _ => ?_ | refine E_rsix (by assumption) fun _ _ => ?_ | refine E_ifT (by first | assumption | decide) ?_ | refine E_ifF (by first | assumption | decide) ?_ | refine E_gdT (by first | assumption | decide) ?_ | refine E_gdF (by first | assumption | decide) ?_ | refine E_gdnT (by first | assumption | decide) ?_ | refine E_gdnF (by first | assumption | decide) ?_ | refine E_pickT (by first | assumption | decide) ?_ | refine E_pickF (by first | assumption | decide) ?_ | refine E_ixN (by omega) ?_ | refine E_ld' (by assumption) ?_ | refine E_addI (by omega) (by omega) ?_ | refine E_subI (by omega) (by omega) ?_ | refine E_mulI (by omega) (by omega) ?_))
      rw [decide_eq_true e11]
      exact E_same (by repeat (first | exact Same.refl | (refine Same.cons (by repeat (first | exact Find.here | apply Find.there)) ?_) | (refine Same.drop ?_))) (fin true (decide_eq_true fun h => e11 h.2.2.2.2.2.2.2.2.2.2.2))
    (repeat (first | refine goS ?_ | refine E_box fun _ => ?_ | refine E_fa fun _ => ?_ | refine E_ptfad0 fun _ _ => ?_ | refine E_ptfad fun _ _ => ?_ | refine E_rsix (by assumption) fun _ _ => ?_ | refine E_ifT (by first | assumption | decide) ?_ | refine E_ifF (by first | assumption | decide) ?_ | refine E_gdT (by first | assumption | decide) ?_ | refine E_gdF (by first | assumption | decide) ?_ | refine E_gdnT (by first | assumption | decide) ?_ | refine E_gdnF (by first | assumption | decide) ?_ | refine E_pickT (by first | assumption | decide) ?_ | refine E_pickF (by first | assumption | decide) ?_ | refine E_ixN (by omega) ?_ | refine E_ld' (by assumption) ?_ | refine E_addI (by omega) (by omega) ?_ | refine E_subI (by omega) (by omega) ?_ | refine E_mulI (by omega) (by omega) ?_))
    rw [decide_eq_false e11]
    exact E_same (by repeat (first | exact Same.refl | (refine Same.cons (by repeat (first | exact Find.here | apply Find.there)) ?_) | (refine Same.drop ?_))) (fin false (decide_eq_false fun h => h ⟨Decidable.not_not.1 e0, Decidable.not_not.1 e1, Decidable.not_not.1 e2, Decidable.not_not.1 e3, Decidable.not_not.1 e4, Decidable.not_not.1 e5, Decidable.not_not.1 e6, Decidable.not_not.1 e7, Decidable.not_not.1 e8, Decidable.not_not.1 e9, Decidable.not_not.1 e10, Decidable.not_not.1 e11⟩))
  refine E_fa fun _ => ?_
  refine E_if (fun hne => ?_) (fun he => ?_)
  · rw [decide_eq_false (fun e => hne (by subst e; simp))] at h
    exact E_drop (E_drop h)
  have he := Decidable.not_not.1 he
  obtain ⟨a1, a2, a3, a4, a5, a6, a7, a8, a9, a10, a11, a12⟩ := he
  refine E_loop (σ := Nat) (fun i => i ≤ o.keep.length ∧ o.keep.take i = p.keep.take i) (fun i => [ptr b1, ptr b2, I i]) (fun _ => cel true b2 30 (opC p v2 u2) :: cel true b1 30 (opC o v1 u1) :: H) (fun i => o.keep.length - i) 0 (fun _ => rfl) rfl ⟨Nat.zero_le _, rfl⟩ (fun W hW => hW) ?_
  rintro i K0 ⟨hi, ht⟩ hk
  refine E_fa fun _ => ?_
  (repeat (first | refine goS ?_ | refine E_box fun _ => ?_ | refine E_fa fun _ => ?_ | refine E_ptfad0 fun _ _ => ?_ | refine E_ptfad fun _ _ => ?_ | refine E_rsix (by assumption) fun _ _ => ?_ | refine E_ifT (by first | assumption | decide) ?_ | refine E_ifF (by first | assumption | decide) ?_ | refine E_gdT (by first | assumption | decide) ?_ | refine E_gdF (by first | assumption | decide) ?_ | refine E_gdnT (by first | assumption | decide) ?_ | refine E_gdnF (by first | assumption | decide) ?_ | refine E_pickT (by first | assumption | decide) ?_ | refine E_pickF (by first | assumption | decide) ?_ | refine E_ixN (by omega) ?_ | refine E_ld' (by assumption) ?_ | refine E_addI (by omega) (by omega) ?_ | refine E_subI (by omega) (by omega) ?_ | refine E_mulI (by omega) (by omega) ?_))
  refine E_if (fun hc => ?_) (fun hc => ?_)
  · have hs : o.keep[i]? = some o.keep[i] := List.getElem?_eq_getElem (by omega)
    have hs2 : p.keep[i]? = some p.keep[i] := List.getElem?_eq_getElem (by omega)
    generalize o.keep[i] = c at hs
    generalize p.keep[i] = d at hs2
    (repeat (first | refine goS ?_ | refine E_box fun _ => ?_ | refine E_fa fun _ => ?_ | refine E_ptfad0 fun _ _ => ?_ | refine E_ptfad fun _ _ => ?_ | refine E_rsix (by assumption) fun _ _ => ?_ | refine E_ifT (by first | assumption | decide) ?_ | refine E_ifF (by first | assumption | decide) ?_ | refine E_gdT (by first | assumption | decide) ?_ | refine E_gdF (by first | assumption | decide) ?_ | refine E_gdnT (by first | assumption | decide) ?_ | refine E_gdnF (by first | assumption | decide) ?_ | refine E_pickT (by first | assumption | decide) ?_ | refine E_pickF (by first | assumption | decide) ?_ | refine E_ixN (by omega) ?_ | refine E_ld' (by assumption) ?_ | refine E_addI (by omega) (by omega) ?_ | refine E_subI (by omega) (by omega) ?_ | refine E_mulI (by omega) (by omega) ?_))
    refine E_bne ?_
    refine E_if (fun hcd => ?_) (fun hcd => ?_)
    · rw [decide_eq_false (fun e => hcd (by subst e; rw [hs] at hs2; cases hs2; rfl))] at h
      exact E_same (by repeat (first | exact Same.refl | (refine Same.cons (by repeat (first | exact Find.here | apply Find.there)) ?_) | (refine Same.drop ?_))) h
    · refine E_addI (by omega) (by omega) ?_
      have hcd : c = d := Decidable.not_not.1 hcd
      exact E_same (by repeat (first | exact Same.refl | (refine Same.cons (by repeat (first | exact Find.here | apply Find.there)) ?_) | (refine Same.drop ?_))) (hk (i + 1) ⟨by omega, by rw [List.take_add_one, List.take_add_one, ht, hs, hs2, hcd]⟩ (by omega))
  · have ei : i = o.keep.length := by omega
    subst ei
    rw [List.take_length, show o.keep.length = p.keep.length by omega, List.take_length] at ht
    have : o = p := by
      obtain ⟨⟩ := o
      obtain ⟨⟩ := p
      simp only at *
      simp_all
    rw [decide_eq_true this] at h
    exact E_same (by repeat (first | exact Same.refl | (refine Same.cons (by repeat (first | exact Find.here | apply Find.there)) ?_) | (refine Same.drop ?_))) h
end Go.Proofs.YtogallbjmgoagaaDoor.Scr
