/-
  Script: the reference's bytes and crashes.
-/
import Derived.Test.YtogallbjmgoagaaDoorScrK
set_option linter.unusedSimpArgs false
set_option linter.unusedVariables false
set_option linter.unusedSectionVars false
namespace Go.Proofs.YtogallbjmgoagaaDoor.Scr
open Go Go.SL Go.Proofs Go.Proofs.YtogallbjmgoagaaDoor.Sh
variable {B : World} {H : List Asrt} {K : Value → WT} {W : WT}
theorem str_crash : Str Tryd.prog 28 [(0, 1), (1, 1), (2, 1)] [.slice none 0 0, I 0, I 0] := str_of (zv := .agg #[.slice none 0 0, I 0, I 0]) (by kernel_rfl) (by kernel_rfl) rfl
attribute [local irreducible] S.pick S.ld S.ldN S.st S.box S.nc S.fad S.ixS S.ixA S.chr S.prt S.ext S.bin S.sh S.sbin S.beq S.neg1 S.com1 S.not1 S.cvt S.str1 S.lenS S.len S.cap S.lenM S.mx S.mn S.mkM S.cond S.gd S.fa S.dr S.rck S.join S.loop S.cvv S.eqv S.slc S.slcS S.b2s S.lk V U CF Gives E cel mpb osl ros dct dit itr lpo dfo
attribute [local irreducible] sls
set_option maxRecDepth 8000
theorem rjoin [Amb] {v : Value} {l : List (List UInt8)} [Rs B H v cS l] {kk : Kn 3} (hll : l.length ≤ 1000001) (hm : (joinB l).length ≤ 1000000) (h : E B H (app 3 kk [v, str (joinB l), I l.length])) :
    E B H (S.loop 3 (fun K0 => fun v0' v4 v5 => S.fa fun _ =>
    S.len v0' fun v15 =>
    S.bin .lss v5 v15 fun v16 =>
    S.cond v16 (
      S.join 3 (fun K1 =>
        S.bin .gtr v5 (I 0) fun v20 =>
        S.cond v20 (
          S.sbin .add v4 (.string ⟨#[32]⟩) fun v22 =>
          K1 v0' v22 v5) (
          K1 v0' v4 v5))
      <| fun v0'2 v4' v5' => S.fa fun _ =>
      S.ixS 1 v0'2 v5' fun v26 =>
      S.ld v26 fun v27 =>
      S.sbin .add v4' v27 fun v28 =>
      S.bin .add v5' (I 1) fun v18 =>
      K0 v0'2 v28 v18) (kk v0' v4 v5)) [v, str [], I 0]) := by
  refine E_loop (σ := Nat) (fun i => i ≤ l.length) (fun i => [v, str (joinB (l.take i)), I i]) (fun _ => H) (fun i => l.length - i) 0 (fun _ => rfl) rfl (Nat.zero_le _) (fun W hW => hW) ?_
  intro i K0 hi hk
  refine E_fa fun _ => ?_
  refine E_rslen (v := v) ?_
  refine E_lss ?_
  refine E_if (fun hc => ?_) (fun hc => ?_)
  · have hs : l[i]? = some l[i] := List.getElem?_eq_getElem (by omega)
    generalize l[i] = w at hs
    have hj := hk (i + 1) (by omega) (by omega)
    have hjl := joinB_take (l := l) (i + 1)
    have hjl0 := joinB_take (l := l) i
    rw [List.take_add_one, hs, Option.toList_some, joinB_snoc] at hj hjl
    have hnil : (l.take i = []) ↔ i = 0 := by
      rw [← List.length_eq_zero_iff, List.length_take]; omega
    refine E_join1 [v, str (if i = 0 then [] else joinB (l.take i) ++ [32]), I i] H (fun q hq => ?_) ?_
    · by_cases g : (i : Int) > 0
      · rw [if_neg (by omega)] at hq
        (repeat (first | refine goS ?_ | refine E_box fun _ => ?_ | refine E_fa fun _ => ?_ | refine E_ptfad0 fun _ _ => ?_ | refine E_ptfad fun _ _ => ?_ | refine E_rsix (by assumption) fun _ _ => ?_ | refine E_ifT (by first | assumption | decide) ?_ | refine E_ifF (by first | assumption | decide) ?_ | refine E_gdT (by first | assumption | decide) ?_ | refine E_gdF (by first | assumption | decide) ?_ | refine E_gdnT (by first | assumption | decide) ?_ | refine E_gdnF (by first | assumption | decide) ?_ | refine E_pickT (by first | assumption | decide) ?_ | refine E_pickF (by first | assumption | decide) ?_ | refine E_ixN (by omega) ?_ | refine E_ld' (by assumption) ?_ | refine E_addI (by omega) (by omega) ?_ | refine E_subI (by omega) (by omega) ?_ | refine E_mulI (by omega) (by omega) ?_))
        refine E_stradd (b := [32]) (by simp; omega) ?_
        exact hq
      · rw [if_pos (by omega)] at hq
        have : i = 0 := by omega
        subst this
        (repeat (first | refine goS ?_ | refine E_box fun _ => ?_ | refine E_fa fun _ => ?_ | refine E_ptfad0 fun _ _ => ?_ | refine E_ptfad fun _ _ => ?_ | refine E_rsix (by assumption) fun _ _ => ?_ | refine E_ifT (by first | assumption | decide) ?_ | refine E_ifF (by first | assumption | decide) ?_ | refine E_gdT (by first | assumption | decide) ?_ | refine E_gdF (by first | assumption | decide) ?_ | refine E_gdnT (by first | assumption | decide) ?_ | refine E_gdnF (by first | assumption | decide) ?_ | refine E_pickT (by first | assumption | decide) ?_ | refine E_pickF (by first | assumption | decide) ?_ | refine E_ixN (by omega) ?_ | refine E_ld' (by assumption) ?_ | refine E_addI (by omega) (by omega) ?_ | refine E_subI (by omega) (by omega) ?_ | refine E_mulI (by omega) (by omega) ?_))
        exact hq
    refine E_fa fun _ => ?_
    refine E_rsix (v := v) hs fun _ _ => ?_
    refine E_ptld ?_
    by_cases h0 : i = 0
    · rw [if_pos (hnil.2 h0)] at hj hjl
      rw [if_pos h0]
      refine E_stradd (by simp; omega) ?_
      refine E_addI (by omega) (by omega) ?_
      exact hj
    · rw [if_neg (fun h => h0 (hnil.1 h))] at hj hjl
      rw [if_neg h0]
      refine E_stradd (by simp at hjl ⊢; omega) ?_
      refine E_addI (by omega) (by omega) ?_
      rw [show joinB (l.take i) ++ [32] ++ w = joinB (l.take i) ++ 32 :: w by simp]
      exact hj
  · have ei : i = l.length := by omega
    subst ei
    rw [List.take_length]
    exact h
theorem rbytes [Amb] {v : Value} {l : List (List UInt8)} [Rs B H v cS l] (hll : l.length ≤ 1000001) (hm : (joinB l).length ≤ 1000000)
    (h1 : ∀ b, bytesW (joinB l) = some b → ∀ u [CellI u], E B (sls cB 5 1 u b :: H) (K (.tuple #[u, .bool true]))) (h2 : bytesW (joinB l) = none → E B H (K (.tuple #[.slice none 0 0, .bool false]))) :
    E B H (CF Tryd.prog 21 [v] K) := by
  refine E_mono (W := s21 _ K) ?_ fun _ => c21
  unfold s21
  refine rjoin hll hm ?_
  generalize joinB l = s at hm h1 h2
  refine E_lenstr ?_
  refine E_eql ?_
  cases s with
  | nil =>
    (repeat (first | refine goS ?_ | refine E_box fun _ => ?_ | refine E_fa fun _ => ?_ | refine E_ptfad0 fun _ _ => ?_ | refine E_ptfad fun _ _ => ?_ | refine E_rsix (by assumption) fun _ _ => ?_ | refine E_ifT (by first | assumption | decide) ?_ | refine E_ifF (by first | assumption | decide) ?_ | refine E_gdT (by first | assumption | decide) ?_ | refine E_gdF (by first | assumption | decide) ?_ | refine E_gdnT (by first | assumption | decide) ?_ | refine E_gdnF (by first | assumption | decide) ?_ | refine E_pickT (by first | assumption | decide) ?_ | refine E_pickF (by first | assumption | decide) ?_ | refine E_ixN (by omega) ?_ | refine E_ld' (by assumption) ?_ | refine E_addI (by omega) (by omega) ?_ | refine E_subI (by omega) (by omega) ?_ | refine E_mulI (by omega) (by omega) ?_))
    exact h2 rfl
  | cons c t =>
    have g0 : ¬ (((c :: t).length : Int) = 0) := by simp; omega
    (repeat (first | refine goS ?_ | refine E_box fun _ => ?_ | refine E_fa fun _ => ?_ | refine E_ptfad0 fun _ _ => ?_ | refine E_ptfad fun _ _ => ?_ | refine E_rsix (by assumption) fun _ _ => ?_ | refine E_ifT (by first | assumption | decide) ?_ | refine E_ifF (by first | assumption | decide) ?_ | refine E_gdT (by first | assumption | decide) ?_ | refine E_gdF (by first | assumption | decide) ?_ | refine E_gdnT (by first | assumption | decide) ?_ | refine E_gdnF (by first | assumption | decide) ?_ | refine E_pickT (by first | assumption | decide) ?_ | refine E_pickF (by first | assumption | decide) ?_ | refine E_ixN (by omega) ?_ | refine E_ld' (by assumption) ?_ | refine E_addI (by omega) (by omega) ?_ | refine E_subI (by omega) (by omega) ?_ | refine E_mulI (by omega) (by omega) ?_))
    refine E_sbsl0 cB u_bytes elt_byte fun v0 _ => ?_
    refine E_chrL (i := 0) (c := c) rfl ?_
    have hlt : t.length ≤ 1000000 := by simp at hm; omega
    refine E_eql ?_
    refine E_if (fun he => ?_) (fun he => ?_)
    · have hc : c = 61 := (u8c (n := 61) (by decide)).1 he
      subst hc
      refine E_loop (σ := Nat × Value) (fun z => z.1 ≤ t.length ∧ CellI z.2 ∧ plainL (t.take z.1)) (fun z => [str (61 :: t), z.2, I ((z.1 + 1 : Nat) : Int)]) (fun z => sls cB 5 1 z.2 (t.take z.1) :: H) (fun z => t.length - z.1) (0, v0) (fun _ => rfl) rfl ⟨by omega, inferInstance, by intro c h; simp at h⟩ (fun W hW => hW) ?_
      rintro ⟨j, u⟩ K0 ⟨hj, hcu, hp⟩ hk
      simp only at hj hcu hp
      refine E_fa fun _ => ?_
      refine E_lenstr ?_
      refine E_lss ?_
      refine E_if (fun hcl => ?_) (fun hcl => ?_)
      rotate_left
      · have ej : j = t.length := by simp at hcl; omega
        subst ej
        rw [List.take_length] at hp ⊢
        exact h1 t (by simp [bytesW, hp]) u
      have hjt : j < t.length := by simp at hcl; omega
      have hs : t[j]? = some t[j] := List.getElem?_eq_getElem hjt
      generalize t[j] = d at hs
      have hs2 : (61 :: t)[j + 1]? = some d := by simpa using hs
      refine E_join1 [str (61 :: t), u, I ((j + 1 : Nat) : Int), .bool (decide (¬ (32 ≤ d.toNat ∧ d.toNat ≤ 126)))] (sls cB 5 1 u (t.take j) :: H) (fun q hq => ?_) ?_
      · have fin : ∀ b : Bool, decide (¬ (32 ≤ d.toNat ∧ d.toNat ≤ 126)) = b → E B (sls cB 5 1 u (t.take j) :: H) (app 4 q [str (61 :: t), u, I ((j + 1 : Nat) : Int), .bool b]) := fun b h => h ▸ hq
        refine E_chrL hs2 ?_
        refine E_lss ?_
        by_cases g : (d.toNat : Int) < 32
        · (repeat (first | refine goS ?_ | refine E_box fun _ => ?_ | refine E_fa fun _ => ?_ | refine E_ptfad0 fun _ _ => ?_ | refine E_ptfad fun _ _ => ?_ | refine E_rsix (by assumption) fun _ _ => ?_ | refine E_ifT (by first | assumption | decide) ?_ | refine E_ifF (by first | assumption | decide) ?_ | refine E_gdT (by first | assumption | decide) ?_ | refine E_gdF (by first | assumption | decide) ?_ | refine E_gdnT (by first | assumption | decide) ?_ | refine E_gdnF (by first | assumption | decide) ?_ | refine E_pickT (by first | assumption | decide) ?_ | refine E_pickF (by first | assumption | decide) ?_ | refine E_ixN (by omega) ?_ | refine E_ld' (by assumption) ?_ | refine E_addI (by omega) (by omega) ?_ | refine E_subI (by omega) (by omega) ?_ | refine E_mulI (by omega) (by omega) ?_))
          exact fin _ (decide_eq_true (by omega))
        · (repeat (first | refine goS ?_ | refine E_box fun _ => ?_ | refine E_fa fun _ => ?_ | refine E_ptfad0 fun _ _ => ?_ | refine E_ptfad fun _ _ => ?_ | refine E_rsix (by assumption) fun _ _ => ?_ | refine E_ifT (by first | assumption | decide) ?_ | refine E_ifF (by first | assumption | decide) ?_ | refine E_gdT (by first | assumption | decide) ?_ | refine E_gdF (by first | assumption | decide) ?_ | refine E_gdnT (by first | assumption | decide) ?_ | refine E_gdnF (by first | assumption | decide) ?_ | refine E_pickT (by first | assumption | decide) ?_ | refine E_pickF (by first | assumption | decide) ?_ | refine E_ixN (by omega) ?_ | refine E_ld' (by assumption) ?_ | refine E_addI (by omega) (by omega) ?_ | refine E_subI (by omega) (by omega) ?_ | refine E_mulI (by omega) (by omega) ?_))
          refine E_chrL hs2 ?_
          (repeat (first | refine goS ?_ | refine E_box fun _ => ?_ | refine E_fa fun _ => ?_ | refine E_ptfad0 fun _ _ => ?_ | refine E_ptfad fun _ _ => ?_ | refine E_rsix (by assumption) fun _ _ => ?_ | refine E_ifT (by first | assumption | decide) ?_ | refine E_ifF (by first | assumption | decide) ?_ | refine E_gdT (by first | assumption | decide) ?_ | refine E_gdF (by first | assumption | decide) ?_ | refine E_gdnT (by first | assumption | decide) ?_ | refine E_gdnF (by first | assumption | decide) ?_ | refine E_pickT (by first | assumption | decide) ?_ | refine E_pickF (by first | assumption | decide) ?_ | refine E_ixN (by omega) ?_ | refine E_ld' (by assumption) ?_ | refine E_addI (by omega) (by omega) ?_ | refine E_subI (by omega) (by omega) ?_ | refine E_mulI (by omega) (by omega) ?_))
          exact fin _ (by rw [decide_eq_decide]; omega)
      refine E_fa fun _ => ?_
      refine E_if (fun hb => ?_) (fun hb => ?_)
      · refine E_drop (h2 ?_)
        have : ¬ plainL t := fun hh => hb (hh d (List.mem_of_getElem? hs))
        simp [bytesW, this]
      · refine E_chrL hs2 ?_
        refine E_sapp1 d u_bytes elt_byte rfl (by decide) (by simp; omega) (by simp; omega) fun u' _ => ?_
        refine E_addI (by omega) (by omega) ?_
        have hk' := hk (j + 1, u') ⟨by simp only; omega, inferInstance, by
          simp only
          rw [List.take_add_one, hs]
          intro x hx
          rcases List.mem_append.1 hx with hx | hx
          · exact hp x hx
          · have : x = d := by simpa using hx
            rw [this]; exact Decidable.not_not.1 hb⟩ (by simp only; omega)
        simp only at hk'
        rw [List.take_add_one, hs] at hk'
        exact hk'
    have hb61 : ¬ c = 61 := fun h => he (by rw [h]; rfl)
    by_cases hx : (c.toNat : Int) = 120 ∧ t.length % 2 = 0
    rotate_left
    · have hbw : bytesW (c :: t) = none := by
        show (if c = 61 then (if plainL t then some t else none) else if c = 120 ∧ t.length % 2 = 0 then unhex t else none) = none
        rw [if_neg hb61, if_neg (fun h => hx ⟨by rw [h.1]; rfl, h.2⟩)]
      refine E_join0 ?_
      refine E_chrL (i := 0) (c := c) rfl ?_
      by_cases g : (c.toNat : Int) ≠ 120
      · (repeat (first | refine goS ?_ | refine E_box fun _ => ?_ | refine E_fa fun _ => ?_ | refine E_ptfad0 fun _ _ => ?_ | refine E_ptfad fun _ _ => ?_ | refine E_rsix (by assumption) fun _ _ => ?_ | refine E_ifT (by first | assumption | decide) ?_ | refine E_ifF (by first | assumption | decide) ?_ | refine E_gdT (by first | assumption | decide) ?_ | refine E_gdF (by first | assumption | decide) ?_ | refine E_gdnT (by first | assumption | decide) ?_ | refine E_gdnF (by first | assumption | decide) ?_ | refine E_pickT (by first | assumption | decide) ?_ | refine E_pickF (by first | assumption | decide) ?_ | refine E_ixN (by omega) ?_ | refine E_ld' (by assumption) ?_ | refine E_addI (by omega) (by omega) ?_ | refine E_subI (by omega) (by omega) ?_ | refine E_mulI (by omega) (by omega) ?_))
        exact E_drop (h2 hbw)
      · have g2 : (((c :: t).length : Int) % 2 = 0) := by
          have : ¬ t.length % 2 = 0 := fun h => hx ⟨by omega, h⟩
          simp; omega
        (repeat (first | refine goS ?_ | refine E_box fun _ => ?_ | refine E_fa fun _ => ?_ | refine E_ptfad0 fun _ _ => ?_ | refine E_ptfad fun _ _ => ?_ | refine E_rsix (by assumption) fun _ _ => ?_ | refine E_ifT (by first | assumption | decide) ?_ | refine E_ifF (by first | assumption | decide) ?_ | refine E_gdT (by first | assumption | decide) ?_ | refine E_gdF (by first | assumption | decide) ?_ | refine E_gdnT (by first | assumption | decide) ?_ | refine E_gdnF (by first | assumption | decide) ?_ | refine E_pickT (by first | assumption | decide) ?_ | refine E_pickF (by first | assumption | decide) ?_ | refine E_ixN (by omega) ?_ | refine E_ld' (by assumption) ?_ | refine E_addI (by omega) (by omega) ?_ | refine E_subI (by omega) (by omega) ?_ | refine E_mulI (by omega) (by omega) ?_))
        refine E_remI (by omega) (by omega) ?_
        (repeat (first | refine goS ?_ | refine E_box fun _ => ?_ | refine E_fa fun _ => ?_ | refine E_ptfad0 fun _ _ => ?_ | refine E_ptfad fun _ _ => ?_ | refine E_rsix (by assumption) fun _ _ => ?_ | refine E_ifT (by first | assumption | decide) ?_ | refine E_ifF (by first | assumption | decide) ?_ | refine E_gdT (by first | assumption | decide) ?_ | refine E_gdF (by first | assumption | decide) ?_ | refine E_gdnT (by first | assumption | decide) ?_ | refine E_gdnF (by first | assumption | decide) ?_ | refine E_pickT (by first | assumption | decide) ?_ | refine E_pickF (by first | assumption | decide) ?_ | refine E_ixN (by omega) ?_ | refine E_ld' (by assumption) ?_ | refine E_addI (by omega) (by omega) ?_ | refine E_subI (by omega) (by omega) ?_ | refine E_mulI (by omega) (by omega) ?_))
        exact E_drop (h2 hbw)
    obtain ⟨g, hev⟩ := hx
    have hc120 : c = 120 := (u8c (n := 120) (by decide)).1 g
    have hbw : bytesW (c :: t) = unhex t := by
      show (if c = 61 then (if plainL t then some t else none) else if c = 120 ∧ t.length % 2 = 0 then unhex t else none) = unhex t
      rw [if_neg hb61, if_pos ⟨hc120, hev⟩]
    rw [hbw] at h2
    simp only [hbw] at h1
    refine E_join1 [str (c :: t), v0, .bool false] (sls cB 5 1 v0 [] :: H) (fun q hq => ?_) ?_
    · refine E_chrL (i := 0) (c := c) rfl ?_
      have g1 : ¬ ((c.toNat : Int) ≠ 120) := fun h => h g
      have g2 : ¬ (((c :: t).length : Int) % 2 = 0) := by simp; omega
      (repeat (first | refine goS ?_ | refine E_box fun _ => ?_ | refine E_fa fun _ => ?_ | refine E_ptfad0 fun _ _ => ?_ | refine E_ptfad fun _ _ => ?_ | refine E_rsix (by assumption) fun _ _ => ?_ | refine E_ifT (by first | assumption | decide) ?_ | refine E_ifF (by first | assumption | decide) ?_ | refine E_gdT (by first | assumption | decide) ?_ | refine E_gdF (by first | assumption | decide) ?_ | refine E_gdnT (by first | assumption | decide) ?_ | refine E_gdnF (by first | assumption | decide) ?_ | refine E_pickT (by first | assumption | decide) ?_ | refine E_pickF (by first | assumption | decide) ?_ | refine E_ixN (by omega) ?_ | refine E_ld' (by assumption) ?_ | refine E_addI (by omega) (by omega) ?_ | refine E_subI (by omega) (by omega) ?_ | refine E_mulI (by omega) (by omega) ?_))
      refine E_remI (by omega) (by omega) ?_
      (repeat (first | refine goS ?_ | refine E_box fun _ => ?_ | refine E_fa fun _ => ?_ | refine E_ptfad0 fun _ _ => ?_ | refine E_ptfad fun _ _ => ?_ | refine E_rsix (by assumption) fun _ _ => ?_ | refine E_ifT (by first | assumption | decide) ?_ | refine E_ifF (by first | assumption | decide) ?_ | refine E_gdT (by first | assumption | decide) ?_ | refine E_gdF (by first | assumption | decide) ?_ | refine E_gdnT (by first | assumption | decide) ?_ | refine E_gdnF (by first | assumption | decide) ?_ | refine E_pickT (by first | assumption | decide) ?_ | refine E_pickF (by first | assumption | decide) ?_ | refine E_ixN (by omega) ?_ | refine E_ld' (by assumption) ?_ | refine E_addI (by omega) (by omega) ?_ | refine E_subI (by omega) (by omega) ?_ | refine E_mulI (by omega) (by omega) ?_))
      rw [decide_eq_false g2]
      exact hq
    refine E_fa fun _ => ?_
    (repeat (first | refine goS ?_ | refine E_box fun _ => ?_ | refine E_fa fun _ => ?_ | refine E_ptfad0 fun _ _ => ?_ | refine E_ptfad fun _ _ => ?_ | refine E_rsix (by assumption) fun _ _ => ?_ | refine E_ifT (by first | assumption | decide) ?_ | refine E_ifF (by first | assumption | decide) ?_ | refine E_gdT (by first | assumption | decide) ?_ | refine E_gdF (by first | assumption | decide) ?_ | refine E_gdnT (by first | assumption | decide) ?_ | refine E_gdnF (by first | assumption | decide) ?_ | refine E_pickT (by first | assumption | decide) ?_ | refine E_pickF (by first | assumption | decide) ?_ | refine E_ixN (by omega) ?_ | refine E_ld' (by assumption) ?_ | refine E_addI (by omega) (by omega) ?_ | refine E_subI (by omega) (by omega) ?_ | refine E_mulI (by omega) (by omega) ?_))
    refine E_loop (σ := Nat × Value × List UInt8) (fun z => 2 * z.1 ≤ t.length ∧ CellI z.2.1 ∧ unhex (t.take (2 * z.1)) = some z.2.2 ∧ z.2.2.length = z.1) (fun z => [str (c :: t), z.2.1, I ((2 * z.1 + 1 : Nat) : Int)])
      (fun z => sls cB 5 1 z.2.1 z.2.2 :: H) (fun z => t.length - z.1) (0, v0, []) (fun _ => rfl) rfl ⟨by omega, inferInstance, rfl, rfl⟩ (fun W hW => hW) ?_
    rintro ⟨m, u, acc⟩ K0 ⟨hi, hcu, hu, hla⟩ hk
    simp only at hi hcu hu hla
    refine E_fa fun _ => ?_
    refine E_lenstr ?_
    refine E_lss ?_
    refine E_if (fun hcl => ?_) (fun hcl => ?_)
    rotate_left
    · have e : t.take (2 * m) = t := List.take_of_length_le (by simp at hcl; omega)
      rw [e] at hu
      exact h1 acc hu u
    have hb1 : 2 * m + 1 < t.length := by simp at hcl; omega
    have e1 : t[2 * m]? = some t[2 * m] := List.getElem?_eq_getElem (by omega)
    have e2 : t[2 * m + 1]? = some t[2 * m + 1] := List.getElem?_eq_getElem hb1
    generalize t[2 * m] = c1 at e1
    generalize t[2 * m + 1] = c2 at e2
    have htk : t.take (2 * (m + 1)) = t.take (2 * m) ++ [c1, c2] := by
      rw [show 2 * (m + 1) = 2 * m + 1 + 1 by omega, List.take_add_one, List.take_add_one, e1, e2]; simp
    have hsp : t = t.take (2 * m) ++ c1 :: c2 :: t.drop (2 * m + 2) := by
      conv => lhs; rw [← List.take_append_drop (2 * (m + 1)) t, htk]
      rw [show 2 * (m + 1) = 2 * m + 2 by omega]; simp
    have hl2 : (t.take (2 * m)).length % 2 = 0 := by rw [List.length_take]; omega
    have hno : (hexV c1 = none ∨ hexV c2 = none) → unhex t = none := fun h => by
      rw [hsp, unhex_append _ _ hl2, hu]
      have e3 : unhex (c1 :: c2 :: t.drop (2 * m + 2)) = (match hexV c1, hexV c2, unhex (t.drop (2 * m + 2)) with | some x, some y, some r => some (UInt8.ofNat (16 * x + y) :: r) | _, _, _ => none) := rfl
      rw [e3]
      rcases h with h | h
      · rw [h]
      · rw [h]; cases hexV c1 <;> rfl
    have f1 : (c :: t)[2 * m + 1]? = some c1 := by simpa using e1
    have f2 : (c :: t)[2 * m + 1 + 1]? = some c2 := by simpa using e2
    refine E_chrL f1 ?_
    refine rdigit ?_
    (repeat (first | refine goS ?_ | refine E_box fun _ => ?_ | refine E_fa fun _ => ?_ | refine E_ptfad0 fun _ _ => ?_ | refine E_ptfad fun _ _ => ?_ | refine E_rsix (by assumption) fun _ _ => ?_ | refine E_ifT (by first | assumption | decide) ?_ | refine E_ifF (by first | assumption | decide) ?_ | refine E_gdT (by first | assumption | decide) ?_ | refine E_gdF (by first | assumption | decide) ?_ | refine E_gdnT (by first | assumption | decide) ?_ | refine E_gdnF (by first | assumption | decide) ?_ | refine E_pickT (by first | assumption | decide) ?_ | refine E_pickF (by first | assumption | decide) ?_ | refine E_ixN (by omega) ?_ | refine E_ld' (by assumption) ?_ | refine E_addI (by omega) (by omega) ?_ | refine E_subI (by omega) (by omega) ?_ | refine E_mulI (by omega) (by omega) ?_))
    rw [show (((2 * m + 1 : Nat) : Int) + 1) = ((2 * m + 1 + 1 : Nat) : Int) by omega]
    refine E_chrL f2 ?_
    refine rdigit ?_
    (repeat (first | refine goS ?_ | refine E_box fun _ => ?_ | refine E_fa fun _ => ?_ | refine E_ptfad0 fun _ _ => ?_ | refine E_ptfad fun _ _ => ?_ | refine E_rsix (by assumption) fun _ _ => ?_ | refine E_ifT (by first | assumption | decide) ?_ | refine E_ifF (by first | assumption | decide) ?_ | refine E_gdT (by first | assumption | decide) ?_ | refine E_gdF (by first | assumption | decide) ?_ | refine E_gdnT (by first | assumption | decide) ?_ | refine E_gdnF (by first | assumption | decide) ?_ | refine E_pickT (by first | assumption | decide) ?_ | refine E_pickF (by first | assumption | decide) ?_ | refine E_ixN (by omega) ?_ | refine E_ld' (by assumption) ?_ | refine E_addI (by omega) (by omega) ?_ | refine E_subI (by omega) (by omega) ?_ | refine E_mulI (by omega) (by omega) ?_))
    cases g1 : hexV c1 with
    | none =>
      simp only [Option.isSome_none]
      refine E_join0 ?_
      (repeat (first | refine goS ?_ | refine E_box fun _ => ?_ | refine E_fa fun _ => ?_ | refine E_ptfad0 fun _ _ => ?_ | refine E_ptfad fun _ _ => ?_ | refine E_rsix (by assumption) fun _ _ => ?_ | refine E_ifT (by first | assumption | decide) ?_ | refine E_ifF (by first | assumption | decide) ?_ | refine E_gdT (by first | assumption | decide) ?_ | refine E_gdF (by first | assumption | decide) ?_ | refine E_gdnT (by first | assumption | decide) ?_ | refine E_gdnF (by first | assumption | decide) ?_ | refine E_pickT (by first | assumption | decide) ?_ | refine E_pickF (by first | assumption | decide) ?_ | refine E_ixN (by omega) ?_ | refine E_ld' (by assumption) ?_ | refine E_addI (by omega) (by omega) ?_ | refine E_subI (by omega) (by omega) ?_ | refine E_mulI (by omega) (by omega) ?_))
      exact E_drop (h2 (hno (.inl g1)))
    | some x =>
      have hx1 := hexV_lt g1
      cases g2 : hexV c2 with
      | none =>
        simp only [Option.isSome_none, Option.isSome_some]
        refine E_join0 ?_
        (repeat (first | refine goS ?_ | refine E_box fun _ => ?_ | refine E_fa fun _ => ?_ | refine E_ptfad0 fun _ _ => ?_ | refine E_ptfad fun _ _ => ?_ | refine E_rsix (by assumption) fun _ _ => ?_ | refine E_ifT (by first | assumption | decide) ?_ | refine E_ifF (by first | assumption | decide) ?_ | refine E_gdT (by first | assumption | decide) ?_ | refine E_gdF (by first | assumption | decide) ?_ | refine E_gdnT (by first | assumption | decide) ?_ | refine E_gdnF (by first | assumption | decide) ?_ | refine E_pickT (by first | assumption | decide) ?_ | refine E_pickF (by first | assumption | decide) ?_ | refine E_ixN (by omega) ?_ | refine E_ld' (by assumption) ?_ | refine E_addI (by omega) (by omega) ?_ | refine E_subI (by omega) (by omega) ?_ | refine E_mulI (by omega) (by omega) ?_))
        exact E_drop (h2 (hno (.inr g2)))
      | some y =>
        have hy1 := hexV_lt g2
        refine E_join1 [str (c :: t), u, I ((2 * m + 1 : Nat) : Int), I x, I y, .bool false] (sls cB 5 1 u acc :: H) (fun q hq => ?_) ?_
        · simp only [Option.isSome_some]
          (repeat (first | refine goS ?_ | refine E_box fun _ => ?_ | refine E_fa fun _ => ?_ | refine E_ptfad0 fun _ _ => ?_ | refine E_ptfad fun _ _ => ?_ | refine E_rsix (by assumption) fun _ _ => ?_ | refine E_ifT (by first | assumption | decide) ?_ | refine E_ifF (by first | assumption | decide) ?_ | refine E_gdT (by first | assumption | decide) ?_ | refine E_gdF (by first | assumption | decide) ?_ | refine E_gdnT (by first | assumption | decide) ?_ | refine E_gdnF (by first | assumption | decide) ?_ | refine E_pickT (by first | assumption | decide) ?_ | refine E_pickF (by first | assumption | decide) ?_ | refine E_ixN (by omega) ?_ | refine E_ld' (by assumption) ?_ | refine E_addI (by omega) (by omega) ?_ | refine E_subI (by omega) (by omega) ?_ | refine E_mulI (by omega) (by omega) ?_))
          exact hq
        refine E_fa fun _ => ?_
        (repeat (first | refine goS ?_ | refine E_box fun _ => ?_ | refine E_fa fun _ => ?_ | refine E_ptfad0 fun _ _ => ?_ | refine E_ptfad fun _ _ => ?_ | refine E_rsix (by assumption) fun _ _ => ?_ | refine E_ifT (by first | assumption | decide) ?_ | refine E_ifF (by first | assumption | decide) ?_ | refine E_gdT (by first | assumption | decide) ?_ | refine E_gdF (by first | assumption | decide) ?_ | refine E_gdnT (by first | assumption | decide) ?_ | refine E_gdnF (by first | assumption | decide) ?_ | refine E_pickT (by first | assumption | decide) ?_ | refine E_pickF (by first | assumption | decide) ?_ | refine E_ixN (by omega) ?_ | refine E_ld' (by assumption) ?_ | refine E_addI (by omega) (by omega) ?_ | refine E_subI (by omega) (by omega) ?_ | refine E_mulI (by omega) (by omega) ?_))
        refine E_cvt8 (by omega) ?_
        rw [show ((16 * (x : Int) + (y : Int))).toNat = 16 * x + y by omega]
        refine E_sapp1 (UInt8.ofNat (16 * x + y)) u_bytes elt_byte rfl (by decide) (by simp only [hla]; omega) (by simp only [hla]; omega) fun u' _ => ?_
        refine E_addI (by omega) (by omega) ?_
        have hk' := hk (m + 1, u', acc ++ [UInt8.ofNat (16 * x + y)]) ⟨by simp only; omega, inferInstance, by
          simp only
          rw [htk, unhex_append _ _ hl2, hu]
          have e3 : unhex [c1, c2] = (match hexV c1, hexV c2, unhex [] with | some x, some y, some r => some (UInt8.ofNat (16 * x + y) :: r) | _, _, _ => none) := rfl
          rw [e3, g1, g2]
          rfl, by simp [hla]⟩ (by simp only; omega)
        simp only at hk'
        rw [show ((2 * m + 1 : Nat) : Int) + 2 = ((2 * (m + 1) + 1 : Nat) : Int) by omega]
        exact hk'
theorem rcrash [Amb] {v : Value} {l : List (List UInt8)} [Rs B H v cS l] (hm : ∀ w ∈ l, w.length ≤ 1000000) (hll : l.length ≤ 1000001)
    (h1 : ∀ x, crashR l = some x → ∀ u [CellI u], E B (sls cL 4 1 u x.1 :: H) (K (.tuple #[.agg #[u, I x.2.1, I x.2.2], .bool true]))) (h2 : crashR l = none → ∀ u [CellI u] (t n : Int), E B H (K (.tuple #[.agg #[u, I t, I n], .bool false]))) :
    E B H (CF Tryd.prog 20 [v] K) := by
  refine E_mono (W := s20 _ K) ?_ fun _ => c20
  unfold s20
  refine E_box (vs := [.slice none 0 0, I 0, I 0]) fun b2 => ?_
  refine E_build (l := [.slice none 0 0, I (-1), I 0]) str_crash ?_
  refine E_box (vs := [.slice none 0 0, I 0, I 0]) fun b4 => ?_
  (repeat (first | refine goS ?_ | refine E_box fun _ => ?_ | refine E_fa fun _ => ?_ | refine E_ptfad0 fun _ _ => ?_ | refine E_ptfad fun _ _ => ?_ | refine E_rsix (by assumption) fun _ _ => ?_ | refine E_ifT (by first | assumption | decide) ?_ | refine E_ifF (by first | assumption | decide) ?_ | refine E_gdT (by first | assumption | decide) ?_ | refine E_gdF (by first | assumption | decide) ?_ | refine E_gdnT (by first | assumption | decide) ?_ | refine E_gdnF (by first | assumption | decide) ?_ | refine E_pickT (by first | assumption | decide) ?_ | refine E_pickF (by first | assumption | decide) ?_ | refine E_ixN (by omega) ?_ | refine E_ld' (by assumption) ?_ | refine E_addI (by omega) (by omega) ?_ | refine E_subI (by omega) (by omega) ?_ | refine E_mulI (by omega) (by omega) ?_))
  by_cases h3 : (l.length : Int) ≠ 3
  · refine E_join0 ?_
    refine E_rslen (v := v) ?_
    (repeat (first | refine goS ?_ | refine E_box fun _ => ?_ | refine E_fa fun _ => ?_ | refine E_ptfad0 fun _ _ => ?_ | refine E_ptfad fun _ _ => ?_ | refine E_rsix (by assumption) fun _ _ => ?_ | refine E_ifT (by first | assumption | decide) ?_ | refine E_ifF (by first | assumption | decide) ?_ | refine E_gdT (by first | assumption | decide) ?_ | refine E_gdF (by first | assumption | decide) ?_ | refine E_gdnT (by first | assumption | decide) ?_ | refine E_gdnF (by first | assumption | decide) ?_ | refine E_pickT (by first | assumption | decide) ?_ | refine E_pickF (by first | assumption | decide) ?_ | refine E_ixN (by omega) ?_ | refine E_ld' (by assumption) ?_ | refine E_addI (by omega) (by omega) ?_ | refine E_subI (by omega) (by omega) ?_ | refine E_mulI (by omega) (by omega) ?_))
    refine E_drop (E_drop (h2 ?_ _ _ _))
    match l, h3 with
    | [], _ => rfl
    | [_], _ => rfl
    | [_, _], _ => rfl
    | [_, _, _], h => simp at h
    | _ :: _ :: _ :: _ :: _, _ => rfl
  obtain ⟨k, w, a, rfl⟩ : ∃ k w a, l = [k, w, a] := by
    match l, h3 with
    | [], h => simp at h
    | [_], h => simp at h
    | [_, _], h => simp at h
    | [k, w, a], _ => exact ⟨k, w, a, rfl⟩
    | _ :: _ :: _ :: _ :: _, h => simp at h; omega
  have hk1 := hm k (by simp)
  have hw1 := hm w (by simp)
  have ha1 := hm a (by simp)
  have bad1 : keepW k = none → ∀ u [CellI u] (t n : Int), E B H (K (.tuple #[.agg #[u, I t, I n], .bool false])) := fun hn => h2 (by simp [crashR, hn])
  cases k with
  | nil =>
    refine E_join0 ?_
    refine E_rslen (v := v) ?_
    (repeat (first | refine goS ?_ | refine E_box fun _ => ?_ | refine E_fa fun _ => ?_ | refine E_ptfad0 fun _ _ => ?_ | refine E_ptfad fun _ _ => ?_ | refine E_rsix (by assumption) fun _ _ => ?_ | refine E_ifT (by first | assumption | decide) ?_ | refine E_ifF (by first | assumption | decide) ?_ | refine E_gdT (by first | assumption | decide) ?_ | refine E_gdF (by first | assumption | decide) ?_ | refine E_gdnT (by first | assumption | decide) ?_ | refine E_gdnF (by first | assumption | decide) ?_ | refine E_pickT (by first | assumption | decide) ?_ | refine E_pickF (by first | assumption | decide) ?_ | refine E_ixN (by omega) ?_ | refine E_ld' (by assumption) ?_ | refine E_addI (by omega) (by omega) ?_ | refine E_subI (by omega) (by omega) ?_ | refine E_mulI (by omega) (by omega) ?_))
    refine E_rsix (v := v) (i := 0) rfl fun _ _ => ?_
    (repeat (first | refine goS ?_ | refine E_box fun _ => ?_ | refine E_fa fun _ => ?_ | refine E_ptfad0 fun _ _ => ?_ | refine E_ptfad fun _ _ => ?_ | refine E_rsix (by assumption) fun _ _ => ?_ | refine E_ifT (by first | assumption | decide) ?_ | refine E_ifF (by first | assumption | decide) ?_ | refine E_gdT (by first | assumption | decide) ?_ | refine E_gdF (by first | assumption | decide) ?_ | refine E_gdnT (by first | assumption | decide) ?_ | refine E_gdnF (by first | assumption | decide) ?_ | refine E_pickT (by first | assumption | decide) ?_ | refine E_pickF (by first | assumption | decide) ?_ | refine E_ixN (by omega) ?_ | refine E_ld' (by assumption) ?_ | refine E_addI (by omega) (by omega) ?_ | refine E_subI (by omega) (by omega) ?_ | refine E_mulI (by omega) (by omega) ?_))
    exact E_drop (E_drop (bad1 rfl _ _ _))
  | cons c t =>
    by_cases hc : (c.toNat : Int) ≠ 107
    · refine E_join0 ?_
      refine E_rslen (v := v) ?_
      have g : ¬ (((c :: t).length : Int) = 0) := by simp; omega
      (repeat (first | refine goS ?_ | refine E_box fun _ => ?_ | refine E_fa fun _ => ?_ | refine E_ptfad0 fun _ _ => ?_ | refine E_ptfad fun _ _ => ?_ | refine E_rsix (by assumption) fun _ _ => ?_ | refine E_ifT (by first | assumption | decide) ?_ | refine E_ifF (by first | assumption | decide) ?_ | refine E_gdT (by first | assumption | decide) ?_ | refine E_gdF (by first | assumption | decide) ?_ | refine E_gdnT (by first | assumption | decide) ?_ | refine E_gdnF (by first | assumption | decide) ?_ | refine E_pickT (by first | assumption | decide) ?_ | refine E_pickF (by first | assumption | decide) ?_ | refine E_ixN (by omega) ?_ | refine E_ld' (by assumption) ?_ | refine E_addI (by omega) (by omega) ?_ | refine E_subI (by omega) (by omega) ?_ | refine E_mulI (by omega) (by omega) ?_))
      refine E_rsix (v := v) (i := 0) rfl fun _ _ => ?_
      (repeat (first | refine goS ?_ | refine E_box fun _ => ?_ | refine E_fa fun _ => ?_ | refine E_ptfad0 fun _ _ => ?_ | refine E_ptfad fun _ _ => ?_ | refine E_rsix (by assumption) fun _ _ => ?_ | refine E_ifT (by first | assumption | decide) ?_ | refine E_ifF (by first | assumption | decide) ?_ | refine E_gdT (by first | assumption | decide) ?_ | refine E_gdF (by first | assumption | decide) ?_ | refine E_gdnT (by first | assumption | decide) ?_ | refine E_gdnF (by first | assumption | decide) ?_ | refine E_pickT (by first | assumption | decide) ?_ | refine E_pickF (by first | assumption | decide) ?_ | refine E_ixN (by omega) ?_ | refine E_ld' (by assumption) ?_ | refine E_addI (by omega) (by omega) ?_ | refine E_subI (by omega) (by omega) ?_ | refine E_mulI (by omega) (by omega) ?_))
      refine E_rsix (v := v) (i := 0) rfl fun _ _ => ?_
      (repeat (first | refine goS ?_ | refine E_box fun _ => ?_ | refine E_fa fun _ => ?_ | refine E_ptfad0 fun _ _ => ?_ | refine E_ptfad fun _ _ => ?_ | refine E_rsix (by assumption) fun _ _ => ?_ | refine E_ifT (by first | assumption | decide) ?_ | refine E_ifF (by first | assumption | decide) ?_ | refine E_gdT (by first | assumption | decide) ?_ | refine E_gdF (by first | assumption | decide) ?_ | refine E_gdnT (by first | assumption | decide) ?_ | refine E_gdnF (by first | assumption | decide) ?_ | refine E_pickT (by first | assumption | decide) ?_ | refine E_pickF (by first | assumption | decide) ?_ | refine E_ixN (by omega) ?_ | refine E_ld' (by assumption) ?_ | refine E_addI (by omega) (by omega) ?_ | refine E_subI (by omega) (by omega) ?_ | refine E_mulI (by omega) (by omega) ?_))
      refine E_chrL (i := 0) (c := c) rfl ?_
      (repeat (first | refine goS ?_ | refine E_box fun _ => ?_ | refine E_fa fun _ => ?_ | refine E_ptfad0 fun _ _ => ?_ | refine E_ptfad fun _ _ => ?_ | refine E_rsix (by assumption) fun _ _ => ?_ | refine E_ifT (by first | assumption | decide) ?_ | refine E_ifF (by first | assumption | decide) ?_ | refine E_gdT (by first | assumption | decide) ?_ | refine E_gdF (by first | assumption | decide) ?_ | refine E_gdnT (by first | assumption | decide) ?_ | refine E_gdnF (by first | assumption | decide) ?_ | refine E_pickT (by first | assumption | decide) ?_ | refine E_pickF (by first | assumption | decide) ?_ | refine E_ixN (by omega) ?_ | refine E_ld' (by assumption) ?_ | refine E_addI (by omega) (by omega) ?_ | refine E_subI (by omega) (by omega) ?_ | refine E_mulI (by omega) (by omega) ?_))
      refine E_drop (E_drop (bad1 ?_ _ _ _))
      unfold keepW; simp only; rw [if_neg (fun h => hc (by rw [h.1]; rfl))]
    have hc107 : c = 107 := (u8c (n := 107) (by decide)).1 (by omega)
    subst hc107
    have hlt : t.length ≤ 1000000 := by simp at hk1; omega
    refine E_join1 [v, ptr b2, ptr b4, .bool false] (cel true b4 28 [.slice none 0 0, I (-1), I 0] :: cel true b2 28 [.slice none 0 0, I 0, I 0] :: H) (fun q hq => ?_) ?_
    · refine E_rslen (v := v) ?_
      have g : ¬ (((107 :: t : List UInt8).length : Int) = 0) := by simp; omega
      (repeat (first | refine goS ?_ | refine E_box fun _ => ?_ | refine E_fa fun _ => ?_ | refine E_ptfad0 fun _ _ => ?_ | refine E_ptfad fun _ _ => ?_ | refine E_rsix (by assumption) fun _ _ => ?_ | refine E_ifT (by first | assumption | decide) ?_ | refine E_ifF (by first | assumption | decide) ?_ | refine E_gdT (by first | assumption | decide) ?_ | refine E_gdF (by first | assumption | decide) ?_ | refine E_gdnT (by first | assumption | decide) ?_ | refine E_gdnF (by first | assumption | decide) ?_ | refine E_pickT (by first | assumption | decide) ?_ | refine E_pickF (by first | assumption | decide) ?_ | refine E_ixN (by omega) ?_ | refine E_ld' (by assumption) ?_ | refine E_addI (by omega) (by omega) ?_ | refine E_subI (by omega) (by omega) ?_ | refine E_mulI (by omega) (by omega) ?_))
      refine E_rsix (v := v) (i := 0) rfl fun _ _ => ?_
      (repeat (first | refine goS ?_ | refine E_box fun _ => ?_ | refine E_fa fun _ => ?_ | refine E_ptfad0 fun _ _ => ?_ | refine E_ptfad fun _ _ => ?_ | refine E_rsix (by assumption) fun _ _ => ?_ | refine E_ifT (by first | assumption | decide) ?_ | refine E_ifF (by first | assumption | decide) ?_ | refine E_gdT (by first | assumption | decide) ?_ | refine E_gdF (by first | assumption | decide) ?_ | refine E_gdnT (by first | assumption | decide) ?_ | refine E_gdnF (by first | assumption | decide) ?_ | refine E_pickT (by first | assumption | decide) ?_ | refine E_pickF (by first | assumption | decide) ?_ | refine E_ixN (by omega) ?_ | refine E_ld' (by assumption) ?_ | refine E_addI (by omega) (by omega) ?_ | refine E_subI (by omega) (by omega) ?_ | refine E_mulI (by omega) (by omega) ?_))
      refine E_rsix (v := v) (i := 0) rfl fun _ _ => ?_
      (repeat (first | refine goS ?_ | refine E_box fun _ => ?_ | refine E_fa fun _ => ?_ | refine E_ptfad0 fun _ _ => ?_ | refine E_ptfad fun _ _ => ?_ | refine E_rsix (by assumption) fun _ _ => ?_ | refine E_ifT (by first | assumption | decide) ?_ | refine E_ifF (by first | assumption | decide) ?_ | refine E_gdT (by first | assumption | decide) ?_ | refine E_gdF (by first | assumption | decide) ?_ | refine E_gdnT (by first | assumption | decide) ?_ | refine E_gdnF (by first | assumption | decide) ?_ | refine E_pickT (by first | assumption | decide) ?_ | refine E_pickF (by first | assumption | decide) ?_ | refine E_ixN (by omega) ?_ | refine E_ld' (by assumption) ?_ | refine E_addI (by omega) (by omega) ?_ | refine E_subI (by omega) (by omega) ?_ | refine E_mulI (by omega) (by omega) ?_))
      refine E_chrL (i := 0) (c := 107) rfl ?_
      (repeat (first | refine goS ?_ | refine E_box fun _ => ?_ | refine E_fa fun _ => ?_ | refine E_ptfad0 fun _ _ => ?_ | refine E_ptfad fun _ _ => ?_ | refine E_rsix (by assumption) fun _ _ => ?_ | refine E_ifT (by first | assumption | decide) ?_ | refine E_ifF (by first | assumption | decide) ?_ | refine E_gdT (by first | assumption | decide) ?_ | refine E_gdF (by first | assumption | decide) ?_ | refine E_gdnT (by first | assumption | decide) ?_ | refine E_gdnF (by first | assumption | decide) ?_ | refine E_pickT (by first | assumption | decide) ?_ | refine E_pickF (by first | assumption | decide) ?_ | refine E_ixN (by omega) ?_ | refine E_ld' (by assumption) ?_ | refine E_addI (by omega) (by omega) ?_ | refine E_subI (by omega) (by omega) ?_ | refine E_mulI (by omega) (by omega) ?_))
      exact E_same (by repeat (first | exact Same.refl | (refine Same.cons (by repeat (first | exact Find.here | apply Find.there)) ?_) | (refine Same.drop ?_))) hq
    refine E_fa fun _ => ?_
    (repeat (first | refine goS ?_ | refine E_box fun _ => ?_ | refine E_fa fun _ => ?_ | refine E_ptfad0 fun _ _ => ?_ | refine E_ptfad fun _ _ => ?_ | refine E_rsix (by assumption) fun _ _ => ?_ | refine E_ifT (by first | assumption | decide) ?_ | refine E_ifF (by first | assumption | decide) ?_ | refine E_gdT (by first | assumption | decide) ?_ | refine E_gdF (by first | assumption | decide) ?_ | refine E_gdnT (by first | assumption | decide) ?_ | refine E_gdnF (by first | assumption | decide) ?_ | refine E_pickT (by first | assumption | decide) ?_ | refine E_pickF (by first | assumption | decide) ?_ | refine E_ixN (by omega) ?_ | refine E_ld' (by assumption) ?_ | refine E_addI (by omega) (by omega) ?_ | refine E_subI (by omega) (by omega) ?_ | refine E_mulI (by omega) (by omega) ?_))
    refine sls_nil (T := 4) cL 1 ?_
    refine E_loop (σ := Nat × Value) (fun z => z.1 ≤ t.length ∧ CellI z.2 ∧ ∀ d ∈ t.take z.1, d = 48 ∨ d = 49) (fun z => [v, ptr b2, ptr b4, I ((z.1 + 1 : Nat) : Int)])
      (fun z => sls cL 4 1 z.2 ((t.take z.1).map fun d => decide (d = 49)) :: cel true b4 28 [z.2, I (-1), I 0] :: cel true b2 28 [.slice none 0 0, I 0, I 0] :: H) (fun z => t.length - z.1) (0, .slice none 0 0) (fun _ => rfl) rfl ⟨by omega, ⟨rfl⟩, by simp⟩ (fun W hW => E_same (by repeat (first | exact Same.refl | (refine Same.cons (by repeat (first | exact Find.here | apply Find.there)) ?_) | (refine Same.drop ?_))) hW) ?_
    rintro ⟨i, u⟩ K0 ⟨hi, hcu, hall⟩ hk0
    simp only at hi hcu hall
    refine E_fa fun _ => ?_
    refine E_rsix (v := v) (i := 0) rfl fun _ _ => ?_
    refine E_ptld ?_
    refine E_lenstr ?_
    refine E_lss ?_
    refine E_if (fun hcl => ?_) (fun hcl => ?_)
    · have hit : i < t.length := by simp at hcl; omega
      have hs : t[i]? = some t[i] := List.getElem?_eq_getElem hit
      generalize t[i] = d at hs
      have hs2 : (107 :: t)[i + 1]? = some d := by simpa using hs
      have d48 : ((d.toNat : Int) = 48) ↔ d = 48 := u8c (n := 48) (by decide)
      have d49 : ((d.toNat : Int) = 49) ↔ d = 49 := u8c (n := 49) (by decide)
      refine E_join1 [v, ptr b2, ptr b4, I ((i + 1 : Nat) : Int), .bool (decide (¬ (d = 48 ∨ d = 49)))] (sls cL 4 1 u ((t.take i).map fun d => decide (d = 49)) :: cel true b4 28 [u, I (-1), I 0] :: cel true b2 28 [.slice none 0 0, I 0, I 0] :: H) (fun q hq => ?_) ?_
      · have fin : ∀ b : Bool, decide (¬ (d = 48 ∨ d = 49)) = b → E B (sls cL 4 1 u ((t.take i).map fun d => decide (d = 49)) :: cel true b4 28 [u, I (-1), I 0] :: cel true b2 28 [.slice none 0 0, I 0, I 0] :: H) (app 5 q [v, ptr b2, ptr b4, I ((i + 1 : Nat) : Int), .bool b]) := fun b h => h ▸ hq
        refine E_rsix (v := v) (i := 0) rfl fun _ _ => ?_
        refine E_ptld ?_
        refine E_chrL hs2 ?_
        by_cases g : (d.toNat : Int) ≠ 48
        · (repeat (first | refine goS ?_ | refine E_box fun _ => ?_ | refine E_fa fun _ => ?_ | refine E_ptfad0 fun _ _ => ?_ | refine E_ptfad fun _ _ => ?_ | refine E_rsix (by assumption) fun _ _ => ?_ | refine E_ifT (by first | assumption | decide) ?_ | refine E_ifF (by first | assumption | decide) ?_ | refine E_gdT (by first | assumption | decide) ?_ | refine E_gdF (by first | assumption | decide) ?_ | refine E_gdnT (by first | assumption | decide) ?_ | refine E_gdnF (by first | assumption | decide) ?_ | refine E_pickT (by first | assumption | decide) ?_ | refine E_pickF (by first | assumption | decide) ?_ | refine E_ixN (by omega) ?_ | refine E_ld' (by assumption) ?_ | refine E_addI (by omega) (by omega) ?_ | refine E_subI (by omega) (by omega) ?_ | refine E_mulI (by omega) (by omega) ?_))
          refine E_rsix (v := v) (i := 0) rfl fun _ _ => ?_
          (repeat (first | refine goS ?_ | refine E_box fun _ => ?_ | refine E_fa fun _ => ?_ | refine E_ptfad0 fun _ _ => ?_ | refine E_ptfad fun _ _ => ?_ | refine E_rsix (by assumption) fun _ _ => ?_ | refine E_ifT (by first | assumption | decide) ?_ | refine E_ifF (by first | assumption | decide) ?_ | refine E_gdT (by first | assumption | decide) ?_ | refine E_gdF (by first | assumption | decide) ?_ | refine E_gdnT (by first | assumption | decide) ?_ | refine E_gdnF (by first | assumption | decide) ?_ | refine E_pickT (by first | assumption | decide) ?_ | refine E_pickF (by first | assumption | decide) ?_ | refine E_ixN (by omega) ?_ | refine E_ld' (by assumption) ?_ | refine E_addI (by omega) (by omega) ?_ | refine E_subI (by omega) (by omega) ?_ | refine E_mulI (by omega) (by omega) ?_))
          refine E_chrL hs2 ?_
          (repeat (first | refine goS ?_ | refine E_box fun _ => ?_ | refine E_fa fun _ => ?_ | refine E_ptfad0 fun _ _ => ?_ | refine E_ptfad fun _ _ => ?_ | refine E_rsix (by assumption) fun _ _ => ?_ | refine E_ifT (by first | assumption | decide) ?_ | refine E_ifF (by first | assumption | decide) ?_ | refine E_gdT (by first | assumption | decide) ?_ | refine E_gdF (by first | assumption | decide) ?_ | refine E_gdnT (by first | assumption | decide) ?_ | refine E_gdnF (by first | assumption | decide) ?_ | refine E_pickT (by first | assumption | decide) ?_ | refine E_pickF (by first | assumption | decide) ?_ | refine E_ixN (by omega) ?_ | refine E_ld' (by assumption) ?_ | refine E_addI (by omega) (by omega) ?_ | refine E_subI (by omega) (by omega) ?_ | refine E_mulI (by omega) (by omega) ?_))
          refine fin _ ?_
          rw [decide_eq_decide]
          constructor
          · intro h h9; exact h (.inr (d49.1 h9))
          · rintro h (h8 | h9)
            · exact g (d48.2 h8)
            · exact h (d49.2 h9)
        · (repeat (first | refine goS ?_ | refine E_box fun _ => ?_ | refine E_fa fun _ => ?_ | refine E_ptfad0 fun _ _ => ?_ | refine E_ptfad fun _ _ => ?_ | refine E_rsix (by assumption) fun _ _ => ?_ | refine E_ifT (by first | assumption | decide) ?_ | refine E_ifF (by first | assumption | decide) ?_ | refine E_gdT (by first | assumption | decide) ?_ | refine E_gdF (by first | assumption | decide) ?_ | refine E_gdnT (by first | assumption | decide) ?_ | refine E_gdnF (by first | assumption | decide) ?_ | refine E_pickT (by first | assumption | decide) ?_ | refine E_pickF (by first | assumption | decide) ?_ | refine E_ixN (by omega) ?_ | refine E_ld' (by assumption) ?_ | refine E_addI (by omega) (by omega) ?_ | refine E_subI (by omega) (by omega) ?_ | refine E_mulI (by omega) (by omega) ?_))
          refine fin _ ?_
          rw [decide_eq_false_iff_not]
          exact fun h => h (.inl (d48.1 (by omega)))
      refine E_fa fun _ => ?_
      refine E_if (fun hb => ?_) (fun hb => ?_)
      · (repeat (first | refine goS ?_ | refine E_box fun _ => ?_ | refine E_fa fun _ => ?_ | refine E_ptfad0 fun _ _ => ?_ | refine E_ptfad fun _ _ => ?_ | refine E_rsix (by assumption) fun _ _ => ?_ | refine E_ifT (by first | assumption | decide) ?_ | refine E_ifF (by first | assumption | decide) ?_ | refine E_gdT (by first | assumption | decide) ?_ | refine E_gdF (by first | assumption | decide) ?_ | refine E_gdnT (by first | assumption | decide) ?_ | refine E_gdnF (by first | assumption | decide) ?_ | refine E_pickT (by first | assumption | decide) ?_ | refine E_pickF (by first | assumption | decide) ?_ | refine E_ixN (by omega) ?_ | refine E_ld' (by assumption) ?_ | refine E_addI (by omega) (by omega) ?_ | refine E_subI (by omega) (by omega) ?_ | refine E_mulI (by omega) (by omega) ?_))
        refine E_drop (E_drop (E_drop (bad1 ?_ _ _ _)))
        unfold keepW; simp only; rw [if_neg (fun h => hb (h.2 d (List.mem_of_getElem? hs)))]
      have hd := Decidable.not_not.1 hb
      refine E_dr ?_
      (repeat (first | refine goS ?_ | refine E_box fun _ => ?_ | refine E_fa fun _ => ?_ | refine E_ptfad0 fun _ _ => ?_ | refine E_ptfad fun _ _ => ?_ | refine E_rsix (by assumption) fun _ _ => ?_ | refine E_ifT (by first | assumption | decide) ?_ | refine E_ifF (by first | assumption | decide) ?_ | refine E_gdT (by first | assumption | decide) ?_ | refine E_gdF (by first | assumption | decide) ?_ | refine E_gdnT (by first | assumption | decide) ?_ | refine E_gdnF (by first | assumption | decide) ?_ | refine E_pickT (by first | assumption | decide) ?_ | refine E_pickF (by first | assumption | decide) ?_ | refine E_ixN (by omega) ?_ | refine E_ld' (by assumption) ?_ | refine E_addI (by omega) (by omega) ?_ | refine E_subI (by omega) (by omega) ?_ | refine E_mulI (by omega) (by omega) ?_))
      refine E_rsix (v := v) (i := 0) rfl fun _ _ => ?_
      refine E_ptld ?_
      refine E_chrL hs2 ?_
      (repeat (first | refine goS ?_ | refine E_box fun _ => ?_ | refine E_fa fun _ => ?_ | refine E_ptfad0 fun _ _ => ?_ | refine E_ptfad fun _ _ => ?_ | refine E_rsix (by assumption) fun _ _ => ?_ | refine E_ifT (by first | assumption | decide) ?_ | refine E_ifF (by first | assumption | decide) ?_ | refine E_gdT (by first | assumption | decide) ?_ | refine E_gdF (by first | assumption | decide) ?_ | refine E_gdnT (by first | assumption | decide) ?_ | refine E_gdnF (by first | assumption | decide) ?_ | refine E_pickT (by first | assumption | decide) ?_ | refine E_pickF (by first | assumption | decide) ?_ | refine E_ixN (by omega) ?_ | refine E_ld' (by assumption) ?_ | refine E_addI (by omega) (by omega) ?_ | refine E_subI (by omega) (by omega) ?_ | refine E_mulI (by omega) (by omega) ?_))
      rw [show decide ((d.toNat : Int) = 49) = decide (d = 49) from decide_eq_decide.2 d49]
      refine E_use (sls cL 4 1 u) (E_sapp1R (decide (d = 49)) u_bools elt_bool rfl (by decide) (by simp; omega) (by simp; omega) (fun b W hW => by (repeat (refine E_rck1 (by first | exact E_ld (E_fact rfl) | exact E_ld' (by assumption) (E_fact rfl) | exact E_b2sR (E_fact rfl) | exact E_gdnF (by assumption) (E_ld (E_fact rfl)) | exact E_gdT (by assumption) (E_ld (E_fact rfl)) | exact E_gtf (E_ld (E_fact rfl)) | exact E_gft (E_ld (E_fact rfl)) | exact E_ldNA (E_fact rfl) | exact E_ptld (E_fact rfl) | exact E_gtf (E_ldNA (E_fact rfl))) ?_)); (first | (refine E_rck0 ?_) | skip); exact hW) fun u' _ => ?_)
      (repeat (first | refine goS ?_ | refine E_box fun _ => ?_ | refine E_fa fun _ => ?_ | refine E_ptfad0 fun _ _ => ?_ | refine E_ptfad fun _ _ => ?_ | refine E_rsix (by assumption) fun _ _ => ?_ | refine E_ifT (by first | assumption | decide) ?_ | refine E_ifF (by first | assumption | decide) ?_ | refine E_gdT (by first | assumption | decide) ?_ | refine E_gdF (by first | assumption | decide) ?_ | refine E_gdnT (by first | assumption | decide) ?_ | refine E_gdnF (by first | assumption | decide) ?_ | refine E_pickT (by first | assumption | decide) ?_ | refine E_pickF (by first | assumption | decide) ?_ | refine E_ixN (by omega) ?_ | refine E_ld' (by assumption) ?_ | refine E_addI (by omega) (by omega) ?_ | refine E_subI (by omega) (by omega) ?_ | refine E_mulI (by omega) (by omega) ?_))
      have hk' := hk0 (i + 1, u') ⟨by simp only; omega, inferInstance, by
        simp only
        rw [List.take_add_one, hs]
        intro x hx
        rcases List.mem_append.1 hx with hx | hx
        · exact hall x hx
        · have : x = d := by simpa using hx
          rw [this]; exact hd⟩ (by simp only; omega)
      simp only at hk'
      rw [List.take_add_one, hs] at hk'
      simp only [Option.toList_some, List.map_append, List.map_cons, List.map_nil] at hk'
      rw [show ((i + 1 : Nat) : Int) + 1 = ((i + 1 + 1 : Nat) : Int) by omega]
      exact E_same (by repeat (first | exact Same.refl | (refine Same.cons (by repeat (first | exact Find.here | apply Find.there)) ?_) | (refine Same.drop ?_))) hk'
    · have ei : i = t.length := by simp at hcl; omega
      subst ei
      rw [List.take_length] at hall
      rw [List.take_length]
      have hkw : keepW (107 :: t) = some (t.map fun d => decide (d = 49)) := by unfold keepW; simp only; rw [if_pos ⟨trivial, hall⟩]
      generalize (t.map fun d => decide (d = 49)) = kl at hkw
      refine E_joinC (σ := Int × Bool) (fun z => (z.2 = true → tornW w = some z.1) ∧ (z.2 = false → tornW w = none)) (fun z => [v, ptr b2, ptr b4, .bool z.2]) (fun z => sls cL 4 1 u kl :: cel true b4 28 [u, I z.1, I 0] :: cel true b2 28 [.slice none 0 0, I 0, I 0] :: H) (fun q hq => ?_) ?_
      · refine E_rsix (v := v) (i := 1) rfl fun _ _ => ?_
        refine E_ptld ?_
        refine E_strne (b := [45]) ?_
        by_cases h45 : w ≠ [45]
        · (repeat (first | refine goS ?_ | refine E_box fun _ => ?_ | refine E_fa fun _ => ?_ | refine E_ptfad0 fun _ _ => ?_ | refine E_ptfad fun _ _ => ?_ | refine E_rsix (by assumption) fun _ _ => ?_ | refine E_ifT (by first | assumption | decide) ?_ | refine E_ifF (by first | assumption | decide) ?_ | refine E_gdT (by first | assumption | decide) ?_ | refine E_gdF (by first | assumption | decide) ?_ | refine E_gdnT (by first | assumption | decide) ?_ | refine E_gdnF (by first | assumption | decide) ?_ | refine E_pickT (by first | assumption | decide) ?_ | refine E_pickF (by first | assumption | decide) ?_ | refine E_ixN (by omega) ?_ | refine E_ld' (by assumption) ?_ | refine E_addI (by omega) (by omega) ?_ | refine E_subI (by omega) (by omega) ?_ | refine E_mulI (by omega) (by omega) ?_))
          refine E_rsix (v := v) (i := 1) rfl fun _ _ => ?_
          refine E_ptld ?_
          refine rnumber (by omega) (fun n hn _ => ?_) fun hn m => ?_
          · (repeat (first | refine goS ?_ | refine E_box fun _ => ?_ | refine E_fa fun _ => ?_ | refine E_ptfad0 fun _ _ => ?_ | refine E_ptfad fun _ _ => ?_ | refine E_rsix (by assumption) fun _ _ => ?_ | refine E_ifT (by first | assumption | decide) ?_ | refine E_ifF (by first | assumption | decide) ?_ | refine E_gdT (by first | assumption | decide) ?_ | refine E_gdF (by first | assumption | decide) ?_ | refine E_gdnT (by first | assumption | decide) ?_ | refine E_gdnF (by first | assumption | decide) ?_ | refine E_pickT (by first | assumption | decide) ?_ | refine E_pickF (by first | assumption | decide) ?_ | refine E_ixN (by omega) ?_ | refine E_ld' (by assumption) ?_ | refine E_addI (by omega) (by omega) ?_ | refine E_subI (by omega) (by omega) ?_ | refine E_mulI (by omega) (by omega) ?_))
            exact E_same (by repeat (first | exact Same.refl | (refine Same.cons (by repeat (first | exact Find.here | apply Find.there)) ?_) | (refine Same.drop ?_))) (hq (n, true) ⟨fun _ => by simp [tornW, h45, hn], fun h => by cases h⟩)
          · (repeat (first | refine goS ?_ | refine E_box fun _ => ?_ | refine E_fa fun _ => ?_ | refine E_ptfad0 fun _ _ => ?_ | refine E_ptfad fun _ _ => ?_ | refine E_rsix (by assumption) fun _ _ => ?_ | refine E_ifT (by first | assumption | decide) ?_ | refine E_ifF (by first | assumption | decide) ?_ | refine E_gdT (by first | assumption | decide) ?_ | refine E_gdF (by first | assumption | decide) ?_ | refine E_gdnT (by first | assumption | decide) ?_ | refine E_gdnF (by first | assumption | decide) ?_ | refine E_pickT (by first | assumption | decide) ?_ | refine E_pickF (by first | assumption | decide) ?_ | refine E_ixN (by omega) ?_ | refine E_ld' (by assumption) ?_ | refine E_addI (by omega) (by omega) ?_ | refine E_subI (by omega) (by omega) ?_ | refine E_mulI (by omega) (by omega) ?_))
            exact E_same (by repeat (first | exact Same.refl | (refine Same.cons (by repeat (first | exact Find.here | apply Find.there)) ?_) | (refine Same.drop ?_))) (hq (m, false) ⟨(fun h => by cases h), fun _ => by simp [tornW, h45, hn]⟩)
        · (repeat (first | refine goS ?_ | refine E_box fun _ => ?_ | refine E_fa fun _ => ?_ | refine E_ptfad0 fun _ _ => ?_ | refine E_ptfad fun _ _ => ?_ | refine E_rsix (by assumption) fun _ _ => ?_ | refine E_ifT (by first | assumption | decide) ?_ | refine E_ifF (by first | assumption | decide) ?_ | refine E_gdT (by first | assumption | decide) ?_ | refine E_gdF (by first | assumption | decide) ?_ | refine E_gdnT (by first | assumption | decide) ?_ | refine E_gdnF (by first | assumption | decide) ?_ | refine E_pickT (by first | assumption | decide) ?_ | refine E_pickF (by first | assumption | decide) ?_ | refine E_ixN (by omega) ?_ | refine E_ld' (by assumption) ?_ | refine E_addI (by omega) (by omega) ?_ | refine E_subI (by omega) (by omega) ?_ | refine E_mulI (by omega) (by omega) ?_))
          have hw45 : w = [45] := Decidable.not_not.1 h45
          exact E_same (by repeat (first | exact Same.refl | (refine Same.cons (by repeat (first | exact Find.here | apply Find.there)) ?_) | (refine Same.drop ?_))) (hq (-1, true) ⟨fun _ => by simp [tornW, hw45], fun h => by cases h⟩)
      rintro ⟨tn, ok⟩ ⟨ht1, ht2⟩
      simp only at ht1 ht2
      refine E_fa fun _ => ?_
      refine E_rsix (v := v) (i := 2) rfl fun _ _ => ?_
      refine E_ptld ?_
      refine rnumber (by omega) (fun n hn _ => ?_) fun hn m => ?_
      · cases ok with
        | true =>
          (repeat (first | refine goS ?_ | refine E_box fun _ => ?_ | refine E_fa fun _ => ?_ | refine E_ptfad0 fun _ _ => ?_ | refine E_ptfad fun _ _ => ?_ | refine E_rsix (by assumption) fun _ _ => ?_ | refine E_ifT (by first | assumption | decide) ?_ | refine E_ifF (by first | assumption | decide) ?_ | refine E_gdT (by first | assumption | decide) ?_ | refine E_gdF (by first | assumption | decide) ?_ | refine E_gdnT (by first | assumption | decide) ?_ | refine E_gdnF (by first | assumption | decide) ?_ | refine E_pickT (by first | assumption | decide) ?_ | refine E_pickF (by first | assumption | decide) ?_ | refine E_ixN (by omega) ?_ | refine E_ld' (by assumption) ?_ | refine E_addI (by omega) (by omega) ?_ | refine E_subI (by omega) (by omega) ?_ | refine E_mulI (by omega) (by omega) ?_))
          exact E_same (by repeat (first | exact Same.refl | (refine Same.cons (by repeat (first | exact Find.here | apply Find.there)) ?_) | (refine Same.drop ?_))) (h1 (kl, tn, n) (by simp [crashR, hkw, ht1 rfl, hn]) u)
        | false =>
          (repeat (first | refine goS ?_ | refine E_box fun _ => ?_ | refine E_fa fun _ => ?_ | refine E_ptfad0 fun _ _ => ?_ | refine E_ptfad fun _ _ => ?_ | refine E_rsix (by assumption) fun _ _ => ?_ | refine E_ifT (by first | assumption | decide) ?_ | refine E_ifF (by first | assumption | decide) ?_ | refine E_gdT (by first | assumption | decide) ?_ | refine E_gdF (by first | assumption | decide) ?_ | refine E_gdnT (by first | assumption | decide) ?_ | refine E_gdnF (by first | assumption | decide) ?_ | refine E_pickT (by first | assumption | decide) ?_ | refine E_pickF (by first | assumption | decide) ?_ | refine E_ixN (by omega) ?_ | refine E_ld' (by assumption) ?_ | refine E_addI (by omega) (by omega) ?_ | refine E_subI (by omega) (by omega) ?_ | refine E_mulI (by omega) (by omega) ?_))
          exact E_drop (E_drop (E_drop (h2 (by simp [crashR, hkw, ht2 rfl]) u _ _)))
      · cases ok with
        | true =>
          (repeat (first | refine goS ?_ | refine E_box fun _ => ?_ | refine E_fa fun _ => ?_ | refine E_ptfad0 fun _ _ => ?_ | refine E_ptfad fun _ _ => ?_ | refine E_rsix (by assumption) fun _ _ => ?_ | refine E_ifT (by first | assumption | decide) ?_ | refine E_ifF (by first | assumption | decide) ?_ | refine E_gdT (by first | assumption | decide) ?_ | refine E_gdF (by first | assumption | decide) ?_ | refine E_gdnT (by first | assumption | decide) ?_ | refine E_gdnF (by first | assumption | decide) ?_ | refine E_pickT (by first | assumption | decide) ?_ | refine E_pickF (by first | assumption | decide) ?_ | refine E_ixN (by omega) ?_ | refine E_ld' (by assumption) ?_ | refine E_addI (by omega) (by omega) ?_ | refine E_subI (by omega) (by omega) ?_ | refine E_mulI (by omega) (by omega) ?_))
          exact E_drop (E_drop (E_drop (h2 (by simp [crashR, hkw, hn]) u _ _)))
        | false =>
          (repeat (first | refine goS ?_ | refine E_box fun _ => ?_ | refine E_fa fun _ => ?_ | refine E_ptfad0 fun _ _ => ?_ | refine E_ptfad fun _ _ => ?_ | refine E_rsix (by assumption) fun _ _ => ?_ | refine E_ifT (by first | assumption | decide) ?_ | refine E_ifF (by first | assumption | decide) ?_ | refine E_gdT (by first | assumption | decide) ?_ | refine E_gdF (by first | assumption | decide) ?_ | refine E_gdnT (by first | assumption | decide) ?_ | refine E_gdnF (by first | assumption | decide) ?_ | refine E_pickT (by first | assumption | decide) ?_ | refine E_pickF (by first | assumption | decide) ?_ | refine E_ixN (by omega) ?_ | refine E_ld' (by assumption) ?_ | refine E_addI (by omega) (by omega) ?_ | refine E_subI (by omega) (by omega) ?_ | refine E_mulI (by omega) (by omega) ?_))
          exact E_drop (E_drop (E_drop (h2 (by simp [crashR, hkw, hn]) u _ _)))
end Go.Proofs.YtogallbjmgoagaaDoor.Scr
