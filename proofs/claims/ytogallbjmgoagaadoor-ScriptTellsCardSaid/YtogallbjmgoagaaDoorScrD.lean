/-
  Script: the bytes of a line.
-/
import Derived.Test.YtogallbjmgoagaaDoorScrM
set_option linter.unusedSimpArgs false
set_option linter.unusedVariables false
set_option linter.unusedSectionVars false
namespace Go.Proofs.YtogallbjmgoagaaDoor.Scr
open Go Go.SL Go.Proofs Go.Proofs.YtogallbjmgoagaaDoor.Sh
variable {B : World} {H : List Asrt} {K : Value → WT} {W : WT}
theorem u_bytes : Tryd.prog.underlying 23 = some (.slice 5) := by kernel_rfl
theorem u_byte : Tryd.prog.underlying 5 = some (.int .u8) := by kernel_rfl
theorem u_string : Tryd.prog.underlying 9 = some .string := by kernel_rfl
theorem elt_byte : Elt Tryd.prog 5 1 1 [.int .u8 0] := elt_of (zv := .int .u8 0) (by kernel_rfl) rfl rfl
attribute [local irreducible] S.pick S.ld S.ldN S.st S.box S.nc S.fad S.ixS S.ixA S.chr S.prt S.ext S.bin S.sh S.sbin S.beq S.neg1 S.com1 S.not1 S.cvt S.str1 S.lenS S.len S.cap S.lenM S.mx S.mn S.mkM S.cond S.gd S.fa S.dr S.rck S.join S.loop S.cvv S.eqv S.slc S.slcS S.b2s S.lk V U CF Gives E cel mpb osl ros dct dit itr lpo dfo
attribute [local irreducible] sls
set_option maxRecDepth 4000
theorem bytes [A : Amb] {r : Nat} {s : List UInt8} {more : Bool} (hm : s.length ≤ 1000000)
    (h1 : more = true → ∀ bs, bytesW s = some bs → ∀ v [CellI v], E B (sls cB 5 1 v bs :: cel true r 50 [str [], .bool false] :: H) (K v)) (h2 : (more = false ∨ bytesW s = none) → E B H (A.pn fault)) :
    E B (cel true r 50 [str s, .bool more] :: H) (CF Tryd.prog 37 [ptr r] K) := by
  refine E_mono (W := s37 _ K) ?_ fun _ => c37
  unfold s37
  refine E_join0 ?_
  (repeat (first | refine goS ?_ | refine E_box fun _ => ?_ | refine E_fa fun _ => ?_ | refine E_ptfad0 fun _ _ => ?_ | refine E_ptfad fun _ _ => ?_ | refine E_rsix (by assumption) fun _ _ => ?_ | refine E_ifT (by first | assumption | decide) ?_ | refine E_ifF (by first | assumption | decide) ?_ | refine E_gdT (by first | assumption | decide) ?_ | refine E_gdF (by first | assumption | decide) ?_ | refine E_gdnT (by first | assumption | decide) ?_ | refine E_gdnF (by first | assumption | decide) ?_ | refine E_pickT (by first | assumption | decide) ?_ | refine E_pickF (by first | assumption | decide) ?_ | refine E_ixN (by omega) ?_ | refine E_ld' (by assumption) ?_ | refine E_addI (by omega) (by omega) ?_ | refine E_subI (by omega) (by omega) ?_ | refine E_mulI (by omega) (by omega) ?_))
  cases more with
  | false =>
    (repeat (first | refine goS ?_ | refine E_box fun _ => ?_ | refine E_fa fun _ => ?_ | refine E_ptfad0 fun _ _ => ?_ | refine E_ptfad fun _ _ => ?_ | refine E_rsix (by assumption) fun _ _ => ?_ | refine E_ifT (by first | assumption | decide) ?_ | refine E_ifF (by first | assumption | decide) ?_ | refine E_gdT (by first | assumption | decide) ?_ | refine E_gdF (by first | assumption | decide) ?_ | refine E_gdnT (by first | assumption | decide) ?_ | refine E_gdnF (by first | assumption | decide) ?_ | refine E_pickT (by first | assumption | decide) ?_ | refine E_pickF (by first | assumption | decide) ?_ | refine E_ixN (by omega) ?_ | refine E_ld' (by assumption) ?_ | refine E_addI (by omega) (by omega) ?_ | refine E_subI (by omega) (by omega) ?_ | refine E_mulI (by omega) (by omega) ?_))
    exact must (fun h => by cases h) fun _ => E_drop (h2 (.inl rfl))
  | true =>
    cases s with
    | nil =>
      (repeat (first | refine goS ?_ | refine E_box fun _ => ?_ | refine E_fa fun _ => ?_ | refine E_ptfad0 fun _ _ => ?_ | refine E_ptfad fun _ _ => ?_ | refine E_rsix (by assumption) fun _ _ => ?_ | refine E_ifT (by first | assumption | decide) ?_ | refine E_ifF (by first | assumption | decide) ?_ | refine E_gdT (by first | assumption | decide) ?_ | refine E_gdF (by first | assumption | decide) ?_ | refine E_gdnT (by first | assumption | decide) ?_ | refine E_gdnF (by first | assumption | decide) ?_ | refine E_pickT (by first | assumption | decide) ?_ | refine E_pickF (by first | assumption | decide) ?_ | refine E_ixN (by omega) ?_ | refine E_ld' (by assumption) ?_ | refine E_addI (by omega) (by omega) ?_ | refine E_subI (by omega) (by omega) ?_ | refine E_mulI (by omega) (by omega) ?_))
      exact must (fun h => by simp at h) fun _ => E_drop (h2 (.inr rfl))
    | cons c t =>
      have hne : c :: t ≠ [] := by simp
      (repeat (first | refine goS ?_ | refine E_box fun _ => ?_ | refine E_fa fun _ => ?_ | refine E_ptfad0 fun _ _ => ?_ | refine E_ptfad fun _ _ => ?_ | refine E_rsix (by assumption) fun _ _ => ?_ | refine E_ifT (by first | assumption | decide) ?_ | refine E_ifF (by first | assumption | decide) ?_ | refine E_gdT (by first | assumption | decide) ?_ | refine E_gdF (by first | assumption | decide) ?_ | refine E_gdnT (by first | assumption | decide) ?_ | refine E_gdnF (by first | assumption | decide) ?_ | refine E_pickT (by first | assumption | decide) ?_ | refine E_pickF (by first | assumption | decide) ?_ | refine E_ixN (by omega) ?_ | refine E_ld' (by assumption) ?_ | refine E_addI (by omega) (by omega) ?_ | refine E_subI (by omega) (by omega) ?_ | refine E_mulI (by omega) (by omega) ?_))
      refine must (fun _ => ?_) fun h => by simp at h
      have good : ∀ bs, bytesW (c :: t) = some bs → ∀ v [CellI v], E B (sls cB 5 1 v bs :: cel true r 50 [str [], .bool false] :: H) (K v) := h1 rfl
      have bad : bytesW (c :: t) = none → E B H (A.pn fault) := fun h => h2 (.inr h)
      refine E_fa fun _ => ?_
      (repeat (first | refine goS ?_ | refine E_box fun _ => ?_ | refine E_fa fun _ => ?_ | refine E_ptfad0 fun _ _ => ?_ | refine E_ptfad fun _ _ => ?_ | refine E_rsix (by assumption) fun _ _ => ?_ | refine E_ifT (by first | assumption | decide) ?_ | refine E_ifF (by first | assumption | decide) ?_ | refine E_gdT (by first | assumption | decide) ?_ | refine E_gdF (by first | assumption | decide) ?_ | refine E_gdnT (by first | assumption | decide) ?_ | refine E_gdnF (by first | assumption | decide) ?_ | refine E_pickT (by first | assumption | decide) ?_ | refine E_pickF (by first | assumption | decide) ?_ | refine E_ixN (by omega) ?_ | refine E_ld' (by assumption) ?_ | refine E_addI (by omega) (by omega) ?_ | refine E_subI (by omega) (by omega) ?_ | refine E_mulI (by omega) (by omega) ?_))
      refine E_slcL (s := c :: t) (i := 1) (j := (c :: t).length) (by simp [S.bound]) (by simp [S.bound]) (by simp) (by omega) ?_
      have et : (((c :: t).drop 1).take ((c :: t).length - 1)) = t := by simp
      rw [et]
      (repeat (first | refine goS ?_ | refine E_box fun _ => ?_ | refine E_fa fun _ => ?_ | refine E_ptfad0 fun _ _ => ?_ | refine E_ptfad fun _ _ => ?_ | refine E_rsix (by assumption) fun _ _ => ?_ | refine E_ifT (by first | assumption | decide) ?_ | refine E_ifF (by first | assumption | decide) ?_ | refine E_gdT (by first | assumption | decide) ?_ | refine E_gdF (by first | assumption | decide) ?_ | refine E_gdnT (by first | assumption | decide) ?_ | refine E_gdnF (by first | assumption | decide) ?_ | refine E_pickT (by first | assumption | decide) ?_ | refine E_pickF (by first | assumption | decide) ?_ | refine E_ixN (by omega) ?_ | refine E_ld' (by assumption) ?_ | refine E_addI (by omega) (by omega) ?_ | refine E_subI (by omega) (by omega) ?_ | refine E_mulI (by omega) (by omega) ?_))
      refine E_chrL (i := 0) (c := c) rfl ?_
      (repeat (first | refine goS ?_ | refine E_box fun _ => ?_ | refine E_fa fun _ => ?_ | refine E_ptfad0 fun _ _ => ?_ | refine E_ptfad fun _ _ => ?_ | refine E_rsix (by assumption) fun _ _ => ?_ | refine E_ifT (by first | assumption | decide) ?_ | refine E_ifF (by first | assumption | decide) ?_ | refine E_gdT (by first | assumption | decide) ?_ | refine E_gdF (by first | assumption | decide) ?_ | refine E_gdnT (by first | assumption | decide) ?_ | refine E_gdnF (by first | assumption | decide) ?_ | refine E_pickT (by first | assumption | decide) ?_ | refine E_pickF (by first | assumption | decide) ?_ | refine E_ixN (by omega) ?_ | refine E_ld' (by assumption) ?_ | refine E_addI (by omega) (by omega) ?_ | refine E_subI (by omega) (by omega) ?_ | refine E_mulI (by omega) (by omega) ?_))
      have hlt : t.length ≤ 1000000 := by simp at hm; omega
      refine E_if (fun he => ?_) (fun he => ?_)
      · have hc : c = 61 := UInt8.toNat_inj.1 (by rw [show c.toNat = 61 by omega]; rfl)
        subst hc
        refine E_s2b (e := 5) u_string u_bytes u_byte fun v _ => ?_
        rw [strSize]
        refine E_bytes (l := t) ?_
        refine plain (v := v) (by omega) ?_
        refine must (fun hp => ?_) fun hp => E_drop (E_drop (bad ?_))
        · refine E_s2b (e := 5) u_string u_bytes u_byte fun v2 _ => ?_
          rw [strSize]
          refine E_bytes (l := t) ?_
          exact E_same (by repeat (first | exact Same.refl | (refine Same.cons (by repeat (first | exact Find.here | apply Find.there)) ?_) | (refine Same.drop ?_))) (good t (by simp [bytesW, of_decide_eq_true hp]) v2)
        · simp [bytesW, of_decide_eq_false hp]
      · have hb61 : ¬ c = 61 := fun h => he (by rw [h]; rfl)
        by_cases hx : (c.toNat : Int) = 120 ∧ t.length % 2 = 0
        rotate_left
        · have hbw : bytesW (c :: t) = none := by
            show (if c = 61 then (if plainL t then some t else none) else if c = 120 ∧ t.length % 2 = 0 then unhex t else none) = none
            rw [if_neg hb61, if_neg (fun h => hx ⟨by rw [h.1]; rfl, h.2⟩)]
          refine E_join0 ?_
          by_cases g : (c.toNat : Int) = 120
          · have g2 : ¬ ((t.length : Int) % 2 = 0) := fun h => hx ⟨g, by omega⟩
            refine E_eql ?_
            rw [decide_eq_true g]
            (repeat (first | refine goS ?_ | refine E_box fun _ => ?_ | refine E_fa fun _ => ?_ | refine E_ptfad0 fun _ _ => ?_ | refine E_ptfad fun _ _ => ?_ | refine E_rsix (by assumption) fun _ _ => ?_ | refine E_ifT (by first | assumption | decide) ?_ | refine E_ifF (by first | assumption | decide) ?_ | refine E_gdT (by first | assumption | decide) ?_ | refine E_gdF (by first | assumption | decide) ?_ | refine E_gdnT (by first | assumption | decide) ?_ | refine E_gdnF (by first | assumption | decide) ?_ | refine E_pickT (by first | assumption | decide) ?_ | refine E_pickF (by first | assumption | decide) ?_ | refine E_ixN (by omega) ?_ | refine E_ld' (by assumption) ?_ | refine E_addI (by omega) (by omega) ?_ | refine E_subI (by omega) (by omega) ?_ | refine E_mulI (by omega) (by omega) ?_))
            refine E_remI (by omega) (by omega) ?_
            (repeat (first | refine goS ?_ | refine E_box fun _ => ?_ | refine E_fa fun _ => ?_ | refine E_ptfad0 fun _ _ => ?_ | refine E_ptfad fun _ _ => ?_ | refine E_rsix (by assumption) fun _ _ => ?_ | refine E_ifT (by first | assumption | decide) ?_ | refine E_ifF (by first | assumption | decide) ?_ | refine E_gdT (by first | assumption | decide) ?_ | refine E_gdF (by first | assumption | decide) ?_ | refine E_gdnT (by first | assumption | decide) ?_ | refine E_gdnF (by first | assumption | decide) ?_ | refine E_pickT (by first | assumption | decide) ?_ | refine E_pickF (by first | assumption | decide) ?_ | refine E_ixN (by omega) ?_ | refine E_ld' (by assumption) ?_ | refine E_addI (by omega) (by omega) ?_ | refine E_subI (by omega) (by omega) ?_ | refine E_mulI (by omega) (by omega) ?_))
            rw [decide_eq_false g2]
            exact must (fun h => by simp at h) fun _ => E_drop (bad hbw)
          · (repeat (first | refine goS ?_ | refine E_box fun _ => ?_ | refine E_fa fun _ => ?_ | refine E_ptfad0 fun _ _ => ?_ | refine E_ptfad fun _ _ => ?_ | refine E_rsix (by assumption) fun _ _ => ?_ | refine E_ifT (by first | assumption | decide) ?_ | refine E_ifF (by first | assumption | decide) ?_ | refine E_gdT (by first | assumption | decide) ?_ | refine E_gdF (by first | assumption | decide) ?_ | refine E_gdnT (by first | assumption | decide) ?_ | refine E_gdnF (by first | assumption | decide) ?_ | refine E_pickT (by first | assumption | decide) ?_ | refine E_pickF (by first | assumption | decide) ?_ | refine E_ixN (by omega) ?_ | refine E_ld' (by assumption) ?_ | refine E_addI (by omega) (by omega) ?_ | refine E_subI (by omega) (by omega) ?_ | refine E_mulI (by omega) (by omega) ?_))
            exact must (fun h => by simp at h) fun _ => E_drop (bad hbw)
        · obtain ⟨g, hev⟩ := hx
          have hc120 : c = 120 := UInt8.toNat_inj.1 (by rw [show c.toNat = 120 by omega]; rfl)
          have hbw : bytesW (c :: t) = unhex t := by
            show (if c = 61 then (if plainL t then some t else none) else if c = 120 ∧ t.length % 2 = 0 then unhex t else none) = unhex t
            rw [if_neg hb61, if_pos ⟨hc120, hev⟩]
          rw [hbw] at bad
          simp only [hbw] at good
          have g2 : ((t.length : Int) % 2 = 0) := by omega
          refine E_join1 [str t] (cel true r 50 [str [], .bool false] :: H) (fun k hk => ?_) ?_
          · refine E_eql ?_
            rw [decide_eq_true g]
            (repeat (first | refine goS ?_ | refine E_box fun _ => ?_ | refine E_fa fun _ => ?_ | refine E_ptfad0 fun _ _ => ?_ | refine E_ptfad fun _ _ => ?_ | refine E_rsix (by assumption) fun _ _ => ?_ | refine E_ifT (by first | assumption | decide) ?_ | refine E_ifF (by first | assumption | decide) ?_ | refine E_gdT (by first | assumption | decide) ?_ | refine E_gdF (by first | assumption | decide) ?_ | refine E_gdnT (by first | assumption | decide) ?_ | refine E_gdnF (by first | assumption | decide) ?_ | refine E_pickT (by first | assumption | decide) ?_ | refine E_pickF (by first | assumption | decide) ?_ | refine E_ixN (by omega) ?_ | refine E_ld' (by assumption) ?_ | refine E_addI (by omega) (by omega) ?_ | refine E_subI (by omega) (by omega) ?_ | refine E_mulI (by omega) (by omega) ?_))
            refine E_remI (by omega) (by omega) ?_
            (repeat (first | refine goS ?_ | refine E_box fun _ => ?_ | refine E_fa fun _ => ?_ | refine E_ptfad0 fun _ _ => ?_ | refine E_ptfad fun _ _ => ?_ | refine E_rsix (by assumption) fun _ _ => ?_ | refine E_ifT (by first | assumption | decide) ?_ | refine E_ifF (by first | assumption | decide) ?_ | refine E_gdT (by first | assumption | decide) ?_ | refine E_gdF (by first | assumption | decide) ?_ | refine E_gdnT (by first | assumption | decide) ?_ | refine E_gdnF (by first | assumption | decide) ?_ | refine E_pickT (by first | assumption | decide) ?_ | refine E_pickF (by first | assumption | decide) ?_ | refine E_ixN (by omega) ?_ | refine E_ld' (by assumption) ?_ | refine E_addI (by omega) (by omega) ?_ | refine E_subI (by omega) (by omega) ?_ | refine E_mulI (by omega) (by omega) ?_))
            rw [decide_eq_true g2]
            exact must (fun _ => E_same (by repeat (first | exact Same.refl | (refine Same.cons (by repeat (first | exact Find.here | apply Find.there)) ?_) | (refine Same.drop ?_))) hk) fun h => by simp at h
          refine E_fa fun _ => ?_
          refine sls_nil (T := 5) cB 1 ?_
          refine E_loop (σ := Nat × Value × List UInt8) (fun z => 2 * z.1 ≤ t.length ∧ CellI z.2.1 ∧ unhex (t.take (2 * z.1)) = some z.2.2 ∧ z.2.2.length = z.1) (fun z => [str t, z.2.1, I ((2 * z.1 : Nat) : Int)])
            (fun z => sls cB 5 1 z.2.1 z.2.2 :: cel true r 50 [str [], .bool false] :: H) (fun z => t.length - z.1) (0, .slice none 0 0, []) (fun _ => rfl) rfl ⟨by omega, ⟨rfl⟩, rfl, rfl⟩ (fun W hW => E_same (by repeat (first | exact Same.refl | (refine Same.cons (by repeat (first | exact Find.here | apply Find.there)) ?_) | (refine Same.drop ?_))) hW) ?_
          rintro ⟨m, v, acc⟩ K0 ⟨hi, hcv, hu, hla⟩ hk
          simp only at hi hcv hu hla
          refine E_fa fun _ => ?_
          refine E_lenstr ?_
          refine E_lss ?_
          refine E_if (fun hcl => ?_) (fun hcl => ?_)
          rotate_left
          · have e : t.take (2 * m) = t := List.take_of_length_le (by omega)
            rw [e] at hu
            exact good acc hu v
          have hb1 : 2 * m + 1 < t.length := by omega
          have e1 : t[2 * m]? = some t[2 * m] := List.getElem?_eq_getElem (by omega)
          have e2 : t[2 * m + 1]? = some t[2 * m + 1] := List.getElem?_eq_getElem hb1
          generalize t[2 * m] = c1 at e1
          generalize t[2 * m + 1] = c2 at e2
          have htk : t.take (2 * (m + 1)) = t.take (2 * m) ++ [c1, c2] := by
            rw [show 2 * (m + 1) = 2 * m + 1 + 1 by omega, List.take_add_one, List.take_add_one, e1, e2]; simp
          have hsp : t = t.take (2 * m) ++ c1 :: c2 :: t.drop (2 * m + 2) := by
            conv => lhs; rw [← List.take_append_drop (2 * (m + 1)) t, htk]
            rw [show 2 * (m + 1) = 2 * m + 2 by omega]; simp
          have hl2 : (t.take (2 * m)).length % 2 = 0 := by rw [List.length_take]; omega
          have hno : (hexV c1 = none ∨ hexV c2 = none) → unhex t = none := fun h => by
            rw [hsp, unhex_append _ _ hl2, hu]
            have e3 : unhex (c1 :: c2 :: t.drop (2 * m + 2)) = (match hexV c1, hexV c2, unhex (t.drop (2 * m + 2)) with | some x, some y, some r => some (UInt8.ofNat (16 * x + y) :: r) | _, _, _ => none) := rfl
            rw [e3]
            rcases h with h | h
            · rw [h]
            · rw [h]; cases hexV c1 <;> rfl
          refine E_dr ?_
          refine E_chrL e1 ?_
          refine E_addI (by omega) (by omega) ?_
          rw [show (((2 * m : Nat) : Int) + 1) = ((2 * m + 1 : Nat) : Int) by omega]
          refine E_chrL e2 ?_
          refine litIndexByte (s := hexS) ?_
          refine litIndexByte (s := hexS) ?_
          rw [hex_idx c1, hex_idx c2]
          cases h1 : hexV c1 with
          | none =>
            refine E_join0 ?_
            (repeat (first | refine goS ?_ | refine E_box fun _ => ?_ | refine E_fa fun _ => ?_ | refine E_ptfad0 fun _ _ => ?_ | refine E_ptfad fun _ _ => ?_ | refine E_rsix (by assumption) fun _ _ => ?_ | refine E_ifT (by first | assumption | decide) ?_ | refine E_ifF (by first | assumption | decide) ?_ | refine E_gdT (by first | assumption | decide) ?_ | refine E_gdF (by first | assumption | decide) ?_ | refine E_gdnT (by first | assumption | decide) ?_ | refine E_gdnF (by first | assumption | decide) ?_ | refine E_pickT (by first | assumption | decide) ?_ | refine E_pickF (by first | assumption | decide) ?_ | refine E_ixN (by omega) ?_ | refine E_ld' (by assumption) ?_ | refine E_addI (by omega) (by omega) ?_ | refine E_subI (by omega) (by omega) ?_ | refine E_mulI (by omega) (by omega) ?_))
            exact must (fun h => by simp at h) fun _ => E_drop (E_drop (bad (hno (.inl h1))))
          | some x =>
            have hx1 := hexV_lt h1
            cases h2 : hexV c2 with
            | none =>
              refine E_join0 ?_
              have g : ((x : Int) ≥ 0) := by omega
              (repeat (first | refine goS ?_ | refine E_box fun _ => ?_ | refine E_fa fun _ => ?_ | refine E_ptfad0 fun _ _ => ?_ | refine E_ptfad fun _ _ => ?_ | refine E_rsix (by assumption) fun _ _ => ?_ | refine E_ifT (by first | assumption | decide) ?_ | refine E_ifF (by first | assumption | decide) ?_ | refine E_gdT (by first | assumption | decide) ?_ | refine E_gdF (by first | assumption | decide) ?_ | refine E_gdnT (by first | assumption | decide) ?_ | refine E_gdnF (by first | assumption | decide) ?_ | refine E_pickT (by first | assumption | decide) ?_ | refine E_pickF (by first | assumption | decide) ?_ | refine E_ixN (by omega) ?_ | refine E_ld' (by assumption) ?_ | refine E_addI (by omega) (by omega) ?_ | refine E_subI (by omega) (by omega) ?_ | refine E_mulI (by omega) (by omega) ?_))
              exact must (fun h => by simp at h) fun _ => E_drop (E_drop (bad (hno (.inr h2))))
            | some y =>
              have hy1 := hexV_lt h2
              refine E_join1 [str t, v, I ((2 * m : Nat) : Int), I x, I y] (sls cB 5 1 v acc :: cel true r 50 [str [], .bool false] :: H) (fun q hq => ?_) ?_
              · have g : ((x : Int) ≥ 0) := by omega
                have g2 : ((y : Int) ≥ 0) := by omega
                (repeat (first | refine goS ?_ | refine E_box fun _ => ?_ | refine E_fa fun _ => ?_ | refine E_ptfad0 fun _ _ => ?_ | refine E_ptfad fun _ _ => ?_ | refine E_rsix (by assumption) fun _ _ => ?_ | refine E_ifT (by first | assumption | decide) ?_ | refine E_ifF (by first | assumption | decide) ?_ | refine E_gdT (by first | assumption | decide) ?_ | refine E_gdF (by first | assumption | decide) ?_ | refine E_gdnT (by first | assumption | decide) ?_ | refine E_gdnF (by first | assumption | decide) ?_ | refine E_pickT (by first | assumption | decide) ?_ | refine E_pickF (by first | assumption | decide) ?_ | refine E_ixN (by omega) ?_ | refine E_ld' (by assumption) ?_ | refine E_addI (by omega) (by omega) ?_ | refine E_subI (by omega) (by omega) ?_ | refine E_mulI (by omega) (by omega) ?_))
                rw [decide_eq_true g2]
                exact must (fun _ => hq) fun h => by simp at h
              refine E_fa fun _ => ?_
              refine E_mulI (by omega) (by omega) ?_
              refine E_addI (by omega) (by omega) ?_
              refine E_cvt8 (by omega) ?_
              rw [show ((16 * (x : Int) + (y : Int))).toNat = 16 * x + y by omega]
              have hcv := hcv
              refine E_sapp1 (UInt8.ofNat (16 * x + y)) u_bytes elt_byte rfl (by decide) (by rw [hla]; omega) (by rw [hla]; omega) fun v' _ => ?_
              refine E_addI (by omega) (by omega) ?_
              have hk' := hk (m + 1, v', acc ++ [UInt8.ofNat (16 * x + y)]) ⟨by simp only; omega, inferInstance, by
                simp only
                rw [htk, unhex_append _ _ hl2, hu]
                have e3 : unhex [c1, c2] = (match hexV c1, hexV c2, unhex [] with | some x, some y, some r => some (UInt8.ofNat (16 * x + y) :: r) | _, _, _ => none) := rfl
                rw [e3, h1, h2]
                rfl, by simp [hla]⟩ (by simp only; omega)
              simp only at hk'
              rw [show ((2 * m : Nat) : Int) + 2 = ((2 * (m + 1) : Nat) : Int) by omega]
              exact hk'
end Go.Proofs.YtogallbjmgoagaaDoor.Scr
