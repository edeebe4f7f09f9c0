/-
  Names: the document's Check.
-/
import Derived.Test.YtjafpncngmbcdaaGreatNmZ
set_option linter.unusedSimpArgs false
set_option linter.unusedVariables false
set_option linter.unusedSectionVars false
namespace Go.Proofs.YtjafpncngmbcdaaGreat.Nam
open Go Go.SL Go.Proofs Go.Proofs.YtjafpncngmbcdaaGreat.Sh
variable {B : World} {H : List Asrt} {K : Value → WT} {W : WT} {a : Nat} {M : Bk} {f : Fa} {rv hv mv : Value}
variable {fv sv : Cv} {L : List FC} {LS : List SC} {Pf : List (Value × List FC)} {Lv : List (Value × List VR)} {Lr : List (Value × List Rf)} {Ps : List (Value × List SC)} {Lh : List (Value × List (List UInt8 × Int))}
theorem sof_isSome (hw : Inv M) (k : List UInt8) : (sof M.S k).isSome = decide (k ∈ M.S.map fun s : Sn => s.name) := by
  rw [Bool.eq_iff_iff]
  simp only [decide_eq_true_eq]
  constructor
  · intro h
    obtain ⟨s, hs⟩ := Option.isSome_iff_exists.1 h
    obtain ⟨h1, h2⟩ := sof_some hs
    exact List.mem_map.2 ⟨s, h1, h2⟩
  · intro h
    obtain ⟨s, h1, rfl⟩ := List.mem_map.1 h
    rw [hw.su s h1]; rfl
theorem risesB_iff {l : List (List UInt8 × Int)} : risesB l = true ↔ ∀ j x y, l[j]? = some x → l[j + 1]? = some y → x.1 < y.1 := by
  constructor
  · intro h j x y hx hy
    have := List.pairwise_iff_getElem.1 (of_decide_eq_true h) j (j + 1) (by have := (List.getElem?_eq_some_iff.1 hx).1; simp; omega) (by have := (List.getElem?_eq_some_iff.1 hy).1; simp; omega) (by omega)
    simp only [List.getElem_map] at this
    rw [(List.getElem?_eq_some_iff.1 hx).2, (List.getElem?_eq_some_iff.1 hy).2] at this
    exact this
  · intro h
    refine decide_eq_true (adj_pw fun j x y hx hy => ?_)
    rw [List.getElem?_map] at hx hy
    cases h1 : l[j]? with
    | none => rw [h1] at hx; cases hx
    | some p =>
      cases h2 : l[j + 1]? with
      | none => rw [h2] at hy; cases hy
      | some q =>
        rw [h1] at hx; rw [h2] at hy
        cases hx; cases hy
        exact h j p q h1 h2
attribute [local irreducible] S.pick S.ld S.ldN S.st S.box S.nc S.fad S.ixS S.ixA S.chr S.prt S.ext S.bin S.sh S.sbin S.beq S.neg1 S.com1 S.not1 S.cvt S.str1 S.lenS S.len S.cap S.lenM S.mx S.mn S.mkM S.cond S.gd S.fa S.dr S.rck S.join S.loop S.cvv S.eqv S.slc S.slcS S.b2s S.lk V U CF Gives E cel mpb osl ros dct dit itr lpo dfo
set_option maxRecDepth 8000
attribute [local irreducible] bk dbk
theorem checkD [CellI rv] [CellI hv] [CellI mv] [hr1 : Rs B H rv rfC f.refs] [hr2 : Rs B H hv hC f.held] [hr3 : Rs B H mv mvC f.moves] (ho : FaOk f) (hd : DOk ⟨fv, sv, L, LS, Pf, Lv, Lr, Ps, Lh⟩ M) (hw : Inv M) (h : E B (cel true a 88 [fv.1, sv.1, I M.now] :: spool fC Pf :: spool vC Lv :: spool rfC Lr :: spool shC Ps :: spool hC Lh :: H) (K (I (checkB M f)))) : E B (cel true a 88 [fv.1, sv.1, I M.now] :: spool fC Pf :: spool vC Lv :: spool rfC Lr :: spool shC Ps :: spool hC Lh :: H) (CF Tryz.prog 39 [ptr a, .agg (faL f rv hv mv).toArray] K) := by
  have fin : ∀ e : Int, checkB M f = e → E B (cel true a 88 [fv.1, sv.1, I M.now] :: spool fC Pf :: spool vC Lv :: spool rfC Lr :: spool shC Ps :: spool hC Lh :: H) (K (I e)) := fun e he => he ▸ h
  have hL := nms_len32 hd hw
  have hlen := hd.len
  have hfl := hw.fl
  have hns := nms_lt hw.v.n
  have h16 := hw.s16
  have hlS := hd.lenS
  have rf : ∀ H, Rs B (spool fC Pf :: H) fv.1 fC L := rs_pool hd.f
  have rs : ∀ H, Rs B (spool shC Ps :: H) sv.1 shC LS := rs_pool hd.s
  unfold checkB at fin
  refine E_mono (W := s39 _ _ K) ?_ fun _ => c39
  unfold s39
  refine E_box (vs := faL f rv hv mv) fun b3 => ?_
  (repeat first | refine gS ?_ | refine gA fun _ => ?_ | refine gX fun _ _ => ?_ | refine gT ?_ | refine gF ?_ | refine gI ?_)
  refine rcheck ho ?_
  (repeat first | refine gS ?_ | refine gA fun _ => ?_ | refine gX fun _ _ => ?_ | refine gT ?_ | refine gF ?_ | refine gI ?_)
  refine E_if (fun hc => ?_) (fun hc => ?_)
  · exact sm (fin _ (if_pos hc))
  rw [if_neg (by simpa using hc)] at fin
  have hc0 : checkF f = 0 := Decidable.not_not.1 hc
  obtain ⟨hk, hbad, hrl, hhl, hml, hmo, hho, hro, hbare⟩ := checkF0 hc0
  refine sm (G := cel true a 88 [fv.1, sv.1, I M.now] :: spool fC Pf :: spool vC Lv :: spool rfC Lr :: spool shC Ps :: spool hC Lh :: cel true b3 60 (faL f rv hv mv) :: H) ?_
  have fin : ∀ e : Int, _ = e → E B (cel true a 88 [fv.1, sv.1, I M.now] :: spool fC Pf :: spool vC Lv :: spool rfC Lr :: spool shC Ps :: spool hC Lh :: cel true b3 60 (faL f rv hv mv) :: H) (K (I e)) := fun e he => sm (fin e he)
  refine E_joinC (σ := Unit) (fun _ => checkB M f = 0) (fun _ => []) (fun _ => cel true a 88 [fv.1, sv.1, I M.now] :: spool fC Pf :: spool vC Lv :: spool rfC Lr :: spool shC Ps :: spool hC Lh :: cel true b3 60 (faL f rv hv mv) :: H) (fun q hq => ?_) (fun _ hz => ?_)
  case refine_2 =>
    refine E_fa fun _ => ?_
    rw [hz] at h
    exact sm h
  have hq : checkB M f = 0 → E B (cel true a 88 [fv.1, sv.1, I M.now] :: spool fC Pf :: spool vC Lv :: spool rfC Lr :: spool shC Ps :: spool hC Lh :: cel true b3 60 (faL f rv hv mv) :: H) (app 0 q []) := fun e => hq () e
  unfold checkB at hq
  rw [if_neg (by simpa using hc)] at hq
  by_cases h8 : f.k = 8
  · rw [if_pos h8] at fin hq
    (repeat first | refine gS ?_ | refine gA fun _ => ?_ | refine gX fun _ _ => ?_ | refine gT ?_ | refine gF ?_ | refine gI ?_)
    refine E_if (fun e => ?_) (fun e => ?_)
    · exact sm (fin 2 (if_pos e))
    · exact sm (hq (if_neg e))
  rw [if_neg h8] at fin hq
  by_cases h3 : f.k = 3
  · rw [if_pos h3] at fin hq
    (repeat first | refine gS ?_ | refine gA fun _ => ?_ | refine gX fun _ _ => ?_ | refine gT ?_ | refine gF ?_ | refine gI ?_)
    refine E_if (fun e => ?_) (fun e => ?_)
    · exact sm (fin 2 (if_pos e))
    rw [if_neg e] at fin hq
    (repeat first | refine gS ?_ | refine gA fun _ => ?_ | refine gX fun _ _ => ?_ | refine gT ?_ | refine gF ?_ | refine gI ?_)
    refine nextD hd hw ?_
    (repeat (refine E_rck1 (by first | exact E_ld (E_fact rfl) | exact E_ld' (by assumption) (E_fact rfl) | exact E_b2sR (E_fact rfl) | exact E_gdnF (by assumption) (E_ld (E_fact rfl)) | exact E_gdT (by assumption) (E_ld (E_fact rfl)) | exact E_gtf (E_ld (E_fact rfl)) | exact E_gft (E_ld (E_fact rfl)) | exact E_ldNA (E_fact rfl) | exact E_ptld (E_fact rfl) | exact E_gtf (E_ldNA (E_fact rfl))) ?_)); (first | (refine E_rck0 ?_) | skip)
    refine E_lss ?_
    refine E_if (fun e => ?_) (fun e => ?_)
    · exact sm (fin 10 (if_pos e))
    rw [if_neg e] at fin hq
    (repeat first | refine gS ?_ | refine gA fun _ => ?_ | refine gX fun _ _ => ?_ | refine gT ?_ | refine gF ?_ | refine gI ?_)
    refine fileD hd hw ?_
    (repeat first | refine gS ?_ | refine gA fun _ => ?_ | refine gX fun _ _ => ?_ | refine gT ?_ | refine gF ?_ | refine gI ?_)
    have hfn := hfl f.name
    refine E_join1 [.bool (decide ((fof M.V f.name = [] ∧ (nms M.V).length = 64) ∨ (fof M.V f.name).length = 32))] (cel true a 88 [fv.1, sv.1, I M.now] :: spool fC Pf :: spool vC Lv :: spool rfC Lr :: spool shC Ps :: spool hC Lh :: cel true b3 60 (faL f rv hv mv) :: H) (fun q2 hq2 => ?_) ?_
    · by_cases hn : f.name ∈ nms M.V
      · rw [decide_eq_true hn]
        obtain ⟨c, l, hx, hl⟩ := hd.get (pos_mem hns hn)
        have rl := rs_pool (B := B) (enc := vC) hl.m
        have hll : l.length = (fof M.V f.name).length := by rw [← hl.e, List.length_map]
        have e : decide ((fof M.V f.name = [] ∧ (nms M.V).length = 64) ∨ (fof M.V f.name).length = 32) = decide ((32 : Int) ≤ l.length) := by
          rw [decide_eq_decide]
          have := fof_some hn
          constructor
          · rintro (h | h)
            · exact (this h.1).elim
            · omega
          · intro h; exact .inr (by omega)
        rw [e] at hq2
        (repeat first | refine gS ?_ | refine gA fun _ => ?_ | refine gX fun _ _ => ?_ | refine gT ?_ | refine gF ?_ | refine gI ?_)
        exact sm hq2
      · rw [decide_eq_false hn]
        have e : decide ((fof M.V f.name = [] ∧ (nms M.V).length = 64) ∨ (fof M.V f.name).length = 32) = decide ((64 : Int) ≤ L.length) := by
          rw [decide_eq_decide, fof_none hn]
          simp; omega
        rw [e] at hq2
        (repeat first | refine gS ?_ | refine gA fun _ => ?_ | refine gX fun _ _ => ?_ | refine gT ?_ | refine gF ?_ | refine gI ?_)
        by_cases h64 : (64 : Int) ≤ L.length
        · rw [decide_eq_true h64] at hq2 ⊢
          (repeat first | refine gS ?_ | refine gA fun _ => ?_ | refine gX fun _ _ => ?_ | refine gT ?_ | refine gF ?_ | refine gI ?_)
          exact sm hq2
        · rw [decide_eq_false h64] at hq2 ⊢
          (repeat first | refine gS ?_ | refine gA fun _ => ?_ | refine gX fun _ _ => ?_ | refine gT ?_ | refine gF ?_ | refine gI ?_)
          exact sm hq2
    · refine E_fa fun _ => ?_
      refine E_if (fun e => ?_) (fun e => ?_)
      · exact sm (fin 6 (if_pos e))
      · exact sm (hq (if_neg e))
  rw [if_neg h3] at fin hq
  by_cases h4 : f.k = 4
  · rw [if_pos h4] at fin hq
    (repeat first | refine gS ?_ | refine gA fun _ => ?_ | refine gX fun _ _ => ?_ | refine gT ?_ | refine gF ?_ | refine gI ?_)
    refine E_build (l := [str f.name, I f.gen]) str_held ?_
    refine liveD hd hw ?_
    cases hl : liveB M.V f.name f.gen with
    | true =>
      rw [hl] at hq
      (repeat first | refine gS ?_ | refine gA fun _ => ?_ | refine gX fun _ _ => ?_ | refine gT ?_ | refine gF ?_ | refine gI ?_)
      exact sm (hq rfl)
    | false =>
      rw [hl] at fin
      (repeat first | refine gS ?_ | refine gA fun _ => ?_ | refine gX fun _ _ => ?_ | refine gT ?_ | refine gF ?_ | refine gI ?_)
      exact sm (fin 9 rfl)
  rw [if_neg h4] at fin hq
  by_cases h5 : f.k = 5
  · rw [if_pos h5] at fin hq
    (repeat first | refine gS ?_ | refine gA fun _ => ?_ | refine gX fun _ _ => ?_ | refine gT ?_ | refine gF ?_ | refine gI ?_)
    refine E_if (fun e => ?_) (fun e => ?_)
    · exact sm (fin 2 (if_pos e))
    rw [if_neg e] at fin hq
    (repeat first | refine gS ?_ | refine gA fun _ => ?_ | refine gX fun _ _ => ?_ | refine gT ?_ | refine gF ?_ | refine gI ?_)
    refine shotD hd hw ?_
    (repeat first | refine gS ?_ | refine gA fun _ => ?_ | refine gX fun _ _ => ?_ | refine gT ?_ | refine gF ?_ | refine gI ?_)
    rw [← sof_isSome hw]
    cases hso : (sof M.S f.name).isSome with
    | true =>
      rw [hso] at fin
      (repeat first | refine gS ?_ | refine gA fun _ => ?_ | refine gX fun _ _ => ?_ | refine gT ?_ | refine gF ?_ | refine gI ?_)
      exact sm (fin 10 rfl)
    | false =>
    rw [hso] at fin hq
    simp only [Bool.false_eq_true, if_false] at fin hq
    (repeat first | refine gS ?_ | refine gA fun _ => ?_ | refine gX fun _ _ => ?_ | refine gT ?_ | refine gF ?_ | refine gI ?_)
    refine E_if (fun e => ?_) (fun e => ?_)
    · exact sm (fin 6 (if_pos (by omega)))
    rw [if_neg (by omega)] at fin hq
    refine E_loop (n := 3) (σ := Nat) (fun i => i ≤ f.held.length ∧ ∀ y ∈ f.held.take i, liveB M.V y.1 y.2 = true) (fun i => [ptr a, ptr b3, I i]) (fun _ => cel true a 88 [fv.1, sv.1, I M.now] :: spool fC Pf :: spool vC Lv :: spool rfC Lr :: spool shC Ps :: spool hC Lh :: cel true b3 60 (faL f rv hv mv) :: H) (fun i => f.held.length - i) 0 (fun _ => rfl) rfl ⟨Nat.zero_le _, by simp⟩ (fun W hW => sm hW) ?_
    rintro i K0 ⟨hi, ha⟩ hk0
    refine E_fa fun _ => ?_
    (repeat first | refine gS ?_ | refine gA fun _ => ?_ | refine gX fun _ _ => ?_ | refine gT ?_ | refine gF ?_ | refine gI ?_)
    refine E_if (fun hc1 => ?_) (fun hc1 => ?_)
    · have hx : f.held[i]? = some f.held[i] := List.getElem?_eq_getElem (by omega)
      have hxm := List.mem_of_getElem? hx
      generalize f.held[i] = x at hx hxm
      (repeat first | refine gS ?_ | refine gA fun _ => ?_ | refine gX fun _ _ => ?_ | refine gT ?_ | refine gF ?_ | refine gI ?_)
      show E B _ (CF Tryz.prog 90 [ptr a, .agg #[str x.1, I x.2]] _)
      refine liveD hd hw ?_
      cases hl : liveB M.V x.1 x.2 with
      | true =>
        (repeat first | refine gS ?_ | refine gA fun _ => ?_ | refine gX fun _ _ => ?_ | refine gT ?_ | refine gF ?_ | refine gI ?_)
        refine hk0 (i + 1) ⟨by omega, fun y hy => ?_⟩ (by omega)
        rw [List.take_add_one, hx] at hy
        rcases List.mem_append.1 hy with hy | hy
        · exact ha y hy
        · simp at hy; subst hy; exact hl
      | false =>
        (repeat first | refine gS ?_ | refine gA fun _ => ?_ | refine gX fun _ _ => ?_ | refine gT ?_ | refine gF ?_ | refine gI ?_)
        exact sm (fin 9 (if_pos (List.any_eq_true.2 ⟨x, hxm, by simp [hl]⟩)))
    · have hie : i = f.held.length := by omega
      rw [hie, List.take_length] at ha
      have hany : (f.held.any fun h => !liveB M.V h.1 h.2) = false := by
        rw [List.any_eq_false]; intro y hy; simp [ha y hy]
      rw [hany] at fin hq
      simp only [Bool.false_eq_true, if_false] at fin hq
      clear hk0 hc1 hie hi ha
      refine E_loop (n := 2) (σ := Nat) (fun i => 1 ≤ i ∧ (i ≤ f.held.length ∨ i = 1) ∧ ∀ j x y, j + 1 < i → f.held[j]? = some x → f.held[j + 1]? = some y → x.1 < y.1) (fun i => [ptr b3, I i]) (fun _ => cel true a 88 [fv.1, sv.1, I M.now] :: spool fC Pf :: spool vC Lv :: spool rfC Lr :: spool shC Ps :: spool hC Lh :: cel true b3 60 (faL f rv hv mv) :: H) (fun i => f.held.length - i) 1 (fun _ => rfl) rfl ⟨Nat.le_refl _, .inr rfl, fun j x y h => absurd h (by omega)⟩ (fun W hW => sm hW) ?_
      rintro i K0 ⟨hi1, hi, ha⟩ hk0
      refine E_fa fun _ => ?_
      (repeat first | refine gS ?_ | refine gA fun _ => ?_ | refine gX fun _ _ => ?_ | refine gT ?_ | refine gF ?_ | refine gI ?_)
      refine E_if (fun hc1 => ?_) (fun hc1 => ?_)
      · obtain ⟨j, rfl⟩ : ∃ j, i = j + 1 := ⟨i - 1, by omega⟩
        have hx : f.held[j]? = some f.held[j] := List.getElem?_eq_getElem (by omega)
        have hy : f.held[j + 1]? = some f.held[j + 1] := List.getElem?_eq_getElem (by omega)
        generalize f.held[j] = x at hx
        generalize f.held[j + 1] = y at hy
        (repeat first | refine gS ?_ | refine gA fun _ => ?_ | refine gX fun _ _ => ?_ | refine gT ?_ | refine gF ?_ | refine gI ?_)
        rw [show ((j + 1 : Nat) : Int) - 1 = (j : Int) by omega]
        (repeat first | refine gS ?_ | refine gA fun _ => ?_ | refine gX fun _ _ => ?_ | refine gT ?_ | refine gF ?_ | refine gI ?_)
        refine E_if (fun e => ?_) (fun e => ?_)
        · have hf : risesB f.held = false := by
            cases hr : risesB f.held with
            | false => rfl
            | true => exact (e (risesB_iff.1 hr j x y hx hy)).elim
          exact sm (fin 4 (by rw [hf]; rfl))
        · refine E_addI (by omega) (by omega) ?_
          refine hk0 (j + 1 + 1) ⟨by omega, .inl (by omega), fun j' x' y' hj' hx' hy' => ?_⟩ (by omega)
          by_cases hjj : j' = j
          · subst hjj
            rw [hx] at hx'; rw [hy] at hy'
            cases hx'; cases hy'
            exact Classical.byContradiction fun hn => e hn
          · exact ha j' x' y' (by omega) hx' hy'
      · have hf : risesB f.held = true := risesB_iff.2 fun j x y hx hy => ha j x y (by have := (List.getElem?_eq_some_iff.1 hy).1; omega) hx hy
        exact sm (hq (by rw [hf]; rfl))
  rw [if_neg h5] at fin hq
  by_cases h6 : f.k = 6
  · rw [if_pos h6] at fin hq
    (repeat first | refine gS ?_ | refine gA fun _ => ?_ | refine gX fun _ _ => ?_ | refine gT ?_ | refine gF ?_ | refine gI ?_)
    refine shotD hd hw ?_
    rw [← sof_isSome hw]
    (repeat first | refine gS ?_ | refine gA fun _ => ?_ | refine gX fun _ _ => ?_ | refine gT ?_ | refine gF ?_ | refine gI ?_)
    cases hso : (sof M.S f.name).isSome with
    | true =>
      rw [hso] at hq
      (repeat first | refine gS ?_ | refine gA fun _ => ?_ | refine gX fun _ _ => ?_ | refine gT ?_ | refine gF ?_ | refine gI ?_)
      exact sm (hq rfl)
    | false =>
      rw [hso] at fin
      (repeat first | refine gS ?_ | refine gA fun _ => ?_ | refine gX fun _ _ => ?_ | refine gT ?_ | refine gF ?_ | refine gI ?_)
      exact sm (fin 9 rfl)
  rw [if_neg h6] at fin hq
  (repeat first | refine gS ?_ | refine gA fun _ => ?_ | refine gX fun _ _ => ?_ | refine gT ?_ | refine gF ?_ | refine gI ?_)
  exact sm (hq rfl)
end Go.Proofs.YtjafpncngmbcdaaGreat.Nam
