/-
  Names: the document's Check of a fact.
-/
import Derived.Test.YtjafpncngmbcdaaGreatNmE
set_option linter.unusedSimpArgs false
set_option linter.unusedVariables false
set_option linter.unusedSectionVars false
namespace Go.Proofs.YtjafpncngmbcdaaGreat.Nam
open Go Go.SL Go.Proofs Go.Proofs.YtjafpncngmbcdaaGreat.Sh
variable {B : World} {H : List Asrt} {K : Value → WT} {W : WT} {c : Bool} {x y z : Value} {f : Fa} {rv hv mv : Value}
theorem len1 {α : Type} (l : List α) : decide (0 < (l.length : Int)) = !decide (l = []) := by
  rw [← decide_not, decide_eq_decide]; cases l <;> simp <;> omega
theorem bin_not (n : Int) : (decide (n < 0) || decide (4095 < n)) = !inBinB n := by
  rw [Bool.eq_iff_iff]; simp [inBinB]; omega
attribute [local irreducible] S.pick S.ld S.ldN S.st S.box S.nc S.fad S.ixS S.ixA S.chr S.prt S.ext S.bin S.sh S.sbin S.beq S.neg1 S.com1 S.not1 S.cvt S.str1 S.lenS S.len S.cap S.lenM S.mx S.mn S.mkM S.cond S.gd S.fa S.dr S.rck S.join S.loop S.cvv S.eqv S.slc S.slcS S.b2s S.lk V U CF Gives E cel mpb osl ros dct dit itr lpo dfo
set_option maxRecDepth 8000
theorem rcheck [CellI rv] [CellI hv] [CellI mv] [hr1 : Rs B H rv rfC f.refs] [hr2 : Rs B H hv hC f.held] [hr3 : Rs B H mv mvC f.moves] (ho : FaOk f) (h : E B H (K (I (checkF f)))) : E B H (CF Tryz.prog 89 [.agg (faL f rv hv mv).toArray] K) := by
  have : Len f.name := ⟨ho.nm⟩
  refine E_mono (W := s89 _ K) ?_ fun _ => c89
  unfold s89
  refine E_box (vs := faL f rv hv mv) fun b1 => ?_
  (repeat first | refine gS ?_ | refine gA fun _ => ?_ | refine gX fun _ _ => ?_ | refine gT ?_ | refine gF ?_ | refine gI ?_)
  have fin : ∀ e : Int, checkF f = e → E B (cel true b1 60 (faL f rv hv mv) :: H) (K (I e)) := fun e he => by rw [he] at h; exact sm h
  unfold checkF at fin
  refine E_join1 [ptr b1, I f.k, .bool (decide (f.k < 1) || decide (9 < f.k))] (cel true b1 60 (faL f rv hv mv) :: H) (fun q hq => ?_) ?_
  · (repeat first | refine gS ?_ | refine gY ?_ | refine gA fun _ => ?_ | refine gX fun _ _ => ?_ | refine gI ?_)
    exact sm hq
  refine E_fa fun _ => ?_
  refine E_ifb' (p := f.k < 1 ∨ 9 < f.k) (by simp) (fun e1 => ?_) (fun e1 => ?_)
  · exact fin 4 (if_pos (e1.elim .inl fun h => .inr (.inl h)))
  refine E_join1 [ptr b1, I f.k, .bool (nPlace f.k)] (cel true b1 60 (faL f rv hv mv) :: H) (fun q hq => ?_) ?_
  · (repeat first | refine gS ?_ | refine gY ?_ | refine gA fun _ => ?_ | refine gX fun _ _ => ?_ | refine gI ?_)
    have e : (decide (f.k = 1) || decide (f.k = 2)) = nPlace f.k := by rw [Bool.eq_iff_iff]; simp [nPlace]
    rw [e]
    exact sm hq
  refine E_fa fun _ => ?_
  refine E_join1 [ptr b1, I f.k, .bool (nPlace f.k), .bool (nGen f.k)] (cel true b1 60 (faL f rv hv mv) :: H) (fun q hq => ?_) ?_
  · (repeat first | refine gS ?_ | refine gY ?_ | refine gA fun _ => ?_ | refine gX fun _ _ => ?_ | refine gI ?_)
    have e : (decide (f.k = 3) || decide (f.k = 4)) = nGen f.k := by rw [Bool.eq_iff_iff]; simp [nGen]
    rw [e]
    exact sm hq
  refine E_fa fun _ => ?_
  refine E_join1 [ptr b1, I f.k, .bool (nPlace f.k), .bool (nGen f.k), .bool (!bareB f)] (cel true b1 60 (faL f rv hv mv) :: H) (fun q hq => ?_) ?_
  · (repeat first | refine gS ?_ | refine gY ?_ | refine gA fun _ => ?_ | refine gX fun _ _ => ?_ | refine gI ?_)
    simp only [len1, decide_not, ne_eq]
    have hq' := hq
    unfold bareB at hq'
    simp only [Bool.not_and, Bool.not_or] at hq'
    exact sm hq'
  refine E_fa fun _ => ?_
  refine E_ifb' (p := bareB f = false) (by simp) (fun e2 => ?_) (fun e2 => ?_)
  · exact fin 4 (if_pos (.inr (.inr e2)))
  rw [if_neg (by intro h; rcases h with h | h | h; exact e1 (.inl h); exact e1 (.inr h); exact e2 h)] at fin
  have bad : badB f = true → E B (cel true b1 60 (faL f rv hv mv) :: H) (K (I 2)) := fun e => fin 2 (if_pos e)
  refine E_join1 [ptr b1, I f.k, .bool (nGen f.k), .bool (nPlace f.k && !inBinB f.bin)] (cel true b1 60 (faL f rv hv mv) :: H) (fun q hq => ?_) ?_
  · (repeat first | refine gS ?_ | refine gY ?_ | refine gA fun _ => ?_ | refine gX fun _ _ => ?_ | refine gI ?_)
    rw [bin_not]
    exact sm hq
  refine E_fa fun _ => ?_
  refine E_ifb (fun e3 => ?_) (fun e3 => ?_)
  · exact bad (by unfold badB; rw [e3]; rfl)
  refine E_join1 [ptr b1, I f.k, .bool (nGen f.k), .bool (decide (f.k = 2) && decide (¬ (f.at_ = 0 ∧ f.n = 0)))] (cel true b1 60 (faL f rv hv mv) :: H) (fun q hq => ?_) ?_
  · (repeat first | refine gS ?_ | refine gY ?_ | refine gA fun _ => ?_ | refine gX fun _ _ => ?_ | refine gI ?_)
    have e : (decide (f.at_ ≠ 0) || decide (f.n ≠ 0)) = decide (¬ (f.at_ = 0 ∧ f.n = 0)) := by rw [Bool.eq_iff_iff]; simp <;> omega
    rw [e]
    exact sm hq
  refine E_fa fun _ => ?_
  refine E_ifb (fun e4 => ?_) (fun e4 => ?_)
  · exact bad (by unfold badB; rw [e3, e4]; rfl)
  refine E_join1 [ptr b1, I f.k, .bool (nGen f.k), .bool (decide (f.k = 1) && (decide (f.at_ < 0) || decide (4096 ≤ f.at_) || decide (f.n < 2) || decide (64 < f.n)))] (cel true b1 60 (faL f rv hv mv) :: H) (fun q hq => ?_) ?_
  · (repeat first | refine gS ?_ | refine gY ?_ | refine gA fun _ => ?_ | refine gX fun _ _ => ?_ | refine gI ?_)
    have e : decide (4095 < f.at_) = decide (4096 ≤ f.at_) := by rw [decide_eq_decide]; omega
    rw [e]
    exact sm hq
  refine E_fa fun _ => ?_
  refine E_ifb (fun e5 => ?_) (fun e5 => ?_)
  · exact bad (by unfold badB; rw [e3, e4, e5]; rfl)
  refine E_join1 [ptr b1, I f.k, .bool (nGen f.k), .bool (decide (f.k = 9) && !ruleB f)] (cel true b1 60 (faL f rv hv mv) :: H) (fun q hq => ?_) ?_
  · (repeat first | refine gS ?_ | refine gY ?_ | refine gA fun _ => ?_ | refine gX fun _ _ => ?_ | refine gI ?_)
    have e : (!numB f.last || !numB f.young || !numB f.step || decide (f.step < 1) || !numB f.count) = !ruleB f := by
      unfold ruleB
      simp only [Bool.not_and]
      congr 2
      rw [← decide_not, decide_eq_decide]; omega
    rw [e]
    exact sm hq
  refine E_fa fun _ => ?_
  refine E_ifb (fun e6 => ?_) (fun e6 => ?_)
  · exact bad (by unfold badB; rw [e3, e4, e5, e6]; rfl)
  have hb : badB f = ((nName f.k && !nameOk f.name) || (nGen f.k && decide (f.gen < 1)) || !numB f.gen || !numB f.time) := by
    unfold badB
    rw [e3, e4, e5, e6, Bool.false_or, Bool.false_or, Bool.false_or, Bool.false_or]
  refine E_join1 [ptr b1, I f.k, .bool (badB f)] (cel true b1 60 (faL f rv hv mv) :: H) (fun q hq => ?_) ?_
  · rw [hb] at hq
    refine hasName ?_
    (repeat first | refine gS ?_ | refine gY ?_ | refine gA fun _ => ?_ | refine gX fun _ _ => ?_ | refine gI ?_)
    exact sm hq
  refine E_fa fun _ => ?_
  refine E_ifb (fun e7 => ?_) (fun e7 => ?_)
  · exact bad e7
  rw [if_neg (by rw [e7]; decide)] at fin
  refine E_join1 [ptr b1, I f.k, .bool (decide (256 < (f.refs.length : Int)) || decide (64 < (f.held.length : Int)) || decide (64 < (f.moves.length : Int)))] (cel true b1 60 (faL f rv hv mv) :: H) (fun q hq => ?_) ?_
  · (repeat first | refine gS ?_ | refine gY ?_ | refine gA fun _ => ?_ | refine gX fun _ _ => ?_ | refine gI ?_)
    exact sm hq
  refine E_fa fun _ => ?_
  refine E_ifb' (p := 256 < f.refs.length ∨ 64 < f.held.length ∨ 64 < f.moves.length) (by simp only [Bool.or_eq_true, decide_eq_true_eq]; omega) (fun e3 => ?_) (fun e3 => ?_)
  · exact fin 6 (if_pos e3)
  rw [if_neg e3] at fin
  refine E_join1 [ptr b1, .bool (decide (f.k = 7) && decide ((f.moves.length : Int) = 0))] (cel true b1 60 (faL f rv hv mv) :: H) (fun q hq => ?_) ?_
  · (repeat first | refine gS ?_ | refine gY ?_ | refine gA fun _ => ?_ | refine gX fun _ _ => ?_ | refine gI ?_)
    exact sm hq
  refine E_fa fun _ => ?_
  refine E_ifb' (p := f.k = 7 ∧ f.moves = []) (by rw [len0]; simp) (fun e8 => ?_) (fun e8 => ?_)
  · exact fin 2 (if_pos (.inl e8))
  have hml := ho.mv
  have hhl := ho.hd
  have hrl := ho.rf
  refine E_loop (n := 2) (σ := Nat) (fun i => i ≤ f.moves.length ∧ ∀ m ∈ f.moves.take i, moveOk m = true) (fun i => [ptr b1, I i]) (fun _ => cel true b1 60 (faL f rv hv mv) :: H) (fun i => f.moves.length - i) 0 (fun _ => rfl) rfl ⟨Nat.zero_le _, by simp⟩ (fun W hW => hW) ?_
  rintro i K0 ⟨hi, ha⟩ hk
  refine E_fa fun _ => ?_
  (repeat first | refine gS ?_ | refine gA fun _ => ?_ | refine gX fun _ _ => ?_ | refine gT ?_ | refine gF ?_ | refine gI ?_)
  refine E_if (fun hc => ?_) (fun hc => ?_)
  · have hx : f.moves[i]? = some f.moves[i] := List.getElem?_eq_getElem (by omega)
    have hxm := List.mem_of_getElem? hx
    generalize f.moves[i] = m at hx hxm
    refine E_join1 [ptr b1, I i, .bool (!moveOk m)] (cel true b1 60 (faL f rv hv mv) :: H) (fun q hq => ?_) ?_
    · have hq' := hq
      unfold moveOk at hq'
      rw [Bool.not_and] at hq'
      (repeat first | refine gS ?_ | refine gA fun _ => ?_ | refine gX fun _ _ => ?_ | refine gT ?_ | refine gF ?_ | refine gI ?_)
      refine E_ptldN (ds := [I m.fb, I m.fs]) rfl rfl ?_
      refine spot2 ?_
      cases hs1 : spotB m.fb m.fs with
      | false =>
        rw [hs1] at hq'
        (repeat first | refine gS ?_ | refine gA fun _ => ?_ | refine gX fun _ _ => ?_ | refine gT ?_ | refine gF ?_ | refine gI ?_)
        exact sm hq'
      | true =>
        rw [hs1] at hq'
        (repeat first | refine gS ?_ | refine gA fun _ => ?_ | refine gX fun _ _ => ?_ | refine gT ?_ | refine gF ?_ | refine gI ?_)
        refine E_ptldN (ds := [I m.tb, I m.ts]) rfl rfl ?_
        (repeat first | refine gS ?_ | refine gA fun _ => ?_ | refine gX fun _ _ => ?_ | refine gT ?_ | refine gF ?_ | refine gI ?_)
        refine spot2 ?_
        (repeat first | refine gS ?_ | refine gY ?_ | refine gA fun _ => ?_ | refine gX fun _ _ => ?_ | refine gI ?_)
        exact sm hq'
    refine E_fa fun _ => ?_
    refine E_ifb' (p := moveOk m = false) (by simp) (fun e => ?_) (fun e => ?_)
    · exact fin 2 (if_pos (.inr (.inl (List.any_eq_true.2 ⟨m, hxm, by rw [e]; rfl⟩))))
    refine E_addI (by omega) (by omega) ?_
    refine hk (i + 1) ⟨by omega, fun m' hm' => ?_⟩ (by omega)
    rw [List.take_add_one, hx] at hm'
    rcases List.mem_append.1 hm' with hm' | hm'
    · exact ha m' hm'
    · simp at hm'; subst hm'; simpa using e
  have hmv : f.moves.any (fun m => !moveOk m) = false := List.any_eq_false.2 fun m hm => by
    have hie : i = f.moves.length := by omega
    subst hie
    rw [ha m (by simpa using hm)]; decide
  clear hk ha hc hi
  refine E_loop (n := 2) (σ := Nat) (fun i => i ≤ f.held.length ∧ ∀ m ∈ f.held.take i, heldOk m = true) (fun i => [ptr b1, I i]) (fun _ => cel true b1 60 (faL f rv hv mv) :: H) (fun i => f.held.length - i) 0 (fun _ => rfl) rfl ⟨Nat.zero_le _, by simp⟩ (fun W hW => hW) ?_
  rintro j K1 ⟨hi, ha⟩ hk
  refine E_fa fun _ => ?_
  (repeat first | refine gS ?_ | refine gA fun _ => ?_ | refine gX fun _ _ => ?_ | refine gT ?_ | refine gF ?_ | refine gI ?_)
  refine E_if (fun hc => ?_) (fun hc => ?_)
  · have hx : f.held[j]? = some f.held[j] := List.getElem?_eq_getElem (by omega)
    have hxm := List.mem_of_getElem? hx
    generalize f.held[j] = m at hx hxm
    have hmn := ho.hn m hxm
    refine E_join1 [ptr b1, I j, .bool (!heldOk m)] (cel true b1 60 (faL f rv hv mv) :: H) (fun q hq => ?_) ?_
    · have hq' := hq
      unfold heldOk at hq'
      rw [Bool.not_and, Bool.not_and] at hq'
      (repeat first | refine gS ?_ | refine gA fun _ => ?_ | refine gX fun _ _ => ?_ | refine gT ?_ | refine gF ?_ | refine gI ?_)
      refine rname (Nat.le_trans hmn (by decide)) ?_
      cases hs1 : nameOk m.1 with
      | false =>
        rw [hs1] at hq'
        (repeat first | refine gS ?_ | refine gA fun _ => ?_ | refine gX fun _ _ => ?_ | refine gT ?_ | refine gF ?_ | refine gI ?_)
        exact sm hq'
      | true =>
        rw [hs1] at hq'
        (repeat first | refine gS ?_ | refine gA fun _ => ?_ | refine gX fun _ _ => ?_ | refine gT ?_ | refine gF ?_ | refine gI ?_)
        by_cases hs2 : m.2 < 1
        · rw [decide_eq_false (by omega)] at hq'
          (repeat first | refine gS ?_ | refine gA fun _ => ?_ | refine gX fun _ _ => ?_ | refine gT ?_ | refine gF ?_ | refine gI ?_)
          exact sm hq'
        · rw [decide_eq_true (by omega)] at hq'
          (repeat first | refine gS ?_ | refine gA fun _ => ?_ | refine gX fun _ _ => ?_ | refine gT ?_ | refine gF ?_ | refine gI ?_)
          refine number2 ?_
          (repeat first | refine gS ?_ | refine gA fun _ => ?_ | refine gX fun _ _ => ?_ | refine gT ?_ | refine gF ?_ | refine gI ?_)
          refine gY ?_
          (repeat first | refine gS ?_ | refine gA fun _ => ?_ | refine gX fun _ _ => ?_ | refine gT ?_ | refine gF ?_ | refine gI ?_)
          exact sm hq'
    refine E_fa fun _ => ?_
    refine E_ifb' (p := heldOk m = false) (by simp) (fun e => ?_) (fun e => ?_)
    · exact fin 2 (if_pos (.inr (.inr (List.any_eq_true.2 ⟨m, hxm, by rw [e]; rfl⟩))))
    refine E_addI (by omega) (by omega) ?_
    refine hk (j + 1) ⟨by omega, fun m' hm' => ?_⟩ (by omega)
    rw [List.take_add_one, hx] at hm'
    rcases List.mem_append.1 hm' with hm' | hm'
    · exact ha m' hm'
    · simp at hm'; subst hm'; simpa using e
  have hhv : f.held.any (fun m => !heldOk m) = false := List.any_eq_false.2 fun m hm => by
    have hie : j = f.held.length := by omega
    subst hie
    rw [ha m (by simpa using hm)]; decide
  rw [if_neg (by rw [hmv, hhv]; intro h; rcases h with h | h | h; exact e8 h; cases h; cases h)] at fin
  clear hk ha hc hi
  refine E_loop (n := 2) (σ := Nat) (fun i => i ≤ f.refs.length ∧ ∀ m ∈ f.refs.take i, rightB m = true) (fun i => [ptr b1, I i]) (fun _ => cel true b1 60 (faL f rv hv mv) :: H) (fun i => f.refs.length - i) 0 (fun _ => rfl) rfl ⟨Nat.zero_le _, by simp⟩ (fun W hW => hW) ?_
  rintro n K2 ⟨hi, ha⟩ hk
  refine E_fa fun _ => ?_
  (repeat first | refine gS ?_ | refine gA fun _ => ?_ | refine gX fun _ _ => ?_ | refine gT ?_ | refine gF ?_ | refine gI ?_)
  refine E_if (fun hc => ?_) (fun hc => ?_)
  · have hx : f.refs[n]? = some f.refs[n] := List.getElem?_eq_getElem (by omega)
    have hxm := List.mem_of_getElem? hx
    generalize f.refs[n] = m at hx hxm
    (repeat first | refine gS ?_ | refine gA fun _ => ?_ | refine gX fun _ _ => ?_ | refine gT ?_ | refine gF ?_ | refine gI ?_)
    refine right2 ?_
    refine gY ?_
    refine E_ifb' (p := rightB m = false) (by simp) (fun e => ?_) (fun e => ?_)
    · exact fin 2 (if_pos (List.any_eq_true.2 ⟨m, hxm, by rw [e]; rfl⟩))
    refine E_addI (by omega) (by omega) ?_
    refine hk (n + 1) ⟨by omega, fun m' hm' => ?_⟩ (by omega)
    rw [List.take_add_one, hx] at hm'
    rcases List.mem_append.1 hm' with hm' | hm'
    · exact ha m' hm'
    · simp at hm'; subst hm'; simpa using e
  have hrv : f.refs.any (fun m => !rightB m) = false := List.any_eq_false.2 fun m hm => by
    have hie : n = f.refs.length := by omega
    subst hie
    rw [ha m (by simpa using hm)]; decide
  exact fin 0 (if_neg (by rw [hrv]; decide))
end Go.Proofs.YtjafpncngmbcdaaGreat.Nam
