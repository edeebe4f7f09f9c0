/-
  Model: Same, on the document's side.
-/
import Derived.Test.YtabpaknfenpkoaaGreatLwM
set_option linter.unusedSimpArgs false
set_option linter.unusedVariables false
set_option linter.unusedSectionVars false
namespace Go.Proofs.YtabpaknfenpkoaaGreat.Mod
open Go Go.SL Go.Proofs Go.Proofs.YtabpaknfenpkoaaGreat.Sh
attribute [local irreducible] S.pick S.ld S.ldN S.st S.box S.nc S.fad S.ixS S.ixA S.chr S.prt S.ext S.bin S.sh S.sbin S.beq S.neg1 S.com1 S.not1 S.cvt S.str1 S.lenS S.len S.cap S.lenM S.mx S.mn S.mkM S.cond S.gd S.fa S.dr S.rck S.join S.loop S.cvv S.eqv S.slc S.slcS S.b2s S.lk V U CF Gives E cel mpb osl ros dct dit itr lpo dfo
set_option maxRecDepth 4000
attribute [local irreducible] mo ansH rmo
variable {B : World} {H : List Asrt} {K : Value → WT} {W : WT}
variable {a b : Nat} {M N : Mo} {n m : Int}
theorem eq_rver (a b : Ver) (w : World) : (Op.equal 102 (.agg (rvC a).toArray) (.agg (rvC b).toArray)).run Tryz.prog w = .ok (decide (a = b)) w := by
  rw [run_eqStruct (xs := rvC a) (ys := rvC b) (bs := [decide (a.name = b.name), decide (a.gen = b.gen), decide (a.time = b.time), decide (a.text = b.text), decide (a.gone = b.gone)]) [9, 3, 3, 9, 4] (by kernel_rfl) (by kernel_rfl) (by kernel_rfl) rfl (fun i t b' h1 h2 => by
    match i, h1, h2 with
    | 0, h1, h2 => cases h1; cases h2; exact ⟨_, _, rfl, rfl, eqV_str u_string⟩
    | 1, h1, h2 => cases h1; cases h2; exact ⟨_, _, rfl, rfl, eqV_int u_int⟩
    | 2, h1, h2 => cases h1; cases h2; exact ⟨_, _, rfl, rfl, eqV_int u_int⟩
    | 3, h1, h2 => cases h1; cases h2; exact ⟨_, _, rfl, rfl, eqV_str u_string⟩
    | 4, h1, h2 => cases h1; cases h2; exact ⟨_, _, rfl, rfl, eqV_bool (by kernel_rfl)⟩
    | n + 5, h1, h2 => simp at h1) w]
  congr 1
  cases a; cases b
  simp only [List.all_cons, List.all_nil, id, Bool.and_true, ← Bool.decide_and, Ver.mk.injEq]
theorem rsame2 (hvl : M.V.length ≤ 1000000) (hsl0 : M.S.length ≤ 1000000) (hhl : ∀ s ∈ M.S, s.held.length ≤ 1000000) (h : E B (rmo a M :: rmo b N :: H) (K (.bool (decide (M.now = N.now ∧ M.V = N.V ∧ M.S = N.S))))) :
    E B (rmo a M :: rmo b N :: H) (CF Tryz.prog 19 [ptr a, ptr b] K) := by
  have fin : ∀ c : Bool, decide (M.now = N.now ∧ M.V = N.V ∧ M.S = N.S) = c → E B (rmo a M :: rmo b N :: H) (K (.bool c)) := fun c hc => hc ▸ h
  refine E_mono (W := s19 _ _ K) ?_ fun _ => c19
  unfold s19
  refine E_rmo fun vs ss os Lv Ls Lo Lh SS iv is io iV iS iO hsl hsh => ?_
  refine fd (a := rmo b N) ?_
  refine E_rmo fun vs' ss' os' Lv' Ls' Lo' Lh' SS' iv' is' io' iV' iS' iO' hsl' hsh' => ?_
  have hend : ∀ c : Bool, decide (M.now = N.now ∧ M.V = N.V ∧ M.S = N.S) = c → E B (cel true a 70 [vs, ss, os, I M.began, I M.now, I M.quota] :: spool rvC Lv :: spool rsC Ls :: spool roC Lo :: spool hC Lh :: cel true b 70 [vs', ss', os', I N.began, I N.now, I N.quota] :: spool rvC Lv' :: spool rsC Ls' :: spool roC Lo' :: spool hC Lh' :: H) (K (.bool c)) := fun c hc => by
    refine E_rmoS vs ss os (SS := SS) iV iS iO hsl hsh rfl rfl rfl ?_
    refine sm (G := cel true b 70 [vs', ss', os', I N.began, I N.now, I N.quota] :: spool rvC Lv' :: spool rsC Ls' :: spool roC Lo' :: spool hC Lh' :: rmo a M :: H) ?_
    refine E_rmoS vs' ss' os' (SS := SS') iV' iS' iO' hsl' hsh' rfl rfl rfl ?_
    exact sm (fin c hc)
  have rV := rs_pool (B := B) (enc := rvC) iV
  have rV' := rs_pool (B := B) (enc := rvC) iV'
  have rS := rs_pool (B := B) (enc := rsC) iS
  have rS' := rs_pool (B := B) (enc := rsC) iS'
  refine E_join1 [ptr a, ptr b, .bool (decide (¬ (M.now = N.now ∧ M.V.length = N.V.length ∧ M.S.length = N.S.length)))] (cel true a 70 [vs, ss, os, I M.began, I M.now, I M.quota] :: spool rvC Lv :: spool rsC Ls :: spool roC Lo :: spool hC Lh :: cel true b 70 [vs', ss', os', I N.began, I N.now, I N.quota] :: spool rvC Lv' :: spool rsC Ls' :: spool roC Lo' :: spool hC Lh' :: H) (fun q hq => ?_) ?_
  · have fq : ∀ c : Bool, decide (¬ (M.now = N.now ∧ M.V.length = N.V.length ∧ M.S.length = N.S.length)) = c → E B (cel true a 70 [vs, ss, os, I M.began, I M.now, I M.quota] :: spool rvC Lv :: spool rsC Ls :: spool roC Lo :: spool hC Lh :: cel true b 70 [vs', ss', os', I N.began, I N.now, I N.quota] :: spool rvC Lv' :: spool rsC Ls' :: spool roC Lo' :: spool hC Lh' :: H) (app 3 q [ptr a, ptr b, .bool c]) := fun c hc => hc ▸ hq
    (repeat first | refine gS ?_ | refine gA fun _ => ?_ | refine gX fun _ _ => ?_ | refine gT ?_ | refine gF ?_ | refine gI ?_)
    by_cases g1 : M.now ≠ N.now
    · (repeat first | refine gS ?_ | refine gA fun _ => ?_ | refine gX fun _ _ => ?_ | refine gT ?_ | refine gF ?_ | refine gI ?_)
      exact sm (fq true (decide_eq_true fun h => g1 h.1))
    · (repeat first | refine gS ?_ | refine gA fun _ => ?_ | refine gX fun _ _ => ?_ | refine gT ?_ | refine gF ?_ | refine gI ?_)
      by_cases g2 : (M.V.length : Int) ≠ (N.V.length : Int)
      · (repeat first | refine gS ?_ | refine gA fun _ => ?_ | refine gX fun _ _ => ?_ | refine gT ?_ | refine gF ?_ | refine gI ?_)
        exact sm (fq true (decide_eq_true fun h => g2 (by rw [h.2.1])))
      · (repeat first | refine gS ?_ | refine gA fun _ => ?_ | refine gX fun _ _ => ?_ | refine gT ?_ | refine gF ?_ | refine gI ?_)
        rw [hsl, hsl']
        refine sm (fq _ ?_)
        rw [decide_eq_decide]; omega
  refine E_fa fun _ => ?_
  refine E_if (fun hc => ?_) (fun hc => ?_)
  · exact sm (hend false (decide_eq_false fun e => hc ⟨e.1, by rw [e.2.1], by rw [e.2.2]⟩))
  obtain ⟨g1, g2, g3⟩ := Decidable.not_not.1 hc
  refine E_loop (σ := Nat) (fun i => i ≤ M.V.length ∧ M.V.take i = N.V.take i) (fun i => [ptr a, ptr b, I i]) (fun _ => cel true a 70 [vs, ss, os, I M.began, I M.now, I M.quota] :: spool rvC Lv :: spool rsC Ls :: spool roC Lo :: spool hC Lh :: cel true b 70 [vs', ss', os', I N.began, I N.now, I N.quota] :: spool rvC Lv' :: spool rsC Ls' :: spool roC Lo' :: spool hC Lh' :: H) (fun i => M.V.length - i) 0 (fun _ => rfl) rfl ⟨Nat.zero_le _, by simp⟩ (fun W hW => sm hW) ?_
  rintro i K0 ⟨hi, he⟩ hk
  refine E_fa fun _ => ?_
  (repeat first | refine gS ?_ | refine gA fun _ => ?_ | refine gX fun _ _ => ?_ | refine gT ?_ | refine gF ?_ | refine gI ?_)
  refine E_if (fun hc2 => ?_) (fun hc2 => ?_)
  · have hx : M.V[i]? = some M.V[i] := List.getElem?_eq_getElem (by omega)
    have hy : N.V[i]? = some N.V[i] := List.getElem?_eq_getElem (by omega)
    generalize M.V[i] = x at hx
    generalize N.V[i] = y at hy
    (repeat first | refine gS ?_ | refine gA fun _ => ?_ | refine gX fun _ _ => ?_ | refine gT ?_ | refine gF ?_ | refine gI ?_)
    refine E_ane (xs := (rvC x).toArray) (ys := (rvC y).toArray) (b := decide (x = y)) (by kernel_rfl) (fun w => eq_rver x y w) ?_
    by_cases hxy : x = y
    · rw [decide_eq_true hxy]
      refine E_ff ?_
      refine E_addI (by omega) (by omega) ?_
      refine hk (i + 1) ⟨by omega, ?_⟩ (by omega)
      rw [List.take_add_one, List.take_add_one, he, hx, hy, hxy]
    · rw [decide_eq_false hxy]
      refine E_tt ?_
      exact sm (hend false (decide_eq_false fun e => hxy (by rw [e.2.1, hy] at hx; exact (Option.some.inj hx).symm)))
  have hie : i = M.V.length := by omega
  subst hie
  rw [List.take_length, g2, List.take_length] at he
  refine E_loop (σ := Nat) (fun i => i ≤ M.S.length ∧ M.S.take i = N.S.take i) (fun i => [ptr a, ptr b, I i]) (fun _ => cel true a 70 [vs, ss, os, I M.began, I M.now, I M.quota] :: spool rvC Lv :: spool rsC Ls :: spool roC Lo :: spool hC Lh :: cel true b 70 [vs', ss', os', I N.began, I N.now, I N.quota] :: spool rvC Lv' :: spool rsC Ls' :: spool roC Lo' :: spool hC Lh' :: H) (fun i => M.S.length - i) 0 (fun _ => rfl) rfl ⟨Nat.zero_le _, by simp⟩ (fun W hW => sm hW) ?_
  rintro j K1 ⟨hj, hej⟩ hk1
  refine E_fa fun _ => ?_
  (repeat first | refine gS ?_ | refine gA fun _ => ?_ | refine gX fun _ _ => ?_ | refine gT ?_ | refine gF ?_ | refine gI ?_)
  refine E_if (fun hc3 => ?_) (fun hc3 => ?_)
  · have hp : SS[j]? = some SS[j] := List.getElem?_eq_getElem (by omega)
    have hp' : SS'[j]? = some SS'[j] := List.getElem?_eq_getElem (by omega)
    have hs : M.S[j]? = some M.S[j] := List.getElem?_eq_getElem (by omega)
    have hs' : N.S[j]? = some N.S[j] := List.getElem?_eq_getElem (by omega)
    generalize SS[j] = p at hp
    generalize SS'[j] = p' at hp'
    generalize M.S[j] = s at hs
    generalize N.S[j] = s' at hs'
    obtain ⟨e1, e2⟩ := hsh j p s hp hs
    obtain ⟨e3, e4⟩ := hsh' j p' s' hp' hs'
    have rH := rs_pool (B := B) (enc := hC) e2
    have rH' := rs_pool (B := B) (enc := hC) e4
    have hhs := hhl s (List.mem_of_getElem? hs)
    have ess : s = s' ↔ s.name = s'.name ∧ s.held = s'.held := by cases s; cases s'; simp
    refine E_join1 [ptr a, ptr b, I j, .bool (decide (s ≠ s'))] (cel true a 70 [vs, ss, os, I M.began, I M.now, I M.quota] :: spool rvC Lv :: spool rsC Ls :: spool roC Lo :: spool hC Lh :: cel true b 70 [vs', ss', os', I N.began, I N.now, I N.quota] :: spool rvC Lv' :: spool rsC Ls' :: spool roC Lo' :: spool hC Lh' :: H) (fun q hq => ?_) ?_
    · have fq : ∀ c : Bool, decide (s ≠ s') = c → E B (cel true a 70 [vs, ss, os, I M.began, I M.now, I M.quota] :: spool rvC Lv :: spool rsC Ls :: spool roC Lo :: spool hC Lh :: cel true b 70 [vs', ss', os', I N.began, I N.now, I N.quota] :: spool rvC Lv' :: spool rsC Ls' :: spool roC Lo' :: spool hC Lh' :: H) (app 4 q [ptr a, ptr b, I j, .bool c]) := fun c hc => hc ▸ hq
      (repeat first | refine gS ?_ | refine gA fun _ => ?_ | refine gX fun _ _ => ?_ | refine gT ?_ | refine gF ?_ | refine gI ?_)
      rw [e1, e3]
      by_cases g4 : s.name ≠ s'.name
      · (repeat first | refine gS ?_ | refine gA fun _ => ?_ | refine gX fun _ _ => ?_ | refine gT ?_ | refine gF ?_ | refine gI ?_)
        exact sm (fq true (decide_eq_true fun e => g4 (ess.1 e).1))
      · (repeat first | refine gS ?_ | refine gA fun _ => ?_ | refine gX fun _ _ => ?_ | refine gT ?_ | refine gF ?_ | refine gI ?_)
        refine sameHeld (l1 := s.held) (l2 := s'.held) (by omega) ?_
        (repeat first | refine gS ?_ | refine gA fun _ => ?_ | refine gX fun _ _ => ?_ | refine gT ?_ | refine gF ?_ | refine gI ?_)
        refine sm (fq _ ?_)
        rw [decide_eq_decide, Ne, ess]
        exact ⟨fun h h' => h ⟨Decidable.not_not.1 g4, h'⟩, fun h h' => h h'.2⟩
    refine E_fa fun _ => ?_
    refine E_if (fun hb => ?_) (fun hb => ?_)
    · exact sm (hend false (decide_eq_false fun e => hb (by rw [e.2.2, hs'] at hs; exact (Option.some.inj hs).symm)))
    · refine E_addI (by omega) (by omega) ?_
      refine hk1 (j + 1) ⟨by omega, ?_⟩ (by omega)
      rw [List.take_add_one, List.take_add_one, hej, hs, hs', Decidable.not_not.1 hb]
  · have hje : j = M.S.length := by omega
    subst hje
    rw [List.take_length, g3, List.take_length] at hej
    exact sm (hend true (decide_eq_true ⟨g1, he, hej⟩))
end Go.Proofs.YtabpaknfenpkoaaGreat.Mod
