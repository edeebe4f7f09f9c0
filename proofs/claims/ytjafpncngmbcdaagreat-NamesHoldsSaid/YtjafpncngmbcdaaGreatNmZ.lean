/-
  Names: does a generation stay, by the document.
-/
import Derived.Test.YtjafpncngmbcdaaGreatNmY
set_option linter.unusedSimpArgs false
set_option linter.unusedVariables false
set_option linter.unusedSectionVars false
namespace Go.Proofs.YtjafpncngmbcdaaGreat.Nam
open Go Go.SL Go.Proofs Go.Proofs.YtjafpncngmbcdaaGreat.Sh
variable {B : World} {H : List Asrt} {K : Value → WT} {W : WT} {a : Nat} {M : Bk} {f : Fa}
def grF (f : Fa) (m : Int) (w : Ver) : Option Int := if m < w.time / f.step then some (w.time / f.step) else none
theorem addN_len (l : List Int) (x : Int) : (addN l x).length ≤ l.length + 1 := by
  unfold addN; split <;> simp
theorem gr_snoc {f : Fa} {m : Int} {l : List VR} {j : Nat} {y : VR} (hy : l[j]? = some y) : (((l.take (j + 1)).map (·.1)).filterMap (grF f m)).foldl addN [] = (match grF f m y.1 with | none => (((l.take j).map (·.1)).filterMap (grF f m)).foldl addN [] | some s => addN ((((l.take j).map (·.1)).filterMap (grF f m)).foldl addN []) s) := by
  rw [List.take_add_one, hy, List.map_append, List.filterMap_append, List.foldl_append]
  cases h : grF f m y.1 <;> simp [h]
attribute [local irreducible] S.pick S.ld S.ldN S.st S.box S.nc S.fad S.ixS S.ixA S.chr S.prt S.ext S.bin S.sh S.sbin S.beq S.neg1 S.com1 S.not1 S.cvt S.str1 S.lenS S.len S.cap S.lenM S.mx S.mn S.mkM S.cond S.gd S.fa S.dr S.rck S.join S.loop S.cvv S.eqv S.slc S.slcS S.b2s S.lk V U CF Gives E cel mpb osl ros dct dit itr lpo dfo
set_option maxRecDepth 8000
attribute [local irreducible] bk dbk
theorem staysD {v p q : Value} {l : List VR} {i : Nat} {x : VR} (hv : ∀ G, Rs B (G ++ H) v vC l) (hk : KOk f (l.map (·.1))) (hnow : 0 ≤ M.now ∧ M.now ≤ 9007199254740991) (hx : l[i]? = some x)
    (h : E B (cel true a 88 [p, q, I M.now] :: H) (K (.bool (staysB M.now f (l.map (·.1)) i)))) : E B (cel true a 88 [p, q, I M.now] :: H) (CF Tryz.prog 54 [ptr a, v, I i, .agg (keepL f).toArray] K) := by
  have hil := (List.getElem?_eq_some_iff.1 hx).1
  have hln : l.length ≤ 1000 := by have := hk.n; simpa using this
  have htm : ∀ y ∈ l, 0 ≤ y.1.time ∧ y.1.time ≤ 9007199254740991 := fun y hy => hk.t _ (List.mem_map_of_mem hy)
  have hkk := hk.k
  have hkb := hk.b
  have hxt := htm x (List.mem_of_getElem? hx)
  have hst : staysB M.now f (l.map (·.1)) i = (decide ((l.length : Int) - i ≤ f.last) || decide (M.now - f.young < x.1.time) || (!((l.drop (i + 1)).any fun p => decide (p.1.time / f.step = x.1.time / f.step)) && decide (((((l.map (·.1)).filterMap (grF f (x.1.time / f.step))).foldl addN []).length : Int) < f.count))) := by
    have e1 : (l.map (·.1))[i]? = some x.1 := by rw [List.getElem?_map, hx]; rfl
    unfold staysB
    rw [e1]
    simp only
    have e2 : ((l.map (·.1)).drop (i + 1)).any (fun w => decide (w.time / f.step = x.1.time / f.step)) = (l.drop (i + 1)).any fun p => decide (p.1.time / f.step = x.1.time / f.step) := by
      rw [← List.map_drop, List.any_map]; rfl
    rw [e2, List.length_map]; rfl
  rw [hst] at h
  generalize hm : x.1.time / f.step = m at h
  have hv1 : ∀ G, Rs B (G :: H) v vC l := fun G => hv [G]
  have hv2 : ∀ G1 G2, Rs B (G1 :: G2 :: H) v vC l := fun G1 G2 => hv [G1, G2]
  have hv3 : ∀ G1 G2 G3, Rs B (G1 :: G2 :: G3 :: H) v vC l := fun G1 G2 G3 => hv [G1, G2, G3]
  refine E_mono (W := s54 _ _ _ _ K) ?_ fun _ => c54
  unfold s54
  refine E_box (vs := keepL f) fun b7 => ?_
  refine E_join1 [v, I i, ptr b7, .bool (decide ((l.length : Int) - i ≤ f.last) || decide (M.now - f.young < x.1.time))] (cel true b7 43 (keepL f) :: cel true a 88 [p, q, I M.now] :: H) (fun k hk1 => ?_) ?_
  · refine E_dr ?_
    refine E_rslen (v := v) (l := l) ?_
    refine E_subI (by omega) (by omega) ?_
    (repeat first | refine gS ?_ | refine gA fun _ => ?_ | refine gX fun _ _ => ?_ | refine gT ?_ | refine gF ?_ | refine gI ?_)
    by_cases h1 : (l.length : Int) - i ≤ f.last
    · rw [decide_eq_true h1] at hk1 ⊢
      (repeat first | refine gS ?_ | refine gA fun _ => ?_ | refine gX fun _ _ => ?_ | refine gT ?_ | refine gF ?_ | refine gI ?_)
      exact sm hk1
    · rw [decide_eq_false h1] at hk1 ⊢
      (repeat first | refine gS ?_ | refine gA fun _ => ?_ | refine gX fun _ _ => ?_ | refine gT ?_ | refine gF ?_ | refine gI ?_)
      exact sm hk1
  refine E_fa fun _ => ?_
  refine E_ifb' (p := (l.length : Int) - i ≤ f.last ∨ M.now - f.young < x.1.time) (by simp) (fun e => ?_) (fun e => ?_)
  · have e1 : (decide ((l.length : Int) - i ≤ f.last) || decide (M.now - f.young < x.1.time)) = true := by simpa using e
    rw [e1, Bool.true_or] at h
    exact sm h
  have e1 : (decide ((l.length : Int) - i ≤ f.last) || decide (M.now - f.young < x.1.time)) = false := by
    cases hb : (decide ((l.length : Int) - i ≤ f.last) || decide (M.now - f.young < x.1.time)) with
    | false => rfl
    | true => exact (e (by simpa using hb)).elim
  rw [e1, Bool.false_or] at h
  (repeat first | refine gS ?_ | refine gX (fun _ _ => ?_) hx | refine gA fun _ => ?_)
  refine E_quoI hxt.1 (by omega) (by omega) ?_
  rw [hm]
  refine E_bsl0 u_ints elt_int fun b0 => ?_
  refine E_slsC (enc := cI) [] 0 rfl rfl ?_
  refine E_loop (n := 6) (σ := Nat × Cv × List Int) (fun s => s.1 ≤ l.length ∧ s.2.2 = (((l.take s.1).map (·.1)).filterMap (grF f m)).foldl addN [] ∧ (∀ t y, i < t → t < s.1 → l[t]? = some y → y.1.time / f.step ≠ m) ∧ s.2.2.length ≤ s.1)
    (fun s => [v, I i, ptr b7, I m, s.2.1.1, I s.1]) (fun s => sls cI 3 1 s.2.1.1 s.2.2 :: cel true b7 43 (keepL f) :: cel true a 88 [p, q, I M.now] :: H) (fun s => l.length - s.1) (0, ⟨.slice (some ⟨b0, 0, none⟩) 0 0, rfl⟩, []) (fun _ => rfl) rfl ⟨Nat.zero_le _, rfl, fun t y _ h => absurd h (Nat.not_lt_zero _), Nat.le_refl _⟩ (fun W hW => sm hW) ?_
  rintro ⟨j, gv, G⟩ K0 ⟨hj, hG, hno, hGl⟩ hk0
  simp only at hj hG hno hGl hk0 ⊢
  refine E_fa fun _ => ?_
  refine E_rslen (v := v) (l := l) ?_
  refine E_lss ?_
  refine E_if (fun hc => ?_) (fun hc => ?_)
  · have hy : l[j]? = some l[j] := List.getElem?_eq_getElem (by omega)
    generalize l[j] = y at hy
    have hyt := htm y (List.mem_of_getElem? hy)
    have hsn := gr_snoc (f := f) (m := m) hy
    rw [← hG] at hsn
    refine E_joinC (σ := Cv × List Int) (fun s => s.2 = (((l.take (j + 1)).map (·.1)).filterMap (grF f m)).foldl addN [] ∧ s.2.length ≤ j + 1 ∧ (∀ t y, i < t → t < j + 1 → l[t]? = some y → y.1.time / f.step ≠ m))
      (fun s => [v, I i, ptr b7, I m, s.1.1, I j]) (fun s => sls cI 3 1 s.1.1 s.2 :: cel true b7 43 (keepL f) :: cel true a 88 [p, q, I M.now] :: H) (fun k2 hk2 => ?_) (fun s hs => ?_)
    · (repeat first | refine gS ?_ | refine gX (fun _ _ => ?_) hy | refine gA fun _ => ?_)
      refine E_quoI hyt.1 (by omega) (by omega) ?_
      have hgr : ∀ s, y.1.time / f.step = s → grF f m y.1 = if m < s then some s else none := fun s e => by unfold grF; rw [e]
      generalize hs : y.1.time / f.step = s
      have hgr := hgr s hs
      rw [hgr] at hsn
      refine E_join1 [v, I i, ptr b7, I m, gv.1, I j, I s, .bool (decide (s = m) && decide ((i : Int) < (j : Int)))] (sls cI 3 1 gv.1 G :: cel true b7 43 (keepL f) :: cel true a 88 [p, q, I M.now] :: H) (fun k3 hk3 => ?_) ?_
      · (repeat first | refine gS ?_ | refine gY ?_ | refine gA fun _ => ?_ | refine gX fun _ _ => ?_ | refine gI ?_)
        exact sm hk3
      refine E_fa fun _ => ?_
      refine E_ifb' (p := s = m ∧ i < j) (by simp) (fun e => ?_) (fun e => ?_)
      · have : (l.drop (i + 1)).any (fun p => decide (p.1.time / f.step = m)) = true := by
          rw [List.any_eq_true]
          refine ⟨y, ?_, by simp [hs, e.1]⟩
          rw [List.mem_iff_getElem?]
          refine ⟨j - (i + 1), ?_⟩
          rw [List.getElem?_drop, show i + 1 + (j - (i + 1)) = j by omega]; exact hy
        rw [this, Bool.not_true, Bool.false_and] at h
        exact sm h
      · have hno' : ∀ t y, i < t → t < j + 1 → l[t]? = some y → y.1.time / f.step ≠ m := fun t y' h1 h2 h3 => by
          by_cases ht : t = j
          · subst ht
            rw [hy] at h3; cases h3
            rw [hs]; exact fun e' => e ⟨e', h1⟩
          · exact hno t y' h1 (by omega) h3
        refine E_loop (n := 9) (σ := Nat × Bool) (fun u => u.1 ≤ G.length ∧ u.2 = decide (s ∈ G.take u.1)) (fun u => [v, I i, ptr b7, I m, gv.1, I j, I s, .bool u.2, I u.1]) (fun _ => sls cI 3 1 gv.1 G :: cel true b7 43 (keepL f) :: cel true a 88 [p, q, I M.now] :: H) (fun u => G.length - u.1) (0, false) (fun _ => rfl) rfl ⟨Nat.zero_le _, by simp⟩ (fun W hW => hW) ?_
        rintro ⟨t, c⟩ K4 ⟨ht, hct⟩ hk4
        simp only at ht hct hk4 ⊢
        refine E_fa fun _ => ?_
        (repeat first | refine gS ?_ | refine gA fun _ => ?_ | refine gX fun _ _ => ?_ | refine gT ?_ | refine gF ?_ | refine gI ?_)
        refine E_if (fun hc2 => ?_) (fun hc2 => ?_)
        · have hz : G[t]? = some G[t] := List.getElem?_eq_getElem (by omega)
          generalize G[t] = z at hz
          have hstep : decide (s ∈ G.take (t + 1)) = (c || decide (z = s)) := by
            rw [hct, List.take_add_one, hz, Bool.eq_iff_iff]
            simp only [decide_eq_true_eq, Bool.or_eq_true, List.mem_append, Option.toList_some, List.mem_singleton]
            exact or_congr_right ⟨Eq.symm, Eq.symm⟩
          have hk5 := hk4 (t + 1, c || decide (z = s)) ⟨by simp only; omega, hstep.symm⟩ (by simp only; omega)
          cases c with
          | true =>
            (repeat first | refine gS ?_ | refine gA fun _ => ?_ | refine gX fun _ _ => ?_ | refine gT ?_ | refine gF ?_ | refine gI ?_)
            exact sm hk5
          | false =>
            refine E_gft ?_
            refine E_gft ?_
            refine E_gft ?_
            refine E_rsix (v := gv.1) (l := G) hz fun _ _ => ?_
            refine E_gft ?_
            refine E_ptld (u := I z) ?_
            (repeat first | refine gS ?_ | refine gA fun _ => ?_ | refine gX fun _ _ => ?_ | refine gT ?_ | refine gF ?_ | refine gI ?_)
            exact sm hk5
        · have hte : t = G.length := by omega
          rw [hte, List.take_length] at hct
          refine E_join1 [v, I i, ptr b7, I m, gv.1, I j, I s, .bool (decide (m < s) && !c)] (sls cI 3 1 gv.1 G :: cel true b7 43 (keepL f) :: cel true a 88 [p, q, I M.now] :: H) (fun k5 hk5 => ?_) ?_
          · (repeat first | refine gS ?_ | refine gY ?_ | refine gA fun _ => ?_ | refine gX fun _ _ => ?_ | refine gI ?_)
            exact sm hk5
          refine E_fa fun _ => ?_
          refine E_ifb' (p := m < s ∧ s ∉ G) (by simp [hct]) (fun e5 => ?_) (fun e5 => ?_)
          · rw [if_pos e5.1] at hsn
            simp only [addN, if_neg e5.2] at hsn
            refine E_sapp1 (enc := cI) s u_ints elt_int rfl (by decide) (by omega) (by omega) fun v' hv' => ?_
            have := hk2 (⟨v', hv'.pf⟩, G ++ [s]) ⟨hsn.symm, by simp; omega, hno'⟩
            exact this
          · have hsn' : (((l.take (j + 1)).map (·.1)).filterMap (grF f m)).foldl addN [] = G := by
              rw [hsn]
              by_cases h6 : m < s
              · rw [if_pos h6]
                simp only [addN]
                rw [if_pos (Classical.byContradiction fun h7 => e5 ⟨h6, h7⟩)]
              · rw [if_neg h6]
            have := hk2 (gv, G) ⟨hsn'.symm, by simp only; omega, hno'⟩
            exact this
    · obtain ⟨gv', G'⟩ := s
      obtain ⟨h2, h3, h4⟩ := hs
      refine E_fa fun _ => ?_
      refine E_addI (by omega) (by omega) ?_
      exact hk0 (j + 1, gv', G') ⟨by simp only; omega, h2, h4, h3⟩ (by simp only; omega)
  · have hje : j = l.length := by omega
    rw [hje, List.take_length] at hG
    have hany : (l.drop (i + 1)).any (fun p => decide (p.1.time / f.step = m)) = false := by
      rw [List.any_eq_false]
      intro y hy
      obtain ⟨t, ht⟩ := List.mem_iff_getElem?.1 hy
      rw [List.getElem?_drop] at ht
      have := hno (i + 1 + t) y (by omega) (by have := (List.getElem?_eq_some_iff.1 ht).1; omega) ht
      simpa using this
    rw [hany, Bool.not_false, Bool.true_and, ← hG] at h
    (repeat first | refine gS ?_ | refine gA fun _ => ?_ | refine gX fun _ _ => ?_ | refine gT ?_ | refine gF ?_ | refine gI ?_)
    exact sm h
end Go.Proofs.YtjafpncngmbcdaaGreat.Nam
