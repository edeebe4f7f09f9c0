/-
  Names: spans, stays.
-/
import Derived.Test.YtjafpncngmbcdaaGreatNmL
set_option linter.unusedSimpArgs false
set_option linter.unusedVariables false
set_option linter.unusedSectionVars false
namespace Go.Proofs.YtjafpncngmbcdaaGreat.Nam
open Go Go.SL Go.Proofs Go.Proofs.YtjafpncngmbcdaaGreat.Sh
variable {B : World} {H : List Asrt} {K : Value → WT} {W : WT} {a : Nat} {M : Bk} {f : Fa}
abbrev keepL (f : Fa) : List Value := [I f.last, I f.young, I f.step, I f.count]
def spn (f : Fa) (v : Ver) : Int := v.time / f.step
/-- What may be asked of generations that are weighed. -/
structure KOk (f : Fa) (V : List Ver) : Prop where
  k : 0 ≤ f.last ∧ 0 ≤ f.young ∧ 1 ≤ f.step ∧ 0 ≤ f.count
  b : f.last ≤ 9223372036854775807 ∧ f.young ≤ 9223372036854775807 ∧ f.step ≤ 9223372036854775807 ∧ f.count ≤ 9223372036854775807
  t : ∀ v ∈ V, 0 ≤ v.time ∧ v.time ≤ 9007199254740991
  n : V.length ≤ 1000
def spansL (f : Fa) (V : List Ver) : List Int := (compactL (sortI (V.map (spn f)).reverse)).drop (max 0 (((compactL (sortI (V.map (spn f)).reverse)).length : Int) - f.count)).toNat
theorem spans_mem {V : List Ver} (hk : 0 ≤ f.count) {m : Int} (hm : m ∈ V.map (spn f)) : m ∈ spansL f V ↔ (((V.filterMap fun w => if m < spn f w then some (spn f w) else none).foldl addN []).length : Int) < f.count := by
  obtain ⟨h1, h2⟩ := compact_sorted (sortI_sorted (V.map (spn f)).reverse)
  have h3 : ∀ x, x ∈ compactL (sortI (V.map (spn f)).reverse) ↔ x ∈ V.map (spn f) := fun x => by
    rw [h2, (List.mergeSort_perm _ _).mem_iff, List.mem_reverse]
  obtain ⟨h4, h5⟩ := addN_fold (V.filterMap fun w => if m < spn f w then some (spn f w) else none) [] .nil
  refine span_law h1 ((h3 m).2 hm) h4 (fun x => ?_) hk
  rw [h5, h3, List.mem_filterMap, List.mem_map]
  constructor
  · rintro (h | ⟨w, hw, he⟩)
    · cases h
    · split at he
      · cases he; exact ⟨⟨w, hw, rfl⟩, by assumption⟩
      · cases he
  · rintro ⟨⟨w, hw, rfl⟩, hlt⟩
    exact .inr ⟨w, hw, if_pos hlt⟩
theorem compactL_len (l : List Int) : (compactL l).length ≤ l.length := cmpTo_length l l.length
attribute [local irreducible] S.pick S.ld S.ldN S.st S.box S.nc S.fad S.ixS S.ixA S.chr S.prt S.ext S.bin S.sh S.sbin S.beq S.neg1 S.com1 S.not1 S.cvt S.str1 S.lenS S.len S.cap S.lenM S.mx S.mn S.mkM S.cond S.gd S.fa S.dr S.rck S.join S.loop S.cvv S.eqv S.slc S.slcS S.b2s S.lk V U CF Gives E cel mpb osl ros dct dit itr lpo dfo
set_option maxRecDepth 8000
attribute [local irreducible] bk
theorem span {t s : Int} (h1 : 0 ≤ t) (h2 : 1 ≤ s) (h3 : t ≤ 9223372036854775807) (h : E B H (K (I (t / s)))) : E B H (CF Tryz.prog 94 [I t, I s] K) := by
  refine E_mono (W := s94 _ _ K) ?_ fun _ => c94
  unfold s94
  exact E_quoI h1 (by omega) h3 h
theorem spans {v : Value} {l : List VR} [hv : Rs B H v vC l] (hk : KOk f (l.map (·.1))) (h : ∀ (G : List Asrt) (v' : Value) [Rs B G v' cI (spansL f (l.map (·.1)))] [Sam H G], E B G (K v')) : E B H (CF Tryz.prog 98 [v, .agg (keepL f).toArray] K) := by
  refine rs_cell (v := v) (l := l) fun hcv => ?_
  have : CellI v := ⟨hcv⟩
  have hn : l.length ≤ 1000 := by simpa using hk.n
  have hkk := hk.k
  have hkb := hk.b
  refine E_mono (W := s98 _ _ K) ?_ fun _ => c98
  unfold s98
  refine E_box (vs := keepL f) fun b3 => ?_
  refine E_box (vs := [nil]) fun b5 => ?_
  refine E_mono (W := s128 _ _) ?_ fun _ => c128
  unfold s128
  refine E_box (vs := [v]) fun bs => ?_
  refine E_rf (by kernel_rfl) fun l0 dl L hY => ?_
  refine E_mono (W := s145 _ _ _) ?_ fun _ => c145
  unfold s145
  (repeat first | refine gS ?_ | refine gA fun _ => ?_ | refine gX fun _ _ => ?_ | refine gT ?_ | refine gF ?_ | refine gI ?_)
  refine E_loop (n := 3) (σ := Nat × Value) (fun s => s.1 ≤ l.length ∧ isCell s.2 = true)
    (fun s => [.func (.yield l0) #[] #[], ptr bs, I ((s.1 : Int) - 1)])
    (fun s => sls cI 3 1 s.2 (((l.drop s.1).map fun p => spn f p.1).reverse) :: lpo l0 L .ready .nrm :: dfo dl :: cel true bs 63 [v] :: cel true b5 141 [s.2] :: cel true b3 43 (keepL f) :: H) (fun s => s.1) (l.length, nil) (fun _ => rfl) rfl
    ⟨Nat.le_refl _, rfl⟩ (fun W hW => by
      simp only [List.drop_length, List.map_nil, List.reverse_nil] at hW
      refine sls_nil cI 1 (T := 3) ?_
      exact sm hW) ?_
  rintro ⟨j, u⟩ K0 ⟨hj, hu⟩ hk0
  simp only at hj hu hk0 ⊢
  have : CellI u := ⟨hu⟩
  refine E_fa fun _ => ?_
  refine E_geq ?_
  refine E_if (fun hc => ?_) (fun hc => ?_)
  · obtain ⟨i, rfl⟩ : ∃ i, j = i + 1 := ⟨j - 1, by omega⟩
    have hx : l[i]? = some l[i] := List.getElem?_eq_getElem (by omega)
    have hdr := List.drop_eq_getElem_cons (show i < l.length by omega)
    generalize l[i] = x at hx hdr
    have hxt := hk.t x.1 (List.mem_map_of_mem (List.mem_of_getElem? hx))
    rw [show ((i + 1 : Nat) : Int) - 1 = (i : Int) by omega]
    (repeat first | refine gS ?_ | refine gA fun _ => ?_ | refine gX fun _ _ => ?_ | refine gT ?_ | refine gF ?_ | refine gI ?_)
    refine fd (a := lpo l0 L .ready .nrm) (hY _ _ _ rfl ?_)
    refine E_box (vs := [I 0, I 0, nil, .bool false]) fun b7 => ?_
    refine E_stW (vs := vC x) rfl rfl ?_
    refine fd (a := lpo l0 L .ready .nrm) (E_begun ?_)
    (repeat first | refine gS ?_ | refine gA fun _ => ?_ | refine gX fun _ _ => ?_ | refine gT ?_ | refine gF ?_ | refine gI ?_)
    refine span hxt.1 (by omega) (by omega) ?_
    (repeat (refine E_rck1 (by first | exact E_ld (E_fact rfl) | exact E_ld' (by assumption) (E_fact rfl) | exact E_b2sR (E_fact rfl) | exact E_gdnF (by assumption) (E_ld (E_fact rfl)) | exact E_gdT (by assumption) (E_ld (E_fact rfl)) | exact E_gtf (E_ld (E_fact rfl)) | exact E_gft (E_ld (E_fact rfl)) | exact E_ldNA (E_fact rfl) | exact E_ptld (E_fact rfl) | exact E_gtf (E_ldNA (E_fact rfl))) ?_)); (first | (refine E_rck0 ?_) | skip)
    have hlen : (((l.drop (i + 1)).map fun p => spn f p.1).reverse).length ≤ 1000 := by rw [List.length_reverse, List.length_map, List.length_drop]; omega
    refine fd (a := sls cI 3 1 u (((l.drop (i + 1)).map fun p => spn f p.1).reverse)) ?_
    refine E_sapp1R (enc := cI) (x.1.time / f.step) u_ints elt_int rfl (by decide) (by omega) (by omega) (fun b W hW => ?_) fun u' _ => ?_
    · refine E_rck1 (E_ld (E_fact rfl)) ?_
      exact E_rck0 hW
    (repeat first | refine gS ?_ | refine gA fun _ => ?_ | refine gX fun _ _ => ?_ | refine gT ?_ | refine gF ?_ | refine gI ?_)
    refine fd (a := lpo l0 L .busy .nrm) (E_ended ?_)
    refine E_notb ?_
    refine E_ff ?_
    rw [show (I (i : Int)) = I (((i + 1 : Nat) : Int) - 1) by congr 1; omega]
    refine E_subI (by omega) (by omega) ?_
    have hk' := hk0 (i, u') ⟨by simp only; omega, CellI.pf⟩ (by simp)
    have e : ((l.drop i).map fun p => spn f p.1).reverse = ((l.drop (i + 1)).map fun p => spn f p.1).reverse ++ [x.1.time / f.step] := by
      rw [hdr, List.map_cons, List.reverse_cons]; rfl
    simp only [e] at hk'
    have e2 : (((i + 1 : Nat) : Int) - 1) - 1 = (i : Int) - 1 := by omega
    rw [e2]
    exact sm hk'
  · have hj0 : j = 0 := by omega
    subst hj0
    refine fd (a := lpo l0 L .ready .nrm) (E_over (by simp) ?_)
    unfold aft
    (repeat first | refine gS ?_ | refine gA fun _ => ?_ | refine gX fun _ _ => ?_ | refine gT ?_ | refine gF ?_ | refine gI ?_)
    rw [List.drop_zero]
    have e0 : (l.map fun p => spn f p.1) = (l.map (·.1)).map (spn f) := by rw [List.map_map]; rfl
    rw [e0]
    refine fd (a := sls cI 3 1 u (((l.map (·.1)).map (spn f)).reverse)) ?_
    have hl1 : (((l.map (·.1)).map (spn f)).reverse).length ≤ 1000 := by simp; omega
    refine E_sortC (by omega) ?_
    (repeat first | refine gS ?_ | refine gA fun _ => ?_ | refine gX fun _ _ => ?_ | refine gT ?_ | refine gF ?_ | refine gI ?_)
    have hl2 : (sortI ((l.map (·.1)).map (spn f)).reverse).length ≤ 1000 := by rw [List.length_mergeSort]; exact hl1
    refine fd (a := sls cI 3 1 u (sortI (((l.map (·.1)).map (spn f)).reverse))) ?_
    refine compact (by omega) fun w _ => ?_
    have hl3 := Nat.le_trans (compactL_len (sortI ((l.map (·.1)).map (spn f)).reverse)) hl2
    have hh : ∀ (G : List Asrt) (v' : Value) [Rs B G v' cI (spansL f (l.map (·.1)))] [Sam H G], E B G (K v') := h
    unfold spansL at hh
    generalize compactL (sortI ((l.map (·.1)).map (spn f)).reverse) = D at hl3 hh ⊢
    (repeat first | refine gS ?_ | refine gA fun _ => ?_ | refine gX fun _ _ => ?_ | refine gT ?_ | refine gF ?_ | refine gI ?_)
    have e1 : max 0 ((D.length : Int) - f.count) = (((max 0 ((D.length : Int) - f.count)).toNat : Nat) : Int) := by omega
    rw [e1]
    refine E_slcS2 (v := w) (l := D) (i := (max 0 ((D.length : Int) - f.count)).toNat) (j := D.length) rfl (bound_nat _ _) (by omega) (by omega) fun v' hv' _ => ?_
    have e2 : (D.drop (max 0 ((D.length : Int) - f.count)).toNat).take (D.length - (max 0 ((D.length : Int) - f.count)).toNat) = D.drop (max 0 ((D.length : Int) - f.count)).toNat := List.take_of_length_le (by rw [List.length_drop]; omega)
    rw [e2] at hv'
    refine fd (a := dfo dl) (E_done1 ?_)
    exact hh _ v'
end Go.Proofs.YtjafpncngmbcdaaGreat.Nam
