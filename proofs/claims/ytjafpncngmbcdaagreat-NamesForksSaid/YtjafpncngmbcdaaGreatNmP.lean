/-
  Names: Expire.
-/
import Derived.Test.YtjafpncngmbcdaaGreatNmO
set_option linter.unusedSimpArgs false
set_option linter.unusedVariables false
set_option linter.unusedSectionVars false
namespace Go.Proofs.YtjafpncngmbcdaaGreat.Nam
open Go Go.SL Go.Proofs Go.Proofs.YtjafpncngmbcdaaGreat.Sh
variable {B : World} {H : List Asrt} {K : Value → WT} {W : WT} {a : Nat} {M : Bk} {f : Fa}
theorem goesL_suc {now : Int} {k : List UInt8} {l : List Ver} {j : Nat} {x : Ver} (hx : l[j]? = some x) : goesL now f k l (j + 1) = goesL now f k l j ++ if staysB now f l j = true then [] else [(k, x.gen)] := by
  unfold goesL
  rw [List.range_succ, List.filterMap_append]
  congr 1
  cases h : staysB now f l j <;> simp [hx, h]
theorem kOk (hw : Inv M) (hk : 0 ≤ f.last ∧ 0 ≤ f.young ∧ 1 ≤ f.step ∧ 0 ≤ f.count) (hb : f.last ≤ 9223372036854775807 ∧ f.young ≤ 9223372036854775807 ∧ f.step ≤ 9223372036854775807 ∧ f.count ≤ 9223372036854775807) (k : List UInt8) : KOk f (liveL M.V k) where
  k := hk
  b := hb
  t := fun v hv => hw.t v (fof_mem.1 (List.mem_filter.1 hv).1).1
  n := Nat.le_trans (List.length_filter_le _ _) (Nat.le_trans (hw.fl k) (by decide))
attribute [local irreducible] S.pick S.ld S.ldN S.st S.box S.nc S.fad S.ixS S.ixA S.chr S.prt S.ext S.bin S.sh S.sbin S.beq S.neg1 S.com1 S.not1 S.cvt S.str1 S.lenS S.len S.cap S.lenM S.mx S.mn S.mkM S.cond S.gd S.fa S.dr S.rck S.join S.loop S.cvv S.eqv S.slc S.slcS S.b2s S.lk V U CF Gives E cel mpb osl ros dct dit itr lpo dfo
set_option maxRecDepth 8000
attribute [local irreducible] bk
theorem expire (hw : Inv M) (hb : f.last ≤ 9223372036854775807 ∧ f.young ≤ 9223372036854775807 ∧ f.step ≤ 9223372036854775807 ∧ f.count ≤ 9223372036854775807)
    (h : ∀ v [CellI v], E B (sls hC 53 2 v (if keepOk f = true then expireL M f else []) :: bk a M :: H) (K (.tuple #[v, I (if keepOk f = true then 0 else 2)]))) : E B (bk a M :: H) (CF Tryz.prog 18 [ptr a, .agg (keepL f).toArray] K) := by
  refine E_mono (W := s18 _ _ K) ?_ fun _ => c18
  unfold s18
  refine E_box (vs := keepL f) fun b3 => ?_
  refine E_peq u_pBook ?_
  refine E_ff ?_
  refine E_join1 [ptr a, ptr b3, .bool (decide (f.last < 0) || decide (f.young < 0) || decide (f.step < 1) || decide (f.count < 0))] (cel true b3 43 (keepL f) :: bk a M :: H) (fun q hq => ?_) ?_
  · (repeat first | refine gS ?_ | refine gY ?_ | refine gA fun _ => ?_ | refine gX fun _ _ => ?_ | refine gI ?_)
    exact sm hq
  refine E_fa fun _ => ?_
  refine E_ifb' (p := ¬ (keepOk f = true)) (by simp [keepOk]; omega) (fun e => ?_) (fun e => ?_)
  · rw [if_neg e, if_neg e] at h
    refine sls_nil hC 2 (T := 53) ?_
    exact sm (h nil)
  have e' := Decidable.not_not.1 e
  have hk : 0 ≤ f.last ∧ 0 ≤ f.young ∧ 1 ≤ f.step ∧ 0 ≤ f.count := by simpa [keepOk] using e'
  rw [if_pos e', if_pos e'] at h
  have hfl := hw.fl
  have hnl := hw.nl
  refine fd (a := bk a M) (order hw.v.n (by have := hw.n; omega) fun nv _ => ?_)
  (repeat first | refine gS ?_ | refine gA fun _ => ?_ | refine gX fun _ _ => ?_ | refine gT ?_ | refine gF ?_ | refine gI ?_)
  refine E_loop (n := 6) (σ := Nat × Value × List (List UInt8 × Int)) (fun s => s.1 ≤ (nms M.V).length ∧ isCell s.2.1 = true ∧ s.2.2 = ((nms M.V).take s.1).flatMap (fun k => goesL M.now f k (liveL M.V k) (liveL M.V k).length) ∧ s.2.2.length ≤ 1000 * s.1)
    (fun s => [ptr a, ptr b3, s.2.1, nv, I (nms M.V).length, I s.1]) (fun s => sls hC 53 2 s.2.1 s.2.2 :: bk a M :: sls cS 9 1 nv (nms M.V) :: cel true b3 43 (keepL f) :: H) (fun s => (nms M.V).length - s.1) (0, nil, []) (fun _ => rfl) rfl ⟨Nat.zero_le _, rfl, rfl, by simp⟩
    (fun W hW => by
      refine sls_nil hC 2 (T := 53) ?_
      exact sm hW) ?_
  rintro ⟨i, ov, zs⟩ K0 ⟨hi, hov, hzs, hzl⟩ hk0
  simp only at hi hov hzs hzl hk0 ⊢
  have : CellI ov := ⟨hov⟩
  refine E_fa fun _ => ?_
  refine E_lss ?_
  refine E_if (fun hc => ?_) (fun hc => ?_)
  · have hx : (nms M.V)[i]? = some (nms M.V)[i] := List.getElem?_eq_getElem (by omega)
    generalize (nms M.V)[i] = k at hx
    have hstep : ((nms M.V).take (i + 1)).flatMap (fun k => goesL M.now f k (liveL M.V k) (liveL M.V k).length) = zs ++ goesL M.now f k (liveL M.V k) (liveL M.V k).length := by
      rw [List.take_add_one, hx, List.flatMap_append, ← hzs]; simp
    have hkk := kOk hw hk hb k
    (repeat first | refine gS ?_ | refine gA fun _ => ?_ | refine gX fun _ _ => ?_ | refine gT ?_ | refine gF ?_ | refine gI ?_)
    refine fd (a := bk a M) (E_bk fun r1 r2 kf ks Lv Lr Lh hf hs => ?_)
    obtain ⟨v, l, hrv, hle, hlr, hlk⟩ := fok_get hf k
    have i1 := hrv B
    have hll : l.length = (fof M.V k).length := by rw [← hle, List.length_map]
    have hfk := hfl k
    (repeat first | refine gS ?_ | refine gA fun _ => ?_ | refine gX fun _ _ => ?_ | refine gT ?_ | refine gF ?_ | refine gI ?_)
    refine E_dlkg hlk ?_
    refine cloneV (v := v) (by omega) fun u _ => ?_
    refine sm (G := cel true a 81 [.map (some r1), .map (some r2), I M.now] :: dct kL true r1 kf :: dct kL true r2 ks :: spool vC Lv :: spool rfC Lr :: spool hC Lh :: cel true b3 43 (keepL f) :: sls vC 31 4 u l :: sls hC 53 2 ov zs :: sls cS 9 1 nv (nms M.V) :: H) ?_
    refine E_bkS r1 r2 hf hs rfl ?_
    refine sm (G := sls vC 31 4 u l :: cel true b3 43 (keepL f) :: bk a M :: sls hC 53 2 ov zs :: sls cS 9 1 nv (nms M.V) :: H) ?_
    refine deleteFunc (p := fun p => p.1.gone) (by omega) (fun p hp H' K' hK => ?_) fun w _ => ?_
    · refine E_cvv (by kernel_rfl) ?_
      show E B (cel true b3 43 (keepL f) :: H') (CF Tryz.prog 52 [.agg (vC p).toArray] K')
      have hK2 : E B (cel true b3 43 (keepL f) :: H') (K' (.bool p.1.gone)) := hK
      refine E_mono (W := s52 _ K') ?_ fun _ => c52
      unfold s52
      (repeat first | refine gS ?_ | refine gA fun _ => ?_ | refine gX fun _ _ => ?_ | refine gT ?_ | refine gF ?_ | refine gI ?_)
      exact sm hK2
    have hl2 : (l.filter fun p => !p.1.gone).map (·.1) = liveL M.V k := by
      unfold liveL
      rw [← hle, List.filter_map]; rfl
    generalize l.filter (fun p => !p.1.gone) = l2 at hl2 ⊢
    have hl2l : l2.length = (liveL M.V k).length := by rw [← hl2, List.length_map]
    have hll2 : (liveL M.V k).length ≤ 32 := Nat.le_trans (List.length_filter_le _ _) hfk
    rw [← hl2] at hkk
    (repeat first | refine gS ?_ | refine gA fun _ => ?_ | refine gX fun _ _ => ?_ | refine gT ?_ | refine gF ?_ | refine gI ?_)
    refine E_loop (n := 11) (σ := Nat × Value) (fun s => s.1 ≤ l2.length ∧ isCell s.2 = true ∧ (goesL M.now f k (liveL M.V k) s.1).length ≤ s.1)
      (fun s => [ptr a, ptr b3, s.2, str k, w, nv, I (nms M.V).length, I i, w, I l2.length, I s.1]) (fun s => sls hC 53 2 s.2 (zs ++ goesL M.now f k (liveL M.V k) s.1) :: bk a M :: cel true b3 43 (keepL f) :: sls vC 31 4 w l2 :: sls cS 9 1 nv (nms M.V) :: H) (fun s => l2.length - s.1) (0, ov) (fun _ => rfl) rfl ⟨Nat.zero_le _, hov, by simp [goesL]⟩
      (fun W hW => by
        have e0 : zs ++ goesL M.now f k (liveL M.V k) 0 = zs := by simp [goesL]
        simp only [e0] at hW
        exact sm hW) ?_
    rintro ⟨j, ou⟩ K1 ⟨hj, hou, hgl⟩ hk1
    simp only at hj hou hgl hk1 ⊢
    have : CellI ou := ⟨hou⟩
    refine E_fa fun _ => ?_
    refine E_lss ?_
    refine E_if (fun hc2 => ?_) (fun hc2 => ?_)
    · have hy : l2[j]? = some l2[j] := List.getElem?_eq_getElem (by omega)
      generalize l2[j] = x at hy
      have hyL : (liveL M.V k)[j]? = some x.1 := by rw [← hl2, List.getElem?_map, hy]; rfl
      have hgs := goesL_suc (f := f) (now := M.now) (k := k) hyL
      refine E_joinC (σ := Value) (fun u => isCell u = true) (fun u => [ptr a, ptr b3, u, str k, w, nv, I (nms M.V).length, I i, w, I l2.length, I j])
        (fun u => sls hC 53 2 u (zs ++ goesL M.now f k (liveL M.V k) (j + 1)) :: bk a M :: cel true b3 43 (keepL f) :: sls vC 31 4 w l2 :: sls cS 9 1 nv (nms M.V) :: H) (fun q hq => ?_) (fun u hu => ?_)
      · rw [hgs] at hq
        refine E_rsix (v := w) (l := l2) hy fun _ _ => ?_
        refine E_ptldA ?_
        refine E_box fun b11 => ?_
        refine E_stW (vs := vC x) rfl rfl ?_
        (repeat first | refine gS ?_ | refine gA fun _ => ?_ | refine gX fun _ _ => ?_ | refine gT ?_ | refine gF ?_ | refine gI ?_)
        refine sm (G := bk a M :: sls vC 31 4 w l2 :: sls hC 53 2 ou (zs ++ goesL M.now f k (liveL M.V k) j) :: cel true b11 31 (vC x) :: cel true b3 43 (keepL f) :: sls cS 9 1 nv (nms M.V) :: H) ?_
        refine stays (l := l2) (hv := fun H' => rs_app H' inferInstance) hkk hw.now hy ?_
        rw [hl2]
        refine gY ?_
        cases hst : staysB M.now f (liveL M.V k) j with
        | true =>
          rw [hst, if_pos rfl, List.append_nil] at hq
          rw [Bool.not_true]
          (repeat first | refine gS ?_ | refine gA fun _ => ?_ | refine gX fun _ _ => ?_ | refine gT ?_ | refine gF ?_ | refine gI ?_)
          exact sm (hq ou hou)
        | false =>
          rw [hst, if_neg (by decide), ← List.append_assoc] at hq
          rw [Bool.not_false]
          (repeat first | refine gS ?_ | refine gA fun _ => ?_ | refine gX fun _ _ => ?_ | refine gT ?_ | refine gF ?_ | refine gI ?_)
          refine E_build (l := [str k, I x.1.gen]) str_held ?_
          refine fd (a := sls hC 53 2 ou (zs ++ goesL M.now f k (liveL M.V k) j)) ?_
          refine E_sapp1 (k, x.1.gen) u_helds elt_held rfl (by decide) (by rw [List.length_append]; omega) (by rw [List.length_append]; omega) fun u' _ => ?_
          exact sm (hq u' CellI.pf)
      · have : CellI u := ⟨hu⟩
        refine E_fa fun _ => ?_
        refine E_addI (by omega) (by omega) ?_
        refine hk1 (j + 1, u) ⟨by simp only; omega, hu, ?_⟩ (by simp only; omega)
        simp only
        rw [hgs, List.length_append]
        split <;> simp <;> omega
    · have hje : j = (liveL M.V k).length := by omega
      subst hje
      refine E_addI (by omega) (by omega) ?_
      have hk' := hk0 (i + 1, ou, zs ++ goesL M.now f k (liveL M.V k) (liveL M.V k).length) ⟨by simp only; omega, hou, hstep.symm, by simp only [List.length_append]; omega⟩ (by simp only; omega)
      exact sm hk'
  · have hie : i = (nms M.V).length := by omega
    subst hie
    rw [List.take_length] at hzs
    have h' := h ov
    unfold expireL at h'
    rw [← hzs] at h'
    exact sm h'
theorem expire_nil {v : Value} {l : List Value} [CellsI v l] (h : E B H (K (.tuple #[nil, I 1]))) : E B H (CF Tryz.prog 18 [.pointer none, v] K) := by
  refine E_mono (W := s18 _ _ K) ?_ fun _ => c18
  unfold s18
  (repeat first | refine gS ?_ | refine gA fun _ => ?_ | refine gX fun _ _ => ?_ | refine gT ?_ | refine gF ?_ | refine gI ?_)
  refine E_peq0 u_pBook ?_
  refine E_tt ?_
  exact sm h
end Go.Proofs.YtjafpncngmbcdaaGreat.Nam
