/-
  Names: the document's Expire.
-/
import Derived.Test.YtjafpncngmbcdaaGreatNnC
set_option linter.unusedSimpArgs false
set_option linter.unusedVariables false
set_option linter.unusedSectionVars false
namespace Go.Proofs.YtjafpncngmbcdaaGreat.Nam
open Go Go.SL Go.Proofs Go.Proofs.YtjafpncngmbcdaaGreat.Sh
variable {B : World} {H : List Asrt} {K : Value → WT} {W : WT} {a : Nat} {M : Bk} {f : Fa}
variable {fv sv : Cv} {L : List FC} {LS : List SC} {Pf : List (Value × List FC)} {Lv : List (Value × List VR)} {Lr : List (Value × List Rf)} {Ps : List (Value × List SC)} {Lh : List (Value × List (List UInt8 × Int))}
attribute [local irreducible] S.pick S.ld S.ldN S.st S.box S.nc S.fad S.ixS S.ixA S.chr S.prt S.ext S.bin S.sh S.sbin S.beq S.neg1 S.com1 S.not1 S.cvt S.str1 S.lenS S.len S.cap S.lenM S.mx S.mn S.mkM S.cond S.gd S.fa S.dr S.rck S.join S.loop S.cvv S.eqv S.slc S.slcS S.b2s S.lk V U CF Gives E cel mpb osl ros dct dit itr lpo dfo
set_option maxRecDepth 8000
attribute [local irreducible] bk dbk
theorem goesL_le (now : Int) (f : Fa) (k : List UInt8) (l : List Ver) (n : Nat) : (goesL now f k l n).length ≤ n := by
  unfold goesL
  refine Nat.le_trans (List.length_filterMap_le _ _) ?_
  rw [List.length_range]; exact Nat.le_refl _
theorem expireD (hd : DOk ⟨fv, sv, L, LS, Pf, Lv, Lr, Ps, Lh⟩ M) (hw : Inv M) (hb : f.last ≤ 9223372036854775807 ∧ f.young ≤ 9223372036854775807 ∧ f.step ≤ 9223372036854775807 ∧ f.count ≤ 9223372036854775807)
    (h : ∀ v [CellI v], E B (sls hC 53 2 v (if keepOk f = true then expireL M f else []) :: cel true a 88 [fv.1, sv.1, I M.now] :: spool fC Pf :: spool vC Lv :: spool rfC Lr :: spool shC Ps :: spool hC Lh :: H) (K (.tuple #[v, I (if keepOk f = true then 0 else 2)]))) : E B (cel true a 88 [fv.1, sv.1, I M.now] :: spool fC Pf :: spool vC Lv :: spool rfC Lr :: spool shC Ps :: spool hC Lh :: H) (CF Tryz.prog 19 [ptr a, .agg (keepL f).toArray] K) := by
  have hlen := hd.len
  have hL := nms_len32 hd hw
  have hfl := hw.fl
  have rf : ∀ H, Rs B (spool fC Pf :: H) fv.1 fC L := rs_pool hd.f
  refine E_mono (W := s19 _ _ K) ?_ fun _ => c19
  unfold s19
  refine E_box (vs := keepL f) fun b3 => ?_
  refine E_join1 [ptr a, ptr b3, .bool (decide (f.last < 0) || decide (f.young < 0) || decide (f.step < 1) || decide (f.count < 0))] (cel true b3 43 (keepL f) :: cel true a 88 [fv.1, sv.1, I M.now] :: spool fC Pf :: spool vC Lv :: spool rfC Lr :: spool shC Ps :: spool hC Lh :: H) (fun q hq => ?_) ?_
  · (repeat first | refine gS ?_ | refine gY ?_ | refine gA fun _ => ?_ | refine gX fun _ _ => ?_ | refine gI ?_)
    exact sm hq
  refine E_fa fun _ => ?_
  refine E_ifb' (p := ¬ (keepOk f = true)) (by simp [keepOk]; omega) (fun e => ?_) (fun e => ?_)
  · rw [if_neg e, if_neg e] at h
    refine sls_nil hC 2 (T := 53) ?_
    exact sm (h nil)
  have e' := Decidable.not_not.1 e
  have hk : 0 ≤ f.last ∧ 0 ≤ f.young ∧ 1 ≤ f.step ∧ 0 ≤ f.count := by simpa [keepOk] using e'
  rw [if_pos e', if_pos e'] at h
  refine E_bsl0 u_helds elt_held fun b0 => ?_
  refine E_slsC (enc := hC) [] 0 rfl rfl ?_
  refine E_loop (n := 4) (σ := Nat × Cv × List (List UInt8 × Int)) (fun s => s.1 ≤ L.length ∧ s.2.2 = ((nms M.V).take s.1).flatMap (fun k => goesL M.now f k (liveL M.V k) (liveL M.V k).length) ∧ s.2.2.length ≤ 1000 * s.1)
    (fun s => [ptr a, ptr b3, s.2.1.1, I s.1]) (fun s => cel true a 88 [fv.1, sv.1, I M.now] :: spool fC Pf :: spool vC Lv :: spool rfC Lr :: spool shC Ps :: spool hC Lh :: sls hC 53 2 s.2.1.1 s.2.2 :: cel true b3 43 (keepL f) :: H) (fun s => L.length - s.1) (0, ⟨.slice (some ⟨b0, 0, none⟩) 0 0, rfl⟩, []) (fun _ => rfl) rfl ⟨Nat.zero_le _, rfl, by simp⟩ (fun W hW => sm hW) ?_
  rintro ⟨i, ov, zs⟩ K0 ⟨hi, hzs, hzl⟩ hk0
  simp only at hi hzs hzl hk0 ⊢
  refine E_fa fun _ => ?_
  (repeat first | refine gS ?_ | refine gA fun _ => ?_ | refine gX fun _ _ => ?_ | refine gT ?_ | refine gF ?_ | refine gI ?_)
  refine E_if (fun hc => ?_) (fun hc => ?_)
  · have hx : (nms M.V)[i]? = some (nms M.V)[i] := List.getElem?_eq_getElem (by omega)
    generalize (nms M.V)[i] = k at hx
    have hstep : ((nms M.V).take (i + 1)).flatMap (fun k => goesL M.now f k (liveL M.V k) (liveL M.V k).length) = zs ++ goesL M.now f k (liveL M.V k) (liveL M.V k).length := by
      rw [List.take_add_one, hx, List.flatMap_append, ← hzs]; simp
    obtain ⟨c, l, hx', hl⟩ := hd.get hx
    have rl := rs_pool (B := B) (enc := vC) hl.m
    have hll : l.length = (fof M.V k).length := by rw [← hl.e, List.length_map]
    have hlk := hfl k
    have hle := hl.e
    refine E_bsl0 u_vers elt_ver fun b1 => ?_
    refine E_slsC (enc := vC) [] 0 rfl rfl ?_
    refine E_loop (n := 6) (σ := Nat × Cv × List VR) (fun s => s.1 ≤ l.length ∧ s.2.2 = (l.take s.1).filter (fun p => !p.1.gone)) (fun s => [ptr a, ptr b3, ov.1, I i, s.2.1.1, I s.1]) (fun s => cel true a 88 [fv.1, sv.1, I M.now] :: spool fC Pf :: spool vC Lv :: spool rfC Lr :: spool shC Ps :: spool hC Lh :: sls vC 31 4 s.2.1.1 s.2.2 :: sls hC 53 2 ov.1 zs :: cel true b3 43 (keepL f) :: H) (fun s => l.length - s.1) (0, ⟨.slice (some ⟨b1, 0, none⟩) 0 0, rfl⟩, []) (fun _ => rfl) rfl ⟨Nat.zero_le _, rfl⟩ (fun W hW => sm hW) ?_
    rintro ⟨j, lv, ll⟩ K1 ⟨hj, hls⟩ hk1
    simp only at hj hls hk1 ⊢
    have hlll : ll.length ≤ 32 := by rw [hls]; exact Nat.le_trans (List.length_filter_le _ _) (by rw [List.length_take]; omega)
    refine E_fa fun _ => ?_
    (repeat first | refine gS ?_ | refine gA fun _ => ?_ | refine gX fun _ _ => ?_ | refine gT ?_ | refine gF ?_ | refine gI ?_)
    refine E_if (fun hc1 => ?_) (fun hc1 => ?_)
    · have hy : l[j]? = some l[j] := List.getElem?_eq_getElem (by omega)
      generalize l[j] = x at hy
      have hnx : (l.take (j + 1)).filter (fun p => !p.1.gone) = ll ++ if x.1.gone = false then [x] else [] := by
        rw [List.take_add_one, hy, List.filter_append, ← hls]
        cases h9 : x.1.gone <;> simp [h9]
      refine E_joinC (σ := Cv × List VR) (fun s => s.2 = (l.take (j + 1)).filter (fun p => !p.1.gone)) (fun s => [ptr a, ptr b3, ov.1, I i, s.1.1, I j]) (fun s => cel true a 88 [fv.1, sv.1, I M.now] :: spool fC Pf :: spool vC Lv :: spool rfC Lr :: spool shC Ps :: spool hC Lh :: sls vC 31 4 s.1.1 s.2 :: sls hC 53 2 ov.1 zs :: cel true b3 43 (keepL f) :: H) (fun q1 hq1 => ?_) (fun s hs1 => ?_)
      · rw [hnx] at hq1
        (repeat first | refine gS ?_ | refine gA fun _ => ?_ | refine gX fun _ _ => ?_ | refine gT ?_ | refine gF ?_ | refine gI ?_)
        cases hg : x.1.gone with
        | false =>
          rw [hg, if_pos rfl] at hq1
          (repeat first | refine gS ?_ | refine gA fun _ => ?_ | refine gX fun _ _ => ?_ | refine gT ?_ | refine gF ?_ | refine gI ?_)
          refine fd (a := sls vC 31 4 lv.1 ll) ?_
          refine E_sapp1 (enc := vC) x u_vers elt_ver rfl (by decide) (by omega) (by omega) fun v' hv' => ?_
          exact sm (hq1 (⟨v', hv'.pf⟩, ll ++ [x]) rfl)
        | true =>
          rw [hg, if_neg (by simp), List.append_nil] at hq1
          (repeat first | refine gS ?_ | refine gA fun _ => ?_ | refine gX fun _ _ => ?_ | refine gT ?_ | refine gF ?_ | refine gI ?_)
          exact sm (hq1 (lv, ll) rfl)
      · refine E_fa fun _ => ?_
        refine E_addI (by omega) (by omega) ?_
        exact hk1 (j + 1, s.1, s.2) ⟨by simp only; omega, hs1⟩ (by simp only; omega)
    · have hje : j = l.length := by omega
      rw [hje, List.take_length] at hls
      have hlive : ll.map (·.1) = liveL M.V k := by unfold liveL; rw [hls, ← hle, List.filter_map]; rfl
      have hkok : KOk f (ll.map (·.1)) := by rw [hlive]; exact kOk hw hk hb k
      rw [← hlive] at hstep
      have hlm : (ll.map (·.1)).length = ll.length := List.length_map ..
      rw [hlm] at hstep
      refine E_loop (n := 6) (σ := Nat × Cv × List (List UInt8 × Int)) (fun s => s.1 ≤ ll.length ∧ s.2.2 = zs ++ goesL M.now f k (ll.map (·.1)) s.1) (fun s => [ptr a, ptr b3, s.2.1.1, I i, lv.1, I s.1]) (fun s => cel true a 88 [fv.1, sv.1, I M.now] :: spool fC Pf :: spool vC Lv :: spool rfC Lr :: spool shC Ps :: spool hC Lh :: sls vC 31 4 lv.1 ll :: sls hC 53 2 s.2.1.1 s.2.2 :: cel true b3 43 (keepL f) :: H) (fun s => ll.length - s.1) (0, ov, zs) (fun _ => rfl) rfl ⟨Nat.zero_le _, by simp [goesL]⟩ (fun W hW => sm hW) ?_
      rintro ⟨t, ov', zs'⟩ K2 ⟨ht, hzs'⟩ hk2
      simp only at ht hzs' hk2 ⊢
      have hz'l : zs'.length ≤ 1000 * i + 32 := by
        rw [hzs', List.length_append]
        have := goesL_le M.now f k (ll.map (·.1)) t
        omega
      refine E_fa fun _ => ?_
      (repeat first | refine gS ?_ | refine gA fun _ => ?_ | refine gX fun _ _ => ?_ | refine gT ?_ | refine gF ?_ | refine gI ?_)
      refine E_if (fun hc2 => ?_) (fun hc2 => ?_)
      · have hy : ll[t]? = some ll[t] := List.getElem?_eq_getElem (by omega)
        generalize ll[t] = x at hy
        have hgs := goesL_suc (now := M.now) (f := f) (k := k) (l := ll.map (·.1)) (j := t) (x := x.1) (by rw [List.getElem?_map, hy]; rfl)
        refine E_joinC (σ := Cv × List (List UInt8 × Int)) (fun s => s.2 = zs ++ goesL M.now f k (ll.map (·.1)) (t + 1)) (fun s => [ptr a, ptr b3, s.1.1, I i, lv.1, I t]) (fun s => cel true a 88 [fv.1, sv.1, I M.now] :: spool fC Pf :: spool vC Lv :: spool rfC Lr :: spool shC Ps :: spool hC Lh :: sls vC 31 4 lv.1 ll :: sls hC 53 2 s.1.1 s.2 :: cel true b3 43 (keepL f) :: H) (fun q1 hq1 => ?_) (fun s hs1 => ?_)
        · (repeat first | refine gS ?_ | refine gA fun _ => ?_ | refine gX fun _ _ => ?_ | refine gT ?_ | refine gF ?_ | refine gI ?_)
          refine staysD (l := ll) (x := x) (fun G => rs_app G inferInstance) hkok hw.now hy ?_
          rw [hgs, ← List.append_assoc, ← hzs'] at hq1
          cases hsb : staysB M.now f (ll.map (·.1)) t with
          | true =>
            rw [hsb, if_pos rfl, List.append_nil] at hq1
            (repeat first | refine gS ?_ | refine gA fun _ => ?_ | refine gX fun _ _ => ?_ | refine gT ?_ | refine gF ?_ | refine gI ?_)
            exact sm (hq1 (ov', zs') rfl)
          | false =>
            rw [hsb, if_neg (by simp)] at hq1
            (repeat first | refine gS ?_ | refine gA fun _ => ?_ | refine gX fun _ _ => ?_ | refine gT ?_ | refine gF ?_ | refine gI ?_)
            refine E_build (l := [str k, I x.1.gen]) str_held ?_
            refine fd (a := sls hC 53 2 ov'.1 zs') ?_
            refine E_sapp1 (enc := hC) (k, x.1.gen) u_helds elt_held rfl (by decide) (by omega) (by omega) fun v' hv' => ?_
            exact sm (hq1 (⟨v', hv'.pf⟩, zs' ++ [(k, x.1.gen)]) rfl)
        · refine E_fa fun _ => ?_
          refine E_addI (by omega) (by omega) ?_
          exact hk2 (t + 1, s.1, s.2) ⟨by simp only; omega, hs1⟩ (by simp only; omega)
      · have hte : t = ll.length := by omega
        rw [hte, ← hstep] at hzs'
        refine E_addI (by omega) (by omega) ?_
        exact sm (hk0 (i + 1, ov', zs') ⟨by simp only; omega, hzs', by simp only; omega⟩ (by simp only; omega))
  · have hie : i = (nms M.V).length := by omega
    rw [hie, List.take_length] at hzs
    have : CellI ov.1 := ⟨ov.2⟩
    have h' := h ov.1
    unfold expireL at h'
    rw [← hzs] at h'
    exact sm h'
end Go.Proofs.YtjafpncngmbcdaaGreat.Nam
