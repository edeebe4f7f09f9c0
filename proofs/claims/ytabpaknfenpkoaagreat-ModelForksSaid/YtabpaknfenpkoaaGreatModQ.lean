/-
  Model: Expire.
-/
import Derived.Test.YtabpaknfenpkoaaGreatModO
set_option linter.unusedSimpArgs false
set_option linter.unusedVariables false
set_option linter.unusedSectionVars false
namespace Go.Proofs.YtabpaknfenpkoaaGreat.Mod
open Go Go.SL Go.Proofs Go.Proofs.YtabpaknfenpkoaaGreat.Sh
variable {B : World} {H : List Asrt} {K : Value → WT} {W : WT}
variable {a : Nat} {M : Mo} {o : Od} {bv kv : Value} {t u : Int}
/-! ### drop by drop is all at once -/
theorem sweep_mark {S : List Sn} {W : List Ver} {n : List UInt8} {g : Int} : sweepV S (markV (sweepV S W) n g) = sweepV S (markV W n g) := by
  unfold sweepV markV
  rw [List.filter_map, List.filter_map, List.filter_filter]
  congr 1
  refine List.filter_congr fun v _ => ?_
  simp only [Function.comp]
  by_cases h : v.name = n ∧ v.gen = g
  · rw [if_pos h]
    unfold keepP goneV
    cases heldB S v.name v.gen <;> simp
  · rw [if_neg h]; simp
theorem mark_step {V : List Ver} (hs : SrtG V) {D : List Ver} {x : Ver} (hx : x ∈ V) :
    markV (V.map fun v => if v ∈ D then goneV v else v) x.name x.gen = V.map fun v => if v ∈ D ++ [x] then goneV v else v := by
  unfold markV
  rw [List.map_map]
  refine List.map_congr_left fun v hv => ?_
  simp only [Function.comp]
  have hng : (if v ∈ D then goneV v else v).name = v.name ∧ (if v ∈ D then goneV v else v).gen = v.gen := by split <;> exact ⟨rfl, rfl⟩
  rw [hng.1, hng.2]
  by_cases h : v.name = x.name ∧ v.gen = x.gen
  · have e : v = x := hs.uniq hv hx h.1 h.2
    subst e
    have hin : v ∈ D ++ [v] := by simp
    rw [if_pos ⟨rfl, rfl⟩, if_pos hin]
    split <;> rfl
  · have : v ≠ x := fun e => h (by rw [e]; exact ⟨rfl, rfl⟩)
    rw [if_neg h]
    by_cases hd : v ∈ D
    · rw [if_pos hd, if_pos (List.mem_append_left _ hd)]
    · rw [if_neg hd, if_neg (by simp [hd, this])]
def goL (M : Mo) (o : Od) : List Ver := M.V.filter (goesP M o)
/-- What is left behind the first drops. -/
def atE (M : Mo) (D : List Ver) : Mo := { M with V := sweepV M.S (M.V.map fun v => if v ∈ D then goneV v else v) }
theorem if_f4 (D : List Ver) (v : Ver) : (if v ∈ D then goneV v else v).name = v.name ∧ (if v ∈ D then goneV v else v).gen = v.gen ∧ (if v ∈ D then goneV v else v).text = v.text ∧ (if v ∈ D then goneV v else v).time = v.time := by split <;> exact ⟨rfl, rfl, rfl, rfl⟩
theorem atE_wf {M : Mo} (hw : Wf M) (D : List Ver) : Wf (atE M D) := (hw.map (f := fun v => if v ∈ D then goneV v else v) (if_f4 D)).sweep
theorem atE_nil {M : Mo} (h : sweepV M.S M.V = M.V) : atE M [] = M := by
  have e : (M.V.map fun v => if v ∈ ([] : List Ver) then goneV v else v) = M.V := by
    conv => rhs; rw [← List.map_id M.V]
    exact List.map_congr_left fun v _ => by simp
  unfold atE
  rw [e, h]
theorem atE_all {M : Mo} {o : Od} : atE M (goL M o) = { M with V := sweepV M.S (M.V.map fun v => if goesP M o v then goneV v else v) } := by
  have e : (M.V.map fun v => if v ∈ goL M o then goneV v else v) = M.V.map fun v => if goesP M o v then goneV v else v := by
    refine List.map_congr_left fun v hv => ?_
    have : v ∈ goL M o ↔ goesP M o v = true := by unfold goL; rw [List.mem_filter]; simp [hv]
    simp only [this]
  unfold atE
  rw [e]
theorem atE_step {M : Mo} (hw : Wf M) {D : List Ver} {x : Ver} (hx : x ∈ M.V) : { atE M D with V := sweepV (atE M D).S (markV (atE M D).V x.name x.gen) } = atE M (D ++ [x]) := by
  show ({ M with V := sweepV M.S (markV (sweepV M.S (M.V.map fun v => if v ∈ D then goneV v else v)) x.name x.gen) } : Mo) = _
  rw [sweep_mark, mark_step hw.v hx]
  rfl
theorem atE_live {M : Mo} (hw : Wf M) {D : List Ver} {x : Ver} (hx : x ∈ M.V) (hg : x.gone = false) (hD : x ∉ D) : ∃ i y, lastIdx (liveP x.gen) (fof (atE M D).V x.name) = some i ∧ (fof (atE M D).V x.name)[i]? = some y ∧ y.gen = x.gen := by
  have hm : x ∈ fof (atE M D).V x.name := by
    refine fof_mem.2 ⟨List.mem_filter.2 ⟨List.mem_map.2 ⟨x, hx, if_neg hD⟩, ?_⟩, rfl⟩
    unfold keepP; rw [hg]; simp
  have hg1 := (hw.g x hx).1
  rcases lastIdx_getLast (p := liveP x.gen) (l := fof (atE M D).V x.name) with ⟨e1, e2⟩ | ⟨i, y, e1, e2, e3, e4⟩
  · have := lastIdx_none e1 x hm
    simp [liveP, hg] at this
  · refine ⟨i, y, e1, e2, ?_⟩
    simp only [liveP, Bool.and_eq_true, Bool.or_eq_true, decide_eq_true_eq] at e3
    rcases e3.2 with h0 | h0
    · omega
    · exact h0
theorem goL_flat {M : Mo} {o : Od} (hs : SrtN M.V) : goL M o = (nms M.V).flatMap fun k => (liveL M.V k).filter fun v => !staysM M o v := by
  unfold goL
  conv => lhs; rw [V_flat hs]
  rw [List.filter_flatMap]
  congr 1; funext k
  unfold liveL
  rw [List.filter_filter]
  refine List.filter_congr fun v _ => ?_
  unfold goesP
  exact Bool.and_comm _ _
theorem srtG_nodup {V : List Ver} (h : SrtG V) : V.Nodup := by
  rw [List.nodup_iff_pairwise_ne]
  refine h.imp fun {a b} hab e => ?_
  subst e
  rcases hab with h | ⟨_, h⟩
  · exact slt_irr _ h
  · omega
attribute [local irreducible] S.pick S.ld S.ldN S.st S.box S.nc S.fad S.ixS S.ixA S.chr S.prt S.ext S.bin S.sh S.sbin S.beq S.neg1 S.com1 S.not1 S.cvt S.str1 S.lenS S.len S.cap S.lenM S.mx S.mn S.mkM S.cond S.gd S.fa S.dr S.rck S.join S.loop S.cvv S.eqv S.slc S.slcS S.b2s S.lk V U CF Gives E cel mpb osl ros dct dit itr lpo dfo
set_option maxRecDepth 4000
attribute [local irreducible] mo ansH
theorem numberF {n : Int} (h : E B H (K (.bool (decide (0 ≤ n ∧ n ≤ 9007199254740991))))) : E B H (CF Tryz.prog 79 [I n] K) := by
  refine E_mono (W := s79 _ K) ?_ fun _ => c79
  unfold s79
  by_cases h0 : 0 ≤ n
  · (repeat first | refine gS ?_ | refine gA fun _ => ?_ | refine gX fun _ _ => ?_ | refine gT ?_ | refine gF ?_ | refine gI ?_)
    have e : decide (0 ≤ n ∧ n ≤ 9007199254740991) = decide (n ≤ 9007199254740991) := by rw [decide_eq_decide]; omega
    rw [e] at h
    exact h
  · (repeat first | refine gS ?_ | refine gA fun _ => ?_ | refine gX fun _ _ => ?_ | refine gT ?_ | refine gF ?_ | refine gI ?_)
    have e : decide (0 ≤ n ∧ n ≤ 9007199254740991) = false := decide_eq_false fun hh => h0 hh.1
    rw [e] at h
    exact h
abbrev hG (v : Ver) : List UInt8 × Int := (v.name, v.gen)
theorem expireF [CellI bv] [CellI kv] (hw : Wf M) (hsw : sweepV M.S M.V = M.V) (h : ∀ rv, E B (ansH (expireM M o).1 rv :: mo a (expireM M o).2 :: H) (K rv)) : E B (mo a M :: H) (CF Tryz.prog 49 [ptr a, opV o bv kv t u] K) := by
  refine E_mono (W := s49 _ _ K) ?_ fun _ => c49
  unfold s49
  unfold expireM at h
  refine E_box fun bo => ?_
  refine E_box fun br => ?_
  (repeat first | refine gS ?_ | refine gA fun _ => ?_ | refine gX fun _ _ => ?_ | refine gT ?_ | refine gF ?_ | refine gI ?_)
  refine E_ldN (cs := [I o.last, I o.young, I o.step, I o.count]) rfl rfl ?_
  (repeat first | refine gS ?_ | refine gA fun _ => ?_ | refine gX fun _ _ => ?_ | refine gT ?_ | refine gF ?_ | refine gI ?_)
  rename_i b5
  have hMn := hw.n
  have hnl := nms_len M.V
  have hkO : keepOk o = decide (0 ≤ o.last ∧ o.last ≤ 9007199254740991 ∧ 0 ≤ o.young ∧ o.young ≤ 9007199254740991 ∧ 1 ≤ o.step ∧ o.step ≤ 9007199254740991 ∧ 0 ≤ o.count ∧ o.count ≤ 9007199254740991) := rfl
  refine E_join1 [ptr a, ptr br, ptr b5, .bool (!keepOk o)] (cel true b5 37 [I o.last, I o.young, I o.step, I o.count] :: cel true br 33 [I 0, I 0, nil, nil] :: mo a M :: H) (fun q hq => ?_) ?_
  · have fin2 : ∀ b : Bool, (!keepOk o) = b → E B (cel true b5 37 [I o.last, I o.young, I o.step, I o.count] :: cel true br 33 [I 0, I 0, nil, nil] :: mo a M :: H) (app 4 q [ptr a, ptr br, ptr b5, .bool b]) := fun b hb => hb ▸ hq
    rw [hkO] at fin2
    refine goS ?_
    refine goS ?_
    refine numberF ?_
    by_cases h1 : 0 ≤ o.last ∧ o.last ≤ 9007199254740991
    · rw [decide_eq_true h1]
      (repeat first | refine gS ?_ | refine gA fun _ => ?_ | refine gX fun _ _ => ?_ | refine gT ?_ | refine gF ?_ | refine gI ?_)
      refine numberF ?_
      by_cases h2 : 0 ≤ o.young ∧ o.young ≤ 9007199254740991
      · rw [decide_eq_true h2]
        (repeat first | refine gS ?_ | refine gA fun _ => ?_ | refine gX fun _ _ => ?_ | refine gT ?_ | refine gF ?_ | refine gI ?_)
        refine numberF ?_
        by_cases h3 : 0 ≤ o.step ∧ o.step ≤ 9007199254740991
        · rw [decide_eq_true h3]
          (repeat first | refine gS ?_ | refine gA fun _ => ?_ | refine gX fun _ _ => ?_ | refine gT ?_ | refine gF ?_ | refine gI ?_)
          by_cases h4 : o.step < 1
          · (repeat first | refine gS ?_ | refine gA fun _ => ?_ | refine gX fun _ _ => ?_ | refine gT ?_ | refine gF ?_ | refine gI ?_)
            exact sm (fin2 true (by rw [decide_eq_false (by omega)]; rfl))
          · (repeat first | refine gS ?_ | refine gA fun _ => ?_ | refine gX fun _ _ => ?_ | refine gT ?_ | refine gF ?_ | refine gI ?_)
            refine numberF ?_
            by_cases h5 : 0 ≤ o.count ∧ o.count ≤ 9007199254740991
            · rw [decide_eq_true h5]
              (repeat first | refine gS ?_ | refine gA fun _ => ?_ | refine gX fun _ _ => ?_ | refine gT ?_ | refine gF ?_ | refine gI ?_)
              exact sm (fin2 false (by rw [decide_eq_true (by omega)]; rfl))
            · rw [decide_eq_false h5]
              (repeat first | refine gS ?_ | refine gA fun _ => ?_ | refine gX fun _ _ => ?_ | refine gT ?_ | refine gF ?_ | refine gI ?_)
              exact sm (fin2 true (by rw [decide_eq_false (by omega)]; rfl))
        · rw [decide_eq_false h3]
          (repeat first | refine gS ?_ | refine gA fun _ => ?_ | refine gX fun _ _ => ?_ | refine gT ?_ | refine gF ?_ | refine gI ?_)
          exact sm (fin2 true (by rw [decide_eq_false (by omega)]; rfl))
      · rw [decide_eq_false h2]
        (repeat first | refine gS ?_ | refine gA fun _ => ?_ | refine gX fun _ _ => ?_ | refine gT ?_ | refine gF ?_ | refine gI ?_)
        exact sm (fin2 true (by rw [decide_eq_false (by omega)]; rfl))
    · rw [decide_eq_false h1]
      (repeat first | refine gS ?_ | refine gA fun _ => ?_ | refine gX fun _ _ => ?_ | refine gT ?_ | refine gF ?_ | refine gI ?_)
      exact sm (fin2 true (by rw [decide_eq_false (by omega)]; rfl))
  · refine E_fa fun _ => ?_
    cases hk : keepOk o with
    | false =>
      rw [if_pos hk] at h
      refine E_tt ?_
      refine wrong ?_
      (repeat first | refine gS ?_ | refine gA fun _ => ?_ | refine gX fun _ _ => ?_ | refine gT ?_ | refine gF ?_ | refine gI ?_)
      exact sm (ansE (A := errA 2) rfl rfl h)
    | true =>
      rw [if_neg (by simp [hk]), ← atE_all] at h
      have hcount : M.V.countP (goesP M o) = (goL M o).length := List.countP_eq_length_filter
      rw [hcount] at h
      refine E_ff ?_
      refine fd (a := mo a M) (E_mo fun r1 r2 r3 kf ks ko Lv Lh hf hs ho => ?_)
      refine fd (a := dct kL true r1 kf) (E_dnod fun hnod => ?_)
      have hperm := fok_keys hf hnod hw.v.n
      have hlen : kf.length ≤ 1000000 := by
        have h1 := hperm.length_eq
        simp at h1; omega
      (repeat first | refine gS ?_ | refine gA fun _ => ?_ | refine gX fun _ _ => ?_ | refine gT ?_ | refine gF ?_ | refine gI ?_)
      refine sortedNames (by omega) fun sv zs _ hz => ?_
      rw [sortS_eq (hz.trans hperm) (nms_lt hw.v.n)]
      (repeat first | refine gS ?_ | refine gA fun _ => ?_ | refine gX fun _ _ => ?_ | refine gT ?_ | refine gF ?_ | refine gI ?_)
      refine sm (G := cel true a 82 [.map (some r1), .map (some r2), .map (some r3), I M.began, I M.now, I M.quota] :: dct kL true r1 kf :: dct kL true r2 ks :: dct kI true r3 ko :: spool vC Lv :: dpool kL Lh :: sls cS 9 1 sv (nms M.V) :: cel true b5 37 [I o.last, I o.young, I o.step, I o.count] :: cel true br 33 [I 0, I 0, nil, nil] :: H) ?_
      refine E_moS (M := M) r1 r2 r3 hf hs ho rfl rfl rfl ?_
      refine E_loop (σ := Nat × Value) (fun s => s.1 ≤ (nms M.V).length ∧ isCell s.2 = true) (fun s => [ptr a, ptr br, ptr b5, s.2, sv, I (nms M.V).length, I s.1])
        (fun s => sls hC 106 2 s.2 ((((nms M.V).take s.1).flatMap fun k => (liveL M.V k).filter fun v => !staysM M o v).map hG) :: mo a M :: sls cS 9 1 sv (nms M.V) :: cel true b5 37 [I o.last, I o.young, I o.step, I o.count] :: cel true br 33 [I 0, I 0, nil, nil] :: H) (fun s => (nms M.V).length - s.1) (0, nil) (fun _ => rfl) rfl ⟨Nat.zero_le _, rfl⟩
        (fun W hW => by
          simp only [List.take_zero, List.flatMap_nil, List.map_nil] at hW
          exact sls_nil hC 2 hW) ?_
      rintro ⟨i, gv⟩ K0 ⟨hi, hgv⟩ hk0
      simp only at hi hgv hk0 ⊢
      have : CellI gv := ⟨hgv⟩
      have hgl : ∀ i, (((nms M.V).take i).flatMap fun k => (liveL M.V k).filter fun v => !staysM M o v).length ≤ 1000000 := fun i => by
        have hsub : (((nms M.V).take i).flatMap fun k => (liveL M.V k).filter fun v => !staysM M o v).length ≤ (goL M o).length := by
          rw [goL_flat hw.v.n]
          conv => rhs; rw [← List.take_append_drop i (nms M.V)]
          rw [List.flatMap_append, List.length_append]; omega
        have := List.length_filter_le (goesP M o) M.V
        unfold goL at hsub
        omega
      refine E_fa fun _ => ?_
      (repeat first | refine gS ?_ | refine gA fun _ => ?_ | refine gX fun _ _ => ?_ | refine gT ?_ | refine gF ?_ | refine gI ?_)
      refine E_if (fun hc => ?_) (fun hc => ?_)
      · have hx : (nms M.V)[i]? = some (nms M.V)[i] := List.getElem?_eq_getElem (by omega)
        generalize (nms M.V)[i] = k at hx
        have hkm : k ∈ nms M.V := List.mem_of_getElem? hx
        have hstep : ((nms M.V).take (i + 1)).flatMap (fun k => (liveL M.V k).filter fun v => !staysM M o v) = ((nms M.V).take i).flatMap (fun k => (liveL M.V k).filter fun v => !staysM M o v) ++ (liveL M.V k).filter fun v => !staysM M o v := by
          rw [List.take_add_one, hx, List.flatMap_append]; simp
        have hgl1 := hgl (i + 1)
        rw [hstep] at hgl1
        (repeat first | refine gS ?_ | refine gA fun _ => ?_ | refine gX fun _ _ => ?_ | refine gT ?_ | refine gF ?_ | refine gI ?_)
        refine fd (a := mo a M) (E_mo fun r1 r2 r3 kf ks ko Lv Lh hf hs ho => ?_)
        rcases hf k with ⟨_, h2⟩ | ⟨v, h1, h2, h3⟩
        · exact (fof_some hkm h2).elim
        have hrs := rs_pool (B := B) (enc := vC) h2
        (repeat first | refine gS ?_ | refine gA fun _ => ?_ | refine gX fun _ _ => ?_ | refine gT ?_ | refine gF ?_ | refine gI ?_)
        refine E_dlk1 (κ := List UInt8) h1 ?_
        have hfl := fof_len M.V k
        refine cloneV (v := v) (by omega) fun u1 _ => ?_
        refine sm (G := cel true a 82 [.map (some r1), .map (some r2), .map (some r3), I M.began, I M.now, I M.quota] :: dct kL true r1 kf :: dct kL true r2 ks :: dct kI true r3 ko :: spool vC Lv :: dpool kL Lh :: sls vC 98 4 u1 (fof M.V k) :: sls hC 106 2 gv ((((nms M.V).take i).flatMap fun k => (liveL M.V k).filter fun v => !staysM M o v).map hG) :: sls cS 9 1 sv (nms M.V) :: cel true b5 37 [I o.last, I o.young, I o.step, I o.count] :: cel true br 33 [I 0, I 0, nil, nil] :: H) ?_
        refine E_moS (M := M) r1 r2 r3 hf hs ho rfl rfl rfl ?_
        clear hf hs ho hnod hperm hlen hrs h1 h2 h3
        refine E_pur' trivial ?_
        refine sm (G := sls vC 98 4 u1 (fof M.V k) :: pur True :: mo a M :: sls hC 106 2 gv ((((nms M.V).take i).flatMap fun k => (liveL M.V k).filter fun v => !staysM M o v).map hG) :: sls cS 9 1 sv (nms M.V) :: cel true b5 37 [I o.last, I o.young, I o.step, I o.count] :: cel true br 33 [I 0, I 0, nil, nil] :: H) ?_
        refine deleteFunc (p := fun v => v.gone) (by omega) (fun x hxm H' K' hK => ?_) fun u2 _ => ?_
        · refine E_cvv (by kernel_rfl) ?_
          show E B _ (CF Tryz.prog 81 [.agg (vC x).toArray] K')
          refine E_mono (W := s81 _ K') ?_ fun _ => c81
          unfold s81
          unfold vC
          (repeat first | refine gS ?_ | refine gA fun _ => ?_ | refine gX fun _ _ => ?_ | refine gT ?_ | refine gF ?_ | refine gI ?_)
          exact sm hK
        · show E B (sls vC 98 4 u2 (liveL M.V k) :: _) _
          have hll : (liveL M.V k).length ≤ (fof M.V k).length := List.length_filter_le _ _
          have hlsrt := liveL_srt hw.v k
          (repeat first | refine gS ?_ | refine gA fun _ => ?_ | refine gX fun _ _ => ?_ | refine gT ?_ | refine gF ?_ | refine gI ?_)
          refine E_loop (σ := Nat × Value) (fun s => s.1 ≤ (liveL M.V k).length ∧ isCell s.2 = true) (fun s => [ptr a, ptr br, ptr b5, s.2, str k, u2, sv, I (nms M.V).length, I i, u2, I (liveL M.V k).length, I s.1])
            (fun s => sls hC 106 2 s.2 ((((nms M.V).take i).flatMap (fun k => (liveL M.V k).filter fun v => !staysM M o v) ++ ((liveL M.V k).take s.1).filter fun v => !staysM M o v).map hG) :: mo a M :: sls vC 98 4 u2 (liveL M.V k) :: sls cS 9 1 sv (nms M.V) :: cel true b5 37 [I o.last, I o.young, I o.step, I o.count] :: cel true br 33 [I 0, I 0, nil, nil] :: H) (fun s => (liveL M.V k).length - s.1) (0, gv) (fun _ => rfl) rfl ⟨Nat.zero_le _, hgv⟩
            (fun W hW => by
              simp only [List.take_zero, List.filter_nil, List.append_nil] at hW
              exact sm hW) ?_
          rintro ⟨j, gw⟩ K1 ⟨hj, hgw⟩ hk1
          simp only at hj hgw hk1 ⊢
          have : CellI gw := ⟨hgw⟩
          refine E_fa fun _ => ?_
          (repeat first | refine gS ?_ | refine gA fun _ => ?_ | refine gX fun _ _ => ?_ | refine gT ?_ | refine gF ?_ | refine gI ?_)
          refine E_if (fun hc2 => ?_) (fun hc2 => ?_)
          · have hy : (liveL M.V k)[j]? = some (liveL M.V k)[j] := List.getElem?_eq_getElem (by omega)
            generalize (liveL M.V k)[j] = x at hy
            have hxm := (List.mem_filter.1 (List.mem_of_getElem? hy)).1
            have hxn : x.name = k := (fof_mem.1 hxm).2
            have hst2 : ((liveL M.V k).take (j + 1)).filter (fun v => !staysM M o v) = ((liveL M.V k).take j).filter (fun v => !staysM M o v) ++ if staysM M o x then [] else [x] := by
              rw [List.take_add_one, hy, List.filter_append]
              cases hsx : staysM M o x <;> simp [hsx]
            have hlb : ((((nms M.V).take i).flatMap (fun k => (liveL M.V k).filter fun v => !staysM M o v) ++ ((liveL M.V k).take j).filter fun v => !staysM M o v).map hG).length ≤ 2000000 := by
              rw [List.length_map, List.length_append]
              have h1 := hgl i
              have h2 := List.length_filter_le (fun v => !staysM M o v) ((liveL M.V k).take j)
              rw [List.length_take] at h2
              omega
            refine E_joinC (σ := Value) (fun u => isCell u = true) (fun u => [ptr a, ptr br, ptr b5, u, str k, u2, sv, I (nms M.V).length, I i, u2, I (liveL M.V k).length, I j])
              (fun u => sls hC 106 2 u ((((nms M.V).take i).flatMap (fun k => (liveL M.V k).filter fun v => !staysM M o v) ++ ((liveL M.V k).take (j + 1)).filter fun v => !staysM M o v).map hG) :: mo a M :: sls vC 98 4 u2 (liveL M.V k) :: sls cS 9 1 sv (nms M.V) :: cel true b5 37 [I o.last, I o.young, I o.step, I o.count] :: cel true br 33 [I 0, I 0, nil, nil] :: H) (fun q hq => ?_) (fun u hu => ?_)
            · rw [hst2] at hq
              (repeat first | refine gS ?_ | refine gA fun _ => ?_ | refine gX fun _ _ => ?_ | refine gT ?_ | refine gF ?_ | refine gI ?_)
              unfold vC
              (repeat first | refine gS ?_ | refine gA fun _ => ?_ | refine gX fun _ _ => ?_ | refine gT ?_ | refine gF ?_ | refine gI ?_)
              refine fd (a := mo a M) (staysF (v := u2) (L := liveL M.V k) (x := x) (i := j) hw hk (by rw [hxn]) hy ?_)
              cases hsx : staysM M o x with
              | true =>
                rw [hsx] at hq
                simp only [if_true, List.append_nil] at hq
                (repeat first | refine gS ?_ | refine gA fun _ => ?_ | refine gX fun _ _ => ?_ | refine gT ?_ | refine gF ?_ | refine gI ?_)
                exact E_same (by repeat (first | exact Same.refl | (refine Same.cons (by repeat (first | exact Find.here | apply Find.there)) ?_) | (refine Same.drop ?_))) (hq gw hgw)
              | false =>
                rw [hsx] at hq
                simp only [Bool.false_eq_true, if_false] at hq
                (repeat first | refine gS ?_ | refine gA fun _ => ?_ | refine gX fun _ _ => ?_ | refine gT ?_ | refine gF ?_ | refine gI ?_)
                refine E_build (l := [str k, I x.gen]) str_held ?_
                refine E_use (sls hC 106 2 gw) (E_sapp1 (k, x.gen) u_helds elt_held rfl (by decide) (by omega) (by omega) fun u' _ => ?_)
                have hq' := hq u' CellI.pf
                rw [← List.append_assoc, List.map_append] at hq'
                have e : [x].map hG = [(k, x.gen)] := by rw [← hxn]; rfl
                rw [e] at hq'
                exact E_same (by repeat (first | exact Same.refl | (refine Same.cons (by repeat (first | exact Find.here | apply Find.there)) ?_) | (refine Same.drop ?_))) hq'
            · have : CellI u := ⟨hu⟩
              refine E_fa fun _ => ?_
              refine E_addI (by omega) (by omega) ?_
              exact hk1 (j + 1, u) ⟨by simp only; omega, hu⟩ (by simp only; omega)
          · have hje : j = (liveL M.V k).length := by omega
            subst hje
            rw [List.take_length]
            refine E_addI (by omega) (by omega) ?_
            have hk' := hk0 (i + 1, gw) ⟨by simp only; omega, hgw⟩ (by simp only; omega)
            simp only [hstep] at hk'
            exact sm hk'
      · have hin : i = (nms M.V).length := by omega
        subst hin
        have hgl1 := hgl (nms M.V).length
        rw [List.take_length] at hgl1 ⊢
        rw [← goL_flat hw.v.n] at hgl1 ⊢
        (repeat first | refine gS ?_ | refine gA fun _ => ?_ | refine gX fun _ _ => ?_ | refine gT ?_ | refine gF ?_ | refine gI ?_)
        rw [List.length_map]
        refine E_loop (σ := Nat) (fun j => j ≤ (goL M o).length) (fun j => [ptr a, ptr br, gv, gv, I (goL M o).length, I j])
          (fun j => mo a (atE M ((goL M o).take j)) :: sls hC 106 2 gv ((goL M o).map hG) :: cel true br 33 [I 0, I 0, nil, nil] :: H) (fun j => (goL M o).length - j) 0 (fun _ => rfl) rfl (Nat.zero_le _)
          (fun W hW => by
            rw [List.take_zero, atE_nil hsw] at hW
            exact sm hW) ?_
        intro j K1 hj hk1
        refine E_fa fun _ => ?_
        (repeat first | refine gS ?_ | refine gA fun _ => ?_ | refine gX fun _ _ => ?_ | refine gT ?_ | refine gF ?_ | refine gI ?_)
        refine E_if (fun hc2 => ?_) (fun hc2 => ?_)
        · have hy : (goL M o)[j]? = some (goL M o)[j] := List.getElem?_eq_getElem (by omega)
          generalize (goL M o)[j] = x at hy
          have hym : ((goL M o).map hG)[j]? = some (hG x) := by rw [List.getElem?_map, hy]; rfl
          obtain ⟨hxV, hxg⟩ := List.mem_filter.1 (List.mem_of_getElem? hy)
          have hxg : x.gone = false := by
            simp only [goesP, Bool.and_eq_true, Bool.not_eq_true'] at hxg
            exact hxg.1
          have hxD : x ∉ (goL M o).take j := fun hm => by
            obtain ⟨j', hj', e⟩ := List.mem_take_iff_getElem.1 hm
            obtain ⟨hil, hie⟩ := List.getElem?_eq_some_iff.1 hy
            have hp : (goL M o).Pairwise (· ≠ ·) := (srtG_nodup hw.v).sublist List.filter_sublist
            exact List.pairwise_iff_getElem.1 hp j' j (by omega) hil (by omega) (e.trans hie.symm)
          have hwE := atE_wf hw ((goL M o).take j)
          have hfE := fof_len (atE M ((goL M o).take j)).V x.name
          have hnE := hwE.n
          obtain ⟨i, y, e1, e2, e3⟩ := atE_live (D := (goL M o).take j) hw hxV hxg hxD
          (repeat first | refine gS ?_ | refine gA fun _ => ?_ | refine gX fun _ _ => ?_ | refine gT ?_ | refine gF ?_ | refine gI ?_)
          unfold hC
          (repeat first | refine gS ?_ | refine gA fun _ => ?_ | refine gX fun _ _ => ?_ | refine gT ?_ | refine gF ?_ | refine gI ?_)
          refine fd (a := mo a (atE M ((goL M o).take j))) (at_ (n := x.name) (g := x.gen) (by omega) ?_)
          rw [e1, show idxI (some i) = (i : Int) from rfl]
          (repeat (refine E_rck1 (by first | exact E_ld (E_fact rfl) | exact E_ld' (by assumption) (E_fact rfl) | exact E_b2sR (E_fact rfl) | exact E_gdnF (by assumption) (E_ld (E_fact rfl)) | exact E_gdT (by assumption) (E_ld (E_fact rfl)) | exact E_gtf (E_ld (E_fact rfl)) | exact E_gft (E_ld (E_fact rfl)) | exact E_ldNA (E_fact rfl) | exact E_ptld (E_fact rfl) | exact E_gtf (E_ldNA (E_fact rfl))) ?_)); (first | (refine E_rck0 ?_) | skip)
          refine drop hwE e2 ?_
          rw [e3, atE_step hw hxV]
          refine E_addI (by omega) (by omega) ?_
          have hk' := hk1 (j + 1) (by omega) (by omega)
          rw [List.take_add_one, hy] at hk'
          exact E_same (by repeat (first | exact Same.refl | (refine Same.cons (by repeat (first | exact Find.here | apply Find.there)) ?_) | (refine Same.drop ?_))) hk'
        · have hje : j = (goL M o).length := by omega
          subst hje
          rw [List.take_length]
          (repeat first | refine gS ?_ | refine gA fun _ => ?_ | refine gX fun _ _ => ?_ | refine gT ?_ | refine gF ?_ | refine gI ?_)
          rw [List.length_map]
          refine E_build (l := [I 0, I (goL M o).length, nil, nil]) str_ans ?_
          (repeat first | refine gS ?_ | refine gA fun _ => ?_ | refine gX fun _ _ => ?_ | refine gT ?_ | refine gF ?_ | refine gI ?_)
          exact sm (ansE (A := ⟨0, (goL M o).length, [], []⟩) rfl rfl h)
end Go.Proofs.YtabpaknfenpkoaaGreat.Mod
