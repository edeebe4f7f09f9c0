/-
  Names: NamesHolds.
-/
import Derived.Test.YtjafpncngmbcdaaGreatNnO
set_option linter.unusedSimpArgs false
set_option linter.unusedVariables false
set_option linter.unusedSectionVars false
namespace Go.Proofs.YtjafpncngmbcdaaGreat.Nam
open Go Go.SL Go.Proofs Go.Proofs.YtjafpncngmbcdaaGreat.Sh
variable {B : World} {H : List Asrt} {K : Value → WT} {W : WT} {a b : Nat} {M : Bk} {f : Fa} {rv hv mv : Value}
theorem snap_ok {shot : List UInt8} (hw : Inv M) (hs : shot.length ≤ 140737488355328) : FaOk (snapF shot M) := by
  have hN := newestL_len hw
  refine ⟨hs, Nat.zero_le _, by show (newestL M).length ≤ _; omega, Nat.zero_le _, fun h hh => ?_⟩
  obtain ⟨i, hi⟩ := List.mem_iff_getElem?.1 (show h ∈ newestL M from hh)
  obtain ⟨v, _, h2, _, _, h5⟩ := newest_get hw hi
  have := hw.nm v h5
  simp only [nameOk, decide_eq_true_eq] at this
  rw [← h2]; omega
/-- Is a fact played behind a snapshot? -/
def plays (shot : List UInt8) (f : Fa) : Bool := decide (f.k ≠ 7) && (decide (f.k ≠ 6) || decide (f.name ≠ shot))
attribute [local irreducible] S.pick S.ld S.ldN S.st S.box S.nc S.fad S.ixS S.ixA S.chr S.prt S.ext S.bin S.sh S.sbin S.beq S.neg1 S.com1 S.not1 S.cvt S.str1 S.lenS S.len S.cap S.lenM S.mx S.mn S.mkM S.cond S.gd S.fa S.dr S.rck S.join S.loop S.cvv S.eqv S.slc S.slcS S.b2s S.lk V U CF Gives E cel mpb osl ros dct dit itr lpo dfo
set_option maxRecDepth 8000
attribute [local irreducible] bk dbk checkB stepM
theorem namesHolds {v0 v2 : Value} {l m : List FV} {shot : List UInt8} (hl : ∀ H, Rs B H v0 faE l) (hin : ∀ p ∈ l, FIn B p) (hl2 : ∀ H, Rs B H v2 faE m) (hin2 : ∀ p ∈ m, FIn B p) (hsh : shot.length ≤ 140737488355328) (h : E B H (K (.bool true))) :
    E B H (CF Tryz.prog 6 [v0, str shot, v2] K) := by
  have rn : ∀ {α : Type} {enc : α → List Value} (H' : List Asrt), Rs B H' nil enc [] := fun H' => ⟨fun _ => .inl ⟨rfl, rfl, rfl⟩⟩
  have n1 : ∀ H', Rs B H' nil rfC [] := rn (enc := rfC)
  have n3 : ∀ H', Rs B H' nil mvC [] := rn (enc := mvC)
  refine E_mono (W := s6 _ _ _ K) ?_ fun _ => c6
  unfold s6
  refine play hl hin fun a b => ?_
  have hw := inv_run (l.map (·.1))
  generalize runM (l.map (·.1)) = M at hw ⊢
  have hN := newestL_len hw
  have hso := snap_ok hw hsh
  (repeat first | refine gS ?_ | refine gA fun _ => ?_ | refine gX fun _ _ => ?_ | refine gT ?_ | refine gF ?_ | refine gI ?_)
  refine now ?_
  (repeat first | refine gS ?_ | refine gA fun _ => ?_ | refine gX fun _ _ => ?_ | refine gT ?_ | refine gF ?_ | refine gI ?_)
  refine newestAll hw fun v33 _ => ?_
  (repeat first | refine gS ?_ | refine gA fun _ => ?_ | refine gX fun _ _ => ?_ | refine gT ?_ | refine gF ?_ | refine gI ?_)
  refine E_build (l := [I 5, I 0, I 0, I 0, str shot, I 0, I M.now, nil, v33, nil, I 0, I 0, I 0, I 0]) str_fact ?_
  refine fd (a := bk a M) ?_
  show E B _ (CF Tryz.prog 23 [ptr a, .agg (faL (snapF shot M) nil v33 nil).toArray] _)
  refine apply (f := snapF shot M) (hr1 := n1 _) (hr2 := rs_sls) (hr3 := fun G => n3 _) hso hw ?_
  have hw1 := hw.step (snapF shot M)
  have hV1 := snap_V shot M
  have hkeep := fun h0 => snap_keep (shot := shot) hw h0
  have hnL : newestL (stepM M (snapF shot M)) = newestL M := newestL_V hV1
  generalize checkB M (snapF shot M) = e at hkeep ⊢
  generalize stepM M (snapF shot M) = M1 at hw1 hV1 hkeep hnL ⊢
  refine newestAll hw1 fun v37 _ => ?_
  rw [hnL]
  refine E_loop (n := 7) (σ := Nat × Cv × List VR × List (Value × List Rf)) (fun s => s.1 ≤ (newestL M).length ∧ s.2.2.1.length = s.1 ∧ (∀ p ∈ s.2.2.1, (p.2.1, p.1.refs) ∈ s.2.2.2) ∧ (s.1 ≠ 0 → e = 0) ∧ (∀ (i : Nat) (p : VR), s.2.2.1[i]? = some p → p.1 ∈ newestV M ∧ p.1.gone = false ∧ ∃ x : List UInt8 × Int, (newestL M)[i]? = some x ∧ p.1.name = x.1))
    (fun s => [str shot, v2, ptr a, I e, v37, s.2.1.1, I s.1]) (fun s => sls vC 31 4 s.2.1.1 s.2.2.1 :: spool rfC s.2.2.2 :: bk a M1 :: sls hC 53 2 v37 (newestL M) :: H) (fun s => (newestL M).length - s.1) (0, ⟨nil, rfl⟩, [], []) (fun _ => rfl) rfl ⟨Nat.zero_le _, rfl, by simp, fun h => absurd rfl h, by simp⟩
    (fun W hW => by
      refine sls_nil vC 4 (T := 31) ?_
      refine pool_new (slQ rfC) ?_
      exact sm hW) ?_
  rintro ⟨i, tv, tl, Qr⟩ K0 ⟨hi, htl, htr, he0, hto⟩ hk0
  simp only at hi htl htr he0 hto hk0 ⊢
  refine E_fa fun _ => ?_
  refine E_join1 [str shot, v2, ptr a, I e, v37, tv.1, I i, .bool (decide (e = 0) && decide ((i : Int) < (newestL M).length))] (sls vC 31 4 tv.1 tl :: spool rfC Qr :: bk a M1 :: sls hC 53 2 v37 (newestL M) :: H) (fun q hq => ?_) ?_
  · (repeat first | refine gS ?_ | refine gY ?_ | refine gA fun _ => ?_ | refine gX fun _ _ => ?_ | refine gI ?_)
    exact sm hq
  refine E_fa fun _ => ?_
  refine E_ifb' (p := e = 0 ∧ i < (newestL M).length) (by simp) (fun hc => ?_) (fun hc => ?_)
  · obtain ⟨hc0, hci⟩ := hc
    have hx : (newestL M)[i]? = some (newestL M)[i] := List.getElem?_eq_getElem (by omega)
    generalize (newestL M)[i] = x at hx
    obtain ⟨v, g1, g2, g3, g4, g5, g6⟩ := newestV_at hw hx
    have hrv := hw.r v g5
    have key : ∀ (b14 : Nat) (K' : Value → WT), (∀ c [CellI c], E B (sls rfC 38 35 c v.refs :: bk a M1 :: cel true b14 31 [I 0, I 0, nil, .bool false] :: sls vC 31 4 tv.1 tl :: spool rfC Qr :: sls hC 53 2 v37 (newestL M) :: H) (K' (.tuple #[.agg #[I v.gen, I v.time, c, .bool v.gone], I 0]))) →
        E B (bk a M1 :: cel true b14 31 [I 0, I 0, nil, .bool false] :: sls vC 31 4 tv.1 tl :: spool rfC Qr :: sls hC 53 2 v37 (newestL M) :: H) (CF Tryz.prog 11 [ptr a, str x.1, I x.2] K') := fun b14 K' hK => by
      refine get hw1 (fun e' => ?_) (fun w c _ e' => ?_)
      · rw [hV1, g1] at e'; cases e'
      · rw [hV1, g1] at e'; cases e'
        exact hK c
    have fin : ∀ (b14 : Nat) (c : Value) [hcc : CellI c], E B (sls rfC 38 35 c v.refs :: bk a M1 :: cel true b14 31 [I v.gen, I v.time, c, .bool v.gone] :: sls vC 31 4 tv.1 tl :: spool rfC Qr :: sls hC 53 2 v37 (newestL M) :: H) (V Tryz.prog (Instr.buildSlice 63 1 #[(0, .agg #[I v.gen, I v.time, c, .bool v.gone])]) fun v67 => V Tryz.prog (Builtin.append_ #[63, 63] 63 #[tv.1, v67]) fun v68 => S.bin .add (I i) (SL.I 1) fun v47 => app 7 K0 [str shot, v2, ptr a, I e, v37, v68, v47]) := fun b14 c hcc => by
      refine fd (a := sls vC 31 4 tv.1 tl) ?_
      refine E_sapp1 (enc := vC) ((v, ⟨c, hcc.pf⟩) : VR) u_vers elt_ver rfl (by decide) (by omega) (by omega) fun tv' htv' => ?_
      refine E_addI (by omega) (by omega) ?_
      refine fd (a := spool rfC Qr) ?_
      refine fd (a := sls rfC 38 35 c v.refs) ?_
      refine E_give ?_
      refine sm (hk0 (i + 1, ⟨tv', htv'.pf⟩, tl ++ [((v, ⟨c, hcc.pf⟩) : VR)], (c, v.refs) :: Qr) ⟨by simp only; omega, by simp [htl], fun p hp => ?_, fun _ => hc0, fun t p hp => ?_⟩ (by simp only; omega))
      · rcases List.mem_append.1 hp with hp | hp
        · exact List.mem_cons_of_mem _ (htr p hp)
        · simp only [List.mem_singleton] at hp
          subst hp; exact List.mem_cons_self
      · have hp : (tl ++ [((v, ⟨c, hcc.pf⟩) : VR)])[t]? = some p := hp
        rcases Nat.lt_or_ge t tl.length with ht | ht
        · rw [List.getElem?_append_left ht] at hp
          exact hto t p hp
        · rw [List.getElem?_append_right ht] at hp
          have : t = tl.length := by
            have := (List.getElem?_eq_some_iff.1 hp).1
            simp at this; omega
          subst this
          simp at hp
          subst hp
          exact ⟨g6, g4, x, by rw [htl]; exact hx, g2⟩
    refine E_dr ?_
    (repeat first | refine gS ?_ | refine gA fun _ => ?_ | refine gX fun _ _ => ?_ | refine gT ?_ | refine gF ?_ | refine gI ?_)
    refine E_both ?_ ?_
    · refine sm (G := bk a M1 :: sls vC 31 4 tv.1 tl :: spool rfC Qr :: sls hC 53 2 v37 (newestL M) :: H) ?_
      refine get hw1 (fun e' => ?_) (fun w c _ e' => ?_)
      · rw [hV1, g1] at e'; cases e'
      · rw [hV1, g1] at e'; cases e'
        (repeat first | refine gS ?_ | refine gA fun _ => ?_ | refine gX fun _ _ => ?_ | refine gT ?_ | refine gF ?_ | refine gI ?_)
        rename_i b14
        exact sm (fin b14 c)
    · refine E_box (vs := [I 0, I 0, nil, .bool false]) fun b14 => ?_
      refine E_rck1 (E_ptld (E_fact rfl)) ?_
      refine E_rck1 (E_ptld (E_fact rfl)) ?_
      refine E_rck0 ?_
      refine sm (G := bk a M1 :: cel true b14 31 [I 0, I 0, nil, .bool false] :: sls vC 31 4 tv.1 tl :: spool rfC Qr :: sls hC 53 2 v37 (newestL M) :: H) ?_
      refine key b14 _ fun c _ => ?_
      (repeat first | refine gS ?_ | refine gA fun _ => ?_ | refine gX fun _ _ => ?_ | refine gT ?_ | refine gF ?_ | refine gI ?_)
      exact sm (fin b14 c)
  · have hend : e ≠ 0 → tl = [] := fun h => List.length_eq_zero_iff.1 (by
      by_cases hi0 : i = 0
      · rw [htl]; exact hi0
      · exact (h (he0 hi0)).elim)
    clear hk0 he0
    refine E_loop (n := 6) (σ := Nat × Bk) (fun s => s.1 ≤ m.length ∧ Inv s.2 ∧ (tl ≠ [] → Keep ⟨shot, M.now, newestL M⟩ (newestV M) s.2)) (fun s => [str shot, v2, ptr a, v37, tv.1, I s.1]) (fun s => bk a s.2 :: sls vC 31 4 tv.1 tl :: spool rfC Qr :: sls hC 53 2 v37 (newestL M) :: H) (fun s => m.length - s.1) (0, M1) (fun _ => rfl) rfl ⟨Nat.zero_le _, hw1, fun ht => hkeep (Classical.byContradiction fun h => ht (hend h))⟩ (fun W hW => sm hW) ?_
    rintro ⟨j, M2⟩ K1 ⟨hj, hw2, hk2⟩ hk1
    simp only at hj hw2 hk2 hk1 ⊢
    refine E_fa fun _ => ?_
    refine E_join1 [str shot, v2, ptr a, v37, tv.1, I j, .bool (decide ((j : Int) < m.length) && decide ((j : Int) < 60))] (bk a M2 :: sls vC 31 4 tv.1 tl :: spool rfC Qr :: sls hC 53 2 v37 (newestL M) :: H) (fun q hq => ?_) ?_
    · refine E_rslen (hf := hl2 _) ?_
      (repeat first | refine gS ?_ | refine gY ?_ | refine gA fun _ => ?_ | refine gX fun _ _ => ?_ | refine gI ?_)
      exact sm hq
    refine E_fa fun _ => ?_
    refine E_ifb' (p := j < m.length ∧ j < 60) (by simp; omega) (fun hc1 => ?_) (fun hc1 => ?_)
    · have hx : m[j]? = some m[j] := List.getElem?_eq_getElem (by omega)
      have hfi := hin2 _ (List.mem_of_getElem? hx)
      generalize m[j] = p at hx hfi
      obtain ⟨g, rv, hv, mv⟩ := p
      have ir : ∀ H, Rs B H rv.1 rfC g.refs := hfi.r
      have ih : ∀ H, Rs B H hv.1 hC g.held := hfi.h
      have im : ∀ H, Rs B H mv.1 mvC g.moves := hfi.m
      have ho : FaOk g := hfi.ok
      refine E_join1 [str shot, v2, ptr a, v37, tv.1, I j] (bk a (if plays shot g = true then stepM M2 g else M2) :: sls vC 31 4 tv.1 tl :: spool rfC Qr :: sls hC 53 2 v37 (newestL M) :: H) (fun q hq => ?_) ?_
      · refine E_join1 [str shot, v2, ptr a, v37, tv.1, I j, .bool (plays shot g)] (bk a M2 :: sls vC 31 4 tv.1 tl :: spool rfC Qr :: sls hC 53 2 v37 (newestL M) :: H) (fun q2 hq2 => ?_) ?_
        · refine E_bsix hl2 hx fun _ _ => ?_
          refine E_ptfad0 fun _ _ => ?_
          refine E_ptld (u := I g.k) ?_
          refine E_neq ?_
          by_cases e7 : g.k ≠ 7
          · rw [decide_eq_true e7]
            refine E_gtf ?_
            refine E_gtf ?_
            refine E_gtf ?_
            refine E_bsix hl2 hx fun _ _ => ?_
            refine E_gtf ?_
            refine E_ptfad0 fun _ _ => ?_
            refine E_gtf ?_
            refine E_ptld (u := I g.k) ?_
            refine E_gtf ?_
            refine E_neq ?_
            refine E_gtf ?_
            by_cases e6 : g.k ≠ 6
            · have : plays shot g = true := by unfold plays; simp [e7, e6]
              rw [this] at hq2
              rw [decide_eq_true e6]
              (repeat first | refine gS ?_ | refine gA fun _ => ?_ | refine gX fun _ _ => ?_ | refine gT ?_ | refine gF ?_ | refine gI ?_)
              exact hq2
            · have : plays shot g = decide (g.name ≠ shot) := by unfold plays; simp [e7, e6]
              rw [this] at hq2
              rw [decide_eq_false e6]
              refine E_gft ?_
              refine E_gft ?_
              refine E_gft ?_
              refine E_bsix hl2 hx fun _ _ => ?_
              refine E_gft ?_
              refine E_ptfad0 fun _ _ => ?_
              refine E_gft ?_
              refine E_ptld (u := str g.name) ?_
              refine E_gft ?_
              refine E_gft ?_
              refine E_strne ?_
              (repeat first | refine gS ?_ | refine gA fun _ => ?_ | refine gX fun _ _ => ?_ | refine gT ?_ | refine gF ?_ | refine gI ?_)
              exact hq2
          · have : plays shot g = false := by unfold plays; simp [e7]
            rw [this] at hq2
            rw [decide_eq_false e7]
            (repeat first | refine gS ?_ | refine gA fun _ => ?_ | refine gX fun _ _ => ?_ | refine gT ?_ | refine gF ?_ | refine gI ?_)
            exact hq2
        · refine E_fa fun _ => ?_
          cases hp : plays shot g with
          | true =>
            rw [hp, if_pos rfl] at hq
            refine E_tt ?_
            refine E_bsix hl2 hx fun _ _ => ?_
            refine E_ptldA ?_
            show E B _ (CF Tryz.prog 23 [ptr a, .agg (faL g rv.1 hv.1 mv.1).toArray] _)
            refine apply (f := g) (hr3 := fun G => im _) ho hw2 ?_
            exact hq
          | false =>
            rw [hp, if_neg (by simp)] at hq
            refine E_ff ?_
            exact hq
      · refine E_fa fun _ => ?_
        refine E_addI (by omega) (by omega) ?_
        refine sm (hk1 (j + 1, if plays shot g = true then stepM M2 g else M2) ⟨by simp only; omega, ?_, fun ht => ?_⟩ (by simp only; omega))
        · simp only
          split
          · exact hw2.step g
          · exact hw2
        · simp only
          split
          · rename_i hp
            unfold plays at hp
            simp only [Bool.and_eq_true, Bool.or_eq_true, decide_eq_true_eq] at hp
            exact (hk2 ht).step hw2 hp.1 hp.2
          · exact hk2 ht
    · clear hk1 hc1
      refine E_loop (n := 5) (σ := Nat) (fun t => t ≤ tl.length) (fun t => [str shot, ptr a, v37, tv.1, I t]) (fun _ => bk a M2 :: sls vC 31 4 tv.1 tl :: spool rfC Qr :: sls hC 53 2 v37 (newestL M) :: H) (fun t => tl.length - t) 0 (fun _ => rfl) rfl (Nat.zero_le _) (fun W hW => sm hW) ?_
      rintro t K2 ht hk3
      refine E_fa fun _ => ?_
      refine E_rslen (v := tv.1) (l := tl) ?_
      refine E_lss ?_
      refine E_if (fun hc2 => ?_) (fun hc2 => ?_)
      · have hy : tl[t]? = some tl[t] := List.getElem?_eq_getElem (by omega)
        generalize tl[t] = p at hy
        have hym := List.mem_of_getElem? hy
        obtain ⟨o1, o2, x, o3, o4⟩ := hto t p hy
        have hK := hk2 (List.ne_nil_of_mem hym)
        obtain ⟨w, w1, w2, w3, w4⟩ := hK.via hw2 (newestL_srt hw) o1
        have w1 : viaM M2 shot p.1.name = some w := w1
        have hwr := hw2.r w (viaM_mem w1)
        have rp := rs_pool (B := B) (enc := rfC) (htr p hym)
        (repeat first | refine gS ?_ | refine gA fun _ => ?_ | refine gX fun _ _ => ?_ | refine gT ?_ | refine gF ?_ | refine gI ?_)
        rw [← o4]
        refine via hw2 (fun e' => ?_) (fun w' c _ e' => ?_)
        · rw [w1] at e'; cases e'
        · rw [w1] at e'; cases e'
          (repeat first | refine gS ?_ | refine gA fun _ => ?_ | refine gX fun _ _ => ?_ | refine gT ?_ | refine gF ?_ | refine gI ?_)
          rename_i b18
          refine E_join1 [str shot, ptr a, v37, tv.1, I t, .bool false] (bk a M2 :: sls vC 31 4 tv.1 tl :: spool rfC Qr :: sls hC 53 2 v37 (newestL M) :: H) (fun q hq => ?_) ?_
          · refine E_dr ?_
            (repeat first | refine gS ?_ | refine gA fun _ => ?_ | refine gX fun _ _ => ?_ | refine gT ?_ | refine gF ?_ | refine gI ?_)
            rw [w2, w3]
            have ev : vC p = [I p.1.gen, I p.1.time, p.2.1, .bool false] := by unfold vC; rw [o2]
            rw [ev]
            rw [w4]
            refine sameVersion (l := p.1.refs) (fun G => rs_app G inferInstance) (fun G => rs_app G inferInstance) (by rw [← w4]; omega) ?_
            (repeat first | refine gS ?_ | refine gA fun _ => ?_ | refine gX fun _ _ => ?_ | refine gT ?_ | refine gF ?_ | refine gI ?_)
            exact sm hq
          · refine E_fa fun _ => ?_
            refine E_ff ?_
            refine E_addI (by omega) (by omega) ?_
            exact hk3 (t + 1) (by omega) (by omega)
      · refine alive ?_
        exact sm h
end Go.Proofs.YtjafpncngmbcdaaGreat.Nam
