/-
  Names: files, snapshots, books that are alike.
-/
import Derived.Test.YtjafpncngmbcdaaGreatNnH
set_option linter.unusedSimpArgs false
set_option linter.unusedVariables false
set_option linter.unusedSectionVars false
namespace Go.Proofs.YtjafpncngmbcdaaGreat.Nam
open Go Go.SL Go.Proofs Go.Proofs.YtjafpncngmbcdaaGreat.Sh
variable {B : World} {H : List Asrt} {K : Value → WT} {W : WT} {a b : Nat} {M : Bk} {f : Fa}
variable {fv sv : Cv} {L : List FC} {LS : List SC} {Pf : List (Value × List FC)} {Lv : List (Value × List VR)} {Lr : List (Value × List Rf)} {Ps : List (Value × List SC)} {Lh : List (Value × List (List UInt8 × Int))}
/-- Files that can be read. -/
def FRd (B : World) (H : List Asrt) (L : List FC) (V : List Ver) : Prop := ∀ (i : Nat) (k : List UInt8), (nms V)[i]? = some k → ∃ (c : Cv) (l : List VR), L[i]? = some (k, c) ∧ l.map (·.1) = fof V k ∧ (∀ G, Rs B (G ++ H) c.1 vC l) ∧ ∀ p ∈ l, ∀ G, Rs B (G ++ H) p.2.1 rfC p.1.refs
def SRd (B : World) (H : List Asrt) (L : List SC) (S : List Sn) : Prop := ∀ (i : Nat) (s : Sn), S[i]? = some s → ∃ (c : Cv), L[i]? = some (s, c) ∧ ∀ G, Rs B (G ++ H) c.1 hC s.held
theorem FRd_of {V : List Ver} (h : FsOk Lv Lr L V) (h1 : ∀ v l, (v, l) ∈ Lv → Rs B H v vC l) (h2 : ∀ v l, (v, l) ∈ Lr → Rs B H v rfC l) : FRd B H L V := fun i k hk => by
  rw [← h.1, List.getElem?_map] at hk
  cases hp : L[i]? with
  | none => rw [hp] at hk; cases hk
  | some p =>
    rw [hp] at hk
    obtain ⟨k', c⟩ := p
    cases hk
    obtain ⟨l, hl⟩ := h.2 _ (List.mem_of_getElem? hp)
    exact ⟨c, l, rfl, hl.e, fun G => rs_app G (h1 _ _ hl.m), fun p hp G => rs_app G (h2 _ _ (hl.r p hp))⟩
theorem SRd_of {S : List Sn} (h : ShOk Lh LS S) (h1 : ∀ v l, (v, l) ∈ Lh → Rs B H v hC l) : SRd B H LS S := fun i s hs => by
  rw [← h.1, List.getElem?_map] at hs
  cases hp : LS[i]? with
  | none => rw [hp] at hs; cases hs
  | some p =>
    rw [hp] at hs
    obtain ⟨s', c⟩ := p
    cases hs
    exact ⟨c, rfl, fun G => rs_app G (h1 _ _ (h.2 _ (List.mem_of_getElem? hp)))⟩
attribute [local irreducible] S.pick S.ld S.ldN S.st S.box S.nc S.fad S.ixS S.ixA S.chr S.prt S.ext S.bin S.sh S.sbin S.beq S.neg1 S.com1 S.not1 S.cvt S.str1 S.lenS S.len S.cap S.lenM S.mx S.mn S.mkM S.cond S.gd S.fa S.dr S.rck S.join S.loop S.cvv S.eqv S.slc S.slcS S.b2s S.lk V U CF Gives E cel mpb osl ros dct dit itr lpo dfo
set_option maxRecDepth 8000
attribute [local irreducible] bk dbk
theorem sameFiles {x y : Value} {L1 L2 : List FC} {V : List Ver} [hx : Rs B H x fC L1] [hy : Rs B H y fC L2] (h1 : FRd B H L1 V) (h2 : FRd B H L2 V) (l1 : L1.length = (nms V).length) (l2 : L2.length = (nms V).length) (hn : (nms V).length ≤ 1000) (hfl : ∀ k, (fof V k).length ≤ 1000) (hr : ∀ v ∈ V, v.refs.length ≤ 1000)
    (h : E B H (K (.bool true))) : E B H (CF Tryz.prog 55 [x, y] K) := by
  refine E_mono (W := s55 _ _ K) ?_ fun _ => c55
  unfold s55
  refine E_rslen (v := x) (l := L1) ?_
  refine E_rslen (v := y) (l := L2) ?_
  refine E_neq ?_
  refine E_ifF (by omega) ?_
  refine E_loop (n := 3) (σ := Nat) (fun i => i ≤ L1.length) (fun i => [x, y, I i]) (fun _ => H) (fun i => L1.length - i) 0 (fun _ => rfl) rfl (Nat.zero_le _) (fun W hW => hW) ?_
  rintro i K0 hi hk0
  refine E_fa fun _ => ?_
  refine E_rslen (v := x) (l := L1) ?_
  refine E_lss ?_
  refine E_if (fun hc => ?_) (fun hc => ?_)
  · have hz : (nms V)[i]? = some (nms V)[i] := List.getElem?_eq_getElem (by omega)
    generalize (nms V)[i] = k at hz
    obtain ⟨c1, m1, e1, f1, r1, q1⟩ := h1 i k hz
    obtain ⟨c2, m2, e2, f2, r2, q2⟩ := h2 i k hz
    have hfk := hfl k
    have n1 : m1.length = (fof V k).length := by rw [← f1, List.length_map]
    have n2 : m2.length = (fof V k).length := by rw [← f2, List.length_map]
    have i1 : Rs B H c1.1 vC m1 := r1 []
    have i2 : Rs B H c2.1 vC m2 := r2 []
    refine E_join1 [x, y, I i, .bool false] H (fun q hq => ?_) ?_
    · refine E_dr ?_
      refine E_rsix (v := x) (l := L1) e1 fun _ _ => ?_
      refine E_ptfad0 fun _ _ => ?_
      refine E_ptld (u := str k) ?_
      refine E_rsix (v := y) (l := L2) e2 fun _ _ => ?_
      refine E_ptfad0 fun _ _ => ?_
      refine E_ptld (u := str k) ?_
      refine E_strne ?_
      rw [decide_eq_false (by simp : ¬ k ≠ k)]
      refine E_gft ?_
      refine E_gft ?_
      refine E_gft ?_
      refine E_rsix (v := x) (l := L1) e1 fun _ _ => ?_
      refine E_gft ?_
      refine E_ptfad0 fun _ _ => ?_
      refine E_gft ?_
      refine E_ptld (u := c1.1) ?_
      refine E_gft ?_
      refine E_rslen (v := c1.1) (l := m1) ?_
      refine E_gft ?_
      refine E_gft ?_
      refine E_gft ?_
      refine E_rsix (v := y) (l := L2) e2 fun _ _ => ?_
      refine E_gft ?_
      refine E_ptfad0 fun _ _ => ?_
      refine E_gft ?_
      refine E_ptld (u := c2.1) ?_
      refine E_gft ?_
      refine E_rslen (v := c2.1) (l := m2) ?_
      refine E_gft ?_
      refine E_neq ?_
      rw [decide_eq_false (by omega : ¬ (m1.length : Int) ≠ m2.length)]
      (repeat first | refine gS ?_ | refine gA fun _ => ?_ | refine gX fun _ _ => ?_ | refine gT ?_ | refine gF ?_ | refine gI ?_)
      exact hq
    · refine E_fa fun _ => ?_
      refine E_ff ?_
      refine E_loop (n := 4) (σ := Nat) (fun j => j ≤ m1.length) (fun j => [x, y, I i, I j]) (fun _ => H) (fun j => m1.length - j) 0 (fun _ => rfl) rfl (Nat.zero_le _) (fun W hW => hW) ?_
      rintro j K1 hj hk1
      refine E_fa fun _ => ?_
      refine E_rsix (v := x) (l := L1) e1 fun _ _ => ?_
      refine E_ptfad0 fun _ _ => ?_
      refine E_ptld (u := c1.1) ?_
      refine E_rslen (v := c1.1) (l := m1) ?_
      refine E_lss ?_
      refine E_if (fun hc2 => ?_) (fun hc2 => ?_)
      · have hu : m1[j]? = some m1[j] := List.getElem?_eq_getElem (by omega)
        have hw : m2[j]? = some m2[j] := List.getElem?_eq_getElem (by omega)
        have huw : (m1[j]).1 = (m2[j]).1 := by
          have g1 : (m1.map (·.1))[j]? = some (m1[j]).1 := by rw [List.getElem?_map, hu]; rfl
          have g2 : (m2.map (·.1))[j]? = some (m2[j]).1 := by rw [List.getElem?_map, hw]; rfl
          rw [f1] at g1; rw [f2] at g2
          rw [g1] at g2; exact Option.some.inj g2
        have hV : (m1[j]).1 ∈ V := (fof_mem.1 (f1 ▸ List.mem_map_of_mem (List.getElem_mem _))).1
        generalize m1[j] = u at hu huw hV
        generalize m2[j] = w at hw huw
        have ru := q1 u (List.mem_of_getElem? hu)
        have rw' := q2 w (List.mem_of_getElem? hw)
        have hrl := hr _ hV
        refine E_dr ?_
        refine E_rsix (v := x) (l := L1) e1 fun _ _ => ?_
        refine E_ptfad0 fun _ _ => ?_
        refine E_ptld (u := c1.1) ?_
        refine E_rsix (v := c1.1) (l := m1) hu fun _ _ => ?_
        refine E_ptldA ?_
        refine E_rsix (v := y) (l := L2) e2 fun _ _ => ?_
        refine E_ptfad0 fun _ _ => ?_
        refine E_ptld (u := c2.1) ?_
        refine E_rsix (v := c2.1) (l := m2) hw fun _ _ => ?_
        refine E_ptldA ?_
        rw [← huw] at rw'
        have ew : vC w = [I u.1.gen, I u.1.time, w.2.1, .bool u.1.gone] := by unfold vC; rw [huw]
        rw [ew]
        refine sameVersion (l := u.1.refs) ru rw' (by omega) ?_
        refine E_notb ?_
        refine E_ff ?_
        refine E_addI (by omega) (by omega) ?_
        exact hk1 (j + 1) (by omega) (by omega)
      · refine E_addI (by omega) (by omega) ?_
        exact hk0 (i + 1) (by omega) (by omega)
  · exact h
theorem sameShots {x y : Value} {L1 L2 : List SC} {S : List Sn} [hx : Rs B H x shC L1] [hy : Rs B H y shC L2] (h1 : SRd B H L1 S) (h2 : SRd B H L2 S) (l1 : L1.length = S.length) (l2 : L2.length = S.length) (hn : S.length ≤ 1000) (hh : ∀ s ∈ S, s.held.length ≤ 1000)
    (h : E B H (K (.bool true))) : E B H (CF Tryz.prog 56 [x, y] K) := by
  refine E_mono (W := s56 _ _ K) ?_ fun _ => c56
  unfold s56
  refine E_rslen (v := x) (l := L1) ?_
  refine E_rslen (v := y) (l := L2) ?_
  refine E_neq ?_
  refine E_ifF (by omega) ?_
  refine E_loop (n := 3) (σ := Nat) (fun i => i ≤ L1.length) (fun i => [x, y, I i]) (fun _ => H) (fun i => L1.length - i) 0 (fun _ => rfl) rfl (Nat.zero_le _) (fun W hW => hW) ?_
  rintro i K0 hi hk0
  refine E_fa fun _ => ?_
  refine E_rslen (v := x) (l := L1) ?_
  refine E_lss ?_
  refine E_if (fun hc => ?_) (fun hc => ?_)
  · have hz : S[i]? = some S[i] := List.getElem?_eq_getElem (by omega)
    have hzm := List.mem_of_getElem? hz
    generalize S[i] = s at hz hzm
    obtain ⟨c1, e1, r1⟩ := h1 i s hz
    obtain ⟨c2, e2, r2⟩ := h2 i s hz
    have hhs := hh s hzm
    have i1 : Rs B H c1.1 hC s.held := r1 []
    have i2 : Rs B H c2.1 hC s.held := r2 []
    refine E_join1 [x, y, I i, .bool false] H (fun q hq => ?_) ?_
    · refine E_dr ?_
      refine E_rsix (v := x) (l := L1) e1 fun _ _ => ?_
      refine E_ptfad0 fun _ _ => ?_
      refine E_ptld (u := str s.name) ?_
      refine E_rsix (v := y) (l := L2) e2 fun _ _ => ?_
      refine E_ptfad0 fun _ _ => ?_
      refine E_ptld (u := str s.name) ?_
      refine E_strne ?_
      rw [decide_eq_false (by simp : ¬ s.name ≠ s.name)]
      refine E_gft ?_
      refine E_gft ?_
      refine E_gft ?_
      refine E_rsix (v := x) (l := L1) e1 fun _ _ => ?_
      refine E_gft ?_
      refine E_ptfad0 fun _ _ => ?_
      refine E_gft ?_
      refine E_ptld (u := I s.time) ?_
      refine E_gft ?_
      refine E_gft ?_
      refine E_gft ?_
      refine E_rsix (v := y) (l := L2) e2 fun _ _ => ?_
      refine E_gft ?_
      refine E_ptfad0 fun _ _ => ?_
      refine E_gft ?_
      refine E_ptld (u := I s.time) ?_
      refine E_gft ?_
      refine E_neq ?_
      rw [decide_eq_false (by simp : ¬ s.time ≠ s.time)]
      refine gS ?_
      refine E_gft ?_
      refine E_gft ?_
      refine E_gft ?_
      refine E_rsix (v := x) (l := L1) e1 fun _ _ => ?_
      refine E_gft ?_
      refine E_ptfad0 fun _ _ => ?_
      refine E_gft ?_
      refine E_ptld (u := c1.1) ?_
      refine E_gft ?_
      refine E_gft ?_
      refine E_gft ?_
      refine E_rsix (v := y) (l := L2) e2 fun _ _ => ?_
      refine E_gft ?_
      refine E_ptfad0 fun _ _ => ?_
      refine E_gft ?_
      refine E_ptld (u := c2.1) ?_
      refine E_gft ?_
      refine sameHeld (l := s.held) (by omega) ?_
      refine E_gft ?_
      refine E_notb ?_
      (repeat first | refine gS ?_ | refine gA fun _ => ?_ | refine gX fun _ _ => ?_ | refine gT ?_ | refine gF ?_ | refine gI ?_)
      exact hq
    · refine E_fa fun _ => ?_
      refine E_ff ?_
      refine E_addI (by omega) (by omega) ?_
      exact hk0 (i + 1) (by omega) (by omega)
  · exact h
theorem newestL_len (hw : Inv M) : (newestL M).length ≤ 1000 := by
  have := hw.nl
  exact Nat.le_trans (List.length_filterMap_le _ _) (by omega)
theorem alike (hw : Inv M) (h : E B (bk a M :: dbk b M :: H) (K (.bool true))) : E B (bk a M :: dbk b M :: H) (CF Tryz.prog 21 [ptr a, ptr b] K) := by
  have hnl := hw.nl
  have h16 := hw.s16
  refine E_mono (W := s21 _ _ K) ?_ fun _ => c21
  unfold s21
  refine E_dr ?_
  refine fd (a := dbk b M) (E_dbk fun fv sv L LS Pf Lv Lr Ps Lh hd => ?_)
  have rf : ∀ H, Rs B (spool fC Pf :: H) fv.1 fC L := rs_pool hd.f
  have rs : ∀ H, Rs B (spool shC Ps :: H) sv.1 shC LS := rs_pool hd.s
  (repeat first | refine gS ?_ | refine gA fun _ => ?_)
  refine fd (a := bk a M) (files hw fun v1 L1 Lv1 Lr1 _ hf1 => ?_)
  (repeat (refine E_rck1 (by first | exact E_ld (E_fact rfl) | exact E_ld' (by assumption) (E_fact rfl) | exact E_b2sR (E_fact rfl) | exact E_gdnF (by assumption) (E_ld (E_fact rfl)) | exact E_gdT (by assumption) (E_ld (E_fact rfl)) | exact E_gtf (E_ld (E_fact rfl)) | exact E_gft (E_ld (E_fact rfl)) | exact E_ldNA (E_fact rfl) | exact E_ptld (E_fact rfl) | exact E_gtf (E_ldNA (E_fact rfl))) ?_)); (first | (refine E_rck0 ?_) | skip)
  refine sameFiles (V := M.V) (L1 := L1) (L2 := L) (FRd_of hf1 (fun v l hm => ?_) (fun v l hm => ?_)) (FRd_of hd.fs (fun v l hm => ?_) (fun v l hm => ?_)) (by rw [← hf1.1, List.length_map]) hd.len (by omega) (fun k => by have := hw.fl k; omega) (fun v hv => by have := hw.r v hv; omega) ?_
  · have := rs_pool (B := B) (enc := vC) hm; infer_instance
  · have := rs_pool (B := B) (enc := rfC) hm; infer_instance
  · have := rs_pool (B := B) (enc := vC) hm; infer_instance
  · have := rs_pool (B := B) (enc := rfC) hm; infer_instance
  (repeat first | refine gS ?_ | refine gA fun _ => ?_)
  refine fd (a := bk a M) (shots hw fun v2 L2 Lh2 _ hs2 => ?_)
  (repeat (refine E_rck1 (by first | exact E_ld (E_fact rfl) | exact E_ld' (by assumption) (E_fact rfl) | exact E_b2sR (E_fact rfl) | exact E_gdnF (by assumption) (E_ld (E_fact rfl)) | exact E_gdT (by assumption) (E_ld (E_fact rfl)) | exact E_gtf (E_ld (E_fact rfl)) | exact E_gft (E_ld (E_fact rfl)) | exact E_ldNA (E_fact rfl) | exact E_ptld (E_fact rfl) | exact E_gtf (E_ldNA (E_fact rfl))) ?_)); (first | (refine E_rck0 ?_) | skip)
  (repeat first | refine gS ?_ | refine gA fun _ => ?_)
  refine sameShots (S := M.S) (L1 := L2) (L2 := LS) (SRd_of hs2 (fun v l hm => ?_)) (SRd_of hd.sh (fun v l hm => ?_)) (by rw [← hs2.1, List.length_map]) hd.lenS (by omega) (fun s hs => by have := hw.hh s hs; omega) ?_
  · have := rs_pool (B := B) (enc := hC) hm; infer_instance
  · have := rs_pool (B := B) (enc := hC) hm; infer_instance
  (repeat first | refine gS ?_ | refine gA fun _ => ?_)
  refine fd (a := bk a M) (now ?_)
  (repeat (refine E_rck1 (by first | exact E_ld (E_fact rfl) | exact E_ld' (by assumption) (E_fact rfl) | exact E_b2sR (E_fact rfl) | exact E_gdnF (by assumption) (E_ld (E_fact rfl)) | exact E_gdT (by assumption) (E_ld (E_fact rfl)) | exact E_gtf (E_ld (E_fact rfl)) | exact E_gft (E_ld (E_fact rfl)) | exact E_ldNA (E_fact rfl) | exact E_ptld (E_fact rfl) | exact E_gtf (E_ldNA (E_fact rfl))) ?_)); (first | (refine E_rck0 ?_) | skip)
  (repeat first | refine gS ?_ | refine gA fun _ => ?_)
  rw [decide_eq_true (rfl : M.now = M.now)]
  (repeat first | refine gS ?_ | refine gA fun _ => ?_)
  refine newestAll hw fun v3 _ => ?_
  (repeat first | refine gS ?_ | refine gA fun _ => ?_)
  refine sm (G := cel true b 88 [fv.1, sv.1, I M.now] :: spool fC Pf :: spool vC Lv :: spool rfC Lr :: spool shC Ps :: spool hC Lh :: sls hC 53 2 v3 (newestL M) :: bk a M :: H) ?_
  refine newestD hd hw fun v4 _ => ?_
  (repeat first | refine gS ?_ | refine gA fun _ => ?_)
  refine sameHeld (l := newestL M) (by have := newestL_len hw; omega) ?_
  (repeat first | refine gS ?_ | refine gA fun _ => ?_)
  refine sm (G := cel true b 88 [fv.1, sv.1, I M.now] :: spool fC Pf :: spool vC Lv :: spool rfC Lr :: spool shC Ps :: spool hC Lh :: bk a M :: H) ?_
  refine E_dbkS hd rfl ?_
  exact sm h
end Go.Proofs.YtjafpncngmbcdaaGreat.Nam
