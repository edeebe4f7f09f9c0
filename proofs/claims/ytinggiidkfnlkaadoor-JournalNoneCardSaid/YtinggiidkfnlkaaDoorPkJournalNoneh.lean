/-
  Part 8: JnL, JnN, JnS, JnT.
-/
import Derived.Test.YtinggiidkfnlkaaDoorPkJournalNoneg
set_option linter.unusedSimpArgs false
set_option linter.unusedVariables false
set_option linter.unusedSectionVars false
section
namespace Go.Proofs.YtinggiidkfnlkaaDoor.Jn
open Go Go.SL Go.Proofs Go.Proofs.YtinggiidkfnlkaaDoor.Sh Go.Proofs.YtinggiidkfnlkaaDoor.Oct Go.Proofs.YtinggiidkfnlkaaDoor.Disk Go.Proofs.YtinggiidkfnlkaaDoor.Slot
variable {B : World} {H : List Asrt} {K : Value → WT} {W : WT}
attribute [local irreducible] S.pick S.ld S.ldN S.st S.box S.nc S.fad S.ixS S.ixA S.chr S.prt S.ext S.bin S.sh S.sbin S.beq S.neg1 S.com1 S.not1 S.cvt S.str1 S.lenS S.len S.cap S.lenM S.mx S.mn S.mkM S.cond S.gd S.fa S.dr S.rck S.join S.loop S.cvv S.eqv S.slc S.slcS S.b2s S.lk V U CF Gives E cel mpb osl ros dct dit itr lpo dfo
attribute [local irreducible] sls disk rows jr
set_option maxRecDepth 100000
theorem fits {dp n : Nat} {D : Dk} (hl : D.S.length = 2 + 2 * n) (hn2 : 2 ≤ n) (hn : n ≤ 2000) (h : E B (disk dp D :: H) (K (.bool true))) : E B (disk dp D :: H) (CF Tryd.prog 30 [ptr dp, I 0, .agg #[I 2, I n], .agg #[I (2 + n : Nat), I n]] K) := by
  refine E_mono (W := s30 _ _ _ _ K) ?_ fun _ => c30
  unfold s30
  refine E_box (vs := [I 2, I n]) fun b6 => ?_
  refine E_box (vs := [I (2 + n : Nat), I n]) fun b7 => ?_
  refine E_use (Disk.disk dp) (Disk.sectors ?_)
  have l6 : AtLen [I 2, I n] 2 := ⟨rfl⟩
  have l7 : AtLen [I (2 + n : Nat), I n] 2 := ⟨rfl⟩
  refine E_ldNA (l := [I 2, I n]) ?_
  refine E_ldNA (l := [I (2 + n : Nat), I n]) ?_
  refine E_vk (bld33 _ _ _ _) ?_
  rw [hl]
  have one : ∀ (A : Nat) (q : Kn 7) (br : Nat) (i : Int), 2 ≤ A → A + n ≤ 2 + 2 * n → E B (cel true br 32 [I A, I n] :: disk dp D :: cel true b7 32 [I (2 + n : Nat), I n] :: cel true b6 32 [I 2, I n] :: H) (app 7 q [I 0, ptr b6, ptr b7, I (2 + 2 * n : Nat), .agg #[I 2, I n, I (2 + n : Nat), I n], I i, .bool false]) →
      E B (cel true br 32 [I A, I n] :: disk dp D :: cel true b7 32 [I (2 + n : Nat), I n] :: cel true b6 32 [I 2, I n] :: H) (
 S.fad (ptr br) 1 fun v20 =>
 S.ld v20 fun v21 =>
 S.bin .lss v21 (I 2) fun v22 =>
 S.gd v22 false (S.fad (ptr br) 1) fun v24 =>
 S.gd v22 false (S.ld v24) fun v25 =>
 S.gd v22 false (fun k => k (I (2 + 2 * n : Nat))) fun v26 =>
 S.gd v22 false (S.bin .gtr v25 v26) fun v27 =>
 S.pick v22 (.bool true) v27 fun v28 =>
 S.gd v28 false (S.fad (ptr br) 0) fun v30 =>
 S.gd v28 false (S.ld v30) fun v31 =>
 S.gd v28 false (S.bin .lss v31 (I 0)) fun v32 =>
 S.pick v28 (.bool true) v32 fun v33 =>
 S.gd v33 false (S.fad (ptr br) 0) fun v35 =>
 S.gd v33 false (S.ld v35) fun v36 =>
 S.gd v33 false (fun k => k (I (2 + 2 * n : Nat))) fun v37 =>
 S.gd v33 false (S.fad (ptr br) 1) fun v38 =>
 S.gd v33 false (S.ld v38) fun v39 =>
 S.gd v33 false (S.bin .sub v37 v39) fun v40 =>
 S.gd v33 false (S.bin .gtr v36 v40) fun v41 =>
 S.pick v33 (.bool true) v41 fun v42 =>
 S.gd v42 false (S.ldN 2 (ptr br)) fun v44 =>
 S.gd v42 false (fun k => k (I 0)) fun v45 =>
 S.gd v42 false (V Tryd.prog (Instr.build 32 #[(0, v45), (1, (I 2))])) fun v46 =>
 S.gd v42 false (CF Tryd.prog 44 [v44, v46]) fun v47 =>
 S.pick v42 (.bool true) v47 fun v48 =>
 q (I 0) (ptr b6) (ptr b7) (I (2 + 2 * n : Nat)) (.agg #[I 2, I n, I (2 + n : Nat), I n]) (I i) v48) := fun A q br i hA1 hA2 hq => by
    have lr : AtLen [I A, I n] 2 := ⟨rfl⟩
    refine E_fad ?_
    refine E_ld ?_
    refine E_lss ?_
    rw [decide_eq_false (by omega)]
    refine E_gft ?_
    refine E_fad ?_
    refine E_gft ?_
    refine E_ld ?_
    refine E_gft ?_
    refine E_gft ?_
    refine E_gtr ?_
    refine E_pff ?_
    rw [decide_eq_false (by omega)]
    refine E_gft ?_
    refine E_fad0 ?_
    refine E_gft ?_
    refine E_ld ?_
    refine E_gft ?_
    refine E_lss ?_
    refine E_pff ?_
    rw [decide_eq_false (by omega)]
    refine E_gft ?_
    refine E_fad0 ?_
    refine E_gft ?_
    refine E_ld ?_
    refine E_gft ?_
    refine E_gft ?_
    refine E_fad ?_
    refine E_gft ?_
    refine E_ld ?_
    refine E_gft ?_
    refine E_subI (by omega) (by omega) ?_
    refine E_gft ?_
    refine E_gtr ?_
    refine E_pff ?_
    rw [decide_eq_false (by omega)]
    refine E_gft ?_
    refine E_ldNA (l := [I A, I n]) ?_
    refine E_gft ?_
    refine E_gft ?_
    refine E_build (l := [I 0, I 2]) str_run ?_
    refine E_gft ?_
    refine overlap (by omega) (by omega) (by omega) (by omega) (by decide) (by decide) (by decide) (by decide) ?_
    refine E_pff ?_
    rw [decide_eq_false (by omega)]
    exact hq
  refine E_loop (n := 6) (σ := Nat) (fun i => i ≤ 2) (fun i => [I 0, ptr b6, ptr b7, I (2 + 2 * n : Nat), .agg #[I 2, I n, I (2 + n : Nat), I n], I i]) (fun _ => disk dp D :: cel true b7 32 [I (2 + n : Nat), I n] :: cel true b6 32 [I 2, I n] :: H) (fun i => 2 - i) 0 (fun _ => rfl) rfl (by omega) (fun W hW => hW) ?_
  rintro i K0 hi hk
  refine E_fa fun _ => ?_
  refine E_lss ?_
  match i, hi, hk with
  | 0, hi, hk =>
    refine E_ifT (by decide) ?_
    refine E_vk (idx0 _ _ _ _) ?_
    refine E_box (vs := [I 0, I 0]) fun br => ?_
    refine E_stW (vs := [I 2, I n]) rfl rfl ?_
    refine E_join1 [I 0, ptr b6, ptr b7, I (2 + 2 * n : Nat), .agg #[I 2, I n, I (2 + n : Nat), I n], I 0, .bool false] (cel true br 32 [I 2, I n] :: disk dp D :: cel true b7 32 [I (2 + n : Nat), I n] :: cel true b6 32 [I 2, I n] :: H) (fun q hq => one 2 q br 0 (by omega) (by omega) hq) ?_
    refine E_fa fun _ => ?_
    refine E_ff ?_
    refine E_addI (by omega) (by omega) ?_
    exact sm (hk 1 (by omega) (by omega))
  | 1, hi, hk =>
    refine E_ifT (by decide) ?_
    refine E_vk (idx1 _ _ _ _) ?_
    refine E_box (vs := [I 0, I 0]) fun br => ?_
    refine E_stW (vs := [I (2 + n : Nat), I n]) rfl rfl ?_
    refine E_join1 [I 0, ptr b6, ptr b7, I (2 + 2 * n : Nat), .agg #[I 2, I n, I (2 + n : Nat), I n], I 1, .bool false] (cel true br 32 [I (2 + n : Nat), I n] :: disk dp D :: cel true b7 32 [I (2 + n : Nat), I n] :: cel true b6 32 [I 2, I n] :: H) (fun q hq => one (2 + n) q br 1 (by omega) (by omega) hq) ?_
    refine E_fa fun _ => ?_
    refine E_ff ?_
    refine E_addI (by omega) (by omega) ?_
    exact sm (hk 2 (by omega) (by omega))
  | 2, hi, hk =>
    refine E_ifF (by decide) ?_
    refine E_ldNA (l := [I 2, I n]) ?_
    refine E_ldNA (l := [I (2 + n : Nat), I n]) ?_
    refine overlap (by decide) (by decide) (by omega) (by omega) (by omega) (by omega) (by omega) (by omega) ?_
    rw [decide_eq_false (by omega)]
    refine E_notb ?_
    exact sm (G := disk dp D :: H) h
theorem openTop {dp n : Nat} {D : Dk} (hd : D.down = false) (hl : D.S.length = 2 + 2 * n) (hn2 : 2 ≤ n) (hn : n ≤ 2000)
    (h : ∀ lp c, E B (cel true lp 66 (lgC dp c nil (J0 n D.life)) :: disk dp D :: cel true c 91 [ptr dp, I 0, I D.life] :: H) (openC lp c K)) :
    E B (disk dp D :: H) (CF Tryd.prog 12 [ptr dp, I 0, .agg #[I 2, I n], .agg #[I (2 + n : Nat), I n]] K) := by
  refine E_mono (W := s12 _ _ _ _ K) ?_ fun _ => c12
  unfold s12
  refine E_box (vs := [I 2, I n]) fun b6 => ?_
  refine E_box (vs := [I (2 + n : Nat), I n]) fun b7 => ?_
  have l6 : AtLen [I 2, I n] 2 := ⟨rfl⟩
  have l7 : AtLen [I (2 + n : Nat), I n] 2 := ⟨rfl⟩
  refine E_use (Disk.disk dp) (open_ hd (by decide) (by omega) fun c => ?_)
  refine E_ext ?_
  refine E_ext ?_
  refine E_neq ?_
  refine E_ifF (by decide) ?_
  refine E_ldNA (l := [I 2, I n]) ?_
  refine E_ldNA (l := [I (2 + n : Nat), I n]) ?_
  refine E_use (Disk.disk dp) (fits hl hn2 hn ?_)
  refine E_notb ?_
  refine E_ff ?_
  refine E_dr ?_
  refine E_ldNA (l := [I 2, I n]) ?_
  refine E_ldNA (l := [I (2 + n : Nat), I n]) ?_
  refine E_both ?_ ?_
  · refine E_use (Disk.disk dp) (Disk.life ?_)
    refine E_rck1 (E_ldNA (l := [I (2 + n : Nat), I n]) (E_fact rfl)) ?_
    refine E_rck1 (E_ldNA (l := [I 2, I n]) (E_fact rfl)) ?_
    refine E_rck0 ?_
    refine E_vk (bld33 _ _ _ _) ?_
    refine E_build (l := lgC dp c nil (J0 n D.life)) str_log ?_
    refine E_box (vs := lgC dp c nil (J0 n D.life)) fun lp => ?_
    have := h lp c
    unfold openC at this
    refine E_same (G := cel true lp 66 (lgC dp c nil (J0 n D.life)) :: disk dp D :: cel true c 91 [ptr dp, I 0, I D.life] :: H) (by repeat (first | exact Same.refl | (refine Same.cons (by repeat (first | exact Find.here | apply Find.there)) ?_) | (refine Same.drop ?_))) ?_
    exact this
  · refine E_vk (bld33 _ _ _ _) ?_
    refine E_use (Disk.disk dp) (Disk.life ?_)
    refine E_build (l := lgC dp c nil (J0 n D.life)) str_log ?_
    refine E_box (vs := lgC dp c nil (J0 n D.life)) fun lp => ?_
    have := h lp c
    unfold openC at this
    refine E_same (G := cel true lp 66 (lgC dp c nil (J0 n D.life)) :: disk dp D :: cel true c 91 [ptr dp, I 0, I D.life] :: H) (by repeat (first | exact Same.refl | (refine Same.cons (by repeat (first | exact Find.here | apply Find.there)) ?_) | (refine Same.drop ?_))) ?_
    exact this
theorem openNil {n x y : Value} (hx : ∃ a b, x = .agg #[I a, I b]) (hy : ∃ a b, y = .agg #[I a, I b]) (h : E B H (K (.tuple #[.pointer none, I 1]))) : E B H (CF Tryd.prog 12 [.pointer none, n, x, y] K) := by
  obtain ⟨x1, x2, rfl⟩ := hx
  obtain ⟨y1, y2, rfl⟩ := hy
  refine E_mono (W := s12 _ _ _ _ K) ?_ fun _ => c12
  unfold s12
  refine E_box (vs := [I x1, I x2]) fun b6 => ?_
  refine E_box (vs := [I y1, I y2]) fun b7 => ?_
  refine open_nil ?_
  refine E_ext ?_
  refine E_ext ?_
  refine E_neq ?_
  refine E_ifT (by decide) ?_
  exact sm (G := H) h
end Go.Proofs.YtinggiidkfnlkaaDoor.Jn
end
section
namespace Go.Proofs.YtinggiidkfnlkaaDoor.Jn
open Go Go.SL Go.Proofs Go.Proofs.YtinggiidkfnlkaaDoor.Sh Go.Proofs.YtinggiidkfnlkaaDoor.Oct Go.Proofs.YtinggiidkfnlkaaDoor.Disk Go.Proofs.YtinggiidkfnlkaaDoor.Slot
variable {B : World} {H : List Asrt} {K : Value → WT} {W : WT}
def Bs0 (n : Nat) : List (List UInt8) := List.replicate (2 + 2 * n) zero128
def D1 (n : Nat) : Dk := cl ((Bs0 n).set 0 (laidL 1 (cu 0 1 nL))) 0 0
theorem cu_len (a e : Nat) : (cu a e nL).length ≤ 11 := by
  have := nL_len e
  unfold cu; rw [List.length_cons]; omega
theorem zero_at {n i : Nat} (h : i < 2 + 2 * n) : (Bs0 n)[i]? = some zero128 := by
  unfold Bs0
  rw [List.getElem?_replicate, if_pos h]
theorem at0 (n : Nat) (h : 1 ≤ n) : At (Bs0 n) 0 zero128 zero128 := ⟨zero_at (by omega), zero_at (by omega)⟩
theorem tl_zero : tl 6 zero128 = 0 ∧ hd 6 zero128 = 0 := by
  have := (Sm.zero (w := 6) 0 (by decide)).le (by decide) (by decide)
  unfold zero128
  omega
theorem fr_zero (n : Nat) : frN n (cl (Bs0 n) 0 0) 0 = 0 := by
  have hz : ∀ i, i < 2 + 2 * n → (cl (Bs0 n) 0 0).rd (i : Int) = zero128 := fun i hi => rd_cl (zero_at hi)
  have h1 : frT (cl (Bs0 n) 0 0) 2 n 0 ≤ 0 := frT_max (Nat.le_refl _) fun i hi => by
    rw [hz (2 + i) (by omega)]
    have := tl_zero
    omega
  have h2 : frT (cl (Bs0 n) 0 0) (2 + n) n (frT (cl (Bs0 n) 0 0) 2 n 0) ≤ 0 := frT_max h1 fun i hi => by
    rw [hz (2 + n + i) (by omega)]
    have := tl_zero
    omega
  unfold frN
  omega
theorem set_new {n : Nat} (h : 1 ≤ n) : setE (cl (Bs0 n) 0 0) 0 0 (cu 0 1 nL) = 0 ∧ setD (cl (Bs0 n) 0 0) 0 0 (cu 0 1 nL) = D1 n := by
  have := (first_set (k := 0) (l := 0) (at0 n h) (t := cu 0 1 nL) (by have := cu_len 0 1; omega)).1.ok (.inl rfl)
  exact this
theorem up1 {n : Nat} (h : 1 ≤ n) : Up nL n (D1 n) 1 1 0 1 [] 0 := by
  obtain ⟨X, Y, h1, h2⟩ := (first_set (k := 0) (l := 0) (at0 n h) (t := cu 0 1 nL) (by have := cu_len 0 1; omega)).2
  have hx := h1.x
  have hy := h1.y
  have hat : ∀ i, 2 ≤ i → ∀ s, (D1 n).S[i]? = some s → s = ⟨zero128, none⟩ := fun i hi s hs => by
    have hs' : (((Bs0 n).set 0 (laidL 1 (cu 0 1 nL))).map fun b => (⟨b, none⟩ : Sec))[i]? = some s := hs
    rw [List.getElem?_map, List.getElem?_set_ne (by omega)] at hs'
    obtain ⟨b, hb, rfl⟩ := Option.map_eq_some_iff.1 hs'
    unfold Bs0 at hb
    rw [List.getElem?_replicate] at hb
    split at hb
    · cases hb; rfl
    · cases hb
  refine ⟨⟨?_, ⟨1, X, Y, Nat.le_refl _, ?_, ?_, h2⟩, fun i s hi hs => ?_, by decide, by decide, by decide, by decide, by decide⟩, rfl, Int.le_refl 0, ?_, fun r hr => (by cases hr), Nat.zero_le _, Nat.le_refl _⟩
  · show (((Bs0 n).set 0 _).map _).length = _
    rw [List.length_map, List.length_set]; unfold Bs0; rw [List.length_replicate]
  · show (((Bs0 n).set 0 _).map _)[0]? = _
    rw [List.getElem?_map, hx]; rfl
  · show (((Bs0 n).set 0 _).map _)[1]? = _
    rw [List.getElem?_map, show (1 : Nat) = 0 + 1 from rfl, hy]; rfl
  · rw [hat i hi s hs]
    exact FS.clean (Sm.zero 1 (by decide))
  · intro i s hs
    unfold secs at hs
    have hs2 : (D1 n).S[ar n 0 + i]? = some s := by
      have := List.mem_of_getElem? hs
      have hi : i < n := by
        have := (List.getElem?_eq_some_iff.1 hs).1
        rw [List.length_take] at this; omega
      rw [List.getElem?_take_of_lt hi, List.getElem?_drop] at hs
      exact hs
    have := hat _ (by unfold ar; omega) s hs2
    subst this
    refine ⟨fun x hx => (by simp [allL] at hx), fun _ => ⟨by have := tl_zero; simp only; omega, fun b hb => by cases hb⟩⟩
theorem new_get {n : Nat} (h : 1 ≤ n) : getE (cl (Bs0 n) 0 0) 0 0 = 9 ∧ getB (cl (Bs0 n) 0 0) 0 0 = [] ∧ ∀ c ∈ zero128, c = 0 := by
  have hz : ∀ c ∈ zero128, c = 0 := fun c h => by unfold zero128 at h; exact (List.mem_replicate.1 h).2
  have hE := (at0 n h).getE (k := 0) (l := 0)
  have hB := (at0 n h).getB (k := 0) (l := 0)
  rw [rd_zero, if_pos (by decide)] at hE hB
  rw [if_pos ⟨hz, hz⟩] at hE
  exact ⟨hE, hB, hz⟩
attribute [local irreducible] S.pick S.ld S.ldN S.st S.box S.nc S.fad S.ixS S.ixA S.chr S.prt S.ext S.bin S.sh S.sbin S.beq S.neg1 S.com1 S.not1 S.cvt S.str1 S.lenS S.len S.cap S.lenM S.mx S.mn S.mkM S.cond S.gd S.fa S.dr S.rck S.join S.loop S.cvv S.eqv S.slc S.slcS S.b2s S.lk V U CF Gives E cel mpb osl ros dct dit itr lpo dfo
attribute [local irreducible] sls disk rows jr
set_option maxRecDepth 100000
theorem openNew {dp n : Nat} (hn2 : 2 ≤ n) (hn : n ≤ 2000) (h : ∀ lp, E B (jr B lp dp ⟨n, 0, 1, 0, [], true, 0⟩ :: disk dp (D1 n) :: H) (K (.tuple #[ptr lp, I 0]))) :
    E B (disk dp (Dk.new (2 + 2 * n)) :: H) (CF Tryd.prog 12 [ptr dp, I 0, .agg #[I 2, I n], .agg #[I (2 + n : Nat), I n]] K) := by
  rw [new_cl, show List.replicate (2 + 2 * n) zero128 = Bs0 n from rfl]
  have hl : (cl (Bs0 n) 0 0).S.length = 2 + 2 * n := by unfold cl Bs0; simp
  obtain ⟨g1, g2, g3⟩ := new_get (n := n) (by omega)
  obtain ⟨s1, s2⟩ := set_new (n := n) (by omega)
  refine openTop rfl hl hn2 hn fun lp c => ?_
  unfold openC
  refine fd (a := disk dp (cl (Bs0 n) 0 0)) ?_
  refine Slot.get (a := dp) (c := c) (base := 0) (life := 0) (by decide) (by decide) (fun _ _ => ⟨?_, ?_⟩) fun v45 _ => ?_
  · rw [show (cl (Bs0 n) 0 0).rd 0 = zero128 from rd_cl (i := 0) (zero_at (by omega))]
    exact ah_zero g3
  · rw [show (cl (Bs0 n) 0 0).rd (0 + 1) = zero128 from rd_cl (i := 1) (zero_at (by omega))]
    exact ah_zero g3
  rw [g1]
  refine E_ext ?_
  refine E_ext ?_
  refine E_eql ?_
  refine E_ifT rfl ?_
  refine rows_nil ?_
  refine E_same (G := cel true lp 66 (lgC dp c nil (J0 n 0)) :: cel true c 91 [ptr dp, I 0, I 0] :: rows B nil [] :: disk dp (cl (Bs0 n) 0 0) :: H) (by repeat (first | exact Same.refl | (refine Same.cons (by repeat (first | exact Find.here | apply Find.there)) ?_) | (refine Same.drop ?_))) ?_
  refine E_jrS (J := J0 n 0) ?_
  refine format rfl hl (fr_zero n) s1 ?_
  rw [s2]
  refine E_ext ?_
  refine E_ext ?_
  exact h lp
end Go.Proofs.YtinggiidkfnlkaaDoor.Jn
end
section
namespace Go.Proofs.YtinggiidkfnlkaaDoor.Jn
open Go Go.SL Go.Proofs Go.Proofs.YtinggiidkfnlkaaDoor.Sh Go.Proofs.YtinggiidkfnlkaaDoor.Oct Go.Proofs.YtinggiidkfnlkaaDoor.Disk Go.Proofs.YtinggiidkfnlkaaDoor.Slot
variable {B : World} {H : List Asrt} {K : Value → WT} {W : WT}
def Jl.of (n a e : Nat) (all : List (List UInt8)) (life : Int) : Jl := ⟨n, a, e, tot all, all, true, life⟩
theorem recs_len {all : List (List UInt8)} (h : ∀ r ∈ all, Rec r) : all.length ≤ tot all := by
  induction all with
  | nil => exact Nat.zero_le _
  | cons r l ih =>
    have h1 := (h r (List.mem_cons_self ..)).1
    have h2 := ih fun x hx => h x (List.mem_cons_of_mem _ hx)
    unfold tot at h2 ⊢
    rw [allL_cons, List.length_append, leaves_len, List.length_cons]
    have : 1 ≤ takes r.length := by unfold takes; omega
    omega
theorem Up.jok {n N m a e sure : Nat} {D : Dk} {all : List (List UInt8)} {life : Int} (h : Up nL n D N m a e all sure) (hn : n ≤ 2000) : JOk (Jl.of n a e all life) := by
  have hb := h.bse
  have h1 := recs_len h.ok
  have h2 := h.le
  exact ⟨hb.a1, hn, h.le, by show e ≤ lastE; have := hb.eN; have := hb.N1; unfold lastE; omega, fun r hr => (h.ok r hr).2, by show all.length ≤ 2000; unfold tot at h1; omega⟩
theorem off_up {D : Dk} (h : D.down = false) : offE D D.life = 0 := by unfold offE; simp [h]
theorem app_up {n N m a e sure : Nat} {D : Dk} {all : List (List UInt8)} {r : List UInt8} (h : Up nL n D N m a e all sure) :
    (wr1 r ≠ 0 ∧ appR D (Jl.of n a e all D.life) r = (D, Jl.of n a e all D.life, wr1 r)) ∨ (wr1 r = 0 ∧ n < tot all + takes r.length ∧ appR D (Jl.of n a e all D.life) r = (D, Jl.of n a e all D.life, 8)) ∨
    (wr1 r = 0 ∧ tot all + takes r.length ≤ n ∧ ((∃ D', appR D (Jl.of n a e all D.life) r = (D', Jl.of n a e (all ++ [r]) D.life, 0) ∧ D'.life = D.life ∧ Up nL n D' N m a e (all ++ [r]) sure) ∨
      (D.trip ≠ 0 ∧ ∃ D', appR D (Jl.of n a e all D.life) r = (D', Jl.of n a e all D.life, 7) ∧ D'.life = D.life ∧ D'.down = true ∧ Dead nL n D' N m (Begin all sure)))) := by
  have ho := off_up h.dn
  have e0 : appR D (Jl.of n a e all D.life) r = if wr1 r ≠ 0 then (D, Jl.of n a e all D.life, wr1 r) else if n - tot all < takes r.length then (D, Jl.of n a e all D.life, 8) else
      if (wrL e (ar n a) D (tot all) (leavesOf r)).2 ≠ 0 then ((wrL e (ar n a) D (tot all) (leavesOf r)).1, Jl.of n a e all D.life, (wrL e (ar n a) D (tot all) (leavesOf r)).2) else
      ((wrL e (ar n a) D (tot all) (leavesOf r)).1, { Jl.of n a e all D.life with fin := tot all + takes r.length, recs := all ++ [r] }, 0) := by
    unfold appR
    rw [show (Jl.of n a e all D.life).life = D.life from rfl, if_neg (by rw [ho]; simp), if_neg (by show ¬ true = false; decide)]
    rfl
  rw [e0]
  by_cases h1 : wr1 r ≠ 0
  · exact .inl ⟨h1, by rw [if_pos h1]⟩
  rw [if_neg h1]
  have h1' : wr1 r = 0 := by simpa using h1
  have hle : tot all ≤ n := h.le
  by_cases h2 : n - tot all < takes r.length
  · exact .inr (.inl ⟨h1', by omega, by rw [if_pos h2]⟩)
  rw [if_neg h2]
  refine .inr (.inr ⟨h1', by omega, ?_⟩)
  have hrec := wr1_ok h1'
  obtain ⟨a1, a2⟩ := ar_le (n := n) h.bse.a1
  have hlen := h.bse.len
  have hll := leaves_len r
  have hu := h.append hrec (show (allL all).length + takes r.length ≤ n by unfold tot at h2 hle; omega)
  have hw := (wrL_out (e := e) (A := ar n a) (l := leavesOf r) (n := (allL all).length) h.dn h.tr (by unfold tot at h2 hle; omega) (fun x hx => (leaves_ok hx).2.2.2)).zero
  rw [show (allL all).length = tot all from rfl] at hu hw
  obtain ⟨hl, hu⟩ := hu
  rcases hu with ⟨u1, u2⟩ | ⟨u1, u2, u3⟩
  · refine .inl ⟨_, ?_, hl, u2⟩
    rw [if_neg (by rw [u1]; simp)]
    have ht : tot (all ++ [r]) = tot all + takes r.length := by unfold tot; rw [allL_app, List.length_append]; simp [allL, leaves_len]
    unfold Jl.of
    rw [ht]
  · refine .inr ⟨fun hz => by have := (hw hz).1; omega, _, ?_, hl, u2, u3⟩
    rw [if_pos (by rw [u1]; decide), u1]
attribute [local irreducible] S.pick S.ld S.ldN S.st S.box S.nc S.fad S.ixS S.ixA S.chr S.prt S.ext S.bin S.sh S.sbin S.beq S.neg1 S.com1 S.not1 S.cvt S.str1 S.lenS S.len S.cap S.lenM S.mx S.mn S.mkM S.cond S.gd S.fa S.dr S.rck S.join S.loop S.cvv S.eqv S.slc S.slcS S.b2s S.lk V U CF Gives E cel mpb osl ros dct dit itr lpo dfo
attribute [local irreducible] sls disk rows jr
set_option maxRecDepth 100000
theorem live (h : E B H (K (.bool true))) : E B H (CF Tryd.prog 9 [] K) := by
  refine E_mono (W := s9 K) ?_ fun _ => c9
  unfold s9
  refine Disk.new (fun hb => by omega) (fun _ _ dp => ?_)
  rw [show (20 : Int).toNat = 2 + 2 * 9 from rfl]
  refine E_ext ?_
  refine E_ext ?_
  refine E_join1 [ptr dp, .bool false] (disk dp (Dk.new (2 + 2 * 9)) :: H) (fun q hq => ?_) ?_
  · refine E_neq ?_
    rw [decide_eq_false (by decide)]
    refine E_gft ?_
    refine E_gft ?_
    refine E_peq u_pDisk ?_
    refine E_pff ?_
    exact hq
  refine E_fa fun _ => ?_
  refine E_ff ?_
  refine E_build (l := [I 2, I 9]) str_run ?_
  refine E_build (l := [I 11, I 9]) str_run ?_
  refine openNew (n := 9) (by decide) (by decide) fun lp => ?_
  refine E_ext ?_
  refine E_ext ?_
  have hu := up1 (n := 9) (by decide)
  have happ := app_up (r := [97]) hu
  rw [show (D1 9).life = 0 from rfl] at happ
  have hJ : (⟨9, 0, 1, 0, [], true, 0⟩ : Jl) = Jl.of 9 0 1 [] 0 := rfl
  rcases happ with ⟨h1, _⟩ | ⟨_, h2, _⟩ | ⟨_, _, h3⟩
  · exact absurd (by decide) h1
  · have : tot [] + takes [(97 : UInt8)].length = 1 := by decide
    omega
  rcases h3 with ⟨D', e1, _, u1⟩ | ⟨ht, _⟩
  rotate_left
  · exact absurd rfl ht
  refine E_join1 [ptr lp, .bool false] (jr B lp dp (Jl.of 9 0 1 [[97]] 0) :: disk dp D' :: H) (fun q hq => ?_) ?_
  · refine E_neq ?_
    rw [decide_eq_false (by decide)]
    refine E_gft ?_
    refine E_gft ?_
    refine E_peq u_pLog ?_
    refine E_pff ?_
    refine E_gft ?_
    refine E_gft ?_
    refine settled ?_
    refine E_gft ?_
    refine E_notT ?_
    refine E_pff ?_
    refine E_gft ?_
    refine E_gft ?_
    refine left (by decide) (by decide) (by decide) ?_
    refine E_gft ?_
    refine E_neq ?_
    refine E_pff ?_
    rw [decide_eq_false (by decide)]
    refine E_gft ?_
    refine E_gft ?_
    refine E_bsl (l0 := [.int .u8 0]) [(0, 1)] u_bytes elt_byte (by simp) (by decide) rfl fun b1 => ?_
    refine E_gft ?_
    refine E_cvslice u_bytes u_byte ?_
    refine E_slsC (enc := cB) [97] 1 rfl rfl ?_
    refine E_gft ?_
    refine E_same (G := jr B lp dp (Jl.of 9 0 1 [] 0) :: disk dp (D1 9) :: sls cB 5 1 (.slice (some ⟨b1, 0, none⟩) 1 1) [97] :: H) (by repeat (first | exact Same.refl | (refine Same.cons (by repeat (first | exact Find.here | apply Find.there)) ?_) | (refine Same.drop ?_))) ?_
    have hb : ∀ Q, Rb B (Q ++ (sls cB 5 1 (.slice (some ⟨b1, 0, none⟩) 1 1) [97] :: H)) (.slice (some ⟨b1, 0, none⟩) 1 1) [97] := fun Q => rb_rs (rs_app Q rs_sls)
    refine append (r := [97]) (hu.jok (by decide)) (by decide) ?_
    rw [e1]
    simp only [List.nil_append]
    refine E_gft ?_
    refine E_neq ?_
    refine E_pff ?_
    rw [decide_eq_false (by decide)]
    exact sm (G := jr B lp dp (Jl.of 9 0 1 [[97]] 0) :: disk dp D' :: H) hq
  refine E_fa fun _ => ?_
  refine E_ff ?_
  refine records (u1.jok (by decide)) fun v47 _ => ?_
  refine E_rows fun bs L hr => ?_
  have hre : bs.map (·.bs) = [[97]] := hr.e
  have hbl : bs.length = 1 := by have := congrArg List.length hre; simpa using this
  obtain ⟨p, rfl⟩ : ∃ p, bs = [p] := by
    match bs, hbl with
    | [p], _ => exact ⟨p, rfl⟩
  have hp : p.bs = [97] := by simpa using hre
  have hpr := hr.r p (List.mem_singleton.2 rfl) (jr B lp dp (Jl.of 9 0 1 [[97]] 0) :: disk dp D' :: H)
  rw [hp] at hpr
  have hpr2 : Rb B (sls cV 22 1 v47 [p] :: spool cB L :: jr B lp dp (Jl.of 9 0 1 [[97]] 0) :: disk dp D' :: H) p.v [97] := rb_there
  refine E_rslen (v := v47) (l := [p]) ?_
  refine E_eql ?_
  rw [show decide ((([p] : List Bv).length : Int) = 1) = true from rfl]
  refine E_gtf ?_
  refine E_gtf ?_
  refine E_rsix (v := v47) (l := [p]) (i := 0) (x := p) rfl fun _ _ => ?_
  refine E_gtf ?_
  refine E_ptld ?_
  refine E_gtf ?_
  refine E_b2sR (v := p.v) (bs := [97]) ?_
  refine E_gtf ?_
  refine E_streqS ?_
  refine E_ptt ?_
  refine E_gtf ?_
  refine E_gtf ?_
  refine fd (a := jr B lp dp (Jl.of 9 0 1 [[97]] 0)) ?_
  refine left (by decide) (by decide) (by decide) ?_
  refine E_gtf ?_
  refine E_eql ?_
  refine E_ptt ?_
  rw [decide_eq_true (by decide)]
  refine E_gtf ?_
  refine takesP (n := 108) (by decide) ?_
  refine E_gtf ?_
  refine E_eql ?_
  refine E_ptt ?_
  rw [decide_eq_true (by decide)]
  refine E_gtf ?_
  refine takesP (n := 109) (by decide) ?_
  refine E_gtf ?_
  refine E_eql ?_
  refine E_ptt ?_
  rw [decide_eq_true (by decide)]
  exact sm (G := H) h
abbrev rnC (dp lp : Nat) (all half : Value) (sure : Int) (br : Bool) : List Value := [ptr dp, ptr lp, all, I sure, half, .bool br, I 2, I 40, I 42, I 40, .bool false]
theorem str_rn : Str Tryd.prog 35 [(0, 1), (1, 1), (2, 1), (3, 1), (4, 1), (5, 1), (6, 4), (10, 1)] [.pointer none, .pointer none, nil, I 0, nil, .bool false, I 0, I 0, I 0, I 0, .bool false] := str_of (zv := .agg #[.pointer none, .pointer none, nil, I 0, nil, .bool false, I 0, I 0, I 0, I 0, .bool false]) (by kernel_rfl) (by kernel_rfl) rfl
theorem start (h : ∀ rp dp lp, E B (cel true rp 35 (rnC dp lp nil nil 0 false) :: jr B lp dp (Jl.of 40 0 1 [] 0) :: disk dp (D1 40) :: H) (K (.tuple #[ptr rp, .bool true]))) : E B H (CF Tryd.prog 6 [] K) := by
  refine E_mono (W := s6 K) ?_ fun _ => c6
  unfold s6
  refine Disk.new (fun hb => by omega) (fun _ _ dp => ?_)
  rw [show (82 : Int).toNat = 2 + 2 * 40 from rfl]
  refine E_ext ?_
  refine E_ext ?_
  refine E_join1 [ptr dp, .bool false] (disk dp (Dk.new (2 + 2 * 40)) :: H) (fun q hq => ?_) ?_
  · refine E_neq ?_
    rw [decide_eq_false (by decide)]
    refine E_gft ?_
    refine E_gft ?_
    refine E_peq u_pDisk ?_
    refine E_pff ?_
    exact hq
  refine E_fa fun _ => ?_
  refine E_ff ?_
  refine E_build (l := [I 2, I 40]) str_run ?_
  refine E_build (l := [I 42, I 40]) str_run ?_
  refine E_vk (bld33 _ _ _ _) ?_
  refine E_build (l := [ptr dp, .pointer none, nil, I 0, nil, .bool false, I 2, I 40, I 42, I 40, .bool false]) str_rn ?_
  refine E_box (vs := [ptr dp, .pointer none, nil, I 0, nil, .bool false, I 2, I 40, I 42, I 40, .bool false]) fun rp => ?_
  refine E_dr ?_
  refine E_nc ?_
  refine E_fad ?_
  refine E_ixAo (by decide) (by decide) ?_
  refine E_ldN (cs := [I 2, I 40]) rfl rfl ?_
  refine E_nc ?_
  refine E_fad ?_
  refine E_ixAo (by decide) (by decide) ?_
  refine E_ldN (cs := [I 42, I 40]) rfl rfl ?_
  refine E_perm (.swap ..) ?_
  refine openNew (n := 40) (by decide) (by decide) fun lp => ?_
  refine E_ext ?_
  refine E_ext ?_
  refine E_nc ?_
  refine E_fad ?_
  refine E_st' (by simp) ?_
  refine E_eql ?_
  rw [decide_eq_true rfl]
  refine E_gtf ?_
  refine E_gtf ?_
  refine E_pne u_pLog ?_
  refine E_ptt ?_
  exact h rp dp lp
end Go.Proofs.YtinggiidkfnlkaaDoor.Jn
end
section
namespace Go.Proofs.YtinggiidkfnlkaaDoor.Jn
open Go Go.SL Go.Proofs Go.Proofs.YtinggiidkfnlkaaDoor.Sh Go.Proofs.YtinggiidkfnlkaaDoor.Oct Go.Proofs.YtinggiidkfnlkaaDoor.Disk Go.Proofs.YtinggiidkfnlkaaDoor.Slot
variable {B : World} {H : List Asrt} {K : Value → WT} {W : WT}
attribute [local irreducible] S.pick S.ld S.ldN S.st S.box S.nc S.fad S.ixS S.ixA S.chr S.prt S.ext S.bin S.sh S.sbin S.beq S.neg1 S.com1 S.not1 S.cvt S.str1 S.lenS S.len S.cap S.lenM S.mx S.mn S.mkM S.cond S.gd S.fa S.dr S.rck S.join S.loop S.cvv S.eqv S.slc S.slcS S.b2s S.lk V U CF Gives E cel mpb osl ros dct dit itr lpo dfo
attribute [local irreducible] sls disk rows jr
set_option maxRecDepth 100000
theorem append_nil {v : Value} (h : E B H (K (I 1))) : E B H (CF Tryd.prog 8 [.pointer none, v] K) := by
  refine E_mono (W := s8 _ _ K) ?_ fun _ => c8
  unfold s8
  refine off_nil ?_
  refine E_neq ?_
  refine E_ifT (by decide) ?_
  exact h
theorem flush_nil (h : E B H (K (I 1))) : E B H (CF Tryd.prog 14 [.pointer none] K) := by
  refine E_mono (W := s14 _ K) ?_ fun _ => c14
  unfold s14
  refine off_nil ?_
  refine E_join1 [.pointer none, I 1, .bool false] H (fun q hq => ?_) ?_
  · refine E_eql ?_
    refine E_ifF (by decide) ?_
    refine E_eql ?_
    rw [decide_eq_false (by decide)]
    exact hq
  refine E_fa fun _ => ?_
  refine E_ff ?_
  exact h
theorem renew_nil {v : Value} (h : E B H (K (I 1))) : E B H (CF Tryd.prog 15 [.pointer none, v] K) := by
  refine E_mono (W := s15 _ _ K) ?_ fun _ => c15
  unfold s15
  refine off_nil ?_
  refine E_neq ?_
  refine E_ifT (by decide) ?_
  exact h
theorem str_crashJ : Str Tryd.prog 47 [(0, 1), (1, 1), (2, 1)] [.slice none 0 0, I 0, I 0] := str_of (zv := .agg #[.slice none 0 0, I 0, I 0]) (by kernel_rfl) (by kernel_rfl) rfl
def lost : Cr := ⟨[], -1, 0⟩
theorem crash0 {a : Nat} {D : Dk} (h : E B (disk a (D.crash lost) :: H) (K (.tuple #[]))) : E B (disk a D :: H) (V Tryd.prog (Instr.build 47 #[(1, (I (-1)))]) fun v => CF Tryd.prog 13 [ptr a, v] K) := by
  refine E_build (l := [nil, I (-1), I 0]) str_crashJ ?_
  have : Rx B H nil lost.keep.length (bools lost.keep) := ⟨fun _ => .inl ⟨rfl, rfl, rfl⟩⟩
  exact Disk.crash (c := lost) h
theorem stale {D : Dk} {life : Int} (h : D.life ≠ life) : offE D life = 14 := by unfold offE; rw [if_pos h]
theorem journalNone {v : Value} {r : List UInt8} {sz base x0 x1 y0 y1 : Int} [hb : BaseR B v r] (hr : r.length ≤ 9223372036854775807) (h : E B H (K (.bool true))) : E B H (CF Tryd.prog 4 [.agg #[.int .u8 sz, I base, I x0, I x1, I y0, I y1], v] K) := by
  refine E_mono (W := s4 _ _ K) ?_ fun _ => c4
  unfold s4
  refine E_box (vs := [.int .u8 sz, I base, I x0, I x1, I y0, I y1]) fun b2 => ?_
  refine E_fad ?_
  refine E_ld ?_
  refine E_fad ?_
  refine E_ldN (cs := [I x0, I x1]) rfl rfl ?_
  refine E_fad ?_
  refine E_ldN (cs := [I y0, I y1]) rfl rfl ?_
  refine openNil ⟨_, _, rfl⟩ ⟨_, _, rfl⟩ ?_
  refine E_ext ?_
  refine E_ext ?_
  refine start fun rp dp lp => ?_
  refine E_ext ?_
  refine E_ext ?_
  refine E_notT ?_
  refine E_ff ?_
  refine E_nc ?_
  refine E_fad0 ?_
  refine E_ld ?_
  have hu := up1 (n := 40) (by decide)
  have hJ := hu.jok (life := 0) (by decide)
  refine fd (a := disk dp (D1 40)) (crash0 ?_)
  have hl : ((D1 40).crash lost).life ≠ 0 := by decide
  have hS : ((D1 40).crash lost).S.length = 2 + 2 * 40 := by
    obtain ⟨Bs, l, c1, _, c3, _⟩ := crash_cl2 (D1 40) lost
    rw [c1]
    unfold cl
    rw [List.length_map, c3]
    exact hu.bse.len
  generalize (D1 40).crash lost = D at hl hS
  have ho := stale hl
  refine live ?_
  refine E_gtf ?_
  refine E_gtf ?_
  refine E_eql ?_
  rw [decide_eq_true rfl]
  refine E_ptt ?_
  refine E_gtf ?_
  refine E_gtf ?_
  refine E_gtf ?_
  refine append_nil ?_
  refine E_gtf ?_
  refine E_eql ?_
  rw [decide_eq_true rfl]
  refine E_ptt ?_
  refine E_gtf ?_
  refine E_gtf ?_
  refine flush_nil ?_
  refine E_gtf ?_
  refine E_eql ?_
  rw [decide_eq_true rfl]
  refine E_ptt ?_
  refine E_gtf ?_
  refine E_gtf ?_
  refine renew_nil ?_
  refine E_gtf ?_
  refine E_eql ?_
  rw [decide_eq_true rfl]
  refine E_ptt ?_
  refine E_gtf ?_
  refine E_gtf ?_
  refine settled_nil ?_
  refine E_gtf ?_
  refine E_notF ?_
  refine E_ptt ?_
  refine E_gtf ?_
  refine E_gtf ?_
  refine left_nil ?_
  refine E_gtf ?_
  refine E_gtf ?_
  refine records_nil ?_
  refine E_gtf ?_
  refine E_len ?_
  refine E_gtf ?_
  refine E_addI (by decide) (by decide) ?_
  refine E_gtf ?_
  refine E_eql ?_
  rw [decide_eq_true (by decide)]
  refine E_ptt ?_
  refine E_gtf ?_
  refine E_gtf ?_
  refine E_nc ?_
  refine E_gtf ?_
  refine E_fad ?_
  refine E_gtf ?_
  refine E_ld ?_
  refine E_gtf ?_
  refine E_gtf ?_
  refine E_same (G := jr B lp dp (Jl.of 40 0 1 [] 0) :: disk dp D :: cel true rp 35 (rnC dp lp nil nil 0 false) :: H) (by repeat (first | exact Same.refl | (refine Same.cons (by repeat (first | exact Find.here | apply Find.there)) ?_) | (refine Same.drop ?_))) ?_
  have hbq : ∀ Q, Rb B (Q ++ (cel true rp 35 (rnC dp lp nil nil 0 false) :: H)) v r := fun Q => inferInstance
  have e1 : appR D (Jl.of 40 0 1 [] 0) r = (D, Jl.of 40 0 1 [] 0, 14) := by
    unfold appR
    rw [if_pos (by show offE D 0 ≠ 0; rw [ho]; decide)]
    show (_, _, offE D 0) = _
    rw [ho]
  refine append (r := r) hJ hr ?_
  rw [e1]
  simp only
  refine E_gtf ?_
  refine E_eql ?_
  rw [decide_eq_true rfl]
  refine E_ptt ?_
  refine E_gtf ?_
  refine E_gtf ?_
  refine E_nc ?_
  refine E_gtf ?_
  refine E_fad ?_
  refine E_gtf ?_
  refine E_ld ?_
  refine E_gtf ?_
  have e2 : flR D (Jl.of 40 0 1 [] 0) = (D, 14) := by
    unfold flR
    rw [if_neg (by show ¬ (offE D 0 = 0 ∨ offE D 0 = 7); rw [ho]; decide)]
    show (_, offE D 0) = _
    rw [ho]
  refine flush ?_
  rw [e2]
  simp only
  refine E_gtf ?_
  refine E_eql ?_
  rw [decide_eq_true rfl]
  refine E_ptt ?_
  refine E_gtf ?_
  refine E_gtf ?_
  refine E_nc ?_
  refine E_gtf ?_
  refine E_fad ?_
  refine E_gtf ?_
  refine E_ld ?_
  refine E_gtf ?_
  have e3 : renR D (Jl.of 40 0 1 [] 0) [] = (D, Jl.of 40 0 1 [] 0, 14) := by
    unfold renR
    rw [if_pos (by show offE D 0 ≠ 0; rw [ho]; decide)]
    show (_, _, offE D 0) = _
    rw [ho]
  refine renew (l := []) (recs := []) (fun Q => ⟨fun _ => .inl ⟨rfl, rfl, rfl⟩⟩) (fun p hp => by cases hp) rfl hJ (by decide) (fun p hp => by cases hp) hS (fun hz => by rw [show offE D (Jl.of 40 0 1 [] 0).life = 14 from ho] at hz; cases hz) ?_
  rw [e3]
  simp only
  refine E_gtf ?_
  refine E_eql ?_
  rw [decide_eq_true rfl]
  refine E_ptt ?_
  exact sm (G := H) h
end Go.Proofs.YtinggiidkfnlkaaDoor.Jn
end
