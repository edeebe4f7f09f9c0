/-
  Part 10: CdV, RowBaseX.
-/
import Derived.Test.YtblgkgobakhigaaPkBh
import Derived.Test.YtblgkgobakhigaaPkBi
set_option linter.unusedSimpArgs false
set_option linter.unusedVariables false
set_option linter.unusedSectionVars false
section
namespace Go.Proofs.Ytblgkgobakhigaa.Cod
open Go Go.SL Go.SL.Stb Go.Proofs Go.Proofs.Ytblgkgobakhigaa.Sh
variable {B : World} {H : List Asrt} {K : Value → WT} {W : WT}
theorem strsL_len (ls : List Int) : (strs (wordsL ls)).length = 256 := by
  rw [strs, List.length_map, wordsL_len]
theorem strs0_len : (strs (List.replicate 256 [])).length = 256 := by
  rw [strs, List.length_map, List.length_replicate]
set_option maxRecDepth 100000
attribute [local irreducible] S.pick S.ld S.ldN S.st S.box S.nc S.fad S.ixS S.ixA S.chr S.prt S.ext S.bin S.sh S.sbin S.beq S.neg1 S.com1 S.not1 S.cvt S.str1 S.lenS S.len S.cap S.lenM S.mx S.mn S.mkM S.cond S.gd S.fa S.dr S.rck S.join S.loop S.cvv S.eqv S.slc S.slcS S.b2s S.lk V U CF Gives E cel mpb osl ros dct dit itr
theorem codeBest {cs ls : List Int} (hl : cs.length = 256) (hl2 : ls.length = 256) (h : E B H (K (.bool true))) : E B H (CF Try.prog 6 [.agg (ints cs).toArray, .agg (ints ls).toArray] K) := by
  have hil : (ints cs).length = 256 := by simp [ints, hl]
  have hil2 : (ints ls).length = 256 := by simp [ints, hl2]
  have hln := lens_len cs
  have hll : (ints (lens cs)).length = 256 := by simp [ints, hln]
  have hz : (ints zeros).length = 256 := by simp [ints, zeros_len]
  have al1 : AtLen (ints cs) 256 := ⟨hil⟩
  have al2 : AtLen (ints ls) 256 := ⟨hil2⟩
  have al3 : AtLen (ints (lens cs)) 256 := ⟨hll⟩
  refine E_mono (W := s6 _ _ K) ?_ fun _ => c6
  unfold s6
  refine E_box (vs := ints cs) fun v2 => ?_
  refine E_box (vs := ints ls) fun v3 => ?_
  refine E_ldNA (l := ints cs) ?_
  refine lengths hl ?_
  refine E_ext ?_
  refine E_ext ?_
  refine E_box (vs := ints zeros) fun v5 => ?_
  refine E_stW (vs := ints (lens cs)) (hc := allc_ints _) hll hz ?_
  refine E_ldNA (l := ints cs) ?_
  refine E_ldNA (l := ints ls) ?_
  refine cost hl hl2 ?_
  refine E_ldNA (l := ints cs) ?_
  refine E_ldNA (l := ints ls) ?_
  refine costD hl hl2 ?_
  refine E_neq ?_
  refine E_ifF (by simp) ?_
  refine E_neq ?_
  have hend : E B H (CF Try.prog 10 [] K) := live h
  by_cases hb : badC cs
  · refine E_ifT (by unfold lensE; rw [if_pos hb]; decide) ?_
    exact sm (G := H) hend
  refine E_ifF (by unfold lensE; rw [if_neg hb]; decide) ?_
  have ho := (lens_ok hl hb).ok
  refine E_ldNA (l := ints (lens cs)) ?_
  refine words hln ?_
  refine E_ext ?_
  refine E_ext ?_
  refine E_box (vs := strs (List.replicate 256 [])) fun v8 => ?_
  refine E_stW (vs := strs (wordsL (lens cs))) (hc := allc_strs _) (strsL_len _) strs0_len ?_
  refine E_neq ?_
  refine E_ifF (by unfold wordsE; rw [if_pos ((fits_ok hln).2 ho)]; decide) ?_
  refine E_ldNA (l := ints ls) ?_
  refine words hl2 ?_
  refine E_ext ?_
  refine E_ext ?_
  refine E_box (vs := strs (List.replicate 256 [])) fun v10 => ?_
  refine E_stW (vs := strs (wordsL ls)) (hc := allc_strs _) (strsL_len _) strs0_len ?_
  refine E_neq ?_
  by_cases hf : fitsP ls
  · refine E_ifF (by unfold wordsE; rw [if_pos hf]; decide) ?_
    have ho2 := (fits_ok hl2).1 hf
    refine E_loop (n := 5) (σ := Nat) (fun i => i ≤ 256 ∧ ∀ j, j < i → 0 < cs.getD j 0 → ls.getD j 0 ≠ 0) (fun i => [ptr v2, ptr v3, ptr v5, I (costP cs ls), I i]) (fun _ => cel true v5 22 (ints (lens cs)) :: cel true v3 22 (ints ls) :: cel true v2 22 (ints cs) :: H) (fun i => 256 - i) 0 (fun _ => rfl) rfl ⟨Nat.zero_le _, fun j hj => by omega⟩ (fun W hW => sm hW) ?_
    rintro i K0 ⟨hi, hok⟩ hk
    refine E_fa fun _ => ?_
    refine E_lss ?_
    refine E_if (fun hc => ?_) (fun hc => ?_)
    · have hx := ints_get (at256 hl (show i < 256 by omega))
      have hy := ints_get (at256 hl2 (show i < 256 by omega))
      have e0 : 0 + i * 1 = i := by omega
      refine E_join1 [ptr v2, ptr v3, ptr v5, I (costP cs ls), I i, .bool (decide (0 < cs.getD i 0 ∧ ls.getD i 0 = 0))] (cel true v5 22 (ints (lens cs)) :: cel true v3 22 (ints ls) :: cel true v2 22 (ints cs) :: H) (fun k hk2 => ?_) ?_
      · have fin : ∀ b : Bool, decide (0 < cs.getD i 0 ∧ ls.getD i 0 = 0) = b → E B (cel true v5 22 (ints (lens cs)) :: cel true v3 22 (ints ls) :: cel true v2 22 (ints cs) :: H) (app 6 k [ptr v2, ptr v3, ptr v5, I (costP cs ls), I i, .bool b]) := fun b hb => hb ▸ hk2
        clear hk2
        refine E_ixA (show i < 256 by omega) ?_
        rw [e0]
        refine E_ld' hx ?_
        refine E_gtr ?_
        by_cases h1 : 0 < cs.getD i 0
        · rw [decide_eq_true h1]
          refine E_gtf ?_
          refine E_gtf ?_
          refine E_ixA (show i < 256 by omega) ?_
          rw [e0]
          refine E_gtf ?_
          refine E_ld' hy ?_
          refine E_gtf ?_
          refine E_eql ?_
          refine E_ptt ?_
          exact fin _ (by rw [decide_eq_decide]; omega)
        · rw [decide_eq_false h1]
          refine E_gff ?_
          refine E_gff ?_
          refine E_gff ?_
          refine E_gff ?_
          refine E_pff ?_
          exact fin _ (decide_eq_false (by omega))
      · refine E_fa fun _ => ?_
        refine E_if (fun hp => ?_) (fun hp => ?_)
        · exact sm (G := H) hend
        · refine E_addI (by omega) (by omega) ?_
          refine hk (i + 1) ⟨by omega, fun j hj hj2 => ?_⟩ (by omega)
          rcases Nat.lt_or_ge j i with h1 | h1
          · exact hok j h1 hj2
          · have : j = i := by omega
            subst this
            exact fun e => hp ⟨hj2, e⟩
    · have hie : i = 256 := by omega
      subst hie
      have hbest := lens_best hl hb ho2 hok
      refine live ?_
      refine E_gtf ?_
      refine E_ldNA (l := ints cs) ?_
      refine E_gtf ?_
      refine E_ldNA (l := ints (lens cs)) ?_
      refine E_gtf ?_
      refine cost hl hln ?_
      refine E_gtf ?_
      refine E_gtf ?_
      refine E_leq ?_
      rw [decide_eq_true hbest]
      refine E_ptt ?_
      exact sm (G := H) h
  · refine E_ifT (by unfold wordsE; rw [if_neg hf]; decide) ?_
    exact sm (G := H) hend
end Go.Proofs.Ytblgkgobakhigaa.Cod
end
section
namespace Go.Proofs.Ytblgkgobakhigaa.Row
open Go Go.SL Go.Proofs Go.Proofs.Ytblgkgobakhigaa
open Go.ChangeShapes Go.WideShapes Go.ChangeAt Go.RowKit
set_option maxRecDepth 100000
theorem walk_CodeBest {w : World} {v0 v1 : Value} (h0 : Q_ints256 w v0) (h1 : Q_ints256 w v1) : Calls Try.prog 6 #[v0, v1] w fun e w' => e = .returned (.bool true) ∧ Below w.heap.size w w' := by
  obtain ⟨l, hl, rfl⟩ := h0
  obtain ⟨m, hm, rfl⟩ := h1
  exact calls_of (args := [.agg (ints l).toArray, .agg (ints m).toArray]) fun K h => Cod.codeBest hl hm h
end Go.Proofs.Ytblgkgobakhigaa.Row
end
