/-
  Names: the document's with, Move.
-/
import Derived.Test.YtjafpncngmbcdaaGreatNnA
set_option linter.unusedSimpArgs false
set_option linter.unusedVariables false
set_option linter.unusedSectionVars false
namespace Go.Proofs.YtjafpncngmbcdaaGreat.Nam
open Go Go.SL Go.Proofs Go.Proofs.YtjafpncngmbcdaaGreat.Sh
variable {B : World} {H : List Asrt} {K : Value → WT} {W : WT} {a : Nat} {M : Bk} {f : Fa}
variable {fv sv : Cv} {L : List FC} {LS : List SC} {Pf : List (Value × List FC)} {Lv : List (Value × List VR)} {Lr : List (Value × List Rf)} {Ps : List (Value × List SC)} {Lh : List (Value × List (List UInt8 × Int))}
instance {m : Mv} : AtI (mvC m) (2 + 0) (I m.tb) := ⟨rfl⟩
instance {m : Mv} : AtI (mvC m) (2 + 1) (I m.ts) := ⟨rfl⟩
attribute [local irreducible] S.pick S.ld S.ldN S.st S.box S.nc S.fad S.ixS S.ixA S.chr S.prt S.ext S.bin S.sh S.sbin S.beq S.neg1 S.com1 S.not1 S.cvt S.str1 S.lenS S.len S.cap S.lenM S.mx S.mn S.mkM S.cond S.gd S.fa S.dr S.rck S.join S.loop S.cvv S.eqv S.slc S.slcS S.b2s S.lk V U CF Gives E cel mpb osl ros dct dit itr lpo dfo
set_option maxRecDepth 8000
attribute [local irreducible] bk dbk
theorem withD {n : Int} {i k : Nat} {mv : Value} {ms : List FC} (hf : (fv.1, L) ∈ Pf) (hi : i ≤ L.length) (hk : k ≤ L.length) (hL : L.length ≤ 1000) (hml : ms.length ≤ 1000) (hm : ∀ G, Rs B (G ++ H) mv fC ms)
    (h : ∀ v' [CellI v'], E B (cel true a 88 [v', sv.1, I n] :: spool fC ((v', L.take i ++ ms ++ L.drop k) :: Pf) :: spool vC Lv :: spool rfC Lr :: spool shC Ps :: spool hC Lh :: H) (K (.tuple #[]))) : E B (cel true a 88 [fv.1, sv.1, I n] :: spool fC Pf :: spool vC Lv :: spool rfC Lr :: spool shC Ps :: spool hC Lh :: H) (CF Tryz.prog 75 [ptr a, I i, I k, mv] K) := by
  have rf : ∀ H, Rs B (spool fC Pf :: H) fv.1 fC L := rs_pool hf
  have hm7 : ∀ G1 G2 G3 G4 G5 G6, Rs B (G1 :: G2 :: G3 :: G4 :: G5 :: G6 :: H) mv fC ms := fun G1 G2 G3 G4 G5 G6 => hm [G1, G2, G3, G4, G5, G6]
  refine E_mono (W := s75 _ _ _ _ K) ?_ fun _ => c75
  unfold s75
  refine E_bsl0 u_fileL elt_file fun b0 => ?_
  refine E_slsC (enc := fC) [] 0 rfl rfl ?_
  (repeat first | refine gS ?_ | refine gA fun _ => ?_)
  refine E_slcS2 (v := fv.1) (l := L) (i := 0) (j := i) (by simp [S.bound]) rfl (by omega) hi fun v1 _ _ => ?_
  refine fd (a := sls fC 86 2 (.slice (some ⟨b0, 0, none⟩) 0 0) []) ?_
  refine E_sapps (enc := fC) (l := []) (m := (L.drop 0).take (i - 0)) u_fileL elt_file (by simp; omega) (by simp; omega) fun v2 _ => ?_
  refine E_sapps (enc := fC) (l := [] ++ (L.drop 0).take (i - 0)) (m := ms) u_fileL elt_file (by simp; omega) (by simp; omega) fun v3 _ => ?_
  (repeat first | refine gS ?_ | refine gA fun _ => ?_)
  refine E_slcS2 (v := fv.1) (l := L) (i := k) (j := L.length) rfl (by simp [S.bound]) hk (Nat.le_refl _) fun v4 _ _ => ?_
  refine fd (a := sls fC 86 2 v3 ([] ++ (L.drop 0).take (i - 0) ++ ms)) ?_
  refine E_sapps (enc := fC) (m := (L.drop k).take (L.length - k)) u_fileL elt_file (by simp; omega) (by simp; omega) fun v5 _ => ?_
  have e : [] ++ (L.drop 0).take (i - 0) ++ ms ++ (L.drop k).take (L.length - k) = L.take i ++ ms ++ L.drop k := by
    rw [List.nil_append, List.drop_zero, Nat.sub_zero, List.take_of_length_le (l := L.drop k) (by simp)]
  rw [e]
  (repeat first | refine gS ?_ | refine gA fun _ => ?_)
  refine fd (a := spool fC Pf) ?_
  refine fd (a := sls fC 86 2 v5 (L.take i ++ ms ++ L.drop k)) ?_
  refine E_give ?_
  exact sm (h v5)
theorem moveRD {v mv : Value} {l : List Rf} {ms : List Mv} (hv : ∀ G, Rs B (G ++ H) v rfC l) (hm : ∀ G, Rs B (G ++ H) mv mvC ms) (hn : l.length ≤ 1000000) (hmn : ms.length ≤ 140737488355328) (h : ∀ v' (n : Int) [CellI v'], E B (sls rfC 38 35 v' (l.map (moveR ms)) :: H) (K (.tuple #[v', I n]))) :
    E B H (CF Tryz.prog 77 [v, mv] K) := by
  have hv1 : ∀ G1, Rs B (G1 :: H) v rfC l := fun G1 => hv [G1]
  have hm2 : ∀ G1 G2, Rs B (G1 :: G2 :: H) mv mvC ms := fun G1 G2 => hm [G1, G2]
  refine E_mono (W := s77 _ _ K) ?_ fun _ => c77
  unfold s77
  refine E_bsl0 u_refs elt_ref fun b0 => ?_
  refine E_slsC (enc := rfC) [] 0 rfl rfl ?_
  refine E_loop (n := 5) (σ := Nat × Cv × Nat) (fun s => s.1 ≤ l.length ∧ s.2.2 ≤ s.1) (fun s => [v, mv, s.2.1.1, I s.2.2, I s.1]) (fun s => sls rfC 38 35 s.2.1.1 ((l.take s.1).map (moveR ms)) :: H) (fun s => l.length - s.1) (0, ⟨.slice (some ⟨b0, 0, none⟩) 0 0, rfl⟩, 0) (fun _ => rfl) rfl ⟨Nat.zero_le _, Nat.le_refl _⟩ (fun W hW => hW) ?_
  rintro ⟨i, ov, n⟩ K0 ⟨hi, hni⟩ hk0
  simp only at hi hni hk0 ⊢
  refine E_fa fun _ => ?_
  refine E_rslen (v := v) (l := l) ?_
  refine E_lss ?_
  refine E_if (fun hc => ?_) (fun hc => ?_)
  · have hx : l[i]? = some l[i] := List.getElem?_eq_getElem (by omega)
    generalize l[i] = x at hx
    refine E_rsix (v := v) (l := l) hx fun _ _ => ?_
    refine E_ptldA ?_
    refine E_box fun b9 => ?_
    refine E_stW (vs := rfC x) (rfC_len x) rfl ?_
    have hmr := moveR_eq ms x
    refine E_joinC (σ := Nat) (fun n' => n' ≤ i + 1) (fun n' => [v, mv, ov.1, I n', I i, ptr b9]) (fun _ => cel true b9 38 (rfC (moveR ms x)) :: sls rfC 38 35 ov.1 ((l.take i).map (moveR ms)) :: H) (fun k hk => ?_) (fun n' hn' => ?_)
    · refine E_loop (n := 7) (σ := Nat) (fun j => j ≤ ms.length ∧ ∀ m ∈ ms.take j, mvP (x.bin, x.slot) m = false) (fun j => [v, mv, ov.1, I n, I i, ptr b9, I j]) (fun _ => cel true b9 38 (rfC x) :: sls rfC 38 35 ov.1 ((l.take i).map (moveR ms)) :: H) (fun j => ms.length - j) 0 (fun _ => rfl) rfl ⟨Nat.zero_le _, by simp⟩ (fun W hW => sm hW) ?_
      rintro j K1 ⟨hj, ha⟩ hk1
      refine E_fa fun _ => ?_
      refine E_rslen (v := mv) (l := ms) ?_
      refine E_lss ?_
      refine E_if (fun hc1 => ?_) (fun hc1 => ?_)
      · have hy : ms[j]? = some ms[j] := List.getElem?_eq_getElem (by omega)
        have hdr : ms = ms.take j ++ ms[j] :: ms.drop (j + 1) := by rw [List.getElem_cons_drop, List.take_append_drop]
        generalize ms[j] = m at hy hdr
        refine E_join1 [v, mv, ov.1, I n, I i, ptr b9, I j, .bool (mvP (x.bin, x.slot) m)] (cel true b9 38 (rfC x) :: sls rfC 38 35 ov.1 ((l.take i).map (moveR ms)) :: H) (fun k2 hk2 => ?_) ?_
        · refine E_dr ?_
          (repeat first | refine gS ?_ | refine gA fun _ => ?_ | refine gX fun _ _ => ?_ | refine gT ?_ | refine gF ?_ | refine gI ?_)
          by_cases h1 : m.fb = x.bin
          · have e : mvP (x.bin, x.slot) m = decide (m.fs = x.slot) := by simp [mvP, h1]
            rw [e] at hk2
            rw [decide_eq_true h1]
            (repeat first | refine gS ?_ | refine gA fun _ => ?_ | refine gX fun _ _ => ?_ | refine gT ?_ | refine gF ?_ | refine gI ?_)
            exact sm hk2
          · have e : mvP (x.bin, x.slot) m = false := by simp [mvP, h1]
            rw [e] at hk2
            rw [decide_eq_false h1]
            (repeat first | refine gS ?_ | refine gA fun _ => ?_ | refine gX fun _ _ => ?_ | refine gT ?_ | refine gF ?_ | refine gI ?_)
            exact sm hk2
        · refine E_fa fun _ => ?_
          cases hp : mvP (x.bin, x.slot) m with
          | true =>
            have hf : ms.find? (mvP (x.bin, x.slot)) = some m := by
              rw [hdr, List.find?_append, List.find?_eq_none.2 fun y hy => by simp [ha y hy]]
              simp [hp]
            rw [hf] at hmr
            simp only at hmr
            (repeat first | refine gS ?_ | refine gA fun _ => ?_ | refine gX fun _ _ => ?_ | refine gT ?_ | refine gF ?_ | refine gI ?_)
            refine E_st' (l := rfC x) (o := 33) (hf := takC_here) (by rw [rfC_len]; decide) ?_
            rw [← rfC_bin x m.tb]
            (repeat first | refine gS ?_ | refine gA fun _ => ?_ | refine gX fun _ _ => ?_ | refine gT ?_ | refine gF ?_ | refine gI ?_)
            refine E_st' (l := rfC { x with bin := m.tb }) (o := 34) (hf := takC_here) (by rw [rfC_len]; decide) ?_
            rw [← rfC_slot { x with bin := m.tb } m.ts]
            refine E_addI (by omega) (by omega) ?_
            have hk3 := hk (n + 1) (by omega)
            rw [hmr] at hk3
            exact sm hk3
          | false =>
            (repeat first | refine gS ?_ | refine gA fun _ => ?_ | refine gX fun _ _ => ?_ | refine gT ?_ | refine gF ?_ | refine gI ?_)
            refine hk1 (j + 1) ⟨by omega, fun y hy' => ?_⟩ (by omega)
            rw [List.take_add_one, hy] at hy'
            rcases List.mem_append.1 hy' with hy' | hy'
            · exact ha y hy'
            · simp at hy'; subst hy'; exact hp
      · have hje : j = ms.length := by omega
        rw [hje, List.take_length] at ha
        rw [List.find?_eq_none.2 fun y hy => by simp [ha y hy]] at hmr
        simp only at hmr
        have hk3 := hk n (by omega)
        rw [hmr] at hk3
        exact hk3
    · refine E_fa fun _ => ?_
      (repeat first | refine gS ?_ | refine gA fun _ => ?_)
      refine fd (a := sls rfC 38 35 ov.1 ((l.take i).map (moveR ms))) ?_
      refine E_sapp1 (enc := rfC) (moveR ms x) u_refs elt_ref rfl (by decide) (by simp; omega) (by simp; omega) fun v' hv' => ?_
      refine E_addI (by omega) (by omega) ?_
      have hk1 := hk0 (i + 1, ⟨v', hv'.pf⟩, n') ⟨by simp only; omega, hn'⟩ (by simp only; omega)
      simp only [List.take_add_one, hx, List.map_append, Option.toList_some, List.map_singleton] at hk1
      exact sm hk1
  · have hie : i = l.length := by omega
    rw [hie, List.take_length]
    have : CellI ov.1 := ⟨ov.2⟩
    exact h ov.1 n
end Go.Proofs.YtjafpncngmbcdaaGreat.Nam
