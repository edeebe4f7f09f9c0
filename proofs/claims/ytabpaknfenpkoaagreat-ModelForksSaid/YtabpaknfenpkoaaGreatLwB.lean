/-
  Model: the sessions' numbers.
-/
import Derived.Test.YtabpaknfenpkoaaGreatLwA
set_option linter.unusedSimpArgs false
set_option linter.unusedVariables false
set_option linter.unusedSectionVars false
namespace Go.Proofs.YtabpaknfenpkoaaGreat.Mod
open Go Go.SL Go.Proofs Go.Proofs.YtabpaknfenpkoaaGreat.Sh
attribute [local irreducible] S.pick S.ld S.ldN S.st S.box S.nc S.fad S.ixS S.ixA S.chr S.prt S.ext S.bin S.sh S.sbin S.beq S.neg1 S.com1 S.not1 S.cvt S.str1 S.lenS S.len S.cap S.lenM S.mx S.mn S.mkM S.cond S.gd S.fa S.dr S.rck S.join S.loop S.cvv S.eqv S.slc S.slcS S.b2s S.lk V U CF Gives E cel mpb osl ros dct dit itr lpo dfo
attribute [local irreducible] mo ansH rmo
variable {B : World} {H : List Asrt} {K : Value → WT} {W : WT}
variable {a : Nat} {M : Mo} {n : Int}
theorem cI_ints (l : List Int) : l.flatMap cI = ints l := by
  induction l with
  | nil => rfl
  | cons x l ih => rw [List.flatMap_cons, ih]; rfl
theorem E_sortC {v : Value} {zs : List Int} (hn : zs.length < 4611686018427387904) (h : E B (sls cI 3 1 v (sortI zs) :: H) (K (.tuple #[]))) : E B (sls cI 3 1 v zs :: H) (CF Tryz.prog 84 [v] K) := by
  unfold sls at h ⊢
  rw [cI_ints] at h ⊢
  have hl : (sortI zs).length = zs.length := List.length_mergeSort ..
  rw [hl] at h
  exact E_sortI sortOk hn h
theorem sortedInts {o : Bool} {r : Nat} {kv : List (Int × Value)} {H' : List Asrt} [ht : TakD H kI o r kv H'] (hn : kv.length ≤ 1048576)
    (h : ∀ sv zs [CellI sv], zs.Perm (kv.map (·.1)) → E B (sls cI 3 1 sv (sortI zs) :: dct kI o r kv :: H') (K sv)) :
    E B H (CF Tryz.prog 52 [.map (some r)] fun v9 => CF Tryz.prog 51 [v9] K) := by
  refine E_find ht.pf ?_
  refine E_mono (W := s52 _ _) ?_ fun _ => c52
  unfold s52
  (first | refine gS ?_ | refine gA fun _ => ?_ | refine gX fun _ _ => ?_ | refine gT ?_ | refine gF ?_ | refine gI ?_)
  rename_i mb
  refine E_mono (W := s51 _ _) ?_ fun _ => c51
  unfold s51
  refine E_mono (W := s83 _ _) ?_ fun _ => c83
  unfold s83
  refine E_mono (W := s96 _ _ _) ?_ fun _ => c96
  unfold s96
  (first | refine gS ?_ | refine gA fun _ => ?_ | refine gX fun _ _ => ?_ | refine gT ?_ | refine gF ?_ | refine gI ?_)
  rename_i sb
  refine E_rf (by kernel_rfl) fun l dl L hY => ?_
  refine E_mono (W := s85 _ _ _) ?_ fun _ => c85
  unfold s85
  (repeat first | refine gS ?_ | refine gA fun _ => ?_ | refine gX fun _ _ => ?_ | refine gT ?_ | refine gF ?_ | refine gI ?_)
  refine E_drange (κ := Int) u_sess fun it => ?_
  refine E_loop (σ := List (Int × Value) × Option (Int × Value) × List (Int) × Value)
    (fun s => (s.2.2.1 ++ s.1.map (·.1)).Perm (kv.map (·.1)) ∧ isCell s.2.2.2 = true)
    (fun s => [.func (.yield l) #[] #[], .pointer (some ⟨it, 0, none⟩)])
    (fun s => dit kI o it r kv s.1 s.2.1 :: lpo l L .ready .nrm :: sls cI 3 1 s.2.2.2 s.2.2.1 :: cel true sb 48 [s.2.2.2] :: dfo dl :: cel true mb 80 [.map (some r)] :: H')
    (fun s => s.1.length) (kv, none, [], .slice none 0 0) (fun s => rfl) rfl ⟨by simp, rfl⟩ ?_ ?_
  · intro W hW
    refine sls_nil cI 1 (E_same (by repeat (first | exact Same.refl | (refine Same.cons (by repeat (first | exact Find.here | apply Find.there)) ?_) | (refine Same.drop ?_))) hW)
  · rintro ⟨rest, cur, zs, sv⟩ K ⟨hφ, hcl⟩ hk
    simp only at hφ hk hcl ⊢
    have : CellI sv := ⟨hcl⟩
    refine E_fa fun _ => ?_
    refine E_dnext (κ := Int) (fun hr => ?_) (fun p rest' hp => ?_)
    · subst hr
      (repeat first | refine gS ?_ | refine gA fun _ => ?_ | refine gX fun _ _ => ?_ | refine gT ?_ | refine gF ?_ | refine gI ?_)
      refine fd (a := lpo l L .ready .nrm) (E_over (by simp) ?_)
      unfold aft
      (repeat first | refine gS ?_ | refine gA fun _ => ?_ | refine gX fun _ _ => ?_ | refine gT ?_ | refine gF ?_ | refine gI ?_)
      refine fd (a := dfo dl) (E_done1 ?_)
      refine fd (a := sls cI 3 1 sv zs) ?_
      have hz : zs.Perm (kv.map (·.1)) := by simpa using hφ
      have hl : zs.length = kv.length := by have := hz.length_eq; simpa using this
      refine E_sortC (by omega) ?_
      refine fd (a := dit kI o it r kv [] none) (E_idone ?_)
      refine sm (h sv zs hz)
    · (repeat first | refine gS ?_ | refine gA fun _ => ?_ | refine gX fun _ _ => ?_ | refine gT ?_ | refine gF ?_ | refine gI ?_)
      refine E_dentry (κ := Int) ?_
      (repeat first | refine gS ?_ | refine gA fun _ => ?_ | refine gX fun _ _ => ?_ | refine gT ?_ | refine gF ?_ | refine gI ?_)
      refine fd (a := lpo l L .ready .nrm) (hY _ _ _ rfl ?_)
      refine E_begun ?_
      (repeat first | refine gS ?_ | refine gA fun _ => ?_ | refine gX fun _ _ => ?_ | refine gT ?_ | refine gF ?_ | refine gI ?_)
      refine fd (a := sls cI 3 1 sv zs) ?_
      have hl : zs.length + rest.length = kv.length := by have := hφ.length_eq; simpa using this
      have hr : rest.length = rest'.length + 1 := by simpa using hp.length_eq
      refine E_sapp1 (enc := cI) p.1 u_ints elt_int rfl (by decide) (by omega) (by omega) fun v' _ => ?_
      (repeat first | refine gS ?_ | refine gA fun _ => ?_ | refine gX fun _ _ => ?_ | refine gT ?_ | refine gF ?_ | refine gI ?_)
      refine fd (a := lpo l L .busy .nrm) (E_ended ?_)
      refine E_notb ?_
      refine E_ff ?_
      show E _ _ (K _ _)
      have h1 := (hp.map (·.1)).append_left zs
      have hk' := hk (rest', some p, zs ++ [p.1], v') ⟨by simpa using h1.symm.trans hφ, CellI.pf⟩ (by simp [hr])
      simp only at hk'
      exact sm hk'
theorem sortI_sorted (l : List Int) : (sortI l).Pairwise (· ≤ ·) := by
  have h : (sortI l).Pairwise fun x y => decide (x ≤ y) = true := by
    refine List.pairwise_mergeSort (fun a b c h1 h2 => ?_) (fun a b => ?_) l
    · simp only [decide_eq_true_eq] at *; omega
    · simp only [Bool.or_eq_true, decide_eq_true_eq]; omega
  exact h.imp fun h => by simpa using h
theorem sortI_eq {l s : List Int} (hp : l.Perm s) (hs : s.Pairwise (· < ·)) : sortI l = s := by
  have hpm : (sortI l).Perm s := (List.mergeSort_perm l _).trans hp
  refine List.Perm.eq_of_pairwise (le := fun a b => a ≤ b) (fun a b _ _ h h' => by omega) (sortI_sorted l) (hs.imp fun h => by omega) hpm
theorem u_pModel' : Tryz.prog.underlying 23 = some (.pointer 82) := u_pModel
theorem sessionsF (hw : Wf M) (h : ∀ v [CellI v], E B (sls cI 3 1 v (M.O.map (·.n)) :: mo a M :: H) (K v)) : E B (mo a M :: H) (CF Tryz.prog 14 [ptr a] K) := by
  refine E_mono (W := s14 _ K) ?_ fun _ => c14
  unfold s14
  refine E_peq u_pModel ?_
  refine E_ff ?_
  refine E_mo fun r1 r2 r3 kf ks ko Lv Lh hf hs ho => ?_
  refine fd (a := dct kI true r3 ko) (E_dnod fun hnod => ?_)
  have hp := ook_perm ho hnod hw.o
  have hol := hw.ol
  have hl : ko.length = M.O.length := by have := hp.length_eq; simpa using this
  have hp2 : (ko.map (·.1)).Perm (M.O.map (·.n)) := by
    have := hp.map (·.1)
    rw [List.map_map] at this
    exact this
  have hsO : (M.O.map (·.n)).Pairwise (· < ·) := by rw [List.pairwise_map]; exact hw.o
  (repeat first | refine gS ?_ | refine gA fun _ => ?_ | refine gX fun _ _ => ?_ | refine gT ?_ | refine gF ?_ | refine gI ?_)
  refine sortedInts (by omega) fun sv zs _ hz => ?_
  rw [sortI_eq (hz.trans hp2) hsO]
  refine sm (G := cel true a 82 [.map (some r1), .map (some r2), .map (some r3), I M.began, I M.now, I M.quota] :: dct kL true r1 kf :: dct kL true r2 ks :: dct kI true r3 ko :: spool vC Lv :: dpool kL Lh :: sls cI 3 1 sv (M.O.map (·.n)) :: H) ?_
  refine E_moS (M := M) r1 r2 r3 hf hs ho rfl rfl rfl ?_
  exact sm (h sv)
theorem sessions_nil (h : E B H (K nil)) : E B H (CF Tryz.prog 14 [.pointer none] K) := by
  refine E_mono (W := s14 _ K) ?_ fun _ => c14
  unfold s14
  refine E_peq0 u_pModel ?_
  refine E_tt ?_
  exact h
theorem rsessionsF (hw : Wf M) (h : ∀ v [CellI v], E B (sls cI 3 1 v (M.O.map (·.n)) :: rmo a M :: H) (K v)) : E B (rmo a M :: H) (CF Tryz.prog 26 [ptr a] K) := by
  have hol := hw.ol
  refine E_mono (W := s26 _ K) ?_ fun _ => c26
  unfold s26
  refine E_loop (σ := Nat × Value) (fun s => s.1 ≤ M.O.length ∧ isCell s.2 = true) (fun s => [ptr a, s.2, I s.1]) (fun s => sls cI 3 1 s.2 ((M.O.take s.1).map (·.n)) :: rmo a M :: H) (fun s => M.O.length - s.1) (0, nil) (fun _ => rfl) rfl ⟨Nat.zero_le _, rfl⟩ (fun W hW => by
    simp only [List.take_zero, List.map_nil] at hW
    exact sls_nil cI 1 hW) ?_
  rintro ⟨i, ov⟩ K0 ⟨hi, hov⟩ hk
  simp only at hi hov hk ⊢
  have : CellI ov := ⟨hov⟩
  refine E_fa fun _ => ?_
  refine fd (a := rmo a M) ?_
  refine E_rmo fun vs ss os Lv Ls Lo Lh SS iv is io iV iS iO hsl hsh => ?_
  have rO := rs_pool (B := B) (enc := roC) iO
  (repeat first | refine gS ?_ | refine gA fun _ => ?_ | refine gX fun _ _ => ?_ | refine gT ?_ | refine gF ?_ | refine gI ?_)
  refine E_if (fun hc => ?_) (fun hc => ?_)
  · have hx : M.O[i]? = some M.O[i] := List.getElem?_eq_getElem (by omega)
    generalize M.O[i] = x at hx
    (repeat first | refine gS ?_ | refine gA fun _ => ?_ | refine gX fun _ _ => ?_ | refine gT ?_ | refine gF ?_ | refine gI ?_)
    refine E_rmoS vs ss os (SS := SS) iV iS iO hsl hsh rfl rfl rfl ?_
    refine E_use (sls cI 3 1 ov) (E_sapp1 (enc := cI) x.n u_ints elt_int rfl (by decide) (by rw [List.length_map, List.length_take]; omega) (by rw [List.length_map, List.length_take]; omega) fun u' _ => ?_)
    refine E_addI (by omega) (by omega) ?_
    have hk' := hk (i + 1, u') ⟨by simp only; omega, CellI.pf⟩ (by simp only; omega)
    have e : (M.O.take (i + 1)).map (·.n) = (M.O.take i).map (·.n) ++ [x.n] := by rw [List.take_add_one, hx, List.map_append]; rfl
    simp only [e] at hk'
    exact sm hk'
  · have hie : i = M.O.length := by omega
    subst hie
    rw [List.take_length]
    refine E_rmoS vs ss os (SS := SS) iV iS iO hsl hsh rfl rfl rfl ?_
    exact sm (h ov)
end Go.Proofs.YtabpaknfenpkoaaGreat.Mod
