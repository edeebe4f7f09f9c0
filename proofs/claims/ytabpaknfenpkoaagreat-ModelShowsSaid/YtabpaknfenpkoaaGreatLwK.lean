/-
  Model: ModelShows.
-/
import Derived.Test.YtabpaknfenpkoaaGreatLwJ
set_option linter.unusedSimpArgs false
set_option linter.unusedVariables false
set_option linter.unusedSectionVars false
namespace Go.Proofs.YtabpaknfenpkoaaGreat.Mod
open Go Go.SL Go.Proofs Go.Proofs.YtabpaknfenpkoaaGreat.Sh
attribute [local irreducible] S.pick S.ld S.ldN S.st S.box S.nc S.fad S.ixS S.ixA S.chr S.prt S.ext S.bin S.sh S.sbin S.beq S.neg1 S.com1 S.not1 S.cvt S.str1 S.lenS S.len S.cap S.lenM S.mx S.mn S.mkM S.cond S.gd S.fa S.dr S.rck S.join S.loop S.cvv S.eqv S.slc S.slcS S.b2s S.lk V U CF Gives E cel mpb osl ros dct dit itr lpo dfo
set_option maxRecDepth 4000
attribute [local irreducible] mo ansH rmo
variable {B : World} {H : List Asrt} {K : Value → WT} {W : WT}
variable {a : Nat} {M : Mo} {n : Int}
theorem modelShows {q : Int} {v v4 : Value} {ss ms : List Sp} {name shot : List UInt8} [hv : BaseS B v stC ss] [CellI v] [hv4 : BaseS B v4 stC ms] [CellI v4] (hok : ∀ s ∈ ss, SpOk B s) (hok4 : ∀ s ∈ ms, SpOk B s) (hq : q ≤ 9223372036854775807)
    (hl : ss.length ≤ 140737488355328) (hl4 : ms.length ≤ 140737488355328) (hn : name.length ≤ 140737488355328) (hn2 : shot.length ≤ 140737488355328) (h : E B H (K (.bool true))) : E B H (CF Tryz.prog 4 [I q, v, str shot, str name, v4] K) := by
  refine E_mono (W := s4 _ _ _ _ _ K) ?_ fun _ => c4
  unfold s4
  refine playF (ss := ss) hok hq hl fun a r => ?_
  have hinv := run_inv (q := q) (ss := ss) hq
  generalize runM (newM q) (ss.take 120) = M at hinv ⊢
  (repeat first | refine gS ?_ | refine gA fun _ => ?_ | refine gX fun _ _ => ?_ | refine gT ?_ | refine gF ?_ | refine gI ?_)
  refine E_build (l := [I 11, I 0, .string ⟨#[]⟩, str shot, I 0, I 0, I 0, nil, I 0, I 0, I 0, I 0, nil, I 0, I 0]) str_op ?_
  refine sls_nil cB 1 (T := 5) ?_
  refine fd (a := mo a M) ?_
  refine do_ (o := odOf 11 [] shot 0) (sp := false) (bv := nil) (kv := nil) (t := 0) (u := 0) hinv.w hinv.sw (by simp) hn2 (by simp) fun rv => ?_
  have hst := snap_st (M := M) (shot := shot)
  have hinv1 := inv_step (o := odOf 11 [] shot 0) (sp := false) hinv (by decide) (by decide)
  generalize (stepM M (odOf 11 [] shot 0) false).2 = M1 at hst hinv1 ⊢
  refine fd (a := mo a M1) ?_
  refine shotF hinv1 hn hn2 fun b1 _ => ?_
  (repeat first | refine gS ?_ | refine gA fun _ => ?_ | refine gX fun _ _ => ?_ | refine gT ?_ | refine gF ?_ | refine gI ?_)
  generalize hX : shownA M1 (odOf 7 name shot 0) = X
  refine E_loop (n := 7) (σ := Nat) (fun i => i ≤ ms.length ∧ i ≤ 60) (fun i => [str shot, str name, v4, ptr a, b1, I X.e, I i]) (fun i => mo a (runK M1 (ms.take i)) :: sls cB 5 1 b1 X.bytes :: H) (fun i => 60 - i) 0 (fun _ => rfl) rfl ⟨Nat.zero_le _, Nat.zero_le _⟩
    (fun W hW => by
      have hW' : E B (mo a M1 :: sls cB 5 1 b1 X.bytes :: H) W := hW
      exact sm hW') ?_
  rintro i K0 ⟨hi, hi2⟩ hk
  obtain ⟨hi1, hkp⟩ := run_keeps hinv1 (by decide) ms i hi (by omega)
  refine E_fa fun _ => ?_
  refine E_join1 [str shot, str name, v4, ptr a, b1, I X.e, I i, .bool (decide (i < ms.length ∧ i < 60))] (mo a (runK M1 (ms.take i)) :: sls cB 5 1 b1 X.bytes :: H) (fun q' hq' => ?_) ?_
  · have fin : ∀ b : Bool, decide (i < ms.length ∧ i < 60) = b → E B (mo a (runK M1 (ms.take i)) :: sls cB 5 1 b1 X.bytes :: H) (app 8 q' [str shot, str name, v4, ptr a, b1, I X.e, I i, .bool b]) := fun b hb => hb ▸ hq'
    refine E_rslen (v := v4) (l := ms) ?_
    refine E_lss ?_
    by_cases h0 : (i : Int) < (ms.length : Int)
    · (repeat first | refine gS ?_ | refine gA fun _ => ?_ | refine gX fun _ _ => ?_ | refine gT ?_ | refine gF ?_ | refine gI ?_)
      refine fin _ ?_
      rw [decide_eq_decide]; omega
    · (repeat first | refine gS ?_ | refine gA fun _ => ?_ | refine gX fun _ _ => ?_ | refine gT ?_ | refine gF ?_ | refine gI ?_)
      exact fin false (decide_eq_false (by omega))
  · refine E_fa fun _ => ?_
    refine E_if (fun hc => ?_) (fun hc => ?_)
    · have hs : ms[i]? = some ms[i] := List.getElem?_eq_getElem (by omega)
      generalize ms[i] = s at hs
      have hsok := hok4 s (List.mem_of_getElem? hs)
      have hrd := hsok.rd
      have hstep : runK M1 (ms.take (i + 1)) = stepK (runK M1 (ms.take i)) s := by
        rw [List.take_add_one, hs]; exact runK_snoc _ _ _
      have hk' := hk (i + 1) ⟨by omega, by omega⟩ (by omega)
      rw [hstep] at hk'
      generalize runK M1 (ms.take i) = M2 at hi1 hk' ⊢
      refine E_join1 [str shot, str name, v4, ptr a, b1, I X.e, I i] (mo a (stepK M2 s) :: sls cB 5 1 b1 X.bytes :: H) (fun K2 hK2 => ?_) ?_
      · refine E_join1 [str shot, str name, v4, ptr a, b1, I X.e, I i, .bool (decide (s.o.d ≠ 12 ∧ s.o.bytes.length ≤ 9000))] (mo a M2 :: sls cB 5 1 b1 X.bytes :: H) (fun K3 hK3 => ?_) ?_
        · have fin : ∀ b : Bool, decide (s.o.d ≠ 12 ∧ s.o.bytes.length ≤ 9000) = b → E B (mo a M2 :: sls cB 5 1 b1 X.bytes :: H) (app 8 K3 [str shot, str name, v4, ptr a, b1, I X.e, I i, .bool b]) := fun b hb => hb ▸ hK3
          refine E_rsix (v := v4) (l := ms) hs fun _ _ => ?_
          refine E_ptfad0 fun _ _ => ?_
          refine E_ptfad0 fun _ _ => ?_
          refine E_ptld ?_
          refine E_neq ?_
          by_cases h1 : s.o.d ≠ 12
          · (repeat first | refine gS ?_ | refine gA fun _ => ?_ | refine gX fun _ _ => ?_ | refine gT ?_ | refine gF ?_ | refine gI ?_)
            refine fin _ ?_
            rw [decide_eq_decide]; omega
          · (repeat first | refine gS ?_ | refine gA fun _ => ?_ | refine gX fun _ _ => ?_ | refine gT ?_ | refine gF ?_ | refine gI ?_)
            exact fin false (decide_eq_false fun h => h1 h.1)
        · refine E_fa fun _ => ?_
          refine E_if (fun hc2 => ?_) (fun hc2 => ?_)
          · have e : stepK M2 s = (stepM M2 s.o s.sp).2 := if_pos hc2
            rw [e] at hK2
            refine E_dr ?_
            refine E_rsix (v := v4) (l := ms) hs fun _ _ => ?_
            refine E_ptfad0 fun _ _ => ?_
            refine E_ptldN (st_op s) rfl ?_
            refine E_rsix (v := v4) (l := ms) hs fun _ _ => ?_
            refine E_ptfad0 fun _ _ => ?_
            refine E_ptld ?_
            refine do_ (o := s.o) (sp := s.sp) (bv := s.bv.1) (kv := s.kv.1) (t := s.t) (u := s.u) hi1.w hi1.sw hsok.nm hsok.sh hsok.by_ fun rv => ?_
            exact sm hK2
          · have e : stepK M2 s = M2 := if_neg hc2
            rw [e] at hK2
            exact sm hK2
      · refine E_fa fun _ => ?_
        refine E_addI (by omega) (by omega) ?_
        exact hk'
    · generalize runK M1 (ms.take i) = M2 at hi1 hkp ⊢
      refine fallF ?_
      have hif := inv_fall hi1
      have es := shown_keeps (name := name) (shot := shot) hinv1 hif (hkp.trans hinv1.w hi1 (keeps_vs rfl rfl)) hst
      refine shotF hif hn hn2 fun b2 _ => ?_
      rw [es, hX]
      (repeat first | refine gS ?_ | refine gA fun _ => ?_ | refine gX fun _ _ => ?_ | refine gT ?_ | refine gF ?_ | refine gI ?_)
      refine liveF ?_
      have he : X.e = X.e := rfl
      (repeat first | refine gS ?_ | refine gA fun _ => ?_ | refine gX fun _ _ => ?_ | refine gT ?_ | refine gF ?_ | refine gI ?_)
      refine E_b2sR (bs := X.bytes) ?_
      (repeat first | refine gS ?_ | refine gA fun _ => ?_ | refine gX fun _ _ => ?_ | refine gT ?_ | refine gF ?_ | refine gI ?_)
      refine E_b2sR (bs := X.bytes) ?_
      (repeat first | refine gS ?_ | refine gA fun _ => ?_ | refine gX fun _ _ => ?_ | refine gT ?_ | refine gF ?_ | refine gI ?_)
      refine fd (a := mo a (fallM M2)) ?_
      refine sessionsF hif.w fun v3 _ => ?_
      have h0 : (((fallM M2).O.map fun x : Se => x.n).length : Int) = 0 := rfl
      (repeat first | refine gS ?_ | refine gA fun _ => ?_ | refine gX fun _ _ => ?_ | refine gT ?_ | refine gF ?_ | refine gI ?_)
      rw [decide_eq_true h0]
      exact sm h
end Go.Proofs.YtabpaknfenpkoaaGreat.Mod
