/-
  Model: play; ModelPlays.
-/
import Derived.Test.YtabpaknfenpkoaaGreatLwE
set_option linter.unusedSimpArgs false
set_option linter.unusedVariables false
set_option linter.unusedSectionVars false
namespace Go.Proofs.YtabpaknfenpkoaaGreat.Mod
open Go Go.SL Go.Proofs Go.Proofs.YtabpaknfenpkoaaGreat.Sh
variable {B : World} {H : List Asrt} {K : Value → WT} {W : WT}
variable {a : Nat} {M : Mo} {n : Int}
def stepO (M : Mo) (s : Sp) : Mo := if 9000 < s.o.bytes.length then M else (stepM M s.o s.sp).2
def runM (M : Mo) (l : List Sp) : Mo := l.foldl stepO M
theorem runM_snoc (M : Mo) (l : List Sp) (s : Sp) : runM M (l ++ [s]) = stepO (runM M l) s := by unfold runM; rw [List.foldl_append]; rfl
theorem inv_stepO (h : Inv n M) (hn : n ≤ 999998) (hn0 : 0 ≤ n) (s : Sp) : Inv (n + 1) (stepO M s) := by
  unfold stepO
  split
  · exact h.mono (by omega)
  · exact inv_step h hn hn0
theorem inv_run {q : Int} (hq : q ≤ 9223372036854775807) (l : List Sp) (hl : l.length ≤ 999) : Inv l.length (runM (newM q) l) := by
  have : ∀ (k : Nat), k ≤ l.length → Inv k (runM (newM q) (l.take k)) := by
    intro k
    induction k with
    | zero => intro _; exact inv_new hq
    | succ k ih =>
      intro hk
      have hx : l[k]? = some l[k] := List.getElem?_eq_getElem (by omega)
      rw [List.take_add_one, hx]
      show Inv _ (runM (newM q) (l.take k ++ [l[k]]))
      rw [runM_snoc]
      have := inv_stepO (ih (by omega)) (by omega) (by omega) l[k]
      simpa using this
  have h := this l.length (Nat.le_refl _)
  rwa [List.take_length] at h
attribute [local irreducible] S.pick S.ld S.ldN S.st S.box S.nc S.fad S.ixS S.ixA S.chr S.prt S.ext S.bin S.sh S.sbin S.beq S.neg1 S.com1 S.not1 S.cvt S.str1 S.lenS S.len S.cap S.lenM S.mx S.mn S.mkM S.cond S.gd S.fa S.dr S.rck S.join S.loop S.cvv S.eqv S.slc S.slcS S.b2s S.lk V U CF Gives E cel mpb osl ros dct dit itr lpo dfo
set_option maxRecDepth 4000
attribute [local irreducible] mo ansH rmo
theorem playF {q : Int} {v : Value} {ss : List Sp} [hv : BaseS B v stC ss] [CellI v] (hok : ∀ s ∈ ss, SpOk B s) (hq : q ≤ 9223372036854775807) (hl : ss.length ≤ 140737488355328)
    (h : ∀ a r, E B (mo a (runM (newM q) (ss.take 120)) :: rmo r (runM (newM q) (ss.take 120)) :: H) (K (.tuple #[ptr a, ptr r, .bool true]))) : E B H (CF Tryz.prog 7 [I q, v] K) := by
  refine E_mono (W := s7 _ _ K) ?_ fun _ => c7
  unfold s7
  refine new fun a => ?_
  refine rnew fun r => ?_
  refine E_peq u_pModel ?_
  refine E_ff ?_
  refine E_loop (n := 4) (σ := Nat) (fun i => i ≤ ss.length ∧ i ≤ 120 ∧ Inv i (runM (newM q) (ss.take i))) (fun i => [v, ptr a, ptr r, I i]) (fun i => mo a (runM (newM q) (ss.take i)) :: rmo r (runM (newM q) (ss.take i)) :: H) (fun i => 120 - i) 0 (fun _ => rfl) rfl ⟨Nat.zero_le _, Nat.zero_le _, inv_new hq⟩ (fun W hW => E_same (by repeat (first | exact Same.refl | (refine Same.cons (by repeat (first | exact Find.here | apply Find.there)) ?_) | (refine Same.drop ?_))) hW) ?_
  rintro i K0 ⟨hi, hi2, hinv⟩ hk
  refine E_fa fun _ => ?_
  refine E_join1 [v, ptr a, ptr r, I i, .bool (decide (i < ss.length ∧ i < 120))] (mo a (runM (newM q) (ss.take i)) :: rmo r (runM (newM q) (ss.take i)) :: H) (fun q' hq' => ?_) ?_
  · have fin : ∀ b : Bool, decide (i < ss.length ∧ i < 120) = b → E B (mo a (runM (newM q) (ss.take i)) :: rmo r (runM (newM q) (ss.take i)) :: H) (app 5 q' [v, ptr a, ptr r, I i, .bool b]) := fun b hb => hb ▸ hq'
    refine E_rslen (v := v) (l := ss) ?_
    refine E_lss ?_
    by_cases h0 : (i : Int) < (ss.length : Int)
    · (repeat first | refine gS ?_ | refine gA fun _ => ?_ | refine gX fun _ _ => ?_ | refine gT ?_ | refine gF ?_ | refine gI ?_)
      refine fin _ ?_
      rw [decide_eq_decide]; omega
    · (repeat first | refine gS ?_ | refine gA fun _ => ?_ | refine gX fun _ _ => ?_ | refine gT ?_ | refine gF ?_ | refine gI ?_)
      exact fin false (decide_eq_false (by omega))
  · refine E_fa fun _ => ?_
    refine E_if (fun hc => ?_) (fun hc => ?_)
    · have hs : ss[i]? = some ss[i] := List.getElem?_eq_getElem (by omega)
      generalize ss[i] = s at hs
      have hsok := hok s (List.mem_of_getElem? hs)
      have hrd := hsok.rd
      have hstep : runM (newM q) (ss.take (i + 1)) = stepO (runM (newM q) (ss.take i)) s := by
        rw [List.take_add_one, hs]; exact runM_snoc _ _ _
      have hinv' : Inv ((i + 1 : Nat) : Int) (runM (newM q) (ss.take (i + 1))) := by
        rw [hstep]
        have := inv_stepO hinv (by omega) (by omega) s
        simpa using this
      have hk' := hk (i + 1) ⟨by omega, by omega, hinv'⟩ (by omega)
      rw [hstep] at hk'
      generalize runM (newM q) (ss.take i) = M at hinv hk' ⊢
      refine E_join1 [v, ptr a, ptr r, I i] (mo a (stepO M s) :: rmo r (stepO M s) :: H) (fun K2 hK2 => ?_) ?_
      · refine E_rsix (v := v) (l := ss) hs fun _ _ => ?_
        refine E_ptfad0 fun _ _ => ?_
        refine E_ptldN (st_op s) rfl ?_
        (repeat first | refine gS ?_ | refine gA fun _ => ?_ | refine gX fun _ _ => ?_ | refine gT ?_ | refine gF ?_ | refine gI ?_)
        rename_i b10
        refine E_stW (vs := [I s.o.d, I s.o.n, str s.o.name, str s.o.shot, I s.o.gen, I s.o.from_, I s.o.size, s.bv.1, I s.o.last, I s.o.young, I s.o.step, I s.o.count, s.kv.1, I s.t, I s.u]) rfl rfl ?_
        (repeat first | refine gS ?_ | refine gA fun _ => ?_ | refine gX fun _ _ => ?_ | refine gT ?_ | refine gF ?_ | refine gI ?_)
        refine E_if (fun hc2 => ?_) (fun hc2 => ?_)
        · have e : stepO M s = M := if_pos (by omega)
          rw [e] at hK2
          exact sm hK2
        · have e : stepO M s = (stepM M s.o s.sp).2 := if_neg (by omega)
          rw [e] at hK2
          refine E_bsl0 u_bytes elt_byte fun bz => ?_
          refine E_slsC (enc := cB) [] 0 rfl rfl ?_
          refine E_rsix (v := v) (l := ss) hs fun _ _ => ?_
          refine E_ptfad0 fun _ _ => ?_
          refine E_ptfad0 fun _ _ => ?_
          refine E_ptld ?_
          refine E_sapps (enc := cB) (l := []) (m := s.o.bytes) u_bytes elt_byte (by simp; omega) (by simp; omega) fun v48 _ => ?_
          rw [List.nil_append]
          (repeat first | refine gS ?_ | refine gA fun _ => ?_ | refine gX fun _ _ => ?_ | refine gT ?_ | refine gF ?_ | refine gI ?_)
          refine E_both ?_ ?_
          · refine sm (G := mo a M :: sls cB 5 1 v48 s.o.bytes :: cel true b10 42 (opL s.o v48 s.kv.1 s.t s.u) :: rmo r M :: H) ?_
            refine do_ (o := s.o) (sp := s.sp) (bv := v48) (kv := s.kv.1) (t := s.t) (u := s.u) hinv.w hinv.sw hsok.nm hsok.sh hsok.by_ fun rv => ?_
            refine ans_open fun b1 h1 _ _ e => ?_
            subst e
            (repeat first | refine gS ?_ | refine gA fun _ => ?_ | refine gX fun _ _ => ?_ | refine gT ?_ | refine gF ?_ | refine gI ?_)
            exact E_same (by repeat (first | exact Same.refl | (refine Same.cons (by repeat (first | exact Find.here | apply Find.there)) ?_) | (refine Same.drop ?_))) (behind (v1 := v) (ss := ss) (b1 := b1) (h1 := h1) hinv hs hsok hK2)
          · refine E_box fun b11 => ?_
            (repeat (refine E_rck1 (by first | exact E_ld (E_fact rfl) | exact E_ld' (by assumption) (E_fact rfl) | exact E_b2sR (E_fact rfl) | exact E_gdnF (by assumption) (E_ld (E_fact rfl)) | exact E_gdT (by assumption) (E_ld (E_fact rfl)) | exact E_gtf (E_ld (E_fact rfl)) | exact E_gft (E_ld (E_fact rfl)) | exact E_ldNA (E_fact rfl) | exact E_ptld (E_fact rfl) | exact E_gtf (E_ldNA (E_fact rfl))) ?_)); (first | (refine E_rck0 ?_) | skip)
            refine sm (G := mo a M :: sls cB 5 1 v48 s.o.bytes :: cel true b10 42 (opL s.o v48 s.kv.1 s.t s.u) :: rmo r M :: cel true b11 33 [I 0, I 0, nil, nil] :: H) ?_
            refine do_ (o := s.o) (sp := s.sp) (bv := v48) (kv := s.kv.1) (t := s.t) (u := s.u) hinv.w hinv.sw hsok.nm hsok.sh hsok.by_ fun rv => ?_
            refine ans_open fun b1 h1 _ _ e => ?_
            subst e
            (repeat first | refine gS ?_ | refine gA fun _ => ?_ | refine gX fun _ _ => ?_ | refine gT ?_ | refine gF ?_ | refine gI ?_)
            exact E_same (by repeat (first | exact Same.refl | (refine Same.cons (by repeat (first | exact Find.here | apply Find.there)) ?_) | (refine Same.drop ?_))) (behind (v1 := v) (ss := ss) (b1 := b1) (h1 := h1) hinv hs hsok hK2)
      · refine E_fa fun _ => ?_
        refine E_addI (by omega) (by omega) ?_
        exact hk'
    · have e : ss.take i = ss.take 120 := by
        rcases Nat.lt_or_ge i 120 with h1 | h1
        · have : i = ss.length := by omega
          subst this
          rw [List.take_length, List.take_of_length_le (by omega)]
        · have : i = 120 := by omega
          rw [this]
      rw [e] at hinv ⊢
      generalize runM (newM q) (ss.take 120) = M at hinv h ⊢
      have hnl := Nat.le_trans (names_len M.V) hinv.nl
      have hol := hinv.w.ol
      refine names hinv.w fun v1 _ => ?_
      refine fd (a := rmo r M) (rnames hinv.w fun v2 _ => ?_)
      refine sameHeld (l1 := namesV M.V) (l2 := namesV M.V) (by omega) ?_
      rw [decide_eq_true rfl]
      (repeat first | refine gS ?_ | refine gA fun _ => ?_ | refine gX fun _ _ => ?_ | refine gT ?_ | refine gF ?_ | refine gI ?_)
      refine fd (a := mo a M) (sessionsF hinv.w fun v3 _ => ?_)
      (repeat first | refine gS ?_ | refine gA fun _ => ?_ | refine gX fun _ _ => ?_ | refine gT ?_ | refine gF ?_ | refine gI ?_)
      refine fd (a := rmo r M) (rsessionsF hinv.w fun v4 _ => ?_)
      refine goS ?_
      refine intsF (l1 := M.O.map fun x : Se => x.n) (l2 := M.O.map fun x : Se => x.n) (by rw [List.length_map]; omega) ?_
      rw [decide_eq_true rfl]
      (repeat first | refine gS ?_ | refine gA fun _ => ?_ | refine gX fun _ _ => ?_ | refine gT ?_ | refine gF ?_ | refine gI ?_)
      exact sm (h a r)
end Go.Proofs.YtabpaknfenpkoaaGreat.Mod
