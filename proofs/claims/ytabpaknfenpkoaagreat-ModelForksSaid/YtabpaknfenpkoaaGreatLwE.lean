/-
  Model: a step on both.
-/
import Derived.Test.YtabpaknfenpkoaaGreatLwD
set_option linter.unusedSimpArgs false
set_option linter.unusedVariables false
set_option linter.unusedSectionVars false
namespace Go.Proofs.YtabpaknfenpkoaaGreat.Mod
open Go Go.SL Go.Proofs Go.Proofs.YtabpaknfenpkoaaGreat.Sh
variable {B : World} {H : List Asrt} {K : Value → WT} {W : WT}
variable {a : Nat} {M : Mo} {n : Int}
structure Sp where
  o : Od
  sp : Bool
  bv : Cv
  kv : Cv
  t : Int
  u : Int
def stC (s : Sp) : List Value := [I s.o.d, I s.o.n, str s.o.name, str s.o.shot, I s.o.gen, I s.o.from_, I s.o.size, s.bv.1, I s.o.last, I s.o.young, I s.o.step, I s.o.count, s.kv.1, I s.t, I s.u, .bool s.sp]
instance : Enc stC 16 := ⟨fun _ => rfl, fun s y hy => by
  simp [stC] at hy
  rcases hy with rfl | rfl | rfl | rfl | rfl | rfl | rfl | rfl | rfl | rfl | rfl | rfl | rfl | rfl | rfl | rfl
  all_goals first | rfl | exact s.bv.2 | exact s.kv.2⟩
instance {s : Sp} : AtI (stC s) 0 (I s.o.d) := ⟨rfl⟩
instance {s : Sp} : AtI (stC s) 7 s.bv.1 := ⟨rfl⟩
instance {s : Sp} : AtI (stC s) 15 (.bool s.sp) := ⟨rfl⟩
/-- What may be asked of a step's fields. -/
structure SpOk (B : World) (s : Sp) : Prop where
  nm : s.o.name.length ≤ 140737488355328
  sh : s.o.shot.length ≤ 140737488355328
  by_ : s.o.bytes.length ≤ 140737488355328
  rd : BaseR B s.bv.1 s.o.bytes
theorem st_op (s : Sp) : ((stC s).drop 0).take 15 = opL s.o s.bv.1 s.kv.1 s.t s.u := rfl
attribute [local irreducible] S.pick S.ld S.ldN S.st S.box S.nc S.fad S.ixS S.ixA S.chr S.prt S.ext S.bin S.sh S.sbin S.beq S.neg1 S.com1 S.not1 S.cvt S.str1 S.lenS S.len S.cap S.lenM S.mx S.mn S.mkM S.cond S.gd S.fa S.dr S.rck S.join S.loop S.cvv S.eqv S.slc S.slcS S.b2s S.lk V U CF Gives E cel mpb osl ros dct dit itr lpo dfo
set_option maxRecDepth 4000
attribute [local irreducible] mo ansH rmo
theorem ans_len {M : Mo} {o : Od} {sp : Bool} (h : Inv n M) (hb : o.bytes.length ≤ 140737488355328) : (stepM M o sp).1.names.length ≤ 64 ∧ (stepM M o sp).1.bytes.length ≤ 8192 := by
  have hL : ∀ v, liveV M.V o.name o.gen = some v → v.text.length ≤ 8192 := fun v hv => (h.w.vt v (fof_mem.1 (List.mem_filter.1 (List.mem_of_getLast? hv)).1).1).1
  have hnm := Nat.le_trans (names_len M.V) h.nl
  unfold stepM
  by_cases h0 : o.d = 1
  · rw [if_pos h0]; unfold beginM errA; repeat' split
    all_goals simp
  rw [if_neg h0]
  by_cases h0 : o.d = 2
  · rw [if_pos h0]; unfold writeM errA okA; repeat' split
    all_goals simp
  rw [if_neg h0]
  by_cases h0 : o.d = 3
  · rw [if_pos h0]; unfold commitM errA; repeat' split
    all_goals simp
  rw [if_neg h0]
  by_cases h0 : o.d = 4
  · rw [if_pos h0]; unfold abortM errA okA; split
    all_goals simp
  rw [if_neg h0]
  by_cases h0 : o.d = 5 ∨ o.d = 6 ∨ o.d = 7 ∨ o.d = 8 ∨ o.d = 9
  · rw [if_pos h0]
    show (toldA M o).names.length ≤ 64 ∧ (toldA M o).bytes.length ≤ 8192
    unfold toldA
    by_cases k : o.d = 5
    · rw [if_pos k]; unfold readA errA
      split
      · simp
      · rename_i v hv; exact ⟨by simp, hL v hv⟩
    rw [if_neg k]
    by_cases k : o.d = 6
    · rw [if_pos k]; unfold cutA errA
      split
      · simp
      · rename_i v hv
        split
        · simp
        · refine ⟨by simp, ?_⟩
          have := hL v hv
          simp only [List.length_take, List.length_drop]; omega
    rw [if_neg k]
    by_cases k : o.d = 7
    · rw [if_pos k]; unfold shownA errA
      split
      · simp
      · split
        · simp
        · rename_i v hv
          exact ⟨by simp, (h.w.vt v (fof_mem.1 (List.mem_of_find?_eq_some hv)).1).1⟩
    rw [if_neg k]
    by_cases k : o.d = 8
    · rw [if_pos k]; unfold statA errA
      split
      · simp
      · simp
    rw [if_neg k]
    exact ⟨hnm, by simp⟩
  rw [if_neg h0]
  by_cases h0 : o.d = 10
  · rw [if_pos h0]; unfold removeM errA okA; split
    all_goals simp
  rw [if_neg h0]
  by_cases h0 : o.d = 11
  · rw [if_pos h0]; unfold snapM errA okA; repeat' split
    all_goals simp
  rw [if_neg h0]
  by_cases h0 : o.d = 12
  · rw [if_pos h0]; unfold unsnapM errA okA; repeat' split
    all_goals simp
  rw [if_neg h0]
  by_cases h0 : o.d = 13
  · rw [if_pos h0]; unfold tickM errA okA; split
    all_goals simp
  rw [if_neg h0]
  by_cases h0 : o.d = 14
  · rw [if_pos h0]; unfold expireM errA; split
    all_goals simp
  rw [if_neg h0]
  by_cases h0 : o.d = 15
  · rw [if_pos h0]; unfold cleanA errA okA
    by_cases k : o.n < 0 ∨ 100 < o.n
    · rw [if_pos k]; simp
    · rw [if_neg k]
      cases sp <;> simp
  rw [if_neg h0]
  split
  · simp [okA]
  · simp [errA]
theorem behind {K2 : Kn 4} {v1 v48 b1 h1 : Value} {ss : List Sp} {s : Sp} {i r b10 b11 : Nat} [hv : BaseS B v1 stC ss] [CellI v48] [CellI b1] [CellI h1] (hinv : Inv n M) (hs : ss[i]? = some s) (hok : SpOk B s)
    (h : E B (mo a (stepM M s.o s.sp).2 :: rmo r (stepM M s.o s.sp).2 :: H) (app 4 K2 [v1, ptr a, ptr r, I i])) :
    E B (cel true b11 33 [I (stepM M s.o s.sp).1.e, I (stepM M s.o s.sp).1.n, b1, h1] :: sls cB 5 1 b1 (stepM M s.o s.sp).1.bytes :: sls hC 106 2 h1 (stepM M s.o s.sp).1.names :: mo a (stepM M s.o s.sp).2 :: sls cB 5 1 v48 s.o.bytes :: cel true b10 42 (opL s.o v48 s.kv.1 s.t s.u) :: rmo r M :: H)
      (behindC v1 (ptr a) (ptr r) (I i) (ptr b10) (ptr b11) K2 K) := by
  have hbl := hok.by_
  have hal := ans_len (o := s.o) (sp := s.sp) hinv hbl
  have hrd := hok.rd
  unfold behindC
  refine E_loop (n := 7) (σ := Nat × List UInt8) (fun s' => s'.1 ≤ s.o.bytes.length ∧ s'.2.length = s.o.bytes.length) (fun s' => [v1, ptr a, ptr r, I i, ptr b10, ptr b11, I s'.1])
    (fun s' => sls cB 5 1 v48 s'.2 :: cel true b11 33 [I (stepM M s.o s.sp).1.e, I (stepM M s.o s.sp).1.n, b1, h1] :: sls cB 5 1 b1 (stepM M s.o s.sp).1.bytes :: sls hC 106 2 h1 (stepM M s.o s.sp).1.names :: mo a (stepM M s.o s.sp).2 :: cel true b10 42 (opL s.o v48 s.kv.1 s.t s.u) :: rmo r M :: H) (fun s' => s.o.bytes.length - s'.1) (0, s.o.bytes) (fun _ => rfl) rfl ⟨Nat.zero_le _, rfl⟩ (fun W hW => sm hW) ?_
  rintro ⟨j, cs⟩ K0 ⟨hj, hcs⟩ hk
  simp only at hj hcs hk ⊢
  refine E_fa fun _ => ?_
  refine E_fad0 ?_
  refine E_ld ?_
  refine E_rslen (v := v48) (l := cs) ?_
  refine E_lss ?_
  rw [hcs]
  refine E_if (fun hc => ?_) (fun hc => ?_)
  · have hx : cs[j]? = some cs[j] := List.getElem?_eq_getElem (by omega)
    generalize cs[j] = x at hx
    refine E_fad0 ?_
    refine E_ld ?_
    refine E_rsix (v := v48) (l := cs) hx fun _ _ => ?_
    refine E_ptld ?_
    refine E_xor8 (b := 1) ?_
    refine E_sset (enc := cB) (x ^^^ 1) (by omega) rfl ?_
    refine E_addI (by omega) (by omega) ?_
    exact hk (j + 1, cs.set j (x ^^^ 1)) ⟨by simp only; omega, by simp only [List.length_set]; exact hcs⟩ (by simp only; omega)
  · refine E_dr ?_
    refine E_ldNA ?_
    refine E_rsix (v := v1) (l := ss) hs fun _ _ => ?_
    refine E_ptfad0 fun _ _ => ?_
    refine E_ptldN (st_op s) rfl ?_
    refine E_rsix (v := v1) (l := ss) hs fun _ _ => ?_
    refine E_ptfad0 fun _ _ => ?_
    refine E_ptld ?_
    refine fd (a := rmo r M) ?_
    refine rdo (bv := s.bv.1) (kv := s.kv.1) (t := s.t) (u := s.u) hinv.w hok.nm hok.sh hbl hinv.nl hinv.fl hinv.s16 (fun s' hs' => Nat.le_trans (hinv.hh s' hs') (by omega)) fun rv => ?_
    refine ans_open fun b2 h2 _ _ e => ?_
    subst e
    (repeat (refine E_rck1 (by first | exact E_ld (E_fact rfl) | exact E_ld' (by assumption) (E_fact rfl) | exact E_b2sR (E_fact rfl) | exact E_gdnF (by assumption) (E_ld (E_fact rfl)) | exact E_gdT (by assumption) (E_ld (E_fact rfl)) | exact E_gtf (E_ld (E_fact rfl)) | exact E_gft (E_ld (E_fact rfl)) | exact E_ldNA (E_fact rfl) | exact E_ptld (E_fact rfl) | exact E_gtf (E_ldNA (E_fact rfl))) ?_)); (first | (refine E_rck0 ?_) | skip)
    refine sameAns (A := (stepM M s.o s.sp).1) (C := (stepM M s.o s.sp).1) (by omega) ?_
    rw [decide_eq_true rfl]
    refine goS ?_
    refine E_ff ?_
    refine sm (G := sls cB 5 1 b1 (stepM M s.o s.sp).1.bytes :: cel true b11 33 [I (stepM M s.o s.sp).1.e, I (stepM M s.o s.sp).1.n, b1, h1] :: mo a (stepM M s.o s.sp).2 :: rmo r (stepM M s.o s.sp).2 :: H) ?_
    exact flip (by omega) h
end Go.Proofs.YtabpaknfenpkoaaGreat.Mod
