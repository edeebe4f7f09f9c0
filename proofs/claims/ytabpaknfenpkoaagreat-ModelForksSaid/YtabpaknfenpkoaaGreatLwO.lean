/-
  Model: ModelFails.
-/
import Derived.Test.YtabpaknfenpkoaaGreatLwN
set_option linter.unusedSimpArgs false
set_option linter.unusedVariables false
set_option linter.unusedSectionVars false
namespace Go.Proofs.YtabpaknfenpkoaaGreat.Mod
open Go Go.SL Go.Proofs Go.Proofs.YtabpaknfenpkoaaGreat.Sh
section
variable {M : Mo} {o : Od} {sp : Bool} {n : Int}
theorem hsrt_snap (h : HSrt M) (hw : Wf M) : HSrt (snapM M o sp).2 := by
  unfold snapM
  split
  · exact h
  split
  · exact h
  split
  · exact h
  split
  · exact h
  intro s hs
  rcases insS_mem.1 hs with rfl | hs
  · have hs : ((namesV M.V).map (·.1)).Sublist (nms M.V) := by
      unfold namesV
      generalize nms M.V = l
      induction l with
      | nil => exact List.Sublist.slnil
      | cons k t ih =>
        rw [List.filterMap_cons]
        cases liveV M.V k 0 with
        | none => exact ih.cons k
        | some v => exact ih.cons_cons k
    exact (nms_lt hw.v.n).sublist hs
  · exact h s hs
theorem hsrt_step (h : HSrt M) (hw : Wf M) : HSrt (stepM M o sp).2 := by
  have vs : ∀ {M' : Mo}, M'.S = M.S → HSrt M' := fun e s hs => h s (e ▸ hs)
  unfold stepM
  by_cases h0 : o.d = 1
  · rw [if_pos h0]; unfold beginM; repeat' split
    all_goals exact vs rfl
  rw [if_neg h0]
  by_cases h0 : o.d = 2
  · rw [if_pos h0]; unfold writeM; repeat' split
    all_goals exact vs rfl
  rw [if_neg h0]
  by_cases h0 : o.d = 3
  · rw [if_pos h0]; unfold commitM; repeat' split
    all_goals exact vs rfl
  rw [if_neg h0]
  by_cases h0 : o.d = 4
  · rw [if_pos h0]; unfold abortM; split
    all_goals exact vs rfl
  rw [if_neg h0]
  by_cases h0 : o.d = 5 ∨ o.d = 6 ∨ o.d = 7 ∨ o.d = 8 ∨ o.d = 9
  · rw [if_pos h0]; exact vs rfl
  rw [if_neg h0]
  by_cases h0 : o.d = 10
  · rw [if_pos h0]; unfold removeM; split
    all_goals exact vs rfl
  rw [if_neg h0]
  by_cases h0 : o.d = 11
  · rw [if_pos h0]; exact hsrt_snap h hw
  rw [if_neg h0]
  by_cases h0 : o.d = 12
  · rw [if_pos h0]; unfold unsnapM; split
    · exact vs rfl
    split
    · exact vs rfl
    · exact fun s hs => h s (List.mem_filter.1 hs).1
  rw [if_neg h0]
  by_cases h0 : o.d = 13
  · rw [if_pos h0]; unfold tickM; split
    all_goals exact vs rfl
  rw [if_neg h0]
  by_cases h0 : o.d = 14
  · rw [if_pos h0]; unfold expireM; split
    all_goals exact vs rfl
  rw [if_neg h0]
  by_cases h0 : o.d = 15
  · rw [if_pos h0]; exact vs rfl
  rw [if_neg h0]
  split
  all_goals exact vs rfl
theorem hsrt_run {q : Int} (hq : q ≤ 9223372036854775807) (l : List Sp) : ∀ k : Nat, k ≤ l.length → k ≤ 999 → HSrt (runM (newM q) (l.take k)) := by
  intro k
  induction k with
  | zero => intro _ _ s hs; cases hs
  | succ k ih =>
    intro hk hb
    have hx : l[k]? = some l[k] := List.getElem?_eq_getElem (by omega)
    have hi := inv_run hq (l.take k) (by rw [List.length_take]; omega)
    rw [List.take_add_one, hx]
    show HSrt (runM (newM q) (l.take k ++ [l[k]]))
    rw [runM_snoc]
    unfold stepO
    split
    · exact ih (by omega) (by omega)
    · exact hsrt_step (ih (by omega) (by omega)) hi.w
theorem run_hsrt {q : Int} {ss : List Sp} (hq : q ≤ 9223372036854775807) : HSrt (runM (newM q) (ss.take 120)) := by
  have h := hsrt_run hq (ss.take 120) (ss.take 120).length (Nat.le_refl _) (by rw [List.length_take]; omega)
  rwa [List.take_length] at h
/-- What answers an error, or only tells, changes no file. -/
theorem step_same (h : (stepM M o sp).1.e ≠ 0 ∨ (5 ≤ o.d ∧ o.d ≤ 9)) : (stepM M o sp).2.now = M.now ∧ (stepM M o sp).2.V = M.V ∧ (stepM M o sp).2.S = M.S := by
  by_cases h9 : 5 ≤ o.d ∧ o.d ≤ 9
  · unfold stepM
    rw [if_neg (by omega), if_neg (by omega), if_neg (by omega), if_neg (by omega), if_pos (by omega)]
    exact ⟨rfl, rfl, rfl⟩
  replace h := h.resolve_right h9
  revert h
  unfold stepM
  by_cases h0 : o.d = 1
  · rw [if_pos h0]; unfold beginM; repeat' split
    all_goals exact fun _ => ⟨rfl, rfl, rfl⟩
  rw [if_neg h0]
  by_cases h0 : o.d = 2
  · rw [if_pos h0]; unfold writeM; repeat' split
    all_goals exact fun _ => ⟨rfl, rfl, rfl⟩
  rw [if_neg h0]
  by_cases h0 : o.d = 3
  · rw [if_pos h0]; unfold commitM; repeat' split
    all_goals first | exact fun _ => ⟨rfl, rfl, rfl⟩ | exact fun h => (h rfl).elim
  rw [if_neg h0]
  by_cases h0 : o.d = 4
  · rw [if_pos h0]; unfold abortM; split
    all_goals exact fun _ => ⟨rfl, rfl, rfl⟩
  rw [if_neg h0]
  by_cases h0 : o.d = 5 ∨ o.d = 6 ∨ o.d = 7 ∨ o.d = 8 ∨ o.d = 9
  · omega
  rw [if_neg h0]
  by_cases h0 : o.d = 10
  · rw [if_pos h0]; unfold removeM; split
    all_goals first | exact fun _ => ⟨rfl, rfl, rfl⟩ | exact fun h => (h rfl).elim
  rw [if_neg h0]
  by_cases h0 : o.d = 11
  · rw [if_pos h0]; unfold snapM; repeat' split
    all_goals first | exact fun _ => ⟨rfl, rfl, rfl⟩ | exact fun h => (h rfl).elim
  rw [if_neg h0]
  by_cases h0 : o.d = 12
  · rw [if_pos h0]; unfold unsnapM; repeat' split
    all_goals first | exact fun _ => ⟨rfl, rfl, rfl⟩ | exact fun h => (h rfl).elim
  rw [if_neg h0]
  by_cases h0 : o.d = 13
  · rw [if_pos h0]; unfold tickM; split
    all_goals first | exact fun _ => ⟨rfl, rfl, rfl⟩ | exact fun h => (h rfl).elim
  rw [if_neg h0]
  by_cases h0 : o.d = 14
  · rw [if_pos h0]; unfold expireM; split
    all_goals first | exact fun _ => ⟨rfl, rfl, rfl⟩ | exact fun h => (h rfl).elim
  rw [if_neg h0]
  by_cases h0 : o.d = 15
  · rw [if_pos h0]; exact fun _ => ⟨rfl, rfl, rfl⟩
  rw [if_neg h0]
  split
  all_goals exact fun _ => ⟨rfl, rfl, rfl⟩
theorem step_told (h9 : 5 ≤ o.d ∧ o.d ≤ 9) : (stepM M o sp).2 = M := by
  unfold stepM
  rw [if_neg (by omega), if_neg (by omega), if_neg (by omega), if_neg (by omega), if_pos (by omega)]
end
attribute [local irreducible] S.pick S.ld S.ldN S.st S.box S.nc S.fad S.ixS S.ixA S.chr S.prt S.ext S.bin S.sh S.sbin S.beq S.neg1 S.com1 S.not1 S.cvt S.str1 S.lenS S.len S.cap S.lenM S.mx S.mn S.mkM S.cond S.gd S.fa S.dr S.rck S.join S.loop S.cvv S.eqv S.slc S.slcS S.b2s S.lk V U CF Gives E cel mpb osl ros dct dit itr lpo dfo
set_option maxRecDepth 4000
attribute [local irreducible] mo ansH rmo
variable {B : World} {H : List Asrt} {K : Value → WT} {W : WT}
variable {a b : Nat} {M N : Mo} {n m : Int}
theorem modelFails {q : Int} {v : Value} {ss : List Sp} {s : Sp} [hv : BaseS B v stC ss] [CellI v] (hok : ∀ s ∈ ss, SpOk B s) (hsok : SpOk B s) (hq : q ≤ 9223372036854775807) (hl : ss.length ≤ 140737488355328)
    (h : E B H (K (.bool true))) : E B H (CF Tryz.prog 5 [I q, v, .agg (stC s).toArray] K) := by
  have hrd := hsok.rd
  refine E_mono (W := s5 _ _ _ K) ?_ fun _ => c5
  unfold s5
  refine E_box (vs := stC s) fun b5 => ?_
  refine playF (ss := ss) hok hq hl fun a r => ?_
  have hinv := run_inv (q := q) (ss := ss) hq
  have hsrt := run_hsrt (q := q) (ss := ss) hq
  generalize runM (newM q) (ss.take 120) = M at hinv hsrt ⊢
  have hhh : ∀ s' ∈ M.S, s'.held.length ≤ 1000000 := fun s' hs' => Nat.le_trans (hinv.hh s' hs') (by omega)
  have hinv1 := inv_step (o := s.o) (sp := s.sp) hinv (by decide) (by decide)
  have hsrt1 : HSrt (stepM M s.o s.sp).2 := hsrt_step hsrt hinv.w
  have htell := step_told (M := M) (o := s.o) (sp := s.sp)
  have hsm := step_same (M := M) (o := s.o) (sp := s.sp)
  (repeat first | refine gS ?_ | refine gA fun _ => ?_ | refine gX fun _ _ => ?_ | refine gT ?_ | refine gF ?_ | refine gI ?_)
  refine forkF fun c => ?_
  refine E_fad0 ?_
  refine E_ldN (st_op s) rfl ?_
  (repeat first | refine gS ?_ | refine gA fun _ => ?_ | refine gX fun _ _ => ?_ | refine gT ?_ | refine gF ?_ | refine gI ?_)
  refine fd (a := mo a M) ?_
  refine do_ (o := s.o) (sp := s.sp) (bv := s.bv.1) (kv := s.kv.1) (t := s.t) (u := s.u) hinv.w hinv.sw hsok.nm hsok.sh hsok.by_ fun rv => ?_
  refine ans_open fun b1 h1 _ _ e => ?_
  subst e
  generalize hM1 : (stepM M s.o s.sp).2 = M1 at hinv1 hsrt1 htell hsm ⊢
  generalize (stepM M s.o s.sp).1 = A at hsm ⊢
  (repeat first | refine gS ?_ | refine gA fun _ => ?_ | refine gX fun _ _ => ?_ | refine gT ?_ | refine gF ?_ | refine gI ?_)
  rename_i b11
  have hnl := Nat.le_trans (names_len M.V) hinv.nl
  have hhh1 : ∀ s' ∈ M1.S, s'.held.length ≤ 1000000 := fun s' hs' => Nat.le_trans (hinv1.hh s' hs') (by omega)
  refine E_join1 [ptr b5, ptr a, ptr r, ptr c, ptr b11, .bool (decide (5 ≤ s.o.d ∧ s.o.d ≤ 9))] (mo a M1 :: mo c M :: rmo r M :: cel true b11 33 [I A.e, I A.n, b1, h1] :: cel true b5 47 (stC s) :: H) (fun k hk => ?_) ?_
  · have fin : ∀ x : Bool, decide (5 ≤ s.o.d ∧ s.o.d ≤ 9) = x → E B (mo a M1 :: mo c M :: rmo r M :: cel true b11 33 [I A.e, I A.n, b1, h1] :: cel true b5 47 (stC s) :: H) (app 6 k [ptr b5, ptr a, ptr r, ptr c, ptr b11, .bool x]) := fun x hx => hx ▸ hk
    (repeat first | refine gS ?_ | refine gA fun _ => ?_ | refine gX fun _ _ => ?_ | refine gT ?_ | refine gF ?_ | refine gI ?_)
    by_cases g : 5 ≤ s.o.d
    · (repeat first | refine gS ?_ | refine gA fun _ => ?_ | refine gX fun _ _ => ?_ | refine gT ?_ | refine gF ?_ | refine gI ?_)
      refine sm (fin _ ?_)
      rw [decide_eq_decide]; omega
    · (repeat first | refine gS ?_ | refine gA fun _ => ?_ | refine gX fun _ _ => ?_ | refine gT ?_ | refine gF ?_ | refine gI ?_)
      exact sm (fin false (decide_eq_false fun h => g h.1))
  refine E_fa fun _ => ?_
  refine E_join1 [ptr b5, ptr a, ptr r, ptr c, .bool (decide (5 ≤ s.o.d ∧ s.o.d ≤ 9)), .bool false] (mo a M1 :: mo c M :: rmo r M :: cel true b5 47 (stC s) :: H) (fun k hk => ?_) ?_
  · have go : ∀ {G : List Asrt} [Sam (mo a M1 :: mo c M :: rmo r M :: cel true b5 47 (stC s) :: H) G] (K' : Value → WT), (A.e ≠ 0 ∨ 5 ≤ s.o.d ∧ s.o.d ≤ 9) → E B (mo a M1 :: mo c M :: rmo r M :: cel true b5 47 (stC s) :: H) (K' (.bool true)) → E B G (CF Tryz.prog 16 [ptr a, ptr c] K') := fun K' hh hK' => by
      refine sm (G := mo a M1 :: mo c M :: rmo r M :: cel true b5 47 (stC s) :: H) ?_
      refine same2 hinv1.w hinv.w hinv1.fl hsrt1 hsrt ?_
      rw [decide_eq_true (hsm hh)]
      exact hK'
    (repeat first | refine gS ?_ | refine gA fun _ => ?_ | refine gX fun _ _ => ?_ | refine gT ?_ | refine gF ?_ | refine gI ?_)
    by_cases g : A.e ≠ 0
    · (repeat first | refine gS ?_ | refine gA fun _ => ?_ | refine gX fun _ _ => ?_ | refine gT ?_ | refine gF ?_ | refine gI ?_)
      refine go _ (.inl g) ?_
      (repeat first | refine gS ?_ | refine gA fun _ => ?_ | refine gX fun _ _ => ?_ | refine gT ?_ | refine gF ?_ | refine gI ?_)
      exact hk
    · (repeat first | refine gS ?_ | refine gA fun _ => ?_ | refine gX fun _ _ => ?_ | refine gT ?_ | refine gF ?_ | refine gI ?_)
      by_cases g2 : 5 ≤ s.o.d ∧ s.o.d ≤ 9
      · (repeat first | refine gS ?_ | refine gA fun _ => ?_ | refine gX fun _ _ => ?_ | refine gT ?_ | refine gF ?_ | refine gI ?_)
        refine go _ (.inr g2) ?_
        (repeat first | refine gS ?_ | refine gA fun _ => ?_ | refine gX fun _ _ => ?_ | refine gT ?_ | refine gF ?_ | refine gI ?_)
        exact hk
      · (repeat first | refine gS ?_ | refine gA fun _ => ?_ | refine gX fun _ _ => ?_ | refine gT ?_ | refine gF ?_ | refine gI ?_)
        exact sm hk
  refine E_fa fun _ => ?_
  refine E_ff ?_
  refine E_join1 [ptr b5, ptr a, ptr r, ptr c, .bool false] (mo a M1 :: mo c M :: rmo r M :: cel true b5 47 (stC s) :: H) (fun k hk => ?_) ?_
  · by_cases g2 : 5 ≤ s.o.d ∧ s.o.d ≤ 9
    · have hol := hinv.w.ol
      have e := htell g2
      clear hM1
      subst e
      (repeat first | refine gS ?_ | refine gA fun _ => ?_ | refine gX fun _ _ => ?_ | refine gT ?_ | refine gF ?_ | refine gI ?_)
      refine sessionsF hinv.w fun v3 _ => ?_
      (repeat first | refine gS ?_ | refine gA fun _ => ?_ | refine gX fun _ _ => ?_ | refine gT ?_ | refine gF ?_ | refine gI ?_)
      refine fd (a := mo c M1) (sessionsF hinv.w fun v4 _ => ?_)
      (repeat first | refine gS ?_ | refine gA fun _ => ?_ | refine gX fun _ _ => ?_ | refine gT ?_ | refine gF ?_ | refine gI ?_)
      refine intsF (l1 := M1.O.map fun x : Se => x.n) (l2 := M1.O.map fun x : Se => x.n) (by rw [List.length_map]; omega) ?_
      rw [decide_eq_true rfl]
      (repeat first | refine gS ?_ | refine gA fun _ => ?_ | refine gX fun _ _ => ?_ | refine gT ?_ | refine gF ?_ | refine gI ?_)
      exact sm hk
    · (repeat first | refine gS ?_ | refine gA fun _ => ?_ | refine gX fun _ _ => ?_ | refine gT ?_ | refine gF ?_ | refine gI ?_)
      exact sm hk
  refine E_fa fun _ => ?_
  refine E_ff ?_
  refine fd (a := rmo r M) (rfork fun rb => ?_)
  refine E_fad0 ?_
  refine E_ldN (st_op s) rfl ?_
  (repeat first | refine gS ?_ | refine gA fun _ => ?_ | refine gX fun _ _ => ?_ | refine gT ?_ | refine gF ?_ | refine gI ?_)
  refine fd (a := rmo r M) ?_
  refine rdo (bv := s.bv.1) (kv := s.kv.1) (t := s.t) (u := s.u) hinv.w hsok.nm hsok.sh hsok.by_ hinv.nl hinv.fl hinv.s16 hhh fun rv => ?_
  rw [hM1]
  refine liveF ?_
  (repeat first | refine gS ?_ | refine gA fun _ => ?_ | refine gX fun _ _ => ?_ | refine gT ?_ | refine gF ?_ | refine gI ?_)
  refine sm (G := mo a M1 :: mo c M :: rmo r M1 :: rmo rb M :: H) ?_
  refine same2 hinv1.w hinv.w hinv1.fl hsrt1 hsrt ?_
  (repeat first | refine gS ?_ | refine gA fun _ => ?_ | refine gX fun _ _ => ?_ | refine gT ?_ | refine gF ?_ | refine gI ?_)
  refine sm (G := rmo r M1 :: rmo rb M :: H) ?_
  refine rsame2 hinv1.w.n (Nat.le_trans hinv1.s16 (by decide)) hhh1 ?_
  (repeat first | refine gS ?_ | refine gA fun _ => ?_ | refine gX fun _ _ => ?_ | refine gT ?_ | refine gF ?_ | refine gI ?_)
  refine E_beqS ?_
  (repeat first | refine gS ?_ | refine gA fun _ => ?_ | refine gX fun _ _ => ?_ | refine gT ?_ | refine gF ?_ | refine gI ?_)
  exact sm h
end Go.Proofs.YtabpaknfenpkoaaGreat.Mod
