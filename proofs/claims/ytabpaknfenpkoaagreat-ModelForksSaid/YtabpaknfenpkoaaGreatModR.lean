/-
  Model: Do.
-/
import Derived.Test.YtabpaknfenpkoaaGreatModQ
set_option linter.unusedSimpArgs false
set_option linter.unusedVariables false
set_option linter.unusedSectionVars false
namespace Go.Proofs.YtabpaknfenpkoaaGreat.Mod
open Go Go.SL Go.Proofs Go.Proofs.YtabpaknfenpkoaaGreat.Sh
variable {B : World} {H : List Asrt} {K : Value → WT} {W : WT}
variable {a : Nat} {M : Mo} {o : Od} {bv kv : Value} {t u : Int}
attribute [local irreducible] S.pick S.ld S.ldN S.st S.box S.nc S.fad S.ixS S.ixA S.chr S.prt S.ext S.bin S.sh S.sbin S.beq S.neg1 S.com1 S.not1 S.cvt S.str1 S.lenS S.len S.cap S.lenM S.mx S.mn S.mkM S.cond S.gd S.fa S.dr S.rck S.join S.loop S.cvv S.eqv S.slc S.slcS S.b2s S.lk V U CF Gives E cel mpb osl ros dct dit itr lpo dfo
set_option maxRecDepth 4000
attribute [local irreducible] mo ansH
theorem do_ [CellI bv] [CellI kv] {sp : Bool} (hw : Wf M) (hsw : sweepV M.S M.V = M.V) (hn : o.name.length ≤ 140737488355328) (hn2 : o.shot.length ≤ 140737488355328) [hb : Rb B H bv o.bytes] (hbl : o.bytes.length ≤ 140737488355328)
    (h : ∀ rv, E B (ansH (stepM M o sp).1 rv :: mo a (stepM M o sp).2 :: H) (K rv)) : E B (mo a M :: H) (CF Tryz.prog 12 [ptr a, opV o bv kv t u, .bool sp] K) := by
  refine E_mono (W := s12 _ _ _ K) ?_ fun _ => c12
  unfold s12
  unfold stepM at h
  refine E_box fun bo => ?_
  refine E_box fun br => ?_
  refine E_peq u_pModel ?_
  refine E_ff ?_
  (repeat first | refine gS ?_ | refine gA fun _ => ?_ | refine gX fun _ _ => ?_ | refine gT ?_ | refine gF ?_ | refine gI ?_)
  have fin : ∀ (A : Ans × Mo), (∀ rv, E B (ansH A.1 rv :: mo a A.2 :: H) (K rv)) → ∀ rv, E B (ansH A.1 rv :: mo a A.2 :: cel true br 33 [I 0, I 0, nil, nil] :: cel true bo 42 (opL o bv kv t u) :: H) (S.st 4 (ptr br) rv fun _ => S.ldN 4 (ptr br) K) := fun A hA rv => by
    refine ans_open fun b' h' _ _ e => ?_
    subst e
    (repeat first | refine gS ?_ | refine gA fun _ => ?_ | refine gX fun _ _ => ?_ | refine gT ?_ | refine gF ?_ | refine gI ?_)
    refine sm (G := sls cB 5 1 b' A.1.bytes :: sls hC 106 2 h' A.1.names :: mo a A.2 :: H) ?_
    exact ans_shut (hA _)
  refine E_if (fun hc => ?_) (fun hc => ?_)
  · rw [if_pos hc] at h
    (repeat first | refine gS ?_ | refine gA fun _ => ?_ | refine gX fun _ _ => ?_ | refine gT ?_ | refine gF ?_ | refine gI ?_)
    exact sm (begin_ (H := cel true br 33 [I 0, I 0, nil, nil] :: cel true bo 42 (opL o bv kv t u) :: H) hw hn (fin _ h))
  · rw [if_neg hc] at h
    (repeat first | refine gS ?_ | refine gA fun _ => ?_ | refine gX fun _ _ => ?_ | refine gT ?_ | refine gF ?_ | refine gI ?_)
    refine E_if (fun hc => ?_) (fun hc => ?_)
    · rw [if_pos hc] at h
      (repeat first | refine gS ?_ | refine gA fun _ => ?_ | refine gX fun _ _ => ?_ | refine gT ?_ | refine gF ?_ | refine gI ?_)
      exact sm (write (H := cel true br 33 [I 0, I 0, nil, nil] :: cel true bo 42 (opL o bv kv t u) :: H) hw hbl (fin _ h))
    · rw [if_neg hc] at h
      (repeat first | refine gS ?_ | refine gA fun _ => ?_ | refine gX fun _ _ => ?_ | refine gT ?_ | refine gF ?_ | refine gI ?_)
      refine E_if (fun hc => ?_) (fun hc => ?_)
      · rw [if_pos hc] at h
        (repeat first | refine gS ?_ | refine gA fun _ => ?_ | refine gX fun _ _ => ?_ | refine gT ?_ | refine gF ?_ | refine gI ?_)
        exact sm (commitF (H := cel true br 33 [I 0, I 0, nil, nil] :: cel true bo 42 (opL o bv kv t u) :: H) hw (fin _ h))
      · rw [if_neg hc] at h
        (repeat first | refine gS ?_ | refine gA fun _ => ?_ | refine gX fun _ _ => ?_ | refine gT ?_ | refine gF ?_ | refine gI ?_)
        refine E_if (fun hc => ?_) (fun hc => ?_)
        · rw [if_pos hc] at h
          (repeat first | refine gS ?_ | refine gA fun _ => ?_ | refine gX fun _ _ => ?_ | refine gT ?_ | refine gF ?_ | refine gI ?_)
          exact sm (abort (H := cel true br 33 [I 0, I 0, nil, nil] :: cel true bo 42 (opL o bv kv t u) :: H) (fin _ h))
        · rw [if_neg hc] at h
          (repeat first | refine gS ?_ | refine gA fun _ => ?_ | refine gX fun _ _ => ?_ | refine gT ?_ | refine gF ?_ | refine gI ?_)
          refine E_join1 [ptr a, .bool sp, ptr bo, ptr br, I o.d, .bool (decide (o.d = 5 ∨ o.d = 6 ∨ o.d = 7 ∨ o.d = 8 ∨ o.d = 9))] (mo a M :: cel true br 33 [I 0, I 0, nil, nil] :: cel true bo 42 (opL o bv kv t u) :: H) (fun q hq => ?_) ?_
          · have fin2 : ∀ b : Bool, decide (o.d = 5 ∨ o.d = 6 ∨ o.d = 7 ∨ o.d = 8 ∨ o.d = 9) = b → E B (mo a M :: cel true br 33 [I 0, I 0, nil, nil] :: cel true bo 42 (opL o bv kv t u) :: H) (app 6 q [ptr a, .bool sp, ptr bo, ptr br, I o.d, .bool b]) := fun b hb => hb ▸ hq
            (repeat first | refine gS ?_ | refine gA fun _ => ?_ | refine gX fun _ _ => ?_ | refine gT ?_ | refine gF ?_ | refine gI ?_)
            refine E_if (fun hc => ?_) (fun hc => ?_)
            · rw [decide_eq_true hc]
              exact sm (fin2 true (decide_eq_true (by omega)))
            · skip
              (repeat first | refine gS ?_ | refine gA fun _ => ?_ | refine gX fun _ _ => ?_ | refine gT ?_ | refine gF ?_ | refine gI ?_)
              refine E_if (fun hc => ?_) (fun hc => ?_)
              · rw [decide_eq_true hc]
                exact sm (fin2 true (decide_eq_true (by omega)))
              · skip
                (repeat first | refine gS ?_ | refine gA fun _ => ?_ | refine gX fun _ _ => ?_ | refine gT ?_ | refine gF ?_ | refine gI ?_)
                refine E_if (fun hc => ?_) (fun hc => ?_)
                · rw [decide_eq_true hc]
                  exact sm (fin2 true (decide_eq_true (by omega)))
                · skip
                  (repeat first | refine gS ?_ | refine gA fun _ => ?_ | refine gX fun _ _ => ?_ | refine gT ?_ | refine gF ?_ | refine gI ?_)
                  refine E_if (fun hc => ?_) (fun hc => ?_)
                  · rw [decide_eq_true hc]
                    exact sm (fin2 true (decide_eq_true (by omega)))
                  · skip
                    (repeat first | refine gS ?_ | refine gA fun _ => ?_ | refine gX fun _ _ => ?_ | refine gT ?_ | refine gF ?_ | refine gI ?_)
                    refine sm (fin2 _ ?_)
                    rw [decide_eq_decide]; omega
          · refine E_fa fun _ => ?_
            refine E_if (fun hc => ?_) (fun hc => ?_)
            · rw [if_pos hc] at h
              (repeat first | refine gS ?_ | refine gA fun _ => ?_ | refine gX fun _ _ => ?_ | refine gT ?_ | refine gF ?_ | refine gI ?_)
              exact sm (toldF (H := cel true br 33 [I 0, I 0, nil, nil] :: cel true bo 42 (opL o bv kv t u) :: H) (t := t) (u := u) hw (fin _ h))
            · rw [if_neg hc] at h
              (repeat first | refine gS ?_ | refine gA fun _ => ?_ | refine gX fun _ _ => ?_ | refine gT ?_ | refine gF ?_ | refine gI ?_)
              refine E_if (fun hc => ?_) (fun hc => ?_)
              · rw [if_pos hc] at h
                (repeat first | refine gS ?_ | refine gA fun _ => ?_ | refine gX fun _ _ => ?_ | refine gT ?_ | refine gF ?_ | refine gI ?_)
                exact sm (removeF (H := cel true br 33 [I 0, I 0, nil, nil] :: cel true bo 42 (opL o bv kv t u) :: H) hw (fin _ h))
              · rw [if_neg hc] at h
                (repeat first | refine gS ?_ | refine gA fun _ => ?_ | refine gX fun _ _ => ?_ | refine gT ?_ | refine gF ?_ | refine gI ?_)
                refine E_if (fun hc => ?_) (fun hc => ?_)
                · rw [if_pos hc] at h
                  (repeat first | refine gS ?_ | refine gA fun _ => ?_ | refine gX fun _ _ => ?_ | refine gT ?_ | refine gF ?_ | refine gI ?_)
                  exact sm (snapF (H := cel true br 33 [I 0, I 0, nil, nil] :: cel true bo 42 (opL o bv kv t u) :: H) hw hn2 (fin _ h))
                · rw [if_neg hc] at h
                  (repeat first | refine gS ?_ | refine gA fun _ => ?_ | refine gX fun _ _ => ?_ | refine gT ?_ | refine gF ?_ | refine gI ?_)
                  refine E_if (fun hc => ?_) (fun hc => ?_)
                  · rw [if_pos hc] at h
                    (repeat first | refine gS ?_ | refine gA fun _ => ?_ | refine gX fun _ _ => ?_ | refine gT ?_ | refine gF ?_ | refine gI ?_)
                    exact sm (unsnapF (H := cel true br 33 [I 0, I 0, nil, nil] :: cel true bo 42 (opL o bv kv t u) :: H) hw hn2 (fin _ h))
                  · rw [if_neg hc] at h
                    (repeat first | refine gS ?_ | refine gA fun _ => ?_ | refine gX fun _ _ => ?_ | refine gT ?_ | refine gF ?_ | refine gI ?_)
                    refine E_if (fun hc => ?_) (fun hc => ?_)
                    · rw [if_pos hc] at h
                      (repeat first | refine gS ?_ | refine gA fun _ => ?_ | refine gX fun _ _ => ?_ | refine gT ?_ | refine gF ?_ | refine gI ?_)
                      exact sm (tick (H := cel true br 33 [I 0, I 0, nil, nil] :: cel true bo 42 (opL o bv kv t u) :: H) hw (fin _ h))
                    · rw [if_neg hc] at h
                      (repeat first | refine gS ?_ | refine gA fun _ => ?_ | refine gX fun _ _ => ?_ | refine gT ?_ | refine gF ?_ | refine gI ?_)
                      refine E_if (fun hc => ?_) (fun hc => ?_)
                      · rw [if_pos hc] at h
                        (repeat first | refine gS ?_ | refine gA fun _ => ?_ | refine gX fun _ _ => ?_ | refine gT ?_ | refine gF ?_ | refine gI ?_)
                        exact sm (expireF (H := cel true br 33 [I 0, I 0, nil, nil] :: cel true bo 42 (opL o bv kv t u) :: H) hw hsw (fin _ h))
                      · rw [if_neg hc] at h
                        (repeat first | refine gS ?_ | refine gA fun _ => ?_ | refine gX fun _ _ => ?_ | refine gT ?_ | refine gF ?_ | refine gI ?_)
                        refine E_if (fun hc => ?_) (fun hc => ?_)
                        · rw [if_pos hc] at h
                          (repeat first | refine gS ?_ | refine gA fun _ => ?_ | refine gX fun _ _ => ?_ | refine gT ?_ | refine gF ?_ | refine gI ?_)
                          refine fd (a := mo a M) ?_
                          refine cleanF fun rv => ?_
                          exact sm (fin _ h rv)
                        · rw [if_neg hc] at h
                          (repeat first | refine gS ?_ | refine gA fun _ => ?_ | refine gX fun _ _ => ?_ | refine gT ?_ | refine gF ?_ | refine gI ?_)
                          refine E_join1 [ptr br, .bool (decide (o.d = 16 ∨ o.d = 17 ∨ o.d = 18 ∨ o.d = 19 ∨ o.d = 20 ∨ o.d = 21))] (mo a M :: cel true br 33 [I 0, I 0, nil, nil] :: cel true bo 42 (opL o bv kv t u) :: H) (fun q hq => ?_) ?_
                          · have fin2 : ∀ b : Bool, decide (o.d = 16 ∨ o.d = 17 ∨ o.d = 18 ∨ o.d = 19 ∨ o.d = 20 ∨ o.d = 21) = b → E B (mo a M :: cel true br 33 [I 0, I 0, nil, nil] :: cel true bo 42 (opL o bv kv t u) :: H) (app 2 q [ptr br, .bool b]) := fun b hb => hb ▸ hq
                            (repeat first | refine gS ?_ | refine gA fun _ => ?_ | refine gX fun _ _ => ?_ | refine gT ?_ | refine gF ?_ | refine gI ?_)
                            refine E_if (fun hc => ?_) (fun hc => ?_)
                            · rw [decide_eq_true hc]
                              exact sm (fin2 true (decide_eq_true (by omega)))
                            · skip
                              (repeat first | refine gS ?_ | refine gA fun _ => ?_ | refine gX fun _ _ => ?_ | refine gT ?_ | refine gF ?_ | refine gI ?_)
                              refine E_if (fun hc => ?_) (fun hc => ?_)
                              · rw [decide_eq_true hc]
                                exact sm (fin2 true (decide_eq_true (by omega)))
                              · skip
                                (repeat first | refine gS ?_ | refine gA fun _ => ?_ | refine gX fun _ _ => ?_ | refine gT ?_ | refine gF ?_ | refine gI ?_)
                                refine E_if (fun hc => ?_) (fun hc => ?_)
                                · rw [decide_eq_true hc]
                                  exact sm (fin2 true (decide_eq_true (by omega)))
                                · skip
                                  (repeat first | refine gS ?_ | refine gA fun _ => ?_ | refine gX fun _ _ => ?_ | refine gT ?_ | refine gF ?_ | refine gI ?_)
                                  refine E_if (fun hc => ?_) (fun hc => ?_)
                                  · rw [decide_eq_true hc]
                                    exact sm (fin2 true (decide_eq_true (by omega)))
                                  · skip
                                    (repeat first | refine gS ?_ | refine gA fun _ => ?_ | refine gX fun _ _ => ?_ | refine gT ?_ | refine gF ?_ | refine gI ?_)
                                    refine E_if (fun hc => ?_) (fun hc => ?_)
                                    · rw [decide_eq_true hc]
                                      exact sm (fin2 true (decide_eq_true (by omega)))
                                    · skip
                                      (repeat first | refine gS ?_ | refine gA fun _ => ?_ | refine gX fun _ _ => ?_ | refine gT ?_ | refine gF ?_ | refine gI ?_)
                                      refine sm (fin2 _ ?_)
                                      rw [decide_eq_decide]; omega
                          · refine E_fa fun _ => ?_
                            refine E_if (fun hc => ?_) (fun hc => ?_)
                            · rw [if_pos hc] at h
                              refine E_build (l := [I 0, I 0, nil, nil]) str_ans ?_
                              (repeat first | refine gS ?_ | refine gA fun _ => ?_ | refine gX fun _ _ => ?_ | refine gT ?_ | refine gF ?_ | refine gI ?_)
                              exact sm (ansE (A := okA) rfl rfl h)
                            · rw [if_neg hc] at h
                              refine wrong ?_
                              (repeat first | refine gS ?_ | refine gA fun _ => ?_ | refine gX fun _ _ => ?_ | refine gT ?_ | refine gF ?_ | refine gI ?_)
                              exact sm (ansE (A := errA 4) rfl rfl h)
theorem do_nil [CellI bv] [CellI kv] {sp : Bool} (h : ∀ rv, E B (ansH (errA 1) rv :: H) (K rv)) : E B H (CF Tryz.prog 12 [.pointer none, opV o bv kv t u, .bool sp] K) := by
  refine E_mono (W := s12 _ _ _ K) ?_ fun _ => c12
  unfold s12
  refine E_box fun bo => ?_
  refine E_box fun br => ?_
  refine E_peq0 u_pModel ?_
  refine E_tt ?_
  refine wrong ?_
  (repeat first | refine gS ?_ | refine gA fun _ => ?_ | refine gX fun _ _ => ?_ | refine gT ?_ | refine gF ?_ | refine gI ?_)
  exact sm (ansE (A := errA 1) rfl rfl h)
end Go.Proofs.YtabpaknfenpkoaaGreat.Mod
