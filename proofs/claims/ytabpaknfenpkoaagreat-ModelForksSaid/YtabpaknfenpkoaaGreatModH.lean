/-
  Model: answers; lost, begin, write, abort, tick, clean.
-/
import Derived.Test.YtabpaknfenpkoaaGreatModG
set_option linter.unusedSimpArgs false
set_option linter.unusedVariables false
set_option linter.unusedSectionVars false
namespace Go.Proofs.YtabpaknfenpkoaaGreat.Mod
open Go Go.SL Go.Proofs Go.Proofs.YtabpaknfenpkoaaGreat.Sh
variable {B : World} {H : List Asrt} {K : Value → WT} {W : WT}
abbrev opL (o : Od) (bv kv : Value) (t u : Int) : List Value := [I o.d, I o.n, str o.name, str o.shot, I o.gen, I o.from_, I o.size, bv, I o.last, I o.young, I o.step, I o.count, kv, I t, I u]
abbrev opV (o : Od) (bv kv : Value) (t u : Int) : Value := .agg #[I o.d, I o.n, str o.name, str o.shot, I o.gen, I o.from_, I o.size, bv, I o.last, I o.young, I o.step, I o.count, kv, I t, I u]
/-- An answer, and what it has. -/
def ansH (A : Ans) (rv : Value) : Asrt := ex fun p : Value × Value => all [sls cB 5 1 p.1 A.bytes, sls hC 106 2 p.2 A.names, pur (rv = ans A.e A.n p.1 p.2)]
theorem ans_shut {A : Ans} {bv hv : Value} (h : E B (ansH A (ans A.e A.n bv hv) :: H) W) : E B (sls cB 5 1 bv A.bytes :: sls hC 106 2 hv A.names :: H) W := by
  refine E_pur' (show ans A.e A.n bv hv = ans A.e A.n bv hv from rfl) ?_
  have h' := E_all' (E_ex' (f := fun p : Value × Value => all [sls cB 5 1 p.1 A.bytes, sls hC 106 2 p.2 A.names, pur (ans A.e A.n bv hv = ans A.e A.n p.1 p.2)]) (bv, hv) h)
  exact E_same (by repeat (first | exact Same.refl | (refine Same.cons (by repeat (first | exact Find.here | apply Find.there)) ?_) | (refine Same.drop ?_))) h'
theorem ans_open {A : Ans} {rv : Value} (h : ∀ bv hv [CellI bv] [CellI hv], rv = ans A.e A.n bv hv → E B (sls cB 5 1 bv A.bytes :: sls hC 106 2 hv A.names :: H) W) : E B (ansH A rv :: H) W := by
  refine E_ex fun p => E_all ?_
  refine E_find (a := pur (rv = ans A.e A.n p.1 p.2)) (by repeat (first | exact Find.here | apply Find.there)) (E_pur fun hr => ?_)
  show E B (sls cB 5 1 p.1 A.bytes :: sls hC 106 2 p.2 A.names :: H) _
  refine rs_cell (v := p.1) (l := A.bytes) fun h1 => ?_
  refine rs_cell (v := p.2) (l := A.names) fun h2 => ?_
  haveI : CellI p.1 := ⟨h1⟩
  haveI : CellI p.2 := ⟨h2⟩
  exact h p.1 p.2 hr
theorem ansE {A : Ans} (hb : A.bytes = [] := by rfl) (hn : A.names = [] := by rfl) (h : ∀ rv, E B (ansH A rv :: H) (K rv)) : E B H (K (ans A.e A.n nil nil)) := by
  refine sls_nil hC 2 (T := 106) ?_
  refine sls_nil cB 1 (T := 5) ?_
  have h' := h (ans A.e A.n nil nil)
  have := ans_shut (A := A) h'
  rw [hb, hn] at this
  exact this
theorem ansB {A : Ans} {v : Value} (hn : A.names = [] := by rfl) (h : ∀ rv, E B (ansH A rv :: H) (K rv)) : E B (sls cB 5 1 v A.bytes :: H) (K (ans A.e A.n v nil)) := by
  refine sls_nil hC 2 (T := 106) ?_
  have this := ans_shut (A := A) (h (ans A.e A.n v nil))
  rw [hn] at this
  exact sm this
theorem ansN {A : Ans} {v : Value} (hb : A.bytes = [] := by rfl) (h : ∀ rv, E B (ansH A rv :: H) (K rv)) : E B (sls hC 106 2 v A.names :: H) (K (ans A.e A.n nil v)) := by
  refine sls_nil cB 1 (T := 5) ?_
  have this := ans_shut (A := A) (h (ans A.e A.n nil v))
  rw [hb] at this
  exact this
theorem oof_filter (O : List Se) (n k : Int) : oof (O.filter fun t => decide (t.n ≠ n)) k = if k = n then none else oof O k := by
  induction O with
  | nil => simp [oof]
  | cons c t ih =>
    rw [List.filter_cons]
    by_cases hc : c.n = n
    · simp only [hc, ne_eq, not_true, decide_false, Bool.false_eq_true, if_false]
      rw [ih]
      split
      · rfl
      · rename_i hk
        unfold oof
        rw [List.find?_cons]
        have : ¬ c.n = k := fun e => hk (e.symm.trans hc)
        simp [this]
    · simp only [hc, ne_eq, not_false_iff, decide_true, if_true]
      unfold oof at ih ⊢
      rw [List.find?_cons, ih, List.find?_cons]
      by_cases hk : c.n = k
      · have : ¬ k = n := fun e => hc (hk.trans e)
        simp [hk, this]
      · simp [hk]
theorem ook_del {ko : List (Int × Value)} {O : List Se} {n : Int} (h : OOk ko O) : OOk (ddel ko n) (O.filter fun t => decide (t.n ≠ n)) := fun k => by
  rw [show lk (ddel ko n) k = _ from dget_ddel, oof_filter]
  split
  · rfl
  · exact h k
attribute [local irreducible] S.pick S.ld S.ldN S.st S.box S.nc S.fad S.ixS S.ixA S.chr S.prt S.ext S.bin S.sh S.sbin S.beq S.neg1 S.com1 S.not1 S.cvt S.str1 S.lenS S.len S.cap S.lenM S.mx S.mn S.mkM S.cond S.gd S.fa S.dr S.rck S.join S.loop S.cvv S.eqv S.slc S.slcS S.b2s S.lk V U CF Gives E cel mpb osl ros dct dit itr lpo dfo
set_option maxRecDepth 4000
attribute [local irreducible] mo ansH
theorem lost {a : Nat} {M : Mo} {n e : Int} (h : E B (mo a (lostM M n) :: H) (K (ans e 0 nil nil))) : E B (mo a M :: H) (CF Tryz.prog 70 [ptr a, I n, I e] K) := by
  refine E_mono (W := s70 _ _ _ K) ?_ fun _ => c70
  unfold s70
  refine E_mo fun r1 r2 r3 kf ks ko Lv Lh hf hs ho => ?_
  (repeat first | refine gS ?_ | refine gA fun _ => ?_ | refine gX fun _ _ => ?_ | refine gT ?_ | refine gF ?_ | refine gI ?_)
  refine E_ddel (κ := Int) rfl key_sess ?_
  refine wrong ?_
  (repeat first | refine gS ?_ | refine gA fun _ => ?_ | refine gX fun _ _ => ?_ | refine gT ?_ | refine gF ?_ | refine gI ?_)
  refine sm (G := cel true a 82 [.map (some r1), .map (some r2), .map (some r3), I M.began, I M.now, I M.quota] :: dct kL true r1 kf :: dct kL true r2 ks :: dct kI true r3 (ddel ko n) :: spool vC Lv :: dpool kL Lh :: H) ?_
  exact E_moS (M := lostM M n) r1 r2 r3 hf hs (ook_del ho) (b := M.began) (n := M.now) (q := M.quota) rfl rfl rfl h
variable {a : Nat} {M : Mo} {o : Od} {bv kv : Value} {t u : Int}
theorem abort [CellI bv] [CellI kv] (h : ∀ rv, E B (ansH (abortM M o).1 rv :: mo a (abortM M o).2 :: H) (K rv)) : E B (mo a M :: H) (CF Tryz.prog 43 [ptr a, opV o bv kv t u] K) := by
  refine E_mono (W := s43 _ _ K) ?_ fun _ => c43
  unfold s43
  (repeat first | refine gS ?_ | refine gA fun _ => ?_ | refine gX fun _ _ => ?_ | refine gT ?_ | refine gF ?_ | refine gI ?_)
  refine fd (a := mo a M) (E_mo fun r1 r2 r3 kf ks ko Lv Lh hf hs ho => ?_)
  (repeat first | refine gS ?_ | refine gA fun _ => ?_ | refine gX fun _ _ => ?_ | refine gT ?_ | refine gF ?_ | refine gI ?_)
  have hl := ho o.n
  unfold abortM at h
  cases hs' : oof M.O o.n with
  | none =>
    rw [hs'] at hl h
    refine E_dlk0 (κ := Int) hl ?_
    (repeat first | refine gS ?_ | refine gA fun _ => ?_ | refine gX fun _ _ => ?_ | refine gT ?_ | refine gF ?_ | refine gI ?_)
    refine E_rck1 (E_dlk0 (κ := Int) hl (E_fact rfl)) ?_
    (repeat (refine E_rck1 (by first | exact E_ld (E_fact rfl) | exact E_ld' (by assumption) (E_fact rfl) | exact E_b2sR (E_fact rfl) | exact E_gdnF (by assumption) (E_ld (E_fact rfl)) | exact E_gdT (by assumption) (E_ld (E_fact rfl)) | exact E_gtf (E_ld (E_fact rfl)) | exact E_gft (E_ld (E_fact rfl)) | exact E_ldNA (E_fact rfl) | exact E_ptld (E_fact rfl) | exact E_gtf (E_ldNA (E_fact rfl))) ?_)); (first | (refine E_rck0 ?_) | skip)
    (repeat first | refine gS ?_ | refine gA fun _ => ?_ | refine gX fun _ _ => ?_ | refine gT ?_ | refine gF ?_ | refine gI ?_)
    refine wrong ?_
    (repeat first | refine gS ?_ | refine gA fun _ => ?_ | refine gX fun _ _ => ?_ | refine gT ?_ | refine gF ?_ | refine gI ?_)
    refine sm (G := cel true a 82 [.map (some r1), .map (some r2), .map (some r3), I M.began, I M.now, I M.quota] :: dct kL true r1 kf :: dct kL true r2 ks :: dct kI true r3 ko :: spool vC Lv :: dpool kL Lh :: H) ?_
    refine E_moS (M := M) r1 r2 r3 hf hs ho rfl rfl rfl ?_
    exact ansE (A := errA 9) rfl rfl h
  | some s =>
    rw [hs'] at hl h
    simp only [Option.map_some] at hl h
    unfold sAgg at hl
    refine E_dlk1 (κ := Int) hl ?_
    (repeat first | refine gS ?_ | refine gA fun _ => ?_ | refine gX fun _ _ => ?_ | refine gT ?_ | refine gF ?_ | refine gI ?_)
    refine E_rck1 (E_dlk1 (κ := Int) hl (E_fact rfl)) ?_
    (repeat (refine E_rck1 (by first | exact E_ld (E_fact rfl) | exact E_ld' (by assumption) (E_fact rfl) | exact E_b2sR (E_fact rfl) | exact E_gdnF (by assumption) (E_ld (E_fact rfl)) | exact E_gdT (by assumption) (E_ld (E_fact rfl)) | exact E_gtf (E_ld (E_fact rfl)) | exact E_gft (E_ld (E_fact rfl)) | exact E_ldNA (E_fact rfl) | exact E_ptld (E_fact rfl) | exact E_gtf (E_ldNA (E_fact rfl))) ?_)); (first | (refine E_rck0 ?_) | skip)
    (repeat first | refine gS ?_ | refine gA fun _ => ?_ | refine gX fun _ _ => ?_ | refine gT ?_ | refine gF ?_ | refine gI ?_)
    refine E_same (G := cel true a 82 [.map (some r1), .map (some r2), .map (some r3), I M.began, I M.now, I M.quota] :: dct kL true r1 kf :: dct kL true r2 ks :: dct kI true r3 ko :: spool vC Lv :: dpool kL Lh :: _ :: _ :: _ :: H) (by repeat (first | exact Same.refl | (refine Same.cons (by repeat (first | exact Find.here | apply Find.there)) ?_) | (refine Same.drop ?_))) ?_
    refine E_moS (M := M) r1 r2 r3 hf hs ho rfl rfl rfl ?_
    refine lost ?_
    (repeat first | refine gS ?_ | refine gA fun _ => ?_ | refine gX fun _ _ => ?_ | refine gT ?_ | refine gF ?_ | refine gI ?_)
    exact sm (ansE (A := okA) rfl rfl h)
theorem tick [CellI bv] [CellI kv] (hw : Wf M) (h : ∀ rv, E B (ansH (tickM M o).1 rv :: mo a (tickM M o).2 :: H) (K rv)) : E B (mo a M :: H) (CF Tryz.prog 48 [ptr a, opV o bv kv t u] K) := by
  refine E_mono (W := s48 _ _ K) ?_ fun _ => c48
  unfold s48
  (repeat first | refine gS ?_ | refine gA fun _ => ?_ | refine gX fun _ _ => ?_ | refine gT ?_ | refine gF ?_ | refine gI ?_)
  rename_i bo br
  have ht := hw.t
  have fin : ∀ b : Bool, decide (o.n < 0 ∨ 9007199254740991 - M.now < o.n) = b → E B (cel true br 33 [I 0, I 0, nil, nil] :: cel true bo 42 (opL o bv kv t u) :: mo a M :: H) (S.cond (.bool b) (CF Tryz.prog 39 [I 2] fun v18 => S.st 4 (ptr br) v18 fun _ => S.ldN 4 (ptr br) K) (
    S.dr <|
    S.nc (ptr a) fun v20 =>
    S.fad v20 4 fun v21 =>
    S.ld v21 fun v22 =>
    S.fad (ptr bo) 1 fun v23 =>
    S.ld v23 fun v24 =>
    S.bin .add v22 v24 fun v25 =>
    S.nc (ptr a) fun v26 =>
    S.fad v26 4 fun v27 =>
    S.st 1 v27 v25 fun _ =>
    V Tryz.prog (Instr.build 33 #[]) fun v28 =>
    S.st 4 (ptr br) v28 fun _ =>
    S.ldN 4 (ptr br) K)) := fun b hb => by
    subst hb
    unfold tickM at h
    refine E_if (fun hc => ?_) (fun hc => ?_)
    · rw [if_pos hc] at h
      refine wrong ?_
      (repeat first | refine gS ?_ | refine gA fun _ => ?_ | refine gX fun _ _ => ?_ | refine gT ?_ | refine gF ?_ | refine gI ?_)
      exact sm (ansE (A := errA 2) rfl rfl h)
    · rw [if_neg hc] at h
      refine fd (a := mo a M) (E_mo fun r1 r2 r3 kf ks ko Lv Lh hf hs ho => ?_)
      (repeat first | refine gS ?_ | refine gA fun _ => ?_ | refine gX fun _ _ => ?_ | refine gT ?_ | refine gF ?_ | refine gI ?_)
      refine E_build (l := [I 0, I 0, nil, nil]) str_ans ?_
      (repeat first | refine gS ?_ | refine gA fun _ => ?_ | refine gX fun _ _ => ?_ | refine gT ?_ | refine gF ?_ | refine gI ?_)
      refine sm (G := cel true a 82 [.map (some r1), .map (some r2), .map (some r3), I M.began, I (M.now + o.n), I M.quota] :: dct kL true r1 kf :: dct kL true r2 ks :: dct kI true r3 ko :: spool vC Lv :: dpool kL Lh :: H) ?_
      refine E_moS (M := { M with now := M.now + o.n }) r1 r2 r3 hf hs ho rfl rfl rfl ?_
      exact ansE (A := okA) rfl rfl h
  refine E_join1 [ptr a, ptr bo, ptr br, .bool (decide (o.n < 0 ∨ 9007199254740991 - M.now < o.n))] (cel true br 33 [I 0, I 0, nil, nil] :: cel true bo 42 (opL o bv kv t u) :: mo a M :: H) (fun q hq => ?_) ?_
  · have fin2 : ∀ b : Bool, decide (o.n < 0 ∨ 9007199254740991 - M.now < o.n) = b → E B (cel true br 33 [I 0, I 0, nil, nil] :: cel true bo 42 (opL o bv kv t u) :: mo a M :: H) (app 4 q [ptr a, ptr bo, ptr br, .bool b]) := fun b hb => hb ▸ hq
    (repeat first | refine gS ?_ | refine gA fun _ => ?_ | refine gX fun _ _ => ?_ | refine gT ?_ | refine gF ?_ | refine gI ?_)
    refine fd (a := mo a M) (E_mo fun r1 r2 r3 kf ks ko Lv Lh hf hs ho => ?_)
    have fin3 : ∀ b : Bool, decide (o.n < 0 ∨ 9007199254740991 - M.now < o.n) = b → E B (cel true a 82 [.map (some r1), .map (some r2), .map (some r3), I M.began, I M.now, I M.quota] :: dct kL true r1 kf :: dct kL true r2 ks :: dct kI true r3 ko :: spool vC Lv :: dpool kL Lh :: cel true br 33 [I 0, I 0, nil, nil] :: cel true bo 42 (opL o bv kv t u) :: H) (app 4 q [ptr a, ptr bo, ptr br, .bool b]) := fun b hb => by
      refine E_moS (M := M) r1 r2 r3 hf hs ho rfl rfl rfl ?_
      exact sm (fin2 b hb)
    by_cases h0 : o.n < 0
    · (repeat first | refine gS ?_ | refine gA fun _ => ?_ | refine gX fun _ _ => ?_ | refine gT ?_ | refine gF ?_ | refine gI ?_)
      exact sm (fin3 true (decide_eq_true (.inl h0)))
    · (repeat first | refine gS ?_ | refine gA fun _ => ?_ | refine gX fun _ _ => ?_ | refine gT ?_ | refine gF ?_ | refine gI ?_)
      refine sm (fin3 _ ?_)
      rw [decide_eq_decide]; omega
  · refine E_fa fun _ => ?_
    exact fin _ rfl
theorem cleanF [CellI bv] [CellI kv] {sp : Bool} (h : ∀ rv, E B (ansH (cleanA o sp) rv :: H) (K rv)) : E B H (CF Tryz.prog 50 [ptr a, opV o bv kv t u, .bool sp] K) := by
  refine E_mono (W := s50 _ _ _ K) ?_ fun _ => c50
  unfold s50
  (repeat first | refine gS ?_ | refine gA fun _ => ?_ | refine gX fun _ _ => ?_ | refine gT ?_ | refine gF ?_ | refine gI ?_)
  rename_i bo br
  unfold cleanA at h
  refine E_join1 [.bool sp, ptr br, .bool (decide (o.n < 0 ∨ 100 < o.n))] (cel true br 33 [I 0, I 0, nil, nil] :: H) (fun q hq => ?_) ?_
  · have fin2 : ∀ b : Bool, decide (o.n < 0 ∨ 100 < o.n) = b → E B (cel true br 33 [I 0, I 0, nil, nil] :: H) (app 3 q [.bool sp, ptr br, .bool b]) := fun b hb => hb ▸ hq
    by_cases h0 : o.n < 0
    · (repeat first | refine gS ?_ | refine gA fun _ => ?_ | refine gX fun _ _ => ?_ | refine gT ?_ | refine gF ?_ | refine gI ?_)
      exact sm (fin2 true (decide_eq_true (.inl h0)))
    · (repeat first | refine gS ?_ | refine gA fun _ => ?_ | refine gX fun _ _ => ?_ | refine gT ?_ | refine gF ?_ | refine gI ?_)
      refine sm (fin2 _ ?_)
      rw [decide_eq_decide]; omega
  · refine E_fa fun _ => ?_
    refine E_if (fun hc => ?_) (fun hc => ?_)
    · rw [if_pos hc] at h
      refine wrong ?_
      (repeat first | refine gS ?_ | refine gA fun _ => ?_ | refine gX fun _ _ => ?_ | refine gT ?_ | refine gF ?_ | refine gI ?_)
      exact sm (ansE (A := errA 2) rfl rfl h)
    · rw [if_neg hc] at h
      cases sp with
      | true =>
        (repeat first | refine gS ?_ | refine gA fun _ => ?_ | refine gX fun _ _ => ?_ | refine gT ?_ | refine gF ?_ | refine gI ?_)
        refine wrong ?_
        (repeat first | refine gS ?_ | refine gA fun _ => ?_ | refine gX fun _ _ => ?_ | refine gT ?_ | refine gF ?_ | refine gI ?_)
        exact sm (ansE (A := errA 8) rfl rfl h)
      | false =>
        (repeat first | refine gS ?_ | refine gA fun _ => ?_ | refine gX fun _ _ => ?_ | refine gT ?_ | refine gF ?_ | refine gI ?_)
        refine E_build (l := [I 0, I 0, nil, nil]) str_ans ?_
        (repeat first | refine gS ?_ | refine gA fun _ => ?_ | refine gX fun _ _ => ?_ | refine gT ?_ | refine gF ?_ | refine gI ?_)
        exact sm (ansE (A := okA) rfl rfl h)
end Go.Proofs.YtabpaknfenpkoaaGreat.Mod
