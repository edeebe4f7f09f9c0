/-
  Model: ModelPlays.
-/
import Derived.Test.YtabpaknfenpkoaaGreatLwF
set_option linter.unusedSimpArgs false
set_option linter.unusedVariables false
set_option linter.unusedSectionVars false
namespace Go.Proofs.YtabpaknfenpkoaaGreat.Mod
open Go Go.SL Go.Proofs Go.Proofs.YtabpaknfenpkoaaGreat.Sh
attribute [local irreducible] S.pick S.ld S.ldN S.st S.box S.nc S.fad S.ixS S.ixA S.chr S.prt S.ext S.bin S.sh S.sbin S.beq S.neg1 S.com1 S.not1 S.cvt S.str1 S.lenS S.len S.cap S.lenM S.mx S.mn S.mkM S.cond S.gd S.fa S.dr S.rck S.join S.loop S.cvv S.eqv S.slc S.slcS S.b2s S.lk V U CF Gives E cel mpb osl ros dct dit itr lpo dfo
set_option maxRecDepth 4000
attribute [local irreducible] mo ansH rmo
variable {B : World} {H : List Asrt} {K : Value → WT} {W : WT}
variable {a : Nat} {M : Mo} {n : Int}
theorem run_inv {q : Int} {ss : List Sp} (hq : q ≤ 9223372036854775807) : Inv 120 (runM (newM q) (ss.take 120)) := by
  have h := inv_run hq (ss.take 120) (by rw [List.length_take]; omega)
  exact h.mono (by rw [List.length_take]; omega)
theorem modelPlays {q g : Int} {v : Value} {ss : List Sp} {name shot : List UInt8} [hv : BaseS B v stC ss] [CellI v] (hok : ∀ s ∈ ss, SpOk B s) (hq : q ≤ 9223372036854775807) (hl : ss.length ≤ 140737488355328)
    (hn : name.length ≤ 140737488355328) (hn2 : shot.length ≤ 140737488355328) (h : E B H (K (.bool true))) : E B H (CF Tryz.prog 3 [I q, v, str name, str shot, I g] K) := by
  refine E_mono (W := s3 _ _ _ _ _ K) ?_ fun _ => c3
  unfold s3
  refine playF (ss := ss) hok hq hl fun a r => ?_
  have hinv := run_inv (q := q) (ss := ss) hq
  generalize runM (newM q) (ss.take 120) = M at hinv ⊢
  (repeat first | refine gS ?_ | refine gA fun _ => ?_ | refine gX fun _ _ => ?_ | refine gT ?_ | refine gF ?_ | refine gI ?_)
  refine bytesF hinv hn fun b1 _ => ?_
  (repeat first | refine gS ?_ | refine gA fun _ => ?_ | refine gX fun _ _ => ?_ | refine gT ?_ | refine gF ?_ | refine gI ?_)
  refine E_build (l := [I 5, I 0, str name, .string ⟨#[]⟩, I g, I 0, I 0, nil, I 0, I 0, I 0, I 0, nil, I 0, I 0]) str_op ?_
  refine sls_nil cB 1 (T := 5) ?_
  refine fd (a := rmo r M) ?_
  have hhh : ∀ s' ∈ M.S, s'.held.length ≤ 1000000 := fun s' hs' => Nat.le_trans (hinv.hh s' hs') (by omega)
  refine rdo (o := odOf 5 name [] g) (sp := false) (bv := nil) (kv := nil) (t := 0) (u := 0) hinv.w hn (by simp) (by simp) hinv.nl hinv.fl hinv.s16 hhh fun rv => ?_
  show E B (ansH (readA M (odOf 5 name [] g)) rv :: rmo r M :: _) _
  refine ans_open fun b2 h2 _ _ e => ?_
  subst e
  (repeat first | refine gS ?_ | refine gA fun _ => ?_ | refine gX fun _ _ => ?_ | refine gT ?_ | refine gF ?_ | refine gI ?_)
  refine fd (a := mo a M) (shotF hinv hn hn2 fun b3 _ => ?_)
  (repeat first | refine gS ?_ | refine gA fun _ => ?_ | refine gX fun _ _ => ?_ | refine gT ?_ | refine gF ?_ | refine gI ?_)
  refine E_build (l := [I 7, I 0, str name, str shot, I 0, I 0, I 0, nil, I 0, I 0, I 0, I 0, nil, I 0, I 0]) str_op ?_
  refine sls_nil cB 1 (T := 5) ?_
  refine fd (a := rmo r M) ?_
  refine rdo (o := odOf 7 name shot 0) (sp := false) (bv := nil) (kv := nil) (t := 0) (u := 0) hinv.w hn hn2 (by simp) hinv.nl hinv.fl hinv.s16 hhh fun rv => ?_
  show E B (ansH (shownA M (odOf 7 name shot 0)) rv :: rmo r M :: _) _
  refine ans_open fun b4 h4 _ _ e => ?_
  subst e
  (repeat first | refine gS ?_ | refine gA fun _ => ?_ | refine gX fun _ _ => ?_ | refine gT ?_ | refine gF ?_ | refine gI ?_)
  refine liveF ?_
  (repeat first | refine gS ?_ | refine gA fun _ => ?_ | refine gX fun _ _ => ?_ | refine gT ?_ | refine gF ?_ | refine gI ?_)
  refine E_b2sR (bs := (readA M (odOf 5 name [] g)).bytes) ?_
  (repeat first | refine gS ?_ | refine gA fun _ => ?_ | refine gX fun _ _ => ?_ | refine gT ?_ | refine gF ?_ | refine gI ?_)
  refine E_b2sR (bs := (readA M (odOf 5 name [] g)).bytes) ?_
  (repeat first | refine gS ?_ | refine gA fun _ => ?_ | refine gX fun _ _ => ?_ | refine gT ?_ | refine gF ?_ | refine gI ?_)
  rw [decide_eq_true rfl]
  (repeat first | refine gS ?_ | refine gA fun _ => ?_ | refine gX fun _ _ => ?_ | refine gT ?_ | refine gF ?_ | refine gI ?_)
  refine E_b2sR (bs := (shownA M (odOf 7 name shot 0)).bytes) ?_
  (repeat first | refine gS ?_ | refine gA fun _ => ?_ | refine gX fun _ _ => ?_ | refine gT ?_ | refine gF ?_ | refine gI ?_)
  refine E_b2sR (bs := (shownA M (odOf 7 name shot 0)).bytes) ?_
  (repeat first | refine gS ?_ | refine gA fun _ => ?_ | refine gX fun _ _ => ?_ | refine gT ?_ | refine gF ?_ | refine gI ?_)
  rw [decide_eq_true rfl]
  (repeat first | refine gS ?_ | refine gA fun _ => ?_ | refine gX fun _ _ => ?_ | refine gT ?_ | refine gF ?_ | refine gI ?_)
  exact sm h
end Go.Proofs.YtabpaknfenpkoaaGreat.Mod
