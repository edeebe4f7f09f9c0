/-
  Part 8: NnK.
-/
import Derived.Test.YtjafpncngmbcdaaGreatPkLg
set_option linter.unusedSimpArgs false
set_option linter.unusedVariables false
set_option linter.unusedSectionVars false
section
namespace Go.Proofs.YtjafpncngmbcdaaGreat.Nam
open Go Go.SL Go.Proofs Go.Proofs.YtjafpncngmbcdaaGreat.Sh
variable {B : World} {H : List Asrt} {K : Value → WT} {W : WT} {a b : Nat} {M : Bk} {f : Fa} {rv hv mv : Value}
def fa1 : Fa := ⟨3, 0, 0, 0, [97], 1, 0, [], [], [], 0, 0, 0, 0⟩
def fa2 : Fa := ⟨3, 0, 0, 0, [97], 2, 0, [], [], [], 0, 0, 0, 0⟩
def fa3 : Fa := ⟨5, 0, 0, 0, [115], 0, 0, [], [([97], 2)], [], 0, 0, 0, 0⟩
def fa4 : Fa := ⟨4, 0, 0, 0, [97], 2, 0, [], [], [], 0, 0, 0, 0⟩
theorem lc1 : checkB bk0 fa1 = 0 := by decide +kernel
theorem lc2 : checkB (stepM bk0 fa1) fa2 = 0 := by decide +kernel
theorem lc3 : checkB (stepM (stepM bk0 fa1) fa2) fa3 = 0 := by decide +kernel
theorem lc4 : checkB (stepM (stepM (stepM bk0 fa1) fa2) fa3) fa4 = 0 := by decide +kernel
def liveBk : Bk := stepM (stepM (stepM (stepM bk0 fa1) fa2) fa3) fa4
theorem lg : getM liveBk.V [97] 0 = some ⟨[97], 1, 0, [], false⟩ := by decide +kernel
theorem lv : viaM liveBk [115] [97] = some ⟨[97], 2, 0, [], true⟩ := by decide +kernel
theorem ln : nextG liveBk.V [97] = 3 := by decide +kernel
theorem linv : Inv liveBk := (((inv0.step fa1).step fa2).step fa3).step fa4
theorem fok1 : FaOk fa1 := ⟨by decide, by decide, by decide, by decide, fun h hh => by cases hh⟩
theorem fok2 : FaOk fa2 := ⟨by decide, by decide, by decide, by decide, fun h hh => by cases hh⟩
theorem fok3 : FaOk fa3 := ⟨by decide, by decide, by decide, by decide, fun h hh => by
  have : h = ([97], 2) := by simpa [fa3] using hh
  subst this; decide⟩
theorem fok4 : FaOk fa4 := ⟨by decide, by decide, by decide, by decide, fun h hh => by cases hh⟩
attribute [local irreducible] S.pick S.ld S.ldN S.st S.box S.nc S.fad S.ixS S.ixA S.chr S.prt S.ext S.bin S.sh S.sbin S.beq S.neg1 S.com1 S.not1 S.cvt S.str1 S.lenS S.len S.cap S.lenM S.mx S.mn S.mkM S.cond S.gd S.fa S.dr S.rck S.join S.loop S.cvv S.eqv S.slc S.slcS S.b2s S.lk V U CF Gives E cel mpb osl ros dct dit itr lpo dfo
set_option maxRecDepth 8000
attribute [local irreducible] bk dbk checkB stepM
theorem alive (h : E B H (K (.bool true))) : E B H (CF Tryz.prog 10 [] K) := by
  have rn : ∀ {α : Type} {enc : α → List Value} (H' : List Asrt), Rs B H' nil enc [] := fun H' => ⟨fun _ => .inl ⟨rfl, rfl, rfl⟩⟩
  have n1 : ∀ H', Rs B H' nil rfC [] := rn (enc := rfC)
  have n2 : ∀ H', Rs B H' nil hC [] := rn (enc := hC)
  have n3 : ∀ H', Rs B H' nil mvC [] := rn (enc := mvC)
  refine E_mono (W := s10 K) ?_ fun _ => c10
  unfold s10
  refine new fun a => ?_
  show E B (bk a bk0 :: H) _
  refine E_join1 [ptr a, .bool false] (bk a liveBk :: H) (fun q hq => ?_) ?_
  · refine E_peq u_pBook ?_
    refine E_gft ?_
    refine E_gft ?_
    refine E_build (l := [I 3, I 0, I 0, I 0, .string ⟨#[97]⟩, I 1, I 0, nil, nil, nil, I 0, I 0, I 0, I 0]) str_fact ?_
    refine E_gft ?_
    show E B _ (CF Tryz.prog 23 [ptr a, .agg (faL fa1 nil nil nil).toArray] _)
    refine apply (f := fa1) (hr1 := n1 _) (hr2 := n2 _) (hr3 := fun G => n3 _) fok1 inv0 ?_
    rw [lc1]
    refine E_gft ?_
    refine E_neq ?_
    rw [decide_eq_false (by decide : ¬ (0 : Int) ≠ 0)]
    refine gS ?_
    refine E_gft ?_
    refine E_gft ?_
    refine E_build (l := [I 3, I 0, I 0, I 0, .string ⟨#[97]⟩, I 2, I 0, nil, nil, nil, I 0, I 0, I 0, I 0]) str_fact ?_
    refine E_gft ?_
    show E B (bk a (stepM bk0 fa1) :: H) (CF Tryz.prog 23 [ptr a, .agg (faL fa2 nil nil nil).toArray] _)
    refine apply (f := fa2) (hr1 := n1 _) (hr2 := n2 _) (hr3 := fun G => n3 _) fok2 (inv0.step fa1) ?_
    rw [lc2]
    refine E_gft ?_
    refine E_neq ?_
    rw [decide_eq_false (by decide : ¬ (0 : Int) ≠ 0)]
    refine gS ?_
    refine E_gft ?_
    refine E_gft ?_
    refine E_build (l := [.string ⟨#[97]⟩, I 2]) str_held ?_
    refine E_gft ?_
    refine E_bsl [(0, 2)] u_helds elt_held (by simp) (by decide) (l0 := [.string ⟨#[]⟩, I 0]) rfl fun bx => ?_
    refine E_slsC (enc := hC) [([97], 2)] 1 rfl rfl ?_
    refine E_gft ?_
    refine E_build (l := [I 5, I 0, I 0, I 0, .string ⟨#[115]⟩, I 0, I 0, nil, .slice (some ⟨bx, 0, none⟩) 1 1, nil, I 0, I 0, I 0, I 0]) str_fact ?_
    refine E_gft ?_
    refine fd (a := bk a (stepM (stepM bk0 fa1) fa2)) ?_
    show E B _ (CF Tryz.prog 23 [ptr a, .agg (faL fa3 nil (.slice (some ⟨bx, 0, none⟩) 1 1) nil).toArray] _)
    refine apply (f := fa3) (hr1 := n1 _) (hr2 := rs_sls) (hr3 := fun G => n3 _) fok3 ((inv0.step fa1).step fa2) ?_
    rw [lc3]
    refine E_gft ?_
    refine E_neq ?_
    rw [decide_eq_false (by decide : ¬ (0 : Int) ≠ 0)]
    refine gS ?_
    refine E_gft ?_
    refine E_gft ?_
    refine E_build (l := [I 4, I 0, I 0, I 0, .string ⟨#[97]⟩, I 2, I 0, nil, nil, nil, I 0, I 0, I 0, I 0]) str_fact ?_
    refine E_gft ?_
    refine fd (a := bk a (stepM (stepM (stepM bk0 fa1) fa2) fa3)) ?_
    show E B _ (CF Tryz.prog 23 [ptr a, .agg (faL fa4 nil nil nil).toArray] _)
    refine apply (f := fa4) (hr1 := n1 _) (hr2 := n2 _) (hr3 := fun G => n3 _) fok4 (((inv0.step fa1).step fa2).step fa3) ?_
    rw [lc4]
    refine E_gft ?_
    refine E_neq ?_
    rw [decide_eq_false (by decide : ¬ (0 : Int) ≠ 0), show stepM (stepM (stepM (stepM bk0 fa1) fa2) fa3) fa4 = liveBk from rfl]
    (repeat first | refine gS ?_ | refine gA fun _ => ?_ | refine gX fun _ _ => ?_ | refine gT ?_ | refine gF ?_ | refine gI ?_)
    exact sm hq
  refine E_fa fun _ => ?_
  refine E_ff ?_
  show E B _ (CF Tryz.prog 11 [ptr a, str [97], I 0] _)
  refine get linv (fun e => by rw [lg] at e; cases e) (fun v c _ e => ?_)
  rw [lg] at e
  cases e
  (repeat first | refine gS ?_ | refine gA fun _ => ?_ | refine gX fun _ _ => ?_ | refine gT ?_ | refine gF ?_ | refine gI ?_)
  rename_i b2
  show E B _ (CF Tryz.prog 13 [ptr a, str [115], str [97]] _)
  refine fd (a := bk a liveBk) ?_
  refine via linv (fun e => by rw [lv] at e; cases e) (fun v c' _ e => ?_)
  rw [lv] at e
  cases e
  (repeat first | refine gS ?_ | refine gA fun _ => ?_ | refine gX fun _ _ => ?_ | refine gT ?_ | refine gF ?_ | refine gI ?_)
  show E B _ (CF Tryz.prog 16 [ptr a, str [97]] _)
  refine fd (a := bk a liveBk) ?_
  refine next (by have := linv.fl [97]; omega) (fun v hv => ⟨(linv.g v hv).2, (linv.g v hv).1⟩) ?_
  rw [ln]
  (repeat first | refine gS ?_ | refine gA fun _ => ?_ | refine gX fun _ _ => ?_ | refine gT ?_ | refine gF ?_ | refine gI ?_)
  exact sm h
end Go.Proofs.YtjafpncngmbcdaaGreat.Nam
end
