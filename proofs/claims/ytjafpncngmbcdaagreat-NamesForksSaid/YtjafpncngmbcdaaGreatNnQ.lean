/-
  Names: a book that is not there; NamesForks.
-/
import Derived.Test.YtjafpncngmbcdaaGreatNnK
import Derived.Test.YtjafpncngmbcdaaGreatShV
set_option linter.unusedSimpArgs false
set_option linter.unusedVariables false
set_option linter.unusedSectionVars false
namespace Go.Proofs.YtjafpncngmbcdaaGreat.Nam
open Go Go.SL Go.Proofs Go.Proofs.YtjafpncngmbcdaaGreat.Sh
variable {B : World} {H : List Asrt} {K : Value → WT} {W : WT} {a b : Nat} {M : Bk} {f : Fa} {rv hv mv : Value}
abbrev zVer : Value := .agg #[I 0, I 0, nil, .bool false]
attribute [local irreducible] S.pick S.ld S.ldN S.st S.box S.nc S.fad S.ixS S.ixA S.chr S.prt S.ext S.bin S.sh S.sbin S.beq S.neg1 S.com1 S.not1 S.cvt S.str1 S.lenS S.len S.cap S.lenM S.mx S.mn S.mkM S.cond S.gd S.fa S.dr S.rck S.join S.loop S.cvv S.eqv S.slc S.slcS S.b2s S.lk V U CF Gives E cel mpb osl ros dct dit itr lpo dfo
set_option maxRecDepth 8000
attribute [local irreducible] bk dbk checkB stepM
theorem getNil {n : List UInt8} {g : Int} (h : E B H (K (.tuple #[zVer, I 1]))) : E B H (CF Tryz.prog 11 [.pointer none, str n, I g] K) := by
  refine E_mono (W := s11 _ _ _ K) ?_ fun _ => c11
  unfold s11
  refine E_box (vs := [I 0, I 0, nil, .bool false]) fun b6 => ?_
  refine E_peq0 u_pBook ?_
  refine E_tt ?_
  refine E_build (l := [I 0, I 0, nil, .bool false]) str_ver ?_
  (repeat first | refine gS ?_ | refine gA fun _ => ?_ | refine gX fun _ _ => ?_ | refine gT ?_ | refine gF ?_ | refine gI ?_)
  exact sm h
theorem viaNil {s n : List UInt8} (h : E B H (K (.tuple #[zVer, I 1]))) : E B H (CF Tryz.prog 13 [.pointer none, str s, str n] K) := by
  refine E_mono (W := s13 _ _ _ K) ?_ fun _ => c13
  unfold s13
  refine E_box (vs := [str n]) fun b5 => ?_
  refine E_box (vs := [I 0, I 0, nil, .bool false]) fun b6 => ?_
  refine E_peq0 u_pBook ?_
  refine E_tt ?_
  refine E_build (l := [I 0, I 0, nil, .bool false]) str_ver ?_
  (repeat first | refine gS ?_ | refine gA fun _ => ?_ | refine gX fun _ _ => ?_ | refine gT ?_ | refine gF ?_ | refine gI ?_)
  exact sm h
theorem nextNil {n : List UInt8} (h : E B H (K (I 0))) : E B H (CF Tryz.prog 16 [.pointer none, str n] K) := by
  refine E_mono (W := s16 _ _ K) ?_ fun _ => c16
  unfold s16
  refine E_peq0 u_pBook ?_
  refine E_tt ?_
  exact h
theorem sortNil {fv : Value} (h : E B H (K (.tuple #[]))) : E B H (CF Tryz.prog 66 [nil, fv] K) := by
  refine E_mono (W := s66 _ _ K) ?_ fun _ => c66
  unfold s66
  (repeat first | refine gS ?_ | refine gA fun _ => ?_ | refine gX fun _ _ => ?_ | refine gT ?_ | refine gF ?_ | refine gI ?_)
  refine E_mono (W := s103 _ _ _ _) ?_ fun _ => c103
  unfold s103
  refine E_loop (n := 6) (σ := Unit) (fun _ => True) (fun _ => [nil, I 0, fv, I 20, I 0, I 20]) (fun _ => H) (fun _ => 0) () (fun _ => rfl) rfl trivial (fun W hW => hW) ?_
  rintro _ K0 _ _
  refine E_fa fun _ => ?_
  refine E_leq ?_
  refine E_ifF (by decide) ?_
  refine E_mono (W := s132 _ _ _ _ _) ?_ fun _ => c132
  unfold s132
  refine E_addI (by decide) (by decide) ?_
  refine E_loop (n := 5) (σ := Unit) (fun _ => True) (fun _ => [nil, I 0, I 0, fv, I (0 + 1)]) (fun _ => H) (fun _ => 0) () (fun _ => rfl) rfl trivial (fun W hW => hW) ?_
  rintro _ K1 _ _
  refine E_fa fun _ => ?_
  refine E_lss ?_
  refine E_ifF (by decide) ?_
  refine E_loop (n := 4) (σ := Unit) (fun _ => True) (fun _ => [nil, I 0, fv, I 20]) (fun _ => H) (fun _ => 0) () (fun _ => rfl) rfl trivial (fun W hW => hW) ?_
  rintro _ K2 _ _
  refine E_fa fun _ => ?_
  refine E_lss ?_
  refine E_ifF (by decide) ?_
  exact h
theorem compactNil {fv : Value} (h : E B H (K nil)) : E B H (CF Tryz.prog 67 [nil, fv] K) := by
  refine E_mono (W := s67 _ _ K) ?_ fun _ => c67
  unfold s67
  (repeat first | refine gS ?_ | refine gA fun _ => ?_ | refine gX fun _ _ => ?_ | refine gT ?_ | refine gF ?_ | refine gI ?_)
  exact h
instance {i : Nat} {x y : Array Value} : CellI (.func (.func i) x y) := ⟨rfl⟩
theorem liveNil (h : E B H (K nil)) : E B H (CF Tryz.prog 26 [.pointer none] K) := by
  refine E_mono (W := s26 _ K) ?_ fun _ => c26
  unfold s26
  refine E_box (vs := [nil]) fun ob => ?_
  refine all_nil ?_
  refine E_box (vs := [.nilFunc]) fun sb => ?_
  (repeat first | refine gS ?_ | refine gA fun _ => ?_ | refine gX fun _ _ => ?_ | refine gT ?_ | refine gF ?_ | refine gI ?_)
  refine sortNil ?_
  (repeat first | refine gS ?_ | refine gA fun _ => ?_ | refine gX fun _ _ => ?_ | refine gT ?_ | refine gF ?_ | refine gI ?_)
  refine compactNil ?_
  exact sm h
theorem factsNil (h : E B H (K nil)) : E B H (CF Tryz.prog 28 [.pointer none] K) := by
  refine E_mono (W := s28 _ K) ?_ fun _ => c28
  unfold s28
  refine E_peq0 u_pBook ?_
  refine E_tt ?_
  exact h
theorem namesForks {v0 v1 : Value} {l m : List FV} {p : FV} (hl : ∀ H, Rs B H v0 faE l) (hin : ∀ p ∈ l, FIn B p) (hl2 : ∀ H, Rs B H v1 faE m) (hin2 : ∀ p ∈ m, FIn B p) (h : E B H (K (.bool true))) :
    E B H (CF Tryz.prog 8 [v0, v1, .agg (faE p).toArray] K) := by
  refine E_mono (W := s8 _ _ _ K) ?_ fun _ => c8
  unfold s8
  refine E_box (vs := faE p) fun b5 => ?_
  refine play hl hin fun a b => ?_
  have hw := inv_run (l.map (·.1))
  generalize runM (l.map (·.1)) = M at hw ⊢
  (repeat first | refine gS ?_ | refine gA fun _ => ?_ | refine gX fun _ _ => ?_ | refine gT ?_ | refine gF ?_ | refine gI ?_)
  refine forkF fun c => ?_
  (repeat first | refine gS ?_ | refine gA fun _ => ?_ | refine gX fun _ _ => ?_ | refine gT ?_ | refine gF ?_ | refine gI ?_)
  refine fd (a := dbk b M) (forkD fun d => ?_)
  refine E_loop (n := 7) (σ := Nat × Bk) (fun s => s.1 ≤ m.length ∧ Inv s.2) (fun s => [v1, ptr b5, ptr a, ptr b, ptr c, ptr d, I s.1]) (fun s => bk c s.2 :: dbk d s.2 :: bk a M :: dbk b M :: cel true b5 60 (faE p) :: H) (fun s => m.length - s.1) (0, M) (fun _ => rfl) rfl ⟨Nat.zero_le _, hw⟩ (fun W hW => sm hW) ?_
  rintro ⟨i, M1⟩ K0 ⟨hi, hw1⟩ hk0
  simp only at hi hw1 hk0 ⊢
  refine E_fa fun _ => ?_
  refine E_join1 [v1, ptr b5, ptr a, ptr b, ptr c, ptr d, I i, .bool (decide ((i : Int) < m.length) && decide ((i : Int) < 40))] (bk c M1 :: dbk d M1 :: bk a M :: dbk b M :: cel true b5 60 (faE p) :: H) (fun q hq => ?_) ?_
  · refine E_rslen (hf := hl2 _) ?_
    (repeat first | refine gS ?_ | refine gY ?_ | refine gA fun _ => ?_ | refine gX fun _ _ => ?_ | refine gI ?_)
    exact sm hq
  refine E_fa fun _ => ?_
  refine E_ifb' (p := i < m.length ∧ i < 40) (by simp; omega) (fun hc => ?_) (fun hc => ?_)
  · have hx : m[i]? = some m[i] := List.getElem?_eq_getElem (by omega)
    have hfi := hin2 _ (List.mem_of_getElem? hx)
    generalize m[i] = y at hx hfi
    obtain ⟨g, rv, hv, mv⟩ := y
    have ir : ∀ H, Rs B H rv.1 rfC g.refs := hfi.r
    have ih : ∀ H, Rs B H hv.1 hC g.held := hfi.h
    have im : ∀ H, Rs B H mv.1 mvC g.moves := hfi.m
    have ho : FaOk g := hfi.ok
    refine E_dr ?_
    refine E_bsix hl2 hx fun _ _ => ?_
    refine E_ptldA ?_
    refine E_bsix hl2 hx fun _ _ => ?_
    refine E_ptldA ?_
    show E B _ (CF Tryz.prog 23 [ptr c, .agg (faL g rv.1 hv.1 mv.1).toArray] _)
    refine apply (f := g) (hr3 := fun G => im _) ho hw1 ?_
    refine E_rck1 (E_ptldA (E_fact rfl)) (E_rck0 ?_)
    refine fd (a := dbk d M1) ?_
    show E B _ (CF Tryz.prog 34 [ptr d, .agg (faL g rv.1 hv.1 mv.1).toArray] _)
    refine applyD (f := g) (hr3 := fun G => im _) ho hw1 ?_
    refine E_neq ?_
    refine E_ifF (by simp) ?_
    refine E_addI (by omega) (by omega) ?_
    exact sm (hk0 (i + 1, stepM M1 g) ⟨by simp only; omega, hw1.step g⟩ (by simp only; omega))
  · clear hk0 hc
    (repeat first | refine gS ?_ | refine gA fun _ => ?_ | refine gX fun _ _ => ?_ | refine gT ?_ | refine gF ?_ | refine gI ?_)
    refine getNil ?_
    (repeat first | refine gS ?_ | refine gA fun _ => ?_ | refine gX fun _ _ => ?_ | refine gT ?_ | refine gF ?_ | refine gI ?_)
    refine viaNil ?_
    (repeat first | refine gS ?_ | refine gA fun _ => ?_ | refine gX fun _ _ => ?_ | refine gT ?_ | refine gF ?_ | refine gI ?_)
    refine E_build (l := [I 0, I 0, I 0, I 0]) str_keep ?_
    refine expire_nil (l := [I 0, I 0, I 0, I 0]) ?_
    (repeat first | refine gS ?_ | refine gA fun _ => ?_ | refine gX fun _ _ => ?_ | refine gT ?_ | refine gF ?_ | refine gI ?_)
    refine alive ?_
    (repeat first | refine gS ?_ | refine gA fun _ => ?_ | refine gX fun _ _ => ?_ | refine gT ?_ | refine gF ?_ | refine gI ?_)
    refine sm (G := bk a M :: dbk b M :: bk c M1 :: dbk d M1 :: cel true b5 60 (faE p) :: H) ?_
    refine alike hw ?_
    (repeat first | refine gS ?_ | refine gA fun _ => ?_ | refine gX fun _ _ => ?_ | refine gT ?_ | refine gF ?_ | refine gI ?_)
    refine sm (G := bk c M1 :: dbk d M1 :: cel true b5 60 (faE p) :: H) ?_
    refine alike hw1 ?_
    (repeat first | refine gS ?_ | refine gA fun _ => ?_ | refine gX fun _ _ => ?_ | refine gT ?_ | refine gF ?_ | refine gI ?_)
    refine check_nil (l := faE p) ?_
    (repeat first | refine gS ?_ | refine gA fun _ => ?_ | refine gX fun _ _ => ?_ | refine gT ?_ | refine gF ?_ | refine gI ?_)
    refine apply_nil (l := faE p) ?_
    (repeat first | refine gS ?_ | refine gA fun _ => ?_ | refine gX fun _ _ => ?_ | refine gT ?_ | refine gF ?_ | refine gI ?_)
    refine files_nil ?_
    (repeat (refine E_rck1 (by first | exact E_ld (E_fact rfl) | exact E_ld' (by assumption) (E_fact rfl) | exact E_b2sR (E_fact rfl) | exact E_gdnF (by assumption) (E_ld (E_fact rfl)) | exact E_gdT (by assumption) (E_ld (E_fact rfl)) | exact E_gtf (E_ld (E_fact rfl)) | exact E_gft (E_ld (E_fact rfl)) | exact E_ldNA (E_fact rfl) | exact E_ptld (E_fact rfl) | exact E_gtf (E_ldNA (E_fact rfl))) ?_)); (first | (refine E_rck0 ?_) | skip)
    (repeat first | refine gS ?_ | refine gA fun _ => ?_ | refine gX fun _ _ => ?_ | refine gT ?_ | refine gF ?_ | refine gI ?_)
    refine shots_nil ?_
    (repeat (refine E_rck1 (by first | exact E_ld (E_fact rfl) | exact E_ld' (by assumption) (E_fact rfl) | exact E_b2sR (E_fact rfl) | exact E_gdnF (by assumption) (E_ld (E_fact rfl)) | exact E_gdT (by assumption) (E_ld (E_fact rfl)) | exact E_gtf (E_ld (E_fact rfl)) | exact E_gft (E_ld (E_fact rfl)) | exact E_ldNA (E_fact rfl) | exact E_ptld (E_fact rfl) | exact E_gtf (E_ldNA (E_fact rfl))) ?_)); (first | (refine E_rck0 ?_) | skip)
    (repeat first | refine gS ?_ | refine gA fun _ => ?_ | refine gX fun _ _ => ?_ | refine gT ?_ | refine gF ?_ | refine gI ?_)
    refine newest_nil ?_
    (repeat (refine E_rck1 (by first | exact E_ld (E_fact rfl) | exact E_ld' (by assumption) (E_fact rfl) | exact E_b2sR (E_fact rfl) | exact E_gdnF (by assumption) (E_ld (E_fact rfl)) | exact E_gdT (by assumption) (E_ld (E_fact rfl)) | exact E_gtf (E_ld (E_fact rfl)) | exact E_gft (E_ld (E_fact rfl)) | exact E_ldNA (E_fact rfl) | exact E_ptld (E_fact rfl) | exact E_gtf (E_ldNA (E_fact rfl))) ?_)); (first | (refine E_rck0 ?_) | skip)
    (repeat first | refine gS ?_ | refine gA fun _ => ?_ | refine gX fun _ _ => ?_ | refine gT ?_ | refine gF ?_ | refine gI ?_)
    refine liveNil ?_
    (repeat (refine E_rck1 (by first | exact E_ld (E_fact rfl) | exact E_ld' (by assumption) (E_fact rfl) | exact E_b2sR (E_fact rfl) | exact E_gdnF (by assumption) (E_ld (E_fact rfl)) | exact E_gdT (by assumption) (E_ld (E_fact rfl)) | exact E_gtf (E_ld (E_fact rfl)) | exact E_gft (E_ld (E_fact rfl)) | exact E_ldNA (E_fact rfl) | exact E_ptld (E_fact rfl) | exact E_gtf (E_ldNA (E_fact rfl))) ?_)); (first | (refine E_rck0 ?_) | skip)
    (repeat first | refine gS ?_ | refine gA fun _ => ?_ | refine gX fun _ _ => ?_ | refine gT ?_ | refine gF ?_ | refine gI ?_)
    refine factsNil ?_
    (repeat (refine E_rck1 (by first | exact E_ld (E_fact rfl) | exact E_ld' (by assumption) (E_fact rfl) | exact E_b2sR (E_fact rfl) | exact E_gdnF (by assumption) (E_ld (E_fact rfl)) | exact E_gdT (by assumption) (E_ld (E_fact rfl)) | exact E_gtf (E_ld (E_fact rfl)) | exact E_gft (E_ld (E_fact rfl)) | exact E_ldNA (E_fact rfl) | exact E_ptld (E_fact rfl) | exact E_gtf (E_ldNA (E_fact rfl))) ?_)); (first | (refine E_rck0 ?_) | skip)
    (repeat first | refine gS ?_ | refine gA fun _ => ?_ | refine gX fun _ _ => ?_ | refine gT ?_ | refine gF ?_ | refine gI ?_)
    refine now_nil ?_
    (repeat (refine E_rck1 (by first | exact E_ld (E_fact rfl) | exact E_ld' (by assumption) (E_fact rfl) | exact E_b2sR (E_fact rfl) | exact E_gdnF (by assumption) (E_ld (E_fact rfl)) | exact E_gdT (by assumption) (E_ld (E_fact rfl)) | exact E_gtf (E_ld (E_fact rfl)) | exact E_gft (E_ld (E_fact rfl)) | exact E_ldNA (E_fact rfl) | exact E_ptld (E_fact rfl) | exact E_gtf (E_ldNA (E_fact rfl))) ?_)); (first | (refine E_rck0 ?_) | skip)
    (repeat first | refine gS ?_ | refine gA fun _ => ?_ | refine gX fun _ _ => ?_ | refine gT ?_ | refine gF ?_ | refine gI ?_)
    refine nextNil ?_
    (repeat first | refine gS ?_ | refine gA fun _ => ?_ | refine gX fun _ _ => ?_ | refine gT ?_ | refine gF ?_ | refine gI ?_)
    refine fork_nil ?_
    (repeat first | refine gS ?_ | refine gA fun _ => ?_ | refine gX fun _ _ => ?_ | refine gT ?_ | refine gF ?_ | refine gI ?_)
    refine E_peq0 u_pBook ?_
    (repeat first | refine gS ?_ | refine gA fun _ => ?_ | refine gX fun _ _ => ?_ | refine gT ?_ | refine gF ?_ | refine gI ?_)
    exact sm h
end Go.Proofs.YtjafpncngmbcdaaGreat.Nam
