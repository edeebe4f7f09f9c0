/-
  Names: what is wrong with a fact.
-/
import Derived.Test.YtjafpncngmbcdaaGreatNmB
set_option linter.unusedSimpArgs false
set_option linter.unusedVariables false
set_option linter.unusedSectionVars false
namespace Go.Proofs.YtjafpncngmbcdaaGreat.Nam
open Go Go.SL Go.Proofs Go.Proofs.YtjafpncngmbcdaaGreat.Sh
variable {B : World} {H : List Asrt} {K : Value → WT} {W : WT} {c : Bool} {x y z : Value}
theorem eq_run (a b a' b' : Int) : EqG Tryz.prog 2 55 (.agg #[I a, I b]) (.agg #[I a', I b']) (decide (a = a' ∧ b = b')) := by
  have h := eqg_struct (P := Tryz.prog) (n := 1) (t := 55) (xs := [I a, I b]) (ys := [I a', I b']) (bs := [decide (a = a'), decide (b = b')]) [(3, 0), (3, 1)] (by kernel_rfl) (by kernel_rfl) (by kernel_rfl) rfl (fun i t o b'' h1 h2 => by
    match i, h1, h2 with
    | 0, h1, h2 => cases h1; cases h2; exact ⟨_, _, partG_cell (eqV_int (a := a) (b := a') u_int).1 rfl, partG_cell (eqV_int (a := a) (b := a') u_int).1 rfl, (eqV_int u_int).g⟩
    | 1, h1, h2 => cases h1; cases h2; exact ⟨_, _, partG_cell (eqV_int (a := a) (b := a') u_int).1 rfl, partG_cell (eqV_int (a := a) (b := a') u_int).1 rfl, (eqV_int u_int).g⟩
    | n + 2, h1, h2 => simp at h1)
  simpa [Bool.decide_and] using h
theorem eq_place (a b n a' b' n' : Int) : EqG Tryz.prog 3 57 (.agg #[I a, I b, I n]) (.agg #[I a', I b', I n']) (decide (a = a' ∧ b = b' ∧ n = n')) := by
  have h := eqg_struct (P := Tryz.prog) (n := 2) (t := 57) (xs := [I a, I b, I n]) (ys := [I a', I b', I n']) (bs := [decide (a = a'), decide (b = b' ∧ n = n')]) [(3, 0), (55, 1)] (by kernel_rfl) (by kernel_rfl) (by kernel_rfl) rfl (fun i t o b'' h1 h2 => by
    match i, h1, h2 with
    | 0, h1, h2 => cases h1; cases h2; exact ⟨_, _, partG_cell (eqV_int (a := a) (b := a') u_int).1 rfl, partG_cell (eqV_int (a := a) (b := a') u_int).1 rfl, (eqV_int u_int).g.up (by decide)⟩
    | 1, h1, h2 => cases h1; cases h2; exact ⟨_, _, partG_agg (ys := [I b, I n]) (n := 2) (by kernel_rfl) (by kernel_rfl) rfl, partG_agg (ys := [I b', I n']) (n := 2) (by kernel_rfl) (by kernel_rfl) rfl, eq_run b n b' n'⟩
    | n + 2, h1, h2 => simp at h1)
  simpa [Bool.decide_and] using h
theorem eq_keep (a b n m a' b' n' m' : Int) : EqG Tryz.prog 2 43 (.agg #[I a, I b, I n, I m]) (.agg #[I a', I b', I n', I m']) (decide (a = a' ∧ b = b' ∧ n = n' ∧ m = m')) := by
  have h := eqg_struct (P := Tryz.prog) (n := 1) (t := 43) (xs := [I a, I b, I n, I m]) (ys := [I a', I b', I n', I m']) (bs := [decide (a = a'), decide (b = b'), decide (n = n'), decide (m = m')]) [(3, 0), (3, 1), (3, 2), (3, 3)] (by kernel_rfl) (by kernel_rfl) (by kernel_rfl) rfl (fun i t o b'' h1 h2 => by
    have hc := (eqV_int (P := Tryz.prog) (a := a) (b := a') u_int).1
    match i, h1, h2 with
    | 0, h1, h2 => cases h1; cases h2; exact ⟨_, _, partG_cell hc rfl, partG_cell hc rfl, (eqV_int u_int).g⟩
    | 1, h1, h2 => cases h1; cases h2; exact ⟨_, _, partG_cell hc rfl, partG_cell hc rfl, (eqV_int u_int).g⟩
    | 2, h1, h2 => cases h1; cases h2; exact ⟨_, _, partG_cell hc rfl, partG_cell hc rfl, (eqV_int u_int).g⟩
    | 3, h1, h2 => cases h1; cases h2; exact ⟨_, _, partG_cell hc rfl, partG_cell hc rfl, (eqV_int u_int).g⟩
    | n + 4, h1, h2 => simp at h1)
  simpa [Bool.decide_and] using h
theorem str_place : Str Tryz.prog 57 [(0, 1), (1, 2)] [I 0, I 0, I 0] := str_of (zv := .agg #[I 0, I 0, I 0]) (by kernel_rfl) (by kernel_rfl) rfl
theorem str_run : Str Tryz.prog 55 [(0, 1), (1, 1)] [I 0, I 0] := str_of (zv := .agg #[I 0, I 0]) (by kernel_rfl) (by kernel_rfl) rfl
theorem str_keep : Str Tryz.prog 43 [(0, 1), (1, 1), (2, 1), (3, 1)] [I 0, I 0, I 0, I 0] := str_of (zv := .agg #[I 0, I 0, I 0, I 0]) (by kernel_rfl) (by kernel_rfl) rfl
attribute [local irreducible] S.pick S.ld S.ldN S.st S.box S.nc S.fad S.ixS S.ixA S.chr S.prt S.ext S.bin S.sh S.sbin S.beq S.neg1 S.com1 S.not1 S.cvt S.str1 S.lenS S.len S.cap S.lenM S.mx S.mn S.mkM S.cond S.gd S.fa S.dr S.rck S.join S.loop S.cvv S.eqv S.slc S.slcS S.b2s S.lk V U CF Gives E cel mpb osl ros dct dit itr lpo dfo
set_option maxRecDepth 8000
instance : Pb B H c (V Tryz.prog (Instr.build 57 #[])) (.agg #[I 0, I 0, I 0]) := ⟨fun _ K k => E_build (l := [I 0, I 0, I 0]) str_place k⟩
instance : Pb B H c (V Tryz.prog (Instr.build 55 #[])) (.agg #[I 0, I 0]) := ⟨fun _ K k => E_build (l := [I 0, I 0]) str_run k⟩
instance : Pb B H c (V Tryz.prog (Instr.build 43 #[])) (.agg #[I 0, I 0, I 0, I 0]) := ⟨fun _ K k => E_build (l := [I 0, I 0, I 0, I 0]) str_keep k⟩
instance {a b n a' b' n' : Int} {q : Bool} [h : Un c x (.agg #[I a, I b, I n])] [h' : Un c y (.agg #[I a', I b', I n'])] : Pb B H c (S.eqv Tryz.prog .eql 57 q x y) (.bool (decide (a = a' ∧ b = b' ∧ n = n'))) :=
  ⟨fun e K k => by rw [h.pf e, h'.pf e]; exact E_aeq (by kernel_rfl) (fun w => (eq_place a b n a' b' n').equal (by decide) w) k⟩
instance {a b n a' b' n' : Int} {q : Bool} [h : Un c x (.agg #[I a, I b, I n])] [h' : Un c y (.agg #[I a', I b', I n'])] : Pb B H c (S.eqv Tryz.prog .neq 57 q x y) (.bool (!decide (a = a' ∧ b = b' ∧ n = n'))) :=
  ⟨fun e K k => by rw [h.pf e, h'.pf e]; exact E_ane (by kernel_rfl) (fun w => (eq_place a b n a' b' n').equal (by decide) w) k⟩
instance {a b a' b' : Int} {q : Bool} [h : Un c x (.agg #[I a, I b])] [h' : Un c y (.agg #[I a', I b'])] : Pb B H c (S.eqv Tryz.prog .neq 55 q x y) (.bool (!decide (a = a' ∧ b = b'))) :=
  ⟨fun e K k => by rw [h.pf e, h'.pf e]; exact E_ane (by kernel_rfl) (fun w => (eq_run a b a' b').equal (by decide) w) k⟩
instance {a b n m a' b' n' m' : Int} {q : Bool} [h : Un c x (.agg #[I a, I b, I n, I m])] [h' : Un c y (.agg #[I a', I b', I n', I m'])] : Pb B H c (S.eqv Tryz.prog .eql 43 q x y) (.bool (decide (a = a' ∧ b = b' ∧ n = n' ∧ m = m'))) :=
  ⟨fun e K k => by rw [h.pf e, h'.pf e]; exact E_aeq (by kernel_rfl) (fun w => (eq_keep a b n m a' b' n' m').equal (by decide) w) k⟩
instance {a b n m a' b' n' m' : Int} {q : Bool} [h : Un c x (.agg #[I a, I b, I n, I m])] [h' : Un c y (.agg #[I a', I b', I n', I m'])] : Pb B H c (S.eqv Tryz.prog .neq 43 q x y) (.bool (!decide (a = a' ∧ b = b' ∧ n = n' ∧ m = m'))) :=
  ⟨fun e K k => by rw [h.pf e, h'.pf e]; exact E_ane (by kernel_rfl) (fun w => (eq_keep a b n m a' b' n' m').equal (by decide) w) k⟩
instance [Amb] {f : Fa} [h : Un c x (.agg #[I f.last, I f.young, I f.step, I f.count])] : Pb B H c (CF Tryz.prog 137 [x]) (.bool (ruleB f)) := ⟨fun e K k => by rw [h.pf e]; exact rule k⟩
variable {f : Fa} {rv hv mv : Value}
theorem len0 {α : Type} (l : List α) : decide ((l.length : Int) = 0) = decide (l = []) := by
  rw [decide_eq_decide]; cases l <;> simp <;> omega
theorem bare [CellI rv] [CellI hv] [CellI mv] [Rs B H rv rfC f.refs] [Rs B H hv hC f.held] [Rs B H mv mvC f.moves] (h : E B H (K (.bool (bareB f)))) : E B H (CF Tryz.prog 107 [.agg (faL f rv hv mv).toArray, .agg (nmL f.k).toArray] K) := by
  refine E_mono (W := s107 _ _ K) ?_ fun _ => c107
  unfold s107
  (repeat first | refine gS ?_ | refine gY ?_ | refine gA fun _ => ?_ | refine gX fun _ _ => ?_ | refine gI ?_)
  simp only [len0]
  exact sm h
theorem or_l {a b : Bool} (h : a = true) : (a || b) = a := by rw [h]; rfl
theorem or_r {a b : Bool} (h : a = false) : (a || b) = b := by rw [h]; rfl
theorem plain [CellI rv] [CellI hv] [CellI mv] [Len f.name] (h : E B H (K (.bool (!badB f)))) : E B H (CF Tryz.prog 108 [.agg (faL f rv hv mv).toArray, .agg (nmL f.k).toArray] K) := by
  refine E_mono (W := s108 _ _ K) ?_ fun _ => c108
  unfold s108
  (repeat first | refine gS ?_ | refine gY ?_ | refine gA fun _ => ?_ | refine gX fun _ _ => ?_ | refine gI ?_)
  rename_i b2 b3 b5
  have no : badB f = true → E B (cel true b5 55 [I f.at_, I f.n] :: cel true b3 150 (nmL f.k) :: cel true b2 60 (faL f rv hv mv) :: H) (K (.bool false)) := fun e => by
    rw [e] at h; exact sm h
  refine E_join1 [ptr b2, ptr b3, ptr b5, .bool ((nPlace f.k && !inBinB f.bin) || (decide (f.k = 2) && !decide (f.at_ = 0 ∧ f.n = 0)))] (cel true b5 55 [I f.at_, I f.n] :: cel true b3 150 (nmL f.k) :: cel true b2 60 (faL f rv hv mv) :: H) (fun q hq => ?_) ?_
  · have fin : ∀ b : Bool, ((nPlace f.k && !inBinB f.bin) || (decide (f.k = 2) && !decide (f.at_ = 0 ∧ f.n = 0))) = b → E B (cel true b5 55 [I f.at_, I f.n] :: cel true b3 150 (nmL f.k) :: cel true b2 60 (faL f rv hv mv) :: H) (app 4 q [ptr b2, ptr b3, ptr b5, .bool b]) := fun b hb => hb ▸ hq
    refine E_join1 [ptr b2, ptr b3, ptr b5, .bool (nPlace f.k && !inBinB f.bin)] (cel true b5 55 [I f.at_, I f.n] :: cel true b3 150 (nmL f.k) :: cel true b2 60 (faL f rv hv mv) :: H) (fun q1 hq1 => ?_) ?_
    · (repeat first | refine gS ?_ | refine gY ?_ | refine gA fun _ => ?_ | refine gX fun _ _ => ?_ | refine gI ?_)
      exact sm hq1
    refine E_fa fun _ => ?_
    refine E_ifb (fun e => ?_) (fun e => ?_)
    · exact fin _ (or_l e)
    · (repeat first | refine gS ?_ | refine gY ?_ | refine gA fun _ => ?_ | refine gX fun _ _ => ?_ | refine gI ?_)
      exact sm (fin _ (or_r e))
  refine E_fa fun _ => ?_
  refine E_ifb (fun e1 => ?_) (fun e1 => ?_)
  · refine no ?_
    unfold badB
    rw [decide_not, e1]; rfl
  refine E_join1 [ptr b2, ptr b3, .bool (decide (f.k = 1) && (decide (f.at_ < 0) || decide (4096 ≤ f.at_) || decide (f.n < 2) || decide (64 < f.n)))] (cel true b5 55 [I f.at_, I f.n] :: cel true b3 150 (nmL f.k) :: cel true b2 60 (faL f rv hv mv) :: H) (fun q hq => ?_) ?_
  · (repeat first | refine gS ?_ | refine gY ?_ | refine gA fun _ => ?_ | refine gX fun _ _ => ?_ | refine gI ?_)
    exact sm hq
  refine E_fa fun _ => ?_
  refine E_ifb (fun e2 => ?_) (fun e2 => ?_)
  · refine no ?_
    unfold badB
    rw [decide_not, e1, e2]; rfl
  have hb : badB f = ((decide (f.k = 9) && !ruleB f) || (nName f.k && !nameOk f.name) || (nGen f.k && decide (f.gen < 1)) || !numB f.gen || !numB f.time) := by
    unfold badB
    rw [decide_not, e1, e2, Bool.false_or, Bool.false_or]
  rw [hb] at h no
  refine E_join1 [.bool ((decide (f.k = 9) && !ruleB f) || (nName f.k && !nameOk f.name) || (nGen f.k && decide (f.gen < 1)) || !numB f.gen || !numB f.time)] (cel true b5 55 [I f.at_, I f.n] :: cel true b3 150 (nmL f.k) :: cel true b2 60 (faL f rv hv mv) :: H) (fun q hq => ?_) ?_
  · have fin : ∀ b : Bool, ((decide (f.k = 9) && !ruleB f) || (nName f.k && !nameOk f.name) || (nGen f.k && decide (f.gen < 1)) || !numB f.gen || !numB f.time) = b → E B (cel true b5 55 [I f.at_, I f.n] :: cel true b3 150 (nmL f.k) :: cel true b2 60 (faL f rv hv mv) :: H) (app 1 q [.bool b]) := fun b hb => hb ▸ hq
    refine E_join1 [ptr b2, ptr b3, .bool (decide (f.k = 9) && !ruleB f)] (cel true b5 55 [I f.at_, I f.n] :: cel true b3 150 (nmL f.k) :: cel true b2 60 (faL f rv hv mv) :: H) (fun q1 hq1 => ?_) ?_
    · (repeat first | refine gS ?_ | refine gY ?_ | refine gA fun _ => ?_ | refine gX fun _ _ => ?_ | refine gI ?_)
      exact sm hq1
    refine E_fa fun _ => ?_
    refine E_ifb (fun e => ?_) (fun e => ?_)
    · exact fin _ (by rw [e]; rfl)
    rw [e, Bool.false_or] at fin
    refine E_join1 [ptr b2, ptr b3, .bool (nName f.k && !nameOk f.name)] (cel true b5 55 [I f.at_, I f.n] :: cel true b3 150 (nmL f.k) :: cel true b2 60 (faL f rv hv mv) :: H) (fun q1 hq1 => ?_) ?_
    · (repeat first | refine gS ?_ | refine gY ?_ | refine gA fun _ => ?_ | refine gX fun _ _ => ?_ | refine gI ?_)
      exact sm hq1
    refine E_fa fun _ => ?_
    refine E_ifb (fun e => ?_) (fun e => ?_)
    · exact fin _ (by rw [e]; rfl)
    rw [e, Bool.false_or] at fin
    refine E_join1 [ptr b2, .bool (nGen f.k && decide (f.gen < 1))] (cel true b5 55 [I f.at_, I f.n] :: cel true b3 150 (nmL f.k) :: cel true b2 60 (faL f rv hv mv) :: H) (fun q1 hq1 => ?_) ?_
    · (repeat first | refine gS ?_ | refine gY ?_ | refine gA fun _ => ?_ | refine gX fun _ _ => ?_ | refine gI ?_)
      exact sm hq1
    refine E_fa fun _ => ?_
    refine E_ifb (fun e => ?_) (fun e => ?_)
    · exact fin _ (by rw [e]; rfl)
    rw [e, Bool.false_or] at fin
    (repeat first | refine gS ?_ | refine gY ?_ | refine gA fun _ => ?_ | refine gX fun _ _ => ?_ | refine gI ?_)
    refine number ?_
    (repeat first | refine gS ?_ | refine gY ?_ | refine gA fun _ => ?_ | refine gX fun _ _ => ?_ | refine gI ?_)
    refine E_ifb (fun e => ?_) (fun e => ?_)
    · exact fin _ (by rw [e]; rfl)
    rw [e, Bool.false_or] at fin
    (repeat first | refine gS ?_ | refine gY ?_ | refine gA fun _ => ?_ | refine gX fun _ _ => ?_ | refine gI ?_)
    refine number ?_
    (repeat first | refine gS ?_ | refine gY ?_ | refine gA fun _ => ?_ | refine gX fun _ _ => ?_ | refine gI ?_)
    exact sm (fin _ rfl)
  refine E_fa fun _ => ?_
  refine E_ifb (fun e => ?_) (fun e => ?_)
  · exact no e
  · rw [e] at h; exact sm h
end Go.Proofs.YtjafpncngmbcdaaGreat.Nam
