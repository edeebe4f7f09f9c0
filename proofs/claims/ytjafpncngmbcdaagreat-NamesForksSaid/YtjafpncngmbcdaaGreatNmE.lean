/-
  Names: record.Check.
-/
import Derived.Test.YtjafpncngmbcdaaGreatNmD
set_option linter.unusedSimpArgs false
set_option linter.unusedVariables false
set_option linter.unusedSectionVars false
namespace Go.Proofs.YtjafpncngmbcdaaGreat.Nam
open Go Go.SL Go.Proofs Go.Proofs.YtjafpncngmbcdaaGreat.Sh
variable {B : World} {H : List Asrt} {K : Value → WT} {W : WT} {c : Bool} {x y z : Value} {f : Fa} {rv hv mv : Value}
theorem bound_nat (n z : Nat) : S.bound (some (.int .i64 (n : Int))) z = some n := by simp [S.bound]
theorem bound_suc (n z : Nat) : S.bound (some (.int .i64 ((n : Int) + 1))) z = some (n + 1) := bound_nat (n + 1) z
/-- What may be asked of a fact's lists. -/
structure FaOk (f : Fa) : Prop where
  nm : f.name.length ≤ 140737488355328
  rf : f.refs.length ≤ 140737488355328
  hd : f.held.length ≤ 140737488355328
  mv : f.moves.length ≤ 140737488355328
  hn : ∀ h ∈ f.held, h.1.length ≤ 140737488355328
attribute [local irreducible] S.pick S.ld S.ldN S.st S.box S.nc S.fad S.ixS S.ixA S.chr S.prt S.ext S.bin S.sh S.sbin S.beq S.neg1 S.com1 S.not1 S.cvt S.str1 S.lenS S.len S.cap S.lenM S.mx S.mn S.mkM S.cond S.gd S.fa S.dr S.rck S.join S.loop S.cvv S.eqv S.slc S.slcS S.b2s S.lk V U CF Gives E cel mpb osl ros dct dit itr lpo dfo
set_option maxRecDepth 8000
instance [CellI rv] [CellI hv] [CellI mv] [Rs B H rv rfC f.refs] [Rs B H hv hC f.held] [Rs B H mv mvC f.moves] [h : Un c x (.agg (faL f rv hv mv).toArray)] [h' : Un c y (.agg (nmL f.k).toArray)] : Pb B H c (CF Tryz.prog 107 [x, y]) (.bool (bareB f)) :=
  ⟨fun e K k => by rw [h.pf e, h'.pf e]; exact bare k⟩
theorem recCheck [CellI rv] [CellI hv] [CellI mv] [hr1 : Rs B H rv rfC f.refs] [hr2 : Rs B H hv hC f.held] [hr3 : Rs B H mv mvC f.moves] (ho : FaOk f) (h : E B H (K (I (checkF f)))) : E B H (CF Tryz.prog 78 [.agg (faL f rv hv mv).toArray] K) := by
  have : Len f.name := ⟨ho.nm⟩
  refine E_mono (W := s78 _ K) ?_ fun _ => c78
  unfold s78
  refine E_box (vs := faL f rv hv mv) fun b1 => ?_
  (repeat first | refine gS ?_ | refine gA fun _ => ?_ | refine gX fun _ _ => ?_ | refine gT ?_ | refine gF ?_ | refine gI ?_)
  refine named ?_
  (repeat first | refine gS ?_ | refine gA fun _ => ?_ | refine gX fun _ _ => ?_ | refine gT ?_ | refine gF ?_ | refine gI ?_)
  rename_i b3
  have fin : ∀ e : Int, checkF f = e → E B (cel true b3 150 (nmL f.k) :: cel true b1 60 (faL f rv hv mv) :: H) (K (I e)) := fun e he => by rw [he] at h; exact sm h
  unfold checkF at fin
  refine E_join1 [ptr b1, ptr b3, .bool (decide (f.k < 1) || decide (9 < f.k) || !bareB f)] (cel true b3 150 (nmL f.k) :: cel true b1 60 (faL f rv hv mv) :: H) (fun q hq => ?_) ?_
  · (repeat first | refine gS ?_ | refine gY ?_ | refine gA fun _ => ?_ | refine gX fun _ _ => ?_ | refine gI ?_)
    exact sm hq
  refine E_fa fun _ => ?_
  refine E_ifb' (p := f.k < 1 ∨ 9 < f.k ∨ bareB f = false) (by simp [or_assoc]) (fun e1 => ?_) (fun e1 => ?_)
  · exact fin 4 (if_pos e1)
  rw [if_neg e1] at fin
  (repeat first | refine gS ?_ | refine gA fun _ => ?_ | refine gX fun _ _ => ?_ | refine gT ?_ | refine gF ?_ | refine gI ?_)
  refine plain ?_
  (repeat first | refine gS ?_ | refine gY ?_ | refine gA fun _ => ?_ | refine gX fun _ _ => ?_ | refine gI ?_)
  refine E_ifb' (p := badB f = true) (by simp) (fun e2 => ?_) (fun e2 => ?_)
  · exact fin 2 (if_pos e2)
  rw [if_neg e2] at fin
  refine E_join1 [ptr b1, ptr b3, .bool (decide (256 < (f.refs.length : Int)) || decide (64 < (f.held.length : Int)) || decide (64 < (f.moves.length : Int)))] (cel true b3 150 (nmL f.k) :: cel true b1 60 (faL f rv hv mv) :: H) (fun q hq => ?_) ?_
  · (repeat first | refine gS ?_ | refine gY ?_ | refine gA fun _ => ?_ | refine gX fun _ _ => ?_ | refine gI ?_)
    exact sm hq
  refine E_fa fun _ => ?_
  refine E_ifb' (p := 256 < f.refs.length ∨ 64 < f.held.length ∨ 64 < f.moves.length) (by simp only [Bool.or_eq_true, decide_eq_true_eq]; omega) (fun e3 => ?_) (fun e3 => ?_)
  · exact fin 6 (if_pos e3)
  rw [if_neg e3] at fin
  have e4 : ((decide (f.k = 7) && decide ((f.moves.length : Int) = 0)) || (f.moves.any fun m => !moveOk m) || (f.held.any fun h => !heldOk h)) = decide ((f.k = 7 ∧ f.moves = []) ∨ f.moves.any (fun m => !moveOk m) = true ∨ f.held.any (fun h => !heldOk h) = true) := by
    rw [len0, Bool.eq_iff_iff]
    simp only [Bool.or_eq_true, Bool.and_eq_true, decide_eq_true_eq, or_assoc]
  refine E_join1 [ptr b1, .bool (decide ((f.k = 7 ∧ f.moves = []) ∨ f.moves.any (fun m => !moveOk m) = true ∨ f.held.any (fun h => !heldOk h) = true))] (cel true b3 150 (nmL f.k) :: cel true b1 60 (faL f rv hv mv) :: H) (fun q hq => ?_) ?_
  · have fq : ∀ b : Bool, ((decide (f.k = 7) && decide ((f.moves.length : Int) = 0)) || (f.moves.any fun m => !moveOk m) || (f.held.any fun h => !heldOk h)) = b → E B (cel true b3 150 (nmL f.k) :: cel true b1 60 (faL f rv hv mv) :: H) (app 2 q [ptr b1, .bool b]) := fun b hb => by rw [← hb, e4]; exact hq
    refine E_join1 [ptr b1, .bool (decide (f.k = 7) && decide ((f.moves.length : Int) = 0))] (cel true b3 150 (nmL f.k) :: cel true b1 60 (faL f rv hv mv) :: H) (fun q1 hq1 => ?_) ?_
    · (repeat first | refine gS ?_ | refine gY ?_ | refine gA fun _ => ?_ | refine gX fun _ _ => ?_ | refine gI ?_)
      exact sm hq1
    refine E_fa fun _ => ?_
    refine E_ifb (fun e => ?_) (fun e => ?_)
    · exact fq _ (by rw [e]; rfl)
    rw [e, Bool.false_or] at fq
    (repeat first | refine gS ?_ | refine gA fun _ => ?_ | refine gX fun _ _ => ?_ | refine gT ?_ | refine gF ?_ | refine gI ?_)
    refine anyMove (l := f.moves) ho.mv ?_
    refine E_ifb (fun e => ?_) (fun e => ?_)
    · exact fq _ (by rw [e]; rfl)
    rw [e, Bool.false_or] at fq
    (repeat first | refine gS ?_ | refine gA fun _ => ?_ | refine gX fun _ _ => ?_ | refine gT ?_ | refine gF ?_ | refine gI ?_)
    refine anyHeld (l := f.held) ho.hd ho.hn ?_
    exact fq _ rfl
  refine E_fa fun _ => ?_
  refine E_if (fun e5 => ?_) (fun e5 => ?_)
  · exact fin 2 (if_pos e5)
  rw [if_neg e5] at fin
  (repeat first | refine gS ?_ | refine gA fun _ => ?_ | refine gX fun _ _ => ?_ | refine gT ?_ | refine gF ?_ | refine gI ?_)
  have hrl := ho.rf
  refine E_loop (n := 3) (σ := Nat) (fun i => i ≤ f.refs.length ∧ ∀ r ∈ f.refs.take i, rightB r = true) (fun i => [ptr b1, I f.refs.length, I i]) (fun _ => cel true b3 150 (nmL f.k) :: cel true b1 60 (faL f rv hv mv) :: H) (fun i => f.refs.length - i) 0 (fun _ => rfl) rfl ⟨Nat.zero_le _, by simp⟩ (fun W hW => hW) ?_
  rintro i K0 ⟨hi, ha⟩ hk
  refine E_fa fun _ => ?_
  refine E_lss ?_
  refine E_if (fun hc => ?_) (fun hc => ?_)
  · have hx : f.refs[i]? = some f.refs[i] := List.getElem?_eq_getElem (by omega)
    have hxm := List.mem_of_getElem? hx
    generalize f.refs[i] = r at hx hxm
    (repeat first | refine gS ?_ | refine gA fun _ => ?_ | refine gX fun _ _ => ?_ | refine gT ?_ | refine gF ?_ | refine gI ?_)
    refine E_slcS2 (v := rv) (l := f.refs) (i := i) (j := i + 1) (bound_suc _ _) (bound_nat _ _) (by omega) (by omega) fun v' hv' _ => ?_
    have e6 : (f.refs.drop i).take (i + 1 - i) = [r] := by
      rw [List.drop_eq_getElem_cons (by omega : i < f.refs.length)]
      obtain ⟨_, hxe⟩ := List.getElem?_eq_some_iff.1 hx
      rw [hxe, show i + 1 - i = 1 by omega]; rfl
    rw [e6] at hv'
    refine segPut (v := v') (r := r) fun bv _ => ?_
    (repeat first | refine gS ?_ | refine gA fun _ => ?_ | refine gX fun _ _ => ?_ | refine gT ?_ | refine gF ?_ | refine gI ?_)
    cases hrr : rightB r with
    | false =>
      rw [if_neg (by decide)]
      (repeat first | refine gS ?_ | refine gA fun _ => ?_ | refine gX fun _ _ => ?_ | refine gT ?_ | refine gF ?_ | refine gI ?_)
      exact fin 2 (if_pos (List.any_eq_true.2 ⟨r, hxm, by rw [hrr]; rfl⟩))
    | true =>
      rw [if_pos rfl]
      (repeat first | refine gS ?_ | refine gA fun _ => ?_ | refine gX fun _ _ => ?_ | refine gT ?_ | refine gF ?_ | refine gI ?_)
      refine hk (i + 1) ⟨by omega, fun r' hr' => ?_⟩ (by omega)
      rw [List.take_add_one, hx] at hr'
      rcases List.mem_append.1 hr' with hr' | hr'
      · exact ha r' hr'
      · simp at hr'; subst hr'; exact hrr
  · have hie : i = f.refs.length := by omega
    subst hie
    refine fin 0 (if_neg ?_)
    intro hany
    obtain ⟨r, hr, hrr⟩ := List.any_eq_true.1 hany
    rw [ha r (by simpa using hr)] at hrr
    cases hrr
end Go.Proofs.YtjafpncngmbcdaaGreat.Nam
