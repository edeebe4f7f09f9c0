/-
  Script: Parse.
-/
import Derived.Test.YtogallbjmgoagaaDoorScrF
set_option linter.unusedSimpArgs false
set_option linter.unusedVariables false
set_option linter.unusedSectionVars false
namespace Go.Proofs.YtogallbjmgoagaaDoor.Scr
open Go Go.SL Go.Proofs Go.Proofs.YtogallbjmgoagaaDoor.Sh
variable {B : World} {H : List Asrt} {K : Value → WT} {W : WT}
abbrev zOp : List Value := [I 0, I 0, str [], str [], I 0, I 0, I 0, .slice none 0 0, I 0, I 0, I 0, I 0, .slice none 0 0, I 0, I 0]
noncomputable def pC0 : Code := match Tryd.f7.body with | some (.seq c0 _) => c0 | _ => .skip
noncomputable def pRest : Code := match Tryd.f7.body with | some (.seq _ (.seq _ r)) => r | _ => .skip
noncomputable def pO1 : Oper := match Tryd.f7.body with | some (.seq _ (.seq (.region _ ops _) _)) => ops.getD 0 { dst := none, op := .move (.const undef), type := 0, pos := "", after := #[], guard := none } | _ => { dst := none, op := .move (.const undef), type := 0, pos := "", after := #[], guard := none }
noncomputable def pO2 : Oper := match Tryd.f7.body with | some (.seq _ (.seq (.region _ ops _) _)) => ops.getD 1 { dst := none, op := .move (.const undef), type := 0, pos := "", after := #[], guard := none } | _ => { dst := none, op := .move (.const undef), type := 0, pos := "", after := #[], guard := none }
noncomputable def cRest : Code := match Tryd.f15.body with | some (.seq _ r) => r | _ => .skip
noncomputable def cO1 : Oper := match Tryd.f15.body with | some (.seq (.region _ ops _) _) => ops.getD 0 { dst := none, op := .move (.const undef), type := 0, pos := "", after := #[], guard := none } | _ => { dst := none, op := .move (.const undef), type := 0, pos := "", after := #[], guard := none }
noncomputable def cO2 : Oper := match Tryd.f15.body with | some (.seq (.region _ ops _) _) => ops.getD 1 { dst := none, op := .move (.const undef), type := 0, pos := "", after := #[], guard := none } | _ => { dst := none, op := .move (.const undef), type := 0, pos := "", after := #[], guard := none }
/-- What the closure does: rv is what recover gives. -/
def sClo (o e rv : Value) (RR : WT) : WT :=
  V Tryd.prog (Instr.typeAssert rv 20 46 true) fun v8 =>
  S.ext v8 0 fun v9 =>
  S.ext v8 1 fun v10 =>
  S.box 46 (.agg #[]) fun b =>
  S.st 0 b v9 fun _ =>
  S.cond v10 (
    V Tryd.prog (Instr.build 30 #[]) fun v13 =>
    S.st 15 o v13 fun _ =>
    S.st 1 e (I 4) fun _ => RR) (
    S.eqv Tryd.prog .neq 20 true rv .nilIface fun v16 =>
    S.cond v16 (@S.pan noAmb rv) RR)
theorem eClo (o e rv : Value) (RR : WT) : sClo o e rv RR = @swp noAmb Tryd.prog Tryd.f15.ntmps cRest .p (.seq .z (.blk (.seq .z (.cond .z (.seq .z (.cond .z .z))))))
    (fun r => match r with | .ex _ => fun _ => nope | _ => fin Tryd.prog Tryd.f15 fun _ => RR) (upd Tryd.f15.ntmps (upd Tryd.f15.ntmps (ini [o, e]) (some 5) rv) (some 2) rv) := by kernel_rfl
set_option maxRecDepth 100000 in
theorem cClo {o e : Value} {u : FrameMode} {R : FrameMode → WT} {w : World} (h : sClo o e (recov u).1 (R (recov u).2) w) : CD Tryd.prog 15 #[o, e] u R w := by
  have h' := h
  rw [eClo] at h'
  exact clo_sound (fn := Tryd.f15) (rest := cRest) (id := 0) (t1 := 5) (t2 := 2) (o1 := cO1) (o2 := cO2) (args := [o, e]) Tryd.func15 (by kernel_rfl) (by kernel_rfl) (by kernel_rfl) (by kernel_rfl) (by kernel_rfl) (by kernel_rfl) (by kernel_rfl) (by decide) (by kernel_rfl) h'
abbrev pAmb (o e : Value) (K : Value → WT) : Amb :=
  ⟨fun v => CD Tryd.prog 15 #[o, e] (.panicking [{ v, recovered := false }]) fun u' w' => settle u' = .returning ∧ (S.ldN 15 o fun r => S.ld e fun n => K (.tuple #[r, n])) w'⟩
def sParse (line : Value) (K : Value → WT) : WT :=
  S.box 30 (.agg #[I 0, I 0, str [], str [], I 0, I 0, I 0, .slice none 0 0, I 0, I 0, I 0, I 0, .slice none 0 0, I 0, I 0]) fun o =>
  S.box 31 (I 0) fun e =>
  V Tryd.prog (Instr.build 50 #[(0, line), (1, .bool true)]) fun v7 =>
  S.box 50 v7 fun r =>
  @CF (pAmb o e K) Tryd.prog 16 [r] fun v10 =>
  S.st 15 o v10 fun _ =>
  S.st 1 e (I 0) fun _ =>
  CD Tryd.prog 15 #[o, e] .returning fun u' w' => u' = .returning ∧ (S.ldN 15 o fun r => S.ld e fun n => K (.tuple #[r, n])) w'
theorem eParse [A : Amb] (line : Value) (K : Value → WT) : sParse line K = shalD Tryd.prog Tryd.f7 pC0 pRest 15 5 #[.tmp 2, .tmp 3] .z (.seq .z (.seq .z .z)) [line] K := by kernel_rfl
set_option maxRecDepth 100000 in
theorem cParse [A : Amb] {line : Value} {K : Value → WT} {w : World} (h : sParse line K w) : CF Tryd.prog 7 [line] K w := by
  have h' := h
  rw [eParse] at h'
  exact shalD_sound (fn := Tryd.f7) (c0 := pC0) (rest := pRest) (id := 1) (t := 5) (o1 := pO1) (o2 := pO2) Tryd.func7 (by kernel_rfl) (by kernel_rfl) (by kernel_rfl) (by kernel_rfl) (by kernel_rfl) (by kernel_rfl) (by kernel_rfl) (by decide) (by kernel_rfl) (by kernel_rfl) h'
theorem E_stop {p : Prop} {W : WT} (hp : p) (h : E B H W) : E B H (fun w => p ∧ W w) := fun w hw => ⟨hp, h w hw⟩
theorem u_any : Tryd.prog.underlying 20 = some (.interface #[]) := by kernel_rfl
theorem tFault_zero : ∃ i, Tryd.prog.info? 46 = some i ∧ i.zero = some (.agg #[]) := by
  have : (Tryd.prog.info? 46).bind (·.zero) = some (.agg #[]) := by kernel_rfl
  cases h : Tryd.prog.info? 46 with
  | none => rw [h] at this; cases this
  | some i => rw [h] at this; exact ⟨i, rfl, this⟩
theorem u_fault : Tryd.prog.underlying 46 = some (.struct #[]) := by kernel_rfl
theorem str_reading : Str Tryd.prog 50 [(0, 1), (1, 1)] [str [], .bool false] := str_of (zv := .agg #[str [], .bool false]) (by kernel_rfl) (by kernel_rfl) rfl
attribute [local irreducible] S.pick S.ld S.ldN S.st S.box S.nc S.fad S.ixS S.ixA S.chr S.prt S.ext S.bin S.sh S.sbin S.beq S.neg1 S.com1 S.not1 S.cvt S.str1 S.lenS S.len S.cap S.lenM S.mx S.mn S.mkM S.cond S.gd S.fa S.dr S.rck S.join S.loop S.cvv S.eqv S.slc S.slcS S.b2s S.lk V U CF Gives E cel mpb osl ros dct dit itr lpo dfo
attribute [local irreducible] sls
set_option maxRecDepth 8000
theorem parse [A : Amb] [TabB B] {s : List UInt8} (hm : s.length ≤ 1000000)
    (h1 : ∀ o, parseL s = some o → ∀ v u [CellI v] [CellI u], E B (sls cB 5 1 v o.bytes :: sls cL 4 1 u o.keep :: H) (K (.tuple #[.agg (opC o v u).toArray, I 0]))) (h2 : parseL s = none → E B H (K (.tuple #[.agg zOp.toArray, I 4]))) :
    E B H (CF Tryd.prog 7 [str s] K) := by
  refine E_mono (W := sParse _ K) ?_ fun _ => cParse
  unfold sParse
  refine E_box (vs := zOp) fun b2 => ?_
  refine E_box (vs := [I 0]) fun b3 => ?_
  refine E_build (l := [str s, .bool true]) str_reading ?_
  refine E_box (vs := [str s, .bool true]) fun b4 => ?_
  refine op (A := pAmb (ptr b2) (ptr b3) K) (st := (s, true)) hm (fun o ho v u _ _ => ?_) fun hn => ?_
  · refine E_stW rfl rfl ?_
    (repeat (first | refine goS ?_ | refine E_box fun _ => ?_ | refine E_fa fun _ => ?_ | refine E_ptfad0 fun _ _ => ?_ | refine E_ptfad fun _ _ => ?_ | refine E_rsix (by assumption) fun _ _ => ?_ | refine E_ifT (by first | assumption | decide) ?_ | refine E_ifF (by first | assumption | decide) ?_ | refine E_gdT (by first | assumption | decide) ?_ | refine E_gdF (by first | assumption | decide) ?_ | refine E_gdnT (by first | assumption | decide) ?_ | refine E_gdnF (by first | assumption | decide) ?_ | refine E_pickT (by first | assumption | decide) ?_ | refine E_pickF (by first | assumption | decide) ?_ | refine E_ixN (by omega) ?_ | refine E_ld' (by assumption) ?_ | refine E_addI (by omega) (by omega) ?_ | refine E_subI (by omega) (by omega) ?_ | refine E_mulI (by omega) (by omega) ?_))
    refine E_mono (W := sClo (ptr b2) (ptr b3) (recov .returning).1 ((fun u' w' => u' = .returning ∧ (S.ldN 15 (ptr b2) fun r => S.ld (ptr b3) fun n => K (.tuple #[r, n])) w') (recov .returning).2)) ?_ fun _ h => cClo h
    show E B _ (sClo (ptr b2) (ptr b3) .nilIface (fun w' => FrameMode.returning = .returning ∧ (S.ldN 15 (ptr b2) fun r => S.ld (ptr b3) fun n => K (.tuple #[r, n])) w'))
    unfold sClo
    obtain ⟨i, hi, hz⟩ := tFault_zero
    refine E_tanil u_fault rfl hi hz ?_
    (repeat (first | refine goS ?_ | refine E_box fun _ => ?_ | refine E_fa fun _ => ?_ | refine E_ptfad0 fun _ _ => ?_ | refine E_ptfad fun _ _ => ?_ | refine E_rsix (by assumption) fun _ _ => ?_ | refine E_ifT (by first | assumption | decide) ?_ | refine E_ifF (by first | assumption | decide) ?_ | refine E_gdT (by first | assumption | decide) ?_ | refine E_gdF (by first | assumption | decide) ?_ | refine E_gdnT (by first | assumption | decide) ?_ | refine E_gdnF (by first | assumption | decide) ?_ | refine E_pickT (by first | assumption | decide) ?_ | refine E_pickF (by first | assumption | decide) ?_ | refine E_ixN (by omega) ?_ | refine E_ld' (by assumption) ?_ | refine E_addI (by omega) (by omega) ?_ | refine E_subI (by omega) (by omega) ?_ | refine E_mulI (by omega) (by omega) ?_))
    refine E_st0 (vs := []) rfl ?_
    (repeat (first | refine goS ?_ | refine E_box fun _ => ?_ | refine E_fa fun _ => ?_ | refine E_ptfad0 fun _ _ => ?_ | refine E_ptfad fun _ _ => ?_ | refine E_rsix (by assumption) fun _ _ => ?_ | refine E_ifT (by first | assumption | decide) ?_ | refine E_ifF (by first | assumption | decide) ?_ | refine E_gdT (by first | assumption | decide) ?_ | refine E_gdF (by first | assumption | decide) ?_ | refine E_gdnT (by first | assumption | decide) ?_ | refine E_gdnF (by first | assumption | decide) ?_ | refine E_pickT (by first | assumption | decide) ?_ | refine E_pickF (by first | assumption | decide) ?_ | refine E_ixN (by omega) ?_ | refine E_ld' (by assumption) ?_ | refine E_addI (by omega) (by omega) ?_ | refine E_subI (by omega) (by omega) ?_ | refine E_mulI (by omega) (by omega) ?_))
    refine E_inne u_any ?_
    (repeat (first | refine goS ?_ | refine E_box fun _ => ?_ | refine E_fa fun _ => ?_ | refine E_ptfad0 fun _ _ => ?_ | refine E_ptfad fun _ _ => ?_ | refine E_rsix (by assumption) fun _ _ => ?_ | refine E_ifT (by first | assumption | decide) ?_ | refine E_ifF (by first | assumption | decide) ?_ | refine E_gdT (by first | assumption | decide) ?_ | refine E_gdF (by first | assumption | decide) ?_ | refine E_gdnT (by first | assumption | decide) ?_ | refine E_gdnF (by first | assumption | decide) ?_ | refine E_pickT (by first | assumption | decide) ?_ | refine E_pickF (by first | assumption | decide) ?_ | refine E_ixN (by omega) ?_ | refine E_ld' (by assumption) ?_ | refine E_addI (by omega) (by omega) ?_ | refine E_subI (by omega) (by omega) ?_ | refine E_mulI (by omega) (by omega) ?_))
    refine E_stop rfl ?_
    (repeat (first | refine goS ?_ | refine E_box fun _ => ?_ | refine E_fa fun _ => ?_ | refine E_ptfad0 fun _ _ => ?_ | refine E_ptfad fun _ _ => ?_ | refine E_rsix (by assumption) fun _ _ => ?_ | refine E_ifT (by first | assumption | decide) ?_ | refine E_ifF (by first | assumption | decide) ?_ | refine E_gdT (by first | assumption | decide) ?_ | refine E_gdF (by first | assumption | decide) ?_ | refine E_gdnT (by first | assumption | decide) ?_ | refine E_gdnF (by first | assumption | decide) ?_ | refine E_pickT (by first | assumption | decide) ?_ | refine E_pickF (by first | assumption | decide) ?_ | refine E_ixN (by omega) ?_ | refine E_ld' (by assumption) ?_ | refine E_addI (by omega) (by omega) ?_ | refine E_subI (by omega) (by omega) ?_ | refine E_mulI (by omega) (by omega) ?_))
    exact E_same (by repeat (first | exact Same.refl | (refine Same.cons (by repeat (first | exact Find.here | apply Find.there)) ?_) | (refine Same.drop ?_))) (h1 o ho v u)
  · show E B _ (CD Tryd.prog 15 #[ptr b2, ptr b3] (.panicking [{ v := fault, recovered := false }]) _)
    refine E_mono (W := sClo (ptr b2) (ptr b3) (recov (.panicking [{ v := fault, recovered := false }])).1 ((fun u' w' => settle u' = .returning ∧ (S.ldN 15 (ptr b2) fun r => S.ld (ptr b3) fun n => K (.tuple #[r, n])) w') (recov (.panicking [{ v := fault, recovered := false }])).2)) ?_ fun _ h => cClo h
    show E B _ (sClo (ptr b2) (ptr b3) fault (fun w' => settle (recov (.panicking [{ v := fault, recovered := false }])).2 = .returning ∧ (S.ldN 15 (ptr b2) fun r => S.ld (ptr b3) fun n => K (.tuple #[r, n])) w'))
    unfold sClo
    refine E_tas u_fault rfl ?_
    (repeat (first | refine goS ?_ | refine E_box fun _ => ?_ | refine E_fa fun _ => ?_ | refine E_ptfad0 fun _ _ => ?_ | refine E_ptfad fun _ _ => ?_ | refine E_rsix (by assumption) fun _ _ => ?_ | refine E_ifT (by first | assumption | decide) ?_ | refine E_ifF (by first | assumption | decide) ?_ | refine E_gdT (by first | assumption | decide) ?_ | refine E_gdF (by first | assumption | decide) ?_ | refine E_gdnT (by first | assumption | decide) ?_ | refine E_gdnF (by first | assumption | decide) ?_ | refine E_pickT (by first | assumption | decide) ?_ | refine E_pickF (by first | assumption | decide) ?_ | refine E_ixN (by omega) ?_ | refine E_ld' (by assumption) ?_ | refine E_addI (by omega) (by omega) ?_ | refine E_subI (by omega) (by omega) ?_ | refine E_mulI (by omega) (by omega) ?_))
    refine E_st0 (vs := []) rfl ?_
    (repeat (first | refine goS ?_ | refine E_box fun _ => ?_ | refine E_fa fun _ => ?_ | refine E_ptfad0 fun _ _ => ?_ | refine E_ptfad fun _ _ => ?_ | refine E_rsix (by assumption) fun _ _ => ?_ | refine E_ifT (by first | assumption | decide) ?_ | refine E_ifF (by first | assumption | decide) ?_ | refine E_gdT (by first | assumption | decide) ?_ | refine E_gdF (by first | assumption | decide) ?_ | refine E_gdnT (by first | assumption | decide) ?_ | refine E_gdnF (by first | assumption | decide) ?_ | refine E_pickT (by first | assumption | decide) ?_ | refine E_pickF (by first | assumption | decide) ?_ | refine E_ixN (by omega) ?_ | refine E_ld' (by assumption) ?_ | refine E_addI (by omega) (by omega) ?_ | refine E_subI (by omega) (by omega) ?_ | refine E_mulI (by omega) (by omega) ?_))
    refine E_build (l := zOp) str_op ?_
    refine E_stW rfl rfl ?_
    (repeat (first | refine goS ?_ | refine E_box fun _ => ?_ | refine E_fa fun _ => ?_ | refine E_ptfad0 fun _ _ => ?_ | refine E_ptfad fun _ _ => ?_ | refine E_rsix (by assumption) fun _ _ => ?_ | refine E_ifT (by first | assumption | decide) ?_ | refine E_ifF (by first | assumption | decide) ?_ | refine E_gdT (by first | assumption | decide) ?_ | refine E_gdF (by first | assumption | decide) ?_ | refine E_gdnT (by first | assumption | decide) ?_ | refine E_gdnF (by first | assumption | decide) ?_ | refine E_pickT (by first | assumption | decide) ?_ | refine E_pickF (by first | assumption | decide) ?_ | refine E_ixN (by omega) ?_ | refine E_ld' (by assumption) ?_ | refine E_addI (by omega) (by omega) ?_ | refine E_subI (by omega) (by omega) ?_ | refine E_mulI (by omega) (by omega) ?_))
    refine E_stop rfl ?_
    (repeat (first | refine goS ?_ | refine E_box fun _ => ?_ | refine E_fa fun _ => ?_ | refine E_ptfad0 fun _ _ => ?_ | refine E_ptfad fun _ _ => ?_ | refine E_rsix (by assumption) fun _ _ => ?_ | refine E_ifT (by first | assumption | decide) ?_ | refine E_ifF (by first | assumption | decide) ?_ | refine E_gdT (by first | assumption | decide) ?_ | refine E_gdF (by first | assumption | decide) ?_ | refine E_gdnT (by first | assumption | decide) ?_ | refine E_gdnF (by first | assumption | decide) ?_ | refine E_pickT (by first | assumption | decide) ?_ | refine E_pickF (by first | assumption | decide) ?_ | refine E_ixN (by omega) ?_ | refine E_ld' (by assumption) ?_ | refine E_addI (by omega) (by omega) ?_ | refine E_subI (by omega) (by omega) ?_ | refine E_mulI (by omega) (by omega) ?_))
    exact E_same (by repeat (first | exact Same.refl | (refine Same.cons (by repeat (first | exact Find.here | apply Find.there)) ?_) | (refine Same.drop ?_))) (h2 hn)
end Go.Proofs.YtogallbjmgoagaaDoor.Scr
