/-
  Operations that only read, or only reckon: what they give hangs on nothing but the cells that they read.
-/
import Derived.Test.YtfholicobkpilaaSlSwp
set_option linter.unusedSimpArgs false
set_option linter.unusedVariables false
set_option linter.unusedSectionVars false
namespace Go.SL
open Go.RowKit
variable {P : Program} {ρ : Operand → Value} {K : Value → WT} {w : World}

/-- Gives the same value in whatever world. -/
def Pure (f : (Value → WT) → WT) : Prop := ∀ K w, f K w → ∃ v, K v w ∧ ∀ K' w', K' v w' → f K' w'
/-- Gives a value, and leaves the world alone. -/
def Local (f : (Value → WT) → WT) : Prop := ∀ K w, f K w → ∃ v, K v w ∧ ∀ K', K' v w → f K' w
theorem Pure.local {f : (Value → WT) → WT} (h : Pure f) : Local f := fun K w hk => let ⟨v, h1, h2⟩ := h K w hk; ⟨v, h1, fun K' => h2 K' w⟩
theorem pure_nope : Pure fun _ => nope := fun _ _ h => h.elim
theorem pure_val (v : Value) : Pure fun K => K v := fun _ _ h => ⟨v, h, fun _ _ h => h⟩
theorem pure_pick (c a b : Value) : Pure (S.pick c a b) := fun K w h => by
  cases c <;> first | exact h.elim | exact ⟨_, h, fun _ _ h => h⟩
theorem pure_nc (x : Value) : Pure (S.nc x) := fun K w h => by
  cases x with
  | pointer a => cases a <;> first | exact h.elim | exact ⟨_, h, fun _ _ h => h⟩
  | func fn first captured => cases fn <;> first | exact h.elim | exact ⟨_, h, fun _ _ h => h⟩
  | _ => first | exact h.elim | exact ⟨_, h, fun _ _ h => h⟩
theorem pure_fad (x : Value) (off : Nat) : Pure (S.fad x off) := fun K w h => by
  cases x with
  | pointer a => cases a <;> first | exact h.elim | exact ⟨_, h, fun _ _ h => h⟩
  | _ => exact h.elim
theorem pure_ixS (sz : Nat) (x i : Value) : Pure (S.ixS sz x i) := fun K w h => by
  cases x with
  | slice a l c => cases a with
    | none => exact h.elim
    | some a => cases i <;> first | exact h.elim | exact ⟨_, h.2.2, fun _ _ h' => ⟨h.1, h.2.1, h'⟩⟩
  | _ => exact h.elim
theorem pure_ixA (len sz : Nat) (x i : Value) : Pure (S.ixA len sz x i) := fun K w h => by
  cases x with
  | pointer a => cases a with
    | none => exact h.elim
    | some a => cases i <;> first | exact h.elim | exact ⟨_, h.2.2, fun _ _ h' => ⟨h.1, h.2.1, h'⟩⟩
  | _ => exact h.elim
theorem pure_chr (x i : Value) : Pure (S.chr x i) := fun K w h => by
  cases x with
  | string s => cases i with
    | int k n => exact let ⟨h0, b, hb, hk⟩ := h; ⟨_, hk, fun _ _ h' => ⟨h0, b, hb, h'⟩⟩
    | _ => exact h.elim
  | _ => exact h.elim
theorem pure_prt (agg : Bool) (off n : Nat) (x : Value) : Pure (S.prt agg off n x) := fun K w h => by
  cases x with
  | agg cs =>
    cases agg with
    | true => exact ⟨_, h, fun _ _ h => h⟩
    | false =>
      simp only [S.prt] at h ⊢
      cases hc : cs[off]? with
      | none => simp only [hc] at h
      | some v => simp only [hc] at h ⊢; exact ⟨v, h, fun _ _ h => h⟩
  | _ => exact h.elim
theorem pure_ext (x : Value) (i : Nat) : Pure (S.ext x i) := fun K w h => by
  cases x with
  | tuple cs =>
    simp only [S.ext] at h ⊢
    cases hc : cs[i]? with
    | none => simp only [hc] at h
    | some v => simp only [hc] at h ⊢; exact ⟨v, h, fun _ _ h => h⟩
  | _ => exact h.elim
theorem pure_bin (op : BinOp) (x y : Value) : Pure (S.bin op x y) := fun K w h => by
  cases x with
  | int k a => cases y with
    | int k' b =>
      obtain ⟨rfl, h⟩ := h
      cases op <;> first
        | exact h.elim
        | exact ⟨_, h, fun _ _ h => ⟨rfl, h⟩⟩
        | exact ⟨_, h.2, fun _ _ h' => ⟨rfl, h.1, h'⟩⟩
    | _ => exact h.elim
  | _ => exact h.elim
theorem pure_sh (op : BinOp) (x y : Value) : Pure (S.sh op x y) := fun K w h => by
  cases x with
  | int k a => cases y with
    | int k' b =>
      obtain ⟨h0, h⟩ := h
      cases op <;> first
        | exact h.elim
        | exact ⟨_, h, fun _ _ h => ⟨h0, h⟩⟩
    | _ => exact h.elim
  | _ => exact h.elim
theorem pure_sbin (op : BinOp) (x y : Value) : Pure (S.sbin op x y) := fun K w h => by
  cases x with
  | string a => cases y with
    | string b =>
      cases op <;> first
        | exact h.elim
        | exact ⟨_, h, fun _ _ h => h⟩
        | exact ⟨_, h.2, fun _ _ h' => ⟨h.1, h'⟩⟩
    | _ => exact h.elim
  | _ => exact h.elim
theorem pure_beq (op : BinOp) (x y : Value) : Pure (S.beq op x y) := fun K w h => by
  cases x with
  | bool a => cases y with
    | bool b =>
      cases op <;> first
        | exact h.elim
        | exact ⟨_, h, fun _ _ h => h⟩
    | _ => exact h.elim
  | _ => exact h.elim
theorem pure_neg1 (x : Value) : Pure (S.neg1 x) := fun K w h => by cases x <;> first | exact h.elim | exact ⟨_, h, fun _ _ h => h⟩
theorem pure_com1 (x : Value) : Pure (S.com1 x) := fun K w h => by cases x <;> first | exact h.elim | exact ⟨_, h, fun _ _ h => h⟩
theorem pure_not1 (x : Value) : Pure (S.not1 x) := fun K w h => by cases x <;> first | exact h.elim | exact ⟨_, h, fun _ _ h => h⟩
theorem pure_cvt (k : IntKind) (x : Value) : Pure (S.cvt k x) := fun K w h => by cases x <;> first | exact h.elim | exact ⟨_, h, fun _ _ h => h⟩
theorem pure_str1 (x : Value) : Pure (S.str1 x) := fun K w h => by cases x <;> first | exact h.elim | exact ⟨_, h, fun _ _ h => h⟩
theorem pure_lenS (x : Value) : Pure (S.lenS x) := fun K w h => by cases x <;> first | exact h.elim | exact ⟨_, h, fun _ _ h => h⟩
theorem pure_len (x : Value) : Pure (S.len x) := fun K w h => by cases x <;> first | exact h.elim | exact ⟨_, h, fun _ _ h => h⟩
theorem pure_cap (x : Value) : Pure (S.cap x) := fun K w h => by cases x <;> first | exact h.elim | exact ⟨_, h, fun _ _ h => h⟩
theorem pure_mx (x y : Value) : Pure (S.mx x y) := fun K w h => by
  cases x <;> first | exact h.elim | (cases y <;> first | exact h.elim | exact ⟨_, h, fun _ _ h => h⟩)
theorem pure_mn (x y : Value) : Pure (S.mn x y) := fun K w h => by
  cases x <;> first | exact h.elim | (cases y <;> first | exact h.elim | exact ⟨_, h, fun _ _ h => h⟩)
theorem pure_slc (sz : Nat) (x : Value) (lo hi mx : Option Value) : Pure (S.slc sz x lo hi mx) := fun K w h => by
  cases x with
  | slice a l c =>
    obtain ⟨i, j, m, h1, h2, h3, h4, h5, h6, h7, hk⟩ := h
    exact ⟨_, hk, fun _ _ h' => ⟨i, j, m, h1, h2, h3, h4, h5, h6, h7, h'⟩⟩
  | _ => exact h.elim
theorem pure_slcS (x : Value) (lo hi : Option Value) : Pure (S.slcS x lo hi) := fun K w h => by
  cases x with
  | string s =>
    obtain ⟨i, j, h1, h2, h3, h4, hk⟩ := h
    exact ⟨_, hk, fun _ _ h' => ⟨i, j, h1, h2, h3, h4, h'⟩⟩
  | _ => exact h.elim
theorem local_ld (a : Value) : Local (S.ld a) := fun K w h => by
  cases a with
  | pointer a => cases a with
    | none => exact h.elim
    | some a =>
      simp only [S.ld] at h ⊢
      cases hc : w.cell? a with
      | none => simp only [hc] at h
      | some v => simp only [hc] at h ⊢; exact ⟨v, h, fun _ h => h⟩
  | _ => exact h.elim
theorem local_ldN (n : Nat) (a : Value) : Local (S.ldN n a) := fun K w h => by
  cases a with
  | pointer a => cases a with
    | none => exact h.elim
    | some a =>
      simp only [S.ldN] at h ⊢
      cases hc : cellsFrom w a 0 n with
      | none => simp only [hc] at h
      | some v => simp only [hc] at h ⊢; exact ⟨_, h, fun _ h => h⟩
  | _ => exact h.elim
theorem local_lenM (x : Value) : Local (S.lenM x) := fun K w h => by
  cases x with
  | map r => cases r with
    | none => exact ⟨_, h, fun _ h => h⟩
    | some r =>
      simp only [S.lenM] at h ⊢
      cases hr : w.heap[r]? with
      | none => simp only [hr] at h
      | some o => cases o <;> simp only [hr] at h ⊢ <;> exact ⟨_, h, fun _ h => h⟩
  | _ => exact h.elim
theorem local_b2s (x : Value) : Local (S.b2s x) := fun K w h => by
  cases x with
  | slice a l c => cases a with
    | none => exact ⟨_, h, fun _ h => h⟩
    | some a =>
      simp only [S.b2s] at h ⊢
      cases hc : cellsFrom w a 0 l with
      | none => simp only [hc] at h
      | some cs =>
        simp only [hc] at h ⊢
        cases hb : S.bytesOf cs .empty with
        | none => simp only [hb] at h
        | some s => simp only [hb] at h ⊢; exact ⟨_, h, fun _ h => h⟩
  | _ => exact h.elim
theorem local_lk (kd : TypeDesc) (z : Value) (ok : Bool) (m k : Value) : Local (S.lk kd z ok m k) := fun K w h => by
  cases m with
  | map r => cases r with
    | none => exact ⟨_, h, fun _ h => h⟩
    | some r =>
      simp only [S.lk] at h ⊢
      cases hr : w.heap[r]? with
      | none => simp only [hr] at h
      | some o =>
        cases o <;> simp only [hr] at h ⊢
        rename_i es cl
        cases hf : Instr.findNow kd k es.toList 0 with
        | none => simp only [hf] at h
        | some r => cases r <;> simp only [hf] at h ⊢ <;> exact ⟨_, h, fun _ h => h⟩
  | _ => exact h.elim

theorem flt_both {o : Oper} (hf : isFlt P o = true) : Local (opK P ρ o) ∧ (isRd P o = false → Pure (opK P ρ o)) := by
  have both : ∀ {f : (Value → WT) → WT}, Pure f → Local f ∧ (isRd P o = false → Pure f) := fun h => ⟨h.local, fun _ => h⟩
  show Local (fun K => opK P ρ o K) ∧ (isRd P o = false → Pure fun K => opK P ρ o K)
  cases hop : o.op <;> simp only [isFlt, hop] at hf <;> (try (cases hf; done)) <;> simp only [opK, hop]
  case move x => exact both (pure_val _)
  case assign x => exact both (pure_val _)
  case pick c a b => exact both (pure_pick _ _ _)
  case load t a =>
    refine ⟨?_, fun h => by simp [isRd, hop] at h⟩
    cases P.info? t with
    | none => exact pure_nope.local
    | some i =>
      simp only
      cases P.underlying t with
      | none => exact pure_nope.local
      | some d => cases d <;> first | exact local_ld _ | exact local_ldN _ _
  case nilCheck x => exact both (pure_nc _)
  case binOp op t x y yt =>
    cases hu : P.underlying t with
    | none => simp [hu] at hf
    | some d =>
      simp only [hu] at hf
      cases d <;> simp only at hf <;> try (cases hf; done)
      · exact both (pure_beq _ _ _)
      · cases op <;> first | exact both (pure_sh _ _ _) | exact both (pure_bin _ _ _)
      · exact both (pure_sbin _ _ _)
  case unOp op t x => cases op <;> first | exact both pure_nope | exact both (pure_neg1 _) | exact both (pure_com1 _) | exact both (pure_not1 _)
  case convert s d x =>
    cases hs : P.underlying s with
    | none => simp [hs] at hf
    | some ds =>
      cases hd : P.underlying d with
      | none => simp [hs, hd] at hf
      | some dd =>
        simp only [hs, hd] at hf
        cases ds <;> cases dd <;> simp only at hf <;> try (cases hf; done)
        · exact both (pure_cvt _ _)
        · exact both (pure_str1 _)
        · rename_i el
          refine ⟨?_, fun h => by simp [isRd, hop, hs] at h⟩
          simp only
          cases hel : P.underlying el with
          | none => simp [hel] at hf
          | some de =>
            simp only [hel] at hf
            cases de <;> (try simp only at hf) <;> try (cases hf; done)
            rename_i k
            cases k <;> (try simp only at hf) <;> try (cases hf; done)
            exact local_b2s _
  case makeInterface t x =>
    cases P.underlying t with
    | none => exact both pure_nope
    | some d => cases d <;> first | exact both pure_nope | exact both (pure_val _)
  case makeFunc fn f c => exact both (pure_val _)
  case slice t x lo hi mx =>
    cases hu : P.underlying t with
    | none => simp [hu] at hf
    | some d =>
      simp only [hu] at hf
      cases d <;> simp only at hf <;> try (cases hf; done)
      · cases mx with
        | none => exact both (pure_slcS _ _ _)
        | some _ => exact both pure_nope
      · rename_i el
        simp only
        cases P.info? el with
        | none => exact both pure_nope
        | some i => exact both (pure_slc _ _ _ _ _)
  case fieldAddr s x f =>
    cases P.underlying s with
    | none => exact both pure_nope
    | some d =>
      cases d <;> simp only <;> try exact both pure_nope
      rename_i fs
      cases fs[f]? with
      | none => exact both pure_nope
      | some fd =>
        simp only
        cases P.info? fd.type with
        | none => exact both pure_nope
        | some i => simp only; cases i.size <;> first | exact both pure_nope | exact both (pure_fad _ _)
  case field t x f =>
    cases P.underlying t with
    | none => exact both pure_nope
    | some d =>
      cases d <;> simp only <;> try exact both pure_nope
      rename_i fs
      cases fs[f]? with
      | none => exact both pure_nope
      | some fd =>
        simp only
        cases P.info? fd.type with
        | none => exact both pure_nope
        | some i =>
          simp only
          cases P.underlying fd.type with
          | none => exact both pure_nope
          | some d => cases d <;> exact both (pure_prt _ _ _ _)
  case indexAddr t x i =>
    cases P.underlying t with
    | none => exact both pure_nope
    | some d =>
      cases d <;> simp only <;> (try exact both pure_nope)
      all_goals
        rename_i el
        cases P.info? el with
        | none => exact both pure_nope
        | some i => first | exact both (pure_ixS _ _ _) | exact both (pure_ixA _ _ _ _)
  case index t x i =>
    cases hu : P.underlying t with
    | none => simp [hu] at hf
    | some d =>
      simp only [hu] at hf
      cases d <;> simp only at hf <;> try (cases hf; done)
      exact both (pure_chr _ _)
  case lookup t x i ok =>
    refine ⟨?_, fun h => by simp [isRd, hop] at h⟩
    cases hu : P.underlying t with
    | none => simp [hu] at hf
    | some d =>
      simp only [hu] at hf
      cases d <;> simp only at hf <;> try (cases hf; done)
      rename_i kt el
      simp only
      cases hk : P.underlying kt with
      | none => simp [hk] at hf
      | some dk =>
        simp only [hk] at hf
        cases dk <;> simp only at hf <;> try (cases hf; done)
        all_goals
          simp only
          cases hi : P.info? el with
          | none => exact pure_nope.local
          | some j => obtain ⟨_, _, _, _, _, _, _, z, _, _⟩ := j; cases z <;> first | exact pure_nope.local | exact local_lk _ _ _ _ _
  case extract t i => exact both (pure_ext _ _)
  case call c =>
    obtain ⟨cal, args, ts⟩ := c
    cases cal with
    | value x => simp at hf
    | invoke r n => simp at hf
    | builtin b =>
      simp only
      cases b <;> simp only at hf <;> try (cases hf; done)
      all_goals simp only [bi]
      · match (args.toList.map ρ) with
        | [] => exact both pure_nope
        | [x] =>
          simp only
          cases ht : ts[0]? with
          | none => exact both pure_nope
          | some t =>
            simp only
            cases hu : P.underlying t with
            | none => exact both pure_nope
            | some d => cases d <;> first | exact both pure_nope | exact both (pure_cap _)
        | _ :: _ :: _ => exact both pure_nope
      · match (args.toList.map ρ) with
        | [] => exact both pure_nope
        | [x] =>
          simp only
          cases ht : ts[0]? with
          | none => exact both pure_nope
          | some t =>
            simp only
            cases hu : P.underlying t with
            | none => exact both pure_nope
            | some d =>
              cases d <;> first
                | exact both pure_nope | exact both (pure_len _) | exact both (pure_lenS _)
                | exact ⟨local_lenM _, fun h => by simp [isRd, hop, ht, hu] at h⟩
        | _ :: _ :: _ => exact both pure_nope
      · match (args.toList.map ρ) with
        | [x, y] => exact both (pure_mx _ _)
        | [] => exact both pure_nope
        | [_] => exact both pure_nope
        | _ :: _ :: _ :: _ => exact both pure_nope
      · match (args.toList.map ρ) with
        | [x, y] => exact both (pure_mn _ _)
        | [] => exact both pure_nope
        | [_] => exact both pure_nope
        | _ :: _ :: _ :: _ => exact both pure_nope

/-- What such an operation comes to in the model is a value, or nothing at all. -/
theorem flt_valuey {o : Oper} (hf : isFlt P o = true) (ρ : Operand → Value) (w : World) : match (execOp ρ o).run P w with | .ok (.value _) _ => True | .ok _ _ => False | .halt _ _ => True := by
  have val : ∀ (s : Sem Value), match (do pure (.value (← s)) : Sem Next).run P w with | .ok (.value _) _ => True | .ok _ _ => False | .halt _ _ => True := fun s => by
    rw [run_bind]; cases s.run P w <;> simp [run_pure]
  unfold execOp
  cases hop : o.op <;> simp only [isFlt, hop] at hf <;> (try (cases hf; done)) <;> simp only [run_pure] <;> try exact val _
  case pick c a b => rw [run_bind]; cases (asBool (ρ c)).run P w <;> simp [run_pure]
  case makeFunc fn f c => trivial
  case nilCheck x =>
    have hp : match (runtimePanic .nilDeref : Sem Next).run P w with | .ok (.value _) _ => True | .ok _ _ => False | .halt _ _ => True := by
      unfold runtimePanic; simp [run_bind, program, Sem.run, goPanic]
    generalize ρ x = vx
    cases vx with
    | pointer a => cases a <;> first | exact hp | simp [run_pure]
    | nilIface => exact hp
    | nilFunc => exact hp
    | func fn f c =>
      cases fn with
      | method name =>
        simp only
        generalize f[0]? = g
        cases g with
        | none => simp [run_pure]
        | some v =>
          cases v with
          | nilIface => exact hp
          | iface t u =>
            simp only
            rw [run_bind]
            simp only [program, Sem.run]
            rw [run_bind]
            cases Sem.run P _ w with
            | halt h w' => simp
            | ok a w' => simp only; cases hb : (a != some false) <;> simp [run_pure, unsupported, Sem.run, run_bind]
          | _ => simp [run_pure]
      | _ => simp [run_pure]
    | _ => simp [run_pure]
  case call c =>
    obtain ⟨cal, args, ts⟩ := c
    cases cal with
    | value x => simp at hf
    | invoke r n => simp at hf
    | builtin b =>
      simp only [resolve]
      rw [run_bind, run_pure]
      cases b <;> simp only at hf <;> try (cases hf; done)
      all_goals exact val _
end Go.SL
