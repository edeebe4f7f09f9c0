/-
  Ranges over functions; maps.
-/
import Derived.Test.YtfholicobkpilaaSlApp
set_option linter.unusedSimpArgs false
set_option linter.unusedVariables false
set_option linter.unusedSectionVars false
namespace Go.SL
open Go.RowKit
variable {B : World} {H : List Asrt} {K : Value → WT} {P : Program}

theorem sat_pt_put {w : World} {b : Nat} {o o' : Obj} (h : sat B (pt true b o :: H) w) : sat B (pt true b o' :: H) (World.put w b o') := h.put o'

/-! ### a loop's record -/
def lpo (l : Nat) (L : Loop) (st : LoopState) (j : X) : Asrt := pt true l (.loop { L with state := st, pending := X.code j })
def dfo (r : Nat) : Asrt := pt true r (.deferred (some []))
theorem like_self (L : Loop) (st : LoopState) (p : Option Code) : Loop.like L { L with state := st, pending := p } := ⟨rfl, rfl, rfl, rfl, rfl, rfl⟩
theorem E_begun {l : Nat} {L : Loop} {W : WT} (h : E B (lpo l L .busy .nrm :: H) W) : E B (lpo l L .ready .nrm :: H) (begun l L W) := fun w hw =>
  ⟨_, sat.get hw, like_self L _ _, rfl, h _ (sat_pt_put hw)⟩
theorem E_ended {l : Nat} {L : Loop} (h : E B (lpo l L .ready .nrm :: H) (K (.bool true))) : E B (lpo l L .busy .nrm :: H) (ended l L K .nrm) := fun w hw =>
  ⟨_, sat.get hw, like_self L _ _, h _ (sat_pt_put hw)⟩
theorem E_ended_ex {l i : Nat} {L : Loop} (h : E B (lpo l L .done (.ex i) :: H) (K (.bool false))) : E B (lpo l L .busy .nrm :: H) (ended l L K (.ex i)) := fun w hw =>
  ⟨_, sat.get hw, like_self L _ _, h _ (sat_pt_put hw)⟩
theorem E_ended_rt {l : Nat} {L : Loop} (h : E B (lpo l L .done .rt :: H) (K (.bool false))) : E B (lpo l L .busy .nrm :: H) (ended l L K .rt) := fun w hw =>
  ⟨_, sat.get hw, like_self L _ _, h _ (sat_pt_put hw)⟩
theorem E_over {l : Nat} {L : Loop} {st : LoopState} {j : X} {after : X → WT} (hst : st ≠ .busy) (h : E B H (after j)) : E B (lpo l L st j :: H) (over l L after) := fun w hw =>
  ⟨_, j, sat.get hw, like_self L _ _, hst, rfl, h _ (sat.tail (sat_pt_put (o' := .loop { L with state := .exhausted, pending := X.code j }) hw))⟩
/-- What the yield of loop l does, as a rule. -/
def YieldE (P : Program) (B : World) (l : Nat) (L : Loop) (np : Nat) (Bd : Round np) : Prop :=
  ∀ (args : List Value) (K : Value → WT) (H : List Asrt), args.length = np →
    E B (lpo l L .ready .nrm :: H) (app np (Bd l (begun l L) (ended l L K)) args) → E B (lpo l L .ready .nrm :: H) (S.cvv P (.func (.yield l) #[] #[]) args K)
theorem yieldE {l : Nat} {L : Loop} {np : Nat} {Bd : Round np} (h : YieldOk P l L np Bd) : YieldE P B l L np Bd := fun args K H hn hE w hw =>
  h args K w hn ⟨_, sat.get hw, like_self L _ _⟩ (hE w hw)
theorem E_rf {g : FuncId} {first captured : Array Value} {mv : Value} {np : Nat} {Bd : Round np} {an rt : Value → WT} {exs : List (Nat × (Value → WT))} (hk : callOk P g = true)
    (h : ∀ l dl L, YieldE P B l L np Bd → E B (lpo l L .ready .nrm :: dfo dl :: H)
      (CF P g (first.toList ++ [.func (.yield l) #[] #[]] ++ captured.toList) (fun _ => over l L fun j => aft (fun _ => nope) an rt exs j (addMark mv dl)))) :
    E B H (S.rf P (.func (.func g) first captured) mv np Bd an rt exs) := by
  intro w hw
  intro l dl L hdl hl hst hp hy
  refine ⟨hk, h l dl L (yieldE hy) _ ?_⟩
  have h1 := (hw.new (.deferred (some []))).new (.loop L)
  have hL : (.loop { L with state := .ready, pending := X.code .nrm } : Obj) = .loop L := by
    cases L; simp only at hst hp; subst hst hp; rfl
  subst hdl hl
  unfold lpo dfo
  rw [hL]
  simpa using h1
theorem E_done0 {W : WT} (h : E B H W) : E B H (S.done undef W) := h
theorem E_done1 {r : Nat} {W : WT} (h : E B H W) : E B (dfo r :: H) (S.done (addMark undef r) W) := fun w hw =>
  ⟨by simpa using sat.get (b := r) (o := .deferred (some [])) hw, by
    have := h _ (sat.tail (sat_pt_put (b := r) (o := .deferred (some [])) (o' := .deferred none) hw))
    simpa [addMark, undef, takeAll] using this⟩

/-! ### maps -/
class HasM (H : List Asrt) (r : Nat) (κ : outParam Bool) (es : outParam (List MapEntry)) (cl : outParam Nat) : Prop where
  pf : ∃ H', Find H (mpb κ r es cl) H'
instance (priority := high) hasM_here {κ r es cl H} : HasM (mpb κ r es cl :: H) r κ es cl := ⟨_, .here⟩
instance hasM_there {a κ r es cl H} [h : HasM H r κ es cl] : HasM (a :: H) r κ es cl := ⟨_, .there h.pf.choose_spec⟩
class TakM (H : List Asrt) (r : Nat) (es : outParam (List MapEntry)) (cl : outParam Nat) (H' : outParam (List Asrt)) : Prop where
  pf : Find H (mpb true r es cl) H'
instance (priority := high) takM_here {r es cl H} : TakM (mpb true r es cl :: H) r es cl H := ⟨.here⟩
instance takM_there {a r es cl H H'} [h : TakM H r es cl H'] : TakM (a :: H) r es cl (a :: H') := ⟨.there h.pf⟩
theorem sat_hasM {w : World} {r : Nat} {κ : Bool} {es : List MapEntry} {cl : Nat} [hf : HasM H r κ es cl] (h : sat B H w) : w.heap[r]? = some (.map es.toArray cl) := by
  obtain ⟨H', hf⟩ := hf.pf
  exact sat.get (sat_perm hf.perm h)
theorem E_mkM (h : ∀ r, E B (mpb true r [] 0 :: H) (K (.map (some r)))) : E B H (S.mkM K) := fun w hw => h _ _ (hw.new (.map #[] 0))
theorem E_lenM {r : Nat} {κ : Bool} {es : List MapEntry} {cl : Nat} [hf : HasM H r κ es cl] (h : E B H (K (.int .i64 es.length))) : E B H (S.lenM (.map (some r)) K) := fun w hw => by
  unfold S.lenM; simp only [sat_hasM (hf := hf) hw]; simpa using h w hw
theorem E_lk1 {kd : TypeDesc} {z k v : Value} {ok : Bool} {r n : Nat} {κ : Bool} {es : List MapEntry} {cl : Nat} [hf : HasM H r κ es cl] (hv : Instr.findNow kd k es 0 = some (some (n, v)))
    (h : E B H (K (match ok with | true => .tuple #[v, .bool true] | false => v))) : E B H (S.lk kd z ok (.map (some r)) k K) := fun w hw => by
  unfold S.lk; simp only [sat_hasM (hf := hf) hw, hv]; exact h w hw
theorem E_lk0 {kd : TypeDesc} {z k : Value} {ok : Bool} {r : Nat} {κ : Bool} {es : List MapEntry} {cl : Nat} [hf : HasM H r κ es cl] (hv : Instr.findNow kd k es 0 = some none)
    (h : E B H (K (match ok with | true => .tuple #[z, .bool false] | false => z))) : E B H (S.lk kd z ok (.map (some r)) k K) := fun w hw => by
  unfold S.lk; simp only [sat_hasM (hf := hf) hw, hv]; exact h w hw
theorem run_setMap {w : World} {r : Nat} {es : Array MapEntry} {cl : Nat} {o : Obj} (h : w.heap[r]? = some (.map es cl)) : (setObj r o).run P w = .ok () (World.put w r o) := by
  unfold setObj Sem.run; simp only [h]; rfl

def keyD : TypeDesc → Bool
  | .int _ | .string => true
  | _ => false
theorem checkKey_run' {b : Bool} {kt : TypeId} {k : Value} {d : TypeDesc} {w : World} (hd : P.underlying kt = some d) (h : keyD d = true) : (Instr.checkKey b 10000 kt k).run P w = .ok () w := by
  unfold Instr.checkKey
  rw [run_bind, run_underlying' hd]
  cases d <;> first | rfl | cases h
/-- The key of a map whose keys are ints or strings. -/
structure Key (P : Program) (t : TypeId) (kt el : TypeId) (kd : TypeDesc) : Prop where
  hm : P.underlying t = some (.map kt el)
  hk : P.underlying kt = some kd
  hd : keyD kd = true
theorem findNow_lt (kd : TypeDesc) (k : Value) : ∀ (es : List MapEntry) (i n : Nat) (v : Value), Instr.findNow kd k es i = some (some (n, v)) → ∃ j, n = i + j ∧ ∃ e, es[j]? = some e ∧ e.val = v ∧ Instr.sameNow kd k e.key = some true
  | [], i, n, v, h => by simp [Instr.findNow] at h
  | e :: es, i, n, v, h => by
    simp only [Instr.findNow] at h
    split at h
    · rename_i hs
      simp only [Option.some.injEq, Prod.mk.injEq] at h
      obtain ⟨rfl, rfl⟩ := h
      exact ⟨0, rfl, e, rfl, rfl, hs⟩
    · obtain ⟨j, rfl, e', he, hv, hs⟩ := findNow_lt kd k es (i + 1) n v h
      exact ⟨j + 1, by omega, e', by simpa using he, hv, hs⟩
    · cases h
/-- A key of an int or a string is the same one to the bit. -/
theorem ba_beq (a b : ByteArray) : (a == b) = true ↔ a = b := by
  cases a with | mk x => cases b with | mk y =>
  simp only [BEq.beq, ByteArray.beq, ByteArray.mk.injEq]
  rw [← beq_iff_eq (a := x) (b := y)]
  rfl
theorem sameNow_eq {kd : TypeDesc} {a b : Value} (h : Instr.sameNow kd a b = some true) (hd : keyD kd = true) : a = b := by
  cases kd <;> first
    | (cases hd; done)
    | (cases a <;> first
        | (simp [Instr.sameNow] at h; done)
        | (cases b <;> first
            | (simp [Instr.sameNow] at h; done)
            | (simp [Instr.sameNow] at h; simp [h]; done)
            | (simp only [Instr.sameNow, Option.some.injEq, ba_beq] at h; rw [h])))
theorem sameBits_int (k : IntKind) (a : Int) : Instr.sameBits 10000 (.int k a) (.int k a) = true := by simp [Instr.sameBits]
theorem sameBits_str (a : ByteArray) : Instr.sameBits 10000 (.string a) (.string a) = true := by simp only [Instr.sameBits]; exact (ba_beq a a).2 rfl
theorem keyStays {k : Value} {w : World} (h : Instr.sameBits 10000 k k = true) : (Instr.keyThatStays k k).run P w = .ok k w := by
  unfold Instr.keyThatStays; rw [if_pos h]; rfl
theorem E_mu1 {t kt el r n cl : Nat} {kd : TypeDesc} {k v u : Value} {es : List MapEntry} {H' : List Asrt} [hf : TakM H r es cl H'] (hK : Key P t kt el kd) (hb : Instr.sameBits 10000 k k = true)
    (hv : Instr.findNow kd k es 0 = some (some (n, u)))
    (h : E B (mpb true r (es.modify n fun e => { e with key := k, val := v }) cl :: H') (K undef)) : E B H (U P (Instr.mapUpdate t (.map (some r)) k v) K) := by
  refine E_Uok fun w hw => ?_
  have hw' := sat_perm hf.pf.perm hw
  have hg := sat.get hw'
  obtain ⟨j, hj, e, he, _, hs⟩ := findNow_lt _ _ _ _ _ _ hv
  simp only [Nat.zero_add] at hj; subst hj
  have hke := sameNow_eq hs hK.hd
  refine ⟨_, ?_, h _ (sat_pt_put (o' := .map (es.modify n fun e => { e with key := k, val := v }).toArray cl) hw')⟩
  unfold Instr.mapUpdate
  simp only [run_bind, run_underlying' hK.hm, run_getObj' hg (by simp), checkKey_run' hK.hk hK.hd, find_run (P := P) (w := w) hK.hk hv]
  have : ((es.toArray[n]?).map (·.key)).getD k = k := by simp [he, ← hke]
  rw [this, keyStays hb]
  simp only [run_setMap hg]
  congr 2
  simp
theorem E_mu0 {t kt el r cl : Nat} {kd : TypeDesc} {k v : Value} {es : List MapEntry} {H' : List Asrt} [hf : TakM H r es cl H'] (hK : Key P t kt el kd)
    (hv : Instr.findNow kd k es 0 = some none)
    (h : E B (mpb true r (es ++ [({ key := k, val := v, born := cl } : MapEntry)]) (cl + 1) :: H') (K undef)) : E B H (U P (Instr.mapUpdate t (.map (some r)) k v) K) := by
  refine E_Uok fun w hw => ?_
  have hw' := sat_perm hf.pf.perm hw
  have hg := sat.get hw'
  refine ⟨_, ?_, h _ (sat_pt_put (o' := .map (es ++ [({ key := k, val := v, born := cl } : MapEntry)]).toArray (cl + 1)) hw')⟩
  unfold Instr.mapUpdate
  simp only [run_bind, run_underlying' hK.hm, run_getObj' hg (by simp), checkKey_run' hK.hk hK.hd, find_run (P := P) (w := w) hK.hk hv, run_setMap hg]
  congr 2
  simp
theorem E_del1 {ts : Array TypeId} {ty t kt el r n cl : Nat} {kd : TypeDesc} {k u : Value} {es : List MapEntry} {H' : List Asrt} [hf : TakM H r es cl H'] (ht : ts[0]? = some t) (hK : Key P t kt el kd)
    (hv : Instr.findNow kd k es 0 = some (some (n, u)))
    (h : E B (mpb true r (es.eraseIdx n) cl :: H') (K (.tuple #[]))) : E B H (V P (Builtin.delete_ ts ty #[.map (some r), k]) K) := by
  refine E_Vok fun w hw => ?_
  have hw' := sat_perm hf.pf.perm hw
  have hg := sat.get hw'
  obtain ⟨j, hj, e, he, _, hs⟩ := findNow_lt _ _ _ _ _ _ hv
  simp only [Nat.zero_add] at hj; subst hj
  refine ⟨_, _, ?_, h _ (sat_pt_put (o' := .map (es.eraseIdx n).toArray cl) hw')⟩
  unfold Builtin.delete_
  simp only [ht, List.getElem?_toArray, List.getElem?_cons_zero, List.getElem?_cons_succ, run_bind, run_underlying' hK.hm, run_getObj' hg (by simp), checkKey_run' hK.hk hK.hd, find_run (P := P) (w := w) hK.hk hv, run_setMap hg, run_pure]
  have hlt : n < es.length := (List.getElem?_eq_some_iff.1 he).1
  congr 3
  simp [Array.eraseIdxIfInBounds, hlt]
theorem E_del0 {ts : Array TypeId} {ty t kt el r cl : Nat} {kd : TypeDesc} {k : Value} {es : List MapEntry} {H' : List Asrt} [hf : TakM H r es cl H'] (ht : ts[0]? = some t) (hK : Key P t kt el kd)
    (hv : Instr.findNow kd k es 0 = some none)
    (h : E B (mpb true r es cl :: H') (K (.tuple #[]))) : E B H (V P (Builtin.delete_ ts ty #[.map (some r), k]) K) := by
  refine E_Vok fun w hw => ?_
  have hw' := sat_perm hf.pf.perm hw
  have hg := sat.get hw'
  refine ⟨_, _, ?_, h _ (sat_pt_put (o' := .map es.toArray cl) hw')⟩
  unfold Builtin.delete_
  simp only [ht, List.getElem?_toArray, List.getElem?_cons_zero, List.getElem?_cons_succ, run_bind, run_underlying' hK.hm, run_getObj' hg (by simp), checkKey_run' hK.hk hK.hd, find_run (P := P) (w := w) hK.hk hv, run_setMap hg, run_pure]
end Go.SL
