/-
  Methods called through an interface; maps whose keys are structs; structs compared.
-/
import Derived.Test.YtfholicobkpilaaSlUse
import Derived.Laws.StructEq
set_option linter.unusedSimpArgs false
set_option linter.unusedVariables false
set_option linter.unusedSectionVars false
namespace Go.SL
open Go.RowKit
variable {B : World} {H : List Asrt} {K : Value → WT} {P : Program}

/-- A method of a pointer receiver, or of a value that is at hand. -/
theorem E_invP {name : String} {f : FuncId} {args : Array Value} {args' : List Value} (hm : ∀ w, (invoke (.fn (.method name) #[]) args).run P w = .ok (.enter f args'.toArray) w) (h : E B H (CF P f args' K)) :
    E B H (Gives P (invoke (.fn (.method name) #[]) args) K) := fun w hw => by
  unfold Gives
  rw [hm]
  exact h w hw
def cellD : TypeDesc → Bool
  | .struct _ | .array _ _ => false
  | _ => true
/-- A method of a value of one cell, called by its pointer. -/
structure MethV (P : Program) (t : TypeId) (name : String) (f : FuncId) : Prop where
  pf : ∃ el i m d, P.info? t = some i ∧ i.methods.find? (fun x => x.name == name) = some m ∧ m.path.toList = [] ∧ m.func = some (f, false) ∧ P.underlying t = some (.pointer el) ∧
    P.underlying el = some d ∧ cellD d = true
  ok : callOk P f = true
theorem methV {t : TypeId} {name : String} {f : FuncId} {el : TypeId} {d : TypeDesc}
    (h1 : (P.info? t).bind (fun i => (i.methods.find? (fun x => x.name == name)).map fun m => (m.path.toList.length, m.func)) = some (0, some (f, false)))
    (h2 : P.underlying t = some (.pointer el)) (h3 : P.underlying el = some d) (h4 : cellD d = true) (h5 : callOk P f = true) : MethV P t name f := by
  refine ⟨?_, h5⟩
  cases hi : P.info? t with
  | none => simp [hi] at h1
  | some i =>
    simp only [hi, Option.bind_some, Option.map_eq_some_iff, Prod.mk.injEq] at h1
    obtain ⟨m, hm, hp, hf⟩ := h1
    exact ⟨el, i, m, d, rfl, hm, List.length_eq_zero_iff.1 hp, hf, h2, h3, h4⟩
theorem E_invV {t : TypeId} {name : String} {f : FuncId} {args : List Value} {p : Nat} {κ : Bool} {T : TypeId} {l : List Value} {sv : Value} [hf : HasC H p κ T l] [hv : AtI l 0 sv]
    (hm : MethV P t name f) (h : E B H (CF P f (sv :: args) K)) :
    E B H (Gives P (invoke (.fn (.method name) #[]) (.iface t (.pointer (some ⟨p, 0, none⟩)) :: args).toArray) K) := fun w hw => by
  have hl : (load ⟨p, 0, none⟩).run P w = .ok sv w := run_load' (by rw [sat_cell (hf := hf) hw]; exact hv.pf)
  obtain ⟨el, i, m, d, hi, hmm, hp, hfn, hu, hd, hdd⟩ := hm.pf
  have hagg : (isAgg el).run P w = .ok false w := by
    unfold isAgg
    rw [run_bind, run_underlying' hd]
    cases d <;> first | rfl | (simp [cellD] at hdd; done)
  have hmeth : ∀ n, (Go.method (n + 1) t (.pointer (some ⟨p, 0, none⟩)) name).run P w = .ok (f, sv) w := fun n => by
    unfold Go.method
    rw [run_bind, run_info' hi]
    simp only [hmm]
    rw [run_bind, hp]
    simp only [Go.follow, run_pure, hfn]
    rw [run_bind]
    unfold Go.receiverAt
    rw [run_bind, run_underlying' hu]
    simp only [run_bind, Go.Place.get, run_pure]
    have : ∀ s : String, (Builtin.ssaWrapNilChk_ #[t] t #[.pointer (some ⟨p, 0, none⟩), strVal "", strVal s]).run P w = .ok (.pointer (some ⟨p, 0, none⟩)) w := fun s => rfl
    have hpe : m.path.isEmpty = true := by cases hq : m.path with | mk l => rw [hq] at hp; simp only at hp; subst hp; rfl
    simp only [hpe, if_true, this, run_bind]
    simp only [asAddr, run_pure]
    unfold loadVar
    simp only [run_bind, hagg, Bool.false_eq_true, if_false, hl]
  unfold Gives
  have : (invoke (.fn (.method name) #[]) (.iface t (.pointer (some ⟨p, 0, none⟩)) :: args).toArray).run P w = .ok (.enter f (sv :: args).toArray) w := by
    unfold invoke
    simp only [List.getElem?_toArray, List.getElem?_cons_zero]
    unfold callMethod
    simp only
    rw [run_bind]
    have hp : (program).run P w = .ok P w := rfl
    rw [hp]
    simp only
    rw [run_bind]
    have hpos : 0 < Made.depth := by decide
    have hdep : P.types.size + Made.depth = (P.types.size + Made.depth - 1) + 1 := by omega
    rw [hdep, hmeth]
    simp only
    rw [run_callFunc hm.ok]
    simp
  rw [this]
  exact h w hw
/-- x.(T), where T is no interface and x is one. -/
theorem E_tas {t x : TypeId} {v : Value} {d : TypeDesc} (hu : P.underlying t = some d) (hd : (match d with | .interface _ => false | _ => true) = true) (h : E B H (K (.tuple #[v, .bool true]))) :
    E B H (V P (Instr.typeAssert (.iface t v) x t true) K) := by
  refine E_Vok fun w hw => ⟨_, w, ?_, h w hw⟩
  unfold Instr.typeAssert
  rw [run_bind, run_underlying' hu]
  cases d <;> first | (simp at hd; done) | simp [run_pure]

/-! ### maps whose keys are structs -/
/-- How keys of type kt are compared. -/
structure KeyG {κ : Type} [DecidableEq κ] (P : Program) (t kt el : TypeId) (enc : κ → Value) : Prop where
  hm : P.underlying t = some (.map kt el)
  chk : ∀ b k w, (Instr.checkKey b 10000 kt (enc k)).run P w = .ok () w
  no : ∃ d, P.underlying kt = some d ∧ ∀ a b, Instr.sameNow d (enc a) (enc b) = none
  eq : ∀ a b w, (Op.equal kt (enc a) (enc b)).run P w = .ok (decide (a = b)) w
  bits : ∀ a, Instr.sameBits 10000 (enc a) (enc a) = true
section
variable {κ : Type} [DecidableEq κ] {enc : κ → Value}
theorem findAsk_d {t kt el : TypeId} (hE : KeyG P t kt el enc) (k : κ) (w : World) : ∀ (es : List MapEntry) (kv : List (κ × Value)) (i : Nat), es.map (fun e => (e.key, e.val)) = kv.map (eKV enc) →
    (kv.lookup k = none → (Instr.findAsking kt (enc k) es i).run P w = .ok none w) ∧
    (∀ v, kv.lookup k = some v → ∃ n, (Instr.findAsking kt (enc k) es i).run P w = .ok (some (i + n, v)) w ∧ ∃ s t, kv = s ++ (k, v) :: t ∧ s.length = n ∧ k ∉ s.map (·.1))
  | [], kv, i, h => by
    have : kv = [] := by simpa using h.symm
    subst this
    exact ⟨fun _ => rfl, fun v hv => by simp at hv⟩
  | e :: es, [], i, h => by simp at h
  | e :: es, (a, b) :: kv, i, h => by
    simp only [List.map_cons, List.cons.injEq, eKV, Prod.mk.injEq] at h
    obtain ⟨⟨h1, h2⟩, h3⟩ := h
    obtain ⟨ih1, ih2⟩ := findAsk_d hE k w es kv (i + 1) h3
    have hs : (Op.equal kt (enc k) e.key).run P w = .ok (decide (k = a)) w := by rw [h1]; exact hE.eq k a w
    by_cases hk : k = a
    · subst hk
      simp only [decide_true] at hs
      refine ⟨fun hn => by simp at hn, fun v hv => ⟨0, ?_, [], kv, ?_, rfl, by simp⟩⟩
      · simp only [Instr.findAsking, run_bind, hs]
        simp at hv; subst hv; simp [h2, run_pure]
      · simp at hv; subst hv; rfl
    · have : (k == a) = false := by simpa using hk
      simp only [hk, decide_false] at hs
      refine ⟨fun hn => ?_, fun v hv => ?_⟩
      · rw [List.lookup_cons, this] at hn
        simp only [Instr.findAsking, run_bind, hs]; exact ih1 hn
      · rw [List.lookup_cons, this] at hv
        obtain ⟨n, hn, s, t, hst, hsl, hns⟩ := ih2 v hv
        refine ⟨n + 1, ?_, (a, b) :: s, t, by rw [hst]; rfl, by simp [hsl], by simpa [hk] using hns⟩
        simp only [Instr.findAsking, run_bind, hs]
        rw [show i + (n + 1) = i + 1 + n by omega]
        exact hn
theorem findKey_d {t kt el : TypeId} (hE : KeyG P t kt el enc) (k : κ) (w : World) (es : List MapEntry) (kv : List (κ × Value)) (h : es.map (fun e => (e.key, e.val)) = kv.map (eKV enc)) :
    (kv.lookup k = none → (Instr.findKey kt (enc k) es).run P w = .ok none w) ∧
    (∀ v, kv.lookup k = some v → ∃ n, (Instr.findKey kt (enc k) es).run P w = .ok (some (n, v)) w ∧ ∃ s t, kv = s ++ (k, v) :: t ∧ s.length = n ∧ k ∉ s.map (·.1)) := by
  obtain ⟨d, hd, hs⟩ := hE.no
  unfold Instr.findKey
  simp only [run_bind, run_underlying' hd]
  cases es with
  | nil =>
    have : kv = [] := by simpa using h.symm
    subst this
    exact ⟨fun _ => rfl, fun v hv => by simp at hv⟩
  | cons e es =>
    cases kv with
    | nil => simp at h
    | cons p kv =>
      have he : e.key = enc p.1 := by simp only [List.map_cons, List.cons.injEq, eKV, Prod.mk.injEq] at h; exact h.1.1
      have hn : Instr.findNow d (enc k) (e :: es) 0 = none := by simp only [Instr.findNow, he, hs]
      simp only [hn]
      obtain ⟨h1, h2⟩ := findAsk_d hE k w (e :: es) (p :: kv) 0 h
      exact ⟨h1, fun v hv => by obtain ⟨n, hn, hr⟩ := h2 v hv; exact ⟨n, by rw [Nat.zero_add] at hn; exact hn, hr⟩⟩
theorem E_glk1 {t kt el : TypeId} (hE : KeyG P t kt el enc) {v : Value} {ok o : Bool} {r : Nat} {k : κ} {kv : List (κ × Value)} {H' : List Asrt} [ht : TakD H enc o r kv H'] (hv : kv.lookup k = some v)
    (h : E B (dct enc o r kv :: H') (K (if ok then .tuple #[v, .bool true] else v))) : E B H (V P (Instr.lookup t (.map (some r)) (enc k) ok) K) := by
  refine E_find ht.pf (E_dopen fun es cl hd => E_Vok fun w hw => ⟨if ok then .tuple #[v, .bool true] else v, w, ?_, (E_dshut hd h : E B (mpb o r es cl :: H') (K (if ok then .tuple #[v, .bool true] else v))) w hw⟩)
  obtain ⟨n, hn, _⟩ := (findKey_d hE k w es kv hd.kvs).2 v hv
  have hm := sat_hasM (hf := hasM_here) hw
  unfold Instr.lookup
  simp only [run_bind, run_underlying' hE.hm, run_getObj' hm (by simp), run_pure, hE.chk, hn]
theorem E_glk0 {t kt el : TypeId} (hE : KeyG P t kt el enc) {z : Value} {ok o : Bool} {r : Nat} {k : κ} {kv : List (κ × Value)} {H' : List Asrt} [ht : TakD H enc o r kv H'] (hz : ∀ w, (zeroValue el).run P w = .ok z w) (hv : kv.lookup k = none)
    (h : E B (dct enc o r kv :: H') (K (if ok then .tuple #[z, .bool false] else z))) : E B H (V P (Instr.lookup t (.map (some r)) (enc k) ok) K) := by
  refine E_find ht.pf (E_dopen fun es cl hd => E_Vok fun w hw => ⟨if ok then .tuple #[z, .bool false] else z, w, ?_, (E_dshut hd h : E B (mpb o r es cl :: H') (K (if ok then .tuple #[z, .bool false] else z))) w hw⟩)
  have hn := (findKey_d hE k w es kv hd.kvs).1 hv
  have hm := sat_hasM (hf := hasM_here) hw
  unfold Instr.lookup
  simp only [run_bind, run_underlying' hE.hm, run_getObj' hm (by simp), run_pure, hE.chk, hn, hz]
theorem dok_putG {es : List MapEntry} {cl : Nat} {kv : List (κ × Value)} {k : κ} {v u : Value} {n : Nat} (hd : DOk enc es cl kv) (hv : kv.lookup k = some u) {s t : List (κ × Value)} (hst : kv = s ++ (k, u) :: t) (hsl : s.length = n) (hns : k ∉ s.map (·.1)) :
    DOk enc (es.modify n fun e => { e with key := enc k, val := v }) cl (dput kv k v) := by
  have hput : dput kv k v = s ++ (k, v) :: t := by
    have hn := hd.nod
    unfold dput
    rw [hv]
    simp only [Option.isSome_some, if_true]
    rw [hst] at hn ⊢
    simp only [List.map_append, List.map_cons, List.nodup_append, List.nodup_cons] at hn
    have e1 : ∀ l : List (κ × Value), k ∉ l.map (·.1) → l.map (fun p => if p.1 = k then (k, v) else p) = l := fun l hl => by
      have : l.map (fun p => if p.1 = k then (k, v) else p) = l.map id := List.map_congr_left fun p hp => by
        have : p.1 ≠ k := fun e => hl (e ▸ List.mem_map.2 ⟨p, hp, rfl⟩)
        simp [this]
      simpa using this
    simp only [List.map_append, List.map_cons, if_true]
    rw [e1 s hns, e1 t hn.2.1.1]
  have hb : (es.modify n fun e => { e with key := enc k, val := v }).map (·.born) = es.map (·.born) := by
    apply List.ext_getElem?
    intro i
    simp only [List.getElem?_modify, List.getElem?_map]
    cases es[i]? with
    | none => rfl
    | some e => simp only [Option.map_some]; split <;> rfl
  refine ⟨?_, dput_nodup hd.nod, hb ▸ hd.born, fun e he => ?_⟩
  · rw [hput]
    apply List.ext_getElem?
    intro i
    have hk := congrArg (fun l => l[i]?) hd.kvs
    simp only [List.getElem?_map, hst] at hk
    simp only [List.getElem?_modify, List.getElem?_map]
    by_cases hi : n = i
    · subst hi hsl
      simp only [List.getElem?_append_right (Nat.le_refl _), Nat.sub_self, List.getElem?_cons_zero, Option.map_some] at hk ⊢
      cases he : es[s.length]? with
      | none => rw [he] at hk; simp at hk
      | some e => simp [eKV]
    · simp only [if_neg hi]
      have : (s ++ (k, v) :: t)[i]? = (s ++ (k, u) :: t)[i]? := by
        rcases Nat.lt_or_ge i s.length with h | h
        · rw [List.getElem?_append_left h, List.getElem?_append_left h]
        · rw [List.getElem?_append_right h, List.getElem?_append_right h]
          have : i - s.length = (i - s.length - 1) + 1 := by omega
          rw [this]; simp
      rw [this, ← hk]
      cases es[i]? <;> rfl
  · obtain ⟨i, hi, rfl⟩ := List.mem_iff_getElem.1 he
    have h1 := congrArg (fun l => l[i]?) hb
    simp only [List.getElem?_map, List.getElem?_eq_getElem hi] at h1
    cases he' : es[i]? with
    | none => rw [he'] at h1; simp at h1
    | some e' =>
      rw [he'] at h1
      simp only [Option.map_some, Option.some.injEq] at h1
      rw [h1]; exact hd.lt e' (List.mem_of_getElem? he')
theorem E_gmu {t kt el : TypeId} (hE : KeyG P t kt el enc) {r : Nat} {k : κ} {v : Value} {kv : List (κ × Value)} {H' : List Asrt} [ht : TakD H enc true r kv H']
    (h : E B (dct enc true r (dput kv k v) :: H') (K undef)) : E B H (U P (Instr.mapUpdate t (.map (some r)) (enc k) v) K) := by
  refine E_find ht.pf (E_dopen fun es cl hd => ?_)
  cases hl : kv.lookup k with
  | none =>
    have hd' : DOk enc (es ++ [({ key := enc k, val := v, born := cl } : MapEntry)]) (cl + 1) (dput kv k v) := by
      refine ⟨?_, dput_nodup hd.nod, ?_, ?_⟩
      · unfold dput; simp [hl, hd.kvs, eKV]
      · rw [List.map_append, List.nodup_append]
        refine ⟨hd.born, by simp, fun a ha b hb => ?_⟩
        obtain ⟨e, he, rfl⟩ := List.mem_map.1 ha
        simp at hb; subst hb
        have := hd.lt e he; omega
      · intro e he
        rcases List.mem_append.1 he with he | he
        · have := hd.lt e he; omega
        · simp at he; subst he; simp
    have h2 : E B (mpb true r (es ++ [({ key := enc k, val := v, born := cl } : MapEntry)]) (cl + 1) :: H') (K undef) := E_dshut hd' h
    refine E_Uok fun w hw => ?_
    have hg := sat.get hw
    refine ⟨_, ?_, h2 _ (sat_pt_put (o' := .map (es ++ [({ key := enc k, val := v, born := cl } : MapEntry)]).toArray (cl + 1)) hw)⟩
    unfold Instr.mapUpdate
    simp only [run_bind, run_underlying' hE.hm, run_getObj' hg (by simp), hE.chk, (findKey_d hE k w es kv hd.kvs).1 hl, run_setMap hg]
    congr 2
    simp
  | some u =>
    refine E_Uok fun w hw => ?_
    obtain ⟨n, hn, s, tl, hst, hsl, hns⟩ := (findKey_d hE k w es kv hd.kvs).2 u hl
    have h2 : E B (mpb true r (es.modify n fun e => { e with key := enc k, val := v }) cl :: H') (K undef) := E_dshut (dok_putG hd hl hst hsl hns) h
    have hg := sat.get hw
    refine ⟨_, ?_, h2 _ (sat_pt_put (o' := .map (es.modify n fun e => { e with key := enc k, val := v }).toArray cl) hw)⟩
    unfold Instr.mapUpdate
    simp only [run_bind, run_underlying' hE.hm, run_getObj' hg (by simp), hE.chk, hn]
    have he : (es[n]?).map (·.key) = some (enc k) := by
      have hk := congrArg (fun l => l[n]?) hd.kvs
      simp only [List.getElem?_map, hst] at hk
      subst hsl
      simp only [List.getElem?_append_right (Nat.le_refl _), Nat.sub_self, List.getElem?_cons_zero, Option.map_some] at hk
      cases he : es[s.length]? with
      | none => rw [he] at hk; simp at hk
      | some e => rw [he] at hk; simp [eKV] at hk; simp [hk.1]
    have : ((es.toArray[n]?).map (·.key)).getD (enc k) = enc k := by simp only [List.getElem?_toArray, he, Option.getD_some]
    rw [this, keyStays (hE.bits k)]
    simp only [run_setMap hg]
    congr 2
    simp
end

section
variable {κ : Type} [DecidableEq κ] {enc : κ → Value}
/-- What a list of keys and values has for a key. -/
abbrev dget (kv : List (κ × Value)) (k : κ) : Option Value := kv.lookup k
theorem dget_dput {kv : List (κ × Value)} {k k' : κ} {v : Value} : dget (dput kv k v) k' = if k' = k then some v else dget kv k' := lookup_dput
theorem dget_ddel {kv : List (κ × Value)} {k k' : κ} : dget (ddel kv k) k' = if k' = k then none else dget kv k' := lookup_ddel
theorem E_gnew {r : Nat} {W : WT} (h : E B (dct enc true r [] :: H) W) : E B (mpb true r [] 0 :: H) W := E_dshut ⟨rfl, by simp, by simp, by simp⟩ h
end
/-! ### structs compared -/
/-- Is a value of type t one cell? -/
def cellT (P : Program) (t : TypeId) : Bool := match P.underlying t with
  | some d => cellD d
  | none => false
theorem E_aeq {t : TypeId} {c : Bool} {xs ys : Array Value} {b : Bool} (hg : P.eqGuardType P.depth t = false) (he : ∀ w, (Op.equal t (.agg xs) (.agg ys)).run P w = .ok b w) (h : E B H (K (.bool b))) :
    E B H (S.eqv P .eql t c (.agg xs) (.agg ys) K) := E_eqS (fun w => by
  unfold S.eqS
  rw [run_bind, run_eqGuard_agg w .eql t _ _ xs ys hg]
  simp only [binOp, run_bind, he, run_pure]) h
theorem E_ane {t : TypeId} {c : Bool} {xs ys : Array Value} {b : Bool} (hg : P.eqGuardType P.depth t = false) (he : ∀ w, (Op.equal t (.agg xs) (.agg ys)).run P w = .ok b w) (h : E B H (K (.bool (!b)))) :
    E B H (S.eqv P .neq t c (.agg xs) (.agg ys) K) := E_eqS (fun w => by
  unfold S.eqS
  rw [run_bind, run_eqGuard_agg w .neq t _ _ xs ys hg]
  simp only [binOp, run_bind, he, run_pure]) h
/-- Two values of type t compared. -/
def EqV (P : Program) (t : TypeId) (x y : Value) (b : Bool) : Prop := cellT P t = true ∧ ∀ d w, (Op.equalIn (d + 1) t x y).run P w = .ok b w
theorem eqV_int {t : TypeId} {k : IntKind} {a b : Int} (h : P.underlying t = some (.int k)) : EqV P t (.int k a) (.int k b) (decide (a = b)) :=
  ⟨by unfold cellT; rw [h]; rfl, fun d w => by rw [run_equalIn_int w d t k k a b h]; congr 1⟩
theorem eqV_bool {t : TypeId} {a b : Bool} (h : P.underlying t = some .bool) : EqV P t (.bool a) (.bool b) (decide (a = b)) :=
  ⟨by unfold cellT; rw [h]; rfl, fun d w => by rw [run_equalIn_bool' w d t a b h]; cases a <;> cases b <;> rfl⟩
theorem eqV_str {t : TypeId} {a b : List UInt8} (h : P.underlying t = some .string) : EqV P t (str a) (str b) (decide (a = b)) :=
  ⟨by unfold cellT; rw [h]; rfl, fun d w => by
    rw [run_equalIn_string w d t _ _ h]
    simp only [baToList]
    congr 1
    by_cases h : a = b
    · simp [h]
    · simp [h]⟩
theorem run_part {t : TypeId} {xs : Array Value} {o : Nat} {x : Value} {w : World} (h : cellT P t = true) (hx : xs[o]? = some x) : (part t xs o).run P w = .ok x w := by
  have hagg : (isAgg t).run P w = .ok false w := by
    unfold isAgg
    unfold cellT at h
    cases hu : P.underlying t with
    | none => rw [hu] at h; cases h
    | some d =>
      rw [hu] at h
      rw [run_bind, run_underlying' hu]
      cases d <;> first | rfl | (simp [cellD] at h; done)
  unfold part
  rw [run_bind, hagg]
  simp only [Bool.false_eq_true, if_false, hx]
  rfl
theorem run_eqFields {d : Nat} {xs ys : Array Value} {w : World} : ∀ (fs : List Field) (bs : List Bool), fs.length = bs.length →
    (∀ (i : Nat) (f : Field) (b : Bool), fs[i]? = some f → bs[i]? = some b → f.name ≠ "_" ∧ ∃ x y, xs[f.offset]? = some x ∧ ys[f.offset]? = some y ∧ EqV P f.type x y b) → (Op.eqFields (d + 1) xs ys fs).run P w = .ok (bs.all id) w
  | [], [], _, _ => rfl
  | f :: fs, [], hl, _ => by simp at hl
  | [], b :: bs, hl, _ => by simp at hl
  | f :: fs, b :: bs, hl, h => by
    obtain ⟨hn, x, y, hx, hy, he⟩ := h 0 f b rfl rfl
    have ih := run_eqFields (d := d) (xs := xs) (ys := ys) (w := w) fs bs (by simpa using hl) fun i f b hf hb => h (i + 1) f b hf hb
    unfold Op.eqFields
    rw [if_pos hn]
    simp only [run_bind, run_part he.1 hx, run_part he.1 hy, he.2 d w]
    cases b with
    | false => simp [run_pure]
    | true => simp only [Bool.not_true, Bool.false_eq_true, if_false, ih]; simp
/-- Two structs, all of whose fields are one cell each. -/
theorem run_eqStruct {t : TypeId} {xs ys : List Value} {bs : List Bool} (ts : List TypeId)
    (hS : P.underlying t = some (.struct (P.fieldsOf t))) (hp : P.stoodInHeld t = false)
    (hf : (P.fieldsOf t).toList.map (fun f : Field => (f.name == "_", f.type, f.offset)) = ts.zipIdx.map fun (t, i) => (false, t, i))
    (hl : ts.length = bs.length) (he : ∀ (i : Nat) (t : TypeId) (b : Bool), ts[i]? = some t → bs[i]? = some b → ∃ x y, xs[i]? = some x ∧ ys[i]? = some y ∧ EqV P t x y b) (w : World) :
    (Op.equal t (.agg xs.toArray) (.agg ys.toArray)).run P w = .ok (bs.all id) w := by
  unfold Op.equal Op.maxDepth
  rw [show (10000 : Nat) = 9999 + 1 from rfl, run_equalIn_agg w 9999 t _ _ hS hp]
  have hlen : (P.fieldsOf t).toList.length = bs.length := by have := congrArg List.length hf; simp at this; rw [← hl]; simpa using this
  refine run_eqFields _ _ hlen fun i f b hfi hbi => ?_
  have hlt : i < ts.length := by rw [hl]; exact (List.getElem?_eq_some_iff.1 hbi).1
  have h1 := congrArg (fun l => l[i]?) hf
  simp only [List.getElem?_map, hfi, Option.map_some, List.getElem?_zipIdx, List.getElem?_eq_getElem hlt, Nat.zero_add, Option.some.injEq, Prod.mk.injEq] at h1
  obtain ⟨x, y, hx, hy, hE⟩ := he i ts[i] b (List.getElem?_eq_getElem hlt) hbi
  rw [h1.2.1, h1.2.2]
  exact ⟨by simpa using h1.1, x, y, by simpa using hx, by simpa using hy, hE⟩
end Go.SL
