/-
  The shallow form of a function's code, and that it is sound.
-/
import Derived.Test.YtfholicobkpilaaSlSound
set_option linter.unusedSimpArgs false
set_option linter.unusedVariables false
set_option linter.unusedSectionVars false
namespace Go.SL
open Go.RowKit

inductive Ann where
  | z
  | seq (a b : Ann)
  | join (live : List Nat) (a b : Ann)
  | cond (a b : Ann)
  | blk (a : Ann)
  | loop (live : List Nat) (a : Ann)
  | draw (order : List Nat)
  | rf (ids : List Nat) (a b : Ann)

inductive X where
  | nrm
  | ex (id : Nat)
  | rt

def mk : List Nat → List Value → Env → Env
  | t :: ts, v :: vs, j => fun k => match Nat.beq k t with | true => v | false => mk ts vs j k
  | _, _, j => j
theorem mk_same : ∀ (ts : List Nat) (j : Env), mk ts (ts.map j) j = j
  | [], j => rfl
  | t :: ts, j => by
    funext k
    simp only [List.map, mk]
    split
    · rename_i h; have := Nat.eq_of_beq_eq_true h; subst this; rfl
    · rw [mk_same ts j]

def grd (n : Nat) (ops : Array Oper) (e : Env) (o : Oper) (body : (Value → WT) → WT) (rest : Value → WT) : WT := match o.guard with
  | none => body rest
  | some (j, b) => match ops.toList[j]? with
    | some oj => match oj.dst with
      | some t => S.gd (ev n e (.tmp t)) b body rest
      | none => rest undef
    | none => rest undef

def opsW (P : Program) (n : Nat) (ops : Array Oper) : List Nat → (Env → WT) → Env → WT
  | [], K, e => K e
  | i :: rest, K, e => match ops.toList[i]? with
    | none => opsW P n ops rest K e
    | some o => grd n ops e o (opK P (ev n e) o) (fun v => opsW P n ops rest K (upd n e o.dst v))

/-- What reads at most, and leaves the world alone. -/
def isFlt (P : Program) (o : Oper) : Bool := match o.op with
  | .move _ | .assign _ | .pick _ _ _ | .load _ _ | .nilCheck _ | .unOp _ _ _ | .makeInterface _ _ | .makeFunc _ _ _ | .fieldAddr _ _ _ | .field _ _ _ | .indexAddr _ _ _ | .extract _ _ => true
  | .binOp _ t _ _ _ => match P.underlying t with | some (.int _) | some .string | some .bool => true | _ => false
  | .convert s d _ => match P.underlying s, P.underlying d with
    | some (.int _), some (.int _) | some .string, some .string => true
    | some (.slice el), some .string => match P.underlying el with | some (.int .u8) => true | _ => false
    | _, _ => false
  | .slice t _ _ _ _ => match P.underlying t with | some (.slice _) | some .string => true | _ => false
  | .index t _ _ => match P.underlying t with | some .string => true | _ => false
  | .lookup t _ _ _ => match P.underlying t with
    | some (.map k _) => match P.underlying k with | some (.int _) | some .string => true | _ => false
    | _ => false
  | .call { callee := .builtin .len, .. } | .call { callee := .builtin .cap, .. } | .call { callee := .builtin .max, .. } | .call { callee := .builtin .min, .. } => true
  | _ => false
def isRd (P : Program) (o : Oper) : Bool := match o.op with
  | .load _ _ | .lookup _ _ _ _ => true
  | .convert s _ _ => match P.underlying s with | some (.slice _) => true | _ => false
  | .call { callee := .builtin .len, argTypes, .. } => match argTypes[0]? with
    | some t => match P.underlying t with | some (.map _ _) => true | _ => false
    | none => true
  | _ => false

/-- Must operation j wait for i, at once or through others? -/
def exemptN (ops : Array Oper) : Nat → Nat → Nat → Bool
  | 0, _, _ => false
  | f + 1, j, i => match ops.toList[j]? with
    | some o => o.after.toList.any fun ed => Region.binds .any ed && (Nat.beq ed.on i || exemptN ops f ed.on i)
    | none => false
def exempt (ops : Array Oper) (j i : Nat) : Bool := exemptN ops 10 j i
def rcks (facts : List WT) (W : WT) : WT := match facts with
  | [] => W
  | f :: fs => S.rck (f :: fs) W

def drawW (P : Program) (n : Nat) (ops : Array Oper) : List Nat → List (Nat × WT) → (Env → WT) → Env → WT
  | [], _, K, e => K e
  | i :: rest, p, K, e => match ops.toList[i]? with
    | none => nope
    | some o => match isFlt P o with
      | true => grd n ops e o (opK P (ev n e) o) (fun v => drawW P n ops rest
          (match isRd P o with | true => (i, grd n ops e o (opK P (ev n e) o) (fun v' _ => v' = v)) :: p | false => p) K (upd n e o.dst v))
      | false => grd n ops e o (opK P (ev n e) o) (fun v =>
          rcks ((p.filter fun x => !exempt ops i x.1).map (·.2)) (drawW P n ops rest (p.filter fun x => !exempt ops i x.1) K (upd n e o.dst v)))
/-- Is this an order in which what only reads is taken ahead, and else nothing else can come? -/
def drawOk (P : Program) (ops : Array Oper) : List Nat → Array Bool → Bool
  | [], listed => (Region.ready .any ops listed).isEmpty
  | i :: rest, listed => match ops.toList[i]? with
    | none => false
    | some o => (match isFlt P o with
      | true => Region.free .any ops listed i && (Region.ready .any ops listed).contains i
      | false => Region.ready .any ops listed == [i]) && drawOk P ops rest (listed.setIfInBounds i true)

/-- The slot in which the blocks of deferred calls are kept, one for each range over a function. -/
def MK : Nat := 1000000
def marksOf : Value → List Deferred
  | .tuple vs => vs.toList.filterMap fun | .int _ r => some { target := .collected r.toNat, args := #[] } | _ => none
  | _ => []
def addMark (v : Value) (r : Nat) : Value := match v with
  | .tuple vs => .tuple (#[.int .u64 r] ++ vs)
  | _ => .tuple #[.int .u64 r]
def updAll (n : Nat) (e : Env) : List Tmp → List Value → Env
  | t :: ts, v :: vs => updAll n (upd n e (some t) v) ts vs
  | _, _ => e
def setMK (e : Env) (mv : Value) : Env := fun k => match Nat.beq k MK with | true => mv | false => e k
inductive Md where
  | p
  | m
  | r (l : Nat)
def X.code : X → Option Code
  | .nrm => none
  | .ex i => some (.exit i)
  | .rt => some .ret
def Loop.like (L L' : Loop) : Prop := L'.fn = L.fn ∧ L'.tmps = L.tmps ∧ L'.params = L.params ∧ L'.assign = L.assign ∧ L'.body = L.body ∧ L'.defers = L.defers
def World.put (w : World) (b : Nat) (o : Obj) : World := { w with heap := w.heap.setIfInBounds b o }
/-- A function value that is called by a range. -/
def S.cvf (P : Program) (f : Value) (args : List Value) (K : Value → WT) : WT := match f with
  | .func (.func g) first captured => fun w => callOk P g = true ∧ CF P g (first.toList ++ args ++ captured.toList) K w
  | _ => nope
/-- A round: its number's loop, what it is handed, what begins it, what it ends in. -/
abbrev Round (np : Nat) := Nat → (WT → WT) → (X → WT) → Kn np
def exl {α : Type} (no : α) : List (Nat × α) → Nat → α
  | [], _ => no
  | (j, f) :: l, i => match Nat.beq i j with | true => f | false => exl no l i
/-- What comes behind a range, by the way it ended. -/
def aft {α : Type} (no an rt : α) (exs : List (Nat × α)) : X → α
  | .nrm => an
  | .rt => rt
  | .ex i => exl no exs i
def begun (l : Nat) (L : Loop) (W : WT) : WT := fun w => ∃ L1, w.heap[l]? = some (.loop L1) ∧ Loop.like L L1 ∧ L1.state = .ready ∧ W (World.put w l (.loop { L1 with state := .busy }))
def ended (l : Nat) (L : Loop) (K : Value → WT) (j : X) : WT := fun w => ∃ L2, w.heap[l]? = some (.loop L2) ∧ Loop.like L L2 ∧
  K (.bool (match j with | .nrm => true | _ => false)) (World.put w l (.loop { L2 with state := (match j with | .nrm => .ready | _ => .done), pending := X.code j }))
/-- What holds of yield, if 'Bd' is what a round does. -/
def YieldOk (P : Program) (l : Nat) (L : Loop) (np : Nat) (Bd : Round np) : Prop :=
  ∀ (args : List Value) (K : Value → WT) (w : World), args.length = np → (∃ L1, w.heap[l]? = some (.loop L1) ∧ Loop.like L L1) →
    app np (Bd l (begun l L) (ended l L K)) args w → S.cvv P (.func (.yield l) #[] #[]) args K w
def over (l : Nat) (L : Loop) (after : X → WT) : WT := fun w => ∃ L3 j, w.heap[l]? = some (.loop L3) ∧ Loop.like L L3 ∧ L3.state ≠ .busy ∧ L3.pending = X.code j ∧
  after j (World.put w l (.loop { L3 with state := .exhausted }))
/-- A range over a function, outside of a round: 'mv' are the marks there are. -/
def S.rf (P : Program) (f mv : Value) (np : Nat) (Bd : Round np) (an rt : Value → WT) (exs : List (Nat × (Value → WT))) : WT := fun w =>
  ∀ (l dl : Nat) (L : Loop), dl = w.heap.size → l = w.heap.size + 1 → L.state = .ready → L.pending = none → YieldOk P l L np Bd →
    S.cvf P f [.func (.yield l) #[] #[]] (fun _ => over l L fun j => aft (fun _ => nope) an rt exs j (addMark mv dl)) { w with heap := (w.heap.push (.deferred (some []))).push (.loop L) }
/-- A range over a function in a round of loop l0. -/
def S.rfr (P : Program) (l0 : Nat) (f : Value) (np : Nat) (Bd : Round np) (an rt : WT) (exs : List (Nat × WT)) : WT := fun w =>
  ∃ L0, w.heap[l0]? = some (.loop L0) ∧
  ∀ (l : Nat) (L : Loop), l = w.heap.size → L.state = .ready → L.pending = none → YieldOk P l L np Bd →
    S.cvf P f [.func (.yield l) #[] #[]] (fun _ => over l L (aft nope an rt exs)) { w with heap := w.heap.push (.loop L) }

def swp (P : Program) (n : Nat) : Code → Md → Ann → (X → Env → WT) → Env → WT
  | .skip, _, _, Q, e => Q .nrm e
  | .exit id, _, _, Q, e => Q (.ex id) e
  | .ret, _, _, Q, e => Q .rt e
  | .region _ ops d, _, a, Q, e => match d with
    | false => opsW P n ops (List.range ops.size) (Q .nrm) e
    | true => match a with
      | .draw order => match Region.noSelect ops && P.follows .mixedOrders && Nat.beq order.length ops.size && drawOk P ops order (Array.replicate ops.size false) with
        | true => S.dr (drawW P n ops order [] (Q .nrm) e)
        | false => nope
      | _ => nope
  | .seq x y, md, a, Q, e => match a with
    | .seq a b => swp P n x md a (fun r => match r with | .nrm => swp P n y md b Q | r => Q r) e
    | .join live a b => S.join live.length (fun K => swp P n x md a (fun r => match r with | .nrm => fun e' => app live.length K (live.map e') | r => Q r) e)
        (lam live.length fun vs => S.fa fun j => swp P n y md b Q (mk live vs j))
    | _ => nope
  | .cond c x y, md, a, Q, e => match a with
    | .cond a b => S.cond (ev n e c) (swp P n x md a Q e) (swp P n y md b Q e)
    | _ => nope
  | .block id c, md, a, Q, e => match a with
    | .blk a => swp P n c md a (fun r => match r with | .ex i => (match Nat.beq i id with | true => Q .nrm | false => Q (.ex i)) | r => Q r) e
    | _ => nope
  | .loop c, md, a, Q, e => match a with
    | .loop live a => S.loop live.length (fun K => lam live.length fun vs => S.fa fun j => swp P n c md a (fun r => match r with | .nrm => fun e' => app live.length K (live.map e') | r => Q r) (mk live vs j)) (live.map e)
    | _ => nope
  | .rangeFunc f ps as bd, md, a, Q, e => match a with
    | .rf ids a b =>
      match md with
      | .m => S.rf P (ev n e f) (e MK) ps.size
          (fun l bro Kj => lam ps.size fun args => swp P n as (.r l) a (fun r => match r with | .nrm => fun e' => bro (swp P n bd (.r l) b (fun r _ => Kj r) e') | _ => fun _ => nope) (updAll n e ps.toList args))
          (fun mv => Q .nrm (setMK e mv))
          (fun mv => Q .rt (setMK e mv))
          (ids.map fun i => (i, fun mv => Q (.ex i) (setMK e mv)))
      | .r l0 => S.rfr P l0 (ev n e f) ps.size
          (fun l bro Kj => lam ps.size fun args => swp P n as (.r l) a (fun r => match r with | .nrm => fun e' => bro (swp P n bd (.r l) b (fun r _ => Kj r) e') | _ => fun _ => nope) (updAll n e ps.toList args))
          (Q .nrm e) (Q .rt e) (ids.map fun i => (i, Q (.ex i) e))
      | .p => nope
    | _ => nope
  | _, _, _, _, _ => nope

structure Rep (md : Md) (a : Act) (e : Env) (n : Nat) : Prop where
  size : a.tmps.size = n
  at_ : ∀ k, k < n → a.tmps.getD k undef = e k
  defers : match md with | .m => a.defers = marksOf (e MK) | _ => a.defers = []
  lt : n ≤ MK
theorem Rep.evt {md : Md} {a : Act} {e : Env} {n : Nat} (h : Rep md a e n) (t : Nat) : a.tmps.getD t undef = ev n e (.tmp t) := by
  unfold ev
  simp only
  cases hb : Nat.blt t n with
  | true => exact h.at_ t (by simpa [Nat.blt_eq] using hb)
  | false =>
    have : ¬ t < n := by rw [← Bool.not_eq_true] at hb; simpa [Nat.blt_eq] using hb
    simp [Array.getD_eq_getD_getElem?, Array.getElem?_eq_none (by have := h.size; omega : a.tmps.size ≤ t)]
theorem Rep.eval {md : Md} {a : Act} {e : Env} {n : Nat} (h : Rep md a e n) : a.eval = ev n e := by
  funext x
  cases x <;> first | rfl | exact h.evt _
theorem Rep.put {md : Md} {a : Act} {e : Env} {n : Nat} (h : Rep md a e n) (d : Option Tmp) (v : Value) : Rep md (a.put d v) (upd n e d v) n := by
  cases d with
  | none => exact h
  | some d =>
    by_cases hd : d < n
    · have hb : Nat.blt d n = true := by simpa [Nat.blt_eq] using hd
      have hlt := h.lt
      refine ⟨by simp [Act.put, h.size], fun k hk => ?_, ?_, h.lt⟩
      · simp only [Act.put, upd, hb]
        by_cases hkd : k = d
        · subst hkd
          simp [Array.getD_eq_getD_getElem?, Array.getElem?_setIfInBounds, h.size, hd]
        · have hb : Nat.beq k d = false := by rw [← Bool.not_eq_true]; intro h; exact hkd (Nat.eq_of_beq_eq_true h)
          simp only [hb]
          rw [← h.at_ k hk]
          simp [Array.getD_eq_getD_getElem?, Array.getElem?_setIfInBounds, Ne.symm hkd]
      · have hne : Nat.beq MK d = false := by
          rw [← Bool.not_eq_true]; intro h
          have h1 : MK = d := Nat.eq_of_beq_eq_true h
          have h2 : MK < n := by rw [h1]; exact hd
          exact absurd h2 (Nat.not_lt.2 hlt)
        have hdf := h.defers
        cases md <;> simp only [Act.put, upd, hb, hne] at hdf ⊢ <;> exact hdf
    · have hb : Nat.blt d n = false := by rw [← Bool.not_eq_true]; simpa [Nat.blt_eq] using hd
      have : a.put (some d) v = a := by
        simp [Act.put, Array.setIfInBounds, h.size, hd]
      rw [this]
      simp only [upd, hb]
      exact h

theorem toList_get (ops : Array Oper) (i : Nat) : ops.toList[i]? = ops[i]? := by simp

theorem wanted_eq {ops : Array Oper} {md : Md} {a : Act} {e : Env} {n : Nat} {o : Oper} (hr : Rep md a e n) (j : Nat) (b : Bool) (hg : o.guard = some (j, b)) :
    Region.wanted o (yielded ops a.tmps) = (match (ops[j]?).bind (·.dst) with | some t => (match ev n e (.tmp t) with | .bool x => x == b | _ => false) | none => false) := by
  unfold Region.wanted yielded
  simp only [hg]
  cases hd : (ops[j]?).bind (·.dst) with
  | none => rfl
  | some t =>
    simp only [Option.bind_some]
    have := hr.evt t
    rw [Array.getD_eq_getD_getElem?] at this
    cases ht : a.tmps[t]? with
    | none => simp [ht] at this; rw [← this]; rfl
    | some v =>
      simp [ht] at this; rw [← this]
      cases v <;> first | rfl | (rename_i x; cases x <;> cases b <;> rfl)
/-- What a guarded operation comes to. -/
theorem grd_cases {ops : Array Oper} {md : Md} {a : Act} {e : Env} {n : Nat} {o : Oper} (hr : Rep md a e n) {body : (Value → WT) → WT} {rest : Value → WT} {w : World} (h : grd n ops e o body rest w) :
    (Region.wanted o (yielded ops a.tmps) = true ∧ body rest w) ∨ (Region.wanted o (yielded ops a.tmps) = false ∧ rest undef w) := by
  unfold grd at h
  cases hg : o.guard with
  | none => simp only [hg] at h; exact .inl ⟨by unfold Region.wanted; simp [hg], h⟩
  | some jb =>
    obtain ⟨j, b⟩ := jb
    simp only [hg] at h
    rw [wanted_eq hr j b hg]
    rw [toList_get] at h
    cases hj : ops[j]? with
    | none => simp only [hj] at h; exact .inr ⟨rfl, h⟩
    | some oj =>
      simp only [hj] at h
      cases hd : oj.dst with
      | none => simp only [hd] at h; exact .inr ⟨by simp [hd], h⟩
      | some t =>
        simp only [hd] at h
        simp only [Option.bind_some, hd]
        unfold S.gd at h
        generalize ev n e (.tmp t) = v at h ⊢
        cases v <;> first
          | exact .inr ⟨rfl, h⟩
          | (rename_i x; cases x <;> cases b <;> first | exact .inl ⟨rfl, h⟩ | exact .inr ⟨rfl, h⟩)

/-- The fence that lets everything in, in a round or not. -/
def Fr (r : Option Nat) : Fence := { Fence.wide with round := r }
theorem ev_func (n : Nat) (e : Env) (f : FuncId) : ev n e (.func f) = .func (.func f) #[] #[] := rfl
theorem callsFr {r : Option Nat} {k : Nat} {P : Program} {f : FuncId} {args : Array Value} {w : World} {R : Ending → World → Prop} (h : Calls P f args w R) : CallsIn (Fr r) k P f args w R :=
  (callsIn_wide (n := k)).2 h
def notDefer (o : Oper) : Prop := ∀ c, o.op ≠ .defer c
theorem wpIn_of_gives {P : Program} {r : Option Nat} {o : Oper} {a : Act} {K : Value → WT} {w : World} {next : Act → World → Prop} {Q : Exit → Act → World → Prop} (hnd : notDefer o)
    (h : Gives P (execOp a.eval o) K w) (hk : ∀ v w, K v w → next (a.put o.dst v) w) : o.wpIn (Fr r) 0 P a w next Q := by
  refine ⟨fun _ _ => trivial, ?_⟩
  rw [Oper.semAt_eq _ _ _ hnd]
  unfold Gives at h
  split at h
  · rename_i hx; rw [hx]; exact hk _ _ h
  · rename_i hx; rw [hx]; exact hk _ _ h
  · rename_i hx; rw [hx, Oper.uponIn_enter]
    unfold CF at h
    refine ⟨fun h => by simp [Fr, Fence.wide] at h, callsFr (Calls.mono (by simpa using h) fun e w' h' => ?_)⟩
    cases e with
    | returned v => exact hk _ _ h'
    | panicked c => exact h'.elim
    | outgrown => exact h'.elim
  · rename_i hx; rw [hx, Oper.uponIn_round]
    refine ⟨fun h => by simp [Fr, Fence.wide] at h, ?_⟩
    have h2 : RoundIn (Fr r) 0 P _ _ _ _ _ _ _ := h
    refine RoundIn.mono h2 fun e w' h' => ?_
    cases e with
    | returned v => exact hk _ _ h'
    | panicked c => exact h'.elim
    | outgrown => exact h'.elim
  · exact h.elim
theorem opK_notDefer {P : Program} {ρ : Operand → Value} {o : Oper} {K : Value → WT} {w : World} (h : opK P ρ o K w) : notDefer o := fun c hc => by
  unfold opK at h; rw [hc] at h; exact h

theorem opsW_sound {P : Program} {md : Md} {r : Option Nat} {n : Nat} {ops : Array Oper} {K : Env → WT} {Q : Exit → Act → World → Prop}
    (hK : ∀ a e w, Rep md a e n → K e w → Q .normal a w) : ∀ (l : List Nat) (a : Act) (e : Env) (w : World), Rep md a e n → opsW P n ops l K e w → wpOpsIn (Fr r) 0 P ops Q l a w
  | [], a, e, w, hr, h => hK a e w hr h
  | i :: rest, a, e, w, hr, h => by
    unfold opsW at h
    rw [toList_get] at h
    unfold wpOpsIn
    cases ho : ops[i]? with
    | none => simp only [ho] at h ⊢; exact opsW_sound hK rest a e w hr h
    | some o =>
      simp only [ho] at h ⊢
      rcases grd_cases hr h with ⟨hw, h⟩ | ⟨hw, h⟩
      · rw [if_pos hw]
        refine wpIn_of_gives (opK_notDefer h) ?_ fun v w h => opsW_sound hK rest _ _ w (hr.put _ _) h
        rw [hr.eval]; exact opK_sound (ev_func n e) h
      · rw [if_neg (by simp [hw])]
        exact ⟨fun _ _ => trivial, opsW_sound hK rest _ _ w (hr.put _ _) h⟩
end Go.SL
