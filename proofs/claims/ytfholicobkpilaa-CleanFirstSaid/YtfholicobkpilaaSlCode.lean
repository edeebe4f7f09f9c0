/-
  The shallow form of a whole function is sound.
-/
import Derived.Test.YtfholicobkpilaaSlDraw
import Derived.Laws.Sem
set_option linter.unusedSimpArgs false
set_option linter.unusedVariables false
set_option linter.unusedSectionVars false
namespace Go.SL
open Go.RowKit
variable {P : Program} {e : Env} {w : World}

def X.of : Exit → Option X
  | .normal => some .nrm
  | .exit id => some (.ex id)
  | .ret => some .rt
  | _ => none
/-- What the shallow post says of the model's exits. -/
def post (md : Md) (n : Nat) (Q : X → Env → WT) : Exit → Act → World → Prop := fun x a w => ∃ r e, X.of x = some r ∧ Rep md a e n ∧ Q r e w

theorem least {p : Nat → Prop} (h : ∃ m, p m) : ∃ m, p m ∧ ∀ k, p k → m ≤ k := by
  obtain ⟨m, hm⟩ := h
  induction m using Nat.strongRecOn with
  | _ m ih =>
    by_cases hx : ∃ k, k < m ∧ p k
    · obtain ⟨k, hk, hp⟩ := hx; exact ih k hk hp
    · exact ⟨m, hm, fun k hp => Nat.le_of_not_lt fun hlt => hx ⟨k, hlt, hp⟩⟩

theorem mk_at {ts : List Nat} {j : Env} : mk ts (ts.map j) j = j := mk_same ts j

theorem marks_add (v : Value) (r : Nat) : marksOf (addMark v r) = { target := .collected r, args := #[] } :: marksOf v := by
  cases v <;> simp [addMark, marksOf]
theorem updAll_rep {md : Md} {n : Nat} : ∀ (ts : List Tmp) (vs : List Value) (a : Act) (e : Env), Rep md a e n →
    Rep md { a with tmps := (ts.zip vs).foldl (fun tmps (t, v) => tmps.setIfInBounds t v) a.tmps } (updAll n e ts vs) n
  | [], _, a, e, h => h
  | t :: ts, [], a, e, h => h
  | t :: ts, v :: vs, a, e, h => updAll_rep ts vs (a.put (some t) v) _ (h.put _ _)
theorem zip_fold (ps : Array Tmp) (args : Array Value) (tmps : Array Value) :
    (ps.zip args).foldl (fun tmps (t, a) => tmps.setIfInBounds t a) tmps = (ps.toList.zip args.toList).foldl (fun tmps (t, a) => tmps.setIfInBounds t a) tmps := by
  rw [← Array.foldl_toList, Array.toList_zip]
theorem run_getLoop {l : Nat} {L : Loop} (h : w.heap[l]? = some (.loop L)) : (Instr.getLoop l).run P w = .ok L w := by
  unfold Instr.getLoop
  rw [run_bind, run_getObj' h (by simp)]; rfl
theorem run_setObj' {l : Nat} {L : Loop} {o : Obj} (h : w.heap[l]? = some (.loop L)) : (setObj l o).run P w = .ok () (World.put w l o) := by
  unfold setObj Sem.run
  simp only [h]; rfl

theorem yield_ok {n l : Nat} {a : Act} {e : Env} {ps : Array Tmp} {as bd : Code} {an bn : Ann} {L : Loop} {md : Md} (hrep : Rep md a e n)
    (hL : L.tmps = a.tmps ∧ L.params = ps ∧ L.assign = as ∧ L.body = bd)
    (ia : ∀ (Q : X → Env → WT) (a : Act) (e : Env) (w : World), Rep (.r l) a e n → swp P n as (.r l) an Q e w → as.wpIn (Fr (some l)) 0 P (post (.r l) n Q) a w)
    (ib : ∀ (Q : X → Env → WT) (a : Act) (e : Env) (w : World), Rep (.r l) a e n → swp P n bd (.r l) bn Q e w → bd.wpIn (Fr (some l)) 0 P (post (.r l) n Q) a w) :
    YieldOk P l L ps.size (fun l bro Kj => lam ps.size fun args => swp P n as (.r l) an (fun r => match r with | .nrm => fun e' => bro (swp P n bd (.r l) bn (fun r _ => Kj r) e') | _ => fun _ => nope) (updAll n e ps.toList args)) := by
  intro args K w hlen ⟨L1, hl, hlike⟩ hbd
  rw [app_lam _ _ _ hlen] at hbd
  obtain ⟨ht, hp, has, hbo⟩ := hL
  obtain ⟨k1, k2, k3, k4, k5, k6⟩ := hlike
  unfold S.cvv
  simp only
  unfold Gives invoke Instr.yield
  simp only
  rw [run_bind, run_getLoop hl]
  simp only
  rw [if_neg (by simp [k3, hp, hlen]), run_pure]
  simp only
  refine roundIn_of_wpIn (F := Fence.wide) trivial ?_
  rw [k4, k5, has, hbo]
  have hr0 : Rep (.r l) { tmps := (L1.params.zip (#[] ++ args.toArray)).foldl (fun tmps (t, a) => tmps.setIfInBounds t a) L1.tmps, defers := [] } (updAll n e ps.toList args) n := by
    have := updAll_rep (md := .r l) ps.toList args { tmps := a.tmps, defers := [] } e ⟨hrep.size, hrep.at_, rfl, hrep.lt⟩
    rw [zip_fold, k3, hp, k2, ht]
    simpa using this
  refine wpIn_mono (ia _ _ _ w hr0 hbd) ?_
  rintro ex a1 w1 ⟨rr, e1, hx, hr1, h1⟩
  cases ex <;> simp only [X.of, Option.some.injEq] at hx <;> try (cases hx; done)
  all_goals subst hx
  · obtain ⟨L2, hl2, hlike2, hst, h1⟩ := h1
    refine ⟨_, ?_, wpIn_mono (ib _ _ _ _ hr1 h1) ?_⟩
    · unfold Instr.beginRound
      rw [run_bind, run_getLoop hl2]; simp only
      rw [run_bind, run_setObj' hl2]; simp only [hst]; rfl
    · rintro ex a3 w3 ⟨rr, e3, hx, hr3, L3, hl3, hlike3, h3⟩
      have hend : ∀ j : X, (Instr.endRound l (X.code j)).run P w3 = .ok (.bool (match j with | .nrm => true | _ => false))
          (World.put w3 l (.loop { L3 with state := (match j with | .nrm => .ready | _ => .done), pending := X.code j })) := by
        intro j
        unfold Instr.endRound
        rw [run_bind, run_getLoop hl3]; simp only
        rw [run_bind, run_setObj' hl3]
        cases j <;> rfl
      cases ex <;> simp only [X.of, Option.some.injEq] at hx <;> try (cases hx; done)
      all_goals subst hx
      · exact ⟨_, _, hend .nrm, h3⟩
      · exact ⟨_, _, hend (.ex _), h3⟩
      · exact ⟨_, _, hend .rt, h3⟩
  · exact h1.elim
  · exact h1.elim

theorem cvf_enter {f : Value} {args : List Value} {K : Value → WT} (h : S.cvf P f args K w) : ∃ g first captured, f = .func (.func g) first captured ∧ callOk P g = true ∧ CF P g (first.toList ++ args ++ captured.toList) K w := by
  unfold S.cvf at h
  split at h
  · exact ⟨_, _, _, rfl, h⟩
  · exact h.elim

theorem over_run {l : Nat} {L : Loop} {after : X → WT} (h : over l L after w) : ∃ j w', (Instr.endLoop l).run P w = .ok (X.code j) w' ∧ after j w' := by
  obtain ⟨L3, j, hl, _, hst, hp, h⟩ := h
  refine ⟨j, _, ?_, h⟩
  unfold Instr.endLoop
  rw [run_bind, run_getLoop hl]; simp only
  have hb : (L3.state == .busy) = false := by cases hs : L3.state <;> simp_all
  simp only [hb, Bool.false_eq_true, if_false]
  rw [run_bind, run_setObj' hl]
  simp only [hp, run_pure]

theorem aft_cases {α : Type} {no an rt : α} {f : Nat → α} {ids : List Nat} {j : X} : aft no an rt (ids.map fun i => (i, f i)) j = (match j with | .nrm => an | .rt => rt | .ex i => f i) ∨ aft no an rt (ids.map fun i => (i, f i)) j = no := by
  cases j with
  | nrm => exact .inl rfl
  | rt => exact .inl rfl
  | ex i =>
    simp only [aft]
    induction ids with
    | nil => exact .inr rfl
    | cons k ids ih =>
      simp only [List.map_cons, exl]
      cases hb : Nat.beq i k with
      | true => have := Nat.eq_of_beq_eq_true hb; subst this; exact .inl rfl
      | false => exact ih
theorem arr3 (x y : Array Value) (v : Value) : (x.toList ++ [v] ++ y.toList).toArray = x ++ #[v] ++ y := by cases x; cases y; simp

theorem swp_sound {n : Nat} : ∀ (c : Code) (md : Md) (ro : Option Nat) (an : Ann) (Q : X → Env → WT) (a : Act) (e : Env) (w : World), ro = (match md with | .r l => some l | _ => none) →
    Rep md a e n → swp P n c md an Q e w → c.wpIn (Fr ro) 0 P (post md n Q) a w := by
  intro c
  induction c with
  | skip => exact fun md ro an Q a e w hm hr h => wpIn_skip ⟨.nrm, e, rfl, hr, (by unfold swp at h; exact h)⟩
  | exit id => exact fun md ro an Q a e w hm hr h => wpIn_exit ⟨.ex id, e, rfl, hr, (by unfold swp at h; exact h)⟩
  | ret => exact fun md ro an Q a e w hm hr h => wpIn_ret ⟨.rt, e, rfl, hr, (by unfold swp at h; exact h)⟩
  | region id ops d =>
    intro md ro an Q a e w hm hr h
    unfold swp at h
    cases d with
    | false => exact wpIn_region (opsW_sound (K := Q .nrm) (fun a e w hr h => ⟨.nrm, e, rfl, hr, h⟩) _ a e w hr h)
    | true =>
      simp only at h
      cases an <;> simp only at h <;> try exact h.elim
      rename_i order
      cases hok : Region.noSelect ops && P.follows .mixedOrders && Nat.beq order.length ops.size && drawOk P ops order (Array.replicate ops.size false) with
      | true =>
        simp only [hok] at h
        simp only [Bool.and_eq_true] at hok
        obtain ⟨⟨⟨hs, hmx⟩, hl⟩, hok⟩ := hok
        have hl := Nat.eq_of_beq_eq_true hl
        refine wpIn_region_any hmx (wpAny_of_P _ [] _ _ _ ?_)
        have hw := h { w with drawn := w.drawn + 1 } rfl rfl rfl rfl
        have := drawW_sound (K := Q .nrm) (Q := post md n Q .normal) (Region.noSelect_spec hs)
          (fun a e w hr h => ⟨.nrm, e, rfl, hr, h⟩) order (Array.replicate ops.size false) [] a e _ (closed_start _ _) hr hok (by simp) hw
        rw [hl] at this
        exact this
      | false => simp only [hok] at h; exact h.elim
  | seq x y ihx ihy =>
    intro md ro an Q a e w hm hr h
    unfold swp at h
    cases an <;> simp only at h <;> try exact h.elim
    · rename_i aa bb
      refine wpIn_seq (wpIn_mono (ihx md ro aa _ a e w hm hr h) ?_)
      rintro ex a' w' ⟨r, e', hx, hr', h'⟩
      cases ex <;> simp only [X.of, Option.some.injEq] at hx <;> try (cases hx; done)
      all_goals subst hx
      · exact ihy md ro bb Q a' e' w' hm hr' h'
      · exact ⟨_, e', rfl, hr', h'⟩
      · exact ⟨_, e', rfl, hr', h'⟩
    · rename_i live aa bb
      unfold S.join at h
      refine wpIn_seq (wpIn_mono (ihx md ro aa _ a e w hm hr h) ?_)
      rintro ex a' w' ⟨r, e', hx, hr', h'⟩
      cases ex <;> simp only [X.of, Option.some.injEq] at hx <;> try (cases hx; done)
      all_goals subst hx
      · simp only at h'
        rw [app_lam _ _ _ (by simp)] at h'
        have := h' e'
        simp only [mk_same] at this
        exact ihy md ro bb Q a' e' w' hm hr' this
      · exact ⟨_, e', rfl, hr', h'⟩
      · exact ⟨_, e', rfl, hr', h'⟩
  | cond c x y ihx ihy =>
    intro md ro an Q a e w hm hr h
    unfold swp at h
    cases an <;> simp only at h <;> try exact h.elim
    rename_i aa bb
    unfold S.cond at h
    split at h
    · rename_i hc; exact wpIn_cond_true (by rw [hr.eval]; exact hc) (ihx md ro aa Q a e w hm hr h)
    · rename_i hc; exact wpIn_cond_false (by rw [hr.eval]; exact hc) (ihy md ro bb Q a e w hm hr h)
    · exact h.elim
  | block id c ih =>
    intro md ro an Q a e w hm hr h
    unfold swp at h
    cases an <;> simp only at h <;> try exact h.elim
    rename_i aa
    refine wpIn_block (wpIn_mono (ih md ro aa _ a e w hm hr h) ?_)
    rintro ex a' w' ⟨r, e', hx, hr', h'⟩
    cases ex <;> simp only [X.of, Option.some.injEq] at hx <;> try (cases hx; done)
    all_goals subst hx
    · exact ⟨_, e', rfl, hr', h'⟩
    · rename_i i
      simp only [Exit.inBlock]
      simp only at h'
      cases hb : Nat.beq i id with
      | true =>
        simp only [hb] at h'
        rw [if_pos (Nat.eq_of_beq_eq_true hb)]; exact ⟨_, e', rfl, hr', h'⟩
      | false =>
        simp only [hb] at h'
        rw [if_neg (fun he => by subst he; simp at hb)]; exact ⟨_, e', rfl, hr', h'⟩
    · exact ⟨_, e', rfl, hr', h'⟩
  | loop c ih =>
    intro md ro an Q a e w hm hr h
    unfold swp at h
    cases an <;> simp only at h <;> try exact h.elim
    rename_i live aa
    obtain ⟨σ, I, μ, s0, h0, hstep⟩ := h
    have hmin : ∀ (a : Act) (w : World), (∃ s e, Rep md a e n ∧ I s (live.map e) w) → ∃ m, ∃ s e, Rep md a e n ∧ I s (live.map e) w ∧ μ s = m := fun a w ⟨s, e, h1, h2⟩ => ⟨_, s, e, h1, h2, rfl⟩
    let J : Act → World → Prop := fun a w => ∃ s e, Rep md a e n ∧ I s (live.map e) w
    open Classical in
    let ν : Act → World → Nat := fun a w => if hj : J a w then Classical.choose (least (hmin a w hj)) else 0
    refine wpIn_loop J ν ⟨s0, e, hr, h0⟩ ?_
    intro a w hJ
    have hν : ν a w = Classical.choose (least (hmin a w hJ)) := by simp only [ν]; rw [dif_pos hJ]
    obtain ⟨s, e, hr, hI, hμ⟩ := (Classical.choose_spec (least (hmin a w hJ))).1
    have hb := hstep s (live.map e) w (by simp) hI
    rw [app_lam _ _ _ (by simp)] at hb
    have hb := hb e
    simp only [mk_same] at hb
    refine wpIn_mono (ih md ro aa _ a e w hm hr hb) ?_
    rintro ex a' w' ⟨r, e', hx, hr', h'⟩
    cases ex <;> simp only [X.of, Option.some.injEq] at hx <;> try (cases hx; done)
    all_goals subst hx
    · simp only at h'
      rw [app_lam _ _ _ (by simp)] at h'
      obtain ⟨s', hlt, hI'⟩ := h'
      have hJ' : J a' w' := ⟨s', e', hr', hI'⟩
      refine ⟨hJ', ?_⟩
      have hν' : ν a' w' = Classical.choose (least (hmin a' w' hJ')) := by simp only [ν]; rw [dif_pos hJ']
      rw [hν, hν', ← hμ]
      exact Nat.lt_of_le_of_lt ((Classical.choose_spec (least (hmin a' w' hJ'))).2 _ ⟨s', e', hr', hI', rfl⟩) hlt
    · exact ⟨_, e', rfl, hr', h'⟩
    · exact ⟨_, e', rfl, hr', h'⟩
  | rangeFunc f ps as bd iha ihb =>
    intro md ro an Q a e w hm hr h
    unfold swp at h
    cases an <;> simp only at h <;> try exact h.elim
    rename_i ids aa bb
    have hres : ∀ (l : Nat) (w : World) g first captured, ev n e f = .func (.func g) first captured →
        (resolve a.eval (rangeCall f l) 0).run P w = .ok { target := .fn (.func g) captured, args := first ++ #[.func (.yield l) #[] #[]] } w := by
      intro l w g first captured hf
      unfold resolve rangeCall
      rw [hr.eval]; simp only [hf, Deferred.ofValue]
      simp [ev, run_pure]
    have hinv : ∀ (l : Nat) (w : World) g (first captured : Array Value), callOk P g = true →
        (invoke (.fn (.func g) captured) (first ++ #[.func (.yield l) #[] #[]])).run P w = .ok (.enter g (first ++ #[.func (.yield l) #[] #[]] ++ captured)) w := by
      intro l w g first captured hk
      unfold invoke
      exact run_callFunc hk
    cases md with
    | p => exact h.elim
    | m =>
      simp only at h
      subst hm
      refine wpIn_rangeFunc fun fn _ => ?_
      let L : Loop := { state := .ready, pending := none, fn := fn, tmps := a.tmps, params := ps, assign := as, body := bd, defers := w.heap.size }
      have hy := yield_ok (P := P) (n := n) (l := w.heap.size + 1) (L := L) (an := aa) (bn := bb) hr ⟨rfl, rfl, rfl, rfl⟩ (fun Q a e w hr h => iha (.r _) _ aa Q a e w rfl hr h) (fun Q a e w hr h => ihb (.r _) _ bb Q a e w rfl hr h)
      have hc := h (w.heap.size + 1) w.heap.size L rfl rfl rfl rfl hy
      obtain ⟨g, first, captured, hf, hk, hc⟩ := cvf_enter hc
      refine ⟨w.heap.size + 1, [{ target := .collected w.heap.size, args := #[] }], { w with heap := (w.heap.push (.deferred (some []))).push (.loop L) }, _, _, g, _, _, ?_, hres _ _ g first captured hf, fun _ _ => trivial, hinv _ _ g first captured hk, fun h => by simp [Fr, Fence.wide] at h, ?_⟩
      · simp [Instr.enterLoop, run_bind, newObj, Sem.run, run_pure, L, Fr]; rfl
      · unfold CF at hc
        rw [arr3] at hc
        refine callsFr (Calls.mono hc fun en w' h' => ?_)
        cases en with
        | panicked c => exact h'.elim
        | outgrown => exact h'.elim
        | returned v =>
          obtain ⟨j, w4, he, h4⟩ := over_run (P := P) h'
          refine ⟨X.code j, w4, he, ?_⟩
          have hrep : Rep .m { a with defers := [{ target := .collected w.heap.size, args := #[] }] ++ a.defers } (setMK e (addMark (e MK) w.heap.size)) n := by
            refine ⟨hr.size, fun k hk => ?_, ?_, hr.lt⟩
            · have hne : Nat.beq k MK = false := by
                rw [← Bool.not_eq_true]; intro h
                have h1 : k = MK := Nat.eq_of_beq_eq_true h
                have := hr.lt
                rw [h1] at hk; exact absurd hk (Nat.not_lt.2 this)
              simp only [setMK, hne]; exact hr.at_ k hk
            · have hb : Nat.beq MK MK = true := Nat.beq_refl MK
              have hd := hr.defers
              simp only at hd
              simp only [setMK, hb, marks_add, hd, List.cons_append, List.nil_append]
          rcases aft_cases (α := Value → WT) (no := fun _ => nope) (an := fun mv => Q .nrm (setMK e mv)) (rt := fun mv => Q .rt (setMK e mv))
            (f := fun i => fun mv => Q (.ex i) (setMK e mv)) (ids := ids) (j := j) with hj | hj
          · rw [hj] at h4
            cases j with
            | nrm => exact ⟨.nrm, _, rfl, hrep, h4⟩
            | ex i => exact wpIn_exit ⟨.ex i, _, rfl, hrep, h4⟩
            | rt => exact wpIn_ret ⟨.rt, _, rfl, hrep, h4⟩
          · rw [hj] at h4; exact h4.elim
    | r l0 =>
      simp only at h
      subst hm
      obtain ⟨L0, hl0, h⟩ := h
      refine wpIn_rangeFunc fun fn _ => ?_
      let L : Loop := { state := .ready, pending := none, fn := fn, tmps := a.tmps, params := ps, assign := as, body := bd, defers := L0.defers }
      have hy := yield_ok (P := P) (n := n) (l := w.heap.size) (L := L) (an := aa) (bn := bb) hr ⟨rfl, rfl, rfl, rfl⟩ (fun Q a e w hr h => iha (.r _) _ aa Q a e w rfl hr h) (fun Q a e w hr h => ihb (.r _) _ bb Q a e w rfl hr h)
      have hc := h w.heap.size L rfl rfl rfl hy
      obtain ⟨g, first, captured, hf, hk, hc⟩ := cvf_enter hc
      refine ⟨w.heap.size, [], { w with heap := w.heap.push (.loop L) }, _, _, g, _, _, ?_, hres _ _ g first captured hf, fun _ _ => trivial, hinv _ _ g first captured hk, fun h => by simp [Fr, Fence.wide] at h, ?_⟩
      · simp [Instr.enterLoop, run_bind, run_getLoop hl0, newObj, Sem.run, run_pure, L, Fr]
      · unfold CF at hc
        rw [arr3] at hc
        refine callsFr (Calls.mono hc fun en w' h' => ?_)
        cases en with
        | panicked c => exact h'.elim
        | outgrown => exact h'.elim
        | returned v =>
          obtain ⟨j, w4, he, h4⟩ := over_run (P := P) h'
          refine ⟨X.code j, w4, he, ?_⟩
          have hrep : Rep (.r l0) { a with defers := [] ++ a.defers } e n := hr
          rcases aft_cases (α := WT) (no := nope) (an := Q .nrm e) (rt := Q .rt e) (f := fun i => Q (.ex i) e) (ids := ids) (j := j) with hj | hj
          · rw [hj] at h4
            cases j with
            | nrm => exact ⟨.nrm, _, rfl, hrep, h4⟩
            | ex i => exact wpIn_exit ⟨.ex i, _, rfl, hrep, h4⟩
            | rt => exact wpIn_ret ⟨.rt, _, rfl, hrep, h4⟩
          · rw [hj] at h4; exact h4.elim
  | _ => intro md ro an Q a e w hm hr h; unfold swp at h; exact h.elim

/-! ### a function -/
def ini (args : List Value) : Env := fun k => args.getD k undef
def ldT (P : Program) (t : TypeId) (a : Value) (K : Value → WT) : WT := match P.info? t with
  | some i => match P.underlying t with
    | some (.struct _) | some (.array _ _) => S.ldN i.size a K
    | some _ => S.ld a K
    | none => nope
  | none => nope
def resW (P : Program) : List ResultVar → Env → (List Value → WT) → WT
  | [], _, K => K []
  | .tmp t :: rs, e, K => resW P rs e fun vs => K (e t :: vs)
  | .cell a t :: rs, e, K => ldT P t (e a) fun v => resW P rs e fun vs => K (v :: vs)
def one (K : Value → WT) : List Value → WT
  | [v] => K v
  | vs => K (.tuple vs.toArray)
def fin (P : Program) (fn : Func) (K : Value → WT) (e : Env) : WT := resW P fn.results.toList (fun k => ev fn.ntmps e (.tmp k)) (one K)
/-- The blocks of deferred calls are taken. -/
def marksN : Value → List Nat
  | .tuple vs => vs.toList.filterMap fun | .int _ r => some r.toNat | _ => none
  | _ => []
def takeAll : List Nat → WT → WT
  | [], W => W
  | r :: rs, W => fun w => w.heap[r]? = some (.deferred (some [])) ∧ takeAll rs W (World.put w r (.deferred none))
def S.done (mv : Value) (W : WT) : WT := takeAll (marksN mv) W
def shal (P : Program) (fn : Func) (md : Md) (an : Ann) (args : List Value) (K : Value → WT) : WT := match fn.body with
  | some c => match Nat.ble args.length fn.ntmps && Nat.ble fn.ntmps MK with
    | true => match md with
      | .p => swp P fn.ntmps c .p an (fun r => match r with | .nrm => fin P fn K | .rt => fin P fn K | .ex _ => fun _ => nope) (ini args)
      | .m => swp P fn.ntmps c .m an (fun r => match r with | .nrm => fun e => S.done (e MK) (fin P fn K e) | .rt => fun e => S.done (e MK) (fin P fn K e) | .ex _ => fun _ => nope) (ini args)
      | .r _ => nope
    | false => nope
  | none => nope

theorem ldT_run {t : TypeId} {a : Value} {K : Value → WT} (h : ldT P t a K w) : ∃ v, (do loadVar t (← asAddr a) : Sem Value).run P w = .ok v w ∧ K v w := by
  unfold ldT at h
  have key : ∀ ad v, (Instr.loadAt t (.pointer (some ad))).run P w = .ok v w → (do loadVar t (← asAddr (.pointer (some ad))) : Sem Value).run P w = .ok v w := fun ad v hv => hv
  cases hi : P.info? t with
  | none => simp only [hi] at h; exact h.elim
  | some i =>
    simp only [hi] at h
    cases hu : P.underlying t with
    | none => simp only [hu] at h; exact h.elim
    | some d =>
      simp only [hu] at h
      have hone : S.ld a K w → isAggD d = false → ∃ v, (do loadVar t (← asAddr a) : Sem Value).run P w = .ok v w ∧ K v w := fun h hd => by
        cases a with
        | pointer a => cases a with
          | none => exact h.elim
          | some ad =>
            simp only [S.ld] at h
            cases hc : w.cell? ad with
            | none => simp only [hc] at h
            | some v => simp only [hc] at h; exact ⟨v, key _ _ (run_load_one (run_isAgg_f hu hd) hc), h⟩
        | _ => exact h.elim
      have hmany : S.ldN i.size a K w → isAggD d = true → ∃ v, (do loadVar t (← asAddr a) : Sem Value).run P w = .ok v w ∧ K v w := fun h hd => by
        cases a with
        | pointer a => cases a with
          | none => exact h.elim
          | some ad =>
            simp only [S.ldN] at h
            cases hc : cellsFrom w ad 0 i.size with
            | none => simp only [hc] at h
            | some v => simp only [hc] at h; exact ⟨_, key _ _ (run_load_agg hi (run_isAgg_t hu hd) hc), h⟩
        | _ => exact h.elim
      cases d <;> first | exact hone h rfl | exact hmany h rfl
def resM (tmps : Array Value) : ResultVar → Sem Value
  | .tmp t => pure (tmps.getD t undef)
  | .cell a t => do loadVar t (← asAddr (tmps.getD a undef))
theorem results_eq (fn : Func) (tmps : Array Value) : results fn tmps = (do
    let vs ← fn.results.mapM (resM tmps)
    pure (if h : vs.size = 1 then vs[0] else .tuple vs)) := by
  unfold results
  have : (fun x => match x with | .tmp t => pure (tmps.getD t undef) | .cell a t => do loadVar t (← asAddr (tmps.getD a undef)) : ResultVar → Sem Value) = resM tmps := by
    funext x; cases x <;> rfl
  exact congrArg (fun f => (do let vs ← fn.results.mapM f; pure (if h : vs.size = 1 then vs[0] else .tuple vs) : Sem Value)) this
theorem resW_run {tmps : Array Value} (he : ∀ k, tmps.getD k undef = e k) : ∀ (rs : List ResultVar) (K : List Value → WT), resW P rs e K w → ∃ vs,
    (rs.mapM (resM tmps)).run P w = .ok vs w ∧ K vs w
  | [], K, h => ⟨[], rfl, h⟩
  | .tmp t :: rs, K, h => by
    obtain ⟨vs, hr, hk⟩ := resW_run he rs _ h
    refine ⟨e t :: vs, ?_, hk⟩
    rw [List.mapM_cons, run_bind]
    simp only [resM, run_pure, he]
    rw [run_bind, hr]; rfl
  | .cell a t :: rs, K, h => by
    obtain ⟨v, hv, h⟩ := ldT_run h
    obtain ⟨vs, hr, hk⟩ := resW_run he rs _ h
    refine ⟨v :: vs, ?_, hk⟩
    rw [List.mapM_cons, run_bind]
    simp only [resM, he]
    rw [hv]
    simp only
    rw [run_bind, hr]; rfl
theorem fin_run {fn : Func} {K : Value → WT} {tmps : Array Value} (he : ∀ k, tmps.getD k undef = ev fn.ntmps e (.tmp k)) (h : fin P fn K e w) : ∃ v, (results fn tmps).run P w = .ok v w ∧ K v w := by
  obtain ⟨vs, hr, hk⟩ := resW_run he _ _ h
  refine ⟨(if h : vs.toArray.size = 1 then vs.toArray[0] else .tuple vs.toArray), ?_, ?_⟩
  · rw [results_eq, run_bind, Array.mapM_eq_mapM_toList]
    have : (List.toArray <$> List.mapM (resM tmps) fn.results.toList : Sem (Array Value)).run P w = .ok vs.toArray w := by
      rw [← bind_pure_comp, run_bind, hr]; rfl
    rw [this]
    rfl
  · match vs, hk with
    | [v], hk => exact hk
    | [], hk => exact hk
    | a :: b :: l, hk => simpa [one] using hk

theorem leaves_all {fn : Func} {tmps : Array Value} {R : Ending → World → Prop} : ∀ (rs : List Nat) (W : WT) (w : World), takeAll rs W w → (∀ w, W w → LeavesIn Fence.wide 0 P fn tmps R [] .returning w) →
    LeavesInM Fence.wide 0 P fn tmps R (rs.map fun r => { target := .collected r, args := #[] }) .returning w
  | [], W, w, h, hw => hw w h
  | r :: rs, W, w, h, hw => by
    refine ⟨by simp, .inl ⟨r, _, rfl, ?_, leaves_all rs W _ h.2 hw⟩⟩
    unfold Instr.takeDeferred
    rw [run_bind, run_getObj' h.1 (by simp)]
    simp only
    rw [run_bind]
    have : (setObj r (.deferred none)).run P w = .ok () (World.put w r (.deferred none)) := by
      unfold setObj Sem.run; simp only [h.1]; rfl
    rw [this]; rfl
theorem marks_eq (v : Value) : marksOf v = (marksN v).map fun r => { target := .collected r, args := #[] } := by
  cases v <;> simp [marksOf, marksN]
  rename_i vs
  induction vs.toList with
  | nil => rfl
  | cons x l ih => cases x <;> simp [List.filterMap_cons, ih]

/-- THE SHALLOW FORM OF A FUNCTION IS SOUND. -/
theorem shal_sound {f : FuncId} {fn : Func} {md : Md} {an : Ann} {args : List Value} {K : Value → WT} (hf : P.funcs[f]? = some fn) (h : shal P fn md an args K w) : CF P f args K w := by
  unfold shal at h
  cases hb : fn.body with
  | none => simp only [hb] at h; exact h.elim
  | some c =>
    simp only [hb] at h
    cases hn : Nat.ble args.length fn.ntmps && Nat.ble fn.ntmps MK with
    | false => simp only [hn] at h; exact h.elim
    | true =>
      simp only [hn] at h
      simp only [Bool.and_eq_true] at hn
      have hle := Nat.le_of_ble_eq_true hn.1
      have hlt := Nat.le_of_ble_eq_true hn.2
      have hini : ∀ k, k < fn.ntmps → (args.toArray ++ Array.replicate (fn.ntmps - args.toArray.size) undef).getD k undef = ini args k := by
        intro k _
        simp only [ini, Array.getD_eq_getD_getElem?, List.getD_eq_getElem?_getD]
        by_cases hk : k < args.length
        · simp [Array.getElem?_append, hk]
        · have : args[k]? = none := by simp; omega
          rw [this, Array.getElem?_append]
          simp [hk, Array.getElem?_replicate]
          split <;> rfl
      have hMK : ini args MK = undef := by
        have : args[MK]? = none := by
          rw [List.getElem?_eq_none_iff]; exact Nat.le_trans hle hlt
        simp only [ini, List.getD_eq_getElem?_getD, this]; rfl
      unfold CF
      cases md with
      | r l => exact h.elim
      | p =>
        refine (callsIn_wide (n := 0)).1 (callsIn_of_wp hf hb trivial (wpIn_mono (swp_sound c .p none an _ _ _ w rfl ⟨by simp; omega, hini, rfl, hlt⟩ h) ?_))
        rintro ex a' w' ⟨r, e', hx, hr', h'⟩
        cases ex <;> simp only [X.of, Option.some.injEq] at hx <;> try (cases hx; done)
        all_goals subst hx
        · obtain ⟨v, h1, h2⟩ := fin_run (fun k => hr'.evt k) h'
          exact ⟨hr'.defers, v, h1, h2⟩
        · exact h'.elim
        · obtain ⟨v, h1, h2⟩ := fin_run (fun k => hr'.evt k) h'
          exact ⟨hr'.defers, v, h1, h2⟩
      | m =>
        refine (callsIn_wide (n := 0)).1 (callsIn_of_wp_marks hf hb trivial (wpIn_mono (swp_sound c .m none an _ _ _ w rfl ⟨by simp; omega, hini, by simp [hMK, marksOf, undef], hlt⟩ h) ?_))
        have hgo : ∀ (a' : Act) (e' : Env) (w' : World), Rep .m a' e' fn.ntmps → S.done (e' MK) (fin P fn K e') w' →
            LeavesInM Fence.wide 0 P fn a'.tmps (fun | .returned v, w' => K v w' | _, _ => False) a'.defers .returning w' := by
          intro a' e' w' hr' h'
          have hd := hr'.defers
          simp only at hd
          rw [hd, marks_eq]
          refine leaves_all _ _ _ h' fun w h => ?_
          obtain ⟨v, h1, h2⟩ := fin_run (fun k => hr'.evt k) h
          exact ⟨v, h1, h2⟩
        rintro ex a' w' ⟨r, e', hx, hr', h'⟩
        cases ex <;> simp only [X.of, Option.some.injEq] at hx <;> try (cases hx; done)
        all_goals subst hx
        · exact hgo a' e' w' hr' h'
        · exact h'.elim
        · exact hgo a' e' w' hr' h'
end Go.SL
