/-
  A region whose order is drawn: its shallow form, in one order, is sound for all orders.
-/
import Derived.Test.YtfholicobkpilaaSlFlt
import Derived.Laws.Sem
set_option linter.unusedSimpArgs false
set_option linter.unusedVariables false
set_option linter.unusedSectionVars false
namespace Go.SL
open Go.RowKit
variable {P : Program} {e : Env} {w : World}

theorem flt_run {n : Nat} {o : Oper} (hf : isFlt P o = true) {v : Value} (h : opK P (ev n e) o (fun v' w' => v' = v ∧ w' = w) w) : (execOp (ev n e) o).run P w = .ok (.value v) w := by
  have hg := opK_sound (ev_func n e) h
  have hv := flt_valuey hf (ev n e) w
  unfold Gives at hg
  cases hr : (execOp (ev n e) o).run P w with
  | halt x w' => simp [hr] at hg
  | ok n w' =>
    simp only [hr] at hg hv
    cases n <;> simp only at hg hv
    obtain ⟨rfl, rfl⟩ := hg
    rfl

def wpOpX (P : Program) (ops : Array Oper) (i : Nat) (K : Act → World → Prop) (a : Act) (w : World) : Prop := match ops[i]? with
  | none => K a w
  | some o => if Region.wanted o (yielded ops a.tmps) then Gives P (execOp a.eval o) (fun v => K (a.put o.dst v)) w else K (a.put o.dst undef) w
theorem wpOpX_mono {ops : Array Oper} {i : Nat} {a : Act} {K K' : Act → World → Prop} (h : ∀ a w, K a w → K' a w) (hx : wpOpX P ops i K a w) : wpOpX P ops i K' a w := by
  unfold wpOpX at *
  split at hx
  · exact h _ _ hx
  · split at hx
    · rename_i hw; rw [if_pos hw]; exact gives_mono hx fun v w => h _ _
    · rename_i hw; rw [if_neg hw]; exact h _ _ hx
theorem gives_notDefer {ρ : Operand → Value} {o : Oper} {K : Value → WT} (h : Gives P (execOp ρ o) K w) : notDefer o := fun c hc => by
  unfold execOp at h
  simp only [hc] at h
  unfold Gives at h
  rw [run_bind] at h
  cases hr : (resolve ρ c o.type).run P w <;> simp [hr, run_pure] at h
/-- The facts on what was taken ahead hold behind each operation that need not wait for it. -/
def wpAnyP (P : Program) (ops : Array Oper) (Qn : Act → World → Prop) : Nat → List (Nat × WT) → Array Bool → Act → World → Prop
  | 0, _, listed, a, w => Region.ready .any ops listed = [] ∧ Qn a w
  | fuel + 1, p, listed, a, w =>
    (Region.ready .any ops listed = [] → Qn a w) ∧
    ∀ i ∈ Region.ready .any ops listed, wpOpX P ops i (fun a' w' => (∀ x ∈ p.filter (fun x => !exempt ops i x.1), x.2 w') ∧
      wpAnyP P ops Qn fuel (p.filter fun x => !exempt ops i x.1) (listed.setIfInBounds i true) a' w') a w
theorem wpAny_of_P {r : Option Nat} {ops : Array Oper} {Q : Exit → Act → World → Prop} : ∀ (fuel : Nat) (p : List (Nat × WT)) (listed : Array Bool) (a : Act) (w : World),
    wpAnyP P ops (Q .normal) fuel p listed a w → wpAnyIn (Fr r) 0 P .any ops Q fuel listed a w
  | 0, _, _, _, _, h => h
  | fuel + 1, p, listed, a, w, h => ⟨h.1, fun i hi => by
    have hx := h.2 i hi
    unfold wpOpX at hx
    unfold wpOpIn
    cases ho : ops[i]? with
    | none => simp only [ho] at hx ⊢; exact wpAny_of_P fuel _ _ _ _ hx.2
    | some o =>
      simp only [ho] at hx ⊢
      split at hx
      · rename_i hw
        rw [if_pos hw]
        exact wpIn_of_gives (gives_notDefer hx) hx fun v w h => wpAny_of_P fuel _ _ _ _ h.2
      · rename_i hw
        rw [if_neg hw]
        exact ⟨fun _ _ => trivial, wpAny_of_P fuel _ _ _ _ hx.2⟩⟩

theorem yields_wpOpX {ops : Array Oper} {S : WT} {i : Nat} {o : Oper} {v : Value} {a : Act} (hi : ops[i]? = some o) (hy : YieldsIf P ops S o v a) {K : Act → World → Prop} (hS : S w) (h : K (a.put o.dst v) w) :
    wpOpX P ops i K a w := by
  unfold wpOpX
  simp only [hi]
  rcases hy with ⟨hw, hv⟩ | ⟨hw, rfl⟩
  · rw [if_pos hw]; unfold Gives; rw [hv w hS]; exact h
  · rw [if_neg (by simp [hw])]; exact h
theorem wpOpX_put {ops : Array Oper} {S : WT} {j : Nat} {oi oj : Oper} {v : Value} (hj : ops[j]? = some oj) (hap : oi.apart ops oj = true)
    (hsi : ∀ cs b, oi.op ≠ .select cs b) (hsj : ∀ cs b, oj.op ≠ .select cs b) {K : Act → World → Prop} {a : Act}
    (hy : YieldsIf P ops S oi v a) (h : wpOpX P ops j K (a.put oi.dst v) w) :
    wpOpX P ops j (fun a' w' => YieldsIf P ops S oi v a' ∧ K (a'.put oi.dst v) w') a w := by
  obtain ⟨h1, h2, h3⟩ := Oper.apart_spec hap
  have keep : ∀ u, YieldsIf P ops S oi v (a.put oj.dst u) := fun u =>
    hy.of_same (execOp_put oi hsi a oj.dst u h3) (wanted_put oi a oj.dst u h3)
  unfold wpOpX at *
  simp only [hj] at *
  rw [wanted_put oj a oi.dst v h1, execOp_put oj hsj a oi.dst v h1] at h
  split at h
  · rename_i hw
    rw [if_pos hw]
    exact gives_mono h fun u w h => ⟨keep u, by rw [← Act.put_comm a v u h2]; exact h⟩
  · rename_i hw
    rw [if_neg hw]
    exact ⟨keep _, by rw [← Act.put_comm a v undef h2]; exact h⟩

def Closed (ops : Array Oper) (listed : Array Bool) : Prop := ∀ j oj, ops[j]? = some oj → listed.getD j false = true → ∀ ed ∈ oj.after, Region.binds .any ed = true → listed.getD ed.on false = true
theorem closed_start (ops : Array Oper) (n : Nat) : Closed ops (Array.replicate n false) := fun j oj _ h => by
  rcases Nat.lt_or_ge j n with h' | h'
  · simp [h'] at h
  · simp [h'] at h
theorem getD_set_true {listed : Array Bool} {i k : Nat} (h : listed.getD k false = true) : (listed.setIfInBounds i true).getD k false = true := by
  rcases Nat.lt_or_ge k listed.size with h' | h'
  · simp only [Array.getD_eq_getD_getElem?, Array.getElem?_setIfInBounds] at h ⊢
    by_cases hi : i = k
    · subst hi; simp [h']
    · simp only [hi, if_false]; exact h
  · simp [h'] at h
theorem Closed.step {ops : Array Oper} {listed : Array Bool} {i : Nat} (hc : Closed ops listed) (hi : i ∈ Region.ready .any ops listed) : Closed ops (listed.setIfInBounds i true) := fun k ok hk hl ed hed hb => by
  by_cases hki : i = k
  · subst hki
    obtain ⟨_, o, ho, hall⟩ := mem_ready.1 hi
    rw [ho] at hk; cases hk
    exact getD_set_true (hall ed hed hb)
  · refine getD_set_true (hc k ok hk ?_ ed hed hb)
    rw [getD_set_ne false hki] at hl
    exact hl
theorem exemptN_listed {ops : Array Oper} {listed : Array Bool} {i : Nat} (hc : Closed ops listed) : ∀ (f j : Nat), (∀ o, ops[j]? = some o → ∀ ed ∈ o.after, Region.binds .any ed = true → listed.getD ed.on false = true) → exemptN ops f j i = true → listed.getD i false = true
  | 0, j, _, h => by cases h
  | f + 1, j, hj, h => by
    unfold exemptN at h
    rw [toList_get] at h
    cases ho : ops[j]? with
    | none => simp [ho] at h
    | some o =>
      simp only [ho, List.any_eq_true, Bool.and_eq_true, Bool.or_eq_true] at h
      obtain ⟨ed, hed, hb, h⟩ := h
      have hl := hj o ho ed (by simpa using hed) hb
      rcases h with h | h
      · rw [← Nat.eq_of_beq_eq_true h]; exact hl
      · exact exemptN_listed hc f ed.on (fun o' ho' => hc ed.on o' ho' hl) h
theorem exempt_ready {ops : Array Oper} {listed : Array Bool} {i j : Nat} (hc : Closed ops listed) (hj : j ∈ Region.ready .any ops listed) (hi : i ∈ Region.ready .any ops listed) : exempt ops j i = false := by
  obtain ⟨_, oj, hoj, hall⟩ := mem_ready.1 hj
  have hi0 := (mem_ready.1 hi).1
  rw [← Bool.not_eq_true]
  intro h
  have h1 := exemptN_listed hc 10 j (fun o ho => by rw [hoj] at ho; cases ho; exact hall) h
  rcases Nat.lt_or_ge i listed.size with h' | h'
  · simp [h'] at h1 hi0; rw [hi0] at h1; cases h1
  · simp [Array.getElem?_eq_none h'] at h1

theorem weakP {ops : Array Oper} {Q : Act → World → Prop} : ∀ (fuel : Nat) (p p' : List (Nat × WT)) (listed : Array Bool) (a : Act) (w : World), (∀ x ∈ p', x ∈ p ∨ ∀ w, x.2 w) → wpAnyP P ops Q fuel p listed a w → wpAnyP P ops Q fuel p' listed a w := by
  intro fuel
  induction fuel with
  | zero => exact fun p p' listed a w _ h => h
  | succ fuel ih =>
    intro p p' listed a w hs h
    refine ⟨h.1, fun j hj => wpOpX_mono (fun a' w' h' => ⟨fun x hx => ?_, ih _ _ _ _ _ (fun x hx => ?_) h'.2⟩) (h.2 j hj)⟩
    · simp only [List.mem_filter] at hx
      rcases hs x hx.1 with h1 | h1
      · exact h'.1 x (List.mem_filter.2 ⟨h1, hx.2⟩)
      · exact h1 w'
    · simp only [List.mem_filter] at hx
      rcases hs x hx.1 with h1 | h1
      · exact .inl (List.mem_filter.2 ⟨h1, hx.2⟩)
      · exact .inr h1
theorem takeP {ops : Array Oper} {Q : Act → World → Prop} {S : WT} {i : Nat} {oi : Oper} {v : Value} (hi : ops[i]? = some oi) (hsel : ∀ (j : Nat) (o : Oper) cs b, ops[j]? = some o → o.op ≠ .select cs b)
    :
    ∀ (fuel : Nat) (p : List (Nat × WT)) (listed : Array Bool) (a : Act) (w : World), Closed ops listed →
      (∀ j oj, ops[j]? = some oj → j ≠ i → listed.getD j true = false → (∀ e ∈ oj.after, Region.binds .any e = true → e.on ≠ i) → oi.apart ops oj = true) →
      i ∈ Region.ready .any ops listed → YieldsIf P ops S oi v a → S w → (∀ x ∈ p, x.2 w) →
      wpAnyP P ops Q fuel ((i, S) :: p) (listed.setIfInBounds i true) (a.put oi.dst v) w → wpAnyP P ops Q (fuel + 1) p listed a w := by
  intro fuel
  induction fuel with
  | zero =>
    intro p listed a w hcl _ hr hy hS hp H
    refine ⟨fun h => (by rw [h] at hr; cases hr), fun j hj => ?_⟩
    by_cases hji : j = i
    · subst hji
      exact yields_wpOpX hi hy hS ⟨fun x hx => hp x (List.mem_filter.1 hx).1, H⟩
    · have := ready_mono hj hji
      rw [H.1] at this
      cases this
  | succ fuel ih =>
    intro p listed a w hcl hfree hr hy hS hp H
    refine ⟨fun h => (by rw [h] at hr; cases hr), fun j hj => ?_⟩
    by_cases hji : j = i
    · subst hji
      exact yields_wpOpX hi hy hS ⟨fun x hx => hp x (List.mem_filter.1 hx).1, weakP _ _ _ _ _ _ (fun x hx => .inl (List.mem_cons_of_mem _ (List.mem_filter.1 hx).1)) H⟩
    · have h1 := H.2 j (ready_mono hj hji)
      have hex := exempt_ready hcl hj hr
      obtain ⟨hjun, oj, hoj, hall⟩ := mem_ready.1 hj
      have hnot : ∀ e ∈ oj.after, Region.binds .any e = true → e.on ≠ i := fun e he hb heq => by
        have h1 := hall e he hb
        have h0 := (mem_ready.1 hr).1
        rw [heq] at h1
        rcases Nat.lt_or_ge i listed.size with h' | h'
        · simp [h'] at h0 h1; rw [h0] at h1; cases h1
        · simp [Array.getElem?_eq_none h'] at h1
      have h2 := wpOpX_put hoj (hfree j oj hoj hji hjun hnot) (fun cs b => hsel i oi cs b hi) (fun cs b => hsel j oj cs b hoj) hy h1
      have hfree' : ∀ k ok, ops[k]? = some ok → k ≠ i → (listed.setIfInBounds j true).getD k true = false →
          (∀ e ∈ ok.after, Region.binds .any e = true → e.on ≠ i) → oi.apart ops ok = true := fun k ok hk hki hun hno => by
        refine hfree k ok hk hki ?_ hno
        by_cases hjk : j = k
        · subst hjk; exact hjun
        · rw [getD_set_ne true hjk] at hun; exact hun
      have hfil : ((i, S) :: p).filter (fun x => !exempt ops j x.1) = (i, S) :: p.filter (fun x => !exempt ops j x.1) := by
        simp [List.filter_cons, hex]
      refine wpOpX_mono (fun a' w' h3 => ?_) h2
      rw [hfil] at h3
      obtain ⟨hy', hf', h3⟩ := h3
      refine ⟨fun x hx => hf' x (List.mem_cons_of_mem _ hx), ih _ (listed.setIfInBounds j true) a' w' (hcl.step hj) hfree' (ready_mono hr (Ne.symm hji)) hy' (hf' (i, S) (List.mem_cons_self ..)) (fun x hx => hf' x (List.mem_cons_of_mem _ hx)) ?_⟩
      rw [Array.setIfInBounds_comm _ _ hji]
      exact h3

theorem wpOp_of_gives {ops : Array Oper} {i : Nat} {o : Oper} {md : Md} {a : Act} {n : Nat} {K : Value → WT} {next : Act → World → Prop} (ho : ops[i]? = some o) (hr : Rep md a e n)
    (h : grd n ops e o (opK P (ev n e) o) K w) (hk : ∀ v w, K v w → next (a.put o.dst v) w) : wpOpX P ops i next a w := by
  unfold wpOpX
  simp only [ho]
  rcases grd_cases hr h with ⟨hw, h⟩ | ⟨hw, h⟩
  · rw [if_pos hw, hr.eval]
    exact gives_mono (opK_sound (ev_func n e) h) hk
  · rw [if_neg (by simp [hw])]
    exact hk _ _ h

theorem grd_intro {ops : Array Oper} {md : Md} {a : Act} {n : Nat} {o : Oper} (hr : Rep md a e n) {body : (Value → WT) → WT} {rest : Value → WT}
    (hw : Region.wanted o (yielded ops a.tmps) = true) (h : body rest w) : grd n ops e o body rest w := by
  unfold grd
  cases hg : o.guard with
  | none => exact h
  | some jb =>
    obtain ⟨j, b⟩ := jb
    rw [wanted_eq hr j b hg] at hw
    simp only [toList_get]
    cases hj : ops[j]? with
    | none => simp [hj] at hw
    | some oj =>
      cases hd : oj.dst with
      | none => simp [hj, hd] at hw
      | some t =>
        simp only [hj, hd, Option.bind_some] at hw ⊢
        generalize ev n e (.tmp t) = v at hw ⊢
        cases v <;> simp only at hw <;> try (cases hw; done)
        rename_i x
        cases x <;> cases b <;> first | exact h | (cases hw; done)
theorem grd_intro' {ops : Array Oper} {md : Md} {a : Act} {n : Nat} {o : Oper} (hr : Rep md a e n) {body : (Value → WT) → WT} {rest : Value → WT}
    (hw : Region.wanted o (yielded ops a.tmps) = false) (h : rest undef w) : grd n ops e o body rest w := by
  unfold grd
  cases hg : o.guard with
  | none => unfold Region.wanted at hw; simp [hg] at hw
  | some jb =>
    obtain ⟨j, b⟩ := jb
    rw [wanted_eq hr j b hg] at hw
    simp only [toList_get]
    cases hj : ops[j]? with
    | none => exact h
    | some oj =>
      cases hd : oj.dst with
      | none => simp only [hd]; exact h
      | some t =>
        simp only [hj, hd, Option.bind_some] at hw ⊢
        generalize ev n e (.tmp t) = v at hw ⊢
        cases v <;> first
          | exact h
          | (rename_i x; cases x <;> cases b <;> first | exact h | (cases hw; done))

theorem rcks_split {fs : List WT} {W : WT} (h : rcks fs W w) : (∀ f ∈ fs, f w) ∧ W w := by
  cases fs with
  | nil => exact ⟨by simp, h⟩
  | cons f fs => exact h

theorem drawW_sound {n : Nat} {ops : Array Oper} {K : Env → WT} {md : Md} {Q : Act → World → Prop}
    (hsel : ∀ (j : Nat) (o : Oper) cs b, ops[j]? = some o → o.op ≠ .select cs b)
    (hK : ∀ a e w, Rep md a e n → K e w → Q a w) : ∀ (order : List Nat) (listed : Array Bool) (p : List (Nat × WT)) (a : Act) (e : Env) (w : World), Closed ops listed → Rep md a e n →
      drawOk P ops order listed = true → (∀ x ∈ p, x.2 w) → drawW P n ops order p K e w → wpAnyP P ops Q order.length p listed a w
  | [], listed, p, a, e, w, hcl, hr, hok, hp, h => ⟨by simpa [drawOk] using hok, hK a e w hr h⟩
  | i :: rest, listed, p, a, e, w, hcl, hr, hok, hp, h => by
    unfold drawW at h
    unfold drawOk at hok
    rw [toList_get] at h hok
    cases ho : ops[i]? with
    | none => simp [ho] at hok
    | some o =>
      simp only [ho, Bool.and_eq_true] at h hok
      obtain ⟨hmode, hok⟩ := hok
      cases hf : isFlt P o with
      | true =>
        simp only [hf] at h hmode
        simp only [Bool.and_eq_true] at hmode
        have hrdy : i ∈ Region.ready .any ops listed := by simpa using hmode.2
        have hfree := Region.free_spec ho hmode.1
        rcases grd_cases hr h with ⟨hw, h⟩ | ⟨hw, h⟩
        · obtain ⟨v, hv, hloc⟩ := (flt_both (ρ := ev n e) hf).1 _ _ h
          have hrun := flt_run hf (hloc _ ⟨rfl, rfl⟩)
          cases hrd : isRd P o with
          | false =>
            simp only [hrd] at hv
            obtain ⟨v', hv', hpure⟩ := (flt_both (ρ := ev n e) hf).2 hrd _ _ h
            simp only [hrd] at hv'
            have hy : YieldsIf P ops (fun _ => True) o v' a := .inl ⟨hw, fun w' _ => by rw [hr.eval]; exact flt_run hf (hpure _ w' ⟨rfl, rfl⟩)⟩
            refine takeP ho hsel rest.length p listed a w hcl hfree hrdy hy trivial hp ?_
            have := drawW_sound hsel hK rest (listed.setIfInBounds i true) p (a.put o.dst v') _ w (hcl.step hrdy) (hr.put _ _) hok hp hv'
            exact weakP _ _ _ _ _ _ (fun x hx => by
              rcases List.mem_cons.1 hx with rfl | hx
              · exact .inr fun _ => trivial
              · exact .inl hx) this
          | true =>
            simp only [hrd] at hv
            have hfact : grd n ops e o (opK P (ev n e) o) (fun v' _ => v' = v) w := grd_intro hr hw (hloc _ rfl)
            have hy : YieldsIf P ops (grd n ops e o (opK P (ev n e) o) (fun v' _ => v' = v)) o v a := .inl ⟨hw, fun w' hw' => by
              rw [hr.eval]
              rcases grd_cases hr hw' with ⟨_, h⟩ | ⟨hn, _⟩
              · obtain ⟨v', rfl, hl⟩ := (flt_both (ρ := ev n e) hf).1 _ _ h
                exact flt_run hf (hl _ ⟨rfl, rfl⟩)
              · rw [hw] at hn; cases hn⟩
            refine takeP ho hsel rest.length p listed a w hcl hfree hrdy hy hfact hp ?_
            exact drawW_sound hsel hK rest (listed.setIfInBounds i true) _ (a.put o.dst v) _ w (hcl.step hrdy) (hr.put _ _) hok (by
              intro x hx
              rcases List.mem_cons.1 hx with rfl | hx
              · exact hfact
              · exact hp x hx) hv
        · have hy : YieldsIf P ops (fun _ => True) o undef a := .inr ⟨hw, rfl⟩
          refine takeP ho hsel rest.length p listed a w hcl hfree hrdy hy trivial hp ?_
          cases hrd : isRd P o with
          | false =>
            simp only [hrd] at h
            exact weakP _ _ _ _ _ _ (fun x hx => by
              rcases List.mem_cons.1 hx with rfl | hx
              · exact .inr fun _ => trivial
              · exact .inl hx) (drawW_sound hsel hK rest (listed.setIfInBounds i true) p (a.put o.dst undef) _ w (hcl.step hrdy) (hr.put _ _) hok hp h)
          | true =>
            simp only [hrd] at h
            have hfact : grd n ops e o (opK P (ev n e) o) (fun v' _ => v' = undef) w := grd_intro' hr hw rfl
            exact weakP _ _ _ _ _ _ (fun x hx => by
              rcases List.mem_cons.1 hx with rfl | hx
              · exact .inr fun _ => trivial
              · exact .inl (List.mem_cons_of_mem _ hx)) (drawW_sound hsel hK rest (listed.setIfInBounds i true) _ (a.put o.dst undef) _ w (hcl.step hrdy) (hr.put _ _) hok (by
              intro x hx
              rcases List.mem_cons.1 hx with rfl | hx
              · exact hfact
              · exact hp x hx) h)
      | false =>
        simp only [hf] at h hmode
        have hrdy : Region.ready .any ops listed = [i] := by simpa using hmode
        refine ⟨fun h => (by rw [h] at hrdy; cases hrdy), fun j hj => ?_⟩
        rw [hrdy] at hj
        simp only [List.mem_singleton] at hj
        subst hj
        refine wpOp_of_gives ho hr h fun v w h => ?_
        obtain ⟨h1, h2⟩ := rcks_split h
        have h1' : ∀ x ∈ p.filter (fun x => !exempt ops j x.1), x.2 w := fun x hx => h1 _ (List.mem_map.2 ⟨x, hx, rfl⟩)
        exact ⟨h1', drawW_sound hsel hK rest _ _ _ _ w (hcl.step (by rw [hrdy]; exact List.mem_singleton_self _)) (hr.put _ _) hok h1' h2⟩

end Go.SL
