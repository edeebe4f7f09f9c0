/-
  Model: what a snapshot shows stays (plain).
-/
import Derived.Test.YtabpaknfenpkoaaGreatLwI
set_option linter.unusedSimpArgs false
set_option linter.unusedVariables false
set_option linter.unusedSectionVars false
namespace Go.Proofs.YtabpaknfenpkoaaGreat.Mod
open Go Go.SL Go.Proofs Go.Proofs.YtabpaknfenpkoaaGreat.Sh
variable {M M' M'' : Mo} {o : Od} {sp : Bool} {n m : Int} {name shot : List UInt8}
/-- What M' has still of M's snapshots. -/
structure Keeps (M M' : Mo) : Prop where
  len : M.S.length ≤ M'.S.length
  is : ∀ k t, sof M.S k = some t → sof M'.S k = some t
  no : ∀ k, nameOk k = false ∨ M.S.length = 16 → sof M.S k = none → sof M'.S k = none
  v : ∀ s ∈ M.S, ∀ p ∈ s.held, ∀ v ∈ M.V, v.name = p.1 → v.gen = p.2 → ∃ u ∈ M'.V, u.name = v.name ∧ u.gen = v.gen ∧ u.text = v.text
theorem keeps_vs (hV : M'.V = M.V) (hS : M'.S = M.S) : Keeps M M' where
  len := by rw [hS]; exact Nat.le_refl _
  is := fun k t h => by rw [hS]; exact h
  no := fun k _ h => by rw [hS]; exact h
  v := fun s _ p _ v hv _ _ => ⟨v, by rw [hV]; exact hv, rfl, rfl, rfl⟩
theorem Keeps.trans (h0 : Wf M) (h : Inv n M') (h1 : Keeps M M') (h2 : Keeps M' M'') : Keeps M M'' where
  len := Nat.le_trans h1.len h2.len
  is := fun k t hk => h2.is k t (h1.is k t hk)
  no := fun k hk hn => h2.no k (hk.imp id fun e => by have := h1.len; have := h.s16; omega) (h1.no k hk hn)
  v := fun s hs p hp v hv e1 e2 => by
    obtain ⟨u, hu, a1, a2, a3⟩ := h1.v s hs p hp v hv e1 e2
    have ht := h1.is _ _ (sof_of h0.ss hs)
    obtain ⟨w, hw, b1, b2, b3⟩ := h2.v s (sof_some ht).1 p hp u hu (a1.trans e1) (a2.trans e2)
    exact ⟨w, hw, b1.trans a1, b2.trans a2, b3.trans a3⟩
theorem keeps_map (h : Wf M) {f : Ver → Ver} (hf : ∀ v, (f v).name = v.name ∧ (f v).gen = v.gen ∧ (f v).text = v.text ∧ (f v).time = v.time) : Keeps M { M with V := sweepV M.S (M.V.map f) } where
  len := Nat.le_refl _
  is := fun k t h => h
  no := fun k _ h => h
  v := fun s hs p hp v hv e1 e2 => by
    refine ⟨f v, List.mem_filter.2 ⟨List.mem_map_of_mem hv, ?_⟩, (hf v).1, (hf v).2.1, (hf v).2.2.1⟩
    unfold keepP
    rw [(hf v).1, (hf v).2.1, e1, e2, (heldB_iff h).2 ⟨s, hs, hp⟩, Bool.true_or]
theorem keeps_commit : Keeps M (commitM M o sp).2 := by
  unfold commitM
  split
  · exact keeps_vs rfl rfl
  split
  · exact keeps_vs rfl rfl
  split
  · exact keeps_vs rfl rfl
  exact ⟨Nat.le_refl _, fun k t h => h, fun k _ h => h, fun s _ p _ v hv _ _ => ⟨v, insV_mem.2 (.inr hv), rfl, rfl, rfl⟩⟩
theorem insS_len (S : List Sn) (s : Sn) : (insS S s).length = S.length + 1 := by
  have e : S.takeWhile (fun u => decide (u.name < s.name)) ++ S.dropWhile (fun u => decide (u.name < s.name)) = S := List.takeWhile_append_dropWhile ..
  have := congrArg List.length e
  unfold insS
  rw [List.length_append] at this ⊢
  simp only [List.length_cons]; omega
theorem keeps_snap : Keeps M (snapM M o sp).2 := by
  unfold snapM
  split
  · exact keeps_vs rfl rfl
  split
  · exact keeps_vs rfl rfl
  split
  · exact keeps_vs rfl rfl
  split
  · exact keeps_vs rfl rfl
  rename_i h1 h2 h3 _
  have hnone : sof M.S o.shot = none := by
    cases hs : sof M.S o.shot with
    | none => rfl
    | some s => rw [hs] at h2; simp at h2
  refine ⟨?_, fun k t h => ?_, fun k hk h => ?_, fun s _ p _ v hv _ _ => ⟨v, hv, rfl, rfl, rfl⟩⟩
  · simp only [insS_len]; omega
  · show sof (insS M.S _) k = _
    rw [sof_insS hnone, if_neg, h]
    intro e
    rw [e] at h
    rw [hnone] at h; cases h
  · show sof (insS M.S _) k = _
    rw [sof_insS hnone, if_neg, h]
    rintro rfl
    rcases hk with hk | hk
    · exact h1 hk
    · exact h3 hk
theorem keeps_step (h : Inv n M) (hd : o.d ≠ 12) : Keeps M (stepM M o sp).2 := by
  have vs : ∀ {M' : Mo}, M'.V = M.V → M'.S = M.S → Keeps M M' := keeps_vs
  unfold stepM
  by_cases h0 : o.d = 1
  · rw [if_pos h0]; unfold beginM; repeat' split
    all_goals exact vs rfl rfl
  rw [if_neg h0]
  by_cases h0 : o.d = 2
  · rw [if_pos h0]; unfold writeM; repeat' split
    all_goals exact vs rfl rfl
  rw [if_neg h0]
  by_cases h0 : o.d = 3
  · rw [if_pos h0]; exact keeps_commit
  rw [if_neg h0]
  by_cases h0 : o.d = 4
  · rw [if_pos h0]; unfold abortM; split
    all_goals exact vs rfl rfl
  rw [if_neg h0]
  by_cases h0 : o.d = 5 ∨ o.d = 6 ∨ o.d = 7 ∨ o.d = 8 ∨ o.d = 9
  · rw [if_pos h0]; exact vs rfl rfl
  rw [if_neg h0]
  by_cases h0 : o.d = 10
  · rw [if_pos h0]; unfold removeM; split
    · exact vs rfl rfl
    · exact keeps_map h.w (mark_f4 _ _)
  rw [if_neg h0]
  by_cases h0 : o.d = 11
  · rw [if_pos h0]; exact keeps_snap
  rw [if_neg h0, if_neg hd]
  by_cases h0 : o.d = 13
  · rw [if_pos h0]; unfold tickM; split
    all_goals exact vs rfl rfl
  rw [if_neg h0]
  by_cases h0 : o.d = 14
  · rw [if_pos h0]; unfold expireM; split
    · exact vs rfl rfl
    · exact keeps_map h.w (goF4 M o)
  rw [if_neg h0]
  by_cases h0 : o.d = 15
  · rw [if_pos h0]; exact vs rfl rfl
  rw [if_neg h0]
  split
  all_goals exact vs rfl rfl
theorem find_gen (h : Wf M) {v : Ver} (hv : v ∈ M.V) {k : List UInt8} {g : Int} (hk : v.name = k) (hg : v.gen = g) : (fof M.V k).find? (fun w => decide (w.gen = g)) = some v := by
  subst hk hg
  cases hf : (fof M.V v.name).find? (fun w => decide (w.gen = v.gen)) with
  | none =>
    have := List.find?_eq_none.1 hf v (fof_mem.2 ⟨hv, rfl⟩)
    simp at this
  | some w =>
    have h1 := List.find?_some hf
    have h2 := fof_mem.1 (List.mem_of_find?_eq_some hf)
    simp only [decide_eq_true_eq] at h1
    rw [h.v.uniq h2.1 hv h2.2 h1]
theorem shown_keeps (h : Inv n M) (h' : Inv m M') (hk : Keeps M M') (hst : sof M.S shot = none → nameOk shot = false ∨ M.S.length = 16) : shownA M' (odOf 7 name shot 0) = shownA M (odOf 7 name shot 0) := by
  unfold shownA heldG
  simp only
  cases hs : sof M.S shot with
  | none => rw [hk.no _ (hst hs) hs]
  | some s =>
    rw [hk.is _ _ hs]
    simp only
    cases hl : lk s.held name with
    | none => rfl
    | some g =>
      obtain ⟨v, hv, e1, e2⟩ := h.w.se s (sof_some hs).1 _ (lk_in hl)
      obtain ⟨u, hu, a1, a2, a3⟩ := hk.v s (sof_some hs).1 _ (lk_in hl) v hv e1 e2
      simp only
      rw [find_gen h.w hv e1 e2, find_gen h'.w hu (a1.trans e1) (a2.trans e2)]
      simp only [a3]
theorem snap_st : sof (stepM M (odOf 11 [] shot 0) false).2.S shot = none → nameOk shot = false ∨ (stepM M (odOf 11 [] shot 0) false).2.S.length = 16 := by
  show sof (snapM M (odOf 11 [] shot 0) false).2.S shot = none → nameOk shot = false ∨ (snapM M (odOf 11 [] shot 0) false).2.S.length = 16
  unfold snapM
  split
  · rename_i h; exact fun _ => .inl h
  split
  · rename_i h
    intro e
    simp only at e h
    rw [e] at h; simp at h
  split
  · rename_i h; exact fun _ => .inr h
  rename_i h _
  simp only at h
  have hnone : sof M.S shot = none := by
    cases hs : sof M.S shot with
    | none => rfl
    | some s => rw [hs] at h; simp at h
  rw [if_neg (by simp)]
  intro e
  have e' : sof (insS M.S ⟨shot, namesV M.V⟩) shot = none := e
  rw [sof_insS hnone, if_pos rfl] at e'
  cases e'
def stepK (M : Mo) (s : Sp) : Mo := if s.o.d ≠ 12 ∧ s.o.bytes.length ≤ 9000 then (stepM M s.o s.sp).2 else M
def runK (M : Mo) (l : List Sp) : Mo := l.foldl stepK M
theorem runK_snoc (M : Mo) (l : List Sp) (s : Sp) : runK M (l ++ [s]) = stepK (runK M l) s := by unfold runK; rw [List.foldl_append]; rfl
theorem run_keeps (h : Inv n M) (hn : 0 ≤ n) (l : List Sp) : ∀ k : Nat, k ≤ l.length → n + k ≤ 999990 → Inv (n + k) (runK M (l.take k)) ∧ Keeps M (runK M (l.take k)) := by
  intro k
  induction k with
  | zero => intro _ _; exact ⟨h.mono (by simp), keeps_vs rfl rfl⟩
  | succ k ih =>
    intro hk hb
    obtain ⟨i1, i2⟩ := ih (by omega) (by omega)
    have hx : l[k]? = some l[k] := List.getElem?_eq_getElem (by omega)
    rw [List.take_add_one, hx]
    show Inv _ (runK M (l.take k ++ [l[k]])) ∧ Keeps M (runK M (l.take k ++ [l[k]]))
    rw [runK_snoc]
    unfold stepK
    split
    · rename_i hc
      exact ⟨(inv_step i1 (by omega) (by omega)).mono (by omega), i2.trans h.w i1 (keeps_step i1 hc.1)⟩
    · exact ⟨i1.mono (by omega), i2⟩
end Go.Proofs.YtabpaknfenpkoaaGreat.Mod
