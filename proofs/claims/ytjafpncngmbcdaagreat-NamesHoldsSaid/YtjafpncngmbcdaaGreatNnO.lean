/-
  Names: NamesHolds.
-/
import Derived.Test.YtjafpncngmbcdaaGreatNnN
set_option linter.unusedSimpArgs false
set_option linter.unusedVariables false
set_option linter.unusedSectionVars false
namespace Go.Proofs.YtjafpncngmbcdaaGreat.Nam
open Go Go.SL Go.Proofs Go.Proofs.YtjafpncngmbcdaaGreat.Sh
variable {B : World} {H : List Asrt} {K : Value → WT} {W : WT} {a b : Nat} {M : Bk} {f : Fa} {rv hv mv : Value}
/-- What a snapshot holds is there, as it was. -/
structure Keep (s : Sn) (T : List Ver) (M : Bk) : Prop where
  hs : sof M.S s.name = some s
  ht : ∀ v ∈ T, (v.name, v.gen) ∈ s.held ∧ ∃ w ∈ M.V, w.name = v.name ∧ w.gen = v.gen ∧ w.time = v.time ∧ w.refs = v.refs
theorem Keep.sweep {s : Sn} {T : List Ver} (h : Keep s T M) {S : List Sn} {g : Ver → Ver} (hg : ∀ v, (g v).name = v.name ∧ (g v).gen = v.gen ∧ (g v).time = v.time ∧ (g v).refs = v.refs) (hs : sof S s.name = some s) : Keep s T { M with S := S, V := (M.V.map g).filter (keepP S) } where
  hs := hs
  ht := fun v hv => by
    obtain ⟨h1, w, hw, e1, e2, e3, e4⟩ := h.ht v hv
    obtain ⟨g1, g2, g3, g4⟩ := hg w
    refine ⟨h1, g w, List.mem_filter.2 ⟨List.mem_map_of_mem hw, keepP_iff.2 (.inl ⟨s, (sof_some hs).1, ?_⟩)⟩, g1.trans e1, g2.trans e2, g3.trans e3, g4.trans e4⟩
    rw [g1, g2, e1, e2]; exact h1
theorem Keep.drop {s : Sn} {T : List Ver} (h : Keep s T M) (n : List UInt8) (g : Int) : Keep s T (dropM M n g) := by
  refine h.sweep (S := M.S) (g := fun v => if v.name = n ∧ v.gen = g then goneV v else v) (fun v => ?_) h.hs
  refine ⟨(mark_f n g v).1, (mark_f n g v).2, ?_, ?_⟩ <;> split <;> rfl
theorem Keep.fold {s : Sn} {T : List Ver} (h : Keep s T M) (l : List (List UInt8 × Int)) : Keep s T (l.foldl stepD M) := by
  induction l generalizing M with
  | nil => exact h
  | cons x l ih =>
    refine ih ?_
    unfold stepD
    split
    · exact h
    · exact h.drop _ _
theorem Keep.step {s : Sn} {T : List Ver} (h : Keep s T M) (hw : Inv M) (h7 : f.k ≠ 7) (h6 : f.k ≠ 6 ∨ f.name ≠ s.name) : Keep s T (stepM M f) := by
  unfold stepM
  by_cases hb : checkB M f = 0
  case neg => rw [if_pos hb]; exact h
  rw [if_neg (by simpa using hb)]
  have ok := checkB0.1 hb
  unfold applyM
  split
  · exact ⟨h.hs, h.ht⟩
  split
  · exact ⟨h.hs, fun v hv => by
      obtain ⟨h1, w, hw', e⟩ := h.ht v hv
      exact ⟨h1, w, insV_mem.2 (.inr hw'), e⟩⟩
  split
  · exact h.drop _ _
  split
  · rename_i e
    have hno := (ok.k5 e).2.1
    refine ⟨?_, h.ht⟩
    show sof (insS M.S ⟨f.name, f.time, f.held⟩) s.name = some s
    rw [sof_insS (s := ⟨f.name, f.time, f.held⟩) hno, if_neg, h.hs]
    intro hn
    have hn : s.name = f.name := hn
    rw [← hn, h.hs] at hno; cases hno
  split
  · rename_i e
    have hne : f.name ≠ s.name := h6.resolve_left (by simpa using e)
    have := h.sweep (S := M.S.filter fun t => decide (t.name ≠ f.name)) (g := id) (fun v => ⟨rfl, rfl, rfl, rfl⟩) (by rw [sof_filter, if_neg hne.symm]; exact h.hs)
    rw [map_id_filter] at this
    exact this
  split
  · exact h.fold _
  exact h
theorem Keep.via {s : Sn} {T : List Ver} (h : Keep s T M) (hw : Inv M) (hd : (s.held.map (·.1)).Pairwise (· < ·)) {v : Ver} (hv : v ∈ T) : ∃ w, viaM M s.name v.name = some w ∧ w.gen = v.gen ∧ w.time = v.time ∧ w.refs = v.refs := by
  obtain ⟨h1, w, hw', e1, e2, e3, e4⟩ := h.ht v hv
  refine ⟨w, ?_, e2, e3, e4⟩
  unfold viaM
  rw [h.hs]
  have hf : s.held.find? (fun x => decide (x.1 = v.name)) = some (v.name, v.gen) := by
    cases hf : s.held.find? (fun x => decide (x.1 = v.name)) with
    | none =>
      have := List.find?_eq_none.1 hf _ h1
      simp at this
    | some y =>
      have hy := List.mem_of_find?_eq_some hf
      have hyn : y.1 = v.name := by simpa using List.find?_some hf
      obtain ⟨i, hi, rfl⟩ := List.getElem_of_mem hy
      obtain ⟨j, hj, e⟩ := List.getElem_of_mem h1
      have hij : i = j := by
        rcases Nat.lt_trichotomy i j with hlt | heq | hgt
        · have := List.pairwise_iff_getElem.1 hd i j (by simpa using hi) (by simpa using hj) hlt
          simp only [List.getElem_map] at this
          rw [hyn, e] at this; exact (slt_irr _ this).elim
        · exact heq
        · have := List.pairwise_iff_getElem.1 hd j i (by simpa using hj) (by simpa using hi) hgt
          simp only [List.getElem_map] at this
          rw [hyn, e] at this; exact (slt_irr _ this).elim
      subst hij
      rw [e]
  simp only
  rw [hf]
  simp only
  rw [← e1, ← e2]
  exact hw.v.genV hw'
/-- The versions of the newest. -/
def newestV (M : Bk) : List Ver := (newestL M).filterMap fun x => getM M.V x.1 x.2
theorem newest_get (hw : Inv M) {i : Nat} {x : List UInt8 × Int} (hx : (newestL M)[i]? = some x) : ∃ v, getM M.V x.1 x.2 = some v ∧ v.name = x.1 ∧ v.gen = x.2 ∧ v.gone = false ∧ v ∈ M.V := by
  have hm := List.mem_of_getElem? hx
  unfold newestL at hm
  obtain ⟨k, _, hk⟩ := List.mem_filterMap.1 hm
  split at hk
  case isFalse => cases hk
  rename_i hp
  cases hk
  obtain ⟨v, hv, e⟩ := topG_mem hp
  obtain ⟨h1, h2⟩ := List.mem_filter.1 hv
  obtain ⟨h3, h4⟩ := fof_mem.1 h1
  have hgo : v.gone = false := by simpa using h2
  have hne : newG M.V k ≠ 0 := by omega
  refine ⟨v, ?_, h4, e.symm, hgo, h3⟩
  show getM M.V k (newG M.V k) = some v
  unfold getM liveV
  rw [if_neg hne, show newG M.V k = v.gen from e, genV_gen hw.v h1]
  simp [hgo]
theorem newestL_srt (hw : Inv M) : ((newestL M).map (·.1)).Pairwise (· < ·) := by
  have : (newestL M).map (·.1) = (nms M.V).filter fun k => decide (0 < newG M.V k) := by
    unfold newestL
    induction nms M.V with
    | nil => rfl
    | cons k l ih =>
      rw [List.filterMap_cons, List.filter_cons]
      by_cases hk : 0 < newG M.V k
      · simp only [hk, if_true, decide_true, List.map_cons]; rw [ih]
      · simp only [hk, if_false, decide_false, Bool.false_eq_true]; exact ih
  rw [this]
  exact (nms_lt hw.v.n).sublist List.filter_sublist
theorem newestL_V {M M' : Bk} (h : M'.V = M.V) : newestL M' = newestL M := by unfold newestL; rw [h]
def snapF (shot : List UInt8) (M : Bk) : Fa := ⟨5, 0, 0, 0, shot, 0, M.now, [], newestL M, [], 0, 0, 0, 0⟩
theorem snap_V (shot : List UInt8) (M : Bk) : (stepM M (snapF shot M)).V = M.V := by
  unfold stepM
  split
  · rfl
  · unfold applyM snapF
    rw [if_neg (by show ¬ (5 : Int) = 8; decide), if_neg (by show ¬ (5 : Int) = 3; decide), if_neg (by show ¬ (5 : Int) = 4; decide), if_pos rfl]
theorem snap_keep (hw : Inv M) {shot : List UInt8} (h0 : checkB M (snapF shot M) = 0) : Keep ⟨shot, M.now, newestL M⟩ (newestV M) (stepM M (snapF shot M)) := by
  have ok := checkB0.1 h0
  have hstep : stepM M (snapF shot M) = { M with S := insS M.S ⟨shot, M.now, newestL M⟩ } := by
    unfold stepM
    rw [if_neg (by rw [h0]; simp)]
    unfold applyM snapF
    rw [if_neg (by show ¬ (5 : Int) = 8; decide), if_neg (by show ¬ (5 : Int) = 3; decide), if_neg (by show ¬ (5 : Int) = 4; decide), if_pos rfl]
  rw [hstep]
  refine ⟨?_, fun v hv => ?_⟩
  · show sof (insS M.S ⟨shot, M.now, newestL M⟩) shot = _
    rw [sof_insS (s := ⟨shot, M.now, newestL M⟩) (ok.k5 rfl).2.1, if_pos rfl]
  · obtain ⟨x, hx, hg⟩ := List.mem_filterMap.1 hv
    obtain ⟨i, hi⟩ := List.mem_iff_getElem?.1 hx
    obtain ⟨w, h1, h2, h3, h4, h5⟩ := newest_get hw hi
    rw [h1] at hg
    cases hg
    refine ⟨?_, v, h5, rfl, rfl, rfl, rfl⟩
    show (v.name, v.gen) ∈ newestL M
    rw [h2, h3]; exact hx
theorem newestV_at (hw : Inv M) {i : Nat} {x : List UInt8 × Int} (hx : (newestL M)[i]? = some x) : ∃ v, getM M.V x.1 x.2 = some v ∧ v.name = x.1 ∧ v.gen = x.2 ∧ v.gone = false ∧ v ∈ M.V ∧ v ∈ newestV M := by
  obtain ⟨v, h1, h2, h3, h4, h5⟩ := newest_get hw hx
  exact ⟨v, h1, h2, h3, h4, h5, List.mem_filterMap.2 ⟨x, List.mem_of_getElem? hx, h1⟩⟩
end Go.Proofs.YtjafpncngmbcdaaGreat.Nam
