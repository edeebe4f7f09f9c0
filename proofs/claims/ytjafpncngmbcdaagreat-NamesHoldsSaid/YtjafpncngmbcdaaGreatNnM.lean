/-
  Names: who drops what expires has nothing more to expire (plain).
-/
import Derived.Test.YtjafpncngmbcdaaGreatNnL
set_option linter.unusedSimpArgs false
set_option linter.unusedVariables false
set_option linter.unusedSectionVars false
namespace Go.Proofs.YtjafpncngmbcdaaGreat.Nam
open Go Go.SL
variable {M : Bk} {f : Fa}
theorem live_sweep (S : List Sn) (V : List Ver) (k : List UInt8) : liveL (sweepV S V) k = liveL V k := by
  unfold liveL sweepV
  rw [fof_filter, List.filter_filter]
  refine List.filter_congr fun v _ => ?_
  unfold keepP
  cases v.gone <;> simp
theorem live_mark (V : List Ver) (n k : List UInt8) (g : Int) : liveL (markV V n g) k = (liveL V k).filter fun v => !decide (k = n ∧ v.gen = g) := by
  unfold liveL markV
  rw [fof_map (fun v => (mark_f n g v).1), List.filter_map, List.filter_filter]
  have h1 : (fof V k).filter ((fun v => !v.gone) ∘ fun v => if v.name = n ∧ v.gen = g then goneV v else v) = (fof V k).filter fun v => !decide (k = n ∧ v.gen = g) && !v.gone := List.filter_congr fun v hv => by
    have hk := (fof_mem.1 hv).2
    show (!(if v.name = n ∧ v.gen = g then goneV v else v).gone) = _
    rw [hk]
    by_cases h : k = n ∧ v.gen = g
    · rw [if_pos h]; simp [goneV, h]
    · rw [if_neg h]; simp [h]
  rw [h1]
  conv => rhs; rw [← List.map_id ((fof V k).filter fun v => !decide (k = n ∧ v.gen = g) && !v.gone)]
  refine List.map_congr_left fun v hv => ?_
  obtain ⟨hv1, hv2⟩ := List.mem_filter.1 hv
  have hk := (fof_mem.1 hv1).2
  simp only [Bool.and_eq_true, Bool.not_eq_true', decide_eq_false_iff_not] at hv2
  rw [if_neg (by rw [hk]; exact hv2.1)]; rfl
theorem live_drop (M : Bk) (n k : List UInt8) (g : Int) : liveL (dropM M n g).V k = (liveL M.V k).filter fun v => !decide (k = n ∧ v.gen = g) := by
  show liveL (sweepV M.S (markV M.V n g)) k = _
  rw [live_sweep, live_mark]
theorem liveB_iff {V : List Ver} (h : SrtG V) {n : List UInt8} {g : Int} : liveB V n g = true ↔ ∃ v ∈ liveL V n, v.gen = g := by
  constructor
  · intro hl
    obtain ⟨v, h1, h2, h3, h4, _⟩ := live_some hl
    exact ⟨v, List.mem_filter.2 ⟨fof_mem.2 ⟨h1, h2⟩, by simp [h4]⟩, h3⟩
  · rintro ⟨v, hv, rfl⟩
    obtain ⟨h1, h2⟩ := List.mem_filter.1 hv
    unfold liveB
    rw [genV_gen h h1]
    simpa using h2
theorem checkF_drop {x : List UInt8 × Int} (hn : nameOk x.1 = true) (hg : 1 ≤ x.2 ∧ x.2 ≤ 9007199254740991) : checkF (dropF x) = 0 := by
  have hb : bareB (dropF x) = true := by simp [bareB, dropF, nPlace, nName, nGen, nTime]
  have hd : badB (dropF x) = false := by
    have h1 : ¬ x.2 < 1 := by omega
    have h2 : numB x.2 = true := numB_iff.2 ⟨by omega, hg.2⟩
    have h0 : numB 0 = true := by decide
    simp [badB, dropF, nPlace, nName, nGen, hn, h0, h1, h2]
  unfold checkF
  rw [if_neg (by rw [hb]; simp [dropF]), if_neg (by rw [hd]; simp), if_neg (by simp [dropF]), if_neg (by simp [dropF]), if_neg (by simp [dropF])]
theorem check_drop {x : List UInt8 × Int} (hn : nameOk x.1 = true) (hg : 1 ≤ x.2 ∧ x.2 ≤ 9007199254740991) (hl : liveB M.V x.1 x.2 = true) : checkB M (dropF x) = 0 :=
  checkB0.2 ⟨checkF_drop hn hg, fun e => (by cases e), fun e => (by cases e), fun _ => hl, fun e => (by cases e), fun e => (by cases e)⟩
theorem goesL_mem {now : Int} {f : Fa} {k : List UInt8} {l : List Ver} {x : List UInt8 × Int} : x ∈ goesL now f k l l.length ↔ ∃ i v, l[i]? = some v ∧ x = (k, v.gen) ∧ staysB now f l i = false := by
  unfold goesL
  rw [List.mem_filterMap]
  constructor
  · rintro ⟨i, hi, h⟩
    cases hv : l[i]? with
    | none => rw [hv] at h; cases h
    | some v =>
      rw [hv] at h
      simp only at h
      split at h
      · cases h
      · rename_i hs
        cases h
        exact ⟨i, v, hv, rfl, by simpa using hs⟩
  · rintro ⟨i, v, hv, rfl, hs⟩
    refine ⟨i, List.mem_range.2 (List.getElem?_eq_some_iff.1 hv).1, ?_⟩
    rw [hv]; simp [hs]
theorem live_nms {V : List Ver} {k : List UInt8} {v : Ver} (h : v ∈ liveL V k) : k ∈ nms V := by
  obtain ⟨h1, h2⟩ := fof_mem.1 (List.mem_filter.1 h).1
  exact nms_mem.2 ⟨v, h1, h2⟩
theorem expireL_mem {x : List UInt8 × Int} : x ∈ expireL M f ↔ ∃ i v, (liveL M.V x.1)[i]? = some v ∧ v.gen = x.2 ∧ staysB M.now f (liveL M.V x.1) i = false := by
  unfold expireL
  rw [List.mem_flatMap]
  constructor
  · rintro ⟨k, _, hx⟩
    obtain ⟨i, v, hv, rfl, hs⟩ := goesL_mem.1 hx
    exact ⟨i, v, hv, rfl, hs⟩
  · rintro ⟨i, v, hv, hg, hs⟩
    refine ⟨x.1, live_nms (List.mem_of_getElem? hv), goesL_mem.2 ⟨i, v, hv, ?_, hs⟩⟩
    rw [hg]
theorem live_srt (hw : Inv M) (k : List UInt8) : (liveL M.V k).Pairwise fun a b => a.gen < b.gen := (fof_srt hw.v k).sublist List.filter_sublist
theorem expireL_nodup (hw : Inv M) : (expireL M f).Nodup := by
  unfold expireL
  show List.Pairwise (· ≠ ·) _
  rw [List.pairwise_flatMap]
  constructor
  · intro k _
    unfold goesL
    refine List.Pairwise.filterMap _ (R := fun i j => i < j) ?_ List.pairwise_lt_range
    intro i j hij x hx y hy e
    subst e
    have key : ∀ i, (match (liveL M.V k)[i]? with | none => none | some (v : Ver) => if staysB M.now f (liveL M.V k) i = true then none else some (k, v.gen) : Option (List UInt8 × Int)) = some x → ∃ v, (liveL M.V k)[i]? = some v ∧ (k, v.gen) = x := fun i h => by
      cases hv : (liveL M.V k)[i]? with
      | none => rw [hv] at h; cases h
      | some v =>
        rw [hv] at h
        simp only at h
        split at h
        · cases h
        · exact ⟨v, rfl, Option.some.inj h⟩
    obtain ⟨v, hv, e1⟩ := key i hx
    obtain ⟨w, hw', e2⟩ := key j hy
    obtain ⟨hi, he⟩ := List.getElem?_eq_some_iff.1 hv
    obtain ⟨hj, he'⟩ := List.getElem?_eq_some_iff.1 hw'
    have := List.pairwise_iff_getElem.1 (live_srt hw k) i j hi hj hij
    rw [he, he'] at this
    rw [← e2] at e1
    have := (Prod.mk.inj e1).2
    omega
  · refine (nms_lt hw.v.n).imp fun {a b} hab => ?_
    intro x hx y hy e0
    subst e0
    obtain ⟨i, v, _, rfl, _⟩ := goesL_mem.1 hx
    obtain ⟨j, w, _, e, _⟩ := goesL_mem.1 hy
    exact slt_ne hab (Prod.mk.inj e).1
theorem drops (hw : Inv M) : ∀ j, j ≤ (expireL M f).length → (((expireL M f).take j).foldl stepD M).now = M.now ∧
    (∀ k, liveL (((expireL M f).take j).foldl stepD M).V k = (liveL M.V k).filter fun v => !decide ((k, v.gen) ∈ (expireL M f).take j)) ∧
    (∀ x, (expireL M f)[j]? = some x → checkB (((expireL M f).take j).foldl stepD M) (dropF x) = 0)
  | j, hj => by
    have chk : ∀ j, (∀ k, liveL (((expireL M f).take j).foldl stepD M).V k = (liveL M.V k).filter fun v => !decide ((k, v.gen) ∈ (expireL M f).take j)) → ∀ x, (expireL M f)[j]? = some x → checkB (((expireL M f).take j).foldl stepD M) (dropF x) = 0 := fun j hlv x hx => by
      obtain ⟨i, v, hv, hg, hs⟩ := expireL_mem.1 (List.mem_of_getElem? hx)
      have hvm := List.mem_of_getElem? hv
      have hvV := fof_mem.1 (List.mem_filter.1 hvm).1
      have hok := hw.nm v hvV.1
      rw [hvV.2] at hok
      have hgg := hw.g v hvV.1
      rw [hg] at hgg
      refine check_drop hok hgg ?_
      rw [liveB_iff (hw.fold _).v, hlv]
      refine ⟨v, List.mem_filter.2 ⟨hvm, ?_⟩, hg⟩
      rw [hg]
      have : (x.1, x.2) ∉ (expireL M f).take j := fun hm => by
        obtain ⟨t, ht, e⟩ := List.mem_take_iff_getElem.1 hm
        obtain ⟨hjl, e'⟩ := List.getElem?_eq_some_iff.1 hx
        have := List.pairwise_iff_getElem.1 (expireL_nodup (f := f) hw) t j (by omega) hjl (by omega)
        exact this (by rw [e, e'])
      simpa using this
    induction j with
    | zero => exact ⟨rfl, fun k => (List.filter_eq_self.2 fun v _ => by simp).symm, chk 0 fun k => (List.filter_eq_self.2 fun v _ => by simp).symm⟩
    | succ j ih =>
      obtain ⟨h1, h2, h3⟩ := ih (by omega)
      have hx : (expireL M f)[j]? = some (expireL M f)[j] := List.getElem?_eq_getElem (by omega)
      generalize (expireL M f)[j] = x at hx
      have hstep : ((expireL M f).take (j + 1)).foldl stepD M = dropM (((expireL M f).take j).foldl stepD M) x.1 x.2 := by
        rw [List.take_add_one, hx, List.foldl_append]
        have hs : ∀ M', checkB M' (dropF x) = 0 → stepD M' x = dropM M' x.1 x.2 := fun M' h => by unfold stepD; rw [if_neg (by rw [h]; simp)]
        exact hs _ (h3 x hx)
      have h2' : ∀ k, liveL (((expireL M f).take (j + 1)).foldl stepD M).V k = (liveL M.V k).filter fun v => !decide ((k, v.gen) ∈ (expireL M f).take (j + 1)) := fun k => by
        rw [hstep, live_drop, h2, List.filter_filter]
        refine List.filter_congr fun v _ => ?_
        rw [List.take_add_one, hx, Bool.eq_iff_iff]
        simp only [Bool.and_eq_true, Bool.not_eq_true', decide_eq_false_iff_not, List.mem_append, Option.toList_some, List.mem_singleton, not_or]
        constructor
        · rintro ⟨a, b⟩
          exact ⟨b, fun e => a (by rw [← e]; exact ⟨rfl, rfl⟩)⟩
        · rintro ⟨a, b⟩
          exact ⟨fun e => b (Prod.ext e.1 e.2), a⟩
      exact ⟨by rw [hstep]; exact h1, h2', chk (j + 1) h2'⟩
theorem filt_at {α : Type} {p : α → Bool} : ∀ {l : List α} {i' : Nat} {v : α}, (l.filter p)[i']? = some v → ∃ A C, l = A ++ v :: C ∧ i' = (A.filter p).length ∧ p v = true
  | [], i', v, h => by simp at h
  | x :: l, i', v, h => by
    rw [List.filter_cons] at h
    by_cases hx : p x = true
    · rw [if_pos hx] at h
      cases i' with
      | zero => simp at h; subst h; exact ⟨[], l, rfl, rfl, hx⟩
      | succ i =>
        rw [List.getElem?_cons_succ] at h
        obtain ⟨A, C, e, hi, hv⟩ := filt_at h
        exact ⟨x :: A, C, by rw [e]; rfl, by rw [List.filter_cons, if_pos hx, hi]; rfl, hv⟩
    · rw [if_neg hx] at h
      obtain ⟨A, C, e, hi, hv⟩ := filt_at h
      exact ⟨x :: A, C, by rw [e]; rfl, by rw [List.filter_cons, if_neg hx, hi], hv⟩
theorem stays_filt {now : Int} {p : Ver → Bool} {A C : List Ver} {v : Ver} (hv : p v = true) (hs : staysB now f (A ++ v :: C) A.length = true) : staysB now f ((A ++ v :: C).filter p) (A.filter p).length = true := by
  have e1 : (A ++ v :: C)[A.length]? = some v := by simp
  have e2 : (A ++ v :: C).filter p = A.filter p ++ v :: C.filter p := by rw [List.filter_append, List.filter_cons, if_pos hv]
  have e3 : ((A ++ v :: C).filter p)[(A.filter p).length]? = some v := by rw [e2]; simp
  unfold staysB at hs ⊢
  rw [e1] at hs
  rw [e3]
  simp only [Bool.or_eq_true, Bool.and_eq_true, decide_eq_true_eq, Bool.not_eq_true'] at hs ⊢
  rcases hs with (h | h) | ⟨h1, h2⟩
  · refine .inl (.inl ?_)
    rw [e2]
    have := List.length_filter_le p C
    simp only [List.length_append, List.length_cons] at h ⊢
    omega
  · exact .inl (.inr h)
  · refine .inr ⟨?_, ?_⟩
    · have d1 : (A ++ v :: C).drop (A.length + 1) = C := by rw [show A ++ v :: C = (A ++ [v]) ++ C by simp, List.drop_left' (by simp)]
      have d2 : ((A ++ v :: C).filter p).drop ((A.filter p).length + 1) = C.filter p := by rw [e2, show A.filter p ++ v :: C.filter p = (A.filter p ++ [v]) ++ C.filter p by simp, List.drop_left' (by simp)]
      rw [d1] at h1
      rw [d2]
      rw [List.any_eq_false] at h1 ⊢
      exact fun w hw => h1 w (List.mem_filter.1 hw).1
    · refine Int.lt_of_le_of_lt ?_ h2
      obtain ⟨n1, m1⟩ := addN_fold ((((A ++ v :: C).filter p).filterMap fun w => if v.time / f.step < w.time / f.step then some (w.time / f.step) else none)) [] List.nodup_nil
      obtain ⟨n2, m2⟩ := addN_fold (((A ++ v :: C).filterMap fun w => if v.time / f.step < w.time / f.step then some (w.time / f.step) else none)) [] List.nodup_nil
      have := len_sub n1 (l' := ((A ++ v :: C).filterMap fun w => if v.time / f.step < w.time / f.step then some (w.time / f.step) else none).foldl addN []) fun s hs => by
        rw [m2]
        rcases (m1 s).1 hs with h | h
        · exact .inl h
        · refine .inr ?_
          obtain ⟨w, hw, hww⟩ := List.mem_filterMap.1 h
          exact List.mem_filterMap.2 ⟨w, (List.mem_filter.1 hw).1, hww⟩
      omega
theorem expire_none (hw : Inv M) {M' : Bk} (hnow : M'.now = M.now) (hl : ∀ k, liveL M'.V k = (liveL M.V k).filter fun v => !decide ((k, v.gen) ∈ expireL M f)) : expireL M' f = [] := by
  refine List.eq_nil_iff_forall_not_mem.2 fun x hx => ?_
  obtain ⟨i, v, hv, hg, hs⟩ := expireL_mem.1 hx
  rw [hl] at hv hs
  obtain ⟨A, C, e, hi, hp⟩ := filt_at hv
  rw [hnow, e, hi] at hs
  have hst : staysB M.now f (A ++ v :: C) A.length = true := by
    cases h : staysB M.now f (A ++ v :: C) A.length with
    | true => rfl
    | false =>
      exfalso
      simp only [Bool.not_eq_true', decide_eq_false_iff_not] at hp
      refine hp (expireL_mem.2 ⟨A.length, v, ?_, rfl, ?_⟩)
      · show (liveL M.V x.1)[A.length]? = _
        rw [e]; simp
      · show staysB M.now f (liveL M.V x.1) A.length = false
        rw [e]; exact h
  have := stays_filt (f := f) (p := fun v => !decide ((x.1, v.gen) ∈ expireL M f)) hp hst
  rw [this] at hs; cases hs
theorem newG_drop (hk : 1 ≤ f.last) {M' : Bk} (hl : ∀ k, liveL M'.V k = (liveL M.V k).filter fun v => !decide ((k, v.gen) ∈ expireL M f)) (hw : Inv M) (k : List UInt8) : newG M'.V k = newG M.V k := by
  unfold newG
  rw [hl]
  cases hlast : (liveL M.V k).getLast? with
  | none =>
    have : liveL M.V k = [] := List.getLast?_eq_none_iff.1 hlast
    rw [this]; rfl
  | some v =>
    obtain ⟨A, e⟩ : ∃ A, liveL M.V k = A ++ [v] := by
      obtain ⟨A, e⟩ := List.getLast?_eq_some_iff.1 hlast
      exact ⟨A, e⟩
    have hp : (!decide ((k, v.gen) ∈ expireL M f)) = true := by
      simp only [Bool.not_eq_true', decide_eq_false_iff_not]
      intro hm
      obtain ⟨i, w, hwi, hg, hs⟩ := expireL_mem.1 hm
      have hg : w.gen = v.gen := hg
      have hwi : (liveL M.V k)[i]? = some w := hwi
      have hs : staysB M.now f (liveL M.V k) i = false := hs
      have hi : i = A.length := by
        have hpw := live_srt hw k
        obtain ⟨hil, hie⟩ := List.getElem?_eq_some_iff.1 hwi
        rcases Nat.lt_or_ge i A.length with h | h
        · have hal : A.length < (liveL M.V k).length := by rw [e]; simp
          have := List.pairwise_iff_getElem.1 hpw i A.length hil hal h
          have ev : (liveL M.V k)[A.length] = v := by
            have : (liveL M.V k)[A.length]? = some v := by rw [e]; simp
            exact (List.getElem?_eq_some_iff.1 this).2
          rw [hie, ev] at this; omega
        · rw [e] at hil
          simp at hil; omega
      unfold staysB at hs
      rw [hwi] at hs
      simp only [Bool.or_eq_false_iff, decide_eq_false_iff_not] at hs
      have := hs.1.1
      rw [e, hi] at this
      simp at this; omega
    rw [e, List.filter_append, topG_snoc]
    rw [List.filter_cons, if_pos hp, List.filter_nil, topG_snoc]
theorem newestL_eq {M' : Bk} (hw : Inv M) (hw' : Inv M') (h : ∀ k, newG M'.V k = newG M.V k) : newestL M' = newestL M := by
  have key : ∀ M : Bk, Inv M → newestL M = ((nms M.V).filter fun k => decide (0 < newG M.V k)).map fun k => (k, newG M.V k) := fun M _ => by
    unfold newestL
    induction nms M.V with
    | nil => rfl
    | cons k l ih =>
      rw [List.filterMap_cons, List.filter_cons]
      by_cases hk : 0 < newG M.V k
      · simp only [hk, if_true, decide_true, List.map_cons]; rw [ih]
      · simp only [hk, if_false, decide_false, Bool.false_eq_true]; exact ih
  rw [key M hw, key M' hw']
  have e : ((nms M'.V).filter fun k => decide (0 < newG M'.V k)) = (nms M.V).filter fun k => decide (0 < newG M.V k) := by
    refine sorted_ext (r := (· < ·)) (fun a b h => slt_asymm h) ((nms_lt hw'.v.n).sublist List.filter_sublist) ((nms_lt hw.v.n).sublist List.filter_sublist) fun k => ?_
    have hin : ∀ M : Bk, 0 < newG M.V k → k ∈ nms M.V := fun M hp => by
      obtain ⟨v, hv, _⟩ := topG_mem hp
      exact live_nms hv
    rw [List.mem_filter, List.mem_filter]
    simp only [decide_eq_true_eq]
    rw [h]
    constructor
    · rintro ⟨_, h1⟩; exact ⟨hin M h1, h1⟩
    · rintro ⟨_, h1⟩; exact ⟨hin M' (by rw [h]; exact h1), h1⟩
  rw [e]
  refine List.map_congr_left fun k _ => ?_
  rw [h]
end Go.Proofs.YtjafpncngmbcdaaGreat.Nam
