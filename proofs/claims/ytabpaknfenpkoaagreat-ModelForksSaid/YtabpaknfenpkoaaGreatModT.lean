/-
  Model: what stays true.
-/
import Derived.Test.YtabpaknfenpkoaaGreatRdI
set_option linter.unusedSimpArgs false
set_option linter.unusedVariables false
set_option linter.unusedSectionVars false
namespace Go.Proofs.YtabpaknfenpkoaaGreat.Mod
open Go Go.SL Go.Proofs Go.Proofs.YtabpaknfenpkoaaGreat.Sh
structure Inv (n : Int) (M : Mo) : Prop where
  w : Wf M
  gn : ∀ v ∈ M.V, v.gen ≤ n
  bn : M.began ≤ n
  sw : sweepV M.S M.V = M.V
  nl : (nms M.V).length ≤ 64
  fl : ∀ k, (fof M.V k).length ≤ 32
  s16 : M.S.length ≤ 16
  hh : ∀ s ∈ M.S, s.held.length ≤ 64
theorem len_sub {α : Type} [DecidableEq α] : ∀ {l l' : List α}, l.Nodup → (∀ a ∈ l, a ∈ l') → l.length ≤ l'.length
  | [], _, _, _ => Nat.zero_le _
  | a :: t, l', hn, hs => by
    have ha := hs a (by simp)
    have hn' := List.nodup_cons.1 hn
    have := len_sub (l := t) (l' := l'.erase a) hn'.2 fun b hb => (List.mem_erase_of_ne fun (e : b = a) => hn'.1 (by rw [← e]; exact hb)).2 (hs b (List.mem_cons_of_mem _ hb))
    rw [List.length_erase_of_mem ha] at this
    have hp := List.length_pos_of_mem ha
    simp only [List.length_cons]; omega
theorem nms_sub {V W : List Ver} (h : SrtN V) (hs : ∀ v ∈ V, ∃ w ∈ W, w.name = v.name) : (nms V).length ≤ (nms W).length := by
  refine len_sub ((nms_lt h).imp fun h => slt_ne h) fun k hk => ?_
  obtain ⟨v, hv, rfl⟩ := nms_mem.1 hk
  exact nms_mem.2 (hs v hv)
theorem V_len {V : List Ver} (h : SrtN V) (hn : (nms V).length ≤ 64) (hf : ∀ k, (fof V k).length ≤ 32) : V.length ≤ 2048 := by
  have e : V.length = sumL ((nms V).map fun k => (fof V k).length) := by
    conv => lhs; rw [V_flat h]
    generalize nms V = l
    induction l with
    | nil => rfl
    | cons k l ih => rw [List.flatMap_cons, List.length_append, ih]; rfl
  rw [e]
  have := sumL_le (l := (nms V).map fun k => (fof V k).length) (c := 32) (fun x hx => by obtain ⟨k, _, rfl⟩ := List.mem_map.1 hx; exact hf k)
  rw [List.length_map] at this
  omega
theorem sweep_idem (S : List Sn) (V : List Ver) : sweepV S (sweepV S V) = sweepV S V := by
  unfold sweepV
  rw [List.filter_filter]
  refine List.filter_congr fun v _ => by simp
variable {M : Mo} {o : Od} {sp : Bool} {n : Int}
theorem Inv.mono {m : Int} (h : Inv n M) (hm : n ≤ m) : Inv m M := ⟨h.w, fun v hv => Int.le_trans (h.gn v hv) hm, Int.le_trans h.bn hm, h.sw, h.nl, h.fl, h.s16, h.hh⟩
/-- Sweeping a book whose generations were changed, but for names and numbers. -/
theorem Inv.mapSweep (h : Inv n M) {f : Ver → Ver} (hf : ∀ v, (f v).name = v.name ∧ (f v).gen = v.gen ∧ (f v).text = v.text ∧ (f v).time = v.time) : Inv n { M with V := sweepV M.S (M.V.map f) } := by
  have hw2 : Wf { M with V := M.V.map f } := h.w.map hf
  have hw3 : Wf { M with V := sweepV M.S (M.V.map f) } := hw2.sweep
  have hmem : ∀ v ∈ sweepV M.S (M.V.map f), ∃ w ∈ M.V, w.name = v.name ∧ w.gen = v.gen := fun v hv => by
    obtain ⟨w, hw, rfl⟩ := List.mem_map.1 (List.mem_filter.1 hv).1
    exact ⟨w, hw, (hf w).1.symm, (hf w).2.1.symm⟩
  refine ⟨hw3, fun v hv => ?_, h.bn, sweep_idem _ _, ?_, fun k => ?_, h.s16, h.hh⟩
  · obtain ⟨w, hw, _, e⟩ := hmem v hv
    rw [← e]; exact h.gn w hw
  · exact Nat.le_trans (nms_sub hw3.v.n fun v hv => by obtain ⟨w, hw, e, _⟩ := hmem v hv; exact ⟨w, hw, e⟩) h.nl
  · refine Nat.le_trans ?_ (h.fl k)
    show (fof (sweepV M.S (M.V.map f)) k).length ≤ _
    unfold sweepV
    rw [fof_filter, fof_map fun v => (hf v).1]
    refine Nat.le_trans (List.length_filter_le _ _) ?_
    rw [List.length_map]; exact Nat.le_refl _
theorem Inv.lost (h : Inv n M) (k : Int) : Inv n (lostM M k) := ⟨{ h.w with
  o := h.w.o.sublist List.filter_sublist
  ob := fun s hs => h.w.ob s (List.mem_filter.1 hs).1
  ol := Nat.le_trans (List.length_filter_le _ _) h.w.ol }, h.gn, h.bn, h.sw, h.nl, h.fl, h.s16, h.hh⟩
theorem inv_begin (h : Inv n M) (hn : n ≤ 999998) : Inv (n + 1) (beginM M o).2 := by
  unfold beginM
  split
  · exact h.mono (by omega)
  split
  · exact h.mono (by omega)
  rename_i h4
  have hb := h.bn
  have hb0 := h.w.b
  have hol := h.w.ol
  refine ⟨{ h.w with
    o := ?_
    ob := ?_
    ol := ?_
    b := ?_ }, fun v hv => Int.le_trans (h.gn v hv) (by omega), ?_, h.sw, h.nl, h.fl, h.s16, h.hh⟩
  · refine List.pairwise_append.2 ⟨h.w.o, List.pairwise_singleton _ _, fun a ha b hb => ?_⟩
    simp only [List.mem_singleton] at hb
    subst hb
    have := (h.w.ob a ha).1
    simp only; omega
  · intro s hs
    rcases List.mem_append.1 hs with hs | hs
    · have := h.w.ob s hs
      simp only; omega
    · simp only [List.mem_singleton] at hs
      subst hs
      simp
  · simp only [List.length_append, List.length_singleton]; omega
  · simp only; omega
  · simp only; omega
theorem inv_write (h : Inv n M) : Inv n (writeM M o sp).2 := by
  unfold writeM
  split
  · exact h
  rename_i s hs
  split
  · exact h.lost _
  split
  · exact h.lost _
  split
  · exact h.lost _
  rename_i h1 h2 h3
  obtain ⟨hsO, hsn⟩ := oof_some hs
  have hmap : (M.O.map fun t => if t.n = o.n then { t with text := t.text ++ o.bytes } else t) = M.O.map (putT o) := rfl
  refine ⟨{ h.w with
    o := ?_
    ob := ?_
    ol := ?_ }, h.gn, h.bn, h.sw, h.nl, h.fl, h.s16, h.hh⟩
  · simp only [hmap]
    rw [List.pairwise_map]
    exact h.w.o.imp fun hab => by rw [putT_n, putT_n]; exact hab
  · intro t ht
    simp only [hmap] at ht
    obtain ⟨u, hu, rfl⟩ := List.mem_map.1 ht
    have hub := h.w.ob u hu
    rw [putT_n]
    refine ⟨hub.1, ?_⟩
    unfold putT
    split
    · rename_i hun
      have : u = s := by
        have e1 := oof_of h.w.o hu
        rw [hun, hs] at e1
        exact (Option.some.inj e1).symm
      subst this
      simp only [List.length_append]; omega
    · exact hub.2
  · simp only [List.length_map]; exact h.w.ol
theorem insV_srt {V : List Ver} (h : SrtG V) {v : Ver} (hg : ∀ w ∈ fof V v.name, w.gen < v.gen) : SrtG (insV V v) := by
  have e : V.takeWhile (fun u => decide (u.name ≤ v.name)) ++ V.dropWhile (fun u => decide (u.name ≤ v.name)) = V := List.takeWhile_append_dropWhile ..
  have h' := h
  rw [← e] at h'
  obtain ⟨hA, hC, hAC⟩ := List.pairwise_append.1 h'
  refine List.pairwise_append.2 ⟨hA, List.pairwise_cons.2 ⟨fun w hw => .inl (drop_gt h.n v.name w hw), hC⟩, fun a ha b hb => ?_⟩
  rcases List.mem_cons.1 hb with rfl | hb
  · have haV : a ∈ V := by rw [← e]; exact List.mem_append_left _ ha
    rcases sle_or (take_le _ _ a ha) with h1 | h1
    · exact .inl h1
    · exact .inr ⟨h1, hg a (fof_mem.2 ⟨haV, h1⟩)⟩
  · exact hAC a ha b hb
theorem insV_mem {V : List Ver} {v w : Ver} : w ∈ insV V v ↔ w = v ∨ w ∈ V := by
  have e : V.takeWhile (fun u => decide (u.name ≤ v.name)) ++ V.dropWhile (fun u => decide (u.name ≤ v.name)) = V := List.takeWhile_append_dropWhile ..
  unfold insV
  rw [List.mem_append, List.mem_cons]
  conv => rhs; rw [← e]
  rw [List.mem_append]
  constructor
  · rintro (h | h | h)
    · exact .inr (.inl h)
    · exact .inl h
    · exact .inr (.inr h)
  · rintro (h | h | h)
    · exact .inr (.inl h)
    · exact .inl h
    · exact .inr (.inr h)
theorem topG_le {l : List Ver} (hp : l.Pairwise fun a b => a.gen < b.gen) : ∀ w ∈ l, w.gen ≤ topG l := fun w hw => by
  obtain ⟨i, hi, rfl⟩ := List.getElem_of_mem hw
  obtain ⟨x, hx, hxg⟩ := topG_some (l := l) (List.ne_nil_of_length_pos (by omega))
  obtain ⟨hl, hxe⟩ := List.getElem?_eq_some_iff.1 hx
  rw [hxg]
  rcases Nat.lt_or_ge i (l.length - 1) with h | h
  · have := List.pairwise_iff_getElem.1 hp i (l.length - 1) hi hl h
    rw [hxe] at this; omega
  · have : i = l.length - 1 := by omega
    subst this
    rw [hxe]; omega
theorem inv_commit (h : Inv n M) (hn : n ≤ 999998) (hn0 : 0 ≤ n) : Inv (n + 1) (commitM M o sp).2 := by
  unfold commitM
  split
  · exact h.mono (by omega)
  rename_i s hs
  split
  · exact (h.lost _).mono (by omega)
  rename_i hc
  split
  · exact (h.lost _).mono (by omega)
  obtain ⟨hsO, hsn⟩ := oof_some hs
  have hl := h.lost o.n
  have hsrt := fof_srt h.w.v s.name
  have htop := topG_le hsrt
  have htn : topG (fof M.V s.name) ≤ n ∧ 0 ≤ topG (fof M.V s.name) := by
    by_cases he : fof M.V s.name = []
    · rw [he]; unfold topG; simp; exact hn0
    · obtain ⟨x, hx, hxg⟩ := topG_some he
      have hxV := (fof_mem.1 (List.mem_of_getElem? hx)).1
      have h1 := h.gn x hxV
      have h2 := h.w.g x hxV
      rw [hxg]; omega
  have hVl := V_len h.w.v.n h.nl h.fl
  have hilen : (insV M.V (newV M s)).length = M.V.length + 1 := by
    have e : M.V.takeWhile (fun u => decide (u.name ≤ s.name)) ++ M.V.dropWhile (fun u => decide (u.name ≤ s.name)) = M.V := List.takeWhile_append_dropWhile ..
    have := congrArg List.length e
    unfold insV
    rw [List.length_append] at this ⊢
    simp only [List.length_cons]; omega
  have hsG : SrtG (insV M.V (newV M s)) := insV_srt h.w.v fun w hw => by have := htop w hw; simp only; omega
  have hfi := fun k => fof_insV h.w.v.n (newV M s) k
  have hsb := (h.w.ob s hsO).2
  show Inv (n + 1) { lostM M o.n with V := insV M.V (newV M s) }
  refine ⟨{ hl.w with
    g := ?_
    v := hsG
    n := ?_
    vt := ?_
    se := ?_ }, ?_, Int.le_trans hl.bn (by omega), ?_, ?_, ?_, h.s16, h.hh⟩
  · intro v hv
    rcases insV_mem.1 hv with rfl | hv
    · simp only; omega
    · exact h.w.g v hv
  · simp only [hilen]; omega
  · intro v hv
    rcases insV_mem.1 hv with rfl | hv
    · exact ⟨hsb, h.w.t.1, h.w.t.2⟩
    · exact h.w.vt v hv
  · intro s' hs' p hp
    obtain ⟨v, hv, e⟩ := h.w.se s' hs' p hp
    exact ⟨v, insV_mem.2 (.inr hv), e⟩
  · intro v hv
    rcases insV_mem.1 hv with rfl | hv
    · simp only; omega
    · exact Int.le_trans (h.gn v hv) (by omega)
  · refine List.filter_eq_self.2 fun v hv => ?_
    rcases insV_mem.1 hv with rfl | hv
    · simp [keepP]
    · exact List.filter_eq_self.1 h.sw v hv
  · by_cases he : fof M.V s.name = []
    · have h63 : (nms M.V).length ≤ 63 := by
        have := h.nl
        have : (nms M.V).length ≠ 64 := fun e => hc (.inl ⟨he, e⟩)
        omega
      have : (nms (insV M.V (newV M s))).length ≤ (s.name :: nms M.V).length := by
        refine len_sub ((nms_lt hsG.n).imp fun h => slt_ne h) fun k hk => ?_
        obtain ⟨v, hv, rfl⟩ := nms_mem.1 hk
        rcases insV_mem.1 hv with rfl | hv
        · exact List.mem_cons_self ..
        · exact List.mem_cons_of_mem _ (nms_mem.2 ⟨v, hv, rfl⟩)
      simp only [List.length_cons] at this
      simp only; omega
    · have hm : s.name ∈ nms M.V := Classical.byContradiction fun hn => he (fof_none hn)
      refine Nat.le_trans ?_ h.nl
      refine nms_sub hsG.n fun v hv => ?_
      rcases insV_mem.1 hv with rfl | hv
      · exact nms_mem.1 hm
      · exact ⟨v, hv, rfl⟩
  · intro k
    show (fof (insV M.V (newV M s)) k).length ≤ 32
    rw [hfi]
    split
    · rename_i hk
      have h1 := h.fl s.name
      have h2 : (fof M.V s.name).length ≠ 32 := fun e => hc (.inr e)
      rw [hk, List.length_append, List.length_singleton]; simp only; omega
    · exact h.fl k
theorem inv_remove (h : Inv n M) : Inv n (removeM M o).2 := by
  unfold removeM
  split
  · exact h
  · exact h.mapSweep (mark_f4 _ _)
theorem inv_expire (h : Inv n M) : Inv n (expireM M o).2 := by
  unfold expireM
  split
  · exact h
  · exact h.mapSweep (goF4 M o)
theorem inv_tick (h : Inv n M) : Inv n (tickM M o).2 := by
  unfold tickM
  split
  · exact h
  · have := h.w.t
    exact ⟨{ h.w with t := by simp only; omega }, h.gn, h.bn, h.sw, h.nl, h.fl, h.s16, h.hh⟩
theorem inv_unsnap (h : Inv n M) : Inv n (unsnapM M o).2 := by
  unfold unsnapM
  split
  · exact h
  split
  · exact h
  have hw2 := (h.w.filterS fun s => decide (s.name ≠ o.shot))
  have hw3 := hw2.sweep
  have hmem : ∀ v ∈ sweepV (M.S.filter fun s => decide (s.name ≠ o.shot)) M.V, v ∈ M.V := fun v hv => (List.mem_filter.1 hv).1
  refine ⟨hw3, fun v hv => h.gn v (hmem v hv), h.bn, sweep_idem _ _, ?_, fun k => ?_, Nat.le_trans (List.length_filter_le _ _) h.s16, fun s hs => h.hh s (List.mem_filter.1 hs).1⟩
  · exact Nat.le_trans (nms_sub hw3.v.n fun v hv => ⟨v, hmem v hv, rfl⟩) h.nl
  · refine Nat.le_trans ?_ (h.fl k)
    show (fof (sweepV _ M.V) k).length ≤ _
    unfold sweepV
    rw [fof_filter]
    exact List.length_filter_le _ _
theorem names_mem {V : List Ver} {p : List UInt8 × Int} (hp : p ∈ namesV V) : ∃ v ∈ V, v.name = p.1 ∧ v.gen = p.2 := by
  unfold namesV at hp
  obtain ⟨k, hk, he⟩ := List.mem_filterMap.1 hp
  cases hl : liveV V k 0 with
  | none => rw [hl] at he; cases he
  | some v =>
    rw [hl] at he
    cases he
    have hv := (List.mem_filter.1 (List.mem_of_getLast? hl)).1
    exact ⟨v, (fof_mem.1 hv).1, (fof_mem.1 hv).2, rfl⟩
theorem insS_mem {S : List Sn} {s t : Sn} : t ∈ insS S s ↔ t = s ∨ t ∈ S := by
  have e : S.takeWhile (fun u => decide (u.name < s.name)) ++ S.dropWhile (fun u => decide (u.name < s.name)) = S := List.takeWhile_append_dropWhile ..
  unfold insS
  rw [List.mem_append, List.mem_cons]
  conv => rhs; rw [← e]
  rw [List.mem_append]
  constructor
  · rintro (h | h | h)
    · exact .inr (.inl h)
    · exact .inl h
    · exact .inr (.inr h)
  · rintro (h | h | h)
    · exact .inr (.inl h)
    · exact .inl h
    · exact .inr (.inr h)
theorem drop_geS {S : List Sn} (h : S.Pairwise fun a b => a.name < b.name) (n : List UInt8) : ∀ s ∈ S.dropWhile (fun u => decide (u.name < n)), ¬ s.name < n := by
  induction S with
  | nil => intro v hv; cases hv
  | cons c t ih =>
    intro v hv
    rw [List.dropWhile_cons] at hv
    by_cases hc : c.name < n
    · rw [if_pos (by simpa using hc)] at hv
      exact ih (List.pairwise_cons.1 h).2 v hv
    · rw [if_neg (by simpa using hc)] at hv
      rcases List.mem_cons.1 hv with rfl | hv
      · exact hc
      · exact fun hlt => hc (slt_trans ((List.pairwise_cons.1 h).1 v hv) hlt)
theorem take_ltS (n : List UInt8) : ∀ (S : List Sn), ∀ s ∈ S.takeWhile (fun u => decide (u.name < n)), s.name < n
  | [], v, hv => by cases hv
  | c :: t, v, hv => by
    rw [List.takeWhile_cons] at hv
    by_cases hc : c.name < n
    · rw [if_pos (by simpa using hc)] at hv
      rcases List.mem_cons.1 hv with rfl | hv
      · exact hc
      · exact take_ltS n t v hv
    · rw [if_neg (by simpa using hc)] at hv; cases hv
theorem inv_snap (h : Inv n M) : Inv n (snapM M o sp).2 := by
  unfold snapM
  split
  · exact h
  split
  · exact h
  split
  · exact h
  split
  · exact h
  rename_i hk hns h16 _
  have hnone : sof M.S o.shot = none := by
    cases hs : sof M.S o.shot with
    | none => rfl
    | some s => rw [hs] at hns; simp at hns
  have e : M.S.takeWhile (fun u => decide (u.name < o.shot)) ++ M.S.dropWhile (fun u => decide (u.name < o.shot)) = M.S := List.takeWhile_append_dropWhile ..
  have hne : ∀ s ∈ M.S, s.name ≠ o.shot := fun s hs e => by
    have := sof_of h.w.ss hs
    rw [e, hnone] at this; cases this
  have h' := h.w.ss
  rw [← e] at h'
  obtain ⟨hA, hC, hAC⟩ := List.pairwise_append.1 h'
  have hss : (insS M.S ⟨o.shot, namesV M.V⟩).Pairwise fun a b => a.name < b.name := by
    refine List.pairwise_append.2 ⟨hA, List.pairwise_cons.2 ⟨fun w hw => ?_, hC⟩, fun a ha b hb => ?_⟩
    · have h1 := drop_geS h.w.ss o.shot w hw
      have hwS : w ∈ M.S := by rw [← e]; exact List.mem_append_right _ hw
      exact slt_of h1 fun e => hne w hwS e.symm
    · rcases List.mem_cons.1 hb with rfl | hb
      · exact take_ltS _ _ a ha
      · exact hAC a ha b hb
  have hil : (insS M.S ⟨o.shot, namesV M.V⟩).length = M.S.length + 1 := by
    have := congrArg List.length e
    unfold insS
    rw [List.length_append] at this ⊢
    simp only [List.length_cons]; omega
  have hw2 : Wf { M with S := insS M.S ⟨o.shot, namesV M.V⟩ } := { h.w with
    ss := hss
    sh := fun s hs => by
      rcases insS_mem.1 hs with rfl | hs
      · exact names_nodup h.w.v.n
      · exact h.w.sh s hs
    se := fun s hs p hp => by
      rcases insS_mem.1 hs with rfl | hs
      · exact names_mem hp
      · exact h.w.se s hs p hp }
  refine ⟨hw2, h.gn, h.bn, ?_, h.nl, h.fl, ?_, fun s hs => ?_⟩
  · refine List.filter_eq_self.2 fun v hv => ?_
    have hkp := List.filter_eq_self.1 h.sw v hv
    unfold keepP at hkp ⊢
    rw [Bool.or_eq_true] at hkp ⊢
    rcases hkp with h1 | h1
    · refine .inl ?_
      obtain ⟨s, hs, hp⟩ := (heldB_iff h.w).1 h1
      exact (heldB_iff hw2).2 ⟨s, insS_mem.2 (.inr hs), hp⟩
    · exact .inr h1
  · have := h.s16
    simp only [hil]; omega
  · rcases insS_mem.1 hs with rfl | hs
    · exact Nat.le_trans (names_len _) h.nl
    · exact h.hh s hs
theorem inv_step (h : Inv n M) (hn : n ≤ 999998) (hn0 : 0 ≤ n) : Inv (n + 1) (stepM M o sp).2 := by
  unfold stepM
  by_cases h0 : o.d = 1
  · rw [if_pos h0]
    exact inv_begin h hn
  rw [if_neg h0]
  by_cases h1 : o.d = 2
  · rw [if_pos h1]
    exact (inv_write h).mono (by omega)
  rw [if_neg h1]
  by_cases h2 : o.d = 3
  · rw [if_pos h2]
    exact inv_commit h hn hn0
  rw [if_neg h2]
  by_cases h3 : o.d = 4
  · rw [if_pos h3]
    unfold abortM
    split
    · exact h.mono (by omega)
    · exact (h.lost _).mono (by omega)
  rw [if_neg h3]
  by_cases h4 : o.d = 5 ∨ o.d = 6 ∨ o.d = 7 ∨ o.d = 8 ∨ o.d = 9
  · rw [if_pos h4]
    exact h.mono (by omega)
  rw [if_neg h4]
  by_cases h5 : o.d = 10
  · rw [if_pos h5]
    exact (inv_remove h).mono (by omega)
  rw [if_neg h5]
  by_cases h6 : o.d = 11
  · rw [if_pos h6]
    exact (inv_snap h).mono (by omega)
  rw [if_neg h6]
  by_cases h7 : o.d = 12
  · rw [if_pos h7]
    exact (inv_unsnap h).mono (by omega)
  rw [if_neg h7]
  by_cases h8 : o.d = 13
  · rw [if_pos h8]
    exact (inv_tick h).mono (by omega)
  rw [if_neg h8]
  by_cases h9 : o.d = 14
  · rw [if_pos h9]
    exact (inv_expire h).mono (by omega)
  rw [if_neg h9]
  by_cases h10 : o.d = 15
  · rw [if_pos h10]
    exact h.mono (by omega)
  rw [if_neg h10]
  split
  · exact h.mono (by omega)
  · exact h.mono (by omega)
end Go.Proofs.YtabpaknfenpkoaaGreat.Mod
