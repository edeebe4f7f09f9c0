/-
  Names: what a book keeps is kept (plain).
-/
import Derived.Test.YtjafpncngmbcdaaGreatNmR
set_option linter.unusedSimpArgs false
set_option linter.unusedVariables false
set_option linter.unusedSectionVars false
namespace Go.Proofs.YtjafpncngmbcdaaGreat.Nam
open Go Go.SL
variable {M : Bk} {f : Fa}
theorem checkF0 (h : checkF f = 0) : (1 ≤ f.k ∧ f.k ≤ 9) ∧ badB f = false ∧ f.refs.length ≤ 256 ∧ f.held.length ≤ 64 ∧ f.moves.length ≤ 64 ∧ (∀ m ∈ f.moves, moveOk m = true) ∧ (∀ h ∈ f.held, heldOk h = true) ∧ (∀ r ∈ f.refs, rightB r = true) ∧ bareB f = true := by
  unfold checkF at h
  split at h
  · cases h
  rename_i h1
  split at h
  · cases h
  rename_i h2
  split at h
  · cases h
  rename_i h3
  split at h
  · cases h
  rename_i h4
  split at h
  · cases h
  rename_i h5
  refine ⟨by omega, by simpa using h2, by omega, by omega, by omega, fun m hm => ?_, fun m hm => ?_, fun m hm => ?_, ?_⟩
  · refine Classical.byContradiction fun hn => h4 (.inr (.inl (List.any_eq_true.2 ⟨m, hm, by simpa using hn⟩)))
  · refine Classical.byContradiction fun hn => h4 (.inr (.inr (List.any_eq_true.2 ⟨m, hm, by simpa using hn⟩)))
  · refine Classical.byContradiction fun hn => h5 (List.any_eq_true.2 ⟨m, hm, by simpa using hn⟩)
  · refine Classical.byContradiction fun hn => h1 (.inr (.inr (by simpa using hn)))
theorem badB0 (h : badB f = false) : (nName f.k = true → nameOk f.name = true) ∧ (nGen f.k = true → 1 ≤ f.gen) ∧ numB f.gen = true ∧ numB f.time = true ∧ (f.k = 9 → ruleB f = true) := by
  unfold badB at h
  simp only [Bool.or_eq_false_iff, Bool.and_eq_false_iff, Bool.not_eq_false', decide_eq_false_iff_not] at h
  obtain ⟨⟨⟨⟨⟨⟨⟨h1, h2⟩, h3⟩, h4⟩, h5⟩, h6⟩, h7⟩, h8⟩ := h
  refine ⟨fun e => ?_, fun e => ?_, h7, h8, fun e => ?_⟩
  · rcases h5 with h | h
    · rw [e] at h; cases h
    · exact h
  · rcases h6 with h | h
    · rw [e] at h; cases h
    · omega
  · rcases h4 with h | h
    · exact (h e).elim
    · exact h
theorem numB_iff {n : Int} : numB n = true ↔ 0 ≤ n ∧ n ≤ 9007199254740991 := by simp [numB]
/-- A fact that passes. -/
structure Ok (M : Bk) (f : Fa) : Prop where
  c : checkF f = 0
  k8 : f.k = 8 → M.now ≤ f.time
  k3 : f.k = 3 → f.time ≤ M.now ∧ nextG M.V f.name ≤ f.gen ∧ ¬ (fof M.V f.name = [] ∧ (nms M.V).length = 64) ∧ (fof M.V f.name).length ≠ 32
  k4 : f.k = 4 → liveB M.V f.name f.gen = true
  k5 : f.k = 5 → f.time ≤ M.now ∧ sof M.S f.name = none ∧ M.S.length ≠ 16 ∧ (∀ h ∈ f.held, liveB M.V h.1 h.2 = true) ∧ risesB f.held = true
  k6 : f.k = 6 → (sof M.S f.name).isSome = true
theorem checkB0 : checkB M f = 0 ↔ Ok M f := by
  constructor
  · intro h
    unfold checkB at h
    by_cases hc : checkF f = 0
    · rw [if_neg (by simpa using hc)] at h
      refine ⟨hc, fun e => ?_, fun e => ?_, fun e => ?_, fun e => ?_, fun e => ?_⟩
      · rw [if_pos e] at h
        split at h
        · cases h
        · omega
      · rw [if_neg (by omega), if_pos e] at h
        split at h
        · cases h
        split at h
        · cases h
        split at h
        · cases h
        rename_i h1 h2 h3
        exact ⟨by omega, by omega, fun h => h3 (.inl h), fun h => h3 (.inr h)⟩
      · rw [if_neg (by omega), if_neg (by omega), if_pos e] at h
        split at h
        · assumption
        · cases h
      · rw [if_neg (by omega), if_neg (by omega), if_neg (by omega), if_pos e] at h
        split at h
        · cases h
        split at h
        · cases h
        split at h
        · cases h
        split at h
        · cases h
        split at h
        · cases h
        rename_i h1 h2 h3 h4 h5
        refine ⟨by omega, by simpa using h2, h3, fun x hx => ?_, by simpa using h5⟩
        exact Classical.byContradiction fun hn => h4 (List.any_eq_true.2 ⟨x, hx, by simpa using hn⟩)
      · rw [if_neg (by omega), if_neg (by omega), if_neg (by omega), if_neg (by omega), if_pos e] at h
        split at h
        · assumption
        · cases h
    · rw [if_pos hc] at h; exact (hc h).elim
  · intro h
    unfold checkB
    rw [if_neg (by simpa using h.c)]
    split
    · rename_i e; rw [if_neg (by have := h.k8 e; omega)]
    split
    · rename_i e
      obtain ⟨h1, h2, h3, h4⟩ := h.k3 e
      rw [if_neg (by omega), if_neg (by omega), if_neg (by rintro (h | h); exact h3 h; exact h4 h)]
    split
    · rename_i e; rw [if_pos (h.k4 e)]
    split
    · rename_i e
      obtain ⟨h1, h2, h3, h4, h5⟩ := h.k5 e
      rw [if_neg (by omega), if_neg (by simp [h2]), if_neg h3, if_neg (by simpa using h4), if_neg (by rw [h5]; simp)]
    split
    · rename_i e; rw [if_pos (h.k6 e)]
    rfl
theorem sw_iff {S : List Sn} {V : List Ver} : sweepV S V = V ↔ ∀ v ∈ V, keepP S v = true := List.filter_eq_self
theorem heldB_iff {S : List Sn} {n : List UInt8} {g : Int} : heldB S n g = true ↔ ∃ s ∈ S, (n, g) ∈ s.held := by
  unfold heldB; rw [List.any_eq_true]; simp
theorem keepP_iff {S : List Sn} {v : Ver} : keepP S v = true ↔ (∃ s ∈ S, (v.name, v.gen) ∈ s.held) ∨ v.gone = false := by
  unfold keepP; rw [Bool.or_eq_true, heldB_iff]; simp
theorem genV_some {V : List Ver} {n : List UInt8} {g : Int} {v : Ver} (h : genV V n g = some v) : v ∈ V ∧ v.name = n ∧ v.gen = g := by
  unfold genV at h
  have h1 := fof_mem.1 (List.mem_of_find?_eq_some h)
  exact ⟨h1.1, h1.2, by simpa using List.find?_some h⟩
theorem live_some {V : List Ver} {n : List UInt8} {g : Int} (h : liveB V n g = true) : ∃ v ∈ V, v.name = n ∧ v.gen = g ∧ v.gone = false ∧ genV V n g = some v := by
  unfold liveB at h
  cases hg : genV V n g with
  | none => rw [hg] at h; cases h
  | some v =>
    rw [hg] at h
    obtain ⟨h1, h2, h3⟩ := genV_some hg
    exact ⟨v, h1, h2, h3, by simpa using h, rfl⟩
theorem SrtG.genV {V : List Ver} (h : SrtG V) {v : Ver} (hv : v ∈ V) : genV V v.name v.gen = some v := by
  have hm : v ∈ fof V v.name := fof_mem.2 ⟨hv, rfl⟩
  cases hg : Nam.genV V v.name v.gen with
  | none =>
    have := List.find?_eq_none.1 hg v hm
    simp at this
  | some w =>
    obtain ⟨h1, h2, h3⟩ := genV_some hg
    rw [h.uniq h1 hv h2 h3]
theorem swN_mark {S : List Sn} {V : List Ver} (h : sweepV S V = V) (n : List UInt8) (g : Int) : swN S (markV V n g) n = sweepV S (markV V n g) := by
  refine List.filter_congr fun v hv => ?_
  by_cases hn : v.name = n
  · simp [hn]
  · obtain ⟨w, hw, e⟩ := List.mem_map.1 hv
    have hwn : w.name = v.name := by rw [← e]; exact (mark_f n g w).1.symm
    rw [if_neg (fun hh => hn (hwn ▸ hh.1))] at e
    subst e
    rw [sw_iff.1 h _ hw]; simp
/-- Swept as far as some names go. -/
def swL (S : List Sn) (V : List Ver) (ns : List (List UInt8)) : List Ver := V.filter fun v => !decide (v.name ∈ ns) || keepP S v
theorem swL_nil (S : List Sn) (V : List Ver) : swL S V [] = V := List.filter_eq_self.2 fun v _ => by simp
theorem swL_snoc (S : List Sn) (V : List Ver) (ns : List (List UInt8)) (k : List UInt8) : swN S (swL S V ns) k = swL S V (ns ++ [k]) := by
  unfold swN swL
  rw [List.filter_filter]
  refine List.filter_congr fun v _ => ?_
  by_cases h1 : v.name ∈ ns <;> by_cases h2 : v.name = k <;> cases keepP S v <;> simp [h1, h2]
theorem swL_all {S : List Sn} {V : List Ver} {s : Sn} (h : sweepV S V = V) (hs : sof S s.name = some s) (hu : SU S) : swL (S.filter fun t => decide (t.name ≠ s.name)) V (s.held.map (·.1)) = sweepV (S.filter fun t => decide (t.name ≠ s.name)) V := by
  refine List.filter_congr fun v hv => ?_
  have hk := sw_iff.1 h v hv
  by_cases hm : v.name ∈ s.held.map (·.1)
  · simp only [hm, decide_true, Bool.not_true, Bool.false_or]
  · have : keepP (S.filter fun t => decide (t.name ≠ s.name)) v = true := by
      rw [keepP_iff] at hk ⊢
      rcases hk with ⟨t, ht, hh⟩ | hk
      · refine .inl ⟨t, List.mem_filter.2 ⟨ht, ?_⟩, hh⟩
        simp only [decide_eq_true_eq]
        intro e
        have h1 := hu t ht
        rw [e, hs] at h1
        cases h1
        exact hm (List.mem_map.2 ⟨_, hh, rfl⟩)
      · exact .inr hk
    rw [this]; simp
theorem nms_app_le {V : List Ver} {v : Ver} (hs : SrtN V) (hs' : SrtN (insV V v)) : (nms (insV V v)).length ≤ (nms V).length + if fof V v.name = [] then 1 else 0 := by
  have hnd := (nms_lt hs').imp fun h => slt_ne h
  by_cases h : fof V v.name = []
  · rw [if_pos h]
    have : (nms (insV V v)).length ≤ (v.name :: nms V).length := len_sub hnd fun k hk => by
      obtain ⟨w, hw, rfl⟩ := nms_mem.1 hk
      rcases insV_mem.1 hw with rfl | hw
      · exact List.mem_cons_self
      · exact List.mem_cons_of_mem _ (nms_mem.2 ⟨w, hw, rfl⟩)
    simpa using this
  · rw [if_neg h]
    obtain ⟨u, hu⟩ := List.exists_mem_of_ne_nil _ h
    obtain ⟨hu1, hu2⟩ := fof_mem.1 hu
    exact len_sub hnd fun k hk => by
      obtain ⟨w, hw, rfl⟩ := nms_mem.1 hk
      rcases insV_mem.1 hw with rfl | hw
      · exact nms_mem.2 ⟨u, hu1, hu2⟩
      · exact nms_mem.2 ⟨w, hw, rfl⟩
/-- Generations changed or left out, none held gone. -/
theorem Inv.sub (h : Inv M) {S : List Sn} {g : Ver → Ver} {q : Ver → Bool} (hS : ∀ s ∈ S, s ∈ M.S) (hSs : S.Pairwise fun a b => a.name < b.name) (hSl : S.length ≤ M.S.length)
    (hg : ∀ v, (g v).name = v.name ∧ (g v).gen = v.gen ∧ (g v).time = v.time ∧ (g v).refs.length = v.refs.length) (hr : ∀ v ∈ M.V, (∀ r ∈ v.refs, rightB r = true) → ∀ r ∈ (g v).refs, rightB r = true)
    (hq : ∀ v ∈ M.V, q (g v) = keepP S (g v)) : Inv { M with S := S, V := (M.V.map g).filter q } := by
  have hm : ∀ w ∈ (M.V.map g).filter q, ∃ v ∈ M.V, g v = w := fun w hw => by
    obtain ⟨v, hv, e⟩ := List.mem_map.1 (List.mem_filter.1 hw).1
    exact ⟨v, hv, e⟩
  have hsrt : SrtG ((M.V.map g).filter q) := (srtG_map h.v fun v => ⟨(hg v).1, (hg v).2.1⟩).sublist List.filter_sublist
  refine { ss := hSs, v := hsrt, g := ?_, t := ?_, r := ?_, rr := ?_, nm := ?_, nl := ?_, fl := ?_, s16 := Nat.le_trans hSl h.s16, sn := fun s hs => h.sn s (hS s hs), hh := fun s hs => h.hh s (hS s hs), hs := fun s hs => h.hs s (hS s hs), se := ?_, st := fun s hs => h.st s (hS s hs), vt := ?_, sw := ?_, now := h.now }
  · intro w hw; obtain ⟨v, hv, rfl⟩ := hm w hw; rw [(hg v).2.1]; exact h.g v hv
  · intro w hw; obtain ⟨v, hv, rfl⟩ := hm w hw; rw [(hg v).2.2.1]; exact h.t v hv
  · intro w hw; obtain ⟨v, hv, rfl⟩ := hm w hw; rw [(hg v).2.2.2]; exact h.r v hv
  · intro w hw; obtain ⟨v, hv, rfl⟩ := hm w hw; exact hr v hv (h.rr v hv)
  · intro w hw; obtain ⟨v, hv, rfl⟩ := hm w hw; rw [(hg v).1]; exact h.nm v hv
  · exact Nat.le_trans (nms_sub hsrt.n fun w hw => by obtain ⟨v, hv, rfl⟩ := hm w hw; exact ⟨v, hv, (hg v).1.symm⟩) h.nl
  · intro k
    show (fof ((M.V.map g).filter q) k).length ≤ 32
    rw [fof_filter, fof_map fun v => (hg v).1]
    refine Nat.le_trans (List.length_filter_le _ _) ?_
    rw [List.length_map]; exact h.fl k
  · intro s hs x hx
    obtain ⟨v, hv, h1, h2⟩ := h.se s (hS s hs) x hx
    refine ⟨g v, List.mem_filter.2 ⟨List.mem_map_of_mem hv, ?_⟩, by rw [(hg v).1]; exact h1, by rw [(hg v).2.1]; exact h2⟩
    rw [hq v hv, keepP_iff]
    refine .inl ⟨s, hs, ?_⟩
    rw [(hg v).1, (hg v).2.1, h1, h2]; exact hx
  · intro w hw; obtain ⟨v, hv, rfl⟩ := hm w hw; rw [(hg v).2.2.1]; exact h.vt v hv
  · refine sw_iff.2 fun w hw => ?_
    obtain ⟨v, hv, rfl⟩ := hm w hw
    rw [← hq v hv]; exact (List.mem_filter.1 hw).2
theorem map_id_filter (V : List Ver) (q : Ver → Bool) : (V.map id).filter q = V.filter q := by rw [List.map_id]
theorem Inv.drop (h : Inv M) (n : List UInt8) (g : Int) : Inv (dropM M n g) := by
  refine h.sub (S := M.S) (g := fun v => if v.name = n ∧ v.gen = g then goneV v else v) (q := keepP M.S) (fun s hs => hs) h.ss (Nat.le_refl _) (fun v => ?_) (fun v _ hr => ?_) (fun v _ => rfl)
  · refine ⟨(mark_f n g v).1, (mark_f n g v).2, ?_, ?_⟩ <;> split <;> rfl
  · split
    · exact hr
    · exact hr
theorem Inv.stepD (h : Inv M) (x : List UInt8 × Int) : Inv (stepD M x) := by
  unfold Nam.stepD
  split
  · exact h
  · exact h.drop _ _
theorem Inv.fold (h : Inv M) (l : List (List UInt8 × Int)) : Inv (l.foldl Nam.stepD M) := by
  induction l generalizing M with
  | nil => exact h
  | cons x l ih => exact ih (h.stepD x)
theorem moveR_right {ms : List Mv} (hm : ∀ m ∈ ms, moveOk m = true) {r : Rf} (hr : rightB r = true) : rightB (moveR ms r) = true := by
  unfold moveR
  cases hf : ms.find? (fun m => decide (m.fb = r.bin ∧ m.fs = r.slot)) with
  | none => exact hr
  | some m =>
    have := hm m (List.mem_of_find?_eq_some hf)
    simp only [moveOk, spotB, inBinB, Bool.and_eq_true, decide_eq_true_eq] at this
    simp only [rightB, Bool.and_eq_true, decide_eq_true_eq] at hr ⊢
    omega
theorem Inv.step (h : Inv M) (f : Fa) : Inv (stepM M f) := by
  unfold stepM
  by_cases hb : checkB M f = 0
  case neg => rw [if_pos hb]; exact h
  rw [if_neg (by simpa using hb)]
  have ok := checkB0.1 hb
  obtain ⟨hk, hbad, hrl, hhl, hml, hmo, hho, hro, hbare⟩ := checkF0 ok.c
  obtain ⟨hnm, hgen, hng, hnt, h9⟩ := badB0 hbad
  have hng := numB_iff.1 hng
  have hnt := numB_iff.1 hnt
  unfold applyM
  split
  · rename_i e
    have := ok.k8 e
    exact { h with st := fun s hs => by have := h.st s hs; constructor; exact this.1; show s.time ≤ f.time; omega, vt := fun v hv => by have := h.vt v hv; show v.time ≤ f.time; omega, now := hnt }
  split
  · rename_i e
    obtain ⟨k1, k2, k3, k4⟩ := ok.k3 e
    have hname := hnm (by simp [nName, e])
    have hgen := hgen (by simp [nGen, e])
    have hs : SrtG (insV M.V ⟨f.name, f.gen, f.time, f.refs, false⟩) := insV_srt h.v fun w hw => by
      have := topG_le (fof_srt h.v f.name) w hw
      unfold nextG at k2
      show w.gen < f.gen
      omega
    exact {
      ss := h.ss, v := hs,
      g := (fun w hw => by rcases insV_mem.1 hw with rfl | hw; exact ⟨hgen, hng.2⟩; exact h.g w hw),
      t := (fun w hw => by rcases insV_mem.1 hw with rfl | hw; exact hnt; exact h.t w hw),
      r := (fun w hw => by rcases insV_mem.1 hw with rfl | hw; exact hrl; exact h.r w hw),
      rr := (fun w hw => by rcases insV_mem.1 hw with rfl | hw; exact hro; exact h.rr w hw),
      nm := (fun w hw => by rcases insV_mem.1 hw with rfl | hw; exact hname; exact h.nm w hw),
      nl := (by
        have h1 := nms_app_le h.v.n hs.n
        have h2 := h.nl
        show (nms (insV M.V ⟨f.name, f.gen, f.time, f.refs, false⟩)).length ≤ 64
        by_cases he : fof M.V f.name = []
        · have : (nms M.V).length ≠ 64 := fun h => k3 ⟨he, h⟩
          simp only [he, if_true] at h1
          omega
        · simp only [he, if_false] at h1
          omega),
      fl := (fun k => by
        show (fof (insV M.V ⟨f.name, f.gen, f.time, f.refs, false⟩) k).length ≤ 32
        rw [fof_insV h.v.n]
        have := h.fl k
        split
        · rename_i he
          have he : k = f.name := he
          subst he
          rw [List.length_append]
          simp; omega
        · exact this),
      s16 := h.s16, sn := h.sn, hh := h.hh, hs := h.hs,
      se := (fun s hs x hx => by obtain ⟨v, hv, hh⟩ := h.se s hs x hx; exact ⟨v, insV_mem.2 (.inr hv), hh⟩),
      st := h.st,
      vt := (fun w hw => by rcases insV_mem.1 hw with rfl | hw; exact k1; exact h.vt w hw),
      sw := (sw_iff.2 fun w hw => by
        rcases insV_mem.1 hw with rfl | hw
        · exact keepP_iff.2 (.inr rfl)
        · exact sw_iff.1 h.sw w hw),
      now := h.now }
  split
  · exact h.drop _ _
  split
  · rename_i e
    obtain ⟨k1, k2, k3, k4, k5⟩ := ok.k5 e
    have hname := hnm (by simp [nName, e])
    have eS : M.S.takeWhile (fun u => decide (u.name < f.name)) ++ M.S.dropWhile (fun u => decide (u.name < f.name)) = M.S := List.takeWhile_append_dropWhile ..
    have hss := h.ss
    rw [← eS] at hss
    obtain ⟨hA, hC, hAC⟩ := List.pairwise_append.1 hss
    have hlt : ∀ t ∈ M.S.dropWhile (fun u => decide (u.name < f.name)), f.name < t.name := fun t ht => by
      refine slt_of (drop_geS h.ss f.name t ht) fun e => ?_
      have htS : t ∈ M.S := by rw [← eS]; exact List.mem_append_right _ ht
      have := h.su t htS
      rw [← e, k2] at this; cases this
    have hlen : (insS M.S ⟨f.name, f.time, f.held⟩).length = M.S.length + 1 := by
      unfold insS
      have := congrArg List.length eS
      rw [List.length_append] at this
      simp; omega
    exact { h with
      ss := (List.pairwise_append.2 ⟨hA, List.pairwise_cons.2 ⟨hlt, hC⟩, fun a ha b hb => by
        rcases List.mem_cons.1 hb with rfl | hb
        · exact take_ltS _ _ a ha
        · exact hAC a ha b hb⟩),
      s16 := (by have := h.s16; show (insS M.S ⟨f.name, f.time, f.held⟩).length ≤ 16; omega),
      sn := (fun s hs => by rcases insS_mem.1 hs with rfl | hs; exact hname; exact h.sn s hs),
      hh := (fun s hs => by rcases insS_mem.1 hs with rfl | hs; exact hhl; exact h.hh s hs),
      hs := (fun s hs => by rcases insS_mem.1 hs with rfl | hs; exact of_decide_eq_true k5; exact h.hs s hs),
      se := (fun s hs x hx => by
        rcases insS_mem.1 hs with rfl | hs
        · obtain ⟨v, h1, h2, h3, _⟩ := live_some (k4 x hx)
          exact ⟨v, h1, h2, h3⟩
        · exact h.se s hs x hx),
      st := (fun s hs => by rcases insS_mem.1 hs with rfl | hs; exact ⟨hnt.1, k1⟩; exact h.st s hs),
      sw := (sw_iff.2 fun v hv => by
        have := sw_iff.1 h.sw v hv
        rw [keepP_iff] at this ⊢
        rcases this with ⟨s, hs, hh⟩ | hh
        · exact .inl ⟨s, insS_mem.2 (.inr hs), hh⟩
        · exact .inr hh) }
  split
  · have := h.sub (S := M.S.filter fun s => decide (s.name ≠ f.name)) (g := id) (q := keepP (M.S.filter fun s => decide (s.name ≠ f.name))) (fun s hs => (List.mem_filter.1 hs).1) (h.ss.sublist List.filter_sublist) (List.length_filter_le _ _) (fun v => ⟨rfl, rfl, rfl, rfl⟩) (fun v _ hr => hr) (fun v _ => rfl)
    rw [map_id_filter] at this
    exact this
  split
  · have := h.sub (S := M.S) (g := moveV f.moves) (q := keepP M.S) (fun s hs => hs) h.ss (Nat.le_refl _) (fun v => ⟨rfl, rfl, rfl, by simp [moveV]⟩) (fun v _ hr r hr' => by
      obtain ⟨r0, h0, rfl⟩ := List.mem_map.1 hr'
      exact moveR_right hmo (hr r0 h0)) (fun v _ => rfl)
    have e : (M.V.map (moveV f.moves)).filter (keepP M.S) = M.V.map (moveV f.moves) := List.filter_eq_self.2 fun w hw => by
      obtain ⟨v, hv, rfl⟩ := List.mem_map.1 hw
      exact sw_iff.1 h.sw v hv
    rw [e] at this
    exact this
  split
  · exact h.fold _
  exact h
theorem inv0 : Inv ⟨[], [], 0⟩ := by
  constructor <;> simp [SrtG, nms, fof, sweepV]
end Go.Proofs.YtjafpncngmbcdaaGreat.Nam
