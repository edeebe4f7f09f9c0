/-
  Names: the document's book with one file other, one snapshot more or fewer (plain).
-/
import Derived.Test.YtjafpncngmbcdaaGreatNnD
set_option linter.unusedSimpArgs false
set_option linter.unusedVariables false
set_option linter.unusedSectionVars false
namespace Go.Proofs.YtjafpncngmbcdaaGreat.Nam
open Go Go.SL
variable {M : Bk} {f : Fa}
variable {fv sv : Cv} {L : List FC} {LS : List SC} {Pf : List (Value × List FC)} {Lv : List (Value × List VR)} {Lr : List (Value × List Rf)} {Ps : List (Value × List SC)} {Lh : List (Value × List (List UInt8 × Int))}
theorem nms_map {V : List Ver} {g : Ver → Ver} (hg : ∀ v, (g v).name = v.name) : nms (V.map g) = nms V := by
  induction V with
  | nil => rfl
  | cons v t ih =>
    rw [List.map_cons]
    unfold nms
    rw [ih, hg]
theorem mem_tw {α : Type} {p : α → Bool} : ∀ {l : List α} {x : α}, x ∈ l.takeWhile p → p x = true
  | [], x, h => by cases h
  | y :: t, x, h => by
    rw [List.takeWhile_cons] at h
    by_cases hy : p y = true
    · rw [if_pos hy] at h
      rcases List.mem_cons.1 h with rfl | h
      · exact hy
      · exact mem_tw h
    · rw [if_neg hy] at h; cases h
theorem pos_take {ns : List (List UInt8)} {k : List UInt8} : ∀ x ∈ ns.take (posL ns k), x < k := by
  have : ns.take (posL ns k) = ns.takeWhile (fun x => decide (x < k)) := by
    unfold posL
    conv => lhs; arg 2; rw [← List.takeWhile_append_dropWhile (p := fun x => decide (x < k)) (l := ns)]
    rw [List.take_left]
  rw [this]
  intro x hx
  simpa using mem_tw hx
theorem pos_drop {ns : List (List UInt8)} {k : List UInt8} (hs : ns.Pairwise (· < ·)) : ∀ x ∈ ns.drop (posL ns k), ¬ x < k := by
  induction ns with
  | nil => intro x hx; simp at hx
  | cons y t ih =>
    intro x hx
    have ht := (List.pairwise_cons.1 hs).2
    unfold posL at hx
    rw [List.takeWhile_cons] at hx
    by_cases hy : y < k
    · rw [if_pos (by simpa using hy), List.length_cons, List.drop_succ_cons] at hx
      exact ih ht x hx
    · rw [if_neg (by simpa using hy), List.length_nil, List.drop_zero] at hx
      rcases List.mem_cons.1 hx with rfl | hx
      · exact hy
      · exact fun h => hy (slt_trans ((List.pairwise_cons.1 hs).1 x hx) h)
theorem pos_drop1 {ns : List (List UInt8)} {k : List UInt8} (hs : ns.Pairwise (· < ·)) (hk : k ∈ ns) : ∀ x ∈ ns.drop (posL ns k + 1), k < x := by
  intro x hx
  have hp := pos_mem hs hk
  obtain ⟨hi, he⟩ := List.getElem?_eq_some_iff.1 hp
  obtain ⟨j, hj, rfl⟩ := List.mem_drop_iff_getElem.1 hx
  have := List.pairwise_iff_getElem.1 hs (posL ns k) (posL ns k + 1 + j) hi (by omega) (by omega)
  rw [he] at this; exact this
theorem split_at {α : Type} {l : List α} {i : Nat} {x : α} (h : l[i]? = some x) : l.take i ++ [x] ++ l.drop (i + 1) = l := by
  obtain ⟨hi, e⟩ := List.getElem?_eq_some_iff.1 h
  rw [List.append_assoc, List.singleton_append, ← e, List.getElem_cons_drop, List.take_append_drop]
theorem nms_insV_in {V : List Ver} {v : Ver} (hs : SrtN V) (hs' : SrtN (insV V v)) (hn : v.name ∈ nms V) : nms (insV V v) = nms V := by
  refine sorted_ext (r := (· < ·)) (fun a b h => slt_asymm h) (nms_lt hs') (nms_lt hs) fun k => ?_
  rw [nms_mem, nms_mem]
  constructor
  · rintro ⟨w, hw, e⟩
    rcases insV_mem.1 hw with rfl | hw
    · obtain ⟨u, hu, e'⟩ := nms_mem.1 hn
      exact ⟨u, hu, e'.trans e⟩
    · exact ⟨w, hw, e⟩
  · rintro ⟨w, hw, e⟩
    exact ⟨w, insV_mem.2 (.inr hw), e⟩
theorem ins_sorted {ns : List (List UInt8)} {k : List UInt8} (hs : ns.Pairwise (· < ·)) (hk : k ∉ ns) : (ns.take (posL ns k) ++ [k] ++ ns.drop (posL ns k)).Pairwise (· < ·) := by
  have h1 := hs
  rw [← List.take_append_drop (posL ns k) ns] at h1
  obtain ⟨hA, hC, hAC⟩ := List.pairwise_append.1 h1
  rw [List.append_assoc, List.singleton_append]
  refine List.pairwise_append.2 ⟨hA, List.pairwise_cons.2 ⟨fun x hx => ?_, hC⟩, fun x hx y hy => ?_⟩
  · refine slt_of (pos_drop hs x hx) fun e => hk ?_
    rw [e]; exact List.mem_of_mem_drop hx
  · rcases List.mem_cons.1 hy with rfl | hy
    · exact pos_take x hx
    · exact hAC x hx y hy
theorem nms_insV_out {V : List Ver} {v : Ver} (hs : SrtN V) (hs' : SrtN (insV V v)) (hn : v.name ∉ nms V) : nms (insV V v) = (nms V).take (posL (nms V) v.name) ++ [v.name] ++ (nms V).drop (posL (nms V) v.name) := by
  refine sorted_ext (r := (· < ·)) (fun a b h => slt_asymm h) (nms_lt hs') (ins_sorted (nms_lt hs) hn) fun k => ?_
  rw [List.append_assoc, List.singleton_append, List.mem_append, List.mem_cons]
  have e : k ∈ nms V ↔ k ∈ (nms V).take (posL (nms V) v.name) ∨ k ∈ (nms V).drop (posL (nms V) v.name) := by
    conv => lhs; rw [← List.take_append_drop (posL (nms V) v.name) (nms V)]
    exact List.mem_append
  rw [nms_mem]
  constructor
  · rintro ⟨w, hw, rfl⟩
    rcases insV_mem.1 hw with rfl | hw
    · exact .inr (.inl rfl)
    · rcases e.1 (nms_mem.2 ⟨w, hw, rfl⟩) with h | h
      · exact .inl h
      · exact .inr (.inr h)
  · rintro (h | h | h)
    · obtain ⟨w, hw, e'⟩ := nms_mem.1 (e.2 (.inl h)); exact ⟨w, insV_mem.2 (.inr hw), e'⟩
    · exact ⟨v, insV_mem.2 (.inl rfl), h.symm⟩
    · obtain ⟨w, hw, e'⟩ := nms_mem.1 (e.2 (.inr h)); exact ⟨w, insV_mem.2 (.inr hw), e'⟩
/-- One file is another. -/
theorem FsOk.put {V V' : List Ver} {Lv' : List (Value × List VR)} {Lr' : List (Value × List Rf)} {k : List UInt8} {c : Cv} {l : List VR} (h : FsOk Lv Lr L V) (hs : SrtN V) (hk : k ∈ nms V) (hn : nms V' = nms V) (ho : ∀ k', k' ≠ k → fof V' k' = fof V k') (hv : VOk Lv' Lr' c.1 l (fof V' k)) (hL : ∀ p ∈ Lv, p ∈ Lv') (hR : ∀ p ∈ Lr, p ∈ Lr') :
    FsOk Lv' Lr' (L.take (posL (nms V) k) ++ [(k, c)] ++ L.drop (posL (nms V) k + 1)) V' := by
  have hns := nms_lt hs
  have ht : ∀ i, (L.take i).map (·.1) = (nms V).take i := fun i => by rw [List.map_take, h.1]
  have hd : ∀ i, (L.drop i).map (·.1) = (nms V).drop i := fun i => by rw [List.map_drop, h.1]
  constructor
  · rw [hn, List.map_append, List.map_append, ht, hd]
    exact split_at (pos_mem hns hk)
  · intro p hp
    rw [List.append_assoc] at hp
    rcases List.mem_append.1 hp with hp | hp
    · have hne : p.1 ≠ k := slt_ne (pos_take p.1 (by rw [← ht]; exact List.mem_map_of_mem hp))
      obtain ⟨l', hl'⟩ := h.2 p (List.mem_of_mem_take hp)
      rw [ho _ hne]; exact ⟨l', hl'.mono hL hR⟩
    · rcases List.mem_append.1 hp with hp | hp
      · simp only [List.mem_singleton] at hp
        subst hp; exact ⟨l, hv⟩
      · have hne : p.1 ≠ k := fun e => slt_ne (pos_drop1 hns hk p.1 (by rw [← hd]; exact List.mem_map_of_mem hp)) e.symm
        obtain ⟨l', hl'⟩ := h.2 p (List.mem_of_mem_drop hp)
        rw [ho _ hne]; exact ⟨l', hl'.mono hL hR⟩
/-- One file more. -/
theorem FsOk.ins {V : List Ver} {v : Ver} {Lv' : List (Value × List VR)} {Lr' : List (Value × List Rf)} {c : Cv} {l : List VR} (h : FsOk Lv Lr L V) (hs : SrtN V) (hs' : SrtN (insV V v)) (hk : v.name ∉ nms V) (hv : VOk Lv' Lr' c.1 l (fof (insV V v) v.name)) (hL : ∀ p ∈ Lv, p ∈ Lv') (hR : ∀ p ∈ Lr, p ∈ Lr') :
    FsOk Lv' Lr' (L.take (posL (nms V) v.name) ++ [(v.name, c)] ++ L.drop (posL (nms V) v.name)) (insV V v) := by
  have ht : ∀ i, (L.take i).map (·.1) = (nms V).take i := fun i => by rw [List.map_take, h.1]
  have hd : ∀ i, (L.drop i).map (·.1) = (nms V).drop i := fun i => by rw [List.map_drop, h.1]
  constructor
  · rw [nms_insV_out hs hs' hk, List.map_append, List.map_append, ht, hd]; rfl
  · intro p hp
    have hold : p ∈ L → ∃ l, VOk Lv' Lr' p.2.1 l (fof (insV V v) p.1) := fun hp => by
      obtain ⟨l', hl'⟩ := h.2 p hp
      have hne : p.1 ≠ v.name := fun e => hk (by rw [← e, ← h.1]; exact List.mem_map_of_mem hp)
      rw [fof_insV hs, if_neg hne]; exact ⟨l', hl'.mono hL hR⟩
    rw [List.append_assoc] at hp
    rcases List.mem_append.1 hp with hp | hp
    · exact hold (List.mem_of_mem_take hp)
    · rcases List.mem_append.1 hp with hp | hp
      · simp only [List.mem_singleton] at hp
        subst hp; exact ⟨l, hv⟩
      · exact hold (List.mem_of_mem_drop hp)
theorem insS_pos {S : List Sn} (s : Sn) : insS S s = S.take (posL (S.map fun s : Sn => s.name) s.name) ++ [s] ++ S.drop (posL (S.map fun s : Sn => s.name) s.name) := by
  have e : posL (S.map fun s : Sn => s.name) s.name = (S.takeWhile fun u => decide (u.name < s.name)).length := by
    unfold posL
    rw [List.takeWhile_map, List.length_map]; rfl
  rw [e]
  unfold insS
  have h1 : S.take (S.takeWhile fun u => decide (u.name < s.name)).length = S.takeWhile fun u => decide (u.name < s.name) := by
    conv => lhs; arg 2; rw [← List.takeWhile_append_dropWhile (p := fun u : Sn => decide (u.name < s.name)) (l := S)]
    rw [List.take_left]
  have h2 : S.drop (S.takeWhile fun u => decide (u.name < s.name)).length = S.dropWhile fun u => decide (u.name < s.name) := by
    conv => lhs; arg 2; rw [← List.takeWhile_append_dropWhile (p := fun u : Sn => decide (u.name < s.name)) (l := S)]
    rw [List.drop_left]
  rw [h1, h2, List.append_assoc, List.singleton_append]
theorem delS_pos {S : List Sn} {n : List UInt8} (hs : S.Pairwise fun a b => a.name < b.name) (hn : n ∈ S.map fun s : Sn => s.name) : S.filter (fun s => decide (s.name ≠ n)) = S.take (posL (S.map fun s : Sn => s.name) n) ++ S.drop (posL (S.map fun s : Sn => s.name) n + 1) := by
  have hss := List.pairwise_map.2 hs
  have hp := pos_mem hss hn
  rw [List.getElem?_map] at hp
  obtain ⟨t, ht, hts⟩ := Option.map_eq_some_iff.1 hp
  have hsp := split_at ht
  conv => lhs; rw [← hsp]
  rw [List.filter_append, List.filter_append]
  have h1 : (S.take (posL (S.map fun s : Sn => s.name) n)).filter (fun s => decide (s.name ≠ n)) = S.take (posL (S.map fun s : Sn => s.name) n) := List.filter_eq_self.2 fun s hs' => by
    have := pos_take (ns := S.map fun s : Sn => s.name) (k := n) s.name (by rw [← List.map_take]; exact List.mem_map_of_mem hs')
    simpa using slt_ne this
  have h2 : (S.drop (posL (S.map fun s : Sn => s.name) n + 1)).filter (fun s => decide (s.name ≠ n)) = S.drop (posL (S.map fun s : Sn => s.name) n + 1) := List.filter_eq_self.2 fun s hs' => by
    have := pos_drop1 hss hn s.name (by rw [← List.map_drop]; exact List.mem_map_of_mem (f := fun s : Sn => s.name) hs')
    simpa using fun e => slt_ne this e.symm
  rw [h1, h2]
  simp [hts]
end Go.Proofs.YtjafpncngmbcdaaGreat.Nam
