import Derived.Test.YtabpaknfenpkoaaGreatSlB
set_option linter.unusedSimpArgs false
set_option linter.unusedVariables false
set_option linter.unusedSectionVars false
set_option linter.unusedVariables false
namespace Go.Proofs.YtabpaknfenpkoaaGreat.Mod
/-- A generation of a file. -/
structure Ver where
  name : List UInt8
  gen : Int
  time : Int
  text : List UInt8
  gone : Bool
deriving DecidableEq
/-- A snapshot. -/
structure Sn where
  name : List UInt8
  held : List (List UInt8 × Int)
deriving DecidableEq
/-- A session. -/
structure Se where
  n : Int
  name : List UInt8
  text : List UInt8
deriving DecidableEq
structure Mo where
  V : List Ver
  S : List Sn
  O : List Se
  began : Int
  now : Int
  quota : Int
deriving DecidableEq
/-- What is to be done. -/
structure Od where
  d : Int
  n : Int
  name : List UInt8
  shot : List UInt8
  gen : Int
  from_ : Int
  size : Int
  bytes : List UInt8
  last : Int
  young : Int
  step : Int
  count : Int
/-- What is answered. -/
structure Ans where
  e : Int
  n : Int
  bytes : List UInt8
  names : List (List UInt8 × Int)
deriving DecidableEq
def nameOk (s : List UInt8) : Bool := decide (s ≠ [] ∧ s.length ≤ 32 ∧ ∀ c ∈ s, 33 ≤ c.toNat ∧ c.toNat ≤ 126)

/-! ### lists -/
theorem slt_trans {a b c : List UInt8} (h1 : a < b) (h2 : b < c) : a < c := List.lt_trans h1 h2
theorem slt_irr (a : List UInt8) : ¬ a < a := List.lt_irrefl a
theorem slt_ne {a b : List UInt8} (h : a < b) : a ≠ b := fun e => slt_irr b (e ▸ h)
theorem slt_asymm {a b : List UInt8} (h : a < b) : ¬ b < a := fun h' => slt_irr a (slt_trans h h')
theorem slt_of {a b : List UInt8} (h : ¬ b < a) (hne : a ≠ b) : a < b := by
  have h1 : a ≤ b := h
  rcases (Decidable.em (a < b)) with h2 | h2
  · exact h2
  · exact absurd (List.le_antisymm h1 h2) hne
theorem sle_iff {a b : List UInt8} : a ≤ b ↔ ¬ b < a := Iff.rfl
theorem sle_or {a b : List UInt8} (h : a ≤ b) : a < b ∨ a = b := by
  by_cases he : a = b
  · exact .inr he
  · exact .inl (slt_of h he)
theorem slt_le_trans {a b c : List UInt8} (h1 : a < b) (h2 : b ≤ c) : a < c := by
  rcases sle_or h2 with h | h
  · exact slt_trans h1 h
  · exact h ▸ h1
/-- Where the last one stands for which p holds. -/
def lastIdx {α : Type} (p : α → Bool) : List α → Option Nat
  | [] => none
  | a :: l => match lastIdx p l with
    | some i => some (i + 1)
    | none => if p a then some 0 else none
theorem lastIdx_none {α : Type} {p : α → Bool} : ∀ {l : List α}, lastIdx p l = none → ∀ a ∈ l, p a = false
  | [], _, a, h => by cases h
  | b :: l, hn, a, h => by
    unfold lastIdx at hn
    cases hl : lastIdx p l with
    | some i => rw [hl] at hn; cases hn
    | none =>
      rw [hl] at hn
      simp only at hn
      have hb : p b = false := by
        cases hb : p b with
        | false => rfl
        | true => rw [hb] at hn; cases hn
      rcases List.mem_cons.1 h with rfl | h
      · exact hb
      · exact lastIdx_none hl a h
theorem lastIdx_of_none {α : Type} {p : α → Bool} : ∀ {l : List α}, (∀ a ∈ l, p a = false) → lastIdx p l = none
  | [], _ => rfl
  | b :: l, h => by
    unfold lastIdx
    rw [lastIdx_of_none (l := l) fun a ha => h a (List.mem_cons_of_mem _ ha)]
    simp [h b (by simp)]
theorem lastIdx_of {α : Type} {p : α → Bool} : ∀ {l : List α} {i : Nat} {a : α}, l[i]? = some a → p a = true → (∀ j b, i < j → l[j]? = some b → p b = false) → lastIdx p l = some i
  | [], i, a, h, _, _ => by simp at h
  | b :: l, 0, a, h, hp, hn => by
    unfold lastIdx
    rw [lastIdx_of_none (l := l) fun c hc => by
      obtain ⟨j, hj, rfl⟩ := List.getElem_of_mem hc
      exact hn (j + 1) _ (by omega) (by rw [List.getElem?_cons_succ, List.getElem?_eq_getElem hj])]
    have : b = a := by simpa using h
    subst this
    simp [hp]
  | b :: l, i + 1, a, h, hp, hn => by
    unfold lastIdx
    rw [lastIdx_of (l := l) (i := i) (a := a) (by simpa using h) hp fun j c hj hc => hn (j + 1) c (by omega) (by simpa using hc)]
theorem lastIdx_some {α : Type} {p : α → Bool} : ∀ {l : List α} {i : Nat}, lastIdx p l = some i → ∃ a, l[i]? = some a ∧ p a = true ∧ (l.filter p).getLast? = some a
  | [], i, h => by cases h
  | b :: l, i, h => by
    unfold lastIdx at h
    cases hl : lastIdx p l with
    | some j =>
      rw [hl] at h
      cases h
      obtain ⟨a, h1, h2, h3⟩ := lastIdx_some hl
      refine ⟨a, by simpa using h1, h2, ?_⟩
      rw [List.filter_cons]
      split
      · rw [List.getLast?_cons, h3]; rfl
      · exact h3
    | none =>
      rw [hl] at h
      simp only at h
      cases hb : p b with
      | false => rw [hb] at h; cases h
      | true =>
        rw [hb] at h
        cases h
        refine ⟨b, rfl, hb, ?_⟩
        have : l.filter p = [] := List.filter_eq_nil_iff.2 fun a ha => by simp [lastIdx_none hl a ha]
        rw [List.filter_cons, hb, if_pos rfl, this]; rfl
theorem lastIdx_getLast {α : Type} {p : α → Bool} {l : List α} : (lastIdx p l = none ∧ (l.filter p).getLast? = none) ∨ ∃ i a, lastIdx p l = some i ∧ l[i]? = some a ∧ p a = true ∧ (l.filter p).getLast? = some a := by
  cases h : lastIdx p l with
  | none => exact .inl ⟨rfl, by rw [List.filter_eq_nil_iff.2 fun a ha => by simp [lastIdx_none h a ha]]; rfl⟩
  | some i => obtain ⟨a, h1, h2, h3⟩ := lastIdx_some h; exact .inr ⟨i, a, rfl, h1, h2, h3⟩
theorem lastIdx_snoc {α : Type} {p : α → Bool} (l : List α) (a : α) : lastIdx p (l ++ [a]) = if p a then some l.length else lastIdx p l := by
  induction l with
  | nil => simp [lastIdx]
  | cons b l ih =>
    rw [List.cons_append]
    unfold lastIdx
    rw [ih]
    cases p a <;> simp

/-! ### files -/
def fof (V : List Ver) (k : List UInt8) : List Ver := V.filter fun v => decide (v.name = k)
theorem fof_mem {V : List Ver} {k : List UInt8} {v : Ver} : v ∈ fof V k ↔ v ∈ V ∧ v.name = k := by simp [fof]
/-- The files' names. -/
def nms : List Ver → List (List UInt8)
  | [] => []
  | v :: t => if (nms t).head? = some v.name then nms t else v.name :: nms t
theorem nms_head : ∀ V : List Ver, (nms V).head? = V.head?.map (·.name)
  | [] => rfl
  | v :: t => by
    unfold nms
    split
    · rename_i h; rw [h]; rfl
    · rfl
theorem nms_mem : ∀ {V : List Ver} {k : List UInt8}, k ∈ nms V ↔ ∃ v ∈ V, v.name = k
  | [], k => by simp [nms]
  | v :: t, k => by
    have ih := nms_mem (V := t) (k := k)
    unfold nms
    split
    · rename_i h
      constructor
      · intro hk
        obtain ⟨w, hw, he⟩ := ih.1 hk
        exact ⟨w, List.mem_cons_of_mem _ hw, he⟩
      · rintro ⟨w, hw, he⟩
        rcases List.mem_cons.1 hw with rfl | hw
        · exact he ▸ List.mem_of_head? h
        · exact ih.2 ⟨w, hw, he⟩
    · rw [List.mem_cons, ih]
      constructor
      · rintro (rfl | ⟨w, hw, he⟩)
        · exact ⟨v, by simp, rfl⟩
        · exact ⟨w, List.mem_cons_of_mem _ hw, he⟩
      · rintro ⟨w, hw, he⟩
        rcases List.mem_cons.1 hw with rfl | hw
        · exact .inl he.symm
        · exact .inr ⟨w, hw, he⟩
def SrtN (V : List Ver) : Prop := V.Pairwise fun a b => a.name ≤ b.name
theorem nms_lt : ∀ {V : List Ver}, SrtN V → (nms V).Pairwise (· < ·)
  | [], _ => .nil
  | v :: t, h => by
    have ht := (List.pairwise_cons.1 h).2
    have hv := (List.pairwise_cons.1 h).1
    have ih := nms_lt ht
    unfold nms
    split
    · exact ih
    · rename_i hh
      refine List.pairwise_cons.2 ⟨fun k hk => ?_, ih⟩
      obtain ⟨w, hw, rfl⟩ := nms_mem.1 hk
      rcases sle_or (hv w hw) with hlt | heq
      · exact hlt
      · exfalso
        rw [nms_head] at hh
        cases t with
        | nil => cases hw
        | cons u t =>
          simp only [List.head?_cons, Option.map_some, Option.some.injEq] at hh
          have h1 : v.name ≤ u.name := hv u (by simp)
          have h2 : u.name ≤ w.name := by
            rcases List.mem_cons.1 hw with rfl | hw
            · exact List.le_refl _
            · exact (List.pairwise_cons.1 ht).1 w hw
          rw [← heq] at h2
          exact hh (List.le_antisymm h2 h1)
theorem fof_none {V : List Ver} {k : List UInt8} (h : k ∉ nms V) : fof V k = [] := List.filter_eq_nil_iff.2 fun v hv => by
  simp only [decide_eq_true_eq]
  exact fun e => h (nms_mem.2 ⟨v, hv, e⟩)
theorem fof_some {V : List Ver} {k : List UInt8} (h : k ∈ nms V) : fof V k ≠ [] := by
  obtain ⟨v, hv, e⟩ := nms_mem.1 h
  exact List.ne_nil_of_mem (fof_mem.2 ⟨hv, e⟩)
theorem flatMap_congr' {α β : Type} {f g : α → List β} {l : List α} (h : ∀ a ∈ l, f a = g a) : l.flatMap f = l.flatMap g := by
  induction l with
  | nil => rfl
  | cons a l ih => rw [List.flatMap_cons, List.flatMap_cons, h a (by simp), ih fun b hb => h b (List.mem_cons_of_mem _ hb)]
/-- A book is its files, one behind the other. -/
theorem V_flat : ∀ {V : List Ver}, SrtN V → V = (nms V).flatMap (fof V)
  | [], _ => rfl
  | v :: t, h => by
    have ht := (List.pairwise_cons.1 h).2
    have ih := V_flat ht
    have hlt := nms_lt h
    have hltt := nms_lt ht
    have hother : ∀ k, k ≠ v.name → fof (v :: t) k = fof t k := fun k hk => by
      unfold fof; rw [List.filter_cons, if_neg (by simpa using Ne.symm hk)]
    have hsame : fof (v :: t) v.name = v :: fof t v.name := by
      unfold fof; rw [List.filter_cons, if_pos (by simp)]
    have hn : nms (v :: t) = if (nms t).head? = some v.name then nms t else v.name :: nms t := rfl
    by_cases hh : (nms t).head? = some v.name
    · rw [if_pos hh] at hn
      rw [hn]
      cases hl : nms t with
      | nil => rw [hl] at hh; cases hh
      | cons k ks =>
        rw [hl] at hh ih hltt
        have hk : k = v.name := by simpa using hh
        subst hk
        rw [List.flatMap_cons, hsame, List.cons_append]
        congr 1
        conv => lhs; rw [ih]
        rw [List.flatMap_cons]
        congr 1
        exact flatMap_congr' fun k hk => (hother k (Ne.symm (slt_ne ((List.pairwise_cons.1 hltt).1 k hk)))).symm
    · rw [if_neg hh] at hn
      rw [hn] at hlt ⊢
      have hno : v.name ∉ nms t := fun hm => slt_irr _ ((List.pairwise_cons.1 hlt).1 _ hm)
      rw [List.flatMap_cons, hsame, fof_none hno]
      show v :: t = v :: ([] ++ _)
      congr 1
      conv => lhs; rw [ih]
      rw [List.nil_append]
      exact flatMap_congr' fun k hk => (hother k fun e => hno (e ▸ hk)).symm

end Go.Proofs.YtabpaknfenpkoaaGreat.Mod
