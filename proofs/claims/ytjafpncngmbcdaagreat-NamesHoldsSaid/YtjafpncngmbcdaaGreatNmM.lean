/-
  Names: facts, books, what becomes of them (plain).
-/
import Derived.Test.YtjafpncngmbcdaaGreatSlB
set_option linter.unusedSimpArgs false
set_option linter.unusedVariables false
set_option linter.unusedSectionVars false
set_option linter.unusedVariables false
namespace Go.Proofs.YtjafpncngmbcdaaGreat.Nam
open Go Go.SL
/-- A chunk of a file. -/
structure Rf where
  sum : { l : List UInt8 // l.length = 32 }
  len : Int
  bin : Int
  slot : Int
deriving DecidableEq
/-- A generation. -/
structure Ver where
  name : List UInt8
  gen : Int
  time : Int
  refs : List Rf
  gone : Bool
deriving DecidableEq
/-- A snapshot. -/
structure Sn where
  name : List UInt8
  time : Int
  held : List (List UInt8 × Int)
deriving DecidableEq
structure Mv where
  fb : Int
  fs : Int
  tb : Int
  ts : Int
deriving DecidableEq
structure Bk where
  V : List Ver
  S : List Sn
  now : Int
deriving DecidableEq
structure Fa where
  k : Int
  bin : Int
  at_ : Int
  n : Int
  name : List UInt8
  gen : Int
  time : Int
  refs : List Rf
  held : List (List UInt8 × Int)
  moves : List Mv
  last : Int
  young : Int
  step : Int
  count : Int
def nameOk (s : List UInt8) : Bool := decide (s ≠ [] ∧ s.length ≤ 32 ∧ ∀ c ∈ s, 33 ≤ c.toNat ∧ c.toNat ≤ 126)

/-! ### lists -/
theorem slt_trans {a b c : List UInt8} (h1 : a < b) (h2 : b < c) : a < c := List.lt_trans h1 h2
theorem slt_irr (a : List UInt8) : ¬ a < a := List.lt_irrefl a
theorem slt_ne {a b : List UInt8} (h : a < b) : a ≠ b := fun e => slt_irr b (e ▸ h)
theorem slt_asymm {a b : List UInt8} (h : a < b) : ¬ b < a := fun h' => slt_irr a (slt_trans h h')
theorem slt_of {a b : List UInt8} (h : ¬ b < a) (hne : a ≠ b) : a < b := by
  have h1 : a ≤ b := h
  rcases (Decidable.em (a < b)) with h2 | h2
  · exact h2
  · exact absurd (List.le_antisymm h1 h2) hne
theorem sle_iff {a b : List UInt8} : a ≤ b ↔ ¬ b < a := Iff.rfl
theorem sle_or {a b : List UInt8} (h : a ≤ b) : a < b ∨ a = b := by
  by_cases he : a = b
  · exact .inr he
  · exact .inl (slt_of h he)
theorem slt_le_trans {a b c : List UInt8} (h1 : a < b) (h2 : b ≤ c) : a < c := by
  rcases sle_or h2 with h | h
  · exact slt_trans h1 h
  · exact h ▸ h1
/-- Where the last one stands for which p holds. -/
def lastIdx {α : Type} (p : α → Bool) : List α → Option Nat
  | [] => none
  | a :: l => match lastIdx p l with
    | some i => some (i + 1)
    | none => if p a then some 0 else none
theorem lastIdx_none {α : Type} {p : α → Bool} : ∀ {l : List α}, lastIdx p l = none → ∀ a ∈ l, p a = false
  | [], _, a, h => by cases h
  | b :: l, hn, a, h => by
    unfold lastIdx at hn
    cases hl : lastIdx p l with
    | some i => rw [hl] at hn; cases hn
    | none =>
      rw [hl] at hn
      simp only at hn
      have hb : p b = false := by
        cases hb : p b with
        | false => rfl
        | true => rw [hb] at hn; cases hn
      rcases List.mem_cons.1 h with rfl | h
      · exact hb
      · exact lastIdx_none hl a h
theorem lastIdx_of_none {α : Type} {p : α → Bool} : ∀ {l : List α}, (∀ a ∈ l, p a = false) → lastIdx p l = none
  | [], _ => rfl
  | b :: l, h => by
    unfold lastIdx
    rw [lastIdx_of_none (l := l) fun a ha => h a (List.mem_cons_of_mem _ ha)]
    simp [h b (by simp)]
theorem lastIdx_of {α : Type} {p : α → Bool} : ∀ {l : List α} {i : Nat} {a : α}, l[i]? = some a → p a = true → (∀ j b, i < j → l[j]? = some b → p b = false) → lastIdx p l = some i
  | [], i, a, h, _, _ => by simp at h
  | b :: l, 0, a, h, hp, hn => by
    unfold lastIdx
    rw [lastIdx_of_none (l := l) fun c hc => by
      obtain ⟨j, hj, rfl⟩ := List.getElem_of_mem hc
      exact hn (j + 1) _ (by omega) (by rw [List.getElem?_cons_succ, List.getElem?_eq_getElem hj])]
    have : b = a := by simpa using h
    subst this
    simp [hp]
  | b :: l, i + 1, a, h, hp, hn => by
    unfold lastIdx
    rw [lastIdx_of (l := l) (i := i) (a := a) (by simpa using h) hp fun j c hj hc => hn (j + 1) c (by omega) (by simpa using hc)]
theorem lastIdx_some {α : Type} {p : α → Bool} : ∀ {l : List α} {i : Nat}, lastIdx p l = some i → ∃ a, l[i]? = some a ∧ p a = true ∧ (l.filter p).getLast? = some a
  | [], i, h => by cases h
  | b :: l, i, h => by
    unfold lastIdx at h
    cases hl : lastIdx p l with
    | some j =>
      rw [hl] at h
      cases h
      obtain ⟨a, h1, h2, h3⟩ := lastIdx_some hl
      refine ⟨a, by simpa using h1, h2, ?_⟩
      rw [List.filter_cons]
      split
      · rw [List.getLast?_cons, h3]; rfl
      · exact h3
    | none =>
      rw [hl] at h
      simp only at h
      cases hb : p b with
      | false => rw [hb] at h; cases h
      | true =>
        rw [hb] at h
        cases h
        refine ⟨b, rfl, hb, ?_⟩
        have : l.filter p = [] := List.filter_eq_nil_iff.2 fun a ha => by simp [lastIdx_none hl a ha]
        rw [List.filter_cons, hb, if_pos rfl, this]; rfl
theorem lastIdx_getLast {α : Type} {p : α → Bool} {l : List α} : (lastIdx p l = none ∧ (l.filter p).getLast? = none) ∨ ∃ i a, lastIdx p l = some i ∧ l[i]? = some a ∧ p a = true ∧ (l.filter p).getLast? = some a := by
  cases h : lastIdx p l with
  | none => exact .inl ⟨rfl, by rw [List.filter_eq_nil_iff.2 fun a ha => by simp [lastIdx_none h a ha]]; rfl⟩
  | some i => obtain ⟨a, h1, h2, h3⟩ := lastIdx_some h; exact .inr ⟨i, a, rfl, h1, h2, h3⟩
theorem lastIdx_snoc {α : Type} {p : α → Bool} (l : List α) (a : α) : lastIdx p (l ++ [a]) = if p a then some l.length else lastIdx p l := by
  induction l with
  | nil => simp [lastIdx]
  | cons b l ih =>
    rw [List.cons_append]
    unfold lastIdx
    rw [ih]
    cases p a <;> simp

/-! ### files -/
def fof (V : List Ver) (k : List UInt8) : List Ver := V.filter fun v => decide (v.name = k)
theorem fof_mem {V : List Ver} {k : List UInt8} {v : Ver} : v ∈ fof V k ↔ v ∈ V ∧ v.name = k := by simp [fof]
/-- The files' names. -/
def nms : List Ver → List (List UInt8)
  | [] => []
  | v :: t => if (nms t).head? = some v.name then nms t else v.name :: nms t
theorem nms_head : ∀ V : List Ver, (nms V).head? = V.head?.map (·.name)
  | [] => rfl
  | v :: t => by
    unfold nms
    split
    · rename_i h; rw [h]; rfl
    · rfl
theorem nms_mem : ∀ {V : List Ver} {k : List UInt8}, k ∈ nms V ↔ ∃ v ∈ V, v.name = k
  | [], k => by simp [nms]
  | v :: t, k => by
    have ih := nms_mem (V := t) (k := k)
    unfold nms
    split
    · rename_i h
      constructor
      · intro hk
        obtain ⟨w, hw, he⟩ := ih.1 hk
        exact ⟨w, List.mem_cons_of_mem _ hw, he⟩
      · rintro ⟨w, hw, he⟩
        rcases List.mem_cons.1 hw with rfl | hw
        · exact he ▸ List.mem_of_head? h
        · exact ih.2 ⟨w, hw, he⟩
    · rw [List.mem_cons, ih]
      constructor
      · rintro (rfl | ⟨w, hw, he⟩)
        · exact ⟨v, by simp, rfl⟩
        · exact ⟨w, List.mem_cons_of_mem _ hw, he⟩
      · rintro ⟨w, hw, he⟩
        rcases List.mem_cons.1 hw with rfl | hw
        · exact .inl he.symm
        · exact .inr ⟨w, hw, he⟩
def SrtN (V : List Ver) : Prop := V.Pairwise fun a b => a.name ≤ b.name
theorem nms_lt : ∀ {V : List Ver}, SrtN V → (nms V).Pairwise (· < ·)
  | [], _ => .nil
  | v :: t, h => by
    have ht := (List.pairwise_cons.1 h).2
    have hv := (List.pairwise_cons.1 h).1
    have ih := nms_lt ht
    unfold nms
    split
    · exact ih
    · rename_i hh
      refine List.pairwise_cons.2 ⟨fun k hk => ?_, ih⟩
      obtain ⟨w, hw, rfl⟩ := nms_mem.1 hk
      rcases sle_or (hv w hw) with hlt | heq
      · exact hlt
      · exfalso
        rw [nms_head] at hh
        cases t with
        | nil => cases hw
        | cons u t =>
          simp only [List.head?_cons, Option.map_some, Option.some.injEq] at hh
          have h1 : v.name ≤ u.name := hv u (by simp)
          have h2 : u.name ≤ w.name := by
            rcases List.mem_cons.1 hw with rfl | hw
            · exact List.le_refl _
            · exact (List.pairwise_cons.1 ht).1 w hw
          rw [← heq] at h2
          exact hh (List.le_antisymm h2 h1)
theorem fof_none {V : List Ver} {k : List UInt8} (h : k ∉ nms V) : fof V k = [] := List.filter_eq_nil_iff.2 fun v hv => by
  simp only [decide_eq_true_eq]
  exact fun e => h (nms_mem.2 ⟨v, hv, e⟩)
theorem fof_some {V : List Ver} {k : List UInt8} (h : k ∈ nms V) : fof V k ≠ [] := by
  obtain ⟨v, hv, e⟩ := nms_mem.1 h
  exact List.ne_nil_of_mem (fof_mem.2 ⟨hv, e⟩)
theorem flatMap_congr' {α β : Type} {f g : α → List β} {l : List α} (h : ∀ a ∈ l, f a = g a) : l.flatMap f = l.flatMap g := by
  induction l with
  | nil => rfl
  | cons a l ih => rw [List.flatMap_cons, List.flatMap_cons, h a (by simp), ih fun b hb => h b (List.mem_cons_of_mem _ hb)]
/-- A book is its files, one behind the other. -/
theorem V_flat : ∀ {V : List Ver}, SrtN V → V = (nms V).flatMap (fof V)
  | [], _ => rfl
  | v :: t, h => by
    have ht := (List.pairwise_cons.1 h).2
    have ih := V_flat ht
    have hlt := nms_lt h
    have hltt := nms_lt ht
    have hother : ∀ k, k ≠ v.name → fof (v :: t) k = fof t k := fun k hk => by
      unfold fof; rw [List.filter_cons, if_neg (by simpa using Ne.symm hk)]
    have hsame : fof (v :: t) v.name = v :: fof t v.name := by
      unfold fof; rw [List.filter_cons, if_pos (by simp)]
    have hn : nms (v :: t) = if (nms t).head? = some v.name then nms t else v.name :: nms t := rfl
    by_cases hh : (nms t).head? = some v.name
    · rw [if_pos hh] at hn
      rw [hn]
      cases hl : nms t with
      | nil => rw [hl] at hh; cases hh
      | cons k ks =>
        rw [hl] at hh ih hltt
        have hk : k = v.name := by simpa using hh
        subst hk
        rw [List.flatMap_cons, hsame, List.cons_append]
        congr 1
        conv => lhs; rw [ih]
        rw [List.flatMap_cons]
        congr 1
        exact flatMap_congr' fun k hk => (hother k (Ne.symm (slt_ne ((List.pairwise_cons.1 hltt).1 k hk)))).symm
    · rw [if_neg hh] at hn
      rw [hn] at hlt ⊢
      have hno : v.name ∉ nms t := fun hm => slt_irr _ ((List.pairwise_cons.1 hlt).1 _ hm)
      rw [List.flatMap_cons, hsame, fof_none hno]
      show v :: t = v :: ([] ++ _)
      congr 1
      conv => lhs; rw [ih]
      rw [List.nil_append]
      exact flatMap_congr' fun k hk => (hother k fun e => hno (e ▸ hk)).symm

abbrev lk {κ β : Type} [DecidableEq κ] (kv : List (κ × β)) (k : κ) : Option β := kv.lookup k
def sof (S : List Sn) (k : List UInt8) : Option Sn := S.find? fun s => decide (s.name = k)
/-- By names, then by numbers. -/
def SrtG (V : List Ver) : Prop := V.Pairwise fun a b => a.name < b.name ∨ (a.name = b.name ∧ a.gen < b.gen)
theorem SrtG.n {V : List Ver} (h : SrtG V) : SrtN V := h.imp fun h => by
  rcases h with h | ⟨h, _⟩
  · exact List.le_of_lt h
  · rw [h]; exact List.le_refl _
theorem SrtG.uniq {V : List Ver} (h : SrtG V) {a b : Ver} (ha : a ∈ V) (hb : b ∈ V) (hn : a.name = b.name) (hg : a.gen = b.gen) : a = b := by
  induction V with
  | nil => cases ha
  | cons c t ih =>
    have hc := (List.pairwise_cons.1 h).1
    have ht := (List.pairwise_cons.1 h).2
    rcases List.mem_cons.1 ha with e1 | ha' <;> rcases List.mem_cons.1 hb with e2 | hb'
    · rw [e1, e2]
    · subst e1
      rcases hc b hb' with h1 | ⟨_, h1⟩
      · rw [hn] at h1; exact (slt_irr _ h1).elim
      · omega
    · subst e2
      rcases hc a ha' with h1 | ⟨_, h1⟩
      · rw [hn] at h1; exact (slt_irr _ h1).elim
      · omega
    · exact ih ht ha' hb'
theorem fof_srt {V : List Ver} (h : SrtG V) (k : List UInt8) : (fof V k).Pairwise fun a b => a.gen < b.gen := by
  have h1 : (fof V k).Pairwise fun a b => a.name < b.name ∨ (a.name = b.name ∧ a.gen < b.gen) := h.sublist List.filter_sublist
  refine h1.imp_of_mem fun {a b} ha hb hab => ?_
  rcases hab with h | ⟨_, h⟩
  · rw [(fof_mem.1 ha).2, (fof_mem.1 hb).2] at h; exact (slt_irr _ h).elim
  · exact h
def goneV (v : Ver) : Ver := { v with gone := true }
def markV (V : List Ver) (n : List UInt8) (g : Int) : List Ver := V.map fun v => if v.name = n ∧ v.gen = g then goneV v else v
theorem mark_f (n : List UInt8) (g : Int) (v : Ver) : (if v.name = n ∧ v.gen = g then goneV v else v).name = v.name ∧ (if v.name = n ∧ v.gen = g then goneV v else v).gen = v.gen := by split <;> exact ⟨rfl, rfl⟩
theorem fof_map {V : List Ver} {f : Ver → Ver} (hf : ∀ v, (f v).name = v.name) (k : List UInt8) : fof (V.map f) k = (fof V k).map f := by
  unfold fof
  rw [List.filter_map]
  congr 1
  refine List.filter_congr fun v _ => ?_
  simp [hf]
theorem srtG_map {V : List Ver} {f : Ver → Ver} (h : SrtG V) (hf : ∀ v, (f v).name = v.name ∧ (f v).gen = v.gen) : SrtG (V.map f) := by
  unfold SrtG
  rw [List.pairwise_map]
  refine h.imp fun {a b} hab => ?_
  rw [(hf a).1, (hf b).1, (hf a).2, (hf b).2]; exact hab
theorem fof_mark {V : List Ver} (h : SrtG V) {n : List UInt8} {i : Nat} {x : Ver} (hx : (fof V n)[i]? = some x) : fof (markV V n x.gen) n = (fof V n).set i (goneV x) := by
  unfold markV
  rw [fof_map (fun v => (mark_f n x.gen v).1)]
  apply List.ext_getElem?
  intro j
  rw [List.getElem?_map, List.getElem?_set]
  obtain ⟨hi, hxe⟩ := List.getElem?_eq_some_iff.1 hx
  by_cases hij : i = j
  · subst hij
    rw [hx, if_pos rfl, if_pos hi]
    have : x.name = n := (fof_mem.1 (List.mem_of_getElem? hx)).2
    simp [this]
  · rw [if_neg hij]
    cases hj : (fof V n)[j]? with
    | none => rfl
    | some y =>
      have hp := fof_srt h n
      obtain ⟨hjl, hye⟩ := List.getElem?_eq_some_iff.1 hj
      have hne : y.gen ≠ x.gen := by
        rcases Nat.lt_or_gt_of_ne hij with hlt | hlt
        · have := List.pairwise_iff_getElem.1 hp i j hi hjl hlt
          rw [hxe, hye] at this; omega
        · have := List.pairwise_iff_getElem.1 hp j i hjl hi hlt
          rw [hxe, hye] at this; omega
      simp [hne]
theorem fof_mark_ne {V : List Ver} {n k : List UInt8} {g : Int} (hk : k ≠ n) : fof (markV V n g) k = fof V k := by
  unfold markV
  rw [fof_map (fun v => (mark_f n g v).1)]
  conv => rhs; rw [← List.map_id (fof V k)]
  refine List.map_congr_left fun v hv => ?_
  have := (fof_mem.1 hv).2
  rw [if_neg fun h => hk (this.symm.trans h.1)]; rfl
theorem sof_of {S : List Sn} (h : S.Pairwise fun a b => a.name < b.name) {s : Sn} (hs : s ∈ S) : sof S s.name = some s := by
  induction S with
  | nil => cases hs
  | cons c t ih =>
    have hc := (List.pairwise_cons.1 h).1
    unfold sof
    rw [List.find?_cons]
    rcases List.mem_cons.1 hs with e | hs'
    · subst e; simp
    · have : ¬ c.name = s.name := slt_ne (hc s hs')
      simp only [this, decide_false]
      exact ih (List.pairwise_cons.1 h).2 hs'
theorem lk_of {κ β : Type} [DecidableEq κ] {l : List (κ × β)} (hn : (l.map (·.1)).Nodup) {k : κ} {v : β} (hm : (k, v) ∈ l) : lk l k = some v := by
  induction l with
  | nil => cases hm
  | cons p t ih =>
    obtain ⟨k', v'⟩ := p
    show List.lookup k ((k', v') :: t) = _
    rw [List.lookup_cons]
    rcases List.mem_cons.1 hm with e | hm'
    · cases e; simp
    · have hne : ¬ k = k' := by
        have h1 := (List.nodup_cons.1 (by simpa using hn : (k' :: t.map (·.1)).Nodup)).1
        intro e; subst e
        exact h1 (List.mem_map_of_mem (f := (·.1)) hm')
      have hb : (k == k') = false := by simpa using hne
      rw [hb]
      exact ih (List.nodup_cons.1 (by simpa using hn : (k' :: t.map (·.1)).Nodup)).2 hm'
theorem lk_in {κ β : Type} [DecidableEq κ] {l : List (κ × β)} {k : κ} {v : β} (h : lk l k = some v) : (k, v) ∈ l := by
  induction l with
  | nil => cases h
  | cons p t ih =>
    obtain ⟨k', v'⟩ := p
    replace h : List.lookup k ((k', v') :: t) = _ := h
    rw [List.lookup_cons] at h
    by_cases he : k = k'
    · subst he
      simp at h
      subst h; exact List.mem_cons_self ..
    · have hb : (k == k') = false := by simpa using he
      rw [hb] at h
      exact List.mem_cons_of_mem _ (ih h)
theorem sof_some {S : List Sn} {k : List UInt8} {s : Sn} (h : sof S k = some s) : s ∈ S ∧ s.name = k := by
  unfold sof at h
  exact ⟨List.mem_of_find?_eq_some h, by simpa using List.find?_some h⟩
theorem fof_filter (V : List Ver) (q : Ver → Bool) (k : List UInt8) : fof (V.filter q) k = (fof V k).filter q := by
  unfold fof
  rw [List.filter_filter, List.filter_filter]
  congr 1; funext v; exact Bool.and_comm _ _
theorem fof_len (V : List Ver) (k : List UInt8) : (fof V k).length ≤ V.length := List.length_filter_le _ _
theorem nms_len : ∀ V : List Ver, (nms V).length ≤ V.length
  | [] => Nat.le_refl _
  | v :: t => by
    have := nms_len t
    unfold nms
    split
    · simp; omega
    · simp; omega
theorem drop_gt {V : List Ver} (h : SrtN V) (n : List UInt8) : ∀ v ∈ V.dropWhile (fun u => decide (u.name ≤ n)), n < v.name := by
  induction V with
  | nil => intro v hv; cases hv
  | cons c t ih =>
    intro v hv
    rw [List.dropWhile_cons] at hv
    by_cases hc : c.name ≤ n
    · rw [if_pos (by simpa using hc)] at hv
      exact ih (List.pairwise_cons.1 h).2 v hv
    · rw [if_neg (by simpa using hc)] at hv
      have h1 : n < c.name := Decidable.not_not.1 hc
      rcases List.mem_cons.1 hv with rfl | hv
      · exact h1
      · exact slt_le_trans h1 ((List.pairwise_cons.1 h).1 v hv)
theorem take_le (n : List UInt8) : ∀ (V : List Ver), ∀ v ∈ V.takeWhile (fun u => decide (u.name ≤ n)), v.name ≤ n
  | [], v, hv => by cases hv
  | c :: t, v, hv => by
    rw [List.takeWhile_cons] at hv
    by_cases hc : c.name ≤ n
    · rw [if_pos (by simpa using hc)] at hv
      rcases List.mem_cons.1 hv with rfl | hv
      · exact hc
      · exact take_le n t v hv
    · rw [if_neg (by simpa using hc)] at hv; cases hv
theorem fof_append (A C : List Ver) (k : List UInt8) : fof (A ++ C) k = fof A k ++ fof C k := List.filter_append ..
def insV (V : List Ver) (v : Ver) : List Ver := V.takeWhile (fun u => decide (u.name ≤ v.name)) ++ v :: V.dropWhile fun u => decide (u.name ≤ v.name)
def topG (l : List Ver) : Int := match l.getLast? with | some v => v.gen | none => 0
theorem fof_insV {V : List Ver} (h : SrtN V) (v : Ver) (k : List UInt8) : fof (insV V v) k = if k = v.name then fof V k ++ [v] else fof V k := by
  have e : V.takeWhile (fun u => decide (u.name ≤ v.name)) ++ V.dropWhile (fun u => decide (u.name ≤ v.name)) = V := List.takeWhile_append_dropWhile ..
  unfold insV
  have e2 : fof V k = fof (V.takeWhile (fun u => decide (u.name ≤ v.name))) k ++ fof (V.dropWhile (fun u => decide (u.name ≤ v.name))) k := by rw [← fof_append, e]
  rw [fof_append, e2]
  have hc : fof (v :: V.dropWhile (fun u => decide (u.name ≤ v.name))) k = (if v.name = k then [v] else []) ++ fof (V.dropWhile (fun u => decide (u.name ≤ v.name))) k := by
    unfold fof
    rw [List.filter_cons]
    by_cases hk : v.name = k <;> simp [hk]
  rw [hc]
  by_cases hk : k = v.name
  · subst hk
    have h0 : fof (V.dropWhile (fun u => decide (u.name ≤ v.name))) v.name = [] := List.filter_eq_nil_iff.2 fun w hw => by
      simp only [decide_eq_true_eq]
      exact fun e => slt_irr _ (e ▸ drop_gt h v.name w hw)
    rw [h0]; simp
  · have : ¬ v.name = k := fun e => hk e.symm
    rw [if_neg this, if_neg hk]; simp
theorem topG_some {l : List Ver} (h : l ≠ []) : ∃ x, l[l.length - 1]? = some x ∧ topG l = x.gen := by
  unfold topG
  rw [List.getLast?_eq_getElem?]
  cases hx : l[l.length - 1]? with
  | none =>
    have := List.getElem?_eq_none_iff.1 hx
    have : l.length = 0 := by omega
    exact (h (List.length_eq_zero_iff.1 this)).elim
  | some x => exact ⟨x, rfl, rfl⟩
def insS (S : List Sn) (s : Sn) : List Sn := S.takeWhile (fun u => decide (u.name < s.name)) ++ s :: S.dropWhile fun u => decide (u.name < s.name)
theorem sof_filter (S : List Sn) (n k : List UInt8) : sof (S.filter fun s => decide (s.name ≠ n)) k = if k = n then none else sof S k := by
  induction S with
  | nil => simp [sof]
  | cons c t ih =>
    rw [List.filter_cons]
    by_cases hc : c.name = n
    · simp only [hc, ne_eq, not_true, decide_false, Bool.false_eq_true, if_false]
      rw [ih]
      split
      · rfl
      · rename_i hk
        unfold sof
        rw [List.find?_cons]
        have : ¬ c.name = k := fun e => hk (e.symm.trans hc)
        simp [this]
    · simp only [hc, ne_eq, not_false_iff, decide_true, if_true]
      unfold sof at ih ⊢
      rw [List.find?_cons, ih, List.find?_cons]
      by_cases hk : c.name = k
      · have : ¬ k = n := fun e => hc (hk.trans e)
        simp [hk, this]
      · simp [hk]
theorem sof_ins {A C : List Sn} {s : Sn} (hn : sof (A ++ C) s.name = none) (k : List UInt8) : sof (A ++ s :: C) k = if k = s.name then some s else sof (A ++ C) k := by
  unfold sof at hn ⊢
  rw [List.find?_append] at hn
  rw [List.find?_append, List.find?_cons]
  by_cases hk : k = s.name
  · subst hk
    rw [if_pos rfl]
    cases hA : A.find? (fun t => decide (t.name = s.name)) with
    | none => simp
    | some t => rw [hA] at hn; cases hn
  · rw [if_neg hk, List.find?_append]
    have : ¬ s.name = k := fun e => hk e.symm
    simp [this]
theorem sof_insS {S : List Sn} {s : Sn} (hn : sof S s.name = none) (k : List UInt8) : sof (insS S s) k = if k = s.name then some s else sof S k := by
  have e : S.takeWhile (fun u => decide (u.name < s.name)) ++ S.dropWhile (fun u => decide (u.name < s.name)) = S := List.takeWhile_append_dropWhile ..
  have := sof_ins (A := S.takeWhile (fun u => decide (u.name < s.name))) (C := S.dropWhile (fun u => decide (u.name < s.name))) (s := s) (by rw [e]; exact hn) k
  rw [e] at this
  exact this
theorem len_sub {α : Type} [DecidableEq α] : ∀ {l l' : List α}, l.Nodup → (∀ a ∈ l, a ∈ l') → l.length ≤ l'.length
  | [], _, _, _ => Nat.zero_le _
  | a :: t, l', hn, hs => by
    have ha := hs a (by simp)
    have hn' := List.nodup_cons.1 hn
    have := len_sub (l := t) (l' := l'.erase a) hn'.2 fun b hb => (List.mem_erase_of_ne fun (e : b = a) => hn'.1 (by rw [← e]; exact hb)).2 (hs b (List.mem_cons_of_mem _ hb))
    rw [List.length_erase_of_mem ha] at this
    have hp := List.length_pos_of_mem ha
    simp only [List.length_cons]; omega
theorem nms_sub {V W : List Ver} (h : SrtN V) (hs : ∀ v ∈ V, ∃ w ∈ W, w.name = v.name) : (nms V).length ≤ (nms W).length := by
  refine len_sub ((nms_lt h).imp fun h => slt_ne h) fun k hk => ?_
  obtain ⟨v, hv, rfl⟩ := nms_mem.1 hk
  exact nms_mem.2 (hs v hv)
theorem insV_srt {V : List Ver} (h : SrtG V) {v : Ver} (hg : ∀ w ∈ fof V v.name, w.gen < v.gen) : SrtG (insV V v) := by
  have e : V.takeWhile (fun u => decide (u.name ≤ v.name)) ++ V.dropWhile (fun u => decide (u.name ≤ v.name)) = V := List.takeWhile_append_dropWhile ..
  have h' := h
  rw [← e] at h'
  obtain ⟨hA, hC, hAC⟩ := List.pairwise_append.1 h'
  refine List.pairwise_append.2 ⟨hA, List.pairwise_cons.2 ⟨fun w hw => .inl (drop_gt h.n v.name w hw), hC⟩, fun a ha b hb => ?_⟩
  rcases List.mem_cons.1 hb with rfl | hb
  · have haV : a ∈ V := by rw [← e]; exact List.mem_append_left _ ha
    rcases sle_or (take_le _ _ a ha) with h1 | h1
    · exact .inl h1
    · exact .inr ⟨h1, hg a (fof_mem.2 ⟨haV, h1⟩)⟩
  · exact hAC a ha b hb
theorem insV_mem {V : List Ver} {v w : Ver} : w ∈ insV V v ↔ w = v ∨ w ∈ V := by
  have e : V.takeWhile (fun u => decide (u.name ≤ v.name)) ++ V.dropWhile (fun u => decide (u.name ≤ v.name)) = V := List.takeWhile_append_dropWhile ..
  unfold insV
  rw [List.mem_append, List.mem_cons]
  conv => rhs; rw [← e]
  rw [List.mem_append]
  constructor
  · rintro (h | h | h)
    · exact .inr (.inl h)
    · exact .inl h
    · exact .inr (.inr h)
  · rintro (h | h | h)
    · exact .inr (.inl h)
    · exact .inl h
    · exact .inr (.inr h)
theorem topG_le {l : List Ver} (hp : l.Pairwise fun a b => a.gen < b.gen) : ∀ w ∈ l, w.gen ≤ topG l := fun w hw => by
  obtain ⟨i, hi, rfl⟩ := List.getElem_of_mem hw
  obtain ⟨x, hx, hxg⟩ := topG_some (l := l) (List.ne_nil_of_length_pos (by omega))
  obtain ⟨hl, hxe⟩ := List.getElem?_eq_some_iff.1 hx
  rw [hxg]
  rcases Nat.lt_or_ge i (l.length - 1) with h | h
  · have := List.pairwise_iff_getElem.1 hp i (l.length - 1) hi hl h
    rw [hxe] at this; omega
  · have : i = l.length - 1 := by omega
    subst this
    rw [hxe]; omega
theorem insS_mem {S : List Sn} {s t : Sn} : t ∈ insS S s ↔ t = s ∨ t ∈ S := by
  have e : S.takeWhile (fun u => decide (u.name < s.name)) ++ S.dropWhile (fun u => decide (u.name < s.name)) = S := List.takeWhile_append_dropWhile ..
  unfold insS
  rw [List.mem_append, List.mem_cons]
  conv => rhs; rw [← e]
  rw [List.mem_append]
  constructor
  · rintro (h | h | h)
    · exact .inr (.inl h)
    · exact .inl h
    · exact .inr (.inr h)
  · rintro (h | h | h)
    · exact .inr (.inl h)
    · exact .inl h
    · exact .inr (.inr h)
theorem drop_geS {S : List Sn} (h : S.Pairwise fun a b => a.name < b.name) (n : List UInt8) : ∀ s ∈ S.dropWhile (fun u => decide (u.name < n)), ¬ s.name < n := by
  induction S with
  | nil => intro v hv; cases hv
  | cons c t ih =>
    intro v hv
    rw [List.dropWhile_cons] at hv
    by_cases hc : c.name < n
    · rw [if_pos (by simpa using hc)] at hv
      exact ih (List.pairwise_cons.1 h).2 v hv
    · rw [if_neg (by simpa using hc)] at hv
      rcases List.mem_cons.1 hv with rfl | hv
      · exact hc
      · exact fun hlt => hc (slt_trans ((List.pairwise_cons.1 h).1 v hv) hlt)
theorem take_ltS (n : List UInt8) : ∀ (S : List Sn), ∀ s ∈ S.takeWhile (fun u => decide (u.name < n)), s.name < n
  | [], v, hv => by cases hv
  | c :: t, v, hv => by
    rw [List.takeWhile_cons] at hv
    by_cases hc : c.name < n
    · rw [if_pos (by simpa using hc)] at hv
      rcases List.mem_cons.1 hv with rfl | hv
      · exact hc
      · exact take_ltS n t v hv
    · rw [if_neg (by simpa using hc)] at hv; cases hv
theorem sorted_ext {α : Type} {r : α → α → Prop} (ha : ∀ a b, r a b → ¬ r b a) {l l' : List α} (h : l.Pairwise r) (h' : l'.Pairwise r) (hm : ∀ a, a ∈ l ↔ a ∈ l') : l = l' :=
  List.Perm.eq_of_pairwise (le := r) (fun a b _ _ h1 h2 => (ha a b h1 h2).elim) h h' ((List.perm_ext_iff_of_nodup (h.imp fun {a b} hr (e : a = b) => by subst e; exact ha _ _ hr hr) (h'.imp fun {a b} hr (e : a = b) => by subst e; exact ha _ _ hr hr)).2 hm)
end Go.Proofs.YtjafpncngmbcdaaGreat.Nam
