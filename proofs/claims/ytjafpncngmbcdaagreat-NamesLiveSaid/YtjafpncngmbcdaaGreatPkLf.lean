/-
  Part 6: NmM, NmS, NmA, NmB, NmC, NmD, NmE, NmF, NmG, NmH, NmI, NmJ, NmK, NmL, NmN, NmO, NmP, NmQ, NmR, NmT.
-/
import Derived.Test.YtjafpncngmbcdaaGreatPkLb
import Derived.Test.YtjafpncngmbcdaaGreatPkLd
import Derived.Test.YtjafpncngmbcdaaGreatPkLe
set_option linter.unusedSimpArgs false
set_option linter.unusedVariables false
set_option linter.unusedSectionVars false
section
namespace Go.Proofs.YtjafpncngmbcdaaGreat.Nam
open Go Go.SL
structure Rf where
  sum : { l : List UInt8 // l.length = 32 }
  len : Int
  bin : Int
  slot : Int
deriving DecidableEq
structure Ver where
  name : List UInt8
  gen : Int
  time : Int
  refs : List Rf
  gone : Bool
deriving DecidableEq
structure Sn where
  name : List UInt8
  time : Int
  held : List (List UInt8 × Int)
deriving DecidableEq
structure Mv where
  fb : Int
  fs : Int
  tb : Int
  ts : Int
deriving DecidableEq
structure Bk where
  V : List Ver
  S : List Sn
  now : Int
deriving DecidableEq
structure Fa where
  k : Int
  bin : Int
  at_ : Int
  n : Int
  name : List UInt8
  gen : Int
  time : Int
  refs : List Rf
  held : List (List UInt8 × Int)
  moves : List Mv
  last : Int
  young : Int
  step : Int
  count : Int
def nameOk (s : List UInt8) : Bool := decide (s ≠ [] ∧ s.length ≤ 32 ∧ ∀ c ∈ s, 33 ≤ c.toNat ∧ c.toNat ≤ 126)
theorem slt_trans {a b c : List UInt8} (h1 : a < b) (h2 : b < c) : a < c := List.lt_trans h1 h2
theorem slt_irr (a : List UInt8) : ¬ a < a := List.lt_irrefl a
theorem slt_ne {a b : List UInt8} (h : a < b) : a ≠ b := fun e => slt_irr b (e ▸ h)
theorem slt_asymm {a b : List UInt8} (h : a < b) : ¬ b < a := fun h' => slt_irr a (slt_trans h h')
theorem slt_of {a b : List UInt8} (h : ¬ b < a) (hne : a ≠ b) : a < b := by
  have h1 : a ≤ b := h
  rcases (Decidable.em (a < b)) with h2 | h2
  · exact h2
  · exact absurd (List.le_antisymm h1 h2) hne
theorem sle_or {a b : List UInt8} (h : a ≤ b) : a < b ∨ a = b := by
  by_cases he : a = b
  · exact .inr he
  · exact .inl (slt_of h he)
theorem slt_le_trans {a b c : List UInt8} (h1 : a < b) (h2 : b ≤ c) : a < c := by
  rcases sle_or h2 with h | h
  · exact slt_trans h1 h
  · exact h ▸ h1
def fof (V : List Ver) (k : List UInt8) : List Ver := V.filter fun v => decide (v.name = k)
theorem fof_mem {V : List Ver} {k : List UInt8} {v : Ver} : v ∈ fof V k ↔ v ∈ V ∧ v.name = k := by simp [fof]
def nms : List Ver → List (List UInt8)
  | [] => []
  | v :: t => if (nms t).head? = some v.name then nms t else v.name :: nms t
theorem nms_head : ∀ V : List Ver, (nms V).head? = V.head?.map (·.name)
  | [] => rfl
  | v :: t => by
    unfold nms
    split
    · rename_i h; rw [h]; rfl
    · rfl
theorem nms_mem : ∀ {V : List Ver} {k : List UInt8}, k ∈ nms V ↔ ∃ v ∈ V, v.name = k
  | [], k => by simp [nms]
  | v :: t, k => by
    have ih := nms_mem (V := t) (k := k)
    unfold nms
    split
    · rename_i h
      constructor
      · intro hk
        obtain ⟨w, hw, he⟩ := ih.1 hk
        exact ⟨w, List.mem_cons_of_mem _ hw, he⟩
      · rintro ⟨w, hw, he⟩
        rcases List.mem_cons.1 hw with rfl | hw
        · exact he ▸ List.mem_of_head? h
        · exact ih.2 ⟨w, hw, he⟩
    · rw [List.mem_cons, ih]
      constructor
      · rintro (rfl | ⟨w, hw, he⟩)
        · exact ⟨v, by simp, rfl⟩
        · exact ⟨w, List.mem_cons_of_mem _ hw, he⟩
      · rintro ⟨w, hw, he⟩
        rcases List.mem_cons.1 hw with rfl | hw
        · exact .inl he.symm
        · exact .inr ⟨w, hw, he⟩
def SrtN (V : List Ver) : Prop := V.Pairwise fun a b => a.name ≤ b.name
theorem nms_lt : ∀ {V : List Ver}, SrtN V → (nms V).Pairwise (· < ·)
  | [], _ => .nil
  | v :: t, h => by
    have ht := (List.pairwise_cons.1 h).2
    have hv := (List.pairwise_cons.1 h).1
    have ih := nms_lt ht
    unfold nms
    split
    · exact ih
    · rename_i hh
      refine List.pairwise_cons.2 ⟨fun k hk => ?_, ih⟩
      obtain ⟨w, hw, rfl⟩ := nms_mem.1 hk
      rcases sle_or (hv w hw) with hlt | heq
      · exact hlt
      · exfalso
        rw [nms_head] at hh
        cases t with
        | nil => cases hw
        | cons u t =>
          simp only [List.head?_cons, Option.map_some, Option.some.injEq] at hh
          have h1 : v.name ≤ u.name := hv u (by simp)
          have h2 : u.name ≤ w.name := by
            rcases List.mem_cons.1 hw with rfl | hw
            · exact List.le_refl _
            · exact (List.pairwise_cons.1 ht).1 w hw
          rw [← heq] at h2
          exact hh (List.le_antisymm h2 h1)
theorem fof_none {V : List Ver} {k : List UInt8} (h : k ∉ nms V) : fof V k = [] := List.filter_eq_nil_iff.2 fun v hv => by
  simp only [decide_eq_true_eq]
  exact fun e => h (nms_mem.2 ⟨v, hv, e⟩)
theorem fof_some {V : List Ver} {k : List UInt8} (h : k ∈ nms V) : fof V k ≠ [] := by
  obtain ⟨v, hv, e⟩ := nms_mem.1 h
  exact List.ne_nil_of_mem (fof_mem.2 ⟨hv, e⟩)
theorem flatMap_congr' {α β : Type} {f g : α → List β} {l : List α} (h : ∀ a ∈ l, f a = g a) : l.flatMap f = l.flatMap g := by
  induction l with
  | nil => rfl
  | cons a l ih => rw [List.flatMap_cons, List.flatMap_cons, h a (by simp), ih fun b hb => h b (List.mem_cons_of_mem _ hb)]
theorem V_flat : ∀ {V : List Ver}, SrtN V → V = (nms V).flatMap (fof V)
  | [], _ => rfl
  | v :: t, h => by
    have ht := (List.pairwise_cons.1 h).2
    have ih := V_flat ht
    have hlt := nms_lt h
    have hltt := nms_lt ht
    have hother : ∀ k, k ≠ v.name → fof (v :: t) k = fof t k := fun k hk => by
      unfold fof; rw [List.filter_cons, if_neg (by simpa using Ne.symm hk)]
    have hsame : fof (v :: t) v.name = v :: fof t v.name := by
      unfold fof; rw [List.filter_cons, if_pos (by simp)]
    have hn : nms (v :: t) = if (nms t).head? = some v.name then nms t else v.name :: nms t := rfl
    by_cases hh : (nms t).head? = some v.name
    · rw [if_pos hh] at hn
      rw [hn]
      cases hl : nms t with
      | nil => rw [hl] at hh; cases hh
      | cons k ks =>
        rw [hl] at hh ih hltt
        have hk : k = v.name := by simpa using hh
        subst hk
        rw [List.flatMap_cons, hsame, List.cons_append]
        congr 1
        conv => lhs; rw [ih]
        rw [List.flatMap_cons]
        congr 1
        exact flatMap_congr' fun k hk => (hother k (Ne.symm (slt_ne ((List.pairwise_cons.1 hltt).1 k hk)))).symm
    · rw [if_neg hh] at hn
      rw [hn] at hlt ⊢
      have hno : v.name ∉ nms t := fun hm => slt_irr _ ((List.pairwise_cons.1 hlt).1 _ hm)
      rw [List.flatMap_cons, hsame, fof_none hno]
      show v :: t = v :: ([] ++ _)
      congr 1
      conv => lhs; rw [ih]
      rw [List.nil_append]
      exact flatMap_congr' fun k hk => (hother k fun e => hno (e ▸ hk)).symm
abbrev lk {κ β : Type} [DecidableEq κ] (kv : List (κ × β)) (k : κ) : Option β := kv.lookup k
def sof (S : List Sn) (k : List UInt8) : Option Sn := S.find? fun s => decide (s.name = k)
def SrtG (V : List Ver) : Prop := V.Pairwise fun a b => a.name < b.name ∨ (a.name = b.name ∧ a.gen < b.gen)
theorem SrtG.n {V : List Ver} (h : SrtG V) : SrtN V := h.imp fun h => by
  rcases h with h | ⟨h, _⟩
  · exact List.le_of_lt h
  · rw [h]; exact List.le_refl _
theorem SrtG.uniq {V : List Ver} (h : SrtG V) {a b : Ver} (ha : a ∈ V) (hb : b ∈ V) (hn : a.name = b.name) (hg : a.gen = b.gen) : a = b := by
  induction V with
  | nil => cases ha
  | cons c t ih =>
    have hc := (List.pairwise_cons.1 h).1
    have ht := (List.pairwise_cons.1 h).2
    rcases List.mem_cons.1 ha with e1 | ha' <;> rcases List.mem_cons.1 hb with e2 | hb'
    · rw [e1, e2]
    · subst e1
      rcases hc b hb' with h1 | ⟨_, h1⟩
      · rw [hn] at h1; exact (slt_irr _ h1).elim
      · omega
    · subst e2
      rcases hc a ha' with h1 | ⟨_, h1⟩
      · rw [hn] at h1; exact (slt_irr _ h1).elim
      · omega
    · exact ih ht ha' hb'
theorem fof_srt {V : List Ver} (h : SrtG V) (k : List UInt8) : (fof V k).Pairwise fun a b => a.gen < b.gen := by
  have h1 : (fof V k).Pairwise fun a b => a.name < b.name ∨ (a.name = b.name ∧ a.gen < b.gen) := h.sublist List.filter_sublist
  refine h1.imp_of_mem fun {a b} ha hb hab => ?_
  rcases hab with h | ⟨_, h⟩
  · rw [(fof_mem.1 ha).2, (fof_mem.1 hb).2] at h; exact (slt_irr _ h).elim
  · exact h
def goneV (v : Ver) : Ver := { v with gone := true }
def markV (V : List Ver) (n : List UInt8) (g : Int) : List Ver := V.map fun v => if v.name = n ∧ v.gen = g then goneV v else v
theorem mark_f (n : List UInt8) (g : Int) (v : Ver) : (if v.name = n ∧ v.gen = g then goneV v else v).name = v.name ∧ (if v.name = n ∧ v.gen = g then goneV v else v).gen = v.gen := by split <;> exact ⟨rfl, rfl⟩
theorem fof_map {V : List Ver} {f : Ver → Ver} (hf : ∀ v, (f v).name = v.name) (k : List UInt8) : fof (V.map f) k = (fof V k).map f := by
  unfold fof
  rw [List.filter_map]
  congr 1
  refine List.filter_congr fun v _ => ?_
  simp [hf]
theorem srtG_map {V : List Ver} {f : Ver → Ver} (h : SrtG V) (hf : ∀ v, (f v).name = v.name ∧ (f v).gen = v.gen) : SrtG (V.map f) := by
  unfold SrtG
  rw [List.pairwise_map]
  refine h.imp fun {a b} hab => ?_
  rw [(hf a).1, (hf b).1, (hf a).2, (hf b).2]; exact hab
theorem fof_mark {V : List Ver} (h : SrtG V) {n : List UInt8} {i : Nat} {x : Ver} (hx : (fof V n)[i]? = some x) : fof (markV V n x.gen) n = (fof V n).set i (goneV x) := by
  unfold markV
  rw [fof_map (fun v => (mark_f n x.gen v).1)]
  apply List.ext_getElem?
  intro j
  rw [List.getElem?_map, List.getElem?_set]
  obtain ⟨hi, hxe⟩ := List.getElem?_eq_some_iff.1 hx
  by_cases hij : i = j
  · subst hij
    rw [hx, if_pos rfl, if_pos hi]
    have : x.name = n := (fof_mem.1 (List.mem_of_getElem? hx)).2
    simp [this]
  · rw [if_neg hij]
    cases hj : (fof V n)[j]? with
    | none => rfl
    | some y =>
      have hp := fof_srt h n
      obtain ⟨hjl, hye⟩ := List.getElem?_eq_some_iff.1 hj
      have hne : y.gen ≠ x.gen := by
        rcases Nat.lt_or_gt_of_ne hij with hlt | hlt
        · have := List.pairwise_iff_getElem.1 hp i j hi hjl hlt
          rw [hxe, hye] at this; omega
        · have := List.pairwise_iff_getElem.1 hp j i hjl hi hlt
          rw [hxe, hye] at this; omega
      simp [hne]
theorem fof_mark_ne {V : List Ver} {n k : List UInt8} {g : Int} (hk : k ≠ n) : fof (markV V n g) k = fof V k := by
  unfold markV
  rw [fof_map (fun v => (mark_f n g v).1)]
  conv => rhs; rw [← List.map_id (fof V k)]
  refine List.map_congr_left fun v hv => ?_
  have := (fof_mem.1 hv).2
  rw [if_neg fun h => hk (this.symm.trans h.1)]; rfl
theorem sof_of {S : List Sn} (h : S.Pairwise fun a b => a.name < b.name) {s : Sn} (hs : s ∈ S) : sof S s.name = some s := by
  induction S with
  | nil => cases hs
  | cons c t ih =>
    have hc := (List.pairwise_cons.1 h).1
    unfold sof
    rw [List.find?_cons]
    rcases List.mem_cons.1 hs with e | hs'
    · subst e; simp
    · have : ¬ c.name = s.name := slt_ne (hc s hs')
      simp only [this, decide_false]
      exact ih (List.pairwise_cons.1 h).2 hs'
theorem sof_some {S : List Sn} {k : List UInt8} {s : Sn} (h : sof S k = some s) : s ∈ S ∧ s.name = k := by
  unfold sof at h
  exact ⟨List.mem_of_find?_eq_some h, by simpa using List.find?_some h⟩
theorem fof_filter (V : List Ver) (q : Ver → Bool) (k : List UInt8) : fof (V.filter q) k = (fof V k).filter q := by
  unfold fof
  rw [List.filter_filter, List.filter_filter]
  congr 1; funext v; exact Bool.and_comm _ _
theorem nms_len : ∀ V : List Ver, (nms V).length ≤ V.length
  | [] => Nat.le_refl _
  | v :: t => by
    have := nms_len t
    unfold nms
    split
    · simp; omega
    · simp; omega
theorem drop_gt {V : List Ver} (h : SrtN V) (n : List UInt8) : ∀ v ∈ V.dropWhile (fun u => decide (u.name ≤ n)), n < v.name := by
  induction V with
  | nil => intro v hv; cases hv
  | cons c t ih =>
    intro v hv
    rw [List.dropWhile_cons] at hv
    by_cases hc : c.name ≤ n
    · rw [if_pos (by simpa using hc)] at hv
      exact ih (List.pairwise_cons.1 h).2 v hv
    · rw [if_neg (by simpa using hc)] at hv
      have h1 : n < c.name := Decidable.not_not.1 hc
      rcases List.mem_cons.1 hv with rfl | hv
      · exact h1
      · exact slt_le_trans h1 ((List.pairwise_cons.1 h).1 v hv)
theorem take_le (n : List UInt8) : ∀ (V : List Ver), ∀ v ∈ V.takeWhile (fun u => decide (u.name ≤ n)), v.name ≤ n
  | [], v, hv => by cases hv
  | c :: t, v, hv => by
    rw [List.takeWhile_cons] at hv
    by_cases hc : c.name ≤ n
    · rw [if_pos (by simpa using hc)] at hv
      rcases List.mem_cons.1 hv with rfl | hv
      · exact hc
      · exact take_le n t v hv
    · rw [if_neg (by simpa using hc)] at hv; cases hv
theorem fof_append (A C : List Ver) (k : List UInt8) : fof (A ++ C) k = fof A k ++ fof C k := List.filter_append ..
def insV (V : List Ver) (v : Ver) : List Ver := V.takeWhile (fun u => decide (u.name ≤ v.name)) ++ v :: V.dropWhile fun u => decide (u.name ≤ v.name)
def topG (l : List Ver) : Int := match l.getLast? with | some v => v.gen | none => 0
theorem fof_insV {V : List Ver} (h : SrtN V) (v : Ver) (k : List UInt8) : fof (insV V v) k = if k = v.name then fof V k ++ [v] else fof V k := by
  have e : V.takeWhile (fun u => decide (u.name ≤ v.name)) ++ V.dropWhile (fun u => decide (u.name ≤ v.name)) = V := List.takeWhile_append_dropWhile ..
  unfold insV
  have e2 : fof V k = fof (V.takeWhile (fun u => decide (u.name ≤ v.name))) k ++ fof (V.dropWhile (fun u => decide (u.name ≤ v.name))) k := by rw [← fof_append, e]
  rw [fof_append, e2]
  have hc : fof (v :: V.dropWhile (fun u => decide (u.name ≤ v.name))) k = (if v.name = k then [v] else []) ++ fof (V.dropWhile (fun u => decide (u.name ≤ v.name))) k := by
    unfold fof
    rw [List.filter_cons]
    by_cases hk : v.name = k <;> simp [hk]
  rw [hc]
  by_cases hk : k = v.name
  · subst hk
    have h0 : fof (V.dropWhile (fun u => decide (u.name ≤ v.name))) v.name = [] := List.filter_eq_nil_iff.2 fun w hw => by
      simp only [decide_eq_true_eq]
      exact fun e => slt_irr _ (e ▸ drop_gt h v.name w hw)
    rw [h0]; simp
  · have : ¬ v.name = k := fun e => hk e.symm
    rw [if_neg this, if_neg hk]; simp
theorem topG_some {l : List Ver} (h : l ≠ []) : ∃ x, l[l.length - 1]? = some x ∧ topG l = x.gen := by
  unfold topG
  rw [List.getLast?_eq_getElem?]
  cases hx : l[l.length - 1]? with
  | none =>
    have := List.getElem?_eq_none_iff.1 hx
    have : l.length = 0 := by omega
    exact (h (List.length_eq_zero_iff.1 this)).elim
  | some x => exact ⟨x, rfl, rfl⟩
def insS (S : List Sn) (s : Sn) : List Sn := S.takeWhile (fun u => decide (u.name < s.name)) ++ s :: S.dropWhile fun u => decide (u.name < s.name)
theorem sof_filter (S : List Sn) (n k : List UInt8) : sof (S.filter fun s => decide (s.name ≠ n)) k = if k = n then none else sof S k := by
  induction S with
  | nil => simp [sof]
  | cons c t ih =>
    rw [List.filter_cons]
    by_cases hc : c.name = n
    · simp only [hc, ne_eq, not_true, decide_false, Bool.false_eq_true, if_false]
      rw [ih]
      split
      · rfl
      · rename_i hk
        unfold sof
        rw [List.find?_cons]
        have : ¬ c.name = k := fun e => hk (e.symm.trans hc)
        simp [this]
    · simp only [hc, ne_eq, not_false_iff, decide_true, if_true]
      unfold sof at ih ⊢
      rw [List.find?_cons, ih, List.find?_cons]
      by_cases hk : c.name = k
      · have : ¬ k = n := fun e => hc (hk.trans e)
        simp [hk, this]
      · simp [hk]
theorem sof_ins {A C : List Sn} {s : Sn} (hn : sof (A ++ C) s.name = none) (k : List UInt8) : sof (A ++ s :: C) k = if k = s.name then some s else sof (A ++ C) k := by
  unfold sof at hn ⊢
  rw [List.find?_append] at hn
  rw [List.find?_append, List.find?_cons]
  by_cases hk : k = s.name
  · subst hk
    rw [if_pos rfl]
    cases hA : A.find? (fun t => decide (t.name = s.name)) with
    | none => simp
    | some t => rw [hA] at hn; cases hn
  · rw [if_neg hk, List.find?_append]
    have : ¬ s.name = k := fun e => hk e.symm
    simp [this]
theorem sof_insS {S : List Sn} {s : Sn} (hn : sof S s.name = none) (k : List UInt8) : sof (insS S s) k = if k = s.name then some s else sof S k := by
  have e : S.takeWhile (fun u => decide (u.name < s.name)) ++ S.dropWhile (fun u => decide (u.name < s.name)) = S := List.takeWhile_append_dropWhile ..
  have := sof_ins (A := S.takeWhile (fun u => decide (u.name < s.name))) (C := S.dropWhile (fun u => decide (u.name < s.name))) (s := s) (by rw [e]; exact hn) k
  rw [e] at this
  exact this
theorem len_sub {α : Type} [DecidableEq α] : ∀ {l l' : List α}, l.Nodup → (∀ a ∈ l, a ∈ l') → l.length ≤ l'.length
  | [], _, _, _ => Nat.zero_le _
  | a :: t, l', hn, hs => by
    have ha := hs a (by simp)
    have hn' := List.nodup_cons.1 hn
    have := len_sub (l := t) (l' := l'.erase a) hn'.2 fun b hb => (List.mem_erase_of_ne fun (e : b = a) => hn'.1 (by rw [← e]; exact hb)).2 (hs b (List.mem_cons_of_mem _ hb))
    rw [List.length_erase_of_mem ha] at this
    have hp := List.length_pos_of_mem ha
    simp only [List.length_cons]; omega
theorem nms_sub {V W : List Ver} (h : SrtN V) (hs : ∀ v ∈ V, ∃ w ∈ W, w.name = v.name) : (nms V).length ≤ (nms W).length := by
  refine len_sub ((nms_lt h).imp fun h => slt_ne h) fun k hk => ?_
  obtain ⟨v, hv, rfl⟩ := nms_mem.1 hk
  exact nms_mem.2 (hs v hv)
theorem insV_srt {V : List Ver} (h : SrtG V) {v : Ver} (hg : ∀ w ∈ fof V v.name, w.gen < v.gen) : SrtG (insV V v) := by
  have e : V.takeWhile (fun u => decide (u.name ≤ v.name)) ++ V.dropWhile (fun u => decide (u.name ≤ v.name)) = V := List.takeWhile_append_dropWhile ..
  have h' := h
  rw [← e] at h'
  obtain ⟨hA, hC, hAC⟩ := List.pairwise_append.1 h'
  refine List.pairwise_append.2 ⟨hA, List.pairwise_cons.2 ⟨fun w hw => .inl (drop_gt h.n v.name w hw), hC⟩, fun a ha b hb => ?_⟩
  rcases List.mem_cons.1 hb with rfl | hb
  · have haV : a ∈ V := by rw [← e]; exact List.mem_append_left _ ha
    rcases sle_or (take_le _ _ a ha) with h1 | h1
    · exact .inl h1
    · exact .inr ⟨h1, hg a (fof_mem.2 ⟨haV, h1⟩)⟩
  · exact hAC a ha b hb
theorem insV_mem {V : List Ver} {v w : Ver} : w ∈ insV V v ↔ w = v ∨ w ∈ V := by
  have e : V.takeWhile (fun u => decide (u.name ≤ v.name)) ++ V.dropWhile (fun u => decide (u.name ≤ v.name)) = V := List.takeWhile_append_dropWhile ..
  unfold insV
  rw [List.mem_append, List.mem_cons]
  conv => rhs; rw [← e]
  rw [List.mem_append]
  constructor
  · rintro (h | h | h)
    · exact .inr (.inl h)
    · exact .inl h
    · exact .inr (.inr h)
  · rintro (h | h | h)
    · exact .inr (.inl h)
    · exact .inl h
    · exact .inr (.inr h)
theorem topG_le {l : List Ver} (hp : l.Pairwise fun a b => a.gen < b.gen) : ∀ w ∈ l, w.gen ≤ topG l := fun w hw => by
  obtain ⟨i, hi, rfl⟩ := List.getElem_of_mem hw
  obtain ⟨x, hx, hxg⟩ := topG_some (l := l) (List.ne_nil_of_length_pos (by omega))
  obtain ⟨hl, hxe⟩ := List.getElem?_eq_some_iff.1 hx
  rw [hxg]
  rcases Nat.lt_or_ge i (l.length - 1) with h | h
  · have := List.pairwise_iff_getElem.1 hp i (l.length - 1) hi hl h
    rw [hxe] at this; omega
  · have : i = l.length - 1 := by omega
    subst this
    rw [hxe]; omega
theorem insS_mem {S : List Sn} {s t : Sn} : t ∈ insS S s ↔ t = s ∨ t ∈ S := by
  have e : S.takeWhile (fun u => decide (u.name < s.name)) ++ S.dropWhile (fun u => decide (u.name < s.name)) = S := List.takeWhile_append_dropWhile ..
  unfold insS
  rw [List.mem_append, List.mem_cons]
  conv => rhs; rw [← e]
  rw [List.mem_append]
  constructor
  · rintro (h | h | h)
    · exact .inr (.inl h)
    · exact .inl h
    · exact .inr (.inr h)
  · rintro (h | h | h)
    · exact .inr (.inl h)
    · exact .inl h
    · exact .inr (.inr h)
theorem drop_geS {S : List Sn} (h : S.Pairwise fun a b => a.name < b.name) (n : List UInt8) : ∀ s ∈ S.dropWhile (fun u => decide (u.name < n)), ¬ s.name < n := by
  induction S with
  | nil => intro v hv; cases hv
  | cons c t ih =>
    intro v hv
    rw [List.dropWhile_cons] at hv
    by_cases hc : c.name < n
    · rw [if_pos (by simpa using hc)] at hv
      exact ih (List.pairwise_cons.1 h).2 v hv
    · rw [if_neg (by simpa using hc)] at hv
      rcases List.mem_cons.1 hv with rfl | hv
      · exact hc
      · exact fun hlt => hc (slt_trans ((List.pairwise_cons.1 h).1 v hv) hlt)
theorem take_ltS (n : List UInt8) : ∀ (S : List Sn), ∀ s ∈ S.takeWhile (fun u => decide (u.name < n)), s.name < n
  | [], v, hv => by cases hv
  | c :: t, v, hv => by
    rw [List.takeWhile_cons] at hv
    by_cases hc : c.name < n
    · rw [if_pos (by simpa using hc)] at hv
      rcases List.mem_cons.1 hv with rfl | hv
      · exact hc
      · exact take_ltS n t v hv
    · rw [if_neg (by simpa using hc)] at hv; cases hv
theorem sorted_ext {α : Type} {r : α → α → Prop} (ha : ∀ a b, r a b → ¬ r b a) {l l' : List α} (h : l.Pairwise r) (h' : l'.Pairwise r) (hm : ∀ a, a ∈ l ↔ a ∈ l') : l = l' :=
  List.Perm.eq_of_pairwise (le := r) (fun a b _ _ h1 h2 => (ha a b h1 h2).elim) h h' ((List.perm_ext_iff_of_nodup (h.imp fun {a b} hr (e : a = b) => by subst e; exact ha _ _ hr hr) (h'.imp fun {a b} hr (e : a = b) => by subst e; exact ha _ _ hr hr)).2 hm)
end Go.Proofs.YtjafpncngmbcdaaGreat.Nam
end
section
namespace Go.Proofs.YtjafpncngmbcdaaGreat.Nam
open Go Go.SL
def inBinB (n : Int) : Bool := decide (0 ≤ n) && decide (n < 4096)
def numB (n : Int) : Bool := decide (0 ≤ n) && decide (n ≤ 9007199254740991)
def spotB (b s : Int) : Bool := inBinB b && decide (0 ≤ s) && decide (s < 64)
def rightB (r : Rf) : Bool := decide (1 ≤ r.len) && decide (r.len ≤ 512) && decide (0 ≤ r.bin) && decide (r.bin < 4096) && decide (0 ≤ r.slot) && decide (r.slot < 64)
def nPlace (k : Int) : Bool := decide (k = 1 ∨ k = 2)
def nName (k : Int) : Bool := decide (k = 3 ∨ k = 4 ∨ k = 5 ∨ k = 6)
def nGen (k : Int) : Bool := decide (k = 3 ∨ k = 4)
def nTime (k : Int) : Bool := decide (k = 3 ∨ k = 5 ∨ k = 8)
def ruleB (f : Fa) : Bool := numB f.last && numB f.young && numB f.step && decide (0 < f.step) && numB f.count
def bareB (f : Fa) : Bool := (nPlace f.k || decide (f.bin = 0 ∧ f.at_ = 0 ∧ f.n = 0)) && (nName f.k || decide (f.name = [])) && (nGen f.k || decide (f.gen = 0)) && (nTime f.k || decide (f.time = 0)) &&
  (decide (f.k = 3) || decide (f.refs = [])) && (decide (f.k = 5) || decide (f.held = [])) && (decide (f.k = 7) || decide (f.moves = [])) && (decide (f.k = 9) || decide (f.last = 0 ∧ f.young = 0 ∧ f.step = 0 ∧ f.count = 0))
def badB (f : Fa) : Bool := (nPlace f.k && !inBinB f.bin) || (decide (f.k = 2) && decide (¬ (f.at_ = 0 ∧ f.n = 0))) || (decide (f.k = 1) && (decide (f.at_ < 0) || decide (4096 ≤ f.at_) || decide (f.n < 2) || decide (64 < f.n))) ||
  (decide (f.k = 9) && !ruleB f) || (nName f.k && !nameOk f.name) || (nGen f.k && decide (f.gen < 1)) || !numB f.gen || !numB f.time
def moveOk (m : Mv) : Bool := spotB m.fb m.fs && spotB m.tb m.ts
def heldOk (h : List UInt8 × Int) : Bool := nameOk h.1 && decide (1 ≤ h.2) && numB h.2
def checkF (f : Fa) : Int :=
  if f.k < 1 ∨ 9 < f.k ∨ bareB f = false then 4
  else if badB f = true then 2
  else if 256 < f.refs.length ∨ 64 < f.held.length ∨ 64 < f.moves.length then 6
  else if (f.k = 7 ∧ f.moves = []) ∨ f.moves.any (fun m => !moveOk m) = true ∨ f.held.any (fun h => !heldOk h) = true then 2
  else if f.refs.any (fun r => !rightB r) = true then 2 else 0
def genV (V : List Ver) (n : List UInt8) (g : Int) : Option Ver := (fof V n).find? fun v => decide (v.gen = g)
def liveB (V : List Ver) (n : List UInt8) (g : Int) : Bool := match genV V n g with | none => false | some v => !v.gone
def nextG (V : List Ver) (n : List UInt8) : Int := topG (fof V n) + 1
def risesB (l : List (List UInt8 × Int)) : Bool := decide ((l.map (·.1)).Pairwise (· < ·))
def checkB (M : Bk) (f : Fa) : Int :=
  if checkF f ≠ 0 then checkF f
  else if f.k = 8 then (if f.time < M.now then 2 else 0)
  else if f.k = 3 then (if M.now < f.time then 2 else if f.gen < nextG M.V f.name then 10 else if (fof M.V f.name = [] ∧ (nms M.V).length = 64) ∨ (fof M.V f.name).length = 32 then 6 else 0)
  else if f.k = 4 then (if liveB M.V f.name f.gen = true then 0 else 9)
  else if f.k = 5 then (if M.now < f.time then 2 else if (sof M.S f.name).isSome then 10 else if M.S.length = 16 then 6 else if f.held.any (fun h => !liveB M.V h.1 h.2) = true then 9 else if risesB f.held = false then 4 else 0)
  else if f.k = 6 then (if (sof M.S f.name).isSome then 0 else 9)
  else 0
def heldB (S : List Sn) (n : List UInt8) (g : Int) : Bool := S.any fun s => decide ((n, g) ∈ s.held)
def keepP (S : List Sn) (v : Ver) : Bool := heldB S v.name v.gen || !v.gone
def sweepV (S : List Sn) (V : List Ver) : List Ver := V.filter (keepP S)
def dropM (M : Bk) (n : List UInt8) (g : Int) : Bk := { M with V := sweepV M.S (markV M.V n g) }
def moveR (ms : List Mv) (r : Rf) : Rf := match ms.find? (fun m => decide (m.fb = r.bin ∧ m.fs = r.slot)) with | none => r | some m => { r with bin := m.tb, slot := m.ts }
def moveV (ms : List Mv) (v : Ver) : Ver := { v with refs := v.refs.map (moveR ms) }
def liveL (V : List Ver) (n : List UInt8) : List Ver := (fof V n).filter fun v => !v.gone
def addN (l : List Int) (x : Int) : List Int := if x ∈ l then l else l ++ [x]
def staysB (now : Int) (f : Fa) (l : List Ver) (i : Nat) : Bool := match l[i]? with
  | none => true
  | some v => decide ((l.length - i : Int) ≤ f.last) || decide (now - f.young < v.time) ||
    (!((l.drop (i + 1)).any fun w => decide (w.time / f.step = v.time / f.step)) && decide (((l.filterMap fun w => if v.time / f.step < w.time / f.step then some (w.time / f.step) else none).foldl addN []).length < f.count))
def goesL (now : Int) (f : Fa) (k : List UInt8) (l : List Ver) (n : Nat) : List (List UInt8 × Int) := (List.range n).filterMap fun i => match l[i]? with | none => none | some v => if staysB now f l i then none else some (k, v.gen)
def expireL (M : Bk) (f : Fa) : List (List UInt8 × Int) := (nms M.V).flatMap fun k => goesL M.now f k (liveL M.V k) (liveL M.V k).length
def keepOk (f : Fa) : Bool := decide (0 ≤ f.last ∧ 0 ≤ f.young ∧ 1 ≤ f.step ∧ 0 ≤ f.count)
def dropF (h : List UInt8 × Int) : Fa := ⟨4, 0, 0, 0, h.1, h.2, 0, [], [], [], 0, 0, 0, 0⟩
def stepD (M : Bk) (h : List UInt8 × Int) : Bk := if checkB M (dropF h) ≠ 0 then M else dropM M h.1 h.2
def applyM (M : Bk) (f : Fa) : Bk :=
  if f.k = 8 then { M with now := f.time }
  else if f.k = 3 then { M with V := insV M.V ⟨f.name, f.gen, f.time, f.refs, false⟩ }
  else if f.k = 4 then dropM M f.name f.gen
  else if f.k = 5 then { M with S := insS M.S ⟨f.name, f.time, f.held⟩ }
  else if f.k = 6 then { M with S := M.S.filter fun s => decide (s.name ≠ f.name), V := sweepV (M.S.filter fun s => decide (s.name ≠ f.name)) M.V }
  else if f.k = 7 then { M with V := M.V.map (moveV f.moves) }
  else if f.k = 9 then (expireL M f).foldl stepD M
  else M
def stepM (M : Bk) (f : Fa) : Bk := if checkB M f ≠ 0 then M else applyM M f
end Go.Proofs.YtjafpncngmbcdaaGreat.Nam
end
section
namespace Go.Proofs.YtjafpncngmbcdaaGreat.Nam
open Go Go.SL Go.Proofs Go.Proofs.YtjafpncngmbcdaaGreat.Sh
abbrev I (n : Int) : Value := .int .i64 n
abbrev ptr (a : Nat) : Value := .pointer (some ⟨a, 0, none⟩)
abbrev nil : Value := .slice none 0 0
abbrev Cv := { v : Value // isCell v = true }
instance {v : Cv} : CellI v.1 := ⟨v.2⟩
theorem u_int : Tryz.prog.underlying 3 = some (.int .i64) := by kernel_rfl
theorem u_string : Tryz.prog.underlying 9 = some .string := by kernel_rfl
theorem u_bytes : Tryz.prog.underlying 157 = some (.slice 5) := by kernel_rfl
theorem u_byte : Tryz.prog.underlying 5 = some (.int .u8) := by kernel_rfl
theorem u_ints : Tryz.prog.underlying 141 = some (.slice 3) := by kernel_rfl
theorem u_kinds : Tryz.prog.underlying 175 = some (.slice 51) := by kernel_rfl
theorem elt_int : Elt Tryz.prog 3 1 8 [.int .i64 0] := elt_of (zv := .int .i64 0) (by kernel_rfl) rfl rfl
theorem elt_kind : Elt Tryz.prog 51 1 8 [.int .i64 0] := elt_of (zv := .int .i64 0) (by kernel_rfl) rfl rfl
theorem elt_byte : Elt Tryz.prog 5 1 1 [.int .u8 0] := elt_of (zv := .int .u8 0) (by kernel_rfl) rfl rfl
def rfC (r : Rf) : List Value := bcs r.sum.1 ++ [I r.len, I r.bin, I r.slot]
theorem rfC_len (r : Rf) : (rfC r).length = 35 := by simp [rfC, r.sum.2]
instance : Enc rfC 35 := ⟨rfC_len, fun r y hy => by
  unfold rfC at hy
  rcases List.mem_append.1 hy with h | h
  · obtain ⟨b, _, rfl⟩ := List.mem_map.1 h; rfl
  · simp at h; rcases h with rfl | rfl | rfl <;> rfl⟩
instance {r : Rf} : AtLen (rfC r) 35 := ⟨rfC_len r⟩
theorem rfC_at (r : Rf) (i : Nat) : (rfC r)[32 + i]? = [I r.len, I r.bin, I r.slot][i]? := by
  unfold rfC
  rw [List.getElem?_append_right (by simp [r.sum.2])]
  simp [r.sum.2]
instance {r : Rf} : AtI (rfC r) 32 (I r.len) := ⟨rfC_at r 0⟩
instance {r : Rf} : AtI (rfC r) 33 (I r.bin) := ⟨rfC_at r 1⟩
instance {r : Rf} : AtI (rfC r) 34 (I r.slot) := ⟨rfC_at r 2⟩
def hC (h : List UInt8 × Int) : List Value := [str h.1, I h.2]
instance : Enc hC 2 := ⟨fun _ => rfl, fun _ y hy => by simp [hC] at hy; rcases hy with rfl | rfl <;> rfl⟩
instance {h : List UInt8 × Int} : AtLen (hC h) 2 := ⟨rfl⟩
instance {h : List UInt8 × Int} : AtI (hC h) 0 (str h.1) := ⟨rfl⟩
instance {h : List UInt8 × Int} : AtI (hC h) 1 (I h.2) := ⟨rfl⟩
def mvC (m : Mv) : List Value := [I m.fb, I m.fs, I m.tb, I m.ts]
instance : Enc mvC 4 := ⟨fun _ => rfl, fun _ y hy => by simp [mvC] at hy; rcases hy with rfl | rfl | rfl | rfl <;> rfl⟩
instance {m : Mv} : AtLen (mvC m) 4 := ⟨rfl⟩
instance {m : Mv} : AtI (mvC m) 0 (I m.fb) := ⟨rfl⟩
instance {m : Mv} : AtI (mvC m) 1 (I m.fs) := ⟨rfl⟩
instance {m : Mv} : AtI (mvC m) 2 (I m.tb) := ⟨rfl⟩
instance {m : Mv} : AtI (mvC m) 3 (I m.ts) := ⟨rfl⟩
instance {m : Mv} : SubI (mvC m) 0 2 [I m.fb, I m.fs] := ⟨rfl, rfl⟩
instance {m : Mv} : SubI (mvC m) 2 2 [I m.tb, I m.ts] := ⟨rfl, rfl⟩
def faL (f : Fa) (rv hv mv : Value) : List Value := [I f.k, I f.bin, I f.at_, I f.n, str f.name, I f.gen, I f.time, rv, hv, mv, I f.last, I f.young, I f.step, I f.count]
section
variable {f : Fa} {rv hv mv : Value}
instance : AtLen (faL f rv hv mv) 14 := ⟨rfl⟩
instance : AtI (faL f rv hv mv) 0 (I f.k) := ⟨rfl⟩
instance : AtI (faL f rv hv mv) 1 (I f.bin) := ⟨rfl⟩
instance : AtI (faL f rv hv mv) 2 (I f.at_) := ⟨rfl⟩
instance : AtI (faL f rv hv mv) 3 (I f.n) := ⟨rfl⟩
instance : AtI (faL f rv hv mv) 4 (str f.name) := ⟨rfl⟩
instance : AtI (faL f rv hv mv) 5 (I f.gen) := ⟨rfl⟩
instance : AtI (faL f rv hv mv) 6 (I f.time) := ⟨rfl⟩
instance : AtI (faL f rv hv mv) 7 rv := ⟨rfl⟩
instance : AtI (faL f rv hv mv) 8 hv := ⟨rfl⟩
instance : AtI (faL f rv hv mv) 9 mv := ⟨rfl⟩
instance : AtI (faL f rv hv mv) 10 (I f.last) := ⟨rfl⟩
instance : AtI (faL f rv hv mv) 11 (I f.young) := ⟨rfl⟩
instance : AtI (faL f rv hv mv) 12 (I f.step) := ⟨rfl⟩
instance : AtI (faL f rv hv mv) 13 (I f.count) := ⟨rfl⟩
instance : AtI (faL f rv hv mv) (1 + 0) (I f.bin) := ⟨rfl⟩
instance : AtI (faL f rv hv mv) (1 + 1 + 0) (I f.at_) := ⟨rfl⟩
instance : AtI (faL f rv hv mv) (1 + 1 + 1) (I f.n) := ⟨rfl⟩
instance : AtI (faL f rv hv mv) (10 + 0) (I f.last) := ⟨rfl⟩
instance : AtI (faL f rv hv mv) (10 + 1) (I f.young) := ⟨rfl⟩
instance : AtI (faL f rv hv mv) (10 + 2) (I f.step) := ⟨rfl⟩
instance : AtI (faL f rv hv mv) (10 + 3) (I f.count) := ⟨rfl⟩
instance : SubI (faL f rv hv mv) (1 + 1) 2 [I f.at_, I f.n] := ⟨rfl, rfl⟩
instance : SubI (faL f rv hv mv) 1 3 [I f.bin, I f.at_, I f.n] := ⟨rfl, rfl⟩
instance : SubI (faL f rv hv mv) 2 2 [I f.at_, I f.n] := ⟨rfl, rfl⟩
instance : SubI (faL f rv hv mv) 10 4 [I f.last, I f.young, I f.step, I f.count] := ⟨rfl, rfl⟩
end
attribute [local irreducible] S.pick S.ld S.ldN S.st S.box S.nc S.fad S.ixS S.ixA S.chr S.prt S.ext S.bin S.sh S.sbin S.beq S.neg1 S.com1 S.not1 S.cvt S.str1 S.lenS S.len S.cap S.lenM S.mx S.mn S.mkM S.cond S.gd S.fa S.dr S.rck S.join S.loop S.cvv S.eqv S.slc S.slcS S.b2s S.lk V U CF Gives E cel mpb osl ros dct dit itr lpo dfo
set_option maxRecDepth 4000
variable {B : World} {H : List Asrt} {K : Value → WT} {W : WT} {c : Bool} {x y z : Value}
theorem number [Amb] {n : Int} (h : E B H (K (.bool (numB n)))) : E B H (CF Tryz.prog 114 [I n] K) := by
  refine E_mono (W := s114 _ K) ?_ fun _ => c114
  unfold s114
  (repeat first | refine gS ?_ | refine gY ?_ | refine gA fun _ => ?_ | refine gX fun _ _ => ?_ | refine gI ?_)
  exact h
theorem inBin [Amb] {n : Int} (h : E B H (K (.bool (inBinB n)))) : E B H (CF Tryz.prog 136 [I n] K) := by
  refine E_mono (W := s136 _ K) ?_ fun _ => c136
  unfold s136
  (repeat first | refine gS ?_ | refine gY ?_ | refine gA fun _ => ?_ | refine gX fun _ _ => ?_ | refine gI ?_)
  exact h
instance [Amb] {n : Int} [h : Un c x (I n)] : Pb B H c (CF Tryz.prog 114 [x]) (.bool (numB n)) := ⟨fun e K k => by rw [h.pf e]; exact number k⟩
instance [Amb] {n : Int} [h : Un c x (I n)] : Pb B H c (CF Tryz.prog 136 [x]) (.bool (inBinB n)) := ⟨fun e K k => by rw [h.pf e]; exact inBin k⟩
theorem spot [Amb] {b s : Int} (h : E B H (K (.bool (spotB b s)))) : E B H (CF Tryz.prog 111 [.agg #[I b, I s]] K) := by
  refine E_mono (W := s111 _ K) ?_ fun _ => c111
  unfold s111
  (repeat first | refine gS ?_ | refine gY ?_ | refine gA fun _ => ?_ | refine gX fun _ _ => ?_ | refine gI ?_)
  refine inBin ?_
  (repeat first | refine gS ?_ | refine gY ?_ | refine gA fun _ => ?_ | refine gX fun _ _ => ?_ | refine gI ?_)
  exact sm h
theorem right [Amb] {r : Rf} (h : E B H (K (.bool (rightB r)))) : E B H (CF Tryz.prog 140 [.agg (rfC r).toArray] K) := by
  refine E_mono (W := s140 _ K) ?_ fun _ => c140
  unfold s140
  (repeat first | refine gS ?_ | refine gY ?_ | refine gA fun _ => ?_ | refine gX fun _ _ => ?_ | refine gI ?_)
  exact sm h
theorem rule [Amb] {f : Fa} (h : E B H (K (.bool (ruleB f)))) : E B H (CF Tryz.prog 137 [.agg #[I f.last, I f.young, I f.step, I f.count]] K) := by
  refine E_mono (W := s137 _ K) ?_ fun _ => c137
  unfold s137
  (repeat first | refine gS ?_ | refine gY ?_ | refine gA fun _ => ?_ | refine gX fun _ _ => ?_ | refine gI ?_)
  refine number ?_
  (repeat first | refine gS ?_ | refine gY ?_ | refine gA fun _ => ?_ | refine gX fun _ _ => ?_ | refine gI ?_)
  exact sm h
theorem number2 [Amb] {n : Int} (h : E B H (K (.bool (numB n)))) : E B H (CF Tryz.prog 122 [I n] K) := by
  refine E_mono (W := s122 _ K) ?_ fun _ => c122
  unfold s122
  (repeat first | refine gS ?_ | refine gY ?_ | refine gA fun _ => ?_ | refine gX fun _ _ => ?_ | refine gI ?_)
  exact h
theorem spot2 [Amb] {b s : Int} (h : E B H (K (.bool (spotB b s)))) : E B H (CF Tryz.prog 124 [.agg #[I b, I s]] K) := by
  refine E_mono (W := s124 _ K) ?_ fun _ => c124
  unfold s124
  (repeat first | refine gS ?_ | refine gY ?_ | refine gA fun _ => ?_ | refine gX fun _ _ => ?_ | refine gI ?_)
  have e : (decide (0 ≤ b) && decide (b ≤ 4095) && decide (0 ≤ s) && decide (s ≤ 63)) = spotB b s := by
    rw [Bool.eq_iff_iff]; simp [spotB, inBinB]; omega
  rw [e]
  exact sm h
theorem right2 [Amb] {r : Rf} (h : E B H (K (.bool (rightB r)))) : E B H (CF Tryz.prog 125 [.agg (rfC r).toArray] K) := by
  refine E_mono (W := s125 _ K) ?_ fun _ => c125
  unfold s125
  (repeat first | refine gS ?_ | refine gY ?_ | refine gA fun _ => ?_ | refine gX fun _ _ => ?_ | refine gI ?_)
  have e : (decide (1 ≤ r.len) && decide (r.len ≤ 512) && decide (0 ≤ r.bin) && decide (r.bin ≤ 4095) && decide (0 ≤ r.slot) && decide (r.slot ≤ 63)) = rightB r := by
    rw [Bool.eq_iff_iff]; simp [rightB]; omega
  rw [e]
  exact sm h
theorem hasName [Amb] {k : Int} (h : E B H (K (.bool (nName k)))) : E B H (CF Tryz.prog 120 [I k] K) := by
  refine E_mono (W := s120 _ K) ?_ fun _ => c120
  unfold s120
  (repeat first | refine gS ?_ | refine gY ?_ | refine gA fun _ => ?_ | refine gX fun _ _ => ?_ | refine gI ?_)
  have e : (decide (k = 3) || decide (k = 4) || decide (k = 5) || decide (k = 6)) = nName k := by
    rw [Bool.eq_iff_iff]; simp [nName, or_assoc]
  rw [e]
  exact h
theorem hasTime [Amb] {k : Int} (h : E B H (K (.bool (nTime k)))) : E B H (CF Tryz.prog 121 [I k] K) := by
  refine E_mono (W := s121 _ K) ?_ fun _ => c121
  unfold s121
  (repeat first | refine gS ?_ | refine gY ?_ | refine gA fun _ => ?_ | refine gX fun _ _ => ?_ | refine gI ?_)
  have e : (decide (k = 3) || decide (k = 5) || decide (k = 8)) = nTime k := by
    rw [Bool.eq_iff_iff]; simp [nTime, or_assoc]
  rw [e]
  exact h
instance [Amb] {n : Int} [h : Un c x (I n)] : Pb B H c (CF Tryz.prog 122 [x]) (.bool (numB n)) := ⟨fun e K k => by rw [h.pf e]; exact number2 k⟩
instance [Amb] {b s : Int} [h : Un c x (.agg #[I b, I s])] : Pb B H c (CF Tryz.prog 111 [x]) (.bool (spotB b s)) := ⟨fun e K k => by rw [h.pf e]; exact spot k⟩
instance [Amb] {b s : Int} [h : Un c x (.agg #[I b, I s])] : Pb B H c (CF Tryz.prog 124 [x]) (.bool (spotB b s)) := ⟨fun e K k => by rw [h.pf e]; exact spot2 k⟩
instance [Amb] {n : Int} [h : Un c x (I n)] : Pb B H c (CF Tryz.prog 120 [x]) (.bool (nName n)) := ⟨fun e K k => by rw [h.pf e]; exact hasName k⟩
instance [Amb] {n : Int} [h : Un c x (I n)] : Pb B H c (CF Tryz.prog 121 [x]) (.bool (nTime n)) := ⟨fun e K k => by rw [h.pf e]; exact hasTime k⟩
end Go.Proofs.YtjafpncngmbcdaaGreat.Nam
end
section
namespace Go.Proofs.YtjafpncngmbcdaaGreat.Nam
open Go Go.SL Go.Proofs Go.Proofs.YtjafpncngmbcdaaGreat.Sh
variable {B : World} {H : List Asrt} {K : Value → WT} {W : WT} {c : Bool} {x y z : Value}
theorem E_chrL {s : List UInt8} {i : Nat} {c : UInt8} {k : IntKind} (hs : s[i]? = some c) (h : E B H (K (.int .u8 (c.toNat : Int)))) : E B H (S.chr (str s) (.int k (i : Int)) K) := by
  have hl : i < s.length := (List.getElem?_eq_some_iff.1 hs).1
  have hi : ((i : Int)).toNat < (⟨s.toArray⟩ : ByteArray).size := by rw [strSize]; simpa using hl
  refine E_chr (by omega) hi ?_
  have e : (⟨s.toArray⟩ : ByteArray)[((i : Int)).toNat]'hi = c := by
    have h2 : s[i] = c := by rw [List.getElem?_eq_getElem hl] at hs; exact Option.some.inj hs
    show s.toArray[((i : Int)).toNat]'_ = c
    simpa using h2
  rw [e]; exact h
attribute [local irreducible] S.pick S.ld S.ldN S.st S.box S.nc S.fad S.ixS S.ixA S.chr S.prt S.ext S.bin S.sh S.sbin S.beq S.neg1 S.com1 S.not1 S.cvt S.str1 S.lenS S.len S.cap S.lenM S.mx S.mn S.mkM S.cond S.gd S.fa S.dr S.rck S.join S.loop S.cvv S.eqv S.slc S.slcS S.b2s S.lk V U CF Gives E cel mpb osl ros dct dit itr lpo dfo
set_option maxRecDepth 4000
theorem recName [Amb] {s : List UInt8} (hm : s.length ≤ 9223372036854775807) (h : E B H (K (.bool (nameOk s)))) : E B H (CF Tryz.prog 113 [str s] K) := by
  refine E_mono (W := s113 _ K) ?_ fun _ => c113
  unfold s113
  refine E_lenstr ?_
  refine E_loop (σ := Nat) (fun i => i ≤ s.length ∧ ∀ j c, j < i → s[j]? = some c → 33 ≤ c.toNat ∧ c.toNat ≤ 126) (fun i => [str s, I s.length, I i]) (fun _ => H) (fun i => s.length - i) 0 (fun _ => rfl) rfl ⟨Nat.zero_le _, by omega⟩ (fun W hW => hW) ?_
  rintro i K0 ⟨hi, ha⟩ hk
  refine E_fa fun _ => ?_
  refine E_lss ?_
  refine E_if (fun hc => ?_) (fun hc => ?_)
  · have hs : s[i]? = some s[i] := List.getElem?_eq_getElem (by omega)
    generalize s[i] = c at hs
    refine E_join1 [str s, I s.length, I i, .bool (decide (c.toNat < 33 ∨ 126 < c.toNat))] H (fun q hq => ?_) ?_
    · have fin : ∀ q' : Bool, decide (c.toNat < 33 ∨ 126 < c.toNat) = q' → E B H (app 4 q [str s, I s.length, I i, .bool q']) := fun q' h => h ▸ hq
      refine E_chrL hs ?_
      refine E_lss ?_
      by_cases h1 : (c.toNat : Int) < 33
      · (repeat first | refine gS ?_ | refine gA fun _ => ?_ | refine gX fun _ _ => ?_ | refine gT ?_ | refine gF ?_ | refine gI ?_)
        exact fin _ (decide_eq_true (by omega))
      · (repeat first | refine gS ?_ | refine gA fun _ => ?_ | refine gX fun _ _ => ?_ | refine gT ?_ | refine gF ?_ | refine gI ?_)
        refine E_chrL hs ?_
        (repeat first | refine gS ?_ | refine gA fun _ => ?_ | refine gX fun _ _ => ?_ | refine gT ?_ | refine gF ?_ | refine gI ?_)
        refine fin _ ?_
        rw [decide_eq_decide]; omega
    refine E_fa fun _ => ?_
    refine E_if (fun hb => ?_) (fun hb => ?_)
    · have : nameOk s = false := decide_eq_false fun h => by
        have := h.2.2 c (List.mem_of_getElem? hs); omega
      rw [this] at h; exact h
    · refine E_addI (by omega) (by omega) ?_
      refine hk (i + 1) ⟨by omega, fun j d hj hd => ?_⟩ (by omega)
      by_cases hji : j = i
      · subst hji; rw [hs] at hd; cases hd; omega
      · exact ha j d (by omega) hd
  · have hall : ∀ c ∈ s, 33 ≤ c.toNat ∧ c.toNat ≤ 126 := fun c hc' => by
      obtain ⟨j, hj, rfl⟩ := List.getElem_of_mem hc'
      exact ha j _ (by omega) (List.getElem?_eq_getElem hj)
    refine E_strne (b := []) ?_
    by_cases h0 : s ≠ []
    · by_cases h32 : (s.length : Int) ≤ 32
      · have : nameOk s = true := decide_eq_true ⟨h0, by omega, hall⟩
        rw [this] at h
        (repeat first | refine gS ?_ | refine gA fun _ => ?_ | refine gX fun _ _ => ?_ | refine gT ?_ | refine gF ?_ | refine gI ?_)
        rw [decide_eq_true h32]
        exact h
      · have : nameOk s = false := decide_eq_false fun h => by omega
        rw [this] at h
        (repeat first | refine gS ?_ | refine gA fun _ => ?_ | refine gX fun _ _ => ?_ | refine gT ?_ | refine gF ?_ | refine gI ?_)
        rw [decide_eq_false h32]
        exact h
    · have : nameOk s = false := decide_eq_false fun h => h0 h.1
      rw [this] at h
      (repeat first | refine gS ?_ | refine gA fun _ => ?_ | refine gX fun _ _ => ?_ | refine gT ?_ | refine gF ?_ | refine gI ?_)
      exact h
theorem rname [Amb] {s : List UInt8} (hm : s.length ≤ 9223372036854775806) (h : E B H (K (.bool (nameOk s)))) : E B H (CF Tryz.prog 123 [str s] K) := by
  refine E_mono (W := s123 _ K) ?_ fun _ => c123
  unfold s123
  have no : ¬ (s ≠ [] ∧ s.length ≤ 32 ∧ ∀ c ∈ s, 33 ≤ c.toNat ∧ c.toNat ≤ 126) → E B H (K (.bool false)) := fun hn => by
    have : nameOk s = false := decide_eq_false hn
    rw [this] at h; exact h
  refine E_join1 [str s, .bool (decide (s.length < 1 ∨ 32 < s.length))] H (fun q hq => ?_) ?_
  · have hfin : ∀ b : Bool, decide (s.length < 1 ∨ 32 < s.length) = b → E B H (app 2 q [str s, .bool b]) := fun b h => h ▸ hq
    refine E_lenstr ?_
    refine E_lss ?_
    by_cases g : (s.length : Int) < 1
    · (repeat first | refine gS ?_ | refine gA fun _ => ?_ | refine gX fun _ _ => ?_ | refine gT ?_ | refine gF ?_ | refine gI ?_)
      exact hfin _ (decide_eq_true (by omega))
    · (repeat first | refine gS ?_ | refine gA fun _ => ?_ | refine gX fun _ _ => ?_ | refine gT ?_ | refine gF ?_ | refine gI ?_)
      exact hfin _ (by rw [decide_eq_decide]; omega)
  refine E_fa fun _ => ?_
  refine E_if (fun hb => ?_) (fun hb => ?_)
  · exact no fun hh => by
      have : 0 < s.length := List.length_pos_iff.2 hh.1
      omega
  refine E_loop (σ := Nat) (fun i => i ≤ s.length ∧ ∀ j c, j < i → s[j]? = some c → 33 ≤ c.toNat ∧ c.toNat ≤ 126) (fun i => [str s, I i]) (fun _ => H) (fun i => s.length - i) 0 (fun _ => rfl) rfl ⟨Nat.zero_le _, by omega⟩ (fun W hW => hW) ?_
  rintro i K0 ⟨hi, ha⟩ hk
  refine E_fa fun _ => ?_
  refine E_lenstr ?_
  refine E_lss ?_
  refine E_if (fun hc => ?_) (fun hc => ?_)
  · have hs : s[i]? = some s[i] := List.getElem?_eq_getElem (by omega)
    generalize s[i] = c at hs
    refine E_join1 [str s, I i, .bool (decide (c.toNat < 33 ∨ 126 < c.toNat))] H (fun q hq => ?_) ?_
    · have fin : ∀ q' : Bool, decide (c.toNat < 33 ∨ 126 < c.toNat) = q' → E B H (app 3 q [str s, I i, .bool q']) := fun q' h => h ▸ hq
      refine E_chrL hs ?_
      refine E_lss ?_
      by_cases h1 : (c.toNat : Int) < 33
      · (repeat first | refine gS ?_ | refine gA fun _ => ?_ | refine gX fun _ _ => ?_ | refine gT ?_ | refine gF ?_ | refine gI ?_)
        exact fin _ (decide_eq_true (by omega))
      · (repeat first | refine gS ?_ | refine gA fun _ => ?_ | refine gX fun _ _ => ?_ | refine gT ?_ | refine gF ?_ | refine gI ?_)
        refine E_chrL hs ?_
        (repeat first | refine gS ?_ | refine gA fun _ => ?_ | refine gX fun _ _ => ?_ | refine gT ?_ | refine gF ?_ | refine gI ?_)
        refine fin _ ?_
        rw [decide_eq_decide]; omega
    refine E_fa fun _ => ?_
    refine E_if (fun hb => ?_) (fun hb => ?_)
    · exact no fun hh => by have := hh.2.2 c (List.mem_of_getElem? hs); omega
    · refine E_addI (by omega) (by omega) ?_
      refine hk (i + 1) ⟨by omega, fun j d hj hd => ?_⟩ (by omega)
      by_cases hji : j = i
      · subst hji; rw [hs] at hd; cases hd; omega
      · exact ha j d (by omega) hd
  · have hall : ∀ c ∈ s, 33 ≤ c.toNat ∧ c.toNat ≤ 126 := fun c hc' => by
      obtain ⟨j, hj, rfl⟩ := List.getElem_of_mem hc'
      exact ha j _ (by omega) (List.getElem?_eq_getElem hj)
    have : nameOk s = true := decide_eq_true ⟨fun e => hb (by subst e; simp), by omega, hall⟩
    rw [this] at h
    exact h
class Len (s : List UInt8) : Prop where
  pf : s.length ≤ 140737488355328
instance [Amb] {s : List UInt8} [h : Un c x (str s)] [hl : Len s] : Pb B H c (CF Tryz.prog 113 [x]) (.bool (nameOk s)) := ⟨fun e K k => by rw [h.pf e]; exact recName (Nat.le_trans hl.pf (by decide)) k⟩
instance [Amb] {s : List UInt8} [h : Un c x (str s)] [hl : Len s] : Pb B H c (CF Tryz.prog 123 [x]) (.bool (nameOk s)) := ⟨fun e K k => by rw [h.pf e]; exact rname (Nat.le_trans hl.pf (by decide)) k⟩
def idxI : Option Nat → Int | none => -1 | some i => i
noncomputable def idxC (sz : Nat) (s_0 f_1 : Value) (K : Value → WT) : WT :=
 S.len s_0 fun v7 =>
 S.loop 4 (fun K0 => fun s_0' f_1' v7' v8 => S.fa fun _ =>
 S.bin .lss v8 v7' fun v9 =>
 S.cond v9 (
 S.ixS sz s_0' v8 fun v14 =>
 S.ldN sz v14 fun v15 =>
 S.cvv Tryz.prog f_1' [v15] fun v16 =>
 S.cond v16 (
 K v8) (
 S.bin .add v8 (.int .i64 1) fun v18 =>
 K0 s_0' f_1' v7' v18)) (
 K (.int .i64 (-1))))
 [s_0, f_1, v7, .int .i64 0]
theorem s138_eq (x y : Value) (K : Value → WT) : s138 x y K = idxC 4 x y K := by kernel_rfl
theorem s45_eq (x y : Value) (K : Value → WT) : s45 x y K = idxC 2 x y K := by kernel_rfl
theorem s91_eq (x y : Value) (K : Value → WT) : s91 x y K = idxC 4 x y K := by kernel_rfl
def Asks {α : Type} (B : World) (C : List Asrt) (fv : Value) (enc : α → List Value) (p : α → Bool) (l : List α) : Prop := ∀ x ∈ l, ∀ (H' : List Asrt) (K' : Value → WT), E B (C ++ H') (K' (.bool (p x))) → E B (C ++ H') (S.cvv Tryz.prog fv [.agg (enc x).toArray] K')
theorem findIdx_snoc {α : Type} {p : α → Bool} {l : List α} {i : Nat} {x : α} (hx : l[i]? = some x) (ha : ∀ y ∈ l.take i, p y = false) (hp : p x = true) : l.findIdx? p = some i := by
  rw [List.findIdx?_eq_some_iff_getElem]
  obtain ⟨hlt, hxe⟩ := List.getElem?_eq_some_iff.1 hx
  refine ⟨hlt, by rw [hxe]; exact hp, fun j hj => ?_⟩
  have := ha l[j] (List.mem_take_iff_getElem.2 ⟨j, by omega, rfl⟩)
  simp [this]
theorem idxC_ok {α : Type} {enc : α → List Value} {sz : Nat} [hE : Enc enc sz] {C : List Asrt} {v fv : Value} {l : List α} {p : α → Bool} [hv : Rs B (C ++ H) v enc l] (hn : l.length ≤ 140737488355328) (hp : Asks B C fv enc p l)
    (h : E B (C ++ H) (K (I (idxI (l.findIdx? p))))) : E B (C ++ H) (idxC sz v fv K) := by
  unfold idxC
  refine E_rslen (v := v) (l := l) ?_
  refine E_loop (n := 4) (σ := Nat) (fun i => i ≤ l.length ∧ ∀ x ∈ l.take i, p x = false) (fun i => [v, fv, I l.length, I i]) (fun _ => C ++ H) (fun i => l.length - i) 0 (fun _ => rfl) rfl ⟨Nat.zero_le _, by simp⟩ (fun W hW => hW) ?_
  rintro i K0 ⟨hi, ha⟩ hk
  refine E_fa fun _ => ?_
  refine E_lss ?_
  refine E_if (fun hc => ?_) (fun hc => ?_)
  · have hx : l[i]? = some l[i] := List.getElem?_eq_getElem (by omega)
    have hxm := List.mem_of_getElem? hx
    generalize l[i] = x at hx hxm
    refine E_rsix (v := v) (l := l) hx fun _ _ => ?_
    refine E_ptldA (hn := ⟨hE.len x⟩) ?_
    refine hp x hxm _ _ ?_
    cases hpx : p x with
    | true =>
      rw [findIdx_snoc hx ha hpx] at h
      refine E_tt ?_
      exact h
    | false =>
      refine E_ff ?_
      refine E_addI (by omega) (by omega) ?_
      refine hk (i + 1) ⟨by omega, fun y hy => ?_⟩ (by omega)
      rw [List.take_add_one, hx] at hy
      rcases List.mem_append.1 hy with hy | hy
      · exact ha y hy
      · simp at hy; subst hy; exact hpx
  · have : i = l.length := by omega
    subst this
    have e : l.findIdx? p = none := by
      rw [List.findIdx?_eq_none_iff]
      intro x hx
      exact ha x (by simpa using hx)
    rw [e] at h
    exact h
theorem idx_any {α : Type} (l : List α) (p : α → Bool) : decide (0 ≤ idxI (l.findIdx? p)) = l.any p := by
  cases h : l.findIdx? p with
  | none =>
    have h' := List.findIdx?_eq_none_iff.1 h
    have : l.any p = false := List.any_eq_false.2 fun x hx => by simp [h' x hx]
    rw [this]; rfl
  | some i =>
    obtain ⟨hl, hp, _⟩ := List.findIdx?_eq_some_iff_getElem.1 h
    have : l.any p = true := List.any_eq_true.2 ⟨_, List.getElem_mem hl, hp⟩
    rw [this]
    exact decide_eq_true (show (0 : Int) ≤ (i : Int) by omega)
theorem anyMove {v : Value} {l : List Mv} [hv : Rs B H v mvC l] (hn : l.length ≤ 140737488355328) (h : E B H (K (.bool (l.any fun m => !moveOk m)))) : E B H (CF Tryz.prog 109 [v, .func (.func 110) #[] #[]] K) := by
  refine E_mono (W := s109 _ _ K) ?_ fun _ => c109
  unfold s109
  refine E_mono (W := s138 _ _ _) ?_ fun _ => c138
  rw [s138_eq]
  refine idxC_ok (C := []) (hv := hv) (p := fun m => !moveOk m) hn (fun m _ H' K' hK => ?_) ?_
  · refine E_cvv (by kernel_rfl) ?_
    show E B H' (CF Tryz.prog 110 [.agg (mvC m).toArray] K')
    refine E_mono (W := s110 _ K') ?_ fun _ => c110
    unfold s110
    (repeat first | refine gS ?_ | refine gY ?_ | refine gA fun _ => ?_ | refine gX fun _ _ => ?_ | refine gI ?_)
    refine spot ?_
    (repeat first | refine gS ?_ | refine gY ?_ | refine gA fun _ => ?_ | refine gX fun _ _ => ?_ | refine gI ?_)
    have hK2 : E B H' (K' (.bool (!moveOk m))) := hK
    have e : (!spotB m.fb m.fs || !spotB m.tb m.ts) = !moveOk m := by unfold moveOk; rw [Bool.not_and]
    rw [e]
    exact sm hK2
  · refine E_geq ?_
    rw [idx_any]
    exact h
theorem anyHeld {v : Value} {l : List (List UInt8 × Int)} [hv : Rs B H v hC l] (hn : l.length ≤ 140737488355328) (hl : ∀ h ∈ l, h.1.length ≤ 140737488355328) (h : E B H (K (.bool (l.any fun m => !heldOk m)))) : E B H (CF Tryz.prog 84 [v, .func (.func 112) #[] #[]] K) := by
  refine E_mono (W := s84 _ _ K) ?_ fun _ => c84
  unfold s84
  refine E_mono (W := s45 _ _ _) ?_ fun _ => c45
  rw [s45_eq]
  refine idxC_ok (C := []) (hv := hv) (p := fun m => !heldOk m) hn (fun m hm H' K' hK => ?_) ?_
  · have : Len m.1 := ⟨hl m hm⟩
    refine E_cvv (by kernel_rfl) ?_
    show E B H' (CF Tryz.prog 112 [.agg (hC m).toArray] K')
    refine E_mono (W := s112 _ K') ?_ fun _ => c112
    unfold s112
    (repeat first | refine gS ?_ | refine gY ?_ | refine gA fun _ => ?_ | refine gX fun _ _ => ?_ | refine gI ?_)
    refine recName (Nat.le_trans (hl m hm) (by decide)) ?_
    (repeat first | refine gS ?_ | refine gY ?_ | refine gA fun _ => ?_ | refine gX fun _ _ => ?_ | refine gI ?_)
    have hK2 : E B H' (K' (.bool (!heldOk m))) := hK
    have e : (!nameOk m.1 || decide (m.2 < 1) || !numB m.2) = !heldOk m := by
      unfold heldOk; rw [Bool.not_and, Bool.not_and]
      congr 2
      rw [Bool.eq_iff_iff]; simp
    rw [e]
    exact sm hK2
  · refine E_geq ?_
    rw [idx_any]
    exact h
theorem hasKind {v : Value} {l : List Int} {k : Int} [hv : Rs B H v cI l] (hn : l.length ≤ 140737488355328) (h : E B H (K (.bool (decide (k ∈ l))))) : E B H (CF Tryz.prog 135 [v, I k] K) := by
  refine E_mono (W := s135 _ _ K) ?_ fun _ => c135
  unfold s135
  refine E_mono (W := s149 _ _ _) ?_ fun _ => c149
  unfold s149
  refine E_rslen (v := v) (l := l) ?_
  refine E_loop (σ := Nat) (fun i => i ≤ l.length ∧ k ∉ l.take i) (fun i => [v, I k, I l.length, I i]) (fun _ => H) (fun i => l.length - i) 0 (fun _ => rfl) rfl ⟨Nat.zero_le _, by simp⟩ (fun W hW => hW) ?_
  rintro i K0 ⟨hi, ha⟩ hk
  refine E_fa fun _ => ?_
  refine E_lss ?_
  refine E_if (fun hc => ?_) (fun hc => ?_)
  · have hx : l[i]? = some l[i] := List.getElem?_eq_getElem (by omega)
    have hxm := List.mem_of_getElem? hx
    generalize l[i] = x at hx hxm
    refine E_rsix (v := v) (l := l) hx fun _ _ => ?_
    refine E_ptld ?_
    refine E_eql ?_
    refine E_if (fun e => ?_) (fun e => ?_)
    · subst e
      refine E_geq ?_
      rw [decide_eq_true hxm] at h
      rw [decide_eq_true (by omega)]
      exact h
    · refine E_addI (by omega) (by omega) ?_
      refine hk (i + 1) ⟨by omega, ?_⟩ (by omega)
      rw [List.take_add_one, hx]
      simp [ha, e]
  · have : i = l.length := by omega
    subst this
    rw [List.take_length] at ha
    refine E_geq ?_
    rw [decide_eq_false ha] at h
    exact h
abbrev nmL (k : Int) : List Value := [.bool (nPlace k), .bool (nName k), .bool (nGen k), .bool (nTime k), .bool (decide (k = 3)), .bool (decide (k = 5)), .bool (decide (k = 7)), .bool (decide (k = 9))]
theorem str_names : Str Tryz.prog 150 [(0, 1), (1, 1), (2, 1), (3, 1), (4, 1), (5, 1), (6, 1), (7, 1)] [.bool false, .bool false, .bool false, .bool false, .bool false, .bool false, .bool false, .bool false] := str_of (zv := .agg #[.bool false, .bool false, .bool false, .bool false, .bool false, .bool false, .bool false, .bool false]) (by kernel_rfl) (by kernel_rfl) rfl
theorem kindIn {k : Int} {b1 : Nat} {v : Value} {l : List Int} [HasC H b1 true 51 [I k]] [hv : Rs B H v cI l] (hn : l.length ≤ 140737488355328) (h : E B H (K (.bool (decide (k ∈ l))))) :
    E B H (S.cvv Tryz.prog (.func (.func 134) #[] #[ptr b1]) [v] K) := by
  refine E_cvv (by kernel_rfl) ?_
  show E B _ (CF Tryz.prog 134 [v, ptr b1] K)
  refine E_mono (W := s134 _ _ K) ?_ fun _ => c134
  unfold s134
  refine E_ld ?_
  exact hasKind hn h
theorem named {k : Int} (h : E B H (K (.agg (nmL k).toArray))) : E B H (CF Tryz.prog 106 [I k] K) := by
  refine E_mono (W := s106 _ K) ?_ fun _ => c106
  unfold s106
  refine E_box (vs := [I k]) fun b1 => ?_
  refine E_box fun b2 => ?_
  refine E_bsl [(0, 1), (1, 1)] u_kinds elt_kind (by simp) (by decide) (l0 := [I 0, I 0]) rfl fun bx => ?_
  refine E_slsC (enc := cI) [1, 2] 2 rfl rfl ?_
  refine kindIn (l := [1, 2]) (by decide) ?_
  refine E_bsl [(0, 1), (1, 1), (2, 1), (3, 1)] u_kinds elt_kind (by simp) (by decide) (l0 := [I 0, I 0, I 0, I 0]) rfl fun bx => ?_
  refine E_slsC (enc := cI) [3, 4, 5, 6] 4 rfl rfl ?_
  refine kindIn (l := [3, 4, 5, 6]) (by decide) ?_
  refine E_bsl [(0, 1), (1, 1)] u_kinds elt_kind (by simp) (by decide) (l0 := [I 0, I 0]) rfl fun bx => ?_
  refine E_slsC (enc := cI) [3, 4] 2 rfl rfl ?_
  refine kindIn (l := [3, 4]) (by decide) ?_
  refine E_bsl [(0, 1), (1, 1), (2, 1)] u_kinds elt_kind (by simp) (by decide) (l0 := [I 0, I 0, I 0]) rfl fun bx => ?_
  refine E_slsC (enc := cI) [3, 5, 8] 3 rfl rfl ?_
  refine kindIn (l := [3, 5, 8]) (by decide) ?_
  refine E_bsl [(0, 1)] u_kinds elt_kind (by simp) (by decide) (l0 := [I 0]) rfl fun bx => ?_
  refine E_slsC (enc := cI) [3] 1 rfl rfl ?_
  refine kindIn (l := [3]) (by decide) ?_
  refine E_bsl [(0, 1)] u_kinds elt_kind (by simp) (by decide) (l0 := [I 0]) rfl fun bx => ?_
  refine E_slsC (enc := cI) [5] 1 rfl rfl ?_
  refine kindIn (l := [5]) (by decide) ?_
  refine E_bsl [(0, 1)] u_kinds elt_kind (by simp) (by decide) (l0 := [I 0]) rfl fun bx => ?_
  refine E_slsC (enc := cI) [7] 1 rfl rfl ?_
  refine kindIn (l := [7]) (by decide) ?_
  refine E_bsl [(0, 1)] u_kinds elt_kind (by simp) (by decide) (l0 := [I 0]) rfl fun bx => ?_
  refine E_slsC (enc := cI) [9] 1 rfl rfl ?_
  refine kindIn (l := [9]) (by decide) ?_
  refine E_build (l := [.bool (decide (k ∈ [1, 2])), .bool (decide (k ∈ [3, 4, 5, 6])), .bool (decide (k ∈ [3, 4])), .bool (decide (k ∈ [3, 5, 8])), .bool (decide (k ∈ [3])), .bool (decide (k ∈ [5])), .bool (decide (k ∈ [7])), .bool (decide (k ∈ [9]))]) str_names ?_
  (repeat first | refine gS ?_ | refine gA fun _ => ?_ | refine gX fun _ _ => ?_ | refine gT ?_ | refine gF ?_ | refine gI ?_)
  have e : ([.bool (decide (k ∈ [1, 2])), .bool (decide (k ∈ [3, 4, 5, 6])), .bool (decide (k ∈ [3, 4])), .bool (decide (k ∈ [3, 5, 8])), .bool (decide (k ∈ [3])), .bool (decide (k ∈ [5])), .bool (decide (k ∈ [7])), .bool (decide (k ∈ [9]))] : List Value) = nmL k := by
    simp [nPlace, nName, nGen, nTime]
  rw [e]
  exact sm h
end Go.Proofs.YtjafpncngmbcdaaGreat.Nam
end
section
namespace Go.Proofs.YtjafpncngmbcdaaGreat.Nam
open Go Go.SL Go.Proofs Go.Proofs.YtjafpncngmbcdaaGreat.Sh
variable {B : World} {H : List Asrt} {K : Value → WT} {W : WT} {c : Bool} {x y z : Value}
theorem eq_run (a b a' b' : Int) : EqG Tryz.prog 2 55 (.agg #[I a, I b]) (.agg #[I a', I b']) (decide (a = a' ∧ b = b')) := by
  have h := eqg_struct (P := Tryz.prog) (n := 1) (t := 55) (xs := [I a, I b]) (ys := [I a', I b']) (bs := [decide (a = a'), decide (b = b')]) [(3, 0), (3, 1)] (by kernel_rfl) (by kernel_rfl) (by kernel_rfl) rfl (fun i t o b'' h1 h2 => by
    match i, h1, h2 with
    | 0, h1, h2 => cases h1; cases h2; exact ⟨_, _, partG_cell (eqV_int (a := a) (b := a') u_int).1 rfl, partG_cell (eqV_int (a := a) (b := a') u_int).1 rfl, (eqV_int u_int).g⟩
    | 1, h1, h2 => cases h1; cases h2; exact ⟨_, _, partG_cell (eqV_int (a := a) (b := a') u_int).1 rfl, partG_cell (eqV_int (a := a) (b := a') u_int).1 rfl, (eqV_int u_int).g⟩
    | n + 2, h1, h2 => simp at h1)
  simpa [Bool.decide_and] using h
theorem eq_place (a b n a' b' n' : Int) : EqG Tryz.prog 3 57 (.agg #[I a, I b, I n]) (.agg #[I a', I b', I n']) (decide (a = a' ∧ b = b' ∧ n = n')) := by
  have h := eqg_struct (P := Tryz.prog) (n := 2) (t := 57) (xs := [I a, I b, I n]) (ys := [I a', I b', I n']) (bs := [decide (a = a'), decide (b = b' ∧ n = n')]) [(3, 0), (55, 1)] (by kernel_rfl) (by kernel_rfl) (by kernel_rfl) rfl (fun i t o b'' h1 h2 => by
    match i, h1, h2 with
    | 0, h1, h2 => cases h1; cases h2; exact ⟨_, _, partG_cell (eqV_int (a := a) (b := a') u_int).1 rfl, partG_cell (eqV_int (a := a) (b := a') u_int).1 rfl, (eqV_int u_int).g.up (by decide)⟩
    | 1, h1, h2 => cases h1; cases h2; exact ⟨_, _, partG_agg (ys := [I b, I n]) (n := 2) (by kernel_rfl) (by kernel_rfl) rfl, partG_agg (ys := [I b', I n']) (n := 2) (by kernel_rfl) (by kernel_rfl) rfl, eq_run b n b' n'⟩
    | n + 2, h1, h2 => simp at h1)
  simpa [Bool.decide_and] using h
theorem eq_keep (a b n m a' b' n' m' : Int) : EqG Tryz.prog 2 43 (.agg #[I a, I b, I n, I m]) (.agg #[I a', I b', I n', I m']) (decide (a = a' ∧ b = b' ∧ n = n' ∧ m = m')) := by
  have h := eqg_struct (P := Tryz.prog) (n := 1) (t := 43) (xs := [I a, I b, I n, I m]) (ys := [I a', I b', I n', I m']) (bs := [decide (a = a'), decide (b = b'), decide (n = n'), decide (m = m')]) [(3, 0), (3, 1), (3, 2), (3, 3)] (by kernel_rfl) (by kernel_rfl) (by kernel_rfl) rfl (fun i t o b'' h1 h2 => by
    have hc := (eqV_int (P := Tryz.prog) (a := a) (b := a') u_int).1
    match i, h1, h2 with
    | 0, h1, h2 => cases h1; cases h2; exact ⟨_, _, partG_cell hc rfl, partG_cell hc rfl, (eqV_int u_int).g⟩
    | 1, h1, h2 => cases h1; cases h2; exact ⟨_, _, partG_cell hc rfl, partG_cell hc rfl, (eqV_int u_int).g⟩
    | 2, h1, h2 => cases h1; cases h2; exact ⟨_, _, partG_cell hc rfl, partG_cell hc rfl, (eqV_int u_int).g⟩
    | 3, h1, h2 => cases h1; cases h2; exact ⟨_, _, partG_cell hc rfl, partG_cell hc rfl, (eqV_int u_int).g⟩
    | n + 4, h1, h2 => simp at h1)
  simpa [Bool.decide_and] using h
theorem str_place : Str Tryz.prog 57 [(0, 1), (1, 2)] [I 0, I 0, I 0] := str_of (zv := .agg #[I 0, I 0, I 0]) (by kernel_rfl) (by kernel_rfl) rfl
theorem str_run : Str Tryz.prog 55 [(0, 1), (1, 1)] [I 0, I 0] := str_of (zv := .agg #[I 0, I 0]) (by kernel_rfl) (by kernel_rfl) rfl
theorem str_keep : Str Tryz.prog 43 [(0, 1), (1, 1), (2, 1), (3, 1)] [I 0, I 0, I 0, I 0] := str_of (zv := .agg #[I 0, I 0, I 0, I 0]) (by kernel_rfl) (by kernel_rfl) rfl
attribute [local irreducible] S.pick S.ld S.ldN S.st S.box S.nc S.fad S.ixS S.ixA S.chr S.prt S.ext S.bin S.sh S.sbin S.beq S.neg1 S.com1 S.not1 S.cvt S.str1 S.lenS S.len S.cap S.lenM S.mx S.mn S.mkM S.cond S.gd S.fa S.dr S.rck S.join S.loop S.cvv S.eqv S.slc S.slcS S.b2s S.lk V U CF Gives E cel mpb osl ros dct dit itr lpo dfo
set_option maxRecDepth 8000
instance : Pb B H c (V Tryz.prog (Instr.build 57 #[])) (.agg #[I 0, I 0, I 0]) := ⟨fun _ K k => E_build (l := [I 0, I 0, I 0]) str_place k⟩
instance : Pb B H c (V Tryz.prog (Instr.build 55 #[])) (.agg #[I 0, I 0]) := ⟨fun _ K k => E_build (l := [I 0, I 0]) str_run k⟩
instance : Pb B H c (V Tryz.prog (Instr.build 43 #[])) (.agg #[I 0, I 0, I 0, I 0]) := ⟨fun _ K k => E_build (l := [I 0, I 0, I 0, I 0]) str_keep k⟩
instance {a b n a' b' n' : Int} {q : Bool} [h : Un c x (.agg #[I a, I b, I n])] [h' : Un c y (.agg #[I a', I b', I n'])] : Pb B H c (S.eqv Tryz.prog .eql 57 q x y) (.bool (decide (a = a' ∧ b = b' ∧ n = n'))) :=
  ⟨fun e K k => by rw [h.pf e, h'.pf e]; exact E_aeq (by kernel_rfl) (fun w => (eq_place a b n a' b' n').equal (by decide) w) k⟩
instance {a b n a' b' n' : Int} {q : Bool} [h : Un c x (.agg #[I a, I b, I n])] [h' : Un c y (.agg #[I a', I b', I n'])] : Pb B H c (S.eqv Tryz.prog .neq 57 q x y) (.bool (!decide (a = a' ∧ b = b' ∧ n = n'))) :=
  ⟨fun e K k => by rw [h.pf e, h'.pf e]; exact E_ane (by kernel_rfl) (fun w => (eq_place a b n a' b' n').equal (by decide) w) k⟩
instance {a b a' b' : Int} {q : Bool} [h : Un c x (.agg #[I a, I b])] [h' : Un c y (.agg #[I a', I b'])] : Pb B H c (S.eqv Tryz.prog .neq 55 q x y) (.bool (!decide (a = a' ∧ b = b'))) :=
  ⟨fun e K k => by rw [h.pf e, h'.pf e]; exact E_ane (by kernel_rfl) (fun w => (eq_run a b a' b').equal (by decide) w) k⟩
instance {a b n m a' b' n' m' : Int} {q : Bool} [h : Un c x (.agg #[I a, I b, I n, I m])] [h' : Un c y (.agg #[I a', I b', I n', I m'])] : Pb B H c (S.eqv Tryz.prog .eql 43 q x y) (.bool (decide (a = a' ∧ b = b' ∧ n = n' ∧ m = m'))) :=
  ⟨fun e K k => by rw [h.pf e, h'.pf e]; exact E_aeq (by kernel_rfl) (fun w => (eq_keep a b n m a' b' n' m').equal (by decide) w) k⟩
instance {a b n m a' b' n' m' : Int} {q : Bool} [h : Un c x (.agg #[I a, I b, I n, I m])] [h' : Un c y (.agg #[I a', I b', I n', I m'])] : Pb B H c (S.eqv Tryz.prog .neq 43 q x y) (.bool (!decide (a = a' ∧ b = b' ∧ n = n' ∧ m = m'))) :=
  ⟨fun e K k => by rw [h.pf e, h'.pf e]; exact E_ane (by kernel_rfl) (fun w => (eq_keep a b n m a' b' n' m').equal (by decide) w) k⟩
instance [Amb] {f : Fa} [h : Un c x (.agg #[I f.last, I f.young, I f.step, I f.count])] : Pb B H c (CF Tryz.prog 137 [x]) (.bool (ruleB f)) := ⟨fun e K k => by rw [h.pf e]; exact rule k⟩
variable {f : Fa} {rv hv mv : Value}
theorem len0 {α : Type} (l : List α) : decide ((l.length : Int) = 0) = decide (l = []) := by
  rw [decide_eq_decide]; cases l <;> simp <;> omega
theorem bare [CellI rv] [CellI hv] [CellI mv] [Rs B H rv rfC f.refs] [Rs B H hv hC f.held] [Rs B H mv mvC f.moves] (h : E B H (K (.bool (bareB f)))) : E B H (CF Tryz.prog 107 [.agg (faL f rv hv mv).toArray, .agg (nmL f.k).toArray] K) := by
  refine E_mono (W := s107 _ _ K) ?_ fun _ => c107
  unfold s107
  (repeat first | refine gS ?_ | refine gY ?_ | refine gA fun _ => ?_ | refine gX fun _ _ => ?_ | refine gI ?_)
  simp only [len0]
  exact sm h
theorem or_l {a b : Bool} (h : a = true) : (a || b) = a := by rw [h]; rfl
theorem or_r {a b : Bool} (h : a = false) : (a || b) = b := by rw [h]; rfl
theorem plain [CellI rv] [CellI hv] [CellI mv] [Len f.name] (h : E B H (K (.bool (!badB f)))) : E B H (CF Tryz.prog 108 [.agg (faL f rv hv mv).toArray, .agg (nmL f.k).toArray] K) := by
  refine E_mono (W := s108 _ _ K) ?_ fun _ => c108
  unfold s108
  (repeat first | refine gS ?_ | refine gY ?_ | refine gA fun _ => ?_ | refine gX fun _ _ => ?_ | refine gI ?_)
  rename_i b2 b3 b5
  have no : badB f = true → E B (cel true b5 55 [I f.at_, I f.n] :: cel true b3 150 (nmL f.k) :: cel true b2 60 (faL f rv hv mv) :: H) (K (.bool false)) := fun e => by
    rw [e] at h; exact sm h
  refine E_join1 [ptr b2, ptr b3, ptr b5, .bool ((nPlace f.k && !inBinB f.bin) || (decide (f.k = 2) && !decide (f.at_ = 0 ∧ f.n = 0)))] (cel true b5 55 [I f.at_, I f.n] :: cel true b3 150 (nmL f.k) :: cel true b2 60 (faL f rv hv mv) :: H) (fun q hq => ?_) ?_
  · have fin : ∀ b : Bool, ((nPlace f.k && !inBinB f.bin) || (decide (f.k = 2) && !decide (f.at_ = 0 ∧ f.n = 0))) = b → E B (cel true b5 55 [I f.at_, I f.n] :: cel true b3 150 (nmL f.k) :: cel true b2 60 (faL f rv hv mv) :: H) (app 4 q [ptr b2, ptr b3, ptr b5, .bool b]) := fun b hb => hb ▸ hq
    refine E_join1 [ptr b2, ptr b3, ptr b5, .bool (nPlace f.k && !inBinB f.bin)] (cel true b5 55 [I f.at_, I f.n] :: cel true b3 150 (nmL f.k) :: cel true b2 60 (faL f rv hv mv) :: H) (fun q1 hq1 => ?_) ?_
    · (repeat first | refine gS ?_ | refine gY ?_ | refine gA fun _ => ?_ | refine gX fun _ _ => ?_ | refine gI ?_)
      exact sm hq1
    refine E_fa fun _ => ?_
    refine E_ifb (fun e => ?_) (fun e => ?_)
    · exact fin _ (or_l e)
    · (repeat first | refine gS ?_ | refine gY ?_ | refine gA fun _ => ?_ | refine gX fun _ _ => ?_ | refine gI ?_)
      exact sm (fin _ (or_r e))
  refine E_fa fun _ => ?_
  refine E_ifb (fun e1 => ?_) (fun e1 => ?_)
  · refine no ?_
    unfold badB
    rw [decide_not, e1]; rfl
  refine E_join1 [ptr b2, ptr b3, .bool (decide (f.k = 1) && (decide (f.at_ < 0) || decide (4096 ≤ f.at_) || decide (f.n < 2) || decide (64 < f.n)))] (cel true b5 55 [I f.at_, I f.n] :: cel true b3 150 (nmL f.k) :: cel true b2 60 (faL f rv hv mv) :: H) (fun q hq => ?_) ?_
  · (repeat first | refine gS ?_ | refine gY ?_ | refine gA fun _ => ?_ | refine gX fun _ _ => ?_ | refine gI ?_)
    exact sm hq
  refine E_fa fun _ => ?_
  refine E_ifb (fun e2 => ?_) (fun e2 => ?_)
  · refine no ?_
    unfold badB
    rw [decide_not, e1, e2]; rfl
  have hb : badB f = ((decide (f.k = 9) && !ruleB f) || (nName f.k && !nameOk f.name) || (nGen f.k && decide (f.gen < 1)) || !numB f.gen || !numB f.time) := by
    unfold badB
    rw [decide_not, e1, e2, Bool.false_or, Bool.false_or]
  rw [hb] at h no
  refine E_join1 [.bool ((decide (f.k = 9) && !ruleB f) || (nName f.k && !nameOk f.name) || (nGen f.k && decide (f.gen < 1)) || !numB f.gen || !numB f.time)] (cel true b5 55 [I f.at_, I f.n] :: cel true b3 150 (nmL f.k) :: cel true b2 60 (faL f rv hv mv) :: H) (fun q hq => ?_) ?_
  · have fin : ∀ b : Bool, ((decide (f.k = 9) && !ruleB f) || (nName f.k && !nameOk f.name) || (nGen f.k && decide (f.gen < 1)) || !numB f.gen || !numB f.time) = b → E B (cel true b5 55 [I f.at_, I f.n] :: cel true b3 150 (nmL f.k) :: cel true b2 60 (faL f rv hv mv) :: H) (app 1 q [.bool b]) := fun b hb => hb ▸ hq
    refine E_join1 [ptr b2, ptr b3, .bool (decide (f.k = 9) && !ruleB f)] (cel true b5 55 [I f.at_, I f.n] :: cel true b3 150 (nmL f.k) :: cel true b2 60 (faL f rv hv mv) :: H) (fun q1 hq1 => ?_) ?_
    · (repeat first | refine gS ?_ | refine gY ?_ | refine gA fun _ => ?_ | refine gX fun _ _ => ?_ | refine gI ?_)
      exact sm hq1
    refine E_fa fun _ => ?_
    refine E_ifb (fun e => ?_) (fun e => ?_)
    · exact fin _ (by rw [e]; rfl)
    rw [e, Bool.false_or] at fin
    refine E_join1 [ptr b2, ptr b3, .bool (nName f.k && !nameOk f.name)] (cel true b5 55 [I f.at_, I f.n] :: cel true b3 150 (nmL f.k) :: cel true b2 60 (faL f rv hv mv) :: H) (fun q1 hq1 => ?_) ?_
    · (repeat first | refine gS ?_ | refine gY ?_ | refine gA fun _ => ?_ | refine gX fun _ _ => ?_ | refine gI ?_)
      exact sm hq1
    refine E_fa fun _ => ?_
    refine E_ifb (fun e => ?_) (fun e => ?_)
    · exact fin _ (by rw [e]; rfl)
    rw [e, Bool.false_or] at fin
    refine E_join1 [ptr b2, .bool (nGen f.k && decide (f.gen < 1))] (cel true b5 55 [I f.at_, I f.n] :: cel true b3 150 (nmL f.k) :: cel true b2 60 (faL f rv hv mv) :: H) (fun q1 hq1 => ?_) ?_
    · (repeat first | refine gS ?_ | refine gY ?_ | refine gA fun _ => ?_ | refine gX fun _ _ => ?_ | refine gI ?_)
      exact sm hq1
    refine E_fa fun _ => ?_
    refine E_ifb (fun e => ?_) (fun e => ?_)
    · exact fin _ (by rw [e]; rfl)
    rw [e, Bool.false_or] at fin
    (repeat first | refine gS ?_ | refine gY ?_ | refine gA fun _ => ?_ | refine gX fun _ _ => ?_ | refine gI ?_)
    refine number ?_
    (repeat first | refine gS ?_ | refine gY ?_ | refine gA fun _ => ?_ | refine gX fun _ _ => ?_ | refine gI ?_)
    refine E_ifb (fun e => ?_) (fun e => ?_)
    · exact fin _ (by rw [e]; rfl)
    rw [e, Bool.false_or] at fin
    (repeat first | refine gS ?_ | refine gY ?_ | refine gA fun _ => ?_ | refine gX fun _ _ => ?_ | refine gI ?_)
    refine number ?_
    (repeat first | refine gS ?_ | refine gY ?_ | refine gA fun _ => ?_ | refine gX fun _ _ => ?_ | refine gI ?_)
    exact sm (fin _ rfl)
  refine E_fa fun _ => ?_
  refine E_ifb (fun e => ?_) (fun e => ?_)
  · exact no e
  · rw [e] at h; exact sm h
end Go.Proofs.YtjafpncngmbcdaaGreat.Nam
end
section
namespace Go.SL
open Go.RowKit
variable {B : World} {H : List Asrt} {K : Value → WT} {P : Program}
theorem E_slcA {t e n b sz : Nat} (hu : P.underlying t = some (.array n e)) (hs : (P.info? e).map (fun i => i.size) = some sz) (h : E B H (K (.slice (some ⟨b, 0, none⟩) n n))) : E B H (V P (Instr.sliceAt t (.pointer (some ⟨b, 0, none⟩)) none none none) K) := by
  obtain ⟨i, hi, _⟩ := Option.map_eq_some_iff.1 hs
  refine E_Vok fun w hw => ⟨_, w, ?_, h w hw⟩
  unfold Instr.sliceAt
  rw [run_bind, run_underlying' hu]
  simp only [Instr.sureAddr, Instr.sliceBounds, run_bind, run_pure, run_size' hi]
  congr 2
  simp [Addr.add]
end Go.SL
namespace Go.Proofs.YtjafpncngmbcdaaGreat.Nam
open Go Go.SL Go.Proofs Go.Proofs.YtjafpncngmbcdaaGreat.Sh
variable {B : World} {H : List Asrt} {K : Value → WT} {W : WT} {c : Bool} {x y z : Value}
attribute [local irreducible] S.pick S.ld S.ldN S.st S.box S.nc S.fad S.ixS S.ixA S.chr S.prt S.ext S.bin S.sh S.sbin S.beq S.neg1 S.com1 S.not1 S.cvt S.str1 S.lenS S.len S.cap S.lenM S.mx S.mn S.mkM S.cond S.gd S.fa S.dr S.rck S.join S.loop S.cvv S.eqv S.slc S.slcS S.b2s S.lk V U CF Gives E cel mpb osl ros dct dit itr lpo dfo
set_option maxRecDepth 8000
theorem octNum {n : Int} (h : ∀ v bs e [CellI v], bs.length ≤ 60 → E B (sls cB 5 1 v bs :: H) (K (.tuple #[v, I e]))) : E B H (CF Tryz.prog 150 [I n] K) := by
  refine E_mono (W := s150 _ K) ?_ fun _ => c150
  unfold s150
  refine E_mono (W := s172 _ _) ?_ fun _ => c172
  unfold s172
  (repeat first | refine gS ?_ | refine gY ?_ | refine gA fun _ => ?_ | refine gX fun _ _ => ?_ | refine gI ?_)
  refine E_ifb (fun e => ?_) (fun e => ?_)
  · exact sls_nil cB 1 (T := 5) (h nil [] 6 (by decide))
  have hn : 0 ≤ n ∧ n ≤ 9007199254740991 := by simpa using e
  refine E_loop (n := 2) (σ := Nat × Value × List UInt8) (fun s => isCell s.2.1 = true ∧ s.2.2.length ≤ 53 ∧ s.1 < 2 ^ (53 - s.2.2.length)) (fun s => [I s.1, s.2.1]) (fun s => sls cB 5 1 s.2.1 s.2.2 :: H) (fun s => s.1) (n.toNat, nil, []) (fun _ => rfl) (by simp; omega) ⟨rfl, by simp, by simp; omega⟩ (fun W hW => sls_nil cB 1 (T := 5) hW) ?_
  rintro ⟨m, v, bs⟩ K0 ⟨hv, hl, hm⟩ hk
  simp only at hv hl hm hk ⊢
  have : CellI v := ⟨hv⟩
  refine E_fa fun _ => ?_
  refine E_geq ?_
  refine E_if (fun hc => ?_) (fun hc => ?_)
  · refine E_remI (by omega) (by omega) ?_
    refine E_cvt8 (by omega) ?_
    refine E_add ?_
    rw [wrap8 _ (by omega)]
    refine E_sapp1 (enc := cB) _ u_bytes elt_byte rfl (by decide) (by omega) (by omega) fun v' _ => ?_
    refine E_shrI (by omega) (by decide) (by decide) ?_
    have e1 : (m : Int) / 2 ^ (7 : Int).toNat = ((m / 128 : Nat) : Int) := by simp
    rw [e1]
    have hlt : bs.length < 53 := by
      rcases Nat.lt_or_ge bs.length 53 with h | h
      · exact h
      · have : 53 - bs.length = 0 := by omega
        rw [this] at hm; omega
    refine hk (m / 128, v', bs ++ [_]) ⟨CellI.pf, by simp only [List.length_append, List.length_singleton]; omega, ?_⟩ (by simp only; omega)
    simp only [List.length_append, List.length_singleton]
    have e2 : 53 - bs.length = (53 - (bs.length + 1)) + 1 := by omega
    rw [e2, Nat.pow_succ] at hm
    omega
  · refine E_cvt8 (by omega) ?_
    refine E_sapp1 (enc := cB) _ u_bytes elt_byte rfl (by decide) (by omega) (by omega) fun v' _ => ?_
    exact h v' _ 0 (by simp only [List.length_append, List.length_singleton]; omega)
theorem nums {v lv : Value} {bs : List UInt8} {l : List Int} [CellI v] [hr : Rs B H lv cI l] (hb : bs.length + 60 * l.length ≤ 100000) (h : ∀ v' bs' [CellI v'], bs'.length ≤ bs.length + 60 * l.length → E B (sls cB 5 1 v' bs' :: H) (K v')) : E B (sls cB 5 1 v bs :: H) (CF Tryz.prog 139 [v, lv] K) := by
  refine E_mono (W := s139 _ _ K) ?_ fun _ => c139
  unfold s139
  refine E_rslen (v := lv) (l := l) ?_
  refine E_loop (σ := Nat × Value × List UInt8) (fun s => isCell s.2.1 = true ∧ s.1 ≤ l.length ∧ s.2.2.length ≤ bs.length + 60 * s.1) (fun s => [s.2.1, lv, I l.length, I s.1]) (fun s => sls cB 5 1 s.2.1 s.2.2 :: H) (fun s => l.length - s.1) (0, v, bs) (fun _ => rfl) rfl ⟨CellI.pf, Nat.zero_le _, by simp⟩ (fun W hW => hW) ?_
  rintro ⟨i, u, cs⟩ K0 ⟨hu, hi, hcs⟩ hk
  simp only at hu hi hcs hk ⊢
  have : CellI u := ⟨hu⟩
  refine E_fa fun _ => ?_
  refine E_lss ?_
  refine E_if (fun hc => ?_) (fun hc => ?_)
  · have hx : l[i]? = some l[i] := List.getElem?_eq_getElem (by omega)
    generalize l[i] = x at hx
    refine E_rsix (v := lv) (l := l) hx fun _ _ => ?_
    refine E_ptld ?_
    refine octNum fun w ds e _ hds => ?_
    (repeat first | refine gS ?_ | refine gA fun _ => ?_ | refine gX fun _ _ => ?_ | refine gT ?_ | refine gF ?_ | refine gI ?_)
    refine fd (a := sls cB 5 1 u cs) ?_
    refine E_sapps (enc := cB) (l := cs) (m := ds) u_bytes elt_byte (by omega) (by omega) fun u' _ => ?_
    refine E_addI (by omega) (by omega) ?_
    exact sm (hk (i + 1, u', cs ++ ds) ⟨CellI.pf, by simp only; omega, by simp only [List.length_append]; omega⟩ (by simp only; omega))
  · have : i = l.length := by omega
    subst this
    exact h u cs hcs
instance {r : Rf} : AllC (rfC r) := ⟨fun y hy => Enc.cell (enc := rfC) r y hy⟩
theorem u_sum : Tryz.prog.underlying 36 = some (.array 32 5) := by kernel_rfl
theorem sum_cells (r : Rf) : ((rfC r).drop 0).take (32 * 1) = bcs r.sum.1 := by
  unfold rfC
  rw [List.drop_zero, List.take_append_of_le_length (by simp [r.sum.2]), List.take_of_length_le (by simp [r.sum.2])]
theorem appSum {b : Nat} {v : Value} {bs : List UInt8} {r : Rf} [HasC H b true 38 (rfC r)] (hb : bs.length ≤ 100000) (h : ∀ v' [CellI v'], E B (sls cB 5 1 v' (bs ++ r.sum.1) :: H) (K v')) :
    E B (sls cB 5 1 v bs :: H) (V Tryz.prog (Builtin.append_ #[157, 157] 157 #[v, .slice (some ⟨b, 0, none⟩) 32 32]) K) := by
  refine E_bytesS ?_
  refine E_app u_bytes elt_byte (rd_slice u_bytes (sum_cells r) (by simp [r.sum.2]) (fun y hy => by obtain ⟨q, _, rfl⟩ := List.mem_map.1 hy; rfl)) (by omega) (by omega) fun v' _ => ?_
  have h' := h v'
  have e : (bs ++ r.sum.1).length = bs.length + 32 := by rw [List.length_append, r.sum.2]
  refine E_same (G := osl 5 1 v' (bs.length + 32) (bcs bs ++ bcs r.sum.1) :: H) .refl ?_
  have e2 : bcs bs ++ bcs r.sum.1 = bcs (bs ++ r.sum.1) := (List.map_append ..).symm
  rw [e2, ← e]
  exact E_bytes h'
theorem segPut {v : Value} {r : Rf} [hr : Rs B H v rfC [r]] (h : ∀ bv [CellI bv], E B H (K (.tuple #[bv, I (if rightB r = true then 0 else 2)]))) : E B H (CF Tryz.prog 115 [v] K) := by
  refine E_mono (W := s115 _ K) ?_ fun _ => c115
  unfold s115
  refine E_rslen (v := v) (l := [r]) ?_
  refine E_gtr ?_
  refine E_ifF (by simp) ?_
  refine E_rslen (v := v) (l := [r]) ?_
  refine E_bsl [(0, 1)] u_ints elt_int (by simp) (by decide) (l0 := [I 0]) rfl fun bl => ?_
  refine E_slsC (enc := cI) [([r].length : Int)] 1 rfl rfl ?_
  refine sls_nil cB 1 (T := 5) ?_
  refine nums (l := [([r].length : Int)]) (by simp) fun u us _ hus => ?_
  refine E_rslen (v := v) (l := [r]) ?_
  refine E_loop (n := 4) (σ := Nat × Value × List UInt8) (fun s => s.1 ≤ 1 ∧ isCell s.2.1 = true ∧ s.2.2.length ≤ 60 + 300 * s.1 ∧ (s.1 = 1 → rightB r = true)) (fun s => [s.2.1, v, I ([r].length), I s.1]) (fun s => sls cB 5 1 s.2.1 s.2.2 :: H) (fun s => 1 - s.1) (0, u, us) (fun _ => rfl) rfl ⟨by simp, CellI.pf, by simpa using hus, fun e => by cases e⟩ (fun W hW => sm hW) ?_
  rintro ⟨i, w, ws⟩ K0 ⟨hi, hw, hws, hr1⟩ hk
  simp only at hi hw hws hk hr1 ⊢
  have : CellI w := ⟨hw⟩
  refine E_fa fun _ => ?_
  refine E_lss ?_
  refine E_if (fun hc => ?_) (fun hc => ?_)
  · have hx : [r][i]? = some r := by
      have : i = 0 := by simp at hc; omega
      subst this; rfl
    refine E_rsix (v := v) (l := [r]) hx fun _ _ => ?_
    refine E_ptldA ?_
    refine E_box fun b => ?_
    refine E_stW (vs := rfC r) (rfC_len r) rfl ?_
    (repeat first | refine gS ?_ | refine gA fun _ => ?_ | refine gX fun _ _ => ?_ | refine gT ?_ | refine gF ?_ | refine gI ?_)
    refine right ?_
    (repeat first | refine gS ?_ | refine gY ?_ | refine gA fun _ => ?_ | refine gX fun _ _ => ?_ | refine gI ?_)
    refine E_ifb (fun e => ?_) (fun e => ?_)
    · have e' : rightB r = false := by simpa using e
      rw [e'] at h
      exact sm (h nil)
    have e' : rightB r = true := by simpa using e
    refine E_dr ?_
    refine E_fad0 ?_
    refine E_fad0 ?_
    refine E_ld ?_
    refine E_fad0 ?_
    refine E_ld ?_
    refine E_fad0 ?_
    refine E_ld ?_
    have fin : ∀ {G : List Asrt} (w' lv : Value) [CellI w'] [Sam (sls cB 5 1 w' (ws ++ r.sum.1) :: sls cI 3 1 lv [r.len, r.bin, r.slot] :: H) G], E B G (CF Tryz.prog 139 [w', lv] fun v34 => S.bin .add (I i) (I 1) fun v35 => K0 v34 v (I [r].length) v35) := fun w' lv _ _ => by
      refine sm (G := sls cB 5 1 w' (ws ++ r.sum.1) :: sls cI 3 1 lv [r.len, r.bin, r.slot] :: H) ?_
      refine nums (l := [r.len, r.bin, r.slot]) (by simp only [List.length_append, r.sum.2, List.length_cons, List.length_nil]; omega) fun u' us' _ hus' => ?_
      refine E_addI (by omega) (by omega) ?_
      refine sm (hk (i + 1, u', us') ⟨by simp at hc; simp only; omega, CellI.pf, ?_, fun _ => e'⟩ (by simp at hc; simp only; omega))
      simp only [List.length_append, r.sum.2, List.length_cons, List.length_nil] at hus'
      simp only; omega
    refine E_both ?_ ?_
    · refine E_slcA u_sum (sz := 1) (by kernel_rfl) ?_
      (repeat (refine E_rck1 (by first | exact E_ld (E_fact rfl) | exact E_ld' (by assumption) (E_fact rfl) | exact E_b2sR (E_fact rfl) | exact E_gdnF (by assumption) (E_ld (E_fact rfl)) | exact E_gdT (by assumption) (E_ld (E_fact rfl)) | exact E_gtf (E_ld (E_fact rfl)) | exact E_gft (E_ld (E_fact rfl)) | exact E_ldNA (E_fact rfl) | exact E_ptld (E_fact rfl) | exact E_gtf (E_ldNA (E_fact rfl))) ?_)); (first | (refine E_rck0 ?_) | skip)
      refine E_both ?_ ?_
      · refine fd (a := sls cB 5 1 w ws) ?_
        refine appSum (r := r) (by omega) fun w' _ => ?_
        (repeat (refine E_rck1 (by first | exact E_ld (E_fact rfl) | exact E_ld' (by assumption) (E_fact rfl) | exact E_b2sR (E_fact rfl) | exact E_gdnF (by assumption) (E_ld (E_fact rfl)) | exact E_gdT (by assumption) (E_ld (E_fact rfl)) | exact E_gtf (E_ld (E_fact rfl)) | exact E_gft (E_ld (E_fact rfl)) | exact E_ldNA (E_fact rfl) | exact E_ptld (E_fact rfl) | exact E_gtf (E_ldNA (E_fact rfl))) ?_)); (first | (refine E_rck0 ?_) | skip)
        refine E_bsl [(0, 1), (1, 1), (2, 1)] u_ints elt_int (by simp) (by decide) (l0 := [I 0, I 0, I 0]) rfl fun bl => ?_
        refine E_slsC (enc := cI) [r.len, r.bin, r.slot] 3 rfl rfl ?_
        exact fin w' _
      · refine E_bsl [(0, 1), (1, 1), (2, 1)] u_ints elt_int (by simp) (by decide) (l0 := [I 0, I 0, I 0]) rfl fun bl => ?_
        refine E_slsC (enc := cI) [r.len, r.bin, r.slot] 3 rfl rfl ?_
        refine fd (a := sls cB 5 1 w ws) ?_
        refine appSum (r := r) (by omega) fun w' _ => ?_
        exact fin w' _
    · refine E_bsl [(0, 1), (1, 1), (2, 1)] u_ints elt_int (by simp) (by decide) (l0 := [I 0, I 0, I 0]) rfl fun bl => ?_
      refine E_slsC (enc := cI) [r.len, r.bin, r.slot] 3 rfl rfl ?_
      refine E_slcA u_sum (sz := 1) (by kernel_rfl) ?_
      refine fd (a := sls cB 5 1 w ws) ?_
      refine appSum (r := r) (by omega) fun w' _ => ?_
      exact fin w' _
  · have hi1 : i = 1 := by simp at hc; omega
    rw [if_pos (hr1 hi1)] at h
    exact sm (h w)
end Go.Proofs.YtjafpncngmbcdaaGreat.Nam
end
section
namespace Go.Proofs.YtjafpncngmbcdaaGreat.Nam
open Go Go.SL Go.Proofs Go.Proofs.YtjafpncngmbcdaaGreat.Sh
variable {B : World} {H : List Asrt} {K : Value → WT} {W : WT} {c : Bool} {x y z : Value} {f : Fa} {rv hv mv : Value}
theorem bound_nat (n z : Nat) : S.bound (some (.int .i64 (n : Int))) z = some n := by simp [S.bound]
theorem bound_suc (n z : Nat) : S.bound (some (.int .i64 ((n : Int) + 1))) z = some (n + 1) := bound_nat (n + 1) z
structure FaOk (f : Fa) : Prop where
  nm : f.name.length ≤ 140737488355328
  rf : f.refs.length ≤ 140737488355328
  hd : f.held.length ≤ 140737488355328
  mv : f.moves.length ≤ 140737488355328
  hn : ∀ h ∈ f.held, h.1.length ≤ 140737488355328
attribute [local irreducible] S.pick S.ld S.ldN S.st S.box S.nc S.fad S.ixS S.ixA S.chr S.prt S.ext S.bin S.sh S.sbin S.beq S.neg1 S.com1 S.not1 S.cvt S.str1 S.lenS S.len S.cap S.lenM S.mx S.mn S.mkM S.cond S.gd S.fa S.dr S.rck S.join S.loop S.cvv S.eqv S.slc S.slcS S.b2s S.lk V U CF Gives E cel mpb osl ros dct dit itr lpo dfo
set_option maxRecDepth 8000
instance [CellI rv] [CellI hv] [CellI mv] [Rs B H rv rfC f.refs] [Rs B H hv hC f.held] [Rs B H mv mvC f.moves] [h : Un c x (.agg (faL f rv hv mv).toArray)] [h' : Un c y (.agg (nmL f.k).toArray)] : Pb B H c (CF Tryz.prog 107 [x, y]) (.bool (bareB f)) :=
  ⟨fun e K k => by rw [h.pf e, h'.pf e]; exact bare k⟩
theorem recCheck [CellI rv] [CellI hv] [CellI mv] [hr1 : Rs B H rv rfC f.refs] [hr2 : Rs B H hv hC f.held] [hr3 : Rs B H mv mvC f.moves] (ho : FaOk f) (h : E B H (K (I (checkF f)))) : E B H (CF Tryz.prog 78 [.agg (faL f rv hv mv).toArray] K) := by
  have : Len f.name := ⟨ho.nm⟩
  refine E_mono (W := s78 _ K) ?_ fun _ => c78
  unfold s78
  refine E_box (vs := faL f rv hv mv) fun b1 => ?_
  (repeat first | refine gS ?_ | refine gA fun _ => ?_ | refine gX fun _ _ => ?_ | refine gT ?_ | refine gF ?_ | refine gI ?_)
  refine named ?_
  (repeat first | refine gS ?_ | refine gA fun _ => ?_ | refine gX fun _ _ => ?_ | refine gT ?_ | refine gF ?_ | refine gI ?_)
  rename_i b3
  have fin : ∀ e : Int, checkF f = e → E B (cel true b3 150 (nmL f.k) :: cel true b1 60 (faL f rv hv mv) :: H) (K (I e)) := fun e he => by rw [he] at h; exact sm h
  unfold checkF at fin
  refine E_join1 [ptr b1, ptr b3, .bool (decide (f.k < 1) || decide (9 < f.k) || !bareB f)] (cel true b3 150 (nmL f.k) :: cel true b1 60 (faL f rv hv mv) :: H) (fun q hq => ?_) ?_
  · (repeat first | refine gS ?_ | refine gY ?_ | refine gA fun _ => ?_ | refine gX fun _ _ => ?_ | refine gI ?_)
    exact sm hq
  refine E_fa fun _ => ?_
  refine E_ifb' (p := f.k < 1 ∨ 9 < f.k ∨ bareB f = false) (by simp [or_assoc]) (fun e1 => ?_) (fun e1 => ?_)
  · exact fin 4 (if_pos e1)
  rw [if_neg e1] at fin
  (repeat first | refine gS ?_ | refine gA fun _ => ?_ | refine gX fun _ _ => ?_ | refine gT ?_ | refine gF ?_ | refine gI ?_)
  refine plain ?_
  (repeat first | refine gS ?_ | refine gY ?_ | refine gA fun _ => ?_ | refine gX fun _ _ => ?_ | refine gI ?_)
  refine E_ifb' (p := badB f = true) (by simp) (fun e2 => ?_) (fun e2 => ?_)
  · exact fin 2 (if_pos e2)
  rw [if_neg e2] at fin
  refine E_join1 [ptr b1, ptr b3, .bool (decide (256 < (f.refs.length : Int)) || decide (64 < (f.held.length : Int)) || decide (64 < (f.moves.length : Int)))] (cel true b3 150 (nmL f.k) :: cel true b1 60 (faL f rv hv mv) :: H) (fun q hq => ?_) ?_
  · (repeat first | refine gS ?_ | refine gY ?_ | refine gA fun _ => ?_ | refine gX fun _ _ => ?_ | refine gI ?_)
    exact sm hq
  refine E_fa fun _ => ?_
  refine E_ifb' (p := 256 < f.refs.length ∨ 64 < f.held.length ∨ 64 < f.moves.length) (by simp only [Bool.or_eq_true, decide_eq_true_eq]; omega) (fun e3 => ?_) (fun e3 => ?_)
  · exact fin 6 (if_pos e3)
  rw [if_neg e3] at fin
  have e4 : ((decide (f.k = 7) && decide ((f.moves.length : Int) = 0)) || (f.moves.any fun m => !moveOk m) || (f.held.any fun h => !heldOk h)) = decide ((f.k = 7 ∧ f.moves = []) ∨ f.moves.any (fun m => !moveOk m) = true ∨ f.held.any (fun h => !heldOk h) = true) := by
    rw [len0, Bool.eq_iff_iff]
    simp only [Bool.or_eq_true, Bool.and_eq_true, decide_eq_true_eq, or_assoc]
  refine E_join1 [ptr b1, .bool (decide ((f.k = 7 ∧ f.moves = []) ∨ f.moves.any (fun m => !moveOk m) = true ∨ f.held.any (fun h => !heldOk h) = true))] (cel true b3 150 (nmL f.k) :: cel true b1 60 (faL f rv hv mv) :: H) (fun q hq => ?_) ?_
  · have fq : ∀ b : Bool, ((decide (f.k = 7) && decide ((f.moves.length : Int) = 0)) || (f.moves.any fun m => !moveOk m) || (f.held.any fun h => !heldOk h)) = b → E B (cel true b3 150 (nmL f.k) :: cel true b1 60 (faL f rv hv mv) :: H) (app 2 q [ptr b1, .bool b]) := fun b hb => by rw [← hb, e4]; exact hq
    refine E_join1 [ptr b1, .bool (decide (f.k = 7) && decide ((f.moves.length : Int) = 0))] (cel true b3 150 (nmL f.k) :: cel true b1 60 (faL f rv hv mv) :: H) (fun q1 hq1 => ?_) ?_
    · (repeat first | refine gS ?_ | refine gY ?_ | refine gA fun _ => ?_ | refine gX fun _ _ => ?_ | refine gI ?_)
      exact sm hq1
    refine E_fa fun _ => ?_
    refine E_ifb (fun e => ?_) (fun e => ?_)
    · exact fq _ (by rw [e]; rfl)
    rw [e, Bool.false_or] at fq
    (repeat first | refine gS ?_ | refine gA fun _ => ?_ | refine gX fun _ _ => ?_ | refine gT ?_ | refine gF ?_ | refine gI ?_)
    refine anyMove (l := f.moves) ho.mv ?_
    refine E_ifb (fun e => ?_) (fun e => ?_)
    · exact fq _ (by rw [e]; rfl)
    rw [e, Bool.false_or] at fq
    (repeat first | refine gS ?_ | refine gA fun _ => ?_ | refine gX fun _ _ => ?_ | refine gT ?_ | refine gF ?_ | refine gI ?_)
    refine anyHeld (l := f.held) ho.hd ho.hn ?_
    exact fq _ rfl
  refine E_fa fun _ => ?_
  refine E_if (fun e5 => ?_) (fun e5 => ?_)
  · exact fin 2 (if_pos e5)
  rw [if_neg e5] at fin
  (repeat first | refine gS ?_ | refine gA fun _ => ?_ | refine gX fun _ _ => ?_ | refine gT ?_ | refine gF ?_ | refine gI ?_)
  have hrl := ho.rf
  refine E_loop (n := 3) (σ := Nat) (fun i => i ≤ f.refs.length ∧ ∀ r ∈ f.refs.take i, rightB r = true) (fun i => [ptr b1, I f.refs.length, I i]) (fun _ => cel true b3 150 (nmL f.k) :: cel true b1 60 (faL f rv hv mv) :: H) (fun i => f.refs.length - i) 0 (fun _ => rfl) rfl ⟨Nat.zero_le _, by simp⟩ (fun W hW => hW) ?_
  rintro i K0 ⟨hi, ha⟩ hk
  refine E_fa fun _ => ?_
  refine E_lss ?_
  refine E_if (fun hc => ?_) (fun hc => ?_)
  · have hx : f.refs[i]? = some f.refs[i] := List.getElem?_eq_getElem (by omega)
    have hxm := List.mem_of_getElem? hx
    generalize f.refs[i] = r at hx hxm
    (repeat first | refine gS ?_ | refine gA fun _ => ?_ | refine gX fun _ _ => ?_ | refine gT ?_ | refine gF ?_ | refine gI ?_)
    refine E_slcS2 (v := rv) (l := f.refs) (i := i) (j := i + 1) (bound_suc _ _) (bound_nat _ _) (by omega) (by omega) fun v' hv' _ => ?_
    have e6 : (f.refs.drop i).take (i + 1 - i) = [r] := by
      rw [List.drop_eq_getElem_cons (by omega : i < f.refs.length)]
      obtain ⟨_, hxe⟩ := List.getElem?_eq_some_iff.1 hx
      rw [hxe, show i + 1 - i = 1 by omega]; rfl
    rw [e6] at hv'
    refine segPut (v := v') (r := r) fun bv _ => ?_
    (repeat first | refine gS ?_ | refine gA fun _ => ?_ | refine gX fun _ _ => ?_ | refine gT ?_ | refine gF ?_ | refine gI ?_)
    cases hrr : rightB r with
    | false =>
      rw [if_neg (by decide)]
      (repeat first | refine gS ?_ | refine gA fun _ => ?_ | refine gX fun _ _ => ?_ | refine gT ?_ | refine gF ?_ | refine gI ?_)
      exact fin 2 (if_pos (List.any_eq_true.2 ⟨r, hxm, by rw [hrr]; rfl⟩))
    | true =>
      rw [if_pos rfl]
      (repeat first | refine gS ?_ | refine gA fun _ => ?_ | refine gX fun _ _ => ?_ | refine gT ?_ | refine gF ?_ | refine gI ?_)
      refine hk (i + 1) ⟨by omega, fun r' hr' => ?_⟩ (by omega)
      rw [List.take_add_one, hx] at hr'
      rcases List.mem_append.1 hr' with hr' | hr'
      · exact ha r' hr'
      · simp at hr'; subst hr'; exact hrr
  · have hie : i = f.refs.length := by omega
    subst hie
    refine fin 0 (if_neg ?_)
    intro hany
    obtain ⟨r, hr, hrr⟩ := List.any_eq_true.1 hany
    rw [ha r (by simpa using hr)] at hrr
    cases hrr
end Go.Proofs.YtjafpncngmbcdaaGreat.Nam
end
section
namespace Go.Proofs.YtjafpncngmbcdaaGreat.Nam
open Go Go.SL Go.Proofs Go.Proofs.YtjafpncngmbcdaaGreat.Sh
variable {B : World} {H : List Asrt} {K : Value → WT} {W : WT} {c : Bool} {x y z : Value} {f : Fa} {rv hv mv : Value}
theorem len1 {α : Type} (l : List α) : decide (0 < (l.length : Int)) = !decide (l = []) := by
  rw [← decide_not, decide_eq_decide]; cases l <;> simp <;> omega
theorem bin_not (n : Int) : (decide (n < 0) || decide (4095 < n)) = !inBinB n := by
  rw [Bool.eq_iff_iff]; simp [inBinB]; omega
attribute [local irreducible] S.pick S.ld S.ldN S.st S.box S.nc S.fad S.ixS S.ixA S.chr S.prt S.ext S.bin S.sh S.sbin S.beq S.neg1 S.com1 S.not1 S.cvt S.str1 S.lenS S.len S.cap S.lenM S.mx S.mn S.mkM S.cond S.gd S.fa S.dr S.rck S.join S.loop S.cvv S.eqv S.slc S.slcS S.b2s S.lk V U CF Gives E cel mpb osl ros dct dit itr lpo dfo
set_option maxRecDepth 8000
theorem rcheck [CellI rv] [CellI hv] [CellI mv] [hr1 : Rs B H rv rfC f.refs] [hr2 : Rs B H hv hC f.held] [hr3 : Rs B H mv mvC f.moves] (ho : FaOk f) (h : E B H (K (I (checkF f)))) : E B H (CF Tryz.prog 89 [.agg (faL f rv hv mv).toArray] K) := by
  have : Len f.name := ⟨ho.nm⟩
  refine E_mono (W := s89 _ K) ?_ fun _ => c89
  unfold s89
  refine E_box (vs := faL f rv hv mv) fun b1 => ?_
  (repeat first | refine gS ?_ | refine gA fun _ => ?_ | refine gX fun _ _ => ?_ | refine gT ?_ | refine gF ?_ | refine gI ?_)
  have fin : ∀ e : Int, checkF f = e → E B (cel true b1 60 (faL f rv hv mv) :: H) (K (I e)) := fun e he => by rw [he] at h; exact sm h
  unfold checkF at fin
  refine E_join1 [ptr b1, I f.k, .bool (decide (f.k < 1) || decide (9 < f.k))] (cel true b1 60 (faL f rv hv mv) :: H) (fun q hq => ?_) ?_
  · (repeat first | refine gS ?_ | refine gY ?_ | refine gA fun _ => ?_ | refine gX fun _ _ => ?_ | refine gI ?_)
    exact sm hq
  refine E_fa fun _ => ?_
  refine E_ifb' (p := f.k < 1 ∨ 9 < f.k) (by simp) (fun e1 => ?_) (fun e1 => ?_)
  · exact fin 4 (if_pos (e1.elim .inl fun h => .inr (.inl h)))
  refine E_join1 [ptr b1, I f.k, .bool (nPlace f.k)] (cel true b1 60 (faL f rv hv mv) :: H) (fun q hq => ?_) ?_
  · (repeat first | refine gS ?_ | refine gY ?_ | refine gA fun _ => ?_ | refine gX fun _ _ => ?_ | refine gI ?_)
    have e : (decide (f.k = 1) || decide (f.k = 2)) = nPlace f.k := by rw [Bool.eq_iff_iff]; simp [nPlace]
    rw [e]
    exact sm hq
  refine E_fa fun _ => ?_
  refine E_join1 [ptr b1, I f.k, .bool (nPlace f.k), .bool (nGen f.k)] (cel true b1 60 (faL f rv hv mv) :: H) (fun q hq => ?_) ?_
  · (repeat first | refine gS ?_ | refine gY ?_ | refine gA fun _ => ?_ | refine gX fun _ _ => ?_ | refine gI ?_)
    have e : (decide (f.k = 3) || decide (f.k = 4)) = nGen f.k := by rw [Bool.eq_iff_iff]; simp [nGen]
    rw [e]
    exact sm hq
  refine E_fa fun _ => ?_
  refine E_join1 [ptr b1, I f.k, .bool (nPlace f.k), .bool (nGen f.k), .bool (!bareB f)] (cel true b1 60 (faL f rv hv mv) :: H) (fun q hq => ?_) ?_
  · (repeat first | refine gS ?_ | refine gY ?_ | refine gA fun _ => ?_ | refine gX fun _ _ => ?_ | refine gI ?_)
    simp only [len1, decide_not, ne_eq]
    have hq' := hq
    unfold bareB at hq'
    simp only [Bool.not_and, Bool.not_or] at hq'
    exact sm hq'
  refine E_fa fun _ => ?_
  refine E_ifb' (p := bareB f = false) (by simp) (fun e2 => ?_) (fun e2 => ?_)
  · exact fin 4 (if_pos (.inr (.inr e2)))
  rw [if_neg (by intro h; rcases h with h | h | h; exact e1 (.inl h); exact e1 (.inr h); exact e2 h)] at fin
  have bad : badB f = true → E B (cel true b1 60 (faL f rv hv mv) :: H) (K (I 2)) := fun e => fin 2 (if_pos e)
  refine E_join1 [ptr b1, I f.k, .bool (nGen f.k), .bool (nPlace f.k && !inBinB f.bin)] (cel true b1 60 (faL f rv hv mv) :: H) (fun q hq => ?_) ?_
  · (repeat first | refine gS ?_ | refine gY ?_ | refine gA fun _ => ?_ | refine gX fun _ _ => ?_ | refine gI ?_)
    rw [bin_not]
    exact sm hq
  refine E_fa fun _ => ?_
  refine E_ifb (fun e3 => ?_) (fun e3 => ?_)
  · exact bad (by unfold badB; rw [e3]; rfl)
  refine E_join1 [ptr b1, I f.k, .bool (nGen f.k), .bool (decide (f.k = 2) && decide (¬ (f.at_ = 0 ∧ f.n = 0)))] (cel true b1 60 (faL f rv hv mv) :: H) (fun q hq => ?_) ?_
  · (repeat first | refine gS ?_ | refine gY ?_ | refine gA fun _ => ?_ | refine gX fun _ _ => ?_ | refine gI ?_)
    have e : (decide (f.at_ ≠ 0) || decide (f.n ≠ 0)) = decide (¬ (f.at_ = 0 ∧ f.n = 0)) := by rw [Bool.eq_iff_iff]; simp <;> omega
    rw [e]
    exact sm hq
  refine E_fa fun _ => ?_
  refine E_ifb (fun e4 => ?_) (fun e4 => ?_)
  · exact bad (by unfold badB; rw [e3, e4]; rfl)
  refine E_join1 [ptr b1, I f.k, .bool (nGen f.k), .bool (decide (f.k = 1) && (decide (f.at_ < 0) || decide (4096 ≤ f.at_) || decide (f.n < 2) || decide (64 < f.n)))] (cel true b1 60 (faL f rv hv mv) :: H) (fun q hq => ?_) ?_
  · (repeat first | refine gS ?_ | refine gY ?_ | refine gA fun _ => ?_ | refine gX fun _ _ => ?_ | refine gI ?_)
    have e : decide (4095 < f.at_) = decide (4096 ≤ f.at_) := by rw [decide_eq_decide]; omega
    rw [e]
    exact sm hq
  refine E_fa fun _ => ?_
  refine E_ifb (fun e5 => ?_) (fun e5 => ?_)
  · exact bad (by unfold badB; rw [e3, e4, e5]; rfl)
  refine E_join1 [ptr b1, I f.k, .bool (nGen f.k), .bool (decide (f.k = 9) && !ruleB f)] (cel true b1 60 (faL f rv hv mv) :: H) (fun q hq => ?_) ?_
  · (repeat first | refine gS ?_ | refine gY ?_ | refine gA fun _ => ?_ | refine gX fun _ _ => ?_ | refine gI ?_)
    have e : (!numB f.last || !numB f.young || !numB f.step || decide (f.step < 1) || !numB f.count) = !ruleB f := by
      unfold ruleB
      simp only [Bool.not_and]
      congr 2
      rw [← decide_not, decide_eq_decide]; omega
    rw [e]
    exact sm hq
  refine E_fa fun _ => ?_
  refine E_ifb (fun e6 => ?_) (fun e6 => ?_)
  · exact bad (by unfold badB; rw [e3, e4, e5, e6]; rfl)
  have hb : badB f = ((nName f.k && !nameOk f.name) || (nGen f.k && decide (f.gen < 1)) || !numB f.gen || !numB f.time) := by
    unfold badB
    rw [e3, e4, e5, e6, Bool.false_or, Bool.false_or, Bool.false_or, Bool.false_or]
  refine E_join1 [ptr b1, I f.k, .bool (badB f)] (cel true b1 60 (faL f rv hv mv) :: H) (fun q hq => ?_) ?_
  · rw [hb] at hq
    refine hasName ?_
    (repeat first | refine gS ?_ | refine gY ?_ | refine gA fun _ => ?_ | refine gX fun _ _ => ?_ | refine gI ?_)
    exact sm hq
  refine E_fa fun _ => ?_
  refine E_ifb (fun e7 => ?_) (fun e7 => ?_)
  · exact bad e7
  rw [if_neg (by rw [e7]; decide)] at fin
  refine E_join1 [ptr b1, I f.k, .bool (decide (256 < (f.refs.length : Int)) || decide (64 < (f.held.length : Int)) || decide (64 < (f.moves.length : Int)))] (cel true b1 60 (faL f rv hv mv) :: H) (fun q hq => ?_) ?_
  · (repeat first | refine gS ?_ | refine gY ?_ | refine gA fun _ => ?_ | refine gX fun _ _ => ?_ | refine gI ?_)
    exact sm hq
  refine E_fa fun _ => ?_
  refine E_ifb' (p := 256 < f.refs.length ∨ 64 < f.held.length ∨ 64 < f.moves.length) (by simp only [Bool.or_eq_true, decide_eq_true_eq]; omega) (fun e3 => ?_) (fun e3 => ?_)
  · exact fin 6 (if_pos e3)
  rw [if_neg e3] at fin
  refine E_join1 [ptr b1, .bool (decide (f.k = 7) && decide ((f.moves.length : Int) = 0))] (cel true b1 60 (faL f rv hv mv) :: H) (fun q hq => ?_) ?_
  · (repeat first | refine gS ?_ | refine gY ?_ | refine gA fun _ => ?_ | refine gX fun _ _ => ?_ | refine gI ?_)
    exact sm hq
  refine E_fa fun _ => ?_
  refine E_ifb' (p := f.k = 7 ∧ f.moves = []) (by rw [len0]; simp) (fun e8 => ?_) (fun e8 => ?_)
  · exact fin 2 (if_pos (.inl e8))
  have hml := ho.mv
  have hhl := ho.hd
  have hrl := ho.rf
  refine E_loop (n := 2) (σ := Nat) (fun i => i ≤ f.moves.length ∧ ∀ m ∈ f.moves.take i, moveOk m = true) (fun i => [ptr b1, I i]) (fun _ => cel true b1 60 (faL f rv hv mv) :: H) (fun i => f.moves.length - i) 0 (fun _ => rfl) rfl ⟨Nat.zero_le _, by simp⟩ (fun W hW => hW) ?_
  rintro i K0 ⟨hi, ha⟩ hk
  refine E_fa fun _ => ?_
  (repeat first | refine gS ?_ | refine gA fun _ => ?_ | refine gX fun _ _ => ?_ | refine gT ?_ | refine gF ?_ | refine gI ?_)
  refine E_if (fun hc => ?_) (fun hc => ?_)
  · have hx : f.moves[i]? = some f.moves[i] := List.getElem?_eq_getElem (by omega)
    have hxm := List.mem_of_getElem? hx
    generalize f.moves[i] = m at hx hxm
    refine E_join1 [ptr b1, I i, .bool (!moveOk m)] (cel true b1 60 (faL f rv hv mv) :: H) (fun q hq => ?_) ?_
    · have hq' := hq
      unfold moveOk at hq'
      rw [Bool.not_and] at hq'
      (repeat first | refine gS ?_ | refine gA fun _ => ?_ | refine gX fun _ _ => ?_ | refine gT ?_ | refine gF ?_ | refine gI ?_)
      refine E_ptldN (ds := [I m.fb, I m.fs]) rfl rfl ?_
      refine spot2 ?_
      cases hs1 : spotB m.fb m.fs with
      | false =>
        rw [hs1] at hq'
        (repeat first | refine gS ?_ | refine gA fun _ => ?_ | refine gX fun _ _ => ?_ | refine gT ?_ | refine gF ?_ | refine gI ?_)
        exact sm hq'
      | true =>
        rw [hs1] at hq'
        (repeat first | refine gS ?_ | refine gA fun _ => ?_ | refine gX fun _ _ => ?_ | refine gT ?_ | refine gF ?_ | refine gI ?_)
        refine E_ptldN (ds := [I m.tb, I m.ts]) rfl rfl ?_
        (repeat first | refine gS ?_ | refine gA fun _ => ?_ | refine gX fun _ _ => ?_ | refine gT ?_ | refine gF ?_ | refine gI ?_)
        refine spot2 ?_
        (repeat first | refine gS ?_ | refine gY ?_ | refine gA fun _ => ?_ | refine gX fun _ _ => ?_ | refine gI ?_)
        exact sm hq'
    refine E_fa fun _ => ?_
    refine E_ifb' (p := moveOk m = false) (by simp) (fun e => ?_) (fun e => ?_)
    · exact fin 2 (if_pos (.inr (.inl (List.any_eq_true.2 ⟨m, hxm, by rw [e]; rfl⟩))))
    refine E_addI (by omega) (by omega) ?_
    refine hk (i + 1) ⟨by omega, fun m' hm' => ?_⟩ (by omega)
    rw [List.take_add_one, hx] at hm'
    rcases List.mem_append.1 hm' with hm' | hm'
    · exact ha m' hm'
    · simp at hm'; subst hm'; simpa using e
  have hmv : f.moves.any (fun m => !moveOk m) = false := List.any_eq_false.2 fun m hm => by
    have hie : i = f.moves.length := by omega
    subst hie
    rw [ha m (by simpa using hm)]; decide
  clear hk ha hc hi
  refine E_loop (n := 2) (σ := Nat) (fun i => i ≤ f.held.length ∧ ∀ m ∈ f.held.take i, heldOk m = true) (fun i => [ptr b1, I i]) (fun _ => cel true b1 60 (faL f rv hv mv) :: H) (fun i => f.held.length - i) 0 (fun _ => rfl) rfl ⟨Nat.zero_le _, by simp⟩ (fun W hW => hW) ?_
  rintro j K1 ⟨hi, ha⟩ hk
  refine E_fa fun _ => ?_
  (repeat first | refine gS ?_ | refine gA fun _ => ?_ | refine gX fun _ _ => ?_ | refine gT ?_ | refine gF ?_ | refine gI ?_)
  refine E_if (fun hc => ?_) (fun hc => ?_)
  · have hx : f.held[j]? = some f.held[j] := List.getElem?_eq_getElem (by omega)
    have hxm := List.mem_of_getElem? hx
    generalize f.held[j] = m at hx hxm
    have hmn := ho.hn m hxm
    refine E_join1 [ptr b1, I j, .bool (!heldOk m)] (cel true b1 60 (faL f rv hv mv) :: H) (fun q hq => ?_) ?_
    · have hq' := hq
      unfold heldOk at hq'
      rw [Bool.not_and, Bool.not_and] at hq'
      (repeat first | refine gS ?_ | refine gA fun _ => ?_ | refine gX fun _ _ => ?_ | refine gT ?_ | refine gF ?_ | refine gI ?_)
      refine rname (Nat.le_trans hmn (by decide)) ?_
      cases hs1 : nameOk m.1 with
      | false =>
        rw [hs1] at hq'
        (repeat first | refine gS ?_ | refine gA fun _ => ?_ | refine gX fun _ _ => ?_ | refine gT ?_ | refine gF ?_ | refine gI ?_)
        exact sm hq'
      | true =>
        rw [hs1] at hq'
        (repeat first | refine gS ?_ | refine gA fun _ => ?_ | refine gX fun _ _ => ?_ | refine gT ?_ | refine gF ?_ | refine gI ?_)
        by_cases hs2 : m.2 < 1
        · rw [decide_eq_false (by omega)] at hq'
          (repeat first | refine gS ?_ | refine gA fun _ => ?_ | refine gX fun _ _ => ?_ | refine gT ?_ | refine gF ?_ | refine gI ?_)
          exact sm hq'
        · rw [decide_eq_true (by omega)] at hq'
          (repeat first | refine gS ?_ | refine gA fun _ => ?_ | refine gX fun _ _ => ?_ | refine gT ?_ | refine gF ?_ | refine gI ?_)
          refine number2 ?_
          (repeat first | refine gS ?_ | refine gA fun _ => ?_ | refine gX fun _ _ => ?_ | refine gT ?_ | refine gF ?_ | refine gI ?_)
          refine gY ?_
          (repeat first | refine gS ?_ | refine gA fun _ => ?_ | refine gX fun _ _ => ?_ | refine gT ?_ | refine gF ?_ | refine gI ?_)
          exact sm hq'
    refine E_fa fun _ => ?_
    refine E_ifb' (p := heldOk m = false) (by simp) (fun e => ?_) (fun e => ?_)
    · exact fin 2 (if_pos (.inr (.inr (List.any_eq_true.2 ⟨m, hxm, by rw [e]; rfl⟩))))
    refine E_addI (by omega) (by omega) ?_
    refine hk (j + 1) ⟨by omega, fun m' hm' => ?_⟩ (by omega)
    rw [List.take_add_one, hx] at hm'
    rcases List.mem_append.1 hm' with hm' | hm'
    · exact ha m' hm'
    · simp at hm'; subst hm'; simpa using e
  have hhv : f.held.any (fun m => !heldOk m) = false := List.any_eq_false.2 fun m hm => by
    have hie : j = f.held.length := by omega
    subst hie
    rw [ha m (by simpa using hm)]; decide
  rw [if_neg (by rw [hmv, hhv]; intro h; rcases h with h | h | h; exact e8 h; cases h; cases h)] at fin
  clear hk ha hc hi
  refine E_loop (n := 2) (σ := Nat) (fun i => i ≤ f.refs.length ∧ ∀ m ∈ f.refs.take i, rightB m = true) (fun i => [ptr b1, I i]) (fun _ => cel true b1 60 (faL f rv hv mv) :: H) (fun i => f.refs.length - i) 0 (fun _ => rfl) rfl ⟨Nat.zero_le _, by simp⟩ (fun W hW => hW) ?_
  rintro n K2 ⟨hi, ha⟩ hk
  refine E_fa fun _ => ?_
  (repeat first | refine gS ?_ | refine gA fun _ => ?_ | refine gX fun _ _ => ?_ | refine gT ?_ | refine gF ?_ | refine gI ?_)
  refine E_if (fun hc => ?_) (fun hc => ?_)
  · have hx : f.refs[n]? = some f.refs[n] := List.getElem?_eq_getElem (by omega)
    have hxm := List.mem_of_getElem? hx
    generalize f.refs[n] = m at hx hxm
    (repeat first | refine gS ?_ | refine gA fun _ => ?_ | refine gX fun _ _ => ?_ | refine gT ?_ | refine gF ?_ | refine gI ?_)
    refine right2 ?_
    refine gY ?_
    refine E_ifb' (p := rightB m = false) (by simp) (fun e => ?_) (fun e => ?_)
    · exact fin 2 (if_pos (List.any_eq_true.2 ⟨m, hxm, by rw [e]; rfl⟩))
    refine E_addI (by omega) (by omega) ?_
    refine hk (n + 1) ⟨by omega, fun m' hm' => ?_⟩ (by omega)
    rw [List.take_add_one, hx] at hm'
    rcases List.mem_append.1 hm' with hm' | hm'
    · exact ha m' hm'
    · simp at hm'; subst hm'; simpa using e
  have hrv : f.refs.any (fun m => !rightB m) = false := List.any_eq_false.2 fun m hm => by
    have hie : n = f.refs.length := by omega
    subst hie
    rw [ha m (by simpa using hm)]; decide
  exact fin 0 (if_neg (by rw [hrv]; decide))
end Go.Proofs.YtjafpncngmbcdaaGreat.Nam
end
section
namespace Go.Proofs.YtjafpncngmbcdaaGreat.Nam
open Go Go.SL Go.Proofs Go.Proofs.YtjafpncngmbcdaaGreat.Sh
variable {B : World} {H : List Asrt} {K : Value → WT} {W : WT} {a : Nat} {M : Bk}
theorem u_pBook : Tryz.prog.underlying 23 = some (.pointer 81) := by kernel_rfl
theorem u_files : Tryz.prog.underlying 78 = some (.map 9 63) := by kernel_rfl
theorem u_shots : Tryz.prog.underlying 79 = some (.map 9 90) := by kernel_rfl
theorem u_vers : Tryz.prog.underlying 63 = some (.slice 31) := by kernel_rfl
theorem u_refs : Tryz.prog.underlying 29 = some (.slice 38) := by kernel_rfl
theorem u_helds : Tryz.prog.underlying 44 = some (.slice 53) := by kernel_rfl
theorem key_files : Key Tryz.prog 78 9 63 .string := ⟨u_files, u_string, rfl⟩
theorem key_shots : Key Tryz.prog 79 9 90 .string := ⟨u_shots, u_string, rfl⟩
theorem elt_ver : Elt Tryz.prog 31 4 48 [I 0, I 0, nil, .bool false] := elt_of (zv := .agg #[I 0, I 0, nil, .bool false]) (by kernel_rfl) rfl rfl
theorem elt_held : Elt Tryz.prog 53 2 24 [.string ⟨#[]⟩, I 0] := elt_of (zv := .agg #[.string ⟨#[]⟩, I 0]) (by kernel_rfl) rfl rfl
theorem str_held : Str Tryz.prog 53 [(0, 1), (1, 1)] [.string ⟨#[]⟩, I 0] := str_of (zv := .agg #[.string ⟨#[]⟩, I 0]) (by kernel_rfl) (by kernel_rfl) rfl
theorem str_book : Str Tryz.prog 81 [(0, 1), (1, 1), (2, 1)] [.map none, .map none, I 0] := str_of (zv := .agg #[.map none, .map none, I 0]) (by kernel_rfl) (by kernel_rfl) rfl
theorem eq_held (a b : List UInt8 × Int) (w : World) : (Op.equal 53 (.agg #[str a.1, I a.2]) (.agg #[str b.1, I b.2])).run Tryz.prog w = .ok (decide (a = b)) w := by
  rw [run_eqStruct (xs := [str a.1, I a.2]) (ys := [str b.1, I b.2]) (bs := [decide (a.1 = b.1), decide (a.2 = b.2)]) [9, 3] (by kernel_rfl) (by kernel_rfl) (by kernel_rfl) rfl (fun i t b' h1 h2 => by
    match i, h1, h2 with
    | 0, h1, h2 => cases h1; cases h2; exact ⟨_, _, rfl, rfl, eqV_str u_string⟩
    | 1, h1, h2 => cases h1; cases h2; exact ⟨_, _, rfl, rfl, eqV_int u_int⟩
    | n + 2, h1, h2 => simp at h1) w]
  obtain ⟨a1, a2⟩ := a
  obtain ⟨b1, b2⟩ := b
  by_cases h1 : a1 = b1 <;> by_cases h2 : a2 = b2 <;> simp [h1, h2]
abbrev VR := Ver × Cv
def vC (p : VR) : List Value := [I p.1.gen, I p.1.time, p.2.1, .bool p.1.gone]
instance : Enc vC 4 := ⟨fun _ => rfl, fun p y hy => by
  simp [vC] at hy
  rcases hy with rfl | rfl | rfl | rfl
  all_goals first | rfl | exact p.2.2⟩
instance {v : VR} : AtLen (vC v) 4 := ⟨rfl⟩
instance {v : VR} : AllC (vC v) := ⟨fun y hy => Enc.cell (enc := vC) v y hy⟩
instance {v : VR} : AtI (vC v) 0 (I v.1.gen) := ⟨rfl⟩
instance {v : VR} : AtI (vC v) 1 (I v.1.time) := ⟨rfl⟩
instance {v : VR} : AtI (vC v) 2 v.2.1 := ⟨rfl⟩
instance {v : VR} : AtI (vC v) 3 (.bool v.1.gone) := ⟨rfl⟩
abbrev shV (s : Sn) (hv : Value) : Value := .agg #[str s.name, I s.time, hv]
structure R where
  r1 : Nat
  r2 : Nat
  kf : List (List UInt8 × Value)
  ks : List (List UInt8 × Value)
  Lv : List (Value × List VR)
  Lr : List (Value × List Rf)
  Lh : List (Value × List (List UInt8 × Int))
structure VOk (Lv : List (Value × List VR)) (Lr : List (Value × List Rf)) (v : Value) (l : List VR) (V : List Ver) : Prop where
  m : (v, l) ∈ Lv
  e : l.map (·.1) = V
  r : ∀ p ∈ l, (p.2.1, p.1.refs) ∈ Lr
def FOk (Lv : List (Value × List VR)) (Lr : List (Value × List Rf)) (kf : List (List UInt8 × Value)) (V : List Ver) : Prop :=
  ∀ k, (lk kf k = none ∧ fof V k = []) ∨ ∃ v l, lk kf k = some v ∧ VOk Lv Lr v l (fof V k) ∧ fof V k ≠ []
def SOk (Lh : List (Value × List (List UInt8 × Int))) (ks : List (List UInt8 × Value)) (S : List Sn) : Prop :=
  ∀ k, (lk ks k = none ∧ sof S k = none) ∨ ∃ (hv : Cv) (s : Sn), lk ks k = some (shV s hv.1) ∧ sof S k = some s ∧ (hv.1, s.held) ∈ Lh
def bk (a : Nat) (M : Bk) : Asrt := ex fun x : R => all [cel true a 81 [.map (some x.r1), .map (some x.r2), I M.now], dct kL true x.r1 x.kf, dct kL true x.r2 x.ks, spool vC x.Lv, spool rfC x.Lr, spool hC x.Lh, pur (FOk x.Lv x.Lr x.kf M.V ∧ SOk x.Lh x.ks M.S)]
theorem E_bk {a : Nat} {M : Bk} (h : ∀ r1 r2 kf ks Lv Lr Lh, FOk Lv Lr kf M.V → SOk Lh ks M.S →
    E B (cel true a 81 [.map (some r1), .map (some r2), I M.now] :: dct kL true r1 kf :: dct kL true r2 ks :: spool vC Lv :: spool rfC Lr :: spool hC Lh :: H) W) : E B (bk a M :: H) W := by
  refine E_ex fun x => E_all ?_
  refine E_find (a := pur (FOk x.Lv x.Lr x.kf M.V ∧ SOk x.Lh x.ks M.S)) (by repeat (first | exact Find.here | apply Find.there)) (E_pur fun hr => ?_)
  exact h x.r1 x.r2 x.kf x.ks x.Lv x.Lr x.Lh hr.1 hr.2
theorem E_bkS {a : Nat} {M : Bk} (r1 r2 : Nat) {n : Int} {kf ks : List (List UInt8 × Value)} {Lv : List (Value × List VR)} {Lr : List (Value × List Rf)} {Lh : List (Value × List (List UInt8 × Int))}
    (hf : FOk Lv Lr kf M.V) (hs : SOk Lh ks M.S) (hn : n = M.now := by rfl) (h : E B (bk a M :: H) W) :
    E B (cel true a 81 [.map (some r1), .map (some r2), I n] :: dct kL true r1 kf :: dct kL true r2 ks :: spool vC Lv :: spool rfC Lr :: spool hC Lh :: H) W := by
  subst hn
  refine E_pur' (show FOk Lv Lr kf M.V ∧ SOk Lh ks M.S from ⟨hf, hs⟩) ?_
  have h' := E_all' (E_ex' (f := fun x : R => all [cel true a 81 [.map (some x.r1), .map (some x.r2), I M.now], dct kL true x.r1 x.kf, dct kL true x.r2 x.ks, spool vC x.Lv, spool rfC x.Lr, spool hC x.Lh, pur (FOk x.Lv x.Lr x.kf M.V ∧ SOk x.Lh x.ks M.S)]) ⟨r1, r2, kf, ks, Lv, Lr, Lh⟩ h)
  exact E_same (by repeat (first | exact Same.refl | (refine Same.cons (by repeat (first | exact Find.here | apply Find.there)) ?_) | (refine Same.drop ?_))) h'
theorem E_dnod {κ : Type} [DecidableEq κ] {enc : κ → Value} {o : Bool} {r : Nat} {kv : List (κ × Value)} (h : (kv.map (·.1)).Nodup → E B (dct enc o r kv :: H) W) : E B (dct enc o r kv :: H) W :=
  E_dopen fun _ _ hd => E_dshut hd (h hd.nod)
theorem fi {α : Type} (l : List α) (p : α → Bool) : (l.findIdx? p = none ∧ l.find? p = none) ∨ ∃ i x, l.findIdx? p = some i ∧ l[i]? = some x ∧ l.find? p = some x := by
  cases h : l.findIdx? p with
  | none =>
    refine .inl ⟨rfl, List.find?_eq_none.2 fun x hx => ?_⟩
    simp [List.findIdx?_eq_none_iff.1 h x hx]
  | some i =>
    obtain ⟨hl, hp, hno⟩ := List.findIdx?_eq_some_iff_getElem.1 h
    refine .inr ⟨i, l[i], rfl, List.getElem?_eq_getElem hl, ?_⟩
    rw [List.find?_eq_some_iff_getElem]
    exact ⟨hp, i, hl, rfl, fun j hj => by simpa using hno j hj⟩
def genP (g : Int) (v : Ver) : Bool := decide (v.gen = g)
theorem idx_map {l : List VR} {V : List Ver} (e : l.map (·.1) = V) (g : Int) : l.findIdx? (fun p => genP g p.1) = V.findIdx? (genP g) := by
  rw [← e, List.findIdx?_map]; rfl
def SU (S : List Sn) : Prop := ∀ s ∈ S, sof S s.name = some s
attribute [local irreducible] S.pick S.ld S.ldN S.st S.box S.nc S.fad S.ixS S.ixA S.chr S.prt S.ext S.bin S.sh S.sbin S.beq S.neg1 S.com1 S.not1 S.cvt S.str1 S.lenS S.len S.cap S.lenM S.mx S.mn S.mkM S.cond S.gd S.fa S.dr S.rck S.join S.loop S.cvv S.eqv S.slc S.slcS S.b2s S.lk V U CF Gives E cel mpb osl ros dct dit itr lpo dfo
set_option maxRecDepth 8000
attribute [local irreducible] bk
theorem new (h : ∀ a, E B (bk a ⟨[], [], 0⟩ :: H) (K (ptr a))) : E B H (CF Tryz.prog 31 [] K) := by
  refine E_mono (W := s31 K) ?_ fun _ => c31
  unfold s31
  refine E_mkM fun r1 => ?_
  refine E_dnew (κ := List UInt8) (enc := kL) ?_
  refine E_mkM fun r2 => ?_
  refine E_dnew (κ := List UInt8) (enc := kL) ?_
  refine E_build (l := [.map (some r1), .map (some r2), I 0]) str_book ?_
  (repeat first | refine gS ?_ | refine gA fun _ => ?_ | refine gX fun _ _ => ?_ | refine gT ?_ | refine gF ?_ | refine gI ?_)
  rename_i a
  refine pool_new (slQ vC) ?_
  refine pool_new (slQ rfC) ?_
  refine pool_new (slQ hC) ?_
  refine sm (G := cel true a 81 [.map (some r1), .map (some r2), I 0] :: dct kL true r1 [] :: dct kL true r2 [] :: spool vC [] :: spool rfC [] :: spool hC [] :: H) ?_
  exact E_bkS (M := ⟨[], [], 0⟩) r1 r2 (fun k => .inl ⟨rfl, rfl⟩) (fun k => .inl ⟨rfl, rfl⟩) rfl (h a)
theorem idxGen {v : Value} {l : List VR} {g : Int} {n : List UInt8} {b : Nat} [hv : Rs B H v vC l] (hn : l.length ≤ 140737488355328) (h : E B (cel true b 53 [str n, I g] :: H) (K (I (idxI (l.findIdx? fun p => genP g p.1))))) :
    E B (cel true b 53 [str n, I g] :: H) (CF Tryz.prog 91 [v, .func (.func 92) #[] #[ptr b]] K) := by
  refine E_mono (W := s91 _ _ K) ?_ fun _ => c91
  rw [s91_eq]
  refine idxC_ok (C := [cel true b 53 [str n, I g]]) (hv := show Rs B (cel true b 53 [str n, I g] :: H) v vC l from rs_there) (enc := vC) (p := fun p : VR => genP g p.1) hn (fun p _ H' K' hK => ?_) h
  refine E_cvv (by kernel_rfl) ?_
  show E B (cel true b 53 [str n, I g] :: H') (CF Tryz.prog 92 [.agg (vC p).toArray, ptr b] K')
  refine E_mono (W := s92 _ _ K') ?_ fun _ => c92
  unfold s92
  (repeat first | refine gS ?_ | refine gA fun _ => ?_ | refine gX fun _ _ => ?_ | refine gT ?_ | refine gF ?_ | refine gI ?_)
  have hK2 : E B (cel true b 53 [str n, I g] :: H') (K' (.bool (genP g p.1))) := hK
  exact sm hK2
theorem at_ {n : List UInt8} {g : Int} (hn : (fof M.V n).length ≤ 140737488355328) (h : E B (bk a M :: H) (K (I (idxI ((fof M.V n).findIdx? (genP g)))))) : E B (bk a M :: H) (CF Tryz.prog 43 [ptr a, .agg #[str n, I g]] K) := by
  refine E_mono (W := s43 _ _ K) ?_ fun _ => c43
  unfold s43
  refine E_box (vs := [str n, I g]) fun b => ?_
  refine fd (a := bk a M) (E_bk fun r1 r2 kf ks Lv Lr Lh hf hs => ?_)
  have hend := E_bkS (a := a) (M := M) r1 r2 (n := M.now) hf hs rfl h
  (repeat first | refine gS ?_ | refine gA fun _ => ?_ | refine gX fun _ _ => ?_ | refine gT ?_ | refine gF ?_ | refine gI ?_)
  rcases hf n with ⟨h1, h2⟩ | ⟨v, l, h1, h2, h3⟩
  · refine E_dlk0 (κ := List UInt8) h1 ?_
    refine fd (a := cel true b 53 [str n, I g]) ?_
    refine idxGen (l := []) (hv := ⟨fun _ => .inl ⟨rfl, rfl, rfl⟩⟩) (by simp) ?_
    rw [h2] at hend
    exact sm hend
  · refine E_dlk1 (κ := List UInt8) h1 ?_
    have rv := rs_pool (B := B) (enc := vC) h2.m
    refine fd (a := cel true b 53 [str n, I g]) ?_
    refine idxGen (l := l) (by rw [← h2.e] at hn; simpa using hn) ?_
    rw [idx_map h2.e]
    exact sm hend
theorem live {n : List UInt8} {g : Int} (hn : (fof M.V n).length ≤ 140737488355328) (h : E B (bk a M :: H) (K (.bool (liveB M.V n g)))) : E B (bk a M :: H) (CF Tryz.prog 41 [ptr a, .agg #[str n, I g]] K) := by
  have fin : ∀ b : Bool, liveB M.V n g = b → E B (bk a M :: H) (K (.bool b)) := fun b hb => hb ▸ h
  unfold liveB genV at fin
  refine E_mono (W := s41 _ _ K) ?_ fun _ => c41
  unfold s41
  refine E_box (vs := [str n, I g]) fun b => ?_
  (repeat first | refine gS ?_ | refine gA fun _ => ?_ | refine gX fun _ _ => ?_ | refine gT ?_ | refine gF ?_ | refine gI ?_)
  refine fd (a := bk a M) (at_ hn ?_)
  rcases fi (fof M.V n) (genP g) with ⟨e1, e2⟩ | ⟨i, x, e1, e2, e3⟩
  · rw [e1, show idxI none = (-1 : Int) from rfl]
    (repeat first | refine gS ?_ | refine gA fun _ => ?_ | refine gX fun _ _ => ?_ | refine gT ?_ | refine gF ?_ | refine gI ?_)
    exact sm (fin false (by rw [show (fun v : Ver => decide (v.gen = g)) = genP g from rfl, e2]))
  · rw [e1, show idxI (some i) = (i : Int) from rfl]
    have hi : (0 : Int) ≤ (i : Int) := by omega
    (repeat first | refine gS ?_ | refine gA fun _ => ?_ | refine gX fun _ _ => ?_ | refine gT ?_ | refine gF ?_ | refine gI ?_)
    refine E_bk fun r1 r2 kf ks Lv Lr Lh hf hs => ?_
    have hend := fun c hc => E_bkS (a := a) (M := M) r1 r2 (n := M.now) hf hs rfl (fin c hc)
    rcases hf n with ⟨h1, h2⟩ | ⟨v, l, h1, h2, h3⟩
    · rw [h2] at e2; cases e2
    have rv := rs_pool (B := B) (enc := vC) h2.m
    (repeat first | refine gS ?_ | refine gA fun _ => ?_ | refine gX fun _ _ => ?_ | refine gT ?_ | refine gF ?_ | refine gI ?_)
    refine E_dlk1 (κ := List UInt8) h1 ?_
    have hx : ∃ p, l[i]? = some p ∧ p.1 = x := by
      rw [← h2.e, List.getElem?_map] at e2
      cases hp : l[i]? with
      | none => rw [hp] at e2; cases e2
      | some p => rw [hp] at e2; exact ⟨p, rfl, Option.some.inj e2⟩
    obtain ⟨p, hp, hpx⟩ := hx
    (repeat first | refine gS ?_ | refine gA fun _ => ?_ | refine gX fun _ _ => ?_ | refine gT ?_ | refine gF ?_ | refine gI ?_)
    refine gY ?_
    (repeat first | refine gS ?_ | refine gA fun _ => ?_ | refine gX fun _ _ => ?_ | refine gT ?_ | refine gF ?_ | refine gI ?_)
    refine sm (hend _ ?_)
    rw [show (fun v : Ver => decide (v.gen = g)) = genP g from rfl, e3, hpx]
theorem hasHeld {v : Value} {l : List (List UInt8 × Int)} {q : List UInt8 × Int} [hv : Rs B H v hC l] (hn : l.length ≤ 140737488355328) (h : E B H (K (.bool (decide (q ∈ l))))) : E B H (CF Tryz.prog 131 [v, .agg #[str q.1, I q.2]] K) := by
  refine E_mono (W := s131 _ _ K) ?_ fun _ => c131
  unfold s131
  refine E_box (vs := [str q.1, I q.2]) fun b0 => ?_
  (repeat first | refine gS ?_ | refine gA fun _ => ?_ | refine gX fun _ _ => ?_ | refine gT ?_ | refine gF ?_ | refine gI ?_)
  refine E_mono (W := s147 _ _ _) ?_ fun _ => c147
  unfold s147
  refine E_box (vs := [str q.1, I q.2]) fun b => ?_
  refine E_rslen (v := v) (l := l) ?_
  refine E_loop (n := 4) (σ := Nat) (fun i => i ≤ l.length ∧ q ∉ l.take i) (fun i => [v, ptr b, I l.length, I i]) (fun _ => cel true b 53 [str q.1, I q.2] :: H) (fun i => l.length - i) 0 (fun _ => rfl) rfl ⟨Nat.zero_le _, by simp⟩ (fun W hW => sm hW) ?_
  rintro i K0 ⟨hi, ha⟩ hk
  refine E_fa fun _ => ?_
  refine E_lss ?_
  refine E_if (fun hc => ?_) (fun hc => ?_)
  · have hx : l[i]? = some l[i] := List.getElem?_eq_getElem (by omega)
    have hxm := List.mem_of_getElem? hx
    generalize l[i] = x at hx hxm
    (repeat first | refine gS ?_ | refine gA fun _ => ?_ | refine gX fun _ _ => ?_ | refine gT ?_ | refine gF ?_ | refine gI ?_)
    refine E_aeq (xs := #[str q.1, I q.2]) (ys := #[str x.1, I x.2]) (b := decide (q = x)) (by kernel_rfl) (fun w => eq_held q x w) ?_
    refine E_if (fun e => ?_) (fun e => ?_)
    · subst e
      refine E_geq ?_
      rw [decide_eq_true hxm] at h
      rw [decide_eq_true (show (0 : Int) ≤ (i : Int) by omega)]
      exact sm h
    · refine E_addI (by omega) (by omega) ?_
      refine hk (i + 1) ⟨by omega, ?_⟩ (by omega)
      rw [List.take_add_one, hx]
      simp [ha, e]
  · have : i = l.length := by omega
    subst this
    rw [List.take_length] at ha
    refine E_geq ?_
    rw [decide_eq_false ha] at h
    exact sm h
theorem held {n : List UInt8} {g : Int} (hS : SU M.S) (hl : ∀ s ∈ M.S, s.held.length ≤ 140737488355328) (h : E B (bk a M :: H) (K (.bool (heldB M.S n g)))) : E B (bk a M :: H) (CF Tryz.prog 100 [ptr a, .agg #[str n, I g]] K) := by
  refine E_mono (W := s100 _ _ K) ?_ fun _ => c100
  unfold s100
  refine E_box (vs := [str n, I g]) fun b => ?_
  refine fd (a := bk a M) (E_bk fun r1 r2 kf ks Lv Lr Lh hf hs => ?_)
  have hend := E_bkS (a := a) (M := M) r1 r2 (n := M.now) hf hs rfl h
  refine fd (a := dct kL true r2 ks) (E_dnod fun hnod => ?_)
  (repeat first | refine gS ?_ | refine gA fun _ => ?_ | refine gX fun _ _ => ?_ | refine gT ?_ | refine gF ?_ | refine gI ?_)
  refine E_drange (κ := List UInt8) u_shots fun it => ?_
  refine E_loop (n := 2) (σ := List (List UInt8 × Value) × Option (List UInt8 × Value)) (fun s => ∃ done, (done ++ s.1).Perm ks ∧ ∀ p ∈ done, ∀ t, sof M.S p.1 = some t → (n, g) ∉ t.held)
    (fun s => [ptr b, .pointer (some ⟨it, 0, none⟩)])
    (fun s => dit kL true it r2 ks s.1 s.2 :: cel true b 53 [str n, I g] :: cel true a 81 [.map (some r1), .map (some r2), I M.now] :: dct kL true r1 kf :: spool vC Lv :: spool rfC Lr :: spool hC Lh :: H)
    (fun s => s.1.length) (ks, none) (fun s => rfl) rfl ⟨[], by simp, by simp⟩ (fun W hW => sm hW) ?_
  rintro ⟨rest, cur⟩ K0 ⟨done, hp, hd⟩ hk
  simp only at hp hd hk ⊢
  refine E_fa fun _ => ?_
  refine E_dnext (κ := List UInt8) (fun hr0 => ?_) (fun p rest' hp' => ?_)
  · subst hr0
    (repeat first | refine gS ?_ | refine gA fun _ => ?_ | refine gX fun _ _ => ?_ | refine gT ?_ | refine gF ?_ | refine gI ?_)
    refine fd (a := dit kL true it r2 ks [] none) (E_idone ?_)
    have e : heldB M.S n g = false := by
      unfold heldB
      rw [List.any_eq_false]
      intro t hts
      simp only [decide_eq_true_eq]
      have hsf := hS t hts
      rcases hs t.name with ⟨_, h2⟩ | ⟨hv, u, h1, h3, _⟩
      · rw [h2] at hsf; cases hsf
      · have hm : (t.name, shV u hv.1) ∈ done := by
          have := (hp.mem_iff (a := (t.name, shV u hv.1))).2 (lookup_mem h1)
          simpa using this
        exact hd _ hm t hsf
    rw [e] at hend
    exact sm hend
  · (repeat first | refine gS ?_ | refine gA fun _ => ?_ | refine gX fun _ _ => ?_ | refine gT ?_ | refine gF ?_ | refine gI ?_)
    refine E_dentry (κ := List UInt8) ?_
    (repeat first | refine gS ?_ | refine gA fun _ => ?_ | refine gX fun _ _ => ?_ | refine gT ?_ | refine gF ?_ | refine gI ?_)
    obtain ⟨k, v⟩ := p
    have hm : (k, v) ∈ ks := (hp.mem_iff).1 (List.mem_append_right _ ((hp'.mem_iff).2 (by simp)))
    have hlk : lk ks k = some v := lookup_of_mem hnod hm
    rcases hs k with ⟨h1, _⟩ | ⟨hv, t, h1, h3, h4⟩
    · rw [hlk] at h1; cases h1
    · have hv' : v = shV t hv.1 := by rw [hlk] at h1; exact Option.some.inj h1
      subst hv'
      have rv := rs_pool (B := B) (enc := hC) h4
      refine E_stW (vs := [str t.name, I t.time, hv.1]) rfl rfl ?_
      (repeat first | refine gS ?_ | refine gA fun _ => ?_ | refine gX fun _ _ => ?_ | refine gT ?_ | refine gF ?_ | refine gI ?_)
      refine hasHeld (q := (n, g)) (l := t.held) (hl t (sof_some h3).1) ?_
      refine E_if (fun hc => ?_) (fun hc => ?_)
      · have e : heldB M.S n g = true := by
          unfold heldB
          rw [List.any_eq_true]
          exact ⟨t, (sof_some h3).1, decide_eq_true hc⟩
        rw [e] at hend
        refine fd (a := dit kL true it r2 ks rest' (some (k, shV t hv.1))) (E_idone ?_)
        exact sm hend
      · have hk' := hk (rest', some (k, shV t hv.1)) ⟨done ++ [(k, shV t hv.1)], by
          simp only [List.append_assoc, List.singleton_append]
          exact (hp'.symm.append_left done).trans hp, fun p hpm u hu => by
          rcases List.mem_append.1 hpm with hpm | hpm
          · exact hd p hpm u hu
          · simp only [List.mem_singleton] at hpm
            subst hpm
            rw [h3] at hu
            cases hu
            exact hc⟩ (by simpa using hp'.length_eq ▸ Nat.lt_succ_self _)
        exact sm hk'
theorem next {n : List UInt8} (hn : (fof M.V n).length ≤ 140737488355328) (hg : ∀ v ∈ M.V, v.gen ≤ 9007199254740991 ∧ 1 ≤ v.gen) (h : E B (bk a M :: H) (K (I (nextG M.V n)))) : E B (bk a M :: H) (CF Tryz.prog 16 [ptr a, str n] K) := by
  refine E_mono (W := s16 _ _ K) ?_ fun _ => c16
  unfold s16
  refine E_peq u_pBook ?_
  refine E_ff ?_
  refine E_bk fun r1 r2 kf ks Lv Lr Lh hf hs => ?_
  have hend := E_bkS (a := a) (M := M) r1 r2 (n := M.now) hf hs rfl h
  (repeat first | refine gS ?_ | refine gA fun _ => ?_ | refine gX fun _ _ => ?_ | refine gT ?_ | refine gF ?_ | refine gI ?_)
  rcases hf n with ⟨h1, h2⟩ | ⟨v, l, h1, h2, h3⟩
  · refine E_dlk0 (κ := List UInt8) h1 ?_
    (repeat first | refine gS ?_ | refine gA fun _ => ?_ | refine gX fun _ _ => ?_ | refine gT ?_ | refine gF ?_ | refine gI ?_)
    unfold nextG at hend
    rw [h2] at hend
    exact sm hend
  · refine E_dlk1 (κ := List UInt8) h1 ?_
    have rv := rs_pool (B := B) (enc := vC) h2.m
    have hll : l.length = (fof M.V n).length := by rw [← h2.e, List.length_map]
    obtain ⟨x, hx, hxg⟩ := topG_some h3
    have hpos : 0 < l.length := by rw [hll]; exact List.length_pos_iff.2 h3
    have hp : ∃ p, l[l.length - 1]? = some p ∧ p.1 = x := by
      rw [← hll, ← h2.e, List.getElem?_map] at hx
      cases hp : l[l.length - 1]? with
      | none => rw [hp] at hx; cases hx
      | some p => rw [hp] at hx; exact ⟨p, rfl, Option.some.inj hx⟩
    obtain ⟨p, hp, hpx⟩ := hp
    have hxm := hg x (fof_mem.1 (List.mem_of_getElem? hx)).1
    refine E_rslen (v := v) (l := l) ?_
    refine E_eql ?_
    refine E_ifF (by omega) ?_
    refine E_rslen (v := v) (l := l) ?_
    refine E_subI (by omega) (by omega) ?_
    rw [show (l.length : Int) - 1 = ((l.length - 1 : Nat) : Int) by omega]
    refine E_rsix (v := v) (l := l) hp fun _ _ => ?_
    refine E_ptfad0 fun _ _ => ?_
    refine E_ptld ?_
    refine E_addI (by rw [hpx]; omega) (by rw [hpx]; omega) ?_
    unfold nextG at hend
    rw [hxg, ← hpx] at hend
    exact sm hend
end Go.Proofs.YtjafpncngmbcdaaGreat.Nam
end
section
namespace Go.Proofs.YtjafpncngmbcdaaGreat.Nam
open Go Go.SL Go.Proofs Go.Proofs.YtjafpncngmbcdaaGreat.Sh
variable {B : World} {H : List Asrt} {K : Value → WT} {W : WT} {a : Nat} {M : Bk}
theorem E_rsC {α : Type} {enc : α → List Value} {v : Value} {l : List α} [hv : Rs B H v enc l] (h1 : v = .slice none 0 0 → l = [] → E B H W) (h2 : ∀ a cap, v = .slice (some a) l.length cap → E B H W) : E B H W := fun w hw => by
  rcases hv.pf hw with ⟨e, hn, _⟩ | ⟨a, cap, e, _, _⟩
  · exact h1 e (List.length_eq_zero_iff.1 hn) w hw
  · exact h2 a cap e w hw
theorem ctail {α : Type} {enc : α → List Value} {sz : Nat} {P : Program} [hE : Enc enc sz] {t T by_ : Nat} {z : List Value} {v : Value} {c : List α} {i : Nat} (hu : P.underlying t = some (.slice T)) (he : Elt P T sz by_ z) (hz : ∀ y ∈ z, isCell y = true) (hi : i < c.length)
    (h : ∀ v' [CellI v'], E B (sls enc T sz v' (c.take i) :: H) (K v')) :
    E B (sls enc T sz v c :: H) (S.slc sz v (some (.int .i64 (i : Int))) none none fun v38 => V P (Builtin.clear_ #[t] 0 #[v38]) fun _ => S.slc sz v none (some (.int .i64 (i : Int))) none K) := by
  have hzl : z.length = sz := by obtain ⟨_, _, _, _, _, _, _, hz⟩ := he.pf; exact hz
  have hlen := enc_length (enc := enc) c
  have hmul : i * sz + (c.length - i) * sz = c.length * sz := by rw [← Nat.add_mul]; congr 1; omega
  refine E_oslc2 (fun hv hn hx => by omega) (fun b cap spare hv hle hxl hsl => ?_)
  have hmul2 : (c.length - i) * sz + (cap - c.length) * sz = (cap - i) * sz := by rw [← Nat.add_mul]; congr 1; omega
  subst hv
  refine E_slc (l := i) (hh := c.length) (m := cap) rfl rfl (by simp [S.bound]) (by omega) (by omega) (by omega) (fun h => by cases h) ?_
  rw [if_neg (by omega)]
  refine E_clear (t := t) rfl hu he hz (by omega) (by rw [List.length_append, hlen]; omega) ?_
  refine E_slc (l := 0) (hh := i) (m := cap) rfl (by simp [S.bound]) rfl (by omega) (by omega) (by omega) (fun h => by cases h) ?_
  have e0 : (if cap = 0 then some (⟨b, 0, none⟩ : Addr) else some ⟨b, 0 + 0 * sz, none⟩) = some ⟨b, 0, none⟩ := by rw [Nat.zero_mul]; split <;> rfl
  rw [e0]
  have e1 : setAll (c.flatMap enc ++ spare) (0 + i * sz) (rep (c.length - i) z) = (c.take i).flatMap enc ++ (rep (c.length - i) z ++ spare) := by
    unfold setAll
    rw [Nat.zero_add, rep_length, hzl, hmul, List.take_append_of_le_length (by rw [hlen]; omega), enc_take, List.append_assoc]
    congr 2
    rw [← hlen, List.drop_left]
  rw [e1, Nat.sub_zero, Nat.sub_zero]
  have hti : (c.take i).length = i := by rw [List.length_take]; omega
  refine E_osls (n := i) (sz := sz) (cap := cap) (by omega) (by rw [enc_length, hti]) (by rw [List.length_append, rep_length, hzl, hsl, hmul2]) ?_
  have h' := h (.slice (some ⟨b, 0, none⟩) i cap)
  unfold sls at h'
  rw [hti] at h'
  exact h'
theorem rs_app {α : Type} {enc : α → List Value} {v : Value} {l : List α} (C : List Asrt) (h : Rs B H v enc l) : Rs B (C ++ H) v enc l := by
  induction C with
  | nil => exact h
  | cons c C ih => exact rs_there (h := ih)
theorem u_strs : Tryz.prog.underlying 94 = some (.slice 9) := by kernel_rfl
theorem elt_string : Elt Tryz.prog 9 1 16 [.string ⟨#[]⟩] := elt_of (zv := .string ⟨#[]⟩) (by kernel_rfl) rfl rfl
abbrev zRef : List Value := [.int .u8 0, .int .u8 0, .int .u8 0, .int .u8 0, .int .u8 0, .int .u8 0, .int .u8 0, .int .u8 0, .int .u8 0, .int .u8 0, .int .u8 0, .int .u8 0, .int .u8 0, .int .u8 0, .int .u8 0, .int .u8 0, .int .u8 0, .int .u8 0, .int .u8 0, .int .u8 0, .int .u8 0, .int .u8 0, .int .u8 0, .int .u8 0, .int .u8 0, .int .u8 0, .int .u8 0, .int .u8 0, .int .u8 0, .int .u8 0, .int .u8 0, .int .u8 0, I 0, I 0, I 0]
theorem elt_ref : Elt Tryz.prog 38 35 56 zRef := elt_of (zv := .agg zRef.toArray) (by kernel_rfl) rfl rfl
theorem sortOkS : SortOkS Tryz.prog 118 := ⟨fun blk off cap zs w h1 h2 h3 => Tryz.slices_Sort_string blk off cap zs w h1 h2 h3, fun p cap w => Tryz.slices_Sort_string_none p cap w⟩
attribute [local irreducible] S.pick S.ld S.ldN S.st S.box S.nc S.fad S.ixS S.ixA S.chr S.prt S.ext S.bin S.sh S.sbin S.beq S.neg1 S.com1 S.not1 S.cvt S.str1 S.lenS S.len S.cap S.lenM S.mx S.mn S.mkM S.cond S.gd S.fa S.dr S.rck S.join S.loop S.cvv S.eqv S.slc S.slcS S.b2s S.lk V U CF Gives E cel mpb osl ros dct dit itr lpo dfo
set_option maxRecDepth 8000
attribute [local irreducible] bk
noncomputable def cloneC (ty : Nat) (s_0 : Value) (K : Value → WT) : WT :=
 S.eqv Tryz.prog .eql ty true s_0 (.slice none 0 0) fun v4 =>
 S.cond v4 (
 K (.slice none 0 0)) (
 V Tryz.prog (Instr.buildSlice ty 0 #[]) fun v5 =>
 V Tryz.prog (Builtin.append_ #[ty, ty] ty #[v5, s_0]) fun v7 =>
 K v7)
theorem s51_eq (x : Value) (K : Value → WT) : s51 x K = cloneC 63 x K := by kernel_rfl
theorem s71_eq (x : Value) (K : Value → WT) : s71 x K = cloneC 29 x K := by kernel_rfl
theorem s59_eq (x : Value) (K : Value → WT) : s59 x K = cloneC 44 x K := by kernel_rfl
theorem cloneC_ok {α : Type} {enc : α → List Value} {sz : Nat} [hE : Enc enc sz] {ty T by_ : Nat} {z : List Value} {v : Value} {l : List α} [hv : Rs B H v enc l] (hu : Tryz.prog.underlying ty = some (.slice T)) (he : Elt Tryz.prog T sz by_ z) (hb : l.length * by_ ≤ 140737488355328) (hn : l.length ≤ 140737488355328)
    (h : ∀ v' [CellI v'], E B (sls enc T sz v' l :: H) (K v')) : E B H (cloneC ty v K) := by
  unfold cloneC
  refine E_rsC (v := v) (l := l) (fun hv0 hl => ?_) (fun a cap hv0 => ?_)
  · subst hv0 hl
    refine E_sleq hu ?_
    refine E_tt ?_
    exact sls_nil enc sz (h _)
  · rw [hv0]
    refine E_sleq hu ?_
    rw [← hv0]
    refine E_ff ?_
    refine E_bsl0 hu he fun b' => ?_
    refine E_slsC (enc := enc) [] 0 rfl rfl ?_
    refine E_sapps (enc := enc) (l := []) (m := l) hu he (by simpa using hb) (by simp; omega) fun v' _ => ?_
    simpa using h v'
theorem cloneV {v : Value} {l : List VR} [hv : Rs B H v vC l] (hn : l.length ≤ 1000000) (h : ∀ v' [CellI v'], E B (sls vC 31 4 v' l :: H) (K v')) : E B H (CF Tryz.prog 51 [v] K) := by
  refine E_mono (W := s51 _ K) ?_ fun _ => c51
  rw [s51_eq]
  exact cloneC_ok u_vers elt_ver (by omega) (by omega) h
theorem cloneR {v : Value} {l : List Rf} [hv : Rs B H v rfC l] (hn : l.length ≤ 1000000) (h : ∀ v' [CellI v'], E B (sls rfC 38 35 v' l :: H) (K v')) : E B H (CF Tryz.prog 71 [v] K) := by
  refine E_mono (W := s71 _ K) ?_ fun _ => c71
  rw [s71_eq]
  exact cloneC_ok u_refs elt_ref (by omega) (by omega) h
theorem cloneH {v : Value} {l : List (List UInt8 × Int)} [hv : Rs B H v hC l] (hn : l.length ≤ 1000000) (h : ∀ v' [CellI v'], E B (sls hC 53 2 v' l :: H) (K v')) : E B H (CF Tryz.prog 59 [v] K) := by
  refine E_mono (W := s59 _ K) ?_ fun _ => c59
  rw [s59_eq]
  exact cloneC_ok u_helds elt_held (by omega) (by omega) h
theorem deleteFunc {C : Asrt} {v fv : Value} {l : List VR} {p : VR → Bool} (hn : l.length ≤ 140737488355328) (hp : Asks B [C] fv vC p l)
    (h : ∀ v' [CellI v'], E B (sls vC 31 4 v' (l.filter fun x => !p x) :: C :: H) (K v')) : E B (sls vC 31 4 v l :: C :: H) (CF Tryz.prog 50 [v, fv] K) := by
  refine E_mono (W := s50 _ _ K) ?_ fun _ => c50
  refine rs_cell (v := v) (l := l) fun hcv => ?_
  have : CellI v := ⟨hcv⟩
  unfold s50
  refine fd (a := C) ?_
  refine E_mono (W := s91 _ _ _) ?_ fun _ => c91
  rw [s91_eq]
  have hrv : Rs B (C :: (sls vC 31 4 v l :: H)) v vC l := rs_there
  refine idxC_ok (C := [C]) (hv := hrv) (enc := vC) hn hp ?_
  show E B (C :: sls vC 31 4 v l :: H) _
  cases hf : l.findIdx? p with
  | none =>
    rw [show idxI none = (-1 : Int) from rfl]
    (repeat first | refine gS ?_ | refine gA fun _ => ?_ | refine gX fun _ _ => ?_ | refine gT ?_ | refine gF ?_ | refine gI ?_)
    have e : l.filter (fun x => !p x) = l := List.filter_eq_self.2 fun x hx => by
      have := List.findIdx?_eq_none_iff.1 hf x hx
      simp [this]
    have h' := h v
    rw [e] at h'
    exact sm h'
  | some k =>
    obtain ⟨hkl, hpk, hno⟩ := List.findIdx?_eq_some_iff_getElem.1 hf
    rw [show idxI (some k) = (k : Int) from rfl]
    (repeat first | refine gS ?_ | refine gA fun _ => ?_ | refine gX fun _ _ => ?_ | refine gT ?_ | refine gF ?_ | refine gI ?_)
    refine E_ifF (by omega) ?_
    (repeat first | refine gS ?_ | refine gA fun _ => ?_ | refine gX fun _ _ => ?_ | refine gT ?_ | refine gF ?_ | refine gI ?_)
    rw [show (k : Int) + 1 = ((k + 1 : Nat) : Int) by omega]
    have htk : (l.take (k + 1)).filter (fun x => !p x) = l.take k := by
      rw [List.take_add_one, List.getElem?_eq_getElem hkl, List.filter_append]
      have h1 : (l.take k).filter (fun x => !p x) = l.take k := List.filter_eq_self.2 fun x hx => by
        obtain ⟨j, hj, rfl⟩ := List.mem_take_iff_getElem.1 hx
        simpa using hno j (by omega)
      rw [h1]; simp [hpk]
    refine E_loop (n := 4) (σ := Nat × List VR) (fun s => k + 1 ≤ s.1 ∧ s.1 ≤ l.length ∧ s.2.length = l.length ∧ s.2.drop s.1 = l.drop s.1 ∧ s.2.take ((l.take s.1).filter fun x => !p x).length = (l.take s.1).filter fun x => !p x)
      (fun s => [v, fv, I ((l.take s.1).filter fun x => !p x).length, I s.1]) (fun s => C :: sls vC 31 4 v s.2 :: H) (fun s => l.length - s.1) (k + 1, l) (fun _ => rfl) (by simp only [htk]; rw [List.length_take, Nat.min_eq_left (by omega)])
      ⟨Nat.le_refl _, by omega, rfl, rfl, by simp only [htk]; rw [List.length_take, Nat.min_eq_left (by omega)]⟩ (fun W hW => hW) ?_
    rintro ⟨j, c⟩ K0 ⟨hkj, hj, hcl, hcd, hct⟩ hk
    simp only at hkj hj hcl hcd hct hk ⊢
    have hlt : ((l.take j).filter fun x => !p x).length < j := by
      have h1 : l.take j = l.take (k + 1) ++ (l.take j).drop (k + 1) := by
        conv => lhs; rw [← List.take_append_drop (k + 1) (l.take j)]
        rw [List.take_take, Nat.min_eq_left hkj]
      rw [h1, List.filter_append, htk, List.length_append]
      have := List.length_filter_le (fun x => !p x) ((l.take j).drop (k + 1))
      rw [List.length_drop, List.length_take] at this
      rw [List.length_take]; omega
    refine E_fa fun _ => ?_
    (repeat first | refine gS ?_ | refine gA fun _ => ?_ | refine gX fun _ _ => ?_ | refine gT ?_ | refine gF ?_ | refine gI ?_)
    refine E_if (fun hc => ?_) (fun hc => ?_)
    · have hx : l[j]? = some l[j] := List.getElem?_eq_getElem (by omega)
      have hxm := List.mem_of_getElem? hx
      generalize l[j] = x at hx hxm
      have hcx : c[j]? = some x := by
        have : (c.drop j)[0]? = (l.drop j)[0]? := by rw [hcd]
        simpa [hx] using this
      have hstep : ∀ y, p x = y → (l.take (j + 1)).filter (fun x => !p x) = (l.take j).filter (fun x => !p x) ++ if y then [] else [x] := fun y hy => by
        rw [List.take_add_one, hx, List.filter_append]
        cases y <;> simp [hy]
      refine E_joinC (σ := Bool) (fun y => p x = y) (fun y => [v, fv, I ((l.take (j + 1)).filter fun x => !p x).length, I j])
        (fun y => C :: sls vC 31 4 v (if y then c else c.set ((l.take j).filter fun x => !p x).length x) :: H) (fun q hq => ?_) (fun y hy => ?_)
      · (repeat first | refine gS ?_ | refine gA fun _ => ?_ | refine gX fun _ _ => ?_ | refine gT ?_ | refine gF ?_ | refine gI ?_)
        unfold vC
        (repeat first | refine gS ?_ | refine gA fun _ => ?_ | refine gX fun _ _ => ?_ | refine gT ?_ | refine gF ?_ | refine gI ?_)
        refine fd (a := C) (hp x hxm _ _ ?_)
        rw [List.singleton_append]
        have hq' := hq _ rfl
        rw [hstep _ rfl] at hq'
        cases hpx : p x with
        | true =>
          rw [hpx] at hq'
          simp only [if_true, List.append_nil] at hq'
          (repeat first | refine gS ?_ | refine gA fun _ => ?_ | refine gX fun _ _ => ?_ | refine gT ?_ | refine gF ?_ | refine gI ?_)
          exact E_same (by repeat (first | exact Same.refl | (refine Same.cons (by repeat (first | exact Find.here | apply Find.there)) ?_) | (refine Same.drop ?_))) hq'
        | false =>
          rw [hpx] at hq'
          simp only [Bool.false_eq_true, if_false, List.length_append, List.length_singleton] at hq'
          (repeat first | refine gS ?_ | refine gA fun _ => ?_ | refine gX fun _ _ => ?_ | refine gT ?_ | refine gF ?_ | refine gI ?_)
          refine E_find (a := sls vC 31 4 v c) (by repeat (first | exact Find.here | apply Find.there)) (E_sset x (by omega) rfl ?_)
          (repeat first | refine gS ?_ | refine gA fun _ => ?_ | refine gX fun _ _ => ?_ | refine gT ?_ | refine gF ?_ | refine gI ?_)
          have e : ((((l.take j).filter fun x => !p x).length + 1 : Nat) : Int) = (((l.take j).filter fun x => !p x).length : Int) + 1 := by omega
          rw [e] at hq'
          exact sm hq'
      · refine E_fa fun _ => ?_
        (repeat first | refine gS ?_ | refine gA fun _ => ?_ | refine gX fun _ _ => ?_ | refine gT ?_ | refine gF ?_ | refine gI ?_)
        have hk' := hk (j + 1, if y then c else c.set ((l.take j).filter fun x => !p x).length x) ⟨by simp only; omega, by simp only; omega, by simp only; split <;> simp [hcl], ?_, ?_⟩ (by simp only; omega)
        · exact hk'
        · simp only
          have hd : c.drop (j + 1) = l.drop (j + 1) := by
            rw [← List.drop_drop, ← List.drop_drop, hcd]
          split
          · exact hd
          · rw [List.drop_set_of_lt (by omega)]; exact hd
        · simp only
          rw [hstep y hy]
          cases y with
          | true => simpa using hct
          | false =>
            simp only [Bool.false_eq_true, if_false, List.length_append, List.length_singleton]
            rw [List.take_add_one, List.take_set_of_le (Nat.le_refl _), hct, List.getElem?_set_self (by omega)]
            rfl
    · have hje : j = l.length := by omega
      subst hje
      rw [List.take_length] at hct hlt ⊢
      refine fd (a := sls vC 31 4 v c) ?_
      refine ctail u_vers elt_ver (by simp [isCell]) (by omega) fun v' _ => ?_
      rw [hct]
      exact sm (h v')
theorem sortedNames {o : Bool} {r : Nat} {kv : List (List UInt8 × Value)} {H' : List Asrt} [ht : TakD H kL o r kv H'] (hn : kv.length ≤ 1048576)
    (h : ∀ sv zs [CellI sv], zs.Perm (kv.map (·.1)) → E B (sls cS 9 1 sv (sortS zs) :: dct kL o r kv :: H') (K sv)) :
    E B H (CF Tryz.prog 93 [.map (some r)] fun v9 => CF Tryz.prog 87 [v9] K) := by
  refine E_find ht.pf ?_
  refine E_mono (W := s93 _ _) ?_ fun _ => c93
  unfold s93
  (first | refine gS ?_ | refine gA fun _ => ?_ | refine gX fun _ _ => ?_ | refine gT ?_ | refine gF ?_ | refine gI ?_)
  rename_i mb
  refine E_mono (W := s87 _ _) ?_ fun _ => c87
  unfold s87
  refine E_mono (W := s117 _ _) ?_ fun _ => c117
  unfold s117
  refine E_mono (W := s142 _ _ _) ?_ fun _ => c142
  unfold s142
  (first | refine gS ?_ | refine gA fun _ => ?_ | refine gX fun _ _ => ?_ | refine gT ?_ | refine gF ?_ | refine gI ?_)
  rename_i sb
  refine E_rf (by kernel_rfl) fun l dl L hY => ?_
  refine E_mono (W := s126 _ _ _) ?_ fun _ => c126
  unfold s126
  (repeat first | refine gS ?_ | refine gA fun _ => ?_ | refine gX fun _ _ => ?_ | refine gT ?_ | refine gF ?_ | refine gI ?_)
  refine E_drange (κ := List UInt8) u_files fun it => ?_
  refine E_loop (σ := List (List UInt8 × Value) × Option (List UInt8 × Value) × List (List UInt8) × Value)
    (fun s => (s.2.2.1 ++ s.1.map (·.1)).Perm (kv.map (·.1)) ∧ isCell s.2.2.2 = true)
    (fun s => [.func (.yield l) #[] #[], .pointer (some ⟨it, 0, none⟩)])
    (fun s => dit kL o it r kv s.1 s.2.1 :: lpo l L .ready .nrm :: sls cS 9 1 s.2.2.2 s.2.2.1 :: cel true sb 94 [s.2.2.2] :: dfo dl :: cel true mb 78 [.map (some r)] :: H')
    (fun s => s.1.length) (kv, none, [], .slice none 0 0) (fun s => rfl) rfl ⟨by simp, rfl⟩ ?_ ?_
  · intro W hW
    refine sls_nil cS 1 (E_same (by repeat (first | exact Same.refl | (refine Same.cons (by repeat (first | exact Find.here | apply Find.there)) ?_) | (refine Same.drop ?_))) hW)
  · rintro ⟨rest, cur, zs, sv⟩ K ⟨hφ, hcl⟩ hk
    simp only at hφ hk hcl ⊢
    have : CellI sv := ⟨hcl⟩
    refine E_fa fun _ => ?_
    refine E_dnext (κ := List UInt8) (fun hr => ?_) (fun p rest' hp => ?_)
    · subst hr
      (repeat first | refine gS ?_ | refine gA fun _ => ?_ | refine gX fun _ _ => ?_ | refine gT ?_ | refine gF ?_ | refine gI ?_)
      refine fd (a := lpo l L .ready .nrm) (E_over (by simp) ?_)
      unfold aft
      (repeat first | refine gS ?_ | refine gA fun _ => ?_ | refine gX fun _ _ => ?_ | refine gT ?_ | refine gF ?_ | refine gI ?_)
      refine fd (a := dfo dl) (E_done1 ?_)
      refine fd (a := sls cS 9 1 sv zs) ?_
      have hz : zs.Perm (kv.map (·.1)) := by simpa using hφ
      have hl : zs.length = kv.length := by have := hz.length_eq; simpa using this
      refine E_sortS sortOkS (by omega) ?_
      refine fd (a := dit kL o it r kv [] none) (E_idone ?_)
      refine sm (h sv zs hz)
    · (repeat first | refine gS ?_ | refine gA fun _ => ?_ | refine gX fun _ _ => ?_ | refine gT ?_ | refine gF ?_ | refine gI ?_)
      refine E_dentry (κ := List UInt8) ?_
      (repeat first | refine gS ?_ | refine gA fun _ => ?_ | refine gX fun _ _ => ?_ | refine gT ?_ | refine gF ?_ | refine gI ?_)
      refine fd (a := lpo l L .ready .nrm) (hY _ _ _ rfl ?_)
      refine E_begun ?_
      (repeat first | refine gS ?_ | refine gA fun _ => ?_ | refine gX fun _ _ => ?_ | refine gT ?_ | refine gF ?_ | refine gI ?_)
      refine fd (a := sls cS 9 1 sv zs) ?_
      have hl : zs.length + rest.length = kv.length := by have := hφ.length_eq; simpa using this
      have hr : rest.length = rest'.length + 1 := by simpa using hp.length_eq
      refine E_sapp1 (enc := cS) p.1 u_strs elt_string rfl (by decide) (by omega) (by omega) fun v' _ => ?_
      (repeat first | refine gS ?_ | refine gA fun _ => ?_ | refine gX fun _ _ => ?_ | refine gT ?_ | refine gF ?_ | refine gI ?_)
      refine fd (a := lpo l L .busy .nrm) (E_ended ?_)
      refine E_notb ?_
      refine E_ff ?_
      show E _ _ (K _ _)
      have h1 := (hp.map (·.1)).append_left zs
      have hk' := hk (rest', some p, zs ++ [p.1], v') ⟨by simpa using h1.symm.trans hφ, CellI.pf⟩ (by simp [hr])
      simp only at hk'
      exact sm hk'
theorem sortS_sorted (l : List (List UInt8)) : (sortS l).Pairwise (· ≤ ·) := by
  have h : (sortS l).Pairwise fun x y => decide (x ≤ y) = true := by
    refine List.pairwise_mergeSort (fun a b c h1 h2 => ?_) (fun a b => ?_) l
    · simp only [decide_eq_true_eq] at *
      exact List.le_trans h1 h2
    · simp only [Bool.or_eq_true, decide_eq_true_eq]
      exact List.le_total a b
  exact h.imp fun h => by simpa using h
theorem sortS_eq {l s : List (List UInt8)} (hp : l.Perm s) (hs : s.Pairwise (· < ·)) : sortS l = s := by
  have h1 := sortS_sorted l
  have hpm : (sortS l).Perm s := (List.mergeSort_perm l _).trans hp
  refine List.Perm.eq_of_pairwise (le := fun a b => a ≤ b) (fun a b _ _ h h' => List.le_antisymm h h') h1 (hs.imp fun h => List.le_of_lt h) hpm
end Go.Proofs.YtjafpncngmbcdaaGreat.Nam
end
section
namespace Go.Proofs.YtjafpncngmbcdaaGreat.Nam
open Go Go.SL Go.Proofs Go.Proofs.YtjafpncngmbcdaaGreat.Sh
variable {B : World} {H : List Asrt} {K : Value → WT} {W : WT} {a : Nat} {M : Bk}
variable {Lv Lv' : List (Value × List VR)} {Lr Lr' : List (Value × List Rf)} {kf : List (List UInt8 × Value)} {V V' : List Ver} {k : List UInt8} {v : Value} {l : List VR}
theorem VOk.mono (h : VOk Lv Lr v l V) (hL : ∀ p ∈ Lv, p ∈ Lv') (hR : ∀ p ∈ Lr, p ∈ Lr') : VOk Lv' Lr' v l V := ⟨hL _ h.m, h.e, fun p hp => hR _ (h.r p hp)⟩
theorem fok_put (h : FOk Lv Lr kf V) (ho : ∀ k', k' ≠ k → fof V' k' = fof V k') (hv : VOk Lv' Lr' v l (fof V' k)) (hL : ∀ p ∈ Lv, p ∈ Lv') (hR : ∀ p ∈ Lr, p ∈ Lr') (hn : fof V' k ≠ []) : FOk Lv' Lr' (dput kf k v) V' := fun k' => by
  by_cases hk : k' = k
  · subst hk
    exact .inr ⟨v, l, by rw [show lk (dput kf k' v) k' = _ from dget_dput, if_pos rfl], hv, hn⟩
  · have e : lk (dput kf k v) k' = lk kf k' := by rw [show lk (dput kf k v) k' = _ from dget_dput, if_neg hk]
    rw [e, ho k' hk]
    rcases h k' with h | ⟨u, l', h1, h2, h3⟩
    · exact .inl h
    · exact .inr ⟨u, l', h1, h2.mono hL hR, h3⟩
theorem fok_del (h : FOk Lv Lr kf V) (ho : ∀ k', k' ≠ k → fof V' k' = fof V k') (hL : ∀ p ∈ Lv, p ∈ Lv') (hR : ∀ p ∈ Lr, p ∈ Lr') (hn : fof V' k = []) : FOk Lv' Lr' (ddel (dput kf k v) k) V' := fun k' => by
  by_cases hk : k' = k
  · subst hk
    exact .inl ⟨by rw [show lk (ddel (dput kf k' v) k') k' = _ from dget_ddel, if_pos rfl], hn⟩
  · have e : lk (ddel (dput kf k v) k) k' = lk kf k' := by rw [show lk (ddel (dput kf k v) k) k' = _ from dget_ddel, if_neg hk, dget_dput, if_neg hk]
    rw [e, ho k' hk]
    rcases h k' with h | ⟨u, l', h1, h2, h3⟩
    · exact .inl h
    · exact .inr ⟨u, l', h1, h2.mono hL hR, h3⟩
theorem lk_mem {kf : List (List UInt8 × Value)} {k : List UInt8} : k ∈ kf.map (·.1) ↔ lk kf k ≠ none := by
  have := lookup_none (kv := kf) (k := k)
  constructor
  · exact fun h he => this.1 he h
  · exact fun h => Classical.byContradiction fun hn => h (this.2 hn)
theorem fok_keys (h : FOk Lv Lr kf V) (hd : (kf.map (·.1)).Nodup) (hs : SrtN V) : (kf.map (·.1)).Perm (nms V) := by
  refine (List.perm_ext_iff_of_nodup hd ((nms_lt hs).imp fun h => slt_ne h)).2 fun k => ?_
  rw [lk_mem]
  rcases h k with ⟨h1, h2⟩ | ⟨u, l, h1, h2, h3⟩
  · rw [h1]
    constructor
    · exact fun h => (h rfl).elim
    · exact fun hk => (fof_some hk h2).elim
  · rw [h1]
    constructor
    · intro _
      exact Classical.byContradiction fun hn => h3 (fof_none hn)
    · intro _ he; cases he
theorem fok_get (h : FOk Lv Lr kf V) (k : List UInt8) : ∃ v l, (∀ (B : World) (H : List Asrt), Rs B (spool vC Lv :: H) v vC l) ∧ l.map (·.1) = fof V k ∧ (∀ p ∈ l, (p.2.1, p.1.refs) ∈ Lr) ∧ (lk kf k = some v ∨ (lk kf k = none ∧ v = nil)) := by
  rcases h k with ⟨h1, h2⟩ | ⟨u, l, h1, h2, h3⟩
  · exact ⟨nil, [], fun _ _ => ⟨fun _ => .inl ⟨rfl, rfl, rfl⟩⟩, h2.symm, (fun p hp => by cases hp), .inr ⟨h1, rfl⟩⟩
  · exact ⟨u, l, fun B H => rs_pool h2.m H, h2.e, h2.r, .inl h1⟩
theorem E_dlkg {r : Nat} {kf : List (List UInt8 × Value)} {k : List UInt8} {v : Value} {H' : List Asrt} [ht : TakD H kL true r kf H'] (hv : lk kf k = some v ∨ (lk kf k = none ∧ v = nil)) (h : E B (dct kL true r kf :: H') (K v)) : E B H (S.lk .string nil false (.map (some r)) (str k) K) := by
  rcases hv with hv | ⟨hv, rfl⟩
  · exact E_dlk1 (κ := List UInt8) hv h
  · exact E_dlk0 (κ := List UInt8) hv h
def swN (S : List Sn) (V : List Ver) (k : List UInt8) : List Ver := V.filter fun v => decide (v.name ≠ k) || keepP S v
theorem fof_swN (S : List Sn) (V : List Ver) (k k' : List UInt8) : fof (swN S V k) k' = if k' = k then (fof V k').filter (keepP S) else fof V k' := by
  unfold swN
  rw [fof_filter]
  split
  · rename_i h
    refine List.filter_congr fun v hv => ?_
    rw [(fof_mem.1 hv).2]; simp [h]
  · rename_i h
    refine List.filter_eq_self.2 fun v hv => ?_
    rw [(fof_mem.1 hv).2]; simp [h]
attribute [local irreducible] S.pick S.ld S.ldN S.st S.box S.nc S.fad S.ixS S.ixA S.chr S.prt S.ext S.bin S.sh S.sbin S.beq S.neg1 S.com1 S.not1 S.cvt S.str1 S.lenS S.len S.cap S.lenM S.mx S.mn S.mkM S.cond S.gd S.fa S.dr S.rck S.join S.loop S.cvv S.eqv S.slc S.slcS S.b2s S.lk V U CF Gives E cel mpb osl ros dct dit itr lpo dfo
set_option maxRecDepth 8000
attribute [local irreducible] bk
theorem order (hs : SrtN M.V) (hn : M.V.length ≤ 1000000) (h : ∀ v [CellI v], E B (sls cS 9 1 v (nms M.V) :: bk a M :: H) (K v)) : E B (bk a M :: H) (CF Tryz.prog 49 [ptr a] K) := by
  refine E_mono (W := s49 _ K) ?_ fun _ => c49
  unfold s49
  refine E_peq u_pBook ?_
  refine E_ff ?_
  refine E_bk fun r1 r2 kf ks Lv Lr Lh hf hs' => ?_
  refine fd (a := dct kL true r1 kf) (E_dnod fun hnod => ?_)
  have hperm := fok_keys hf hnod hs
  have hnl := nms_len M.V
  have hlen : kf.length ≤ 1000000 := by
    have h1 := hperm.length_eq
    simp at h1; omega
  (repeat first | refine gS ?_ | refine gA fun _ => ?_ | refine gX fun _ _ => ?_ | refine gT ?_ | refine gF ?_ | refine gI ?_)
  refine sortedNames (by omega) fun sv zs _ hz => ?_
  rw [sortS_eq (hz.trans hperm) (nms_lt hs)]
  refine sm (G := cel true a 81 [.map (some r1), .map (some r2), I M.now] :: dct kL true r1 kf :: dct kL true r2 ks :: spool vC Lv :: spool rfC Lr :: spool hC Lh :: sls cS 9 1 sv (nms M.V) :: H) ?_
  refine E_bkS r1 r2 hf hs' rfl ?_
  exact sm (h sv)
theorem sweep {k : List UInt8} (hS : SU M.S) (hl : ∀ s ∈ M.S, s.held.length ≤ 140737488355328) (hn : (fof M.V k).length ≤ 1000000)
    (h : E B (bk a { M with V := swN M.S M.V k } :: H) (K (.tuple #[]))) : E B (bk a M :: H) (CF Tryz.prog 58 [ptr a, str k] K) := by
  refine E_mono (W := s58 _ _ K) ?_ fun _ => c58
  unfold s58
  refine E_box (vs := [ptr a]) fun bm => ?_
  refine E_box (vs := [str k]) fun bn => ?_
  refine fd (a := bk a M) (E_bk fun r1 r2 kf ks Lv Lr Lh hf hs => ?_)
  obtain ⟨v, l, hrv, hle, hlr, hlk⟩ := fok_get hf k
  have i1 := hrv B
  have hll : l.length = (fof M.V k).length := by rw [← hle, List.length_map]
  (repeat first | refine gS ?_ | refine gA fun _ => ?_ | refine gX fun _ _ => ?_ | refine gT ?_ | refine gF ?_ | refine gI ?_)
  refine E_dlkg hlk ?_
  refine cloneV (v := v) (by omega) fun u _ => ?_
  refine fd (a := spool rfC Lr) (pool_dup ?_)
  refine sm (G := cel true a 81 [.map (some r1), .map (some r2), I M.now] :: dct kL true r1 kf :: dct kL true r2 ks :: spool vC Lv :: spool rfC Lr :: spool hC Lh :: cel true bn 9 [str k] :: cel true bm 23 [ptr a] :: sls vC 31 4 u l :: spool rfC Lr :: H) ?_
  refine E_bkS r1 r2 hf hs rfl ?_
  refine E_same (G := [bk a M, cel true bn 9 [str k], cel true bm 23 [ptr a]] ++ (sls vC 31 4 u l :: spool rfC Lr :: H)) (by repeat (first | exact Same.refl | (refine Same.cons (by repeat (first | exact Find.here | apply Find.there)) ?_) | (refine Same.drop ?_))) ?_
  refine E_all' ?_
  refine fd (a := sls vC 31 4 u l) ?_
  refine deleteFunc (p := fun p => !keepP M.S p.1) (by omega) (fun p hp H' K' hK => ?_) fun u' _ => ?_
  · refine E_cvv (by kernel_rfl) ?_
    show E B _ (CF Tryz.prog 99 [.agg (vC p).toArray, ptr bm, ptr bn] K')
    refine E_mono (W := s99 _ _ _ K') ?_ fun _ => c99
    unfold s99
    rw [List.singleton_append]
    refine E_all ?_
    show E B (bk a M :: cel true bn 9 [str k] :: cel true bm 23 [ptr a] :: H') _
    have hpn : p.1.name = k := by
      have : p.1 ∈ fof M.V k := by rw [← hle]; exact List.mem_map_of_mem hp
      exact (fof_mem.1 this).2
    have hfin : ∀ b : Bool, (!keepP M.S p.1) = b → E B (bk a M :: cel true bn 9 [str k] :: cel true bm 23 [ptr a] :: H') (K' (.bool b)) := fun b hb => by
      rw [← hb]
      rw [List.singleton_append] at hK
      have := E_all' hK
      exact E_same (by repeat (first | exact Same.refl | (refine Same.cons (by repeat (first | exact Find.here | apply Find.there)) ?_) | (refine Same.drop ?_))) this
    (repeat first | refine gS ?_ | refine gA fun _ => ?_ | refine gX fun _ _ => ?_ | refine gT ?_ | refine gF ?_ | refine gI ?_)
    cases hgo : p.1.gone with
    | false =>
      (repeat first | refine gS ?_ | refine gA fun _ => ?_ | refine gX fun _ _ => ?_ | refine gT ?_ | refine gF ?_ | refine gI ?_)
      exact sm (hfin false (by simp [keepP, hgo]))
    | true =>
      (repeat first | refine gS ?_ | refine gA fun _ => ?_ | refine gX fun _ _ => ?_ | refine gT ?_ | refine gF ?_ | refine gI ?_)
      refine E_build (l := [str k, I p.1.gen]) str_held ?_
      (repeat first | refine gS ?_ | refine gA fun _ => ?_ | refine gX fun _ _ => ?_ | refine gT ?_ | refine gF ?_ | refine gI ?_)
      refine fd (a := bk a M) (held hS hl ?_)
      refine E_gtf ?_
      refine E_notb ?_
      refine E_ptt ?_
      refine sm (hfin _ ?_)
      simp [keepP, hgo, hpn]
  have hfl : l.filter (fun p => !!keepP M.S p.1) = l.filter (fun p => keepP M.S p.1) := List.filter_congr fun p _ => by simp
  rw [hfl]
  have hmf : (l.filter (fun p => keepP M.S p.1)).map (·.1) = fof (swN M.S M.V k) k := by
    rw [fof_swN, if_pos rfl, ← hle, List.filter_map]; rfl
  have hlen' : (l.filter (fun p => keepP M.S p.1)).length = (fof (swN M.S M.V k) k).length := by rw [← hmf, List.length_map]
  have ho : ∀ k', k' ≠ k → fof (swN M.S M.V k) k' = fof M.V k' := fun k' hk' => by rw [fof_swN, if_neg hk']
  clear hf hs hlk i1 hrv
  refine fd (a := all [bk a M, cel true bn 9 [str k], cel true bm 23 [ptr a]]) (E_all ?_)
  show E B (bk a M :: cel true bn 9 [str k] :: cel true bm 23 [ptr a] :: sls vC 31 4 u' (l.filter (fun p => keepP M.S p.1)) :: spool rfC Lr :: H) _
  have hrf : ∀ p ∈ l.filter (fun p => keepP M.S p.1), (p.2.1, p.1.refs) ∈ Lr := fun p hp => hlr p (List.mem_filter.1 hp).1
  generalize l.filter (fun p => keepP M.S p.1) = l2 at hmf hlen' hrf ⊢
  rename List (Value × List Rf) => Lr0
  refine E_bk fun r1 r2 kf ks Lv Lr Lh hf hs => ?_
  (repeat first | refine gS ?_ | refine gA fun _ => ?_ | refine gX fun _ _ => ?_ | refine gT ?_ | refine gF ?_ | refine gI ?_)
  refine E_dmu (κ := List UInt8) key_files ?_
  (repeat first | refine gS ?_ | refine gA fun _ => ?_ | refine gX fun _ _ => ?_ | refine gT ?_ | refine gF ?_ | refine gI ?_)
  refine sm (G := spool rfC Lr0 :: spool rfC Lr :: sls vC 31 4 u' l2 :: spool vC Lv :: cel true a 81 [.map (some r1), .map (some r2), I M.now] :: dct kL true r1 (dput kf k u') :: dct kL true r2 ks :: spool hC Lh :: cel true bm 23 [ptr a] :: cel true bn 9 [str k] :: H) ?_
  refine pool_join ?_
  have hR : ∀ p ∈ Lr, p ∈ Lr0 ++ Lr := fun p hp => List.mem_append_right _ hp
  by_cases h0 : (l2.length : Int) = 0
  · (repeat first | refine gS ?_ | refine gA fun _ => ?_ | refine gX fun _ _ => ?_ | refine gT ?_ | refine gF ?_ | refine gI ?_)
    refine E_ddel (κ := List UInt8) rfl key_files ?_
    refine sm (G := cel true a 81 [.map (some r1), .map (some r2), I M.now] :: dct kL true r1 (ddel (dput kf k u') k) :: dct kL true r2 ks :: spool vC Lv :: spool rfC (Lr0 ++ Lr) :: spool hC Lh :: H) ?_
    refine E_bkS (M := { M with V := swN M.S M.V k }) r1 r2 (fok_del hf ho (fun _ h => h) hR (show fof (swN M.S M.V k) k = [] from List.length_eq_zero_iff.1 (by omega))) hs rfl ?_
    exact h
  · (repeat first | refine gS ?_ | refine gA fun _ => ?_ | refine gX fun _ _ => ?_ | refine gT ?_ | refine gF ?_ | refine gI ?_)
    refine fd (a := spool vC Lv) ?_
    refine fd (a := sls vC 31 4 u' l2) ?_
    refine E_give ?_
    refine sm (G := cel true a 81 [.map (some r1), .map (some r2), I M.now] :: dct kL true r1 (dput kf k u') :: dct kL true r2 ks :: spool vC ((u', l2) :: Lv) :: spool rfC (Lr0 ++ Lr) :: spool hC Lh :: H) ?_
    refine E_bkS (M := { M with V := swN M.S M.V k }) r1 r2 (fok_put hf ho ⟨by simp, hmf, fun p hp => List.mem_append_left _ (hrf p hp)⟩ (fun _ h => List.mem_cons_of_mem _ h) hR (by intro e; rw [e] at hlen'; simp at hlen'; rw [hlen'] at h0; simp at h0)) hs rfl ?_
    exact h
end Go.Proofs.YtjafpncngmbcdaaGreat.Nam
end
section
namespace Go.Proofs.YtjafpncngmbcdaaGreat.Nam
open Go Go.SL Go.Proofs Go.Proofs.YtjafpncngmbcdaaGreat.Sh
variable {B : World} {H : List Asrt} {K : Value → WT} {W : WT} {a : Nat} {M : Bk} {f : Fa} {rv hv mv : Value}
def firstE : List Int → Int
  | [] => 0
  | e :: l => if e ≠ 0 then e else firstE l
theorem firstE_drop : ∀ (l : List Int) (i : Nat), (∀ e ∈ l.take i, e = 0) → firstE l = firstE (l.drop i)
  | [], i, _ => by simp
  | e :: l, 0, _ => rfl
  | e :: l, i + 1, h => by
    have h0 : e = 0 := h e (by simp)
    rw [List.drop_succ_cons, ← firstE_drop l i fun x hx => h x (by rw [List.take_succ_cons]; exact List.mem_cons_of_mem _ hx)]
    unfold firstE
    rw [if_neg (by simp [h0])]
    cases l <;> rfl
theorem cmp_lt : ∀ (a b : List UInt8), (2 * Lib.compareBytes a b - 1 < 0 ↔ ¬ b < a) ∧ -1 ≤ Lib.compareBytes a b ∧ Lib.compareBytes a b ≤ 1
  | [], [] => by simp [Lib.compareBytes]
  | [], _ :: _ => by simp [Lib.compareBytes]
  | _ :: _, [] => by simp [Lib.compareBytes]
  | a :: aa, b :: bs => by
    have ih := cmp_lt aa bs
    unfold Lib.compareBytes
    by_cases h1 : a < b
    · rw [if_pos h1]
      refine ⟨⟨fun _ h => ?_, fun _ => by decide⟩, by decide, by decide⟩
      rcases List.cons_lt_cons_iff.1 h with h | ⟨h, _⟩
      · exact UInt8.lt_irrefl _ (UInt8.lt_trans h1 h)
      · subst h; exact UInt8.lt_irrefl _ h1
    · rw [if_neg h1]
      by_cases h2 : b < a
      · rw [if_pos h2]
        refine ⟨⟨fun h => by simp at h, fun h => (h (List.cons_lt_cons_iff.2 (.inl h2))).elim⟩, by decide, by decide⟩
      · rw [if_neg h2]
        have e : b = a := UInt8.le_antisymm (UInt8.not_lt.1 h1) (UInt8.not_lt.1 h2)
        refine ⟨?_, ih.2⟩
        rw [ih.1, List.cons_lt_cons_iff]
        simp [e, h2, UInt8.lt_irrefl]
theorem adj_pw : ∀ {l : List (List UInt8)}, (∀ j x y, l[j]? = some x → l[j + 1]? = some y → x < y) → l.Pairwise (· < ·)
  | [], _ => .nil
  | [x], _ => List.pairwise_singleton _ _
  | x :: y :: l, h => by
    have ih := adj_pw (l := y :: l) fun j u v hu hv => h (j + 1) u v (by simpa using hu) (by simpa using hv)
    have h0 := h 0 x y rfl rfl
    refine List.pairwise_cons.2 ⟨fun z hz => ?_, ih⟩
    rcases List.mem_cons.1 hz with rfl | hz
    · exact h0
    · exact slt_trans h0 ((List.pairwise_cons.1 ih).1 z hz)
theorem u_errs : Tryz.prog.underlying 160 = some (.slice 32) := by kernel_rfl
theorem elt_err : Elt Tryz.prog 32 1 8 [.int .i64 0] := elt_of (zv := .int .i64 0) (by kernel_rfl) rfl rfl
theorem E_dlkg2 {r : Nat} {kf : List (List UInt8 × Value)} {k : List UInt8} {v z : Value} {H' : List Asrt} [ht : TakD H kL true r kf H'] (hv : lk kf k = some v ∨ (lk kf k = none ∧ v = z)) (h : E B (dct kL true r kf :: H') (K (.tuple #[v, .bool (lk kf k).isSome]))) : E B H (S.lk .string z true (.map (some r)) (str k) K) := by
  rcases hv with hv | ⟨hv, rfl⟩
  · rw [hv] at h; exact E_dlk1 (κ := List UInt8) hv h
  · rw [hv] at h; exact E_dlk0 (κ := List UInt8) hv h
theorem sok_get {Lh : List (Value × List (List UInt8 × Int))} {ks : List (List UInt8 × Value)} {S : List Sn} (h : SOk Lh ks S) (k : List UInt8) :
    ∃ (s : Sn) (hv : Cv), (∀ (B : World) (H : List Asrt), Rs B (spool hC Lh :: H) hv.1 hC s.held) ∧ (lk ks k = some (shV s hv.1) ∨ (lk ks k = none ∧ shV s hv.1 = .agg #[.string ⟨#[]⟩, I 0, nil])) ∧ (lk ks k).isSome = (sof S k).isSome ∧ (∀ t, sof S k = some t → s = t) ∧ (sof S k = none → s.held = []) := by
  rcases h k with ⟨h1, h2⟩ | ⟨hv, s, h1, h2, h3⟩
  · exact ⟨⟨[], 0, []⟩, ⟨nil, rfl⟩, fun _ _ => ⟨fun _ => .inl ⟨rfl, rfl, rfl⟩⟩, .inr ⟨h1, rfl⟩, by rw [h1, h2]; rfl, (fun t ht => by rw [h2] at ht; cases ht), fun _ => rfl⟩
  · exact ⟨s, hv, fun B H => rs_pool h3 H, .inl h1, by rw [h1, h2]; rfl, (fun t ht => by rw [h2] at ht; exact Option.some.inj ht), fun hn => by rw [h2] at hn; cases hn⟩
attribute [local irreducible] S.pick S.ld S.ldN S.st S.box S.nc S.fad S.ixS S.ixA S.chr S.prt S.ext S.bin S.sh S.sbin S.beq S.neg1 S.com1 S.not1 S.cvt S.str1 S.lenS S.len S.cap S.lenM S.mx S.mn S.mkM S.cond S.gd S.fa S.dr S.rck S.join S.loop S.cvv S.eqv S.slc S.slcS S.b2s S.lk V U CF Gives E cel mpb osl ros dct dit itr lpo dfo
set_option maxRecDepth 8000
attribute [local irreducible] bk
theorem when {c : Bool} {e : Int} (h : E B H (K (I (bif c then e else 0)))) : E B H (CF Tryz.prog 80 [.bool c, I e] K) := by
  refine E_mono (W := s80 _ _ K) ?_ fun _ => c80
  unfold s80
  cases c with
  | true => exact E_tt h
  | false => exact E_ff h
theorem first {v : Value} {l : List Int} [hv : Rs B H v cI l] (hn : l.length ≤ 100) (h : E B H (K (I (firstE l)))) : E B H (CF Tryz.prog 79 [v] K) := by
  refine E_mono (W := s79 _ K) ?_ fun _ => c79
  unfold s79
  refine E_rslen (v := v) (l := l) ?_
  refine E_loop (n := 3) (σ := Nat) (fun i => i ≤ l.length ∧ ∀ e ∈ l.take i, e = 0) (fun i => [v, I l.length, I i]) (fun _ => H) (fun i => l.length - i) 0 (fun _ => rfl) rfl ⟨Nat.zero_le _, by simp⟩ (fun W hW => hW) ?_
  rintro i K0 ⟨hi, ha⟩ hk
  have hd := firstE_drop l i ha
  refine E_fa fun _ => ?_
  refine E_lss ?_
  refine E_if (fun hc => ?_) (fun hc => ?_)
  · have hx : l[i]? = some l[i] := List.getElem?_eq_getElem (by omega)
    have hdc := List.drop_eq_getElem_cons (show i < l.length by omega)
    generalize l[i] = x at hx hdc
    refine E_rsix (v := v) (l := l) hx fun _ _ => ?_
    refine E_ptld ?_
    refine E_neq ?_
    refine E_if (fun e => ?_) (fun e => ?_)
    · rw [hd, hdc] at h
      unfold firstE at h
      rw [if_pos e] at h
      exact h
    · refine E_addI (by omega) (by omega) ?_
      refine hk (i + 1) ⟨by omega, fun y hy => ?_⟩ (by omega)
      rw [List.take_add_one, hx] at hy
      rcases List.mem_append.1 hy with hy | hy
      · exact ha y hy
      · simp at hy; subst hy; exact Decidable.not_not.1 e
  · rw [hd, List.drop_eq_nil_of_le (by omega)] at h
    exact h
theorem rises {v : Value} {l : List (List UInt8 × Int)} [hv : Rs B H v hC l] (hn : l.length ≤ 140737488355328) (h : E B H (K (.bool (risesB l)))) : E B H (CF Tryz.prog 81 [v, .func (.func 82) #[] #[]] K) := by
  refine E_mono (W := s81 _ _ K) ?_ fun _ => c81
  unfold s81
  refine E_rslen (v := v) (l := l) ?_
  refine E_subI (by omega) (by omega) ?_
  refine E_loop (n := 3) (σ := Nat) (fun i => i ≤ l.length ∧ ∀ j x y, i ≤ j + 1 → l[j]? = some x → l[j + 1]? = some y → x.1 < y.1) (fun i => [v, .func (.func 82) #[] #[], I ((i : Int) - 1)]) (fun _ => H) (fun i => i) l.length (fun _ => rfl) rfl
    ⟨Nat.le_refl _, fun j x y hj _ hy => by rw [List.getElem?_eq_none (by omega)] at hy; cases hy⟩ (fun W hW => hW) ?_
  rintro i K0 ⟨hi, ha⟩ hk
  refine E_fa fun _ => ?_
  refine E_gtr ?_
  refine E_if (fun hc => ?_) (fun hc => ?_)
  · obtain ⟨j, rfl⟩ : ∃ j, i = j + 2 := ⟨i - 2, by omega⟩
    have hx : l[j]? = some l[j] := List.getElem?_eq_getElem (by omega)
    have hy : l[j + 1]? = some l[j + 1] := List.getElem?_eq_getElem (by omega)
    generalize l[j] = x at hx
    generalize l[j + 1] = y at hy
    rw [show ((j + 2 : Nat) : Int) - 1 = ((j + 1 : Nat) : Int) by omega]
    refine E_dr ?_
    refine E_rsix (v := v) (l := l) hy fun _ _ => ?_
    refine E_ptldA ?_
    refine E_subI (by omega) (by omega) ?_
    rw [show ((j + 1 : Nat) : Int) - 1 = ((j : Nat) : Int) by omega]
    refine E_rsix (v := v) (l := l) hx fun _ _ => ?_
    refine E_ptldA ?_
    refine E_cvv (by kernel_rfl) ?_
    show E B _ (CF Tryz.prog 82 [.agg (hC y).toArray, .agg (hC x).toArray] _)
    refine E_mono (W := s82 _ _ _) ?_ fun _ => c82
    unfold s82
    (repeat first | refine gS ?_ | refine gA fun _ => ?_ | refine gX fun _ _ => ?_ | refine gT ?_ | refine gF ?_ | refine gI ?_)
    obtain ⟨c1, c2, c3⟩ := cmp_lt y.1 x.1
    refine E_callSame (fun w => Tryz.strings_Compare ⟨y.1.toArray⟩ ⟨x.1.toArray⟩ w) ?_
    refine E_mulI (by show _ ≤ 2 * Lib.compareBytes y.1 x.1; omega) (by show 2 * Lib.compareBytes y.1 x.1 ≤ _; omega) ?_
    refine E_subI (by show _ ≤ 2 * Lib.compareBytes y.1 x.1 - 1; omega) (by show 2 * Lib.compareBytes y.1 x.1 - 1 ≤ _; omega) ?_
    refine E_lss ?_
    refine E_if (fun e => ?_) (fun e => ?_)
    · have hn' : risesB l = false := decide_eq_false fun hp => by
        have := List.pairwise_iff_getElem.1 hp j (j + 1) (by simp; omega) (by simp; omega) (by omega)
        simp only [List.getElem_map] at this
        obtain ⟨_, e1⟩ := List.getElem?_eq_some_iff.1 hx
        obtain ⟨_, e2⟩ := List.getElem?_eq_some_iff.1 hy
        rw [e1, e2] at this
        exact c1.1 e this
      rw [hn'] at h
      exact sm h
    · have hlt : x.1 < y.1 := Classical.byContradiction fun hn' => e (c1.2 hn')
      refine E_subI (by omega) (by omega) ?_
      refine sm (hk (j + 1) ⟨by omega, fun j' x' y' hj' hx' hy' => ?_⟩ (by omega))
      by_cases hjj : j' = j
      · subst hjj
        rw [hx] at hx'; rw [hy] at hy'
        cases hx'; cases hy'; exact hlt
      · exact ha j' x' y' (by omega) hx' hy'
  · have hy' : risesB l = true := decide_eq_true (adj_pw fun j x y hx hy => by
      rw [List.getElem?_map] at hx hy
      cases h1 : l[j]? with
      | none => rw [h1] at hx; cases hx
      | some p =>
        cases h2 : l[j + 1]? with
        | none => rw [h2] at hy; cases hy
        | some q =>
          rw [h1] at hx; rw [h2] at hy
          cases hx; cases hy
          exact ha j p q (by omega) h1 h2)
    rw [hy'] at h
    exact h
theorem notLive {b : Nat} {v : Value} {l : List (List UInt8 × Int)} [hv : Rs B H v hC l] (hl : l.length ≤ 140737488355328) (hn : ∀ k, (fof M.V k).length ≤ 140737488355328) (h : E B (bk a M :: cel true b 23 [ptr a] :: H) (K (.bool (l.any fun h => !liveB M.V h.1 h.2)))) :
    E B (bk a M :: cel true b 23 [ptr a] :: H) (CF Tryz.prog 84 [v, .func (.func 85) #[] #[ptr b]] K) := by
  refine E_mono (W := s84 _ _ K) ?_ fun _ => c84
  unfold s84
  refine E_mono (W := s45 _ _ _) ?_ fun _ => c45
  rw [s45_eq]
  refine idxC_ok (C := [bk a M, cel true b 23 [ptr a]]) (hv := show Rs B (bk a M :: cel true b 23 [ptr a] :: H) v hC l from inferInstance) (enc := hC) (p := fun h : List UInt8 × Int => !liveB M.V h.1 h.2) hl (fun m hm H' K' hK => ?_) ?_
  · refine E_cvv (by kernel_rfl) ?_
    show E B (bk a M :: cel true b 23 [ptr a] :: H') (CF Tryz.prog 85 [.agg (hC m).toArray, ptr b] K')
    refine E_mono (W := s85 _ _ K') ?_ fun _ => c85
    unfold s85
    (repeat first | refine gS ?_ | refine gA fun _ => ?_ | refine gX fun _ _ => ?_ | refine gT ?_ | refine gF ?_ | refine gI ?_)
    have hK2 : E B (bk a M :: cel true b 23 [ptr a] :: H') (K' (.bool (!liveB M.V m.1 m.2))) := hK
    refine fd (a := bk a M) (live (hn m.1) ?_)
    refine gY ?_
    exact sm hK2
  · show E B (bk a M :: cel true b 23 [ptr a] :: H) _
    refine E_geq ?_
    rw [idx_any]
    exact h
end Go.Proofs.YtjafpncngmbcdaaGreat.Nam
end
section
namespace Go.Proofs.YtjafpncngmbcdaaGreat.Nam
open Go Go.SL Go.Proofs Go.Proofs.YtjafpncngmbcdaaGreat.Sh
variable {B : World} {H : List Asrt} {K : Value → WT} {W : WT} {a : Nat} {M : Bk} {f : Fa} {rv hv mv : Value}
structure Inv (M : Bk) : Prop where
  ss : M.S.Pairwise fun a b => a.name < b.name
  v : SrtG M.V
  g : ∀ v ∈ M.V, 1 ≤ v.gen ∧ v.gen ≤ 9007199254740991
  t : ∀ v ∈ M.V, 0 ≤ v.time ∧ v.time ≤ 9007199254740991
  r : ∀ v ∈ M.V, v.refs.length ≤ 256
  rr : ∀ v ∈ M.V, ∀ r ∈ v.refs, rightB r = true
  nm : ∀ v ∈ M.V, nameOk v.name = true
  nl : (nms M.V).length ≤ 64
  fl : ∀ k, (fof M.V k).length ≤ 32
  s16 : M.S.length ≤ 16
  sn : ∀ s ∈ M.S, nameOk s.name = true
  hh : ∀ s ∈ M.S, s.held.length ≤ 64
  hs : ∀ s ∈ M.S, (s.held.map (·.1)).Pairwise (· < ·)
  se : ∀ s ∈ M.S, ∀ h ∈ s.held, ∃ v ∈ M.V, v.name = h.1 ∧ v.gen = h.2
  st : ∀ s ∈ M.S, 0 ≤ s.time ∧ s.time ≤ M.now
  vt : ∀ v ∈ M.V, v.time ≤ M.now
  sw : sweepV M.S M.V = M.V
  now : 0 ≤ M.now ∧ M.now ≤ 9007199254740991
theorem Inv.su (h : Inv M) : SU M.S := fun _ hs => sof_of h.ss hs
def sumL (l : List Nat) : Nat := l.foldr (· + ·) 0
theorem sumL_le {l : List Nat} {c : Nat} (h : ∀ x ∈ l, x ≤ c) : sumL l ≤ c * l.length := by
  induction l with
  | nil => simp [sumL]
  | cons x l ih =>
    have h1 := h x (by simp)
    have h2 := ih fun y hy => h y (List.mem_cons_of_mem _ hy)
    show x + sumL l ≤ c * (l.length + 1)
    rw [Nat.mul_add, Nat.mul_one]; omega
theorem V_len {V : List Ver} (h : SrtN V) (hn : (nms V).length ≤ 64) (hf : ∀ k, (fof V k).length ≤ 32) : V.length ≤ 2048 := by
  have e : V.length = sumL ((nms V).map fun k => (fof V k).length) := by
    conv => lhs; rw [V_flat h]
    generalize nms V = l
    induction l with
    | nil => rfl
    | cons k l ih => rw [List.flatMap_cons, List.length_append, ih]; rfl
  rw [e]
  have := sumL_le (l := (nms V).map fun k => (fof V k).length) (c := 32) (fun x hx => by obtain ⟨k, _, rfl⟩ := List.mem_map.1 hx; exact hf k)
  rw [List.length_map] at this
  omega
theorem Inv.n (h : Inv M) : M.V.length ≤ 2048 := V_len h.v.n h.nl h.fl
theorem sok_keys {Lh : List (Value × List (List UInt8 × Int))} {ks : List (List UInt8 × Value)} {S : List Sn} (h : SOk Lh ks S) (hd : (ks.map (·.1)).Nodup) (hs : S.Pairwise fun a b => a.name < b.name) : (ks.map (·.1)).Perm (S.map (·.name)) := by
  have hsn : (S.map (·.name)).Nodup := List.pairwise_map.2 (hs.imp fun h => slt_ne h)
  refine (List.perm_ext_iff_of_nodup hd hsn).2 fun k => ?_
  rw [lk_mem]
  rcases h k with ⟨h1, h2⟩ | ⟨hv, s, h1, h2, _⟩
  · rw [h1]
    constructor
    · exact fun h => (h rfl).elim
    · intro hk
      obtain ⟨s, hs', rfl⟩ := List.mem_map.1 hk
      rw [sof_of hs hs'] at h2; cases h2
  · rw [h1]
    constructor
    · intro _
      obtain ⟨h3, h4⟩ := sof_some h2
      exact List.mem_map.2 ⟨s, h3, h4⟩
    · intro _ he; cases he
theorem bif_if (c : Bool) (p : Prop) [Decidable p] (h : c = decide p) (e : Int) : (bif c then e else 0) = if p then e else 0 := by
  rw [h]; by_cases hp : p <;> simp [hp]
attribute [local irreducible] S.pick S.ld S.ldN S.st S.box S.nc S.fad S.ixS S.ixA S.chr S.prt S.ext S.bin S.sh S.sbin S.beq S.neg1 S.com1 S.not1 S.cvt S.str1 S.lenS S.len S.cap S.lenM S.mx S.mn S.mkM S.cond S.gd S.fa S.dr S.rck S.join S.loop S.cvv S.eqv S.slc S.slcS S.b2s S.lk V U CF Gives E cel mpb osl ros dct dit itr lpo dfo
set_option maxRecDepth 8000
attribute [local irreducible] bk
theorem check [CellI rv] [CellI hv] [CellI mv] [hr1 : Rs B H rv rfC f.refs] [hr2 : Rs B H hv hC f.held] [hr3 : Rs B H mv mvC f.moves] (ho : FaOk f) (hw : Inv M) (h : E B (bk a M :: H) (K (I (checkB M f)))) : E B (bk a M :: H) (CF Tryz.prog 35 [ptr a, .agg (faL f rv hv mv).toArray] K) := by
  have hfl : ∀ k, (fof M.V k).length ≤ 140737488355328 := fun k => Nat.le_trans (hw.fl k) (by decide)
  have fin : ∀ e : Int, checkB M f = e → E B (bk a M :: H) (K (I e)) := fun e he => he ▸ h
  unfold checkB at fin
  refine E_mono (W := s35 _ _ K) ?_ fun _ => c35
  unfold s35
  refine E_box (vs := [ptr a]) fun b2 => ?_
  refine E_box (vs := faL f rv hv mv) fun b3 => ?_
  (repeat first | refine gS ?_ | refine gA fun _ => ?_ | refine gX fun _ _ => ?_ | refine gT ?_ | refine gF ?_ | refine gI ?_)
  refine E_peq u_pBook ?_
  (repeat first | refine gS ?_ | refine gA fun _ => ?_ | refine gX fun _ _ => ?_ | refine gT ?_ | refine gF ?_ | refine gI ?_)
  refine recCheck ho ?_
  (repeat first | refine gS ?_ | refine gA fun _ => ?_ | refine gX fun _ _ => ?_ | refine gT ?_ | refine gF ?_ | refine gI ?_)
  refine E_if (fun hc => ?_) (fun hc => ?_)
  · exact sm (fin _ (if_pos hc))
  rw [if_neg (by simpa using hc)] at fin
  refine fd (a := bk a M) (E_bk fun r1 r2 kf ks Lv Lr Lh hf hs => ?_)
  obtain ⟨s0, hv0, hrh, hlk, hsi, _, _⟩ := sok_get hs f.name
  (repeat first | refine gS ?_ | refine gA fun _ => ?_ | refine gX fun _ _ => ?_ | refine gT ?_ | refine gF ?_ | refine gI ?_)
  refine E_dlkg2 hlk ?_
  (repeat first | refine gS ?_ | refine gA fun _ => ?_ | refine gX fun _ _ => ?_ | refine gT ?_ | refine gF ?_ | refine gI ?_)
  rename_i b6
  refine E_rck1 (E_dlkg2 hlk (E_fact rfl)) ?_
  (repeat (refine E_rck1 (by first | exact E_ld (E_fact rfl) | exact E_ld' (by assumption) (E_fact rfl) | exact E_b2sR (E_fact rfl) | exact E_gdnF (by assumption) (E_ld (E_fact rfl)) | exact E_gdT (by assumption) (E_ld (E_fact rfl)) | exact E_gtf (E_ld (E_fact rfl)) | exact E_gft (E_ld (E_fact rfl)) | exact E_ldNA (E_fact rfl) | exact E_ptld (E_fact rfl) | exact E_gtf (E_ldNA (E_fact rfl))) ?_)); (first | (refine E_rck0 ?_) | skip)
  refine E_stW (vs := [str s0.name, I s0.time, hv0.1]) rfl rfl ?_
  (repeat first | refine gS ?_ | refine gA fun _ => ?_ | refine gX fun _ _ => ?_ | refine gT ?_ | refine gF ?_ | refine gI ?_)
  rw [hsi]
  refine sm (G := cel true a 81 [.map (some r1), .map (some r2), I M.now] :: dct kL true r1 kf :: dct kL true r2 ks :: spool vC Lv :: spool rfC Lr :: spool hC Lh :: cel true b2 23 [ptr a] :: cel true b3 60 (faL f rv hv mv) :: H) ?_
  by_cases h8 : f.k = 8
  · rw [if_pos h8] at fin
    (repeat first | refine gS ?_ | refine gA fun _ => ?_ | refine gX fun _ _ => ?_ | refine gT ?_ | refine gF ?_ | refine gI ?_)
    refine when ?_
    refine E_bsl [(0, 1)] u_errs elt_err (by simp) (by decide) (l0 := [I 0]) rfl fun bx => ?_
    refine E_slsC (enc := cI) [bif decide (f.time < M.now) then 2 else 0] 1 rfl rfl ?_
    refine first (l := [bif decide (f.time < M.now) then 2 else 0]) (by simp) ?_
    refine sm (G := cel true a 81 [.map (some r1), .map (some r2), I M.now] :: dct kL true r1 kf :: dct kL true r2 ks :: spool vC Lv :: spool rfC Lr :: spool hC Lh :: H) ?_
    refine E_bkS r1 r2 hf hs rfl (fin _ ?_)
    by_cases g : f.time < M.now <;> simp [firstE, g]
  rw [if_neg h8] at fin
  by_cases h3 : f.k = 3
  · rw [if_pos h3] at fin
    obtain ⟨v, l, hrv, hle, hlr, hlkf⟩ := fok_get hf f.name
    have hll : l.length = (fof M.V f.name).length := by rw [← hle, List.length_map]
    have hsome : (lk kf f.name).isSome = decide (fof M.V f.name ≠ []) := by
      rcases hf f.name with ⟨e1, e2⟩ | ⟨u, l', e1, _, e2⟩
      · rw [e1, e2]; rfl
      · rw [e1, decide_eq_true e2]; rfl
    (repeat first | refine gS ?_ | refine gA fun _ => ?_ | refine gX fun _ _ => ?_ | refine gT ?_ | refine gF ?_ | refine gI ?_)
    refine E_dlkg2 hlkf ?_
    (repeat first | refine gS ?_ | refine gA fun _ => ?_ | refine gX fun _ _ => ?_ | refine gT ?_ | refine gF ?_ | refine gI ?_)
    rw [hsome]
    refine gY ?_
    refine when ?_
    (repeat (refine E_rck1 (by first | exact E_ld (E_fact rfl) | exact E_ld' (by assumption) (E_fact rfl) | exact E_b2sR (E_fact rfl) | exact E_gdnF (by assumption) (E_ld (E_fact rfl)) | exact E_gdT (by assumption) (E_ld (E_fact rfl)) | exact E_gtf (E_ld (E_fact rfl)) | exact E_gft (E_ld (E_fact rfl)) | exact E_ldNA (E_fact rfl) | exact E_ptld (E_fact rfl) | exact E_gtf (E_ldNA (E_fact rfl))) ?_)); (first | (refine E_rck0 ?_) | skip)
    refine fd (a := spool vC Lv) (pool_dup ?_)
    refine sm (G := cel true a 81 [.map (some r1), .map (some r2), I M.now] :: dct kL true r1 kf :: dct kL true r2 ks :: spool vC Lv :: spool rfC Lr :: spool hC Lh :: spool vC Lv :: cel true b2 23 [ptr a] :: cel true b3 60 (faL f rv hv mv) :: H) ?_
    refine E_bkS r1 r2 hf hs rfl ?_
    refine next (hfl _) (fun v hv => ⟨(hw.g v hv).2, (hw.g v hv).1⟩) ?_
    (repeat (refine E_rck1 (by first | exact E_ld (E_fact rfl) | exact E_ld' (by assumption) (E_fact rfl) | exact E_b2sR (E_fact rfl) | exact E_gdnF (by assumption) (E_ld (E_fact rfl)) | exact E_gdT (by assumption) (E_ld (E_fact rfl)) | exact E_gtf (E_ld (E_fact rfl)) | exact E_gft (E_ld (E_fact rfl)) | exact E_ldNA (E_fact rfl) | exact E_ptld (E_fact rfl) | exact E_gtf (E_ldNA (E_fact rfl))) ?_)); (first | (refine E_rck0 ?_) | skip)
    (repeat first | refine gS ?_ | refine gA fun _ => ?_ | refine gX fun _ _ => ?_ | refine gT ?_ | refine gF ?_ | refine gI ?_)
    refine when ?_
    have iv : ∀ H', Rs B (spool vC Lv :: H') v vC l := hrv B
    have last : ∀ {G : List Asrt} (c : Bool), c = decide ((fof M.V f.name = [] ∧ (nms M.V).length = 64) ∨ (fof M.V f.name).length = 32) → [Sam (bk a M :: H) G] → E B G (CF Tryz.prog 80 [.bool c, I 6] fun v85 => V Tryz.prog (Instr.buildSlice 160 3 #[(0, I (bif decide (M.now < f.time) then 2 else 0)), (1, I (bif decide (f.gen < nextG M.V f.name) then 10 else 0)), (2, v85)]) fun v86 => CF Tryz.prog 79 [v86] fun v87 => K v87) := fun c hc _ => by
      refine sm (G := bk a M :: H) ?_
      refine when ?_
      refine E_bsl [(0, 1), (1, 1), (2, 1)] u_errs elt_err (by simp) (by decide) (l0 := [I 0, I 0, I 0]) rfl fun bx => ?_
      refine E_slsC (enc := cI) [bif decide (M.now < f.time) then 2 else 0, bif decide (f.gen < nextG M.V f.name) then 10 else 0, bif c then 6 else 0] 3 rfl rfl ?_
      refine first (l := [bif decide (M.now < f.time) then 2 else 0, bif decide (f.gen < nextG M.V f.name) then 10 else 0, bif c then 6 else 0]) (by simp) ?_
      refine sm (fin _ ?_)
      rw [bif_if _ _ hc]
      by_cases g1 : M.now < f.time
      · simp [firstE, g1]
      · by_cases g2 : f.gen < nextG M.V f.name
        · simp [firstE, g1, g2]
        · by_cases g3 : (fof M.V f.name = [] ∧ (nms M.V).length = 64) ∨ (fof M.V f.name).length = 32
          · rw [if_pos g3]; simp [firstE, g1, g2, g3]
          · rw [if_neg g3]; simp [firstE, g1, g2, g3]
    by_cases he : fof M.V f.name = []
    · rw [decide_eq_false (by simpa using he), Bool.not_false]
      have hl0 : l = [] := List.length_eq_zero_iff.1 (by rw [hll, he]; rfl)
      (repeat first | refine gS ?_ | refine gA fun _ => ?_ | refine gX fun _ _ => ?_ | refine gT ?_ | refine gF ?_ | refine gI ?_)
      refine fd (a := bk a M) (E_bk fun r1 r2 kf ks Lv' Lr Lh hf hs => ?_)
      refine fd (a := dct kL true r1 kf) (E_dnod fun hnod => ?_)
      have hkl : kf.length = (nms M.V).length := by have := (fok_keys hf hnod hw.v.n).length_eq; simpa using this
      (repeat first | refine gS ?_ | refine gA fun _ => ?_ | refine gX fun _ _ => ?_ | refine gT ?_ | refine gF ?_ | refine gI ?_)
      refine E_dlen (κ := List UInt8) ?_
      (repeat first | refine gS ?_ | refine gA fun _ => ?_ | refine gX fun _ _ => ?_ | refine gT ?_ | refine gF ?_ | refine gI ?_)
      rw [hkl]
      refine sm (G := cel true a 81 [.map (some r1), .map (some r2), I M.now] :: dct kL true r1 kf :: dct kL true r2 ks :: spool vC Lv' :: spool rfC Lr :: spool hC Lh :: spool vC Lv :: cel true b2 23 [ptr a] :: cel true b3 60 (faL f rv hv mv) :: H) ?_
      refine E_bkS r1 r2 hf hs rfl ?_
      by_cases h64 : ((nms M.V).length : Int) = 64
      · (repeat first | refine gS ?_ | refine gA fun _ => ?_ | refine gX fun _ _ => ?_ | refine gT ?_ | refine gF ?_ | refine gI ?_)
        exact last true (decide_eq_true (.inl ⟨he, by omega⟩)).symm
      · (repeat first | refine gS ?_ | refine gA fun _ => ?_ | refine gX fun _ _ => ?_ | refine gT ?_ | refine gF ?_ | refine gI ?_)
        exact last _ (by rw [hl0, he, decide_eq_decide]; simp; omega)
    · rw [decide_eq_true he, Bool.not_true]
      (repeat first | refine gS ?_ | refine gA fun _ => ?_ | refine gX fun _ _ => ?_ | refine gT ?_ | refine gF ?_ | refine gI ?_)
      exact last _ (by rw [hll, decide_eq_decide]; constructor; intro h; exact .inr (by omega); intro h; rcases h with h | h; exact (he h.1).elim; omega)
  rw [if_neg h3] at fin
  by_cases h4 : f.k = 4
  · rw [if_pos h4] at fin
    (repeat first | refine gS ?_ | refine gA fun _ => ?_ | refine gX fun _ _ => ?_ | refine gT ?_ | refine gF ?_ | refine gI ?_)
    refine E_build (l := [str f.name, I f.gen]) str_held ?_
    refine E_bkS r1 r2 hf hs rfl ?_
    refine live (hfl _) ?_
    refine gY ?_
    refine when ?_
    refine E_bsl [(0, 1)] u_errs elt_err (by simp) (by decide) (l0 := [I 0]) rfl fun bx => ?_
    refine E_slsC (enc := cI) [bif !liveB M.V f.name f.gen then 9 else 0] 1 rfl rfl ?_
    refine first (l := [bif !liveB M.V f.name f.gen then 9 else 0]) (by simp) ?_
    refine sm (fin _ ?_)
    cases liveB M.V f.name f.gen <;> simp [firstE]
  rw [if_neg h4] at fin
  by_cases h5 : f.k = 5
  · rw [if_pos h5] at fin
    refine fd (a := dct kL true r2 ks) (E_dnod fun hnod => ?_)
    have hkl : ks.length = M.S.length := by have := (sok_keys hs hnod hw.ss).length_eq; simpa using this
    (repeat first | refine gS ?_ | refine gA fun _ => ?_ | refine gX fun _ _ => ?_ | refine gT ?_ | refine gF ?_ | refine gI ?_)
    refine rises (l := f.held) ho.hd ?_
    (repeat first | refine gS ?_ | refine gA fun _ => ?_ | refine gX fun _ _ => ?_ | refine gT ?_ | refine gF ?_ | refine gI ?_)
    refine gY ?_
    refine when ?_
    (repeat (refine E_rck1 (by first | exact E_ld (E_fact rfl) | exact E_ld' (by assumption) (E_fact rfl) | exact E_b2sR (E_fact rfl) | exact E_gdnF (by assumption) (E_ld (E_fact rfl)) | exact E_gdT (by assumption) (E_ld (E_fact rfl)) | exact E_gtf (E_ld (E_fact rfl)) | exact E_gft (E_ld (E_fact rfl)) | exact E_ldNA (E_fact rfl) | exact E_ptld (E_fact rfl) | exact E_gtf (E_ldNA (E_fact rfl))) ?_)); (first | (refine E_rck0 ?_) | skip)
    refine when ?_
    (repeat (refine E_rck1 (by first | exact E_ld (E_fact rfl) | exact E_ld' (by assumption) (E_fact rfl) | exact E_b2sR (E_fact rfl) | exact E_gdnF (by assumption) (E_ld (E_fact rfl)) | exact E_gdT (by assumption) (E_ld (E_fact rfl)) | exact E_gtf (E_ld (E_fact rfl)) | exact E_gft (E_ld (E_fact rfl)) | exact E_ldNA (E_fact rfl) | exact E_ptld (E_fact rfl) | exact E_gtf (E_ldNA (E_fact rfl))) ?_)); (first | (refine E_rck0 ?_) | skip)
    refine E_dlen (κ := List UInt8) ?_
    (repeat first | refine gS ?_ | refine gA fun _ => ?_ | refine gX fun _ _ => ?_ | refine gT ?_ | refine gF ?_ | refine gI ?_)
    rw [hkl]
    refine when ?_
    (repeat (refine E_rck1 (by first | exact E_ld (E_fact rfl) | exact E_ld' (by assumption) (E_fact rfl) | exact E_b2sR (E_fact rfl) | exact E_gdnF (by assumption) (E_ld (E_fact rfl)) | exact E_gdT (by assumption) (E_ld (E_fact rfl)) | exact E_gtf (E_ld (E_fact rfl)) | exact E_gft (E_ld (E_fact rfl)) | exact E_ldNA (E_fact rfl) | exact E_ptld (E_fact rfl) | exact E_gtf (E_ldNA (E_fact rfl))) ?_)); (first | (refine E_rck0 ?_) | skip)
    refine sm (G := cel true a 81 [.map (some r1), .map (some r2), I M.now] :: dct kL true r1 kf :: dct kL true r2 ks :: spool vC Lv :: spool rfC Lr :: spool hC Lh :: cel true b2 23 [ptr a] :: cel true b3 60 (faL f rv hv mv) :: H) ?_
    refine E_bkS r1 r2 hf hs rfl ?_
    refine notLive (l := f.held) ho.hd hfl ?_
    refine when ?_
    refine when ?_
    refine E_bsl [(0, 1), (1, 1), (2, 1), (3, 1), (4, 1)] u_errs elt_err (by simp) (by decide) (l0 := [I 0, I 0, I 0, I 0, I 0]) rfl fun bx => ?_
    refine E_slsC (enc := cI) [bif decide (M.now < f.time) then 2 else 0, bif (sof M.S f.name).isSome then 10 else 0, bif decide ((M.S.length : Int) = 16) then 6 else 0, bif f.held.any (fun h => !liveB M.V h.1 h.2) then 9 else 0, bif !risesB f.held then 4 else 0] 5 rfl rfl ?_
    refine first (l := [bif decide (M.now < f.time) then 2 else 0, bif (sof M.S f.name).isSome then 10 else 0, bif decide ((M.S.length : Int) = 16) then 6 else 0, bif f.held.any (fun h => !liveB M.V h.1 h.2) then 9 else 0, bif !risesB f.held then 4 else 0]) (by simp) ?_
    refine sm (fin _ ?_)
    by_cases g1 : M.now < f.time
    · simp [firstE, g1]
    rw [if_neg g1]
    cases g2 : (sof M.S f.name).isSome with
    | true => simp [firstE, g1]
    | false =>
      by_cases g3 : M.S.length = 16
      · simp [firstE, g1, g3]
      · have g3' : ¬ (M.S.length : Int) = 16 := by omega
        cases g4 : f.held.any (fun h => !liveB M.V h.1 h.2) with
        | true => simp [firstE, g1, g3, g3']
        | false =>
          cases g5 : risesB f.held <;> simp [firstE, g1, g3, g3']
  rw [if_neg h5] at fin
  by_cases h6 : f.k = 6
  · rw [if_pos h6] at fin
    (repeat first | refine gS ?_ | refine gA fun _ => ?_ | refine gX fun _ _ => ?_ | refine gT ?_ | refine gF ?_ | refine gI ?_)
    refine gY ?_
    refine when ?_
    refine E_bsl [(0, 1)] u_errs elt_err (by simp) (by decide) (l0 := [I 0]) rfl fun bx => ?_
    refine E_slsC (enc := cI) [bif !(sof M.S f.name).isSome then 9 else 0] 1 rfl rfl ?_
    refine first (l := [bif !(sof M.S f.name).isSome then 9 else 0]) (by simp) ?_
    refine sm (G := cel true a 81 [.map (some r1), .map (some r2), I M.now] :: dct kL true r1 kf :: dct kL true r2 ks :: spool vC Lv :: spool rfC Lr :: spool hC Lh :: H) ?_
    refine E_bkS r1 r2 hf hs rfl (fin _ ?_)
    cases (sof M.S f.name).isSome <;> simp [firstE]
  rw [if_neg h6] at fin
  (repeat first | refine gS ?_ | refine gA fun _ => ?_ | refine gX fun _ _ => ?_ | refine gT ?_ | refine gF ?_ | refine gI ?_)
  refine sm (G := cel true a 81 [.map (some r1), .map (some r2), I M.now] :: dct kL true r1 kf :: dct kL true r2 ks :: spool vC Lv :: spool rfC Lr :: spool hC Lh :: H) ?_
  exact E_bkS r1 r2 hf hs rfl (fin 0 rfl)
end Go.Proofs.YtjafpncngmbcdaaGreat.Nam
end
section
namespace Go.Proofs.YtjafpncngmbcdaaGreat.Nam
open Go Go.SL Go.Proofs Go.Proofs.YtjafpncngmbcdaaGreat.Sh
variable {B : World} {H : List Asrt} {K : Value → WT} {W : WT} {a : Nat} {M : Bk} {f : Fa}
def cmpTo (l : List Int) : Nat → List Int
  | 0 => []
  | j + 1 => if j = 0 ∨ l.getD j 0 ≠ l.getD (j - 1) 0 then cmpTo l j ++ [l.getD j 0] else cmpTo l j
def compactL (l : List Int) : List Int := cmpTo l l.length
theorem cmpTo_length (l : List Int) (j : Nat) : (cmpTo l j).length ≤ j := by
  induction j with
  | zero => simp [cmpTo]
  | succ j ih => unfold cmpTo; split <;> (try simp) <;> omega
theorem cmpTo_id {l : List Int} {j : Nat} (hj : j ≤ l.length) (h : ∀ i, 1 ≤ i → i < j → l.getD i 0 ≠ l.getD (i - 1) 0) : cmpTo l j = l.take j := by
  induction j with
  | zero => simp [cmpTo]
  | succ j ih =>
    unfold cmpTo
    have hlt : j < l.length := by omega
    rw [if_pos (by by_cases h0 : j = 0; · exact .inl h0
                   · exact .inr (h j (by omega) (by omega))), ih (by omega) fun i h1 h2 => h i h1 (by omega), List.take_add_one, List.getD_eq_getElem?_getD, List.getElem?_eq_getElem hlt]
    rfl
theorem getD_mem {l : List Int} {i : Nat} (h : i < l.length) : l.getD i 0 ∈ l := by
  rw [List.getD_eq_getElem?_getD, List.getElem?_eq_getElem h]; exact List.getElem_mem h
theorem take_last {l : List Int} {j : Nat} (h : j < l.length) : l.take (j + 1) = l.take j ++ [l.getD j 0] := by
  rw [List.take_add_one, List.getD_eq_getElem?_getD, List.getElem?_eq_getElem h]; rfl
theorem cmpTo_sorted {l : List Int} (hs : l.Pairwise (· ≤ ·)) : ∀ j, j ≤ l.length → (cmpTo l j).Pairwise (· < ·) ∧ (∀ x, x ∈ cmpTo l j ↔ x ∈ l.take j)
  | 0, _ => by simp [cmpTo]
  | j + 1, hj => by
    obtain ⟨h1, h2⟩ := cmpTo_sorted hs j (by omega)
    have hlt : j < l.length := by omega
    have hle : ∀ x ∈ l.take j, x ≤ l.getD j 0 := by
      have := hs.sublist (List.take_sublist (j + 1) l)
      rw [take_last hlt] at this
      exact fun x hx => (List.pairwise_append.1 this).2.2 x hx _ (by simp)
    unfold cmpTo
    split
    · rename_i hc
      refine ⟨List.pairwise_append.2 ⟨h1, List.pairwise_singleton .., fun x hx y hy => ?_⟩, fun x => ?_⟩
      · rw [List.mem_singleton] at hy; subst hy
        have hxj := (h2 x).1 hx
        have h3 := hle x hxj
        rcases hc with rfl | hc
        · simp at hxj
        · obtain ⟨i, hi, rfl⟩ := List.mem_iff_getElem.1 hxj
          have hi' : i < j := by simp at hi; omega
          have h4 : (l.take j)[i] ≤ l.getD (j - 1) 0 := by
            have hp : (l.take j).Pairwise (· ≤ ·) := hs.sublist (List.take_sublist ..)
            have e : l.getD (j - 1) 0 = (l.take j)[j - 1]'(by simp; omega) := by
              rw [List.getD_eq_getElem?_getD, List.getElem?_eq_getElem (by omega)]; simp
            rw [e]
            by_cases hij : i = j - 1
            · subst hij; exact Int.le_refl _
            · exact List.pairwise_iff_getElem.1 hp i (j - 1) hi (by simp; omega) (by omega)
          have h5 : l.getD (j - 1) 0 ≤ l.getD j 0 := hle _ (by
            have : l.getD (j - 1) 0 = (l.take j).getD (j - 1) 0 := by
              rw [List.getD_eq_getElem?_getD, List.getD_eq_getElem?_getD, List.getElem?_take_of_lt (by omega)]
            rw [this]
            exact getD_mem (by simp; omega))
          omega
      · rw [take_last hlt, List.mem_append, List.mem_append, h2]
    · rename_i hc
      refine ⟨h1, fun x => ?_⟩
      rw [h2, take_last hlt, List.mem_append, List.mem_singleton]
      constructor
      · exact .inl
      · rintro (h | h)
        · exact h
        · subst h
          have hj0 : j ≠ 0 := fun h0 => hc (.inl h0)
          have he : l.getD j 0 = l.getD (j - 1) 0 := by
            by_cases he : l.getD j 0 = l.getD (j - 1) 0
            · exact he
            · exact absurd (.inr he) hc
          rw [he]
          have : l.getD (j - 1) 0 = (l.take j).getD (j - 1) 0 := by
            rw [List.getD_eq_getElem?_getD, List.getD_eq_getElem?_getD, List.getElem?_take_of_lt (by omega)]
          rw [this]
          exact getD_mem (by simp; omega)
theorem compact_sorted {l : List Int} (hs : l.Pairwise (· ≤ ·)) : (compactL l).Pairwise (· < ·) ∧ ∀ x, x ∈ compactL l ↔ x ∈ l := by
  have := cmpTo_sorted hs l.length (Nat.le_refl _)
  rw [List.take_length] at this
  exact this
theorem ints_at {m : List Int} {sp : List Value} {i j : Nat} (h : i < m.length) (hj : j = i := by omega) : (ints m ++ sp)[j]? = some (I (m.getD i 0)) := by
  subst hj
  rw [List.getElem?_append_left (by simpa using h)]
  simp [ints, h]
theorem ints_set {m : List Int} {sp : List Value} {i j : Nat} {x : Int} (h : i < m.length) (hj : j = i := by omega) : (ints m ++ sp).set j (I x) = ints (m.set i x) ++ sp := by
  subst hj
  rw [List.set_append_left _ _ (by simpa using h)]
  simp [ints, List.map_set]
theorem addN_fold : ∀ (xs l : List Int), l.Nodup → (xs.foldl addN l).Nodup ∧ ∀ x, x ∈ xs.foldl addN l ↔ x ∈ l ∨ x ∈ xs
  | [], l, h => ⟨h, fun x => by simp⟩
  | y :: xs, l, h => by
    have hn : (addN l y).Nodup ∧ ∀ x, x ∈ addN l y ↔ x ∈ l ∨ x = y := by
      unfold addN
      split
      · rename_i hy
        exact ⟨h, fun x => ⟨.inl, fun hx => hx.elim id fun e => e ▸ hy⟩⟩
      · rename_i hy
        refine ⟨List.nodup_append.2 ⟨h, List.pairwise_singleton _ _, fun a ha b hb => ?_⟩, fun x => by simp⟩
        simp at hb; subst hb
        exact fun e => hy (e ▸ ha)
    obtain ⟨h1, h2⟩ := addN_fold xs (addN l y) hn.1
    refine ⟨h1, fun x => ?_⟩
    rw [List.foldl_cons, h2, hn.2, List.mem_cons, or_assoc]
theorem span_law {D G : List Int} {m c : Int} (hD : D.Pairwise (· < ·)) (hm : m ∈ D) (hG : G.Nodup) (hGm : ∀ x, x ∈ G ↔ x ∈ D ∧ m < x) (hc : 0 ≤ c) : m ∈ D.drop (max 0 ((D.length : Int) - c)).toNat ↔ (G.length : Int) < c := by
  obtain ⟨i, hi, hmi⟩ := List.getElem_of_mem hm
  have hp := List.pairwise_iff_getElem.1 hD
  have hn : D.Nodup := hD.imp fun h => by omega
  have hlen : G.length = D.length - (i + 1) := by
    have : G.Perm (D.drop (i + 1)) := by
      refine (List.perm_ext_iff_of_nodup hG (hn.sublist (List.drop_sublist ..))).2 fun x => ?_
      rw [hGm, List.mem_drop_iff_getElem]
      constructor
      · rintro ⟨hx, hlt⟩
        obtain ⟨j, hj, rfl⟩ := List.getElem_of_mem hx
        have hij : i < j := by
          rcases Nat.lt_trichotomy i j with h | h | h
          · exact h
          · subst h; omega
          · have := hp j i hj hi h; omega
        exact ⟨j - (i + 1), by omega, by congr 1; omega⟩
      · rintro ⟨j, hj, rfl⟩
        exact ⟨List.getElem_mem _, by have := hp i (i + 1 + j) hi (by omega) (by omega); omega⟩
    rw [this.length_eq, List.length_drop]
  have hk : ∀ k : Nat, m ∈ D.drop k ↔ k ≤ i := fun k => by
    rw [List.mem_drop_iff_getElem]
    constructor
    · rintro ⟨j, hj, e⟩
      have : k + j = i := by
        rcases Nat.lt_trichotomy (k + j) i with h | h | h
        · have := hp (k + j) i (by omega) hi h; omega
        · exact h
        · have := hp i (k + j) hi (by omega) h; omega
      omega
    · intro h
      exact ⟨i - k, by omega, by rw [← hmi]; congr 1; omega⟩
  rw [hk, hlen]
  omega
theorem sortI_sorted (l : List Int) : (sortI l).Pairwise (· ≤ ·) := by
  have h : (sortI l).Pairwise fun x y => decide (x ≤ y) = true := by
    refine List.pairwise_mergeSort (fun a b c h1 h2 => ?_) (fun a b => ?_) l
    · simp only [decide_eq_true_eq] at *; omega
    · simp only [Bool.or_eq_true, decide_eq_true_eq]; omega
  exact h.imp fun h => by simpa using h
theorem sortOk : SortOk Tryz.prog 129 := ⟨fun blk off cap zs w h1 h2 h3 => Tryz.slices_Sort_int blk off cap zs w h1 h2 h3, fun p cap w => Tryz.slices_Sort_int_none p cap w⟩
theorem cI_ints (l : List Int) : l.flatMap cI = ints l := by
  induction l with
  | nil => rfl
  | cons x l ih => rw [List.flatMap_cons, ih]; rfl
theorem E_sortC {v : Value} {zs : List Int} (hn : zs.length < 4611686018427387904) (h : E B (sls cI 3 1 v (sortI zs) :: H) (K (.tuple #[]))) : E B (sls cI 3 1 v zs :: H) (CF Tryz.prog 129 [v] K) := by
  unfold sls at h ⊢
  rw [cI_ints] at h ⊢
  have hl : (sortI zs).length = zs.length := List.length_mergeSort ..
  rw [hl] at h
  exact E_sortI sortOk hn h
attribute [local irreducible] S.pick S.ld S.ldN S.st S.box S.nc S.fad S.ixS S.ixA S.chr S.prt S.ext S.bin S.sh S.sbin S.beq S.neg1 S.com1 S.not1 S.cvt S.str1 S.lenS S.len S.cap S.lenM S.mx S.mn S.mkM S.cond S.gd S.fa S.dr S.rck S.join S.loop S.cvv S.eqv S.slc S.slcS S.b2s S.lk V U CF Gives E cel mpb osl ros dct dit itr lpo dfo
set_option maxRecDepth 8000
attribute [local irreducible] bk
theorem compact {v : Value} {l : List Int} (hl : l.length ≤ 4611686018427387000) (h : ∀ v' [CellI v'], E B (sls cI 3 1 v' (compactL l) :: H) (K v')) : E B (sls cI 3 1 v l :: H) (CF Tryz.prog 130 [v] K) := by
  refine E_mono (W := s130 _ K) ?_ fun _ => c130
  unfold s130
  refine rs_cell (v := v) fun hcv => ?_
  have icv : CellI v := ⟨hcv⟩
  refine E_rslen (v := v) ?_
  refine E_lss ?_
  refine E_if (fun hc => ?_) (fun hc => ?_)
  · have e : compactL l = l := by
      unfold compactL
      rw [cmpTo_id (Nat.le_refl _) (fun i h1 h2 => by omega), List.take_length]
    rw [← e]; exact h v
  have hn2 : 2 ≤ l.length := by omega
  refine E_intsS ?_
  refine E_oslo (by omega) fun b cap spare hv hle hxl hsl => ?_
  subst hv
  have hsl' : spare.length = cap - l.length := by simpa using hsl
  refine E_loop (σ := Nat) (fun k => 1 ≤ k ∧ k ≤ l.length ∧ ∀ i, 1 ≤ i → i < k → l.getD i 0 ≠ l.getD (i - 1) 0) (fun k => [.slice (some ⟨b, 0, none⟩) l.length cap, I k]) (fun _ => cel true b 3 (ints l ++ spare) :: H) (fun k => l.length - k) 1 (fun _ => rfl) rfl
    ⟨by omega, by omega, fun i h1 h2 => by omega⟩ (fun W hW => hW) ?_
  intro k K0 ⟨hk1, hkl, hne⟩ hk
  refine E_fa fun _ => ?_
  (repeat (first | refine goS ?_ | refine E_box fun _ => ?_ | refine E_fa fun _ => ?_ | refine E_ptfad0 fun _ _ => ?_ | refine E_ptfad fun _ _ => ?_ | refine E_rsix (by assumption) fun _ _ => ?_ | refine goT (by first | assumption | decide) ?_ | refine goF (by first | assumption | decide) ?_ | refine E_ixN (by omega) ?_ | refine E_ld' (by assumption) ?_ | refine E_addI (by omega) (by omega) ?_ | refine E_subI (by omega) (by omega) ?_ | refine E_mulI (by omega) (by omega) ?_))
  refine E_if (fun hc => ?_) (fun hc => ?_)
  · have hkl' : k < l.length := by omega
    have a1 : (ints l ++ spare)[0 + k * 1]? = some (I (l.getD k 0)) := ints_at hkl'
    have a2 : (ints l ++ spare)[0 + (k - 1) * 1]? = some (I (l.getD (k - 1) 0)) := ints_at (by omega)
    have ek : (k : Int) - 1 = ((k - 1 : Nat) : Int) := by omega
    (repeat (first | refine goS ?_ | refine E_box fun _ => ?_ | refine E_fa fun _ => ?_ | refine E_ptfad0 fun _ _ => ?_ | refine E_ptfad fun _ _ => ?_ | refine E_rsix (by assumption) fun _ _ => ?_ | refine goT (by first | assumption | decide) ?_ | refine goF (by first | assumption | decide) ?_ | refine E_ixN (by omega) ?_ | refine E_ld' (by assumption) ?_ | refine E_addI (by omega) (by omega) ?_ | refine E_subI (by omega) (by omega) ?_ | refine E_mulI (by omega) (by omega) ?_))
    rw [ek]
    (repeat (first | refine goS ?_ | refine E_box fun _ => ?_ | refine E_fa fun _ => ?_ | refine E_ptfad0 fun _ _ => ?_ | refine E_ptfad fun _ _ => ?_ | refine E_rsix (by assumption) fun _ _ => ?_ | refine goT (by first | assumption | decide) ?_ | refine goF (by first | assumption | decide) ?_ | refine E_ixN (by omega) ?_ | refine E_ld' (by assumption) ?_ | refine E_addI (by omega) (by omega) ?_ | refine E_subI (by omega) (by omega) ?_ | refine E_mulI (by omega) (by omega) ?_))
    refine E_if (fun heq => ?_) (fun heq => ?_)
    · refine E_slc (l := k) (hh := l.length) (m := cap) rfl rfl (by simp [S.bound]) (by omega) (by omega) (by omega) (fun h => by cases h) ?_
      rw [if_neg (by omega)]
      have hc0 : cmpTo l k = l.take k := cmpTo_id (by omega) hne
      have hc1 : cmpTo l (k + 1) = l.take k := by
        conv => lhs; unfold cmpTo
        rw [if_neg (by rintro (h | h); · omega
                       · exact h heq), hc0]
      refine E_loop (σ := Nat × List Int) (fun s => 1 ≤ s.1 ∧ s.1 ≤ l.length - k ∧ s.2.length = l.length ∧ s.2.take (cmpTo l (k + s.1)).length = cmpTo l (k + s.1) ∧ (∀ i, k + s.1 ≤ i + 1 → s.2.getD i 0 = l.getD i 0) ∧ (cmpTo l (k + s.1)).length < k + s.1)
        (fun s => [.slice (some ⟨b, 0, none⟩) l.length cap, I (cmpTo l (k + s.1)).length, .slice (some ⟨b, 0 + k * 1, none⟩) (l.length - k) (cap - k), I s.1]) (fun s => cel true b 3 (ints s.2 ++ spare) :: H) (fun s => l.length - s.1) (1, l) (fun _ => rfl)
        (by simp only [hc1, List.length_take, Nat.min_eq_left hkl]; rfl) ⟨by omega, by simp only; omega, rfl, by rw [hc1, List.length_take, Nat.min_eq_left hkl], fun _ _ => rfl, by rw [hc1, List.length_take]; omega⟩ (fun W hW => hW) ?_
      rintro ⟨j, m⟩ K1 ⟨hj1, hjl, hm, htk, hfar, hlt⟩ hk2
      simp only at hj1 hjl hm htk hfar hlt hk2 ⊢
      generalize hq : (cmpTo l (k + j)).length = q at htk hlt
      refine E_fa fun _ => ?_
      (repeat (first | refine goS ?_ | refine E_box fun _ => ?_ | refine E_fa fun _ => ?_ | refine E_ptfad0 fun _ _ => ?_ | refine E_ptfad fun _ _ => ?_ | refine E_rsix (by assumption) fun _ _ => ?_ | refine goT (by first | assumption | decide) ?_ | refine goF (by first | assumption | decide) ?_ | refine E_ixN (by omega) ?_ | refine E_ld' (by assumption) ?_ | refine E_addI (by omega) (by omega) ?_ | refine E_subI (by omega) (by omega) ?_ | refine E_mulI (by omega) (by omega) ?_))
      have ej : (((l.length - k : Nat)) : Int) = (l.length : Int) - (k : Int) := by omega
      refine E_if (fun hc => ?_) (fun hc => ?_)
      · have hjl' : k + j < l.length := by omega
        have b1 : (ints m ++ spare)[0 + k * 1 + j * 1]? = some (I (l.getD (k + j) 0)) := by rw [← hfar (k + j) (by omega)]; exact ints_at (by omega)
        have b2 : (ints m ++ spare)[0 + k * 1 + (j - 1) * 1]? = some (I (l.getD (k + j - 1) 0)) := by rw [← hfar (k + j - 1) (by omega)]; exact ints_at (by omega)
        have ejj : (j : Int) - 1 = ((j - 1 : Nat) : Int) := by omega
        refine E_joinC (σ := List Int) (fun m' => m'.length = l.length ∧ m'.take (cmpTo l (k + (j + 1))).length = cmpTo l (k + (j + 1)) ∧ (∀ i, k + (j + 1) ≤ i + 1 → m'.getD i 0 = l.getD i 0) ∧ (cmpTo l (k + (j + 1))).length < k + (j + 1))
          (fun _ => [.slice (some ⟨b, 0, none⟩) l.length cap, I (cmpTo l (k + (j + 1))).length, .slice (some ⟨b, 0 + k * 1, none⟩) (l.length - k) (cap - k), I j]) (fun m' => cel true b 3 (ints m' ++ spare) :: H) (fun k3 hk3 => ?_) (fun m' hm' => ?_)
        · have es : cmpTo l (k + (j + 1)) = if l.getD (k + j) 0 ≠ l.getD (k + j - 1) 0 then cmpTo l (k + j) ++ [l.getD (k + j) 0] else cmpTo l (k + j) := by
            rw [← Nat.add_assoc]
            conv => lhs; unfold cmpTo
            have : ¬ (k + j = 0) := by omega
            simp only [this, false_or]
          rw [es] at hk3
          (repeat (first | refine goS ?_ | refine E_box fun _ => ?_ | refine E_fa fun _ => ?_ | refine E_ptfad0 fun _ _ => ?_ | refine E_ptfad fun _ _ => ?_ | refine E_rsix (by assumption) fun _ _ => ?_ | refine goT (by first | assumption | decide) ?_ | refine goF (by first | assumption | decide) ?_ | refine E_ixN (by omega) ?_ | refine E_ld' (by assumption) ?_ | refine E_addI (by omega) (by omega) ?_ | refine E_subI (by omega) (by omega) ?_ | refine E_mulI (by omega) (by omega) ?_))
          rw [ejj]
          (repeat (first | refine goS ?_ | refine E_box fun _ => ?_ | refine E_fa fun _ => ?_ | refine E_ptfad0 fun _ _ => ?_ | refine E_ptfad fun _ _ => ?_ | refine E_rsix (by assumption) fun _ _ => ?_ | refine goT (by first | assumption | decide) ?_ | refine goF (by first | assumption | decide) ?_ | refine E_ixN (by omega) ?_ | refine E_ld' (by assumption) ?_ | refine E_addI (by omega) (by omega) ?_ | refine E_subI (by omega) (by omega) ?_ | refine E_mulI (by omega) (by omega) ?_))
          refine E_if (fun hne2 => ?_) (fun hne2 => ?_)
          · rw [if_pos hne2] at hk3
            refine E_ixN (by omega) ?_
            refine E_ld' b1 ?_
            refine E_ixN (by omega) ?_
            refine E_st' (by simp; omega) ?_
            rw [ints_set (i := q) (by omega)]
            (repeat (first | refine goS ?_ | refine E_box fun _ => ?_ | refine E_fa fun _ => ?_ | refine E_ptfad0 fun _ _ => ?_ | refine E_ptfad fun _ _ => ?_ | refine E_rsix (by assumption) fun _ _ => ?_ | refine goT (by first | assumption | decide) ?_ | refine goF (by first | assumption | decide) ?_ | refine E_ixN (by omega) ?_ | refine E_ld' (by assumption) ?_ | refine E_addI (by omega) (by omega) ?_ | refine E_subI (by omega) (by omega) ?_ | refine E_mulI (by omega) (by omega) ?_))
            have hk4 := hk3 (m.set q (l.getD (k + j) 0)) ⟨by simpa using hm, ?_, fun i hi => ?_, by rw [List.length_append, hq, List.length_singleton]; omega⟩
            · rw [List.length_append, hq, List.length_singleton] at hk4
              have e2 : ((q + 1 : Nat) : Int) = (q : Int) + 1 := by omega
              rw [e2] at hk4
              exact hk4
            · rw [List.length_append, hq, List.length_singleton, take_last (by simp; omega), List.take_set_of_le (Nat.le_refl _), htk]
              congr 2
              rw [List.getD_eq_getElem?_getD, List.getElem?_set_self (by omega)]; rfl
            · rw [← hfar i (by omega), List.getD_eq_getElem?_getD, List.getElem?_set_ne (by omega), ← List.getD_eq_getElem?_getD]
          · rw [if_neg hne2, hq] at hk3
            exact hk3 m ⟨hm, htk, fun i hi => hfar i (by omega), by omega⟩
        · refine E_fa fun _ => ?_
          (repeat (first | refine goS ?_ | refine E_box fun _ => ?_ | refine E_fa fun _ => ?_ | refine E_ptfad0 fun _ _ => ?_ | refine E_ptfad fun _ _ => ?_ | refine E_rsix (by assumption) fun _ _ => ?_ | refine goT (by first | assumption | decide) ?_ | refine goF (by first | assumption | decide) ?_ | refine E_ixN (by omega) ?_ | refine E_ld' (by assumption) ?_ | refine E_addI (by omega) (by omega) ?_ | refine E_subI (by omega) (by omega) ?_ | refine E_mulI (by omega) (by omega) ?_))
          exact hk2 (j + 1, m') ⟨by simp only; omega, by simp only; omega, hm'⟩ (by simp only; omega)
      · have hje : k + j = l.length := by omega
        rw [hje] at hq htk hlt
        have hcl : cmpTo l l.length = compactL l := rfl
        rw [hcl] at hq htk
        refine E_slc (l := q) (hh := l.length) (m := cap) rfl rfl (by simp [S.bound]) (by omega) (by omega) (by omega) (fun h => by cases h) ?_
        rw [if_neg (by omega)]
        refine E_clear (t := 141) rfl u_ints elt_int (by simp [isCell]) (by omega) (by simp [hm]; omega) ?_
        refine E_slc (l := 0) (hh := q) (m := cap) rfl (by simp [S.bound]) rfl (by omega) (by omega) (by omega) (fun h => by cases h) ?_
        have e0 : (if cap = 0 then some (⟨b, 0, none⟩ : Addr) else some ⟨b, 0 + 0 * 1, none⟩) = some ⟨b, 0, none⟩ := by split <;> rfl
        rw [e0]
        have h' := h (.slice (some ⟨b, 0, none⟩) q cap)
        have eb : setAll (ints m ++ spare) (0 + q * 1) (rep (l.length - q) [.int .i64 0]) = ints (compactL l) ++ (rep (l.length - q) [.int .i64 0] ++ spare) := by
          unfold setAll
          have e1 : (ints m ++ spare).take (0 + q * 1) = ints (compactL l) := by
            rw [Nat.zero_add, Nat.mul_one, List.take_append_of_le_length (by simp; omega), ← htk]
            simp [ints, List.map_take]
          have e2 : (ints m ++ spare).drop (0 + q * 1 + (rep (l.length - q) [.int .i64 0]).length) = spare := by
            rw [rep_length]
            simp only [List.length_singleton, Nat.mul_one, Nat.zero_add]
            have e3 : q + (l.length - q) = (ints m).length := by simp; omega
            rw [e3, List.drop_left]
          rw [e1, e2, List.append_assoc]
        rw [eb]
        refine E_osls (n := q) (cap := cap) (sz := 1) (by omega) (by simp [hq]) (by rw [List.length_append, rep_length]; simp; omega) ?_
        rw [Nat.sub_zero, Nat.sub_zero]
        rw [← hq] at h' ⊢
        exact E_ints h'
    · (repeat (first | refine goS ?_ | refine E_box fun _ => ?_ | refine E_fa fun _ => ?_ | refine E_ptfad0 fun _ _ => ?_ | refine E_ptfad fun _ _ => ?_ | refine E_rsix (by assumption) fun _ _ => ?_ | refine goT (by first | assumption | decide) ?_ | refine goF (by first | assumption | decide) ?_ | refine E_ixN (by omega) ?_ | refine E_ld' (by assumption) ?_ | refine E_addI (by omega) (by omega) ?_ | refine E_subI (by omega) (by omega) ?_ | refine E_mulI (by omega) (by omega) ?_))
      exact hk (k + 1) ⟨by omega, by omega, fun i h1 h2 => by
        by_cases hik : i = k
        · subst hik; exact heq
        · exact hne i h1 (by omega)⟩ (by omega)
  · have : k = l.length := by omega
    subst this
    have e : compactL l = l := by
      unfold compactL
      rw [cmpTo_id (Nat.le_refl _) hne, List.take_length]
    rw [← e] at hxl
    refine E_osls (n := l.length) (cap := cap) (sz := 1) hle (by simp) (by simpa using hsl') ?_
    have h' := h (.slice (some ⟨b, 0, none⟩) l.length cap)
    rw [e] at h'
    exact E_ints h'
theorem hasInt {v : Value} {l : List Int} {k : Int} [hv : Rs B H v cI l] (hn : l.length ≤ 140737488355328) (h : E B H (K (.bool (decide (k ∈ l))))) : E B H (CF Tryz.prog 97 [v, I k] K) := by
  refine E_mono (W := s97 _ _ K) ?_ fun _ => c97
  unfold s97
  refine E_mono (W := s127 _ _ _) ?_ fun _ => c127
  unfold s127
  refine E_rslen (v := v) (l := l) ?_
  refine E_loop (σ := Nat) (fun i => i ≤ l.length ∧ k ∉ l.take i) (fun i => [v, I k, I l.length, I i]) (fun _ => H) (fun i => l.length - i) 0 (fun _ => rfl) rfl ⟨Nat.zero_le _, by simp⟩ (fun W hW => hW) ?_
  rintro i K0 ⟨hi, ha⟩ hk
  refine E_fa fun _ => ?_
  refine E_lss ?_
  refine E_if (fun hc => ?_) (fun hc => ?_)
  · have hx : l[i]? = some l[i] := List.getElem?_eq_getElem (by omega)
    have hxm := List.mem_of_getElem? hx
    generalize l[i] = x at hx hxm
    refine E_rsix (v := v) (l := l) hx fun _ _ => ?_
    refine E_ptld ?_
    refine E_eql ?_
    refine E_if (fun e => ?_) (fun e => ?_)
    · subst e
      refine E_geq ?_
      rw [decide_eq_true hxm] at h
      rw [decide_eq_true (by omega)]
      exact h
    · refine E_addI (by omega) (by omega) ?_
      refine hk (i + 1) ⟨by omega, ?_⟩ (by omega)
      rw [List.take_add_one, hx]
      simp [ha, e]
  · have : i = l.length := by omega
    subst this
    rw [List.take_length] at ha
    refine E_geq ?_
    rw [decide_eq_false ha] at h
    exact h
end Go.Proofs.YtjafpncngmbcdaaGreat.Nam
end
section
namespace Go.Proofs.YtjafpncngmbcdaaGreat.Nam
open Go Go.SL Go.Proofs Go.Proofs.YtjafpncngmbcdaaGreat.Sh
variable {B : World} {H : List Asrt} {K : Value → WT} {W : WT} {a : Nat} {M : Bk} {f : Fa}
abbrev keepL (f : Fa) : List Value := [I f.last, I f.young, I f.step, I f.count]
def spn (f : Fa) (v : Ver) : Int := v.time / f.step
structure KOk (f : Fa) (V : List Ver) : Prop where
  k : 0 ≤ f.last ∧ 0 ≤ f.young ∧ 1 ≤ f.step ∧ 0 ≤ f.count
  b : f.last ≤ 9223372036854775807 ∧ f.young ≤ 9223372036854775807 ∧ f.step ≤ 9223372036854775807 ∧ f.count ≤ 9223372036854775807
  t : ∀ v ∈ V, 0 ≤ v.time ∧ v.time ≤ 9007199254740991
  n : V.length ≤ 1000
def spansL (f : Fa) (V : List Ver) : List Int := (compactL (sortI (V.map (spn f)).reverse)).drop (max 0 (((compactL (sortI (V.map (spn f)).reverse)).length : Int) - f.count)).toNat
theorem spans_mem {V : List Ver} (hk : 0 ≤ f.count) {m : Int} (hm : m ∈ V.map (spn f)) : m ∈ spansL f V ↔ (((V.filterMap fun w => if m < spn f w then some (spn f w) else none).foldl addN []).length : Int) < f.count := by
  obtain ⟨h1, h2⟩ := compact_sorted (sortI_sorted (V.map (spn f)).reverse)
  have h3 : ∀ x, x ∈ compactL (sortI (V.map (spn f)).reverse) ↔ x ∈ V.map (spn f) := fun x => by
    rw [h2, (List.mergeSort_perm _ _).mem_iff, List.mem_reverse]
  obtain ⟨h4, h5⟩ := addN_fold (V.filterMap fun w => if m < spn f w then some (spn f w) else none) [] .nil
  refine span_law h1 ((h3 m).2 hm) h4 (fun x => ?_) hk
  rw [h5, h3, List.mem_filterMap, List.mem_map]
  constructor
  · rintro (h | ⟨w, hw, he⟩)
    · cases h
    · split at he
      · cases he; exact ⟨⟨w, hw, rfl⟩, by assumption⟩
      · cases he
  · rintro ⟨⟨w, hw, rfl⟩, hlt⟩
    exact .inr ⟨w, hw, if_pos hlt⟩
theorem compactL_len (l : List Int) : (compactL l).length ≤ l.length := cmpTo_length l l.length
attribute [local irreducible] S.pick S.ld S.ldN S.st S.box S.nc S.fad S.ixS S.ixA S.chr S.prt S.ext S.bin S.sh S.sbin S.beq S.neg1 S.com1 S.not1 S.cvt S.str1 S.lenS S.len S.cap S.lenM S.mx S.mn S.mkM S.cond S.gd S.fa S.dr S.rck S.join S.loop S.cvv S.eqv S.slc S.slcS S.b2s S.lk V U CF Gives E cel mpb osl ros dct dit itr lpo dfo
set_option maxRecDepth 8000
attribute [local irreducible] bk
theorem span {t s : Int} (h1 : 0 ≤ t) (h2 : 1 ≤ s) (h3 : t ≤ 9223372036854775807) (h : E B H (K (I (t / s)))) : E B H (CF Tryz.prog 94 [I t, I s] K) := by
  refine E_mono (W := s94 _ _ K) ?_ fun _ => c94
  unfold s94
  exact E_quoI h1 (by omega) h3 h
theorem spans {v : Value} {l : List VR} [hv : Rs B H v vC l] (hk : KOk f (l.map (·.1))) (h : ∀ (G : List Asrt) (v' : Value) [Rs B G v' cI (spansL f (l.map (·.1)))] [Sam H G], E B G (K v')) : E B H (CF Tryz.prog 98 [v, .agg (keepL f).toArray] K) := by
  refine rs_cell (v := v) (l := l) fun hcv => ?_
  have : CellI v := ⟨hcv⟩
  have hn : l.length ≤ 1000 := by simpa using hk.n
  have hkk := hk.k
  have hkb := hk.b
  refine E_mono (W := s98 _ _ K) ?_ fun _ => c98
  unfold s98
  refine E_box (vs := keepL f) fun b3 => ?_
  refine E_box (vs := [nil]) fun b5 => ?_
  refine E_mono (W := s128 _ _) ?_ fun _ => c128
  unfold s128
  refine E_box (vs := [v]) fun bs => ?_
  refine E_rf (by kernel_rfl) fun l0 dl L hY => ?_
  refine E_mono (W := s145 _ _ _) ?_ fun _ => c145
  unfold s145
  (repeat first | refine gS ?_ | refine gA fun _ => ?_ | refine gX fun _ _ => ?_ | refine gT ?_ | refine gF ?_ | refine gI ?_)
  refine E_loop (n := 3) (σ := Nat × Value) (fun s => s.1 ≤ l.length ∧ isCell s.2 = true)
    (fun s => [.func (.yield l0) #[] #[], ptr bs, I ((s.1 : Int) - 1)])
    (fun s => sls cI 3 1 s.2 (((l.drop s.1).map fun p => spn f p.1).reverse) :: lpo l0 L .ready .nrm :: dfo dl :: cel true bs 63 [v] :: cel true b5 141 [s.2] :: cel true b3 43 (keepL f) :: H) (fun s => s.1) (l.length, nil) (fun _ => rfl) rfl
    ⟨Nat.le_refl _, rfl⟩ (fun W hW => by
      simp only [List.drop_length, List.map_nil, List.reverse_nil] at hW
      refine sls_nil cI 1 (T := 3) ?_
      exact sm hW) ?_
  rintro ⟨j, u⟩ K0 ⟨hj, hu⟩ hk0
  simp only at hj hu hk0 ⊢
  have : CellI u := ⟨hu⟩
  refine E_fa fun _ => ?_
  refine E_geq ?_
  refine E_if (fun hc => ?_) (fun hc => ?_)
  · obtain ⟨i, rfl⟩ : ∃ i, j = i + 1 := ⟨j - 1, by omega⟩
    have hx : l[i]? = some l[i] := List.getElem?_eq_getElem (by omega)
    have hdr := List.drop_eq_getElem_cons (show i < l.length by omega)
    generalize l[i] = x at hx hdr
    have hxt := hk.t x.1 (List.mem_map_of_mem (List.mem_of_getElem? hx))
    rw [show ((i + 1 : Nat) : Int) - 1 = (i : Int) by omega]
    (repeat first | refine gS ?_ | refine gA fun _ => ?_ | refine gX fun _ _ => ?_ | refine gT ?_ | refine gF ?_ | refine gI ?_)
    refine fd (a := lpo l0 L .ready .nrm) (hY _ _ _ rfl ?_)
    refine E_box (vs := [I 0, I 0, nil, .bool false]) fun b7 => ?_
    refine E_stW (vs := vC x) rfl rfl ?_
    refine fd (a := lpo l0 L .ready .nrm) (E_begun ?_)
    (repeat first | refine gS ?_ | refine gA fun _ => ?_ | refine gX fun _ _ => ?_ | refine gT ?_ | refine gF ?_ | refine gI ?_)
    refine span hxt.1 (by omega) (by omega) ?_
    (repeat (refine E_rck1 (by first | exact E_ld (E_fact rfl) | exact E_ld' (by assumption) (E_fact rfl) | exact E_b2sR (E_fact rfl) | exact E_gdnF (by assumption) (E_ld (E_fact rfl)) | exact E_gdT (by assumption) (E_ld (E_fact rfl)) | exact E_gtf (E_ld (E_fact rfl)) | exact E_gft (E_ld (E_fact rfl)) | exact E_ldNA (E_fact rfl) | exact E_ptld (E_fact rfl) | exact E_gtf (E_ldNA (E_fact rfl))) ?_)); (first | (refine E_rck0 ?_) | skip)
    have hlen : (((l.drop (i + 1)).map fun p => spn f p.1).reverse).length ≤ 1000 := by rw [List.length_reverse, List.length_map, List.length_drop]; omega
    refine fd (a := sls cI 3 1 u (((l.drop (i + 1)).map fun p => spn f p.1).reverse)) ?_
    refine E_sapp1R (enc := cI) (x.1.time / f.step) u_ints elt_int rfl (by decide) (by omega) (by omega) (fun b W hW => ?_) fun u' _ => ?_
    · refine E_rck1 (E_ld (E_fact rfl)) ?_
      exact E_rck0 hW
    (repeat first | refine gS ?_ | refine gA fun _ => ?_ | refine gX fun _ _ => ?_ | refine gT ?_ | refine gF ?_ | refine gI ?_)
    refine fd (a := lpo l0 L .busy .nrm) (E_ended ?_)
    refine E_notb ?_
    refine E_ff ?_
    rw [show (I (i : Int)) = I (((i + 1 : Nat) : Int) - 1) by congr 1; omega]
    refine E_subI (by omega) (by omega) ?_
    have hk' := hk0 (i, u') ⟨by simp only; omega, CellI.pf⟩ (by simp)
    have e : ((l.drop i).map fun p => spn f p.1).reverse = ((l.drop (i + 1)).map fun p => spn f p.1).reverse ++ [x.1.time / f.step] := by
      rw [hdr, List.map_cons, List.reverse_cons]; rfl
    simp only [e] at hk'
    have e2 : (((i + 1 : Nat) : Int) - 1) - 1 = (i : Int) - 1 := by omega
    rw [e2]
    exact sm hk'
  · have hj0 : j = 0 := by omega
    subst hj0
    refine fd (a := lpo l0 L .ready .nrm) (E_over (by simp) ?_)
    unfold aft
    (repeat first | refine gS ?_ | refine gA fun _ => ?_ | refine gX fun _ _ => ?_ | refine gT ?_ | refine gF ?_ | refine gI ?_)
    rw [List.drop_zero]
    have e0 : (l.map fun p => spn f p.1) = (l.map (·.1)).map (spn f) := by rw [List.map_map]; rfl
    rw [e0]
    refine fd (a := sls cI 3 1 u (((l.map (·.1)).map (spn f)).reverse)) ?_
    have hl1 : (((l.map (·.1)).map (spn f)).reverse).length ≤ 1000 := by simp; omega
    refine E_sortC (by omega) ?_
    (repeat first | refine gS ?_ | refine gA fun _ => ?_ | refine gX fun _ _ => ?_ | refine gT ?_ | refine gF ?_ | refine gI ?_)
    have hl2 : (sortI ((l.map (·.1)).map (spn f)).reverse).length ≤ 1000 := by rw [List.length_mergeSort]; exact hl1
    refine fd (a := sls cI 3 1 u (sortI (((l.map (·.1)).map (spn f)).reverse))) ?_
    refine compact (by omega) fun w _ => ?_
    have hl3 := Nat.le_trans (compactL_len (sortI ((l.map (·.1)).map (spn f)).reverse)) hl2
    have hh : ∀ (G : List Asrt) (v' : Value) [Rs B G v' cI (spansL f (l.map (·.1)))] [Sam H G], E B G (K v') := h
    unfold spansL at hh
    generalize compactL (sortI ((l.map (·.1)).map (spn f)).reverse) = D at hl3 hh ⊢
    (repeat first | refine gS ?_ | refine gA fun _ => ?_ | refine gX fun _ _ => ?_ | refine gT ?_ | refine gF ?_ | refine gI ?_)
    have e1 : max 0 ((D.length : Int) - f.count) = (((max 0 ((D.length : Int) - f.count)).toNat : Nat) : Int) := by omega
    rw [e1]
    refine E_slcS2 (v := w) (l := D) (i := (max 0 ((D.length : Int) - f.count)).toNat) (j := D.length) rfl (bound_nat _ _) (by omega) (by omega) fun v' hv' _ => ?_
    have e2 : (D.drop (max 0 ((D.length : Int) - f.count)).toNat).take (D.length - (max 0 ((D.length : Int) - f.count)).toNat) = D.drop (max 0 ((D.length : Int) - f.count)).toNat := List.take_of_length_le (by rw [List.length_drop]; omega)
    rw [e2] at hv'
    refine fd (a := dfo dl) (E_done1 ?_)
    exact hh _ v'
end Go.Proofs.YtjafpncngmbcdaaGreat.Nam
end
section
namespace Go.Proofs.YtjafpncngmbcdaaGreat.Nam
open Go Go.SL Go.Proofs Go.Proofs.YtjafpncngmbcdaaGreat.Sh
variable {B : World} {H : List Asrt} {K : Value → WT} {W : WT} {a : Nat} {M : Bk} {f : Fa}
theorem rs_take1 {α : Type} {enc : α → List Value} {v : Value} {l : List α} {i : Nat} (h : Rs B H v enc ((l.drop i).take (l.length - i))) : Rs B H v enc (l.drop i) := by
  rwa [List.take_of_length_le (by rw [List.length_drop]; omega)] at h
attribute [local irreducible] S.pick S.ld S.ldN S.st S.box S.nc S.fad S.ixS S.ixA S.chr S.prt S.ext S.bin S.sh S.sbin S.beq S.neg1 S.com1 S.not1 S.cvt S.str1 S.lenS S.len S.cap S.lenM S.mx S.mn S.mkM S.cond S.gd S.fa S.dr S.rck S.join S.loop S.cvv S.eqv S.slc S.slcS S.b2s S.lk V U CF Gives E cel mpb osl ros dct dit itr lpo dfo
set_option maxRecDepth 8000
attribute [local irreducible] bk
theorem later {v : Value} {l : List VR} {b7 bm : Nat} {m : Int} [hv : Rs B H v vC l] (hn : l.length ≤ 1000) (ht : ∀ p ∈ l, 0 ≤ p.1.time ∧ p.1.time ≤ 9007199254740991) (hs : 1 ≤ f.step) (h : E B (cel true b7 43 (keepL f) :: cel true bm 3 [I m] :: H) (K (.bool (l.any fun p => decide (spn f p.1 = m))))) :
    E B (cel true b7 43 (keepL f) :: cel true bm 3 [I m] :: H) (CF Tryz.prog 95 [v, .func (.func 96) #[] #[ptr b7, ptr bm]] K) := by
  refine E_mono (W := s95 _ _ K) ?_ fun _ => c95
  unfold s95
  refine E_mono (W := s91 _ _ _) ?_ fun _ => c91
  rw [s91_eq]
  refine idxC_ok (C := [cel true b7 43 (keepL f), cel true bm 3 [I m]]) (hv := show Rs B (cel true b7 43 (keepL f) :: cel true bm 3 [I m] :: H) v vC l from inferInstance) (enc := vC) (p := fun p : VR => decide (spn f p.1 = m)) (by omega) (fun p hp H' K' hK => ?_) ?_
  · refine E_cvv (by kernel_rfl) ?_
    show E B (cel true b7 43 (keepL f) :: cel true bm 3 [I m] :: H') (CF Tryz.prog 96 [.agg (vC p).toArray, ptr b7, ptr bm] K')
    have hK2 : E B (cel true b7 43 (keepL f) :: cel true bm 3 [I m] :: H') (K' (.bool (decide (spn f p.1 = m)))) := hK
    have hpt := ht p hp
    refine E_mono (W := s96 _ _ _ K') ?_ fun _ => c96
    unfold s96
    (repeat first | refine gS ?_ | refine gA fun _ => ?_ | refine gX fun _ _ => ?_ | refine gT ?_ | refine gF ?_ | refine gI ?_)
    refine span hpt.1 hs (by omega) ?_
    (repeat (refine E_rck1 (by first | exact E_ld (E_fact rfl) | exact E_ld' (by assumption) (E_fact rfl) | exact E_b2sR (E_fact rfl) | exact E_gdnF (by assumption) (E_ld (E_fact rfl)) | exact E_gdT (by assumption) (E_ld (E_fact rfl)) | exact E_gtf (E_ld (E_fact rfl)) | exact E_gft (E_ld (E_fact rfl)) | exact E_ldNA (E_fact rfl) | exact E_ptld (E_fact rfl) | exact E_gtf (E_ldNA (E_fact rfl))) ?_)); (first | (refine E_rck0 ?_) | skip)
    (repeat first | refine gS ?_ | refine gA fun _ => ?_ | refine gX fun _ _ => ?_ | refine gT ?_ | refine gF ?_ | refine gI ?_)
    exact sm hK2
  · show E B (cel true b7 43 (keepL f) :: cel true bm 3 [I m] :: H) _
    refine E_geq ?_
    rw [idx_any]
    exact h
theorem stays {v : Value} {l : List VR} {i : Nat} {x : VR} [hv : ∀ H', Rs B (H' ++ H) v vC l] (hk : KOk f (l.map (·.1))) (hnow : 0 ≤ M.now ∧ M.now ≤ 9007199254740991) (hx : l[i]? = some x) (h : E B (bk a M :: H) (K (.bool (staysB M.now f (l.map (·.1)) i)))) :
    E B (bk a M :: H) (CF Tryz.prog 53 [ptr a, v, I i, .agg (keepL f).toArray] K) := by
  have hkk := hk.k
  have hkb := hk.b
  have hn : l.length ≤ 1000 := by simpa using hk.n
  have hi : i < l.length := (List.getElem?_eq_some_iff.1 hx).1
  have htl : ∀ p ∈ l, 0 ≤ p.1.time ∧ p.1.time ≤ 9007199254740991 := fun p hp => hk.t p.1 (List.mem_map_of_mem hp)
  have hxt := htl x (List.mem_of_getElem? hx)
  have hv1 : ∀ G, Rs B (G :: H) v vC l := fun G => hv [G]
  have hv2 : ∀ G G', Rs B (G :: G' :: H) v vC l := fun G G' => hv [G, G']
  have hv3 : ∀ G G' G'', Rs B (G :: G' :: G'' :: H) v vC l := fun G G' G'' => hv [G, G', G'']
  have hv0 : Rs B H v vC l := hv []
  have hst : staysB M.now f (l.map (·.1)) i = (decide ((l.length : Int) - i ≤ f.last) || decide (M.now - f.young < x.1.time) || (!((l.drop (i + 1)).any fun p => decide (spn f p.1 = spn f x.1)) && decide (spn f x.1 ∈ spansL f (l.map (·.1))))) := by
    have e1 : (l.map (·.1))[i]? = some x.1 := by rw [List.getElem?_map, hx]; rfl
    unfold staysB
    rw [e1]
    simp only
    have e2 : ((l.map (·.1)).drop (i + 1)).any (fun w => decide (w.time / f.step = x.1.time / f.step)) = (l.drop (i + 1)).any fun p => decide (spn f p.1 = spn f x.1) := by
      rw [← List.map_drop, List.any_map]; rfl
    have e3 : decide (spn f x.1 ∈ spansL f (l.map (·.1))) = decide (((((l.map (·.1)).filterMap fun w => if x.1.time / f.step < w.time / f.step then some (w.time / f.step) else none).foldl addN []).length : Int) < f.count) := by
      rw [decide_eq_decide]
      exact spans_mem hkk.2.2.2 (List.mem_map_of_mem (List.mem_of_getElem? e1))
    rw [e2, e3, List.length_map]
  rw [hst] at h
  refine E_mono (W := s53 _ _ _ _ K) ?_ fun _ => c53
  unfold s53
  refine E_box (vs := keepL f) fun b7 => ?_
  (repeat first | refine gS ?_ | refine gA fun _ => ?_ | refine gX fun _ _ => ?_ | refine gT ?_ | refine gF ?_ | refine gI ?_)
  refine E_both ?_ ?_
  · refine span hxt.1 hkk.2.2.1 (by omega) ?_
    refine E_box fun bm => ?_
    (repeat first | refine gS ?_ | refine gA fun _ => ?_ | refine gX fun _ _ => ?_ | refine gT ?_ | refine gF ?_ | refine gI ?_)
    rw [show x.1.time / f.step = spn f x.1 from rfl]
    refine sm (G := cel true bm 3 [I (spn f x.1)] :: bk a M :: cel true b7 43 (keepL f) :: H) ?_
    refine E_slcS2 (v := v) (l := l) (hf := hv3 _ _ _) (i := i + 1) (j := l.length) rfl (bound_suc _ _) (by omega) (by omega) fun v2 hv2' _ => ?_
    have r2 : Rs B (bk a M :: H) v2 vC (l.drop (i + 1)) := rs_take1 (hv2' (bk a M :: H))
    refine sm (G := cel true b7 43 (keepL f) :: cel true bm 3 [I (spn f x.1)] :: bk a M :: H) ?_
    refine later (l := l.drop (i + 1)) (by rw [List.length_drop]; omega) (fun p hp => htl p (List.mem_of_mem_drop hp)) hkk.2.2.1 ?_
    refine gY ?_
    (repeat first | refine gS ?_ | refine gA fun _ => ?_ | refine gX fun _ _ => ?_ | refine gT ?_ | refine gF ?_ | refine gI ?_)
    have e1 : decide ((l.length : Int) - 1 - i < f.last) = decide ((l.length : Int) - i ≤ f.last) := by rw [decide_eq_decide]; omega
    rw [← e1] at h
    by_cases g1 : (l.length : Int) - 1 - i < f.last
    · rw [decide_eq_true g1, Bool.true_or, Bool.true_or] at h
      (repeat first | refine gS ?_ | refine gA fun _ => ?_ | refine gX fun _ _ => ?_ | refine gT ?_ | refine gF ?_ | refine gI ?_)
      refine E_rck1 (E_gdu (E_fact rfl)) ?_
      (repeat first | refine gS ?_ | refine gA fun _ => ?_ | refine gX fun _ _ => ?_ | refine gT ?_ | refine gF ?_ | refine gI ?_)
      exact sm h
    · rw [decide_eq_false g1, Bool.false_or] at h
      (repeat first | refine gS ?_ | refine gA fun _ => ?_ | refine gX fun _ _ => ?_ | refine gT ?_ | refine gF ?_ | refine gI ?_)
      refine fd (a := bk a M) (E_bk fun r1 r2 kf ks Lv Lr Lh hf hs => ?_)
      have hend := E_bkS r1 r2 hf hs (n := M.now) rfl h
      (repeat first | refine gS ?_ | refine gA fun _ => ?_ | refine gX fun _ _ => ?_ | refine gT ?_ | refine gF ?_ | refine gI ?_)
      by_cases g2 : M.now - f.young < x.1.time
      · rw [decide_eq_true g2, Bool.true_or] at hend
        (repeat first | refine gS ?_ | refine gA fun _ => ?_ | refine gX fun _ _ => ?_ | refine gT ?_ | refine gF ?_ | refine gI ?_)
        refine E_rck1 (E_gdu (E_fact rfl)) ?_
        (repeat first | refine gS ?_ | refine gA fun _ => ?_ | refine gX fun _ _ => ?_ | refine gT ?_ | refine gF ?_ | refine gI ?_)
        exact sm hend
      · rw [decide_eq_false g2, Bool.false_or] at hend
        (repeat first | refine gS ?_ | refine gA fun _ => ?_ | refine gX fun _ _ => ?_ | refine gT ?_ | refine gF ?_ | refine gI ?_)
        cases g3 : (l.drop (i + 1)).any fun p => decide (spn f p.1 = spn f x.1) with
        | true =>
          rw [g3, Bool.not_true, Bool.false_and] at hend
          rw [Bool.not_true]
          (repeat first | refine gS ?_ | refine gA fun _ => ?_ | refine gX fun _ _ => ?_ | refine gT ?_ | refine gF ?_ | refine gI ?_)
          refine E_rck1 (E_gff (E_fact rfl)) ?_
          (repeat first | refine gS ?_ | refine gA fun _ => ?_ | refine gX fun _ _ => ?_ | refine gT ?_ | refine gF ?_ | refine gI ?_)
          exact sm hend
        | false =>
          rw [g3, Bool.not_false, Bool.true_and] at hend
          rw [Bool.not_false]
          have rv : ∀ G G1 G2 G3 G4 G5 G6 G7, Rs B (G :: G1 :: G2 :: G3 :: G4 :: G5 :: G6 :: G7 :: H) v vC l := fun G G1 G2 G3 G4 G5 G6 G7 => hv [G, G1, G2, G3, G4, G5, G6, G7]
          (repeat first | refine gS ?_ | refine gA fun _ => ?_ | refine gX fun _ _ => ?_ | refine gT ?_ | refine gF ?_ | refine gI ?_)
          refine sm (G := cel true a 81 [.map (some r1), .map (some r2), I M.now] :: dct kL true r1 kf :: dct kL true r2 ks :: spool vC Lv :: spool rfC Lr :: spool hC Lh :: cel true bm 3 [I (spn f x.1)] :: cel true b7 43 (keepL f) :: H) ?_
          refine spans (l := l) hk fun G v' _ _ => ?_
          refine E_rck1 ?_ ?_
          · refine sm (G := cel true a 81 [.map (some r1), .map (some r2), I M.now] :: dct kL true r1 kf :: dct kL true r2 ks :: spool vC Lv :: spool rfC Lr :: spool hC Lh :: cel true bm 3 [I (spn f x.1)] :: cel true b7 43 (keepL f) :: H) ?_
            refine E_gtf ?_
            exact E_ld (E_fact rfl)
          refine E_rck0 ?_
          (repeat first | refine gS ?_ | refine gA fun _ => ?_ | refine gX fun _ _ => ?_ | refine gT ?_ | refine gF ?_ | refine gI ?_)
          have hDl : (spansL f (l.map (·.1))).length ≤ 1000 := by
            unfold spansL
            rw [List.length_drop]
            have := compactL_len (sortI ((l.map (·.1)).map (spn f)).reverse)
            rw [List.length_mergeSort, List.length_reverse, List.length_map, List.length_map] at this; omega
          rename_i ir _
          revert ir hDl hend
          generalize spansL f (l.map (·.1)) = D
          intro hend hDl ir
          refine hasInt (l := D) (by omega) ?_
          (repeat first | refine gS ?_ | refine gA fun _ => ?_ | refine gX fun _ _ => ?_ | refine gT ?_ | refine gF ?_ | refine gI ?_)
          refine sm (G := cel true a 81 [.map (some r1), .map (some r2), I M.now] :: dct kL true r1 kf :: dct kL true r2 ks :: spool vC Lv :: spool rfC Lr :: spool hC Lh :: cel true bm 3 [I (spn f x.1)] :: cel true b7 43 (keepL f) :: H) ?_
          exact sm hend
  · refine E_box fun bm => ?_
    (repeat (refine E_rck1 (by first | exact E_ld (E_fact rfl) | exact E_ld' (by assumption) (E_fact rfl) | exact E_b2sR (E_fact rfl) | exact E_gdnF (by assumption) (E_ld (E_fact rfl)) | exact E_gdT (by assumption) (E_ld (E_fact rfl)) | exact E_gtf (E_ld (E_fact rfl)) | exact E_gft (E_ld (E_fact rfl)) | exact E_ldNA (E_fact rfl) | exact E_ptld (E_fact rfl) | exact E_gtf (E_ldNA (E_fact rfl))) ?_)); (first | (refine E_rck0 ?_) | skip)
    refine span hxt.1 hkk.2.2.1 (by omega) ?_
    (repeat first | refine gS ?_ | refine gA fun _ => ?_ | refine gX fun _ _ => ?_ | refine gT ?_ | refine gF ?_ | refine gI ?_)
    rw [show x.1.time / f.step = spn f x.1 from rfl]
    refine sm (G := cel true bm 3 [I (spn f x.1)] :: bk a M :: cel true b7 43 (keepL f) :: H) ?_
    refine E_slcS2 (v := v) (l := l) (hf := hv3 _ _ _) (i := i + 1) (j := l.length) rfl (bound_suc _ _) (by omega) (by omega) fun v2 hv2' _ => ?_
    have r2 : Rs B (bk a M :: H) v2 vC (l.drop (i + 1)) := rs_take1 (hv2' (bk a M :: H))
    refine sm (G := cel true b7 43 (keepL f) :: cel true bm 3 [I (spn f x.1)] :: bk a M :: H) ?_
    refine later (l := l.drop (i + 1)) (by rw [List.length_drop]; omega) (fun p hp => htl p (List.mem_of_mem_drop hp)) hkk.2.2.1 ?_
    refine gY ?_
    (repeat first | refine gS ?_ | refine gA fun _ => ?_ | refine gX fun _ _ => ?_ | refine gT ?_ | refine gF ?_ | refine gI ?_)
    have e1 : decide ((l.length : Int) - 1 - i < f.last) = decide ((l.length : Int) - i ≤ f.last) := by rw [decide_eq_decide]; omega
    rw [← e1] at h
    by_cases g1 : (l.length : Int) - 1 - i < f.last
    · rw [decide_eq_true g1, Bool.true_or, Bool.true_or] at h
      (repeat first | refine gS ?_ | refine gA fun _ => ?_ | refine gX fun _ _ => ?_ | refine gT ?_ | refine gF ?_ | refine gI ?_)
      refine E_rck1 (E_gdu (E_fact rfl)) ?_
      (repeat first | refine gS ?_ | refine gA fun _ => ?_ | refine gX fun _ _ => ?_ | refine gT ?_ | refine gF ?_ | refine gI ?_)
      exact sm h
    · rw [decide_eq_false g1, Bool.false_or] at h
      (repeat first | refine gS ?_ | refine gA fun _ => ?_ | refine gX fun _ _ => ?_ | refine gT ?_ | refine gF ?_ | refine gI ?_)
      refine fd (a := bk a M) (E_bk fun r1 r2 kf ks Lv Lr Lh hf hs => ?_)
      have hend := E_bkS r1 r2 hf hs (n := M.now) rfl h
      (repeat first | refine gS ?_ | refine gA fun _ => ?_ | refine gX fun _ _ => ?_ | refine gT ?_ | refine gF ?_ | refine gI ?_)
      by_cases g2 : M.now - f.young < x.1.time
      · rw [decide_eq_true g2, Bool.true_or] at hend
        (repeat first | refine gS ?_ | refine gA fun _ => ?_ | refine gX fun _ _ => ?_ | refine gT ?_ | refine gF ?_ | refine gI ?_)
        refine E_rck1 (E_gdu (E_fact rfl)) ?_
        (repeat first | refine gS ?_ | refine gA fun _ => ?_ | refine gX fun _ _ => ?_ | refine gT ?_ | refine gF ?_ | refine gI ?_)
        exact sm hend
      · rw [decide_eq_false g2, Bool.false_or] at hend
        (repeat first | refine gS ?_ | refine gA fun _ => ?_ | refine gX fun _ _ => ?_ | refine gT ?_ | refine gF ?_ | refine gI ?_)
        cases g3 : (l.drop (i + 1)).any fun p => decide (spn f p.1 = spn f x.1) with
        | true =>
          rw [g3, Bool.not_true, Bool.false_and] at hend
          rw [Bool.not_true]
          (repeat first | refine gS ?_ | refine gA fun _ => ?_ | refine gX fun _ _ => ?_ | refine gT ?_ | refine gF ?_ | refine gI ?_)
          refine E_rck1 (E_gff (E_fact rfl)) ?_
          (repeat first | refine gS ?_ | refine gA fun _ => ?_ | refine gX fun _ _ => ?_ | refine gT ?_ | refine gF ?_ | refine gI ?_)
          exact sm hend
        | false =>
          rw [g3, Bool.not_false, Bool.true_and] at hend
          rw [Bool.not_false]
          have rv : ∀ G G1 G2 G3 G4 G5 G6 G7, Rs B (G :: G1 :: G2 :: G3 :: G4 :: G5 :: G6 :: G7 :: H) v vC l := fun G G1 G2 G3 G4 G5 G6 G7 => hv [G, G1, G2, G3, G4, G5, G6, G7]
          (repeat first | refine gS ?_ | refine gA fun _ => ?_ | refine gX fun _ _ => ?_ | refine gT ?_ | refine gF ?_ | refine gI ?_)
          refine sm (G := cel true a 81 [.map (some r1), .map (some r2), I M.now] :: dct kL true r1 kf :: dct kL true r2 ks :: spool vC Lv :: spool rfC Lr :: spool hC Lh :: cel true bm 3 [I (spn f x.1)] :: cel true b7 43 (keepL f) :: H) ?_
          refine spans (l := l) hk fun G v' _ _ => ?_
          refine E_rck1 ?_ ?_
          · refine sm (G := cel true a 81 [.map (some r1), .map (some r2), I M.now] :: dct kL true r1 kf :: dct kL true r2 ks :: spool vC Lv :: spool rfC Lr :: spool hC Lh :: cel true bm 3 [I (spn f x.1)] :: cel true b7 43 (keepL f) :: H) ?_
            refine E_gtf ?_
            exact E_ld (E_fact rfl)
          refine E_rck0 ?_
          (repeat first | refine gS ?_ | refine gA fun _ => ?_ | refine gX fun _ _ => ?_ | refine gT ?_ | refine gF ?_ | refine gI ?_)
          have hDl : (spansL f (l.map (·.1))).length ≤ 1000 := by
            unfold spansL
            rw [List.length_drop]
            have := compactL_len (sortI ((l.map (·.1)).map (spn f)).reverse)
            rw [List.length_mergeSort, List.length_reverse, List.length_map, List.length_map] at this; omega
          rename_i ir _
          revert ir hDl hend
          generalize spansL f (l.map (·.1)) = D
          intro hend hDl ir
          refine hasInt (l := D) (by omega) ?_
          (repeat first | refine gS ?_ | refine gA fun _ => ?_ | refine gX fun _ _ => ?_ | refine gT ?_ | refine gF ?_ | refine gI ?_)
          refine sm (G := cel true a 81 [.map (some r1), .map (some r2), I M.now] :: dct kL true r1 kf :: dct kL true r2 ks :: spool vC Lv :: spool rfC Lr :: spool hC Lh :: cel true bm 3 [I (spn f x.1)] :: cel true b7 43 (keepL f) :: H) ?_
          exact sm hend
end Go.Proofs.YtjafpncngmbcdaaGreat.Nam
end
section
namespace Go.Proofs.YtjafpncngmbcdaaGreat.Nam
open Go Go.SL Go.Proofs Go.Proofs.YtjafpncngmbcdaaGreat.Sh
variable {B : World} {H : List Asrt} {K : Value → WT} {W : WT} {a : Nat} {M : Bk} {f : Fa}
theorem goesL_suc {now : Int} {k : List UInt8} {l : List Ver} {j : Nat} {x : Ver} (hx : l[j]? = some x) : goesL now f k l (j + 1) = goesL now f k l j ++ if staysB now f l j = true then [] else [(k, x.gen)] := by
  unfold goesL
  rw [List.range_succ, List.filterMap_append]
  congr 1
  cases h : staysB now f l j <;> simp [hx, h]
theorem kOk (hw : Inv M) (hk : 0 ≤ f.last ∧ 0 ≤ f.young ∧ 1 ≤ f.step ∧ 0 ≤ f.count) (hb : f.last ≤ 9223372036854775807 ∧ f.young ≤ 9223372036854775807 ∧ f.step ≤ 9223372036854775807 ∧ f.count ≤ 9223372036854775807) (k : List UInt8) : KOk f (liveL M.V k) where
  k := hk
  b := hb
  t := fun v hv => hw.t v (fof_mem.1 (List.mem_filter.1 hv).1).1
  n := Nat.le_trans (List.length_filter_le _ _) (Nat.le_trans (hw.fl k) (by decide))
attribute [local irreducible] S.pick S.ld S.ldN S.st S.box S.nc S.fad S.ixS S.ixA S.chr S.prt S.ext S.bin S.sh S.sbin S.beq S.neg1 S.com1 S.not1 S.cvt S.str1 S.lenS S.len S.cap S.lenM S.mx S.mn S.mkM S.cond S.gd S.fa S.dr S.rck S.join S.loop S.cvv S.eqv S.slc S.slcS S.b2s S.lk V U CF Gives E cel mpb osl ros dct dit itr lpo dfo
set_option maxRecDepth 8000
attribute [local irreducible] bk
theorem expire (hw : Inv M) (hb : f.last ≤ 9223372036854775807 ∧ f.young ≤ 9223372036854775807 ∧ f.step ≤ 9223372036854775807 ∧ f.count ≤ 9223372036854775807)
    (h : ∀ v [CellI v], E B (sls hC 53 2 v (if keepOk f = true then expireL M f else []) :: bk a M :: H) (K (.tuple #[v, I (if keepOk f = true then 0 else 2)]))) : E B (bk a M :: H) (CF Tryz.prog 18 [ptr a, .agg (keepL f).toArray] K) := by
  refine E_mono (W := s18 _ _ K) ?_ fun _ => c18
  unfold s18
  refine E_box (vs := keepL f) fun b3 => ?_
  refine E_peq u_pBook ?_
  refine E_ff ?_
  refine E_join1 [ptr a, ptr b3, .bool (decide (f.last < 0) || decide (f.young < 0) || decide (f.step < 1) || decide (f.count < 0))] (cel true b3 43 (keepL f) :: bk a M :: H) (fun q hq => ?_) ?_
  · (repeat first | refine gS ?_ | refine gY ?_ | refine gA fun _ => ?_ | refine gX fun _ _ => ?_ | refine gI ?_)
    exact sm hq
  refine E_fa fun _ => ?_
  refine E_ifb' (p := ¬ (keepOk f = true)) (by simp [keepOk]; omega) (fun e => ?_) (fun e => ?_)
  · rw [if_neg e, if_neg e] at h
    refine sls_nil hC 2 (T := 53) ?_
    exact sm (h nil)
  have e' := Decidable.not_not.1 e
  have hk : 0 ≤ f.last ∧ 0 ≤ f.young ∧ 1 ≤ f.step ∧ 0 ≤ f.count := by simpa [keepOk] using e'
  rw [if_pos e', if_pos e'] at h
  have hfl := hw.fl
  have hnl := hw.nl
  refine fd (a := bk a M) (order hw.v.n (by have := hw.n; omega) fun nv _ => ?_)
  (repeat first | refine gS ?_ | refine gA fun _ => ?_ | refine gX fun _ _ => ?_ | refine gT ?_ | refine gF ?_ | refine gI ?_)
  refine E_loop (n := 6) (σ := Nat × Value × List (List UInt8 × Int)) (fun s => s.1 ≤ (nms M.V).length ∧ isCell s.2.1 = true ∧ s.2.2 = ((nms M.V).take s.1).flatMap (fun k => goesL M.now f k (liveL M.V k) (liveL M.V k).length) ∧ s.2.2.length ≤ 1000 * s.1)
    (fun s => [ptr a, ptr b3, s.2.1, nv, I (nms M.V).length, I s.1]) (fun s => sls hC 53 2 s.2.1 s.2.2 :: bk a M :: sls cS 9 1 nv (nms M.V) :: cel true b3 43 (keepL f) :: H) (fun s => (nms M.V).length - s.1) (0, nil, []) (fun _ => rfl) rfl ⟨Nat.zero_le _, rfl, rfl, by simp⟩
    (fun W hW => by
      refine sls_nil hC 2 (T := 53) ?_
      exact sm hW) ?_
  rintro ⟨i, ov, zs⟩ K0 ⟨hi, hov, hzs, hzl⟩ hk0
  simp only at hi hov hzs hzl hk0 ⊢
  have : CellI ov := ⟨hov⟩
  refine E_fa fun _ => ?_
  refine E_lss ?_
  refine E_if (fun hc => ?_) (fun hc => ?_)
  · have hx : (nms M.V)[i]? = some (nms M.V)[i] := List.getElem?_eq_getElem (by omega)
    generalize (nms M.V)[i] = k at hx
    have hstep : ((nms M.V).take (i + 1)).flatMap (fun k => goesL M.now f k (liveL M.V k) (liveL M.V k).length) = zs ++ goesL M.now f k (liveL M.V k) (liveL M.V k).length := by
      rw [List.take_add_one, hx, List.flatMap_append, ← hzs]; simp
    have hkk := kOk hw hk hb k
    (repeat first | refine gS ?_ | refine gA fun _ => ?_ | refine gX fun _ _ => ?_ | refine gT ?_ | refine gF ?_ | refine gI ?_)
    refine fd (a := bk a M) (E_bk fun r1 r2 kf ks Lv Lr Lh hf hs => ?_)
    obtain ⟨v, l, hrv, hle, hlr, hlk⟩ := fok_get hf k
    have i1 := hrv B
    have hll : l.length = (fof M.V k).length := by rw [← hle, List.length_map]
    have hfk := hfl k
    (repeat first | refine gS ?_ | refine gA fun _ => ?_ | refine gX fun _ _ => ?_ | refine gT ?_ | refine gF ?_ | refine gI ?_)
    refine E_dlkg hlk ?_
    refine cloneV (v := v) (by omega) fun u _ => ?_
    refine sm (G := cel true a 81 [.map (some r1), .map (some r2), I M.now] :: dct kL true r1 kf :: dct kL true r2 ks :: spool vC Lv :: spool rfC Lr :: spool hC Lh :: cel true b3 43 (keepL f) :: sls vC 31 4 u l :: sls hC 53 2 ov zs :: sls cS 9 1 nv (nms M.V) :: H) ?_
    refine E_bkS r1 r2 hf hs rfl ?_
    refine sm (G := sls vC 31 4 u l :: cel true b3 43 (keepL f) :: bk a M :: sls hC 53 2 ov zs :: sls cS 9 1 nv (nms M.V) :: H) ?_
    refine deleteFunc (p := fun p => p.1.gone) (by omega) (fun p hp H' K' hK => ?_) fun w _ => ?_
    · refine E_cvv (by kernel_rfl) ?_
      show E B (cel true b3 43 (keepL f) :: H') (CF Tryz.prog 52 [.agg (vC p).toArray] K')
      have hK2 : E B (cel true b3 43 (keepL f) :: H') (K' (.bool p.1.gone)) := hK
      refine E_mono (W := s52 _ K') ?_ fun _ => c52
      unfold s52
      (repeat first | refine gS ?_ | refine gA fun _ => ?_ | refine gX fun _ _ => ?_ | refine gT ?_ | refine gF ?_ | refine gI ?_)
      exact sm hK2
    have hl2 : (l.filter fun p => !p.1.gone).map (·.1) = liveL M.V k := by
      unfold liveL
      rw [← hle, List.filter_map]; rfl
    generalize l.filter (fun p => !p.1.gone) = l2 at hl2 ⊢
    have hl2l : l2.length = (liveL M.V k).length := by rw [← hl2, List.length_map]
    have hll2 : (liveL M.V k).length ≤ 32 := Nat.le_trans (List.length_filter_le _ _) hfk
    rw [← hl2] at hkk
    (repeat first | refine gS ?_ | refine gA fun _ => ?_ | refine gX fun _ _ => ?_ | refine gT ?_ | refine gF ?_ | refine gI ?_)
    refine E_loop (n := 11) (σ := Nat × Value) (fun s => s.1 ≤ l2.length ∧ isCell s.2 = true ∧ (goesL M.now f k (liveL M.V k) s.1).length ≤ s.1)
      (fun s => [ptr a, ptr b3, s.2, str k, w, nv, I (nms M.V).length, I i, w, I l2.length, I s.1]) (fun s => sls hC 53 2 s.2 (zs ++ goesL M.now f k (liveL M.V k) s.1) :: bk a M :: cel true b3 43 (keepL f) :: sls vC 31 4 w l2 :: sls cS 9 1 nv (nms M.V) :: H) (fun s => l2.length - s.1) (0, ov) (fun _ => rfl) rfl ⟨Nat.zero_le _, hov, by simp [goesL]⟩
      (fun W hW => by
        have e0 : zs ++ goesL M.now f k (liveL M.V k) 0 = zs := by simp [goesL]
        simp only [e0] at hW
        exact sm hW) ?_
    rintro ⟨j, ou⟩ K1 ⟨hj, hou, hgl⟩ hk1
    simp only at hj hou hgl hk1 ⊢
    have : CellI ou := ⟨hou⟩
    refine E_fa fun _ => ?_
    refine E_lss ?_
    refine E_if (fun hc2 => ?_) (fun hc2 => ?_)
    · have hy : l2[j]? = some l2[j] := List.getElem?_eq_getElem (by omega)
      generalize l2[j] = x at hy
      have hyL : (liveL M.V k)[j]? = some x.1 := by rw [← hl2, List.getElem?_map, hy]; rfl
      have hgs := goesL_suc (f := f) (now := M.now) (k := k) hyL
      refine E_joinC (σ := Value) (fun u => isCell u = true) (fun u => [ptr a, ptr b3, u, str k, w, nv, I (nms M.V).length, I i, w, I l2.length, I j])
        (fun u => sls hC 53 2 u (zs ++ goesL M.now f k (liveL M.V k) (j + 1)) :: bk a M :: cel true b3 43 (keepL f) :: sls vC 31 4 w l2 :: sls cS 9 1 nv (nms M.V) :: H) (fun q hq => ?_) (fun u hu => ?_)
      · rw [hgs] at hq
        refine E_rsix (v := w) (l := l2) hy fun _ _ => ?_
        refine E_ptldA ?_
        refine E_box fun b11 => ?_
        refine E_stW (vs := vC x) rfl rfl ?_
        (repeat first | refine gS ?_ | refine gA fun _ => ?_ | refine gX fun _ _ => ?_ | refine gT ?_ | refine gF ?_ | refine gI ?_)
        refine sm (G := bk a M :: sls vC 31 4 w l2 :: sls hC 53 2 ou (zs ++ goesL M.now f k (liveL M.V k) j) :: cel true b11 31 (vC x) :: cel true b3 43 (keepL f) :: sls cS 9 1 nv (nms M.V) :: H) ?_
        refine stays (l := l2) (hv := fun H' => rs_app H' inferInstance) hkk hw.now hy ?_
        rw [hl2]
        refine gY ?_
        cases hst : staysB M.now f (liveL M.V k) j with
        | true =>
          rw [hst, if_pos rfl, List.append_nil] at hq
          rw [Bool.not_true]
          (repeat first | refine gS ?_ | refine gA fun _ => ?_ | refine gX fun _ _ => ?_ | refine gT ?_ | refine gF ?_ | refine gI ?_)
          exact sm (hq ou hou)
        | false =>
          rw [hst, if_neg (by decide), ← List.append_assoc] at hq
          rw [Bool.not_false]
          (repeat first | refine gS ?_ | refine gA fun _ => ?_ | refine gX fun _ _ => ?_ | refine gT ?_ | refine gF ?_ | refine gI ?_)
          refine E_build (l := [str k, I x.1.gen]) str_held ?_
          refine fd (a := sls hC 53 2 ou (zs ++ goesL M.now f k (liveL M.V k) j)) ?_
          refine E_sapp1 (k, x.1.gen) u_helds elt_held rfl (by decide) (by rw [List.length_append]; omega) (by rw [List.length_append]; omega) fun u' _ => ?_
          exact sm (hq u' CellI.pf)
      · have : CellI u := ⟨hu⟩
        refine E_fa fun _ => ?_
        refine E_addI (by omega) (by omega) ?_
        refine hk1 (j + 1, u) ⟨by simp only; omega, hu, ?_⟩ (by simp only; omega)
        simp only
        rw [hgs, List.length_append]
        split <;> simp <;> omega
    · have hje : j = (liveL M.V k).length := by omega
      subst hje
      refine E_addI (by omega) (by omega) ?_
      have hk' := hk0 (i + 1, ou, zs ++ goesL M.now f k (liveL M.V k) (liveL M.V k).length) ⟨by simp only; omega, hou, hstep.symm, by simp only [List.length_append]; omega⟩ (by simp only; omega)
      exact sm hk'
  · have hie : i = (nms M.V).length := by omega
    subst hie
    rw [List.take_length] at hzs
    have h' := h ov
    unfold expireL at h'
    rw [← hzs] at h'
    exact sm h'
end Go.Proofs.YtjafpncngmbcdaaGreat.Nam
end
section
namespace Go.Proofs.YtjafpncngmbcdaaGreat.Nam
open Go Go.SL Go.Proofs Go.Proofs.YtjafpncngmbcdaaGreat.Sh
variable {B : World} {H : List Asrt} {K : Value → WT} {W : WT} {a : Nat} {M : Bk} {f : Fa}
theorem enc_set1 {α : Type} {enc : α → List Value} {sz : Nat} [hE : Enc enc sz] {l : List α} {i o : Nat} {x x' : α} {u : Value} (sp : List Value) (hx : l[i]? = some x) (ho : o < sz) (he : enc x' = (enc x).set o u) :
    (l.flatMap enc ++ sp).set (i * sz + o) u = (l.set i x').flatMap enc ++ sp := by
  obtain ⟨hi, hxe⟩ := List.getElem?_eq_some_iff.1 hx
  have h1 : l = l.take i ++ x :: l.drop (i + 1) := by
    rw [← hxe, List.getElem_cons_drop, List.take_append_drop]
  have h2 : l.set i x' = l.take i ++ x' :: l.drop (i + 1) := by rw [List.set_eq_take_append_cons_drop, if_pos hi]
  have hl : ((l.take i).flatMap enc).length = i * sz := by rw [enc_length, List.length_take, Nat.min_eq_left (by omega)]
  rw [h2]
  conv => lhs; rw [h1]
  rw [List.flatMap_append, List.flatMap_append, List.flatMap_cons, List.flatMap_cons, he]
  simp only [List.append_assoc]
  rw [List.set_append, if_neg (by omega), hl, Nat.add_sub_cancel_left, List.set_append, if_pos (by rw [hE.len]; exact ho)]
theorem E_sfld {α : Type} {enc : α → List Value} {sz : Nat} [hE : Enc enc sz] {T i o : Nat} {v u : Value} {l : List α} {x : α} {k : IntKind} (x' : α) (hx : l[i]? = some x) (ho : o < sz) [CellI u] (he : enc x' = (enc x).set o u)
    (h : E B (sls enc T sz v (l.set i x') :: H) (K undef)) : E B (sls enc T sz v l :: H) (S.ixS sz v (.int k (i : Int)) fun p => S.fad p o fun q => S.st 1 q u K) := by
  obtain ⟨hi, _⟩ := List.getElem?_eq_some_iff.1 hx
  refine E_oslo (by omega) fun b cap spare hv hle hxl hsl => ?_
  subst hv
  refine E_ixN hi ?_
  refine E_fad ?_
  have hle2 : i * sz + sz ≤ l.length * sz := by rw [← Nat.succ_mul]; exact Nat.mul_le_mul_right _ hi
  refine E_st' (hf := takC_here) (by rw [List.length_append, enc_length]; omega) ?_
  rw [Nat.zero_add, enc_set1 spare hx ho he]
  refine E_osls (n := l.length) (cap := cap) (sz := sz) hle (by rw [enc_length]; simp) hsl ?_
  unfold sls at h
  rw [List.length_set] at h
  exact h
abbrev spE (p : Int × Int) : Value := .agg #[I p.1, I p.2]
theorem str_spot : Str Tryz.prog 116 [(0, 1), (1, 1)] [I 0, I 0] := str_of (zv := .agg #[I 0, I 0]) (by kernel_rfl) (by kernel_rfl) rfl
theorem eq_spot (a b : Int × Int) (w : World) : (Op.equal 116 (spE a) (spE b)).run Tryz.prog w = .ok (decide (a = b)) w := by
  rw [run_eqStruct (xs := [I a.1, I a.2]) (ys := [I b.1, I b.2]) (bs := [decide (a.1 = b.1), decide (a.2 = b.2)]) [3, 3] (by kernel_rfl) (by kernel_rfl) (by kernel_rfl) rfl (fun i t b' h1 h2 => by
    match i, h1, h2 with
    | 0, h1, h2 => cases h1; cases h2; exact ⟨_, _, rfl, rfl, eqV_int u_int⟩
    | 1, h1, h2 => cases h1; cases h2; exact ⟨_, _, rfl, rfl, eqV_int u_int⟩
    | n + 2, h1, h2 => simp at h1) w]
  obtain ⟨a1, a2⟩ := a
  obtain ⟨b1, b2⟩ := b
  by_cases h1 : a1 = b1 <;> by_cases h2 : a2 = b2 <;> simp [h1, h2]
theorem key_spot : KeyG Tryz.prog 171 116 116 spE := {
  hm := by kernel_rfl
  chk := fun b k w => by kernel_rfl
  no := ⟨.struct (Tryz.prog.fieldsOf 116), by kernel_rfl, fun a b => rfl⟩
  eq := eq_spot
  bits := fun a => by simp [Instr.sameBits] }
theorem zero_spot (w : World) : (zeroValue 116).run Tryz.prog w = .ok (.agg #[I 0, I 0]) w := by kernel_rfl
instance {m : Mv} : AllC (mvC m) := ⟨fun y hy => Enc.cell (enc := mvC) m y hy⟩
def mvP (q : Int × Int) (m : Mv) : Bool := decide (m.fb = q.1 ∧ m.fs = q.2)
theorem moveR_eq (ms : List Mv) (r : Rf) : moveR ms r = match ms.find? (mvP (r.bin, r.slot)) with | none => r | some m => { r with bin := m.tb, slot := m.ts } := rfl
theorem rfC_bin (r : Rf) (n : Int) : rfC { r with bin := n } = (rfC r).set 33 (I n) := by
  unfold rfC
  rw [List.set_append, if_neg (by simp [r.sum.2])]
  simp [r.sum.2]
theorem rfC_slot (r : Rf) (n : Int) : rfC { r with slot := n } = (rfC r).set 34 (I n) := by
  unfold rfC
  rw [List.set_append, if_neg (by simp [r.sum.2])]
  simp [r.sum.2]
attribute [local irreducible] S.pick S.ld S.ldN S.st S.box S.nc S.fad S.ixS S.ixA S.chr S.prt S.ext S.bin S.sh S.sbin S.beq S.neg1 S.com1 S.not1 S.cvt S.str1 S.lenS S.len S.cap S.lenM S.mx S.mn S.mkM S.cond S.gd S.fa S.dr S.rck S.join S.loop S.cvv S.eqv S.slc S.slcS S.b2s S.lk V U CF Gives E cel mpb osl ros dct dit itr lpo dfo
set_option maxRecDepth 8000
attribute [local irreducible] bk
theorem move {v mv : Value} {l : List Rf} {ms : List Mv} [hv : Rs B H v rfC l] [hm : ∀ H', Rs B (H' ++ H) mv mvC ms] (hn : l.length ≤ 1000000) (hmn : ms.length ≤ 140737488355328) (h : ∀ v' (n : Int) [CellI v'], E B (sls rfC 38 35 v' (l.map (moveR ms)) :: H) (K (.tuple #[v', I n]))) :
    E B H (CF Tryz.prog 101 [v, mv] K) := by
  have hm2 : ∀ G G', Rs B (G :: G' :: H) mv mvC ms := fun G G' => hm [G, G']
  refine E_mono (W := s101 _ _ K) ?_ fun _ => c101
  unfold s101
  refine cloneR (v := v) (l := l) hn fun u _ => ?_
  refine E_mkM fun r => ?_
  refine E_gnew (κ := Int × Int) (enc := spE) ?_
  refine E_rslen (v := mv) (l := ms) ?_
  refine E_loop (n := 6) (σ := Nat × List ((Int × Int) × Value)) (fun s => s.1 ≤ ms.length ∧ ∀ q, lk s.2 q = ((ms.take s.1).find? (mvP q)).map fun m => spE (m.tb, m.ts))
    (fun s => [u, I 0, .map (some r), mv, I ms.length, I s.1]) (fun s => dct spE true r s.2 :: sls rfC 38 35 u l :: H) (fun s => ms.length - s.1) (0, []) (fun _ => rfl) rfl ⟨Nat.zero_le _, fun q => rfl⟩ (fun W hW => sm hW) ?_
  rintro ⟨i, kv⟩ K0 ⟨hi, hkv⟩ hk
  simp only at hi hkv hk ⊢
  refine E_fa fun _ => ?_
  refine E_lss ?_
  refine E_if (fun hc => ?_) (fun hc => ?_)
  · have hx : ms[i]? = some ms[i] := List.getElem?_eq_getElem (by omega)
    generalize ms[i] = m at hx
    have hfs : ∀ q, (ms.take (i + 1)).find? (mvP q) = match (ms.take i).find? (mvP q) with | some m' => some m' | none => if mvP q m then some m else none := fun q => by
      rw [List.take_add_one, hx, List.find?_append]
      cases (ms.take i).find? (mvP q) with
      | some m' => rfl
      | none => cases hmp : mvP q m <;> simp [hmp]
    refine E_joinC (σ := List ((Int × Int) × Value)) (fun kv' => ∀ q, lk kv' q = ((ms.take (i + 1)).find? (mvP q)).map fun m => spE (m.tb, m.ts)) (fun _ => [u, I 0, .map (some r), mv, I ms.length, I i])
      (fun kv' => dct spE true r kv' :: sls rfC 38 35 u l :: H) (fun k hk2 => ?_) (fun kv' hkv' => ?_)
    · refine E_rsix (v := mv) (l := ms) hx fun _ _ => ?_
      refine E_ptldA ?_
      refine E_box fun b10 => ?_
      refine E_stW (vs := mvC m) rfl rfl ?_
      (repeat first | refine gS ?_ | refine gA fun _ => ?_ | refine gX fun _ _ => ?_ | refine gT ?_ | refine gF ?_ | refine gI ?_)
      refine gY ?_
      cases hl : lk kv (m.fb, m.fs) with
      | none =>
        refine E_glk0 (κ := Int × Int) key_spot zero_spot (k := (m.fb, m.fs)) hl ?_
        rw [if_pos rfl]
        (repeat first | refine gS ?_ | refine gA fun _ => ?_ | refine gX fun _ _ => ?_ | refine gT ?_ | refine gF ?_ | refine gI ?_)
        refine gY ?_
        (repeat first | refine gS ?_ | refine gA fun _ => ?_ | refine gX fun _ _ => ?_ | refine gT ?_ | refine gF ?_ | refine gI ?_)
        refine gY ?_
        refine E_gmu (κ := Int × Int) key_spot (k := (m.fb, m.fs)) ?_
        refine sm (hk2 (dput kv (m.fb, m.fs) (spE (m.tb, m.ts))) fun q => ?_)
        rw [show lk (dput kv (m.fb, m.fs) (.agg [I m.tb, I m.ts].toArray)) q = _ from dget_dput, hfs]
        by_cases hq : q = (m.fb, m.fs)
        · subst hq
          rw [if_pos rfl]
          have h0 := hkv (m.fb, m.fs)
          rw [hl] at h0
          have h1 := Option.map_eq_none_iff.1 h0.symm
          rw [h1]
          simp [mvP]
        · rw [if_neg hq]
          show lk kv q = _
          rw [hkv]
          have hq' : mvP q m = false := decide_eq_false fun h => hq (Prod.ext h.1.symm h.2.symm)
          rw [hq']
          cases (ms.take i).find? (mvP q) <;> simp
      | some x =>
        refine E_glk1 (κ := Int × Int) key_spot (k := (m.fb, m.fs)) hl ?_
        rw [if_pos rfl]
        have hkm := hkv (m.fb, m.fs)
        rw [hl] at hkm
        cases hf : (ms.take i).find? (mvP (m.fb, m.fs)) with
        | none => rw [hf] at hkm; cases hkm
        | some m' =>
          rw [hf] at hkm
          have hx' : x = spE (m'.tb, m'.ts) := Option.some.inj hkm
          subst hx'
          (repeat first | refine gS ?_ | refine gA fun _ => ?_ | refine gX fun _ _ => ?_ | refine gT ?_ | refine gF ?_ | refine gI ?_)
          refine sm (hk2 kv fun q => ?_)
          rw [hkv, hfs]
          cases hfq : (ms.take i).find? (mvP q) with
          | some m'' => rfl
          | none =>
            have hq' : mvP q m = false := decide_eq_false fun h => by
              have : q = (m.fb, m.fs) := Prod.ext h.1.symm h.2.symm
              rw [this, hf] at hfq; cases hfq
            rw [hq']; rfl
    · refine E_fa fun _ => ?_
      refine E_addI (by omega) (by omega) ?_
      exact hk (i + 1, kv') ⟨by simp only; omega, hkv'⟩ (by simp only; omega)
  have hie : i = ms.length := by omega
  subst hie
  rw [List.take_length] at hkv
  clear hk hc hi
  (repeat first | refine gS ?_ | refine gA fun _ => ?_ | refine gX fun _ _ => ?_ | refine gT ?_ | refine gF ?_ | refine gI ?_)
  refine E_loop (n := 6) (σ := Nat × Nat × List Rf) (fun s => s.1 ≤ l.length ∧ s.2.1 ≤ s.1 ∧ s.2.2 = (l.take s.1).map (moveR ms) ++ l.drop s.1) (fun s => [u, I s.2.1, .map (some r), u, I l.length, I s.1]) (fun s => sls rfC 38 35 u s.2.2 :: dct spE true r kv :: H) (fun s => l.length - s.1) (0, 0, l) (fun _ => rfl) rfl ⟨Nat.zero_le _, Nat.zero_le _, by simp⟩ (fun W hW => sm hW) ?_
  rintro ⟨j, n, ls⟩ K1 ⟨hj, hnj, hls⟩ hk
  simp only at hj hnj hls hk ⊢
  refine E_fa fun _ => ?_
  refine E_lss ?_
  refine E_if (fun hc => ?_) (fun hc => ?_)
  · have hx : l[j]? = some l[j] := List.getElem?_eq_getElem (by omega)
    have hdr := List.drop_eq_getElem_cons (show j < l.length by omega)
    generalize l[j] = x at hx hdr
    have htl : ((l.take j).map (moveR ms)).length = j := by rw [List.length_map, List.length_take]; omega
    have hlx : ls[j]? = some x := by
      rw [hls, List.getElem?_append_right (by omega), htl, Nat.sub_self, hdr]; rfl
    have hset : ls.set j (moveR ms x) = (l.take (j + 1)).map (moveR ms) ++ l.drop (j + 1) := by
      rw [hls, List.set_append, if_neg (by omega), htl, Nat.sub_self, hdr, List.set_cons_zero, List.take_add_one, hx]
      simp
    have hsame : moveR ms x = x → ls = (l.take (j + 1)).map (moveR ms) ++ l.drop (j + 1) := fun e => by
      rw [← hset, e]
      obtain ⟨h1, h2⟩ := List.getElem?_eq_some_iff.1 hlx
      exact (h2 ▸ List.set_getElem_self h1).symm
    refine E_joinC (σ := Nat) (fun n' => n' ≤ j + 1) (fun n' => [u, I n', .map (some r), u, I l.length, I j]) (fun _ => sls rfC 38 35 u ((l.take (j + 1)).map (moveR ms) ++ l.drop (j + 1)) :: dct spE true r kv :: H) (fun k hk2 => ?_) (fun n' hn' => ?_)
    · refine E_rsix (v := u) (l := ls) hlx fun _ _ => ?_
      refine E_ptldA ?_
      refine E_box fun b14 => ?_
      refine E_stW (vs := rfC x) (rfC_len x) rfl ?_
      (repeat first | refine gS ?_ | refine gA fun _ => ?_ | refine gX fun _ _ => ?_ | refine gT ?_ | refine gF ?_ | refine gI ?_)
      refine E_build (l := [I x.bin, I x.slot]) str_spot ?_
      have hkx := hkv (x.bin, x.slot)
      have hmr := moveR_eq ms x
      cases hf : ms.find? (mvP (x.bin, x.slot)) with
      | none =>
        rw [hf] at hkx hmr
        refine E_glk0 (κ := Int × Int) key_spot zero_spot (k := (x.bin, x.slot)) hkx ?_
        rw [if_pos rfl]
        (repeat first | refine gS ?_ | refine gA fun _ => ?_ | refine gX fun _ _ => ?_ | refine gT ?_ | refine gF ?_ | refine gI ?_)
        have hk3 := hk2 n (by omega)
        rw [← hsame hmr] at hk3
        exact sm hk3
      | some m =>
        rw [hf] at hkx hmr
        refine E_glk1 (κ := Int × Int) key_spot (k := (x.bin, x.slot)) hkx ?_
        rw [if_pos rfl]
        (repeat first | refine gS ?_ | refine gA fun _ => ?_)
        refine fd (a := sls rfC 38 35 u ls) ?_
        refine E_sfld { x with bin := m.tb } hlx (by decide) (rfC_bin x m.tb) ?_
        (repeat (refine E_rck1 (by first | exact E_ld (E_fact rfl) | exact E_ld' (by assumption) (E_fact rfl) | exact E_b2sR (E_fact rfl) | exact E_gdnF (by assumption) (E_ld (E_fact rfl)) | exact E_gdT (by assumption) (E_ld (E_fact rfl)) | exact E_gtf (E_ld (E_fact rfl)) | exact E_gft (E_ld (E_fact rfl)) | exact E_ldNA (E_fact rfl) | exact E_ptld (E_fact rfl) | exact E_gtf (E_ldNA (E_fact rfl))) ?_)); (first | (refine E_rck0 ?_) | skip)
        refine E_sfld (moveR ms x) (x := { x with bin := m.tb }) (by rw [List.getElem?_set_self (by have := (List.getElem?_eq_some_iff.1 hlx).1; omega)]) (by decide) (by rw [hmr]; exact rfC_slot { x with bin := m.tb } m.ts) ?_
        rw [List.set_set, hset]
        refine E_addI (by omega) (by omega) ?_
        have hk3 := hk2 (n + 1) (by omega)
        exact sm hk3
    · refine E_fa fun _ => ?_
      refine E_addI (by omega) (by omega) ?_
      exact hk (j + 1, n', _) ⟨by simp only; omega, hn', rfl⟩ (by simp only; omega)
  · have hje : j = l.length := by omega
    subst hje
    rw [List.take_length, List.drop_length, List.append_nil] at hls
    subst hls
    refine rs_cell (v := u) (l := l.map (moveR ms)) fun hcv => ?_
    have : CellI u := ⟨hcv⟩
    exact sm (h u n)
end Go.Proofs.YtjafpncngmbcdaaGreat.Nam
end
section
namespace Go.Proofs.YtjafpncngmbcdaaGreat.Nam
open Go Go.SL Go.Proofs Go.Proofs.YtjafpncngmbcdaaGreat.Sh
variable {B : World} {H : List Asrt} {K : Value → WT} {W : WT} {a : Nat} {M : Bk} {f : Fa}
def mvS (ms : List Mv) (ns : List (List UInt8)) (V : List Ver) : List Ver := V.map fun v => if v.name ∈ ns then moveV ms v else v
theorem fof_mvS (ms : List Mv) (ns : List (List UInt8)) (V : List Ver) (k : List UInt8) : fof (mvS ms ns V) k = if k ∈ ns then (fof V k).map (moveV ms) else fof V k := by
  unfold mvS fof
  rw [List.filter_map]
  have e : ((fun v : Ver => decide (v.name = k)) ∘ fun v : Ver => if v.name ∈ ns then moveV ms v else v) = fun v : Ver => decide (v.name = k) := by
    funext v
    show decide ((if v.name ∈ ns then moveV ms v else v).name = k) = decide (v.name = k)
    split <;> rfl
  rw [e]
  split
  · rename_i h
    refine List.map_congr_left fun v hv => ?_
    rw [if_pos]
    rw [show v.name = k by simpa using (List.mem_filter.1 hv).2]; exact h
  · rename_i h
    rw [List.map_congr_left (g := id), List.map_id]
    intro v hv
    rw [if_neg]; rfl
    rw [show v.name = k by simpa using (List.mem_filter.1 hv).2]; exact h
theorem mvS_nil (ms : List Mv) (V : List Ver) : mvS ms [] V = V := by simp [mvS]
theorem mvS_all (ms : List Mv) (V : List Ver) (hs : SrtN V) : mvS ms (nms V) V = V.map (moveV ms) := by
  refine List.map_congr_left fun v hv => if_pos ?_
  refine Classical.byContradiction fun hn => ?_
  have := fof_none hn
  have h2 : v ∈ fof V v.name := fof_mem.2 ⟨hv, rfl⟩
  rw [this] at h2; cases h2
theorem vC_refs (x : VR) (V : Ver) (v : Cv) (h1 : V.gen = x.1.gen) (h2 : V.time = x.1.time) (h3 : V.gone = x.1.gone) : vC (V, v) = (vC x).set 2 v.1 := by
  simp [vC, h1, h2, h3]
attribute [local irreducible] S.pick S.ld S.ldN S.st S.box S.nc S.fad S.ixS S.ixA S.chr S.prt S.ext S.bin S.sh S.sbin S.beq S.neg1 S.com1 S.not1 S.cvt S.str1 S.lenS S.len S.cap S.lenM S.mx S.mn S.mkM S.cond S.gd S.fa S.dr S.rck S.join S.loop S.cvv S.eqv S.slc S.slcS S.b2s S.lk V U CF Gives E cel mpb osl ros dct dit itr lpo dfo
set_option maxRecDepth 8000
attribute [local irreducible] bk
theorem moved {mv : Value} {ms : List Mv} [CellI mv] [hm : ∀ H', Rs B (H' ++ H) mv mvC ms] (hw : Inv M) (hmn : ms.length ≤ 140737488355328)
    (h : E B (bk a { M with V := M.V.map (moveV ms) } :: H) (K (.tuple #[]))) : E B (bk a M :: H) (CF Tryz.prog 60 [ptr a, mv] K) := by
  have hnl := hw.nl
  refine E_mono (W := s60 _ _ K) ?_ fun _ => c60
  unfold s60
  refine order hw.v.n (by have := hw.n; omega) fun nv _ => ?_
  refine E_rslen (v := nv) (l := nms M.V) ?_
  refine E_loop (n := 5) (σ := Nat) (fun i => i ≤ (nms M.V).length) (fun i => [ptr a, mv, nv, I (nms M.V).length, I i]) (fun i => bk a { M with V := mvS ms ((nms M.V).take i) M.V } :: sls cS 9 1 nv (nms M.V) :: H) (fun i => (nms M.V).length - i) 0 (fun _ => rfl) rfl (Nat.zero_le _)
    (fun W hW => by
      simp only [List.take_zero, mvS_nil] at hW
      exact sm hW) ?_
  rintro i K0 hi hk
  refine E_fa fun _ => ?_
  refine E_lss ?_
  refine E_if (fun hc => ?_) (fun hc => ?_)
  · have hx : (nms M.V)[i]? = some (nms M.V)[i] := List.getElem?_eq_getElem (by omega)
    have hnd := nms_lt hw.v.n
    have hnk : (nms M.V)[i] ∉ (nms M.V).take i := fun hmem => by
      obtain ⟨j, hj, e⟩ := List.mem_take_iff_getElem.1 hmem
      have := List.pairwise_iff_getElem.1 hnd j i (by omega) (by omega) (by omega)
      exact slt_ne this e
    generalize (nms M.V)[i] = k at hx hnk
    refine E_rsix (v := nv) (l := nms M.V) hx fun _ _ => ?_
    refine E_ptld ?_
    refine E_bk fun r1 r2 kf ks Lv Lr Lh hf hs => ?_
    obtain ⟨v, l, hrv, hle, hlr, hlk⟩ := fok_get hf k
    have i1 := hrv B
    have hfk : fof (mvS ms ((nms M.V).take i) M.V) k = fof M.V k := by rw [fof_mvS, if_neg hnk]
    simp only [hfk] at hle
    have hll : l.length = (fof M.V k).length := by rw [← hle, List.length_map]
    have hln := hw.fl k
    (repeat first | refine gS ?_ | refine gA fun _ => ?_)
    refine E_dlkg hlk ?_
    refine cloneV (v := v) (by omega) fun u _ => ?_
    refine fd (a := spool rfC Lr) (pool_dup ?_)
    refine sm (G := cel true a 81 [.map (some r1), .map (some r2), I M.now] :: dct kL true r1 kf :: dct kL true r2 ks :: spool vC Lv :: spool rfC Lr :: spool hC Lh :: sls cS 9 1 nv (nms M.V) :: sls vC 31 4 u l :: spool rfC Lr :: H) ?_
    refine E_bkS r1 r2 hf hs rfl ?_
    refine E_rslen (v := u) (l := l) ?_
    rename List (Value × List Rf) => Lr0
    clear hf hs hlk i1 hrv
    refine E_loop (n := 10) (σ := Nat × List VR × List (Value × List Rf)) (fun s => s.1 ≤ l.length ∧ s.2.1.length = l.length ∧ s.2.1.map (·.1) = ((l.take s.1).map fun p => moveV ms p.1) ++ (l.drop s.1).map (·.1) ∧ (∀ p ∈ s.2.1, (p.2.1, p.1.refs) ∈ s.2.2))
      (fun s => [ptr a, mv, str k, u, nv, I (nms M.V).length, I i, u, I l.length, I s.1])
      (fun s => bk a { M with V := mvS ms ((nms M.V).take i) M.V } :: sls cS 9 1 nv (nms M.V) :: sls vC 31 4 u s.2.1 :: spool rfC s.2.2 :: H) (fun s => l.length - s.1) (0, l, Lr0) (fun _ => rfl) rfl ⟨Nat.zero_le _, rfl, by simp, hlr⟩ (fun W hW => sm hW) ?_
    rintro ⟨j, c, L⟩ K1 ⟨hj, hcl, hce, hcr⟩ hk1
    simp only at hj hcl hce hcr hk1 ⊢
    refine E_fa fun _ => ?_
    refine E_lss ?_
    refine E_if (fun hc1 => ?_) (fun hc1 => ?_)
    · have hy : c[j]? = some c[j] := List.getElem?_eq_getElem (by omega)
      have hyr := hcr _ (List.mem_of_getElem? hy)
      have hdr := List.drop_eq_getElem_cons (show j < l.length by omega)
      have hyl : (c[j]).1 = (l[j]).1 := by
        have h1 : (c.map (·.1))[j]? = some (c[j]).1 := by rw [List.getElem?_map, hy]; rfl
        rw [hce, List.getElem?_append_right (by simp; omega), List.length_map, List.length_take, Nat.min_eq_left (by omega), Nat.sub_self, hdr] at h1
        exact (Option.some.inj h1).symm
      have hlm : (l[j]).1 ∈ fof M.V k := by rw [← hle]; exact List.mem_map_of_mem (List.getElem_mem _)
      have hrl := hw.r _ (fof_mem.1 hlm).1
      rw [← hyl] at hrl
      have htk : l.take (j + 1) = l.take j ++ [l[j]] := by rw [List.take_add_one, List.getElem?_eq_getElem (by omega)]; rfl
      generalize c[j] = x at hy hyr hyl hrl
      generalize l[j] = y at hdr hyl htk
      refine E_rsix (v := u) (l := c) hy fun _ _ => ?_
      refine E_ptldA ?_
      refine E_box fun b8 => ?_
      refine E_stW (vs := vC x) rfl rfl ?_
      (repeat first | refine gS ?_ | refine gA fun _ => ?_)
      have rv := rs_pool (B := B) (enc := rfC) hyr
      refine fd (a := spool rfC L) ?_
      refine move (v := x.2.1) (l := x.1.refs) (ms := ms) (hm := fun H' => by
        have := hm (H' ++ [spool rfC L, cel true b8 31 (vC x), bk a { M with V := mvS ms ((nms M.V).take i) M.V }, sls cS 9 1 nv (nms M.V), sls vC 31 4 u c])
        simpa using this) (by omega) hmn fun v' n _ => ?_
      (repeat first | refine gS ?_ | refine gA fun _ => ?_)
      refine fd (a := sls vC 31 4 u c) ?_
      refine E_sfld (moveV ms x.1, (⟨v', CellI.pf⟩ : Cv)) hy (by decide) (vC_refs x _ ⟨v', CellI.pf⟩ rfl rfl rfl) ?_
      refine E_addI (by omega) (by omega) ?_
      refine fd (a := spool rfC L) ?_
      refine fd (a := sls rfC 38 35 v' (x.1.refs.map (moveR ms))) ?_
      refine E_give ?_
      refine sm (hk1 (j + 1, c.set j (moveV ms x.1, (⟨v', CellI.pf⟩ : Cv)), (v', x.1.refs.map (moveR ms)) :: L) ⟨by simp only; omega, by simp [hcl], ?_, ?_⟩ (by simp only; omega))
      · simp only
        rw [List.map_set, hce, List.set_append, if_neg (by simp; omega), List.length_map, List.length_take, Nat.min_eq_left (by omega), Nat.sub_self, hdr, htk]
        simp [hyl]
      · intro p hp
        rcases List.mem_or_eq_of_mem_set hp with hp | hp
        · exact List.mem_cons_of_mem _ (hcr p hp)
        · subst hp; exact List.mem_cons_self
    · have hje : j = l.length := by omega
      subst hje
      rw [List.take_length, List.drop_length, List.map_nil, List.append_nil] at hce
      refine E_bk fun r1 r2 kf ks Lv Lr Lh hf hs => ?_
      (repeat first | refine gS ?_ | refine gA fun _ => ?_)
      refine E_dmu (κ := List UInt8) key_files ?_
      refine E_addI (by omega) (by omega) ?_
      refine fd (a := spool rfC Lr) ?_
      refine fd (a := spool rfC L) (pool_join ?_)
      refine fd (a := spool vC Lv) ?_
      refine rs_cell (v := u) (l := c) fun hcu => ?_
      have : CellI u := ⟨hcu⟩
      refine fd (a := sls vC 31 4 u c) ?_
      refine E_give ?_
      refine sm (G := cel true a 81 [.map (some r1), .map (some r2), I M.now] :: dct kL true r1 (dput kf k u) :: dct kL true r2 ks :: spool vC ((u, c) :: Lv) :: spool rfC (L ++ Lr) :: spool hC Lh :: sls cS 9 1 nv (nms M.V) :: H) ?_
      have htk : (nms M.V).take (i + 1) = (nms M.V).take i ++ [k] := by rw [List.take_add_one, hx]; rfl
      have hv' : c.map (·.1) = fof (mvS ms ((nms M.V).take (i + 1)) M.V) k := by
        rw [fof_mvS, if_pos (by rw [htk]; simp), ← hle, hce, List.map_map]; rfl
      refine E_bkS (M := { M with V := mvS ms ((nms M.V).take (i + 1)) M.V }) r1 r2 (fok_put hf (fun k' hk' => by
        rw [fof_mvS, fof_mvS, htk]; simp [hk']) ⟨by simp, hv', fun p hp => List.mem_append_left _ (hcr p hp)⟩ (fun _ h => List.mem_cons_of_mem _ h) (fun _ h => List.mem_append_right _ h) (by
          rw [← hv']
          intro e
          have h1 : (fof M.V k).length = 0 := by rw [← hll, ← hcl, List.map_eq_nil_iff.1 e]; rfl
          exact fof_some (List.mem_of_getElem? hx) (List.length_eq_zero_iff.1 h1))) hs rfl ?_
      exact hk (i + 1) (by omega) (by omega)
  · have hie : i = (nms M.V).length := by omega
    subst hie
    rw [List.take_length, mvS_all _ _ hw.v.n]
    exact sm h
theorem copied {v : Value} {l : List Rf} {g t : Int} {o : Bool} [CellI v] [hv : Rs B H v rfC l] (hn : l.length ≤ 1000000) (h : ∀ v' [CellI v'], E B (sls rfC 38 35 v' l :: H) (K (.agg #[I g, I t, v', .bool o]))) :
    E B H (CF Tryz.prog 42 [.agg #[I g, I t, v, .bool o]] K) := by
  refine E_mono (W := s42 _ K) ?_ fun _ => c42
  unfold s42
  refine E_box (vs := [I g, I t, v, .bool o]) fun b1 => ?_
  (repeat first | refine gS ?_ | refine gA fun _ => ?_ | refine gX fun _ _ => ?_ | refine gT ?_ | refine gF ?_ | refine gI ?_)
  refine cloneR (v := v) (l := l) hn fun v' _ => ?_
  (repeat first | refine gS ?_ | refine gA fun _ => ?_ | refine gX fun _ _ => ?_ | refine gT ?_ | refine gF ?_ | refine gI ?_)
  exact sm (h v')
end Go.Proofs.YtjafpncngmbcdaaGreat.Nam
end
section
namespace Go.Proofs.YtjafpncngmbcdaaGreat.Nam
open Go Go.SL
variable {M : Bk} {f : Fa}
theorem checkF0 (h : checkF f = 0) : (1 ≤ f.k ∧ f.k ≤ 9) ∧ badB f = false ∧ f.refs.length ≤ 256 ∧ f.held.length ≤ 64 ∧ f.moves.length ≤ 64 ∧ (∀ m ∈ f.moves, moveOk m = true) ∧ (∀ h ∈ f.held, heldOk h = true) ∧ (∀ r ∈ f.refs, rightB r = true) ∧ bareB f = true := by
  unfold checkF at h
  split at h
  · cases h
  rename_i h1
  split at h
  · cases h
  rename_i h2
  split at h
  · cases h
  rename_i h3
  split at h
  · cases h
  rename_i h4
  split at h
  · cases h
  rename_i h5
  refine ⟨by omega, by simpa using h2, by omega, by omega, by omega, fun m hm => ?_, fun m hm => ?_, fun m hm => ?_, ?_⟩
  · refine Classical.byContradiction fun hn => h4 (.inr (.inl (List.any_eq_true.2 ⟨m, hm, by simpa using hn⟩)))
  · refine Classical.byContradiction fun hn => h4 (.inr (.inr (List.any_eq_true.2 ⟨m, hm, by simpa using hn⟩)))
  · refine Classical.byContradiction fun hn => h5 (List.any_eq_true.2 ⟨m, hm, by simpa using hn⟩)
  · refine Classical.byContradiction fun hn => h1 (.inr (.inr (by simpa using hn)))
theorem badB0 (h : badB f = false) : (nName f.k = true → nameOk f.name = true) ∧ (nGen f.k = true → 1 ≤ f.gen) ∧ numB f.gen = true ∧ numB f.time = true ∧ (f.k = 9 → ruleB f = true) := by
  unfold badB at h
  simp only [Bool.or_eq_false_iff, Bool.and_eq_false_iff, Bool.not_eq_false', decide_eq_false_iff_not] at h
  obtain ⟨⟨⟨⟨⟨⟨⟨h1, h2⟩, h3⟩, h4⟩, h5⟩, h6⟩, h7⟩, h8⟩ := h
  refine ⟨fun e => ?_, fun e => ?_, h7, h8, fun e => ?_⟩
  · rcases h5 with h | h
    · rw [e] at h; cases h
    · exact h
  · rcases h6 with h | h
    · rw [e] at h; cases h
    · omega
  · rcases h4 with h | h
    · exact (h e).elim
    · exact h
theorem numB_iff {n : Int} : numB n = true ↔ 0 ≤ n ∧ n ≤ 9007199254740991 := by simp [numB]
structure Ok (M : Bk) (f : Fa) : Prop where
  c : checkF f = 0
  k8 : f.k = 8 → M.now ≤ f.time
  k3 : f.k = 3 → f.time ≤ M.now ∧ nextG M.V f.name ≤ f.gen ∧ ¬ (fof M.V f.name = [] ∧ (nms M.V).length = 64) ∧ (fof M.V f.name).length ≠ 32
  k4 : f.k = 4 → liveB M.V f.name f.gen = true
  k5 : f.k = 5 → f.time ≤ M.now ∧ sof M.S f.name = none ∧ M.S.length ≠ 16 ∧ (∀ h ∈ f.held, liveB M.V h.1 h.2 = true) ∧ risesB f.held = true
  k6 : f.k = 6 → (sof M.S f.name).isSome = true
theorem checkB0 : checkB M f = 0 ↔ Ok M f := by
  constructor
  · intro h
    unfold checkB at h
    by_cases hc : checkF f = 0
    · rw [if_neg (by simpa using hc)] at h
      refine ⟨hc, fun e => ?_, fun e => ?_, fun e => ?_, fun e => ?_, fun e => ?_⟩
      · rw [if_pos e] at h
        split at h
        · cases h
        · omega
      · rw [if_neg (by omega), if_pos e] at h
        split at h
        · cases h
        split at h
        · cases h
        split at h
        · cases h
        rename_i h1 h2 h3
        exact ⟨by omega, by omega, fun h => h3 (.inl h), fun h => h3 (.inr h)⟩
      · rw [if_neg (by omega), if_neg (by omega), if_pos e] at h
        split at h
        · assumption
        · cases h
      · rw [if_neg (by omega), if_neg (by omega), if_neg (by omega), if_pos e] at h
        split at h
        · cases h
        split at h
        · cases h
        split at h
        · cases h
        split at h
        · cases h
        split at h
        · cases h
        rename_i h1 h2 h3 h4 h5
        refine ⟨by omega, by simpa using h2, h3, fun x hx => ?_, by simpa using h5⟩
        exact Classical.byContradiction fun hn => h4 (List.any_eq_true.2 ⟨x, hx, by simpa using hn⟩)
      · rw [if_neg (by omega), if_neg (by omega), if_neg (by omega), if_neg (by omega), if_pos e] at h
        split at h
        · assumption
        · cases h
    · rw [if_pos hc] at h; exact (hc h).elim
  · intro h
    unfold checkB
    rw [if_neg (by simpa using h.c)]
    split
    · rename_i e; rw [if_neg (by have := h.k8 e; omega)]
    split
    · rename_i e
      obtain ⟨h1, h2, h3, h4⟩ := h.k3 e
      rw [if_neg (by omega), if_neg (by omega), if_neg (by rintro (h | h); exact h3 h; exact h4 h)]
    split
    · rename_i e; rw [if_pos (h.k4 e)]
    split
    · rename_i e
      obtain ⟨h1, h2, h3, h4, h5⟩ := h.k5 e
      rw [if_neg (by omega), if_neg (by simp [h2]), if_neg h3, if_neg (by simpa using h4), if_neg (by rw [h5]; simp)]
    split
    · rename_i e; rw [if_pos (h.k6 e)]
    rfl
theorem sw_iff {S : List Sn} {V : List Ver} : sweepV S V = V ↔ ∀ v ∈ V, keepP S v = true := List.filter_eq_self
theorem heldB_iff {S : List Sn} {n : List UInt8} {g : Int} : heldB S n g = true ↔ ∃ s ∈ S, (n, g) ∈ s.held := by
  unfold heldB; rw [List.any_eq_true]; simp
theorem keepP_iff {S : List Sn} {v : Ver} : keepP S v = true ↔ (∃ s ∈ S, (v.name, v.gen) ∈ s.held) ∨ v.gone = false := by
  unfold keepP; rw [Bool.or_eq_true, heldB_iff]; simp
theorem genV_some {V : List Ver} {n : List UInt8} {g : Int} {v : Ver} (h : genV V n g = some v) : v ∈ V ∧ v.name = n ∧ v.gen = g := by
  unfold genV at h
  have h1 := fof_mem.1 (List.mem_of_find?_eq_some h)
  exact ⟨h1.1, h1.2, by simpa using List.find?_some h⟩
theorem live_some {V : List Ver} {n : List UInt8} {g : Int} (h : liveB V n g = true) : ∃ v ∈ V, v.name = n ∧ v.gen = g ∧ v.gone = false ∧ genV V n g = some v := by
  unfold liveB at h
  cases hg : genV V n g with
  | none => rw [hg] at h; cases h
  | some v =>
    rw [hg] at h
    obtain ⟨h1, h2, h3⟩ := genV_some hg
    exact ⟨v, h1, h2, h3, by simpa using h, rfl⟩
theorem SrtG.genV {V : List Ver} (h : SrtG V) {v : Ver} (hv : v ∈ V) : genV V v.name v.gen = some v := by
  have hm : v ∈ fof V v.name := fof_mem.2 ⟨hv, rfl⟩
  cases hg : Nam.genV V v.name v.gen with
  | none =>
    have := List.find?_eq_none.1 hg v hm
    simp at this
  | some w =>
    obtain ⟨h1, h2, h3⟩ := genV_some hg
    rw [h.uniq h1 hv h2 h3]
theorem swN_mark {S : List Sn} {V : List Ver} (h : sweepV S V = V) (n : List UInt8) (g : Int) : swN S (markV V n g) n = sweepV S (markV V n g) := by
  refine List.filter_congr fun v hv => ?_
  by_cases hn : v.name = n
  · simp [hn]
  · obtain ⟨w, hw, e⟩ := List.mem_map.1 hv
    have hwn : w.name = v.name := by rw [← e]; exact (mark_f n g w).1.symm
    rw [if_neg (fun hh => hn (hwn ▸ hh.1))] at e
    subst e
    rw [sw_iff.1 h _ hw]; simp
def swL (S : List Sn) (V : List Ver) (ns : List (List UInt8)) : List Ver := V.filter fun v => !decide (v.name ∈ ns) || keepP S v
theorem swL_nil (S : List Sn) (V : List Ver) : swL S V [] = V := List.filter_eq_self.2 fun v _ => by simp
theorem swL_snoc (S : List Sn) (V : List Ver) (ns : List (List UInt8)) (k : List UInt8) : swN S (swL S V ns) k = swL S V (ns ++ [k]) := by
  unfold swN swL
  rw [List.filter_filter]
  refine List.filter_congr fun v _ => ?_
  by_cases h1 : v.name ∈ ns <;> by_cases h2 : v.name = k <;> cases keepP S v <;> simp [h1, h2]
theorem swL_all {S : List Sn} {V : List Ver} {s : Sn} (h : sweepV S V = V) (hs : sof S s.name = some s) (hu : SU S) : swL (S.filter fun t => decide (t.name ≠ s.name)) V (s.held.map (·.1)) = sweepV (S.filter fun t => decide (t.name ≠ s.name)) V := by
  refine List.filter_congr fun v hv => ?_
  have hk := sw_iff.1 h v hv
  by_cases hm : v.name ∈ s.held.map (·.1)
  · simp only [hm, decide_true, Bool.not_true, Bool.false_or]
  · have : keepP (S.filter fun t => decide (t.name ≠ s.name)) v = true := by
      rw [keepP_iff] at hk ⊢
      rcases hk with ⟨t, ht, hh⟩ | hk
      · refine .inl ⟨t, List.mem_filter.2 ⟨ht, ?_⟩, hh⟩
        simp only [decide_eq_true_eq]
        intro e
        have h1 := hu t ht
        rw [e, hs] at h1
        cases h1
        exact hm (List.mem_map.2 ⟨_, hh, rfl⟩)
      · exact .inr hk
    rw [this]; simp
theorem nms_app_le {V : List Ver} {v : Ver} (hs : SrtN V) (hs' : SrtN (insV V v)) : (nms (insV V v)).length ≤ (nms V).length + if fof V v.name = [] then 1 else 0 := by
  have hnd := (nms_lt hs').imp fun h => slt_ne h
  by_cases h : fof V v.name = []
  · rw [if_pos h]
    have : (nms (insV V v)).length ≤ (v.name :: nms V).length := len_sub hnd fun k hk => by
      obtain ⟨w, hw, rfl⟩ := nms_mem.1 hk
      rcases insV_mem.1 hw with rfl | hw
      · exact List.mem_cons_self
      · exact List.mem_cons_of_mem _ (nms_mem.2 ⟨w, hw, rfl⟩)
    simpa using this
  · rw [if_neg h]
    obtain ⟨u, hu⟩ := List.exists_mem_of_ne_nil _ h
    obtain ⟨hu1, hu2⟩ := fof_mem.1 hu
    exact len_sub hnd fun k hk => by
      obtain ⟨w, hw, rfl⟩ := nms_mem.1 hk
      rcases insV_mem.1 hw with rfl | hw
      · exact nms_mem.2 ⟨u, hu1, hu2⟩
      · exact nms_mem.2 ⟨w, hw, rfl⟩
theorem Inv.sub (h : Inv M) {S : List Sn} {g : Ver → Ver} {q : Ver → Bool} (hS : ∀ s ∈ S, s ∈ M.S) (hSs : S.Pairwise fun a b => a.name < b.name) (hSl : S.length ≤ M.S.length)
    (hg : ∀ v, (g v).name = v.name ∧ (g v).gen = v.gen ∧ (g v).time = v.time ∧ (g v).refs.length = v.refs.length) (hr : ∀ v ∈ M.V, (∀ r ∈ v.refs, rightB r = true) → ∀ r ∈ (g v).refs, rightB r = true)
    (hq : ∀ v ∈ M.V, q (g v) = keepP S (g v)) : Inv { M with S := S, V := (M.V.map g).filter q } := by
  have hm : ∀ w ∈ (M.V.map g).filter q, ∃ v ∈ M.V, g v = w := fun w hw => by
    obtain ⟨v, hv, e⟩ := List.mem_map.1 (List.mem_filter.1 hw).1
    exact ⟨v, hv, e⟩
  have hsrt : SrtG ((M.V.map g).filter q) := (srtG_map h.v fun v => ⟨(hg v).1, (hg v).2.1⟩).sublist List.filter_sublist
  refine { ss := hSs, v := hsrt, g := ?_, t := ?_, r := ?_, rr := ?_, nm := ?_, nl := ?_, fl := ?_, s16 := Nat.le_trans hSl h.s16, sn := fun s hs => h.sn s (hS s hs), hh := fun s hs => h.hh s (hS s hs), hs := fun s hs => h.hs s (hS s hs), se := ?_, st := fun s hs => h.st s (hS s hs), vt := ?_, sw := ?_, now := h.now }
  · intro w hw; obtain ⟨v, hv, rfl⟩ := hm w hw; rw [(hg v).2.1]; exact h.g v hv
  · intro w hw; obtain ⟨v, hv, rfl⟩ := hm w hw; rw [(hg v).2.2.1]; exact h.t v hv
  · intro w hw; obtain ⟨v, hv, rfl⟩ := hm w hw; rw [(hg v).2.2.2]; exact h.r v hv
  · intro w hw; obtain ⟨v, hv, rfl⟩ := hm w hw; exact hr v hv (h.rr v hv)
  · intro w hw; obtain ⟨v, hv, rfl⟩ := hm w hw; rw [(hg v).1]; exact h.nm v hv
  · exact Nat.le_trans (nms_sub hsrt.n fun w hw => by obtain ⟨v, hv, rfl⟩ := hm w hw; exact ⟨v, hv, (hg v).1.symm⟩) h.nl
  · intro k
    show (fof ((M.V.map g).filter q) k).length ≤ 32
    rw [fof_filter, fof_map fun v => (hg v).1]
    refine Nat.le_trans (List.length_filter_le _ _) ?_
    rw [List.length_map]; exact h.fl k
  · intro s hs x hx
    obtain ⟨v, hv, h1, h2⟩ := h.se s (hS s hs) x hx
    refine ⟨g v, List.mem_filter.2 ⟨List.mem_map_of_mem hv, ?_⟩, by rw [(hg v).1]; exact h1, by rw [(hg v).2.1]; exact h2⟩
    rw [hq v hv, keepP_iff]
    refine .inl ⟨s, hs, ?_⟩
    rw [(hg v).1, (hg v).2.1, h1, h2]; exact hx
  · intro w hw; obtain ⟨v, hv, rfl⟩ := hm w hw; rw [(hg v).2.2.1]; exact h.vt v hv
  · refine sw_iff.2 fun w hw => ?_
    obtain ⟨v, hv, rfl⟩ := hm w hw
    rw [← hq v hv]; exact (List.mem_filter.1 hw).2
theorem map_id_filter (V : List Ver) (q : Ver → Bool) : (V.map id).filter q = V.filter q := by rw [List.map_id]
theorem Inv.drop (h : Inv M) (n : List UInt8) (g : Int) : Inv (dropM M n g) := by
  refine h.sub (S := M.S) (g := fun v => if v.name = n ∧ v.gen = g then goneV v else v) (q := keepP M.S) (fun s hs => hs) h.ss (Nat.le_refl _) (fun v => ?_) (fun v _ hr => ?_) (fun v _ => rfl)
  · refine ⟨(mark_f n g v).1, (mark_f n g v).2, ?_, ?_⟩ <;> split <;> rfl
  · split
    · exact hr
    · exact hr
theorem Inv.stepD (h : Inv M) (x : List UInt8 × Int) : Inv (stepD M x) := by
  unfold Nam.stepD
  split
  · exact h
  · exact h.drop _ _
theorem Inv.fold (h : Inv M) (l : List (List UInt8 × Int)) : Inv (l.foldl Nam.stepD M) := by
  induction l generalizing M with
  | nil => exact h
  | cons x l ih => exact ih (h.stepD x)
theorem moveR_right {ms : List Mv} (hm : ∀ m ∈ ms, moveOk m = true) {r : Rf} (hr : rightB r = true) : rightB (moveR ms r) = true := by
  unfold moveR
  cases hf : ms.find? (fun m => decide (m.fb = r.bin ∧ m.fs = r.slot)) with
  | none => exact hr
  | some m =>
    have := hm m (List.mem_of_find?_eq_some hf)
    simp only [moveOk, spotB, inBinB, Bool.and_eq_true, decide_eq_true_eq] at this
    simp only [rightB, Bool.and_eq_true, decide_eq_true_eq] at hr ⊢
    omega
theorem Inv.step (h : Inv M) (f : Fa) : Inv (stepM M f) := by
  unfold stepM
  by_cases hb : checkB M f = 0
  case neg => rw [if_pos hb]; exact h
  rw [if_neg (by simpa using hb)]
  have ok := checkB0.1 hb
  obtain ⟨hk, hbad, hrl, hhl, hml, hmo, hho, hro, hbare⟩ := checkF0 ok.c
  obtain ⟨hnm, hgen, hng, hnt, h9⟩ := badB0 hbad
  have hng := numB_iff.1 hng
  have hnt := numB_iff.1 hnt
  unfold applyM
  split
  · rename_i e
    have := ok.k8 e
    exact { h with st := fun s hs => by have := h.st s hs; constructor; exact this.1; show s.time ≤ f.time; omega, vt := fun v hv => by have := h.vt v hv; show v.time ≤ f.time; omega, now := hnt }
  split
  · rename_i e
    obtain ⟨k1, k2, k3, k4⟩ := ok.k3 e
    have hname := hnm (by simp [nName, e])
    have hgen := hgen (by simp [nGen, e])
    have hs : SrtG (insV M.V ⟨f.name, f.gen, f.time, f.refs, false⟩) := insV_srt h.v fun w hw => by
      have := topG_le (fof_srt h.v f.name) w hw
      unfold nextG at k2
      show w.gen < f.gen
      omega
    exact {
      ss := h.ss, v := hs,
      g := (fun w hw => by rcases insV_mem.1 hw with rfl | hw; exact ⟨hgen, hng.2⟩; exact h.g w hw),
      t := (fun w hw => by rcases insV_mem.1 hw with rfl | hw; exact hnt; exact h.t w hw),
      r := (fun w hw => by rcases insV_mem.1 hw with rfl | hw; exact hrl; exact h.r w hw),
      rr := (fun w hw => by rcases insV_mem.1 hw with rfl | hw; exact hro; exact h.rr w hw),
      nm := (fun w hw => by rcases insV_mem.1 hw with rfl | hw; exact hname; exact h.nm w hw),
      nl := (by
        have h1 := nms_app_le h.v.n hs.n
        have h2 := h.nl
        show (nms (insV M.V ⟨f.name, f.gen, f.time, f.refs, false⟩)).length ≤ 64
        by_cases he : fof M.V f.name = []
        · have : (nms M.V).length ≠ 64 := fun h => k3 ⟨he, h⟩
          simp only [he, if_true] at h1
          omega
        · simp only [he, if_false] at h1
          omega),
      fl := (fun k => by
        show (fof (insV M.V ⟨f.name, f.gen, f.time, f.refs, false⟩) k).length ≤ 32
        rw [fof_insV h.v.n]
        have := h.fl k
        split
        · rename_i he
          have he : k = f.name := he
          subst he
          rw [List.length_append]
          simp; omega
        · exact this),
      s16 := h.s16, sn := h.sn, hh := h.hh, hs := h.hs,
      se := (fun s hs x hx => by obtain ⟨v, hv, hh⟩ := h.se s hs x hx; exact ⟨v, insV_mem.2 (.inr hv), hh⟩),
      st := h.st,
      vt := (fun w hw => by rcases insV_mem.1 hw with rfl | hw; exact k1; exact h.vt w hw),
      sw := (sw_iff.2 fun w hw => by
        rcases insV_mem.1 hw with rfl | hw
        · exact keepP_iff.2 (.inr rfl)
        · exact sw_iff.1 h.sw w hw),
      now := h.now }
  split
  · exact h.drop _ _
  split
  · rename_i e
    obtain ⟨k1, k2, k3, k4, k5⟩ := ok.k5 e
    have hname := hnm (by simp [nName, e])
    have eS : M.S.takeWhile (fun u => decide (u.name < f.name)) ++ M.S.dropWhile (fun u => decide (u.name < f.name)) = M.S := List.takeWhile_append_dropWhile ..
    have hss := h.ss
    rw [← eS] at hss
    obtain ⟨hA, hC, hAC⟩ := List.pairwise_append.1 hss
    have hlt : ∀ t ∈ M.S.dropWhile (fun u => decide (u.name < f.name)), f.name < t.name := fun t ht => by
      refine slt_of (drop_geS h.ss f.name t ht) fun e => ?_
      have htS : t ∈ M.S := by rw [← eS]; exact List.mem_append_right _ ht
      have := h.su t htS
      rw [← e, k2] at this; cases this
    have hlen : (insS M.S ⟨f.name, f.time, f.held⟩).length = M.S.length + 1 := by
      unfold insS
      have := congrArg List.length eS
      rw [List.length_append] at this
      simp; omega
    exact { h with
      ss := (List.pairwise_append.2 ⟨hA, List.pairwise_cons.2 ⟨hlt, hC⟩, fun a ha b hb => by
        rcases List.mem_cons.1 hb with rfl | hb
        · exact take_ltS _ _ a ha
        · exact hAC a ha b hb⟩),
      s16 := (by have := h.s16; show (insS M.S ⟨f.name, f.time, f.held⟩).length ≤ 16; omega),
      sn := (fun s hs => by rcases insS_mem.1 hs with rfl | hs; exact hname; exact h.sn s hs),
      hh := (fun s hs => by rcases insS_mem.1 hs with rfl | hs; exact hhl; exact h.hh s hs),
      hs := (fun s hs => by rcases insS_mem.1 hs with rfl | hs; exact of_decide_eq_true k5; exact h.hs s hs),
      se := (fun s hs x hx => by
        rcases insS_mem.1 hs with rfl | hs
        · obtain ⟨v, h1, h2, h3, _⟩ := live_some (k4 x hx)
          exact ⟨v, h1, h2, h3⟩
        · exact h.se s hs x hx),
      st := (fun s hs => by rcases insS_mem.1 hs with rfl | hs; exact ⟨hnt.1, k1⟩; exact h.st s hs),
      sw := (sw_iff.2 fun v hv => by
        have := sw_iff.1 h.sw v hv
        rw [keepP_iff] at this ⊢
        rcases this with ⟨s, hs, hh⟩ | hh
        · exact .inl ⟨s, insS_mem.2 (.inr hs), hh⟩
        · exact .inr hh) }
  split
  · have := h.sub (S := M.S.filter fun s => decide (s.name ≠ f.name)) (g := id) (q := keepP (M.S.filter fun s => decide (s.name ≠ f.name))) (fun s hs => (List.mem_filter.1 hs).1) (h.ss.sublist List.filter_sublist) (List.length_filter_le _ _) (fun v => ⟨rfl, rfl, rfl, rfl⟩) (fun v _ hr => hr) (fun v _ => rfl)
    rw [map_id_filter] at this
    exact this
  split
  · have := h.sub (S := M.S) (g := moveV f.moves) (q := keepP M.S) (fun s hs => hs) h.ss (Nat.le_refl _) (fun v => ⟨rfl, rfl, rfl, by simp [moveV]⟩) (fun v _ hr r hr' => by
      obtain ⟨r0, h0, rfl⟩ := List.mem_map.1 hr'
      exact moveR_right hmo (hr r0 h0)) (fun v _ => rfl)
    have e : (M.V.map (moveV f.moves)).filter (keepP M.S) = M.V.map (moveV f.moves) := List.filter_eq_self.2 fun w hw => by
      obtain ⟨v, hv, rfl⟩ := List.mem_map.1 hw
      exact sw_iff.1 h.sw v hv
    rw [e] at this
    exact this
  split
  · exact h.fold _
  exact h
theorem inv0 : Inv ⟨[], [], 0⟩ := by
  constructor <;> simp [SrtG, nms, fof, sweepV]
end Go.Proofs.YtjafpncngmbcdaaGreat.Nam
end
