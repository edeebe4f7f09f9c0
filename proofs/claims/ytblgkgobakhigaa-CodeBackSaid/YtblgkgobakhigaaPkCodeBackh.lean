/-
  Part 8: CdH, CdI, CdJ, CdK, CdL, CdN, CdS, CdT.
-/
import Derived.Test.YtblgkgobakhigaaPkCodeBackg
set_option linter.unusedSimpArgs false
set_option linter.unusedVariables false
set_option linter.unusedSectionVars false
section
namespace Go.Proofs.Ytblgkgobakhigaa.Cod
open Go Go.SL Go.SL.Stb
theorem stab_uniq {α : Type} {lt : α → α → Bool} (hw : SW lt) : ∀ {l m : List α}, Srt lt l → Srt lt m → Stab lt l m → l = m
  | [], m, _, _, h => by
    cases m with
    | nil => rfl
    | cons b m =>
      have := (h.mem hw (y := b)).1 (by simp)
      cases this
  | a :: l, m, hl, hm, h => by
    cases m with
    | nil =>
      have := (h.mem hw (y := a)).2 (by simp)
      cases this
    | cons b m =>
      obtain ⟨hl1, hl2⟩ := List.pairwise_cons.1 hl
      obtain ⟨hm1, hm2⟩ := List.pairwise_cons.1 hm
      have hba : lt b a = false := by
        rcases List.mem_cons.1 ((h.mem hw (y := b)).1 (by simp)) with e | hb
        · rw [e]; exact hw.irr a
        · exact hl1 b hb
      have hab : lt a b = false := by
        rcases List.mem_cons.1 ((h.mem hw (y := a)).2 (by simp)) with e | ha
        · rw [e]; exact hw.irr b
        · exact hm1 a ha
      have hf := h a
      rw [List.filter_cons, if_pos (alk_iff.2 ⟨hab, hba⟩), List.filter_cons, if_pos (hw.alk_self a)] at hf
      have e : b = a := (List.cons.inj hf).1
      subst e
      congr 1
      refine stab_uniq hw hl2 hm2 fun x => ?_
      have hx := h x
      rw [List.filter_cons, List.filter_cons] at hx
      split at hx
      · exact (List.cons.inj hx).2
      · exact hx
def lenC (ls : List Int) (x y : Ix) : Int := gt ls x.1 - gt ls y.1
theorem lenC_sw (ls : List Int) : SW (ltC (lenC ls)) where
  asy a b h := by
    unfold ltC lenC at *
    simp only [decide_eq_true_eq, decide_eq_false_iff_not] at *; omega
  ntr a b c h1 h2 := by
    unfold ltC lenC at *
    simp only [decide_eq_false_iff_not] at *; omega
def toIx (l : List Nat) : List Ix := l.filterMap fun i : Nat => if h : i < 256 then some ⟨(i : Int), by omega, by omega⟩ else none
theorem toIx_cons {i : Nat} {l : List Nat} (h : i < 256) : toIx (i :: l) = ⟨(i : Int), by omega, by omega⟩ :: toIx l := by
  unfold toIx
  rw [List.filterMap_cons, dif_pos h]
theorem toIx_app (a b : List Nat) : toIx (a ++ b) = toIx a ++ toIx b := List.filterMap_append ..
theorem toIx_filter {l : List Nat} (h : ∀ i ∈ l, i < 256) (p : Ix → Bool) (q : Nat → Bool) (hpq : ∀ (i : Nat) (hi : i < 256), p ⟨(i : Int), by omega, by omega⟩ = q i) : (toIx l).filter p = toIx (l.filter q) := by
  induction l with
  | nil => rfl
  | cons i l ih =>
    have hi := h i (by simp)
    have ih := ih fun j hj => h j (List.mem_cons_of_mem _ hj)
    rw [toIx_cons hi, List.filter_cons, List.filter_cons, hpq i hi]
    split
    · rw [toIx_cons hi, ih]
    · exact ih
theorem toIx_mem {l : List Nat} (h : ∀ i ∈ l, i < 256) {x : Ix} : x ∈ toIx l ↔ x.1.toNat ∈ l := by
  unfold toIx
  rw [List.mem_filterMap]
  obtain ⟨v, hv⟩ := x
  constructor
  · rintro ⟨i, hi, e⟩
    rw [dif_pos (h i hi)] at e
    have := congrArg Subtype.val (Option.some.inj e)
    simp only at this
    subst this
    simpa using hi
  · intro hx
    have hb := h _ hx
    simp only at hb
    refine ⟨v.toNat, hx, ?_⟩
    rw [dif_pos hb]
    congr 1
    exact Subtype.ext (by simp only; omega)
def ordL (ls : List Int) : List Nat := (List.range 60).flatMap fun n : Nat => (List.range 256).filter fun i => decide (ls.getD i 0 = (n : Int) + 1)
theorem ordL_lt {ls : List Int} {i : Nat} (h : i ∈ ordL ls) : i < 256 := by
  obtain ⟨n, _, hi⟩ := List.mem_flatMap.1 h
  exact List.mem_range.1 (List.mem_filter.1 hi).1
theorem usedL_lt {ls : List Int} {i : Nat} (h : i ∈ usedL ls) : i < 256 := List.mem_range.1 (List.mem_filter.1 h).1
theorem filter_flat {α : Type} (p : α → Bool) (f : Nat → List α) (r : List Nat) : (r.flatMap f).filter p = r.flatMap fun n => (f n).filter p := by
  induction r with
  | nil => rfl
  | cons n r ih => rw [List.flatMap_cons, List.filter_append, ih, List.flatMap_cons]
theorem flat_one {α : Type} {g : Nat → List α} {m : Nat} : ∀ {r : List Nat}, r.Nodup → (∀ n ∈ r, n ≠ m → g n = []) → r.flatMap g = if m ∈ r then g m else []
  | [], _, _ => rfl
  | n :: r, hn, h => by
    have ih := flat_one (r := r) (List.nodup_cons.1 hn).2 fun k hk => h k (List.mem_cons_of_mem _ hk)
    rw [List.flatMap_cons, ih]
    by_cases hnm : n = m
    · subst hnm
      rw [if_neg (List.nodup_cons.1 hn).1, if_pos (by simp), List.append_nil]
    · rw [h n (by simp) hnm, List.nil_append]
      by_cases hm : m ∈ r
      · rw [if_pos hm, if_pos (by simp [hm])]
      · rw [if_neg hm, if_neg (by simp [hm, Ne.symm hnm])]
theorem ord_srt (ls : List Int) : Srt (ltC (lenC ls)) (toIx (ordL ls)) := by
  have key : ∀ r : List Nat, r.Pairwise (· < ·) → Srt (ltC (lenC ls)) (toIx (r.flatMap fun n : Nat => (List.range 256).filter fun i => decide (ls.getD i 0 = (n : Int) + 1))) := fun r => by
    induction r with
    | nil => intro _; exact List.Pairwise.nil
    | cons n r ih =>
      intro hp
      obtain ⟨h1, h2⟩ := List.pairwise_cons.1 hp
      rw [List.flatMap_cons, toIx_app]
      have hlt : ∀ (k : Nat), ∀ i ∈ (List.range 256).filter (fun i => decide (ls.getD i 0 = (k : Int) + 1)), i < 256 := fun k i hi => List.mem_range.1 (List.mem_filter.1 hi).1
      have hv : ∀ (k : Nat) (x : Ix), x ∈ toIx ((List.range 256).filter fun i => decide (ls.getD i 0 = (k : Int) + 1)) → gt ls x.1 = (k : Int) + 1 := fun k x hx => by
        have := (toIx_mem (hlt k)).1 hx
        exact of_decide_eq_true (List.mem_filter.1 this).2
      refine Srt.app ?_ (ih h2) fun a ha c hc => ?_
      · refine List.pairwise_iff_forall_sublist.2 fun {a b} hab => ?_
        have ha := hv n a (hab.subset (by simp))
        have hb := hv n b (hab.subset (by simp))
        unfold ltC lenC
        rw [decide_eq_false_iff_not]; omega
      · have e1 := hv n a ha
        have hlt2 : ∀ i ∈ r.flatMap (fun n : Nat => (List.range 256).filter fun i => decide (ls.getD i 0 = (n : Int) + 1)), i < 256 := fun i hi => by
          obtain ⟨k, _, hk⟩ := List.mem_flatMap.1 hi
          exact hlt k i hk
        obtain ⟨k, hk, hik⟩ := List.mem_flatMap.1 ((toIx_mem hlt2).1 hc)
        have e2 := hv k c ((toIx_mem (hlt k)).2 hik)
        have := h1 k hk
        unfold ltC lenC
        rw [decide_eq_false_iff_not]; omega
  exact key _ List.pairwise_lt_range
theorem ord_stab {ls : List Int} (ho : ∀ i : Nat, i < 256 → 0 ≤ ls.getD i 0 ∧ ls.getD i 0 ≤ 60) : Stab (ltC (lenC ls)) (toIx (usedL ls)) (toIx (ordL ls)) := fun x => by
  have hq : ∀ (i : Nat) (hi : i < 256), alk (ltC (lenC ls)) x ⟨(i : Int), by omega, by omega⟩ = decide (ls.getD i 0 = gt ls x.1) := fun i hi => by
    rw [Bool.eq_iff_iff, alk_iff, decide_eq_true_eq]
    unfold ltC lenC
    simp only [decide_eq_false_iff_not]
    have : gt ls (i : Int) = ls.getD i 0 := by unfold gt; simp
    rw [this]; omega
  rw [toIx_filter (fun i hi => ordL_lt hi) _ _ hq, toIx_filter (fun i hi => usedL_lt hi) _ _ hq]
  congr 1
  unfold ordL usedL
  rw [filter_flat, List.filter_filter]
  have hx := ho x.1.toNat (by have := x.2; omega)
  have hxg : gt ls x.1 = ls.getD x.1.toNat 0 := rfl
  rw [← hxg] at hx
  generalize gt ls x.1 = g at hx
  rcases Int.lt_or_le 0 g with hg | hg
  · obtain ⟨m, rfl⟩ : ∃ m : Nat, g = (m : Int) + 1 := ⟨(g - 1).toNat, by omega⟩
    rw [flat_one (m := m) List.nodup_range (fun n _ hnm => by
      rw [List.filter_filter]
      refine List.filter_eq_nil_iff.2 fun i hi => ?_
      simp only [Bool.and_eq_true, decide_eq_true_eq, not_and]
      omega), if_pos (List.mem_range.2 (by omega)), List.filter_filter]
    refine List.filter_congr fun i hi => ?_
    rw [Bool.eq_iff_iff]
    simp only [Bool.and_eq_true, decide_eq_true_eq]
    omega
  · have : g = 0 := by omega
    subst this
    have e1 : (List.range 60).flatMap (fun n : Nat => ((List.range 256).filter fun i => decide (ls.getD i 0 = (n : Int) + 1)).filter fun i => decide (ls.getD i 0 = 0)) = [] := by
      refine List.flatMap_eq_nil_iff.2 fun n _ => ?_
      rw [List.filter_filter]
      refine List.filter_eq_nil_iff.2 fun i hi => ?_
      simp only [Bool.and_eq_true, decide_eq_true_eq, not_and]
      omega
    rw [e1]
    refine (List.filter_eq_nil_iff.2 fun i hi => ?_).symm
    simp only [Bool.and_eq_true, decide_eq_true_eq, not_and]
    omega
theorem sorted_ord {ls : List Int} {u : List Ix} (ho : ∀ i : Nat, i < 256 → 0 ≤ ls.getD i 0 ∧ ls.getD i 0 ≤ 60) (h1 : Srt (ltC (lenC ls)) u) (h2 : Stab (ltC (lenC ls)) (toIx (usedL ls)) u) : u = toIx (ordL ls) :=
  stab_uniq (lenC_sw ls) h1 (ord_srt ls) fun x => (ord_stab ho x).trans (h2 x).symm
end Go.Proofs.Ytblgkgobakhigaa.Cod
end
section
namespace Go.Proofs.Ytblgkgobakhigaa.Cod
open Go Go.SL Go.SL.Stb
def zs (k : Nat) : List UInt8 := List.replicate k 48
def os (k : Nat) : List UInt8 := List.replicate k 49
theorem bits_dbl (n k : Nat) : bitsN (2 * n) (k + 1) = bitsN n k ++ [48] := by
  show bitsN (2 * n / 2) k ++ [UInt8.ofNat (48 + 2 * n % 2)] = _
  rw [Nat.mul_div_cancel_left n (by omega), Nat.mul_mod_right]; rfl
theorem bits_shl (n k j : Nat) : bitsN (n * 2 ^ j) (k + j) = bitsN n k ++ zs j := by
  induction j with
  | zero => simp [zs]
  | succ j ih =>
    rw [Nat.pow_succ, ← Nat.mul_assoc, Nat.mul_comm (n * 2 ^ j) 2, ← Nat.add_assoc, bits_dbl, ih, List.append_assoc]
    congr 1
    exact (List.replicate_succ' (n := j) (a := (48 : UInt8))).symm
def wtB (ls : List Int) (b : Nat) : Nat := 2 ^ (60 - (ls.getD b 0).toNat)
def sumW (ls : List Int) (l : List Nat) : Nat := sumN (l.map (wtB ls))
def sumB (ls : List Int) (b : Nat) : Nat := sumW ls ((ordL ls).takeWhile fun c => decide (c ≠ b))
def wordL (ls : List Int) (b : Nat) : List UInt8 := if 0 < ls.getD b 0 then bitsN (sumB ls b / wtB ls b) (ls.getD b 0).toNat else []
theorem ordL_mem {ls : List Int} (ho : ∀ i : Nat, i < 256 → 0 ≤ ls.getD i 0 ∧ ls.getD i 0 ≤ 60) {i : Nat} : i ∈ ordL ls ↔ i < 256 ∧ 0 < ls.getD i 0 := by
  constructor
  · intro h
    obtain ⟨n, _, hi⟩ := List.mem_flatMap.1 h
    obtain ⟨h1, h2⟩ := List.mem_filter.1 hi
    have := of_decide_eq_true h2
    exact ⟨List.mem_range.1 h1, by omega⟩
  · rintro ⟨h1, h2⟩
    have := ho i h1
    refine List.mem_flatMap.2 ⟨(ls.getD i 0 - 1).toNat, List.mem_range.2 (by omega), List.mem_filter.2 ⟨List.mem_range.2 h1, decide_eq_true (by omega)⟩⟩
theorem ordL_nodup (ls : List Int) : (ordL ls).Nodup := by
  unfold ordL
  have key : ∀ r : List Nat, r.Nodup → (r.flatMap fun n : Nat => (List.range 256).filter fun i => decide (ls.getD i 0 = (n : Int) + 1)).Nodup := fun r => by
    induction r with
    | nil => intro _; exact List.nodup_nil
    | cons n r ih =>
      intro hn
      obtain ⟨h1, h2⟩ := List.nodup_cons.1 hn
      rw [List.flatMap_cons]
      refine List.nodup_append.2 ⟨List.nodup_range.filter _, ih h2, fun a ha b hb e => ?_⟩
      subst e
      have e1 := of_decide_eq_true (List.mem_filter.1 ha).2
      obtain ⟨k, hk, hik⟩ := List.mem_flatMap.1 hb
      have e2 := of_decide_eq_true (List.mem_filter.1 hik).2
      have : n = k := by omega
      subst this
      exact h1 hk
  exact key _ List.nodup_range
theorem ord_perm {ls : List Int} (ho : ∀ i : Nat, i < 256 → 0 ≤ ls.getD i 0 ∧ ls.getD i 0 ≤ 60) : (ordL ls).Perm (usedL ls) := by
  refine (List.perm_ext_iff_of_nodup (ordL_nodup ls) (List.nodup_range.filter _)).2 fun i => ?_
  rw [ordL_mem ho, List.mem_filter, List.mem_range, decide_eq_true_eq]
theorem takeWhile_at {u : List Nat} (hn : u.Nodup) {k b : Nat} (h : u[k]? = some b) : u.takeWhile (fun c => decide (c ≠ b)) = u.take k := by
  induction u generalizing k with
  | nil => simp at h
  | cons a u ih =>
    obtain ⟨h1, h2⟩ := List.nodup_cons.1 hn
    cases k with
    | zero =>
      have : a = b := by simpa using h
      subst this
      rw [List.takeWhile_cons, if_neg (by simp)]; rfl
    | succ k =>
      have hb : u[k]? = some b := by simpa using h
      have hab : a ≠ b := fun e => h1 (e ▸ List.mem_of_getElem? hb)
      rw [List.takeWhile_cons, if_pos (by simpa using hab), ih h2 hb]; rfl
theorem sumB_at {ls : List Int} {k b : Nat} (h : (ordL ls)[k]? = some b) : sumB ls b = sumW ls ((ordL ls).take k) := by
  unfold sumB
  rw [takeWhile_at (ordL_nodup ls) h]
theorem sumW_suc {ls : List Int} {k b : Nat} (h : (ordL ls)[k]? = some b) : sumW ls ((ordL ls).take (k + 1)) = sumW ls ((ordL ls).take k) + wtB ls b := by
  unfold sumW
  rw [List.take_add_one, h, List.map_append, sumN_app]
  simp [sumN]
theorem sumN_take {l : List Nat} (k : Nat) : sumN (l.take k) ≤ sumN l := by
  conv => rhs; rw [← List.take_append_drop k l]
  rw [sumN_app]; omega
theorem sumW_le {ls : List Int} (ho : LOk ls) (k : Nat) : sumW ls ((ordL ls).take k) ≤ 2 ^ 60 := by
  have h1 : sumW ls (ordL ls) = krL ls := by
    unfold sumW krL
    exact sumN_perm ((ord_perm ho.rg).map _)
  have h2 : sumW ls ((ordL ls).take k) ≤ sumW ls (ordL ls) := by
    unfold sumW
    rw [List.map_take]
    exact sumN_take k
  have := ho.kr
  omega
theorem ord_le {ls : List Int} {i j a b : Nat} (hij : i ≤ j) (ha : (ordL ls)[i]? = some a) (hb : (ordL ls)[j]? = some b) : ls.getD a 0 ≤ ls.getD b 0 := by
  have hp : (ordL ls).Pairwise fun a b => ls.getD a 0 ≤ ls.getD b 0 := by
    unfold ordL
    have key : ∀ r : List Nat, r.Pairwise (· < ·) → (r.flatMap fun n : Nat => (List.range 256).filter fun i => decide (ls.getD i 0 = (n : Int) + 1)).Pairwise fun a b => ls.getD a 0 ≤ ls.getD b 0 := fun r => by
      induction r with
      | nil => intro _; exact List.Pairwise.nil
      | cons n r ih =>
        intro hn
        obtain ⟨h1, h2⟩ := List.pairwise_cons.1 hn
        rw [List.flatMap_cons]
        refine List.pairwise_append.2 ⟨List.pairwise_iff_forall_sublist.2 fun {a b} hab => ?_, ih h2, fun a ha b hb => ?_⟩
        · have e1 := of_decide_eq_true (List.mem_filter.1 (hab.subset (by simp : a ∈ [a, b]))).2
          have e2 := of_decide_eq_true (List.mem_filter.1 (hab.subset (by simp : b ∈ [a, b]))).2
          omega
        · have e1 := of_decide_eq_true (List.mem_filter.1 ha).2
          obtain ⟨k, hk, hik⟩ := List.mem_flatMap.1 hb
          have e2 := of_decide_eq_true (List.mem_filter.1 hik).2
          have := h1 k hk
          omega
    exact key _ List.pairwise_lt_range
  rcases Nat.lt_or_ge i j with h | h
  · obtain ⟨hi, e1⟩ := List.getElem?_eq_some_iff.1 ha
    obtain ⟨hj, e2⟩ := List.getElem?_eq_some_iff.1 hb
    have := List.pairwise_iff_getElem.1 hp i j hi hj h
    rwa [e1, e2] at this
  · have : i = j := by omega
    subst this
    rw [ha] at hb; cases hb
    exact Int.le_refl _
theorem ord_rg {ls : List Int} (ho : LOk ls) {k b : Nat} (h : (ordL ls)[k]? = some b) : b < 256 ∧ 1 ≤ ls.getD b 0 ∧ ls.getD b 0 ≤ 60 := by
  obtain ⟨h1, h2⟩ := (ordL_mem ho.rg).1 (List.mem_of_getElem? h)
  have := ho.rg b h1
  exact ⟨h1, by omega, this.2⟩
structure Num (ls : List Int) (k n long : Nat) : Prop where
  z : k = 0 → n = 0 ∧ long = 0
  s : k ≠ 0 → ∃ b, (ordL ls)[k - 1]? = some b ∧ (ls.getD b 0).toNat = long ∧ (n + 1) * 2 ^ (60 - long) = sumW ls ((ordL ls).take k)
theorem Num.next {ls : List Int} (ho : LOk ls) {k n long b : Nat} (h : Num ls k n long) (hb : (ordL ls)[k]? = some b) :
    long ≤ (ls.getD b 0).toNat ∧ (if k = 0 then n else n + 1) * 2 ^ ((ls.getD b 0).toNat - long) = sumB ls b / wtB ls b ∧ Num ls (k + 1) (sumB ls b / wtB ls b) (ls.getD b 0).toNat ∧ sumB ls b / wtB ls b < 2 ^ (ls.getD b 0).toNat := by
  obtain ⟨hb1, hb2, hb3⟩ := ord_rg ho hb
  have hsb := sumB_at hb
  have hsu := sumW_suc hb
  have hle := sumW_le ho (k + 1)
  generalize hL : (ls.getD b 0).toNat = L
  have hL60 : 1 ≤ L ∧ L ≤ 60 := by omega
  have hw : wtB ls b = 2 ^ (60 - L) := by unfold wtB; rw [hL]
  have hwp : 0 < 2 ^ (60 - L) := Nat.pow_pos (by omega)
  have hpow : 2 ^ L * 2 ^ (60 - L) = 2 ^ 60 := by rw [← Nat.pow_add]; congr 1; omega
  rw [hw] at hsu ⊢
  have main : long ≤ L ∧ ∃ m, m * 2 ^ (60 - L) = sumB ls b ∧ (if k = 0 then n else n + 1) * 2 ^ (L - long) = m := by
    by_cases hk : k = 0
    · subst hk
      obtain ⟨rfl, rfl⟩ := h.z rfl
      refine ⟨by omega, 0, ?_, by simp⟩
      rw [hsb]
      simp [sumW, sumN]
    · obtain ⟨a, ha, hal, hs⟩ := h.s hk
      have hab := ord_le (show k - 1 ≤ k by omega) ha hb
      have haL : long ≤ L := by omega
      refine ⟨haL, (n + 1) * 2 ^ (L - long), ?_, by rw [if_neg hk]⟩
      rw [hsb, ← hs, Nat.mul_assoc, ← Nat.pow_add]
      congr 2; omega
  obtain ⟨m1, m, m2, m3⟩ := main
  have hdiv : sumB ls b / 2 ^ (60 - L) = m := by rw [← m2, Nat.mul_div_cancel _ hwp]
  rw [hdiv]
  have hnext : (m + 1) * 2 ^ (60 - L) = sumW ls ((ordL ls).take (k + 1)) := by
    rw [hsu, ← hsb, ← m2, Nat.add_mul, Nat.one_mul]
  refine ⟨m1, m3, ⟨fun e => by omega, fun _ => ⟨b, by simpa using hb, hL, hnext⟩⟩, ?_⟩
  have h1 : (m + 1) * 2 ^ (60 - L) ≤ 2 ^ L * 2 ^ (60 - L) := by rw [hnext, hpow]; exact hle
  have := Nat.le_of_mul_le_mul_right h1 hwp
  omega
theorem Num.room {ls : List Int} (ho : LOk ls) {k n long b : Nat} (h : Num ls k n long) (hk : k ≠ 0) (hb : (ordL ls)[k]? = some b) : n + 1 < 2 ^ long ∧ 1 ≤ long := by
  obtain ⟨a, ha, hal, hs⟩ := h.s hk
  obtain ⟨ha1, ha2, ha3⟩ := ord_rg ho ha
  have hsu := sumW_suc hb
  have hle := sumW_le ho (k + 1)
  have hwp : 0 < wtB ls b := Nat.pow_pos (by omega)
  have hpow : 2 ^ long * 2 ^ (60 - long) = 2 ^ 60 := by rw [← Nat.pow_add]; congr 1; omega
  have h1 : (n + 1) * 2 ^ (60 - long) < 2 ^ long * 2 ^ (60 - long) := by rw [hs, hpow]; omega
  exact ⟨Nat.lt_of_mul_lt_mul_right h1, by omega⟩
def fitsP (ls : List Int) : Prop := (∀ i, i < 256 → 0 ≤ ls.getD i 0 ∧ ls.getD i 0 ≤ 60) ∧ krL ls ≤ 2 ^ 60
instance (ls : List Int) : Decidable (fitsP ls) := by unfold fitsP; infer_instance
theorem fits_ok {ls : List Int} (hl : ls.length = 256) : fitsP ls ↔ LOk ls := ⟨fun h => ⟨hl, h.1, h.2⟩, fun h => ⟨h.rg, h.kr⟩⟩
def wordsL (ls : List Int) : List (List UInt8) := if fitsP ls then (List.range 256).map (wordL ls) else List.replicate 256 []
def wordsE (ls : List Int) : Int := if fitsP ls then 0 else 2
def wordsTo (ls : List Int) (k : Nat) : List (List UInt8) := (List.range 256).map fun b => if b ∈ (ordL ls).take k then wordL ls b else []
theorem wordsTo_len (ls : List Int) (k : Nat) : (wordsTo ls k).length = 256 := by simp [wordsTo]
theorem wordsTo_zero (ls : List Int) : wordsTo ls 0 = List.replicate 256 [] := by
  unfold wordsTo
  refine List.ext_getElem? fun i => ?_
  rw [List.getElem?_map, List.getElem?_replicate]
  by_cases h : i < 256
  · rw [List.getElem?_range h, if_pos h]; simp
  · rw [List.getElem?_eq_none (by simp; omega), if_neg h]; rfl
theorem wordsTo_suc {ls : List Int} {k b : Nat} (hb : (ordL ls)[k]? = some b) : wordsTo ls (k + 1) = (wordsTo ls k).set b (wordL ls b) := by
  refine List.ext_getElem? fun i => ?_
  have hlt := ordL_lt (List.mem_of_getElem? hb)
  rw [List.getElem?_set, wordsTo_len]
  have htk : (ordL ls).take (k + 1) = (ordL ls).take k ++ [b] := by rw [List.take_add_one, hb]; rfl
  by_cases h : b = i
  · subst h
    rw [if_pos rfl, if_pos hlt]
    unfold wordsTo
    rw [List.getElem?_map, List.getElem?_range hlt, htk]
    simp
  · rw [if_neg h]
    unfold wordsTo
    rw [List.getElem?_map, List.getElem?_map, htk]
    cases hr : (List.range 256)[i]? with
    | none => rfl
    | some j =>
      have : j = i := by
        obtain ⟨hj, e⟩ := List.getElem?_eq_some_iff.1 hr
        rw [List.getElem_range] at e
        exact e.symm
      subst this
      have : (j ∈ (ordL ls).take k ++ [b]) ↔ j ∈ (ordL ls).take k := by
        rw [List.mem_append, List.mem_singleton]
        constructor
        · rintro (h' | h')
          · exact h'
          · exact (h h'.symm).elim
        · exact .inl
      simp only [Option.map_some, this]
theorem wordsTo_all {ls : List Int} (ho : LOk ls) : wordsTo ls (ordL ls).length = wordsL ls := by
  unfold wordsTo wordsL
  rw [if_pos ((fits_ok ho.ln).2 ho), List.take_length]
  refine List.map_congr_left fun b hb => ?_
  have := List.mem_range.1 hb
  by_cases h : 0 < ls.getD b 0
  · rw [if_pos ((ordL_mem ho.rg).2 ⟨this, h⟩)]
  · rw [if_neg fun hm => h ((ordL_mem ho.rg).1 hm).2]
    unfold wordL
    rw [if_neg h]
theorem wordL_at {ls : List Int} (ho : LOk ls) {k b : Nat} (hb : (ordL ls)[k]? = some b) : wordL ls b = bitsN (sumB ls b / wtB ls b) (ls.getD b 0).toNat := by
  have := (ord_rg ho hb).2.1
  unfold wordL
  rw [if_pos (by omega)]
end Go.Proofs.Ytblgkgobakhigaa.Cod
end
section
namespace Go.Proofs.Ytblgkgobakhigaa.Cod
open Go Go.SL Go.SL.Stb Go.Proofs Go.Proofs.Ytblgkgobakhigaa.Sh
variable {B : World} {H : List Asrt} {K : Value → WT} {W : WT}
def krTo (ls : List Int) (n : Nat) : Nat := sumN (((List.range n).filter fun i => decide (0 < ls.getD i 0)).map fun i => 2 ^ (60 - (ls.getD i 0).toNat))
theorem krTo_suc (ls : List Int) (n : Nat) : krTo ls (n + 1) = krTo ls n + if 0 < ls.getD n 0 then 2 ^ (60 - (ls.getD n 0).toNat) else 0 := by
  unfold krTo
  rw [List.range_succ, List.filter_append, List.map_append, sumN_app]
  congr 1
  rw [List.filter_cons]
  by_cases h : 0 < ls.getD n 0
  · rw [if_pos (by simpa using h), if_pos h]; simp [sumN]
  · rw [if_neg (by simpa using h), if_neg h]; rfl
theorem krTo_mono (ls : List Int) {n m : Nat} (h : n ≤ m) : krTo ls n ≤ krTo ls m := by
  induction m with
  | zero => have : n = 0 := by omega
            subst this; exact Nat.le_refl _
  | succ m ih =>
    rcases Nat.lt_or_ge n (m + 1) with hl | hl
    · have := ih (by omega)
      rw [krTo_suc]; omega
    · have : n = m + 1 := by omega
      subst this; exact Nat.le_refl _
theorem getD_of {l : List Int} {i : Nat} {x : Int} (h : l[i]? = some x) : l.getD i 0 = x := by
  rw [List.getD_eq_getElem?_getD, h]; rfl
def strs (l : List (List UInt8)) : List Value := l.map str
theorem strs_set {l : List (List UInt8)} {n : Nat} {x : List UInt8} : (strs l).set n (str x) = strs (l.set n x) := by
  unfold strs
  rw [List.map_set]
theorem strs_rep : strs (List.replicate 256 []) = List.replicate 256 (.string ⟨#[]⟩) := by
  unfold strs
  rw [List.map_replicate]
theorem u_wordsA : Try.prog.underlying 28 = some (.array 256 9) := by kernel_rfl
instance cells_zstr : CellsI (.agg (List.replicate 256 (.string ⟨#[]⟩)).toArray) (strs (List.replicate 256 [])) := ⟨by rw [strs_rep]; rfl⟩
set_option maxRecDepth 100000
theorem build_zstr (w : World) : (Instr.build 28 #[]).run Try.prog w = .ok (.agg (strs (List.replicate 256 [])).toArray) w := by
  rw [strs_rep]
  kernel_rfl
theorem allc_strs (l : List (List UInt8)) : AllC (strs l) := ⟨fun y hy => by
  unfold strs at hy
  obtain ⟨x, _, rfl⟩ := List.mem_map.1 hy
  rfl⟩
theorem allc_ints (l : List Int) : AllC (ints l) := ⟨fun y hy => by
  unfold ints at hy
  obtain ⟨x, _, rfl⟩ := List.mem_map.1 hy
  rfl⟩
theorem sls_ix {T : Nat} {v : Value} {l : List Ix} : sls cX T 1 v l = sls cI T 1 v (l.map (·.1)) := by
  unfold sls
  rw [List.length_map]
  congr 1
  induction l with
  | nil => rfl
  | cons x l ih => rw [List.flatMap_cons, List.map_cons, List.flatMap_cons, ih]
theorem shl_of {n : Int} {c : Nat} {r : Int} (hc : c ≤ 64) (e : IntKind.wrap .u64 (n * 2 ^ c) = r) (h : E B H (K (.int .u64 r))) : E B H (S.sh .shl (.int .u64 n) (.int .i64 (c : Int)) K) := fun w hw => ⟨by omega, by
  have := h w hw
  rw [← e] at this
  show K (.int .u64 (IntKind.wrap .u64 (n * 2 ^ min ((c : Int).toNat) 64))) w
  rw [Int.toNat_natCast, Nat.min_eq_left hc]; exact this⟩
attribute [local irreducible] S.pick S.ld S.ldN S.st S.box S.nc S.fad S.ixS S.ixA S.chr S.prt S.ext S.bin S.sh S.sbin S.beq S.neg1 S.com1 S.not1 S.cvt S.str1 S.lenS S.len S.cap S.lenM S.mx S.mn S.mkM S.cond S.gd S.fa S.dr S.rck S.join S.loop S.cvv S.eqv S.slc S.slcS S.b2s S.lk V U CF Gives E cel mpb osl ros dct dit itr
theorem E_shl64 {n c : Nat} (hc : c ≤ 64) (hn : n * 2 ^ c < 18446744073709551616) (h : E B H (K (.int .u64 ((n * 2 ^ c : Nat) : Int)))) : E B H (S.sh .shl (.int .u64 (n : Int)) (.int .i64 (c : Int)) K) := by
  refine shl_of hc ?_ h
  have e : (n : Int) * 2 ^ c = ((n * 2 ^ c : Nat) : Int) := by simp
  rw [e]
  exact wrap64 _ (by omega) (by omega)
theorem E_add64 {a b : Nat} (h1 : a + b < 18446744073709551616) (h : E B H (K (.int .u64 ((a + b : Nat) : Int)))) : E B H (S.bin .add (.int .u64 (a : Int)) (.int .u64 (b : Int)) K) := by
  refine E_add ?_
  rw [show (a : Int) + b = ((a + b : Nat) : Int) by omega, wrap64 _ (by omega) (by omega)]
  exact h
theorem E_sub64 {a b : Nat} (h1 : b ≤ a) (h2 : a < 18446744073709551616) (h : E B H (K (.int .u64 ((a - b : Nat) : Int)))) : E B H (S.bin .sub (.int .u64 (a : Int)) (.int .u64 (b : Int)) K) := by
  refine E_sub ?_
  rw [show (a : Int) - b = ((a - b : Nat) : Int) by omega, wrap64 _ (by omega) (by omega)]
  exact h
theorem E_whole {x : Nat} (hx : x ≤ 60) (h : E B H (K (.int .u64 ((2 ^ (60 - x) : Nat) : Int)))) : E B H (S.sh .shr (.int .u64 1152921504606846976) (I x) K) := by
  refine E_shrI (by decide) (by omega) (by rw [Int.toNat_natCast]; show x ≤ 64; omega) ?_
  rw [Int.toNat_natCast]
  have e : (1152921504606846976 : Int) / 2 ^ x = ((2 ^ (60 - x) : Nat) : Int) := by
    have h1 : (2 : Nat) ^ 60 / 2 ^ x = 2 ^ (60 - x) := Nat.pow_div hx (by omega)
    rw [← h1]
    have h2 : (1152921504606846976 : Int) = ((2 ^ 60 : Nat) : Int) := by decide
    rw [h2]; simp
  rw [e]; exact h
theorem fits {ls : List Int} (hl : ls.length = 256) (h : E B H (K (.bool (decide (fitsP ls))))) : E B H (CF Try.prog 26 [.agg (ints ls).toArray] K) := by
  have hil : (ints ls).length = 256 := by simp [ints, hl]
  have al1 : AtLen (ints ls) 256 := ⟨hil⟩
  refine E_mono (W := s26 _ K) ?_ fun _ => c26
  unfold s26
  refine E_box (vs := ints ls) fun v1 => ?_
  refine E_ldNA (l := ints ls) ?_
  have hbad : ¬ fitsP ls → E B (cel true v1 22 (ints ls) :: H) (K (.bool false)) := fun hn => by
    rw [decide_eq_false hn] at h
    exact E_drop h
  refine E_loop (n := 3) (σ := Nat) (fun i => i ≤ 256 ∧ (∀ j, j < i → 0 ≤ ls.getD j 0 ∧ ls.getD j 0 ≤ 60) ∧ krTo ls i ≤ 2 ^ 60) (fun i => [.int .u64 ((2 ^ 60 - krTo ls i : Nat) : Int), .agg (ints ls).toArray, I i]) (fun _ => cel true v1 22 (ints ls) :: H) (fun i => 256 - i) 0 (fun _ => rfl) rfl ⟨Nat.zero_le _, fun j hj => by omega, by unfold krTo; simp [sumN]⟩ (fun W hW => hW) ?_
  rintro i K0 ⟨hi, hok, hkr⟩ hk
  refine E_fa fun _ => ?_
  refine E_lss ?_
  refine E_if (fun hc => ?_) (fun hc => ?_)
  · have hx : ls[i]? = some ls[i] := List.getElem?_eq_getElem (by omega)
    generalize ls[i] = x at hx
    have hgx := getD_of hx
    have hsu := krTo_suc ls i
    rw [hgx] at hsu
    refine E_join1 [.int .u64 ((2 ^ 60 - krTo ls (i + 1) : Nat) : Int), .agg (ints ls).toArray, I i] (cel true v1 22 (ints ls) :: pur ((0 ≤ x ∧ x ≤ 60) ∧ krTo ls (i + 1) ≤ 2 ^ 60) :: H) (fun q hq => ?_) ?_
    · refine E_aix u_arr cell_int size_int hil (ints_get hx) ?_
      refine E_join1 [.int .u64 ((2 ^ 60 - krTo ls i : Nat) : Int), I x, .agg (ints ls).toArray, I i, .bool (decide (x < 0 ∨ 60 < x))] (cel true v1 22 (ints ls) :: H) (fun k hk2 => ?_) ?_
      · have fin : ∀ c : Bool, decide (x < 0 ∨ 60 < x) = c → E B (cel true v1 22 (ints ls) :: H) (app 5 k [.int .u64 ((2 ^ 60 - krTo ls i : Nat) : Int), I x, .agg (ints ls).toArray, I i, .bool c]) := fun c hc => hc ▸ hk2
        refine E_lss ?_
        by_cases h1 : x < 0
        · (repeat first | refine gS ?_ | refine gA fun _ => ?_ | refine gX fun _ _ => ?_ | refine gT ?_ | refine gF ?_ | refine gI ?_)
          exact fin true (decide_eq_true (.inl h1))
        · (repeat first | refine gS ?_ | refine gA fun _ => ?_ | refine gX fun _ _ => ?_ | refine gT ?_ | refine gF ?_ | refine gI ?_)
          exact fin _ (by rw [decide_eq_decide]; exact ⟨fun h => h.resolve_left h1, .inr⟩)
      refine E_fa fun _ => ?_
      refine E_if (fun hb => ?_) (fun hb => ?_)
      · refine hbad fun hf => ?_
        have := hf.1 i (by omega)
        rw [hgx] at this; omega
      have hxr : 0 ≤ x ∧ x ≤ 60 := by omega
      by_cases hp : 0 < x
      · obtain ⟨m, rfl⟩ : ∃ m : Nat, x = (m : Int) := ⟨x.toNat, by omega⟩
        rw [if_pos hp, Int.toNat_natCast] at hsu
        have hm60 : 2 ^ (60 - m) ≤ 2 ^ 60 := Nat.pow_le_pow_right (by omega) (by omega)
        refine E_join1 [.int .u64 ((2 ^ 60 - krTo ls i : Nat) : Int), I m, .agg (ints ls).toArray, I i, .bool (decide (((2 ^ 60 - krTo ls i : Nat) : Int) < ((2 ^ (60 - m) : Nat) : Int)))] (cel true v1 22 (ints ls) :: H) (fun k hk2 => ?_) ?_
        · refine E_gtr ?_
          rw [decide_eq_true hp]
          (repeat first | refine gS ?_ | refine gA fun _ => ?_ | refine gX fun _ _ => ?_ | refine gT ?_ | refine gF ?_ | refine gI ?_)
          refine E_whole (by omega) ?_
          (repeat first | refine gS ?_ | refine gA fun _ => ?_ | refine gX fun _ _ => ?_ | refine gT ?_ | refine gF ?_ | refine gI ?_)
          exact hk2
        refine E_fa fun _ => ?_
        refine E_if (fun hr => ?_) (fun hr => ?_)
        · refine hbad fun hf => ?_
          have h1 := krTo_mono ls (show i + 1 ≤ 256 by omega)
          have h2 : krTo ls 256 ≤ 2 ^ 60 := hf.2
          omega
        · refine E_gtr ?_
          rw [decide_eq_true hp]
          (repeat first | refine gS ?_ | refine gA fun _ => ?_ | refine gX fun _ _ => ?_ | refine gT ?_ | refine gF ?_ | refine gI ?_)
          refine E_whole (by omega) ?_
          refine E_sub64 (by omega) (by omega) ?_
          have e : 2 ^ 60 - krTo ls i - 2 ^ (60 - m) = 2 ^ 60 - krTo ls (i + 1) := by omega
          rw [e]
          exact E_find (.here) (E_same (G := cel true v1 22 (ints ls) :: H) (by repeat (first | exact Same.refl | (refine Same.cons (by repeat (first | exact Find.here | apply Find.there)) ?_) | (refine Same.drop ?_))) (E_pur' (p := (0 ≤ (m : Int) ∧ (m : Int) ≤ 60) ∧ krTo ls (i + 1) ≤ 2 ^ 60) ⟨hxr, by omega⟩ (E_same (by repeat (first | exact Same.refl | (refine Same.cons (by repeat (first | exact Find.here | apply Find.there)) ?_) | (refine Same.drop ?_))) hq)))
      · rw [if_neg hp] at hsu
        refine E_join1 [.int .u64 ((2 ^ 60 - krTo ls i : Nat) : Int), I x, .agg (ints ls).toArray, I i, .bool false] (cel true v1 22 (ints ls) :: H) (fun k hk2 => ?_) ?_
        · refine E_gtr ?_
          rw [decide_eq_false hp]
          (repeat first | refine gS ?_ | refine gA fun _ => ?_ | refine gX fun _ _ => ?_ | refine gT ?_ | refine gF ?_ | refine gI ?_)
          exact hk2
        refine E_fa fun _ => ?_
        refine E_ff ?_
        refine E_gtr ?_
        rw [decide_eq_false hp]
        (repeat first | refine gS ?_ | refine gA fun _ => ?_ | refine gX fun _ _ => ?_ | refine gT ?_ | refine gF ?_ | refine gI ?_)
        have e : krTo ls (i + 1) = krTo ls i := by omega
        rw [e] at hq
        exact E_pur' (p := (0 ≤ x ∧ x ≤ 60) ∧ krTo ls i ≤ 2 ^ 60) ⟨hxr, hkr⟩ (E_same (by repeat (first | exact Same.refl | (refine Same.cons (by repeat (first | exact Find.here | apply Find.there)) ?_) | (refine Same.drop ?_))) hq)
    · refine E_fa fun _ => ?_
      refine E_find (a := pur ((0 ≤ x ∧ x ≤ 60) ∧ krTo ls (i + 1) ≤ 2 ^ 60)) (by repeat (first | exact Find.here | apply Find.there)) (E_pur fun hp => ?_)
      refine E_addI (by omega) (by omega) ?_
      refine hk (i + 1) ⟨by omega, fun j hj => ?_, hp.2⟩ (by omega)
      rcases Nat.lt_or_ge j i with h1 | h1
      · exact hok j h1
      · have : j = i := by omega
        subst this
        rw [hgx]; exact hp.1
  · have hie : i = 256 := by omega
    subst hie
    have : fitsP ls := ⟨hok, hkr⟩
    rw [decide_eq_true this] at h
    exact E_drop h
end Go.Proofs.Ytblgkgobakhigaa.Cod
end
section
namespace Go.Proofs.Ytblgkgobakhigaa.Cod
open Go Go.SL Go.SL.Stb Go.Proofs Go.Proofs.Ytblgkgobakhigaa.Sh
variable {B : World} {H : List Asrt} {K : Value → WT} {W : WT}
def usedTo (ls : List Int) (n : Nat) : List Nat := (List.range n).filter fun i => decide (0 < ls.getD i 0)
theorem usedTo_suc (ls : List Int) (n : Nat) : usedTo ls (n + 1) = usedTo ls n ++ if 0 < ls.getD n 0 then [n] else [] := by
  unfold usedTo
  rw [List.range_succ, List.filter_append]
  congr 1
  rw [List.filter_cons]
  by_cases h : 0 < ls.getD n 0
  · rw [if_pos (by simpa using h), if_pos h]; rfl
  · rw [if_neg (by simpa using h), if_neg h]; rfl
theorem usedTo_len (ls : List Int) (n : Nat) : (usedTo ls n).length ≤ n := by
  unfold usedTo
  refine Nat.le_trans (List.length_filter_le _ _) ?_
  rw [List.length_range]; exact Nat.le_refl _
theorem toIx_val {l : List Nat} (h : ∀ i ∈ l, i < 256) : (toIx l).map (·.1) = l.map fun i : Nat => (i : Int) := by
  induction l with
  | nil => rfl
  | cons i l ih =>
    rw [toIx_cons (h i (by simp)), List.map_cons, List.map_cons, ih fun j hj => h j (List.mem_cons_of_mem _ hj)]
abbrev natI (l : List Nat) : List Int := l.map fun i : Nat => (i : Int)
set_option maxRecDepth 100000
attribute [local irreducible] S.pick S.ld S.ldN S.st S.box S.nc S.fad S.ixS S.ixA S.chr S.prt S.ext S.bin S.sh S.sbin S.beq S.neg1 S.com1 S.not1 S.cvt S.str1 S.lenS S.len S.cap S.lenM S.mx S.mn S.mkM S.cond S.gd S.fa S.dr S.rck S.join S.loop S.cvv S.eqv S.slc S.slcS S.b2s S.lk V U CF Gives E cel mpb osl ros dct dit itr
theorem lenCmp {ls : List Int} {b : Nat} (hl : ls.length = 256) (ho : ∀ i : Nat, i < 256 → 0 ≤ ls.getD i 0 ∧ ls.getD i 0 ≤ 60) : CmpOk Try.prog B [cel true b 22 (ints ls)] (.func (.func 45) #[] #[ptr b]) (lenC ls) := fun x y H K h => by
  obtain ⟨xv, hx⟩ := x
  obtain ⟨yv, hy⟩ := y
  obtain ⟨x, rfl⟩ : ∃ n : Nat, xv = (n : Int) := ⟨xv.toNat, by omega⟩
  obtain ⟨y, rfl⟩ : ∃ n : Nat, yv = (n : Int) := ⟨yv.toNat, by omega⟩
  have gx : ls[x]? = some (ls.getD x 0) := by
    rw [List.getD_eq_getElem?_getD, List.getElem?_eq_getElem (by omega)]; rfl
  have gy : ls[y]? = some (ls.getD y 0) := by
    rw [List.getD_eq_getElem?_getD, List.getElem?_eq_getElem (by omega)]; rfl
  have ox := ho x (by omega)
  have oy := ho y (by omega)
  have e0 : ∀ n : Nat, 0 + n * 1 = n := fun n => by omega
  refine E_cvv (by kernel_rfl) ?_
  show E B (cel true b 22 (ints ls) :: H) (CF Try.prog 45 [I x, I y, ptr b] _)
  refine E_mono (W := s45 _ _ _ K) ?_ fun _ => c45
  unfold s45
  refine E_dr ?_
  refine E_ixA (n := x) (by omega) ?_
  rw [e0]
  refine E_ld' (ints_get gx) ?_
  refine E_ixA (n := y) (by omega) ?_
  rw [e0]
  refine E_ld' (ints_get gy) ?_
  refine E_subI (by omega) (by omega) ?_
  exact h
theorem used {ls : List Int} (hl : ls.length = 256) (ho : ∀ i : Nat, i < 256 → 0 ≤ ls.getD i 0 ∧ ls.getD i 0 ≤ 60) (h : ∀ v [CellI v], E B (sls cI 3 1 v (natI (ordL ls)) :: H) (K v)) : E B H (CF Try.prog 27 [.agg (ints ls).toArray] K) := by
  have hil : (ints ls).length = 256 := by simp [ints, hl]
  have al1 : AtLen (ints ls) 256 := ⟨hil⟩
  refine E_mono (W := s27 _ K) ?_ fun _ => c27
  unfold s27
  refine E_box (vs := ints ls) fun v1 => ?_
  refine E_ldNA (l := ints ls) ?_
  refine E_loop (n := 4) (σ := Nat × Cv) (fun s => s.1 ≤ 256) (fun s => [ptr v1, s.2.1, .agg (ints ls).toArray, I s.1]) (fun s => sls cI 3 1 s.2.1 (natI (usedTo ls s.1)) :: cel true v1 22 (ints ls) :: H) (fun s => 256 - s.1) (0, ⟨nil, rfl⟩) (fun _ => rfl) rfl (Nat.zero_le _) (fun W hW => by
    have e : natI (usedTo ls 0) = [] := rfl
    simp only [e] at hW
    refine sls_nil cI 1 (T := 3) ?_
    exact sm hW) ?_
  rintro ⟨i, ov⟩ K0 hi hk
  simp only at hi hk ⊢
  have hul := usedTo_len ls i
  have iov : CellI ov.1 := ⟨ov.2⟩
  refine E_fa fun _ => ?_
  refine E_lss ?_
  refine E_if (fun hc => ?_) (fun hc => ?_)
  · have hx : ls[i]? = some ls[i] := List.getElem?_eq_getElem (by omega)
    generalize ls[i] = x at hx
    have hgx := getD_of hx
    have hsu := usedTo_suc ls i
    rw [hgx] at hsu
    refine E_joinC (σ := Cv) (fun _ => True) (fun s => [ptr v1, s.1, .agg (ints ls).toArray, I i]) (fun s => sls cI 3 1 s.1 (natI (usedTo ls (i + 1))) :: cel true v1 22 (ints ls) :: H) (fun q hq => ?_) (fun s _ => ?_)
    · refine E_aix u_arr cell_int size_int hil (ints_get hx) ?_
      refine E_gtr ?_
      refine E_if (fun hp => ?_) (fun hp => ?_)
      · rw [if_pos hp] at hsu
        refine E_sapp1 (enc := cI) (i : Int) u_ints elt_int rfl (by decide) (by rw [List.length_map]; omega) (by rw [List.length_map]; omega) fun ov' hov' => ?_
        have := hq ⟨ov', hov'.pf⟩ trivial
        rw [hsu, show natI (usedTo ls i ++ [i]) = natI (usedTo ls i) ++ [(i : Int)] by simp [natI]] at this
        exact this
      · rw [if_neg hp, List.append_nil] at hsu
        have := hq ov trivial
        rw [hsu] at this
        exact this
    · refine E_fa fun _ => ?_
      refine E_addI (by omega) (by omega) ?_
      exact hk (i + 1, s) (by simp only; omega) (by simp only; omega)
  · have hie : i = 256 := by omega
    subst hie
    have hlt : ∀ i ∈ usedL ls, i < 256 := fun i hi => usedL_lt hi
    have eu : usedTo ls 256 = usedL ls := rfl
    rw [eu, show natI (usedL ls) = (toIx (usedL ls)).map (·.1) from (toIx_val hlt).symm, ← sls_ix]
    have hlen : (toIx (usedL ls)).length ≤ 256 := by
      have h1 := congrArg List.length (toIx_val hlt)
      rw [List.length_map, List.length_map] at h1
      rw [h1, ← eu]; exact hul
    refine E_mono (W := s44 _ _ _) ?_ fun _ => c44
    unfold s44
    refine E_rslen (v := ov.1) (l := toIx (usedL ls)) ?_
    refine E_mono (W := s61 _ _ _ _) ?_ fun _ => c61
    refine stC_ok (H := H) (l := toIx (usedL ls)) (C := [cel true v1 22 (ints ls)]) (sw := 75) (rot := 74) (sym := 71) (ins := 70) (lenC_sw ls) (lenCmp hl ho) (fun _ _ _ _ _ _ _ hk => E_mono hk fun _ => c75) (fun _ _ _ _ _ _ _ hk => E_mono hk fun _ => c74) (fun _ _ _ _ _ _ _ hk => E_mono hk fun _ => c71) (fun _ _ _ _ _ _ hk => E_mono hk fun _ => c70) (by omega) fun l' h1 h2 h3 => ?_
    rw [sorted_ord ho h2 h3, sls_ix, toIx_val fun i hi => ordL_lt hi]
    show E B (sls cI 3 1 ov.1 (natI (ordL ls)) :: cel true v1 22 (ints ls) :: H) _
    exact sm (h ov.1)
theorem words {ls : List Int} (hl : ls.length = 256) (h : E B H (K (.tuple #[.agg (strs (wordsL ls)).toArray, I (wordsE ls)]))) : E B H (CF Try.prog 11 [.agg (ints ls).toArray] K) := by
  have hil : (ints ls).length = 256 := by simp [ints, hl]
  have al1 : AtLen (ints ls) 256 := ⟨hil⟩
  have hzl : (strs (List.replicate 256 [])).length = 256 := by simp [strs]
  have alz : AtLen (strs (List.replicate 256 [])) 256 := ⟨hzl⟩
  refine E_mono (W := s11 _ K) ?_ fun _ => c11
  unfold s11
  refine E_box (vs := ints ls) fun v1 => ?_
  refine E_box (vs := strs (List.replicate 256 [])) fun v2 => ?_
  refine E_ldNA (l := ints ls) ?_
  refine fits hl ?_
  by_cases hf : fitsP ls
  · have ho := (fits_ok hl).1 hf
    have hol : (ordL ls).length ≤ 256 := by
      have h1 := (ord_perm ho.rg).length_eq
      have h2 : (usedL ls).length ≤ 256 := usedTo_len ls 256
      omega
    rw [decide_eq_true hf]
    refine E_notb (c := true) ?_
    refine E_ff ?_
    refine E_box (vs := strs (List.replicate 256 [])) fun v3 => ?_
    refine E_ldNA (l := ints ls) ?_
    refine used hl ho.rg fun uv iuv => ?_
    refine E_rslen (v := uv) (l := natI (ordL ls)) ?_
    rw [List.length_map]
    refine E_loop (n := 8) (σ := Nat × Nat × Nat) (fun s => s.1 ≤ (ordL ls).length ∧ Num ls s.1 s.2.1 s.2.2) (fun s => [ptr v1, ptr v2, ptr v3, .int .u64 (s.2.1 : Int), I s.2.2, uv, I (ordL ls).length, I s.1]) (fun s => cel true v3 28 (strs (wordsTo ls s.1)) :: sls cI 3 1 uv (natI (ordL ls)) :: cel true v2 28 (strs (List.replicate 256 [])) :: cel true v1 22 (ints ls) :: H) (fun s => (ordL ls).length - s.1) (0, 0, 0) (fun _ => rfl) rfl ⟨Nat.zero_le _, fun _ => ⟨rfl, rfl⟩, fun e => (e rfl).elim⟩ (fun W hW => by
      rw [wordsTo_zero] at hW
      exact sm hW) ?_
    rintro ⟨k, n, long⟩ K0 ⟨hk1, hnum⟩ hk
    simp only at hk1 hnum hk ⊢
    refine E_fa fun _ => ?_
    refine E_lss ?_
    refine E_if (fun hc => ?_) (fun hc => ?_)
    · have hb : (ordL ls)[k]? = some (ordL ls)[k] := List.getElem?_eq_getElem (by omega)
      generalize (ordL ls)[k] = b at hb
      obtain ⟨hb1, hb2, hb3⟩ := ord_rg ho hb
      obtain ⟨n1, n2, n3, n4⟩ := hnum.next ho hb
      have hwl := wordL_at ho hb
      have hbi : (natI (ordL ls))[k]? = some (b : Int) := by rw [List.getElem?_map, hb]; rfl
      have hgb : ls[b]? = some (ls.getD b 0) := by
        rw [List.getD_eq_getElem?_getD, List.getElem?_eq_getElem (by omega)]; rfl
      have e0 : 0 + b * 1 = b := by omega
      have hroom : k ≠ 0 → n + 1 < 18446744073709551616 := fun hk0 => by
        have h1 := (hnum.room ho hk0 hb).1
        have h2 : 2 ^ long ≤ 2 ^ 60 := Nat.pow_le_pow_right (by omega) (by omega)
        omega
      have hn4 : sumB ls b / wtB ls b < 18446744073709551616 := by
        have h2 : 2 ^ (ls.getD b 0).toNat ≤ 2 ^ 60 := Nat.pow_le_pow_right (by omega) (by omega)
        omega
      have hz := hnum.z
      have hgl : ls.getD b 0 = (((ls.getD b 0).toNat : Nat) : Int) := by omega
      generalize hL : (ls.getD b 0).toNat = L at *
      rw [hgl] at hgb hb2 hb3
      generalize sumB ls b / wtB ls b = m at *
      refine E_rsix (v := uv) (l := natI (ordL ls)) hbi fun _ _ => ?_
      refine E_ptld ?_
      refine E_join1 [ptr v1, ptr v2, ptr v3, .int .u64 (((if k = 0 then n else n + 1) : Nat) : Int), I long, I b, uv, I (ordL ls).length, I k] (cel true v3 28 (strs (wordsTo ls k)) :: sls cI 3 1 uv (natI (ordL ls)) :: cel true v2 28 (strs (List.replicate 256 [])) :: cel true v1 22 (ints ls) :: H) (fun q hq => ?_) ?_
      · refine E_gtr ?_
        refine E_if (fun hp => ?_) (fun hp => ?_)
        · rw [if_neg (by omega)] at hq
          have e1 : (1 : Int) = ((1 : Nat) : Int) := rfl
          show E B _ (S.bin .add (.int .u64 (n : Int)) (.int .u64 ((1 : Nat) : Int)) _)
          refine E_add64 (hroom (by omega)) ?_
          exact hq
        · rw [if_pos (by omega)] at hq
          exact hq
      · refine E_fa fun _ => ?_
        refine E_ixA (n := b) (by omega) ?_
        rw [e0]
        refine E_ld' (ints_get hgb) ?_
        refine E_subI (by omega) (by omega) ?_
        rw [show (L : Int) - (long : Int) = ((L - long : Nat) : Int) by omega]
        refine E_shl64 (by omega) (by rw [n2]; exact hn4) ?_
        rw [n2]
        refine E_ixA (n := b) (by omega) ?_
        rw [e0]
        refine E_ld' (ints_get hgb) ?_
        refine digits ⟨by omega, by omega⟩ hn4 ?_
        refine E_ixA (n := b) (by omega) ?_
        rw [e0]
        refine E_st' (by simp [strs, wordsTo_len]; omega) ?_
        rw [strs_set, ← hwl, ← wordsTo_suc hb]
        refine E_addI (by omega) (by omega) ?_
        exact hk (k + 1, m, L) ⟨by simp only; omega, n3⟩ (by simp only; omega)
    · have hke : k = (ordL ls).length := by omega
      subst hke
      rw [wordsTo_all ho]
      have hwl : (strs (wordsL ls)).length = 256 := by
        unfold wordsL
        rw [if_pos hf]; simp [strs]
      have alw : AtLen (strs (wordsL ls)) 256 := ⟨hwl⟩
      refine E_ldNA (l := strs (wordsL ls)) ?_
      refine fd (a := cel true v2 28 (strs (List.replicate 256 []))) ?_
      refine E_stW (vs := strs (wordsL ls)) (hc := allc_strs _) hwl hzl ?_
      refine E_ldNA (l := strs (wordsL ls)) ?_
      have hE : wordsE ls = 0 := by unfold wordsE; rw [if_pos hf]
      rw [hE] at h
      exact sm h
  · rw [decide_eq_false hf]
    refine E_notb (c := false) ?_
    refine E_tt ?_
    refine E_vk build_zstr ?_
    refine E_stW (vs := strs (List.replicate 256 [])) (hc := allc_strs _) hzl hzl ?_
    refine E_ldNA (l := strs (List.replicate 256 [])) ?_
    have hE : wordsE ls = 2 := by unfold wordsE; rw [if_neg hf]
    have hW : wordsL ls = List.replicate 256 [] := by unfold wordsL; rw [if_neg hf]
    rw [hE, hW] at h
    exact sm h
end Go.Proofs.Ytblgkgobakhigaa.Cod
end
section
namespace Go.Proofs.Ytblgkgobakhigaa.Cod
open Go Go.SL Go.SL.Stb
def numF : Nat → Nat → List UInt8
  | 0, n => [UInt8.ofNat n]
  | k + 1, n => if n < 128 then [UInt8.ofNat n] else UInt8.ofNat (n % 128 + 128) :: numF k (n / 128)
def numL (n : Nat) : List UInt8 := numF 9 n
theorem numF_lt {k n : Nat} (h : n < 128) : numF k n = [UInt8.ofNat n] := by
  cases k with
  | zero => rfl
  | succ k => unfold numF; rw [if_pos h]
theorem numF_ge {k n : Nat} (h : ¬ n < 128) : numF (k + 1) n = UInt8.ofNat (n % 128 + 128) :: numF k (n / 128) := by
  conv => lhs; unfold numF
  rw [if_neg h]
theorem numF_len (k n : Nat) : (numF k n).length ≤ k + 1 := by
  induction k generalizing n with
  | zero => exact Nat.le_refl _
  | succ k ih =>
    by_cases h : n < 128
    · rw [numF_lt h]; simp
    · rw [numF_ge h, List.length_cons]
      have := ih (n / 128)
      omega
structure PS where
  out : List UInt8
  acc : Nat
  n : Nat
def PS.ok (s : PS) : Prop := s.n < 8 ∧ s.acc < 2 ^ s.n
def dig (c : UInt8) : Nat := c.toNat - 48
def PS.step (s : PS) (c : UInt8) : PS := if s.n = 7 then ⟨s.out ++ [UInt8.ofNat (2 * s.acc + dig c)], 0, 0⟩ else ⟨s.out, 2 * s.acc + dig c, s.n + 1⟩
def PS.tail (s : PS) : List UInt8 := if s.n = 0 then [] else [UInt8.ofNat (s.acc * 2 ^ (8 - s.n))]
def PS.bytes (s : PS) : List UInt8 := s.out ++ s.tail
def ps0 : PS := ⟨[], 0, 0⟩
def isBit (c : UInt8) : Prop := c = 48 ∨ c = 49
theorem dig_lt {c : UInt8} (h : isBit c) : dig c < 2 ∧ (c.toNat : Int) - 48 = (dig c : Int) := by
  rcases h with rfl | rfl <;> decide
theorem PS.step_ok {s : PS} (h : s.ok) {c : UInt8} (hc : isBit c) : (s.step c).ok := by
  have hd := (dig_lt hc).1
  obtain ⟨h1, h2⟩ := h
  unfold PS.step
  by_cases h7 : s.n = 7
  · rw [if_pos h7]; exact ⟨show 0 < 8 by decide, show 0 < 2 ^ 0 by decide⟩
  · rw [if_neg h7]
    refine ⟨by show s.n + 1 < 8; omega, ?_⟩
    show 2 * s.acc + dig c < 2 ^ (s.n + 1)
    rw [Nat.pow_succ]; omega
theorem ps0_ok : ps0.ok := ⟨by decide, by decide⟩
theorem PS.run_ok {s : PS} (h : s.ok) {w : List UInt8} (hw : ∀ c ∈ w, isBit c) : (w.foldl PS.step s).ok := by
  induction w generalizing s with
  | nil => exact h
  | cons c w ih => exact ih (PS.step_ok h (hw c (by simp))) fun x hx => hw x (List.mem_cons_of_mem _ hx)
theorem PS.step_n {s : PS} (h : s.ok) (c : UInt8) : (s.step c).n = (s.n + 1) % 8 := by
  unfold PS.step
  by_cases h7 : s.n = 7
  · rw [if_pos h7, h7]
  · rw [if_neg h7]
    have := h.1
    show s.n + 1 = _
    omega
theorem PS.tail_len (s : PS) : s.tail.length ≤ 1 := by
  unfold PS.tail
  split <;> simp
theorem PS.step_len {s : PS} (c : UInt8) : (s.step c).out.length ≤ s.out.length + 1 := by
  unfold PS.step
  split <;> simp
theorem PS.set {s : PS} (h : s.ok) {c : UInt8} (hc : isBit c) (hd : List UInt8) :
    (if s.n = 0 then hd ++ s.bytes ++ [0] else hd ++ s.bytes) = hd ++ s.out ++ [UInt8.ofNat (s.acc * 2 ^ (8 - s.n))] ∧
    s.acc * 2 ^ (8 - s.n) ||| dig c * 2 ^ (7 - s.n) = (2 * s.acc + dig c) * 2 ^ (7 - s.n) ∧ (2 * s.acc + dig c) * 2 ^ (7 - s.n) < 256 ∧
    hd ++ (s.step c).bytes = hd ++ s.out ++ [UInt8.ofNat ((2 * s.acc + dig c) * 2 ^ (7 - s.n))] := by
  obtain ⟨h1, h2⟩ := h
  have hdg := (dig_lt hc).1
  refine ⟨?_, ?_, ?_, ?_⟩
  · unfold PS.bytes PS.tail
    by_cases h0 : s.n = 0
    · rw [if_pos h0, if_pos h0, List.append_nil]
      have : s.acc = 0 := by rw [h0] at h2; simpa using h2
      rw [this, Nat.zero_mul]; rfl
    · rw [if_neg h0, if_neg h0, List.append_assoc]
  · have e : 2 ^ (8 - s.n) = 2 * 2 ^ (7 - s.n) := by rw [show 8 - s.n = (7 - s.n) + 1 by omega, Nat.pow_succ]; omega
    have hlt : dig c * 2 ^ (7 - s.n) < 2 ^ (8 - s.n) := by
      rw [e]; exact (Nat.mul_lt_mul_right (Nat.pow_pos (by omega))).2 hdg
    have := Nat.two_pow_add_eq_or_of_lt hlt s.acc
    rw [Nat.mul_comm s.acc, ← this, Nat.mul_comm _ s.acc, e, ← Nat.mul_assoc, Nat.add_mul, Nat.mul_comm s.acc 2]
  · have hp : 2 ^ (s.n + 1) * 2 ^ (7 - s.n) = 256 := by
      rw [← Nat.pow_add, show s.n + 1 + (7 - s.n) = 8 by omega]
    rw [← hp]
    refine (Nat.mul_lt_mul_right (Nat.pow_pos (by omega))).2 ?_
    rw [Nat.pow_succ]; omega
  · unfold PS.bytes PS.tail PS.step
    by_cases h7 : s.n = 7
    · rw [if_pos h7]
      simp [h7]
    · rw [if_neg h7]
      have : (s.n + 1 = 0) = False := by simp
      simp only [this, if_false]
      rw [show 8 - (s.n + 1) = 7 - s.n by omega, List.append_assoc]
theorem bitsN_bit (n k : Nat) : ∀ c ∈ bitsN n k, isBit c := by
  induction k generalizing n with
  | zero => intro c hc; cases hc
  | succ k ih =>
    intro c hc
    unfold bitsN at hc
    rcases List.mem_append.1 hc with h | h
    · exact ih _ c h
    · rw [List.mem_singleton] at h
      have : n % 2 = 0 ∨ n % 2 = 1 := by omega
      rcases this with e | e
      · rw [e] at h; exact .inl h
      · rw [e] at h; exact .inr h
theorem word_bit (ls : List Int) (b : Nat) : ∀ c ∈ wordL ls b, isBit c := by
  unfold wordL
  split
  · exact bitsN_bit _ _
  · intro c hc; cases hc
theorem words_bit {ls : List Int} {b : Nat} {w : List UInt8} (h : (wordsL ls)[b]? = some w) : ∀ c ∈ w, isBit c := by
  unfold wordsL at h
  split at h
  · rw [List.getElem?_map] at h
    obtain ⟨i, _, rfl⟩ := Option.map_eq_some_iff.1 h
    exact word_bit ls i
  · rw [List.getElem?_replicate] at h
    split at h
    · cases h; intro c hc; cases hc
    · cases h
theorem word_len {ls : List Int} (ho : LOk ls) (b : Nat) : (wordL ls b).length ≤ 60 := by
  unfold wordL
  by_cases hb : b < 256
  · have := ho.rg b hb
    split
    · rw [bitsN_len]; omega
    · simp
  · have : ls.getD b 0 = 0 := by
      rw [List.getD_eq_getElem?_getD, List.getElem?_eq_none (by rw [ho.ln]; omega)]; rfl
    rw [this]; simp
def tally (p : List UInt8) : List Int := (List.range 256).map fun b => ((p.countP fun c => c.toNat == b : Nat) : Int)
def tabL (ls : List Int) (l : List Nat) : List UInt8 := l.flatMap fun b => [UInt8.ofNat b, UInt8.ofNat (ls.getD b 0).toNat]
def putB (ls : List Int) (p : List UInt8) : PS := (p.flatMap fun c => wordL ls c.toNat).foldl PS.step ps0
def putL (p : List UInt8) : List UInt8 :=
  numL p.length ++ numL (usedL (lens (tally p))).length ++ tabL (lens (tally p)) (usedL (lens (tally p))) ++ (putB (lens (tally p)) p).bytes
theorem tally_len (p : List UInt8) : (tally p).length = 256 := by simp [tally]
theorem tally_nil : tally [] = List.replicate 256 0 := by
  unfold tally
  rw [show (fun b : Nat => ((([] : List UInt8).countP fun c => c.toNat == b : Nat) : Int)) = fun _ => 0 from rfl]
  rw [List.map_const']; simp
theorem tally_app (p : List UInt8) (c : UInt8) : tally (p ++ [c]) = (tally p).set c.toNat ((tally p).getD c.toNat 0 + 1) := by
  have hc : c.toNat < 256 := c.toNat_lt
  refine List.ext_getElem? fun i => ?_
  rw [List.getElem?_set, tally_len]
  unfold tally
  rw [List.getElem?_map, List.getElem?_map, List.getD_eq_getElem?_getD, List.getElem?_map, List.getElem?_range hc]
  by_cases h : c.toNat = i
  · subst h
    rw [if_pos rfl, if_pos hc, List.getElem?_range hc]
    simp [List.countP_append]
  · rw [if_neg h]
    cases hr : (List.range 256)[i]? with
    | none => rfl
    | some j =>
      have : j = i := by
        obtain ⟨hj, e⟩ := List.getElem?_eq_some_iff.1 hr
        rw [List.getElem_range] at e
        exact e.symm
      subst this
      simp [List.countP_append, h]
theorem tally_at {p : List UInt8} {i : Nat} (hi : i < 256) : (tally p)[i]? = some ((p.countP fun c => c.toNat == i : Nat) : Int) := by
  unfold tally
  rw [List.getElem?_map, List.getElem?_range hi]; rfl
theorem tally_rg {p : List UInt8} {i : Nat} (hi : i < 256) : 0 ≤ (tally p).getD i 0 ∧ (tally p).getD i 0 ≤ p.length := by
  rw [getD_of (tally_at hi)]
  have := List.countP_le_length (p := fun c : UInt8 => c.toNat == i) (l := p)
  omega
end Go.Proofs.Ytblgkgobakhigaa.Cod
end
section
namespace Go.Proofs.Ytblgkgobakhigaa.Cod
open Go Go.SL Go.SL.Stb Go.Proofs Go.Proofs.Ytblgkgobakhigaa.Sh
variable {B : World} {H : List Asrt} {K : Value → WT} {W : WT}
theorem u8n {r : Nat} (h : r < 256) : (UInt8.ofNat r).toNat = r := by
  rw [UInt8.toNat_ofNat']
  exact Nat.mod_eq_of_lt h
theorem low7 (m : Nat) : UInt8.ofNat (((UInt8.ofNat ((m : Int) % 128).toNat).toNat : Int) + 128).toNat = UInt8.ofNat (m % 128 + 128) := by
  have e1 : ((m : Int) % 128).toNat = m % 128 := by omega
  rw [e1, u8n (by omega)]
  congr 1
theorem pow7 {m j : Nat} (h : m < 128 ^ (j + 1 + 1)) : m / 128 < 128 ^ (j + 1) := by
  rw [Nat.pow_succ, Nat.mul_comm] at h
  exact Nat.div_lt_of_lt_mul h
theorem start7 {n : Nat} (hn : n ≤ 9007199254740991) : n < 128 ^ (9 + 1) := by
  have : (128 : Nat) ^ (9 + 1) = 1180591620717411303424 := by decide
  omega
theorem or_of {a b r : Int} (e : IntKind.wrap .u8 (((BitVec.ofInt 8 a ||| BitVec.ofInt 8 b).toNat : Nat) : Int) = r) (h : E B H (K (.int .u8 r))) : E B H (S.bin .or (.int .u8 a) (.int .u8 b) K) := fun w hw => ⟨rfl, by
  have := h w hw
  rw [← e] at this
  exact this⟩
theorem shl8_of {n : Int} {c : Nat} {r : Int} (hc : c ≤ 8) (e : IntKind.wrap .u8 (n * 2 ^ c) = r) (h : E B H (K (.int .u8 r))) : E B H (S.sh .shl (.int .u8 n) (.int .i64 (c : Int)) K) := fun w hw => ⟨by omega, by
  have := h w hw
  rw [← e] at this
  show K (.int .u8 (IntKind.wrap .u8 (n * 2 ^ min ((c : Int).toNat) 8))) w
  rw [Int.toNat_natCast, Nat.min_eq_left hc]; exact this⟩
attribute [local irreducible] S.pick S.ld S.ldN S.st S.box S.nc S.fad S.ixS S.ixA S.chr S.prt S.ext S.bin S.sh S.sbin S.beq S.neg1 S.com1 S.not1 S.cvt S.str1 S.lenS S.len S.cap S.lenM S.mx S.mn S.mkM S.cond S.gd S.fa S.dr S.rck S.join S.loop S.cvv S.eqv S.slc S.slcS S.b2s S.lk V U CF Gives E cel mpb osl ros dct dit itr
theorem E_or8 {a b : Nat} (ha : a < 256) (hb : b < 256) (h : E B H (K (.int .u8 ((UInt8.ofNat (a ||| b)).toNat : Int)))) : E B H (S.bin .or (.int .u8 (a : Int)) (.int .u8 (b : Int)) K) := by
  refine or_of ?_ h
  have e1 : ∀ x : Nat, BitVec.ofInt 8 (x : Int) = BitVec.ofNat 8 x := fun x => BitVec.ofInt_natCast ..
  rw [e1, e1, BitVec.toNat_or, BitVec.toNat_ofNat, BitVec.toNat_ofNat, Nat.mod_eq_of_lt (by exact ha), Nat.mod_eq_of_lt (by exact hb)]
  rw [wrap8 _ (by omega), Int.toNat_natCast]
theorem E_shl8 {n c : Nat} (hc : c ≤ 8) (hn : n * 2 ^ c < 256) (h : E B H (K (.int .u8 ((n * 2 ^ c : Nat) : Int)))) : E B H (S.sh .shl (.int .u8 (n : Int)) (.int .i64 (c : Int)) K) := by
  refine shl8_of hc ?_ h
  have e : (n : Int) * 2 ^ c = ((n * 2 ^ c : Nat) : Int) := by simp
  rw [e, wrap8 _ (by omega), Int.toNat_natCast, u8n hn]
theorem octNum {n : Nat} (hn : n ≤ 9007199254740991) (h : ∀ v [CellI v], E B (sls cB 5 1 v (numL n) :: H) (K (.tuple #[v, I 0]))) : E B H (CF Try.prog 48 [I n] K) := by
  refine E_mono (W := s48 _ K) ?_ fun _ => c48
  unfold s48
  refine E_mono (W := s63 _ _) ?_ fun _ => c63
  unfold s63
  refine E_geq ?_
  rw [decide_eq_true (by omega : (0 : Int) ≤ (n : Int))]
  (repeat first | refine gS ?_ | refine gA fun _ => ?_ | refine gX fun _ _ => ?_ | refine gT ?_ | refine gF ?_ | refine gI ?_)
  rw [decide_eq_false (by omega)]
  refine E_ff ?_
  refine E_loop (n := 2) (σ := Nat × Nat × Cv × List UInt8) (fun s => s.2.1 ≤ n ∧ s.2.1 < 128 ^ (s.1 + 1) ∧ s.2.2.2 ++ numF s.1 s.2.1 = numL n ∧ s.2.2.2.length + s.1 = 9) (fun s => [I s.2.1, s.2.2.1.1]) (fun s => sls cB 5 1 s.2.2.1.1 s.2.2.2 :: H) (fun s => s.1) (9, n, ⟨nil, rfl⟩, []) (fun _ => rfl) rfl ⟨Nat.le_refl _, start7 hn, rfl, rfl⟩ (fun W hW => sls_nil cB 1 (T := 5) hW) ?_
  rintro ⟨k, m, v, bs⟩ K0 ⟨hmn, hm, hbs, hl⟩ hk
  simp only at hmn hm hbs hl hk ⊢
  have : CellI v.1 := ⟨v.2⟩
  refine E_fa fun _ => ?_
  refine E_geq ?_
  refine E_if (fun hc => ?_) (fun hc => ?_)
  · obtain ⟨j, rfl⟩ : ∃ j, k = j + 1 := ⟨k - 1, by
      have : k ≠ 0 := fun e => by subst e; simp only [Nat.zero_add, Nat.pow_one] at hm; omega
      omega⟩
    rw [numF_ge (by omega)] at hbs
    refine E_remI (by omega) (by omega) ?_
    refine E_cvt8 (by omega) ?_
    refine E_add ?_
    rw [wrap8 _ (by omega), low7]
    refine E_sapp1 (enc := cB) _ u_bytes elt_byte rfl (by decide) (by omega) (by omega) fun v' hv' => ?_
    refine E_shrI (by omega) (by decide) (by decide) ?_
    have e1 : (m : Int) / 2 ^ (7 : Int).toNat = ((m / 128 : Nat) : Int) := by simp
    rw [e1]
    exact hk (j, m / 128, ⟨v', hv'.pf⟩, bs ++ [_]) ⟨by simp only; omega, pow7 hm, by rw [List.append_assoc]; exact hbs, by simp only [List.length_append, List.length_singleton]; omega⟩ (by simp only; omega)
  · rw [numF_lt (by omega)] at hbs
    refine E_cvt8 (by omega) ?_
    rw [Int.toNat_natCast]
    refine E_sapp1 (enc := cB) _ u_bytes elt_byte rfl (by decide) (by omega) (by omega) fun v' _ => ?_
    rw [hbs]
    exact h v'
def pkr (p : Nat) (bs : List UInt8) (u : Nat) : Asrt := ex fun s : Cv => all [cel true p 63 [s.1, I u], sls cB 5 1 s.1 bs]
theorem E_pkr {p u : Nat} {bs : List UInt8} (h : ∀ s : Cv, E B (cel true p 63 [s.1, I u] :: sls cB 5 1 s.1 bs :: H) W) : E B (pkr p bs u :: H) W := E_ex fun s => E_all (h s)
theorem E_pkrS {p u : Nat} {bs : List UInt8} {sv : Value} [hc : CellI sv] (h : E B (pkr p bs u :: H) W) : E B (cel true p 63 [sv, I u] :: sls cB 5 1 sv bs :: H) W := by
  have h' := E_all' (E_ex' (f := fun s : Cv => all [cel true p 63 [s.1, I u], sls cB 5 1 s.1 bs]) ⟨sv, hc.pf⟩ h)
  exact E_same (by repeat (first | exact Same.refl | (refine Same.cons (by repeat (first | exact Find.here | apply Find.there)) ?_) | (refine Same.drop ?_))) h'
attribute [local irreducible] pkr
theorem packNum {p u n : Nat} {bs : List UInt8} (hn : n ≤ 9007199254740991) (hb : bs.length ≤ 1000000) (h : E B (pkr p (bs ++ numL n) u :: H) (K (.tuple #[]))) : E B (pkr p bs u :: H) (CF Try.prog 30 [ptr p, I n] K) := by
  refine E_pkr fun s => ?_
  have : CellI s.1 := ⟨s.2⟩
  refine E_mono (W := s30 _ _ K) ?_ fun _ => c30
  unfold s30
  refine octNum hn fun v _ => ?_
  have hln := numF_len 9 n
  (repeat first | refine gS ?_ | refine gA fun _ => ?_ | refine gX fun _ _ => ?_ | refine gT ?_ | refine gF ?_ | refine gI ?_)
  refine fd (a := sls cB 5 1 s.1 bs) ?_
  refine E_sapps (enc := cB) (u := v) (m := numL n) u_bytes elt_byte (by show (bs.length + (numF 9 n).length) * 1 ≤ _; omega) (by show bs.length + (numF 9 n).length ≤ _; omega) fun v' _ => ?_
  (repeat first | refine gS ?_ | refine gA fun _ => ?_ | refine gX fun _ _ => ?_ | refine gT ?_ | refine gF ?_ | refine gI ?_)
  refine sm (G := cel true p 63 [v', I u] :: sls cB 5 1 v' (bs ++ numL n) :: H) ?_
  exact E_pkrS h
theorem lay {p : Nat} {hd w : List UInt8} {s : PS} (hs : s.ok) (hw : ∀ c ∈ w, isBit c) (hl : hd.length + s.out.length + w.length ≤ 10000000) (h : E B (pkr p (hd ++ (w.foldl PS.step s).bytes) (w.foldl PS.step s).n :: H) (K (.tuple #[]))) :
    E B (pkr p (hd ++ s.bytes) s.n :: H) (CF Try.prog 31 [ptr p, str w] K) := by
  refine E_mono (W := s31 _ _ K) ?_ fun _ => c31
  unfold s31
  refine E_lenstr ?_
  refine E_loop (n := 4) (σ := Nat × PS) (fun q => q.1 ≤ w.length ∧ q.2 = (w.take q.1).foldl PS.step s ∧ q.2.out.length ≤ s.out.length + q.1) (fun q => [ptr p, str w, I w.length, I q.1]) (fun q => pkr p (hd ++ q.2.bytes) q.2.n :: H) (fun q => w.length - q.1) (0, s) (fun _ => rfl) rfl ⟨Nat.zero_le _, rfl, Nat.le_refl _⟩ (fun W hW => hW) ?_
  rintro ⟨i, q⟩ K0 ⟨hi, hq, hql⟩ hk
  simp only at hi hq hql hk ⊢
  refine E_fa fun _ => ?_
  refine E_lss ?_
  refine E_if (fun hc => ?_) (fun hc => ?_)
  · have hlt : i < w.length := by omega
    have hx : w[i]? = some w[i] := List.getElem?_eq_getElem hlt
    have hbt := hw w[i] (List.getElem_mem hlt)
    have hqo : q.ok := by
      rw [hq]
      exact PS.run_ok hs fun c hc => hw c (List.mem_of_mem_take hc)
    have hnx : (w.take (i + 1)).foldl PS.step s = q.step w[i] := by
      rw [List.take_add_one, hx, List.foldl_append, ← hq]; rfl
    have hln := PS.step_len (s := q) w[i]
    obtain ⟨e1, e2, e3, e4⟩ := PS.set hqo hbt hd
    have hn8 := PS.step_n hqo w[i]
    obtain ⟨hq1, hq2⟩ := hqo
    obtain ⟨hd1, hd2⟩ := dig_lt hbt
    have htl := PS.tail_len q
    have hp8 : 2 ^ (q.n) * 2 ^ (8 - q.n) = 256 := by rw [← Nat.pow_add, show q.n + (8 - q.n) = 8 by omega]
    have ha : q.acc * 2 ^ (8 - q.n) < 256 := by
      rw [← hp8]; exact (Nat.mul_lt_mul_right (Nat.pow_pos (by omega))).2 hq2
    have hdl : dig w[i] * 2 ^ (7 - q.n) < 256 := by
      have h1 : (2 : Nat) ^ (7 - q.n) ≤ 2 ^ 7 := Nat.pow_le_pow_right (by omega) (by omega)
      have h2 : dig w[i] * 2 ^ (7 - q.n) ≤ 1 * 2 ^ 7 := Nat.mul_le_mul (by omega) h1
      omega
    refine E_join1 [ptr p, str w, I i, I w.length, I i] (pkr p (hd ++ q.out ++ [UInt8.ofNat (q.acc * 2 ^ (8 - q.n))]) q.n :: H) (fun k hk2 => ?_) ?_
    · refine E_pkr fun sv => ?_
      have : CellI sv.1 := ⟨sv.2⟩
      rw [← e1] at hk2
      (repeat first | refine gS ?_ | refine gA fun _ => ?_ | refine gX fun _ _ => ?_ | refine gT ?_ | refine gF ?_ | refine gI ?_)
      refine E_if (fun h0 => ?_) (fun h0 => ?_)
      · have hn0 : q.n = 0 := by omega
        rw [if_pos hn0] at hk2
        (repeat first | refine gS ?_ | refine gA fun _ => ?_ | refine gX fun _ _ => ?_ | refine gT ?_ | refine gF ?_ | refine gI ?_)
        refine fd (a := sls cB 5 1 sv.1 (hd ++ q.bytes)) ?_
        refine E_sapp1 (enc := cB) 0 u_bytes elt_byte rfl (by decide) (by simp only [PS.bytes, List.length_append]; omega) (by simp only [PS.bytes, List.length_append]; omega) fun v' _ => ?_
        (repeat first | refine gS ?_ | refine gA fun _ => ?_ | refine gX fun _ _ => ?_ | refine gT ?_ | refine gF ?_ | refine gI ?_)
        refine sm (G := cel true p 63 [v', I q.n] :: sls cB 5 1 v' (hd ++ q.bytes ++ [0]) :: H) ?_
        exact E_pkrS hk2
      · have hn0 : ¬ q.n = 0 := by omega
        rw [if_neg hn0] at hk2
        exact E_pkrS hk2
    · refine E_fa fun _ => ?_
      refine E_pkr fun sv => ?_
      have : CellI sv.1 := ⟨sv.2⟩
      have hlen : (hd ++ q.out ++ [UInt8.ofNat (q.acc * 2 ^ (8 - q.n))]).length = (hd ++ q.out).length + 1 := by simp only [List.length_append, List.length_singleton]
      have hat : (hd ++ q.out ++ [UInt8.ofNat (q.acc * 2 ^ (8 - q.n))])[(hd ++ q.out).length]? = some (UInt8.ofNat (q.acc * 2 ^ (8 - q.n))) := by simp
      have hlo : (hd ++ q.out).length ≤ 100000000 := by rw [List.length_append]; omega
      have hset : (hd ++ q.out ++ [UInt8.ofNat (q.acc * 2 ^ (8 - q.n))]).set (hd ++ q.out).length (UInt8.ofNat ((2 * q.acc + dig w[i]) * 2 ^ (7 - q.n))) = hd ++ (q.step w[i]).bytes := by
        rw [e4]; simp
      generalize hd ++ q.out ++ [UInt8.ofNat (q.acc * 2 ^ (8 - q.n))] = bs at hlen hat hset ⊢
      generalize (hd ++ q.out).length = m at hlen hat hset hlo
      refine E_dr ?_
      (repeat first | refine gS ?_ | refine gA fun _ => ?_ | refine gX fun _ _ => ?_ | refine gT ?_ | refine gF ?_ | refine gI ?_)
      rw [hlen, show ((m + 1 : Nat) : Int) - 1 = (m : Int) by omega]
      refine E_rsix (v := sv.1) (l := bs) hat fun _ _ => ?_
      refine E_ptld ?_
      refine E_chr (by omega) (by rw [Int.toNat_natCast, strSize]; exact hlt) ?_
      simp only [Int.toNat_natCast]
      show E B _ (S.bin .sub (.int .u8 (w[i].toNat : Int)) _ _)
      refine E_sub ?_
      rw [hd2, wrap8 _ (by omega), Int.toNat_natCast, u8n (by omega)]
      (repeat first | refine gS ?_ | refine gA fun _ => ?_ | refine gX fun _ _ => ?_ | refine gT ?_ | refine gF ?_ | refine gI ?_)
      rw [show (7 : Int) - (q.n : Int) = ((7 - q.n : Nat) : Int) by omega]
      refine E_shl8 (by omega) hdl ?_
      rw [u8n ha]
      refine E_or8 ha hdl ?_
      rw [e2]
      refine fd (a := sls cB 5 1 sv.1 bs) ?_
      refine E_sset (enc := cB) (UInt8.ofNat ((2 * q.acc + dig w[i]) * 2 ^ (7 - q.n))) (by omega) rfl ?_
      rw [hset]
      (repeat first | refine gS ?_ | refine gA fun _ => ?_ | refine gX fun _ _ => ?_ | refine gT ?_ | refine gF ?_ | refine gI ?_)
      refine E_remI (by omega) (by omega) ?_
      (repeat first | refine gS ?_ | refine gA fun _ => ?_ | refine gX fun _ _ => ?_ | refine gT ?_ | refine gF ?_ | refine gI ?_)
      rw [show ((q.n : Int) + 1) % 8 = (((q.step w[i]).n : Nat) : Int) by rw [hn8]; omega]
      refine sm (G := cel true p 63 [sv.1, I (q.step w[i]).n] :: sls cB 5 1 sv.1 (hd ++ (q.step w[i]).bytes) :: H) ?_
      refine E_pkrS ?_
      exact hk (i + 1, q.step w[i]) ⟨by simp only; omega, hnx.symm, by simp only; omega⟩ (by simp only; omega)
  · have hie : i = w.length := by omega
    subst hie
    rw [List.take_length] at hq
    rw [← hq] at h
    exact h
end Go.Proofs.Ytblgkgobakhigaa.Cod
end
section
namespace Go.Proofs.Ytblgkgobakhigaa.Cod
open Go Go.SL Go.SL.Stb Go.Proofs Go.Proofs.Ytblgkgobakhigaa.Sh
variable {B : World} {H : List Asrt} {K : Value → WT} {W : WT}
theorem sort_used {ls : List Int} (ho : LOk ls) : sortI (natI (ordL ls)) = natI (usedL ls) := by
  have h1 : (sortI (natI (ordL ls))).Perm (natI (usedL ls)) := (sortI_perm _).trans ((ord_perm ho.rg).map _)
  refine h1.eq_of_pairwise (le := fun a b : Int => a ≤ b) (fun a b _ _ h1 h2 => Int.le_antisymm h1 h2) (sortI_sorted _) ?_
  unfold natI usedL
  rw [List.pairwise_map]
  exact (List.pairwise_lt_range.filter _).imp fun h => by omega
theorem tab_suc {ls : List Int} {l : List Nat} {k b : Nat} (h : l[k]? = some b) : tabL ls (l.take (k + 1)) = tabL ls (l.take k) ++ [UInt8.ofNat b, UInt8.ofNat (ls.getD b 0).toNat] := by
  unfold tabL
  rw [List.take_add_one, h, List.flatMap_append]; simp
theorem tab_len (ls : List Int) (l : List Nat) : (tabL ls l).length = 2 * l.length := by
  unfold tabL
  induction l with
  | nil => rfl
  | cons x l ih => rw [List.flatMap_cons, List.length_append, ih]; simp; omega
theorem tally_ok {p : List UInt8} (hp : p.length ≤ 8192) : ¬ badC (tally p) := by
  intro h
  unfold badC at h
  obtain ⟨x, hx, hb⟩ := h
  obtain ⟨i, hi, e⟩ := List.mem_iff_getElem.1 hx
  have hi' : i < 256 := by rw [← tally_len p]; exact hi
  have h2 := tally_rg (p := p) hi'
  rw [getD_of (show (tally p)[i]? = some x by rw [List.getElem?_eq_getElem hi, e])] at h2
  omega
theorem putB_suc {ls : List Int} {p : List UInt8} {i : Nat} {c : UInt8} (h : p[i]? = some c) : putB ls (p.take (i + 1)) = (wordL ls c.toNat).foldl PS.step (putB ls (p.take i)) := by
  unfold putB
  rw [List.take_add_one, h, List.flatMap_append, List.foldl_append]; simp
theorem bits_all (ls : List Int) (p : List UInt8) : ∀ c ∈ p.flatMap (fun c => wordL ls c.toNat), isBit c := fun c hc => by
  obtain ⟨x, _, hx⟩ := List.mem_flatMap.1 hc
  exact word_bit ls _ c hx
theorem putB_ok (ls : List Int) (p : List UInt8) : (putB ls p).ok := PS.run_ok ps0_ok (bits_all ls p)
theorem run_len (s : PS) (w : List UInt8) : (w.foldl PS.step s).out.length ≤ s.out.length + w.length := by
  induction w generalizing s with
  | nil => exact Nat.le_refl _
  | cons c w ih =>
    have h1 := ih (s.step c)
    have h2 := PS.step_len (s := s) c
    rw [List.foldl_cons, List.length_cons]; omega
theorem putB_len {ls : List Int} (ho : LOk ls) (p : List UInt8) : (putB ls p).out.length ≤ 60 * p.length := by
  unfold putB
  have h1 := run_len ps0 (p.flatMap fun c => wordL ls c.toNat)
  have h2 : (p.flatMap fun c => wordL ls c.toNat).length ≤ 60 * p.length := by
    clear h1
    induction p with
    | nil => simp
    | cons c p ih =>
      have := word_len ho c.toNat
      rw [List.flatMap_cons, List.length_append, List.length_cons]; omega
  have h3 : ps0.out.length = 0 := rfl
  omega
theorem wordsL_at {ls : List Int} (ho : LOk ls) {b : Nat} (hb : b < 256) : (wordsL ls)[b]? = some (wordL ls b) := by
  unfold wordsL
  rw [if_pos ((fits_ok ho.ln).2 ho), List.getElem?_map, List.getElem?_range hb]; rfl
theorem wordsL_len (ls : List Int) : (wordsL ls).length = 256 := by
  unfold wordsL
  split
  · rw [List.length_map, List.length_range]
  · rw [List.length_replicate]
theorem strs_get {l : List (List UInt8)} {n : Nat} {x : List UInt8} (h : l[n]? = some x) : (strs l)[n]? = some (str x) := by
  unfold strs
  rw [List.getElem?_map, h]; rfl
theorem at256 {ls : List Int} (hl : ls.length = 256) {b : Nat} (hb : b < 256) : ls[b]? = some (ls.getD b 0) := by
  rw [List.getD_eq_getElem?_getD, List.getElem?_eq_getElem (by omega)]; rfl
theorem build_packer (w : World) : (Instr.build 63 #[]).run Try.prog w = .ok (.agg #[nil, I 0]) w := by kernel_rfl
attribute [local irreducible] S.pick S.ld S.ldN S.st S.box S.nc S.fad S.ixS S.ixA S.chr S.prt S.ext S.bin S.sh S.sbin S.beq S.neg1 S.com1 S.not1 S.cvt S.str1 S.lenS S.len S.cap S.lenM S.mx S.mn S.mkM S.cond S.gd S.fa S.dr S.rck S.join S.loop S.cvv S.eqv S.slc S.slcS S.b2s S.lk V U CF Gives E cel mpb osl ros dct dit itr
section
variable {P : Program}
theorem E_sapp2R {t ty T : Nat} {v : Value} {l : List UInt8} {fs : List WT} {x y : UInt8} (hu : P.underlying t = some (.slice T)) (he : Elt P T 1 1 [.int .u8 0])
    (hn : l.length + 2 ≤ 100000000000)
    (hf : ∀ b W, E B (cel true b T [.int .u8 x.toNat, .int .u8 y.toNat] :: sls cB T 1 v l :: H) W → E B (cel true b T [.int .u8 x.toNat, .int .u8 y.toNat] :: sls cB T 1 v l :: H) (S.rck fs W))
    (h : ∀ v' [CellI v'], E B (sls cB T 1 v' (l ++ [x, y]) :: H) (K v')) :
    E B (sls cB T 1 v l :: H) (V P (Instr.buildSlice t 2 #[(0, .int .u8 x.toNat), (1, .int .u8 y.toNat)]) fun v1 => S.rck fs <| V P (Builtin.append_ #[t, t] ty #[v, v1]) K) := by
  refine E_bsl (l0 := [.int .u8 0, .int .u8 0]) (l := [.int .u8 x.toNat, .int .u8 y.toNat]) [(0, 1), (1, 1)] hu he (by simp) (by omega) (by simp [rep]) fun b => ?_
  refine hf b _ ?_
  have : Rs B (cel true b T [.int .u8 (x.toNat : Int), .int .u8 (y.toNat : Int)] :: sls cB T 1 v l :: H) (.slice (some ⟨b, 0, none⟩) 2 2) cB [x, y] := rs_cel (xs := [.int .u8 x.toNat, .int .u8 y.toNat]) (by simp) rfl
  refine fd (a := sls cB T 1 v l) ?_
  have : Rs B (cel true b T [.int .u8 (x.toNat : Int), .int .u8 (y.toNat : Int)] :: H) (.slice (some ⟨b, 0, none⟩) 2 2) cB [x, y] := rs_cel (xs := [.int .u8 x.toNat, .int .u8 y.toNat]) (by simp) rfl
  refine E_sapps (enc := cB) (u := .slice (some ⟨b, 0, none⟩) 2 2) (m := [x, y]) hu he (by simp; omega) (by simp; omega) fun v' _ => ?_
  refine sm (G := sls cB T 1 v' (l ++ [x, y]) :: H) (h v')
end
theorem put {pv : Value} {p : List UInt8} [hr : Rb B H pv p] (hp : p.length ≤ 8192) (h : ∀ v [CellI v], E B (sls cB 5 1 v (putL p) :: H) (K (.tuple #[v, I 0]))) : E B H (CF Try.prog 13 [pv] K) := by
  have hz : (ints zeros).length = 256 := by simp [ints, zeros_len]
  refine E_mono (W := s13 _ K) ?_ fun _ => c13
  unfold s13
  refine E_rslen (v := pv) (l := p) ?_
  refine E_gtr ?_
  refine E_ifF (by omega) ?_
  refine E_box (vs := ints zeros) fun v4 => ?_
  refine E_rslen (v := pv) (l := p) ?_
  refine E_loop (n := 5) (σ := Nat) (fun i => i ≤ p.length) (fun i => [pv, ptr v4, pv, I p.length, I i]) (fun i => cel true v4 22 (ints (tally (p.take i))) :: H) (fun i => p.length - i) 0 (fun _ => rfl) rfl (Nat.zero_le _) (fun W hW => by
    rw [List.take_zero, tally_nil] at hW
    exact hW) ?_
  rintro i K0 hi hk
  refine E_fa fun _ => ?_
  refine E_lss ?_
  refine E_if (fun hc => ?_) (fun hc => ?_)
  · have hx : p[i]? = some p[i] := List.getElem?_eq_getElem (by omega)
    generalize p[i] = c at hx
    have hcl : c.toNat < 256 := c.toNat_lt
    have e0 : 0 + c.toNat * 1 = c.toNat := by omega
    have htk : p.take (i + 1) = p.take i ++ [c] := by rw [List.take_add_one, hx]; rfl
    have htl := tally_len (p.take i)
    have hrg := tally_rg (p := p.take i) hcl
    rw [List.length_take] at hrg
    have hga := ints_get (at256 htl hcl)
    have hk1 := hk (i + 1) (by omega) (by omega)
    rw [htk, tally_app, ← ints_set] at hk1
    refine E_rsix (v := pv) (l := p) hx fun _ _ => ?_
    refine E_ptld ?_
    refine E_ixA hcl ?_
    rw [e0]
    refine E_ld' hga ?_
    refine E_addI (by omega) (by omega) ?_
    refine E_ixA hcl ?_
    rw [e0]
    refine E_st' (by simp [ints, htl]; omega) ?_
    refine E_addI (by omega) (by omega) ?_
    exact hk1
  have hie : i = p.length := by omega
  subst hie
  rw [List.take_length]
  have htl := tally_len p
  have hil : (ints (tally p)).length = 256 := by simp [ints, htl]
  have al0 : AtLen (ints (tally p)) 256 := ⟨hil⟩
  refine E_ldNA (l := ints (tally p)) ?_
  refine lengths htl ?_
  have ho := (lens_ok htl (tally_ok hp)).ok
  have hsu := sort_used ho
  unfold putL at h
  generalize lens (tally p) = ls at ho hsu h ⊢
  have hll := ho.ln
  have hil2 : (ints ls).length = 256 := by simp [ints, hll]
  have al2 : AtLen (ints ls) 256 := ⟨hil2⟩
  have hwl : (strs (wordsL ls)).length = 256 := by simp [strs, wordsL_len]
  have hzl : (strs (List.replicate 256 [])).length = 256 := by rw [strs, List.length_map, List.length_replicate]
  refine E_ext ?_
  refine E_ext ?_
  refine E_box (vs := ints zeros) fun v7 => ?_
  refine E_stW (vs := ints ls) (hc := allc_ints _) hil2 hz ?_
  refine E_ldNA (l := ints ls) ?_
  refine words hll ?_
  refine E_ext ?_
  refine E_ext ?_
  refine E_box (vs := strs (List.replicate 256 [])) fun v9 => ?_
  refine E_stW (vs := strs (wordsL ls)) (hc := allc_strs _) hwl hzl ?_
  refine E_ldNA (l := ints ls) ?_
  have hol : (ordL ls).length = (usedL ls).length := (ord_perm ho.rg).length_eq
  have hul : (usedL ls).length ≤ 256 := usedTo_len ls 256
  refine used hll ho.rg fun uv _ => ?_
  refine E_sortC (by rw [List.length_map]; omega) ?_
  rw [hsu]
  refine E_vk build_packer ?_
  refine E_box (vs := [nil, I 0]) fun v47 => ?_
  refine sls_nil cB 1 (T := 5) ?_
  refine sm (G := cel true v47 63 [nil, I ((0 : Nat) : Int)] :: sls cB 5 1 nil [] :: sls cI 3 1 uv (natI (usedL ls)) :: cel true v9 28 (strs (wordsL ls)) :: cel true v7 22 (ints ls) :: H) ?_
  refine E_pkrS ?_
  refine E_rslen (v := pv) (l := p) ?_
  refine packNum (by omega) (by simp) ?_
  rw [List.nil_append]
  refine E_rslen (v := uv) (l := natI (usedL ls)) ?_
  rw [List.length_map]
  have hnl : ∀ n, (numL n).length ≤ 10 := fun n => numF_len 9 n
  have hn1 := hnl p.length
  have hn2 := hnl (usedL ls).length
  refine packNum (by omega) (by omega) ?_
  refine E_rslen (v := uv) (l := natI (usedL ls)) ?_
  rw [List.length_map]
  generalize hhd : numL p.length ++ numL (usedL ls).length = hd at h ⊢
  have hhl : hd.length ≤ 20 := by rw [← hhd, List.length_append]; omega
  clear hhd
  refine E_loop (n := 7) (σ := Nat) (fun k => k ≤ (usedL ls).length) (fun k => [pv, ptr v7, ptr v9, ptr v47, uv, I (usedL ls).length, I k]) (fun k => pkr v47 (hd ++ tabL ls ((usedL ls).take k)) 0 :: sls cI 3 1 uv (natI (usedL ls)) :: cel true v9 28 (strs (wordsL ls)) :: cel true v7 22 (ints ls) :: H) (fun k => (usedL ls).length - k) 0 (fun _ => rfl) rfl (Nat.zero_le _) (fun W hW => by
    rw [List.take_zero, show tabL ls [] = [] from rfl, List.append_nil] at hW
    exact hW) ?_
  rintro k K1 hk1 hk
  refine E_fa fun _ => ?_
  refine E_lss ?_
  refine E_if (fun hc => ?_) (fun hc => ?_)
  · have hb : (usedL ls)[k]? = some (usedL ls)[k] := List.getElem?_eq_getElem (by omega)
    generalize (usedL ls)[k] = b at hb
    have hblt := usedL_lt (List.mem_of_getElem? hb)
    have hbi : (natI (usedL ls))[k]? = some (b : Int) := by rw [List.getElem?_map, hb]; rfl
    have e0 : 0 + b * 1 = b := by omega
    have hgb := ints_get (at256 hll hblt)
    have hrg := ho.rg b hblt
    have hk2 := hk (k + 1) (by omega) (by omega)
    rw [tab_suc hb, ← List.append_assoc] at hk2
    have htk : ((usedL ls).take k).length ≤ (usedL ls).length := by rw [List.length_take]; omega
    generalize hbs : hd ++ tabL ls ((usedL ls).take k) = bs at hk2 ⊢
    have hbl : bs.length ≤ 1000 := by rw [← hbs, List.length_append, tab_len]; omega
    clear hbs
    refine E_rsix (v := uv) (l := natI (usedL ls)) hbi fun _ _ => ?_
    refine E_ptld ?_
    refine E_dr ?_
    refine E_pkr fun sv => ?_
    have : CellI sv.1 := ⟨sv.2⟩
    (repeat first | refine gS ?_ | refine gA fun _ => ?_ | refine gX fun _ _ => ?_ | refine gT ?_ | refine gF ?_ | refine gI ?_)
    refine E_cvt8 (by omega) ?_
    rw [Int.toNat_natCast]
    refine E_ixA hblt ?_
    rw [e0]
    refine E_ld' hgb ?_
    refine E_cvt8 (by omega) ?_
    refine fd (a := sls cB 5 1 sv.1 bs) ?_
    refine E_sapp2R u_bytes elt_byte (by omega) (fun g W hW => ?_) fun v' _ => ?_
    · (repeat (refine E_rck1 (by first | exact E_ld (E_fact rfl) | exact E_ld' (by assumption) (E_fact rfl) | exact E_b2sR (E_fact rfl) | exact E_gdnF (by assumption) (E_ld (E_fact rfl)) | exact E_gdT (by assumption) (E_ld (E_fact rfl)) | exact E_gtf (E_ld (E_fact rfl)) | exact E_gft (E_ld (E_fact rfl)) | exact E_ldNA (E_fact rfl) | exact E_ptld (E_fact rfl) | exact E_gtf (E_ldNA (E_fact rfl))) ?_)); (first | (refine E_rck0 ?_) | skip)
      exact hW
    (repeat first | refine gS ?_ | refine gA fun _ => ?_ | refine gX fun _ _ => ?_ | refine gT ?_ | refine gF ?_ | refine gI ?_)
    refine sm (G := cel true v47 63 [v', I ((0 : Nat) : Int)] :: sls cB 5 1 v' (bs ++ [UInt8.ofNat b, UInt8.ofNat (ls.getD b 0).toNat]) :: sls cI 3 1 uv (natI (usedL ls)) :: cel true v9 28 (strs (wordsL ls)) :: cel true v7 22 (ints ls) :: H) ?_
    refine E_pkrS ?_
    exact hk2
  have hke : k = (usedL ls).length := by omega
  subst hke
  rw [List.take_length]
  clear hk
  have htn := tab_len ls (usedL ls)
  generalize hhd2 : hd ++ tabL ls (usedL ls) = bs at h ⊢
  have hbl : bs.length ≤ 1000 := by rw [← hhd2, List.length_append]; omega
  clear hhd2
  refine E_rslen (v := pv) (l := p) ?_
  refine E_loop (n := 5) (σ := Nat) (fun i => i ≤ p.length) (fun i => [ptr v9, ptr v47, pv, I p.length, I i]) (fun i => pkr v47 (bs ++ (putB ls (p.take i)).bytes) (putB ls (p.take i)).n :: cel true v9 28 (strs (wordsL ls)) :: H) (fun i => p.length - i) 0 (fun _ => rfl) rfl (Nat.zero_le _) (fun W hW => by
    rw [List.take_zero, show (putB ls []).bytes = [] from rfl, show (putB ls []).n = 0 from rfl, List.append_nil] at hW
    exact sm hW) ?_
  rintro j K2 hj hk
  refine E_fa fun _ => ?_
  refine E_lss ?_
  refine E_if (fun hc => ?_) (fun hc => ?_)
  · have hx : p[j]? = some p[j] := List.getElem?_eq_getElem (by omega)
    generalize p[j] = c at hx
    have hcl : c.toNat < 256 := c.toNat_lt
    have e0 : 0 + c.toNat * 1 = c.toNat := by omega
    have hpl := putB_len ho (p.take j)
    have hwl := word_len ho c.toNat
    rw [List.length_take] at hpl
    have hk2 := hk (j + 1) (by omega) (by omega)
    rw [putB_suc hx] at hk2
    refine E_rsix (v := pv) (l := p) hx fun _ _ => ?_
    refine E_ptld ?_
    refine E_ixA hcl ?_
    rw [e0]
    refine E_ld' (strs_get (wordsL_at ho hcl)) ?_
    refine lay (putB_ok ls _) (word_bit ls _) (by omega) ?_
    refine E_addI (by omega) (by omega) ?_
    exact hk2
  have hje : j = p.length := by omega
  subst hje
  rw [List.take_length]
  refine E_pkr fun sv => ?_
  have : CellI sv.1 := ⟨sv.2⟩
  refine gS ?_
  refine gS ?_
  refine gS ?_
  exact sm (h sv.1)
end Go.Proofs.Ytblgkgobakhigaa.Cod
end
section
namespace Go.Proofs.Ytblgkgobakhigaa.Cod
open Go Go.SL Go.SL.Stb Go.Proofs Go.Proofs.Ytblgkgobakhigaa.Sh
variable {B : World} {H : List Asrt} {K : Value → WT} {W : WT}
theorem eqg_self {P : Program} {t e : TypeId} {n : Nat} {xs : List Value} (ht : P.underlying t = some (.array n e)) (hc : cellT P e = true) (hs : (P.info? e).map (fun i => i.size) = some 1) (hx : xs.length = n) (he : ∀ x ∈ xs, EqG P 1 e x x true) :
    EqG P 2 t (.agg xs.toArray) (.agg xs.toArray) true := fun d w => by
  obtain ⟨i, hi, hsz⟩ := Option.map_eq_some_iff.1 hs
  have hsz2 : (sizeOf e).run P w = .ok 1 w := by rw [run_size' hi, hsz]
  rw [Op.equalIn]
  simp only [run_bind, run_underlying ht, Result.andThen_ok, hsz2, Std.Legacy.Range.forIn_eq_forIn_range', Std.Legacy.Range.size, Nat.sub_zero, Nat.add_sub_cancel, Nat.div_one, Sem.run_bind]
  have hl : ∀ i ∈ List.range' 0 n 1, i < n := fun i hi => by simpa using (List.mem_range'_1.1 hi).2
  generalize List.range' 0 n 1 = l at hl ⊢
  induction l with
  | nil => simp
  | cons i l ih =>
    have hi : i < n := hl i (by simp)
    have hxi : xs.toArray[i * 1]? = some xs[i] := by
      rw [Nat.mul_one]; simp
    have px := partG_cell (P := P) hc hxi w
    have pe := he xs[i] (List.getElem_mem _) d w
    simp only [List.forIn_cons, Sem.run_bind, px, pe, Result.andThen_ok]
    simp only [Bool.not_true, Bool.false_eq_true, if_false, Sem.run_pure, Result.andThen_ok]
    exact ih fun j hj => hl j (by simp [hj])
theorem eqg_ints (l : List Int) (hl : l.length = 256) : EqG Try.prog 2 22 (.agg (ints l).toArray) (.agg (ints l).toArray) true := by
  refine eqg_self u_arr cell_int size_int (by simp [ints, hl]) fun x hx => ?_
  unfold ints at hx
  obtain ⟨a, _, rfl⟩ := List.mem_map.1 hx
  have := (eqV_int (P := Try.prog) (a := a) (b := a) u_int).g
  rwa [decide_eq_true rfl] at this
theorem cell_str : cellT Try.prog 9 = true := by kernel_rfl
theorem size_str : (Try.prog.info? 9).map (fun i => i.size) = some 1 := by kernel_rfl
set_option maxRecDepth 100000
theorem guard_ints : Try.prog.eqGuardType Try.prog.depth 22 = false := by kernel_rfl
theorem E_eqInts {l : List Int} {c : Bool} (hl : l.length = 256) (h : E B H (K (.bool true))) : E B H (S.eqv Try.prog .eql 22 c (.agg (ints l).toArray) (.agg (ints l).toArray) K) :=
  E_aeq guard_ints (fun w => (eqg_ints l hl).equal (by omega) w) h
def cs1 : List Int := ((zeros.set 97 5).set 98 2).set 99 1
def cs2 : List Int := ((zeros.set 97 1).set 98 2).set 99 2
theorem sortI_eq {l m : List Int} (hp : l.Perm m) (hs : m.Pairwise fun a b => a ≤ b) : sortI l = m :=
  ((sortI_perm l).trans hp).eq_of_pairwise (le := fun a b : Int => a ≤ b) (fun a b _ _ h1 h2 => Int.le_antisymm h1 h2) (sortI_sorted _) hs
theorem join_eq {x y : Tr} {m : List Int} (hp : (x.b ++ y.b).Perm m) (hs : m.Pairwise fun a b => a ≤ b) : joinT x y = ⟨x.n + y.n, m⟩ := by
  unfold joinT
  rw [sortI_eq hp hs]
theorem step_eq {l m : List Tr} {out : List Int} {x y : Tr} {b : List Int} (hx : bestT l = x) (hy : bestT (restT l) = y) (hr : restT (restT l) ++ [⟨x.n + y.n, b⟩] = m) (hp : (x.b ++ y.b).Perm b) (hs : b.Pairwise fun a b => a ≤ b) : stepT (l, out) = (m, bump out b) := by
  unfold stepT
  simp only
  rw [hx, hy, join_eq hp hs, hr]
theorem huff_suc {k : Nat} {s t : List Tr × List Int} (h : 1 < s.1.length) (hs : stepT s = t) : huff (k + 1) s = huff k t := by
  conv => lhs; unfold huff
  rw [if_pos h, hs]
theorem lens1 : lens cs1 = cs2 := by
  have hb : ¬ badC cs1 := fun ⟨x, hx, h⟩ => by
    have h1 : (cs1.all fun x => decide (0 ≤ x ∧ x ≤ 8192)) = true := by kernel_rfl
    have := of_decide_eq_true (List.all_eq_true.1 h1 x hx)
    omega
  have hl : leafs cs1 = [⟨5, [97]⟩, ⟨2, [98]⟩, ⟨1, [99]⟩] := by kernel_rfl
  unfold lens
  rw [if_neg hb, hl, if_neg (by decide)]
  rw [show [(⟨5, [97]⟩ : Tr), ⟨2, [98]⟩, ⟨1, [99]⟩].length = 1 + 1 + 1 from rfl]
  rw [huff_suc (by decide) (step_eq (x := ⟨1, [99]⟩) (y := ⟨2, [98]⟩) (b := [98, 99]) (m := [⟨5, [97]⟩, ⟨3, [98, 99]⟩]) (by kernel_rfl) (by kernel_rfl) (by kernel_rfl) (List.Perm.swap ..) (by decide))]
  rw [huff_suc (by decide) (step_eq (x := ⟨3, [98, 99]⟩) (y := ⟨5, [97]⟩) (b := [97, 98, 99]) (m := [⟨8, [97, 98, 99]⟩]) (by kernel_rfl) (by kernel_rfl) (by kernel_rfl) (by decide) (by decide))]
  rw [huff_stop (s := ([⟨8, [97, 98, 99]⟩], bump (bump zeros [98, 99]) [97, 98, 99])) (by decide)]
  show bump (bump zeros [98, 99]) [97, 98, 99] = cs2
  kernel_rfl
def cs3 : List Int := (zeros.set 97 1).set 98 1
theorem lens3 : lens (tally [97, 97, 98]) = cs3 := by
  have hb : ¬ badC (tally [97, 97, 98]) := tally_ok (by decide)
  have hl : leafs (tally [97, 97, 98]) = [⟨2, [97]⟩, ⟨1, [98]⟩] := by kernel_rfl
  unfold lens
  rw [if_neg hb, hl, if_neg (by decide)]
  rw [show [(⟨2, [97]⟩ : Tr), ⟨1, [98]⟩].length = 1 + 1 from rfl]
  rw [huff_suc (by decide) (step_eq (x := ⟨1, [98]⟩) (y := ⟨2, [97]⟩) (b := [97, 98]) (m := [⟨3, [97, 98]⟩]) (by kernel_rfl) (by kernel_rfl) (by kernel_rfl) (List.Perm.swap ..) (by decide))]
  rw [huff_stop (s := ([⟨3, [97, 98]⟩], bump zeros [97, 98])) (by decide)]
  show bump zeros [97, 98] = cs3
  kernel_rfl
theorem lensE1 : lensE cs1 = 0 := by kernel_rfl
theorem put1 : putL [97, 97, 98] = [3, 2, 97, 1, 98, 1, 32] := by
  unfold putL
  rw [lens3]
  kernel_rfl
theorem build1 (w : World) : (Instr.build 22 #[(97, (.int .i64 5)), (98, (.int .i64 2)), (99, (.int .i64 1))]).run Try.prog w = .ok (.agg (ints cs1).toArray) w := by kernel_rfl
theorem build2 (w : World) : (Instr.build 22 #[(97, (.int .i64 1)), (98, (.int .i64 2)), (99, (.int .i64 2))]).run Try.prog w = .ok (.agg (ints cs2).toArray) w := by kernel_rfl
attribute [local irreducible] S.pick S.ld S.ldN S.st S.box S.nc S.fad S.ixS S.ixA S.chr S.prt S.ext S.bin S.sh S.sbin S.beq S.neg1 S.com1 S.not1 S.cvt S.str1 S.lenS S.len S.cap S.lenM S.mx S.mn S.mkM S.cond S.gd S.fa S.dr S.rck S.join S.loop S.cvv S.eqv S.slc S.slcS S.b2s S.lk V U CF Gives E cel mpb osl ros dct dit itr
theorem rb_cel {b T n : Nat} {bs : List UInt8} (hn : bs.length = n) : Rb B (cel true b T (bcs bs) :: H) (.slice (some ⟨b, 0, none⟩) n n) bs := ⟨fun hw => by
  subst hn
  refine .inr ⟨⟨b, 0, none⟩, bs.length, rfl, Nat.le_refl _, fun j hj => ?_⟩
  rw [add_at, Nat.zero_add, sat_cell (hf := hasC_here) hw]⟩
theorem live (h : E B H (K (.bool true))) : E B H (CF Try.prog 10 [] K) := by
  refine E_mono (W := s10 K) ?_ fun _ => c10
  unfold s10
  refine E_bsl (l0 := [.int .u8 0, .int .u8 0, .int .u8 0]) (l := bcs [97, 97, 98]) (hf := ⟨rfl⟩) [(0, 1), (1, 1), (2, 1)] u_bytes elt_byte (by simp) (by omega) (by simp [rep]) fun b => ?_
  refine E_cvslice (l := bcs [97, 97, 98]) u_bytes u_byte ?_
  have : Rb B (cel true b 5 (bcs [97, 97, 98]) :: H) (.slice (some ⟨b, 0, none⟩) 3 3) [97, 97, 98] := rb_cel rfl
  refine put (p := [97, 97, 98]) (by decide) fun v _ => ?_
  rw [put1]
  refine E_ext ?_
  refine E_ext ?_
  refine E_vk build1 ?_
  refine lengths (cs := cs1) rfl ?_
  rw [lens1, lensE1]
  refine E_ext ?_
  refine E_ext ?_
  refine E_box (vs := ints zeros) fun v3 => ?_
  refine E_stW (vs := ints cs2) (hc := allc_ints _) rfl rfl ?_
  refine E_eql ?_
  refine E_gtf ?_
  refine E_gtf ?_
  refine E_b2sR ?_
  refine E_gtf ?_
  refine E_streq ?_
  refine E_ptt ?_
  refine E_gtf ?_
  refine E_gtf ?_
  refine E_eql ?_
  refine E_ptt ?_
  have al : AtLen (ints cs2) 256 := ⟨rfl⟩
  refine E_gtf ?_
  refine E_ldNA (l := ints cs2) ?_
  refine E_gtf ?_
  refine E_vk build2 ?_
  refine E_gtf ?_
  refine E_eqInts rfl ?_
  refine E_ptt ?_
  refine sm (G := H) h
end Go.Proofs.Ytblgkgobakhigaa.Cod
end
