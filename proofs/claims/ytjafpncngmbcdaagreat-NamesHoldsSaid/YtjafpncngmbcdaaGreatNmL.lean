/-
  Names: spans (plain); slices.Compact.
-/
import Derived.Test.YtjafpncngmbcdaaGreatNmK
set_option linter.unusedSimpArgs false
set_option linter.unusedVariables false
set_option linter.unusedSectionVars false
namespace Go.Proofs.YtjafpncngmbcdaaGreat.Nam
open Go Go.SL Go.Proofs Go.Proofs.YtjafpncngmbcdaaGreat.Sh
variable {B : World} {H : List Asrt} {K : Value → WT} {W : WT} {a : Nat} {M : Bk} {f : Fa}
/-- What is kept of the first j. -/
def cmpTo (l : List Int) : Nat → List Int
  | 0 => []
  | j + 1 => if j = 0 ∨ l.getD j 0 ≠ l.getD (j - 1) 0 then cmpTo l j ++ [l.getD j 0] else cmpTo l j
def compactL (l : List Int) : List Int := cmpTo l l.length
theorem cmpTo_length (l : List Int) (j : Nat) : (cmpTo l j).length ≤ j := by
  induction j with
  | zero => simp [cmpTo]
  | succ j ih => unfold cmpTo; split <;> (try simp) <;> omega
theorem cmpTo_id {l : List Int} {j : Nat} (hj : j ≤ l.length) (h : ∀ i, 1 ≤ i → i < j → l.getD i 0 ≠ l.getD (i - 1) 0) : cmpTo l j = l.take j := by
  induction j with
  | zero => simp [cmpTo]
  | succ j ih =>
    unfold cmpTo
    have hlt : j < l.length := by omega
    rw [if_pos (by by_cases h0 : j = 0; · exact .inl h0
                   · exact .inr (h j (by omega) (by omega))), ih (by omega) fun i h1 h2 => h i h1 (by omega), List.take_add_one, List.getD_eq_getElem?_getD, List.getElem?_eq_getElem hlt]
    rfl
theorem getD_mem {l : List Int} {i : Nat} (h : i < l.length) : l.getD i 0 ∈ l := by
  rw [List.getD_eq_getElem?_getD, List.getElem?_eq_getElem h]; exact List.getElem_mem h
theorem take_last {l : List Int} {j : Nat} (h : j < l.length) : l.take (j + 1) = l.take j ++ [l.getD j 0] := by
  rw [List.take_add_one, List.getD_eq_getElem?_getD, List.getElem?_eq_getElem h]; rfl
theorem cmpTo_sorted {l : List Int} (hs : l.Pairwise (· ≤ ·)) : ∀ j, j ≤ l.length → (cmpTo l j).Pairwise (· < ·) ∧ (∀ x, x ∈ cmpTo l j ↔ x ∈ l.take j)
  | 0, _ => by simp [cmpTo]
  | j + 1, hj => by
    obtain ⟨h1, h2⟩ := cmpTo_sorted hs j (by omega)
    have hlt : j < l.length := by omega
    have hle : ∀ x ∈ l.take j, x ≤ l.getD j 0 := by
      have := hs.sublist (List.take_sublist (j + 1) l)
      rw [take_last hlt] at this
      exact fun x hx => (List.pairwise_append.1 this).2.2 x hx _ (by simp)
    unfold cmpTo
    split
    · rename_i hc
      refine ⟨List.pairwise_append.2 ⟨h1, List.pairwise_singleton .., fun x hx y hy => ?_⟩, fun x => ?_⟩
      · rw [List.mem_singleton] at hy; subst hy
        have hxj := (h2 x).1 hx
        have h3 := hle x hxj
        rcases hc with rfl | hc
        · simp at hxj
        · obtain ⟨i, hi, rfl⟩ := List.mem_iff_getElem.1 hxj
          have hi' : i < j := by simp at hi; omega
          have h4 : (l.take j)[i] ≤ l.getD (j - 1) 0 := by
            have hp : (l.take j).Pairwise (· ≤ ·) := hs.sublist (List.take_sublist ..)
            have e : l.getD (j - 1) 0 = (l.take j)[j - 1]'(by simp; omega) := by
              rw [List.getD_eq_getElem?_getD, List.getElem?_eq_getElem (by omega)]; simp
            rw [e]
            by_cases hij : i = j - 1
            · subst hij; exact Int.le_refl _
            · exact List.pairwise_iff_getElem.1 hp i (j - 1) hi (by simp; omega) (by omega)
          have h5 : l.getD (j - 1) 0 ≤ l.getD j 0 := hle _ (by
            have : l.getD (j - 1) 0 = (l.take j).getD (j - 1) 0 := by
              rw [List.getD_eq_getElem?_getD, List.getD_eq_getElem?_getD, List.getElem?_take_of_lt (by omega)]
            rw [this]
            exact getD_mem (by simp; omega))
          omega
      · rw [take_last hlt, List.mem_append, List.mem_append, h2]
    · rename_i hc
      refine ⟨h1, fun x => ?_⟩
      rw [h2, take_last hlt, List.mem_append, List.mem_singleton]
      constructor
      · exact .inl
      · rintro (h | h)
        · exact h
        · subst h
          have hj0 : j ≠ 0 := fun h0 => hc (.inl h0)
          have he : l.getD j 0 = l.getD (j - 1) 0 := by
            by_cases he : l.getD j 0 = l.getD (j - 1) 0
            · exact he
            · exact absurd (.inr he) hc
          rw [he]
          have : l.getD (j - 1) 0 = (l.take j).getD (j - 1) 0 := by
            rw [List.getD_eq_getElem?_getD, List.getD_eq_getElem?_getD, List.getElem?_take_of_lt (by omega)]
          rw [this]
          exact getD_mem (by simp; omega)
theorem compact_sorted {l : List Int} (hs : l.Pairwise (· ≤ ·)) : (compactL l).Pairwise (· < ·) ∧ ∀ x, x ∈ compactL l ↔ x ∈ l := by
  have := cmpTo_sorted hs l.length (Nat.le_refl _)
  rw [List.take_length] at this
  exact this
theorem ints_at {m : List Int} {sp : List Value} {i j : Nat} (h : i < m.length) (hj : j = i := by omega) : (ints m ++ sp)[j]? = some (I (m.getD i 0)) := by
  subst hj
  rw [List.getElem?_append_left (by simpa using h)]
  simp [ints, h]
theorem ints_set {m : List Int} {sp : List Value} {i j : Nat} {x : Int} (h : i < m.length) (hj : j = i := by omega) : (ints m ++ sp).set j (I x) = ints (m.set i x) ++ sp := by
  subst hj
  rw [List.set_append_left _ _ (by simpa using h)]
  simp [ints, List.map_set]
theorem addN_fold : ∀ (xs l : List Int), l.Nodup → (xs.foldl addN l).Nodup ∧ ∀ x, x ∈ xs.foldl addN l ↔ x ∈ l ∨ x ∈ xs
  | [], l, h => ⟨h, fun x => by simp⟩
  | y :: xs, l, h => by
    have hn : (addN l y).Nodup ∧ ∀ x, x ∈ addN l y ↔ x ∈ l ∨ x = y := by
      unfold addN
      split
      · rename_i hy
        exact ⟨h, fun x => ⟨.inl, fun hx => hx.elim id fun e => e ▸ hy⟩⟩
      · rename_i hy
        refine ⟨List.nodup_append.2 ⟨h, List.pairwise_singleton _ _, fun a ha b hb => ?_⟩, fun x => by simp⟩
        simp at hb; subst hb
        exact fun e => hy (e ▸ ha)
    obtain ⟨h1, h2⟩ := addN_fold xs (addN l y) hn.1
    refine ⟨h1, fun x => ?_⟩
    rw [List.foldl_cons, h2, hn.2, List.mem_cons, or_assoc]
theorem span_law {D G : List Int} {m c : Int} (hD : D.Pairwise (· < ·)) (hm : m ∈ D) (hG : G.Nodup) (hGm : ∀ x, x ∈ G ↔ x ∈ D ∧ m < x) (hc : 0 ≤ c) : m ∈ D.drop (max 0 ((D.length : Int) - c)).toNat ↔ (G.length : Int) < c := by
  obtain ⟨i, hi, hmi⟩ := List.getElem_of_mem hm
  have hp := List.pairwise_iff_getElem.1 hD
  have hn : D.Nodup := hD.imp fun h => by omega
  have hlen : G.length = D.length - (i + 1) := by
    have : G.Perm (D.drop (i + 1)) := by
      refine (List.perm_ext_iff_of_nodup hG (hn.sublist (List.drop_sublist ..))).2 fun x => ?_
      rw [hGm, List.mem_drop_iff_getElem]
      constructor
      · rintro ⟨hx, hlt⟩
        obtain ⟨j, hj, rfl⟩ := List.getElem_of_mem hx
        have hij : i < j := by
          rcases Nat.lt_trichotomy i j with h | h | h
          · exact h
          · subst h; omega
          · have := hp j i hj hi h; omega
        exact ⟨j - (i + 1), by omega, by congr 1; omega⟩
      · rintro ⟨j, hj, rfl⟩
        exact ⟨List.getElem_mem _, by have := hp i (i + 1 + j) hi (by omega) (by omega); omega⟩
    rw [this.length_eq, List.length_drop]
  have hk : ∀ k : Nat, m ∈ D.drop k ↔ k ≤ i := fun k => by
    rw [List.mem_drop_iff_getElem]
    constructor
    · rintro ⟨j, hj, e⟩
      have : k + j = i := by
        rcases Nat.lt_trichotomy (k + j) i with h | h | h
        · have := hp (k + j) i (by omega) hi h; omega
        · exact h
        · have := hp i (k + j) hi (by omega) h; omega
      omega
    · intro h
      exact ⟨i - k, by omega, by rw [← hmi]; congr 1; omega⟩
  rw [hk, hlen]
  omega
theorem sortI_sorted (l : List Int) : (sortI l).Pairwise (· ≤ ·) := by
  have h : (sortI l).Pairwise fun x y => decide (x ≤ y) = true := by
    refine List.pairwise_mergeSort (fun a b c h1 h2 => ?_) (fun a b => ?_) l
    · simp only [decide_eq_true_eq] at *; omega
    · simp only [Bool.or_eq_true, decide_eq_true_eq]; omega
  exact h.imp fun h => by simpa using h
theorem sortOk : SortOk Tryz.prog 129 := ⟨fun blk off cap zs w h1 h2 h3 => Tryz.slices_Sort_int blk off cap zs w h1 h2 h3, fun p cap w => Tryz.slices_Sort_int_none p cap w⟩
theorem cI_ints (l : List Int) : l.flatMap cI = ints l := by
  induction l with
  | nil => rfl
  | cons x l ih => rw [List.flatMap_cons, ih]; rfl
theorem E_sortC {v : Value} {zs : List Int} (hn : zs.length < 4611686018427387904) (h : E B (sls cI 3 1 v (sortI zs) :: H) (K (.tuple #[]))) : E B (sls cI 3 1 v zs :: H) (CF Tryz.prog 129 [v] K) := by
  unfold sls at h ⊢
  rw [cI_ints] at h ⊢
  have hl : (sortI zs).length = zs.length := List.length_mergeSort ..
  rw [hl] at h
  exact E_sortI sortOk hn h
attribute [local irreducible] S.pick S.ld S.ldN S.st S.box S.nc S.fad S.ixS S.ixA S.chr S.prt S.ext S.bin S.sh S.sbin S.beq S.neg1 S.com1 S.not1 S.cvt S.str1 S.lenS S.len S.cap S.lenM S.mx S.mn S.mkM S.cond S.gd S.fa S.dr S.rck S.join S.loop S.cvv S.eqv S.slc S.slcS S.b2s S.lk V U CF Gives E cel mpb osl ros dct dit itr lpo dfo
set_option maxRecDepth 8000
attribute [local irreducible] bk
theorem compact {v : Value} {l : List Int} (hl : l.length ≤ 4611686018427387000) (h : ∀ v' [CellI v'], E B (sls cI 3 1 v' (compactL l) :: H) (K v')) : E B (sls cI 3 1 v l :: H) (CF Tryz.prog 130 [v] K) := by
  refine E_mono (W := s130 _ K) ?_ fun _ => c130
  unfold s130
  refine rs_cell (v := v) fun hcv => ?_
  have icv : CellI v := ⟨hcv⟩
  refine E_rslen (v := v) ?_
  refine E_lss ?_
  refine E_if (fun hc => ?_) (fun hc => ?_)
  · have e : compactL l = l := by
      unfold compactL
      rw [cmpTo_id (Nat.le_refl _) (fun i h1 h2 => by omega), List.take_length]
    rw [← e]; exact h v
  have hn2 : 2 ≤ l.length := by omega
  refine E_intsS ?_
  refine E_oslo (by omega) fun b cap spare hv hle hxl hsl => ?_
  subst hv
  have hsl' : spare.length = cap - l.length := by simpa using hsl
  refine E_loop (σ := Nat) (fun k => 1 ≤ k ∧ k ≤ l.length ∧ ∀ i, 1 ≤ i → i < k → l.getD i 0 ≠ l.getD (i - 1) 0) (fun k => [.slice (some ⟨b, 0, none⟩) l.length cap, I k]) (fun _ => cel true b 3 (ints l ++ spare) :: H) (fun k => l.length - k) 1 (fun _ => rfl) rfl
    ⟨by omega, by omega, fun i h1 h2 => by omega⟩ (fun W hW => hW) ?_
  intro k K0 ⟨hk1, hkl, hne⟩ hk
  refine E_fa fun _ => ?_
  (repeat (first | refine goS ?_ | refine E_box fun _ => ?_ | refine E_fa fun _ => ?_ | refine E_ptfad0 fun _ _ => ?_ | refine E_ptfad fun _ _ => ?_ | refine E_rsix (by assumption) fun _ _ => ?_ | refine goT (by first | assumption | decide) ?_ | refine goF (by first | assumption | decide) ?_ | refine E_ixN (by omega) ?_ | refine E_ld' (by assumption) ?_ | refine E_addI (by omega) (by omega) ?_ | refine E_subI (by omega) (by omega) ?_ | refine E_mulI (by omega) (by omega) ?_))
  refine E_if (fun hc => ?_) (fun hc => ?_)
  · have hkl' : k < l.length := by omega
    have a1 : (ints l ++ spare)[0 + k * 1]? = some (I (l.getD k 0)) := ints_at hkl'
    have a2 : (ints l ++ spare)[0 + (k - 1) * 1]? = some (I (l.getD (k - 1) 0)) := ints_at (by omega)
    have ek : (k : Int) - 1 = ((k - 1 : Nat) : Int) := by omega
    (repeat (first | refine goS ?_ | refine E_box fun _ => ?_ | refine E_fa fun _ => ?_ | refine E_ptfad0 fun _ _ => ?_ | refine E_ptfad fun _ _ => ?_ | refine E_rsix (by assumption) fun _ _ => ?_ | refine goT (by first | assumption | decide) ?_ | refine goF (by first | assumption | decide) ?_ | refine E_ixN (by omega) ?_ | refine E_ld' (by assumption) ?_ | refine E_addI (by omega) (by omega) ?_ | refine E_subI (by omega) (by omega) ?_ | refine E_mulI (by omega) (by omega) ?_))
    rw [ek]
    (repeat (first | refine goS ?_ | refine E_box fun _ => ?_ | refine E_fa fun _ => ?_ | refine E_ptfad0 fun _ _ => ?_ | refine E_ptfad fun _ _ => ?_ | refine E_rsix (by assumption) fun _ _ => ?_ | refine goT (by first | assumption | decide) ?_ | refine goF (by first | assumption | decide) ?_ | refine E_ixN (by omega) ?_ | refine E_ld' (by assumption) ?_ | refine E_addI (by omega) (by omega) ?_ | refine E_subI (by omega) (by omega) ?_ | refine E_mulI (by omega) (by omega) ?_))
    refine E_if (fun heq => ?_) (fun heq => ?_)
    · refine E_slc (l := k) (hh := l.length) (m := cap) rfl rfl (by simp [S.bound]) (by omega) (by omega) (by omega) (fun h => by cases h) ?_
      rw [if_neg (by omega)]
      have hc0 : cmpTo l k = l.take k := cmpTo_id (by omega) hne
      have hc1 : cmpTo l (k + 1) = l.take k := by
        conv => lhs; unfold cmpTo
        rw [if_neg (by rintro (h | h); · omega
                       · exact h heq), hc0]
      refine E_loop (σ := Nat × List Int) (fun s => 1 ≤ s.1 ∧ s.1 ≤ l.length - k ∧ s.2.length = l.length ∧ s.2.take (cmpTo l (k + s.1)).length = cmpTo l (k + s.1) ∧ (∀ i, k + s.1 ≤ i + 1 → s.2.getD i 0 = l.getD i 0) ∧ (cmpTo l (k + s.1)).length < k + s.1)
        (fun s => [.slice (some ⟨b, 0, none⟩) l.length cap, I (cmpTo l (k + s.1)).length, .slice (some ⟨b, 0 + k * 1, none⟩) (l.length - k) (cap - k), I s.1]) (fun s => cel true b 3 (ints s.2 ++ spare) :: H) (fun s => l.length - s.1) (1, l) (fun _ => rfl)
        (by simp only [hc1, List.length_take, Nat.min_eq_left hkl]; rfl) ⟨by omega, by simp only; omega, rfl, by rw [hc1, List.length_take, Nat.min_eq_left hkl], fun _ _ => rfl, by rw [hc1, List.length_take]; omega⟩ (fun W hW => hW) ?_
      rintro ⟨j, m⟩ K1 ⟨hj1, hjl, hm, htk, hfar, hlt⟩ hk2
      simp only at hj1 hjl hm htk hfar hlt hk2 ⊢
      generalize hq : (cmpTo l (k + j)).length = q at htk hlt
      refine E_fa fun _ => ?_
      (repeat (first | refine goS ?_ | refine E_box fun _ => ?_ | refine E_fa fun _ => ?_ | refine E_ptfad0 fun _ _ => ?_ | refine E_ptfad fun _ _ => ?_ | refine E_rsix (by assumption) fun _ _ => ?_ | refine goT (by first | assumption | decide) ?_ | refine goF (by first | assumption | decide) ?_ | refine E_ixN (by omega) ?_ | refine E_ld' (by assumption) ?_ | refine E_addI (by omega) (by omega) ?_ | refine E_subI (by omega) (by omega) ?_ | refine E_mulI (by omega) (by omega) ?_))
      have ej : (((l.length - k : Nat)) : Int) = (l.length : Int) - (k : Int) := by omega
      refine E_if (fun hc => ?_) (fun hc => ?_)
      · have hjl' : k + j < l.length := by omega
        have b1 : (ints m ++ spare)[0 + k * 1 + j * 1]? = some (I (l.getD (k + j) 0)) := by rw [← hfar (k + j) (by omega)]; exact ints_at (by omega)
        have b2 : (ints m ++ spare)[0 + k * 1 + (j - 1) * 1]? = some (I (l.getD (k + j - 1) 0)) := by rw [← hfar (k + j - 1) (by omega)]; exact ints_at (by omega)
        have ejj : (j : Int) - 1 = ((j - 1 : Nat) : Int) := by omega
        refine E_joinC (σ := List Int) (fun m' => m'.length = l.length ∧ m'.take (cmpTo l (k + (j + 1))).length = cmpTo l (k + (j + 1)) ∧ (∀ i, k + (j + 1) ≤ i + 1 → m'.getD i 0 = l.getD i 0) ∧ (cmpTo l (k + (j + 1))).length < k + (j + 1))
          (fun _ => [.slice (some ⟨b, 0, none⟩) l.length cap, I (cmpTo l (k + (j + 1))).length, .slice (some ⟨b, 0 + k * 1, none⟩) (l.length - k) (cap - k), I j]) (fun m' => cel true b 3 (ints m' ++ spare) :: H) (fun k3 hk3 => ?_) (fun m' hm' => ?_)
        · have es : cmpTo l (k + (j + 1)) = if l.getD (k + j) 0 ≠ l.getD (k + j - 1) 0 then cmpTo l (k + j) ++ [l.getD (k + j) 0] else cmpTo l (k + j) := by
            rw [← Nat.add_assoc]
            conv => lhs; unfold cmpTo
            have : ¬ (k + j = 0) := by omega
            simp only [this, false_or]
          rw [es] at hk3
          (repeat (first | refine goS ?_ | refine E_box fun _ => ?_ | refine E_fa fun _ => ?_ | refine E_ptfad0 fun _ _ => ?_ | refine E_ptfad fun _ _ => ?_ | refine E_rsix (by assumption) fun _ _ => ?_ | refine goT (by first | assumption | decide) ?_ | refine goF (by first | assumption | decide) ?_ | refine E_ixN (by omega) ?_ | refine E_ld' (by assumption) ?_ | refine E_addI (by omega) (by omega) ?_ | refine E_subI (by omega) (by omega) ?_ | refine E_mulI (by omega) (by omega) ?_))
          rw [ejj]
          (repeat (first | refine goS ?_ | refine E_box fun _ => ?_ | refine E_fa fun _ => ?_ | refine E_ptfad0 fun _ _ => ?_ | refine E_ptfad fun _ _ => ?_ | refine E_rsix (by assumption) fun _ _ => ?_ | refine goT (by first | assumption | decide) ?_ | refine goF (by first | assumption | decide) ?_ | refine E_ixN (by omega) ?_ | refine E_ld' (by assumption) ?_ | refine E_addI (by omega) (by omega) ?_ | refine E_subI (by omega) (by omega) ?_ | refine E_mulI (by omega) (by omega) ?_))
          refine E_if (fun hne2 => ?_) (fun hne2 => ?_)
          · rw [if_pos hne2] at hk3
            refine E_ixN (by omega) ?_
            refine E_ld' b1 ?_
            refine E_ixN (by omega) ?_
            refine E_st' (by simp; omega) ?_
            rw [ints_set (i := q) (by omega)]
            (repeat (first | refine goS ?_ | refine E_box fun _ => ?_ | refine E_fa fun _ => ?_ | refine E_ptfad0 fun _ _ => ?_ | refine E_ptfad fun _ _ => ?_ | refine E_rsix (by assumption) fun _ _ => ?_ | refine goT (by first | assumption | decide) ?_ | refine goF (by first | assumption | decide) ?_ | refine E_ixN (by omega) ?_ | refine E_ld' (by assumption) ?_ | refine E_addI (by omega) (by omega) ?_ | refine E_subI (by omega) (by omega) ?_ | refine E_mulI (by omega) (by omega) ?_))
            have hk4 := hk3 (m.set q (l.getD (k + j) 0)) ⟨by simpa using hm, ?_, fun i hi => ?_, by rw [List.length_append, hq, List.length_singleton]; omega⟩
            · rw [List.length_append, hq, List.length_singleton] at hk4
              have e2 : ((q + 1 : Nat) : Int) = (q : Int) + 1 := by omega
              rw [e2] at hk4
              exact hk4
            · rw [List.length_append, hq, List.length_singleton, take_last (by simp; omega), List.take_set_of_le (Nat.le_refl _), htk]
              congr 2
              rw [List.getD_eq_getElem?_getD, List.getElem?_set_self (by omega)]; rfl
            · rw [← hfar i (by omega), List.getD_eq_getElem?_getD, List.getElem?_set_ne (by omega), ← List.getD_eq_getElem?_getD]
          · rw [if_neg hne2, hq] at hk3
            exact hk3 m ⟨hm, htk, fun i hi => hfar i (by omega), by omega⟩
        · refine E_fa fun _ => ?_
          (repeat (first | refine goS ?_ | refine E_box fun _ => ?_ | refine E_fa fun _ => ?_ | refine E_ptfad0 fun _ _ => ?_ | refine E_ptfad fun _ _ => ?_ | refine E_rsix (by assumption) fun _ _ => ?_ | refine goT (by first | assumption | decide) ?_ | refine goF (by first | assumption | decide) ?_ | refine E_ixN (by omega) ?_ | refine E_ld' (by assumption) ?_ | refine E_addI (by omega) (by omega) ?_ | refine E_subI (by omega) (by omega) ?_ | refine E_mulI (by omega) (by omega) ?_))
          exact hk2 (j + 1, m') ⟨by simp only; omega, by simp only; omega, hm'⟩ (by simp only; omega)
      · have hje : k + j = l.length := by omega
        rw [hje] at hq htk hlt
        have hcl : cmpTo l l.length = compactL l := rfl
        rw [hcl] at hq htk
        refine E_slc (l := q) (hh := l.length) (m := cap) rfl rfl (by simp [S.bound]) (by omega) (by omega) (by omega) (fun h => by cases h) ?_
        rw [if_neg (by omega)]
        refine E_clear (t := 141) rfl u_ints elt_int (by simp [isCell]) (by omega) (by simp [hm]; omega) ?_
        refine E_slc (l := 0) (hh := q) (m := cap) rfl (by simp [S.bound]) rfl (by omega) (by omega) (by omega) (fun h => by cases h) ?_
        have e0 : (if cap = 0 then some (⟨b, 0, none⟩ : Addr) else some ⟨b, 0 + 0 * 1, none⟩) = some ⟨b, 0, none⟩ := by split <;> rfl
        rw [e0]
        have h' := h (.slice (some ⟨b, 0, none⟩) q cap)
        have eb : setAll (ints m ++ spare) (0 + q * 1) (rep (l.length - q) [.int .i64 0]) = ints (compactL l) ++ (rep (l.length - q) [.int .i64 0] ++ spare) := by
          unfold setAll
          have e1 : (ints m ++ spare).take (0 + q * 1) = ints (compactL l) := by
            rw [Nat.zero_add, Nat.mul_one, List.take_append_of_le_length (by simp; omega), ← htk]
            simp [ints, List.map_take]
          have e2 : (ints m ++ spare).drop (0 + q * 1 + (rep (l.length - q) [.int .i64 0]).length) = spare := by
            rw [rep_length]
            simp only [List.length_singleton, Nat.mul_one, Nat.zero_add]
            have e3 : q + (l.length - q) = (ints m).length := by simp; omega
            rw [e3, List.drop_left]
          rw [e1, e2, List.append_assoc]
        rw [eb]
        refine E_osls (n := q) (cap := cap) (sz := 1) (by omega) (by simp [hq]) (by rw [List.length_append, rep_length]; simp; omega) ?_
        rw [Nat.sub_zero, Nat.sub_zero]
        rw [← hq] at h' ⊢
        exact E_ints h'
    · (repeat (first | refine goS ?_ | refine E_box fun _ => ?_ | refine E_fa fun _ => ?_ | refine E_ptfad0 fun _ _ => ?_ | refine E_ptfad fun _ _ => ?_ | refine E_rsix (by assumption) fun _ _ => ?_ | refine goT (by first | assumption | decide) ?_ | refine goF (by first | assumption | decide) ?_ | refine E_ixN (by omega) ?_ | refine E_ld' (by assumption) ?_ | refine E_addI (by omega) (by omega) ?_ | refine E_subI (by omega) (by omega) ?_ | refine E_mulI (by omega) (by omega) ?_))
      exact hk (k + 1) ⟨by omega, by omega, fun i h1 h2 => by
        by_cases hik : i = k
        · subst hik; exact heq
        · exact hne i h1 (by omega)⟩ (by omega)
  · have : k = l.length := by omega
    subst this
    have e : compactL l = l := by
      unfold compactL
      rw [cmpTo_id (Nat.le_refl _) hne, List.take_length]
    rw [← e] at hxl
    refine E_osls (n := l.length) (cap := cap) (sz := 1) hle (by simp) (by simpa using hsl') ?_
    have h' := h (.slice (some ⟨b, 0, none⟩) l.length cap)
    rw [e] at h'
    exact E_ints h'
/-- slices.Contains of numbers. -/
theorem hasInt {v : Value} {l : List Int} {k : Int} [hv : Rs B H v cI l] (hn : l.length ≤ 140737488355328) (h : E B H (K (.bool (decide (k ∈ l))))) : E B H (CF Tryz.prog 97 [v, I k] K) := by
  refine E_mono (W := s97 _ _ K) ?_ fun _ => c97
  unfold s97
  refine E_mono (W := s127 _ _ _) ?_ fun _ => c127
  unfold s127
  refine E_rslen (v := v) (l := l) ?_
  refine E_loop (σ := Nat) (fun i => i ≤ l.length ∧ k ∉ l.take i) (fun i => [v, I k, I l.length, I i]) (fun _ => H) (fun i => l.length - i) 0 (fun _ => rfl) rfl ⟨Nat.zero_le _, by simp⟩ (fun W hW => hW) ?_
  rintro i K0 ⟨hi, ha⟩ hk
  refine E_fa fun _ => ?_
  refine E_lss ?_
  refine E_if (fun hc => ?_) (fun hc => ?_)
  · have hx : l[i]? = some l[i] := List.getElem?_eq_getElem (by omega)
    have hxm := List.mem_of_getElem? hx
    generalize l[i] = x at hx hxm
    refine E_rsix (v := v) (l := l) hx fun _ _ => ?_
    refine E_ptld ?_
    refine E_eql ?_
    refine E_if (fun e => ?_) (fun e => ?_)
    · subst e
      refine E_geq ?_
      rw [decide_eq_true hxm] at h
      rw [decide_eq_true (by omega)]
      exact h
    · refine E_addI (by omega) (by omega) ?_
      refine hk (i + 1) ⟨by omega, ?_⟩ (by omega)
      rw [List.take_add_one, hx]
      simp [ha, e]
  · have : i = l.length := by omega
    subst this
    rw [List.take_length] at ha
    refine E_geq ?_
    rw [decide_eq_false ha] at h
    exact h
end Go.Proofs.YtjafpncngmbcdaaGreat.Nam
