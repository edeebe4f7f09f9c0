/-
  Part 10: NoA, NoB, NoC, NoD, NoE, NoF, NoG, NoH, NoI, NoP, NoJ, NnM, NnR, NnS.
-/
import Derived.Test.YtjafpncngmbcdaaGreatPkLb
import Derived.Test.YtjafpncngmbcdaaGreatPkLh
set_option linter.unusedSimpArgs false
set_option linter.unusedVariables false
set_option linter.unusedSectionVars false
section
namespace Go.SL.Stb
open Go Go.SL
variable {α : Type} {lt : α → α → Bool}
structure SW (lt : α → α → Bool) : Prop where
  asy : ∀ a b, lt a b = true → lt b a = false
  ntr : ∀ a b c, lt a b = false → lt b c = false → lt a c = false
def alk (lt : α → α → Bool) (a b : α) : Bool := !lt a b && !lt b a
def Srt (lt : α → α → Bool) (l : List α) : Prop := l.Pairwise fun a b => lt b a = false
def Stab (lt : α → α → Bool) (l l' : List α) : Prop := ∀ x, l'.filter (alk lt x) = l.filter (alk lt x)
theorem alk_iff {a b : α} : alk lt a b = true ↔ lt a b = false ∧ lt b a = false := by unfold alk; simp
theorem SW.irr (h : SW lt) (a : α) : lt a a = false := by
  cases hl : lt a a with
  | false => rfl
  | true => have := h.asy a a hl; rw [hl] at this; cases this
theorem SW.alk_self (h : SW lt) (a : α) : alk lt a a = true := alk_iff.2 ⟨h.irr a, h.irr a⟩
theorem SW.alk_tr (h : SW lt) {z x y : α} (h1 : alk lt z x = true) (h2 : alk lt z y = true) : alk lt x y = true := by
  rw [alk_iff] at h1 h2 ⊢
  exact ⟨h.ntr x z y h1.2 h2.1, h.ntr y z x h2.2 h1.1⟩
theorem Stab.refl (l : List α) : Stab lt l l := fun _ => rfl
theorem Stab.trans {l m n : List α} (h1 : Stab lt l m) (h2 : Stab lt m n) : Stab lt l n := fun x => (h2 x).trans (h1 x)
theorem Stab.mem (hw : SW lt) {l m : List α} (h : Stab lt l m) {y : α} : y ∈ m ↔ y ∈ l := by
  have key : ∀ {l : List α}, y ∈ l ↔ y ∈ l.filter (alk lt y) := fun {l} => by
    rw [List.mem_filter]; simp [hw.alk_self]
  rw [key, h y, ← key]
theorem Stab.app {a a' b b' : List α} (h1 : Stab lt a a') (h2 : Stab lt b b') : Stab lt (a ++ b) (a' ++ b') := fun x => by
  rw [List.filter_append, List.filter_append, h1 x, h2 x]
theorem Stab.rot (hw : SW lt) {X Y : List α} (h : ∀ x ∈ X, ∀ y ∈ Y, lt y x = true ∨ lt x y = true) : Stab lt (X ++ Y) (Y ++ X) := fun z => by
  rw [List.filter_append, List.filter_append]
  by_cases hx : X.filter (alk lt z) = []
  · rw [hx]; simp
  · by_cases hy : Y.filter (alk lt z) = []
    · rw [hy]; simp
    · exfalso
      obtain ⟨x, hx⟩ := List.exists_mem_of_ne_nil _ hx
      obtain ⟨y, hy⟩ := List.exists_mem_of_ne_nil _ hy
      obtain ⟨hx1, hx2⟩ := List.mem_filter.1 hx
      obtain ⟨hy1, hy2⟩ := List.mem_filter.1 hy
      have := alk_iff.1 (hw.alk_tr hx2 hy2)
      rcases h x hx1 y hy1 with h | h
      · rw [this.2] at h; cases h
      · rw [this.1] at h; cases h
theorem Srt.app {A C : List α} (h1 : Srt lt A) (h2 : Srt lt C) (h : ∀ a ∈ A, ∀ c ∈ C, lt c a = false) : Srt lt (A ++ C) := List.pairwise_append.2 ⟨h1, h2, h⟩
theorem merge_ok (hw : SW lt) {X1 X2 Y1 Y2 S1 S2 : List α} (hX : Srt lt (X1 ++ X2)) (hY : Srt lt (Y1 ++ Y2)) (h12 : ∀ x ∈ X1, ∀ y ∈ Y2, lt y x = false) (h21 : ∀ x ∈ X2, ∀ y ∈ Y1, lt y x = true)
    (s1 : Srt lt S1) (s2 : Srt lt S2) (t1 : Stab lt (X1 ++ Y1) S1) (t2 : Stab lt (X2 ++ Y2) S2) : Srt lt (S1 ++ S2) ∧ Stab lt ((X1 ++ X2) ++ (Y1 ++ Y2)) (S1 ++ S2) := by
  obtain ⟨_, _, hXX⟩ := List.pairwise_append.1 hX
  obtain ⟨_, _, hYY⟩ := List.pairwise_append.1 hY
  refine ⟨s1.app s2 fun u hu v hv => ?_, ?_⟩
  · rw [t1.mem hw] at hu
    rw [t2.mem hw] at hv
    rcases List.mem_append.1 hu with hu | hu <;> rcases List.mem_append.1 hv with hv | hv
    · exact hXX u hu v hv
    · exact h12 u hu v hv
    · exact hw.asy _ _ (h21 v hv u hu)
    · exact hYY u hu v hv
  · have h0 : Stab lt ((X1 ++ X2) ++ (Y1 ++ Y2)) ((X1 ++ Y1) ++ (X2 ++ Y2)) := by
      have := (Stab.refl (lt := lt) X1).app ((Stab.rot hw (X := X2) (Y := Y1) fun x hx y hy => .inl (h21 x hx y hy)).app (Stab.refl Y2))
      simpa [List.append_assoc] using this
    exact h0.trans (t1.app t2)
theorem insert_ok (hw : SW lt) {A1 A2 : List α} {x : α} (hA : Srt lt (A1 ++ A2)) (h1 : ∀ a ∈ A1, lt x a = false) (h2 : ∀ a ∈ A2, lt x a = true) : Srt lt (A1 ++ x :: A2) ∧ Stab lt ((A1 ++ A2) ++ [x]) (A1 ++ x :: A2) := by
  obtain ⟨hs1, hs2, h12⟩ := List.pairwise_append.1 hA
  refine ⟨Srt.app hs1 (List.pairwise_cons.2 ⟨fun a ha => hw.asy _ _ (h2 a ha), hs2⟩) fun a ha c hc => ?_, ?_⟩
  · rcases List.mem_cons.1 hc with rfl | hc
    · exact h1 a ha
    · exact h12 a ha c hc
  · have := (Stab.refl (lt := lt) A1).app (Stab.rot hw (X := A2) (Y := [x]) fun a ha y hy => by
      simp only [List.mem_singleton] at hy
      subst hy; exact .inl (h2 a ha))
    simpa [List.append_assoc] using this
theorem insertL_ok (hw : SW lt) {A1 A2 : List α} {x : α} (hA : Srt lt (A1 ++ A2)) (h1 : ∀ a ∈ A1, lt a x = true) (h2 : ∀ a ∈ A2, lt a x = false) : Srt lt (A1 ++ x :: A2) ∧ Stab lt (x :: (A1 ++ A2)) (A1 ++ x :: A2) := by
  obtain ⟨hs1, hs2, h12⟩ := List.pairwise_append.1 hA
  refine ⟨Srt.app hs1 (List.pairwise_cons.2 ⟨h2, hs2⟩) fun a ha c hc => ?_, ?_⟩
  · rcases List.mem_cons.1 hc with rfl | hc
    · exact hw.asy _ _ (h1 a ha)
    · exact h12 a ha c hc
  · have := (Stab.rot hw (X := [x]) (Y := A1) fun y hy a ha => by
      simp only [List.mem_singleton] at hy
      subst hy; exact .inl (h1 a ha)).app (Stab.refl (lt := lt) A2)
    simpa [List.append_assoc] using this
end Go.SL.Stb
end
section
namespace Go.SL.Stb
open Go Go.SL
variable {B : World} {H : List Asrt} {K : Value → WT} {W : WT} {α : Type} {enc : α → List Value} {sz : Nat}
abbrev J (n : Int) : Value := .int .i64 n
noncomputable def swC [Amb] (sz : Nat) (data_0 a_1 b_2 n_3 : Value) (K : Value → WT) : WT :=
 S.loop 5 (fun K0 => fun data_0' a_1' b_2' n_3' i_10 => S.fa fun _ =>
 S.bin .lss i_10 n_3' fun v13 =>
 S.cond v13 (
 S.dr <|
 S.bin .add a_1' i_10 fun v19 =>
 S.bin .add b_2' i_10 fun v23 =>
 S.bin .add b_2' i_10 fun v27 =>
 S.ixS sz data_0' v27 fun v28 =>
 S.ldN sz v28 fun v29 =>
 S.bin .add a_1' i_10 fun v33 =>
 S.ixS sz data_0' v33 fun v34 =>
 S.ldN sz v34 fun v35 =>
 S.ixS sz data_0' v19 fun v36 =>
 S.st sz v36 v29 fun _ =>
 S.ixS sz data_0' v23 fun v37 =>
 S.st sz v37 v35 fun _ =>
 S.bin .add i_10 (SL.I 1) fun v15 =>
 K0 data_0' a_1' b_2' n_3' v15) (
 K (.tuple #[])))
 [data_0, a_1, b_2, n_3, (SL.I 0)]
class EncA (enc : α → List Value) (sz : Nat) : Prop where
  at_ : ∀ x, AtLen (enc x) sz
  ce : ∀ x, CellsI (.agg (enc x).toArray) (enc x)
def swF (l c : List α) (a b i : Nat) : Prop := c.length = l.length ∧ ∀ k, c[k]? = if a ≤ k ∧ k < a + i then l[k + (b - a)]? else if b ≤ k ∧ k < b + i then l[k - (b - a)]? else l[k]?
theorem swF_step {l c : List α} {a b i : Nat} {x y : α} (h : swF l c a b i) (hab : a + i < b) (hb : b + i < l.length) (hx : c[a + i]? = some x) (hy : c[b + i]? = some y) : swF l ((c.set (a + i) y).set (b + i) x) a b (i + 1) := by
  obtain ⟨hl, hc⟩ := h
  have ex : l[a + i]? = some x := by rw [← hx, hc, if_neg (by omega), if_neg (by omega)]
  have ey : l[b + i]? = some y := by rw [← hy, hc, if_neg (by omega), if_neg (by omega)]
  refine ⟨by simp [hl], fun k => ?_⟩
  rw [List.getElem?_set, List.getElem?_set]
  by_cases h1 : b + i = k
  · subst h1
    rw [if_pos rfl, if_pos (by simp; omega), if_neg (by omega), if_pos (by omega), show b + i - (b - a) = a + i by omega, ex]
  · rw [if_neg h1]
    by_cases h2 : a + i = k
    · subst h2
      rw [if_pos rfl, if_pos (by omega), if_pos (by omega), show a + i + (b - a) = b + i by omega, ey]
    · rw [if_neg h2, hc]
      by_cases h3 : a ≤ k ∧ k < a + i
      · rw [if_pos h3, if_pos (by omega)]
      · rw [if_neg h3, if_neg (by omega : ¬ (a ≤ k ∧ k < a + (i + 1)))]
        by_cases h4 : b ≤ k ∧ k < b + i
        · rw [if_pos h4, if_pos (by omega)]
        · rw [if_neg h4, if_neg (by omega)]
theorem swC_ok [hE : Enc enc sz] [hA : EncA enc sz] {T : Nat} {v : Value} {l : List α} {a b n : Nat} (hln : l.length ≤ 140737488355328) (hab : a + n ≤ b) (hb : b + n ≤ l.length)
    (h : ∀ c, swF l c a b n → E B (sls enc T sz v c :: H) (K (.tuple #[]))) : E B (sls enc T sz v l :: H) (swC sz v (J a) (J b) (J n) K) := by
  have i1 := hA.at_
  have i2 := hA.ce
  unfold swC
  refine E_loop (n := 5) (σ := Nat × List α) (fun s => s.1 ≤ n ∧ swF l s.2 a b s.1) (fun s => [v, J a, J b, J n, J s.1]) (fun s => sls enc T sz v s.2 :: H) (fun s => n - s.1) (0, l) (fun _ => rfl) rfl ⟨Nat.zero_le _, rfl, fun k => by rw [if_neg (by omega), if_neg (by omega)]⟩ (fun W hW => hW) ?_
  rintro ⟨i, c⟩ K0 ⟨hi, hc⟩ hk
  simp only at hi hc hk ⊢
  refine E_fa fun _ => ?_
  refine E_lss ?_
  refine E_if (fun hlt => ?_) (fun hlt => ?_)
  · have hl := hc.1
    have hx : c[a + i]? = some c[a + i] := List.getElem?_eq_getElem (by omega)
    have hy : c[b + i]? = some c[b + i] := List.getElem?_eq_getElem (by omega)
    generalize c[a + i] = x at hx
    generalize c[b + i] = y at hy
    refine E_dr ?_
    refine E_addI (by omega) (by omega) ?_
    refine E_addI (by omega) (by omega) ?_
    refine E_addI (by omega) (by omega) ?_
    rw [show (b : Int) + i = ((b + i : Nat) : Int) by omega, show (a : Int) + i = ((a + i : Nat) : Int) by omega]
    refine E_rsix (v := v) (l := c) hy fun _ _ => ?_
    refine E_ptldA ?_
    refine E_addI (by omega) (by omega) ?_
    rw [show (a : Int) + i = ((a + i : Nat) : Int) by omega]
    refine E_rsix (v := v) (l := c) hx fun _ _ => ?_
    refine E_ptldA ?_
    refine E_sset y (by omega) rfl ?_
    refine E_sset x (by rw [List.length_set]; omega) rfl ?_
    refine E_addI (by omega) (by omega) ?_
    exact hk (i + 1, (c.set (a + i) y).set (b + i) x) ⟨by simp only; omega, swF_step hc (by omega) (by omega) hx hy⟩ (by simp only; omega)
  · have hin : i = n := by omega
    subst hin
    exact h c hc
end Go.SL.Stb
end
section
namespace Go.SL.Stb
open Go Go.SL
variable {B : World} {H : List Asrt} {K : Value → WT} {W : WT} {α : Type} {enc : α → List Value} {sz : Nat}
theorem swF_eq {P A M C Q c : List α} {a b n : Nat} (h : swF (P ++ (A ++ (M ++ (C ++ Q)))) c a b n) (hP : P.length = a) (hA : A.length = n) (hC : C.length = n) (hb : b = a + n + M.length) : c = P ++ (C ++ (M ++ (A ++ Q))) := by
  obtain ⟨hl, hc⟩ := h
  subst hP hA hb
  apply List.ext_getElem?
  intro k
  rw [hc k]
  by_cases h1 : k < P.length
  · rw [if_neg (by omega), if_neg (by omega), List.getElem?_append_left h1, List.getElem?_append_left h1]
  · rw [List.getElem?_append_right (l₁ := P) (l₂ := C ++ (M ++ (A ++ Q))) (by omega)]
    by_cases h2 : k < P.length + A.length
    · rw [if_pos (by omega), List.getElem?_append_right (by omega), List.getElem?_append_right (by omega), List.getElem?_append_right (by omega), List.getElem?_append_left (by omega), List.getElem?_append_left (by omega)]
      congr 1; omega
    · rw [if_neg (by omega), List.getElem?_append_right (l₁ := C) (by omega)]
      by_cases h3 : k < P.length + A.length + M.length
      · rw [if_neg (by omega), List.getElem?_append_right (by omega), List.getElem?_append_right (by omega), List.getElem?_append_left (by omega), List.getElem?_append_left (by omega)]
        congr 1; omega
      · rw [List.getElem?_append_right (l₁ := M) (l₂ := A ++ Q) (by omega)]
        by_cases h4 : k < P.length + A.length + M.length + A.length
        · rw [if_pos (by omega), List.getElem?_append_right (by omega), List.getElem?_append_left (by omega), List.getElem?_append_left (by omega)]
          congr 1; omega
        · rw [if_neg (by omega), List.getElem?_append_right (by omega), List.getElem?_append_right (by omega), List.getElem?_append_right (by omega), List.getElem?_append_right (by omega), List.getElem?_append_right (by omega)]
          congr 1; omega
noncomputable def rotC [Amb] (P : Program) (sw : Nat) (data_0 a_1 m_2 b_3 cmp_4 : Value) (K : Value → WT) : WT :=
 S.bin .sub m_2 a_1 fun v14 =>
 S.bin .sub b_3 m_2 fun v17 =>
 S.loop 5 (fun K0 => fun data_0' m_2' cmp_4' i_10 j_11 => S.fa fun _ =>
 S.bin .neq i_10 j_11 fun v20 =>
 S.cond v20 (
 S.bin .gtr i_10 j_11 fun v23 =>
 S.cond v23 (
 S.bin .sub m_2' i_10 fun v27 =>
 CF P sw [data_0', v27, m_2', j_11, cmp_4'] fun v31 =>
 S.bin .sub i_10 j_11 fun v34 =>
 K0 data_0' m_2' cmp_4' v34 j_11) (
 S.bin .sub m_2' i_10 fun v38 =>
 S.bin .add m_2' j_11 fun v41 =>
 S.bin .sub v41 i_10 fun v43 =>
 CF P sw [data_0', v38, v43, i_10, cmp_4'] fun v46 =>
 S.bin .sub j_11 i_10 fun v49 =>
 K0 data_0' m_2' cmp_4' i_10 v49)) (
 S.bin .sub m_2' i_10 fun v53 =>
 CF P sw [data_0', v53, m_2', i_10, cmp_4'] fun v57 =>
 K (.tuple #[])))
 [data_0, m_2, cmp_4, v14, v17]
theorem rotC_ok [hE : Enc enc sz] [hA : EncA enc sz] {Pr : Program} {sw T : Nat} {v cv : Value} {P X Y Q : List α} {a m b : Nat} (hsw : ∀ (d x y n c : Value) (K' : Value → WT) (H' : List Asrt), E B H' (swC sz d x y n K') → E B H' (CF Pr sw [d, x, y, n, c] K'))
    (hln : (P ++ (X ++ (Y ++ Q))).length ≤ 140737488355328) (hP : P.length = a) (hX : a + X.length = m) (hY : m + Y.length = b) (h1 : 1 ≤ X.length) (h2 : 1 ≤ Y.length)
    (h : E B (sls enc T sz v (P ++ (Y ++ (X ++ Q))) :: H) (K (.tuple #[]))) : E B (sls enc T sz v (P ++ (X ++ (Y ++ Q))) :: H) (rotC Pr sw v (J a) (J m) (J b) cv K) := by
  have hln' : P.length + (X.length + (Y.length + Q.length)) ≤ 140737488355328 := by simpa using hln
  unfold rotC
  refine E_subI (by omega) (by omega) ?_
  refine E_subI (by omega) (by omega) ?_
  rw [show (m : Int) - a = (X.length : Int) by omega, show (b : Int) - m = (Y.length : Int) by omega]
  refine E_loop (n := 5) (σ := List α × List α × List α × List α) (fun s => s.1.length + s.2.1.length = m ∧ 1 ≤ s.2.1.length ∧ 1 ≤ s.2.2.1.length ∧ s.1 ++ (s.2.2.1 ++ (s.2.1 ++ s.2.2.2)) = P ++ (Y ++ (X ++ Q)))
    (fun s => [v, J m, cv, J s.2.1.length, J s.2.2.1.length]) (fun s => sls enc T sz v (s.1 ++ (s.2.1 ++ (s.2.2.1 ++ s.2.2.2))) :: H) (fun s => s.2.1.length + s.2.2.1.length) (P, X, Y, Q) (fun _ => rfl) rfl ⟨by simp only; omega, h1, h2, rfl⟩ (fun W hW => hW) ?_
  rintro ⟨P', U, V', Q'⟩ K0 ⟨hPU, hU1, hV1, htar⟩ hk
  simp only at hPU hU1 hV1 htar hk ⊢
  have hl2 : P'.length + (V'.length + (U.length + Q'.length)) ≤ 140737488355328 := by
    have := congrArg List.length htar
    simp at this; omega
  refine E_fa fun _ => ?_
  refine E_neq ?_
  refine E_if (fun hne => ?_) (fun hne => ?_)
  · refine E_gtr ?_
    refine E_if (fun hgt => ?_) (fun hgt => ?_)
    · refine E_subI (by omega) (by omega) ?_
      rw [show (m : Int) - U.length = (P'.length : Int) by omega]
      refine hsw _ _ _ _ _ _ _ ?_
      refine swC_ok (by simp; omega) (by omega) (by simp; omega) fun c hc => ?_
      obtain ⟨U1, U2, rfl, hU⟩ : ∃ U1 U2, U = U1 ++ U2 ∧ U1.length = V'.length := ⟨U.take V'.length, U.drop V'.length, (List.take_append_drop ..).symm, by rw [List.length_take]; omega⟩
      have e := swF_eq (P := P') (A := U1) (M := U2) (C := V') (Q := Q') (by simpa [List.append_assoc] using hc) rfl hU rfl (by simp at hPU; omega)
      subst e
      refine E_subI (by omega) (by omega) ?_
      rw [show ((U1 ++ U2).length : Int) - V'.length = (U2.length : Int) by simp; omega]
      have hk1 := hk (P' ++ V', U2, U1, Q') ⟨by simp at hPU ⊢; omega, by simp at hgt; simp only; omega, by simp only; omega, by simp only; rw [← htar]; simp [List.append_assoc]⟩ (by simp; omega)
      simp only [hU, List.append_assoc] at hk1 ⊢
      exact hk1
    · refine E_subI (by omega) (by omega) ?_
      refine E_addI (by omega) (by omega) ?_
      refine E_subI (by omega) (by omega) ?_
      rw [show (m : Int) - U.length = (P'.length : Int) by omega, show (m : Int) + V'.length - U.length = ((m + V'.length - U.length : Nat) : Int) by omega]
      refine hsw _ _ _ _ _ _ _ ?_
      refine swC_ok (by simp; omega) (by omega) (by simp; omega) fun c hc => ?_
      obtain ⟨V1, V2, rfl, hV⟩ : ∃ V1 V2, V' = V1 ++ V2 ∧ V2.length = U.length := ⟨V'.take (V'.length - U.length), V'.drop (V'.length - U.length), (List.take_append_drop ..).symm, by rw [List.length_drop]; omega⟩
      have e0 : (V1 ++ V2).length = V1.length + V2.length := by simp
      have e := swF_eq (P := P') (A := U) (M := V1) (C := V2) (Q := Q') (by simpa only [List.append_assoc] using hc) rfl rfl hV (by omega)
      subst e
      refine E_subI (by omega) (by omega) ?_
      rw [show ((V1 ++ V2).length : Int) - U.length = (V1.length : Int) by simp; omega]
      have hk1 := hk (P', V2, V1, U ++ Q') ⟨by simp only; omega, by simp only; omega, by simp only; omega, by simp only; rw [← htar]; simp [List.append_assoc]⟩ (by simp; omega)
      simp only [hV] at hk1
      exact hk1
  · refine E_subI (by omega) (by omega) ?_
    rw [show (m : Int) - U.length = (P'.length : Int) by omega]
    refine hsw _ _ _ _ _ _ _ ?_
    refine swC_ok (by simp; omega) (by omega) (by simp; omega) fun c hc => ?_
    have e := swF_eq (P := P') (A := U) (M := []) (C := V') (Q := Q') (by simpa using hc) rfl rfl (by omega) (by simp; omega)
    subst e
    simp only [List.nil_append]
    rw [htar]
    exact h
end Go.SL.Stb
end
section
namespace Go.SL.Stb
open Go Go.SL
variable {B : World} {H : List Asrt} {K : Value → WT} {W : WT} {α : Type} {enc : α → List Value} {sz : Nat}
def CmpOk (P : Program) (B : World) (C : List Asrt) (cv : Value) (enc : α → List Value) (c : α → α → Int) : Prop := ∀ (x y : α) (H : List Asrt) (K : Value → WT), E B (C ++ H) (K (J (c x y))) → E B (C ++ H) (S.cvv P cv [.agg (enc x).toArray, .agg (enc y).toArray] K)
def ltC (c : α → α → Int) (x y : α) : Bool := decide (c x y < 0)
theorem cmp_use {P : Program} {C : List Asrt} {cv : Value} {c : α → α → Int} (hc : CmpOk P B C cv enc c) {x y : α} {a : Asrt} (h : E B (a :: (C ++ H)) (K (J (c x y)))) : E B (a :: (C ++ H)) (S.cvv P cv [.agg (enc x).toArray, .agg (enc y).toArray] K) :=
  E_perm List.perm_middle.symm (hc x y (a :: H) K (E_perm List.perm_middle h))
theorem get_mid {F G : List α} {x : α} {i : Nat} (hi : i = F.length) : (F ++ x :: G)[i]? = some x := by subst hi; simp
theorem get_mid1 {F G : List α} {x y : α} {i : Nat} (hi : i = F.length + 1) : (F ++ y :: x :: G)[i]? = some x := by subst hi; simp
theorem swap_mid {F G : List α} {x y : α} {i j : Nat} (hi : i = F.length) (hj : j = F.length + 1) : ((F ++ y :: x :: G).set j y).set i x = F ++ x :: y :: G := by
  subst hi hj
  simp
noncomputable def insC [Amb] (P : Program) (sz : Nat) (data_0 a_1 b_2 cmp_3 : Value) (K : Value → WT) : WT :=
 S.bin .add a_1 (SL.I 1) fun v11 =>
 S.loop 5 (fun K0 => fun data_0' a_1' b_2' cmp_3' i_8 => S.fa fun _ =>
 S.bin .lss i_8 b_2' fun v14 =>
 S.cond v14 (
 S.loop 6 (fun K1 => fun data_0'2 a_1'2 b_2'2 cmp_3'2 i_8' j_9 => S.fa fun _ =>
 S.join 7 (fun K2 =>
 S.dr <|
 S.bin .gtr j_9 a_1'2 fun v20 =>
 S.gd v20 true (fun k => k cmp_3'2) fun v22 =>
 S.gd v20 true (fun k => k data_0'2) fun v23 =>
 S.gd v20 true (fun k => k j_9) fun v24 =>
 S.gd v20 true (S.ixS sz v23 v24) fun v25 =>
 S.gd v20 true (S.ldN sz v25) fun v26 =>
 S.gd v20 true (fun k => k data_0'2) fun v27 =>
 S.gd v20 true (fun k => k j_9) fun v28 =>
 S.gd v20 true (S.bin .sub v28 (SL.I 1)) fun v29 =>
 S.gd v20 true (S.ixS sz v27 v29) fun v30 =>
 S.gd v20 true (S.ldN sz v30) fun v31 =>
 S.gd v20 true (S.cvv P v22 [v26, v31]) fun v32 =>
 S.gd v20 true (S.bin .lss v32 (SL.I 0)) fun v33 =>
 S.pick v20 v33 (SL.B false) fun v34 =>
 K2 data_0'2 a_1'2 b_2'2 cmp_3'2 i_8' j_9 v34)
 <| fun data_0'3 a_1'3 b_2'3 cmp_3'3 i_8'2 j_9' v34' => S.fa fun _ =>
 S.cond v34' (
 S.dr <|
 S.bin .sub j_9' (SL.I 1) fun v41 =>
 S.bin .sub j_9' (SL.I 1) fun v44 =>
 S.ixS sz data_0'3 v44 fun v45 =>
 S.ldN sz v45 fun v46 =>
 S.ixS sz data_0'3 j_9' fun v49 =>
 S.ldN sz v49 fun v50 =>
 S.ixS sz data_0'3 j_9' fun v51 =>
 S.st sz v51 v46 fun _ =>
 S.ixS sz data_0'3 v41 fun v52 =>
 S.st sz v52 v50 fun _ =>
 S.bin .sub j_9' (SL.I 1) fun v36 =>
 K1 data_0'3 a_1'3 b_2'3 cmp_3'3 i_8'2 v36) (
 S.bin .add i_8'2 (SL.I 1) fun v16 =>
 K0 data_0'3 a_1'3 b_2'3 cmp_3'3 v16))
 [data_0', a_1', b_2', cmp_3', i_8, i_8]) (
 K (.tuple #[])))
 [data_0, a_1, b_2, cmp_3, v11]
theorem insC_ok [hE : Enc enc sz] [hA : EncA enc sz] {Pr : Program} {T : Nat} {v cv : Value} {C : List Asrt} {c : α → α → Int} {P Sg Q : List α} {a b : Nat} (hw : SW (ltC c)) (hc : CmpOk Pr B C cv enc c)
    (hln : (P ++ (Sg ++ Q)).length ≤ 140737488355328) (hP : P.length = a) (hb : a + Sg.length = b)
    (h : ∀ S', S'.length = Sg.length → Srt (ltC c) S' → Stab (ltC c) Sg S' → E B (sls enc T sz v (P ++ (S' ++ Q)) :: (C ++ H)) (K (.tuple #[]))) : E B (sls enc T sz v (P ++ (Sg ++ Q)) :: (C ++ H)) (insC Pr sz v (J a) (J b) cv K) := by
  have i1 := hA.at_
  have i2 := hA.ce
  have hln' : P.length + (Sg.length + Q.length) ≤ 140737488355328 := by simpa using hln
  unfold insC
  refine E_addI (by omega) (by omega) ?_
  refine E_loop (n := 5) (σ := Nat × List α × List α) (fun s => s.1 ≤ s.2.1.length + 1 ∧ s.2.1.length ≤ s.1 ∧ 1 ≤ s.1 ∧ (s.1 ≠ s.2.1.length → s.2.2 = []) ∧ s.2.1.length + s.2.2.length = Sg.length ∧ Srt (ltC c) s.2.1 ∧ Stab (ltC c) Sg (s.2.1 ++ s.2.2))
    (fun s => [v, J a, J b, cv, J ((a : Int) + s.1)]) (fun s => sls enc T sz v (P ++ (s.2.1 ++ (s.2.2 ++ Q))) :: (C ++ H)) (fun s => s.2.2.length) (1, Sg.take 1, Sg.drop 1) (fun _ => rfl) rfl
    ⟨by simp only; omega, by simp only [List.length_take]; omega, Nat.le_refl _, fun h => by
      simp only [List.length_take] at h
      exact List.drop_eq_nil_of_le (by omega), by simp only [List.length_take, List.length_drop]; omega, by
      match Sg with
      | [] => exact List.Pairwise.nil
      | x :: t => exact List.pairwise_singleton .., by simp only [List.take_append_drop]; exact Stab.refl _⟩ (fun W hW => by
      simp only [← List.append_assoc (Sg.take 1), List.take_append_drop] at hW
      exact hW) ?_
  rintro ⟨i, D, R⟩ K0 ⟨hi1, hi2, hi3, hiR, hDR, hs, hst⟩ hk
  simp only at hi1 hi2 hi3 hiR hDR hs hst hk ⊢
  refine E_fa fun _ => ?_
  refine E_lss ?_
  refine E_if (fun hlt => ?_) (fun hlt => ?_)
  · have hiD : i = D.length := Classical.byContradiction fun hne => by
      have := hiR hne
      subst this
      simp at hDR; omega
    obtain ⟨x, R', rfl⟩ : ∃ x R', R = x :: R' := by
      cases R with
      | nil => simp at hDR; omega
      | cons x R' => exact ⟨x, R', rfl⟩
    refine E_loop (n := 6) (σ := List α × List α) (fun s => s.1 ++ s.2 = D ∧ ∀ y ∈ s.2, ltC c x y = true) (fun s => [v, J a, J b, cv, J ((a : Int) + i), J ((a : Int) + s.1.length)]) (fun s => sls enc T sz v (P ++ (s.1 ++ (x :: (s.2 ++ (R' ++ Q))))) :: (C ++ H)) (fun s => s.1.length) (D, []) (fun _ => rfl) (by simp only [hiD]) ⟨by simp, by simp⟩ (fun W hW => hW) ?_
    rintro ⟨A1, A2⟩ K1 ⟨hAD, hA2⟩ hk1
    simp only at hAD hA2 hk1 ⊢
    have hAl : A1.length + A2.length = D.length := by rw [← hAD]; simp
    have hdone : (∀ y ∈ A1, ltC c x y = false) → E B (sls enc T sz v (P ++ (A1 ++ (x :: (A2 ++ (R' ++ Q))))) :: (C ++ H)) (S.bin .add (J ((a : Int) + i)) (SL.I 1) fun v16 => app 5 K0 [v, J a, J b, cv, v16]) := fun hA1 => by
      refine E_addI (by omega) (by omega) ?_
      rw [show (a : Int) + i + 1 = (a : Int) + ((i + 1 : Nat) : Int) by omega]
      subst hAD
      obtain ⟨o1, o2⟩ := insert_ok hw hs hA1 hA2
      have hk2 := hk (i + 1, A1 ++ x :: A2, R') ⟨by simp at hiD ⊢; omega, by simp at hiD ⊢; omega, by simp only; omega, fun hne => by simp at hiD hne; omega, by simp at hDR ⊢; omega, o1, by
        refine hst.trans ?_
        have := o2.app (Stab.refl (lt := ltC c) R')
        simpa [List.append_assoc] using this⟩ (by simp)
      simpa [List.append_assoc] using hk2
    refine E_fa fun _ => ?_
    rcases List.eq_nil_or_concat A1 with rfl | ⟨F, y, hAe⟩
    · refine E_join1 [v, J a, J b, cv, J ((a : Int) + i), J ((a : Int) + (([] : List α).length : Int)), .bool false] (sls enc T sz v (P ++ ([] ++ (x :: (A2 ++ (R' ++ Q))))) :: (C ++ H)) (fun q hq => ?_) ?_
      · refine E_dr ?_
        refine E_gtr ?_
        rw [decide_eq_false (by simp)]
        (repeat first | refine gS ?_ | refine gA fun _ => ?_ | refine gX fun _ _ => ?_ | refine gT ?_ | refine gF ?_ | refine gI ?_)
        exact hq
      · refine E_fa fun _ => ?_
        refine E_ff ?_
        exact hdone (by simp)
    · rw [List.concat_eq_append] at hAe
      subst hAe
      have ec : P ++ ((F ++ [y]) ++ (x :: (A2 ++ (R' ++ Q)))) = (P ++ F) ++ y :: x :: (A2 ++ (R' ++ Q)) := by simp
      have ej : (a : Int) + ((F ++ [y]).length : Int) = (((P ++ F).length + 1 : Nat) : Int) := by simp; omega
      have hFl : (P ++ F).length + 1 ≤ 140737488355328 := by simp at hAl ⊢; omega
      have hPl : (P ++ F).length = a + F.length := by simp; omega
      rw [ec] at hdone
      rw [ec, ej]
      refine E_join1 [v, J a, J b, cv, J ((a : Int) + i), J (((P ++ F).length + 1 : Nat) : Int), .bool (ltC c x y)] (sls enc T sz v ((P ++ F) ++ y :: x :: (A2 ++ (R' ++ Q))) :: (C ++ H)) (fun q hq => ?_) ?_
      · refine E_dr ?_
        refine E_gtr ?_
        rw [decide_eq_true (by omega)]
        refine E_gtf ?_
        refine E_gtf ?_
        refine E_gtf ?_
        refine E_gtf ?_
        refine E_rsix (v := v) (get_mid1 (i := (P ++ F).length + 1) rfl) fun _ _ => ?_
        refine E_gtf ?_
        refine E_ptldA ?_
        refine E_gtf ?_
        refine E_gtf ?_
        refine E_gtf ?_
        refine E_subI (by omega) (by omega) ?_
        rw [show (((P ++ F).length + 1 : Nat) : Int) - 1 = ((P ++ F).length : Int) by omega]
        refine E_gtf ?_
        refine E_rsix (v := v) (get_mid (i := (P ++ F).length) rfl) fun _ _ => ?_
        refine E_gtf ?_
        refine E_ptldA ?_
        refine E_gtf ?_
        refine cmp_use hc ?_
        refine E_gtf ?_
        refine E_lss ?_
        refine gS ?_
        exact hq
      · refine E_fa fun _ => ?_
        cases hxy : ltC c x y with
        | true =>
          refine E_tt ?_
          refine E_dr ?_
          refine E_subI (by omega) (by omega) ?_
          refine E_subI (by omega) (by omega) ?_
          rw [show (((P ++ F).length + 1 : Nat) : Int) - 1 = ((P ++ F).length : Int) by omega]
          refine E_rsix (v := v) (get_mid (i := (P ++ F).length) rfl) fun _ _ => ?_
          refine E_ptldA ?_
          refine E_rsix (v := v) (get_mid1 (i := (P ++ F).length + 1) rfl) fun _ _ => ?_
          refine E_ptldA ?_
          have hlen : ((P ++ F) ++ y :: x :: (A2 ++ (R' ++ Q))).length = (P ++ F).length + ((A2 ++ (R' ++ Q)).length + 2) := by rw [List.length_append]; rfl
          refine E_sset (l := (P ++ F) ++ y :: x :: (A2 ++ (R' ++ Q))) y (by omega) rfl ?_
          refine E_sset (l := ((P ++ F) ++ y :: x :: (A2 ++ (R' ++ Q))).set ((P ++ F).length + 1) y) x (by rw [List.length_set]; omega) rfl ?_
          rw [swap_mid rfl rfl]
          refine E_subI (by omega) (by omega) ?_
          have hk2 := hk1 (F, y :: A2) ⟨by simp only; rw [← hAD]; simp, fun z hz => ?_⟩ (by simp)
          · rw [show (((P ++ F).length + 1 : Nat) : Int) - 1 = (a : Int) + (F.length : Int) by omega]
            simp only [List.append_assoc, List.cons_append] at hk2 ⊢
            exact hk2
          · rcases List.mem_cons.1 hz with rfl | hz
            · exact hxy
            · exact hA2 z hz
        | false =>
          refine E_ff ?_
          refine hdone fun z hz => ?_
          rcases List.mem_append.1 hz with hz | hz
          · have hs' : Srt (ltC c) (F ++ ([y] ++ A2)) := by rw [← List.append_assoc, hAD]; exact hs
            have := (List.pairwise_append.1 hs').2.2 z hz y (by simp)
            exact hw.ntr x y z hxy this
          · simp only [List.mem_singleton] at hz
            subst hz; exact hxy
  · have hR0 : R = [] := by
      by_cases h0 : i = D.length
      · exact List.length_eq_zero_iff.1 (by omega)
      · exact hiR h0
    subst hR0
    simp only [List.append_nil, List.nil_append] at hst ⊢
    exact h D (by simpa using hDR) hs hst
end Go.SL.Stb
end
section
namespace Go.SL.Stb
open Go Go.SL
variable {B : World} {H : List Asrt} {K : Value → WT} {W : WT} {α : Type} {enc : α → List Value} {sz : Nat}
noncomputable def symC [Amb] (P : Program) (sz rot sym : Nat) (v0 v1 v2 v3 v4 : Value) (K : Value → WT) : WT :=
 S.bin .sub v2 v1 fun v27 =>
 S.bin .eql v27 (SL.I 1) fun v28 =>
 S.cond v28 (
 S.loop 5 (fun K0 => fun v0' v1' v4' v10 v11 => S.fa fun _ =>
 S.bin .lss v10 v11 fun v33 =>
 S.cond v33 (
 S.bin .add v10 v11 fun v36 =>
 S.cvt .u64 v36 fun v37 =>
 S.sh .shr v37 (.int .u64 1) fun v38 =>
 S.cvt .i64 v38 fun v39 =>
 S.dr <|
 S.ixS sz v0' v39 fun v43 =>
 S.ldN sz v43 fun v44 =>
 S.ixS sz v0' v1' fun v47 =>
 S.ldN sz v47 fun v48 =>
 S.cvv P v4' [v44, v48] fun v49 =>
 S.bin .lss v49 (SL.I 0) fun v50 =>
 S.cond v50 (
 S.bin .add v39 (SL.I 1) fun v52 =>
 K0 v0' v1' v4' v52 v11) (
 K0 v0' v1' v4' v10 v39)) (
 S.loop 3 (fun K1 => fun v0'2 v10' v13 => S.fa fun _ =>
 S.bin .sub v10' (SL.I 1) fun v57 =>
 S.bin .lss v13 v57 fun v58 =>
 S.cond v58 (
 S.dr <|
 S.bin .add v13 (SL.I 1) fun v65 =>
 S.bin .add v13 (SL.I 1) fun v68 =>
 S.ixS sz v0'2 v68 fun v69 =>
 S.ldN sz v69 fun v70 =>
 S.ixS sz v0'2 v13 fun v73 =>
 S.ldN sz v73 fun v74 =>
 S.ixS sz v0'2 v13 fun v75 =>
 S.st sz v75 v70 fun _ =>
 S.ixS sz v0'2 v65 fun v76 =>
 S.st sz v76 v74 fun _ =>
 S.bin .add v13 (SL.I 1) fun v60 =>
 K1 v0'2 v10' v60) (
 K (.tuple #[])))
 [v0', v10, v1']))
 [v0, v1, v4, v2, v3]) (
 S.bin .sub v3 v2 fun v79 =>
 S.bin .eql v79 (SL.I 1) fun v80 =>
 S.cond v80 (
 S.loop 5 (fun K2 => fun v0'3 v2' v4'2 v14 v15 => S.fa fun _ =>
 S.bin .lss v14 v15 fun v85 =>
 S.cond v85 (
 S.bin .add v14 v15 fun v88 =>
 S.cvt .u64 v88 fun v89 =>
 S.sh .shr v89 (.int .u64 1) fun v90 =>
 S.cvt .i64 v90 fun v91 =>
 S.dr <|
 S.ixS sz v0'3 v2' fun v95 =>
 S.ldN sz v95 fun v96 =>
 S.ixS sz v0'3 v91 fun v99 =>
 S.ldN sz v99 fun v100 =>
 S.cvv P v4'2 [v96, v100] fun v101 =>
 S.bin .lss v101 (SL.I 0) fun v102 =>
 S.not1 v102 fun v103 =>
 S.cond v103 (
 S.bin .add v91 (SL.I 1) fun v105 =>
 K2 v0'3 v2' v4'2 v105 v15) (
 K2 v0'3 v2' v4'2 v14 v91)) (
 S.loop 3 (fun K3 => fun v0'4 v14' v17 => S.fa fun _ =>
 S.bin .gtr v17 v14' fun v110 =>
 S.cond v110 (
 S.dr <|
 S.bin .sub v17 (SL.I 1) fun v117 =>
 S.bin .sub v17 (SL.I 1) fun v120 =>
 S.ixS sz v0'4 v120 fun v121 =>
 S.ldN sz v121 fun v122 =>
 S.ixS sz v0'4 v17 fun v125 =>
 S.ldN sz v125 fun v126 =>
 S.ixS sz v0'4 v17 fun v127 =>
 S.st sz v127 v122 fun _ =>
 S.ixS sz v0'4 v117 fun v128 =>
 S.st sz v128 v126 fun _ =>
 S.bin .sub v17 (SL.I 1) fun v112 =>
 K3 v0'4 v14' v112) (
 K (.tuple #[])))
 [v0'3, v14, v2']))
 [v0, v2, v4, v1, v2]) (
 S.bin .add v1 v3 fun v131 =>
 S.cvt .u64 v131 fun v132 =>
 S.sh .shr v132 (.int .u64 1) fun v133 =>
 S.cvt .i64 v133 fun v134 =>
 S.bin .add v134 v2 fun v137 =>
 S.join 9 (fun K4 =>
 S.bin .gtr v2 v134 fun v140 =>
 S.cond v140 (
 S.bin .sub v137 v3 fun v143 =>
 K4 v0 v1 v2 v3 v4 v134 v137 v143 v134) (
 K4 v0 v1 v2 v3 v4 v134 v137 v1 v2))
 <| fun v0'5 v1'2 v2'2 v3' v4'3 v18 v19 v20 v21 => S.fa fun _ =>
 S.bin .sub v19 (SL.I 1) fun v148 =>
 S.loop 10 (fun K5 => fun v0'6 v1'3 v2'3 v3'2 v4'4 v18' v19' v20' v21' v22 => S.fa fun _ =>
 S.bin .lss v20' v21' fun v151 =>
 S.cond v151 (
 S.bin .add v20' v21' fun v154 =>
 S.cvt .u64 v154 fun v155 =>
 S.sh .shr v155 (.int .u64 1) fun v156 =>
 S.cvt .i64 v156 fun v157 =>
 S.dr <|
 S.bin .sub v22 v157 fun v162 =>
 S.ixS sz v0'6 v162 fun v163 =>
 S.ldN sz v163 fun v164 =>
 S.ixS sz v0'6 v157 fun v167 =>
 S.ldN sz v167 fun v168 =>
 S.cvv P v4'4 [v164, v168] fun v169 =>
 S.bin .lss v169 (SL.I 0) fun v170 =>
 S.not1 v170 fun v171 =>
 S.cond v171 (
 S.bin .add v157 (SL.I 1) fun v173 =>
 K5 v0'6 v1'3 v2'3 v3'2 v4'4 v18' v19' v173 v21' v22) (
 K5 v0'6 v1'3 v2'3 v3'2 v4'4 v18' v19' v20' v157 v22)) (
 S.bin .sub v19' v20' fun v177 =>
 S.join 7 (fun K6 =>
 S.join 9 (fun K7 =>
 S.bin .lss v20' v2'3 fun v180 =>
 S.gd v180 true (fun k => k v2'3) fun v182 =>
 S.gd v180 true (fun k => k v177) fun v183 =>
 S.gd v180 true (S.bin .lss v182 v183) fun v184 =>
 S.pick v180 v184 (SL.B false) fun v185 =>
 K7 v0'6 v1'3 v2'3 v3'2 v4'4 v18' v20' v177 v185)
 <| fun v0'7 v1'4 v2'4 v3'3 v4'5 v18'2 v20'2 v24 v185' => S.fa fun _ =>
 S.cond v185' (
 CF P rot [v0'7, v20'2, v2'4, v24, v4'5] fun v191 =>
 K6 v0'7 v1'4 v3'3 v4'5 v18'2 v20'2 v24) (
 K6 v0'7 v1'4 v3'3 v4'5 v18'2 v20'2 v24))
 <| fun v0'8 v1'5 v3'4 v4'6 v18'3 v20'3 v24' => S.fa fun _ =>
 S.join 5 (fun K8 =>
 S.join 8 (fun K9 =>
 S.bin .lss v1'5 v20'3 fun v194 =>
 S.gd v194 true (fun k => k v20'3) fun v196 =>
 S.gd v194 true (fun k => k v18'3) fun v197 =>
 S.gd v194 true (S.bin .lss v196 v197) fun v198 =>
 S.pick v194 v198 (SL.B false) fun v199 =>
 K9 v0'8 v1'5 v3'4 v4'6 v18'3 v20'3 v24' v199)
 <| fun v0'9 v1'6 v3'5 v4'7 v18'4 v20'4 v24'2 v199' => S.fa fun _ =>
 S.cond v199' (
 CF P sym [v0'9, v1'6, v20'4, v18'4, v4'7] fun v205 =>
 K8 v0'9 v3'5 v4'7 v18'4 v24'2) (
 K8 v0'9 v3'5 v4'7 v18'4 v24'2))
 <| fun v0'10 v3'6 v4'8 v18'5 v24'3 => S.fa fun _ =>
 S.join 6 (fun K10 =>
 S.bin .lss v18'5 v24'3 fun v208 =>
 S.gd v208 true (fun k => k v24'3) fun v210 =>
 S.gd v208 true (fun k => k v3'6) fun v211 =>
 S.gd v208 true (S.bin .lss v210 v211) fun v212 =>
 S.pick v208 v212 (SL.B false) fun v213 =>
 K10 v0'10 v3'6 v4'8 v18'5 v24'3 v213)
 <| fun v0'11 v3'7 v4'9 v18'6 v24'4 v213' => S.fa fun _ =>
 S.cond v213' (
 CF P sym [v0'11, v18'6, v24'4, v3'7, v4'9] fun v219 =>
 K (.tuple #[])) (
 K (.tuple #[]))))
 [v0'5, v1'2, v2'2, v3', v4'3, v18, v19, v20, v21, v148]))
theorem E_mid2 {i j : Nat} (h1 : i + j ≤ 9223372036854775807) (h : E B H (K (J ((i + j) / 2 : Nat)))) : E B H (S.bin .add (J i) (J j) fun v36 => S.cvt .u64 v36 fun v37 => S.sh .shr v37 (.int .u64 1) fun v38 => S.cvt .i64 v38 K) := by
  refine E_addI (by omega) (by omega) ?_
  refine E_cvt ?_
  have e : IntKind.u64.wrap ((i : Int) + j) = ((i + j : Nat) : Int) := by
    unfold IntKind.wrap
    simp [IntKind.signed, IntKind.bits]
    omega
  rw [e]
  refine E_shrI (by omega) (by decide) (by decide) ?_
  rw [show ((i + j : Nat) : Int) / 2 ^ (1 : Int).toNat = (((i + j) / 2 : Nat) : Int) by simp]
  exact E_cvtI (by omega) (by omega) h
end Go.SL.Stb
end
section
namespace Go.SL.Stb
open Go Go.SL
variable {B : World} {H : List Asrt} {K : Value → WT} {W : WT} {α : Type} {enc : α → List Value} {sz : Nat}
noncomputable def symL [Amb] (P : Program) (sz : Nat) (v0 v1 v4 v2 v3 : Value) (K : Value → WT) : WT :=
 S.loop 5 (fun K0 => fun v0' v1' v4' v10 v11 => S.fa fun _ =>
 S.bin .lss v10 v11 fun v33 =>
 S.cond v33 (
 S.bin .add v10 v11 fun v36 =>
 S.cvt .u64 v36 fun v37 =>
 S.sh .shr v37 (.int .u64 1) fun v38 =>
 S.cvt .i64 v38 fun v39 =>
 S.dr <|
 S.ixS sz v0' v39 fun v43 =>
 S.ldN sz v43 fun v44 =>
 S.ixS sz v0' v1' fun v47 =>
 S.ldN sz v47 fun v48 =>
 S.cvv P v4' [v44, v48] fun v49 =>
 S.bin .lss v49 (SL.I 0) fun v50 =>
 S.cond v50 (
 S.bin .add v39 (SL.I 1) fun v52 =>
 K0 v0' v1' v4' v52 v11) (
 K0 v0' v1' v4' v10 v39)) (
 S.loop 3 (fun K1 => fun v0'2 v10' v13 => S.fa fun _ =>
 S.bin .sub v10' (SL.I 1) fun v57 =>
 S.bin .lss v13 v57 fun v58 =>
 S.cond v58 (
 S.dr <|
 S.bin .add v13 (SL.I 1) fun v65 =>
 S.bin .add v13 (SL.I 1) fun v68 =>
 S.ixS sz v0'2 v68 fun v69 =>
 S.ldN sz v69 fun v70 =>
 S.ixS sz v0'2 v13 fun v73 =>
 S.ldN sz v73 fun v74 =>
 S.ixS sz v0'2 v13 fun v75 =>
 S.st sz v75 v70 fun _ =>
 S.ixS sz v0'2 v65 fun v76 =>
 S.st sz v76 v74 fun _ =>
 S.bin .add v13 (SL.I 1) fun v60 =>
 K1 v0'2 v10' v60) (
 K (.tuple #[])))
 [v0', v10, v1']))
 [v0, v1, v4, v2, v3]
noncomputable def symR [Amb] (P : Program) (sz : Nat) (v0 v2 v4 v1 : Value) (K : Value → WT) : WT :=
 S.loop 5 (fun K2 => fun v0'3 v2' v4'2 v14 v15 => S.fa fun _ =>
 S.bin .lss v14 v15 fun v85 =>
 S.cond v85 (
 S.bin .add v14 v15 fun v88 =>
 S.cvt .u64 v88 fun v89 =>
 S.sh .shr v89 (.int .u64 1) fun v90 =>
 S.cvt .i64 v90 fun v91 =>
 S.dr <|
 S.ixS sz v0'3 v2' fun v95 =>
 S.ldN sz v95 fun v96 =>
 S.ixS sz v0'3 v91 fun v99 =>
 S.ldN sz v99 fun v100 =>
 S.cvv P v4'2 [v96, v100] fun v101 =>
 S.bin .lss v101 (SL.I 0) fun v102 =>
 S.not1 v102 fun v103 =>
 S.cond v103 (
 S.bin .add v91 (SL.I 1) fun v105 =>
 K2 v0'3 v2' v4'2 v105 v15) (
 K2 v0'3 v2' v4'2 v14 v91)) (
 S.loop 3 (fun K3 => fun v0'4 v14' v17 => S.fa fun _ =>
 S.bin .gtr v17 v14' fun v110 =>
 S.cond v110 (
 S.dr <|
 S.bin .sub v17 (SL.I 1) fun v117 =>
 S.bin .sub v17 (SL.I 1) fun v120 =>
 S.ixS sz v0'4 v120 fun v121 =>
 S.ldN sz v121 fun v122 =>
 S.ixS sz v0'4 v17 fun v125 =>
 S.ldN sz v125 fun v126 =>
 S.ixS sz v0'4 v17 fun v127 =>
 S.st sz v127 v122 fun _ =>
 S.ixS sz v0'4 v117 fun v128 =>
 S.st sz v128 v126 fun _ =>
 S.bin .sub v17 (SL.I 1) fun v112 =>
 K3 v0'4 v14' v112) (
 K (.tuple #[])))
 [v0'3, v14, v2']))
 [v0, v2, v4, v1, v2]
theorem symL_ok [hE : Enc enc sz] [hA : EncA enc sz] {Pr : Program} {T : Nat} {v cv : Value} {C : List Asrt} {c : α → α → Int} {P Y Q : List α} {x : α} {a m b : Nat} (hw : SW (ltC c)) (hc : CmpOk Pr B C cv enc c)
    (hln : (P ++ (x :: (Y ++ Q))).length ≤ 140737488355328) (hP : P.length = a) (hm : a + 1 = m) (hb : m + Y.length = b) (hY : Srt (ltC c) Y)
    (h : ∀ S', S'.length = Y.length + 1 → Srt (ltC c) S' → Stab (ltC c) (x :: Y) S' → E B (sls enc T sz v (P ++ (S' ++ Q)) :: (C ++ H)) (K (.tuple #[]))) : E B (sls enc T sz v (P ++ (x :: (Y ++ Q))) :: (C ++ H)) (symL Pr sz v (J a) cv (J m) (J b) K) := by
  have i1 := hA.at_
  have i2 := hA.ce
  have hln' : P.length + (Y.length + Q.length + 1) ≤ 140737488355328 := by simpa using hln
  have hgx : (P ++ (x :: (Y ++ Q)))[a]? = some x := get_mid hP.symm
  unfold symL
  refine E_loop (n := 5) (σ := Nat × Nat) (fun s => s.1 ≤ s.2 ∧ s.2 ≤ Y.length ∧ (∀ y ∈ Y.take s.1, ltC c y x = true) ∧ (∀ y ∈ Y.drop s.2, ltC c y x = false)) (fun s => [v, J a, cv, J (m + s.1 : Nat), J (m + s.2 : Nat)]) (fun _ => sls enc T sz v (P ++ (x :: (Y ++ Q))) :: (C ++ H)) (fun s => s.2 - s.1) (0, Y.length) (fun _ => rfl) (by simp [hb]) ⟨Nat.zero_le _, Nat.le_refl _, by simp, by simp⟩ (fun W hW => hW) ?_
  rintro ⟨p, q⟩ K0 ⟨hpq, hq, h1, h2⟩ hk
  simp only at hpq hq h1 h2 hk ⊢
  refine E_fa fun _ => ?_
  refine E_lss ?_
  refine E_if (fun hlt => ?_) (fun hlt => ?_)
  · refine E_mid2 (by omega) ?_
    obtain ⟨t, ht⟩ : ∃ t, (m + p + (m + q)) / 2 = m + t := ⟨(p + q) / 2, by omega⟩
    have ht1 : p ≤ t ∧ t < q := by omega
    rw [ht]
    have hy : Y[t]? = some Y[t] := List.getElem?_eq_getElem (by omega)
    have hsp : Y = Y.take t ++ Y[t] :: Y.drop (t + 1) := by rw [List.getElem_cons_drop, List.take_append_drop]
    generalize Y[t] = y at hy hsp
    have hgy : (P ++ (x :: (Y ++ Q)))[m + t]? = some y := by
      rw [List.getElem?_append_right (by omega), show m + t - P.length = t + 1 by omega, List.getElem?_cons_succ, List.getElem?_append_left (by omega)]; exact hy
    refine E_dr ?_
    refine E_rsix (v := v) hgy fun _ _ => ?_
    refine E_ptldA ?_
    refine E_rsix (v := v) hgx fun _ _ => ?_
    refine E_ptldA ?_
    refine cmp_use hc ?_
    refine E_lss ?_
    obtain ⟨s1, s2, s3⟩ := List.pairwise_append.1 (hsp ▸ hY)
    have s2' := (List.pairwise_cons.1 s2).1
    show E B _ (S.cond (.bool (ltC c y x)) _ _)
    cases hyx : ltC c y x with
    | true =>
      refine E_tt ?_
      refine E_addI (by omega) (by omega) ?_
      rw [show ((m + t : Nat) : Int) + 1 = ((m + (t + 1) : Nat) : Int) by omega]
      refine hk (t + 1, q) ⟨by simp only; omega, hq, fun z hz => ?_, h2⟩ (by simp only; omega)
      rw [List.take_add_one, hy] at hz
      rcases List.mem_append.1 hz with hz | hz
      · cases hzx : ltC c z x with
        | true => rfl
        | false => rw [hw.ntr y z x (s3 z hz y (by simp)) hzx] at hyx; cases hyx
      · simp at hz; subst hz; exact hyx
    | false =>
      refine E_ff ?_
      refine hk (p, t) ⟨ht1.1, by simp only; omega, h1, fun z hz => ?_⟩ (by simp only; omega)
      rw [List.drop_eq_getElem_cons (show t < Y.length by omega)] at hz
      rcases List.mem_cons.1 hz with hz | hz
      · rw [hz, (List.getElem?_eq_some_iff.1 hy).2]; exact hyx
      · exact hw.ntr z y x (s2' z hz) hyx
  · have hpq' : p = q := by omega
    subst hpq'
    clear hk
    have hYs : Y = Y.take p ++ Y.drop p := (List.take_append_drop ..).symm
    obtain ⟨o1, o2⟩ := insertL_ok hw (x := x) (hYs ▸ hY) h1 h2
    rw [← hYs] at o2
    refine E_loop (n := 3) (σ := Nat) (fun t => t ≤ p) (fun t => [v, J (m + p : Nat), J ((a : Int) + t)]) (fun t => sls enc T sz v (P ++ (Y.take t ++ (x :: (Y.drop t ++ Q)))) :: (C ++ H)) (fun t => p - t) 0 (fun _ => rfl) (by simp) (Nat.zero_le _) (fun W hW => by simpa using hW) ?_
    rintro t K1 ht hk
    refine E_fa fun _ => ?_
    refine E_subI (by omega) (by omega) ?_
    refine E_lss ?_
    refine E_if (fun hlt2 => ?_) (fun hlt2 => ?_)
    · have hy : Y[t]? = some Y[t] := List.getElem?_eq_getElem (by omega)
      have hdr : Y.drop t = Y[t] :: Y.drop (t + 1) := List.drop_eq_getElem_cons (by omega)
      have htk : Y.take (t + 1) = Y.take t ++ [Y[t]] := by rw [List.take_add_one, hy]; rfl
      generalize Y[t] = y at hy hdr htk
      have ec : P ++ (Y.take t ++ (x :: (Y.drop t ++ Q))) = (P ++ Y.take t) ++ x :: y :: (Y.drop (t + 1) ++ Q) := by rw [hdr]; simp
      have hFl : (P ++ Y.take t).length = a + t := by rw [List.length_append, List.length_take]; omega
      have hlen : ((P ++ Y.take t) ++ x :: y :: (Y.drop (t + 1) ++ Q)).length = (P ++ Y.take t).length + ((Y.drop (t + 1) ++ Q).length + 2) := by rw [List.length_append]; rfl
      rw [ec]
      refine E_dr ?_
      refine E_addI (by omega) (by omega) ?_
      refine E_addI (by omega) (by omega) ?_
      rw [show (a : Int) + t + 1 = (((P ++ Y.take t).length + 1 : Nat) : Int) by omega, show (a : Int) + t = ((P ++ Y.take t).length : Int) by omega]
      refine E_rsix (v := v) (get_mid1 (i := (P ++ Y.take t).length + 1) rfl) fun _ _ => ?_
      refine E_ptldA ?_
      refine E_rsix (v := v) (get_mid (i := (P ++ Y.take t).length) rfl) fun _ _ => ?_
      refine E_ptldA ?_
      refine E_sset (l := (P ++ Y.take t) ++ x :: y :: (Y.drop (t + 1) ++ Q)) y (by omega) rfl ?_
      refine E_sset (l := ((P ++ Y.take t) ++ x :: y :: (Y.drop (t + 1) ++ Q)).set (P ++ Y.take t).length y) x (by rw [List.length_set]; omega) rfl ?_
      rw [List.set_comm _ _ (by omega), swap_mid rfl rfl]
      refine E_addI (by omega) (by omega) ?_
      have hk1 := hk (t + 1) (by omega) (by omega)
      rw [htk] at hk1
      rw [show ((P ++ Y.take t).length : Int) + 1 = (a : Int) + ((t + 1 : Nat) : Int) by omega]
      simp only [List.append_assoc, List.cons_append, List.nil_append] at hk1 ⊢
      exact hk1
    · have htp : t = p := by omega
      subst htp
      have := h (Y.take t ++ x :: Y.drop t) (by simp; omega) o1 o2
      simpa [List.append_assoc] using this
theorem symR_ok [hE : Enc enc sz] [hA : EncA enc sz] {Pr : Program} {T : Nat} {v cv : Value} {C : List Asrt} {c : α → α → Int} {P X Q : List α} {y : α} {a m : Nat} (hw : SW (ltC c)) (hc : CmpOk Pr B C cv enc c)
    (hln : (P ++ (X ++ (y :: Q))).length ≤ 140737488355328) (hP : P.length = a) (hm : a + X.length = m) (hX : Srt (ltC c) X)
    (h : ∀ S', S'.length = X.length + 1 → Srt (ltC c) S' → Stab (ltC c) (X ++ [y]) S' → E B (sls enc T sz v (P ++ (S' ++ Q)) :: (C ++ H)) (K (.tuple #[]))) : E B (sls enc T sz v (P ++ (X ++ (y :: Q))) :: (C ++ H)) (symR Pr sz v (J m) cv (J a) K) := by
  have i1 := hA.at_
  have i2 := hA.ce
  have hln' : P.length + (X.length + (Q.length + 1)) ≤ 140737488355328 := by simpa using hln
  have hgy : (P ++ (X ++ (y :: Q)))[m]? = some y := by rw [← List.append_assoc]; exact get_mid (by simp; omega)
  unfold symR
  refine E_loop (n := 5) (σ := Nat × Nat) (fun s => s.1 ≤ s.2 ∧ s.2 ≤ X.length ∧ (∀ x ∈ X.take s.1, ltC c y x = false) ∧ (∀ x ∈ X.drop s.2, ltC c y x = true)) (fun s => [v, J m, cv, J (a + s.1 : Nat), J (a + s.2 : Nat)]) (fun _ => sls enc T sz v (P ++ (X ++ (y :: Q))) :: (C ++ H)) (fun s => s.2 - s.1) (0, X.length) (fun _ => rfl) (by simp [hm]) ⟨Nat.zero_le _, Nat.le_refl _, by simp, by simp⟩ (fun W hW => hW) ?_
  rintro ⟨p, q⟩ K0 ⟨hpq, hq, h1, h2⟩ hk
  simp only at hpq hq h1 h2 hk ⊢
  refine E_fa fun _ => ?_
  refine E_lss ?_
  refine E_if (fun hlt => ?_) (fun hlt => ?_)
  · refine E_mid2 (by omega) ?_
    obtain ⟨t, ht⟩ : ∃ t, (a + p + (a + q)) / 2 = a + t := ⟨(p + q) / 2, by omega⟩
    have ht1 : p ≤ t ∧ t < q := by omega
    rw [ht]
    have hx : X[t]? = some X[t] := List.getElem?_eq_getElem (by omega)
    have hsp : X = X.take t ++ X[t] :: X.drop (t + 1) := by rw [List.getElem_cons_drop, List.take_append_drop]
    generalize X[t] = x at hx hsp
    have hgx : (P ++ (X ++ (y :: Q)))[a + t]? = some x := by
      rw [List.getElem?_append_right (by omega), show a + t - P.length = t by omega, List.getElem?_append_left (by omega)]; exact hx
    refine E_dr ?_
    refine E_rsix (v := v) hgy fun _ _ => ?_
    refine E_ptldA ?_
    refine E_rsix (v := v) hgx fun _ _ => ?_
    refine E_ptldA ?_
    refine cmp_use hc ?_
    refine E_lss ?_
    obtain ⟨s1, s2, s3⟩ := List.pairwise_append.1 (hsp ▸ hX)
    have s2' := (List.pairwise_cons.1 s2).1
    refine E_notb ?_
    show E B _ (S.cond (.bool (!ltC c y x)) _ _)
    cases hyx : ltC c y x with
    | false =>
      refine E_tt ?_
      refine E_addI (by omega) (by omega) ?_
      rw [show ((a + t : Nat) : Int) + 1 = ((a + (t + 1) : Nat) : Int) by omega]
      refine hk (t + 1, q) ⟨by simp only; omega, hq, fun z hz => ?_, h2⟩ (by simp only; omega)
      rw [List.take_add_one, hx] at hz
      rcases List.mem_append.1 hz with hz | hz
      · exact hw.ntr y x z hyx (s3 z hz x (by simp))
      · simp at hz; subst hz; exact hyx
    | true =>
      refine E_ff ?_
      refine hk (p, t) ⟨ht1.1, by simp only; omega, h1, fun z hz => ?_⟩ (by simp only; omega)
      rw [List.drop_eq_getElem_cons (show t < X.length by omega)] at hz
      rcases List.mem_cons.1 hz with hz | hz
      · rw [hz, (List.getElem?_eq_some_iff.1 hx).2]; exact hyx
      · cases hyz : ltC c y z with
        | true => rfl
        | false => rw [hw.ntr y z x hyz (s2' z hz)] at hyx; cases hyx
  · have hpq' : p = q := by omega
    subst hpq'
    clear hk
    have hXs : X = X.take p ++ X.drop p := (List.take_append_drop ..).symm
    obtain ⟨o1, o2⟩ := insert_ok hw (x := y) (hXs ▸ hX) h1 h2
    rw [← hXs] at o2
    refine E_loop (n := 3) (σ := Nat) (fun t => p ≤ t ∧ t ≤ X.length) (fun t => [v, J (a + p : Nat), J (a + t : Nat)]) (fun t => sls enc T sz v (P ++ (X.take t ++ (y :: (X.drop t ++ Q)))) :: (C ++ H)) (fun t => t) X.length (fun _ => rfl) (by simp [hm]) ⟨hq, Nat.le_refl _⟩ (fun W hW => by simpa using hW) ?_
    rintro t K1 ⟨hpt, ht⟩ hk
    refine E_fa fun _ => ?_
    refine E_gtr ?_
    refine E_if (fun hlt2 => ?_) (fun hlt2 => ?_)
    · obtain ⟨u, rfl⟩ : ∃ u, t = u + 1 := ⟨t - 1, by omega⟩
      have hx : X[u]? = some X[u] := List.getElem?_eq_getElem (by omega)
      have hdr : X.drop u = X[u] :: X.drop (u + 1) := List.drop_eq_getElem_cons (by omega)
      have htk : X.take (u + 1) = X.take u ++ [X[u]] := by rw [List.take_add_one, hx]; rfl
      generalize X[u] = x at hx hdr htk
      have ec : P ++ (X.take (u + 1) ++ (y :: (X.drop (u + 1) ++ Q))) = (P ++ X.take u) ++ x :: y :: (X.drop (u + 1) ++ Q) := by rw [htk]; simp
      have hFl : (P ++ X.take u).length = a + u := by rw [List.length_append, List.length_take]; omega
      have hlen : ((P ++ X.take u) ++ x :: y :: (X.drop (u + 1) ++ Q)).length = (P ++ X.take u).length + ((X.drop (u + 1) ++ Q).length + 2) := by rw [List.length_append]; rfl
      rw [ec]
      refine E_dr ?_
      refine E_subI (by omega) (by omega) ?_
      refine E_subI (by omega) (by omega) ?_
      rw [show ((a + (u + 1) : Nat) : Int) - 1 = ((P ++ X.take u).length : Int) by omega, show ((a + (u + 1) : Nat) : Int) = (((P ++ X.take u).length + 1 : Nat) : Int) by omega]
      refine E_rsix (v := v) (get_mid (i := (P ++ X.take u).length) rfl) fun _ _ => ?_
      refine E_ptldA ?_
      refine E_rsix (v := v) (get_mid1 (i := (P ++ X.take u).length + 1) rfl) fun _ _ => ?_
      refine E_ptldA ?_
      refine E_sset (l := (P ++ X.take u) ++ x :: y :: (X.drop (u + 1) ++ Q)) x (by omega) rfl ?_
      refine E_sset (l := ((P ++ X.take u) ++ x :: y :: (X.drop (u + 1) ++ Q)).set ((P ++ X.take u).length + 1) x) y (by rw [List.length_set]; omega) rfl ?_
      rw [swap_mid rfl rfl]
      refine E_subI (by omega) (by omega) ?_
      have hk1 := hk u ⟨by omega, by omega⟩ (by omega)
      rw [hdr] at hk1
      rw [show (((P ++ X.take u).length + 1 : Nat) : Int) - 1 = ((a + u : Nat) : Int) by omega]
      simp only [List.append_assoc, List.cons_append, List.nil_append] at hk1 ⊢
      exact hk1
    · have htp : t = p := by omega
      subst htp
      have := h (X.take t ++ y :: X.drop t) (by simp; omega) o1 o2
      simpa [List.append_assoc] using this
end Go.SL.Stb
end
section
namespace Go.SL.Stb
open Go Go.SL
variable {α : Type} {lt : α → α → Bool}
theorem srt_le (hw : SW lt) {l : List α} (h : Srt lt l) {i j : Nat} {x y : α} (hx : l[i]? = some x) (hy : l[j]? = some y) (hij : i ≤ j) : lt y x = false := by
  obtain ⟨hi, ex⟩ := List.getElem?_eq_some_iff.1 hx
  obtain ⟨hj, ey⟩ := List.getElem?_eq_some_iff.1 hy
  rcases Nat.lt_or_ge i j with hlt | hge
  · have := List.pairwise_iff_getElem.1 h i j hi hj hlt
    rw [ex, ey] at this; exact this
  · have : i = j := by omega
    subst this
    rw [hx] at hy; cases hy
    exact hw.irr x
def s0 (lx ly h : Nat) : Nat := if h < lx then h - ly else 0
def r0 (lx h : Nat) : Nat := if h < lx then h else lx
theorem cut_ok (hw : SW lt) {X Y : List α} {h st : Nat} (hX : Srt lt X) (hY : Srt lt Y) (hh : h = (X.length + Y.length) / 2) (h1 : s0 X.length Y.length h ≤ st) (h2 : st ≤ r0 X.length h)
    (f1 : st = s0 X.length Y.length h ∨ ∃ x y, X[st - 1]? = some x ∧ Y[h - st]? = some y ∧ lt y x = false) (f2 : st = r0 X.length h ∨ ∃ x y, X[st]? = some x ∧ Y[h - 1 - st]? = some y ∧ lt y x = true) :
    (∀ x ∈ X.take st, ∀ y ∈ Y.drop (h - st), lt y x = false) ∧ (∀ x ∈ X.drop st, ∀ y ∈ Y.take (h - st), lt y x = true) := by
  constructor
  · intro x hx y hy
    obtain ⟨i, hi, ex⟩ := List.mem_take_iff_getElem.1 hx
    obtain ⟨j, hj, ey⟩ := List.mem_drop_iff_getElem.1 hy
    have hxi : X[i]? = some x := by rw [List.getElem?_eq_getElem (by omega), ex]
    have hyj : Y[h - st + j]? = some y := by rw [List.getElem?_eq_getElem (by omega), ey]
    rcases f1 with f1 | ⟨u, w, hu, hv, huw⟩
    · unfold s0 at f1
      split at f1 <;> omega
    · exact hw.ntr y u x (hw.ntr y w u (srt_le hw hY hv hyj (by omega)) huw) (srt_le hw hX hxi hu (by omega))
  · intro x hx y hy
    obtain ⟨i, hi, ex⟩ := List.mem_drop_iff_getElem.1 hx
    obtain ⟨j, hj, ey⟩ := List.mem_take_iff_getElem.1 hy
    have hxi : X[st + i]? = some x := by rw [List.getElem?_eq_getElem (by omega), ex]
    have hyj : Y[j]? = some y := by rw [List.getElem?_eq_getElem (by omega), ey]
    rcases f2 with f2 | ⟨u, w, hu, hv, huw⟩
    · unfold r0 at f2
      split at f2 <;> omega
    · cases hyx : lt y x with
      | true => rfl
      | false =>
        rw [hw.ntr w x u (hw.ntr w y x (srt_le hw hY hyj hv (by omega)) hyx) (srt_le hw hX hu hxi (by omega))] at huw
        cases huw
end Go.SL.Stb
end
section
namespace Go.SL.Stb
open Go Go.SL
variable {B : World} {H : List Asrt} {K : Value → WT} {W : WT} {α : Type} {enc : α → List Value} {sz : Nat}
theorem symC_ok [hE : Enc enc sz] [hA : EncA enc sz] {Pr : Program} {sw rot sym T : Nat} {v cv : Value} {C : List Asrt} {c : α → α → Int} (hw : SW (ltC c)) (hc : CmpOk Pr B C cv enc c)
    (hsw : ∀ (d x y n c : Value) (K' : Value → WT) (H' : List Asrt), E B H' (swC sz d x y n K') → E B H' (CF Pr sw [d, x, y, n, c] K'))
    (hrot : ∀ (d x y z c : Value) (K' : Value → WT) (H' : List Asrt), E B H' (rotC Pr sw d x y z c K') → E B H' (CF Pr rot [d, x, y, z, c] K'))
    (hsym : ∀ (d x y z c : Value) (K' : Value → WT) (H' : List Asrt), E B H' (symC Pr sz rot sym d x y z c K') → E B H' (CF Pr sym [d, x, y, z, c] K')) :
    ∀ (n : Nat) {H : List Asrt} {K : Value → WT} {P X Y Q : List α} {a m b : Nat}, X.length + Y.length ≤ n → 1 ≤ X.length → 1 ≤ Y.length → (P ++ (X ++ (Y ++ Q))).length ≤ 140737488355328 → P.length = a → a + X.length = m → m + Y.length = b → Srt (ltC c) X → Srt (ltC c) Y →
      (∀ S', S'.length = X.length + Y.length → Srt (ltC c) S' → Stab (ltC c) (X ++ Y) S' → E B (sls enc T sz v (P ++ (S' ++ Q)) :: (C ++ H)) (K (.tuple #[]))) → E B (sls enc T sz v (P ++ (X ++ (Y ++ Q))) :: (C ++ H)) (symC Pr sz rot sym v (J a) (J m) (J b) cv K)
  | 0, _, _, _, _, _, _, _, _, _, h0, h1, _, _, _, _, _, _, _, _ => by omega
  | n + 1, H, K, P, X, Y, Q, a, m, b, hn, hx1, hy1, hln, hP, hm, hb, hX, hY, h => by
    have i1 := hA.at_
    have i2 := hA.ce
    have hln' : P.length + (X.length + (Y.length + Q.length)) ≤ 140737488355328 := by simpa using hln
    unfold symC
    refine E_subI (by omega) (by omega) ?_
    refine E_eql ?_
    refine E_if (fun e1 => ?_) (fun e1 => ?_)
    · obtain ⟨x, rfl⟩ : ∃ x, X = [x] := List.length_eq_one_iff.1 (by omega)
      rw [List.singleton_append]
      show E B _ (symL Pr sz v (J a) cv (J m) (J b) K)
      refine symL_ok hw hc (by simpa using hln) hP (by simpa using hm) hb hY fun S' h1 h2 h3 => h S' (by simp; omega) h2 (by simpa using h3)
    refine E_subI (by omega) (by omega) ?_
    refine E_eql ?_
    refine E_if (fun e2 => ?_) (fun e2 => ?_)
    · obtain ⟨y, rfl⟩ : ∃ y, Y = [y] := List.length_eq_one_iff.1 (by omega)
      rw [List.singleton_append]
      show E B _ (symR Pr sz v (J m) cv (J a) K)
      refine symR_ok hw hc (by simpa using hln) hP hm hX fun S' h1 h2 h3 => h S' (by simp; omega) h2 (by simpa using h3)
    have hab : (a + b) / 2 = a + (X.length + Y.length) / 2 := by omega
    refine E_mid2 (by omega) ?_
    rw [hab]
    generalize hh : (X.length + Y.length) / 2 = g
    have hh' : g = (X.length + Y.length) / 2 := hh.symm
    refine E_addI (by omega) (by omega) ?_
    rw [show ((a + g : Nat) : Int) + m = ((a + g + m : Nat) : Int) by omega]
    have hsr : s0 X.length Y.length g ≤ r0 X.length g ∧ r0 X.length g ≤ X.length ∧ r0 X.length g ≤ g ∧ g - s0 X.length Y.length g ≤ Y.length := by
      unfold s0 r0
      split <;> omega
    obtain ⟨q1, q2, q3, q4⟩ := hsr
    refine E_join1 [v, J a, J m, J b, cv, J (a + g : Nat), J (a + g + m : Nat), J (a + s0 X.length Y.length g : Nat), J (a + r0 X.length g : Nat)] (sls enc T sz v (P ++ (X ++ (Y ++ Q))) :: (C ++ H)) (fun q hq => ?_) ?_
    · refine E_gtr ?_
      refine E_if (fun e3 => ?_) (fun e3 => ?_)
      · have h5 : g < X.length := by omega
        unfold s0 r0 at hq
        rw [if_pos h5, if_pos h5] at hq
        refine E_subI (by omega) (by omega) ?_
        rw [show ((a + g + m : Nat) : Int) - b = ((a + (g - Y.length) : Nat) : Int) by omega]
        exact hq
      · have h5 : ¬ g < X.length := by omega
        unfold s0 r0 at hq
        rw [if_neg h5, if_neg h5, hm] at hq
        exact hq
    refine E_fa fun _ => ?_
    refine E_subI (by omega) (by omega) ?_
    refine E_loop (n := 10) (σ := Nat × Nat) (fun s => s0 X.length Y.length g ≤ s.1 ∧ s.1 ≤ s.2 ∧ s.2 ≤ r0 X.length g ∧ (s.1 = s0 X.length Y.length g ∨ ∃ x y, X[s.1 - 1]? = some x ∧ Y[g - s.1]? = some y ∧ ltC c y x = false) ∧ (s.2 = r0 X.length g ∨ ∃ x y, X[s.2]? = some x ∧ Y[g - 1 - s.2]? = some y ∧ ltC c y x = true))
      (fun s => [v, J a, J m, J b, cv, J (a + g : Nat), J (a + g + m : Nat), J (a + s.1 : Nat), J (a + s.2 : Nat), J (((a + g + m : Nat) : Int) - 1)]) (fun _ => sls enc T sz v (P ++ (X ++ (Y ++ Q))) :: (C ++ H)) (fun s => s.2 - s.1) (s0 X.length Y.length g, r0 X.length g) (fun _ => rfl) rfl ⟨Nat.le_refl _, q1, Nat.le_refl _, .inl rfl, .inl rfl⟩ (fun W hW => hW) ?_
    rintro ⟨i, j⟩ K0 ⟨hi, hij, hj, f1, f2⟩ hk
    simp only at hi hij hj f1 f2 hk ⊢
    refine E_fa fun _ => ?_
    refine E_lss ?_
    refine E_if (fun hlt => ?_) (fun hlt => ?_)
    · refine E_mid2 (by omega) ?_
      obtain ⟨t, ht⟩ : ∃ t, (a + i + (a + j)) / 2 = a + t := ⟨(i + j) / 2, by omega⟩
      have ht1 : i ≤ t ∧ t < j := by omega
      rw [ht]
      have hx : X[t]? = some X[t] := List.getElem?_eq_getElem (by omega)
      have hy : Y[g - 1 - t]? = some Y[g - 1 - t] := List.getElem?_eq_getElem (by omega)
      generalize X[t] = x at hx
      generalize Y[g - 1 - t] = y at hy
      have hgx : (P ++ (X ++ (Y ++ Q)))[a + t]? = some x := by
        rw [List.getElem?_append_right (by omega), show a + t - P.length = t by omega, List.getElem?_append_left (by omega)]; exact hx
      have hgy : (P ++ (X ++ (Y ++ Q)))[m + (g - 1 - t)]? = some y := by
        rw [List.getElem?_append_right (by omega), List.getElem?_append_right (by omega), show m + (g - 1 - t) - P.length - X.length = g - 1 - t by omega, List.getElem?_append_left (by omega)]; exact hy
      refine E_dr ?_
      refine E_subI (by omega) (by omega) ?_
      rw [show ((a + g + m : Nat) : Int) - 1 - ((a + t : Nat) : Int) = ((m + (g - 1 - t) : Nat) : Int) by omega]
      refine E_rsix (v := v) hgy fun _ _ => ?_
      refine E_ptldA ?_
      refine E_rsix (v := v) hgx fun _ _ => ?_
      refine E_ptldA ?_
      refine cmp_use hc ?_
      refine E_lss ?_
      refine E_notb ?_
      show E B _ (S.cond (.bool (!ltC c y x)) _ _)
      cases hyx : ltC c y x with
      | false =>
        refine E_tt ?_
        refine E_addI (by omega) (by omega) ?_
        rw [show ((a + t : Nat) : Int) + 1 = ((a + (t + 1) : Nat) : Int) by omega]
        exact hk (t + 1, j) ⟨by simp only; omega, by simp only; omega, hj, .inr ⟨x, y, hx, by simp only; rw [show g - (t + 1) = g - 1 - t by omega]; exact hy, hyx⟩, f2⟩ (by simp only; omega)
      | true =>
        refine E_ff ?_
        exact hk (i, t) ⟨hi, ht1.1, by simp only; omega, f1, .inr ⟨x, y, hx, hy, hyx⟩⟩ (by simp only; omega)
    have hij' : i = j := by omega
    subst hij'
    clear hk
    obtain ⟨c1, c2⟩ := cut_ok hw hX hY hh' hi hj f1 f2
    have hiX : i ≤ X.length := by omega
    have hgY : g - i ≤ Y.length := by omega
    obtain ⟨X1, X2, rfl, hX1⟩ : ∃ X1 X2, X = X1 ++ X2 ∧ X1.length = i := ⟨X.take i, X.drop i, (List.take_append_drop ..).symm, by rw [List.length_take]; omega⟩
    obtain ⟨Y1, Y2, rfl, hY1⟩ : ∃ Y1 Y2, Y = Y1 ++ Y2 ∧ Y1.length = g - i := ⟨Y.take (g - i), Y.drop (g - i), (List.take_append_drop ..).symm, by rw [List.length_take]; omega⟩
    rw [List.take_left' hX1, List.drop_left' hY1] at c1
    rw [List.drop_left' hX1, List.take_left' hY1] at c2
    have lX : (X1 ++ X2).length = X1.length + X2.length := List.length_append
    have lY : (Y1 ++ Y2).length = Y1.length + Y2.length := List.length_append
    refine E_subI (by omega) (by omega) ?_
    rw [show ((a + g + m : Nat) : Int) - ((a + i : Nat) : Int) = ((m + (g - i) : Nat) : Int) by omega]
    refine E_join1 [v, J a, J b, cv, J (a + g : Nat), J (a + i : Nat), J (m + (g - i) : Nat)] (sls enc T sz v (P ++ (X1 ++ (Y1 ++ (X2 ++ (Y2 ++ Q))))) :: (C ++ H)) (fun q hq => ?_) ?_
    · refine E_join1 [v, J a, J m, J b, cv, J (a + g : Nat), J (a + i : Nat), J (m + (g - i) : Nat), .bool (decide (((a + i : Nat) : Int) < (m : Int)) && decide ((m : Int) < ((m + (g - i) : Nat) : Int)))] (sls enc T sz v (P ++ ((X1 ++ X2) ++ ((Y1 ++ Y2) ++ Q))) :: (C ++ H)) (fun k hk => ?_) ?_
      · (repeat first | refine gS ?_ | refine gY ?_ | refine gA fun _ => ?_ | refine gX fun _ _ => ?_ | refine gI ?_)
        exact hk
      refine E_fa fun _ => ?_
      refine E_ifb' (p := 1 ≤ X2.length ∧ 1 ≤ Y1.length) (by simp; omega) (fun e => ?_) (fun e => ?_)
      · refine hrot _ _ _ _ _ _ _ ?_
        have e1 : P ++ ((X1 ++ X2) ++ ((Y1 ++ Y2) ++ Q)) = (P ++ X1) ++ (X2 ++ (Y1 ++ (Y2 ++ Q))) := by simp
        rw [e1]
        refine rotC_ok (Q := Y2 ++ Q) hsw (by rw [← e1]; exact hln) (by rw [List.length_append]; omega) (by omega) (by omega) e.1 e.2 ?_
        rw [List.append_assoc]
        exact hq
      · have e0 : X2 = [] ∨ Y1 = [] := by
          rcases Nat.eq_zero_or_pos X2.length with h | h
          · exact .inl (List.length_eq_zero_iff.1 h)
          · exact .inr (List.length_eq_zero_iff.1 (by omega))
        rcases e0 with rfl | rfl
        · simp only [List.append_nil, List.nil_append, List.append_assoc] at hq ⊢
          exact hq
        · simp only [List.append_nil, List.nil_append, List.append_assoc] at hq ⊢
          exact hq
    refine E_fa fun _ => ?_
    obtain ⟨sx1, sx2, _⟩ := List.pairwise_append.1 hX
    obtain ⟨sy1, sy2, _⟩ := List.pairwise_append.1 hY
    have hln2 : P.length + (X1.length + (Y1.length + (X2.length + (Y2.length + Q.length)))) ≤ 140737488355328 := by omega
    refine E_joinC (σ := List α) (fun S1 => S1.length = X1.length + Y1.length ∧ Srt (ltC c) S1 ∧ Stab (ltC c) (X1 ++ Y1) S1) (fun _ => [v, J b, cv, J (a + g : Nat), J (m + (g - i) : Nat)]) (fun S1 => sls enc T sz v (P ++ (S1 ++ (X2 ++ (Y2 ++ Q)))) :: (C ++ H)) (fun q hq => ?_) (fun S1 hS1 => ?_)
    · refine E_join1 [v, J a, J b, cv, J (a + g : Nat), J (a + i : Nat), J (m + (g - i) : Nat), .bool (decide ((a : Int) < ((a + i : Nat) : Int)) && decide (((a + i : Nat) : Int) < ((a + g : Nat) : Int)))] (sls enc T sz v (P ++ (X1 ++ (Y1 ++ (X2 ++ (Y2 ++ Q))))) :: (C ++ H)) (fun k hk => ?_) ?_
      · (repeat first | refine gS ?_ | refine gY ?_ | refine gA fun _ => ?_ | refine gX fun _ _ => ?_ | refine gI ?_)
        exact hk
      refine E_fa fun _ => ?_
      refine E_ifb' (p := 1 ≤ X1.length ∧ 1 ≤ Y1.length) (by simp; omega) (fun e => ?_) (fun e => ?_)
      · refine hsym _ _ _ _ _ _ _ ?_
        refine symC_ok hw hc hsw hrot hsym n (X := X1) (Y := Y1) (Q := X2 ++ (Y2 ++ Q)) (by omega) e.1 e.2 (by simp only [List.length_append]; omega) hP (by omega) (by omega) sx1 sy1 fun S' z1 z2 z3 => hq S' ⟨z1, z2, z3⟩
      · have hS : Srt (ltC c) (X1 ++ Y1) := by
          rcases Nat.eq_zero_or_pos X1.length with h | h
          · rw [List.length_eq_zero_iff.1 h]; exact sy1
          · rw [List.length_eq_zero_iff.1 (show Y1.length = 0 by omega), List.append_nil]; exact sx1
        have hq1 := hq (X1 ++ Y1) ⟨List.length_append, hS, Stab.refl _⟩
        simp only [List.append_assoc] at hq1 ⊢
        exact hq1
    obtain ⟨z1, z2, z3⟩ := hS1
    have fin : ∀ S2, S2.length = X2.length + Y2.length → Srt (ltC c) S2 → Stab (ltC c) (X2 ++ Y2) S2 → E B (sls enc T sz v (P ++ (S1 ++ (S2 ++ Q))) :: (C ++ H)) (K (.tuple #[])) := fun S2 w1 w2 w3 => by
      obtain ⟨m1, m2⟩ := merge_ok hw hX hY c1 c2 z2 w2 z3 w3
      have := h (S1 ++ S2) (by rw [List.length_append]; omega) m1 m2
      rw [List.append_assoc] at this
      exact this
    refine E_fa fun _ => ?_
    refine E_join1 [v, J b, cv, J (a + g : Nat), J (m + (g - i) : Nat), .bool (decide (((a + g : Nat) : Int) < ((m + (g - i) : Nat) : Int)) && decide (((m + (g - i) : Nat) : Int) < (b : Int)))] (sls enc T sz v (P ++ (S1 ++ (X2 ++ (Y2 ++ Q)))) :: (C ++ H)) (fun k hk => ?_) ?_
    · (repeat first | refine gS ?_ | refine gY ?_ | refine gA fun _ => ?_ | refine gX fun _ _ => ?_ | refine gI ?_)
      exact hk
    refine E_fa fun _ => ?_
    refine E_ifb' (p := 1 ≤ X2.length ∧ 1 ≤ Y2.length) (by simp; omega) (fun e => ?_) (fun e => ?_)
    · refine hsym _ _ _ _ _ _ _ ?_
      rw [← List.append_assoc P]
      refine symC_ok hw hc hsw hrot hsym n (P := P ++ S1) (X := X2) (Y := Y2) (Q := Q) (by omega) e.1 e.2 (by simp only [List.length_append]; omega) (by rw [List.length_append]; omega) (by omega) (by omega) sx2 sy2 fun S' w1 w2 w3 => ?_
      rw [List.append_assoc]
      exact fin S' w1 w2 w3
    · have hS : Srt (ltC c) (X2 ++ Y2) := by
        rcases Nat.eq_zero_or_pos X2.length with h | h
        · rw [List.length_eq_zero_iff.1 h]; exact sy2
        · rw [List.length_eq_zero_iff.1 (show Y2.length = 0 by omega), List.append_nil]; exact sx2
      have := fin (X2 ++ Y2) List.length_append hS (Stab.refl _)
      simp only [List.append_assoc] at this ⊢
      exact this
end Go.SL.Stb
end
section
namespace Go.SL.Stb
open Go Go.SL
variable {B : World} {H : List Asrt} {K : Value → WT} {W : WT} {α : Type} {enc : α → List Value} {sz : Nat}
noncomputable def stC [Amb] (P : Program) (ins sym : Nat) (data_0 n_1 cmp_2 : Value) (K : Value → WT) : WT :=
 S.loop 6 (fun K0 => fun data_0' n_1' cmp_2' blockSize_6 a_7 b_8 => S.fa fun _ =>
 S.bin .leq b_8 n_1' fun v13 =>
 S.cond v13 (
 CF P ins [data_0', a_7, b_8, cmp_2'] fun v18 =>
 S.bin .add b_8 blockSize_6 fun v22 =>
 K0 data_0' n_1' cmp_2' blockSize_6 b_8 v22) (
 CF P ins [data_0', a_7, n_1', cmp_2'] fun v27 =>
 S.loop 4 (fun K1 => fun data_0'2 n_1'2 cmp_2'2 blockSize_6' => S.fa fun _ =>
 S.bin .lss blockSize_6' n_1'2 fun v30 =>
 S.cond v30 (
 S.bin .mul (SL.I 2) blockSize_6' fun v32 =>
 S.loop 6 (fun K2 => fun data_0'3 n_1'3 cmp_2'3 blockSize_6'2 a_7' b_8' => S.fa fun _ =>
 S.bin .leq b_8' n_1'3 fun v35 =>
 S.cond v35 (
 S.bin .add a_7' blockSize_6'2 fun v40 =>
 CF P sym [data_0'3, a_7', v40, b_8', cmp_2'3] fun v43 =>
 S.bin .mul (SL.I 2) blockSize_6'2 fun v47 =>
 S.bin .add b_8' v47 fun v48 =>
 K2 data_0'3 n_1'3 cmp_2'3 blockSize_6'2 b_8' v48) (
 S.join 4 (fun K3 =>
 S.bin .add a_7' blockSize_6'2 fun v51 =>
 S.bin .lss v51 n_1'3 fun v54 =>
 S.cond v54 (
 CF P sym [data_0'3, a_7', v51, n_1'3, cmp_2'3] fun v60 =>
 K3 data_0'3 n_1'3 cmp_2'3 blockSize_6'2) (
 K3 data_0'3 n_1'3 cmp_2'3 blockSize_6'2))
 <| fun data_0'4 n_1'4 cmp_2'4 blockSize_6'3 => S.fa fun _ =>
 S.bin .mul blockSize_6'3 (SL.I 2) fun v62 =>
 K1 data_0'4 n_1'4 cmp_2'4 v62))
 [data_0'2, n_1'2, cmp_2'2, blockSize_6', (SL.I 0), v32]) (
 K (.tuple #[])))
 [data_0', n_1', cmp_2', blockSize_6]))
 [data_0, n_1, cmp_2, (SL.I 20), (SL.I 0), (SL.I 20)]
def Bks (lt : α → α → Bool) (bs : Nat) (L : List (List α)) : Prop := ∀ S ∈ L, S.length = bs ∧ Srt lt S
theorem Bks.len {lt : α → α → Bool} {bs : Nat} : ∀ {L : List (List α)}, Bks lt bs L → L.flatten.length = bs * L.length
  | [], _ => by simp
  | S :: L, h => by
    rw [List.flatten_cons, List.length_append, (h S (by simp)).1, Bks.len (L := L) fun T hT => h T (List.mem_cons_of_mem _ hT), List.length_cons, Nat.mul_add]; omega
theorem Bks.snoc {lt : α → α → Bool} {bs : Nat} {L : List (List α)} {S : List α} (h : Bks lt bs L) (h1 : S.length = bs) (h2 : Srt lt S) : Bks lt bs (L ++ [S]) := fun T hT => by
  rcases List.mem_append.1 hT with hT | hT
  · exact h T hT
  · simp only [List.mem_singleton] at hT
    subst hT; exact ⟨h1, h2⟩
theorem stC_ok [hE : Enc enc sz] [hA : EncA enc sz] {Pr : Program} {sw rot sym ins T : Nat} {v cv : Value} {C : List Asrt} {c : α → α → Int} {l : List α} (hw : SW (ltC c)) (hc : CmpOk Pr B C cv enc c)
    (hsw : ∀ (d x y n c : Value) (K' : Value → WT) (H' : List Asrt), E B H' (swC sz d x y n K') → E B H' (CF Pr sw [d, x, y, n, c] K'))
    (hrot : ∀ (d x y z c : Value) (K' : Value → WT) (H' : List Asrt), E B H' (rotC Pr sw d x y z c K') → E B H' (CF Pr rot [d, x, y, z, c] K'))
    (hsym : ∀ (d x y z c : Value) (K' : Value → WT) (H' : List Asrt), E B H' (symC Pr sz rot sym d x y z c K') → E B H' (CF Pr sym [d, x, y, z, c] K'))
    (hins : ∀ (d x y c : Value) (K' : Value → WT) (H' : List Asrt), E B H' (insC Pr sz d x y c K') → E B H' (CF Pr ins [d, x, y, c] K'))
    (hln : l.length ≤ 140737488355328)
    (h : ∀ l', l'.length = l.length → Srt (ltC c) l' → Stab (ltC c) l l' → E B (sls enc T sz v l' :: (C ++ H)) (K (.tuple #[]))) : E B (sls enc T sz v l :: (C ++ H)) (stC Pr ins sym v (J l.length) cv K) := by
  obtain ⟨n, hn⟩ : ∃ n, l.length = n := ⟨_, rfl⟩
  rw [hn] at hln ⊢
  unfold stC
  refine E_loop (n := 6) (σ := List (List α) × List α) (fun s => Bks (ltC c) 20 s.1 ∧ s.1.flatten.length + s.2.length = n ∧ Stab (ltC c) l (s.1.flatten ++ s.2)) (fun s => [v, J n, cv, J 20, J s.1.flatten.length, J (s.1.flatten.length + 20 : Nat)]) (fun s => sls enc T sz v (s.1.flatten ++ s.2) :: (C ++ H)) (fun s => s.2.length) ([], l) (fun _ => rfl) rfl ⟨fun S hS => (by cases hS), by simpa using hn, Stab.refl _⟩ (fun W hW => hW) ?_
  rintro ⟨L, R⟩ K0 ⟨hL, hlen, hst⟩ hk
  simp only at hL hlen hst hk ⊢
  refine E_fa fun _ => ?_
  refine E_leq ?_
  refine E_if (fun hle => ?_) (fun hle => ?_)
  · obtain ⟨S, R', rfl, hS⟩ : ∃ S R', R = S ++ R' ∧ S.length = 20 := ⟨R.take 20, R.drop 20, (List.take_append_drop ..).symm, by rw [List.length_take]; omega⟩
    refine hins _ _ _ _ _ _ ?_
    have lR : (S ++ R').length = S.length + R'.length := List.length_append
    refine insC_ok (P := L.flatten) (Sg := S) (Q := R') hw hc (by simp only [List.length_append]; omega) rfl (by omega) fun S' h1 h2 h3 => ?_
    refine E_addI (by omega) (by omega) ?_
    have hk1 := hk (L ++ [S'], R') ⟨hL.snoc (by omega) h2, by simp only [List.flatten_append, List.flatten_cons, List.flatten_nil, List.append_nil, List.length_append]; omega, by
      refine hst.trans ?_
      have := (Stab.refl (lt := ltC c) L.flatten).app (h3.app (Stab.refl R'))
      simpa [List.append_assoc] using this⟩ (by simp; omega)
    simp only [List.flatten_append, List.flatten_cons, List.flatten_nil, List.append_nil, List.length_append, List.append_assoc, h1, hS] at hk1
    rw [show ((L.flatten.length + 20 : Nat) : Int) + 20 = ((L.flatten.length + 20 + 20 : Nat) : Int) by omega]
    exact hk1
  clear hk
  refine hins _ _ _ _ _ _ ?_
  have e0 : L.flatten ++ R = L.flatten ++ (R ++ []) := by simp
  rw [e0]
  refine insC_ok (P := L.flatten) (Sg := R) (Q := []) hw hc (by simp only [List.length_append, List.length_nil]; omega) rfl (by omega) fun R1 h1 h2 h3 => ?_
  rw [List.append_nil]
  refine E_loop (n := 4) (σ := Nat × List (List α) × List α) (fun s => 1 ≤ s.1 ∧ s.1 ≤ 2 * n + 20 ∧ Bks (ltC c) s.1 s.2.1 ∧ s.2.1.flatten.length + s.2.2.length = n ∧ s.2.2.length < s.1 ∧ Srt (ltC c) s.2.2 ∧ Stab (ltC c) l (s.2.1.flatten ++ s.2.2)) (fun s => [v, J n, cv, J s.1]) (fun s => sls enc T sz v (s.2.1.flatten ++ s.2.2) :: (C ++ H)) (fun s => n - s.1) (20, L, R1) (fun _ => rfl) rfl
    ⟨by simp only; omega, by simp only; omega, hL, by simp only; omega, by simp only; omega, h2, hst.trans ((Stab.refl _).app h3)⟩ (fun W hW => hW) ?_
  clear hst h2 h3 h1 hL hlen hle e0
  clear L R R1
  rintro ⟨bs, L, R⟩ K0 ⟨hb1, hb2, hL, hlen, hR, hs, hst⟩ hk
  simp only at hb1 hb2 hL hlen hR hs hst hk ⊢
  have hLl := hL.len
  refine E_fa fun _ => ?_
  refine E_lss ?_
  refine E_if (fun hlt => ?_) (fun hlt => ?_)
  · refine E_mulI (by omega) (by omega) ?_
    refine E_loop (n := 6) (σ := List (List α) × List (List α)) (fun s => Bks (ltC c) (2 * bs) s.1 ∧ Bks (ltC c) bs s.2 ∧ s.1.flatten.length + (s.2.flatten.length + R.length) = n ∧ Stab (ltC c) l (s.1.flatten ++ (s.2.flatten ++ R))) (fun s => [v, J n, cv, J bs, J s.1.flatten.length, J (s.1.flatten.length + 2 * bs : Nat)]) (fun s => sls enc T sz v (s.1.flatten ++ (s.2.flatten ++ R)) :: (C ++ H)) (fun s => s.2.length) ([], L) (fun _ => rfl) (by simp) ⟨fun S hS => (by cases hS), hL, by simpa using hlen, hst⟩ (fun W hW => hW) ?_
    rintro ⟨D, L2⟩ K1 ⟨hD, hL2, hlen2, hst2⟩ hk1
    simp only at hD hL2 hlen2 hst2 hk1 ⊢
    have hL2l := hL2.len
    refine E_fa fun _ => ?_
    refine E_leq ?_
    match L2, hL2, hlen2, hst2, hk1, hL2l with
    | S1 :: S2 :: L3, hL2, hlen2, hst2, hk1, hL2l =>
      obtain ⟨a1, b1⟩ := hL2 S1 (by simp)
      obtain ⟨a2, b2⟩ := hL2 S2 (by simp)
      have lf : (S1 :: S2 :: L3).flatten = S1 ++ (S2 ++ L3.flatten) := by simp
      rw [lf] at hlen2 hst2 ⊢
      simp only [List.length_append] at hlen2
      refine E_ifT (by omega) ?_
      refine E_addI (by omega) (by omega) ?_
      refine hsym _ _ _ _ _ _ _ ?_
      rw [show (D.flatten.length : Int) + bs = ((D.flatten.length + bs : Nat) : Int) by omega]
      have e1 : D.flatten ++ (S1 ++ (S2 ++ L3.flatten) ++ R) = D.flatten ++ (S1 ++ (S2 ++ (L3.flatten ++ R))) := by simp
      rw [e1]
      refine symC_ok hw hc hsw hrot hsym _ (P := D.flatten) (X := S1) (Y := S2) (Q := L3.flatten ++ R) (Nat.le_refl _) (by omega) (by omega) (by simp only [List.length_append]; omega) rfl (by omega) (by omega) b1 b2 fun S' h1 h2 h3 => ?_
      refine E_mulI (by omega) (by omega) ?_
      refine E_addI (by omega) (by omega) ?_
      have hk2 := hk1 (D ++ [S'], L3) ⟨hD.snoc (by omega) h2, fun S hS => hL2 S (by simp [hS]), by simp only [List.flatten_append, List.flatten_cons, List.flatten_nil, List.append_nil, List.length_append]; omega, by
        refine hst2.trans ?_
        have := (Stab.refl (lt := ltC c) D.flatten).app (h3.app (Stab.refl (L3.flatten ++ R)))
        simpa [List.append_assoc] using this⟩ (by simp; omega)
      simp only [List.flatten_append, List.flatten_cons, List.flatten_nil, List.append_nil, List.length_append, List.append_assoc, h1, a1, a2] at hk2
      rw [show ((D.flatten.length + 2 * bs : Nat) : Int) + 2 * (bs : Int) = ((D.flatten.length + (bs + bs) + 2 * bs : Nat) : Int) by omega, show D.flatten.length + 2 * bs = D.flatten.length + (bs + bs) by omega]
      exact hk2
    | [S1], hL2, hlen2, hst2, hk1, hL2l =>
      obtain ⟨a1, b1⟩ := hL2 S1 (by simp)
      have lf : [S1].flatten = S1 := by simp
      rw [lf] at hlen2 hst2 ⊢
      refine E_ifF (by omega) ?_
      refine E_joinC (σ := List α) (fun S' => S'.length = bs + R.length ∧ Srt (ltC c) S' ∧ Stab (ltC c) (S1 ++ R) S') (fun _ => [v, J n, cv, J bs]) (fun S' => sls enc T sz v (D.flatten ++ S') :: (C ++ H)) (fun q hq => ?_) (fun S' hS' => ?_)
      · refine E_addI (by omega) (by omega) ?_
        refine E_lss ?_
        refine E_if (fun hm => ?_) (fun hm => ?_)
        · refine hsym _ _ _ _ _ _ _ ?_
          rw [show (D.flatten.length : Int) + bs = ((D.flatten.length + bs : Nat) : Int) by omega]
          have e1 : D.flatten ++ (S1 ++ R) = D.flatten ++ (S1 ++ (R ++ [])) := by simp
          rw [e1]
          refine symC_ok hw hc hsw hrot hsym _ (P := D.flatten) (X := S1) (Y := R) (Q := []) (Nat.le_refl _) (by omega) (by omega) (by simp only [List.length_append, List.length_nil]; omega) rfl (by omega) (by omega) b1 hs fun S' h1 h2 h3 => ?_
          rw [List.append_nil]
          exact hq S' ⟨by omega, h2, h3⟩
        · have hR0 : R = [] := List.length_eq_zero_iff.1 (by omega)
          subst hR0
          rw [List.append_nil] at hst2 ⊢
          exact hq S1 ⟨by simp [a1], b1, by rw [List.append_nil]; exact Stab.refl _⟩
      · obtain ⟨h1, h2, h3⟩ := hS'
        refine E_fa fun _ => ?_
        refine E_mulI (by omega) (by omega) ?_
        rw [show (bs : Int) * 2 = ((2 * bs : Nat) : Int) by omega]
        exact hk (2 * bs, D, S') ⟨by simp only; omega, by simp only; omega, hD, by simp only; omega, by simp only; omega, h2, hst2.trans ((Stab.refl _).app h3)⟩ (by simp only; omega)
    | [], hL2, hlen2, hst2, hk1, hL2l =>
      have lf : ([] : List (List α)).flatten = [] := rfl
      rw [lf] at hlen2 hst2 ⊢
      simp only [List.length_nil, List.nil_append] at hlen2 hst2 ⊢
      refine E_ifF (by omega) ?_
      refine E_join1 [v, J n, cv, J bs] (sls enc T sz v (D.flatten ++ R) :: (C ++ H)) (fun q hq => ?_) ?_
      · refine E_addI (by omega) (by omega) ?_
        refine E_lss ?_
        refine E_ifF (by omega) ?_
        exact hq
      · refine E_fa fun _ => ?_
        refine E_mulI (by omega) (by omega) ?_
        rw [show (bs : Int) * 2 = ((2 * bs : Nat) : Int) by omega]
        exact hk (2 * bs, D, R) ⟨by simp only; omega, by simp only; omega, hD, by simp only; omega, by simp only; omega, hs, hst2⟩ (by simp only; omega)
  · match L, hL, hlen, hst, hLl with
    | [], hL, hlen, hst, hLl => exact h R (by simpa [hn] using hlen) hs (by simpa using hst)
    | [S], hL, hlen, hst, hLl =>
      obtain ⟨a1, b1⟩ := hL S (by simp)
      have hR0 : R = [] := List.length_eq_zero_iff.1 (by simp [a1] at hlen; omega)
      subst hR0
      have := h S (by simp at hlen; omega) b1 (by simpa using hst)
      simpa using this
    | S1 :: S2 :: L3, hL, hlen, hst, hLl =>
      exfalso
      obtain ⟨a1, b1⟩ := hL S1 (by simp)
      obtain ⟨a2, b2⟩ := hL S2 (by simp)
      simp [a1, a2] at hlen
      omega
end Go.SL.Stb
end
section
namespace Go.SL.Stb
open Go Go.SL
variable {α : Type} {lt : α → α → Bool}
def keepAt (e : α → α → Bool) (l : List α) (j : Nat) : Bool := match j with
  | 0 => true
  | j + 1 => match l[j + 1]?, l[j]? with
    | some x, some y => !e x y
    | _, _ => true
def cmpG (e : α → α → Bool) (l : List α) : Nat → List α
  | 0 => []
  | j + 1 => if keepAt e l j then cmpG e l j ++ (l[j]?).toList else cmpG e l j
def compactG (e : α → α → Bool) (l : List α) : List α := cmpG e l l.length
theorem keepAt_of {e : α → α → Bool} {l : List α} {j : Nat} {x y : α} (hx : l[j + 1]? = some x) (hy : l[j]? = some y) : keepAt e l (j + 1) = !e x y := by
  unfold keepAt
  simp only [hx, hy]
theorem cmpG_suc {e : α → α → Bool} {l : List α} {j : Nat} {x : α} (hx : l[j]? = some x) : cmpG e l (j + 1) = if keepAt e l j then cmpG e l j ++ [x] else cmpG e l j := by
  conv => lhs; unfold cmpG
  rw [hx]; rfl
theorem cmpG_id {e : α → α → Bool} {l : List α} {j : Nat} (hj : j ≤ l.length) (h : ∀ i, i < j → keepAt e l i = true) : cmpG e l j = l.take j := by
  induction j with
  | zero => simp [cmpG]
  | succ j ih =>
    rw [cmpG_suc (List.getElem?_eq_getElem (show j < l.length by omega)), if_pos (h j (by omega)), ih (by omega) fun i hi => h i (by omega), List.take_add_one, List.getElem?_eq_getElem (show j < l.length by omega)]
    rfl
theorem alk_comm {a b : α} : alk lt a b = alk lt b a := by unfold alk; exact Bool.and_comm _ _
theorem cmpG_ok (hw : SW lt) {l : List α} (hs : Srt lt l) : ∀ j, j ≤ l.length → (cmpG (alk lt) l j).Pairwise (fun a b => lt a b = true) ∧ (∀ x ∈ cmpG (alk lt) l j, x ∈ l.take j ∧ (l.take j).find? (alk lt x) = some x) ∧ ∀ x ∈ l.take j, ∃ y ∈ cmpG (alk lt) l j, alk lt x y = true
  | 0, _ => ⟨by simp [cmpG], by simp [cmpG], by simp⟩
  | j + 1, hj => by
    obtain ⟨h1, h2, h3⟩ := cmpG_ok hw hs j (by omega)
    have hx : l[j]? = some l[j] := List.getElem?_eq_getElem (by omega)
    generalize hxe : l[j] = x at hx
    have htk : l.take (j + 1) = l.take j ++ [x] := by rw [List.take_add_one, hx]; rfl
    rw [cmpG_suc hx, htk]
    have hold : ∀ y ∈ cmpG (alk lt) l j, y ∈ l.take j ++ [x] ∧ (l.take j ++ [x]).find? (alk lt y) = some y := fun y hy => ⟨List.mem_append_left _ (h2 y hy).1, by
      rw [List.find?_append, (h2 y hy).2]; rfl⟩
    have hold3 : ∀ z ∈ l.take j, ∃ y ∈ cmpG (alk lt) l j ++ [x], alk lt z y = true := fun z hz => by
      obtain ⟨y, hy, e⟩ := h3 z hz
      exact ⟨y, List.mem_append_left _ hy, e⟩
    cases hk : keepAt (alk lt) l j with
    | true =>
      rw [if_pos rfl]
      have hlt : ∀ z ∈ l.take j, lt z x = true := fun z hz => by
        obtain ⟨i, hi, ez⟩ := List.mem_take_iff_getElem.1 hz
        obtain ⟨m, rfl⟩ : ∃ m, j = m + 1 := ⟨j - 1, by omega⟩
        have hy : l[m]? = some l[m] := List.getElem?_eq_getElem (by omega)
        generalize hye : l[m] = y at hy
        rw [keepAt_of hx hy] at hk
        have hxy : lt x y = false := by
          have := List.pairwise_iff_getElem.1 hs m (m + 1) (by omega) (by omega) (by omega)
          rw [hxe, hye] at this; exact this
        have hyx : lt y x = true := by
          have hna : ¬ alk lt x y = true := by rw [Bool.not_eq_true'] at hk; rw [hk]; simp
          cases hyx : lt y x with
          | true => rfl
          | false => exact (hna (alk_iff.2 ⟨hxy, hyx⟩)).elim
        have hyz : lt y z = false := by
          rcases Nat.lt_or_ge i m with h | h
          · have := List.pairwise_iff_getElem.1 hs i m (by omega) (by omega) h
            rw [ez, hye] at this; exact this
          · have : i = m := by omega
            subst this
            have : z = y := by rw [← ez, ← hye]
            rw [this]; exact hw.irr y
        cases hzx : lt z x with
        | true => rfl
        | false => rw [hw.ntr y z x hyz hzx] at hyx; cases hyx
      refine ⟨List.pairwise_append.2 ⟨h1, List.pairwise_singleton .., fun a ha b hb => ?_⟩, fun y hy => ?_, fun z hz => ?_⟩
      · simp only [List.mem_singleton] at hb
        subst hb
        exact hlt a (h2 a ha).1
      · rcases List.mem_append.1 hy with hy | hy
        · exact hold y hy
        · simp only [List.mem_singleton] at hy
          subst hy
          refine ⟨by simp, ?_⟩
          rw [List.find?_append, List.find?_eq_none.2 fun z hz => by
            have := hlt z hz
            unfold alk
            rw [this]; simp]
          simp [List.find?_cons, hw.alk_self y]
      · rcases List.mem_append.1 hz with hz | hz
        · exact hold3 z hz
        · simp only [List.mem_singleton] at hz
          subst hz
          exact ⟨z, by simp, hw.alk_self z⟩
    | false =>
      rw [if_neg (by simp)]
      refine ⟨h1, hold, fun z hz => ?_⟩
      rcases List.mem_append.1 hz with hz | hz
      · exact h3 z hz
      · simp only [List.mem_singleton] at hz
        subst hz
        obtain ⟨m, rfl⟩ : ∃ m, j = m + 1 := by
          cases j with
          | zero => cases hk
          | succ m => exact ⟨m, rfl⟩
        have hy : l[m]? = some l[m] := List.getElem?_eq_getElem (by omega)
        have hym : l[m] ∈ l.take (m + 1) := List.mem_take_iff_getElem.2 ⟨m, by omega, rfl⟩
        generalize hye : l[m] = y at hy hym
        rw [keepAt_of hx hy] at hk
        have hxy : alk lt z y = true := by simpa using hk
        obtain ⟨u, hu, e⟩ := h3 y hym
        exact ⟨u, hu, hw.alk_tr (by rw [alk_comm]; exact hxy) e⟩
theorem find_filter {α : Type} (p : α → Bool) (l : List α) : l.find? p = (l.filter p).head? := by rw [List.head?_filter]
theorem compact_ok (hw : SW lt) {l l' : List α} (hs : Srt lt l') (ht : Stab lt l l') : (compactG (alk lt) l').Pairwise (fun a b => lt a b = true) ∧ (∀ x ∈ compactG (alk lt) l', x ∈ l ∧ l.find? (alk lt x) = some x) ∧ ∀ x ∈ l, ∃ y ∈ compactG (alk lt) l', alk lt x y = true := by
  obtain ⟨h1, h2, h3⟩ := cmpG_ok hw hs l'.length (Nat.le_refl _)
  rw [List.take_length] at h2 h3
  refine ⟨h1, fun x hx => ?_, fun x hx => h3 x ((ht.mem hw).2 hx)⟩
  obtain ⟨e1, e2⟩ := h2 x hx
  refine ⟨(ht.mem hw).1 e1, ?_⟩
  rw [find_filter] at e2 ⊢
  rw [← ht x]; exact e2
end Go.SL.Stb
end
section
namespace Go.SL.Stb
open Go Go.SL
variable {B : World} {H : List Asrt} {K : Value → WT} {W : WT} {α : Type} {enc : α → List Value} {sz : Nat}
noncomputable def cptC [Amb] (P : Program) (sz : Nat) (t : TypeId) (v0 v1 : Value) (K : Value → WT) : WT :=
 S.len v0 fun v9 =>
 S.bin .lss v9 (SL.I 2) fun v10 =>
 S.cond v10 (
 K v0) (
 S.loop 3 (fun K0 => fun v0' v1' v5 => S.fa fun _ =>
 S.len v0' fun v14 =>
 S.bin .lss v5 v14 fun v15 =>
 S.cond v15 (
 S.dr <|
 S.ixS sz v0' v5 fun v21 =>
 S.ldN sz v21 fun v22 =>
 S.bin .sub v5 (SL.I 1) fun v25 =>
 S.ixS sz v0' v25 fun v26 =>
 S.ldN sz v26 fun v27 =>
 S.cvv P v1' [v22, v27] fun v28 =>
 S.cond v28 (
 S.slc sz v0' (some v5) none none fun v31 =>
 S.loop 5 (fun K1 => fun v0'2 v1'2 v5' v6 v7 => S.fa fun _ =>
 S.len v6 fun v34 =>
 S.bin .lss v7 v34 fun v35 =>
 S.cond v35 (
 S.join 5 (fun K2 =>
 S.dr <|
 S.ixS sz v6 v7 fun v41 =>
 S.ldN sz v41 fun v42 =>
 S.bin .sub v7 (SL.I 1) fun v45 =>
 S.ixS sz v6 v45 fun v46 =>
 S.ldN sz v46 fun v47 =>
 S.cvv P v1'2 [v42, v47] fun v48 =>
 S.not1 v48 fun v49 =>
 S.cond v49 (
 S.ixS sz v6 v7 fun v54 =>
 S.ldN sz v54 fun v55 =>
 S.ixS sz v0'2 v5' fun v56 =>
 S.st sz v56 v55 fun _ =>
 S.bin .add v5' (SL.I 1) fun v58 =>
 K2 v0'2 v1'2 v58 v6 v7) (
 K2 v0'2 v1'2 v5' v6 v7))
 <| fun v0'3 v1'3 v5'2 v6' v7' => S.fa fun _ =>
 S.bin .add v7' (SL.I 1) fun v37 =>
 K1 v0'3 v1'3 v5'2 v6' v37) (
 S.slc sz v0'2 (some v5') none none fun v61 =>
 V P (Builtin.clear_ #[t] 0 #[v61]) fun _ =>
 S.slc sz v0'2 none (some v5') none fun v64 =>
 K v64))
 [v0', v1', v5, v31, (SL.I 1)]) (
 S.bin .add v5 (SL.I 1) fun v17 =>
 K0 v0' v1' v17)) (
 K v0'))
 [v0, v1, (SL.I 1)])
def AskOk (P : Program) (B : World) (C : List Asrt) (cv : Value) (enc : α → List Value) (e : α → α → Bool) : Prop := ∀ (x y : α) (H : List Asrt) (K : Value → WT), E B (C ++ H) (K (.bool (e x y))) → E B (C ++ H) (S.cvv P cv [.agg (enc x).toArray, .agg (enc y).toArray] K)
theorem ask_use {P : Program} {C : List Asrt} {cv : Value} {e : α → α → Bool} (hc : AskOk P B C cv enc e) {x y : α} {a : Asrt} (h : E B (a :: (C ++ H)) (K (.bool (e x y)))) : E B (a :: (C ++ H)) (S.cvv P cv [.agg (enc x).toArray, .agg (enc y).toArray] K) :=
  E_perm List.perm_middle.symm (hc x y (a :: H) K (E_perm List.perm_middle h))
theorem E_tail [hE : Enc enc sz] {T : Nat} {v : Value} {l : List α} {k : Nat} {lo : Option Value} (hlo : S.bound lo 0 = some k) (hk : k < l.length)
    (h : ∀ v' [CellI v'], (∀ (H' : List Asrt) (m : List α), m.length = l.length → Rs B (sls enc T sz v m :: H') v' enc (m.drop k)) → E B (sls enc T sz v l :: H) (K v')) : E B (sls enc T sz v l :: H) (S.slc sz v lo none none K) := by
  refine E_oslo (by omega) fun b cap spare hv hle hxl hsl => ?_
  subst hv
  refine E_slc (l := k) (hh := l.length) (m := cap) rfl rfl hlo (by omega) (by omega) (by omega) (fun h => by cases h) ?_
  rw [if_neg (by omega)]
  refine E_osls (n := l.length) (cap := cap) (sz := sz) hle (by rw [enc_length]) hsl ?_
  have hc : CellI (.slice (some ⟨b, 0 + k * sz, none⟩) (l.length - k) (cap - k)) := ⟨rfl⟩
  refine h _ fun H' m hm => ⟨fun {w} hw => ?_⟩
  refine .inr ⟨⟨b, 0 + k * sz, none⟩, cap - k, by rw [List.length_drop, hm], by rw [List.length_drop, hm]; omega, fun j hj => ?_⟩
  have h2 : Rs B (sls enc T sz (.slice (some ⟨b, 0, none⟩) l.length cap) m :: H') (.slice (some ⟨b, 0, none⟩) l.length cap) enc m := rs_sls
  rcases h2.pf hw with ⟨h0, _⟩ | ⟨a, cap', hv, _, hcl⟩
  · cases h0
  · injection hv with q1 q2 q3
    injection q1 with q1
    subst q1
    rw [enc_length, List.length_drop] at hj
    have e1 : k * sz + (m.length - k) * sz = m.length * sz := by rw [← Nat.add_mul]; congr 1; omega
    have := hcl (k * sz + j) (by rw [enc_length]; omega)
    rw [← enc_drop, List.getElem?_drop, ← this]
    rw [show (⟨b, 0 + k * sz, none⟩ : Addr) = (⟨b, 0, none⟩ : Addr).add (k * sz) by
      unfold Addr.add
      split
      · rename_i h0; rw [h0]
      · rfl, addAdd]
theorem cptC_ok [hE : Enc enc sz] [hA : EncA enc sz] {Pr : Program} {T t by_ : Nat} {z : List Value} {v cv : Value} {C : List Asrt} {e : α → α → Bool} {l : List α} (hc : AskOk Pr B C cv enc e) (hu : Pr.underlying t = some (.slice T)) (he : Elt Pr T sz by_ z) (hz : ∀ y ∈ z, isCell y = true) (hzl : z.length = sz)
    (hln : l.length ≤ 140737488355328) (h : ∀ v' [CellI v'], E B (sls enc T sz v' (compactG e l) :: (C ++ H)) (K v')) : E B (sls enc T sz v l :: (C ++ H)) (cptC Pr sz t v cv K) := by
  have i1 := hA.at_
  have i2 := hA.ce
  unfold cptC
  refine rs_cell (v := v) fun hcv => ?_
  have icv : CellI v := ⟨hcv⟩
  refine E_rslen (v := v) ?_
  refine E_lss ?_
  refine E_if (fun hlt => ?_) (fun hlt => ?_)
  · have e1 : compactG e l = l := by
      unfold compactG
      rw [cmpG_id (Nat.le_refl _) (fun i hi => by
        cases i with
        | zero => rfl
        | succ i => omega), List.take_length]
    rw [← e1]; exact h v
  have hn2 : 2 ≤ l.length := by omega
  refine E_loop (n := 3) (σ := Nat) (fun k => 1 ≤ k ∧ k ≤ l.length ∧ ∀ i, i < k → keepAt e l i = true) (fun k => [v, cv, J k]) (fun _ => sls enc T sz v l :: (C ++ H)) (fun k => l.length - k) 1 (fun _ => rfl) rfl
    ⟨by omega, by omega, fun i h1 => by
      have : i = 0 := by omega
      subst this; rfl⟩ (fun W hW => hW) ?_
  intro k K0 ⟨hk1, hkl, hne⟩ hk
  refine E_fa fun _ => ?_
  refine E_rslen (v := v) ?_
  refine E_lss ?_
  refine E_if (fun hlt2 => ?_) (fun hlt2 => ?_)
  · have hkl' : k < l.length := by omega
    obtain ⟨p, rfl⟩ : ∃ p, k = p + 1 := ⟨k - 1, by omega⟩
    have hx : l[p + 1]? = some l[p + 1] := List.getElem?_eq_getElem (by omega)
    have hy : l[p]? = some l[p] := List.getElem?_eq_getElem (by omega)
    generalize l[p + 1] = x at hx
    generalize l[p] = y at hy
    have hka := keepAt_of (e := e) hx hy
    refine E_dr ?_
    refine E_rsix (v := v) hx fun _ _ => ?_
    refine E_ptldA ?_
    refine E_subI (by omega) (by omega) ?_
    rw [show ((p + 1 : Nat) : Int) - 1 = (p : Int) by omega]
    refine E_rsix (v := v) hy fun _ _ => ?_
    refine E_ptldA ?_
    refine ask_use hc ?_
    cases hxy : e x y with
    | false =>
      refine E_ff ?_
      refine E_addI (by omega) (by omega) ?_
      rw [show ((p + 1 : Nat) : Int) + 1 = ((p + 1 + 1 : Nat) : Int) by omega]
      exact hk (p + 1 + 1) ⟨by omega, by omega, fun i hi => by
        by_cases hip : i = p + 1
        · subst hip; rw [hka, hxy]; rfl
        · exact hne i (by omega)⟩ (by omega)
    | true =>
      refine E_tt ?_
      have hc0 : cmpG e l (p + 1) = l.take (p + 1) := cmpG_id (by omega) hne
      have hc1 : cmpG e l (p + 1 + 1) = l.take (p + 1) := by
        rw [cmpG_suc hx, hka, hxy, if_neg (by simp), hc0]
      have hcl1 : (cmpG e l (p + 1 + 1)).length = p + 1 := by rw [hc1, List.length_take]; omega
      refine E_tail (k := p + 1) (by simp [S.bound]; rfl) hkl' fun w icw hrw => ?_
      refine E_loop (n := 5) (σ := Nat × List α) (fun s => 1 ≤ s.1 ∧ p + 1 + s.1 ≤ l.length ∧ s.2.length = l.length ∧ s.2.take (cmpG e l (p + 1 + s.1)).length = cmpG e l (p + 1 + s.1) ∧ (∀ i, p + 1 + s.1 ≤ i + 1 → s.2[i]? = l[i]?) ∧ (cmpG e l (p + 1 + s.1)).length < p + 1 + s.1)
        (fun s => [v, cv, J (cmpG e l (p + 1 + s.1)).length, w, J s.1]) (fun s => sls enc T sz v s.2 :: (C ++ H)) (fun s => l.length - s.1) (1, l) (fun _ => rfl)
        (by simp only [hcl1]; rfl) ⟨by omega, by simp only; omega, rfl, by simp only [hc1, List.length_take, Nat.min_eq_left hkl], fun _ _ => rfl, by simp only [hcl1]; omega⟩ (fun W hW => hW) ?_
      rintro ⟨j, m⟩ K1 ⟨hj1, hjl, hm, htk, hfar, hlt3⟩ hk2
      simp only at hj1 hjl hm htk hfar hlt3 hk2 ⊢
      have irw := hrw (C ++ H) m hm
      generalize hq : (cmpG e l (p + 1 + j)).length = q at htk hlt3
      refine E_fa fun _ => ?_
      refine E_rslen (v := w) ?_
      refine E_lss ?_
      rw [List.length_drop]
      refine E_if (fun hlt4 => ?_) (fun hlt4 => ?_)
      · have hjl' : p + 1 + j < l.length := by omega
        obtain ⟨i, rfl⟩ : ∃ i, j = i + 1 := ⟨j - 1, by omega⟩
        have hx2 : l[p + 1 + i + 1]? = some l[p + 1 + i + 1] := List.getElem?_eq_getElem (by omega)
        have hy2 : l[p + 1 + i]? = some l[p + 1 + i] := List.getElem?_eq_getElem (by omega)
        generalize l[p + 1 + i + 1] = x2 at hx2
        generalize l[p + 1 + i] = y2 at hy2
        have b1 : (m.drop (p + 1))[i + 1]? = some x2 := by rw [List.getElem?_drop, ← hx2]; exact hfar _ (by omega)
        have b2 : (m.drop (p + 1))[i]? = some y2 := by rw [List.getElem?_drop, ← hy2]; exact hfar _ (by omega)
        have hka2 := keepAt_of (e := e) hx2 hy2
        have es : cmpG e l (p + 1 + (i + 1 + 1)) = if e x2 y2 = true then cmpG e l (p + 1 + (i + 1)) else cmpG e l (p + 1 + (i + 1)) ++ [x2] := by
          show cmpG e l (p + 1 + i + 1 + 1) = _
          rw [cmpG_suc hx2, hka2]
          cases e x2 y2 <;> simp <;> rfl
        refine E_joinC (σ := List α) (fun m' => m'.length = l.length ∧ m'.take (cmpG e l (p + 1 + (i + 1 + 1))).length = cmpG e l (p + 1 + (i + 1 + 1)) ∧ (∀ u, p + 1 + (i + 1 + 1) ≤ u + 1 → m'[u]? = l[u]?) ∧ (cmpG e l (p + 1 + (i + 1 + 1))).length < p + 1 + (i + 1 + 1))
          (fun _ => [v, cv, J (cmpG e l (p + 1 + (i + 1 + 1))).length, w, J (i + 1 : Nat)]) (fun m' => sls enc T sz v m' :: (C ++ H)) (fun k3 hk3 => ?_) (fun m' hm' => ?_)
        · rw [es] at hk3
          refine E_dr ?_
          refine E_rsix (v := w) b1 fun _ _ => ?_
          refine E_ptldA ?_
          refine E_subI (by omega) (by omega) ?_
          rw [show ((i + 1 : Nat) : Int) - 1 = (i : Int) by omega]
          refine E_rsix (v := w) b2 fun _ _ => ?_
          refine E_ptldA ?_
          refine ask_use hc ?_
          refine E_notb ?_
          cases hxy2 : e x2 y2 with
          | true =>
            rw [hxy2, if_pos rfl, hq] at hk3
            refine E_ff ?_
            exact hk3 m ⟨hm, htk, fun u hu => hfar u (by omega), by omega⟩
          | false =>
            rw [hxy2, if_neg (by simp)] at hk3
            refine E_tt ?_
            refine E_rsix (v := w) b1 fun _ _ => ?_
            refine E_ptldA ?_
            refine E_sset x2 (by omega) rfl ?_
            refine E_addI (by omega) (by omega) ?_
            have hk4 := hk3 (m.set q x2) ⟨by simpa using hm, ?_, fun u hu => ?_, by rw [List.length_append, hq, List.length_singleton]; omega⟩
            · rw [List.length_append, hq, List.length_singleton] at hk4
              exact hk4
            · rw [List.length_append, hq, List.length_singleton, List.take_add_one, List.take_set_of_le (Nat.le_refl _), htk, List.getElem?_set_self (by omega)]
              rfl
            · rw [List.getElem?_set_ne (by omega)]; exact hfar u (by omega)
        · refine E_fa fun _ => ?_
          refine E_addI (by omega) (by omega) ?_
          exact hk2 (i + 1 + 1, m') ⟨by simp only; omega, by simp only; omega, hm'⟩ (by simp only; omega)
      · have hje : p + 1 + j = l.length := by omega
        rw [hje] at hq htk hlt3
        have hcl : cmpG e l l.length = compactG e l := rfl
        rw [hcl] at hq htk
        refine E_oslo (by omega) fun b cap spare hv hle hxl hsl => ?_
        subst hv
        refine E_slc (l := q) (hh := m.length) (m := cap) rfl rfl (by simp [S.bound]) (by omega) (by omega) (by omega) (fun h => by cases h) ?_
        rw [if_neg (by omega)]
        have hqs : q * sz + (m.length - q) * sz = m.length * sz := by rw [← Nat.add_mul]; congr 1; omega
        refine E_clear (t := t) rfl hu he hz (by omega) (by rw [List.length_append, enc_length]; omega) ?_
        refine E_slc (l := 0) (hh := q) (m := cap) rfl (by simp [S.bound]) rfl (by omega) (by omega) (by omega) (fun h => by cases h) ?_
        have e0 : (if cap = 0 then some (⟨b, 0, none⟩ : Addr) else some ⟨b, 0 + 0 * sz, none⟩) = some ⟨b, 0, none⟩ := by split <;> simp
        rw [e0]
        have h' := h (.slice (some ⟨b, 0, none⟩) q cap)
        have eb : setAll (m.flatMap enc ++ spare) (0 + q * sz) (rep (m.length - q) z) = (compactG e l).flatMap enc ++ (rep (m.length - q) z ++ spare) := by
          unfold setAll
          have e1 : (m.flatMap enc ++ spare).take (0 + q * sz) = (compactG e l).flatMap enc := by
            rw [Nat.zero_add, List.take_append_of_le_length (by rw [enc_length]; omega), enc_take, htk]
          have e2 : (m.flatMap enc ++ spare).drop (0 + q * sz + (rep (m.length - q) z).length) = spare := by
            rw [rep_length, hzl, Nat.zero_add, hqs, ← enc_length (enc := enc) m, List.drop_left]
          rw [e1, e2, List.append_assoc]
        rw [eb]
        refine E_osls (n := q) (cap := cap) (sz := sz) (by omega) (by rw [enc_length, hq]) (by
          rw [List.length_append, rep_length, hzl, hsl, ← Nat.add_mul]; congr 1; omega) ?_
        rw [Nat.sub_zero, Nat.sub_zero]
        rw [← hq] at h' ⊢
        exact h'
  · have : k = l.length := by omega
    subst this
    have e1 : compactG e l = l := by
      unfold compactG
      rw [cmpG_id (Nat.le_refl _) hne, List.take_length]
    have h' := h v
    rw [e1] at h'
    exact h'
end Go.SL.Stb
end
section
namespace Go.Proofs.YtjafpncngmbcdaaGreat.Nam
open Go Go.SL
variable {M : Bk} {f : Fa}
theorem checkF_drop {x : List UInt8 × Int} (hn : nameOk x.1 = true) (hg : 1 ≤ x.2 ∧ x.2 ≤ 9007199254740991) : checkF (dropF x) = 0 := by
  have hb : bareB (dropF x) = true := by simp [bareB, dropF, nPlace, nName, nGen, nTime]
  have hd : badB (dropF x) = false := by
    have h1 : ¬ x.2 < 1 := by omega
    have h2 : numB x.2 = true := numB_iff.2 ⟨by omega, hg.2⟩
    have h0 : numB 0 = true := by decide
    simp [badB, dropF, nPlace, nName, nGen, hn, h0, h1, h2]
  unfold checkF
  rw [if_neg (by rw [hb]; simp [dropF]), if_neg (by rw [hd]; simp), if_neg (by simp [dropF]), if_neg (by simp [dropF]), if_neg (by simp [dropF])]
theorem check_drop {x : List UInt8 × Int} (hn : nameOk x.1 = true) (hg : 1 ≤ x.2 ∧ x.2 ≤ 9007199254740991) (hl : liveB M.V x.1 x.2 = true) : checkB M (dropF x) = 0 :=
  checkB0.2 ⟨checkF_drop hn hg, fun e => (by cases e), fun e => (by cases e), fun _ => hl, fun e => (by cases e), fun e => (by cases e)⟩
end Go.Proofs.YtjafpncngmbcdaaGreat.Nam
end
section
namespace Go.Proofs.YtjafpncngmbcdaaGreat.Nam
open Go Go.SL
variable {M : Bk} {f : Fa}
inductive Run : Bk → List Fa → Bk → Prop
  | nil {M : Bk} : Run M [] M
  | cons {M M' : Bk} {f : Fa} {l : List Fa} : checkB M f = 0 → Run (stepM M f) l M' → Run M (f :: l) M'
theorem Run.app {M1 M2 M3 : Bk} {l l' : List Fa} (h1 : Run M1 l M2) (h2 : Run M2 l' M3) : Run M1 (l ++ l') M3 := by
  induction h1 with
  | nil => exact h2
  | cons hc _ ih => exact .cons hc (ih h2)
theorem Run.one {M1 M2 : Bk} {f : Fa} (hc : checkB M1 f = 0) (h : applyM M1 f = M2) : Run M1 [f] M2 := by
  refine .cons hc ?_
  unfold stepM
  rw [if_neg (by simpa using hc), h]
  exact .nil
def tickF (t : Int) : Fa := ⟨8, 0, 0, 0, [], 0, t, [], [], [], 0, 0, 0, 0⟩
def filedF (v : Ver) : Fa := ⟨3, 0, 0, 0, v.name, v.gen, v.time, v.refs, [], [], 0, 0, 0, 0⟩
def shotF (s : Sn) : Fa := ⟨5, 0, 0, 0, s.name, 0, s.time, [], s.held, [], 0, 0, 0, 0⟩
def goneF (v : Ver) : Fa := dropF (v.name, v.gen)
def factsL (M : Bk) : List Fa := tickF M.now :: (M.V.map filedF ++ (M.S.map shotF ++ (M.V.filter (·.gone)).map goneF))
def fresh (v : Ver) : Ver := { v with gone := false }
theorem checkF_of (h1 : 1 ≤ f.k ∧ f.k ≤ 9) (h2 : bareB f = true) (h3 : badB f = false) (h4 : f.refs.length ≤ 256) (h5 : f.held.length ≤ 64) (h6 : f.moves = []) (h7 : f.k ≠ 7) (h8 : ∀ h ∈ f.held, heldOk h = true) (h9 : ∀ r ∈ f.refs, rightB r = true) : checkF f = 0 := by
  unfold checkF
  rw [if_neg (by rw [h2]; simp; omega), if_neg (by rw [h3]; simp), if_neg (by rw [h6]; simp; omega), if_neg (by
    rw [h6]
    simp only [List.any_nil, Bool.false_eq_true, false_or]
    rintro (h | h)
    · exact h7 h.1
    · obtain ⟨x, hx, hn⟩ := List.any_eq_true.1 h
      rw [h8 x hx] at hn; cases hn), if_neg fun h => by
    obtain ⟨x, hx, hn⟩ := List.any_eq_true.1 h
    rw [h9 x hx] at hn; cases hn]
theorem check_tick {t : Int} (ht : 0 ≤ t ∧ t ≤ 9007199254740991) (h : M.now ≤ t) : checkB M (tickF t) = 0 := by
  have h2 : numB t = true := numB_iff.2 ht
  have h0 : numB 0 = true := by decide
  refine checkB0.2 ⟨checkF_of ⟨by simp [tickF], by simp [tickF]⟩ (by simp [bareB, tickF, nPlace, nName, nGen, nTime]) (by simp [badB, tickF, nPlace, nName, nGen, h0, h2]) (Nat.zero_le _) (Nat.zero_le _) rfl (by simp [tickF]) (fun h hh => by cases hh) (fun h hh => by cases hh), fun _ => h, fun e => (by cases e), fun e => (by cases e), fun e => (by cases e), fun e => (by cases e)⟩
theorem topG_lt {l : List Ver} {g : Int} (h : ∀ w ∈ l, w.gen < g) (hg : 0 < g) : topG l < g := by
  by_cases hl : l = []
  · subst hl; exact hg
  · obtain ⟨x, hx, e⟩ := topG_some hl
    rw [e]; exact h x (List.mem_of_getElem? hx)
theorem takeWhile_all' {α : Type} {p : α → Bool} : ∀ {l : List α}, (∀ a ∈ l, p a = true) → l.takeWhile p = l ∧ l.dropWhile p = []
  | [], _ => ⟨rfl, rfl⟩
  | a :: l, h => by
    obtain ⟨h1, h2⟩ := takeWhile_all' (l := l) fun b hb => h b (List.mem_cons_of_mem _ hb)
    rw [List.takeWhile_cons, List.dropWhile_cons, if_pos (h a (by simp)), if_pos (h a (by simp)), h1, h2]
    exact ⟨rfl, rfl⟩
theorem run_filed (hw : Inv M) : ∀ (V2 V1 : List Ver), M.V = V1 ++ V2 → Run ⟨V1.map fresh, [], M.now⟩ (V2.map filedF) ⟨M.V.map fresh, [], M.now⟩
  | [], V1, e => by
    rw [List.append_nil] at e
    rw [e]; exact .nil
  | v :: V2, V1, e => by
    have hv : v ∈ M.V := by rw [e]; simp
    have hV1 : ∀ w ∈ V1, w ∈ M.V := fun w hw => by rw [e]; simp [hw]
    have hp := hw.v
    rw [e] at hp
    obtain ⟨hp1, hp2, hp3⟩ := List.pairwise_append.1 hp
    have hbef : ∀ w ∈ V1, w.name < v.name ∨ (w.name = v.name ∧ w.gen < v.gen) := fun w hw => hp3 w hw v (by simp)
    have hf : fof (V1.map fresh) v.name = (fof V1 v.name).map fresh := fof_map (f := fresh) (fun _ => rfl) _
    have hlen : (fof V1 v.name).length + 1 ≤ 32 := by
      have := hw.fl v.name
      rw [e, fof_append] at this
      have h1 : fof (v :: V2) v.name = v :: fof V2 v.name := by unfold fof; rw [List.filter_cons, if_pos (by simp)]
      rw [h1] at this
      simp at this; omega
    have hg := hw.g v hv
    have ht := hw.t v hv
    have hn := hw.nm v hv
    have h0 : numB 0 = true := by decide
    have hgn : numB v.gen = true := numB_iff.2 ⟨by omega, hg.2⟩
    have htn : numB v.time = true := numB_iff.2 ht
    have hg1 : ¬ v.gen < 1 := by omega
    have hc : checkB ⟨V1.map fresh, [], M.now⟩ (filedF v) = 0 := by
      refine checkB0.2 ⟨checkF_of ⟨by simp [filedF], by simp [filedF]⟩ (by simp [bareB, filedF, nPlace, nName, nGen, nTime]) (by simp [badB, filedF, nPlace, nName, nGen, hn, hgn, htn, hg1]) (hw.r v hv) (Nat.zero_le _) rfl (by simp [filedF]) (fun h hh => by cases hh) (hw.rr v hv), fun e => (by cases e), fun _ => ⟨hw.vt v hv, ?_, ?_, ?_⟩, fun e => (by cases e), fun e => (by cases e), fun e => (by cases e)⟩
      · show topG (fof (V1.map fresh) v.name) + 1 ≤ v.gen
        have : topG (fof (V1.map fresh) v.name) < v.gen := topG_lt (fun w hw => by
          rw [hf] at hw
          obtain ⟨u, hu, rfl⟩ := List.mem_map.1 hw
          obtain ⟨hu1, hu2⟩ := fof_mem.1 hu
          rcases hbef u hu1 with h | h
          · rw [hu2] at h; exact (slt_irr _ h).elim
          · exact h.2) (by omega)
        omega
      · rintro ⟨h1, h2⟩
        replace h1 : fof (V1.map fresh) v.name = [] := h1
        replace h2 : (nms (V1.map fresh)).length = 64 := h2
        have hs1 : SrtN (V1.map fresh) := (srtG_map (f := fresh) hp1 fun _ => ⟨rfl, rfl⟩).n
        have hno : v.name ∉ nms (V1.map fresh) := fun hm => fof_some hm h1
        have : (v.name :: nms (V1.map fresh)).length ≤ (nms M.V).length := len_sub (List.nodup_cons.2 ⟨hno, (nms_lt hs1).imp fun h => slt_ne h⟩) fun k hk => by
          rcases List.mem_cons.1 hk with rfl | hk
          · exact nms_mem.2 ⟨v, hv, rfl⟩
          · obtain ⟨w, hw, rfl⟩ := nms_mem.1 hk
            obtain ⟨u, hu, rfl⟩ := List.mem_map.1 hw
            exact nms_mem.2 ⟨u, hV1 u hu, rfl⟩
        have := hw.nl
        simp only [List.length_cons] at *
        omega
      · show (fof (V1.map fresh) v.name).length ≠ 32
        rw [hf, List.length_map]; omega
    refine .cons hc ?_
    have hst : stepM ⟨V1.map fresh, [], M.now⟩ (filedF v) = ⟨(V1 ++ [v]).map fresh, [], M.now⟩ := by
      unfold stepM
      rw [if_neg (by simpa using hc)]
      show (⟨insV (V1.map fresh) (fresh v), [], M.now⟩ : Bk) = _
      unfold insV
      obtain ⟨t1, t2⟩ := takeWhile_all' (l := V1.map fresh) (p := fun u => decide (u.name ≤ (fresh v).name)) fun w hw => by
        obtain ⟨u, hu, rfl⟩ := List.mem_map.1 hw
        have : u.name ≤ v.name := by
          rcases hbef u hu with h | h
          · exact List.le_of_lt h
          · rw [h.1]; exact List.le_refl _
        exact decide_eq_true this
      rw [t1, t2]
      simp
    rw [hst]
    exact run_filed hw V2 (V1 ++ [v]) (by rw [e]; simp)
theorem genV_map {V : List Ver} (h : SrtG V) {g : Ver → Ver} (hg : ∀ v, (g v).name = v.name ∧ (g v).gen = v.gen) {v : Ver} (hv : v ∈ V) : genV (V.map g) v.name v.gen = some (g v) := by
  have := (srtG_map h hg).genV (v := g v) (List.mem_map_of_mem hv)
  rw [(hg v).1, (hg v).2] at this
  exact this
theorem run_shots (hw : Inv M) : ∀ (S2 S1 : List Sn), M.S = S1 ++ S2 → Run ⟨M.V.map fresh, S1, M.now⟩ (S2.map shotF) ⟨M.V.map fresh, M.S, M.now⟩
  | [], S1, e => by
    rw [List.append_nil] at e
    rw [e]; exact .nil
  | s :: S2, S1, e => by
    have hs : s ∈ M.S := by rw [e]; simp
    have hp := hw.ss
    rw [e] at hp
    obtain ⟨hp1, hp2, hp3⟩ := List.pairwise_append.1 hp
    have hbef : ∀ w ∈ S1, w.name < s.name := fun w hw => hp3 w hw s (by simp)
    have hn := hw.sn s hs
    have ht := hw.st s hs
    have h0 : numB 0 = true := by decide
    have htn : numB s.time = true := numB_iff.2 ⟨ht.1, by have := hw.now; omega⟩
    have hheld : ∀ h ∈ s.held, heldOk h = true ∧ liveB (M.V.map fresh) h.1 h.2 = true := fun h hh => by
      obtain ⟨v, hv, e1, e2⟩ := hw.se s hs h hh
      have hg := hw.g v hv
      refine ⟨?_, ?_⟩
      · unfold heldOk
        rw [← e1, ← e2, hw.nm v hv, numB_iff.2 ⟨by omega, hg.2⟩]
        simpa using hg.1
      · unfold liveB
        rw [← e1, ← e2, genV_map hw.v (g := fresh) (fun _ => ⟨rfl, rfl⟩) hv]
        rfl
    have hc : checkB ⟨M.V.map fresh, S1, M.now⟩ (shotF s) = 0 := by
      refine checkB0.2 ⟨checkF_of ⟨by simp [shotF], by simp [shotF]⟩ (by simp [bareB, shotF, nPlace, nName, nGen, nTime]) (by simp [badB, shotF, nPlace, nName, nGen, hn, h0, htn]) (Nat.zero_le _) (hw.hh s hs) rfl (by simp [shotF]) (fun h hh => (hheld h hh).1) (fun h hh => by cases hh), fun e => (by cases e), fun e => (by cases e), fun e => (by cases e), fun _ => ⟨ht.2, ?_, ?_, fun h hh => (hheld h hh).2, ?_⟩, fun e => (by cases e)⟩
      · exact List.find?_eq_none.2 fun t ht => by simpa using (slt_ne (hbef t ht) : ¬ t.name = (shotF s).name)
      · show S1.length ≠ 16
        have := hw.s16
        rw [e] at this
        simp at this; omega
      · unfold risesB
        exact decide_eq_true (hw.hs s hs)
    refine .cons hc ?_
    have hst : stepM ⟨M.V.map fresh, S1, M.now⟩ (shotF s) = ⟨M.V.map fresh, S1 ++ [s], M.now⟩ := by
      unfold stepM
      rw [if_neg (by simpa using hc)]
      show (⟨M.V.map fresh, insS S1 s, M.now⟩ : Bk) = _
      unfold insS
      obtain ⟨t1, t2⟩ := takeWhile_all' (l := S1) (p := fun u => decide (u.name < s.name)) fun w hw => by simpa using hbef w hw
      rw [t1, t2]
    rw [hst]
    exact run_shots hw S2 (S1 ++ [s]) (by rw [e]; simp)
def mk (D : List (List UInt8 × Int)) (v : Ver) : Ver := if (v.name, v.gen) ∈ D then goneV v else fresh v
theorem mk_f (D : List (List UInt8 × Int)) (v : Ver) : (mk D v).name = v.name ∧ (mk D v).gen = v.gen := by
  unfold mk; split <;> exact ⟨rfl, rfl⟩
theorem run_gone (hw : Inv M) : ∀ (G2 G1 : List Ver), M.V.filter (·.gone) = G1 ++ G2 → Run ⟨M.V.map (mk (G1.map fun v => (v.name, v.gen))), M.S, M.now⟩ (G2.map goneF) M
  | [], G1, e => by
    rw [List.append_nil] at e
    have : M.V.map (mk (G1.map fun v => (v.name, v.gen))) = M.V := by
      conv => rhs; rw [← List.map_id M.V]
      refine List.map_congr_left fun v hv => ?_
      unfold mk
      by_cases hg : v.gone = true
      · rw [if_pos (List.mem_map.2 ⟨v, by rw [← e]; exact List.mem_filter.2 ⟨hv, hg⟩, rfl⟩)]
        cases v; simp only at hg; subst hg; rfl
      · rw [if_neg fun hm => by
          obtain ⟨u, hu, eu⟩ := List.mem_map.1 hm
          rw [← e] at hu
          obtain ⟨hu1, hu2⟩ := List.mem_filter.1 hu
          have e1 := congrArg Prod.fst eu
          have e2 := congrArg Prod.snd eu
          have := hw.v.uniq hu1 hv e1 e2
          rw [this] at hu2; exact hg hu2]
        cases v; simp only [Bool.not_eq_true] at hg; subst hg; rfl
    rw [this]; exact .nil
  | v :: G2, G1, e => by
    have hvm : v ∈ M.V.filter (·.gone) := by rw [e]; simp
    obtain ⟨hv, hvg⟩ := List.mem_filter.1 hvm
    have hp : SrtG (M.V.filter (·.gone)) := hw.v.sublist List.filter_sublist
    rw [e] at hp
    obtain ⟨_, _, hp3⟩ := List.pairwise_append.1 hp
    have hno : (v.name, v.gen) ∉ G1.map fun v => (v.name, v.gen) := fun hm => by
      obtain ⟨u, hu, eu⟩ := List.mem_map.1 hm
      have e1 := congrArg Prod.fst eu
      have e2 := congrArg Prod.snd eu
      simp only at e1 e2
      rcases hp3 u hu v (by simp) with h | h
      · rw [e1] at h; exact slt_irr _ h
      · omega
    have hlv : liveB (M.V.map (mk (G1.map fun v => (v.name, v.gen)))) v.name v.gen = true := by
      unfold liveB
      rw [genV_map hw.v (mk_f _) hv]
      simp only [mk, if_neg hno, fresh, Bool.not_false]
    have hc : checkB ⟨M.V.map (mk (G1.map fun v => (v.name, v.gen))), M.S, M.now⟩ (goneF v) = 0 := check_drop (x := (v.name, v.gen)) (hw.nm v hv) (hw.g v hv) hlv
    refine .cons hc ?_
    have hst : stepM ⟨M.V.map (mk (G1.map fun v => (v.name, v.gen))), M.S, M.now⟩ (goneF v) = ⟨M.V.map (mk ((G1 ++ [v]).map fun v => (v.name, v.gen))), M.S, M.now⟩ := by
      unfold stepM
      rw [if_neg (by simpa using hc)]
      show (⟨sweepV M.S (markV (M.V.map (mk (G1.map fun v => (v.name, v.gen)))) v.name v.gen), M.S, M.now⟩ : Bk) = _
      have hm : markV (M.V.map (mk (G1.map fun v => (v.name, v.gen)))) v.name v.gen = M.V.map (mk ((G1 ++ [v]).map fun v => (v.name, v.gen))) := by
        unfold markV
        rw [List.map_map]
        refine List.map_congr_left fun u _ => ?_
        simp only [Function.comp]
        rw [(mk_f _ u).1, (mk_f _ u).2]
        unfold mk
        rw [List.map_append]
        by_cases hu : u.name = v.name ∧ u.gen = v.gen
        · rw [if_pos hu, if_pos (List.mem_append_right _ (by simp [hu.1, hu.2]))]
          split <;> rfl
        · rw [if_neg hu]
          by_cases hu1 : (u.name, u.gen) ∈ G1.map fun v => (v.name, v.gen)
          · rw [if_pos hu1, if_pos (List.mem_append_left _ hu1)]
          · rw [if_neg hu1, if_neg fun h => by
              rcases List.mem_append.1 h with h | h
              · exact hu1 h
              · simp at h; exact hu h]
      rw [hm]
      have hsw : sweepV M.S (M.V.map (mk ((G1 ++ [v]).map fun v => (v.name, v.gen)))) = M.V.map (mk ((G1 ++ [v]).map fun v => (v.name, v.gen))) := by
        refine sw_iff.2 fun w hwm => ?_
        obtain ⟨u, hu, rfl⟩ := List.mem_map.1 hwm
        have hk := sw_iff.1 hw.sw u hu
        rw [keepP_iff] at hk ⊢
        rw [(mk_f _ u).1, (mk_f _ u).2]
        rcases hk with hk | hk
        · exact .inl hk
        · refine .inr ?_
          unfold mk
          rw [if_neg fun hm => by
            obtain ⟨x, hx, ex⟩ := List.mem_map.1 hm
            have hx' : x ∈ M.V.filter (·.gone) := by
              rw [e]
              rcases List.mem_append.1 hx with h | h
              · simp [h]
              · simp at h; simp [h]
            obtain ⟨hx1, hx2⟩ := List.mem_filter.1 hx'
            have := hw.v.uniq hx1 hu (congrArg Prod.fst ex) (congrArg Prod.snd ex)
            rw [this, hk] at hx2; cases hx2]
          rfl
      rw [hsw]
    rw [hst]
    exact run_gone hw G2 (G1 ++ [v]) (by rw [e]; simp)
theorem facts_run (hw : Inv M) : Run (⟨[], [], 0⟩ : Bk) (factsL M) M := by
  have h1 : checkB (⟨[], [], 0⟩ : Bk) (tickF M.now) = 0 := check_tick hw.now hw.now.1
  refine .cons h1 ?_
  have hst : stepM (⟨[], [], 0⟩ : Bk) (tickF M.now) = ⟨[], [], M.now⟩ := by
    unfold stepM
    rw [if_neg (by simpa using h1)]
    rfl
  rw [hst]
  refine (run_filed hw M.V [] rfl).app ((run_shots hw M.S [] rfl).app ?_)
  exact run_gone hw (M.V.filter (·.gone)) [] rfl
theorem Run.at {M1 M2 : Bk} {l : List Fa} {i : Nat} {f : Fa} (h : Run M1 (l.drop i) M2) (hf : l[i]? = some f) : checkB M1 f = 0 ∧ Run (stepM M1 f) (l.drop (i + 1)) M2 := by
  obtain ⟨hi, e⟩ := List.getElem?_eq_some_iff.1 hf
  rw [List.drop_eq_getElem_cons hi, e] at h
  cases h with
  | cons h1 h2 => exact ⟨h1, h2⟩
end Go.Proofs.YtjafpncngmbcdaaGreat.Nam
end
section
namespace Go.Proofs.YtjafpncngmbcdaaGreat.Nam
open Go Go.SL Go.SL.Stb
variable {M : Bk} {f : Fa}
def cmpI (a b : Int) : Int := if a < b then -1 else if b < a then 1 else 0
def cmpR (x y : Rf) : Int := if cmpI x.bin y.bin ≠ 0 then cmpI x.bin y.bin else cmpI x.slot y.slot
theorem ltR_iff {x y : Rf} : ltC cmpR x y = true ↔ x.bin < y.bin ∨ (x.bin = y.bin ∧ x.slot < y.slot) := by
  unfold ltC cmpR cmpI
  rw [decide_eq_true_eq]
  (repeat' split) <;> omega
theorem ltR_no {x y : Rf} : ltC cmpR x y = false ↔ ¬ (x.bin < y.bin ∨ (x.bin = y.bin ∧ x.slot < y.slot)) := by rw [← ltR_iff]; simp
theorem swR : SW (ltC cmpR) where
  asy a b h := by
    rw [ltR_iff] at h
    rw [ltR_no]; omega
  ntr a b c h1 h2 := by
    rw [ltR_no] at *; omega
def spR (r : Rf) : Int × Int := (r.bin, r.slot)
theorem alkR {x y : Rf} : alk (ltC cmpR) x y = decide (spR x = spR y) := by
  rw [Bool.eq_iff_iff, alk_iff, ltR_no, ltR_no, decide_eq_true_eq]
  unfold spR
  rw [Prod.mk.injEq]
  omega
def spLt (a b : Int × Int) : Prop := a.1 < b.1 ∨ (a.1 = b.1 ∧ a.2 < b.2)
instance (a b : Int × Int) : Decidable (spLt a b) := by unfold spLt; infer_instance
theorem eqR {x y : Rf} : decide (cmpR x y = 0) = alk (ltC cmpR) x y := by
  rw [alkR, Bool.eq_iff_iff, decide_eq_true_eq, decide_eq_true_eq]
  unfold cmpR cmpI spR
  rw [Prod.mk.injEq]
  (repeat' split) <;> omega
def refsL (M : Bk) : List Rf := M.V.flatMap (·.refs)
def firstR (all : List Rf) (s : Int × Int) : Option Rf := all.find? fun r => decide (spR r = s)
theorem sorted_eq {l m : List (Int × Int)} (hl : l.Pairwise spLt) (hm : m.Pairwise spLt) (h : ∀ x, x ∈ l ↔ x ∈ m) : l = m := by
  induction l generalizing m with
  | nil =>
    cases m with
    | nil => rfl
    | cons b m => exact absurd ((h b).2 (by simp)) (by simp)
  | cons a l ih =>
    cases m with
    | nil => exact absurd ((h a).1 (by simp)) (by simp)
    | cons b m =>
      obtain ⟨hl1, hl2⟩ := List.pairwise_cons.1 hl
      obtain ⟨hm1, hm2⟩ := List.pairwise_cons.1 hm
      have hab : a = b := by
        rcases List.mem_cons.1 ((h a).1 (by simp)) with e | h1
        · exact e
        rcases List.mem_cons.1 ((h b).2 (by simp)) with e | h2
        · exact e.symm
        have := hm1 a h1
        have := hl1 b h2
        unfold spLt at *
        omega
      subst hab
      congr 1
      refine ih hl2 hm2 fun x => ⟨fun hx => ?_, fun hx => ?_⟩
      · rcases List.mem_cons.1 ((h x).1 (List.mem_cons_of_mem _ hx)) with e | h1
        · have := hl1 x hx; subst e; unfold spLt at this; omega
        · exact h1
      · rcases List.mem_cons.1 ((h x).2 (List.mem_cons_of_mem _ hx)) with e | h1
        · have := hm1 x hx; subst e; unfold spLt at this; omega
        · exact h1
theorem live_eq {l l' : List Rf} {sp : List (Int × Int)} (hs : Srt (ltC cmpR) l') (ht : Stab (ltC cmpR) l l') (h1 : sp.Pairwise spLt) (h2 : ∀ s, s ∈ sp ↔ ∃ r ∈ l, spR r = s) : compactG (alk (ltC cmpR)) l' = sp.filterMap (firstR l) := by
  obtain ⟨c1, c2, c3⟩ := compact_ok swR hs ht
  generalize compactG (alk (ltC cmpR)) l' = L at c1 c2 c3
  have e : L.map spR = sp := by
    refine sorted_eq ?_ h1 fun s => ?_
    · rw [List.pairwise_map]
      exact c1.imp fun h => by
        have := ltR_iff.1 h
        exact this
    · rw [h2, List.mem_map]
      constructor
      · rintro ⟨r, hr, rfl⟩
        exact ⟨r, (c2 r hr).1, rfl⟩
      · rintro ⟨r, hr, rfl⟩
        obtain ⟨y, hy, e⟩ := c3 r hr
        rw [alkR, decide_eq_true_eq] at e
        exact ⟨y, hy, e.symm⟩
  rw [← e, List.filterMap_map]
  have : ∀ r ∈ L, (firstR l ∘ spR) r = some r := fun r hr => by
    have := (c2 r hr).2
    simp only [Function.comp, firstR]
    rw [← this]
    congr 1
    funext x
    rw [alkR]
    congr 1
    exact propext ⟨Eq.symm, Eq.symm⟩
  clear c1 c2 c3 e
  induction L with
  | nil => rfl
  | cons r L ih =>
    rw [List.filterMap_cons, this r (by simp)]
    congr 1
    exact ih fun x hx => this x (List.mem_cons_of_mem _ hx)
def putS (l : List (Int × Int)) (s : Int × Int) : List (Int × Int) := if s ∈ l then l else l.takeWhile (fun t => decide (spLt t s)) ++ s :: l.dropWhile fun t => decide (spLt t s)
def spotsL (l : List Rf) : List (Int × Int) := (l.map spR).foldl putS []
theorem putS_ok {l : List (Int × Int)} (hl : l.Pairwise spLt) (s : Int × Int) : (putS l s).Pairwise spLt ∧ ∀ x, x ∈ putS l s ↔ x = s ∨ x ∈ l := by
  unfold putS
  split
  · rename_i h
    exact ⟨hl, fun x => ⟨.inr, by rintro (rfl | h') <;> assumption⟩⟩
  · rename_i hn
    have e : l.takeWhile (fun t => decide (spLt t s)) ++ l.dropWhile (fun t => decide (spLt t s)) = l := List.takeWhile_append_dropWhile ..
    have hA : ∀ t ∈ l.takeWhile (fun t => decide (spLt t s)), spLt t s := fun t ht => by
      have : ∀ {l : List (Int × Int)}, t ∈ l.takeWhile (fun t => decide (spLt t s)) → spLt t s := fun {l} => by
        induction l with
        | nil => intro h; cases h
        | cons a l ih =>
          intro h
          rw [List.takeWhile_cons] at h
          split at h
          · rename_i ha
            rcases List.mem_cons.1 h with rfl | h
            · simpa using ha
            · exact ih h
          · cases h
      exact this ht
    have hC : ∀ t ∈ l.dropWhile (fun t => decide (spLt t s)), spLt s t := fun t ht => by
      have : ∀ {l : List (Int × Int)}, l.Pairwise spLt → s ∉ l → t ∈ l.dropWhile (fun t => decide (spLt t s)) → spLt s t := fun {l} => by
        induction l with
        | nil => intro _ _ h; cases h
        | cons a l ih =>
          intro hp hns h
          rw [List.dropWhile_cons] at h
          split at h
          · exact ih (List.pairwise_cons.1 hp).2 (fun h => hns (List.mem_cons_of_mem _ h)) h
          · rename_i ha
            have hna : ¬ spLt a s := by simpa using ha
            have hne : a ≠ s := fun e => hns (by rw [e]; simp)
            have hsa : spLt s a := by
              have : ¬ (a.1 = s.1 ∧ a.2 = s.2) := fun h => hne (Prod.ext h.1 h.2)
              unfold spLt at *; omega
            rcases List.mem_cons.1 h with rfl | h
            · exact hsa
            · have := (List.pairwise_cons.1 hp).1 t h
              unfold spLt at *; omega
      exact this hl hn ht
    have hl' := hl
    rw [← e] at hl'
    obtain ⟨p1, p2, p3⟩ := List.pairwise_append.1 hl'
    refine ⟨List.pairwise_append.2 ⟨p1, List.pairwise_cons.2 ⟨hC, p2⟩, fun a ha b hb => ?_⟩, fun x => ?_⟩
    · rcases List.mem_cons.1 hb with rfl | hb
      · exact hA a ha
      · exact p3 a ha b hb
    · rw [List.mem_append, List.mem_cons]
      conv => rhs; rw [← e]
      rw [List.mem_append]
      constructor
      · rintro (h | h | h)
        · exact .inr (.inl h)
        · exact .inl h
        · exact .inr (.inr h)
      · rintro (h | h | h)
        · exact .inr (.inl h)
        · exact .inl h
        · exact .inr (.inr h)
theorem foldS_ok : ∀ (m l : List (Int × Int)), l.Pairwise spLt → (m.foldl putS l).Pairwise spLt ∧ ∀ x, x ∈ m.foldl putS l ↔ x ∈ l ∨ x ∈ m
  | [], l, hl => ⟨hl, by simp⟩
  | s :: m, l, hl => by
    obtain ⟨h1, h2⟩ := putS_ok hl s
    obtain ⟨h3, h4⟩ := foldS_ok m (putS l s) h1
    refine ⟨h3, fun x => ?_⟩
    rw [List.foldl_cons, h4, h2, List.mem_cons]
    constructor
    · rintro ((h | h) | h)
      · exact .inr (.inl h)
      · exact .inl h
      · exact .inr (.inr h)
    · rintro (h | h | h)
      · exact .inl (.inr h)
      · exact .inl (.inl h)
      · exact .inr h
theorem spots_ok (l : List Rf) : (spotsL l).Pairwise spLt ∧ ∀ s, s ∈ spotsL l ↔ ∃ r ∈ l, spR r = s := by
  obtain ⟨h1, h2⟩ := foldS_ok (l.map spR) [] .nil
  refine ⟨h1, fun s => ?_⟩
  rw [spotsL, h2, List.mem_map]
  simp
def liveRs (l : List Rf) : List Rf := (spotsL l).filterMap (firstR l)
theorem live_plain {l l' : List Rf} (hs : Srt (ltC cmpR) l') (ht : Stab (ltC cmpR) l l') : compactG (alk (ltC cmpR)) l' = liveRs l := live_eq hs ht (spots_ok l).1 (spots_ok l).2
end Go.Proofs.YtjafpncngmbcdaaGreat.Nam
end
