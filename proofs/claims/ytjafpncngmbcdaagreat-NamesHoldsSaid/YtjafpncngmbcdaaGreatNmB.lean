/-
  Names: names; what a kind names; the first for which something holds.
-/
import Derived.Test.YtjafpncngmbcdaaGreatNmA
set_option linter.unusedSimpArgs false
set_option linter.unusedVariables false
set_option linter.unusedSectionVars false
namespace Go.Proofs.YtjafpncngmbcdaaGreat.Nam
open Go Go.SL Go.Proofs Go.Proofs.YtjafpncngmbcdaaGreat.Sh
variable {B : World} {H : List Asrt} {K : Value → WT} {W : WT} {c : Bool} {x y z : Value}
theorem E_chrL {s : List UInt8} {i : Nat} {c : UInt8} {k : IntKind} (hs : s[i]? = some c) (h : E B H (K (.int .u8 (c.toNat : Int)))) : E B H (S.chr (str s) (.int k (i : Int)) K) := by
  have hl : i < s.length := (List.getElem?_eq_some_iff.1 hs).1
  have hi : ((i : Int)).toNat < (⟨s.toArray⟩ : ByteArray).size := by rw [strSize]; simpa using hl
  refine E_chr (by omega) hi ?_
  have e : (⟨s.toArray⟩ : ByteArray)[((i : Int)).toNat]'hi = c := by
    have h2 : s[i] = c := by rw [List.getElem?_eq_getElem hl] at hs; exact Option.some.inj hs
    show s.toArray[((i : Int)).toNat]'_ = c
    simpa using h2
  rw [e]; exact h
theorem E_slcL {s : List UInt8} {lo hi : Option Value} {i j : Nat} (h1 : S.bound hi s.length = some j) (h2 : S.bound lo 0 = some i) (h3 : i ≤ j) (h4 : j ≤ s.length) (h : E B H (K (str ((s.drop i).take (j - i))))) : E B H (S.slcS (str s) lo hi K) := fun w hw =>
  ⟨i, j, by rw [strSize]; exact h1, h2, h3, by rw [strSize]; exact h4, by rw [strMid]; exact h w hw⟩
attribute [local irreducible] S.pick S.ld S.ldN S.st S.box S.nc S.fad S.ixS S.ixA S.chr S.prt S.ext S.bin S.sh S.sbin S.beq S.neg1 S.com1 S.not1 S.cvt S.str1 S.lenS S.len S.cap S.lenM S.mx S.mn S.mkM S.cond S.gd S.fa S.dr S.rck S.join S.loop S.cvv S.eqv S.slc S.slcS S.b2s S.lk V U CF Gives E cel mpb osl ros dct dit itr lpo dfo
set_option maxRecDepth 4000
theorem recName [Amb] {s : List UInt8} (hm : s.length ≤ 9223372036854775807) (h : E B H (K (.bool (nameOk s)))) : E B H (CF Tryz.prog 113 [str s] K) := by
  refine E_mono (W := s113 _ K) ?_ fun _ => c113
  unfold s113
  refine E_lenstr ?_
  refine E_loop (σ := Nat) (fun i => i ≤ s.length ∧ ∀ j c, j < i → s[j]? = some c → 33 ≤ c.toNat ∧ c.toNat ≤ 126) (fun i => [str s, I s.length, I i]) (fun _ => H) (fun i => s.length - i) 0 (fun _ => rfl) rfl ⟨Nat.zero_le _, by omega⟩ (fun W hW => hW) ?_
  rintro i K0 ⟨hi, ha⟩ hk
  refine E_fa fun _ => ?_
  refine E_lss ?_
  refine E_if (fun hc => ?_) (fun hc => ?_)
  · have hs : s[i]? = some s[i] := List.getElem?_eq_getElem (by omega)
    generalize s[i] = c at hs
    refine E_join1 [str s, I s.length, I i, .bool (decide (c.toNat < 33 ∨ 126 < c.toNat))] H (fun q hq => ?_) ?_
    · have fin : ∀ q' : Bool, decide (c.toNat < 33 ∨ 126 < c.toNat) = q' → E B H (app 4 q [str s, I s.length, I i, .bool q']) := fun q' h => h ▸ hq
      refine E_chrL hs ?_
      refine E_lss ?_
      by_cases h1 : (c.toNat : Int) < 33
      · (repeat first | refine gS ?_ | refine gA fun _ => ?_ | refine gX fun _ _ => ?_ | refine gT ?_ | refine gF ?_ | refine gI ?_)
        exact fin _ (decide_eq_true (by omega))
      · (repeat first | refine gS ?_ | refine gA fun _ => ?_ | refine gX fun _ _ => ?_ | refine gT ?_ | refine gF ?_ | refine gI ?_)
        refine E_chrL hs ?_
        (repeat first | refine gS ?_ | refine gA fun _ => ?_ | refine gX fun _ _ => ?_ | refine gT ?_ | refine gF ?_ | refine gI ?_)
        refine fin _ ?_
        rw [decide_eq_decide]; omega
    refine E_fa fun _ => ?_
    refine E_if (fun hb => ?_) (fun hb => ?_)
    · have : nameOk s = false := decide_eq_false fun h => by
        have := h.2.2 c (List.mem_of_getElem? hs); omega
      rw [this] at h; exact h
    · refine E_addI (by omega) (by omega) ?_
      refine hk (i + 1) ⟨by omega, fun j d hj hd => ?_⟩ (by omega)
      by_cases hji : j = i
      · subst hji; rw [hs] at hd; cases hd; omega
      · exact ha j d (by omega) hd
  · have hall : ∀ c ∈ s, 33 ≤ c.toNat ∧ c.toNat ≤ 126 := fun c hc' => by
      obtain ⟨j, hj, rfl⟩ := List.getElem_of_mem hc'
      exact ha j _ (by omega) (List.getElem?_eq_getElem hj)
    refine E_strne (b := []) ?_
    by_cases h0 : s ≠ []
    · by_cases h32 : (s.length : Int) ≤ 32
      · have : nameOk s = true := decide_eq_true ⟨h0, by omega, hall⟩
        rw [this] at h
        (repeat first | refine gS ?_ | refine gA fun _ => ?_ | refine gX fun _ _ => ?_ | refine gT ?_ | refine gF ?_ | refine gI ?_)
        rw [decide_eq_true h32]
        exact h
      · have : nameOk s = false := decide_eq_false fun h => by omega
        rw [this] at h
        (repeat first | refine gS ?_ | refine gA fun _ => ?_ | refine gX fun _ _ => ?_ | refine gT ?_ | refine gF ?_ | refine gI ?_)
        rw [decide_eq_false h32]
        exact h
    · have : nameOk s = false := decide_eq_false fun h => h0 h.1
      rw [this] at h
      (repeat first | refine gS ?_ | refine gA fun _ => ?_ | refine gX fun _ _ => ?_ | refine gT ?_ | refine gF ?_ | refine gI ?_)
      exact h
theorem rname [Amb] {s : List UInt8} (hm : s.length ≤ 9223372036854775806) (h : E B H (K (.bool (nameOk s)))) : E B H (CF Tryz.prog 123 [str s] K) := by
  refine E_mono (W := s123 _ K) ?_ fun _ => c123
  unfold s123
  have no : ¬ (s ≠ [] ∧ s.length ≤ 32 ∧ ∀ c ∈ s, 33 ≤ c.toNat ∧ c.toNat ≤ 126) → E B H (K (.bool false)) := fun hn => by
    have : nameOk s = false := decide_eq_false hn
    rw [this] at h; exact h
  refine E_join1 [str s, .bool (decide (s.length < 1 ∨ 32 < s.length))] H (fun q hq => ?_) ?_
  · have hfin : ∀ b : Bool, decide (s.length < 1 ∨ 32 < s.length) = b → E B H (app 2 q [str s, .bool b]) := fun b h => h ▸ hq
    refine E_lenstr ?_
    refine E_lss ?_
    by_cases g : (s.length : Int) < 1
    · (repeat first | refine gS ?_ | refine gA fun _ => ?_ | refine gX fun _ _ => ?_ | refine gT ?_ | refine gF ?_ | refine gI ?_)
      exact hfin _ (decide_eq_true (by omega))
    · (repeat first | refine gS ?_ | refine gA fun _ => ?_ | refine gX fun _ _ => ?_ | refine gT ?_ | refine gF ?_ | refine gI ?_)
      exact hfin _ (by rw [decide_eq_decide]; omega)
  refine E_fa fun _ => ?_
  refine E_if (fun hb => ?_) (fun hb => ?_)
  · exact no fun hh => by
      have : 0 < s.length := List.length_pos_iff.2 hh.1
      omega
  refine E_loop (σ := Nat) (fun i => i ≤ s.length ∧ ∀ j c, j < i → s[j]? = some c → 33 ≤ c.toNat ∧ c.toNat ≤ 126) (fun i => [str s, I i]) (fun _ => H) (fun i => s.length - i) 0 (fun _ => rfl) rfl ⟨Nat.zero_le _, by omega⟩ (fun W hW => hW) ?_
  rintro i K0 ⟨hi, ha⟩ hk
  refine E_fa fun _ => ?_
  refine E_lenstr ?_
  refine E_lss ?_
  refine E_if (fun hc => ?_) (fun hc => ?_)
  · have hs : s[i]? = some s[i] := List.getElem?_eq_getElem (by omega)
    generalize s[i] = c at hs
    refine E_join1 [str s, I i, .bool (decide (c.toNat < 33 ∨ 126 < c.toNat))] H (fun q hq => ?_) ?_
    · have fin : ∀ q' : Bool, decide (c.toNat < 33 ∨ 126 < c.toNat) = q' → E B H (app 3 q [str s, I i, .bool q']) := fun q' h => h ▸ hq
      refine E_chrL hs ?_
      refine E_lss ?_
      by_cases h1 : (c.toNat : Int) < 33
      · (repeat first | refine gS ?_ | refine gA fun _ => ?_ | refine gX fun _ _ => ?_ | refine gT ?_ | refine gF ?_ | refine gI ?_)
        exact fin _ (decide_eq_true (by omega))
      · (repeat first | refine gS ?_ | refine gA fun _ => ?_ | refine gX fun _ _ => ?_ | refine gT ?_ | refine gF ?_ | refine gI ?_)
        refine E_chrL hs ?_
        (repeat first | refine gS ?_ | refine gA fun _ => ?_ | refine gX fun _ _ => ?_ | refine gT ?_ | refine gF ?_ | refine gI ?_)
        refine fin _ ?_
        rw [decide_eq_decide]; omega
    refine E_fa fun _ => ?_
    refine E_if (fun hb => ?_) (fun hb => ?_)
    · exact no fun hh => by have := hh.2.2 c (List.mem_of_getElem? hs); omega
    · refine E_addI (by omega) (by omega) ?_
      refine hk (i + 1) ⟨by omega, fun j d hj hd => ?_⟩ (by omega)
      by_cases hji : j = i
      · subst hji; rw [hs] at hd; cases hd; omega
      · exact ha j d (by omega) hd
  · have hall : ∀ c ∈ s, 33 ≤ c.toNat ∧ c.toNat ≤ 126 := fun c hc' => by
      obtain ⟨j, hj, rfl⟩ := List.getElem_of_mem hc'
      exact ha j _ (by omega) (List.getElem?_eq_getElem hj)
    have : nameOk s = true := decide_eq_true ⟨fun e => hb (by subst e; simp), by omega, hall⟩
    rw [this] at h
    exact h


/-- A text that is no longer than memory. -/
class Len (s : List UInt8) : Prop where
  pf : s.length ≤ 140737488355328
instance [Amb] {s : List UInt8} [h : Un c x (str s)] [hl : Len s] : Pb B H c (CF Tryz.prog 113 [x]) (.bool (nameOk s)) := ⟨fun e K k => by rw [h.pf e]; exact recName (Nat.le_trans hl.pf (by decide)) k⟩
instance [Amb] {s : List UInt8} [h : Un c x (str s)] [hl : Len s] : Pb B H c (CF Tryz.prog 123 [x]) (.bool (nameOk s)) := ⟨fun e K k => by rw [h.pf e]; exact rname (Nat.le_trans hl.pf (by decide)) k⟩
def idxI : Option Nat → Int | none => -1 | some i => i
/-- slices.IndexFunc. -/
noncomputable def idxC (sz : Nat) (s_0 f_1 : Value) (K : Value → WT) : WT :=
 S.len s_0 fun v7 =>
 S.loop 4 (fun K0 => fun s_0' f_1' v7' v8 => S.fa fun _ =>
 S.bin .lss v8 v7' fun v9 =>
 S.cond v9 (
 S.ixS sz s_0' v8 fun v14 =>
 S.ldN sz v14 fun v15 =>
 S.cvv Tryz.prog f_1' [v15] fun v16 =>
 S.cond v16 (
 K v8) (
 S.bin .add v8 (.int .i64 1) fun v18 =>
 K0 s_0' f_1' v7' v18)) (
 K (.int .i64 (-1))))
 [s_0, f_1, v7, .int .i64 0]
theorem s138_eq (x y : Value) (K : Value → WT) : s138 x y K = idxC 4 x y K := by kernel_rfl
theorem s45_eq (x y : Value) (K : Value → WT) : s45 x y K = idxC 2 x y K := by kernel_rfl
theorem s91_eq (x y : Value) (K : Value → WT) : s91 x y K = idxC 4 x y K := by kernel_rfl
/-- A closure that asks of an element, where C holds. -/
def Asks {α : Type} (B : World) (C : List Asrt) (fv : Value) (enc : α → List Value) (p : α → Bool) (l : List α) : Prop := ∀ x ∈ l, ∀ (H' : List Asrt) (K' : Value → WT), E B (C ++ H') (K' (.bool (p x))) → E B (C ++ H') (S.cvv Tryz.prog fv [.agg (enc x).toArray] K')
theorem findIdx_snoc {α : Type} {p : α → Bool} {l : List α} {i : Nat} {x : α} (hx : l[i]? = some x) (ha : ∀ y ∈ l.take i, p y = false) (hp : p x = true) : l.findIdx? p = some i := by
  rw [List.findIdx?_eq_some_iff_getElem]
  obtain ⟨hlt, hxe⟩ := List.getElem?_eq_some_iff.1 hx
  refine ⟨hlt, by rw [hxe]; exact hp, fun j hj => ?_⟩
  have := ha l[j] (List.mem_take_iff_getElem.2 ⟨j, by omega, rfl⟩)
  simp [this]
theorem idxC_ok {α : Type} {enc : α → List Value} {sz : Nat} [hE : Enc enc sz] {C : List Asrt} {v fv : Value} {l : List α} {p : α → Bool} [hv : Rs B (C ++ H) v enc l] (hn : l.length ≤ 140737488355328) (hp : Asks B C fv enc p l)
    (h : E B (C ++ H) (K (I (idxI (l.findIdx? p))))) : E B (C ++ H) (idxC sz v fv K) := by
  unfold idxC
  refine E_rslen (v := v) (l := l) ?_
  refine E_loop (n := 4) (σ := Nat) (fun i => i ≤ l.length ∧ ∀ x ∈ l.take i, p x = false) (fun i => [v, fv, I l.length, I i]) (fun _ => C ++ H) (fun i => l.length - i) 0 (fun _ => rfl) rfl ⟨Nat.zero_le _, by simp⟩ (fun W hW => hW) ?_
  rintro i K0 ⟨hi, ha⟩ hk
  refine E_fa fun _ => ?_
  refine E_lss ?_
  refine E_if (fun hc => ?_) (fun hc => ?_)
  · have hx : l[i]? = some l[i] := List.getElem?_eq_getElem (by omega)
    have hxm := List.mem_of_getElem? hx
    generalize l[i] = x at hx hxm
    refine E_rsix (v := v) (l := l) hx fun _ _ => ?_
    refine E_ptldA (hn := ⟨hE.len x⟩) ?_
    refine hp x hxm _ _ ?_
    cases hpx : p x with
    | true =>
      rw [findIdx_snoc hx ha hpx] at h
      refine E_tt ?_
      exact h
    | false =>
      refine E_ff ?_
      refine E_addI (by omega) (by omega) ?_
      refine hk (i + 1) ⟨by omega, fun y hy => ?_⟩ (by omega)
      rw [List.take_add_one, hx] at hy
      rcases List.mem_append.1 hy with hy | hy
      · exact ha y hy
      · simp at hy; subst hy; exact hpx
  · have : i = l.length := by omega
    subst this
    have e : l.findIdx? p = none := by
      rw [List.findIdx?_eq_none_iff]
      intro x hx
      exact ha x (by simpa using hx)
    rw [e] at h
    exact h
theorem idx_any {α : Type} (l : List α) (p : α → Bool) : decide (0 ≤ idxI (l.findIdx? p)) = l.any p := by
  cases h : l.findIdx? p with
  | none =>
    have h' := List.findIdx?_eq_none_iff.1 h
    have : l.any p = false := List.any_eq_false.2 fun x hx => by simp [h' x hx]
    rw [this]; rfl
  | some i =>
    obtain ⟨hl, hp, _⟩ := List.findIdx?_eq_some_iff_getElem.1 h
    have : l.any p = true := List.any_eq_true.2 ⟨_, List.getElem_mem hl, hp⟩
    rw [this]
    exact decide_eq_true (show (0 : Int) ≤ (i : Int) by omega)
theorem anyMove {v : Value} {l : List Mv} [hv : Rs B H v mvC l] (hn : l.length ≤ 140737488355328) (h : E B H (K (.bool (l.any fun m => !moveOk m)))) : E B H (CF Tryz.prog 109 [v, .func (.func 110) #[] #[]] K) := by
  refine E_mono (W := s109 _ _ K) ?_ fun _ => c109
  unfold s109
  refine E_mono (W := s138 _ _ _) ?_ fun _ => c138
  rw [s138_eq]
  refine idxC_ok (C := []) (hv := hv) (p := fun m => !moveOk m) hn (fun m _ H' K' hK => ?_) ?_
  · refine E_cvv (by kernel_rfl) ?_
    show E B H' (CF Tryz.prog 110 [.agg (mvC m).toArray] K')
    refine E_mono (W := s110 _ K') ?_ fun _ => c110
    unfold s110
    (repeat first | refine gS ?_ | refine gY ?_ | refine gA fun _ => ?_ | refine gX fun _ _ => ?_ | refine gI ?_)
    refine spot ?_
    (repeat first | refine gS ?_ | refine gY ?_ | refine gA fun _ => ?_ | refine gX fun _ _ => ?_ | refine gI ?_)
    have hK2 : E B H' (K' (.bool (!moveOk m))) := hK
    have e : (!spotB m.fb m.fs || !spotB m.tb m.ts) = !moveOk m := by unfold moveOk; rw [Bool.not_and]
    rw [e]
    exact sm hK2
  · refine E_geq ?_
    rw [idx_any]
    exact h
theorem anyHeld {v : Value} {l : List (List UInt8 × Int)} [hv : Rs B H v hC l] (hn : l.length ≤ 140737488355328) (hl : ∀ h ∈ l, h.1.length ≤ 140737488355328) (h : E B H (K (.bool (l.any fun m => !heldOk m)))) : E B H (CF Tryz.prog 84 [v, .func (.func 112) #[] #[]] K) := by
  refine E_mono (W := s84 _ _ K) ?_ fun _ => c84
  unfold s84
  refine E_mono (W := s45 _ _ _) ?_ fun _ => c45
  rw [s45_eq]
  refine idxC_ok (C := []) (hv := hv) (p := fun m => !heldOk m) hn (fun m hm H' K' hK => ?_) ?_
  · have : Len m.1 := ⟨hl m hm⟩
    refine E_cvv (by kernel_rfl) ?_
    show E B H' (CF Tryz.prog 112 [.agg (hC m).toArray] K')
    refine E_mono (W := s112 _ K') ?_ fun _ => c112
    unfold s112
    (repeat first | refine gS ?_ | refine gY ?_ | refine gA fun _ => ?_ | refine gX fun _ _ => ?_ | refine gI ?_)
    refine recName (Nat.le_trans (hl m hm) (by decide)) ?_
    (repeat first | refine gS ?_ | refine gY ?_ | refine gA fun _ => ?_ | refine gX fun _ _ => ?_ | refine gI ?_)
    have hK2 : E B H' (K' (.bool (!heldOk m))) := hK
    have e : (!nameOk m.1 || decide (m.2 < 1) || !numB m.2) = !heldOk m := by
      unfold heldOk; rw [Bool.not_and, Bool.not_and]
      congr 2
      rw [Bool.eq_iff_iff]; simp
    rw [e]
    exact sm hK2
  · refine E_geq ?_
    rw [idx_any]
    exact h
/-- slices.Contains of kinds. -/
theorem hasKind {v : Value} {l : List Int} {k : Int} [hv : Rs B H v cI l] (hn : l.length ≤ 140737488355328) (h : E B H (K (.bool (decide (k ∈ l))))) : E B H (CF Tryz.prog 135 [v, I k] K) := by
  refine E_mono (W := s135 _ _ K) ?_ fun _ => c135
  unfold s135
  refine E_mono (W := s149 _ _ _) ?_ fun _ => c149
  unfold s149
  refine E_rslen (v := v) (l := l) ?_
  refine E_loop (σ := Nat) (fun i => i ≤ l.length ∧ k ∉ l.take i) (fun i => [v, I k, I l.length, I i]) (fun _ => H) (fun i => l.length - i) 0 (fun _ => rfl) rfl ⟨Nat.zero_le _, by simp⟩ (fun W hW => hW) ?_
  rintro i K0 ⟨hi, ha⟩ hk
  refine E_fa fun _ => ?_
  refine E_lss ?_
  refine E_if (fun hc => ?_) (fun hc => ?_)
  · have hx : l[i]? = some l[i] := List.getElem?_eq_getElem (by omega)
    have hxm := List.mem_of_getElem? hx
    generalize l[i] = x at hx hxm
    refine E_rsix (v := v) (l := l) hx fun _ _ => ?_
    refine E_ptld ?_
    refine E_eql ?_
    refine E_if (fun e => ?_) (fun e => ?_)
    · subst e
      refine E_geq ?_
      rw [decide_eq_true hxm] at h
      rw [decide_eq_true (by omega)]
      exact h
    · refine E_addI (by omega) (by omega) ?_
      refine hk (i + 1) ⟨by omega, ?_⟩ (by omega)
      rw [List.take_add_one, hx]
      simp [ha, e]
  · have : i = l.length := by omega
    subst this
    rw [List.take_length] at ha
    refine E_geq ?_
    rw [decide_eq_false ha] at h
    exact h
abbrev nmL (k : Int) : List Value := [.bool (nPlace k), .bool (nName k), .bool (nGen k), .bool (nTime k), .bool (decide (k = 3)), .bool (decide (k = 5)), .bool (decide (k = 7)), .bool (decide (k = 9))]
theorem str_names : Str Tryz.prog 150 [(0, 1), (1, 1), (2, 1), (3, 1), (4, 1), (5, 1), (6, 1), (7, 1)] [.bool false, .bool false, .bool false, .bool false, .bool false, .bool false, .bool false, .bool false] := str_of (zv := .agg #[.bool false, .bool false, .bool false, .bool false, .bool false, .bool false, .bool false, .bool false]) (by kernel_rfl) (by kernel_rfl) rfl
theorem kindIn {k : Int} {b1 : Nat} {v : Value} {l : List Int} [HasC H b1 true 51 [I k]] [hv : Rs B H v cI l] (hn : l.length ≤ 140737488355328) (h : E B H (K (.bool (decide (k ∈ l))))) :
    E B H (S.cvv Tryz.prog (.func (.func 134) #[] #[ptr b1]) [v] K) := by
  refine E_cvv (by kernel_rfl) ?_
  show E B _ (CF Tryz.prog 134 [v, ptr b1] K)
  refine E_mono (W := s134 _ _ K) ?_ fun _ => c134
  unfold s134
  refine E_ld ?_
  exact hasKind hn h
theorem named {k : Int} (h : E B H (K (.agg (nmL k).toArray))) : E B H (CF Tryz.prog 106 [I k] K) := by
  refine E_mono (W := s106 _ K) ?_ fun _ => c106
  unfold s106
  refine E_box (vs := [I k]) fun b1 => ?_
  refine E_box fun b2 => ?_
  refine E_bsl [(0, 1), (1, 1)] u_kinds elt_kind (by simp) (by decide) (l0 := [I 0, I 0]) rfl fun bx => ?_
  refine E_slsC (enc := cI) [1, 2] 2 rfl rfl ?_
  refine kindIn (l := [1, 2]) (by decide) ?_
  refine E_bsl [(0, 1), (1, 1), (2, 1), (3, 1)] u_kinds elt_kind (by simp) (by decide) (l0 := [I 0, I 0, I 0, I 0]) rfl fun bx => ?_
  refine E_slsC (enc := cI) [3, 4, 5, 6] 4 rfl rfl ?_
  refine kindIn (l := [3, 4, 5, 6]) (by decide) ?_
  refine E_bsl [(0, 1), (1, 1)] u_kinds elt_kind (by simp) (by decide) (l0 := [I 0, I 0]) rfl fun bx => ?_
  refine E_slsC (enc := cI) [3, 4] 2 rfl rfl ?_
  refine kindIn (l := [3, 4]) (by decide) ?_
  refine E_bsl [(0, 1), (1, 1), (2, 1)] u_kinds elt_kind (by simp) (by decide) (l0 := [I 0, I 0, I 0]) rfl fun bx => ?_
  refine E_slsC (enc := cI) [3, 5, 8] 3 rfl rfl ?_
  refine kindIn (l := [3, 5, 8]) (by decide) ?_
  refine E_bsl [(0, 1)] u_kinds elt_kind (by simp) (by decide) (l0 := [I 0]) rfl fun bx => ?_
  refine E_slsC (enc := cI) [3] 1 rfl rfl ?_
  refine kindIn (l := [3]) (by decide) ?_
  refine E_bsl [(0, 1)] u_kinds elt_kind (by simp) (by decide) (l0 := [I 0]) rfl fun bx => ?_
  refine E_slsC (enc := cI) [5] 1 rfl rfl ?_
  refine kindIn (l := [5]) (by decide) ?_
  refine E_bsl [(0, 1)] u_kinds elt_kind (by simp) (by decide) (l0 := [I 0]) rfl fun bx => ?_
  refine E_slsC (enc := cI) [7] 1 rfl rfl ?_
  refine kindIn (l := [7]) (by decide) ?_
  refine E_bsl [(0, 1)] u_kinds elt_kind (by simp) (by decide) (l0 := [I 0]) rfl fun bx => ?_
  refine E_slsC (enc := cI) [9] 1 rfl rfl ?_
  refine kindIn (l := [9]) (by decide) ?_
  refine E_build (l := [.bool (decide (k ∈ [1, 2])), .bool (decide (k ∈ [3, 4, 5, 6])), .bool (decide (k ∈ [3, 4])), .bool (decide (k ∈ [3, 5, 8])), .bool (decide (k ∈ [3])), .bool (decide (k ∈ [5])), .bool (decide (k ∈ [7])), .bool (decide (k ∈ [9]))]) str_names ?_
  (repeat first | refine gS ?_ | refine gA fun _ => ?_ | refine gX fun _ _ => ?_ | refine gT ?_ | refine gF ?_ | refine gI ?_)
  have e : ([.bool (decide (k ∈ [1, 2])), .bool (decide (k ∈ [3, 4, 5, 6])), .bool (decide (k ∈ [3, 4])), .bool (decide (k ∈ [3, 5, 8])), .bool (decide (k ∈ [3])), .bool (decide (k ∈ [5])), .bool (decide (k ∈ [7])), .bool (decide (k ∈ [9]))] : List Value) = nmL k := by
    simp [nPlace, nName, nGen, nTime]
  rw [e]
  exact sm h
end Go.Proofs.YtjafpncngmbcdaaGreat.Nam
