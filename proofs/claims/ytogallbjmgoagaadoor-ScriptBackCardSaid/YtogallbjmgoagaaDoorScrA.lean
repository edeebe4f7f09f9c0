/-
  Script: what stops a reading; numbers, names.
-/
import Derived.Test.YtogallbjmgoagaaDoorSlB
import Derived.Test.YtogallbjmgoagaaDoorShT
import Derived.Test.YtogallbjmgoagaaDoorShelf
import Derived.Lib.IndexLaws
set_option linter.unusedSimpArgs false
set_option linter.unusedVariables false
set_option linter.unusedSectionVars false
namespace Go.Proofs.YtogallbjmgoagaaDoor.Scr
open Go Go.SL Go.Proofs Go.Proofs.YtogallbjmgoagaaDoor.Sh
variable {B : World} {H : List Asrt} {K : Value → WT} {W : WT}
abbrev fault : Value := .iface 46 (.agg #[])
theorem str_fault : Str Tryd.prog 46 [] [] := str_of (zv := .agg #[]) (by kernel_rfl) (by kernel_rfl) rfl
/-- May a name be so? -/
def nameOk (s : List UInt8) : Bool := decide (s ≠ [] ∧ s.length ≤ 32 ∧ ∀ c ∈ s, 33 ≤ c.toNat ∧ c.toNat ≤ 126)
theorem E_chrL {s : List UInt8} {i : Nat} {c : UInt8} {k : IntKind} (hs : s[i]? = some c) (h : E B H (K (.int .u8 (c.toNat : Int)))) : E B H (S.chr (str s) (.int k (i : Int)) K) := by
  have hl : i < s.length := (List.getElem?_eq_some_iff.1 hs).1
  have hi : ((i : Int)).toNat < (⟨s.toArray⟩ : ByteArray).size := by rw [strSize]; simpa using hl
  refine E_chr (by omega) hi ?_
  have e : (⟨s.toArray⟩ : ByteArray)[((i : Int)).toNat]'hi = c := by
    have h2 : s[i] = c := by rw [List.getElem?_eq_getElem hl] at hs; exact Option.some.inj hs
    show s.toArray[((i : Int)).toNat]'_ = c
    simpa using h2
  rw [e]; exact h
theorem E_slcL {s : List UInt8} {lo hi : Option Value} {i j : Nat} (h1 : S.bound hi s.length = some j) (h2 : S.bound lo 0 = some i) (h3 : i ≤ j) (h4 : j ≤ s.length) (h : E B H (K (str ((s.drop i).take (j - i))))) : E B H (S.slcS (str s) lo hi K) := fun w hw =>
  ⟨i, j, by rw [strSize]; exact h1, h2, h3, by rw [strSize]; exact h4, by rw [strMid]; exact h w hw⟩
attribute [local irreducible] S.pick S.ld S.ldN S.st S.box S.nc S.fad S.ixS S.ixA S.chr S.prt S.ext S.bin S.sh S.sbin S.beq S.neg1 S.com1 S.not1 S.cvt S.str1 S.lenS S.len S.cap S.lenM S.mx S.mn S.mkM S.cond S.gd S.fa S.dr S.rck S.join S.loop S.cvv S.eqv S.slc S.slcS S.b2s S.lk V U CF Gives E cel mpb osl ros dct dit itr lpo dfo
set_option maxRecDepth 4000
theorem must [A : Amb] {b : Bool} (h1 : b = true → E B H (K (.tuple #[]))) (h2 : b = false → E B H (A.pn fault)) : E B H (CF Tryd.prog 34 [.bool b] K) := by
  refine E_mono (W := s34 _ K) ?_ fun _ => c34
  unfold s34
  refine E_notb ?_
  refine E_ifb (fun hb => ?_) (fun hb => ?_)
  · refine E_build (l := []) str_fault ?_
    exact E_pan (h2 (by simpa using hb))
  · exact h1 (by simpa using hb)
theorem recName [Amb] {s : List UInt8} (hm : s.length ≤ 9223372036854775807) (h : E B H (K (.bool (nameOk s)))) : E B H (CF Tryd.prog 49 [str s] K) := by
  refine E_mono (W := s49 _ K) ?_ fun _ => c49
  unfold s49
  refine E_lenstr ?_
  refine E_loop (σ := Nat) (fun i => i ≤ s.length ∧ ∀ j c, j < i → s[j]? = some c → 33 ≤ c.toNat ∧ c.toNat ≤ 126) (fun i => [str s, I s.length, I i]) (fun _ => H) (fun i => s.length - i) 0 (fun _ => rfl) rfl ⟨Nat.zero_le _, by omega⟩ (fun W hW => hW) ?_
  rintro i K0 ⟨hi, ha⟩ hk
  refine E_fa fun _ => ?_
  refine E_lss ?_
  refine E_if (fun hc => ?_) (fun hc => ?_)
  · have hs : s[i]? = some s[i] := List.getElem?_eq_getElem (by omega)
    generalize s[i] = c at hs
    refine E_join1 [str s, I s.length, I i, .bool (decide (c.toNat < 33 ∨ 126 < c.toNat))] H (fun q hq => ?_) ?_
    · have fin : ∀ q' : Bool, decide (c.toNat < 33 ∨ 126 < c.toNat) = q' → E B H (app 4 q [str s, I s.length, I i, .bool q']) := fun q' h => h ▸ hq
      refine E_chrL hs ?_
      refine E_lss ?_
      by_cases h1 : (c.toNat : Int) < 33
      · (repeat (first | refine goS ?_ | refine E_box fun _ => ?_ | refine E_fa fun _ => ?_ | refine E_ptfad0 fun _ _ => ?_ | refine E_ptfad fun _ _ => ?_ | refine E_rsix (by assumption) fun _ _ => ?_ | refine E_ifT (by first | assumption | decide) ?_ | refine E_ifF (by first | assumption | decide) ?_ | refine E_gdT (by first | assumption | decide) ?_ | refine E_gdF (by first | assumption | decide) ?_ | refine E_gdnT (by first | assumption | decide) ?_ | refine E_gdnF (by first | assumption | decide) ?_ | refine E_pickT (by first | assumption | decide) ?_ | refine E_pickF (by first | assumption | decide) ?_ | refine E_ixN (by omega) ?_ | refine E_ld' (by assumption) ?_ | refine E_addI (by omega) (by omega) ?_ | refine E_subI (by omega) (by omega) ?_ | refine E_mulI (by omega) (by omega) ?_))
        exact fin _ (decide_eq_true (by omega))
      · (repeat (first | refine goS ?_ | refine E_box fun _ => ?_ | refine E_fa fun _ => ?_ | refine E_ptfad0 fun _ _ => ?_ | refine E_ptfad fun _ _ => ?_ | refine E_rsix (by assumption) fun _ _ => ?_ | refine E_ifT (by first | assumption | decide) ?_ | refine E_ifF (by first | assumption | decide) ?_ | refine E_gdT (by first | assumption | decide) ?_ | refine E_gdF (by first | assumption | decide) ?_ | refine E_gdnT (by first | assumption | decide) ?_ | refine E_gdnF (by first | assumption | decide) ?_ | refine E_pickT (by first | assumption | decide) ?_ | refine E_pickF (by first | assumption | decide) ?_ | refine E_ixN (by omega) ?_ | refine E_ld' (by assumption) ?_ | refine E_addI (by omega) (by omega) ?_ | refine E_subI (by omega) (by omega) ?_ | refine E_mulI (by omega) (by omega) ?_))
        refine E_chrL hs ?_
        (repeat (first | refine goS ?_ | refine E_box fun _ => ?_ | refine E_fa fun _ => ?_ | refine E_ptfad0 fun _ _ => ?_ | refine E_ptfad fun _ _ => ?_ | refine E_rsix (by assumption) fun _ _ => ?_ | refine E_ifT (by first | assumption | decide) ?_ | refine E_ifF (by first | assumption | decide) ?_ | refine E_gdT (by first | assumption | decide) ?_ | refine E_gdF (by first | assumption | decide) ?_ | refine E_gdnT (by first | assumption | decide) ?_ | refine E_gdnF (by first | assumption | decide) ?_ | refine E_pickT (by first | assumption | decide) ?_ | refine E_pickF (by first | assumption | decide) ?_ | refine E_ixN (by omega) ?_ | refine E_ld' (by assumption) ?_ | refine E_addI (by omega) (by omega) ?_ | refine E_subI (by omega) (by omega) ?_ | refine E_mulI (by omega) (by omega) ?_))
        refine fin _ ?_
        rw [decide_eq_decide]; omega
    refine E_fa fun _ => ?_
    refine E_if (fun hb => ?_) (fun hb => ?_)
    · have : nameOk s = false := decide_eq_false fun h => by
        have := h.2.2 c (List.mem_of_getElem? hs); omega
      rw [this] at h; exact h
    · refine E_addI (by omega) (by omega) ?_
      refine hk (i + 1) ⟨by omega, fun j d hj hd => ?_⟩ (by omega)
      by_cases hji : j = i
      · subst hji; rw [hs] at hd; cases hd; omega
      · exact ha j d (by omega) hd
  · have hall : ∀ c ∈ s, 33 ≤ c.toNat ∧ c.toNat ≤ 126 := fun c hc' => by
      obtain ⟨j, hj, rfl⟩ := List.getElem_of_mem hc'
      exact ha j _ (by omega) (List.getElem?_eq_getElem hj)
    refine E_strne (b := []) ?_
    by_cases h0 : s ≠ []
    · by_cases h32 : (s.length : Int) ≤ 32
      · have : nameOk s = true := decide_eq_true ⟨h0, by omega, hall⟩
        rw [this] at h
        (repeat (first | refine goS ?_ | refine E_box fun _ => ?_ | refine E_fa fun _ => ?_ | refine E_ptfad0 fun _ _ => ?_ | refine E_ptfad fun _ _ => ?_ | refine E_rsix (by assumption) fun _ _ => ?_ | refine E_ifT (by first | assumption | decide) ?_ | refine E_ifF (by first | assumption | decide) ?_ | refine E_gdT (by first | assumption | decide) ?_ | refine E_gdF (by first | assumption | decide) ?_ | refine E_gdnT (by first | assumption | decide) ?_ | refine E_gdnF (by first | assumption | decide) ?_ | refine E_pickT (by first | assumption | decide) ?_ | refine E_pickF (by first | assumption | decide) ?_ | refine E_ixN (by omega) ?_ | refine E_ld' (by assumption) ?_ | refine E_addI (by omega) (by omega) ?_ | refine E_subI (by omega) (by omega) ?_ | refine E_mulI (by omega) (by omega) ?_))
        rw [decide_eq_true h32]
        exact h
      · have : nameOk s = false := decide_eq_false fun h => by omega
        rw [this] at h
        (repeat (first | refine goS ?_ | refine E_box fun _ => ?_ | refine E_fa fun _ => ?_ | refine E_ptfad0 fun _ _ => ?_ | refine E_ptfad fun _ _ => ?_ | refine E_rsix (by assumption) fun _ _ => ?_ | refine E_ifT (by first | assumption | decide) ?_ | refine E_ifF (by first | assumption | decide) ?_ | refine E_gdT (by first | assumption | decide) ?_ | refine E_gdF (by first | assumption | decide) ?_ | refine E_gdnT (by first | assumption | decide) ?_ | refine E_gdnF (by first | assumption | decide) ?_ | refine E_pickT (by first | assumption | decide) ?_ | refine E_pickF (by first | assumption | decide) ?_ | refine E_ixN (by omega) ?_ | refine E_ld' (by assumption) ?_ | refine E_addI (by omega) (by omega) ?_ | refine E_subI (by omega) (by omega) ?_ | refine E_mulI (by omega) (by omega) ?_))
        rw [decide_eq_false h32]
        exact h
    · have : nameOk s = false := decide_eq_false fun h => h0 h.1
      rw [this] at h
      (repeat (first | refine goS ?_ | refine E_box fun _ => ?_ | refine E_fa fun _ => ?_ | refine E_ptfad0 fun _ _ => ?_ | refine E_ptfad fun _ _ => ?_ | refine E_rsix (by assumption) fun _ _ => ?_ | refine E_ifT (by first | assumption | decide) ?_ | refine E_ifF (by first | assumption | decide) ?_ | refine E_gdT (by first | assumption | decide) ?_ | refine E_gdF (by first | assumption | decide) ?_ | refine E_gdnT (by first | assumption | decide) ?_ | refine E_gdnF (by first | assumption | decide) ?_ | refine E_pickT (by first | assumption | decide) ?_ | refine E_pickF (by first | assumption | decide) ?_ | refine E_ixN (by omega) ?_ | refine E_ld' (by assumption) ?_ | refine E_addI (by omega) (by omega) ?_ | refine E_subI (by omega) (by omega) ?_ | refine E_mulI (by omega) (by omega) ?_))
      exact h
def valW (w : List UInt8) : Nat := w.foldl (fun n c => 10 * n + (c.toNat - 48)) 0
def digW (w : List UInt8) : Prop := ∀ c ∈ w, 48 ≤ c.toNat ∧ c.toNat ≤ 57
instance (w : List UInt8) : Decidable (digW w) := inferInstanceAs (Decidable (∀ c ∈ w, _))
def formW (w : List UInt8) : Prop := w = [48] ∨ (w ≠ [] ∧ w.head? ≠ some 48 ∧ w.length ≤ 16)
instance (w : List UInt8) : Decidable (formW w) := inferInstanceAs (Decidable (_ ∨ _))
/-- A word's number. -/
def numW (w : List UInt8) : Option Nat := if formW w ∧ digW w ∧ valW w ≤ 9007199254740991 then some (valW w) else none
theorem valW_snoc (w : List UInt8) (c : UInt8) : valW (w ++ [c]) = 10 * valW w + (c.toNat - 48) := by simp [valW]
theorem valW_lt {w : List UInt8} (h : digW w) : valW w < 10 ^ w.length := by
  have key : ∀ (l : List UInt8) (n k : Nat), (∀ c ∈ l, 48 ≤ c.toNat ∧ c.toNat ≤ 57) → n < 10 ^ k → l.foldl (fun n c => 10 * n + (c.toNat - 48)) n < 10 ^ (k + l.length) := by
    intro l
    induction l with
    | nil => intro n k _ h; exact h
    | cons c l ih =>
      intro n k hl hn
      have hc := hl c (List.mem_cons_self ..)
      have := ih (10 * n + (c.toNat - 48)) (k + 1) (fun d hd => hl d (List.mem_cons_of_mem _ hd)) (by rw [Nat.pow_succ]; omega)
      rw [List.length_cons, show k + (l.length + 1) = k + 1 + l.length by omega]
      exact this
  have := key w 0 0 h (by decide)
  rw [Nat.zero_add] at this
  exact this
theorem parsed [A : Amb] {w : List UInt8} (hm : w.length ≤ 9223372036854775807) (h1 : ∀ n, numW w = some n → n ≤ 9007199254740991 → E B H (K (I n))) (h2 : numW w = none → E B H (A.pn fault)) : E B H (CF Tryd.prog 50 [str w] K) := by
  refine E_mono (W := s50 _ K) ?_ fun _ => c50
  unfold s50
  have bad : ¬ (formW w ∧ digW w ∧ valW w ≤ 9007199254740991) → E B H (A.pn fault) := fun h => h2 (if_neg h)
  by_cases hf : formW w
  rotate_left
  · refine E_join0 ?_
    have hno : w ≠ [48] := fun h => hf (.inl h)
    refine E_streq ?_
    cases w with
    | nil =>
      (repeat (first | refine goS ?_ | refine E_box fun _ => ?_ | refine E_fa fun _ => ?_ | refine E_ptfad0 fun _ _ => ?_ | refine E_ptfad fun _ _ => ?_ | refine E_rsix (by assumption) fun _ _ => ?_ | refine E_ifT (by first | assumption | decide) ?_ | refine E_ifF (by first | assumption | decide) ?_ | refine E_gdT (by first | assumption | decide) ?_ | refine E_gdF (by first | assumption | decide) ?_ | refine E_gdnT (by first | assumption | decide) ?_ | refine E_gdnF (by first | assumption | decide) ?_ | refine E_pickT (by first | assumption | decide) ?_ | refine E_pickF (by first | assumption | decide) ?_ | refine E_ixN (by omega) ?_ | refine E_ld' (by assumption) ?_ | refine E_addI (by omega) (by omega) ?_ | refine E_subI (by omega) (by omega) ?_ | refine E_mulI (by omega) (by omega) ?_))
      refine must (fun h => by simp at h) fun _ => bad fun h => hf h.1
    | cons c t =>
      have hne : c :: t ≠ [] := by simp
      (repeat (first | refine goS ?_ | refine E_box fun _ => ?_ | refine E_fa fun _ => ?_ | refine E_ptfad0 fun _ _ => ?_ | refine E_ptfad fun _ _ => ?_ | refine E_rsix (by assumption) fun _ _ => ?_ | refine E_ifT (by first | assumption | decide) ?_ | refine E_ifF (by first | assumption | decide) ?_ | refine E_gdT (by first | assumption | decide) ?_ | refine E_gdF (by first | assumption | decide) ?_ | refine E_gdnT (by first | assumption | decide) ?_ | refine E_gdnF (by first | assumption | decide) ?_ | refine E_pickT (by first | assumption | decide) ?_ | refine E_pickF (by first | assumption | decide) ?_ | refine E_ixN (by omega) ?_ | refine E_ld' (by assumption) ?_ | refine E_addI (by omega) (by omega) ?_ | refine E_subI (by omega) (by omega) ?_ | refine E_mulI (by omega) (by omega) ?_))
      refine E_chrL (i := 0) (c := c) rfl ?_
      by_cases hc : ((c.toNat : Int) ≠ 48)
      · have hl : ¬ (((c :: t).length : Int) ≤ 16) := fun hl => hf (.inr ⟨hne, fun he => by
          rw [List.head?_cons] at he
          have := Option.some.inj he
          subst this
          exact hc rfl, by omega⟩)
        (repeat (first | refine goS ?_ | refine E_box fun _ => ?_ | refine E_fa fun _ => ?_ | refine E_ptfad0 fun _ _ => ?_ | refine E_ptfad fun _ _ => ?_ | refine E_rsix (by assumption) fun _ _ => ?_ | refine E_ifT (by first | assumption | decide) ?_ | refine E_ifF (by first | assumption | decide) ?_ | refine E_gdT (by first | assumption | decide) ?_ | refine E_gdF (by first | assumption | decide) ?_ | refine E_gdnT (by first | assumption | decide) ?_ | refine E_gdnF (by first | assumption | decide) ?_ | refine E_pickT (by first | assumption | decide) ?_ | refine E_pickF (by first | assumption | decide) ?_ | refine E_ixN (by omega) ?_ | refine E_ld' (by assumption) ?_ | refine E_addI (by omega) (by omega) ?_ | refine E_subI (by omega) (by omega) ?_ | refine E_mulI (by omega) (by omega) ?_))
        rw [decide_eq_false hl]
        (repeat (first | refine goS ?_ | refine E_box fun _ => ?_ | refine E_fa fun _ => ?_ | refine E_ptfad0 fun _ _ => ?_ | refine E_ptfad fun _ _ => ?_ | refine E_rsix (by assumption) fun _ _ => ?_ | refine E_ifT (by first | assumption | decide) ?_ | refine E_ifF (by first | assumption | decide) ?_ | refine E_gdT (by first | assumption | decide) ?_ | refine E_gdF (by first | assumption | decide) ?_ | refine E_gdnT (by first | assumption | decide) ?_ | refine E_gdnF (by first | assumption | decide) ?_ | refine E_pickT (by first | assumption | decide) ?_ | refine E_pickF (by first | assumption | decide) ?_ | refine E_ixN (by omega) ?_ | refine E_ld' (by assumption) ?_ | refine E_addI (by omega) (by omega) ?_ | refine E_subI (by omega) (by omega) ?_ | refine E_mulI (by omega) (by omega) ?_))
        refine must (fun h => by simp at h) fun _ => bad fun h => hf h.1
      · (repeat (first | refine goS ?_ | refine E_box fun _ => ?_ | refine E_fa fun _ => ?_ | refine E_ptfad0 fun _ _ => ?_ | refine E_ptfad fun _ _ => ?_ | refine E_rsix (by assumption) fun _ _ => ?_ | refine E_ifT (by first | assumption | decide) ?_ | refine E_ifF (by first | assumption | decide) ?_ | refine E_gdT (by first | assumption | decide) ?_ | refine E_gdF (by first | assumption | decide) ?_ | refine E_gdnT (by first | assumption | decide) ?_ | refine E_gdnF (by first | assumption | decide) ?_ | refine E_pickT (by first | assumption | decide) ?_ | refine E_pickF (by first | assumption | decide) ?_ | refine E_ixN (by omega) ?_ | refine E_ld' (by assumption) ?_ | refine E_addI (by omega) (by omega) ?_ | refine E_subI (by omega) (by omega) ?_ | refine E_mulI (by omega) (by omega) ?_))
        refine must (fun h => by simp at h) fun _ => bad fun h => hf h.1
  have h16 : w.length ≤ 16 := by
    rcases hf with rfl | h
    · decide
    · exact h.2.2
  refine E_join1 [str w, I 0] H (fun k hk => ?_) ?_
  · refine E_streq ?_
    by_cases h0 : w = [48]
    · (repeat (first | refine goS ?_ | refine E_box fun _ => ?_ | refine E_fa fun _ => ?_ | refine E_ptfad0 fun _ _ => ?_ | refine E_ptfad fun _ _ => ?_ | refine E_rsix (by assumption) fun _ _ => ?_ | refine E_ifT (by first | assumption | decide) ?_ | refine E_ifF (by first | assumption | decide) ?_ | refine E_gdT (by first | assumption | decide) ?_ | refine E_gdF (by first | assumption | decide) ?_ | refine E_gdnT (by first | assumption | decide) ?_ | refine E_gdnF (by first | assumption | decide) ?_ | refine E_pickT (by first | assumption | decide) ?_ | refine E_pickF (by first | assumption | decide) ?_ | refine E_ixN (by omega) ?_ | refine E_ld' (by assumption) ?_ | refine E_addI (by omega) (by omega) ?_ | refine E_subI (by omega) (by omega) ?_ | refine E_mulI (by omega) (by omega) ?_))
      exact must (fun _ => hk) fun h => by simp at h
    · rcases hf with hf | ⟨hne, hhd, _⟩
      · exact (h0 hf).elim
      cases w with
      | nil => exact (hne rfl).elim
      | cons c t =>
        (repeat (first | refine goS ?_ | refine E_box fun _ => ?_ | refine E_fa fun _ => ?_ | refine E_ptfad0 fun _ _ => ?_ | refine E_ptfad fun _ _ => ?_ | refine E_rsix (by assumption) fun _ _ => ?_ | refine E_ifT (by first | assumption | decide) ?_ | refine E_ifF (by first | assumption | decide) ?_ | refine E_gdT (by first | assumption | decide) ?_ | refine E_gdF (by first | assumption | decide) ?_ | refine E_gdnT (by first | assumption | decide) ?_ | refine E_gdnF (by first | assumption | decide) ?_ | refine E_pickT (by first | assumption | decide) ?_ | refine E_pickF (by first | assumption | decide) ?_ | refine E_ixN (by omega) ?_ | refine E_ld' (by assumption) ?_ | refine E_addI (by omega) (by omega) ?_ | refine E_subI (by omega) (by omega) ?_ | refine E_mulI (by omega) (by omega) ?_))
        refine E_chrL (i := 0) (c := c) rfl ?_
        have hc : ((c.toNat : Int) ≠ 48) := fun he => hhd (by
          rw [List.head?_cons]
          congr 1
          exact UInt8.toNat_inj.1 (by rw [show c.toNat = 48 by omega]; rfl))
        have hl : (((c :: t).length : Int) ≤ 16) := by omega
        (repeat (first | refine goS ?_ | refine E_box fun _ => ?_ | refine E_fa fun _ => ?_ | refine E_ptfad0 fun _ _ => ?_ | refine E_ptfad fun _ _ => ?_ | refine E_rsix (by assumption) fun _ _ => ?_ | refine E_ifT (by first | assumption | decide) ?_ | refine E_ifF (by first | assumption | decide) ?_ | refine E_gdT (by first | assumption | decide) ?_ | refine E_gdF (by first | assumption | decide) ?_ | refine E_gdnT (by first | assumption | decide) ?_ | refine E_gdnF (by first | assumption | decide) ?_ | refine E_pickT (by first | assumption | decide) ?_ | refine E_pickF (by first | assumption | decide) ?_ | refine E_ixN (by omega) ?_ | refine E_ld' (by assumption) ?_ | refine E_addI (by omega) (by omega) ?_ | refine E_subI (by omega) (by omega) ?_ | refine E_mulI (by omega) (by omega) ?_))
        rw [decide_eq_true hl]
        (repeat (first | refine goS ?_ | refine E_box fun _ => ?_ | refine E_fa fun _ => ?_ | refine E_ptfad0 fun _ _ => ?_ | refine E_ptfad fun _ _ => ?_ | refine E_rsix (by assumption) fun _ _ => ?_ | refine E_ifT (by first | assumption | decide) ?_ | refine E_ifF (by first | assumption | decide) ?_ | refine E_gdT (by first | assumption | decide) ?_ | refine E_gdF (by first | assumption | decide) ?_ | refine E_gdnT (by first | assumption | decide) ?_ | refine E_gdnF (by first | assumption | decide) ?_ | refine E_pickT (by first | assumption | decide) ?_ | refine E_pickF (by first | assumption | decide) ?_ | refine E_ixN (by omega) ?_ | refine E_ld' (by assumption) ?_ | refine E_addI (by omega) (by omega) ?_ | refine E_subI (by omega) (by omega) ?_ | refine E_mulI (by omega) (by omega) ?_))
        exact must (fun _ => hk) fun h => by simp at h
  refine E_fa fun _ => ?_
  refine E_lenstr ?_
  refine E_loop (σ := Nat) (fun i => i ≤ w.length ∧ digW (w.take i)) (fun i => [str w, I (valW (w.take i)), I w.length, I i]) (fun _ => H) (fun i => w.length - i) 0 (fun _ => rfl) rfl ⟨Nat.zero_le _, by intro c h; simp at h⟩ (fun W hW => hW) ?_
  rintro i K0 ⟨hi, hd⟩ hk
  refine E_fa fun _ => ?_
  have hv := valW_lt hd
  have hvb : valW (w.take i) < 10 ^ 16 := Nat.lt_of_lt_of_le hv (Nat.pow_le_pow_right (by decide) (by rw [List.length_take]; omega))
  refine E_lss ?_
  refine E_if (fun hc => ?_) (fun hc => ?_)
  · have hs : w[i]? = some w[i] := List.getElem?_eq_getElem (by omega)
    generalize w[i] = c at hs
    have htk : w.take (i + 1) = w.take i ++ [c] := by rw [List.take_add_one, hs]; rfl
    by_cases hdc : 48 ≤ c.toNat ∧ c.toNat ≤ 57
    · refine E_join1 [str w, I (valW (w.take i)), I i, I w.length, I i] H (fun q hq => ?_) ?_
      · refine E_chrL hs ?_
        have g1 : ((c.toNat : Int) ≥ 48) := by omega
        have g2 : ((c.toNat : Int) ≤ 57) := by omega
        (repeat (first | refine goS ?_ | refine E_box fun _ => ?_ | refine E_fa fun _ => ?_ | refine E_ptfad0 fun _ _ => ?_ | refine E_ptfad fun _ _ => ?_ | refine E_rsix (by assumption) fun _ _ => ?_ | refine E_ifT (by first | assumption | decide) ?_ | refine E_ifF (by first | assumption | decide) ?_ | refine E_gdT (by first | assumption | decide) ?_ | refine E_gdF (by first | assumption | decide) ?_ | refine E_gdnT (by first | assumption | decide) ?_ | refine E_gdnF (by first | assumption | decide) ?_ | refine E_pickT (by first | assumption | decide) ?_ | refine E_pickF (by first | assumption | decide) ?_ | refine E_ixN (by omega) ?_ | refine E_ld' (by assumption) ?_ | refine E_addI (by omega) (by omega) ?_ | refine E_subI (by omega) (by omega) ?_ | refine E_mulI (by omega) (by omega) ?_))
        refine E_chrL hs ?_
        (repeat (first | refine goS ?_ | refine E_box fun _ => ?_ | refine E_fa fun _ => ?_ | refine E_ptfad0 fun _ _ => ?_ | refine E_ptfad fun _ _ => ?_ | refine E_rsix (by assumption) fun _ _ => ?_ | refine E_ifT (by first | assumption | decide) ?_ | refine E_ifF (by first | assumption | decide) ?_ | refine E_gdT (by first | assumption | decide) ?_ | refine E_gdF (by first | assumption | decide) ?_ | refine E_gdnT (by first | assumption | decide) ?_ | refine E_gdnF (by first | assumption | decide) ?_ | refine E_pickT (by first | assumption | decide) ?_ | refine E_pickF (by first | assumption | decide) ?_ | refine E_ixN (by omega) ?_ | refine E_ld' (by assumption) ?_ | refine E_addI (by omega) (by omega) ?_ | refine E_subI (by omega) (by omega) ?_ | refine E_mulI (by omega) (by omega) ?_))
        rw [decide_eq_true g2]
        exact must (fun _ => hq) fun h => by simp at h
      refine E_fa fun _ => ?_
      refine E_mulI (by omega) (by omega) ?_
      refine E_chrL hs ?_
      have e8 : IntKind.wrap .u8 ((c.toNat : Int) - 48) = ((c.toNat - 48 : Nat) : Int) := by
        have hb := c.toNat_lt
        unfold IntKind.wrap
        simp [IntKind.signed, IntKind.bits]
        omega
      refine E_sub ?_
      rw [e8]
      refine E_cvtI (by omega) (by omega) ?_
      refine E_addI (by omega) (by omega) ?_
      refine E_addI (by omega) (by omega) ?_
      have hk' := hk (i + 1) ⟨by omega, by
        rw [htk]; intro d hdm
        rcases List.mem_append.1 hdm with h | h
        · exact hd d h
        · rw [List.mem_singleton.1 h]; exact hdc⟩ (by omega)
      rw [htk, valW_snoc] at hk'
      have ev : ((10 * valW (w.take i) + (c.toNat - 48) : Nat) : Int) = 10 * (valW (w.take i) : Int) + ((c.toNat - 48 : Nat) : Int) := by omega
      rw [ev] at hk'
      exact hk'
    · have hbad : E B H (A.pn fault) := bad fun h => hdc (h.2.1 c (List.mem_of_getElem? hs))
      refine E_join0 ?_
      refine E_chrL hs ?_
      by_cases g1 : ((c.toNat : Int) ≥ 48)
      · have g2 : ¬ ((c.toNat : Int) ≤ 57) := by omega
        (repeat (first | refine goS ?_ | refine E_box fun _ => ?_ | refine E_fa fun _ => ?_ | refine E_ptfad0 fun _ _ => ?_ | refine E_ptfad fun _ _ => ?_ | refine E_rsix (by assumption) fun _ _ => ?_ | refine E_ifT (by first | assumption | decide) ?_ | refine E_ifF (by first | assumption | decide) ?_ | refine E_gdT (by first | assumption | decide) ?_ | refine E_gdF (by first | assumption | decide) ?_ | refine E_gdnT (by first | assumption | decide) ?_ | refine E_gdnF (by first | assumption | decide) ?_ | refine E_pickT (by first | assumption | decide) ?_ | refine E_pickF (by first | assumption | decide) ?_ | refine E_ixN (by omega) ?_ | refine E_ld' (by assumption) ?_ | refine E_addI (by omega) (by omega) ?_ | refine E_subI (by omega) (by omega) ?_ | refine E_mulI (by omega) (by omega) ?_))
        refine E_chrL hs ?_
        (repeat (first | refine goS ?_ | refine E_box fun _ => ?_ | refine E_fa fun _ => ?_ | refine E_ptfad0 fun _ _ => ?_ | refine E_ptfad fun _ _ => ?_ | refine E_rsix (by assumption) fun _ _ => ?_ | refine E_ifT (by first | assumption | decide) ?_ | refine E_ifF (by first | assumption | decide) ?_ | refine E_gdT (by first | assumption | decide) ?_ | refine E_gdF (by first | assumption | decide) ?_ | refine E_gdnT (by first | assumption | decide) ?_ | refine E_gdnF (by first | assumption | decide) ?_ | refine E_pickT (by first | assumption | decide) ?_ | refine E_pickF (by first | assumption | decide) ?_ | refine E_ixN (by omega) ?_ | refine E_ld' (by assumption) ?_ | refine E_addI (by omega) (by omega) ?_ | refine E_subI (by omega) (by omega) ?_ | refine E_mulI (by omega) (by omega) ?_))
        rw [decide_eq_false g2]
        exact must (fun h => by simp at h) fun _ => hbad
      · (repeat (first | refine goS ?_ | refine E_box fun _ => ?_ | refine E_fa fun _ => ?_ | refine E_ptfad0 fun _ _ => ?_ | refine E_ptfad fun _ _ => ?_ | refine E_rsix (by assumption) fun _ _ => ?_ | refine E_ifT (by first | assumption | decide) ?_ | refine E_ifF (by first | assumption | decide) ?_ | refine E_gdT (by first | assumption | decide) ?_ | refine E_gdF (by first | assumption | decide) ?_ | refine E_gdnT (by first | assumption | decide) ?_ | refine E_gdnF (by first | assumption | decide) ?_ | refine E_pickT (by first | assumption | decide) ?_ | refine E_pickF (by first | assumption | decide) ?_ | refine E_ixN (by omega) ?_ | refine E_ld' (by assumption) ?_ | refine E_addI (by omega) (by omega) ?_ | refine E_subI (by omega) (by omega) ?_ | refine E_mulI (by omega) (by omega) ?_))
        exact must (fun h => by simp at h) fun _ => hbad
  · have ei : i = w.length := by omega
    subst ei
    rw [List.take_length] at hd hv hvb ⊢
    refine E_leq ?_
    by_cases ht : (valW w : Int) ≤ 9007199254740991
    · rw [decide_eq_true ht]
      refine must (fun _ => h1 _ (if_pos ⟨hf, hd, by omega⟩) (by omega)) fun h => by simp at h
    · rw [decide_eq_false ht]
      refine must (fun h => by simp at h) fun _ => bad fun h => ht (by omega)
theorem litIndex [Amb] {s : List UInt8} {c : UInt8} (h : E B H (K (I (Lib.indexByte s c)))) : E B H (CF Tryd.prog 66 [str s, str [c]] K) :=
  E_callSame (fun w => Tryd.stringslite_Index_one ⟨s.toArray⟩ c w) h
theorem litIndexByte [Amb] {s : List UInt8} {c : UInt8} (h : E B H (K (I (Lib.indexByte s c)))) : E B H (CF Tryd.prog 51 [str s, .int .u8 (c.toNat : Int)] K) := by
  refine E_callSame (fun w => Tryd.strings_IndexByte ⟨s.toArray⟩ c.toNat w) ?_
  have e : ((c.toNat : Int)).toNat.toUInt8 = c := by simp
  rw [e]; exact h
/-- What stands before the first blank, and behind it; no blank: all of it, and that there is none. -/
def cutW (s : List UInt8) : List UInt8 × List UInt8 × Bool := if 32 ∈ s then (s.takeWhile (· != 32), (s.dropWhile (· != 32)).drop 1, true) else (s, [], false)
theorem while_at {c : UInt8} : ∀ {s : List UInt8} {n : Nat}, s[n]? = some c → (∀ k, k < n → s[k]? ≠ some c) → s.takeWhile (· != c) = s.take n ∧ s.dropWhile (· != c) = s.drop n
  | [], n, h, _ => by simp at h
  | d :: s, 0, h, _ => by
    have : d = c := by simpa using h
    subst this
    simp [List.takeWhile_cons, List.dropWhile_cons]
  | d :: s, n + 1, h, h2 => by
    have hd : d ≠ c := fun he => h2 0 (by omega) (by rw [he]; rfl)
    have ih := while_at (s := s) (n := n) (by simpa using h) (fun k hk => by have := h2 (k + 1) (by omega); simpa using this)
    have hb : (d != c) = true := by simpa using hd
    simp [List.takeWhile_cons, List.dropWhile_cons, hb, ih.1, ih.2]
theorem cut [Amb] {s : List UInt8} (hm : s.length ≤ 9223372036854775806) (h : E B H (K (.tuple #[str (cutW s).1, str (cutW s).2.1, .bool (cutW s).2.2]))) : E B H (CF Tryd.prog 48 [str s, str [32]] K) := by
  refine E_mono (W := s48 _ _ K) ?_ fun _ => c48
  unfold s48
  refine E_mono (W := s59 _ _ _) ?_ fun _ => c59
  unfold s59
  refine litIndex ?_
  refine E_geq ?_
  refine E_if (fun hc => ?_) (fun hc => ?_)
  · obtain ⟨n, hn⟩ : ∃ n : Nat, Lib.indexByte s 32 = n := ⟨(Lib.indexByte s 32).toNat, by omega⟩
    obtain ⟨g1, g2⟩ := Lib.indexByte_some hn
    have hl : n < s.length := (List.getElem?_eq_some_iff.1 g1).1
    obtain ⟨w1, w2⟩ := while_at g1 g2
    have hcw : cutW s = (s.take n, s.drop (n + 1), true) := by
      unfold cutW
      rw [if_pos (List.mem_of_getElem? g1), w1, w2, List.drop_drop]
    rw [hcw] at h
    rw [hn]
    refine E_dr ?_
    refine E_slcL (i := 0) (j := n) (by simp [S.bound]) (by simp [S.bound]) (by omega) (by omega) ?_
    refine E_lenstr ?_
    refine E_addI (by simp; omega) (by simp; omega) ?_
    rw [show ((n : Int) + (([32] : List UInt8).length : Int)) = ((n + 1 : Nat) : Int) by simp]
    refine E_slcL (i := n + 1) (j := s.length) (by simp [S.bound]) (by simp only [S.bound, Int.toNat_natCast]; rw [decide_eq_true (by omega)]) (by omega) (by omega) ?_
    (repeat (first | refine goS ?_ | refine E_box fun _ => ?_ | refine E_fa fun _ => ?_ | refine E_ptfad0 fun _ _ => ?_ | refine E_ptfad fun _ _ => ?_ | refine E_rsix (by assumption) fun _ _ => ?_ | refine E_ifT (by first | assumption | decide) ?_ | refine E_ifF (by first | assumption | decide) ?_ | refine E_gdT (by first | assumption | decide) ?_ | refine E_gdF (by first | assumption | decide) ?_ | refine E_gdnT (by first | assumption | decide) ?_ | refine E_gdnF (by first | assumption | decide) ?_ | refine E_pickT (by first | assumption | decide) ?_ | refine E_pickF (by first | assumption | decide) ?_ | refine E_ixN (by omega) ?_ | refine E_ld' (by assumption) ?_ | refine E_addI (by omega) (by omega) ?_ | refine E_subI (by omega) (by omega) ?_ | refine E_mulI (by omega) (by omega) ?_))
    have e1 : (s.drop 0).take (n - 0) = s.take n := by simp
    have e2 : (s.drop (n + 1)).take (s.length - (n + 1)) = s.drop (n + 1) := List.take_of_length_le (by simp)
    rw [e1, e2]
    exact h
  · have hno : Lib.indexByte s 32 = -1 := by have := Lib.indexByte_ge s 32; omega
    have hcw : cutW s = (s, [], false) := by
      unfold cutW
      rw [if_neg fun hm => by
        obtain ⟨k, hk, he⟩ := List.getElem_of_mem hm
        exact Lib.indexByte_none hno k (by rw [List.getElem?_eq_getElem hk, he])]
    rw [hcw] at h
    (repeat (first | refine goS ?_ | refine E_box fun _ => ?_ | refine E_fa fun _ => ?_ | refine E_ptfad0 fun _ _ => ?_ | refine E_ptfad fun _ _ => ?_ | refine E_rsix (by assumption) fun _ _ => ?_ | refine E_ifT (by first | assumption | decide) ?_ | refine E_ifF (by first | assumption | decide) ?_ | refine E_gdT (by first | assumption | decide) ?_ | refine E_gdF (by first | assumption | decide) ?_ | refine E_gdnT (by first | assumption | decide) ?_ | refine E_gdnF (by first | assumption | decide) ?_ | refine E_pickT (by first | assumption | decide) ?_ | refine E_pickF (by first | assumption | decide) ?_ | refine E_ixN (by omega) ?_ | refine E_ld' (by assumption) ?_ | refine E_addI (by omega) (by omega) ?_ | refine E_subI (by omega) (by omega) ?_ | refine E_mulI (by omega) (by omega) ?_))
    exact h
end Go.Proofs.YtogallbjmgoagaaDoor.Scr
