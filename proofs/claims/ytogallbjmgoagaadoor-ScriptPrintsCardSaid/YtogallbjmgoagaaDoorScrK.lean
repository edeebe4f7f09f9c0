/-
  Script: the reference's words, numbers, names, bytes, crashes.
-/
import Derived.Test.YtogallbjmgoagaaDoorScrJ
set_option linter.unusedSimpArgs false
set_option linter.unusedVariables false
set_option linter.unusedSectionVars false
namespace Go.Proofs.YtogallbjmgoagaaDoor.Scr
open Go Go.SL Go.Proofs Go.Proofs.YtogallbjmgoagaaDoor.Sh
variable {B : World} {H : List Asrt} {K : Value → WT} {W : WT}
theorem formW_no {w : List UInt8} (h : w.length = 0 ∨ 16 < w.length ∨ (1 < w.length ∧ w.head? = some 48)) : ¬ formW w := fun hf => by
  rcases hf with rfl | ⟨h1, h2, h3⟩
  · rcases h with h | h | h
    · cases h
    · simp at h
    · simp at h
  · rcases h with h | h | h
    · exact h1 (List.length_eq_zero_iff.1 h)
    · omega
    · exact h2 h.2
theorem formW_yes {w : List UInt8} (h0 : w.length ≠ 0) (h1 : w.length ≤ 16) (h2 : ¬ (1 < w.length ∧ w.head? = some 48)) : formW w := by
  cases w with
  | nil => simp at h0
  | cons c t =>
    by_cases hc : c = 48
    · subst hc
      cases t with
      | nil => exact .inl rfl
      | cons d t => exact absurd ⟨by simp, by simp⟩ h2
    · exact .inr ⟨by simp, by simpa using hc, h1⟩
theorem joinB_snoc : ∀ (l : List (List UInt8)) (w : List UInt8), joinB (l ++ [w]) = if l = [] then w else joinB l ++ 32 :: w
  | [], w => rfl
  | [a], w => rfl
  | a :: b :: l, w => by
    have ih := joinB_snoc (b :: l) w
    rw [if_neg (by simp)] at ih ⊢
    show a ++ 32 :: joinB (b :: l ++ [w]) = (a ++ 32 :: joinB (b :: l)) ++ 32 :: w
    rw [ih]; simp
theorem joinB_take {l : List (List UInt8)} (i : Nat) : (joinB (l.take i)).length ≤ (joinB l).length := by
  induction l generalizing i with
  | nil => simp [joinB]
  | cons a l ih =>
    cases i with
    | zero => simp [joinB]
    | succ i =>
      rw [List.take_succ_cons]
      cases l with
      | nil => simp [joinB]
      | cons b l =>
        cases i with
        | zero => simp [joinB]
        | succ i =>
          have := ih (i + 1)
          rw [List.take_succ_cons] at this ⊢
          show (a ++ 32 :: joinB (b :: l.take i)).length ≤ (a ++ 32 :: joinB (b :: l)).length
          simp at this ⊢; omega
theorem u8c {a : UInt8} {n : Nat} (hn : n < 256) : ((a.toNat : Int) = (n : Int)) ↔ a = UInt8.ofNat n := by
  constructor
  · intro h; apply UInt8.toNat_inj.1; rw [show a.toNat = n by omega]; simp; omega
  · intro h; subst h; simp; omega
theorem stepW_set {out : List (List UInt8)} {c : UInt8} {x : List UInt8} {n : Nat} (hc : c ≠ 32) (hn : out.length = n + 1) (hx : out[n]? = some x) : stepW out c = out.set n (x ++ [c]) := by
  unfold stepW
  rw [if_neg hc]
  have hl : out.getLast? = some x := by rw [List.getLast?_eq_getElem?, hn]; exact hx
  rw [hl, List.set_eq_take_append_cons_drop, if_pos (by omega), List.dropLast_eq_take, hn]
  rw [List.drop_of_length_le (by omega)]
  simp
attribute [local irreducible] S.pick S.ld S.ldN S.st S.box S.nc S.fad S.ixS S.ixA S.chr S.prt S.ext S.bin S.sh S.sbin S.beq S.neg1 S.com1 S.not1 S.cvt S.str1 S.lenS S.len S.cap S.lenM S.mx S.mn S.mkM S.cond S.gd S.fa S.dr S.rck S.join S.loop S.cvv S.eqv S.slc S.slcS S.b2s S.lk V U CF Gives E cel mpb osl ros dct dit itr lpo dfo
attribute [local irreducible] sls
set_option maxRecDepth 8000
theorem rname [Amb] {s : List UInt8} (hm : s.length ≤ 9223372036854775806) (h : E B H (K (.bool (nameOk s)))) : E B H (CF Tryd.prog 23 [str s] K) := by
  refine E_mono (W := s23 _ K) ?_ fun _ => c23
  unfold s23
  have no : ¬ (s ≠ [] ∧ s.length ≤ 32 ∧ ∀ c ∈ s, 33 ≤ c.toNat ∧ c.toNat ≤ 126) → E B H (K (.bool false)) := fun hn => by
    have : nameOk s = false := decide_eq_false hn
    rw [this] at h; exact h
  refine E_join1 [str s, .bool (decide (s.length < 1 ∨ 32 < s.length))] H (fun q hq => ?_) ?_
  · have hfin : ∀ b : Bool, decide (s.length < 1 ∨ 32 < s.length) = b → E B H (app 2 q [str s, .bool b]) := fun b h => h ▸ hq
    refine E_lenstr ?_
    refine E_lss ?_
    by_cases g : (s.length : Int) < 1
    · (repeat (first | refine goS ?_ | refine E_box fun _ => ?_ | refine E_fa fun _ => ?_ | refine E_ptfad0 fun _ _ => ?_ | refine E_ptfad fun _ _ => ?_ | refine E_rsix (by assumption) fun _ _ => ?_ | refine E_ifT (by first | assumption | decide) ?_ | refine E_ifF (by first | assumption | decide) ?_ | refine E_gdT (by first | assumption | decide) ?_ | refine E_gdF (by first | assumption | decide) ?_ | refine E_gdnT (by first | assumption | decide) ?_ | refine E_gdnF (by first | assumption | decide) ?_ | refine E_pickT (by first | assumption | decide) ?_ | refine E_pickF (by first | assumption | decide) ?_ | refine E_ixN (by omega) ?_ | refine E_ld' (by assumption) ?_ | refine E_addI (by omega) (by omega) ?_ | refine E_subI (by omega) (by omega) ?_ | refine E_mulI (by omega) (by omega) ?_))
      exact hfin _ (decide_eq_true (by omega))
    · (repeat (first | refine goS ?_ | refine E_box fun _ => ?_ | refine E_fa fun _ => ?_ | refine E_ptfad0 fun _ _ => ?_ | refine E_ptfad fun _ _ => ?_ | refine E_rsix (by assumption) fun _ _ => ?_ | refine E_ifT (by first | assumption | decide) ?_ | refine E_ifF (by first | assumption | decide) ?_ | refine E_gdT (by first | assumption | decide) ?_ | refine E_gdF (by first | assumption | decide) ?_ | refine E_gdnT (by first | assumption | decide) ?_ | refine E_gdnF (by first | assumption | decide) ?_ | refine E_pickT (by first | assumption | decide) ?_ | refine E_pickF (by first | assumption | decide) ?_ | refine E_ixN (by omega) ?_ | refine E_ld' (by assumption) ?_ | refine E_addI (by omega) (by omega) ?_ | refine E_subI (by omega) (by omega) ?_ | refine E_mulI (by omega) (by omega) ?_))
      exact hfin _ (by rw [decide_eq_decide]; omega)
  refine E_fa fun _ => ?_
  refine E_if (fun hb => ?_) (fun hb => ?_)
  · exact no fun hh => by
      have : 0 < s.length := List.length_pos_iff.2 hh.1
      omega
  refine E_loop (σ := Nat) (fun i => i ≤ s.length ∧ ∀ j c, j < i → s[j]? = some c → 33 ≤ c.toNat ∧ c.toNat ≤ 126) (fun i => [str s, I i]) (fun _ => H) (fun i => s.length - i) 0 (fun _ => rfl) rfl ⟨Nat.zero_le _, by omega⟩ (fun W hW => hW) ?_
  rintro i K0 ⟨hi, ha⟩ hk
  refine E_fa fun _ => ?_
  refine E_lenstr ?_
  refine E_lss ?_
  refine E_if (fun hc => ?_) (fun hc => ?_)
  · have hs : s[i]? = some s[i] := List.getElem?_eq_getElem (by omega)
    generalize s[i] = c at hs
    refine E_join1 [str s, I i, .bool (decide (c.toNat < 33 ∨ 126 < c.toNat))] H (fun q hq => ?_) ?_
    · have fin : ∀ q' : Bool, decide (c.toNat < 33 ∨ 126 < c.toNat) = q' → E B H (app 3 q [str s, I i, .bool q']) := fun q' h => h ▸ hq
      refine E_chrL hs ?_
      refine E_lss ?_
      by_cases h1 : (c.toNat : Int) < 33
      · (repeat (first | refine goS ?_ | refine E_box fun _ => ?_ | refine E_fa fun _ => ?_ | refine E_ptfad0 fun _ _ => ?_ | refine E_ptfad fun _ _ => ?_ | refine E_rsix (by assumption) fun _ _ => ?_ | refine E_ifT (by first | assumption | decide) ?_ | refine E_ifF (by first | assumption | decide) ?_ | refine E_gdT (by first | assumption | decide) ?_ | refine E_gdF (by first | assumption | decide) ?_ | refine E_gdnT (by first | assumption | decide) ?_ | refine E_gdnF (by first | assumption | decide) ?_ | refine E_pickT (by first | assumption | decide) ?_ | refine E_pickF (by first | assumption | decide) ?_ | refine E_ixN (by omega) ?_ | refine E_ld' (by assumption) ?_ | refine E_addI (by omega) (by omega) ?_ | refine E_subI (by omega) (by omega) ?_ | refine E_mulI (by omega) (by omega) ?_))
        exact fin _ (decide_eq_true (by omega))
      · (repeat (first | refine goS ?_ | refine E_box fun _ => ?_ | refine E_fa fun _ => ?_ | refine E_ptfad0 fun _ _ => ?_ | refine E_ptfad fun _ _ => ?_ | refine E_rsix (by assumption) fun _ _ => ?_ | refine E_ifT (by first | assumption | decide) ?_ | refine E_ifF (by first | assumption | decide) ?_ | refine E_gdT (by first | assumption | decide) ?_ | refine E_gdF (by first | assumption | decide) ?_ | refine E_gdnT (by first | assumption | decide) ?_ | refine E_gdnF (by first | assumption | decide) ?_ | refine E_pickT (by first | assumption | decide) ?_ | refine E_pickF (by first | assumption | decide) ?_ | refine E_ixN (by omega) ?_ | refine E_ld' (by assumption) ?_ | refine E_addI (by omega) (by omega) ?_ | refine E_subI (by omega) (by omega) ?_ | refine E_mulI (by omega) (by omega) ?_))
        refine E_chrL hs ?_
        (repeat (first | refine goS ?_ | refine E_box fun _ => ?_ | refine E_fa fun _ => ?_ | refine E_ptfad0 fun _ _ => ?_ | refine E_ptfad fun _ _ => ?_ | refine E_rsix (by assumption) fun _ _ => ?_ | refine E_ifT (by first | assumption | decide) ?_ | refine E_ifF (by first | assumption | decide) ?_ | refine E_gdT (by first | assumption | decide) ?_ | refine E_gdF (by first | assumption | decide) ?_ | refine E_gdnT (by first | assumption | decide) ?_ | refine E_gdnF (by first | assumption | decide) ?_ | refine E_pickT (by first | assumption | decide) ?_ | refine E_pickF (by first | assumption | decide) ?_ | refine E_ixN (by omega) ?_ | refine E_ld' (by assumption) ?_ | refine E_addI (by omega) (by omega) ?_ | refine E_subI (by omega) (by omega) ?_ | refine E_mulI (by omega) (by omega) ?_))
        refine fin _ ?_
        rw [decide_eq_decide]; omega
    refine E_fa fun _ => ?_
    refine E_if (fun hb => ?_) (fun hb => ?_)
    · exact no fun hh => by have := hh.2.2 c (List.mem_of_getElem? hs); omega
    · refine E_addI (by omega) (by omega) ?_
      refine hk (i + 1) ⟨by omega, fun j d hj hd => ?_⟩ (by omega)
      by_cases hji : j = i
      · subst hji; rw [hs] at hd; cases hd; omega
      · exact ha j d (by omega) hd
  · have hall : ∀ c ∈ s, 33 ≤ c.toNat ∧ c.toNat ≤ 126 := fun c hc' => by
      obtain ⟨j, hj, rfl⟩ := List.getElem_of_mem hc'
      exact ha j _ (by omega) (List.getElem?_eq_getElem hj)
    have : nameOk s = true := decide_eq_true ⟨fun e => hb (by subst e; simp), by omega, hall⟩
    rw [this] at h
    exact h
theorem rdigit [Amb] {c : UInt8} (h : E B H (K (.tuple #[I ((hexV c).getD 0 : Nat), .bool (hexV c).isSome]))) : E B H (CF Tryd.prog 39 [.int .u8 (c.toNat : Int)] K) := by
  refine E_mono (W := s39 _ K) ?_ fun _ => c39
  unfold s39
  refine E_join1 [.int .u8 (c.toNat : Int), .bool (decide (48 ≤ c.toNat ∧ c.toNat ≤ 57))] H (fun q hq => ?_) ?_
  · have fin : ∀ q' : Bool, decide (48 ≤ c.toNat ∧ c.toNat ≤ 57) = q' → E B H (app 2 q [.int .u8 (c.toNat : Int), .bool q']) := fun q' h => h ▸ hq
    refine E_geq ?_
    by_cases g : (48 : Int) ≤ (c.toNat : Int)
    · (repeat (first | refine goS ?_ | refine E_box fun _ => ?_ | refine E_fa fun _ => ?_ | refine E_ptfad0 fun _ _ => ?_ | refine E_ptfad fun _ _ => ?_ | refine E_rsix (by assumption) fun _ _ => ?_ | refine E_ifT (by first | assumption | decide) ?_ | refine E_ifF (by first | assumption | decide) ?_ | refine E_gdT (by first | assumption | decide) ?_ | refine E_gdF (by first | assumption | decide) ?_ | refine E_gdnT (by first | assumption | decide) ?_ | refine E_gdnF (by first | assumption | decide) ?_ | refine E_pickT (by first | assumption | decide) ?_ | refine E_pickF (by first | assumption | decide) ?_ | refine E_ixN (by omega) ?_ | refine E_ld' (by assumption) ?_ | refine E_addI (by omega) (by omega) ?_ | refine E_subI (by omega) (by omega) ?_ | refine E_mulI (by omega) (by omega) ?_))
      exact fin _ (by rw [decide_eq_decide]; omega)
    · (repeat (first | refine goS ?_ | refine E_box fun _ => ?_ | refine E_fa fun _ => ?_ | refine E_ptfad0 fun _ _ => ?_ | refine E_ptfad fun _ _ => ?_ | refine E_rsix (by assumption) fun _ _ => ?_ | refine E_ifT (by first | assumption | decide) ?_ | refine E_ifF (by first | assumption | decide) ?_ | refine E_gdT (by first | assumption | decide) ?_ | refine E_gdF (by first | assumption | decide) ?_ | refine E_gdnT (by first | assumption | decide) ?_ | refine E_gdnF (by first | assumption | decide) ?_ | refine E_pickT (by first | assumption | decide) ?_ | refine E_pickF (by first | assumption | decide) ?_ | refine E_ixN (by omega) ?_ | refine E_ld' (by assumption) ?_ | refine E_addI (by omega) (by omega) ?_ | refine E_subI (by omega) (by omega) ?_ | refine E_mulI (by omega) (by omega) ?_))
      exact fin _ (decide_eq_false (by omega))
  refine E_fa fun _ => ?_
  refine E_if (fun hd => ?_) (fun hd => ?_)
  · refine E_cvtI (by omega) (by omega) ?_
    refine E_subI (by omega) (by omega) ?_
    have e : hexV c = some (c.toNat - 48) := by unfold hexV; rw [if_pos hd]
    rw [e] at h
    rw [show ((c.toNat : Int) - 48) = ((c.toNat - 48 : Nat) : Int) by omega]
    exact h
  refine E_join1 [.int .u8 (c.toNat : Int), .bool (decide (97 ≤ c.toNat ∧ c.toNat ≤ 102))] H (fun q hq => ?_) ?_
  · have fin : ∀ q' : Bool, decide (97 ≤ c.toNat ∧ c.toNat ≤ 102) = q' → E B H (app 2 q [.int .u8 (c.toNat : Int), .bool q']) := fun q' h => h ▸ hq
    refine E_geq ?_
    by_cases g : (97 : Int) ≤ (c.toNat : Int)
    · (repeat (first | refine goS ?_ | refine E_box fun _ => ?_ | refine E_fa fun _ => ?_ | refine E_ptfad0 fun _ _ => ?_ | refine E_ptfad fun _ _ => ?_ | refine E_rsix (by assumption) fun _ _ => ?_ | refine E_ifT (by first | assumption | decide) ?_ | refine E_ifF (by first | assumption | decide) ?_ | refine E_gdT (by first | assumption | decide) ?_ | refine E_gdF (by first | assumption | decide) ?_ | refine E_gdnT (by first | assumption | decide) ?_ | refine E_gdnF (by first | assumption | decide) ?_ | refine E_pickT (by first | assumption | decide) ?_ | refine E_pickF (by first | assumption | decide) ?_ | refine E_ixN (by omega) ?_ | refine E_ld' (by assumption) ?_ | refine E_addI (by omega) (by omega) ?_ | refine E_subI (by omega) (by omega) ?_ | refine E_mulI (by omega) (by omega) ?_))
      exact fin _ (by rw [decide_eq_decide]; omega)
    · (repeat (first | refine goS ?_ | refine E_box fun _ => ?_ | refine E_fa fun _ => ?_ | refine E_ptfad0 fun _ _ => ?_ | refine E_ptfad fun _ _ => ?_ | refine E_rsix (by assumption) fun _ _ => ?_ | refine E_ifT (by first | assumption | decide) ?_ | refine E_ifF (by first | assumption | decide) ?_ | refine E_gdT (by first | assumption | decide) ?_ | refine E_gdF (by first | assumption | decide) ?_ | refine E_gdnT (by first | assumption | decide) ?_ | refine E_gdnF (by first | assumption | decide) ?_ | refine E_pickT (by first | assumption | decide) ?_ | refine E_pickF (by first | assumption | decide) ?_ | refine E_ixN (by omega) ?_ | refine E_ld' (by assumption) ?_ | refine E_addI (by omega) (by omega) ?_ | refine E_subI (by omega) (by omega) ?_ | refine E_mulI (by omega) (by omega) ?_))
      exact fin _ (decide_eq_false (by omega))
  refine E_fa fun _ => ?_
  refine E_if (fun he => ?_) (fun he => ?_)
  · refine E_cvtI (by omega) (by omega) ?_
    refine E_subI (by omega) (by omega) ?_
    have e : hexV c = some (c.toNat - 87) := by unfold hexV; rw [if_neg hd, if_pos he]
    rw [e] at h
    rw [show ((c.toNat : Int) - 87) = ((c.toNat - 87 : Nat) : Int) by omega]
    exact h
  · have e : hexV c = none := by unfold hexV; rw [if_neg hd, if_neg he]
    rw [e] at h
    exact h
theorem rnumber [Amb] {w : List UInt8} (hm : w.length ≤ 9223372036854775806) (h1 : ∀ n, numW w = some n → n ≤ 9007199254740991 → E B H (K (.tuple #[I n, .bool true]))) (h2 : numW w = none → ∀ m : Int, E B H (K (.tuple #[I m, .bool false]))) :
    E B H (CF Tryd.prog 22 [str w] K) := by
  refine E_mono (W := s22 _ K) ?_ fun _ => c22
  unfold s22
  have bad : ¬ (formW w ∧ digW w ∧ valW w ≤ 9007199254740991) → ∀ m : Int, E B H (K (.tuple #[I m, .bool false])) := fun h => h2 (if_neg h)
  refine E_join1 [str w, .bool (decide (w.length = 0 ∨ 16 < w.length ∨ (1 < w.length ∧ w.head? = some 48)))] H (fun q hq => ?_) ?_
  · have fin : ∀ q' : Bool, decide (w.length = 0 ∨ 16 < w.length ∨ (1 < w.length ∧ w.head? = some 48)) = q' → E B H (app 2 q [str w, .bool q']) := fun q' h => h ▸ hq
    refine E_lenstr ?_
    refine E_eql ?_
    by_cases g0 : (w.length : Int) = 0
    · (repeat (first | refine goS ?_ | refine E_box fun _ => ?_ | refine E_fa fun _ => ?_ | refine E_ptfad0 fun _ _ => ?_ | refine E_ptfad fun _ _ => ?_ | refine E_rsix (by assumption) fun _ _ => ?_ | refine E_ifT (by first | assumption | decide) ?_ | refine E_ifF (by first | assumption | decide) ?_ | refine E_gdT (by first | assumption | decide) ?_ | refine E_gdF (by first | assumption | decide) ?_ | refine E_gdnT (by first | assumption | decide) ?_ | refine E_gdnF (by first | assumption | decide) ?_ | refine E_pickT (by first | assumption | decide) ?_ | refine E_pickF (by first | assumption | decide) ?_ | refine E_ixN (by omega) ?_ | refine E_ld' (by assumption) ?_ | refine E_addI (by omega) (by omega) ?_ | refine E_subI (by omega) (by omega) ?_ | refine E_mulI (by omega) (by omega) ?_))
      exact fin _ (decide_eq_true (by omega))
    (repeat (first | refine goS ?_ | refine E_box fun _ => ?_ | refine E_fa fun _ => ?_ | refine E_ptfad0 fun _ _ => ?_ | refine E_ptfad fun _ _ => ?_ | refine E_rsix (by assumption) fun _ _ => ?_ | refine E_ifT (by first | assumption | decide) ?_ | refine E_ifF (by first | assumption | decide) ?_ | refine E_gdT (by first | assumption | decide) ?_ | refine E_gdF (by first | assumption | decide) ?_ | refine E_gdnT (by first | assumption | decide) ?_ | refine E_gdnF (by first | assumption | decide) ?_ | refine E_pickT (by first | assumption | decide) ?_ | refine E_pickF (by first | assumption | decide) ?_ | refine E_ixN (by omega) ?_ | refine E_ld' (by assumption) ?_ | refine E_addI (by omega) (by omega) ?_ | refine E_subI (by omega) (by omega) ?_ | refine E_mulI (by omega) (by omega) ?_))
    by_cases g1 : (w.length : Int) > 16
    · (repeat (first | refine goS ?_ | refine E_box fun _ => ?_ | refine E_fa fun _ => ?_ | refine E_ptfad0 fun _ _ => ?_ | refine E_ptfad fun _ _ => ?_ | refine E_rsix (by assumption) fun _ _ => ?_ | refine E_ifT (by first | assumption | decide) ?_ | refine E_ifF (by first | assumption | decide) ?_ | refine E_gdT (by first | assumption | decide) ?_ | refine E_gdF (by first | assumption | decide) ?_ | refine E_gdnT (by first | assumption | decide) ?_ | refine E_gdnF (by first | assumption | decide) ?_ | refine E_pickT (by first | assumption | decide) ?_ | refine E_pickF (by first | assumption | decide) ?_ | refine E_ixN (by omega) ?_ | refine E_ld' (by assumption) ?_ | refine E_addI (by omega) (by omega) ?_ | refine E_subI (by omega) (by omega) ?_ | refine E_mulI (by omega) (by omega) ?_))
      exact fin _ (decide_eq_true (by omega))
    (repeat (first | refine goS ?_ | refine E_box fun _ => ?_ | refine E_fa fun _ => ?_ | refine E_ptfad0 fun _ _ => ?_ | refine E_ptfad fun _ _ => ?_ | refine E_rsix (by assumption) fun _ _ => ?_ | refine E_ifT (by first | assumption | decide) ?_ | refine E_ifF (by first | assumption | decide) ?_ | refine E_gdT (by first | assumption | decide) ?_ | refine E_gdF (by first | assumption | decide) ?_ | refine E_gdnT (by first | assumption | decide) ?_ | refine E_gdnF (by first | assumption | decide) ?_ | refine E_pickT (by first | assumption | decide) ?_ | refine E_pickF (by first | assumption | decide) ?_ | refine E_ixN (by omega) ?_ | refine E_ld' (by assumption) ?_ | refine E_addI (by omega) (by omega) ?_ | refine E_subI (by omega) (by omega) ?_ | refine E_mulI (by omega) (by omega) ?_))
    by_cases g2 : (w.length : Int) > 1
    · cases w with
      | nil => exact absurd rfl g0
      | cons c t =>
        (repeat (first | refine goS ?_ | refine E_box fun _ => ?_ | refine E_fa fun _ => ?_ | refine E_ptfad0 fun _ _ => ?_ | refine E_ptfad fun _ _ => ?_ | refine E_rsix (by assumption) fun _ _ => ?_ | refine E_ifT (by first | assumption | decide) ?_ | refine E_ifF (by first | assumption | decide) ?_ | refine E_gdT (by first | assumption | decide) ?_ | refine E_gdF (by first | assumption | decide) ?_ | refine E_gdnT (by first | assumption | decide) ?_ | refine E_gdnF (by first | assumption | decide) ?_ | refine E_pickT (by first | assumption | decide) ?_ | refine E_pickF (by first | assumption | decide) ?_ | refine E_ixN (by omega) ?_ | refine E_ld' (by assumption) ?_ | refine E_addI (by omega) (by omega) ?_ | refine E_subI (by omega) (by omega) ?_ | refine E_mulI (by omega) (by omega) ?_))
        refine E_chrL (i := 0) (c := c) rfl ?_
        (repeat (first | refine goS ?_ | refine E_box fun _ => ?_ | refine E_fa fun _ => ?_ | refine E_ptfad0 fun _ _ => ?_ | refine E_ptfad fun _ _ => ?_ | refine E_rsix (by assumption) fun _ _ => ?_ | refine E_ifT (by first | assumption | decide) ?_ | refine E_ifF (by first | assumption | decide) ?_ | refine E_gdT (by first | assumption | decide) ?_ | refine E_gdF (by first | assumption | decide) ?_ | refine E_gdnT (by first | assumption | decide) ?_ | refine E_gdnF (by first | assumption | decide) ?_ | refine E_pickT (by first | assumption | decide) ?_ | refine E_pickF (by first | assumption | decide) ?_ | refine E_ixN (by omega) ?_ | refine E_ld' (by assumption) ?_ | refine E_addI (by omega) (by omega) ?_ | refine E_subI (by omega) (by omega) ?_ | refine E_mulI (by omega) (by omega) ?_))
        refine fin _ ?_
        rw [decide_eq_decide]
        have hc := u8c (a := c) (n := 48) (by decide)
        rw [List.head?_cons]
        constructor
        · rintro (h | h | h)
          · simp at h
          · omega
          · have := Option.some.inj h.2
            exact hc.2 this
        · intro h
          exact .inr (.inr ⟨by omega, by rw [hc.1 h]; rfl⟩)
    · (repeat (first | refine goS ?_ | refine E_box fun _ => ?_ | refine E_fa fun _ => ?_ | refine E_ptfad0 fun _ _ => ?_ | refine E_ptfad fun _ _ => ?_ | refine E_rsix (by assumption) fun _ _ => ?_ | refine E_ifT (by first | assumption | decide) ?_ | refine E_ifF (by first | assumption | decide) ?_ | refine E_gdT (by first | assumption | decide) ?_ | refine E_gdF (by first | assumption | decide) ?_ | refine E_gdnT (by first | assumption | decide) ?_ | refine E_gdnF (by first | assumption | decide) ?_ | refine E_pickT (by first | assumption | decide) ?_ | refine E_pickF (by first | assumption | decide) ?_ | refine E_ixN (by omega) ?_ | refine E_ld' (by assumption) ?_ | refine E_addI (by omega) (by omega) ?_ | refine E_subI (by omega) (by omega) ?_ | refine E_mulI (by omega) (by omega) ?_))
      refine fin _ (decide_eq_false (by omega))
  refine E_fa fun _ => ?_
  refine E_if (fun hb => ?_) (fun hb => ?_)
  · exact bad (fun h => formW_no hb h.1) 0
  have hf : formW w := formW_yes (fun h => hb (.inl h)) (by omega) (fun h => hb (.inr (.inr h)))
  have h16 : w.length ≤ 16 := by omega
  refine E_loop (σ := Nat) (fun i => i ≤ w.length ∧ digW (w.take i)) (fun i => [str w, I (valW (w.take i)), I i]) (fun _ => H) (fun i => w.length - i) 0 (fun _ => rfl) rfl ⟨Nat.zero_le _, by intro c h; simp at h⟩ (fun W hW => hW) ?_
  rintro i K0 ⟨hi, hd⟩ hk
  refine E_fa fun _ => ?_
  have hv := valW_lt hd
  have hvb : valW (w.take i) < 10 ^ 16 := Nat.lt_of_lt_of_le hv (Nat.pow_le_pow_right (by decide) (by rw [List.length_take]; omega))
  refine E_lenstr ?_
  refine E_lss ?_
  refine E_if (fun hc => ?_) (fun hc => ?_)
  · have hs : w[i]? = some w[i] := List.getElem?_eq_getElem (by omega)
    generalize w[i] = c at hs
    have htk : w.take (i + 1) = w.take i ++ [c] := by rw [List.take_add_one, hs]; rfl
    refine E_join1 [str w, I (valW (w.take i)), I i, .bool (decide (¬ (48 ≤ c.toNat ∧ c.toNat ≤ 57)))] H (fun q hq => ?_) ?_
    · have fin : ∀ q' : Bool, decide (¬ (48 ≤ c.toNat ∧ c.toNat ≤ 57)) = q' → E B H (app 4 q [str w, I (valW (w.take i)), I i, .bool q']) := fun q' h => h ▸ hq
      refine E_chrL hs ?_
      refine E_lss ?_
      by_cases g : (c.toNat : Int) < 48
      · (repeat (first | refine goS ?_ | refine E_box fun _ => ?_ | refine E_fa fun _ => ?_ | refine E_ptfad0 fun _ _ => ?_ | refine E_ptfad fun _ _ => ?_ | refine E_rsix (by assumption) fun _ _ => ?_ | refine E_ifT (by first | assumption | decide) ?_ | refine E_ifF (by first | assumption | decide) ?_ | refine E_gdT (by first | assumption | decide) ?_ | refine E_gdF (by first | assumption | decide) ?_ | refine E_gdnT (by first | assumption | decide) ?_ | refine E_gdnF (by first | assumption | decide) ?_ | refine E_pickT (by first | assumption | decide) ?_ | refine E_pickF (by first | assumption | decide) ?_ | refine E_ixN (by omega) ?_ | refine E_ld' (by assumption) ?_ | refine E_addI (by omega) (by omega) ?_ | refine E_subI (by omega) (by omega) ?_ | refine E_mulI (by omega) (by omega) ?_))
        exact fin _ (decide_eq_true (by omega))
      · (repeat (first | refine goS ?_ | refine E_box fun _ => ?_ | refine E_fa fun _ => ?_ | refine E_ptfad0 fun _ _ => ?_ | refine E_ptfad fun _ _ => ?_ | refine E_rsix (by assumption) fun _ _ => ?_ | refine E_ifT (by first | assumption | decide) ?_ | refine E_ifF (by first | assumption | decide) ?_ | refine E_gdT (by first | assumption | decide) ?_ | refine E_gdF (by first | assumption | decide) ?_ | refine E_gdnT (by first | assumption | decide) ?_ | refine E_gdnF (by first | assumption | decide) ?_ | refine E_pickT (by first | assumption | decide) ?_ | refine E_pickF (by first | assumption | decide) ?_ | refine E_ixN (by omega) ?_ | refine E_ld' (by assumption) ?_ | refine E_addI (by omega) (by omega) ?_ | refine E_subI (by omega) (by omega) ?_ | refine E_mulI (by omega) (by omega) ?_))
        refine E_chrL hs ?_
        (repeat (first | refine goS ?_ | refine E_box fun _ => ?_ | refine E_fa fun _ => ?_ | refine E_ptfad0 fun _ _ => ?_ | refine E_ptfad fun _ _ => ?_ | refine E_rsix (by assumption) fun _ _ => ?_ | refine E_ifT (by first | assumption | decide) ?_ | refine E_ifF (by first | assumption | decide) ?_ | refine E_gdT (by first | assumption | decide) ?_ | refine E_gdF (by first | assumption | decide) ?_ | refine E_gdnT (by first | assumption | decide) ?_ | refine E_gdnF (by first | assumption | decide) ?_ | refine E_pickT (by first | assumption | decide) ?_ | refine E_pickF (by first | assumption | decide) ?_ | refine E_ixN (by omega) ?_ | refine E_ld' (by assumption) ?_ | refine E_addI (by omega) (by omega) ?_ | refine E_subI (by omega) (by omega) ?_ | refine E_mulI (by omega) (by omega) ?_))
        exact fin _ (by rw [decide_eq_decide]; omega)
    refine E_fa fun _ => ?_
    refine E_if (fun hx => ?_) (fun hx => ?_)
    · exact bad (fun h => hx (h.2.1 c (List.mem_of_getElem? hs))) 0
    have hdc : 48 ≤ c.toNat ∧ c.toNat ≤ 57 := Decidable.not_not.1 hx
    refine E_mulI (by omega) (by omega) ?_
    refine E_chrL hs ?_
    refine E_cvtI (by omega) (by omega) ?_
    refine E_addI (by omega) (by omega) ?_
    refine E_subI (by omega) (by omega) ?_
    refine E_addI (by omega) (by omega) ?_
    have hk' := hk (i + 1) ⟨by omega, by
      rw [htk]; intro d hdm
      rcases List.mem_append.1 hdm with h | h
      · exact hd d h
      · rw [List.mem_singleton.1 h]; exact hdc⟩ (by omega)
    rw [htk, valW_snoc] at hk'
    have ev : ((10 * valW (w.take i) + (c.toNat - 48) : Nat) : Int) = 10 * (valW (w.take i) : Int) + (c.toNat : Int) - 48 := by omega
    rw [ev] at hk'
    exact hk'
  · have ei : i = w.length := by omega
    subst ei
    rw [List.take_length] at hd hv hvb ⊢
    refine E_leq ?_
    by_cases ht : (valW w : Int) ≤ 9007199254740991
    · rw [decide_eq_true ht]
      exact h1 _ (if_pos ⟨hf, hd, by omega⟩) (by omega)
    · rw [decide_eq_false ht]
      exact bad (fun h => ht (by omega)) _
theorem rwords [Amb] {s : List UInt8} (hm : s.length ≤ 1000000) (h : ∀ v [CellI v], E B (sls cS 9 1 v (wordsL s) :: H) (K v)) : E B H (CF Tryd.prog 17 [str s] K) := by
  refine E_mono (W := s17 _ K) ?_ fun _ => c17
  unfold s17
  refine E_bsl (l0 := [str []]) [(0, 1)] u_strs elt_string (by simp) (by decide) rfl fun b2 => ?_
  refine E_slsC (enc := cS) [[]] 1 rfl rfl ?_
  refine E_loop (σ := Nat × Value × List (List UInt8)) (fun z => z.1 ≤ s.length ∧ CellI z.2.1 ∧ z.2.2 = wordsL (s.take z.1) ∧ z.2.2.length ≤ z.1 + 1 ∧ ∀ w ∈ z.2.2, w.length ≤ z.1) (fun z => [str s, z.2.1, I z.1]) (fun z => sls cS 9 1 z.2.1 z.2.2 :: H) (fun z => s.length - z.1) (0, .slice (some ⟨b2, 0, none⟩) 1 1, [[]])
    (fun _ => rfl) rfl ⟨by omega, ⟨rfl⟩, rfl, by simp, by simp⟩ (fun W hW => hW) ?_
  rintro ⟨i, v, out⟩ K0 ⟨hi, hcv, ho, hol, how⟩ hk
  simp only at hi hcv ho hol how
  refine E_fa fun _ => ?_
  refine E_lenstr ?_
  refine E_lss ?_
  refine E_if (fun hc => ?_) (fun hc => ?_)
  rotate_left
  · rw [List.take_of_length_le (by omega)] at ho
    rw [ho]
    exact h v
  have hs : s[i]? = some s[i] := List.getElem?_eq_getElem (by omega)
  generalize s[i] = c at hs
  have htk : wordsL (s.take (i + 1)) = stepW out c := by
    rw [List.take_add_one, hs, ho]; unfold wordsL; rw [Option.toList_some, List.foldl_append]; rfl
  refine E_joinC (σ := Value) (fun v' => CellI v') (fun v' => [str s, v', I i]) (fun v' => sls cS 9 1 v' (stepW out c) :: H) (fun q hq => ?_) ?_
  · refine E_chrL hs ?_
    refine E_eql ?_
    refine E_if (fun he => ?_) (fun he => ?_)
    · have hc32 : c = 32 := (u8c (n := 32) (by decide)).1 he
      have e : stepW out c = out ++ [[]] := by unfold stepW; rw [if_pos hc32]
      rw [e] at hq
      refine E_sapp1 (enc := cS) [] u_strs elt_string rfl (by decide) (by simp only; omega) (by simp only; omega) fun v' _ => ?_
      exact hq v' inferInstance
    · have hc32 : c ≠ 32 := fun e => he (by rw [e]; rfl)
      obtain ⟨n, hn⟩ : ∃ n, out.length = n + 1 := by
        cases hol : out with
        | nil => rw [ho] at hol; exact absurd hol (wordsL_ne _)
        | cons a l => exact ⟨l.length, rfl⟩
      have hx : out[n]? = some out[n] := List.getElem?_eq_getElem (by omega)
      generalize out[n] = x at hx
      have hxl := how x (List.mem_of_getElem? hx)
      have e := stepW_set hc32 hn hx
      rw [e] at hq
      refine E_dr ?_
      refine E_rslen (v := v) ?_
      rw [hn]
      refine E_subI (by omega) (by omega) ?_
      refine E_rslen (v := v) ?_
      rw [hn]
      refine E_subI (by omega) (by omega) ?_
      rw [show (((n + 1 : Nat) : Int) - 1) = (n : Int) by omega]
      refine E_rsix (v := v) hx fun _ _ => ?_
      refine E_ptld ?_
      refine E_addI (by omega) (by omega) ?_
      refine E_slcL (s := s) (i := i) (j := i + 1) (by simp only [S.bound]; rw [decide_eq_true (by omega)]; simp) (by simp [S.bound]) (by omega) (by omega) ?_
      have ec : (s.drop i).take (i + 1 - i) = [c] := by
        rw [show i + 1 - i = 1 by omega, List.take_one, List.head?_drop, hs]; rfl
      rw [ec]
      refine E_stradd (by simp; omega) ?_
      refine E_sset (enc := cS) (x ++ [c]) (by simp only; omega) rfl ?_
      exact hq v hcv
  intro v' hcv'
  refine E_fa fun _ => ?_
  refine E_addI (by omega) (by omega) ?_
  have hk' := hk (i + 1, v', stepW out c) ⟨by simp only; omega, hcv', htk.symm, ?_, ?_⟩ (by simp only; omega)
  · exact hk'
  · simp only; unfold stepW
    split
    · simp; omega
    · simp; omega
  · simp only
    intro w hw
    unfold stepW at hw
    split at hw
    · rcases List.mem_append.1 hw with hw | hw
      · have := how w hw; omega
      · rw [List.mem_singleton.1 hw]; simp
    · rcases List.mem_append.1 hw with hw | hw
      · have := how w (List.dropLast_subset _ hw); omega
      · rw [List.mem_singleton.1 hw]
        cases hl : out.getLast? with
        | none => simp
        | some x => have := how x (List.mem_of_getLast? hl); simp; omega
end Go.Proofs.YtogallbjmgoagaaDoor.Scr
