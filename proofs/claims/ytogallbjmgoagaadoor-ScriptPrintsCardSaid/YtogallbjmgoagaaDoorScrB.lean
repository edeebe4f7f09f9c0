/-
  Script: a reading's words.
-/
import Derived.Test.YtogallbjmgoagaaDoorScrA
set_option linter.unusedSimpArgs false
set_option linter.unusedVariables false
set_option linter.unusedSectionVars false
namespace Go.Proofs.YtogallbjmgoagaaDoor.Scr
open Go Go.SL Go.Proofs Go.Proofs.YtogallbjmgoagaaDoor.Sh
variable {B : World} {H : List Asrt} {K : Value → WT} {W : WT}
abbrev ptr (b : Nat) : Value := .pointer (some ⟨b, 0, none⟩)
attribute [local irreducible] S.pick S.ld S.ldN S.st S.box S.nc S.fad S.ixS S.ixA S.chr S.prt S.ext S.bin S.sh S.sbin S.beq S.neg1 S.com1 S.not1 S.cvt S.str1 S.lenS S.len S.cap S.lenM S.mx S.mn S.mkM S.cond S.gd S.fa S.dr S.rck S.join S.loop S.cvv S.eqv S.slc S.slcS S.b2s S.lk V U CF Gives E cel mpb osl ros dct dit itr lpo dfo
set_option maxRecDepth 4000
theorem word [A : Amb] {r : Nat} {s : List UInt8} {more : Bool} (hm : s.length ≤ 9223372036854775806)
    (h1 : more = true → E B (cel true r 50 [str (cutW s).2.1, .bool (cutW s).2.2] :: H) (K (str (cutW s).1))) (h2 : more = false → E B H (A.pn fault)) :
    E B (cel true r 50 [str s, .bool more] :: H) (CF Tryd.prog 33 [ptr r] K) := by
  refine E_mono (W := s33 _ K) ?_ fun _ => c33
  unfold s33
  (repeat (first | refine goS ?_ | refine E_box fun _ => ?_ | refine E_fa fun _ => ?_ | refine E_ptfad0 fun _ _ => ?_ | refine E_ptfad fun _ _ => ?_ | refine E_rsix (by assumption) fun _ _ => ?_ | refine E_ifT (by first | assumption | decide) ?_ | refine E_ifF (by first | assumption | decide) ?_ | refine E_gdT (by first | assumption | decide) ?_ | refine E_gdF (by first | assumption | decide) ?_ | refine E_gdnT (by first | assumption | decide) ?_ | refine E_gdnF (by first | assumption | decide) ?_ | refine E_pickT (by first | assumption | decide) ?_ | refine E_pickF (by first | assumption | decide) ?_ | refine E_ixN (by omega) ?_ | refine E_ld' (by assumption) ?_ | refine E_addI (by omega) (by omega) ?_ | refine E_subI (by omega) (by omega) ?_ | refine E_mulI (by omega) (by omega) ?_))
  refine must (fun hb => ?_) fun hb => E_drop (h2 hb)
  (repeat (first | refine goS ?_ | refine E_box fun _ => ?_ | refine E_fa fun _ => ?_ | refine E_ptfad0 fun _ _ => ?_ | refine E_ptfad fun _ _ => ?_ | refine E_rsix (by assumption) fun _ _ => ?_ | refine E_ifT (by first | assumption | decide) ?_ | refine E_ifF (by first | assumption | decide) ?_ | refine E_gdT (by first | assumption | decide) ?_ | refine E_gdF (by first | assumption | decide) ?_ | refine E_gdnT (by first | assumption | decide) ?_ | refine E_gdnF (by first | assumption | decide) ?_ | refine E_pickT (by first | assumption | decide) ?_ | refine E_pickF (by first | assumption | decide) ?_ | refine E_ixN (by omega) ?_ | refine E_ld' (by assumption) ?_ | refine E_addI (by omega) (by omega) ?_ | refine E_subI (by omega) (by omega) ?_ | refine E_mulI (by omega) (by omega) ?_))
  refine cut hm ?_
  (repeat (first | refine goS ?_ | refine E_box fun _ => ?_ | refine E_fa fun _ => ?_ | refine E_ptfad0 fun _ _ => ?_ | refine E_ptfad fun _ _ => ?_ | refine E_rsix (by assumption) fun _ _ => ?_ | refine E_ifT (by first | assumption | decide) ?_ | refine E_ifF (by first | assumption | decide) ?_ | refine E_gdT (by first | assumption | decide) ?_ | refine E_gdF (by first | assumption | decide) ?_ | refine E_gdnT (by first | assumption | decide) ?_ | refine E_gdnF (by first | assumption | decide) ?_ | refine E_pickT (by first | assumption | decide) ?_ | refine E_pickF (by first | assumption | decide) ?_ | refine E_ixN (by omega) ?_ | refine E_ld' (by assumption) ?_ | refine E_addI (by omega) (by omega) ?_ | refine E_subI (by omega) (by omega) ?_ | refine E_mulI (by omega) (by omega) ?_))
  exact E_same (by repeat (first | exact Same.refl | (refine Same.cons (by repeat (first | exact Find.here | apply Find.there)) ?_) | (refine Same.drop ?_))) (h1 hb)
theorem num [A : Amb] {r : Nat} {s : List UInt8} {more : Bool} (hm : s.length ≤ 9223372036854775806)
    (h1 : ∀ n, more = true → numW (cutW s).1 = some n → n ≤ 9007199254740991 → E B (cel true r 50 [str (cutW s).2.1, .bool (cutW s).2.2] :: H) (K (I n))) (h2 : (more = false ∨ numW (cutW s).1 = none) → E B H (A.pn fault)) :
    E B (cel true r 50 [str s, .bool more] :: H) (CF Tryd.prog 36 [ptr r] K) := by
  refine E_mono (W := s36 _ K) ?_ fun _ => c36
  unfold s36
  refine word hm (fun hb => ?_) fun hb => h2 (.inl hb)
  have hl : (cutW s).1.length ≤ s.length := by
    unfold cutW
    split
    · exact (List.takeWhile_sublist _).length_le
    · exact Nat.le_refl _
  refine parsed (by omega) (fun n hn hb2 => h1 n hb hn hb2) fun hn => E_drop (h2 (.inr hn))
theorem cut_len (s : List UInt8) : (cutW s).1.length ≤ s.length ∧ (cutW s).2.1.length ≤ s.length := by
  unfold cutW
  split
  · refine ⟨(List.takeWhile_sublist _).length_le, ?_⟩
    have := (List.dropWhile_sublist (l := s) (· != 32)).length_le
    simp only [List.length_drop]; omega
  · exact ⟨Nat.le_refl _, Nat.zero_le _⟩
theorem name [A : Amb] {r : Nat} {s : List UInt8} {more : Bool} (hm : s.length ≤ 9223372036854775806)
    (h1 : more = true → nameOk (cutW s).1 = true → E B (cel true r 50 [str (cutW s).2.1, .bool (cutW s).2.2] :: H) (K (str (cutW s).1))) (h2 : (more = false ∨ nameOk (cutW s).1 = false) → E B H (A.pn fault)) :
    E B (cel true r 50 [str s, .bool more] :: H) (CF Tryd.prog 35 [ptr r] K) := by
  refine E_mono (W := s35 _ K) ?_ fun _ => c35
  unfold s35
  refine word hm (fun hb => ?_) fun hb => h2 (.inl hb)
  refine recName (by have := (cut_len s).1; omega) ?_
  exact must (fun hn => h1 hb hn) fun hn => E_drop (h2 (.inr hn))
end Go.Proofs.YtogallbjmgoagaaDoor.Scr
