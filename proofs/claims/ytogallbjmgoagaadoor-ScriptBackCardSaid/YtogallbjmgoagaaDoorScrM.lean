/-
  Script: bytes in a line, plain.
-/
import Derived.Test.YtogallbjmgoagaaDoorScrC
set_option linter.unusedSimpArgs false
set_option linter.unusedVariables false
set_option linter.unusedSectionVars false
namespace Go.Proofs.YtogallbjmgoagaaDoor.Scr
open Go
def hexS : List UInt8 := [48, 49, 50, 51, 52, 53, 54, 55, 56, 57, 97, 98, 99, 100, 101, 102]
/-- A digit of sixteen. -/
def hexV (c : UInt8) : Option Nat := if 48 ≤ c.toNat ∧ c.toNat ≤ 57 then some (c.toNat - 48) else if 97 ≤ c.toNat ∧ c.toNat ≤ 102 then some (c.toNat - 87) else none
theorem hex_all : ∀ n : Fin 256, Lib.indexByte hexS (UInt8.ofNat n.val) = (match hexV (UInt8.ofNat n.val) with | some k => (k : Int) | none => -1) := by decide +kernel
theorem hex_idx (c : UInt8) : Lib.indexByte hexS c = (match hexV c with | some k => (k : Int) | none => -1) := by
  have h := hex_all ⟨c.toNat, c.toNat_lt⟩
  simpa using h
theorem hexV_lt {c : UInt8} {k : Nat} (h : hexV c = some k) : k < 16 := by
  unfold hexV at h
  split at h
  · cases h; omega
  · split at h
    · cases h; omega
    · cases h
def unhex : List UInt8 → Option (List UInt8)
  | [] => some []
  | [_] => none
  | a :: b :: t => match hexV a, hexV b, unhex t with
    | some x, some y, some r => some (UInt8.ofNat (16 * x + y) :: r)
    | _, _, _ => none
/-- The bytes that a line's rest says. -/
def bytesW : List UInt8 → Option (List UInt8)
  | [] => none
  | c :: t => if c = 61 then (if plainL t then some t else none) else if c = 120 ∧ t.length % 2 = 0 then unhex t else none
theorem unhex_append : ∀ (l m : List UInt8), l.length % 2 = 0 → unhex (l ++ m) = (match unhex l, unhex m with | some x, some y => some (x ++ y) | _, _ => none)
  | [], m, _ => by
    show unhex m = _
    cases h : unhex m <;> simp [unhex]
  | [_], m, h => by simp at h
  | a :: b :: l, m, h => by
    have ih := unhex_append l m (by simp at h; omega)
    show unhex (a :: b :: (l ++ m)) = _
    have e1 : ∀ z, unhex (a :: b :: z) = (match hexV a, hexV b, unhex z with | some x, some y, some r => some (UInt8.ofNat (16 * x + y) :: r) | _, _, _ => none) := fun z => rfl
    rw [e1, e1, ih]
    cases hexV a with
    | none => simp
    | some x =>
      cases hexV b with
      | none => simp
      | some y =>
        cases unhex l with
        | none => simp
        | some p =>
          cases unhex m with
          | none => simp
          | some q => simp
end Go.Proofs.YtogallbjmgoagaaDoor.Scr
