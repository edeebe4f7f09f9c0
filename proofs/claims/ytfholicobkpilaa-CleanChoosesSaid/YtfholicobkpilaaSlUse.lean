/-
  Joins with what holds behind them; an assertion found by its name.
-/
import Derived.Test.YtfholicobkpilaaSlOpen
set_option linter.unusedSimpArgs false
set_option linter.unusedVariables false
set_option linter.unusedSectionVars false
namespace Go.SL
open Go.RowKit
variable {B : World} {H : List Asrt} {K : Value → WT} {P : Program}

/-- Two ways that come together: what holds there. -/
theorem E_joinC {n : Nat} {body : Kn n → WT} {rest : Kn n} {σ : Type} (φ : σ → Prop) (Vs : σ → List Value) (G : σ → List Asrt)
    (h1 : ∀ k : Kn n, (∀ s, φ s → E B (G s) (app n k (Vs s))) → E B H (body k))
    (h2 : ∀ s, φ s → E B (G s) (app n rest (Vs s))) : E B H (S.join n body rest) := h1 rest h2
/-- The same, where just one thing holds. -/
theorem E_join1 {n : Nat} {body : Kn n → WT} {rest : Kn n} (Vs : List Value) (G : List Asrt)
    (h1 : ∀ k : Kn n, E B G (app n k Vs) → E B H (body k)) (h2 : E B G (app n rest Vs)) : E B H (S.join n body rest) := h1 rest h2

class TakP {α : Type} (H : List Asrt) (p : α → Asrt) (x : outParam α) (H' : outParam (List Asrt)) : Prop where
  pf : Find H (p x) H'
instance (priority := high) takP_here {α : Type} {p : α → Asrt} {x : α} {H : List Asrt} : TakP (p x :: H) p x H := ⟨.here⟩
instance takP_there {α : Type} {p : α → Asrt} {x : α} {a : Asrt} {H H' : List Asrt} [h : TakP H p x H'] : TakP (a :: H) p x (a :: H') := ⟨.there h.pf⟩
theorem E_use {α : Type} (p : α → Asrt) {x : α} {H' : List Asrt} {W : WT} [ht : TakP H p x H'] (h : E B (p x :: H') W) : E B H W := E_find ht.pf h

instance (priority := low) cellsI_cell {v : Value} [h : CellI v] : CellsI v [v] := ⟨by have := h.pf; cases v <;> first | rfl | simp [isCell] at this⟩
/-! ### several cells stored at once -/
class AllC (vs : List Value) : Prop where
  pf : ∀ v ∈ vs, isCell v = true
instance : AllC [] := ⟨by simp⟩
instance allC_cons {v : Value} {vs : List Value} [h : CellI v] [h' : AllC vs] : AllC (v :: vs) := ⟨fun u hu => by
  rcases List.mem_cons.1 hu with rfl | hu
  · exact h.pf
  · exact h'.pf u hu⟩
theorem E_stA {b o n : Nat} {T : TypeId} {l l' vs : List Value} {v : Value} {H' : List Asrt} [hf : TakC H b T l H'] [hv : CellsI v vs] [hc : AllC vs] [hn : AtLen vs n] [hs : SetsI l o vs l']
    (h : E B (cel true b T l' :: H') (K undef)) : E B H (S.st n (.pointer (some ⟨b, o, none⟩)) v K) :=
  E_stN (hf := hf) (hv := hv) hn.pf hc.pf (by have := hs.le; have := hn.pf; omega) hs.pf h

/-- An element's address, by a number that is none below 0. -/
theorem E_ixN {sz b o len c j : Nat} {k : IntKind} (h1 : j < len) (h : E B H (K (.pointer (some ⟨b, o + j * sz, none⟩)))) :
    E B H (S.ixS sz (.slice (some ⟨b, o, none⟩) len c) (.int k (j : Int)) K) := E_ixS (by omega) (by omega) (by rw [Int.toNat_natCast]; exact h)

/-! ### strings compared -/
theorem baLoop (bs : ByteArray) : ∀ (n i : Nat) (r : List UInt8), bs.size - i = n → ByteArray.toList.loop bs i r = r.reverse ++ (bs.data.toList.drop i)
  | 0, i, r, h => by
    unfold ByteArray.toList.loop
    rw [if_neg (by omega)]
    rw [List.drop_eq_nil_of_le (by have : bs.data.toList.length = bs.size := rfl
                                   omega)]
    simp
  | n + 1, i, r, h => by
    unfold ByteArray.toList.loop
    rw [if_pos (by omega)]
    rw [baLoop bs n (i + 1) _ (by omega)]
    have hl : bs.data.toList.length = bs.size := rfl
    have hi : i < bs.data.size := by show i < bs.size; omega
    have hg : bs.get! i = bs.data[i] := by
      cases bs with | mk d => exact getElem!_pos d i hi
    rw [List.drop_eq_getElem_cons (by omega : i < bs.data.toList.length), hg]
    simp
theorem baToList (bs : ByteArray) : bs.toList = bs.data.toList := by
  unfold ByteArray.toList
  rw [baLoop bs bs.size 0 [] (by omega)]; simp
/-- A string of bytes. -/
abbrev str (bs : List UInt8) : Value := .string ⟨bs.toArray⟩
theorem E_streq {a b : List UInt8} (h : E B H (K (.bool (decide (a = b))))) : E B H (S.sbin .eql (str a) (str b) K) := fun w hw => by
  have := h w hw
  unfold S.sbin
  simp only [baToList]
  have e : (a == b) = decide (a = b) := by
    by_cases h : a = b
    · simp [h]
    · simp [h]
  rw [e]; exact this
theorem E_streqS {a : List UInt8} (h : E B H (K (.bool true))) : E B H (S.sbin .eql (str a) (str a) K) := E_streq (by simpa using h)
theorem E_strne {a b : List UInt8} (h : E B H (K (.bool (decide (a ≠ b))))) : E B H (S.sbin .neq (str a) (str b) K) := fun w hw => by
  have := h w hw
  unfold S.sbin
  simp only [baToList]
  have e : (!(a == b)) = decide (a ≠ b) := by
    by_cases h : a = b
    · simp [h]
    · simp [h]
  rw [e]; exact this
theorem E_strneS {a : List UInt8} (h : E B H (K (.bool false))) : E B H (S.sbin .neq (str a) (str a) K) := E_strne (by simpa using h)
theorem strApp (a b : List UInt8) : (⟨a.toArray⟩ : ByteArray) ++ ⟨b.toArray⟩ = ⟨(a ++ b).toArray⟩ := by
  apply ByteArray.ext; simp [ByteArray.data_append]
theorem strSize (bs : List UInt8) : (⟨bs.toArray⟩ : ByteArray).size = bs.length := by simp [ByteArray.size]
theorem strTake (bs : List UInt8) (n : Nat) : (⟨bs.toArray⟩ : ByteArray).extract 0 n = ⟨(bs.take n).toArray⟩ := by
  apply ByteArray.ext; simp [ByteArray.data_extract]
theorem strDrop (bs : List UInt8) (n : Nat) : (⟨bs.toArray⟩ : ByteArray).extract n bs.length = ⟨(bs.drop n).toArray⟩ := by
  apply ByteArray.ext; simp [ByteArray.data_extract, List.take_of_length_le]
theorem strMid (bs : List UInt8) (m n : Nat) : (⟨bs.toArray⟩ : ByteArray).extract m n = ⟨((bs.drop m).take (n - m)).toArray⟩ := by
  apply ByteArray.ext; simp [ByteArray.data_extract, List.drop_take]
theorem E_stradd {a b : List UInt8} (h1 : a.length + b.length ≤ 9223372036854775807) (h : E B H (K (str (a ++ b)))) : E B H (S.sbin .add (str a) (str b) K) := fun w hw => by
  have := h w hw
  show (⟨a.toArray⟩ : ByteArray).size + (⟨b.toArray⟩ : ByteArray).size ≤ 9223372036854775807 ∧ K (.string ((⟨a.toArray⟩ : ByteArray) ++ ⟨b.toArray⟩)) w
  rw [strApp]
  exact ⟨by rw [strSize, strSize]; exact h1, this⟩
end Go.SL
