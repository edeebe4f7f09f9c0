/-
  What the reading of a row says of a slice of structs, or arrays.
-/
import Derived.Test.YtfholicobkpilaaSlLst
import Derived.OpenShut
set_option linter.unusedSimpArgs false
set_option linter.unusedVariables false
set_option linter.unusedSectionVars false
namespace Go.SL
open Go.RowKit Go.ChangeShapes
variable {H : Type} {enc : TypeId × Value → H} {P : Program} {w : World} {fuel : Nat} {held : Bool}

theorem enc_get {α : Type} {encl : α → List Value} {sz : Nat} [hE : Enc encl sz] {l : List α} {i k : Nat} {x : α} (h : l[i]? = some x) (hk : k < sz) : (l.flatMap encl)[i * sz + k]? = (encl x)[k]? := by
  obtain ⟨r, hr⟩ := enc_at (enc := encl) h
  rw [← List.getElem?_drop, hr, List.getElem?_append_left (by rw [hE.len]; exact hk)]
theorem trod_list {α : Type} {encl : α → List Value} {sz by_ : Nat} [hE : Enc encl sz] {t e R : Nat} {cs : List Value} {x : DataW H × List MemPlace} (hu : P.underlying t = some (.slice e)) (hc : P.cellsOf e = sz) (hb : P.bytesOf e = by_) (hsz : 1 ≤ sz) (Q : α → Prop)
    (elem : ∀ (n : Nat) (cs : List Value) (x : DataW H × List MemPlace), DataW.trod enc P w 0 (fun _ => true) held n e cs = some x → (∀ k ∈ x.1.weights P e, k ≤ R) → ∃ a, cs = encl a ∧ Q a)
    (hR : ∀ k ∈ x.1.weights P t, k ≤ R) (h : DataW.trod enc P w 0 (fun _ => true) held fuel t cs = some x) :
    ∃ (v : Value) (l : List α), cs = [v] ∧ CellI v ∧ rdX w v l.length (l.flatMap encl) ∧ (∀ a ∈ l, Q a) ∧ l.length * by_ ≤ R := by
  rcases Go.Deep.open_slice hu h with ⟨rfl, rfl⟩ | ⟨a, len, cap, m, n', D, Pl, rfl, _, hl, hm, hmm, rfl, hat⟩
  · exact ⟨_, [], rfl, ⟨rfl⟩, .inl ⟨rfl, rfl, rfl⟩, by simp, by simp⟩
  · simp only [if_true] at hmm
    subst hmm
    rw [hc] at hat
    obtain ⟨l, hll, hlq⟩ := list_of (p := fun i b => Q b ∧ ∀ k, k < sz → w.cell? (a.add (i * sz + k)) = (encl b)[k]?) len (fun i hi => by
      obtain ⟨cs', h1, h2⟩ := hat i (by omega)
      obtain ⟨_, hcl, hcell⟩ := World.cells?_some h1
      obtain ⟨b, rfl, hq⟩ := elem _ _ _ h2 (fun k hk => hR k (by
        simp only [DataW.weights, hu, List.mem_cons, List.mem_append]
        exact .inr (.inl (mem_weightsAll (List.mem_map.2 ⟨i, List.mem_range.2 hi, rfl⟩) hk))))
      refine ⟨b, hq, fun k hk => ?_⟩
      rw [← hcell k hk, addAdd])
    refine ⟨_, l, rfl, ⟨rfl⟩, .inr ⟨a, m, by rw [hll], by omega, fun j hj => ?_⟩, fun b hb => ?_, ?_⟩
    · rw [enc_length, hll] at hj
      have hi : j / sz < len := by rw [Nat.div_lt_iff_lt_mul (by omega)]; exact hj
      have hk : j % sz < sz := Nat.mod_lt _ (by omega)
      have hs : l[j / sz]? = some (l[j / sz]'(by omega)) := List.getElem?_eq_getElem _
      have e1 : j / sz * sz + j % sz = j := by rw [Nat.mul_comm]; exact Nat.div_add_mod j sz
      have h3 := (hlq (j / sz) _ hs).2 (j % sz) hk
      have h4 := enc_get (encl := encl) hs hk
      rw [e1] at h3 h4
      rw [h3, h4]
    · obtain ⟨i, hi, rfl⟩ := List.mem_iff_getElem.1 hb
      exact (hlq i _ (List.getElem?_eq_getElem hi)).1
    · have := hR (((List.range len).map D).length * P.bytesOf e + ((List.range (m - len)).map fun j => D (len + j)).length * P.bytesOf e) (by
        simp only [DataW.weights, hu, List.mem_cons]
        left; rw [Nat.add_mul])
      rw [hb] at this
      simp only [List.length_map, List.length_range] at this
      rw [hll]; omega
end Go.SL
