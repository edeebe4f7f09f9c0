/-
  The document's disk: how it lies in memory; its small methods.
-/
import Derived.Test.YtfholicobkpilaaDiskG
set_option linter.unusedSimpArgs false
set_option linter.unusedVariables false
set_option linter.unusedSectionVars false
namespace Go.Proofs.Ytfholicobkpilaa.Disk
open Go Go.SL Go.Proofs Go.Proofs.Ytfholicobkpilaa.Sh

abbrev str (bs : List UInt8) : Value := .string ⟨bs.toArray⟩
theorem str_app (a b : List UInt8) : (⟨a.toArray⟩ : ByteArray) ++ ⟨b.toArray⟩ = ⟨(a ++ b).toArray⟩ := by
  apply ByteArray.ext; simp [ByteArray.data_append]
def pcs (s : Sec) : List Value := [str s.sure, str (s.last.getD []), .bool s.last.isSome]
def parts (S : List Sec) : List Value := S.flatMap pcs
theorem parts_length (S : List Sec) : (parts S).length = S.length * 3 := by
  induction S with
  | nil => rfl
  | cons s S ih => simp only [parts, List.flatMap_cons, List.length_append, List.length_cons] at ih ⊢; rw [ih]; simp [pcs]; omega
theorem parts_append (S S' : List Sec) : parts (S ++ S') = parts S ++ parts S' := by simp [parts]
theorem parts_at {S : List Sec} {i : Nat} {s : Sec} (sp : List Value) (h : S[i]? = some s) : ((parts S ++ sp).drop (0 + i * 3)).take 3 = pcs s := by
  have hlt := (List.getElem?_eq_some_iff.1 h).1
  have e : S = S.take i ++ s :: S.drop (i + 1) := by
    have h1 := List.drop_eq_getElem_cons hlt
    have h2 : S[i] = s := (List.getElem?_eq_some_iff.1 h).2
    rw [h2] at h1
    rw [← h1, List.take_append_drop]
  have hl : (parts (S.take i)).length = i * 3 := by rw [parts_length, List.length_take, Nat.min_eq_left (by omega)]
  conv => lhs; rw [e]
  rw [parts_append, List.append_assoc, Nat.zero_add, List.drop_append_of_le_length (by omega), List.drop_of_length_le (by omega)]
  simp [parts, pcs]
theorem parts_get {S : List Sec} {i : Nat} {s : Sec} (sp : List Value) (k : Nat) (hk : k < 3) (h : S[i]? = some s) : (parts S ++ sp)[0 + i * 3 + k]? = (pcs s)[k]? := by
  rw [← parts_at sp h, List.getElem?_take_of_lt hk, List.getElem?_drop]
theorem parts_set {S : List Sec} {i : Nat} (s : Sec) (h : i < S.length) : setAll (parts S) (0 + i * 3) (pcs s) = parts (S.set i s) := by
  have e : S.set i s = S.take i ++ s :: S.drop (i + 1) := by rw [List.set_eq_take_append_cons_drop, if_pos h]
  have e0 : S = S.take i ++ S[i] :: S.drop (i + 1) := by rw [← List.drop_eq_getElem_cons h, List.take_append_drop]
  have hl : (parts (S.take i)).length = i * 3 := by rw [parts_length, List.length_take, Nat.min_eq_left (by omega)]
  unfold setAll
  rw [e, parts_append, Nat.zero_add]
  have h1 : (parts S).take (i * 3) = parts (S.take i) := by
    conv => lhs; rw [e0]
    rw [parts_append, List.take_append_of_le_length (by omega), List.take_of_length_le (by omega)]
  have h2 : (parts S).drop (i * 3 + (pcs s).length) = parts (S.drop (i + 1)) := by
    conv => lhs; rw [e0]
    have : parts (S.take i ++ S[i] :: S.drop (i + 1)) = (parts (S.take i) ++ pcs S[i]) ++ parts (S.drop (i + 1)) := by
      rw [parts_append, List.append_assoc]; rfl
    rw [this, List.drop_append_of_le_length (by simp [hl, pcs]), List.drop_of_length_le (by simp [hl, pcs])]
    rfl
  rw [h1, h2]
  simp [parts]

/-- The document's disk D at a. -/
def rdisk (a : Nat) (D : Dk) : Asrt := ex fun (x : Nat × Nat × List Value) => all [cel true a 50 [.slice (some ⟨x.1, 0, none⟩) D.S.length x.2.1, I D.trip, .bool D.down, I D.life],
  cel false x.1 52 (parts D.S ++ x.2.2), pur (D.Ok ∧ D.S.length ≤ x.2.1)]
variable {B : World} {H : List Asrt} {K : Value → WT} {W : WT}
theorem E_rdisk {a : Nat} {D : Dk} (h : ∀ b cap sp, D.Ok → D.S.length ≤ cap →
    E B (cel true a 50 [.slice (some ⟨b, 0, none⟩) D.S.length cap, I D.trip, .bool D.down, I D.life] :: cel false b 52 (parts D.S ++ sp) :: H) W) : E B (rdisk a D :: H) W := by
  refine E_ex fun x => E_all ?_
  refine E_find (a := pur (D.Ok ∧ D.S.length ≤ x.2.1)) (by repeat (first | exact Find.here | apply Find.there)) (E_pur fun hr => ?_)
  exact E_same (by repeat (first | exact Same.refl | (refine Same.cons (by repeat (first | exact Find.here | apply Find.there)) ?_) | (refine Same.drop ?_))) (h x.1 x.2.1 x.2.2 hr.1 hr.2)
theorem E_rdisks {a b cap n : Nat} {D : Dk} {sp : List Value} {tr li : Int} {dn : Bool} (ho : D.Ok) (hle : n ≤ cap) (hn : n = D.S.length) (h1 : tr = D.trip) (h2 : dn = D.down) (h3 : li = D.life)
    (h : E B (rdisk a D :: H) W) : E B (cel true a 50 [.slice (some ⟨b, 0, none⟩) n cap, I tr, .bool dn, I li] :: cel false b 52 (parts D.S ++ sp) :: H) W := by
  subst hn h1 h2 h3
  refine E_pur' (p := D.Ok ∧ D.S.length ≤ cap) ⟨ho, hle⟩ ?_
  have h' := E_all' (E_ex' (f := fun (x : Nat × Nat × List Value) => all [cel true a 50 [.slice (some ⟨x.1, 0, none⟩) D.S.length x.2.1, I D.trip, .bool D.down, I D.life],
  cel false x.1 52 (parts D.S ++ x.2.2), pur (D.Ok ∧ D.S.length ≤ x.2.1)]) (b, cap, sp) h)
  exact E_same (by repeat (first | exact Same.refl | (refine Same.cons (by repeat (first | exact Find.here | apply Find.there)) ?_) | (refine Same.drop ?_))) h'
theorem E_cshare {b : Nat} {T : TypeId} {l : List Value} (h : E B (cel false b T l :: H) W) : E B (cel true b T l :: H) W := by
  intro w ⟨hb, lc, ⟨l1, l2, e, ⟨fr, _, h1⟩, hs⟩, hc⟩
  have hsat : sat B (pt true b (.cells l.toArray T fr) :: H) w := ⟨hb, lc, ⟨l1, l2, e, h1, hs⟩, hc⟩
  refine E_share (fun w hw => ?_) w hsat
  obtain ⟨hb, lc, ⟨l1, l2, e, h1, hs⟩, hc⟩ := hw
  exact h w ⟨hb, lc, ⟨l1, l2, e, ⟨fr, (fun h => by cases h), h1⟩, hs⟩, hc⟩
theorem E_cdup {b : Nat} {T : TypeId} {l : List Value} (h : E B (cel false b T l :: cel false b T l :: H) W) : E B (cel false b T l :: H) W := by
  intro w ⟨hb, lc, ⟨l1, l2, e, ⟨fr, _, h1⟩, hs⟩, hc⟩
  have hsat : sat B (pt false b (.cells l.toArray T fr) :: H) w := ⟨hb, lc, ⟨l1, l2, e, h1, hs⟩, hc⟩
  refine E_dup (fun w hw => ?_) w hsat
  obtain ⟨hb, lc, ⟨l1, l2, e, h1, l3, l4, e', h3, hs⟩, hc⟩ := hw
  exact h w ⟨hb, lc, ⟨l1, l2, e, ⟨fr, (fun h => by cases h), h1⟩, l3, l4, e', ⟨fr, (fun h => by cases h), h3⟩, hs⟩, hc⟩
end Go.Proofs.Ytfholicobkpilaa.Disk
