/-
  Ranging over a map as a list of keys and values.
-/
import Derived.Test.YtfholicobkpilaaSlDict
set_option linter.unusedSimpArgs false
set_option linter.unusedVariables false
set_option linter.unusedSectionVars false
namespace Go.SL
open Go.RowKit
/-- The same assertions, in another order, or some of them. -/
inductive Same : List Asrt → List Asrt → Prop
  | refl {H : List Asrt} : Same H H
  | cons {a : Asrt} {G H H' : List Asrt} : Find H a H' → Same G H' → Same (a :: G) H
  | drop {a : Asrt} {G H : List Asrt} : Same G H → Same G (a :: H)
theorem Same.ent {B : World} {G H : List Asrt} {W : WT} (h : Same G H) : ∀ C, E B (C ++ G) W → E B (C ++ H) W := by
  induction h with
  | refl => exact fun _ h => h
  | @cons a G H H' f _ ih => exact fun C hC => E_perm ((f.perm.append_left C).trans (by simp)) (ih (C ++ [a]) (by simpa using hC))
  | drop _ ih => exact fun C hC => E_perm List.perm_middle (E_drop (ih C hC))
theorem E_same {B : World} {G H : List Asrt} {W : WT} (s : Same G H) (h : E B G W) : E B H W := s.ent [] h
variable {B : World} {H : List Asrt} {K : Value → WT} {P : Program}
section
variable {κ : Type} [DecidableEq κ]
structure DIt (enc : κ → Value) (es : List MapEntry) (cl : Nat) (seen : List Nat) (kv rest : List (κ × Value)) (cur : Option (κ × Value)) : Prop where
  ok : DOk enc es cl kv
  left : ((unseen es seen).map fun e => (e.key, e.val)).Perm (rest.map (eKV enc))
  now : ∀ p, cur = some p → ∃ e s, seen = s ++ [e.born] ∧ e ∈ es ∧ e.key = enc p.1 ∧ e.val = p.2
/-- An iterator over a map that stays as it is: what is left, and what came last. -/
def dit (enc : κ → Value) (o : Bool) (it r : Nat) (kv rest : List (κ × Value)) (cur : Option (κ × Value)) : Asrt :=
  ex fun (x : List MapEntry × Nat × List Nat) => all [itr it r x.2.1 x.2.2 x.2.1, mpb o r x.1 x.2.1, pur (DIt enc x.1 x.2.1 x.2.2 kv rest cur)]
variable {kd : TypeDesc} {enc : κ → Value}
theorem E_iopen {o : Bool} {it r : Nat} {kv rest : List (κ × Value)} {cur : Option (κ × Value)} {W : WT} (h : ∀ es cl seen, DIt enc es cl seen kv rest cur → E B (itr it r cl seen cl :: mpb o r es cl :: H) W) :
    E B (dit enc o it r kv rest cur :: H) W := E_ex fun x => E_all (E_perm (H' := pur (DIt enc x.1 x.2.1 x.2.2 kv rest cur) :: itr it r x.2.1 x.2.2 x.2.1 :: mpb o r x.1 x.2.1 :: H)
      (List.perm_middle (l₁ := [itr it r x.2.1 x.2.2 x.2.1, mpb o r x.1 x.2.1])) (E_pur fun hd => h x.1 x.2.1 x.2.2 hd))
theorem E_ishut {o : Bool} {it r : Nat} {kv rest : List (κ × Value)} {cur : Option (κ × Value)} {W : WT} {es : List MapEntry} {cl : Nat} {seen : List Nat} (hd : DIt enc es cl seen kv rest cur)
    (h : E B (dit enc o it r kv rest cur :: H) W) : E B (itr it r cl seen cl :: mpb o r es cl :: H) W := by
  have := E_all' (G := [itr it r cl seen cl, mpb o r es cl, pur (DIt enc es cl seen kv rest cur)])
    (E_ex' (f := fun (x : List MapEntry × Nat × List Nat) => all [itr it r x.2.1 x.2.2 x.2.1, mpb o r x.1 x.2.1, pur (DIt enc x.1 x.2.1 x.2.2 kv rest cur)]) (es, cl, seen) h)
  exact E_pur' hd (E_perm ((List.perm_middle (l₁ := [itr it r cl seen cl, mpb o r es cl])).symm) this)
theorem E_drange {t kt el r : Nat} {o : Bool} {kv : List (κ × Value)} {H' : List Asrt} [ht : TakD H enc o r kv H'] (hu : P.underlying t = some (.map kt el))
    (h : ∀ it, E B (dit enc o it r kv kv none :: H') (K (.pointer (some ⟨it, 0, none⟩)))) : E B H (V P (Instr.range t (.map (some r))) K) := by
  refine E_find ht.pf (E_dopen fun es cl hd => E_range (hf := hasM_here) hu fun it => E_ishut ⟨hd, ?_, fun p hp => by cases hp⟩ (h it))
  have : unseen es [] = es := by unfold unseen; apply List.filter_eq_self.2; intro _ _; rfl
  rw [this, hd.kvs]
class TakDI (H : List Asrt) (enc : outParam (κ → Value)) (o : outParam Bool) (it : Nat) (r : outParam Nat) (kv rest : outParam (List (κ × Value))) (cur : outParam (Option (κ × Value))) (H' : outParam (List Asrt)) : Prop where
  pf : Find H (dit enc o it r kv rest cur) H'
instance (priority := high) takDI_here {enc : κ → Value} {o it r kv rest cur H} : TakDI (dit enc o it r kv rest cur :: H) enc o it r kv rest cur H := ⟨.here⟩
instance takDI_there {enc : κ → Value} {a o it r kv rest cur H H'} [h : TakDI H enc o it r kv rest cur H'] : TakDI (a :: H) enc o it r kv rest cur (a :: H') := ⟨.there h.pf⟩
theorem E_dnext {it r ty : Nat} {o : Bool} {kv rest : List (κ × Value)} {cur : Option (κ × Value)} {H' : List Asrt} [ht : TakDI H enc o it r kv rest cur H']
    (h0 : rest = [] → E B (dit enc o it r kv [] none :: H') (K (.tuple #[.bool false])))
    (h1 : ∀ p rest', rest.Perm (p :: rest') → E B (dit enc o it r kv rest' (some p) :: H') (K (.tuple #[.bool true, enc p.1, p.2]))) : E B H (V P (Instr.next (.pointer (some ⟨it, 0, none⟩)) false ty) K) := by
  refine E_find ht.pf (E_iopen fun es cl seen hd => ?_)
  refine E_next (hi := takI_here) (hf := hasM_there (h := hasM_here)) hd.ok.lt (fun hu => ?_) (fun e he => ?_)
  · have hl := hd.left
    rw [hu] at hl
    have hr : rest = [] := by simpa using hl.length_eq.symm
    subst hr
    exact E_ishut ⟨hd.ok, by rw [hu]; exact List.Perm.refl _, fun p hp => by cases hp⟩ (h0 rfl)
  · have hm : (e.key, e.val) ∈ rest.map (eKV enc) := hd.left.subset (List.mem_map.2 ⟨e, he, rfl⟩)
    obtain ⟨p, hp, hpe⟩ := List.mem_map.1 hm
    obtain ⟨s, t, hst⟩ := List.append_of_mem hp
    have hperm : rest.Perm (p :: (s ++ t)) := by rw [hst]; exact List.perm_middle
    simp only [eKV, Prod.mk.injEq] at hpe
    have := h1 p (s ++ t) hperm
    rw [hpe.1, hpe.2] at this
    refine E_ishut ⟨hd.ok, ?_, fun q hq => ⟨e, seen, rfl, (List.mem_filter.1 he).1, ?_⟩⟩ this
    · have h2 := (unseen_perm hd.ok.born he).map fun e => (e.key, e.val)
      have h3 := (h2.trans hd.left).trans (hperm.map (eKV enc))
      simp only [List.map_cons, eKV, hpe.1, hpe.2] at h3
      exact h3.cons_inv
    · cases hq; exact ⟨hpe.1.symm, hpe.2.symm⟩
theorem E_dentry {it r : Nat} {o : Bool} {kv rest : List (κ × Value)} {p : κ × Value} {H' : List Asrt} [ht : TakDI H enc o it r kv rest (some p) H']
    (h : E B (dit enc o it r kv rest (some p) :: H') (K (.tuple #[enc p.1, p.2]))) : E B H (V P (Instr.entry (.pointer (some ⟨it, 0, none⟩))) K) := by
  refine E_find ht.pf (E_iopen fun es cl seen hd => ?_)
  obtain ⟨e, s, hs, he, hk, hv⟩ := hd.now p rfl
  subst hs
  refine E_entry (hi := takI_here) (hf := hasM_there (h := hasM_here)) hd.ok.born he ?_
  rw [hk, hv]
  exact E_ishut hd h
theorem E_idone {it r : Nat} {o : Bool} {kv rest : List (κ × Value)} {cur : Option (κ × Value)} {W : WT} (h : E B (dct enc o r kv :: H) W) : E B (dit enc o it r kv rest cur :: H) W :=
  E_iopen fun es cl seen hd => E_drop (E_dshut hd.ok h)
end
end Go.SL
