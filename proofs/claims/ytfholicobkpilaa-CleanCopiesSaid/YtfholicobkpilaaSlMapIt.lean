/-
  Ranging over a map that stays as it is.
-/
import Derived.Test.YtfholicobkpilaaSlBytes
set_option linter.unusedSimpArgs false
set_option linter.unusedVariables false
set_option linter.unusedSectionVars false
namespace Go.SL
open Go.RowKit
variable {B : World} {H : List Asrt} {K : Value → WT} {P : Program}

def itr (it r since : Nat) (seen : List Nat) (last : Nat) : Asrt := pt true it (.mapIter (some r) since seen.toArray last)
class TakI (H : List Asrt) (it : Nat) (r since : outParam Nat) (seen : outParam (List Nat)) (last : outParam Nat) (H' : outParam (List Asrt)) : Prop where
  pf : Find H (itr it r since seen last) H'
instance (priority := high) takI_here {it r since seen last H} : TakI (itr it r since seen last :: H) it r since seen last H := ⟨.here⟩
instance takI_there {a it r since seen last H H'} [h : TakI H it r since seen last H'] : TakI (a :: H) it r since seen last (a :: H') := ⟨.there h.pf⟩

def unseen (es : List MapEntry) (seen : List Nat) : List MapEntry := es.filter fun e => !seen.contains e.born
theorem E_range {t r cl : Nat} {κ : Bool} {es : List MapEntry} {kt el : TypeId} [hf : HasM H r κ es cl] (hu : P.underlying t = some (.map kt el))
    (h : ∀ it, E B (itr it r cl [] cl :: H) (K (.pointer (some ⟨it, 0, none⟩)))) : E B H (V P (Instr.range t (.map (some r))) K) := by
  refine E_Vok fun w hw => ⟨_, _, ?_, h _ _ (hw.new (.mapIter (some r) cl #[] cl))⟩
  unfold Instr.range
  simp only [run_bind, run_underlying' hu, run_getObj' (sat_hasM (hf := hf) hw) (by simp), run_pure, newObj, Sem.run]
theorem find_itr {w : World} {it r since last : Nat} {seen : List Nat} (h : sat B (itr it r since seen last :: H) w) : w.heap[it]? = some (.mapIter (some r) since seen.toArray last) := sat.get h
theorem run_setIter {w : World} {it : Nat} {r : Option Nat} {a c : Nat} {s : Array Nat} {o : Obj} (h : w.heap[it]? = some (.mapIter r a s c)) : (setObj it o).run P w = .ok () (World.put w it o) := by
  unfold setObj Sem.run; simp only [h]; rfl
theorem left_eq (es : List MapEntry) (seen : List Nat) : (es.toArray.filter fun e => !seen.toArray.contains e.born) = (unseen es seen).toArray := by
  simp [unseen]
theorem E_next {ty it r cl : Nat} {κ : Bool} {es : List MapEntry} {seen : List Nat} {H' : List Asrt} [hi : TakI H it r cl seen cl H'] [hf : HasM H r κ es cl] (hb : ∀ e ∈ es, e.born < cl)
    (h0 : unseen es seen = [] → E B H (K (.tuple #[.bool false])))
    (h1 : ∀ e ∈ unseen es seen, E B (itr it r cl (seen ++ [e.born]) cl :: H') (K (.tuple #[.bool true, e.key, e.val]))) :
    E B H (V P (Instr.next (.pointer (some ⟨it, 0, none⟩)) false ty) K) := by
  refine E_Vok fun w hw => ?_
  have hw' := sat_perm hi.pf.perm hw
  have hit := find_itr hw'
  have hm := sat_hasM (hf := hf) hw
  have hall : (!seen.toArray.isEmpty && !es.toArray.isEmpty && es.toArray.all (fun e => decide (e.born ≥ cl))) = false := by
    cases es with
    | nil => simp
    | cons e es =>
      have := hb e (List.mem_cons_self ..)
      have hne : decide (e.born ≥ cl) = false := by simp; omega
      simp [hne]
  have hold : (unseen es seen).toArray.filter (fun e => decide (e.born < cl)) = (unseen es seen).toArray := by
    apply Array.filter_eq_self.2
    intro e he
    have : e ∈ es := (List.mem_filter.1 (by simpa [unseen] using he : e ∈ es.filter fun e => !seen.contains e.born)).1
    simpa using hb e this
  have hnew : (unseen es seen).toArray.filter (fun e => decide (e.born ≥ cl)) = #[] := by
    apply Array.filter_eq_empty_iff.2
    intro e he
    have : e ∈ es := (List.mem_filter.1 (by simpa [unseen] using he : e ∈ es.filter fun e => !seen.contains e.born)).1
    have := hb e this
    simp; omega
  have start : (Instr.next (.pointer (some ⟨it, 0, none⟩)) false ty).run P w = (do
      let candidates := (if (unseen es seen).toArray.isEmpty then #[none] else #[]) ++ ((unseen es seen).toArray ++ #[]).map some
      match candidates[← choose (.mapNext candidates.size)]? with
      | some (some e) =>
        setObj it (.mapIter (some r) cl (seen.toArray.push e.born) cl)
        pure (.tuple #[.bool true, e.key, e.val])
      | some none => pure (.tuple #[.bool false])
      | none => stuck "Next: no such candidate" : Sem Value).run P w := by
    unfold Instr.next
    simp only [run_bind, run_getObj' hit (by simp), run_getObj' hm (by simp), hall, Bool.false_eq_true, if_false, left_eq, hold, hnew]
    rfl
  rw [start]
  cases hu : unseen es seen with
  | nil =>
    refine ⟨_, w, ?_, h0 hu w hw⟩
    simp [run_bind, choose, Sem.run, Question.forced, run_pure]
  | cons e0 l =>
    have hc : ((if (e0 :: l).toArray.isEmpty then #[none] else #[]) ++ ((e0 :: l).toArray ++ #[]).map some : Array (Option MapEntry)) = ((e0 :: l).map some).toArray := by simp
    simp only [hc]
    have hch : ∃ k w2, (choose (.mapNext ((e0 :: l).map some).toArray.size)).run P w = .ok k w2 ∧ k < (e0 :: l).length ∧ w2.heap = w.heap ∧ w2.os = w.os ∧ w2.tape = w.tape ∧ w2.output = w.output := by
      unfold choose Sem.run
      split
      · exact ⟨0, w, rfl, by simp, rfl, rfl, rfl, rfl⟩
      · refine ⟨_, _, rfl, ?_, rfl, rfl, rfl, rfl⟩
        simp only [Question.cut]
        exact Nat.lt_of_lt_of_le (Nat.mod_lt _ (by simp)) (by simp)
    obtain ⟨k, w2, hk, hlt, e1, e2, e3, e4⟩ := hch
    have hmem : (e0 :: l)[k] ∈ unseen es seen := by rw [hu]; exact List.getElem_mem hlt
    have hs2 : sat B (itr it r cl seen cl :: H') w2 := hw'.same e1 e2 e3 e4
    have hit2 := find_itr hs2
    refine ⟨_, _, ?_, h1 _ hmem _ (sat_pt_put (o' := .mapIter (some r) cl (seen ++ [((e0 :: l)[k]).born]).toArray cl) hs2)⟩
    rw [run_bind, hk]
    have hget : ((e0 :: l).map some).toArray[k]? = some (some (e0 :: l)[k]) := by
      rw [List.getElem?_toArray, List.getElem?_map, List.getElem?_eq_getElem hlt]; rfl
    simp only [hget, run_bind, run_setIter hit2, run_pure]
    simp
theorem find_born : ∀ (es : List MapEntry) (e : MapEntry), (es.map (·.born)).Nodup → e ∈ es → es.find? (fun x => x.born == e.born) = some e
  | [], e, _, h => by cases h
  | x :: es, e, hn, h => by
    simp only [List.map_cons, List.nodup_cons] at hn
    by_cases hx : x.born = e.born
    · rcases List.mem_cons.1 h with rfl | h
      · simp
      · exact absurd (List.mem_map.2 ⟨e, h, hx.symm⟩) hn.1
    · rcases List.mem_cons.1 h with rfl | h
      · exact absurd rfl hx
      · rw [List.find?_cons_of_neg (by simpa using hx)]; exact find_born es e hn.2 h
theorem E_entry {it r cl : Nat} {κ : Bool} {es : List MapEntry} {seen : List Nat} {H' : List Asrt} {e : MapEntry} [hi : TakI H it r cl (seen ++ [e.born]) cl H'] [hf : HasM H r κ es cl] (hn : (es.map (·.born)).Nodup) (he : e ∈ es)
    (h : E B H (K (.tuple #[e.key, e.val]))) : E B H (V P (Instr.entry (.pointer (some ⟨it, 0, none⟩))) K) := by
  refine E_Vok fun w hw => ⟨_, w, ?_, h w hw⟩
  have hit := find_itr (sat_perm hi.pf.perm hw)
  have hm := sat_hasM (hf := hf) hw
  unfold Instr.entry
  simp only [run_bind, run_getObj' hit (by simp)]
  have hb : ((seen ++ [e.born]).toArray).back? = some e.born := by simp
  simp only [hb, run_bind, run_getObj' hm (by simp)]
  have hf : es.toArray.find? (fun x => x.born == e.born) = some e := by simp [find_born es e hn he]
  simp [hf, run_pure]

/-! ### what has been seen, and what is left -/
theorem filter_perm : ∀ (l : List MapEntry) (e : MapEntry), (l.map (·.born)).Nodup → e ∈ l → (e :: l.filter fun x => x.born != e.born).Perm l
  | [], e, _, h => by cases h
  | x :: l, e, hn, h => by
    simp only [List.map_cons, List.nodup_cons] at hn
    rcases List.mem_cons.1 h with rfl | h
    · have : l.filter (fun x => x.born != e.born) = l := by
        apply List.filter_eq_self.2
        intro y hy
        have : y.born ≠ e.born := fun hy' => hn.1 (List.mem_map.2 ⟨y, hy, hy'⟩)
        simpa using this
      simp [this]
    · have hne : x.born ≠ e.born := fun hx => hn.1 (List.mem_map.2 ⟨e, h, hx.symm⟩)
      have : (x :: l).filter (fun x => x.born != e.born) = x :: l.filter (fun x => x.born != e.born) := by simp [hne]
      rw [this]
      exact (List.Perm.swap ..).trans ((filter_perm l e hn.2 h).cons x)
theorem unseen_perm {es : List MapEntry} {seen : List Nat} {e : MapEntry} (hn : (es.map (·.born)).Nodup) (he : e ∈ unseen es seen) : (e :: unseen es (seen ++ [e.born])).Perm (unseen es seen) := by
  have hn' : ((unseen es seen).map (·.born)).Nodup := hn.sublist ((List.filter_sublist).map _)
  have := filter_perm (unseen es seen) e hn' he
  have hu : unseen es (seen ++ [e.born]) = (unseen es seen).filter fun x => x.born != e.born := by
    unfold unseen
    rw [List.filter_filter]
    apply List.filter_congr
    intro x _
    simp only [List.contains_eq_mem, List.mem_append, List.mem_singleton]
    by_cases h1 : x.born ∈ seen <;> by_cases h2 : x.born = e.born <;> simp [h1, h2]
  rw [hu]; exact this
end Go.SL
