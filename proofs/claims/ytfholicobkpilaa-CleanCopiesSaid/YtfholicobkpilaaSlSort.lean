/-
  slices.Sort at []int, on a slice of one's own.
-/
import Derived.Test.YtfholicobkpilaaSlMapIt
import Derived.Shelf.Sort.Plain
set_option linter.unusedSimpArgs false
set_option linter.unusedVariables false
set_option linter.unusedSectionVars false
namespace Go.SL
open Go.RowKit Go.Sort
variable {B : World} {H : List Asrt} {K : Value → WT} {P : Program}

def ints (zs : List Int) : List Value := zs.map (Value.int .i64)
@[simp] theorem ints_length (zs : List Int) : (ints zs).length = zs.length := by simp [ints]
abbrev sortI (zs : List Int) : List Int := zs.mergeSort fun x y => decide (x ≤ y)
theorem sat_grow {w : World} (h : sat B H w) (os : List Obj) : sat B H (grow w os.toArray) := by
  induction os generalizing w with
  | nil => simpa using h
  | cons o os ih =>
    have := ih (w := { w with heap := w.heap.push o }) (h.new o).tail
    have he : grow w (o :: os).toArray = grow { w with heap := w.heap.push o } os.toArray := by
      unfold grow; simp
    rw [he]; exact this
theorem putRow_eq {w : World} {b o : Nat} {T : TypeId} {l : List Value} {fr : Nat × Nat} {zs : List Int} (h : w.heap[b]? = some (.cells l.toArray T fr)) (hl : o + zs.length ≤ l.length) :
    putRow (Value.int .i64) w b o zs.toArray = { w with heap := w.heap.setIfInBounds b (.cells (setAll l o (ints zs)).toArray T fr) } := by
  unfold putRow mapBlock
  congr 1
  apply Array.ext_getElem?
  intro i
  simp only [Array.getElem?_modify, Array.getElem?_setIfInBounds]
  by_cases hi : b = i
  · subst hi
    have hlt : b < w.heap.size := (Array.getElem?_eq_some_iff.1 h).1
    simp only [if_true, h, hlt, Option.map_some, onCells, Option.some.injEq]
    congr 1
    apply Array.ext_getElem?
    intro k
    unfold putCells setAll
    simp only [Array.getElem?_mapIdx, List.getElem?_toArray, List.size_toArray]
    by_cases hk1 : k < o
    · have : ¬ (o ≤ k ∧ k < o + zs.length) := by omega
      simp only [this, if_false]
      rw [List.append_assoc, List.getElem?_append_left (by simp; omega), List.getElem?_take_of_lt hk1]
      cases l[k]? <;> rfl
    · by_cases hk2 : k < o + zs.length
      · have hh : o ≤ k ∧ k < o + zs.length := ⟨by omega, hk2⟩
        have hkl : k < l.length := by omega
        simp only [hh, and_self, if_true]
        rw [List.append_assoc, List.getElem?_append_right (by simp; omega), List.getElem?_append_left (by simp; omega)]
        have e : (l.take o).length = o := by simp; omega
        rw [e]
        have hz : k - o < zs.length := by omega
        simp [ints, hz, hkl]
      · have : ¬ (o ≤ k ∧ k < o + zs.length) := by omega
        simp only [this, if_false]
        have e : (l.take o ++ ints zs).length = o + zs.length := by simp; omega
        rw [List.getElem?_append_right (by omega), e, List.getElem?_drop]
        have : o + (ints zs).length + (k - (o + zs.length)) = k := by simp; omega
        rw [this]
        cases l[k]? <;> rfl
  · simp [hi]
def SortOk (P : Program) (f : FuncId) : Prop := (∀ (blk off cap : Nat) (zs : List Int) (w : World), Holds (Value.int .i64) w blk off zs.toArray → blk < w.heap.size → zs.length < 4611686018427387904 →
    Calls P f #[.slice (some ⟨blk, off, none⟩) zs.length cap] w fun e w' =>
      e = .returned (.tuple #[]) ∧ ∃ n os, w' = grow (putRow (Value.int .i64) (Sort.ahead w n) blk off (zs.mergeSort fun x y => decide (x ≤ y)).toArray) os) ∧
  ∀ (p : Option Addr) (cap : Nat) (w : World), Calls P f #[.slice p 0 cap] w fun e w' => e = .returned (.tuple #[]) ∧ w' = w
theorem E_sortI {f T : Nat} {n : Nat} {v : Value} {zs : List Int} (hS : SortOk P f) (hn : n < 4611686018427387904)
    (h : E B (osl T 1 v n (ints (sortI zs)) :: H) (K (.tuple #[]))) : E B (osl T 1 v n (ints zs) :: H) (CF P f [v] K) := by
  intro w ⟨hB, ch, ⟨c1, c2, hch, hosl, hst⟩, hcc⟩
  rcases hosl with ⟨rfl, rfl, hx, rfl⟩ | ⟨b, cap, spare, rfl, hle, hxl, hsl, hcel⟩
  · have hz : zs = [] := by simpa [ints] using hx
    subst hz
    refine Calls.mono (hS.2 none 0 w) ?_
    rintro e w' ⟨rfl, rfl⟩
    exact h _ ⟨hB, ch, ⟨[], c2, hch, .inl ⟨rfl, rfl, by simp [ints, sortI], rfl⟩, hst⟩, hcc⟩
  · have hsat : sat B (cel true b T (ints zs ++ spare) :: H) w := ⟨hB, ch, ⟨c1, c2, hch, hcel, hst⟩, hcc⟩
    have hzn : zs.length = n := by simpa using hxl
    have hcell := fun o => sat_cell (hf := hasC_here) hsat o
    have hsl' : (sortI zs).length = zs.length := List.length_mergeSort ..
    obtain ⟨fr, hh, hfr, hs2⟩ := cel_own (l' := setAll (ints zs ++ spare) 0 (ints (sortI zs))) hsat (by unfold setAll; simp [hsl'])
    have hlt : b < w.heap.size := (Array.getElem?_eq_some_iff.1 hh).1
    subst hzn
    refine Calls.mono (hS.1 b 0 cap zs w (fun j hj => ?_) hlt hn) ?_
    · have hj' : j < zs.length := by simpa using hj
      refine ⟨?_, ?_⟩
      · rw [hcell]
        rw [List.getElem?_append_left (by simp; omega)]
        simp [ints, hj']
      · unfold World.frozen?
        simp only [hh]
        have := hfr (0 + j) (by simp; omega)
        rw [← Bool.not_eq_true]; simpa using this
    · rintro e w' ⟨rfl, q, os, rfl⟩
      refine h _ ?_
      have hah : (Sort.ahead w q).heap = w.heap := rfl
      rw [putRow_eq (l := ints zs ++ spare) (by rw [hah]; exact hh) (by simp [hsl'])]
      have hs3 : sat B (cel true b T (setAll (ints zs ++ spare) 0 (ints (sortI zs))) :: H) { Sort.ahead w q with heap := (Sort.ahead w q).heap.setIfInBounds b (.cells (setAll (ints zs ++ spare) 0 (ints (sortI zs))).toArray T fr) } :=
        hs2.same rfl rfl rfl rfl
      obtain ⟨hb', ch', ⟨l1, l2, e, h1, h2⟩, hc'⟩ := sat_grow hs3 os.toList
      have hset : setAll (ints zs ++ spare) 0 (ints (sortI zs)) = ints (sortI zs) ++ spare := by
        unfold setAll; simp [hsl']
      rw [hset] at h1
      refine ⟨?_, ch', ⟨l1, l2, e, .inr ⟨b, cap, spare, rfl, hle, by simp [hsl'], hsl, h1⟩, h2⟩, ?_⟩
      · simpa using hb'
      · simpa using hc'
end Go.SL
