/-
  What each primitive asks of, and leaves in, the heap.
-/
import Derived.Test.YtfholicobkpilaaSlCode
import Derived.IntWalk
set_option linter.unusedSimpArgs false
set_option linter.unusedVariables false
set_option linter.unusedSectionVars false
namespace Go.SL
open Go.RowKit
variable {B : World} {H : List Asrt} {K : Value → WT}

/-- A block of cells. -/
def cel (κ : Bool) (b : Nat) (T : TypeId) (l : List Value) : Asrt := fun ch =>
  ∃ fr : Nat × Nat, (κ = true → fr.1 = fr.2 ∨ l.length ≤ fr.1) ∧ ch = [⟨κ, b, .cells l.toArray T fr⟩]
/-- A map's block. -/
def mpb (κ : Bool) (b : Nat) (es : List MapEntry) (cl : Nat) : Asrt := pt κ b (.map es.toArray cl)

class HasC (H : List Asrt) (b : Nat) (κ : outParam Bool) (T : outParam TypeId) (l : outParam (List Value)) : Prop where
  pf : ∃ H', Find H (cel κ b T l) H'
instance (priority := high) hasC_here {κ b T l H} : HasC (cel κ b T l :: H) b κ T l := ⟨_, .here⟩
instance hasC_there {a κ b T l H} [h : HasC H b κ T l] : HasC (a :: H) b κ T l := ⟨_, .there h.pf.choose_spec⟩
class TakC (H : List Asrt) (b : Nat) (T : outParam TypeId) (l : outParam (List Value)) (H' : outParam (List Asrt)) : Prop where
  pf : Find H (cel true b T l) H'
instance (priority := high) takC_here {b T l H} : TakC (cel true b T l :: H) b T l H := ⟨.here⟩
instance takC_there {a b T l H H'} [h : TakC H b T l H'] : TakC (a :: H) b T l (a :: H') := ⟨.there h.pf⟩
/-- An element of a list that is written out. -/
class AtI (l : List Value) (n : Nat) (v : outParam Value) : Prop where
  pf : l[n]? = some v
instance (priority := high) atI_zero {v l} : AtI (v :: l) 0 v := ⟨rfl⟩
instance atI_succ {u v l n} [h : AtI l n v] : AtI (u :: l) (n + 1) v := ⟨by simpa using h.pf⟩
class SetI (l : List Value) (n : Nat) (v : Value) (l' : outParam (List Value)) : Prop where
  lt : n < l.length
  pf : l.set n v = l'
instance (priority := high) setI_zero {u v l} : SetI (u :: l) 0 v (v :: l) := ⟨by simp, rfl⟩
instance setI_succ {u v l l' n} [h : SetI l n v l'] : SetI (u :: l) (n + 1) v (u :: l') := ⟨by simpa using h.lt, by simpa using h.pf⟩
/-- A value's cells. -/
class CellsI (v : Value) (l : outParam (List Value)) : Prop where
  pf : v.cells.toList = l
section
variable {k : IntKind} {n : Int} {b0 : Bool} {b : ByteArray} {pa : Option Addr} {sl sc : Nat} {r : Option Nat} {fn : Fn} {xa xb : Array Value} {t : TypeId} {v : Value} {l : List Value}
instance : CellsI (.int k n) [.int k n] := ⟨rfl⟩
instance : CellsI (.bool b0) [.bool b0] := ⟨rfl⟩
instance : CellsI (.string b) [.string b] := ⟨rfl⟩
instance : CellsI (.pointer pa) [.pointer pa] := ⟨rfl⟩
instance : CellsI (.slice pa sl sc) [.slice pa sl sc] := ⟨rfl⟩
instance : CellsI (.map r) [.map r] := ⟨rfl⟩
instance : CellsI (.func fn xa xb) [.func fn xa xb] := ⟨rfl⟩
instance : CellsI .nilFunc [.nilFunc] := ⟨rfl⟩
instance : CellsI (.iface t v) [.iface t v] := ⟨rfl⟩
instance : CellsI .nilIface [.nilIface] := ⟨rfl⟩
instance : CellsI (.agg l.toArray) l := ⟨rfl⟩
end
class CellI (v : Value) : Prop where
  pf : isCell v = true
section
variable {k : IntKind} {n : Int} {b0 : Bool} {b : ByteArray} {pa : Option Addr} {sl sc : Nat} {r : Option Nat} {fn : Fn} {xa xb : Array Value} {t : TypeId} {v : Value}
instance : CellI (.int k n) := ⟨rfl⟩
instance : CellI (.bool b0) := ⟨rfl⟩
instance : CellI (.string b) := ⟨rfl⟩
instance : CellI (.pointer pa) := ⟨rfl⟩
instance : CellI (.slice pa sl sc) := ⟨rfl⟩
instance : CellI (.map r) := ⟨rfl⟩
instance : CellI (.func fn xa xb) := ⟨rfl⟩
instance : CellI .nilFunc := ⟨rfl⟩
instance : CellI (.iface t v) := ⟨rfl⟩
instance : CellI .nilIface := ⟨rfl⟩
end

/-! ### what the heap says of the world -/
theorem sat_cel {w : World} {κ : Bool} {b : Nat} {T : TypeId} {l : List Value} (h : sat B (cel κ b T l :: H) w) : ∃ fr, w.heap[b]? = some (.cells l.toArray T fr) := by
  obtain ⟨hb, ch, ⟨l1, l2, rfl, ⟨fr, _, rfl⟩, h2⟩, hc⟩ := h
  exact ⟨fr, (hc.1 ⟨κ, b, .cells l.toArray T fr⟩ (by simp)).1⟩
theorem sat_has {w : World} {κ : Bool} {b : Nat} {T : TypeId} {l : List Value} [hf : HasC H b κ T l] (h : sat B H w) : ∃ fr, w.heap[b]? = some (.cells l.toArray T fr) := by
  obtain ⟨H', hf⟩ := hf.pf
  exact sat_cel (sat_perm hf.perm h)
theorem sat_cell {w : World} {κ : Bool} {b : Nat} {T : TypeId} {l : List Value} [hf : HasC H b κ T l] (h : sat B H w) (o : Nat) : w.cell? ⟨b, o, none⟩ = l[o]? := by
  obtain ⟨fr, hc⟩ := sat_has (hf := hf) h
  unfold World.cell?
  simp [hc]
theorem cel_own {b : Nat} {T : TypeId} {l : List Value} {l' : List Value} {w : World} (h : sat B (cel true b T l :: H) w) (hl : l'.length = l.length) :
    ∃ fr, w.heap[b]? = some (.cells l.toArray T fr) ∧ (∀ o, o < l.length → ¬ (fr.1 ≤ o ∧ o < fr.2)) ∧ sat B (cel true b T l' :: H) { w with heap := w.heap.setIfInBounds b (.cells l'.toArray T fr) } := by
  obtain ⟨hb, ch, ⟨l1, l2, e, ⟨fr, hfr, rfl⟩, h2⟩, hc⟩ := h
  have hs : sat B (pt true b (.cells l.toArray T fr) :: H) w := ⟨hb, ch, ⟨_, l2, e, rfl, h2⟩, hc⟩
  refine ⟨fr, hs.get, fun o ho h => by rcases hfr rfl with h' | h' <;> omega, ?_⟩
  obtain ⟨hb', ch', ⟨l1', l2', e', h1', h2'⟩, hc'⟩ := hs.put (.cells l'.toArray T fr)
  exact ⟨hb', ch', ⟨l1', l2', e', ⟨fr, fun _ => by rw [hl]; exact hfr rfl, h1'⟩, h2'⟩, hc'⟩
/-- Past a block's end something is frozen. -/
theorem cel_mark {b : Nat} {T : TypeId} {l : List Value} {w : World} (h : sat B (cel true b T l :: H) w) : sat B (cel true b T l :: H) (w.freeze ⟨b, l.length, none⟩ 1) := by
  obtain ⟨hb, ch, ⟨l1, l2, e, ⟨fr, hfr, rfl⟩, h2⟩, hc⟩ := h
  have hs : sat B (pt true b (.cells l.toArray T fr) :: H) w := ⟨hb, ch, ⟨_, l2, e, rfl, h2⟩, hc⟩
  have hh := hs.get
  obtain ⟨hb', ch', ⟨l1', l2', e', h1', h2'⟩, hc'⟩ := hs.put (.cells l.toArray T (if fr.1 == fr.2 then (l.length, l.length + 1) else (min fr.1 l.length, max fr.2 (l.length + 1))))
  have hw : w.freeze ⟨b, l.length, none⟩ 1 = { w with heap := w.heap.setIfInBounds b (.cells l.toArray T (if fr.1 == fr.2 then (l.length, l.length + 1) else (min fr.1 l.length, max fr.2 (l.length + 1)))) } := by
    unfold World.freeze
    rw [if_neg (by decide)]
    congr 1
    apply Array.ext_getElem?
    intro i
    simp only [Array.getElem?_modify, Array.getElem?_setIfInBounds]
    by_cases hi : b = i
    · subst hi
      have hlt : b < w.heap.size := (Array.getElem?_eq_some_iff.1 hh).1
      simp only [if_true, hh, hlt, Option.map_some]
    · simp [hi]
  rw [hw]
  refine ⟨hb', ch', ⟨l1', l2', e', ⟨_, fun _ => ?_, h1'⟩, h2'⟩, hc'⟩
  by_cases hq : fr.1 = fr.2
  · simp [hq]
  · have := hfr rfl
    simp only [beq_iff_eq, hq, if_false]
    right; omega
theorem setCell_eq {w : World} {b o : Nat} {c : Array Value} {T : TypeId} {fr : Nat × Nat} {v : Value} (h : w.heap[b]? = some (.cells c T fr)) :
    w.setCell ⟨b, o, none⟩ v = { w with heap := w.heap.setIfInBounds b (.cells (c.setIfInBounds o v) T fr) } := by
  unfold World.setCell
  congr 1
  apply Array.ext_getElem?
  intro i
  simp only [Array.getElem?_modify, Array.getElem?_setIfInBounds]
  by_cases hi : b = i
  · subst hi
    have hlt : b < w.heap.size := by
      rcases Nat.lt_or_ge b w.heap.size with h' | h'
      · exact h'
      · simp [Array.getElem?_eq_none h'] at h
    have hg : w.heap[b] = .cells c T fr := by rw [Array.getElem?_eq_getElem hlt] at h; exact Option.some.inj h
    simp [hlt, hg]
  · simp [hi]

/-! ### loads and stores -/
theorem E_ld {b o : Nat} {κ : Bool} {T : TypeId} {l : List Value} {v : Value} [hf : HasC H b κ T l] [hv : AtI l o v] (h : E B H (K v)) : E B H (S.ld (.pointer (some ⟨b, o, none⟩)) K) := by
  intro w hw
  unfold S.ld
  simp only [sat_cell (hf := hf) hw, hv.pf]
  exact h w hw
theorem E_ld' {b o : Nat} {κ : Bool} {T : TypeId} {l : List Value} {v : Value} [hf : HasC H b κ T l] (hv : l[o]? = some v) (h : E B H (K v)) : E B H (S.ld (.pointer (some ⟨b, o, none⟩)) K) := by
  intro w hw
  unfold S.ld
  simp only [sat_cell (hf := hf) hw, hv]
  exact h w hw
theorem cellsFrom_eq {w : World} {b : Nat} {l : List Value} (hc : ∀ o, w.cell? ⟨b, o, none⟩ = l[o]?) : ∀ (n i o : Nat) (cs : List Value), (l.drop (o + i)).take n = cs → cs.length = n → cellsFrom w ⟨b, o, none⟩ i n = some cs
  | 0, i, o, cs, h, hl => by simp at h; subst h; rfl
  | n + 1, i, o, cs, h, hl => by
    have hlt : o + i < l.length := by
      rcases Nat.lt_or_ge (o + i) l.length with h' | h'
      · exact h'
      · rw [List.drop_eq_nil_of_le h'] at h; simp at h; subst h; simp at hl
    have hd := List.drop_eq_getElem_cons hlt
    rw [hd, List.take_succ_cons] at h
    subst h
    simp only [cellsFrom]
    have ha : (⟨b, o, none⟩ : Addr).add i = ⟨b, o + i, none⟩ := by
      unfold Addr.add; split
      · rename_i h0; subst h0; rfl
      · rfl
    rw [ha, hc, List.getElem?_eq_getElem hlt]
    simp only
    rw [cellsFrom_eq hc n (i + 1) o _ (by rw [← Nat.add_assoc]) (by simpa using hl)]
    rfl
theorem E_ldN {b o n : Nat} {κ : Bool} {T : TypeId} {l cs : List Value} [hf : HasC H b κ T l] (hv : (l.drop o).take n = cs) (hn : cs.length = n) (h : E B H (K (.agg cs.toArray))) :
    E B H (S.ldN n (.pointer (some ⟨b, o, none⟩)) K) := by
  intro w hw
  unfold S.ldN
  simp only [cellsFrom_eq (fun o => sat_cell (hf := hf) hw o) n 0 o cs (by simpa using hv) hn]
  exact h w hw

def setAll (l : List Value) (o : Nat) (vs : List Value) : List Value := l.take o ++ vs ++ l.drop (o + vs.length)
theorem putFrom_eq {b o : Nat} {T : TypeId} : ∀ (vs l : List Value) (i : Nat) (w : World) {H : List Asrt}, sat B (cel true b T l :: H) w → (∀ v ∈ vs, isCell v = true) → o + i + vs.length ≤ l.length →
    ∃ w', putFrom ⟨b, o, none⟩ i vs w = some w' ∧ sat B (cel true b T (setAll l (o + i) vs) :: H) w'
  | [], l, i, w, H, hw, _, hl => ⟨w, rfl, by simpa [setAll] using hw⟩
  | v :: vs, l, i, w, H, hw, hc, hl => by
    have hlt : o + i < l.length := by simp at hl; omega
    obtain ⟨fr, hh, hfr, hs⟩ := cel_own (l' := l.set (o + i) v) hw (by simp)
    have ha : (⟨b, o, none⟩ : Addr).add i = ⟨b, o + i, none⟩ := by
      unfold Addr.add; split
      · rename_i h0; subst h0; rfl
      · rfl
    have h1 : w.cell? ⟨b, o + i, none⟩ = some l[o + i] := by
      unfold World.cell?; simp [hh, hlt]
    have h2 : w.frozen? ⟨b, o + i, none⟩ = false := by
      unfold World.frozen?; simp only [hh]
      have := hfr _ hlt
      rw [← Bool.not_eq_true]; simpa using this
    have hset : w.setCell ⟨b, o + i, none⟩ v = { w with heap := w.heap.setIfInBounds b (.cells (l.set (o + i) v).toArray T fr) } := by
      rw [setCell_eq hh]; congr 3; simp
    rw [← hset] at hs
    obtain ⟨w', h3, h4⟩ := putFrom_eq (o := o) vs (l.set (o + i) v) (i + 1) _ hs (fun u hu => hc u (List.mem_cons_of_mem _ hu)) (by rw [List.length_set]; simp at hl; omega)
    refine ⟨w', ?_, ?_⟩
    · simp only [putFrom, ha, hc v (List.mem_cons_self ..), h1, h2]; exact h3
    · have : setAll (l.set (o + i) v) (o + (i + 1)) vs = setAll l (o + i) (v :: vs) := by
        unfold setAll
        simp only [List.length_cons] at hl ⊢
        rw [← Nat.add_assoc, List.take_add_one (i := o + i), List.take_set_of_le (Nat.le_refl _), List.drop_set_of_lt (by omega)]
        simp [hlt]
        congr 1; omega
      rw [this] at h4; exact h4
theorem E_stN {b o n : Nat} {T : TypeId} {l l' vs : List Value} {v : Value} {H' : List Asrt} [hf : TakC H b T l H'] [hv : CellsI v vs] (hn : vs.length = n) (hc : ∀ v ∈ vs, isCell v = true)
    (hl : o + n ≤ l.length) (he : setAll l o vs = l') (h : E B (cel true b T l' :: H') (K undef)) : E B H (S.st n (.pointer (some ⟨b, o, none⟩)) v K) := by
  intro w hw
  obtain ⟨w', h1, h2⟩ := putFrom_eq (o := o) vs l 0 w (sat_perm hf.pf.perm hw) hc (by simp; omega)
  have hs : v.cells.size = n := by rw [← Array.length_toList, hv.pf, hn]
  unfold S.st
  simp only [hs, hv.pf, h1, true_and]
  simp only [Nat.add_zero, he] at h2
  exact h w' h2
theorem setAll_one (l : List Value) (o : Nat) (v : Value) (h : o < l.length) : setAll l o [v] = l.set o v := by
  unfold setAll
  rw [List.set_eq_take_append_cons_drop, if_pos h]; simp
theorem E_st {b o : Nat} {T : TypeId} {l l' : List Value} {v : Value} {H' : List Asrt} [hf : TakC H b T l H'] [hs : SetI l o v l'] [hc : CellI v]
    (h : E B (cel true b T l' :: H') (K undef)) : E B H (S.st 1 (.pointer (some ⟨b, o, none⟩)) v K) := by
  have hv : v.cells.toList = [v] := by have := hc.pf; cases v <;> first | rfl | simp [isCell] at this
  exact E_stN (hf := hf) (hv := ⟨hv⟩) rfl (by simp [hc.pf]) (by have := hs.lt; omega) (by rw [setAll_one _ _ _ hs.lt]; exact hs.pf) h
theorem E_st' {b o : Nat} {T : TypeId} {l : List Value} {v : Value} {H' : List Asrt} [hf : TakC H b T l H'] [hc : CellI v] (hlt : o < l.length)
    (h : E B (cel true b T (l.set o v) :: H') (K undef)) : E B H (S.st 1 (.pointer (some ⟨b, o, none⟩)) v K) := by
  have hv : v.cells.toList = [v] := by have := hc.pf; cases v <;> first | rfl | simp [isCell] at this
  exact E_stN (hf := hf) (hv := ⟨hv⟩) rfl (by simp [hc.pf]) (by omega) (by rw [setAll_one _ _ _ hlt]) h
theorem E_box {T : TypeId} {v : Value} {vs : List Value} [hv : CellsI v vs] (h : ∀ b, E B (cel true b T vs :: H) (K (.pointer (some ⟨b, 0, none⟩)))) : E B H (S.box T v K) := by
  intro w hw
  unfold S.box
  refine h _ _ ?_
  obtain ⟨hb, ch, ⟨l1, l2, e, h1, h2⟩, hc⟩ := hw.new (.cells v.cells T)
  refine ⟨hb, ch, ⟨l1, l2, e, ⟨(0, 0), by simp, ?_⟩, h2⟩, hc⟩
  rw [h1]; simp [← hv.pf]

/-! ### what needs no heap -/
theorem E_nc {a : Addr} (h : E B H (K (.pointer (some a)))) : E B H (S.nc (.pointer (some a)) K) := h
theorem E_nc_f {f : FuncId} {x y : Array Value} (h : E B H (K (.func (.func f) x y))) : E B H (S.nc (.func (.func f) x y) K) := h
theorem E_nc_i {t : TypeId} {x : Value} (h : E B H (K (.iface t x))) : E B H (S.nc (.iface t x) K) := h
theorem E_fad {b o n : Nat} (h : E B H (K (.pointer (some ⟨b, o + n, none⟩)))) : E B H (S.fad (.pointer (some ⟨b, o, none⟩)) n K) := by
  intro w hw
  have := h w hw
  have ha : (⟨b, o, none⟩ : Addr).add n = ⟨b, o + n, none⟩ := by
    unfold Addr.add; split
    · rename_i h0; subst h0; rfl
    · rfl
  show K (.pointer (some ((⟨b, o, none⟩ : Addr).add n))) w
  rw [ha]; exact this
theorem E_fad0 {b n : Nat} (h : E B H (K (.pointer (some ⟨b, n, none⟩)))) : E B H (S.fad (.pointer (some ⟨b, 0, none⟩)) n K) := E_fad (by simpa using h)
theorem E_pickT {p : Prop} [Decidable p] {a b : Value} (hp : p) (h : E B H (K a)) : E B H (S.pick (.bool (decide p)) a b K) := by
  intro w hw; unfold S.pick; simp only [hp, decide_true]; exact h w hw
theorem E_pickF {p : Prop} [Decidable p] {a b : Value} (hp : ¬ p) (h : E B H (K b)) : E B H (S.pick (.bool (decide p)) a b K) := by
  intro w hw; unfold S.pick; simp only [hp, decide_false]; exact h w hw
theorem E_pickbT {c : Bool} {a b : Value} (hp : c = true) (h : E B H (K a)) : E B H (S.pick (.bool c) a b K) := by
  subst hp; exact h
theorem E_pickbF {c : Bool} {a b : Value} (hp : c = false) (h : E B H (K b)) : E B H (S.pick (.bool c) a b K) := by
  subst hp; exact h
theorem E_if {p : Prop} [Decidable p] {A C : WT} (ht : p → E B H A) (hf : ¬ p → E B H C) : E B H (S.cond (.bool (decide p)) A C) := by
  intro w hw; unfold S.cond
  by_cases hp : p
  · simp only [hp, decide_true]; exact ht hp w hw
  · simp only [hp, decide_false]; exact hf hp w hw
theorem E_ifb {c : Bool} {A C : WT} (ht : c = true → E B H A) (hf : c = false → E B H C) : E B H (S.cond (.bool c) A C) := by
  cases c
  · exact hf rfl
  · exact ht rfl
theorem E_ifT {p : Prop} [Decidable p] {A C : WT} (hp : p) (ht : E B H A) : E B H (S.cond (.bool (decide p)) A C) := E_if (fun _ => ht) (fun h => (h hp).elim)
theorem E_ifF {p : Prop} [Decidable p] {A C : WT} (hp : ¬ p) (hf : E B H C) : E B H (S.cond (.bool (decide p)) A C) := E_if (fun h => (hp h).elim) (fun _ => hf)
theorem E_tt {A C : WT} (h : E B H A) : E B H (S.cond (.bool true) A C) := h
theorem E_ff {A C : WT} (h : E B H C) : E B H (S.cond (.bool false) A C) := h
theorem E_gd {p : Prop} [Decidable p] {body : (Value → WT) → WT} {rest : Value → WT} (ht : p → E B H (body rest)) (hf : ¬ p → E B H (rest undef)) : E B H (S.gd (.bool (decide p)) true body rest) := by
  intro w hw; unfold S.gd
  by_cases hp : p
  · simp only [hp, decide_true]; exact ht hp w hw
  · simp only [hp, decide_false]; exact hf hp w hw
theorem E_gdn {p : Prop} [Decidable p] {body : (Value → WT) → WT} {rest : Value → WT} (ht : p → E B H (rest undef)) (hf : ¬ p → E B H (body rest)) : E B H (S.gd (.bool (decide p)) false body rest) := by
  intro w hw; unfold S.gd
  by_cases hp : p
  · simp only [hp, decide_true]; exact ht hp w hw
  · simp only [hp, decide_false]; exact hf hp w hw
theorem E_gdT {p : Prop} [Decidable p] {body : (Value → WT) → WT} {rest : Value → WT} (hp : p) (ht : E B H (body rest)) : E B H (S.gd (.bool (decide p)) true body rest) := E_gd (fun _ => ht) (fun h => (h hp).elim)
theorem E_gdF {p : Prop} [Decidable p] {body : (Value → WT) → WT} {rest : Value → WT} (hp : ¬ p) (hf : E B H (rest undef)) : E B H (S.gd (.bool (decide p)) true body rest) := E_gd (fun h => (hp h).elim) (fun _ => hf)
theorem E_gdnT {p : Prop} [Decidable p] {body : (Value → WT) → WT} {rest : Value → WT} (hp : p) (ht : E B H (rest undef)) : E B H (S.gd (.bool (decide p)) false body rest) := E_gdn (fun _ => ht) (fun h => (h hp).elim)
theorem E_gdnF {p : Prop} [Decidable p] {body : (Value → WT) → WT} {rest : Value → WT} (hp : ¬ p) (hf : E B H (body rest)) : E B H (S.gd (.bool (decide p)) false body rest) := E_gdn (fun h => (hp h).elim) (fun _ => hf)
theorem E_gdb {c : Bool} {body : (Value → WT) → WT} {rest : Value → WT} (ht : c = true → E B H (body rest)) (hf : c = false → E B H (rest undef)) : E B H (S.gd (.bool c) true body rest) := by
  cases c
  · exact hf rfl
  · exact ht rfl
theorem E_gdnb {c : Bool} {body : (Value → WT) → WT} {rest : Value → WT} (ht : c = true → E B H (rest undef)) (hf : c = false → E B H (body rest)) : E B H (S.gd (.bool c) false body rest) := by
  cases c
  · exact hf rfl
  · exact ht rfl
theorem E_gdu {b : Bool} {body : (Value → WT) → WT} {rest : Value → WT} (h : E B H (rest undef)) : E B H (S.gd undef b body rest) := h
theorem E_join0 {n : Nat} {body : Kn n → WT} {rest : Kn n} (h : E B H (body rest)) : E B H (S.join n body rest) := h
theorem E_fa {f : (Nat → Value) → WT} (h : ∀ j, E B H (f j)) : E B H (S.fa f) := fun w hw j => h j w hw
theorem E_dr {W : WT} (h : E B H W) : E B H (S.dr W) := fun w hw w' h1 h2 h3 h4 => h w' (hw.same h1 h2 h3 h4)
theorem E_rck1 {f : WT} {fs : List WT} {W : WT} (hf : E B H f) (h : E B H (S.rck fs W)) : E B H (S.rck (f :: fs) W) := fun w hw =>
  ⟨fun g hg => by rcases List.mem_cons.1 hg with rfl | hg; · exact hf w hw
                  · exact (h w hw).1 g hg, (h w hw).2⟩
theorem E_rck0 {W : WT} (h : E B H W) : E B H (S.rck [] W) := fun w hw => ⟨by simp, h w hw⟩
theorem E_fact {v u : Value} (h : v = u) : E B H (fun _ => v = u) := fun _ _ => h
theorem E_add {k : IntKind} {a b : Int} (h : E B H (K (.int k (k.wrap (a + b))))) : E B H (S.bin .add (.int k a) (.int k b) K) := fun w hw => ⟨rfl, h w hw⟩
theorem E_sub {k : IntKind} {a b : Int} (h : E B H (K (.int k (k.wrap (a - b))))) : E B H (S.bin .sub (.int k a) (.int k b) K) := fun w hw => ⟨rfl, h w hw⟩
theorem E_mul {k : IntKind} {a b : Int} (h : E B H (K (.int k (k.wrap (a * b))))) : E B H (S.bin .mul (.int k a) (.int k b) K) := fun w hw => ⟨rfl, h w hw⟩
theorem E_quo {k : IntKind} {a b : Int} (h0 : b ≠ 0) (h : E B H (K (.int k (k.wrap (a.tdiv b))))) : E B H (S.bin .quo (.int k a) (.int k b) K) := fun w hw => ⟨rfl, h0, h w hw⟩
theorem E_rem {k : IntKind} {a b : Int} (h0 : b ≠ 0) (h : E B H (K (.int k (a.tmod b)))) : E B H (S.bin .rem (.int k a) (.int k b) K) := fun w hw => ⟨rfl, h0, h w hw⟩
theorem wrapI {a : Int} (h1 : -9223372036854775808 ≤ a) (h2 : a ≤ 9223372036854775807) : IntKind.i64.wrap a = a := Go.IntWalk.i64_in a ⟨h1, h2⟩
theorem E_addI {a b : Int} (h1 : -9223372036854775808 ≤ a + b) (h2 : a + b ≤ 9223372036854775807) (h : E B H (K (.int .i64 (a + b)))) : E B H (S.bin .add (.int .i64 a) (.int .i64 b) K) := E_add (by rw [wrapI h1 h2]; exact h)
theorem E_subI {a b : Int} (h1 : -9223372036854775808 ≤ a - b) (h2 : a - b ≤ 9223372036854775807) (h : E B H (K (.int .i64 (a - b)))) : E B H (S.bin .sub (.int .i64 a) (.int .i64 b) K) := E_sub (by rw [wrapI h1 h2]; exact h)
theorem E_mulI {a b : Int} (h1 : -9223372036854775808 ≤ a * b) (h2 : a * b ≤ 9223372036854775807) (h : E B H (K (.int .i64 (a * b)))) : E B H (S.bin .mul (.int .i64 a) (.int .i64 b) K) := E_mul (by rw [wrapI h1 h2]; exact h)
theorem E_quoI {a b : Int} (h1 : 0 ≤ a) (h2 : 0 < b) (h3 : a ≤ 9223372036854775807) (h : E B H (K (.int .i64 (a / b)))) : E B H (S.bin .quo (.int .i64 a) (.int .i64 b) K) := by
  refine E_quo (by omega) ?_
  rw [Int.tdiv_eq_ediv_of_nonneg h1, wrapI]
  · exact h
  · have := Int.ediv_nonneg h1 (by omega : 0 ≤ b); omega
  · have := Int.ediv_le_self b h1; omega
theorem E_remI {a b : Int} (h1 : 0 ≤ a) (h2 : 0 < b) (h : E B H (K (.int .i64 (a % b)))) : E B H (S.bin .rem (.int .i64 a) (.int .i64 b) K) := by
  refine E_rem (by omega) ?_
  rw [Int.tmod_eq_emod_of_nonneg h1]; exact h
theorem E_eql {k : IntKind} {a b : Int} (h : E B H (K (.bool (decide (a = b))))) : E B H (S.bin .eql (.int k a) (.int k b) K) := fun w hw => ⟨rfl, h w hw⟩
theorem E_neq {k : IntKind} {a b : Int} (h : E B H (K (.bool (decide (a ≠ b))))) : E B H (S.bin .neq (.int k a) (.int k b) K) := fun w hw => ⟨rfl, h w hw⟩
theorem E_lss {k : IntKind} {a b : Int} (h : E B H (K (.bool (decide (a < b))))) : E B H (S.bin .lss (.int k a) (.int k b) K) := fun w hw => ⟨rfl, h w hw⟩
theorem E_leq {k : IntKind} {a b : Int} (h : E B H (K (.bool (decide (a ≤ b))))) : E B H (S.bin .leq (.int k a) (.int k b) K) := fun w hw => ⟨rfl, h w hw⟩
theorem E_gtr {k : IntKind} {a b : Int} (h : E B H (K (.bool (decide (b < a))))) : E B H (S.bin .gtr (.int k a) (.int k b) K) := fun w hw => ⟨rfl, h w hw⟩
theorem E_geq {k : IntKind} {a b : Int} (h : E B H (K (.bool (decide (b ≤ a))))) : E B H (S.bin .geq (.int k a) (.int k b) K) := fun w hw => ⟨rfl, h w hw⟩
theorem E_not {p : Prop} [Decidable p] (h : E B H (K (.bool (decide (¬ p))))) : E B H (S.not1 (.bool (decide p)) K) := fun w hw => by
  have := h w hw; rw [decide_not] at this; exact this
theorem E_notb {c : Bool} (h : E B H (K (.bool (!c)))) : E B H (S.not1 (.bool c) K) := h
theorem E_len {a : Option Addr} {n c : Nat} (h : E B H (K (.int .i64 n))) : E B H (S.len (.slice a n c) K) := h
theorem E_lenS {s : ByteArray} (h : E B H (K (.int .i64 s.size))) : E B H (S.lenS (.string s) K) := h
theorem E_cap {a : Option Addr} {n c : Nat} (h : E B H (K (.int .i64 c))) : E B H (S.cap (.slice a n c) K) := h
theorem E_mx {k : IntKind} {a b : Int} (h : E B H (K (.int k (max a b)))) : E B H (S.mx (.int k a) (.int k b) K) := by
  have : (if b > a then b else a) = max a b := by omega
  intro w hw; show K (.int k (if b > a then b else a)) w; rw [this]; exact h w hw
theorem E_mn {k : IntKind} {a b : Int} (h : E B H (K (.int k (min a b)))) : E B H (S.mn (.int k a) (.int k b) K) := by
  have : (if b < a then b else a) = min a b := by omega
  intro w hw; show K (.int k (if b < a then b else a)) w; rw [this]; exact h w hw
theorem E_ixS {sz b o len c : Nat} {k : IntKind} {n : Int} (h0 : 0 ≤ n) (h1 : n < len) (h : E B H (K (.pointer (some ⟨b, o + n.toNat * sz, none⟩)))) :
    E B H (S.ixS sz (.slice (some ⟨b, o, none⟩) len c) (.int k n) K) := fun w hw => ⟨h0, h1, by
  have := h w hw
  unfold Addr.add; split
  · rename_i hz; rw [hz] at this; exact this
  · exact this⟩
theorem E_ext {l : List Value} {i : Nat} {v : Value} [hv : AtI l i v] (h : E B H (K v)) : E B H (S.ext (.tuple l.toArray) i K) := by
  intro w hw; unfold S.ext; have := hv.pf; simp only [List.getElem?_toArray, this]; exact h w hw
theorem E_prt {l : List Value} {o n : Nat} {v : Value} [hv : AtI l o v] (h : E B H (K v)) : E B H (S.prt false o n (.agg l.toArray) K) := by
  intro w hw; unfold S.prt; have := hv.pf; simp only [List.getElem?_toArray, this]; exact h w hw
theorem E_chr {s : ByteArray} {k : IntKind} {n : Int} (h0 : 0 ≤ n) (h1 : n.toNat < s.size) (h : E B H (K (.int .u8 (s[n.toNat]'h1).toNat))) : E B H (S.chr (.string s) (.int k n) K) := by
  intro w hw
  exact ⟨h0, s[n.toNat], by simp [h1], h w hw⟩
theorem E_cvt {k k' : IntKind} {n : Int} (h : E B H (K (.int k (k.wrap n)))) : E B H (S.cvt k (.int k' n) K) := h
theorem E_cvtI {k' : IntKind} {n : Int} (h1 : -9223372036854775808 ≤ n) (h2 : n ≤ 9223372036854775807) (h : E B H (K (.int .i64 n))) : E B H (S.cvt .i64 (.int k' n) K) := E_cvt (by rw [wrapI h1 h2]; exact h)
theorem E_seq {s t : ByteArray} (h : E B H (K (.bool (s.toList == t.toList)))) : E B H (S.sbin .eql (.string s) (.string t) K) := h
theorem E_sne {s t : ByteArray} (h : E B H (K (.bool (!(s.toList == t.toList))))) : E B H (S.sbin .neq (.string s) (.string t) K) := h
theorem E_sadd {s t : ByteArray} (hs : s.size + t.size ≤ 9223372036854775807) (h : E B H (K (.string (s ++ t)))) : E B H (S.sbin .add (.string s) (.string t) K) := fun w hw => ⟨hs, h w hw⟩
theorem E_str1 {s : ByteArray} (h : E B H (K (.string s))) : E B H (S.str1 (.string s) K) := h
theorem E_cvv {P : Program} {g : FuncId} {first captured : Array Value} {args : List Value} (hk : callOk P g = true) (h : E B H (CF P g (first.toList ++ args ++ captured.toList) K)) :
    E B H (S.cvv P (.func (.func g) first captured) args K) := fun w hw => ⟨hk, h w hw⟩

/-! ### '==' with nil -/
theorem E_eqS {P : Program} {op : BinOp} {t : TypeId} {c : Bool} {x y : Value} {r : Bool} (h : ∀ w, (S.eqS op t c x y).run P w = .ok (.bool r) w) (hk : E B H (K (.bool r))) : E B H (S.eqv P op t c x y K) := fun w hw => by
  unfold S.eqv V; rw [h]; exact hk w hw
theorem equal_ptr {P : Program} {t el : TypeId} {a b : Option Addr} {w : World} (hu : P.underlying t = some (.pointer el)) (h : a = none ∨ b = none) :
    (Op.equal t (.pointer a) (.pointer b)).run P w = .ok (a.isNone && b.isNone) w := by
  unfold Op.equal Op.maxDepth Op.equalIn
  rw [run_bind, run_underlying' hu]
  cases a <;> cases b <;> first | rfl | (simp at h)
theorem equal_sl {P : Program} {t el : TypeId} {a : Option Addr} {n m : Nat} {w : World} (hu : P.underlying t = some (.slice el)) :
    (Op.equal t (.slice a n m) (.slice none 0 0)).run P w = .ok a.isNone w := by
  unfold Op.equal Op.maxDepth Op.equalIn
  rw [run_bind, run_underlying' hu]
  cases a <;> rfl
theorem eqS_ptr {P : Program} {op : BinOp} {t el : TypeId} {c : Bool} {a b : Option Addr} {w : World} (hop : op = .eql ∨ op = .neq) (hu : P.underlying t = some (.pointer el)) (h : a = none ∨ b = none) :
    (S.eqS op t c (.pointer a) (.pointer b)).run P w = .ok (.bool (match op with | .neq => !(a.isNone && b.isNone) | _ => a.isNone && b.isNone)) w := by
  unfold S.eqS
  rw [run_bind]
  rcases hop with rfl | rfl
  · have : (eqGuard .eql t (S.cOp c) (.tmp 0) (.pointer a) (.pointer b)).run P w = .ok () w := by rfl
    rw [this]; simp only [binOp, run_bind, equal_ptr hu h, run_pure]
  · have : (eqGuard .neq t (S.cOp c) (.tmp 0) (.pointer a) (.pointer b)).run P w = .ok () w := by rfl
    rw [this]; simp only [binOp, run_bind, equal_ptr hu h, run_pure]
theorem eqS_sl {P : Program} {op : BinOp} {t el : TypeId} {c : Bool} {a : Option Addr} {n m : Nat} {w : World} (hop : op = .eql ∨ op = .neq) (hu : P.underlying t = some (.slice el)) :
    (S.eqS op t c (.slice a n m) (.slice none 0 0)).run P w = .ok (.bool (match op with | .neq => !a.isNone | _ => a.isNone)) w := by
  unfold S.eqS
  rw [run_bind]
  rcases hop with rfl | rfl
  · have : (eqGuard .eql t (S.cOp c) (.tmp 0) (.slice a n m) (.slice none 0 0)).run P w = .ok () w := by rfl
    rw [this]; simp only [binOp, run_bind, equal_sl hu, run_pure]
  · have : (eqGuard .neq t (S.cOp c) (.tmp 0) (.slice a n m) (.slice none 0 0)).run P w = .ok () w := by rfl
    rw [this]; simp only [binOp, run_bind, equal_sl hu, run_pure]
theorem E_peq0 {P : Program} {t el : TypeId} {c : Bool} (hu : P.underlying t = some (.pointer el)) (hk : E B H (K (.bool true))) : E B H (S.eqv P .eql t c (.pointer none) (.pointer none) K) :=
  E_eqS (fun _ => eqS_ptr (.inl rfl) hu (.inl rfl)) hk
theorem E_peq {P : Program} {t el : TypeId} {c : Bool} {a : Addr} (hu : P.underlying t = some (.pointer el)) (hk : E B H (K (.bool false))) : E B H (S.eqv P .eql t c (.pointer (some a)) (.pointer none) K) :=
  E_eqS (fun _ => eqS_ptr (.inl rfl) hu (.inr rfl)) hk
theorem E_pne0 {P : Program} {t el : TypeId} {c : Bool} (hu : P.underlying t = some (.pointer el)) (hk : E B H (K (.bool false))) : E B H (S.eqv P .neq t c (.pointer none) (.pointer none) K) :=
  E_eqS (fun _ => eqS_ptr (.inr rfl) hu (.inl rfl)) hk
theorem E_pne {P : Program} {t el : TypeId} {c : Bool} {a : Addr} (hu : P.underlying t = some (.pointer el)) (hk : E B H (K (.bool true))) : E B H (S.eqv P .neq t c (.pointer (some a)) (.pointer none) K) :=
  E_eqS (fun _ => eqS_ptr (.inr rfl) hu (.inr rfl)) hk
theorem E_sleq {P : Program} {t el : TypeId} {c : Bool} {a : Option Addr} {n m : Nat} (hu : P.underlying t = some (.slice el)) (hk : E B H (K (.bool a.isNone))) : E B H (S.eqv P .eql t c (.slice a n m) (.slice none 0 0) K) :=
  E_eqS (fun _ => eqS_sl (.inl rfl) hu) hk
theorem E_slne {P : Program} {t el : TypeId} {c : Bool} {a : Option Addr} {n m : Nat} (hu : P.underlying t = some (.slice el)) (hk : E B H (K (.bool (!a.isNone)))) : E B H (S.eqv P .neq t c (.slice a n m) (.slice none 0 0) K) :=
  E_eqS (fun _ => eqS_sl (.inr rfl) hu) hk

/-! ### loops -/
theorem E_loop {n : Nat} {body : Kn n → Kn n} {vals : List Value} {σ : Type} (φ : σ → Prop) (Vs : σ → List Value) (G : σ → List Asrt) (μ : σ → Nat) (s0 : σ)
    (hl : ∀ s, (Vs s).length = n) (hv : Vs s0 = vals) (h0 : φ s0) (hG : ∀ W, E B (G s0) W → E B H W)
    (step : ∀ s (K : Kn n), φ s → (∀ s', φ s' → μ s' < μ s → E B (G s') (app n K (Vs s'))) → E B (G s) (app n (body K) (Vs s))) : E B H (S.loop n body vals) := by
  refine hG _ ?_
  intro w hw
  refine ⟨σ, fun s vs w => φ s ∧ Vs s = vs ∧ sat B (G s) w, μ, s0, ⟨h0, hv, hw⟩, ?_⟩
  rintro s vs w hn ⟨hφ, rfl, hs⟩
  refine step s _ hφ (fun s' hφ' hlt w' hs' => ?_) w hs
  rw [app_lam _ _ _ (hl s')]
  exact ⟨s', hlt, hφ', rfl, hs'⟩

end Go.SL
