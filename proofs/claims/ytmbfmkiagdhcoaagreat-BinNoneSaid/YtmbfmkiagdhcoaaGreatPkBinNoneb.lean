/-
  Part 2: SlB.
-/
import Derived.IntWalk
import Derived.Deep.AppendSrc
import Derived.Shelf.Sort.Plain
import Derived.Laws.Externs
import Derived.MapKept
import Derived.Deep.Slices
import Derived.Deep.Grids
import Derived.SizedLaws
import Derived.Laws.StructEq
import Derived.OpenShut
import Derived.Sort.Walk0
import Derived.Stop.BytesEq
import Derived.Test.YtmbfmkiagdhcoaaGreatPkBinNonea
set_option linter.unusedSimpArgs false
set_option linter.unusedVariables false
set_option linter.unusedSectionVars false
section
namespace Go.SL
open Go.RowKit
variable {B : World} {H : List Asrt} {K : Value → WT}
def cel (κ : Bool) (b : Nat) (T : TypeId) (l : List Value) : Asrt := fun ch =>
  ∃ fr : Nat × Nat, (κ = true → fr.1 = fr.2 ∨ l.length ≤ fr.1) ∧ ch = [⟨κ, b, .cells l.toArray T fr⟩]
def mpb (κ : Bool) (b : Nat) (es : List MapEntry) (cl : Nat) : Asrt := pt κ b (.map es.toArray cl)
class HasC (H : List Asrt) (b : Nat) (κ : outParam Bool) (T : outParam TypeId) (l : outParam (List Value)) : Prop where
  pf : ∃ H', Find H (cel κ b T l) H'
instance (priority := high) hasC_here {κ b T l H} : HasC (cel κ b T l :: H) b κ T l := ⟨_, .here⟩
instance hasC_there {a κ b T l H} [h : HasC H b κ T l] : HasC (a :: H) b κ T l := ⟨_, .there h.pf.choose_spec⟩
class TakC (H : List Asrt) (b : Nat) (T : outParam TypeId) (l : outParam (List Value)) (H' : outParam (List Asrt)) : Prop where
  pf : Find H (cel true b T l) H'
instance (priority := high) takC_here {b T l H} : TakC (cel true b T l :: H) b T l H := ⟨.here⟩
instance takC_there {a b T l H H'} [h : TakC H b T l H'] : TakC (a :: H) b T l (a :: H') := ⟨.there h.pf⟩
class AtI (l : List Value) (n : Nat) (v : outParam Value) : Prop where
  pf : l[n]? = some v
instance (priority := high) atI_zero {v l} : AtI (v :: l) 0 v := ⟨rfl⟩
instance atI_succ {u v l n} [h : AtI l n v] : AtI (u :: l) (n + 1) v := ⟨by simpa using h.pf⟩
class SetI (l : List Value) (n : Nat) (v : Value) (l' : outParam (List Value)) : Prop where
  lt : n < l.length
  pf : l.set n v = l'
instance (priority := high) setI_zero {u v l} : SetI (u :: l) 0 v (v :: l) := ⟨by simp, rfl⟩
instance setI_succ {u v l l' n} [h : SetI l n v l'] : SetI (u :: l) (n + 1) v (u :: l') := ⟨by simpa using h.lt, by simpa using h.pf⟩
class CellsI (v : Value) (l : outParam (List Value)) : Prop where
  pf : v.cells.toList = l
section
variable {k : IntKind} {n : Int} {b0 : Bool} {b : ByteArray} {pa : Option Addr} {sl sc : Nat} {r : Option Nat} {fn : Fn} {xa xb : Array Value} {t : TypeId} {v : Value} {l : List Value}
instance : CellsI (.int k n) [.int k n] := ⟨rfl⟩
instance : CellsI (.bool b0) [.bool b0] := ⟨rfl⟩
instance : CellsI (.string b) [.string b] := ⟨rfl⟩
instance : CellsI (.pointer pa) [.pointer pa] := ⟨rfl⟩
instance : CellsI (.slice pa sl sc) [.slice pa sl sc] := ⟨rfl⟩
instance : CellsI (.map r) [.map r] := ⟨rfl⟩
instance : CellsI (.func fn xa xb) [.func fn xa xb] := ⟨rfl⟩
instance : CellsI .nilFunc [.nilFunc] := ⟨rfl⟩
instance : CellsI (.iface t v) [.iface t v] := ⟨rfl⟩
instance : CellsI .nilIface [.nilIface] := ⟨rfl⟩
instance : CellsI (.agg l.toArray) l := ⟨rfl⟩
end
class CellI (v : Value) : Prop where
  pf : isCell v = true
section
variable {k : IntKind} {n : Int} {b0 : Bool} {b : ByteArray} {pa : Option Addr} {sl sc : Nat} {r : Option Nat} {fn : Fn} {xa xb : Array Value} {t : TypeId} {v : Value}
instance : CellI (.int k n) := ⟨rfl⟩
instance : CellI (.bool b0) := ⟨rfl⟩
instance : CellI (.string b) := ⟨rfl⟩
instance : CellI (.pointer pa) := ⟨rfl⟩
instance : CellI (.slice pa sl sc) := ⟨rfl⟩
instance : CellI (.map r) := ⟨rfl⟩
instance : CellI (.func fn xa xb) := ⟨rfl⟩
instance : CellI .nilFunc := ⟨rfl⟩
instance : CellI (.iface t v) := ⟨rfl⟩
instance : CellI .nilIface := ⟨rfl⟩
end
theorem sat_cel {w : World} {κ : Bool} {b : Nat} {T : TypeId} {l : List Value} (h : sat B (cel κ b T l :: H) w) : ∃ fr, w.heap[b]? = some (.cells l.toArray T fr) := by
  obtain ⟨hb, ch, ⟨l1, l2, rfl, ⟨fr, _, rfl⟩, h2⟩, hc⟩ := h
  exact ⟨fr, (hc.1 ⟨κ, b, .cells l.toArray T fr⟩ (by simp)).1⟩
theorem sat_has {w : World} {κ : Bool} {b : Nat} {T : TypeId} {l : List Value} [hf : HasC H b κ T l] (h : sat B H w) : ∃ fr, w.heap[b]? = some (.cells l.toArray T fr) := by
  obtain ⟨H', hf⟩ := hf.pf
  exact sat_cel (sat_perm hf.perm h)
theorem sat_cell {w : World} {κ : Bool} {b : Nat} {T : TypeId} {l : List Value} [hf : HasC H b κ T l] (h : sat B H w) (o : Nat) : w.cell? ⟨b, o, none⟩ = l[o]? := by
  obtain ⟨fr, hc⟩ := sat_has (hf := hf) h
  unfold World.cell?
  simp [hc]
theorem cel_own {b : Nat} {T : TypeId} {l : List Value} {l' : List Value} {w : World} (h : sat B (cel true b T l :: H) w) (hl : l'.length = l.length) :
    ∃ fr, w.heap[b]? = some (.cells l.toArray T fr) ∧ (∀ o, o < l.length → ¬ (fr.1 ≤ o ∧ o < fr.2)) ∧ sat B (cel true b T l' :: H) { w with heap := w.heap.setIfInBounds b (.cells l'.toArray T fr) } := by
  obtain ⟨hb, ch, ⟨l1, l2, e, ⟨fr, hfr, rfl⟩, h2⟩, hc⟩ := h
  have hs : sat B (pt true b (.cells l.toArray T fr) :: H) w := ⟨hb, ch, ⟨_, l2, e, rfl, h2⟩, hc⟩
  refine ⟨fr, hs.get, fun o ho h => by rcases hfr rfl with h' | h' <;> omega, ?_⟩
  obtain ⟨hb', ch', ⟨l1', l2', e', h1', h2'⟩, hc'⟩ := hs.put (.cells l'.toArray T fr)
  exact ⟨hb', ch', ⟨l1', l2', e', ⟨fr, fun _ => by rw [hl]; exact hfr rfl, h1'⟩, h2'⟩, hc'⟩
theorem cel_mark {b : Nat} {T : TypeId} {l : List Value} {w : World} (h : sat B (cel true b T l :: H) w) : sat B (cel true b T l :: H) (w.freeze ⟨b, l.length, none⟩ 1) := by
  obtain ⟨hb, ch, ⟨l1, l2, e, ⟨fr, hfr, rfl⟩, h2⟩, hc⟩ := h
  have hs : sat B (pt true b (.cells l.toArray T fr) :: H) w := ⟨hb, ch, ⟨_, l2, e, rfl, h2⟩, hc⟩
  have hh := hs.get
  obtain ⟨hb', ch', ⟨l1', l2', e', h1', h2'⟩, hc'⟩ := hs.put (.cells l.toArray T (if fr.1 == fr.2 then (l.length, l.length + 1) else (min fr.1 l.length, max fr.2 (l.length + 1))))
  have hw : w.freeze ⟨b, l.length, none⟩ 1 = { w with heap := w.heap.setIfInBounds b (.cells l.toArray T (if fr.1 == fr.2 then (l.length, l.length + 1) else (min fr.1 l.length, max fr.2 (l.length + 1)))) } := by
    unfold World.freeze
    rw [if_neg (by decide)]
    congr 1
    apply Array.ext_getElem?
    intro i
    simp only [Array.getElem?_modify, Array.getElem?_setIfInBounds]
    by_cases hi : b = i
    · subst hi
      have hlt : b < w.heap.size := (Array.getElem?_eq_some_iff.1 hh).1
      simp only [if_true, hh, hlt, Option.map_some]
    · simp [hi]
  rw [hw]
  refine ⟨hb', ch', ⟨l1', l2', e', ⟨_, fun _ => ?_, h1'⟩, h2'⟩, hc'⟩
  by_cases hq : fr.1 = fr.2
  · simp [hq]
  · have := hfr rfl
    simp only [beq_iff_eq, hq, if_false]
    right; omega
theorem setCell_eq {w : World} {b o : Nat} {c : Array Value} {T : TypeId} {fr : Nat × Nat} {v : Value} (h : w.heap[b]? = some (.cells c T fr)) :
    w.setCell ⟨b, o, none⟩ v = { w with heap := w.heap.setIfInBounds b (.cells (c.setIfInBounds o v) T fr) } := by
  unfold World.setCell
  congr 1
  apply Array.ext_getElem?
  intro i
  simp only [Array.getElem?_modify, Array.getElem?_setIfInBounds]
  by_cases hi : b = i
  · subst hi
    have hlt : b < w.heap.size := by
      rcases Nat.lt_or_ge b w.heap.size with h' | h'
      · exact h'
      · simp [Array.getElem?_eq_none h'] at h
    have hg : w.heap[b] = .cells c T fr := by rw [Array.getElem?_eq_getElem hlt] at h; exact Option.some.inj h
    simp [hlt, hg]
  · simp [hi]
theorem E_ld {b o : Nat} {κ : Bool} {T : TypeId} {l : List Value} {v : Value} [hf : HasC H b κ T l] [hv : AtI l o v] (h : E B H (K v)) : E B H (S.ld (.pointer (some ⟨b, o, none⟩)) K) := by
  intro w hw
  unfold S.ld
  simp only [sat_cell (hf := hf) hw, hv.pf]
  exact h w hw
theorem E_ld' {b o : Nat} {κ : Bool} {T : TypeId} {l : List Value} {v : Value} [hf : HasC H b κ T l] (hv : l[o]? = some v) (h : E B H (K v)) : E B H (S.ld (.pointer (some ⟨b, o, none⟩)) K) := by
  intro w hw
  unfold S.ld
  simp only [sat_cell (hf := hf) hw, hv]
  exact h w hw
theorem cellsFrom_eq {w : World} {b : Nat} {l : List Value} (hc : ∀ o, w.cell? ⟨b, o, none⟩ = l[o]?) : ∀ (n i o : Nat) (cs : List Value), (l.drop (o + i)).take n = cs → cs.length = n → cellsFrom w ⟨b, o, none⟩ i n = some cs
  | 0, i, o, cs, h, hl => by simp at h; subst h; rfl
  | n + 1, i, o, cs, h, hl => by
    have hlt : o + i < l.length := by
      rcases Nat.lt_or_ge (o + i) l.length with h' | h'
      · exact h'
      · rw [List.drop_eq_nil_of_le h'] at h; simp at h; subst h; simp at hl
    have hd := List.drop_eq_getElem_cons hlt
    rw [hd, List.take_succ_cons] at h
    subst h
    simp only [cellsFrom]
    have ha : (⟨b, o, none⟩ : Addr).add i = ⟨b, o + i, none⟩ := by
      unfold Addr.add; split
      · rename_i h0; subst h0; rfl
      · rfl
    rw [ha, hc, List.getElem?_eq_getElem hlt]
    simp only
    rw [cellsFrom_eq hc n (i + 1) o _ (by rw [← Nat.add_assoc]) (by simpa using hl)]
    rfl
theorem E_ldN {b o n : Nat} {κ : Bool} {T : TypeId} {l cs : List Value} [hf : HasC H b κ T l] (hv : (l.drop o).take n = cs) (hn : cs.length = n) (h : E B H (K (.agg cs.toArray))) :
    E B H (S.ldN n (.pointer (some ⟨b, o, none⟩)) K) := by
  intro w hw
  unfold S.ldN
  simp only [cellsFrom_eq (fun o => sat_cell (hf := hf) hw o) n 0 o cs (by simpa using hv) hn]
  exact h w hw
def setAll (l : List Value) (o : Nat) (vs : List Value) : List Value := l.take o ++ vs ++ l.drop (o + vs.length)
theorem putFrom_eq {b o : Nat} {T : TypeId} : ∀ (vs l : List Value) (i : Nat) (w : World) {H : List Asrt}, sat B (cel true b T l :: H) w → (∀ v ∈ vs, isCell v = true) → o + i + vs.length ≤ l.length →
    ∃ w', putFrom ⟨b, o, none⟩ i vs w = some w' ∧ sat B (cel true b T (setAll l (o + i) vs) :: H) w'
  | [], l, i, w, H, hw, _, hl => ⟨w, rfl, by simpa [setAll] using hw⟩
  | v :: vs, l, i, w, H, hw, hc, hl => by
    have hlt : o + i < l.length := by simp at hl; omega
    obtain ⟨fr, hh, hfr, hs⟩ := cel_own (l' := l.set (o + i) v) hw (by simp)
    have ha : (⟨b, o, none⟩ : Addr).add i = ⟨b, o + i, none⟩ := by
      unfold Addr.add; split
      · rename_i h0; subst h0; rfl
      · rfl
    have h1 : w.cell? ⟨b, o + i, none⟩ = some l[o + i] := by
      unfold World.cell?; simp [hh, hlt]
    have h2 : w.frozen? ⟨b, o + i, none⟩ = false := by
      unfold World.frozen?; simp only [hh]
      have := hfr _ hlt
      rw [← Bool.not_eq_true]; simpa using this
    have hset : w.setCell ⟨b, o + i, none⟩ v = { w with heap := w.heap.setIfInBounds b (.cells (l.set (o + i) v).toArray T fr) } := by
      rw [setCell_eq hh]; congr 3; simp
    rw [← hset] at hs
    obtain ⟨w', h3, h4⟩ := putFrom_eq (o := o) vs (l.set (o + i) v) (i + 1) _ hs (fun u hu => hc u (List.mem_cons_of_mem _ hu)) (by rw [List.length_set]; simp at hl; omega)
    refine ⟨w', ?_, ?_⟩
    · simp only [putFrom, ha, hc v (List.mem_cons_self ..), h1, h2]; exact h3
    · have : setAll (l.set (o + i) v) (o + (i + 1)) vs = setAll l (o + i) (v :: vs) := by
        unfold setAll
        simp only [List.length_cons] at hl ⊢
        rw [← Nat.add_assoc, List.take_add_one (i := o + i), List.take_set_of_le (Nat.le_refl _), List.drop_set_of_lt (by omega)]
        simp [hlt]
        congr 1; omega
      rw [this] at h4; exact h4
theorem E_stN {b o n : Nat} {T : TypeId} {l l' vs : List Value} {v : Value} {H' : List Asrt} [hf : TakC H b T l H'] [hv : CellsI v vs] (hn : vs.length = n) (hc : ∀ v ∈ vs, isCell v = true)
    (hl : o + n ≤ l.length) (he : setAll l o vs = l') (h : E B (cel true b T l' :: H') (K undef)) : E B H (S.st n (.pointer (some ⟨b, o, none⟩)) v K) := by
  intro w hw
  obtain ⟨w', h1, h2⟩ := putFrom_eq (o := o) vs l 0 w (sat_perm hf.pf.perm hw) hc (by simp; omega)
  have hs : v.cells.size = n := by rw [← Array.length_toList, hv.pf, hn]
  unfold S.st
  simp only [hs, hv.pf, h1, true_and]
  simp only [Nat.add_zero, he] at h2
  exact h w' h2
theorem setAll_one (l : List Value) (o : Nat) (v : Value) (h : o < l.length) : setAll l o [v] = l.set o v := by
  unfold setAll
  rw [List.set_eq_take_append_cons_drop, if_pos h]; simp
theorem E_st {b o : Nat} {T : TypeId} {l l' : List Value} {v : Value} {H' : List Asrt} [hf : TakC H b T l H'] [hs : SetI l o v l'] [hc : CellI v]
    (h : E B (cel true b T l' :: H') (K undef)) : E B H (S.st 1 (.pointer (some ⟨b, o, none⟩)) v K) := by
  have hv : v.cells.toList = [v] := by have := hc.pf; cases v <;> first | rfl | simp [isCell] at this
  exact E_stN (hf := hf) (hv := ⟨hv⟩) rfl (by simp [hc.pf]) (by have := hs.lt; omega) (by rw [setAll_one _ _ _ hs.lt]; exact hs.pf) h
theorem E_st' {b o : Nat} {T : TypeId} {l : List Value} {v : Value} {H' : List Asrt} [hf : TakC H b T l H'] [hc : CellI v] (hlt : o < l.length)
    (h : E B (cel true b T (l.set o v) :: H') (K undef)) : E B H (S.st 1 (.pointer (some ⟨b, o, none⟩)) v K) := by
  have hv : v.cells.toList = [v] := by have := hc.pf; cases v <;> first | rfl | simp [isCell] at this
  exact E_stN (hf := hf) (hv := ⟨hv⟩) rfl (by simp [hc.pf]) (by omega) (by rw [setAll_one _ _ _ hlt]) h
theorem E_box {T : TypeId} {v : Value} {vs : List Value} [hv : CellsI v vs] (h : ∀ b, E B (cel true b T vs :: H) (K (.pointer (some ⟨b, 0, none⟩)))) : E B H (S.box T v K) := by
  intro w hw
  unfold S.box
  refine h _ _ ?_
  obtain ⟨hb, ch, ⟨l1, l2, e, h1, h2⟩, hc⟩ := hw.new (.cells v.cells T)
  refine ⟨hb, ch, ⟨l1, l2, e, ⟨(0, 0), by simp, ?_⟩, h2⟩, hc⟩
  rw [h1]; simp [← hv.pf]
theorem E_nc {a : Addr} (h : E B H (K (.pointer (some a)))) : E B H (S.nc (.pointer (some a)) K) := h
theorem E_nc_f {f : FuncId} {x y : Array Value} (h : E B H (K (.func (.func f) x y))) : E B H (S.nc (.func (.func f) x y) K) := h
theorem E_nc_i {t : TypeId} {x : Value} (h : E B H (K (.iface t x))) : E B H (S.nc (.iface t x) K) := h
theorem E_fad {b o n : Nat} (h : E B H (K (.pointer (some ⟨b, o + n, none⟩)))) : E B H (S.fad (.pointer (some ⟨b, o, none⟩)) n K) := by
  intro w hw
  have := h w hw
  have ha : (⟨b, o, none⟩ : Addr).add n = ⟨b, o + n, none⟩ := by
    unfold Addr.add; split
    · rename_i h0; subst h0; rfl
    · rfl
  show K (.pointer (some ((⟨b, o, none⟩ : Addr).add n))) w
  rw [ha]; exact this
theorem E_fad0 {b n : Nat} (h : E B H (K (.pointer (some ⟨b, n, none⟩)))) : E B H (S.fad (.pointer (some ⟨b, 0, none⟩)) n K) := E_fad (by simpa using h)
theorem E_pickT {p : Prop} [Decidable p] {a b : Value} (hp : p) (h : E B H (K a)) : E B H (S.pick (.bool (decide p)) a b K) := by
  intro w hw; unfold S.pick; simp only [hp, decide_true]; exact h w hw
theorem E_pickF {p : Prop} [Decidable p] {a b : Value} (hp : ¬ p) (h : E B H (K b)) : E B H (S.pick (.bool (decide p)) a b K) := by
  intro w hw; unfold S.pick; simp only [hp, decide_false]; exact h w hw
theorem E_if {p : Prop} [Decidable p] {A C : WT} (ht : p → E B H A) (hf : ¬ p → E B H C) : E B H (S.cond (.bool (decide p)) A C) := by
  intro w hw; unfold S.cond
  by_cases hp : p
  · simp only [hp, decide_true]; exact ht hp w hw
  · simp only [hp, decide_false]; exact hf hp w hw
theorem E_ifb {c : Bool} {A C : WT} (ht : c = true → E B H A) (hf : c = false → E B H C) : E B H (S.cond (.bool c) A C) := by
  cases c
  · exact hf rfl
  · exact ht rfl
theorem E_ifT {p : Prop} [Decidable p] {A C : WT} (hp : p) (ht : E B H A) : E B H (S.cond (.bool (decide p)) A C) := E_if (fun _ => ht) (fun h => (h hp).elim)
theorem E_ifF {p : Prop} [Decidable p] {A C : WT} (hp : ¬ p) (hf : E B H C) : E B H (S.cond (.bool (decide p)) A C) := E_if (fun h => (hp h).elim) (fun _ => hf)
theorem E_tt {A C : WT} (h : E B H A) : E B H (S.cond (.bool true) A C) := h
theorem E_ff {A C : WT} (h : E B H C) : E B H (S.cond (.bool false) A C) := h
theorem E_gd {p : Prop} [Decidable p] {body : (Value → WT) → WT} {rest : Value → WT} (ht : p → E B H (body rest)) (hf : ¬ p → E B H (rest undef)) : E B H (S.gd (.bool (decide p)) true body rest) := by
  intro w hw; unfold S.gd
  by_cases hp : p
  · simp only [hp, decide_true]; exact ht hp w hw
  · simp only [hp, decide_false]; exact hf hp w hw
theorem E_gdn {p : Prop} [Decidable p] {body : (Value → WT) → WT} {rest : Value → WT} (ht : p → E B H (rest undef)) (hf : ¬ p → E B H (body rest)) : E B H (S.gd (.bool (decide p)) false body rest) := by
  intro w hw; unfold S.gd
  by_cases hp : p
  · simp only [hp, decide_true]; exact ht hp w hw
  · simp only [hp, decide_false]; exact hf hp w hw
theorem E_gdT {p : Prop} [Decidable p] {body : (Value → WT) → WT} {rest : Value → WT} (hp : p) (ht : E B H (body rest)) : E B H (S.gd (.bool (decide p)) true body rest) := E_gd (fun _ => ht) (fun h => (h hp).elim)
theorem E_gdF {p : Prop} [Decidable p] {body : (Value → WT) → WT} {rest : Value → WT} (hp : ¬ p) (hf : E B H (rest undef)) : E B H (S.gd (.bool (decide p)) true body rest) := E_gd (fun h => (hp h).elim) (fun _ => hf)
theorem E_gdnT {p : Prop} [Decidable p] {body : (Value → WT) → WT} {rest : Value → WT} (hp : p) (ht : E B H (rest undef)) : E B H (S.gd (.bool (decide p)) false body rest) := E_gdn (fun _ => ht) (fun h => (h hp).elim)
theorem E_gdnF {p : Prop} [Decidable p] {body : (Value → WT) → WT} {rest : Value → WT} (hp : ¬ p) (hf : E B H (body rest)) : E B H (S.gd (.bool (decide p)) false body rest) := E_gdn (fun h => (hp h).elim) (fun _ => hf)
theorem E_gdb {c : Bool} {body : (Value → WT) → WT} {rest : Value → WT} (ht : c = true → E B H (body rest)) (hf : c = false → E B H (rest undef)) : E B H (S.gd (.bool c) true body rest) := by
  cases c
  · exact hf rfl
  · exact ht rfl
theorem E_gdu {b : Bool} {body : (Value → WT) → WT} {rest : Value → WT} (h : E B H (rest undef)) : E B H (S.gd undef b body rest) := h
theorem E_join0 {n : Nat} {body : Kn n → WT} {rest : Kn n} (h : E B H (body rest)) : E B H (S.join n body rest) := h
theorem E_fa {f : (Nat → Value) → WT} (h : ∀ j, E B H (f j)) : E B H (S.fa f) := fun w hw j => h j w hw
theorem E_dr {W : WT} (h : E B H W) : E B H (S.dr W) := fun w hw w' h1 h2 h3 h4 => h w' (hw.same h1 h2 h3 h4)
theorem E_rck1 {f : WT} {fs : List WT} {W : WT} (hf : E B H f) (h : E B H (S.rck fs W)) : E B H (S.rck (f :: fs) W) := fun w hw =>
  ⟨fun g hg => by rcases List.mem_cons.1 hg with rfl | hg; · exact hf w hw
                  · exact (h w hw).1 g hg, (h w hw).2⟩
theorem E_rck0 {W : WT} (h : E B H W) : E B H (S.rck [] W) := fun w hw => ⟨by simp, h w hw⟩
theorem E_fact {v u : Value} (h : v = u) : E B H (fun _ => v = u) := fun _ _ => h
theorem E_add {k : IntKind} {a b : Int} (h : E B H (K (.int k (k.wrap (a + b))))) : E B H (S.bin .add (.int k a) (.int k b) K) := fun w hw => ⟨rfl, h w hw⟩
theorem E_sub {k : IntKind} {a b : Int} (h : E B H (K (.int k (k.wrap (a - b))))) : E B H (S.bin .sub (.int k a) (.int k b) K) := fun w hw => ⟨rfl, h w hw⟩
theorem E_mul {k : IntKind} {a b : Int} (h : E B H (K (.int k (k.wrap (a * b))))) : E B H (S.bin .mul (.int k a) (.int k b) K) := fun w hw => ⟨rfl, h w hw⟩
theorem E_quo {k : IntKind} {a b : Int} (h0 : b ≠ 0) (h : E B H (K (.int k (k.wrap (a.tdiv b))))) : E B H (S.bin .quo (.int k a) (.int k b) K) := fun w hw => ⟨rfl, h0, h w hw⟩
theorem E_rem {k : IntKind} {a b : Int} (h0 : b ≠ 0) (h : E B H (K (.int k (a.tmod b)))) : E B H (S.bin .rem (.int k a) (.int k b) K) := fun w hw => ⟨rfl, h0, h w hw⟩
theorem wrapI {a : Int} (h1 : -9223372036854775808 ≤ a) (h2 : a ≤ 9223372036854775807) : IntKind.i64.wrap a = a := Go.IntWalk.i64_in a ⟨h1, h2⟩
theorem E_addI {a b : Int} (h1 : -9223372036854775808 ≤ a + b) (h2 : a + b ≤ 9223372036854775807) (h : E B H (K (.int .i64 (a + b)))) : E B H (S.bin .add (.int .i64 a) (.int .i64 b) K) := E_add (by rw [wrapI h1 h2]; exact h)
theorem E_subI {a b : Int} (h1 : -9223372036854775808 ≤ a - b) (h2 : a - b ≤ 9223372036854775807) (h : E B H (K (.int .i64 (a - b)))) : E B H (S.bin .sub (.int .i64 a) (.int .i64 b) K) := E_sub (by rw [wrapI h1 h2]; exact h)
theorem E_mulI {a b : Int} (h1 : -9223372036854775808 ≤ a * b) (h2 : a * b ≤ 9223372036854775807) (h : E B H (K (.int .i64 (a * b)))) : E B H (S.bin .mul (.int .i64 a) (.int .i64 b) K) := E_mul (by rw [wrapI h1 h2]; exact h)
theorem E_quoI {a b : Int} (h1 : 0 ≤ a) (h2 : 0 < b) (h3 : a ≤ 9223372036854775807) (h : E B H (K (.int .i64 (a / b)))) : E B H (S.bin .quo (.int .i64 a) (.int .i64 b) K) := by
  refine E_quo (by omega) ?_
  rw [Int.tdiv_eq_ediv_of_nonneg h1, wrapI]
  · exact h
  · have := Int.ediv_nonneg h1 (by omega : 0 ≤ b); omega
  · have := Int.ediv_le_self b h1; omega
theorem E_eql {k : IntKind} {a b : Int} (h : E B H (K (.bool (decide (a = b))))) : E B H (S.bin .eql (.int k a) (.int k b) K) := fun w hw => ⟨rfl, h w hw⟩
theorem E_neq {k : IntKind} {a b : Int} (h : E B H (K (.bool (decide (a ≠ b))))) : E B H (S.bin .neq (.int k a) (.int k b) K) := fun w hw => ⟨rfl, h w hw⟩
theorem E_lss {k : IntKind} {a b : Int} (h : E B H (K (.bool (decide (a < b))))) : E B H (S.bin .lss (.int k a) (.int k b) K) := fun w hw => ⟨rfl, h w hw⟩
theorem E_leq {k : IntKind} {a b : Int} (h : E B H (K (.bool (decide (a ≤ b))))) : E B H (S.bin .leq (.int k a) (.int k b) K) := fun w hw => ⟨rfl, h w hw⟩
theorem E_gtr {k : IntKind} {a b : Int} (h : E B H (K (.bool (decide (b < a))))) : E B H (S.bin .gtr (.int k a) (.int k b) K) := fun w hw => ⟨rfl, h w hw⟩
theorem E_geq {k : IntKind} {a b : Int} (h : E B H (K (.bool (decide (b ≤ a))))) : E B H (S.bin .geq (.int k a) (.int k b) K) := fun w hw => ⟨rfl, h w hw⟩
theorem E_not {p : Prop} [Decidable p] (h : E B H (K (.bool (decide (¬ p))))) : E B H (S.not1 (.bool (decide p)) K) := fun w hw => by
  have := h w hw; rw [decide_not] at this; exact this
theorem E_notb {c : Bool} (h : E B H (K (.bool (!c)))) : E B H (S.not1 (.bool c) K) := h
theorem E_len {a : Option Addr} {n c : Nat} (h : E B H (K (.int .i64 n))) : E B H (S.len (.slice a n c) K) := h
theorem E_lenS {s : ByteArray} (h : E B H (K (.int .i64 s.size))) : E B H (S.lenS (.string s) K) := h
theorem E_cap {a : Option Addr} {n c : Nat} (h : E B H (K (.int .i64 c))) : E B H (S.cap (.slice a n c) K) := h
theorem E_mx {k : IntKind} {a b : Int} (h : E B H (K (.int k (max a b)))) : E B H (S.mx (.int k a) (.int k b) K) := by
  have : (if b > a then b else a) = max a b := by omega
  intro w hw; show K (.int k (if b > a then b else a)) w; rw [this]; exact h w hw
theorem E_mn {k : IntKind} {a b : Int} (h : E B H (K (.int k (min a b)))) : E B H (S.mn (.int k a) (.int k b) K) := by
  have : (if b < a then b else a) = min a b := by omega
  intro w hw; show K (.int k (if b < a then b else a)) w; rw [this]; exact h w hw
theorem E_ixS {sz b o len c : Nat} {k : IntKind} {n : Int} (h0 : 0 ≤ n) (h1 : n < len) (h : E B H (K (.pointer (some ⟨b, o + n.toNat * sz, none⟩)))) :
    E B H (S.ixS sz (.slice (some ⟨b, o, none⟩) len c) (.int k n) K) := fun w hw => ⟨h0, h1, by
  have := h w hw
  unfold Addr.add; split
  · rename_i hz; rw [hz] at this; exact this
  · exact this⟩
theorem E_ext {l : List Value} {i : Nat} {v : Value} [hv : AtI l i v] (h : E B H (K v)) : E B H (S.ext (.tuple l.toArray) i K) := by
  intro w hw; unfold S.ext; have := hv.pf; simp only [List.getElem?_toArray, this]; exact h w hw
theorem E_prt {l : List Value} {o n : Nat} {v : Value} [hv : AtI l o v] (h : E B H (K v)) : E B H (S.prt false o n (.agg l.toArray) K) := by
  intro w hw; unfold S.prt; have := hv.pf; simp only [List.getElem?_toArray, this]; exact h w hw
theorem E_cvt {k k' : IntKind} {n : Int} (h : E B H (K (.int k (k.wrap n)))) : E B H (S.cvt k (.int k' n) K) := h
theorem E_cvtI {k' : IntKind} {n : Int} (h1 : -9223372036854775808 ≤ n) (h2 : n ≤ 9223372036854775807) (h : E B H (K (.int .i64 n))) : E B H (S.cvt .i64 (.int k' n) K) := E_cvt (by rw [wrapI h1 h2]; exact h)
theorem E_sadd {s t : ByteArray} (hs : s.size + t.size ≤ 9223372036854775807) (h : E B H (K (.string (s ++ t)))) : E B H (S.sbin .add (.string s) (.string t) K) := fun w hw => ⟨hs, h w hw⟩
theorem E_str1 {s : ByteArray} (h : E B H (K (.string s))) : E B H (S.str1 (.string s) K) := h
theorem E_cvv [Amb] {P : Program} {g : FuncId} {first captured : Array Value} {args : List Value} (hk : callOk P g = true) (h : E B H (CF P g (first.toList ++ args ++ captured.toList) K)) :
    E B H (S.cvv P (.func (.func g) first captured) args K) := fun w hw => ⟨hk, h w hw⟩
theorem E_both {A C : WT} (h1 : E B H A) (h2 : E B H C) : E B H (S.both A C) := fun w hw => ⟨h1 w hw, h2 w hw⟩
theorem E_eqS {P : Program} {op : BinOp} {t : TypeId} {c : Bool} {x y : Value} {r : Bool} (h : ∀ w, (S.eqS op t c x y).run P w = .ok (.bool r) w) (hk : E B H (K (.bool r))) : E B H (S.eqv P op t c x y K) := fun w hw => by
  unfold S.eqv V; rw [h]; exact hk w hw
theorem equal_ptr {P : Program} {t el : TypeId} {a b : Option Addr} {w : World} (hu : P.underlying t = some (.pointer el)) (h : a = none ∨ b = none) :
    (Op.equal t (.pointer a) (.pointer b)).run P w = .ok (a.isNone && b.isNone) w := by
  unfold Op.equal Op.maxDepth Op.equalIn
  rw [run_bind, run_underlying' hu]
  cases a <;> cases b <;> first | rfl | (simp at h)
theorem equal_sl {P : Program} {t el : TypeId} {a : Option Addr} {n m : Nat} {w : World} (hu : P.underlying t = some (.slice el)) :
    (Op.equal t (.slice a n m) (.slice none 0 0)).run P w = .ok a.isNone w := by
  unfold Op.equal Op.maxDepth Op.equalIn
  rw [run_bind, run_underlying' hu]
  cases a <;> rfl
theorem eqS_ptr {P : Program} {op : BinOp} {t el : TypeId} {c : Bool} {a b : Option Addr} {w : World} (hop : op = .eql ∨ op = .neq) (hu : P.underlying t = some (.pointer el)) (h : a = none ∨ b = none) :
    (S.eqS op t c (.pointer a) (.pointer b)).run P w = .ok (.bool (match op with | .neq => !(a.isNone && b.isNone) | _ => a.isNone && b.isNone)) w := by
  unfold S.eqS
  rw [run_bind]
  rcases hop with rfl | rfl
  · have : (eqGuard .eql t (S.cOp c) (.tmp 0) (.pointer a) (.pointer b)).run P w = .ok () w := by rfl
    rw [this]; simp only [binOp, run_bind, equal_ptr hu h, run_pure]
  · have : (eqGuard .neq t (S.cOp c) (.tmp 0) (.pointer a) (.pointer b)).run P w = .ok () w := by rfl
    rw [this]; simp only [binOp, run_bind, equal_ptr hu h, run_pure]
theorem eqS_sl {P : Program} {op : BinOp} {t el : TypeId} {c : Bool} {a : Option Addr} {n m : Nat} {w : World} (hop : op = .eql ∨ op = .neq) (hu : P.underlying t = some (.slice el)) :
    (S.eqS op t c (.slice a n m) (.slice none 0 0)).run P w = .ok (.bool (match op with | .neq => !a.isNone | _ => a.isNone)) w := by
  unfold S.eqS
  rw [run_bind]
  rcases hop with rfl | rfl
  · have : (eqGuard .eql t (S.cOp c) (.tmp 0) (.slice a n m) (.slice none 0 0)).run P w = .ok () w := by rfl
    rw [this]; simp only [binOp, run_bind, equal_sl hu, run_pure]
  · have : (eqGuard .neq t (S.cOp c) (.tmp 0) (.slice a n m) (.slice none 0 0)).run P w = .ok () w := by rfl
    rw [this]; simp only [binOp, run_bind, equal_sl hu, run_pure]
theorem E_peq0 {P : Program} {t el : TypeId} {c : Bool} (hu : P.underlying t = some (.pointer el)) (hk : E B H (K (.bool true))) : E B H (S.eqv P .eql t c (.pointer none) (.pointer none) K) :=
  E_eqS (fun _ => eqS_ptr (.inl rfl) hu (.inl rfl)) hk
theorem E_peq {P : Program} {t el : TypeId} {c : Bool} {a : Addr} (hu : P.underlying t = some (.pointer el)) (hk : E B H (K (.bool false))) : E B H (S.eqv P .eql t c (.pointer (some a)) (.pointer none) K) :=
  E_eqS (fun _ => eqS_ptr (.inl rfl) hu (.inr rfl)) hk
theorem E_pne0 {P : Program} {t el : TypeId} {c : Bool} (hu : P.underlying t = some (.pointer el)) (hk : E B H (K (.bool false))) : E B H (S.eqv P .neq t c (.pointer none) (.pointer none) K) :=
  E_eqS (fun _ => eqS_ptr (.inr rfl) hu (.inl rfl)) hk
theorem E_pne {P : Program} {t el : TypeId} {c : Bool} {a : Addr} (hu : P.underlying t = some (.pointer el)) (hk : E B H (K (.bool true))) : E B H (S.eqv P .neq t c (.pointer (some a)) (.pointer none) K) :=
  E_eqS (fun _ => eqS_ptr (.inr rfl) hu (.inr rfl)) hk
theorem E_sleq {P : Program} {t el : TypeId} {c : Bool} {a : Option Addr} {n m : Nat} (hu : P.underlying t = some (.slice el)) (hk : E B H (K (.bool a.isNone))) : E B H (S.eqv P .eql t c (.slice a n m) (.slice none 0 0) K) :=
  E_eqS (fun _ => eqS_sl (.inl rfl) hu) hk
theorem E_loop {n : Nat} {body : Kn n → Kn n} {vals : List Value} {σ : Type} (φ : σ → Prop) (Vs : σ → List Value) (G : σ → List Asrt) (μ : σ → Nat) (s0 : σ)
    (hl : ∀ s, (Vs s).length = n) (hv : Vs s0 = vals) (h0 : φ s0) (hG : ∀ W, E B (G s0) W → E B H W)
    (step : ∀ s (K : Kn n), φ s → (∀ s', φ s' → μ s' < μ s → E B (G s') (app n K (Vs s'))) → E B (G s) (app n (body K) (Vs s))) : E B H (S.loop n body vals) := by
  refine hG _ ?_
  intro w hw
  refine ⟨σ, fun s vs w => φ s ∧ Vs s = vs ∧ sat B (G s) w, μ, s0, ⟨h0, hv, hw⟩, ?_⟩
  rintro s vs w hn ⟨hφ, rfl, hs⟩
  refine step s _ hφ (fun s' hφ' hlt w' hs' => ?_) w hs
  rw [app_lam _ _ _ (hl s')]
  exact ⟨s', hlt, hφ', rfl, hs'⟩
end Go.SL
namespace Go.SL
open Go.RowKit
variable {B : World} {H : List Asrt} {K : Value → WT} {P : Program}
theorem E_Vok {s : Sem Value} (h : ∀ w, sat B H w → ∃ v w', s.run P w = .ok v w' ∧ K v w') : E B H (V P s K) := fun w hw => by
  obtain ⟨v, w', hr, hk⟩ := h w hw
  unfold V; rw [hr]; exact hk
theorem E_Uok {s : Sem Unit} (h : ∀ w, sat B H w → ∃ w', s.run P w = .ok () w' ∧ K undef w') : E B H (U P s K) := fun w hw => by
  obtain ⟨w', hr, hk⟩ := h w hw
  unfold U; rw [hr]; exact hk
theorem sat_cel_new {w : World} (h : sat B H w) (T : TypeId) (l : List Value) (fr : Nat × Nat) (hfr : fr.1 = fr.2 ∨ l.length ≤ fr.1) :
    sat B (cel true w.heap.size T l :: H) { w with heap := w.heap.push (.cells l.toArray T fr) } := by
  obtain ⟨hb, ch, ⟨l1, l2, e, h1, h2⟩, hc⟩ := h.new (.cells l.toArray T fr)
  exact ⟨hb, ch, ⟨l1, l2, e, ⟨fr, fun _ => hfr, h1⟩, h2⟩, hc⟩
structure Elt (P : Program) (T : TypeId) (sz by_ : Nat) (z : List Value) : Prop where
  pf : ∃ i zv, P.info? T = some i ∧ i.size = sz ∧ i.bytes = by_ ∧ i.zero = some zv ∧ zv.cells.toList = z ∧ z.length = sz
def rep (n : Nat) (z : List Value) : List Value := (List.replicate n z).flatten
theorem rep_length (n : Nat) (z : List Value) : (rep n z).length = n * z.length := by
  induction n with
  | zero => simp [rep]
  | succ n ih => simp only [rep, List.replicate_succ, List.flatten_cons, List.length_append] at ih ⊢; rw [ih, Nat.succ_mul, Nat.add_comm]
theorem rep_get (n : Nat) (z : List Value) (i : Nat) (h : i < n * z.length) : (rep n z)[i]? = z[i % z.length]? := by
  induction n generalizing i with
  | zero => simp at h
  | succ n ih =>
    simp only [rep, List.replicate_succ, List.flatten_cons]
    by_cases hi : i < z.length
    · rw [List.getElem?_append_left hi, Nat.mod_eq_of_lt hi]
    · have hp : 0 < z.length := by
        rcases Nat.eq_zero_or_pos z.length with h0 | h0
        · rw [h0] at h; simp at h
        · exact h0
      rw [List.getElem?_append_right (by omega)]
      have := ih (i - z.length) (by rw [Nat.succ_mul] at h; omega)
      simp only [rep] at this
      rw [this]
      congr 1
      rw [Nat.mod_eq_sub_mod (by omega : i ≥ z.length)]
theorem zero_cells (z : Array Value) (n : Nat) (hz : z.size ≠ 0 ∨ n = 0) : ((Array.range (n * z.size)).map fun i => z[i % z.size]!) = (rep n z.toList).toArray := by
  apply Array.ext_getElem?
  intro i
  rcases hz with hz | rfl
  · simp only [Array.getElem?_map, List.getElem?_toArray]
    by_cases hi : i < n * z.size
    · rw [rep_get _ _ _ (by simpa using hi)]
      have hm : i % z.size < z.size := Nat.mod_lt _ (by omega)
      simp [Array.getElem?_range, hi, getElem!_pos z (i % z.size) hm, Array.getElem?_eq_getElem hm]
    · have : (rep n z.toList)[i]? = none := by
        rw [List.getElem?_eq_none_iff, rep_length]; simpa using hi
      rw [this]
      simp [Array.getElem?_range, hi]
  · simp [rep]
theorem E_mkS {t T : TypeId} {sz by_ : Nat} {z : List Value} {l c : Int} (hu : P.underlying t = some (.slice T)) (he : Elt P T sz by_ z) (h0 : 0 ≤ l) (h1 : l ≤ c) (h2 : by_ * c ≤ 140737488355328) (h3 : c ≤ 9223372036854775807)
    (h : ∀ b, E B (cel true b T (rep c.toNat z) :: H) (K (.slice (some ⟨b, 0, none⟩) l.toNat c.toNat))) : E B H (V P (Instr.makeSlice t (.int .i64 l) (.int .i64 c)) K) := by
  obtain ⟨i, zv, hi, hs, hb, hz, hzl, hzn⟩ := he.pf
  refine E_Vok fun w hw => ⟨_, _, ?_, h _ _ (sat_cel_new hw T (rep c.toNat z) (0, 0) (by simp))⟩
  unfold Instr.makeSlice
  simp only [run_bind, run_underlying' hu, asInt, asIntOf, run_pure, run_info' hi]
  have hwl : IntKind.i64.wrap l = l := wrapI (by omega) (by omega)
  have hwc : IntKind.i64.wrap c = c := wrapI (by omega) (by omega)
  have e48 : (2 : Int) ^ 48 = 281474976710656 := by decide
  have ht : ¬ ((decide (IntKind.i64.wrap c < 0) || decide (↑i.bytes * IntKind.i64.wrap c > 2 ^ 48) || decide (IntKind.i64.wrap l < 0) || decide (IntKind.i64.wrap l > IntKind.i64.wrap c)) = true) := by
    rw [hwl, hwc, hb, e48]
    simp only [Bool.or_eq_true, decide_eq_true_eq, not_or]
    refine ⟨⟨⟨by omega, by omega⟩, by omega⟩, by omega⟩
  rw [if_neg (by simpa using ht)]
  simp only [askRoom]
  have hroom : ¬ (IntKind.i64.wrap c).toNat * i.bytes > roomBytes := by
    rw [hwc, hb]
    have er : roomBytes = 140737488355328 := by decide
    rw [er]
    have : (((c.toNat * by_ : Nat)) : Int) ≤ 140737488355328 := by
      rw [Int.natCast_mul, Int.toNat_of_nonneg (by omega), Int.mul_comm]; exact h2
    omega
  simp only [if_neg hroom, run_pure, run_bind, run_size' hi]
  have hsz : zv.cells.size = sz := by rw [← Array.length_toList, hzl, hzn]
  have hcells : ∀ zz : Array Value, (zz = zv.cells ∨ c.toNat * sz = 0) → (Array.range (c.toNat * sz)).map (fun i => zz[i % zz.size]!) = (rep c.toNat z).toArray := by
    intro zz hzz
    by_cases hn : c.toNat * sz = 0
    · rw [hn]
      have : (rep c.toNat z) = [] := by rw [← List.length_eq_zero_iff, rep_length, hzn, hn]
      simp [this]
    · obtain rfl := hzz.resolve_right hn
      have := zero_cells zv.cells c.toNat (.inl (by rw [hsz]; intro h; rw [h] at hn; simp at hn))
      rw [hsz, hzl] at this
      rw [hsz]; exact this
  rw [hwc, hs, hwl]
  by_cases hn : c.toNat * sz = 0
  · simp only [if_pos hn, run_pure, newRow, newObj, run_bind, Sem.run]
    rw [hcells #[] (.inr hn)]
  · simp only [if_neg hn, run_bind, zero_run hi hz, run_pure, newRow, newObj, Sem.run]
    rw [hcells zv.cells (.inl rfl)]
theorem setAll_cons (l : List Value) (o : Nat) (v : Value) (vs : List Value) (h : o + (v :: vs).length ≤ l.length) : setAll (l.set o v) (o + 1) vs = setAll l o (v :: vs) := by
  simp only [List.length_cons] at h
  have hlt : o < l.length := by omega
  unfold setAll
  rw [List.take_add_one (i := o), List.take_set_of_le (Nat.le_refl _), List.drop_set_of_lt (by omega)]
  simp [hlt]
  congr 1; omega
theorem fold_put (o : Nat) : ∀ (us : List Value) (k : Nat) (cs : Array Value), o + k + us.length ≤ cs.size →
    ((us.zipIdx k).foldl (fun (cs : Array Value) (x : Value × Nat) => cs.setIfInBounds (o + x.2) x.1) cs) = (setAll cs.toList (o + k) us).toArray
  | [], k, cs, h => by simp [setAll]
  | u :: us, k, cs, h => by
    simp only [List.length_cons] at h
    simp only [List.zipIdx_cons, List.foldl_cons]
    rw [fold_put o us (k + 1) _ (by simp; omega)]
    congr 1
    rw [Array.toList_setIfInBounds, ← Nat.add_assoc]
    exact setAll_cons _ _ _ _ (by simpa using h)
class AtN (l : List (Nat × Nat)) (n : Nat) (v : outParam (Nat × Nat)) : Prop where
  pf : l[n]? = some v
instance (priority := high) atN_zero {v l} : AtN (v :: l) 0 v := ⟨rfl⟩
instance atN_succ {u v l n} [h : AtN l n v] : AtN (u :: l) (n + 1) v := ⟨by simpa using h.pf⟩
class SetsI (l : List Value) (o : Nat) (vs : List Value) (l' : outParam (List Value)) : Prop where
  le : o + vs.length ≤ l.length
  pf : setAll l o vs = l'
instance (priority := high) setsI_one {l l' : List Value} {o : Nat} {v : Value} [h : SetI l o v l'] : SetsI l o [v] l' := ⟨by have := h.lt; simp; omega, by rw [setAll_one _ _ _ h.lt]; exact h.pf⟩
instance setsI_cons {l l1 l' : List Value} {o : Nat} {v : Value} {vs : List Value} [h : SetI l o v l1] [h' : SetsI l1 (o + 1) vs l'] : SetsI l o (v :: vs) l' :=
  ⟨by have := h'.le; have := h.lt; rw [← h.pf] at *; simp at *; omega, by
    rw [← setAll_cons l o v vs (by have := h'.le; have := h.lt; rw [← h.pf] at *; simp at *; omega), h.pf]; exact h'.pf⟩
class AtLen (l : List Value) (n : Nat) : Prop where
  pf : l.length = n
instance : AtLen [] 0 := ⟨rfl⟩
instance atLen_cons {v l n} [h : AtLen l n] : AtLen (v :: l) (n + 1) := ⟨by simp [h.pf]⟩
class FillI (pl : List (Nat × Nat)) (l : List Value) (ps : List (Nat × Value)) (l' : outParam (List Value)) : Prop where
  pf : Instr.fill (pl[·]?) l.toArray ps = some l'.toArray
instance fillI_nil {pl l} : FillI pl l [] l := ⟨rfl⟩
instance fillI_cons {pl : List (Nat × Nat)} {l l1 l' vs : List Value} {i o n : Nat} {v : Value} {ps : List (Nat × Value)} [ha : AtN pl i (o, n)] [hv : CellsI v vs] [hs : SetsI l o vs l1] [hn : AtLen vs n] [h : FillI pl l1 ps l'] :
    FillI pl l ((i, v) :: ps) l' := ⟨by
  have hsz : v.cells.size = n := by rw [← Array.length_toList, hv.pf]; exact hn.pf
  have hle := hs.le
  have hl : vs.length = n := hn.pf
  have hz : v.cells.zipIdx.foldl (fun cs (x : Value × Nat) => cs.setIfInBounds (o + x.2) x.1) l.toArray = l1.toArray := by
    rw [← Array.foldl_toList, Array.toList_zipIdx, hv.pf]
    have := fold_put o vs 0 l.toArray (by simpa using hle)
    rw [this]
    simp only [Nat.add_zero]
    rw [hs.pf]
  unfold Instr.fill
  simp only [ha.pf, hsz]
  rw [if_neg (by simp; omega)]
  exact (congrArg (fun cs => Instr.fill (pl[·]?) cs ps) hz).trans h.pf⟩
structure Str (P : Program) (t : TypeId) (pl : List (Nat × Nat)) (z : List Value) : Prop where
  pf : ∃ fs zv, P.underlying t = some (.struct fs) ∧ (∀ w, (fs.mapM fun f => do pure (f.offset, ← sizeOf f.type) : Sem (Array (Nat × Nat))).run P w = .ok pl.toArray w) ∧ (∀ w, (zeroValue t).run P w = .ok zv w) ∧ zv.cells.toList = z
theorem E_build {t : TypeId} {pl : List (Nat × Nat)} {z l : List Value} {ps : List (Nat × Value)} (hs : Str P t pl z) [hf : FillI pl z ps l] (h : E B H (K (.agg l.toArray))) : E B H (V P (Instr.build t ps.toArray) K) := by
  obtain ⟨fs, zv, hu, hm, hz, hzl⟩ := hs.pf
  refine E_Vok fun w hw => ⟨_, _, ?_, h w hw⟩
  unfold Instr.build
  simp only [run_bind, hz, run_pure, run_underlying' hu, hm]
  have : zv.cells = z.toArray := by rw [← hzl]
  rw [this]
  have hfill := hf.pf
  have hget : (fun x : Nat => (pl.toArray)[x]?) = (fun x : Nat => pl[x]?) := by funext x; simp
  simp only [hget, hfill, run_pure]
theorem fill_congr {f g : Nat → Option (Nat × Nat)} : ∀ (ps : List (Nat × Value)) (cs : Array Value), (∀ p ∈ ps, f p.1 = g p.1) → Instr.fill f cs ps = Instr.fill g cs ps
  | [], cs, h => rfl
  | (i, v) :: ps, cs, h => by
    have h0 := h (i, v) (List.mem_cons_self ..)
    simp only at h0
    unfold Instr.fill
    rw [h0]
    cases g i with
    | none => rfl
    | some p =>
      obtain ⟨off, size⟩ := p
      simp only
      split
      · rfl
      · exact fill_congr ps _ fun p hp => h p (List.mem_cons_of_mem _ hp)
theorem E_bsl {t T : TypeId} {n sz by_ : Nat} {z l : List Value} {ps : List (Nat × Value)} (pl : List (Nat × Nat)) (hu : P.underlying t = some (.slice T)) (he : Elt P T sz by_ z) (hpl : ∀ p ∈ ps, pl[p.1]? = some (p.1 * sz, sz))
    (hs0 : 0 < n * sz ∧ n * sz ≤ 1000) {l0 : List Value} (hr : rep n z = l0) [hf : FillI pl l0 ps l]
    (h : ∀ b, E B (cel true b T l :: H) (K (.slice (some ⟨b, 0, none⟩) n n))) : E B H (V P (Instr.buildSlice t n ps.toArray) K) := by
  subst hr
  obtain ⟨i, zv, hi, hs, hb, hz, hzl, hzn⟩ := he.pf
  refine E_Vok fun w hw => ⟨_, _, ?_, h _ _ (sat_cel_new hw T l (0, 0) (by simp))⟩
  unfold Instr.buildSlice
  simp only [run_bind, run_underlying' hu, run_size' hi, hs]
  have e24 : (2 : Nat) ^ 24 = 16777216 := by decide
  rw [if_neg (by rw [e24]; omega), if_neg (by omega)]
  simp only [run_bind, run_pure, zero_run hi hz]
  have hsz : zv.cells.size = sz := by rw [← Array.length_toList, hzl, hzn]
  have hc : (Array.range (n * sz)).map (fun i => zv.cells[i % zv.cells.size]!) = (rep n z).toArray := by
    have := zero_cells zv.cells n (.inl (by rw [hsz]; intro h; rw [h] at hs0; simp at hs0))
    rw [hsz, hzl] at this
    rw [hsz]; exact this
  rw [hc]
  have hfl : Instr.fill (fun i => some (i * sz, sz)) (rep n z).toArray ps = some l.toArray := by
    rw [← hf.pf]; exact fill_congr _ _ fun p hp => (hpl p hp).symm
  simp only [hfl, newRow, newObj, run_bind, Sem.run, run_pure]
theorem elt_of {T sz by_ : Nat} {zv : Value} {z : List Value} (h : (P.info? T).map (fun i => (i.size, i.bytes, i.zero)) = some (sz, by_, some zv)) (hz : zv.cells.toList = z) (hl : z.length = sz) : Elt P T sz by_ z := by
  cases hi : P.info? T with
  | none => simp [hi] at h
  | some i =>
    simp only [hi, Option.map_some, Option.some.injEq, Prod.mk.injEq] at h
    exact ⟨i, zv, hi, h.1, h.2.1, h.2.2, hz, hl⟩
theorem E_bsl0 {t T : TypeId} (hu : P.underlying t = some (.slice T)) {sz by_ : Nat} {z : List Value} (he : Elt P T sz by_ z)
    (h : ∀ b, E B (cel true b T [] :: H) (K (.slice (some ⟨b, 0, none⟩) 0 0))) : E B H (V P (Instr.buildSlice t 0 #[]) K) := by
  obtain ⟨i, zv, hi, hs, hb, hz, hzl, hzn⟩ := he.pf
  refine E_Vok fun w hw => ⟨_, _, ?_, h _ _ (sat_cel_new hw T [] (0, 0) (by simp))⟩
  unfold Instr.buildSlice
  simp only [run_bind, run_underlying' hu, run_size' hi, Nat.zero_mul]
  rw [if_neg (by decide), if_pos trivial]
  have e0 : Array.range 0 = #[] := by simp [Array.range]
  simp [run_pure, Instr.fill, newRow, newObj, Sem.run, run_bind, e0]
end Go.SL
namespace Go.SL
open Go.RowKit
variable {B : World} {H : List Asrt} {K : Value → WT} {P : Program}
def osl (T sz : Nat) (v : Value) (n : Nat) (xs : List Value) : Asrt := fun ch =>
  (v = .slice none 0 0 ∧ n = 0 ∧ xs = [] ∧ ch = []) ∨
  (∃ b cap spare, v = .slice (some ⟨b, 0, none⟩) n cap ∧ n ≤ cap ∧ xs.length = n * sz ∧ spare.length = (cap - n) * sz ∧ cel true b T (xs ++ spare) ch)
theorem osl_nil {T sz : Nat} {W : WT} (h : E B (osl T sz (.slice none 0 0) 0 [] :: H) W) : E B H W := fun w ⟨hb, l, hs, hc⟩ =>
  h w ⟨hb, l, ⟨[], l, rfl, .inl ⟨rfl, rfl, rfl, rfl⟩, hs⟩, hc⟩
theorem osl_of_cel {T sz b n : Nat} {xs : List Value} {W : WT} (hx : xs.length = n * sz) (h : E B (osl T sz (.slice (some ⟨b, 0, none⟩) n n) n xs :: H) W) : E B (cel true b T xs :: H) W :=
  E_imp (fun l hl => .inr ⟨b, n, [], rfl, Nat.le_refl _, hx, by simp, by simpa using hl⟩) h
def Rd (P : Program) (B : World) (H : List Asrt) (tx : TypeId) (x : Value) (sz m : Nat) (ys : List Value) : Prop := ∀ w, sat B H w → Go.Src P sz tx x m ys w
theorem rd_slice {b o m c sz T : Nat} {tx e' : TypeId} {κ : Bool} {l ys : List Value} [hf : HasC H b κ T l] (hk : P.underlying tx = some (.slice e')) (hy : (l.drop o).take (m * sz) = ys) (hl : ys.length = m * sz)
    (hc : ∀ y ∈ ys, isCell y = true) : Rd P B H tx (.slice (some ⟨b, o, none⟩) m c) sz m ys := fun w hw =>
  Go.Src.ofSlice w hk ⟨b, o, none⟩ m c ys hl (fun j u hj => by
    have ha : (⟨b, o, none⟩ : Addr).add j = ⟨b, o + j, none⟩ := by
      unfold Addr.add; split
      · rename_i h0; subst h0; rfl
      · rfl
    rw [ha, sat_cell (hf := hf) hw]
    have hj' := hj
    rw [← hy, List.getElem?_take] at hj
    split at hj
    · rw [List.getElem?_drop] at hj; exact hj
    · cases hj) (fun u hu => by have := hc u hu; cases u <;> first | rfl | cases this)
theorem zeroCells_eq (z : Array Value) (n : Nat) : Builtin.zeroCells z n = (rep n z.toList).toArray := by
  unfold Builtin.zeroCells
  by_cases hz : z.size = 0
  · have : z = #[] := Array.eq_empty_of_size_eq_zero hz
    subst this; simp [rep]
  · exact zero_cells z n (.inl hz)
theorem sat_setCells {b : Nat} {T : TypeId} : ∀ (vs l : List Value) (o : Nat) (w : World), sat B (cel true b T l :: H) w → o + vs.length ≤ l.length →
    sat B (cel true b T (setAll l o vs) :: H) (w.setCells b o vs) ∧ ∀ j, j < vs.length → (w.cell? ⟨b, o + j, none⟩).isSome = true ∧ w.frozen? ⟨b, o + j, none⟩ = false
  | [], l, o, w, hw, _ => ⟨by simpa [setAll, World.setCells] using hw, fun j hj => by simp at hj⟩
  | v :: vs, l, o, w, hw, hl => by
    have hlt : o < l.length := by simp at hl; omega
    obtain ⟨fr, hh, hfr, hs⟩ := cel_own (l' := l.set o v) hw (by simp)
    have hset : w.setCell ⟨b, o, none⟩ v = { w with heap := w.heap.setIfInBounds b (.cells (l.set o v).toArray T fr) } := by
      rw [setCell_eq hh]; congr 3; simp
    rw [← hset] at hs
    obtain ⟨h1, _⟩ := sat_setCells vs (l.set o v) (o + 1) _ hs (by rw [List.length_set]; simp at hl; omega)
    refine ⟨?_, fun j hj => ?_⟩
    · rw [setAll_cons _ _ _ _ hl] at h1
      exact h1
    · simp only [List.length_cons] at hl hj
      unfold World.cell? World.frozen?
      simp only [hh]
      refine ⟨by simp; omega, ?_⟩
      have := hfr (o + j) (by omega)
      rw [← Bool.not_eq_true]; simpa using this
theorem rep_len {n sz : Nat} {z : List Value} (h : z.length = sz) : (rep n z).length = n * sz := by rw [rep_length, h]
theorem E_app0 {ty t0 t1 T sz by_ n m : Nat} {z xs ys : List Value} {v x : Value} (hu : P.underlying t0 = some (.slice T))
    (he : Elt P T sz by_ z) (hs : Rd P B H t1 x sz m ys) (hb : (n + m) * by_ ≤ 140737488355328) (hm : n + m ≤ 9223372036854775807)
    (h : ∀ v', E B (osl T sz v' (n + m) (xs ++ ys) :: H) (K v')) : E B (osl T sz v n xs :: H) (V P (Builtin.append_ #[t0, t1] ty #[v, x]) K) := by
  obtain ⟨i, zv, hinfo, hsz, hby, hzv, hzl, hzn⟩ := he.pf
  subst hsz
  refine E_Vok fun w hw => ?_
  have htl : sat B H w := hw.tail
  have hsrc := hs w htl
  have hyl : ys.length = m * i.size := hsrc.newsLen
  obtain ⟨hB, ch, ⟨c1, c2, hch, hosl, hst⟩, hcc⟩ := hw
  have grow : ∀ (base : Option Addr) (cap : Nat), v = .slice base n cap → cap < n + m → xs.length = n * i.size →
      (Builtin.firstCells i.size n (.slice base n cap)).run P w.drew = .ok xs.toArray w.drew →
      ∃ v' w', (Builtin.append_ #[t0, t1] ty #[v, x]).run P w = .ok v' w' ∧ K v' w' := by
    intro base cap hv hlt hxl hold
    subst hv
    have hfit : Builtin.nextslicecap (n + m) cap * i.bytes ≤ 281474976710656 := by
      have h1 := nextslicecap_le hlt
      have h2 := Nat.mul_le_mul_right i.bytes h1
      rw [Nat.mul_assoc, hby] at h2
      rw [hby]; omega
    refine ⟨_, _, run_append_grow_src w t0 t1 ty T i zv hu hinfo hzv base n cap xs hold x m ys hsrc hlt (by omega) hfit, ?_⟩
    refine h _ _ ?_
    have hd : sat B H w.drew := htl.same rfl rfl rfl rfl
    have := sat_cel_new hd T (xs ++ ys ++ rep (grownCap w (n + m) cap T - (n + m)) z) (0, 0) (by simp)
    have hcap : n + m ≤ grownCap w (n + m) cap T := by unfold grownCap Question.cut; simp
    obtain ⟨hb', ch', ⟨l1, l2, e, h1, h2⟩, hc'⟩ := this
    refine ⟨?_, ch', ⟨l1, l2, e, .inr ⟨_, _, rep (grownCap w (n + m) cap T - (n + m)) z, rfl, hcap, ?_, rep_len hzn, h1⟩, h2⟩, ?_⟩
    · have harr : (xs ++ ys).toArray ++ Builtin.zeroCells zv.cells (grownCap w (n + m) cap T - (n + m)) = (xs ++ ys ++ rep (grownCap w (n + m) cap T - (n + m)) z).toArray := by
        rw [zeroCells_eq, hzl]; simp
      rw [harr]; exact hb'
    · simp [hxl, hyl, Nat.add_mul]
    · have harr : (xs ++ ys).toArray ++ Builtin.zeroCells zv.cells (grownCap w (n + m) cap T - (n + m)) = (xs ++ ys ++ rep (grownCap w (n + m) cap T - (n + m)) z).toArray := by
        rw [zeroCells_eq, hzl]; simp
      rw [harr]; exact hc'
  rcases hosl with ⟨rfl, rfl, rfl, rfl⟩ | ⟨b, cap, spare, rfl, hle, hxl, hsl, hcel⟩
  · by_cases hm0 : m = 0
    · subst hm0
      have hys : ys = [] := by rw [← List.length_eq_zero_iff, hyl]; simp
      subst hys
      refine ⟨.slice none 0 0, w, ?_, h _ w ⟨hB, ch, ⟨[], c2, hch, .inl ⟨rfl, rfl, rfl, rfl⟩, hst⟩, hcc⟩⟩
      have hsz' : (sizeOf T).run P w = .ok i.size w := run_size' hinfo
      rcases hsrc.kind with ⟨e', hk⟩ | hk <;>
        simp [Builtin.append_, run_underlying' hu, run_underlying' hk, hsz', hsrc.len, hsrc.cells, run_bind, run_pure]
    · exact grow none 0 rfl (by omega) (by simp) (by simp [Builtin.firstCells, run_pure])
  · have hsat : sat B (cel true b T (xs ++ spare) :: H) w := ⟨hB, ch, ⟨c1, c2, hch, hcel, hst⟩, hcc⟩
    by_cases hroom : n + m ≤ cap
    · have hlen : (xs ++ spare).length = cap * i.size := by
        rw [List.length_append, hxl, hsl, ← Nat.add_mul]; congr 1; omega
      have hle2 : n * i.size + ys.length ≤ (xs ++ spare).length := by
        rw [hlen, hyl, ← Nat.add_mul]; exact Nat.mul_le_mul_right _ hroom
      obtain ⟨h1, h2⟩ := sat_setCells ys (xs ++ spare) (n * i.size) w hsat hle2
      refine ⟨_, _, run_append_room_src w t0 t1 ty T i hu hinfo b 0 n cap x m ys hsrc hroom (fun j hj => ?_) (fun j hj => ?_), ?_⟩
      · simpa using (h2 j hj).1
      · simpa using (h2 j hj).2
      · refine h _ _ ?_
        have he : setAll (xs ++ spare) (n * i.size) ys = xs ++ ys ++ spare.drop ys.length := by
          unfold setAll
          rw [← hxl]; simp
        rw [he] at h1
        simp only [Nat.zero_add]
        obtain ⟨hb', ch', ⟨l1, l2, e, h1', h2'⟩, hc'⟩ := h1
        refine ⟨hb', ch', ⟨l1, l2, e, .inr ⟨b, cap, spare.drop ys.length, rfl, hroom, ?_, ?_, h1'⟩, h2'⟩, hc'⟩
        · simp [hxl, hyl, Nat.add_mul]
        · rw [List.length_drop, hsl, hyl, ← Nat.sub_mul]; congr 1; omega
    · refine grow (some ⟨b, 0, none⟩) cap rfl (by omega) hxl ?_
      have hd : sat B (cel true b T (xs ++ spare) :: H) w.drew := hsat.same rfl rfl rfl rfl
      unfold Builtin.firstCells loadCells
      rw [run_loadCells _ _ _ _ (cellsFrom_eq (fun o => sat_cell (hf := hasC_here) hd o) (n * i.size) 0 0 xs (by simp [← hxl]) hxl)]
      simp
theorem E_appz0 {ty t0 t1 T sz by_ n : Nat} {kk : IntKind} {k : Int} {z xs : List Value} {v : Value} (hu : P.underlying t0 = some (.slice T)) (hd : P.underlying t1 = some (.int kk))
    (he : Elt P T sz by_ z) (hz : ∀ y ∈ z, isCell y = true) (h0 : 0 ≤ k) (hb : (n + k.toNat) * by_ ≤ 140737488355328) (hm : n + k.toNat ≤ 9223372036854775807) (hby1 : 1 ≤ by_) (hsz1 : 1 ≤ sz)
    (h : ∀ v', E B (osl T sz v' (n + k.toNat) (xs ++ rep k.toNat z) :: H) (K v')) : E B (osl T sz v n xs :: H) (V P (Builtin.append_ #[t0, t1] ty #[v, .int .i64 k]) K) := by
  obtain ⟨i, zv, hinfo, hsz, hby, hzv, hzl, hzn⟩ := he.pf
  subst hsz
  refine E_Vok fun w hw => ?_
  obtain ⟨hB, ch, ⟨c1, c2, hch, hosl, hst⟩, hcc⟩ := hw
  have htl : sat B H w := sat.tail ⟨hB, ch, ⟨c1, c2, hch, hosl, hst⟩, hcc⟩
  have hwk : IntKind.i64.wrap k = k := wrapI (by omega) (by omega)
  have hl0 : ¬ k < 0 := by omega
  have e48 : (2 : Int) ^ 48 = 281474976710656 := by decide
  have e48n : (2 : Nat) ^ 48 = 281474976710656 := by decide
  have hkk : (k.toNat : Int) = k := Int.toNat_of_nonneg h0
  have hbig : ¬ k * (i.bytes : Int) > 281474976710656 := by
    rw [hby]
    have h1 : k.toNat * by_ ≤ (n + k.toNat) * by_ := Nat.mul_le_mul_right _ (by omega)
    have h2 : ((k.toNat * by_ : Nat) : Int) ≤ 140737488355328 := by omega
    rw [Int.natCast_mul, hkk] at h2
    omega
  have hzn' : zv.cells.size = i.size := by rw [← Array.length_toList, hzl, hzn]
  have happ : ∀ w', (if k.toNat * i.size = 0 then pure #[] else do pure (Builtin.zeroCells (← zeroValue T).cells k.toNat) : Sem (Array Value)).run P w' = .ok (rep k.toNat z).toArray w' := by
    intro w'
    by_cases hk0 : k.toNat * i.size = 0
    · rw [if_pos hk0]
      have : rep k.toNat z = [] := by rw [← List.length_eq_zero_iff, rep_length, hzn, hk0]
      rw [this]; rfl
    · rw [if_neg hk0, run_bind, zero_run hinfo hzv]
      simp only [run_pure, zeroCells_eq, hzl]
  have hrl : (rep k.toNat z).length = k.toNat * i.size := rep_len hzn
  have hcells : ∀ y ∈ rep k.toNat z, isCell y = true := fun y hy => by
    unfold rep at hy
    obtain ⟨l, hl, hyl⟩ := List.mem_flatten.1 hy
    obtain ⟨_, rfl⟩ := List.mem_replicate.1 hl
    exact hz y hyl
  have grow : ∀ (base : Option Addr) (cap : Nat), v = .slice base n cap → cap < n + k.toNat → xs.length = n * i.size →
      (∀ w', sat B (osl T i.size v n xs :: H) w' → (Builtin.firstCells i.size n (.slice base n cap)).run P w' = .ok xs.toArray w') →
      ∃ v' w', (Builtin.append_ #[t0, t1] ty #[v, .int .i64 k]).run P w = .ok v' w' ∧ K v' w' := by
    intro base cap hv hlt hxl hold
    have hsatD : sat B (osl T i.size v n xs :: H) w.drew := sat.same ⟨hB, ch, ⟨c1, c2, hch, hosl, hst⟩, hcc⟩ rfl rfl rfl rfl
    have hold2 := hold w.drew hsatD
    subst hv
    have h1 := nextslicecap_le hlt
    have h2 := Nat.mul_le_mul_right i.bytes h1
    rw [Nat.mul_assoc, hby] at h2
    have hfit : ¬ Builtin.nextslicecap (n + k.toNat) cap * i.bytes > 281474976710656 := by rw [hby]; omega
    have hn : ¬ n + k.toNat ≤ cap := by omega
    have h63 : ¬ ((n + k.toNat : Nat) : Int) > IntKind.i64.max := by
      have : IntKind.i64.max = 9223372036854775807 := by decide
      omega
    have hcap : n + k.toNat ≤ grownCap w (n + k.toNat) cap T := by unfold grownCap Question.cut; simp
    refine ⟨.slice (some ⟨w.heap.size, 0, none⟩) (n + k.toNat) (grownCap w (n + k.toNat) cap T),
      { w.drew with heap := w.drew.heap.push (.cells (xs ++ rep k.toNat z ++ rep (grownCap w (n + k.toNat) cap T - (n + k.toNat)) z).toArray T) }, ?_, ?_⟩
    · unfold Builtin.append_
      simp only [List.getElem?_toArray, List.getElem?_cons_zero, List.getElem?_cons_succ, run_bind, run_underlying' hu, run_underlying' hd, run_size' hinfo, run_pure, if_true, asInt, asIntOf, hwk, if_neg hl0, run_info' hinfo, e48, if_neg hbig, if_neg hn, e48n, if_neg hfit]
      rw [if_neg (fun h => h63 h.1)]
      simp only [run_bind, run_pure, run_info' hinfo]
      rw [if_neg hfit]
      have hch : (choose (.appendCap (n + k.toNat) cap T)).run P w = .ok (grownCap w (n + k.toNat) cap T) w.drew := by
        unfold choose Sem.run; simp [Question.forced, grownCap, Sem.run]
      have hroom : ∀ b w', (askRoom b).run P w' = .ok () w' := fun b w' => by unfold askRoom; split <;> rfl
      simp only [run_bind, hch, hroom, run_info' hinfo]
      rw [hold2]
      have := happ w.drew
      simp only [Bool.not_true, Bool.false_eq_true, if_false, this, zero_run hinfo hzv, run_pure, newRow, newObj, Sem.run, run_bind, zeroCells_eq, hzl]
      have happ2 : (if k.toNat * i.size = 0 then pure #[] else do pure (rep k.toNat (← zeroValue T).cells.toList).toArray : Sem (Array Value)).run P w.drew = .ok (rep k.toNat z).toArray w.drew := by
        have := happ w.drew
        simp only [zeroCells_eq] at this
        exact this
      rw [happ2]
      simp
    · refine h _ _ ?_
      have hd : sat B H w.drew := htl.same rfl rfl rfl rfl
      have := sat_cel_new hd T (xs ++ rep k.toNat z ++ rep (grownCap w (n + k.toNat) cap T - (n + k.toNat)) z) (0, 0) (by simp)
      obtain ⟨hb', ch', ⟨l1, l2, e, h1, h2⟩, hc'⟩ := this
      exact ⟨hb', ch', ⟨l1, l2, e, .inr ⟨_, _, rep (grownCap w (n + k.toNat) cap T - (n + k.toNat)) z, rfl, hcap, by simp [hxl, hrl, Nat.add_mul], rep_len hzn, h1⟩, h2⟩, hc'⟩
  rcases hosl with ⟨rfl, rfl, rfl, rfl⟩ | ⟨b, cap, spare, rfl, hle, hxl, hsl, hcel⟩
  · by_cases hk0 : k.toNat = 0
    · have hr : rep k.toNat z = [] := by rw [hk0]; rfl
      refine ⟨.slice none 0 0, w, ?_, ?_⟩
      · unfold Builtin.append_
        have hmul : k.toNat * i.size = 0 := by rw [hk0]; simp
        simp only [List.getElem?_toArray, List.getElem?_cons_zero, List.getElem?_cons_succ, run_bind, run_underlying' hu, run_underlying' hd, run_size' hinfo, run_pure, if_true, asInt, asIntOf, hwk, if_neg hl0, run_info' hinfo, e48, if_neg hbig, hk0]
        simp [run_pure]
      · have := h (.slice none 0 0)
        rw [hr, hk0] at this
        exact this w ⟨hB, ch, ⟨[], c2, hch, .inl ⟨rfl, rfl, rfl, rfl⟩, hst⟩, hcc⟩
    · exact grow none 0 rfl (by omega) (by simp) (fun w' _ => by simp [Builtin.firstCells, run_pure])
  · have hsat : sat B (cel true b T (xs ++ spare) :: H) w := ⟨hB, ch, ⟨c1, c2, hch, hcel, hst⟩, hcc⟩
    by_cases hroom : n + k.toNat ≤ cap
    · have hlen : (xs ++ spare).length = cap * i.size := by
        rw [List.length_append, hxl, hsl, ← Nat.add_mul]; congr 1; omega
      have hle2 : n * i.size + 0 + (rep k.toNat z).length ≤ (xs ++ spare).length := by
        rw [hlen, hrl, Nat.add_zero, ← Nat.add_mul]; exact Nat.mul_le_mul_right _ hroom
      obtain ⟨w', hw1, hw2⟩ := putFrom_eq (rep k.toNat z) (xs ++ spare) 0 w hsat hcells hle2
      refine ⟨.slice (some ⟨b, 0, none⟩) (n + k.toNat) cap, w', ?_, ?_⟩
      · unfold Builtin.append_
        simp only [List.getElem?_toArray, List.getElem?_cons_zero, List.getElem?_cons_succ, run_bind, run_underlying' hu, run_underlying' hd, run_size' hinfo, run_pure, if_true, asInt, asIntOf, hwk, if_neg hl0, run_info' hinfo, e48, if_neg hbig, if_pos hroom]
        have := happ w
        have ha : (⟨b, 0, none⟩ : Addr).add (n * i.size) = ⟨b, n * i.size, none⟩ := by
          unfold Addr.add; split
          · rename_i h0; rw [h0]
          · simp
        simp only [Bool.not_true, Bool.false_eq_true, if_false, this, ha, run_storeCells _ _ _ _ hw1]
      · refine h _ _ ?_
        have he : setAll (xs ++ spare) (n * i.size + 0) (rep k.toNat z) = xs ++ rep k.toNat z ++ spare.drop (rep k.toNat z).length := by
          unfold setAll
          rw [Nat.add_zero, ← hxl]; simp
        rw [he] at hw2
        obtain ⟨hb', ch', ⟨l1, l2, e, h1', h2'⟩, hc'⟩ := hw2
        refine ⟨hb', ch', ⟨l1, l2, e, .inr ⟨b, cap, spare.drop (rep k.toNat z).length, rfl, hroom, ?_, ?_, h1'⟩, h2'⟩, hc'⟩
        · simp [hxl, hrl, Nat.add_mul]
        · rw [List.length_drop, hsl, hrl, ← Nat.sub_mul]; congr 1; omega
    · refine grow (some ⟨b, 0, none⟩) cap rfl (by omega) hxl (fun w' hw' => ?_)
      obtain ⟨hB', ch', ⟨c1', c2', hch', hosl', hst'⟩, hcc'⟩ := hw'
      rcases hosl' with ⟨h0, _⟩ | ⟨b', cap', spare', hv', hle', hxl', hsl', hcel'⟩
      · cases h0
      · cases hv'
        have hsat' : sat B (cel true b T (xs ++ spare') :: H) w' := ⟨hB', ch', ⟨c1', c2', hch', hcel', hst'⟩, hcc'⟩
        unfold Builtin.firstCells loadCells
        rw [run_loadCells _ _ _ _ (cellsFrom_eq (fun o => sat_cell (hf := hasC_here) hsat' o) (n * i.size) 0 0 xs (by simp [← hxl]) hxl)]
        simp
theorem E_oslc {T sz n : Nat} {v : Value} {xs : List Value} {W : WT} (h : [CellI v] → E B (osl T sz v n xs :: H) W) : E B (osl T sz v n xs :: H) W := fun w hw => by
  have hc : CellI v := by
    obtain ⟨hB, ch, ⟨c1, c2, hch, hosl, hst⟩, hcc⟩ := hw
    rcases hosl with ⟨rfl, rfl, rfl, rfl⟩ | ⟨b, cap, spare, rfl, _⟩
    · exact ⟨rfl⟩
    · exact ⟨rfl⟩
  exact h w hw
theorem E_app {ty t0 t1 T sz by_ n m : Nat} {z xs ys : List Value} {v x : Value} (hu : P.underlying t0 = some (.slice T))
    (he : Elt P T sz by_ z) (hs : Rd P B H t1 x sz m ys) (hb : (n + m) * by_ ≤ 140737488355328) (hm : n + m ≤ 9223372036854775807)
    (h : ∀ v' [CellI v'], E B (osl T sz v' (n + m) (xs ++ ys) :: H) (K v')) : E B (osl T sz v n xs :: H) (V P (Builtin.append_ #[t0, t1] ty #[v, x]) K) :=
  E_app0 hu he hs hb hm fun v' => E_oslc (h v')
theorem E_appz {ty t0 t1 T sz by_ n : Nat} {kk : IntKind} {k : Int} {z xs : List Value} {v : Value} (hu : P.underlying t0 = some (.slice T)) (hd : P.underlying t1 = some (.int kk))
    (he : Elt P T sz by_ z) (hz : ∀ y ∈ z, isCell y = true) (h0 : 0 ≤ k) (hb : (n + k.toNat) * by_ ≤ 140737488355328) (hm : n + k.toNat ≤ 9223372036854775807) (hby1 : 1 ≤ by_) (hsz1 : 1 ≤ sz)
    (h : ∀ v' [CellI v'], E B (osl T sz v' (n + k.toNat) (xs ++ rep k.toNat z) :: H) (K v')) : E B (osl T sz v n xs :: H) (V P (Builtin.append_ #[t0, t1] ty #[v, .int .i64 k]) K) :=
  E_appz0 hu hd he hz h0 hb hm hby1 hsz1 fun v' => E_oslc (h v')
end Go.SL
namespace Go.SL
open Go.RowKit
variable {B : World} {H : List Asrt} {K : Value → WT} {P : Program}
theorem sat_pt_put {w : World} {b : Nat} {o o' : Obj} (h : sat B (pt true b o :: H) w) : sat B (pt true b o' :: H) (World.put w b o') := h.put o'
def lpo (l : Nat) (L : Loop) (st : LoopState) (j : X) : Asrt := pt true l (.loop { L with state := st, pending := X.code j })
def dfo (r : Nat) : Asrt := pt true r (.deferred (some []))
theorem like_self (L : Loop) (st : LoopState) (p : Option Code) : Loop.like L { L with state := st, pending := p } := ⟨rfl, rfl, rfl, rfl, rfl, rfl⟩
theorem E_begun {l : Nat} {L : Loop} {W : WT} (h : E B (lpo l L .busy .nrm :: H) W) : E B (lpo l L .ready .nrm :: H) (begun l L W) := fun w hw =>
  ⟨_, sat.get hw, like_self L _ _, rfl, h _ (sat_pt_put hw)⟩
theorem E_ended {l : Nat} {L : Loop} (h : E B (lpo l L .ready .nrm :: H) (K (.bool true))) : E B (lpo l L .busy .nrm :: H) (ended l L K .nrm) := fun w hw =>
  ⟨_, sat.get hw, like_self L _ _, h _ (sat_pt_put hw)⟩
theorem E_over {l : Nat} {L : Loop} {st : LoopState} {j : X} {after : X → WT} (hst : st ≠ .busy) (h : E B H (after j)) : E B (lpo l L st j :: H) (over l L after) := fun w hw =>
  ⟨_, j, sat.get hw, like_self L _ _, hst, rfl, h _ (sat.tail (sat_pt_put (o' := .loop { L with state := .exhausted, pending := X.code j }) hw))⟩
def YieldE (P : Program) (B : World) (l : Nat) (L : Loop) (np : Nat) (Bd : Round np) : Prop :=
  ∀ (args : List Value) (K : Value → WT) (H : List Asrt), args.length = np →
    E B (lpo l L .ready .nrm :: H) (app np (Bd l (begun l L) (ended l L K)) args) → E B (lpo l L .ready .nrm :: H) (S.cvv P (.func (.yield l) #[] #[]) args K)
theorem yieldE {l : Nat} {L : Loop} {np : Nat} {Bd : Round np} (h : YieldOk P l L np Bd) : YieldE P B l L np Bd := fun args K H hn hE w hw =>
  h args K w hn ⟨_, sat.get hw, like_self L _ _⟩ (hE w hw)
theorem E_rf {g : FuncId} {first captured : Array Value} {mv : Value} {np : Nat} {Bd : Round np} {an rt : Value → WT} {exs : List (Nat × (Value → WT))} (hk : callOk P g = true)
    (h : ∀ l dl L, YieldE P B l L np Bd → E B (lpo l L .ready .nrm :: dfo dl :: H)
      (CF P g (first.toList ++ [.func (.yield l) #[] #[]] ++ captured.toList) (fun _ => over l L fun j => aft (fun _ => nope) an rt exs j (addMark mv dl)))) :
    E B H (S.rf P (.func (.func g) first captured) mv np Bd an rt exs) := by
  intro w hw
  intro l dl L hdl hl hst hp hy
  refine ⟨hk, h l dl L (yieldE hy) _ ?_⟩
  have h1 := (hw.new (.deferred (some []))).new (.loop L)
  have hL : (.loop { L with state := .ready, pending := X.code .nrm } : Obj) = .loop L := by
    cases L; simp only at hst hp; subst hst hp; rfl
  subst hdl hl
  unfold lpo dfo
  rw [hL]
  simpa using h1
theorem E_done1 {r : Nat} {W : WT} (h : E B H W) : E B (dfo r :: H) (S.done (addMark undef r) W) := fun w hw =>
  ⟨by simpa using sat.get (b := r) (o := .deferred (some [])) hw, by
    have := h _ (sat.tail (sat_pt_put (b := r) (o := .deferred (some [])) (o' := .deferred none) hw))
    simpa [addMark, undef, takeAll] using this⟩
class HasM (H : List Asrt) (r : Nat) (κ : outParam Bool) (es : outParam (List MapEntry)) (cl : outParam Nat) : Prop where
  pf : ∃ H', Find H (mpb κ r es cl) H'
instance (priority := high) hasM_here {κ r es cl H} : HasM (mpb κ r es cl :: H) r κ es cl := ⟨_, .here⟩
instance hasM_there {a κ r es cl H} [h : HasM H r κ es cl] : HasM (a :: H) r κ es cl := ⟨_, .there h.pf.choose_spec⟩
class TakM (H : List Asrt) (r : Nat) (es : outParam (List MapEntry)) (cl : outParam Nat) (H' : outParam (List Asrt)) : Prop where
  pf : Find H (mpb true r es cl) H'
instance (priority := high) takM_here {r es cl H} : TakM (mpb true r es cl :: H) r es cl H := ⟨.here⟩
instance takM_there {a r es cl H H'} [h : TakM H r es cl H'] : TakM (a :: H) r es cl (a :: H') := ⟨.there h.pf⟩
theorem sat_hasM {w : World} {r : Nat} {κ : Bool} {es : List MapEntry} {cl : Nat} [hf : HasM H r κ es cl] (h : sat B H w) : w.heap[r]? = some (.map es.toArray cl) := by
  obtain ⟨H', hf⟩ := hf.pf
  exact sat.get (sat_perm hf.perm h)
theorem E_mkM (h : ∀ r, E B (mpb true r [] 0 :: H) (K (.map (some r)))) : E B H (S.mkM K) := fun w hw => h _ _ (hw.new (.map #[] 0))
theorem E_lk1 {kd : TypeDesc} {z k v : Value} {ok : Bool} {r n : Nat} {κ : Bool} {es : List MapEntry} {cl : Nat} [hf : HasM H r κ es cl] (hv : Instr.findNow kd k es 0 = some (some (n, v)))
    (h : E B H (K (match ok with | true => .tuple #[v, .bool true] | false => v))) : E B H (S.lk kd z ok (.map (some r)) k K) := fun w hw => by
  unfold S.lk; simp only [sat_hasM (hf := hf) hw, hv]; exact h w hw
theorem E_lk0 {kd : TypeDesc} {z k : Value} {ok : Bool} {r : Nat} {κ : Bool} {es : List MapEntry} {cl : Nat} [hf : HasM H r κ es cl] (hv : Instr.findNow kd k es 0 = some none)
    (h : E B H (K (match ok with | true => .tuple #[z, .bool false] | false => z))) : E B H (S.lk kd z ok (.map (some r)) k K) := fun w hw => by
  unfold S.lk; simp only [sat_hasM (hf := hf) hw, hv]; exact h w hw
theorem run_setMap {w : World} {r : Nat} {es : Array MapEntry} {cl : Nat} {o : Obj} (h : w.heap[r]? = some (.map es cl)) : (setObj r o).run P w = .ok () (World.put w r o) := by
  unfold setObj Sem.run; simp only [h]; rfl
def keyD : TypeDesc → Bool
  | .int _ | .string => true
  | _ => false
theorem checkKey_run' {b : Bool} {kt : TypeId} {k : Value} {d : TypeDesc} {w : World} (hd : P.underlying kt = some d) (h : keyD d = true) : (Instr.checkKey b 10000 kt k).run P w = .ok () w := by
  unfold Instr.checkKey
  rw [run_bind, run_underlying' hd]
  cases d <;> first | rfl | cases h
structure Key (P : Program) (t : TypeId) (kt el : TypeId) (kd : TypeDesc) : Prop where
  hm : P.underlying t = some (.map kt el)
  hk : P.underlying kt = some kd
  hd : keyD kd = true
theorem findNow_lt (kd : TypeDesc) (k : Value) : ∀ (es : List MapEntry) (i n : Nat) (v : Value), Instr.findNow kd k es i = some (some (n, v)) → ∃ j, n = i + j ∧ ∃ e, es[j]? = some e ∧ e.val = v ∧ Instr.sameNow kd k e.key = some true
  | [], i, n, v, h => by simp [Instr.findNow] at h
  | e :: es, i, n, v, h => by
    simp only [Instr.findNow] at h
    split at h
    · rename_i hs
      simp only [Option.some.injEq, Prod.mk.injEq] at h
      obtain ⟨rfl, rfl⟩ := h
      exact ⟨0, rfl, e, rfl, rfl, hs⟩
    · obtain ⟨j, rfl, e', he, hv, hs⟩ := findNow_lt kd k es (i + 1) n v h
      exact ⟨j + 1, by omega, e', by simpa using he, hv, hs⟩
    · cases h
theorem ba_beq (a b : ByteArray) : (a == b) = true ↔ a = b := by
  cases a with | mk x => cases b with | mk y =>
  simp only [BEq.beq, ByteArray.beq, ByteArray.mk.injEq]
  rw [← beq_iff_eq (a := x) (b := y)]
  rfl
theorem sameNow_eq {kd : TypeDesc} {a b : Value} (h : Instr.sameNow kd a b = some true) (hd : keyD kd = true) : a = b := by
  cases kd <;> first
    | (cases hd; done)
    | (cases a <;> first
        | (simp [Instr.sameNow] at h; done)
        | (cases b <;> first
            | (simp [Instr.sameNow] at h; done)
            | (simp [Instr.sameNow] at h; simp [h]; done)
            | (simp only [Instr.sameNow, Option.some.injEq, ba_beq] at h; rw [h])))
theorem keyStays {k : Value} {w : World} (h : Instr.sameBits 10000 k k = true) : (Instr.keyThatStays k k).run P w = .ok k w := by
  unfold Instr.keyThatStays; rw [if_pos h]; rfl
theorem E_mu1 {t kt el r n cl : Nat} {kd : TypeDesc} {k v u : Value} {es : List MapEntry} {H' : List Asrt} [hf : TakM H r es cl H'] (hK : Key P t kt el kd) (hb : Instr.sameBits 10000 k k = true)
    (hv : Instr.findNow kd k es 0 = some (some (n, u)))
    (h : E B (mpb true r (es.modify n fun e => { e with key := k, val := v }) cl :: H') (K undef)) : E B H (U P (Instr.mapUpdate t (.map (some r)) k v) K) := by
  refine E_Uok fun w hw => ?_
  have hw' := sat_perm hf.pf.perm hw
  have hg := sat.get hw'
  obtain ⟨j, hj, e, he, _, hs⟩ := findNow_lt _ _ _ _ _ _ hv
  simp only [Nat.zero_add] at hj; subst hj
  have hke := sameNow_eq hs hK.hd
  refine ⟨_, ?_, h _ (sat_pt_put (o' := .map (es.modify n fun e => { e with key := k, val := v }).toArray cl) hw')⟩
  unfold Instr.mapUpdate
  simp only [run_bind, run_underlying' hK.hm, run_getObj' hg (by simp), checkKey_run' hK.hk hK.hd, find_run (P := P) (w := w) hK.hk hv]
  have : ((es.toArray[n]?).map (·.key)).getD k = k := by simp [he, ← hke]
  rw [this, keyStays hb]
  simp only [run_setMap hg]
  congr 2
  simp
theorem E_mu0 {t kt el r cl : Nat} {kd : TypeDesc} {k v : Value} {es : List MapEntry} {H' : List Asrt} [hf : TakM H r es cl H'] (hK : Key P t kt el kd)
    (hv : Instr.findNow kd k es 0 = some none)
    (h : E B (mpb true r (es ++ [({ key := k, val := v, born := cl } : MapEntry)]) (cl + 1) :: H') (K undef)) : E B H (U P (Instr.mapUpdate t (.map (some r)) k v) K) := by
  refine E_Uok fun w hw => ?_
  have hw' := sat_perm hf.pf.perm hw
  have hg := sat.get hw'
  refine ⟨_, ?_, h _ (sat_pt_put (o' := .map (es ++ [({ key := k, val := v, born := cl } : MapEntry)]).toArray (cl + 1)) hw')⟩
  unfold Instr.mapUpdate
  simp only [run_bind, run_underlying' hK.hm, run_getObj' hg (by simp), checkKey_run' hK.hk hK.hd, find_run (P := P) (w := w) hK.hk hv, run_setMap hg]
  congr 2
  simp
theorem E_del1 {ts : Array TypeId} {ty t kt el r n cl : Nat} {kd : TypeDesc} {k u : Value} {es : List MapEntry} {H' : List Asrt} [hf : TakM H r es cl H'] (ht : ts[0]? = some t) (hK : Key P t kt el kd)
    (hv : Instr.findNow kd k es 0 = some (some (n, u)))
    (h : E B (mpb true r (es.eraseIdx n) cl :: H') (K (.tuple #[]))) : E B H (V P (Builtin.delete_ ts ty #[.map (some r), k]) K) := by
  refine E_Vok fun w hw => ?_
  have hw' := sat_perm hf.pf.perm hw
  have hg := sat.get hw'
  obtain ⟨j, hj, e, he, _, hs⟩ := findNow_lt _ _ _ _ _ _ hv
  simp only [Nat.zero_add] at hj; subst hj
  refine ⟨_, _, ?_, h _ (sat_pt_put (o' := .map (es.eraseIdx n).toArray cl) hw')⟩
  unfold Builtin.delete_
  simp only [ht, List.getElem?_toArray, List.getElem?_cons_zero, List.getElem?_cons_succ, run_bind, run_underlying' hK.hm, run_getObj' hg (by simp), checkKey_run' hK.hk hK.hd, find_run (P := P) (w := w) hK.hk hv, run_setMap hg, run_pure]
  have hlt : n < es.length := (List.getElem?_eq_some_iff.1 he).1
  congr 3
  simp [Array.eraseIdxIfInBounds, hlt]
theorem E_del0 {ts : Array TypeId} {ty t kt el r cl : Nat} {kd : TypeDesc} {k : Value} {es : List MapEntry} {H' : List Asrt} [hf : TakM H r es cl H'] (ht : ts[0]? = some t) (hK : Key P t kt el kd)
    (hv : Instr.findNow kd k es 0 = some none)
    (h : E B (mpb true r es cl :: H') (K (.tuple #[]))) : E B H (V P (Builtin.delete_ ts ty #[.map (some r), k]) K) := by
  refine E_Vok fun w hw => ?_
  have hw' := sat_perm hf.pf.perm hw
  have hg := sat.get hw'
  refine ⟨_, _, ?_, h _ (sat_pt_put (o' := .map es.toArray cl) hw')⟩
  unfold Builtin.delete_
  simp only [ht, List.getElem?_toArray, List.getElem?_cons_zero, List.getElem?_cons_succ, run_bind, run_underlying' hK.hm, run_getObj' hg (by simp), checkKey_run' hK.hk hK.hd, find_run (P := P) (w := w) hK.hk hv, run_setMap hg, run_pure]
end Go.SL
namespace Go.SL
open Go.RowKit
variable {B : World} {H : List Asrt} {K : Value → WT} {P : Program}
def bcs (bs : List UInt8) : List Value := bs.map fun b => .int .u8 b.toNat
@[simp] theorem bcs_length (bs : List UInt8) : (bcs bs).length = bs.length := by simp [bcs]
theorem bcs_cell (bs : List UInt8) : ∀ y ∈ bcs bs, isCell y = true := fun y h => by
  obtain ⟨b, _, rfl⟩ := List.mem_map.1 h; rfl
def hasBytes (ch : List Chunk) (v : Value) (bs : List UInt8) : Prop := (v = .slice none 0 0 ∧ bs = []) ∨
  ∃ (b o cap : Nat) (l : List Value) (T : TypeId) (fr : Nat × Nat), v = .slice (some ⟨b, o, none⟩) bs.length cap ∧ bs.length ≤ cap ∧ (l.drop o).take bs.length = bcs bs ∧ (⟨false, b, .cells l.toArray T fr⟩ : Chunk) ∈ ch
def ros (L : List (Value × List UInt8)) : Asrt := fun ch => (∀ c ∈ ch, c.own = false) ∧ ∀ p ∈ L, hasBytes ch p.1 p.2
theorem hasBytes_mono {ch ch' : List Chunk} {v : Value} {bs : List UInt8} (h : ∀ c ∈ ch, c ∈ ch') (hb : hasBytes ch v bs) : hasBytes ch' v bs := by
  rcases hb with hb | ⟨b, o, cap, l, T, fr, h1, hle, h2, h3⟩
  · exact .inl hb
  · exact .inr ⟨b, o, cap, l, T, fr, h1, hle, h2, h _ h3⟩
theorem ros_new {W : WT} (h : E B (ros [] :: H) W) : E B H W := fun w ⟨hb, l, hs, hc⟩ => h w ⟨hb, l, ⟨[], l, rfl, ⟨by simp, by simp⟩, hs⟩, hc⟩
theorem ros_add {κ : Bool} {b o cap : Nat} {T : TypeId} {l : List Value} {bs : List UInt8} {L : List (Value × List UInt8)} {W : WT} (hle : bs.length ≤ cap) (hl : (l.drop o).take bs.length = bcs bs)
    (h : E B (ros ((.slice (some ⟨b, o, none⟩) bs.length cap, bs) :: L) :: H) W) : E B (cel κ b T l :: ros L :: H) W := by
  have key : E B (cel false b T l :: ros L :: H) W := fun w ⟨hb, lc, ⟨l1, l2, e, ⟨fr, _, h1⟩, l3, l4, e', ⟨h3, h4⟩, hs⟩, hc⟩ => by
    subst h1
    refine h w ⟨hb, lc, ⟨[⟨false, b, .cells l.toArray T fr⟩] ++ l3, l4, by rw [e, e', List.append_assoc], ⟨fun c hm => ?_, fun p hp => ?_⟩, hs⟩, hc⟩
    · rcases List.mem_append.1 hm with hm | hm
      · simp at hm; subst hm; rfl
      · exact h3 c hm
    · rcases List.mem_cons.1 hp with rfl | hp
      · exact .inr ⟨b, o, cap, l, T, fr, rfl, hle, hl, by simp⟩
      · exact hasBytes_mono (fun c hc => List.mem_append_right _ hc) (h4 p hp)
  cases κ with
  | false => exact key
  | true =>
    intro w ⟨hb, lc, ⟨l1, l2, e, ⟨fr, _, h1⟩, hs⟩, hc⟩
    have hsat : sat B (pt true b (.cells l.toArray T fr) :: ros L :: H) w := ⟨hb, lc, ⟨l1, l2, e, h1, hs⟩, hc⟩
    refine E_share (fun w hw => ?_) w hsat
    obtain ⟨hb, lc, ⟨l1, l2, e, h1, hs⟩, hc⟩ := hw
    exact key w ⟨hb, lc, ⟨l1, l2, e, ⟨fr, by simp, h1⟩, hs⟩, hc⟩
class HasR (H : List Asrt) (L : outParam (List (Value × List UInt8))) : Prop where
  pf : ∃ H', Find H (ros L) H'
instance (priority := high) hasR_here {L H} : HasR (ros L :: H) L := ⟨_, .here⟩
instance hasR_there {a L H} [h : HasR H L] : HasR (a :: H) L := ⟨_, .there h.pf.choose_spec⟩
theorem sat_ros {w : World} {L : List (Value × List UInt8)} [hf : HasR H L] (h : sat B H w) {v : Value} {bs : List UInt8} (hm : (v, bs) ∈ L) :
    (v = .slice none 0 0 ∧ bs = []) ∨ ∃ b o cap, v = .slice (some ⟨b, o, none⟩) bs.length cap ∧ bs.length ≤ cap ∧ ∀ j, j < bs.length → w.cell? ⟨b, o + j, none⟩ = (bcs bs)[j]? := by
  obtain ⟨H', hf⟩ := hf.pf
  obtain ⟨hb, lc, ⟨l1, l2, e, ⟨h1, h2⟩, hs⟩, hc⟩ := sat_perm hf.perm h
  rcases h2 _ hm with h0 | ⟨b, o, cap, l, T, fr, hv, hle, hl, hch⟩
  · exact .inl h0
  · refine .inr ⟨b, o, cap, hv, hle, fun j hj => ?_⟩
    have hblk := (hc.1 _ (by rw [e]; exact List.mem_append_left _ hch)).1
    unfold World.cell?
    simp only [hblk]
    rw [← hl]
    simp [List.getElem?_take, hj, List.getElem?_drop]
theorem add_at (b o j : Nat) : (⟨b, o, none⟩ : Addr).add j = ⟨b, o + j, none⟩ := by
  unfold Addr.add; split
  · rename_i h0; subst h0; rfl
  · rfl
theorem bytesOf_bcs : ∀ (bs : List UInt8) (s : ByteArray), S.bytesOf (bcs bs) s = some ⟨(s.data.toList ++ bs).toArray⟩
  | [], s => by simp [bcs, S.bytesOf]
  | b :: bs, s => by
    have := bytesOf_bcs bs (s.push b)
    simp only [bcs, List.map_cons, S.bytesOf] at this ⊢
    have hb : UInt8.ofNat (Int.toNat ((b.toNat : Nat) : Int)) = b := by simp
    rw [hb, this]
    simp [ByteArray.push]
theorem osl_ros {T : TypeId} {v : Value} {bs : List UInt8} {n : Nat} {L : List (Value × List UInt8)} {W : WT} (hn : n = bs.length) (h : E B (ros ((v, bs) :: L) :: H) W) : E B (osl T 1 v n (bcs bs) :: ros L :: H) W := by
  subst hn
  intro w ⟨hb, l, ⟨l1, l2, e, h1, h2⟩, hc⟩
  rcases h1 with ⟨hv, h0, hx, hl⟩ | ⟨b, cap, spare, hv, hle, hxl, hsl, hcel⟩
  · subst hl
    have hbs : bs = [] := by simpa [bcs] using hx
    have h2' : stars (ros L :: H) l := by rw [e]; exact h2
    refine h w ⟨hb, l, ?_, hc⟩
    obtain ⟨l3, l4, e', ⟨h3, h4⟩, h5⟩ := h2'
    exact ⟨l3, l4, e', ⟨h3, fun p hp => by
      rcases List.mem_cons.1 hp with rfl | hp
      · exact .inl ⟨hv, hbs⟩
      · exact h4 p hp⟩, h5⟩
  · subst hv
    exact ros_add (o := 0) (cap := cap) (by have : bs.length = bs.length := rfl; simpa using hle) (by simp) h w ⟨hb, l, ⟨l1, l2, e, hcel, h2⟩, hc⟩
end Go.SL
namespace Go.SL
open Go.RowKit
variable {B : World} {H : List Asrt} {K : Value → WT} {P : Program}
def itr (it r since : Nat) (seen : List Nat) (last : Nat) : Asrt := pt true it (.mapIter (some r) since seen.toArray last)
class TakI (H : List Asrt) (it : Nat) (r since : outParam Nat) (seen : outParam (List Nat)) (last : outParam Nat) (H' : outParam (List Asrt)) : Prop where
  pf : Find H (itr it r since seen last) H'
instance (priority := high) takI_here {it r since seen last H} : TakI (itr it r since seen last :: H) it r since seen last H := ⟨.here⟩
instance takI_there {a it r since seen last H H'} [h : TakI H it r since seen last H'] : TakI (a :: H) it r since seen last (a :: H') := ⟨.there h.pf⟩
def unseen (es : List MapEntry) (seen : List Nat) : List MapEntry := es.filter fun e => !seen.contains e.born
theorem E_range {t r cl : Nat} {κ : Bool} {es : List MapEntry} {kt el : TypeId} [hf : HasM H r κ es cl] (hu : P.underlying t = some (.map kt el))
    (h : ∀ it, E B (itr it r cl [] cl :: H) (K (.pointer (some ⟨it, 0, none⟩)))) : E B H (V P (Instr.range t (.map (some r))) K) := by
  refine E_Vok fun w hw => ⟨_, _, ?_, h _ _ (hw.new (.mapIter (some r) cl #[] cl))⟩
  unfold Instr.range
  simp only [run_bind, run_underlying' hu, run_getObj' (sat_hasM (hf := hf) hw) (by simp), run_pure, newObj, Sem.run]
theorem find_itr {w : World} {it r since last : Nat} {seen : List Nat} (h : sat B (itr it r since seen last :: H) w) : w.heap[it]? = some (.mapIter (some r) since seen.toArray last) := sat.get h
theorem run_setIter {w : World} {it : Nat} {r : Option Nat} {a c : Nat} {s : Array Nat} {o : Obj} (h : w.heap[it]? = some (.mapIter r a s c)) : (setObj it o).run P w = .ok () (World.put w it o) := by
  unfold setObj Sem.run; simp only [h]; rfl
theorem left_eq (es : List MapEntry) (seen : List Nat) : (es.toArray.filter fun e => !seen.toArray.contains e.born) = (unseen es seen).toArray := by
  simp [unseen]
theorem E_next {ty it r cl : Nat} {κ : Bool} {es : List MapEntry} {seen : List Nat} {H' : List Asrt} [hi : TakI H it r cl seen cl H'] [hf : HasM H r κ es cl] (hb : ∀ e ∈ es, e.born < cl)
    (h0 : unseen es seen = [] → E B H (K (.tuple #[.bool false])))
    (h1 : ∀ e ∈ unseen es seen, E B (itr it r cl (seen ++ [e.born]) cl :: H') (K (.tuple #[.bool true, e.key, e.val]))) :
    E B H (V P (Instr.next (.pointer (some ⟨it, 0, none⟩)) false ty) K) := by
  refine E_Vok fun w hw => ?_
  have hw' := sat_perm hi.pf.perm hw
  have hit := find_itr hw'
  have hm := sat_hasM (hf := hf) hw
  have hall : (!seen.toArray.isEmpty && !es.toArray.isEmpty && es.toArray.all (fun e => decide (e.born ≥ cl))) = false := by
    cases es with
    | nil => simp
    | cons e es =>
      have := hb e (List.mem_cons_self ..)
      have hne : decide (e.born ≥ cl) = false := by simp; omega
      simp [hne]
  have hold : (unseen es seen).toArray.filter (fun e => decide (e.born < cl)) = (unseen es seen).toArray := by
    apply Array.filter_eq_self.2
    intro e he
    have : e ∈ es := (List.mem_filter.1 (by simpa [unseen] using he : e ∈ es.filter fun e => !seen.contains e.born)).1
    simpa using hb e this
  have hnew : (unseen es seen).toArray.filter (fun e => decide (e.born ≥ cl)) = #[] := by
    apply Array.filter_eq_empty_iff.2
    intro e he
    have : e ∈ es := (List.mem_filter.1 (by simpa [unseen] using he : e ∈ es.filter fun e => !seen.contains e.born)).1
    have := hb e this
    simp; omega
  have start : (Instr.next (.pointer (some ⟨it, 0, none⟩)) false ty).run P w = (do
      let candidates := (if (unseen es seen).toArray.isEmpty then #[none] else #[]) ++ ((unseen es seen).toArray ++ #[]).map some
      match candidates[← choose (.mapNext candidates.size)]? with
      | some (some e) =>
        setObj it (.mapIter (some r) cl (seen.toArray.push e.born) cl)
        pure (.tuple #[.bool true, e.key, e.val])
      | some none => pure (.tuple #[.bool false])
      | none => stuck "Next: no such candidate" : Sem Value).run P w := by
    unfold Instr.next
    simp only [run_bind, run_getObj' hit (by simp), run_getObj' hm (by simp), hall, Bool.false_eq_true, if_false, left_eq, hold, hnew]
    rfl
  rw [start]
  cases hu : unseen es seen with
  | nil =>
    refine ⟨_, w, ?_, h0 hu w hw⟩
    simp [run_bind, choose, Sem.run, Question.forced, run_pure]
  | cons e0 l =>
    have hc : ((if (e0 :: l).toArray.isEmpty then #[none] else #[]) ++ ((e0 :: l).toArray ++ #[]).map some : Array (Option MapEntry)) = ((e0 :: l).map some).toArray := by simp
    simp only [hc]
    have hch : ∃ k w2, (choose (.mapNext ((e0 :: l).map some).toArray.size)).run P w = .ok k w2 ∧ k < (e0 :: l).length ∧ w2.heap = w.heap ∧ w2.os = w.os ∧ w2.tape = w.tape ∧ w2.output = w.output := by
      unfold choose Sem.run
      split
      · exact ⟨0, w, rfl, by simp, rfl, rfl, rfl, rfl⟩
      · refine ⟨_, _, rfl, ?_, rfl, rfl, rfl, rfl⟩
        simp only [Question.cut]
        exact Nat.lt_of_lt_of_le (Nat.mod_lt _ (by simp)) (by simp)
    obtain ⟨k, w2, hk, hlt, e1, e2, e3, e4⟩ := hch
    have hmem : (e0 :: l)[k] ∈ unseen es seen := by rw [hu]; exact List.getElem_mem hlt
    have hs2 : sat B (itr it r cl seen cl :: H') w2 := hw'.same e1 e2 e3 e4
    have hit2 := find_itr hs2
    refine ⟨_, _, ?_, h1 _ hmem _ (sat_pt_put (o' := .mapIter (some r) cl (seen ++ [((e0 :: l)[k]).born]).toArray cl) hs2)⟩
    rw [run_bind, hk]
    have hget : ((e0 :: l).map some).toArray[k]? = some (some (e0 :: l)[k]) := by
      rw [List.getElem?_toArray, List.getElem?_map, List.getElem?_eq_getElem hlt]; rfl
    simp only [hget, run_bind, run_setIter hit2, run_pure]
    simp
theorem find_born : ∀ (es : List MapEntry) (e : MapEntry), (es.map (·.born)).Nodup → e ∈ es → es.find? (fun x => x.born == e.born) = some e
  | [], e, _, h => by cases h
  | x :: es, e, hn, h => by
    simp only [List.map_cons, List.nodup_cons] at hn
    by_cases hx : x.born = e.born
    · rcases List.mem_cons.1 h with rfl | h
      · simp
      · exact absurd (List.mem_map.2 ⟨e, h, hx.symm⟩) hn.1
    · rcases List.mem_cons.1 h with rfl | h
      · exact absurd rfl hx
      · rw [List.find?_cons_of_neg (by simpa using hx)]; exact find_born es e hn.2 h
theorem E_entry {it r cl : Nat} {κ : Bool} {es : List MapEntry} {seen : List Nat} {H' : List Asrt} {e : MapEntry} [hi : TakI H it r cl (seen ++ [e.born]) cl H'] [hf : HasM H r κ es cl] (hn : (es.map (·.born)).Nodup) (he : e ∈ es)
    (h : E B H (K (.tuple #[e.key, e.val]))) : E B H (V P (Instr.entry (.pointer (some ⟨it, 0, none⟩))) K) := by
  refine E_Vok fun w hw => ⟨_, w, ?_, h w hw⟩
  have hit := find_itr (sat_perm hi.pf.perm hw)
  have hm := sat_hasM (hf := hf) hw
  unfold Instr.entry
  simp only [run_bind, run_getObj' hit (by simp)]
  have hb : ((seen ++ [e.born]).toArray).back? = some e.born := by simp
  simp only [hb, run_bind, run_getObj' hm (by simp)]
  have hf : es.toArray.find? (fun x => x.born == e.born) = some e := by simp [find_born es e hn he]
  simp [hf, run_pure]
theorem filter_perm : ∀ (l : List MapEntry) (e : MapEntry), (l.map (·.born)).Nodup → e ∈ l → (e :: l.filter fun x => x.born != e.born).Perm l
  | [], e, _, h => by cases h
  | x :: l, e, hn, h => by
    simp only [List.map_cons, List.nodup_cons] at hn
    rcases List.mem_cons.1 h with rfl | h
    · have : l.filter (fun x => x.born != e.born) = l := by
        apply List.filter_eq_self.2
        intro y hy
        have : y.born ≠ e.born := fun hy' => hn.1 (List.mem_map.2 ⟨y, hy, hy'⟩)
        simpa using this
      simp [this]
    · have hne : x.born ≠ e.born := fun hx => hn.1 (List.mem_map.2 ⟨e, h, hx.symm⟩)
      have : (x :: l).filter (fun x => x.born != e.born) = x :: l.filter (fun x => x.born != e.born) := by simp [hne]
      rw [this]
      exact (List.Perm.swap ..).trans ((filter_perm l e hn.2 h).cons x)
theorem unseen_perm {es : List MapEntry} {seen : List Nat} {e : MapEntry} (hn : (es.map (·.born)).Nodup) (he : e ∈ unseen es seen) : (e :: unseen es (seen ++ [e.born])).Perm (unseen es seen) := by
  have hn' : ((unseen es seen).map (·.born)).Nodup := hn.sublist ((List.filter_sublist).map _)
  have := filter_perm (unseen es seen) e hn' he
  have hu : unseen es (seen ++ [e.born]) = (unseen es seen).filter fun x => x.born != e.born := by
    unfold unseen
    rw [List.filter_filter]
    apply List.filter_congr
    intro x _
    simp only [List.contains_eq_mem, List.mem_append, List.mem_singleton]
    by_cases h1 : x.born ∈ seen <;> by_cases h2 : x.born = e.born <;> simp [h1, h2]
  rw [hu]; exact this
end Go.SL
namespace Go.SL
open Go.RowKit Go.Sort
variable {B : World} {H : List Asrt} {K : Value → WT} {P : Program}
def ints (zs : List Int) : List Value := zs.map (Value.int .i64)
@[simp] theorem ints_length (zs : List Int) : (ints zs).length = zs.length := by simp [ints]
abbrev sortI (zs : List Int) : List Int := zs.mergeSort fun x y => decide (x ≤ y)
theorem sat_grow {w : World} (h : sat B H w) (os : List Obj) : sat B H (grow w os.toArray) := by
  induction os generalizing w with
  | nil => simpa using h
  | cons o os ih =>
    have := ih (w := { w with heap := w.heap.push o }) (h.new o).tail
    have he : grow w (o :: os).toArray = grow { w with heap := w.heap.push o } os.toArray := by
      unfold grow; simp
    rw [he]; exact this
theorem putRow_eq {w : World} {b o : Nat} {T : TypeId} {l : List Value} {fr : Nat × Nat} {zs : List Int} (h : w.heap[b]? = some (.cells l.toArray T fr)) (hl : o + zs.length ≤ l.length) :
    putRow (Value.int .i64) w b o zs.toArray = { w with heap := w.heap.setIfInBounds b (.cells (setAll l o (ints zs)).toArray T fr) } := by
  unfold putRow mapBlock
  congr 1
  apply Array.ext_getElem?
  intro i
  simp only [Array.getElem?_modify, Array.getElem?_setIfInBounds]
  by_cases hi : b = i
  · subst hi
    have hlt : b < w.heap.size := (Array.getElem?_eq_some_iff.1 h).1
    simp only [if_true, h, hlt, Option.map_some, onCells, Option.some.injEq]
    congr 1
    apply Array.ext_getElem?
    intro k
    unfold putCells setAll
    simp only [Array.getElem?_mapIdx, List.getElem?_toArray, List.size_toArray]
    by_cases hk1 : k < o
    · have : ¬ (o ≤ k ∧ k < o + zs.length) := by omega
      simp only [this, if_false]
      rw [List.append_assoc, List.getElem?_append_left (by simp; omega), List.getElem?_take_of_lt hk1]
      cases l[k]? <;> rfl
    · by_cases hk2 : k < o + zs.length
      · have hh : o ≤ k ∧ k < o + zs.length := ⟨by omega, hk2⟩
        have hkl : k < l.length := by omega
        simp only [hh, and_self, if_true]
        rw [List.append_assoc, List.getElem?_append_right (by simp; omega), List.getElem?_append_left (by simp; omega)]
        have e : (l.take o).length = o := by simp; omega
        rw [e]
        have hz : k - o < zs.length := by omega
        simp [ints, hz, hkl]
      · have : ¬ (o ≤ k ∧ k < o + zs.length) := by omega
        simp only [this, if_false]
        have e : (l.take o ++ ints zs).length = o + zs.length := by simp; omega
        rw [List.getElem?_append_right (by omega), e, List.getElem?_drop]
        have : o + (ints zs).length + (k - (o + zs.length)) = k := by simp; omega
        rw [this]
        cases l[k]? <;> rfl
  · simp [hi]
def SortOk (P : Program) (f : FuncId) : Prop := (∀ (blk off cap : Nat) (zs : List Int) (w : World), Holds (Value.int .i64) w blk off zs.toArray → blk < w.heap.size → zs.length < 4611686018427387904 →
    Calls P f #[.slice (some ⟨blk, off, none⟩) zs.length cap] w fun e w' =>
      e = .returned (.tuple #[]) ∧ ∃ n os, w' = grow (putRow (Value.int .i64) (Sort.ahead w n) blk off (zs.mergeSort fun x y => decide (x ≤ y)).toArray) os) ∧
  ∀ (p : Option Addr) (cap : Nat) (w : World), Calls P f #[.slice p 0 cap] w fun e w' => e = .returned (.tuple #[]) ∧ w' = w
theorem E_sortI {f T : Nat} {n : Nat} {v : Value} {zs : List Int} (hS : SortOk P f) (hn : n < 4611686018427387904)
    (h : E B (osl T 1 v n (ints (sortI zs)) :: H) (K (.tuple #[]))) : E B (osl T 1 v n (ints zs) :: H) (CF P f [v] K) := by
  intro w ⟨hB, ch, ⟨c1, c2, hch, hosl, hst⟩, hcc⟩
  rcases hosl with ⟨rfl, rfl, hx, rfl⟩ | ⟨b, cap, spare, rfl, hle, hxl, hsl, hcel⟩
  · have hz : zs = [] := by simpa [ints] using hx
    subst hz
    refine Calls.mono (hS.2 none 0 w) ?_
    rintro e w' ⟨rfl, rfl⟩
    exact h _ ⟨hB, ch, ⟨[], c2, hch, .inl ⟨rfl, rfl, by simp [ints, sortI], rfl⟩, hst⟩, hcc⟩
  · have hsat : sat B (cel true b T (ints zs ++ spare) :: H) w := ⟨hB, ch, ⟨c1, c2, hch, hcel, hst⟩, hcc⟩
    have hzn : zs.length = n := by simpa using hxl
    have hcell := fun o => sat_cell (hf := hasC_here) hsat o
    have hsl' : (sortI zs).length = zs.length := List.length_mergeSort ..
    obtain ⟨fr, hh, hfr, hs2⟩ := cel_own (l' := setAll (ints zs ++ spare) 0 (ints (sortI zs))) hsat (by unfold setAll; simp [hsl'])
    have hlt : b < w.heap.size := (Array.getElem?_eq_some_iff.1 hh).1
    subst hzn
    refine Calls.mono (hS.1 b 0 cap zs w (fun j hj => ?_) hlt hn) ?_
    · have hj' : j < zs.length := by simpa using hj
      refine ⟨?_, ?_⟩
      · rw [hcell]
        rw [List.getElem?_append_left (by simp; omega)]
        simp [ints, hj']
      · unfold World.frozen?
        simp only [hh]
        have := hfr (0 + j) (by simp; omega)
        rw [← Bool.not_eq_true]; simpa using this
    · rintro e w' ⟨rfl, q, os, rfl⟩
      refine h _ ?_
      have hah : (Sort.ahead w q).heap = w.heap := rfl
      rw [putRow_eq (l := ints zs ++ spare) (by rw [hah]; exact hh) (by simp [hsl'])]
      have hs3 : sat B (cel true b T (setAll (ints zs ++ spare) 0 (ints (sortI zs))) :: H) { Sort.ahead w q with heap := (Sort.ahead w q).heap.setIfInBounds b (.cells (setAll (ints zs ++ spare) 0 (ints (sortI zs))).toArray T fr) } :=
        hs2.same rfl rfl rfl rfl
      obtain ⟨hb', ch', ⟨l1, l2, e, h1, h2⟩, hc'⟩ := sat_grow hs3 os.toList
      have hset : setAll (ints zs ++ spare) 0 (ints (sortI zs)) = ints (sortI zs) ++ spare := by
        unfold setAll; simp [hsl']
      rw [hset] at h1
      refine ⟨?_, ch', ⟨l1, l2, e, .inr ⟨b, cap, spare, rfl, hle, by simp [hsl'], hsl, h1⟩, h2⟩, ?_⟩
      · simpa using hb'
      · simpa using hc'
end Go.SL
namespace Go.SL
open Go.RowKit
variable {B : World} {H : List Asrt} {K : Value → WT} {P : Program}
def rdB (w : World) (v : Value) (bs : List UInt8) : Prop := (v = .slice none 0 0 ∧ bs = []) ∨
  ∃ (a : Addr) (cap : Nat), v = .slice (some a) bs.length cap ∧ bs.length ≤ cap ∧ ∀ j, j < bs.length → w.cell? (a.add j) = (bcs bs)[j]?
class InL (L : List (Value × List UInt8)) (v : Value) (bs : outParam (List UInt8)) : Prop where
  pf : (v, bs) ∈ L
instance (priority := high) inL_here {v bs L} : InL ((v, bs) :: L) v bs := ⟨by simp⟩
instance inL_there {p v bs L} [h : InL L v bs] : InL (p :: L) v bs := ⟨List.mem_cons_of_mem _ h.pf⟩
class BaseR (B : World) (v : Value) (bs : outParam (List UInt8)) : Prop where
  pf : rdB B v bs
class Rb (B : World) (H : List Asrt) (v : Value) (bs : outParam (List UInt8)) : Prop where
  pf : ∀ {w}, sat B H w → rdB w v bs
instance rb_there {B a H v bs} [h : Rb B H v bs] : Rb B (a :: H) v bs := ⟨fun hw => h.pf hw.tail⟩
theorem cell_base {w : World} {a : Addr} {v : Value} (h : sat B H w) (hc : B.cell? a = some v) : w.cell? a = some v := by
  unfold World.cell? at *
  have hlt : a.block < B.heap.size := by
    rcases Nat.lt_or_ge a.block B.heap.size with h' | h'
    · exact h'
    · simp [Array.getElem?_eq_none h'] at hc
  rw [h.1.block a.block hlt]; exact hc
instance (priority := low) rb_base {B H v bs} [h : BaseR B v bs] : Rb B H v bs := ⟨fun {w} hw => by
  rcases h.pf with h | ⟨a, cap, hv, hle, hc⟩
  · exact .inl h
  · refine .inr ⟨a, cap, hv, hle, fun j hj => ?_⟩
    have hj' : (bcs bs)[j]? = some ((bcs bs)[j]'(by simpa using hj)) := List.getElem?_eq_getElem _
    rw [hj']
    exact cell_base hw ((hc j hj).trans hj')⟩
theorem sat_osl {w : World} {sz : Nat} {T : TypeId} {v : Value} {n : Nat} {xs : List Value} (h : sat B (osl T sz v n xs :: H) w) : (v = .slice none 0 0 ∧ n = 0 ∧ xs = []) ∨
    ∃ b cap, v = .slice (some ⟨b, 0, none⟩) n cap ∧ n ≤ cap ∧ xs.length = n * sz ∧ ∀ j, j < xs.length → w.cell? ⟨b, 0 + j, none⟩ = xs[j]? := by
  obtain ⟨hB, ch, ⟨c1, c2, hch, hosl, hst⟩, hcc⟩ := h
  rcases hosl with ⟨rfl, rfl, rfl, rfl⟩ | ⟨b, cap, spare, rfl, hle, hxl, hsl, hcel⟩
  · exact .inl ⟨rfl, rfl, rfl⟩
  · refine .inr ⟨b, cap, rfl, hle, hxl, fun j hj => ?_⟩
    have hsat : sat B (cel true b T (xs ++ spare) :: H) w := ⟨hB, ch, ⟨c1, c2, hch, hcel, hst⟩, hcc⟩
    rw [sat_cell (hf := hasC_here) hsat, Nat.zero_add, List.getElem?_append_left hj]
instance (priority := high) rb_osl {T : TypeId} {v : Value} {n : Nat} {bs : List UInt8} {H : List Asrt} : Rb B (osl T 1 v n (bcs bs) :: H) v bs := ⟨fun hw => by
  rcases sat_osl hw with ⟨rfl, rfl, h⟩ | ⟨b, cap, rfl, hle, hl, hc⟩
  · exact .inl ⟨rfl, by simpa [bcs] using h⟩
  · have hn : bs.length = n := by simpa using hl
    subst hn
    exact .inr ⟨⟨b, 0, none⟩, cap, rfl, hle, fun j hj => by rw [add_at]; exact hc j (by simpa using hj)⟩⟩
instance rb_ros {L : List (Value × List UInt8)} {v : Value} {bs : List UInt8} {H : List Asrt} [hm : InL L v bs]   : Rb B (ros L :: H) v bs := ⟨fun hw => by
  rcases sat_ros (hf := hasR_here) hw hm.pf with h | ⟨b, o, cap, hv, hle, hc⟩
  · exact .inl h
  · exact .inr ⟨⟨b, o, none⟩, cap, hv, hle, fun j hj => by rw [add_at]; exact hc j hj⟩⟩
theorem E_rb {v : Value} {bs : List UInt8} {W : WT} [hf : Rb B H v bs] (h0 : v = .slice none 0 0 → bs = [] → E B H W)
    (h1 : ∀ (a : Addr) (cap : Nat), v = .slice (some a) bs.length cap → bs.length ≤ cap → E B H W) : E B H W := fun w hw => by
  rcases hf.pf hw with ⟨h, h'⟩ | ⟨a, cap, h, hle, _⟩
  · exact h0 h h' w hw
  · exact h1 a cap h hle w hw
theorem rd_rb {v : Value} {bs : List UInt8} {tx e' : TypeId} [hf : Rb B H v bs] (hk : P.underlying tx = some (.slice e')) : Rd P B H tx v 1 bs.length (bcs bs) := fun w hw => by
  rcases hf.pf hw with ⟨rfl, rfl⟩ | ⟨a, cap, rfl, _, hc⟩
  · exact Go.Src.ofNil w hk 0
  · exact Go.Src.ofSlice w hk _ _ _ _ (by simp) (fun j u hj => by
      have hlt : j < bs.length := by have := (List.getElem?_eq_some_iff.1 hj).1; simpa using this
      rw [hc j hlt]; exact hj) (fun u hu => by have := bcs_cell bs u hu; cases u <;> first | rfl | cases this)
theorem cells_rb {w : World} {a : Addr} {bs : List UInt8} (hc : ∀ j, j < bs.length → w.cell? (a.add j) = (bcs bs)[j]?) : ∀ (n i : Nat), i + n = bs.length → cellsFrom w a i n = some ((bcs bs).drop i)
  | 0, i, h => by simp only [cellsFrom]; rw [List.drop_eq_nil_of_le (by simp; omega)]
  | n + 1, i, h => by
    simp only [cellsFrom]
    have hlt : i < (bcs bs).length := by simp; omega
    rw [hc i (by omega), List.getElem?_eq_getElem hlt]
    simp only
    rw [cells_rb hc n (i + 1) (by omega)]
    simp
theorem E_b2sR {v : Value} {bs : List UInt8} [hf : Rb B H v bs] (h : E B H (K (.string ⟨bs.toArray⟩))) : E B H (S.b2s v K) := fun w hw => by
  rcases hf.pf hw with ⟨rfl, rfl⟩ | ⟨a, cap, rfl, _, hc⟩
  · exact h w hw
  · unfold S.b2s
    have := cells_rb hc bs.length 0 (by omega)
    simp only [this, List.drop_zero, bytesOf_bcs]
    simpa using h w hw
def rdX (w : World) (v : Value) (n : Nat) (xs : List Value) : Prop := (v = .slice none 0 0 ∧ n = 0 ∧ xs = []) ∨
  ∃ (a : Addr) (cap : Nat), v = .slice (some a) n cap ∧ n ≤ cap ∧ ∀ j, j < xs.length → w.cell? (a.add j) = xs[j]?
class BaseX (B : World) (v : Value) (n : outParam Nat) (xs : outParam (List Value)) : Prop where
  pf : rdX B v n xs
class Rx (B : World) (H : List Asrt) (v : Value) (n : outParam Nat) (xs : outParam (List Value)) : Prop where
  pf : ∀ {w}, sat B H w → rdX w v n xs
instance rx_there {B a H v n xs} [h : Rx B H v n xs] : Rx B (a :: H) v n xs := ⟨fun hw => h.pf hw.tail⟩
instance (priority := high) rx_osl {T sz : Nat} {v : Value} {n : Nat} {xs : List Value} {H : List Asrt} : Rx B (osl T sz v n xs :: H) v n xs := ⟨fun hw => by
  rcases sat_osl hw with ⟨rfl, rfl, rfl⟩ | ⟨b, cap, rfl, hle, hl, hc⟩
  · exact .inl ⟨rfl, rfl, rfl⟩
  · exact .inr ⟨⟨b, 0, none⟩, cap, rfl, hle, fun j hj => by rw [add_at]; exact hc j hj⟩⟩
instance (priority := low) rx_base {B H v n xs} [h : BaseX B v n xs] : Rx B H v n xs := ⟨fun {w} hw => by
  rcases h.pf with h | ⟨a, cap, hv, hle, hc⟩
  · exact .inl h
  · refine .inr ⟨a, cap, hv, hle, fun j hj => ?_⟩
    have hj' : xs[j]? = some xs[j] := by simp
    rw [hj']
    exact cell_base hw ((hc j hj).trans hj')⟩
theorem E_oslo {T sz n : Nat} {v : Value} {xs : List Value} {W : WT} (hn : 1 ≤ n) (h : ∀ b cap spare, v = .slice (some ⟨b, 0, none⟩) n cap → n ≤ cap → xs.length = n * sz → spare.length = (cap - n) * sz → E B (cel true b T (xs ++ spare) :: H) W) :
    E B (osl T sz v n xs :: H) W := fun w hw => by
  obtain ⟨hB, ch, ⟨c1, c2, hch, hosl, hst⟩, hcc⟩ := hw
  rcases hosl with ⟨rfl, rfl, rfl, rfl⟩ | ⟨b, cap, spare, rfl, hle, hxl, hsl, hcel⟩
  · omega
  · exact h b cap spare rfl hle hxl hsl w ⟨hB, ch, ⟨c1, c2, hch, hcel, hst⟩, hcc⟩
theorem E_oslc2 {T sz n : Nat} {v : Value} {xs : List Value} {W : WT} (h0 : v = .slice none 0 0 → n = 0 → xs = [] → E B H W) (h : ∀ b cap spare, v = .slice (some ⟨b, 0, none⟩) n cap → n ≤ cap → xs.length = n * sz → spare.length = (cap - n) * sz → E B (cel true b T (xs ++ spare) :: H) W) :
    E B (osl T sz v n xs :: H) W := fun w hw => by
  obtain ⟨hB, ch, ⟨c1, c2, hch, hosl, hst⟩, hcc⟩ := hw
  rcases hosl with ⟨rfl, rfl, rfl, rfl⟩ | ⟨b, cap, spare, rfl, hle, hxl, hsl, hcel⟩
  · exact h0 rfl rfl rfl w ⟨hB, c2, hst, by simpa [hch] using hcc⟩
  · exact h b cap spare rfl hle hxl hsl w ⟨hB, ch, ⟨c1, c2, hch, hcel, hst⟩, hcc⟩
theorem E_osls {T sz n b cap : Nat} {xs spare : List Value} {W : WT} (hle : n ≤ cap) (hxl : xs.length = n * sz) (hsl : spare.length = (cap - n) * sz) (h : E B (osl T sz (.slice (some ⟨b, 0, none⟩) n cap) n xs :: H) W) :
    E B (cel true b T (xs ++ spare) :: H) W := E_imp (fun l hl => .inr ⟨b, cap, spare, rfl, hle, hxl, hsl, hl⟩) h
theorem E_slc {sz n cap b o : Nat} {lo hi mx : Option Value} {l hh m : Nat} (h1 : S.bound mx cap = some m) (h2 : S.bound hi n = some hh) (h3 : S.bound lo 0 = some l) (h4 : l ≤ hh) (h5 : hh ≤ m) (h6 : m ≤ cap) (h7 : mx.isSome = true → hi.isSome = true)
    (h : E B H (K (.slice (if m = l then some ⟨b, o, none⟩ else some ⟨b, o + l * sz, none⟩) (hh - l) (m - l)))) : E B H (S.slc sz (.slice (some ⟨b, o, none⟩) n cap) lo hi mx K) := by
  intro w hw
  refine ⟨l, hh, m, h1, h2, h3, h4, h5, h6, h7, ?_⟩
  have := h w hw
  split at this
  · rename_i e; rw [if_pos e]; exact this
  · rename_i e; rw [if_neg e]; simpa [add_at] using this
theorem E_rb_len {v : Value} {bs : List UInt8} [hf : Rb B H v bs] (h : E B H (K (.int .i64 bs.length))) : E B H (S.len v K) :=
  E_rb (hf := hf) (fun hv hb => by subst hv hb; exact E_len h) (fun a cap hv _ => by subst hv; exact E_len h)
theorem E_gff {body : (Value → WT) → WT} {rest : Value → WT} (hf : E B H (rest undef)) : E B H (S.gd (.bool false) true body rest) := hf
theorem E_gtt {body : (Value → WT) → WT} {rest : Value → WT} (hf : E B H (rest undef)) : E B H (S.gd (.bool true) false body rest) := hf
theorem E_gft {body : (Value → WT) → WT} {rest : Value → WT} (hf : E B H (body rest)) : E B H (S.gd (.bool false) false body rest) := hf
theorem E_gtf {body : (Value → WT) → WT} {rest : Value → WT} (hf : E B H (body rest)) : E B H (S.gd (.bool true) true body rest) := hf
theorem E_pff {a b : Value} (h : E B H (K b)) : E B H (S.pick (.bool false) a b K) := h
theorem E_ptt {a b : Value} (h : E B H (K a)) : E B H (S.pick (.bool true) a b K) := h
end Go.SL
namespace Go.SL
open Go.RowKit
variable {B : World} {H : List Asrt} {K : Value → WT} {P : Program}
class KEnc {κ : Type} [DecidableEq κ] (kd : outParam TypeDesc) (enc : κ → Value) : Prop where
  same : ∀ a b, Instr.sameNow kd (enc a) (enc b) = some (decide (a = b))
  bits : ∀ a, Instr.sameBits 10000 (enc a) (enc a) = true
  inj : ∀ a b, enc a = enc b → a = b
abbrev kI : Int → Value := Value.int .i64
instance : KEnc (.int .i64) kI := ⟨fun a b => by simp [kI, Instr.sameNow, BEq.beq], fun a => by simp [kI, Instr.sameBits], fun a b h => by simpa [kI] using h⟩
section
variable {κ : Type} [DecidableEq κ]
def eKV (enc : κ → Value) (p : κ × Value) : Value × Value := (enc p.1, p.2)
structure DOk (enc : κ → Value) (es : List MapEntry) (cl : Nat) (kv : List (κ × Value)) : Prop where
  kvs : es.map (fun e => (e.key, e.val)) = kv.map (eKV enc)
  nod : (kv.map (·.1)).Nodup
  born : (es.map (·.born)).Nodup
  lt : ∀ e ∈ es, e.born < cl
def dct (enc : κ → Value) (o : Bool) (r : Nat) (kv : List (κ × Value)) : Asrt := ex fun es => ex fun cl => all [mpb o r es cl, pur (DOk enc es cl kv)]
def dput (kv : List (κ × Value)) (k : κ) (v : Value) : List (κ × Value) := if (kv.lookup k).isSome then kv.map (fun p => if p.1 = k then (k, v) else p) else kv ++ [(k, v)]
def ddel (kv : List (κ × Value)) (k : κ) : List (κ × Value) := kv.filter fun p => decide (p.1 ≠ k)
theorem map_eraseIdx' {α β : Type} (f : α → β) : ∀ (l : List α) (n : Nat), (l.eraseIdx n).map f = (l.map f).eraseIdx n
  | [], n => by simp
  | a :: l, 0 => by simp
  | a :: l, n + 1 => by simp [map_eraseIdx' f l n]
theorem not_isSome {α : Type} {o : Option α} (h : ¬ o.isSome = true) : o = none := by cases o <;> simp_all
theorem lookup_mem {kv : List (κ × Value)} {k : κ} {v : Value} (h : kv.lookup k = some v) : (k, v) ∈ kv := by
  induction kv with
  | nil => simp at h
  | cons p kv ih =>
    obtain ⟨a, b⟩ := p
    rw [List.lookup_cons] at h
    by_cases hk : k = a
    · subst hk; simp at h; subst h; simp
    · have : (k == a) = false := by simpa using hk
      rw [this] at h; exact List.mem_cons_of_mem _ (ih h)
theorem lookup_none {kv : List (κ × Value)} {k : κ} : kv.lookup k = none ↔ k ∉ kv.map (·.1) := by
  induction kv with
  | nil => simp
  | cons p kv ih =>
    obtain ⟨a, b⟩ := p
    rw [List.lookup_cons]
    by_cases hk : k = a
    · subst hk; simp
    · have : (k == a) = false := by simpa using hk
      rw [this, ih]; simp [hk]
theorem dput_keys {kv : List (κ × Value)} {k : κ} {v : Value} : (dput kv k v).map (·.1) = if (kv.lookup k).isSome then kv.map (·.1) else kv.map (·.1) ++ [k] := by
  unfold dput
  split
  · rw [List.map_map]; apply List.map_congr_left; intro p _; simp only [Function.comp]; split <;> simp_all
  · simp
theorem dput_nodup {kv : List (κ × Value)} {k : κ} {v : Value} (hn : (kv.map (·.1)).Nodup) : ((dput kv k v).map (·.1)).Nodup := by
  rw [dput_keys]
  split
  · exact hn
  · rename_i h
    have h0 : kv.lookup k = none := not_isSome h
    rw [lookup_none] at h0
    rw [List.nodup_append]
    exact ⟨hn, by simp, fun a ha b hb => by simp at hb; subst hb; exact fun e => h0 (e ▸ ha)⟩
theorem ddel_nodup {kv : List (κ × Value)} {k : κ} (hn : (kv.map (·.1)).Nodup) : ((ddel kv k).map (·.1)).Nodup := hn.sublist ((List.filter_sublist).map _)
theorem lookup_dput {kv : List (κ × Value)} {k k' : κ} {v : Value} : (dput kv k v).lookup k' = if k' = k then some v else kv.lookup k' := by
  unfold dput
  split
  · rename_i h
    induction kv with
    | nil => simp at h
    | cons p kv ih =>
      obtain ⟨a, b⟩ := p
      rw [List.map_cons]
      by_cases ha : a = k
      · subst ha
        simp only [if_true, List.lookup_cons]
        by_cases hk : k' = a
        · subst hk; simp
        · have : (k' == a) = false := by simpa using hk
          rw [this, if_neg hk]
          clear ih h
          show List.lookup k' (List.map (fun p => if p.fst = a then (a, v) else p) kv) = List.lookup k' kv
          induction kv with
          | nil => simp
          | cons q kv ih =>
            obtain ⟨c, d⟩ := q
            rw [List.map_cons]
            by_cases hc : c = a
            · subst hc; simp only [if_true, List.lookup_cons, this]; exact ih
            · simp only [if_neg hc, List.lookup_cons]
              rw [ih]
      · simp only [if_neg ha, List.lookup_cons]
        have : (k == a) = false := by simpa using (Ne.symm ha)
        rw [List.lookup_cons, this] at h
        rw [ih h]
        by_cases hk : k' = k
        · subst hk; simp [this]
        · simp [hk]
  · rename_i h
    have h0 : kv.lookup k = none := not_isSome h
    rw [List.lookup_append]
    by_cases hk : k' = k
    · subst hk; simp [h0]
    · have : (k' == k) = false := by simpa using hk
      simp [hk, List.lookup_cons, this]
theorem lookup_ddel {kv : List (κ × Value)} {k k' : κ} : (ddel kv k).lookup k' = if k' = k then none else kv.lookup k' := by
  induction kv with
  | nil => simp [ddel]
  | cons p kv ih =>
    obtain ⟨a, b⟩ := p
    unfold ddel at *
    by_cases ha : a = k
    · subst ha
      simp only [ne_eq, not_true_eq_false, decide_false, List.filter_cons, Bool.false_eq_true, if_false] at *
      rw [ih]
      by_cases hk : k' = a
      · simp [hk]
      · have : (k' == a) = false := by simpa using hk
        simp [hk, List.lookup_cons, this]
    · have : decide (a ≠ k) = true := by simpa using ha
      rw [List.filter_cons, if_pos this, List.lookup_cons, List.lookup_cons, ih]
      by_cases hk : k' = a
      · subst hk; simp [ha]
      · have : (k' == a) = false := by simpa using hk
        rw [this]
variable {kd : TypeDesc} {enc : κ → Value}
theorem findNow_d [hE : KEnc kd enc] (k : κ) : ∀ (es : List MapEntry) (kv : List (κ × Value)) (i : Nat), es.map (fun e => (e.key, e.val)) = kv.map (eKV enc) →
    (kv.lookup k = none → Instr.findNow kd (enc k) es i = some none) ∧
    (∀ v, kv.lookup k = some v → ∃ n, Instr.findNow kd (enc k) es i = some (some (i + n, v)) ∧ ∃ s t, kv = s ++ (k, v) :: t ∧ s.length = n ∧ k ∉ s.map (·.1))
  | [], kv, i, h => by
    have : kv = [] := by simpa using h.symm
    subst this
    exact ⟨fun _ => rfl, fun v hv => by simp at hv⟩
  | e :: es, [], i, h => by simp at h
  | e :: es, (a, b) :: kv, i, h => by
    simp only [List.map_cons, List.cons.injEq, eKV, Prod.mk.injEq] at h
    obtain ⟨⟨h1, h2⟩, h3⟩ := h
    obtain ⟨ih1, ih2⟩ := findNow_d k es kv (i + 1) h3
    have hs : Instr.sameNow kd (enc k) e.key = some (decide (k = a)) := by rw [h1]; exact hE.same k a
    by_cases hk : k = a
    · subst hk
      simp only [decide_true] at hs
      refine ⟨fun hn => by simp at hn, fun v hv => ⟨0, ?_, [], kv, ?_, rfl, by simp⟩⟩
      · simp only [Instr.findNow, hs]
        simp at hv; subst hv; simp [h2]
      · simp at hv; subst hv; rfl
    · have : (k == a) = false := by simpa using hk
      simp only [hk, decide_false] at hs
      refine ⟨fun hn => ?_, fun v hv => ?_⟩
      · rw [List.lookup_cons, this] at hn
        simp only [Instr.findNow, hs]; exact ih1 hn
      · rw [List.lookup_cons, this] at hv
        obtain ⟨n, hn, s, t, hst, hsl, hns⟩ := ih2 v hv
        refine ⟨n + 1, ?_, (a, b) :: s, t, by rw [hst]; rfl, by simp [hsl], by simpa [hk] using hns⟩
        simp only [Instr.findNow, hs, hn]
        congr 3; omega
class TakD (H : List Asrt) (enc : outParam (κ → Value)) (o : outParam Bool) (r : Nat) (kv : outParam (List (κ × Value))) (H' : outParam (List Asrt)) : Prop where
  pf : Find H (dct enc o r kv) H'
instance (priority := high) takD_here {enc : κ → Value} {o r kv H} : TakD (dct enc o r kv :: H) enc o r kv H := ⟨.here⟩
instance takD_there {enc : κ → Value} {a o r kv H H'} [h : TakD H enc o r kv H'] : TakD (a :: H) enc o r kv (a :: H') := ⟨.there h.pf⟩
theorem E_dopen {o : Bool} {r : Nat} {kv : List (κ × Value)} {W : WT} (h : ∀ es cl, DOk enc es cl kv → E B (mpb o r es cl :: H) W) : E B (dct enc o r kv :: H) W :=
  E_ex fun es => E_ex fun cl => E_all (E_perm (List.Perm.swap ..) (E_pur fun hd => h es cl hd))
theorem E_dshut {o : Bool} {r : Nat} {kv : List (κ × Value)} {W : WT} {es : List MapEntry} {cl : Nat} (hd : DOk enc es cl kv) (h : E B (dct enc o r kv :: H) W) : E B (mpb o r es cl :: H) W := by
  have : E B (all [mpb o r es cl, pur (DOk enc es cl kv)] :: H) W := E_ex' (f := fun cl => all [mpb o r es cl, pur (DOk enc es cl kv)]) cl (E_ex' (f := fun es => ex fun cl => all [mpb o r es cl, pur (DOk enc es cl kv)]) es h)
  have := E_all' this
  exact E_pur' hd (E_perm (List.Perm.swap ..) this)
theorem E_dnew [hE : KEnc kd enc] {r : Nat} {W : WT} (h : E B (dct enc true r [] :: H) W) : E B (mpb true r [] 0 :: H) W := E_dshut ⟨rfl, by simp, by simp, by simp⟩ h
theorem E_dlk1 [hE : KEnc kd enc] {z v : Value} {ok o : Bool} {r : Nat} {k : κ} {kv : List (κ × Value)} {H' : List Asrt} [ht : TakD H enc o r kv H'] (hv : kv.lookup k = some v)
    (h : E B (dct enc o r kv :: H') (K (match ok with | true => .tuple #[v, .bool true] | false => v))) : E B H (S.lk kd z ok (.map (some r)) (enc k) K) := by
  refine E_find ht.pf (E_dopen fun es cl hd => ?_)
  obtain ⟨n, hn, _⟩ := (findNow_d (enc := enc) k es kv 0 hd.kvs).2 v hv
  exact E_lk1 (hf := hasM_here) hn (E_dshut hd h)
theorem E_dlk0 [hE : KEnc kd enc] {z : Value} {ok o : Bool} {r : Nat} {k : κ} {kv : List (κ × Value)} {H' : List Asrt} [ht : TakD H enc o r kv H'] (hv : kv.lookup k = none)
    (h : E B (dct enc o r kv :: H') (K (match ok with | true => .tuple #[z, .bool false] | false => z))) : E B H (S.lk kd z ok (.map (some r)) (enc k) K) := by
  refine E_find ht.pf (E_dopen fun es cl hd => ?_)
  exact E_lk0 (hf := hasM_here) ((findNow_d (enc := enc) k es kv 0 hd.kvs).1 hv) (E_dshut hd h)
theorem dok_put [hE : KEnc kd enc] {es : List MapEntry} {cl : Nat} {kv : List (κ × Value)} {k : κ} {v u : Value} {n : Nat} (hd : DOk enc es cl kv) (hv : kv.lookup k = some u) {s t : List (κ × Value)} (hst : kv = s ++ (k, u) :: t) (hsl : s.length = n) (hns : k ∉ s.map (·.1)) :
    DOk enc (es.modify n fun e => { e with key := enc k, val := v }) cl (dput kv k v) := by
  have hput : dput kv k v = s ++ (k, v) :: t := by
    have hn := hd.nod
    unfold dput
    rw [hv]
    simp only [Option.isSome_some, if_true]
    rw [hst] at hn ⊢
    simp only [List.map_append, List.map_cons, List.nodup_append, List.nodup_cons] at hn
    have e1 : ∀ l : List (κ × Value), k ∉ l.map (·.1) → l.map (fun p => if p.1 = k then (k, v) else p) = l := fun l hl => by
      have : l.map (fun p => if p.1 = k then (k, v) else p) = l.map id := List.map_congr_left fun p hp => by
        have : p.1 ≠ k := fun e => hl (e ▸ List.mem_map.2 ⟨p, hp, rfl⟩)
        simp [this]
      simpa using this
    simp only [List.map_append, List.map_cons, if_true]
    rw [e1 s hns, e1 t hn.2.1.1]
  have hb : (es.modify n fun e => { e with key := enc k, val := v }).map (·.born) = es.map (·.born) := by
    apply List.ext_getElem?
    intro i
    simp only [List.getElem?_modify, List.getElem?_map]
    cases es[i]? with
    | none => rfl
    | some e => simp only [Option.map_some]; split <;> rfl
  refine ⟨?_, dput_nodup hd.nod, hb ▸ hd.born, fun e he => ?_⟩
  · rw [hput]
    apply List.ext_getElem?
    intro i
    have hk := congrArg (fun l => l[i]?) hd.kvs
    simp only [List.getElem?_map, hst] at hk
    simp only [List.getElem?_modify, List.getElem?_map]
    by_cases hi : n = i
    · subst hi hsl
      simp only [List.getElem?_append_right (Nat.le_refl _), Nat.sub_self, List.getElem?_cons_zero, Option.map_some] at hk ⊢
      cases he : es[s.length]? with
      | none => rw [he] at hk; simp at hk
      | some e => simp [eKV]
    · simp only [if_neg hi]
      have : (s ++ (k, v) :: t)[i]? = (s ++ (k, u) :: t)[i]? := by
        rcases Nat.lt_or_ge i s.length with h | h
        · rw [List.getElem?_append_left h, List.getElem?_append_left h]
        · rw [List.getElem?_append_right h, List.getElem?_append_right h]
          have : i - s.length = (i - s.length - 1) + 1 := by omega
          rw [this]; simp
      rw [this, ← hk]
      cases es[i]? <;> rfl
  · obtain ⟨i, hi, rfl⟩ := List.mem_iff_getElem.1 he
    have h1 := congrArg (fun l => l[i]?) hb
    simp only [List.getElem?_map, List.getElem?_eq_getElem hi] at h1
    cases he' : es[i]? with
    | none => rw [he'] at h1; simp at h1
    | some e' =>
      rw [he'] at h1
      simp only [Option.map_some, Option.some.injEq] at h1
      rw [h1]; exact hd.lt e' (List.mem_of_getElem? he')
theorem E_dmu [hE : KEnc kd enc] {t kt el r : Nat} {k : κ} {v : Value} {kv : List (κ × Value)} {H' : List Asrt} [ht : TakD H enc true r kv H'] (hK : Key P t kt el kd)
    (h : E B (dct enc true r (dput kv k v) :: H') (K undef)) : E B H (U P (Instr.mapUpdate t (.map (some r)) (enc k) v) K) := by
  refine E_find ht.pf (E_dopen fun es cl hd => ?_)
  cases hl : kv.lookup k with
  | none =>
    refine E_mu0 (hf := takM_here) hK ((findNow_d (enc := enc) k es kv 0 hd.kvs).1 hl) (E_dshut ⟨?_, dput_nodup hd.nod, ?_, ?_⟩ h)
    · unfold dput; simp [hl, hd.kvs, eKV]
    · rw [List.map_append, List.nodup_append]
      refine ⟨hd.born, by simp, fun a ha b hb => ?_⟩
      obtain ⟨e, he, rfl⟩ := List.mem_map.1 ha
      simp at hb; subst hb
      have := hd.lt e he; omega
    · intro e he
      rcases List.mem_append.1 he with he | he
      · have := hd.lt e he; omega
      · simp at he; subst he; simp
  | some u =>
    obtain ⟨n, hn, s, tl, hst, hsl, hns⟩ := (findNow_d (enc := enc) k es kv 0 hd.kvs).2 u hl
    rw [Nat.zero_add] at hn
    exact E_mu1 (hf := takM_here) hK (hE.bits k) hn (E_dshut (dok_put hd hl hst hsl hns) h)
theorem E_ddel [hE : KEnc kd enc] {ts : Array TypeId} {ty t kt el r : Nat} {k : κ} {kv : List (κ × Value)} {H' : List Asrt} [ht : TakD H enc true r kv H'] (h0 : ts[0]? = some t) (hK : Key P t kt el kd)
    (h : E B (dct enc true r (ddel kv k) :: H') (K (.tuple #[]))) : E B H (V P (Builtin.delete_ ts ty #[.map (some r), enc k]) K) := by
  refine E_find ht.pf (E_dopen fun es cl hd => ?_)
  cases hl : kv.lookup k with
  | none =>
    have : ddel kv k = kv := by
      unfold ddel
      apply List.filter_eq_self.2
      intro p hp
      have := lookup_none.1 hl
      have : p.1 ≠ k := fun e => this (e ▸ List.mem_map.2 ⟨p, hp, rfl⟩)
      simpa using this
    rw [this] at h
    exact E_del0 (hf := takM_here) h0 hK ((findNow_d (enc := enc) k es kv 0 hd.kvs).1 hl) (E_dshut hd h)
  | some u =>
    obtain ⟨n, hn, s, tl, hst, hsl, hns⟩ := (findNow_d (enc := enc) k es kv 0 hd.kvs).2 u hl
    rw [Nat.zero_add] at hn
    refine E_del1 (hf := takM_here) h0 hK hn (E_dshut ⟨?_, ddel_nodup hd.nod, hd.born.sublist ((List.eraseIdx_sublist ..).map _), fun e he => hd.lt e ((List.eraseIdx_sublist ..).subset he)⟩ h)
    have hn := hd.nod
    have hkv := hd.kvs
    have : ddel kv k = s ++ tl := by
      unfold ddel
      rw [hst] at hn ⊢
      simp only [List.map_append, List.map_cons, List.nodup_append, List.nodup_cons] at hn
      have e1 : ∀ l : List (κ × Value), k ∉ l.map (·.1) → l.filter (fun p => decide (p.1 ≠ k)) = l := fun l hl => List.filter_eq_self.2 fun p hp => by
        have : p.1 ≠ k := fun e => hl (e ▸ List.mem_map.2 ⟨p, hp, rfl⟩)
        simpa using this
      rw [List.filter_append, List.filter_cons, if_neg (by simp), e1 s hns, e1 tl hn.2.1.1]
    rw [this, map_eraseIdx', hkv, hst, ← hsl]
    simp [List.eraseIdx_append_of_length_le]
end
end Go.SL
namespace Go.SL
open Go.RowKit
inductive Same : List Asrt → List Asrt → Prop
  | refl {H : List Asrt} : Same H H
  | cons {a : Asrt} {G H H' : List Asrt} : Find H a H' → Same G H' → Same (a :: G) H
  | drop {a : Asrt} {G H : List Asrt} : Same G H → Same G (a :: H)
theorem Same.ent {B : World} {G H : List Asrt} {W : WT} (h : Same G H) : ∀ C, E B (C ++ G) W → E B (C ++ H) W := by
  induction h with
  | refl => exact fun _ h => h
  | @cons a G H H' f _ ih => exact fun C hC => E_perm ((f.perm.append_left C).trans (by simp)) (ih (C ++ [a]) (by simpa using hC))
  | drop _ ih => exact fun C hC => E_perm List.perm_middle (E_drop (ih C hC))
theorem E_same {B : World} {G H : List Asrt} {W : WT} (s : Same G H) (h : E B G W) : E B H W := s.ent [] h
variable {B : World} {H : List Asrt} {K : Value → WT} {P : Program}
section
variable {κ : Type} [DecidableEq κ]
structure DIt (enc : κ → Value) (es : List MapEntry) (cl : Nat) (seen : List Nat) (kv rest : List (κ × Value)) (cur : Option (κ × Value)) : Prop where
  ok : DOk enc es cl kv
  left : ((unseen es seen).map fun e => (e.key, e.val)).Perm (rest.map (eKV enc))
  now : ∀ p, cur = some p → ∃ e s, seen = s ++ [e.born] ∧ e ∈ es ∧ e.key = enc p.1 ∧ e.val = p.2
def dit (enc : κ → Value) (o : Bool) (it r : Nat) (kv rest : List (κ × Value)) (cur : Option (κ × Value)) : Asrt :=
  ex fun (x : List MapEntry × Nat × List Nat) => all [itr it r x.2.1 x.2.2 x.2.1, mpb o r x.1 x.2.1, pur (DIt enc x.1 x.2.1 x.2.2 kv rest cur)]
variable {kd : TypeDesc} {enc : κ → Value}
theorem E_iopen {o : Bool} {it r : Nat} {kv rest : List (κ × Value)} {cur : Option (κ × Value)} {W : WT} (h : ∀ es cl seen, DIt enc es cl seen kv rest cur → E B (itr it r cl seen cl :: mpb o r es cl :: H) W) :
    E B (dit enc o it r kv rest cur :: H) W := E_ex fun x => E_all (E_perm (H' := pur (DIt enc x.1 x.2.1 x.2.2 kv rest cur) :: itr it r x.2.1 x.2.2 x.2.1 :: mpb o r x.1 x.2.1 :: H)
      (List.perm_middle (l₁ := [itr it r x.2.1 x.2.2 x.2.1, mpb o r x.1 x.2.1])) (E_pur fun hd => h x.1 x.2.1 x.2.2 hd))
theorem E_ishut {o : Bool} {it r : Nat} {kv rest : List (κ × Value)} {cur : Option (κ × Value)} {W : WT} {es : List MapEntry} {cl : Nat} {seen : List Nat} (hd : DIt enc es cl seen kv rest cur)
    (h : E B (dit enc o it r kv rest cur :: H) W) : E B (itr it r cl seen cl :: mpb o r es cl :: H) W := by
  have := E_all' (G := [itr it r cl seen cl, mpb o r es cl, pur (DIt enc es cl seen kv rest cur)])
    (E_ex' (f := fun (x : List MapEntry × Nat × List Nat) => all [itr it r x.2.1 x.2.2 x.2.1, mpb o r x.1 x.2.1, pur (DIt enc x.1 x.2.1 x.2.2 kv rest cur)]) (es, cl, seen) h)
  exact E_pur' hd (E_perm ((List.perm_middle (l₁ := [itr it r cl seen cl, mpb o r es cl])).symm) this)
theorem E_drange {t kt el r : Nat} {o : Bool} {kv : List (κ × Value)} {H' : List Asrt} [ht : TakD H enc o r kv H'] (hu : P.underlying t = some (.map kt el))
    (h : ∀ it, E B (dit enc o it r kv kv none :: H') (K (.pointer (some ⟨it, 0, none⟩)))) : E B H (V P (Instr.range t (.map (some r))) K) := by
  refine E_find ht.pf (E_dopen fun es cl hd => E_range (hf := hasM_here) hu fun it => E_ishut ⟨hd, ?_, fun p hp => by cases hp⟩ (h it))
  have : unseen es [] = es := by unfold unseen; apply List.filter_eq_self.2; intro _ _; rfl
  rw [this, hd.kvs]
class TakDI (H : List Asrt) (enc : outParam (κ → Value)) (o : outParam Bool) (it : Nat) (r : outParam Nat) (kv rest : outParam (List (κ × Value))) (cur : outParam (Option (κ × Value))) (H' : outParam (List Asrt)) : Prop where
  pf : Find H (dit enc o it r kv rest cur) H'
instance (priority := high) takDI_here {enc : κ → Value} {o it r kv rest cur H} : TakDI (dit enc o it r kv rest cur :: H) enc o it r kv rest cur H := ⟨.here⟩
instance takDI_there {enc : κ → Value} {a o it r kv rest cur H H'} [h : TakDI H enc o it r kv rest cur H'] : TakDI (a :: H) enc o it r kv rest cur (a :: H') := ⟨.there h.pf⟩
theorem E_dnext {it r ty : Nat} {o : Bool} {kv rest : List (κ × Value)} {cur : Option (κ × Value)} {H' : List Asrt} [ht : TakDI H enc o it r kv rest cur H']
    (h0 : rest = [] → E B (dit enc o it r kv [] none :: H') (K (.tuple #[.bool false])))
    (h1 : ∀ p rest', rest.Perm (p :: rest') → E B (dit enc o it r kv rest' (some p) :: H') (K (.tuple #[.bool true, enc p.1, p.2]))) : E B H (V P (Instr.next (.pointer (some ⟨it, 0, none⟩)) false ty) K) := by
  refine E_find ht.pf (E_iopen fun es cl seen hd => ?_)
  refine E_next (hi := takI_here) (hf := hasM_there (h := hasM_here)) hd.ok.lt (fun hu => ?_) (fun e he => ?_)
  · have hl := hd.left
    rw [hu] at hl
    have hr : rest = [] := by simpa using hl.length_eq.symm
    subst hr
    exact E_ishut ⟨hd.ok, by rw [hu]; exact List.Perm.refl _, fun p hp => by cases hp⟩ (h0 rfl)
  · have hm : (e.key, e.val) ∈ rest.map (eKV enc) := hd.left.subset (List.mem_map.2 ⟨e, he, rfl⟩)
    obtain ⟨p, hp, hpe⟩ := List.mem_map.1 hm
    obtain ⟨s, t, hst⟩ := List.append_of_mem hp
    have hperm : rest.Perm (p :: (s ++ t)) := by rw [hst]; exact List.perm_middle
    simp only [eKV, Prod.mk.injEq] at hpe
    have := h1 p (s ++ t) hperm
    rw [hpe.1, hpe.2] at this
    refine E_ishut ⟨hd.ok, ?_, fun q hq => ⟨e, seen, rfl, (List.mem_filter.1 he).1, ?_⟩⟩ this
    · have h2 := (unseen_perm hd.ok.born he).map fun e => (e.key, e.val)
      have h3 := (h2.trans hd.left).trans (hperm.map (eKV enc))
      simp only [List.map_cons, eKV, hpe.1, hpe.2] at h3
      exact h3.cons_inv
    · cases hq; exact ⟨hpe.1.symm, hpe.2.symm⟩
theorem E_dentry {it r : Nat} {o : Bool} {kv rest : List (κ × Value)} {p : κ × Value} {H' : List Asrt} [ht : TakDI H enc o it r kv rest (some p) H']
    (h : E B (dit enc o it r kv rest (some p) :: H') (K (.tuple #[enc p.1, p.2]))) : E B H (V P (Instr.entry (.pointer (some ⟨it, 0, none⟩))) K) := by
  refine E_find ht.pf (E_iopen fun es cl seen hd => ?_)
  obtain ⟨e, s, hs, he, hk, hv⟩ := hd.now p rfl
  subst hs
  refine E_entry (hi := takI_here) (hf := hasM_there (h := hasM_here)) hd.ok.born he ?_
  rw [hk, hv]
  exact E_ishut hd h
theorem E_idone {it r : Nat} {o : Bool} {kv rest : List (κ × Value)} {cur : Option (κ × Value)} {W : WT} (h : E B (dct enc o r kv :: H) W) : E B (dit enc o it r kv rest cur :: H) W :=
  E_iopen fun es cl seen hd => E_drop (E_dshut hd.ok h)
end
end Go.SL
namespace Go.SL
open Go.RowKit
variable {B : World} {H : List Asrt} {K : Value → WT} {P : Program}
section
variable {κ : Type} [DecidableEq κ] {enc : κ → Value}
end
theorem run_mapM {α β : Type} {g : α → Sem β} {h : α → Option β} {w : World} : ∀ {l : List α} {r : List β}, (∀ x ∈ l, ∀ y, h x = some y → (g x).run P w = .ok y w) → l.map h = r.map some → (l.mapM g).run P w = .ok r w
  | [], r, _, hr => by
    have : r = [] := by simpa using hr.symm
    subst this; rfl
  | x :: l, [], _, hr => by simp at hr
  | x :: l, y :: r, hg, hr => by
    simp only [List.map_cons, List.cons.injEq] at hr
    have h1 := hg x (List.mem_cons_self ..) y hr.1
    have h2 := run_mapM (g := g) (h := h) (fun x hx => hg x (List.mem_cons_of_mem _ hx)) hr.2
    rw [List.mapM_cons]
    simp only [run_bind, h1, h2, run_pure]
theorem str_of {t : TypeId} {pl : List (Nat × Nat)} {zv : Value} {z : List Value}
    (h : (match P.underlying t with | some (.struct fs) => some (fs.toList.map fun f => (P.info? f.type).map fun i => (f.offset, i.size)) | _ => none) = some (pl.map some))
    (hz : (P.info? t).bind (·.zero) = some zv) (hc : zv.cells.toList = z) : Str P t pl z := by
  cases hu : P.underlying t with
  | none => simp [hu] at h
  | some d =>
    rw [hu] at h
    cases d <;> simp only [Option.some.injEq, reduceCtorEq] at h
    rename_i fs
    cases hi : P.info? t with
    | none => simp [hi] at hz
    | some i =>
      simp only [hi, Option.bind_some] at hz
      refine ⟨fs, zv, hu, fun w => ?_, fun w => zero_run hi hz, hc⟩
      rw [Array.mapM_eq_mapM_toList]
      have := run_mapM (P := P) (w := w) (g := fun f : Field => (do pure (f.offset, ← sizeOf f.type) : Sem (Nat × Nat))) (h := fun f => (P.info? f.type).map fun i => (f.offset, i.size)) (l := fs.toList) (r := pl) (fun f hf y hy => by
        cases hf : P.info? f.type with
        | none => simp [hf] at hy
        | some i =>
          simp only [hf, Option.map_some, Option.some.injEq] at hy
          simp only [run_bind, run_size' hf, run_pure, hy]) h
      rw [← bind_pure_comp, run_bind, this]; rfl
theorem run_markS {b o : Nat} {T : TypeId} {l : List Value} {fr : Nat × Nat} {w : World} (h : w.heap[b]? = some (.cells l.toArray T fr)) : (markStringish ⟨b, o, none⟩).run P w = .ok () (w.freeze ⟨b, l.length, none⟩ 1) := by
  unfold markStringish
  rw [run_bind]
  have : (shape b).run P w = .ok (w.shape? b) w := rfl
  rw [this]
  have hs : w.shape? b = some (T, l.length) := by unfold World.shape?; simp [h]
  simp only [hs]
  rfl
theorem E_cvslice {t e b o n cap : Nat} {T : TypeId} {l : List Value} {H' : List Asrt} [hf : TakC H b T l H'] (hu : P.underlying t = some (.slice e)) (he : P.underlying e = some (.int .u8))
    (h : E B (cel true b T l :: H') (K (.slice (some ⟨b, o, none⟩) n cap))) : E B H (V P (convert t t (.slice (some ⟨b, o, none⟩) n cap)) K) := by
  refine E_find hf.pf ?_
  refine E_Vok fun w hw => ?_
  obtain ⟨fr, hh, _⟩ := cel_own (l' := l) hw rfl
  refine ⟨_, _, ?_, h _ (cel_mark hw)⟩
  unfold convert
  rw [run_bind, run_underlying' hu]
  simp only [run_bind, run_underlying' hu, run_underlying' he, beq_self_eq_true, run_markS hh, run_pure]
end Go.SL
namespace Go.SL
open Go.RowKit Go.ChangeShapes
variable {H : Type} {enc : TypeId × Value → H} {P : Program} {w : World} {fuel : Nat} {held : Bool}
def bools (l : List Bool) : List Value := l.map Value.bool
@[simp] theorem bools_length (l : List Bool) : (bools l).length = l.length := by simp [bools]
theorem trod_int' {t : TypeId} {cs : List Value} {x : DataW H × List MemPlace} {k : IntKind} (ht : P.underlying t = some (.int k)) (h : DataW.trod enc P w 0 (fun _ => true) held fuel t cs = some x) :
    ∃ n, cs = [.int k n] ∧ (Lit.int k n).wf = true := by
  cases fuel with
  | zero => simp [DataW.trod] at h
  | succ n =>
    unfold DataW.trod at h
    rw [ht] at h
    split at h <;> simp_all
theorem trod_fields {t : TypeId} {cs : List Value} {x : DataW H × List MemPlace} (l : List (TypeId × Nat))
    (hl : (match P.underlying t with | some (.struct fs) => some (fs.toList.map fun f => (f.type, f.offset)) | _ => none) = some l)
    (h : DataW.trod enc P w 0 (fun _ => true) held fuel t cs = some x) :
    cs.length = P.cellsOf t ∧ ∃ n, ∀ (i : Nat) (p : TypeId × Nat), l[i]? = some p → ∃ y, DataW.trod enc P w 0 (fun _ => true) held n p.1 ((cs.drop p.2).take (P.cellsOf p.1)) = some y ∧ ∀ k ∈ y.1.weights P p.1, k ∈ x.1.weights P t := by
  cases hu : P.underlying t with
  | none => simp [hu] at hl
  | some d =>
    rw [hu] at hl
    cases d <;> simp only [Option.some.injEq, reduceCtorEq] at hl
    rename_i fs
    obtain ⟨xs, m, _, hx, hcl, hxl, hf⟩ := DataW.trod_struct hu h
    refine ⟨hcl, m, fun i p hp => ?_⟩
    have hp' : (fs.toList.map fun f => (f.type, f.offset))[i]? = some p := by rw [hl]; exact hp
    rw [List.getElem?_map] at hp'
    cases hfi : fs.toList[i]? with
    | none => simp [hfi] at hp'
    | some f =>
      rw [hfi] at hp'
      simp only [Option.map_some, Option.some.injEq] at hp'
      subst hp'
      have hfa : fs[i]? = some f := by rw [← Array.getElem?_toList]; exact hfi
      have hlt : i < xs.length := by rw [hxl]; exact (Array.getElem?_eq_some_iff.1 hfa).1
      have := hf i f hfa
      rw [List.getElem?_eq_getElem hlt] at this
      refine ⟨xs[i], this, fun k hk => ?_⟩
      rw [hx]
      simp only [DataW.weights, hu]
      exact DataW.weights_mem_each (j := i) (t := f.type) (d := xs[i].1) (by simp [hfi]) (by simp [hlt]) k hk
end Go.SL
namespace Go.SL
open Go.RowKit
variable {B : World} {H : List Asrt} {K : Value → WT} {P : Program}
theorem E_joinC {n : Nat} {body : Kn n → WT} {rest : Kn n} {σ : Type} (φ : σ → Prop) (Vs : σ → List Value) (G : σ → List Asrt)
    (h1 : ∀ k : Kn n, (∀ s, φ s → E B (G s) (app n k (Vs s))) → E B H (body k))
    (h2 : ∀ s, φ s → E B (G s) (app n rest (Vs s))) : E B H (S.join n body rest) := h1 rest h2
theorem E_join1 {n : Nat} {body : Kn n → WT} {rest : Kn n} (Vs : List Value) (G : List Asrt)
    (h1 : ∀ k : Kn n, E B G (app n k Vs) → E B H (body k)) (h2 : E B G (app n rest Vs)) : E B H (S.join n body rest) := h1 rest h2
class TakP {α : Type} (H : List Asrt) (p : α → Asrt) (x : outParam α) (H' : outParam (List Asrt)) : Prop where
  pf : Find H (p x) H'
instance (priority := high) takP_here {α : Type} {p : α → Asrt} {x : α} {H : List Asrt} : TakP (p x :: H) p x H := ⟨.here⟩
instance takP_there {α : Type} {p : α → Asrt} {x : α} {a : Asrt} {H H' : List Asrt} [h : TakP H p x H'] : TakP (a :: H) p x (a :: H') := ⟨.there h.pf⟩
instance (priority := low) cellsI_cell {v : Value} [h : CellI v] : CellsI v [v] := ⟨by have := h.pf; cases v <;> first | rfl | simp [isCell] at this⟩
class AllC (vs : List Value) : Prop where
  pf : ∀ v ∈ vs, isCell v = true
instance : AllC [] := ⟨by simp⟩
instance allC_cons {v : Value} {vs : List Value} [h : CellI v] [h' : AllC vs] : AllC (v :: vs) := ⟨fun u hu => by
  rcases List.mem_cons.1 hu with rfl | hu
  · exact h.pf
  · exact h'.pf u hu⟩
theorem E_stA {b o n : Nat} {T : TypeId} {l l' vs : List Value} {v : Value} {H' : List Asrt} [hf : TakC H b T l H'] [hv : CellsI v vs] [hc : AllC vs] [hn : AtLen vs n] [hs : SetsI l o vs l']
    (h : E B (cel true b T l' :: H') (K undef)) : E B H (S.st n (.pointer (some ⟨b, o, none⟩)) v K) :=
  E_stN (hf := hf) (hv := hv) hn.pf hc.pf (by have := hs.le; have := hn.pf; omega) hs.pf h
theorem E_ixN {sz b o len c j : Nat} {k : IntKind} (h1 : j < len) (h : E B H (K (.pointer (some ⟨b, o + j * sz, none⟩)))) :
    E B H (S.ixS sz (.slice (some ⟨b, o, none⟩) len c) (.int k (j : Int)) K) := E_ixS (by omega) (by omega) (by rw [Int.toNat_natCast]; exact h)
theorem baLoop (bs : ByteArray) : ∀ (n i : Nat) (r : List UInt8), bs.size - i = n → ByteArray.toList.loop bs i r = r.reverse ++ (bs.data.toList.drop i)
  | 0, i, r, h => by
    unfold ByteArray.toList.loop
    rw [if_neg (by omega)]
    rw [List.drop_eq_nil_of_le (by have : bs.data.toList.length = bs.size := rfl
                                   omega)]
    simp
  | n + 1, i, r, h => by
    unfold ByteArray.toList.loop
    rw [if_pos (by omega)]
    rw [baLoop bs n (i + 1) _ (by omega)]
    have hl : bs.data.toList.length = bs.size := rfl
    have hi : i < bs.data.size := by show i < bs.size; omega
    have hg : bs.get! i = bs.data[i] := by
      cases bs with | mk d => exact getElem!_pos d i hi
    rw [List.drop_eq_getElem_cons (by omega : i < bs.data.toList.length), hg]
    simp
theorem baToList (bs : ByteArray) : bs.toList = bs.data.toList := by
  unfold ByteArray.toList
  rw [baLoop bs bs.size 0 [] (by omega)]; simp
abbrev str (bs : List UInt8) : Value := .string ⟨bs.toArray⟩
theorem E_streq {a b : List UInt8} (h : E B H (K (.bool (decide (a = b))))) : E B H (S.sbin .eql (str a) (str b) K) := fun w hw => by
  have := h w hw
  unfold S.sbin
  simp only [baToList]
  have e : (a == b) = decide (a = b) := by
    by_cases h : a = b
    · simp [h]
    · simp [h]
  rw [e]; exact this
theorem E_streqS {a : List UInt8} (h : E B H (K (.bool true))) : E B H (S.sbin .eql (str a) (str a) K) := E_streq (by simpa using h)
theorem E_strne {a b : List UInt8} (h : E B H (K (.bool (decide (a ≠ b))))) : E B H (S.sbin .neq (str a) (str b) K) := fun w hw => by
  have := h w hw
  unfold S.sbin
  simp only [baToList]
  have e : (!(a == b)) = decide (a ≠ b) := by
    by_cases h : a = b
    · simp [h]
    · simp [h]
  rw [e]; exact this
theorem E_strneS {a : List UInt8} (h : E B H (K (.bool false))) : E B H (S.sbin .neq (str a) (str a) K) := E_strne (by simpa using h)
theorem strSize (bs : List UInt8) : (⟨bs.toArray⟩ : ByteArray).size = bs.length := by simp [ByteArray.size]
end Go.SL
namespace Go.SL
open Go.RowKit
variable {B : World} {H : List Asrt} {K : Value → WT} {P : Program}
theorem sat.after {w w' : World} (h : sat B H w) (b : Below w.heap.size w w') : sat B H w' := by
  obtain ⟨hb, l, hs, hc⟩ := h
  refine ⟨⟨b.os.trans hb.os, b.tape.trans hb.tape, b.output.trans hb.output, Nat.le_trans hb.size b.size, fun k hk => (b.block k (Nat.lt_of_lt_of_le hk hb.size)).trans (hb.block k hk)⟩, l, hs, fun c hm => ?_, hc.2⟩
  have h1 := hc.1 c hm
  have lt : c.b < w.heap.size := (Array.getElem?_eq_some_iff.1 h1.1).1
  exact ⟨(b.block c.b lt).trans h1.1, h1.2⟩
end Go.SL
namespace Go.SL
open Go.RowKit
variable {B : World} {H : List Asrt} {K : Value → WT} {P : Program}
def cellD : TypeDesc → Bool
  | .struct _ | .array _ _ => false
  | _ => true
section
variable {κ : Type} [DecidableEq κ] {enc : κ → Value}
end
section
variable {κ : Type} [DecidableEq κ] {enc : κ → Value}
end
def cellT (P : Program) (t : TypeId) : Bool := match P.underlying t with
  | some d => cellD d
  | none => false
theorem E_aeq {t : TypeId} {c : Bool} {xs ys : Array Value} {b : Bool} (hg : P.eqGuardType P.depth t = false) (he : ∀ w, (Op.equal t (.agg xs) (.agg ys)).run P w = .ok b w) (h : E B H (K (.bool b))) :
    E B H (S.eqv P .eql t c (.agg xs) (.agg ys) K) := E_eqS (fun w => by
  unfold S.eqS
  rw [run_bind, run_eqGuard_agg w .eql t _ _ xs ys hg]
  simp only [binOp, run_bind, he, run_pure]) h
theorem E_ane {t : TypeId} {c : Bool} {xs ys : Array Value} {b : Bool} (hg : P.eqGuardType P.depth t = false) (he : ∀ w, (Op.equal t (.agg xs) (.agg ys)).run P w = .ok b w) (h : E B H (K (.bool (!b)))) :
    E B H (S.eqv P .neq t c (.agg xs) (.agg ys) K) := E_eqS (fun w => by
  unfold S.eqS
  rw [run_bind, run_eqGuard_agg w .neq t _ _ xs ys hg]
  simp only [binOp, run_bind, he, run_pure]) h
def EqV (P : Program) (t : TypeId) (x y : Value) (b : Bool) : Prop := cellT P t = true ∧ ∀ d w, (Op.equalIn (d + 1) t x y).run P w = .ok b w
theorem eqV_int {t : TypeId} {k : IntKind} {a b : Int} (h : P.underlying t = some (.int k)) : EqV P t (.int k a) (.int k b) (decide (a = b)) :=
  ⟨by unfold cellT; rw [h]; rfl, fun d w => by rw [run_equalIn_int w d t k k a b h]; congr 1⟩
theorem run_part {t : TypeId} {xs : Array Value} {o : Nat} {x : Value} {w : World} (h : cellT P t = true) (hx : xs[o]? = some x) : (part t xs o).run P w = .ok x w := by
  have hagg : (isAgg t).run P w = .ok false w := by
    unfold isAgg
    unfold cellT at h
    cases hu : P.underlying t with
    | none => rw [hu] at h; cases h
    | some d =>
      rw [hu] at h
      rw [run_bind, run_underlying' hu]
      cases d <;> first | rfl | (simp [cellD] at h; done)
  unfold part
  rw [run_bind, hagg]
  simp only [Bool.false_eq_true, if_false, hx]
  rfl
end Go.SL
namespace Go.SL
open Go.RowKit
variable {B : World} {H : List Asrt} {K : Value → WT} {P : Program}
class Enc {α : Type} (enc : α → List Value) (sz : outParam Nat) : Prop where
  len : ∀ x, (enc x).length = sz
  cell : ∀ x, ∀ y ∈ enc x, isCell y = true
section
variable {α : Type} {enc : α → List Value} {sz : Nat}
theorem enc_length [hE : Enc enc sz] (l : List α) : (l.flatMap enc).length = l.length * sz := by
  induction l with
  | nil => simp
  | cons x l ih => simp only [List.flatMap_cons, List.length_append, hE.len, ih, List.length_cons, Nat.succ_mul]; omega
theorem enc_cells [hE : Enc enc sz] (l : List α) : ∀ y ∈ l.flatMap enc, isCell y = true := fun y hy => by
  obtain ⟨x, _, hx⟩ := List.mem_flatMap.1 hy
  exact hE.cell x y hx
theorem enc_drop [hE : Enc enc sz] (l : List α) (i : Nat) : (l.flatMap enc).drop (i * sz) = (l.drop i).flatMap enc := by
  induction l generalizing i with
  | nil => simp
  | cons x l ih =>
    cases i with
    | zero => simp
    | succ i =>
      rw [List.flatMap_cons, List.drop_append, hE.len, List.drop_of_length_le (by rw [hE.len, Nat.succ_mul]; omega), List.nil_append, List.drop_succ_cons, ← ih]
      congr 1; rw [Nat.succ_mul]; omega
theorem enc_take [hE : Enc enc sz] (l : List α) (i : Nat) : (l.flatMap enc).take (i * sz) = (l.take i).flatMap enc := by
  induction l generalizing i with
  | nil => simp
  | cons x l ih =>
    cases i with
    | zero => simp
    | succ i =>
      have e : (i + 1) * sz = sz + i * sz := by rw [Nat.succ_mul]; omega
      rw [List.flatMap_cons, List.take_append, hE.len, List.take_of_length_le (by rw [hE.len, e]; omega), List.take_succ_cons, List.flatMap_cons, ← ih]
      congr 2; omega
theorem enc_at [hE : Enc enc sz] {l : List α} {i : Nat} {x : α} (h : l[i]? = some x) : ∃ r, (l.flatMap enc).drop (i * sz) = enc x ++ r := by
  rw [enc_drop]
  have hlt := (List.getElem?_eq_some_iff.1 h).1
  rw [List.drop_eq_getElem_cons hlt, (List.getElem?_eq_some_iff.1 h).2]
  exact ⟨_, List.flatMap_cons ..⟩
theorem enc_set [hE : Enc enc sz] {l : List α} {i : Nat} (x : α) (sp : List Value) (h : i < l.length) : setAll (l.flatMap enc ++ sp) (i * sz) (enc x) = (l.set i x).flatMap enc ++ sp := by
  have hle : i * sz + sz ≤ (l.flatMap enc).length := by rw [enc_length, ← Nat.succ_mul]; exact Nat.mul_le_mul_right _ h
  unfold setAll
  have e : i * sz + (enc x).length = (i + 1) * sz := by rw [hE.len, Nat.succ_mul]
  have hle2 : (i + 1) * sz ≤ (l.flatMap enc).length := by rw [enc_length]; exact Nat.mul_le_mul_right _ h
  rw [e, List.take_append_of_le_length (by omega), List.drop_append_of_le_length hle2, enc_take, enc_drop, List.set_eq_take_append_cons_drop, if_pos h]
  simp
class PtA (B : World) (H : List Asrt) (p : Value) (o : outParam Nat) (cs : outParam (List Value)) : Prop where
  pf : ∃ a : Addr, p = .pointer (some (a.add o)) ∧ ∀ {w}, sat B H w → ∀ j, j < cs.length → w.cell? (a.add j) = cs[j]?
theorem addAdd (a : Addr) (i j : Nat) : (a.add i).add j = a.add (i + j) := by
  unfold Addr.add
  by_cases h1 : i = 0 <;> by_cases h2 : j = 0 <;> simp [h1, h2] <;> omega
theorem E_ptfad {p : Value} {o off : Nat} {cs : List Value} [hp : PtA B H p o cs] (h : ∀ q [PtA B H q (o + off) cs], E B H (K q)) : E B H (S.fad p off K) := by
  obtain ⟨a, rfl, hr⟩ := hp.pf
  have : PtA B H (.pointer (some (a.add (o + off)))) (o + off) cs := ⟨a, rfl, hr⟩
  have := h (.pointer (some (a.add (o + off))))
  intro w hw
  show K (.pointer (some ((a.add o).add off))) w
  rw [addAdd]; exact this w hw
theorem E_ptfad0 {p : Value} {off : Nat} {cs : List Value} [hp : PtA B H p 0 cs] (h : ∀ q [PtA B H q off cs], E B H (K q)) : E B H (S.fad p off K) := E_ptfad (o := 0) (by rw [Nat.zero_add]; exact h)
theorem E_ptld {p : Value} {o : Nat} {cs : List Value} {u : Value} [hp : PtA B H p o cs] [hu : AtI cs o u] (h : E B H (K u)) : E B H (S.ld p K) := by
  obtain ⟨a, rfl, hr⟩ := hp.pf
  intro w hw
  have hlt : o < cs.length := (List.getElem?_eq_some_iff.1 hu.pf).1
  unfold S.ld
  simp only [hr hw o hlt, hu.pf]
  exact h w hw
theorem E_ptldN {p : Value} {o n : Nat} {cs ds : List Value} [hp : PtA B H p o cs] (hd : (cs.drop o).take n = ds) (hn : ds.length = n) (h : E B H (K (.agg ds.toArray))) : E B H (S.ldN n p K) := by
  obtain ⟨a, rfl, hr⟩ := hp.pf
  intro w hw
  have key : ∀ m i, i + m = n → cellsFrom w (a.add o) i m = some (ds.drop i) := by
    intro m
    induction m with
    | zero => intro i hi; simp only [cellsFrom]; rw [List.drop_eq_nil_of_le (by omega)]
    | succ m ih =>
      intro i hi
      have hlt : i < ds.length := by omega
      have h1 : ds[i]? = cs[o + i]? := by rw [← hd, List.getElem?_take_of_lt (by omega), List.getElem?_drop]
      have hlt2 : o + i < cs.length := by
        rw [List.getElem?_eq_getElem hlt] at h1
        exact (List.getElem?_eq_some_iff.1 h1.symm).1
      simp only [cellsFrom, addAdd, hr hw (o + i) hlt2, ← h1, List.getElem?_eq_getElem hlt]
      rw [ih (i + 1) (by omega)]
      simp
  unfold S.ldN
  have := key n 0 (by omega)
  simp only [this, List.drop_zero]
  exact h w hw
theorem E_ptldA {p : Value} {n : Nat} {cs : List Value} [hp : PtA B H p 0 cs] [hn : AtLen cs n] (h : E B H (K (.agg cs.toArray))) : E B H (S.ldN n p K) := E_ptldN (by rw [← hn.pf]; simp) hn.pf h
class Rs {α : outParam Type} (B : World) (H : List Asrt) (v : Value) (enc : outParam (α → List Value)) (l : outParam (List α)) : Prop where
  pf : ∀ {w}, sat B H w → rdX w v l.length (l.flatMap enc)
instance rs_there {B a H v} {enc : α → List Value} {l : List α} [h : Rs B H v enc l] : Rs B (a :: H) v enc l := ⟨fun hw => h.pf hw.tail⟩
def sls (enc : α → List Value) (T sz : Nat) (v : Value) (l : List α) : Asrt := osl T sz v l.length (l.flatMap enc)
theorem sls_nil {T : Nat} {W : WT} (enc : α → List Value) (sz : Nat) (h : E B (sls enc T sz (.slice none 0 0) [] :: H) W) : E B H W := osl_nil h
instance (priority := high) rs_sls {T : Nat} {v : Value} {l : List α} {H : List Asrt} : Rs B (sls enc T sz v l :: H) v enc l := ⟨fun hw => by
  rcases sat_osl hw with ⟨rfl, h1, h2⟩ | ⟨b, cap, rfl, hle, hl, hc⟩
  · exact .inl ⟨rfl, h1, h2⟩
  · exact .inr ⟨⟨b, 0, none⟩, cap, rfl, hle, fun j hj => by rw [add_at]; exact hc j hj⟩⟩
class BaseS {α : outParam Type} (B : World) (v : Value) (enc : outParam (α → List Value)) (l : outParam (List α)) : Prop where
  pf : rdX B v l.length (l.flatMap enc)
instance (priority := low) rs_base {H : List Asrt} {v : Value} {l : List α} [h : BaseS B v enc l] : Rs B H v enc l := ⟨fun {w} hw => by
  rcases h.pf with h | ⟨a, cap, hv, hle, hc⟩
  · exact .inl h
  · refine .inr ⟨a, cap, hv, hle, fun j hj => ?_⟩
    have hj' : (l.flatMap enc)[j]? = some (l.flatMap enc)[j] := by simp
    rw [hj']
    exact cell_base hw ((hc j hj).trans hj')⟩
theorem rs_cel {b n c : Nat} {κ : Bool} {T : TypeId} {xs : List Value} {l : List α} [hf : HasC H b κ T xs] (hn : l.length ≤ c) (hx : l.flatMap enc = xs) (hl : n = l.length := by rfl) : Rs B H (.slice (some ⟨b, 0, none⟩) n c) enc l := ⟨fun hw => by
  subst hl
  refine .inr ⟨⟨b, 0, none⟩, c, rfl, hn, fun j hj => ?_⟩
  rw [add_at, Nat.zero_add, sat_cell (hf := hf) hw, hx]⟩
theorem E_rslen {v : Value} {l : List α} [hf : Rs B H v enc l] (h : E B H (K (.int .i64 l.length))) : E B H (S.len v K) := fun w hw => by
  rcases hf.pf hw with ⟨rfl, h1, _⟩ | ⟨a, cap, rfl, _, _⟩
  · have := h w hw; rw [h1] at this; exact this
  · exact h w hw
theorem rs_cell {v : Value} {l : List α} [hf : Rs B H v enc l] {W : WT} (h : isCell v = true → E B H W) : E B H W := fun w hw =>
  h (by rcases hf.pf hw with ⟨rfl, _, _⟩ | ⟨a, cap, rfl, _, _⟩ <;> rfl) w hw
theorem E_rsix [hE : Enc enc sz] {v : Value} {l : List α} {i : Nat} {x : α} {k : IntKind} [hf : Rs B H v enc l] (hx : l[i]? = some x)
    (h : ∀ p [PtA B H p 0 (enc x)], E B H (K p)) : E B H (S.ixS sz v (.int k (i : Int)) K) := fun w hw => by
  have hlt : i < l.length := (List.getElem?_eq_some_iff.1 hx).1
  have hle : i * sz + sz ≤ (l.flatMap enc).length := by rw [enc_length, ← Nat.succ_mul]; exact Nat.mul_le_mul_right _ hlt
  obtain ⟨r, hr⟩ := enc_at (enc := enc) hx
  rcases hf.pf hw with ⟨_, h1, _⟩ | ⟨a, cap, hv, hle2, _⟩
  · omega
  · subst hv
    refine ⟨by omega, by omega, ?_⟩
    have : PtA B H (.pointer (some (a.add (((i : Nat) : Int).toNat * sz)))) 0 (enc x) := by
      refine ⟨a.add (i * sz), by rw [Int.toNat_natCast, addAdd, Nat.add_zero], fun {w'} hw' j hj => ?_⟩
      rcases hf.pf hw' with ⟨h0, _, _⟩ | ⟨a', cap', hv', _, hc⟩
      · cases h0
      · cases hv'
        rw [hE.len] at hj
        rw [addAdd, hc (i * sz + j) (by omega)]
        have h2 : ((l.flatMap enc).drop (i * sz))[j]? = (enc x)[j]? := by rw [hr, List.getElem?_append_left (by rw [hE.len]; omega)]
        rw [← h2, List.getElem?_drop]
    exact h _ w hw
theorem rd_rs [hE : Enc enc sz] {v : Value} {l : List α} {tx e' : TypeId} [hf : Rs B H v enc l] (hk : P.underlying tx = some (.slice e')) : Rd P B H tx v sz l.length (l.flatMap enc) := fun w hw => by
  rcases hf.pf hw with ⟨rfl, h1, h2⟩ | ⟨a, cap, rfl, _, hc⟩
  · rw [h1, h2]; exact Go.Src.ofNil w hk 0
  · exact Go.Src.ofSlice w hk _ _ _ _ (enc_length l) (fun j u hj => by
      have hlt : j < (l.flatMap enc).length := (List.getElem?_eq_some_iff.1 hj).1
      rw [hc j hlt]; exact hj) (fun u hu => by have := enc_cells l u hu; cases u <;> first | rfl | cases this)
theorem E_sapp1 [hE : Enc enc sz] {t ty T by_ : Nat} {z cs : List Value} {v xv : Value} {l : List α} (x : α) (hu : P.underlying t = some (.slice T)) (he : Elt P T sz by_ z) [hc : CellsI xv cs] (hx : enc x = cs)
    (hs : 0 < sz ∧ sz ≤ 1000) (hb : (l.length + 1) * by_ ≤ 140737488355328) (hn : l.length + 1 ≤ 9223372036854775807)
    (h : ∀ v' [CellI v'], E B (sls enc T sz v' (l ++ [x]) :: H) (K v')) :
    E B (sls enc T sz v l :: H) (V P (Instr.buildSlice t 1 #[(0, xv)]) fun v1 => V P (Builtin.append_ #[t, t] ty #[v, v1]) K) := by
  have hcl : cs.length = sz := by rw [← hx, hE.len]
  have hzl : z.length = sz := by obtain ⟨i, zv, _, _, _, _, _, hz⟩ := he.pf; exact hz
  have h1 : SetsI z 0 cs cs := ⟨by omega, by unfold setAll; simp [hcl, hzl]⟩
  have h2 : AtLen cs sz := ⟨hcl⟩
  have h3 : AtN [(0, sz)] 0 (0, sz) := ⟨rfl⟩
  have h4 : FillI [(0, sz)] z [(0, xv)] cs := fillI_cons (ha := h3) (hv := hc) (hs := h1) (hn := h2) (h := fillI_nil)
  refine E_bsl (l0 := z) [(0, sz)] hu he (by simp) (by omega) (by simp [rep]) (hf := h4) fun b => ?_
  have hcs : ∀ y ∈ cs, isCell y = true := by rw [← hx]; exact hE.cell x
  have hrd : Rd P B (cel true b T cs :: H) t (.slice (some ⟨b, 0, none⟩) 1 1) sz 1 cs := rd_slice (l := cs) hu (by rw [Nat.one_mul, ← hcl]; simp) (by simp [hcl]) hcs
  refine E_find (a := osl T sz v l.length (l.flatMap enc)) (.there .here) ?_
  refine E_app (m := 1) hu he hrd (by omega) (by omega) fun v' _ => ?_
  have h' := h v'
  unfold sls at h'
  simp only [List.length_append, List.length_cons, List.length_nil, List.flatMap_append, List.flatMap_cons, List.flatMap_nil, List.append_nil, hx] at h'
  exact E_same (.cons .here (.drop .refl)) h'
theorem E_sapps [hE : Enc enc sz] {t ty T by_ : Nat} {z : List Value} {v u : Value} {l m : List α} (hu : P.underlying t = some (.slice T)) (he : Elt P T sz by_ z) [hf : Rs B H u enc m]
    (hb : (l.length + m.length) * by_ ≤ 140737488355328) (hn : l.length + m.length ≤ 9223372036854775807)
    (h : ∀ v' [CellI v'], E B (sls enc T sz v' (l ++ m) :: H) (K v')) :
    E B (sls enc T sz v l :: H) (V P (Builtin.append_ #[t, t] ty #[v, u]) K) := by
  refine E_app (m := m.length) hu he (rd_rs (hf := hf) hu) hb hn fun v' _ => ?_
  have h' := h v'
  unfold sls at h'
  simp only [List.length_append, List.flatMap_append] at h'
  exact h'
theorem E_sbsl0 {t T by_ : Nat} {z : List Value} (enc : α → List Value) (hu : P.underlying t = some (.slice T)) (he : Elt P T sz by_ z)
    (h : ∀ v [CellI v], E B (sls enc T sz v [] :: H) (K v)) : E B H (V P (Instr.buildSlice t 0 #[]) K) := by
  refine E_bsl0 hu he fun b => ?_
  refine osl_of_cel (n := 0) (sz := sz) (by simp) ?_
  exact h (.slice (some ⟨b, 0, none⟩) 0 0)
theorem E_sset [hE : Enc enc sz] {T i : Nat} {v xv : Value} {l : List α} {cs : List Value} {k : IntKind} (x : α) (hi : i < l.length) [hc : CellsI xv cs] (hx : enc x = cs)
    (h : E B (sls enc T sz v (l.set i x) :: H) (K undef)) : E B (sls enc T sz v l :: H) (S.ixS sz v (.int k (i : Int)) fun p => S.st sz p xv K) := by
  subst hx
  refine E_oslo (by omega) fun b cap spare hv hle hxl hsl => ?_
  subst hv
  refine E_ixN hi ?_
  have hle2 : i * sz + sz ≤ l.length * sz := by rw [← Nat.succ_mul]; exact Nat.mul_le_mul_right _ hi
  refine E_stN (hf := takC_here) (hv := hc) (l' := (l.set i x).flatMap enc ++ spare) (hE.len x) (hE.cell x) (by rw [List.length_append, enc_length]; omega) (by rw [Nat.zero_add]; exact enc_set x spare hi) ?_
  refine E_osls (n := l.length) (cap := cap) (sz := sz) hle (by rw [enc_length]; simp) hsl ?_
  unfold sls at h
  rw [List.length_set] at h
  have hc : E B (osl T sz (.slice (some ⟨b, 0, none⟩) l.length cap) l.length ((l.set i x).flatMap enc) :: H) (K undef) := h
  exact hc
theorem E_stake [hE : Enc enc sz] {T k : Nat} {v : Value} {l : List α} (hk : k ≤ l.length)
    (h : ∀ v' [CellI v'], E B (sls enc T sz v' (l.take k) :: H) (K v')) : E B (sls enc T sz v l :: H) (S.slc sz v none (some (.int .i64 (k : Int))) none K) := by
  have hb : S.bound (some (.int .i64 (k : Int))) l.length = some k := by simp [S.bound]
  refine E_oslc2 (fun hv hn hx => ?_) (fun b cap spare hv hle hxl hsl => ?_)
  · have hl : l = [] := List.length_eq_zero_iff.1 hn
    subst hl
    have hk0 : k = 0 := by simpa using hk
    subst hk0
    have h' := h (.slice none 0 0)
    intro w hw
    subst hv
    refine ⟨0, 0, 0, rfl, rfl, rfl, Nat.le_refl _, Nat.le_refl _, Nat.le_refl _, (fun h => by cases h), ?_⟩
    exact (osl_nil (T := T) (sz := sz) h') w hw
  · subst hv
    refine E_slc (l := 0) (hh := k) (m := cap) rfl hb rfl (by omega) (by omega) (by omega) (fun h => by cases h) ?_
    have e : (if cap = 0 then some (⟨b, 0, none⟩ : Addr) else some ⟨b, 0 + 0 * sz, none⟩) = some ⟨b, 0, none⟩ := by split <;> simp
    rw [e, Nat.sub_zero, Nat.sub_zero]
    have h' := h (.slice (some ⟨b, 0, none⟩) k cap)
    have es : l.flatMap enc ++ spare = (l.take k).flatMap enc ++ ((l.drop k).flatMap enc ++ spare) := by
      rw [← List.append_assoc, ← List.flatMap_append, List.take_append_drop]
    rw [es]
    refine E_osls (n := k) (cap := cap) (sz := sz) (by omega) (by rw [enc_length, List.length_take, Nat.min_eq_left hk]) ?_ ?_
    · rw [List.length_append, enc_length, hsl, List.length_drop, ← Nat.add_mul]; congr 1; omega
    · unfold sls at h'
      rw [List.length_take, Nat.min_eq_left hk] at h'
      exact h'
theorem E_slcS2 [hE : Enc enc sz] {v : Value} {l : List α} {lo hi : Option Value} {i j : Nat} [hf : Rs B H v enc l] (h2 : S.bound hi l.length = some j) (h3 : S.bound lo 0 = some i) (h4 : i ≤ j) (h5 : j ≤ l.length)
    (h : ∀ v' [∀ H' [Rs B H' v enc l], Rs B H' v' enc ((l.drop i).take (j - i))] [CellI v'], E B H (K v')) : E B H (S.slc sz v lo hi none K) := by
  intro w hw
  rcases hf.pf hw with ⟨hv, h1, hb⟩ | ⟨a, cap, hv, hle, _⟩
  · subst hv
    have hj : j = 0 := by omega
    subst hj
    have hi' : i = 0 := by omega
    subst hi'
    have hl : l = [] := List.length_eq_zero_iff.1 h1
    subst hl
    refine ⟨0, 0, 0, rfl, h2, h3, Nat.le_refl _, Nat.le_refl _, Nat.le_refl _, (fun h => by cases h), ?_⟩
    have hr : ∀ H' [Rs B H' (.slice none 0 0) enc ([] : List α)], Rs B H' (.slice none 0 0) enc ((([] : List α).drop 0).take (0 - 0)) := fun _ _ => ⟨fun _ => .inl ⟨rfl, rfl, rfl⟩⟩
    exact @h (.slice none 0 0) hr ⟨rfl⟩ w hw
  · subst hv
    refine ⟨i, j, cap, rfl, h2, h3, h4, by omega, Nat.le_refl _, (fun h => by cases h), ?_⟩
    have hlen : ((l.drop i).take (j - i)).length = j - i := by simp; omega
    have hr : ∀ H' [Rs B H' (.slice (some a) l.length cap) enc l], Rs B H' (.slice (if cap = i then (some a : Option Addr) else (some a).map (·.add (i * sz))) (j - i) (cap - i)) enc ((l.drop i).take (j - i)) := fun H' hf' => ⟨fun {w'} hw' => by
      rcases hf'.pf hw' with ⟨h0, _⟩ | ⟨a', cap', hv', _, hc⟩
      · cases h0
      · cases hv'
        by_cases hcl : cap = i
        · have e : j - i = 0 := by omega
          refine .inr ⟨a, cap - i, ?_, by rw [hlen]; omega, fun m hm => by rw [enc_length, hlen, e] at hm; omega⟩
          rw [if_pos hcl, hlen]
        · refine .inr ⟨a.add (i * sz), cap - i, ?_, by rw [hlen]; omega, fun m hm => ?_⟩
          · rw [if_neg hcl, hlen]; simp
          · rw [enc_length, hlen] at hm
            have hle3 : i * sz + (j - i) * sz ≤ l.length * sz := by rw [← Nat.add_mul]; exact Nat.mul_le_mul_right _ (by omega)
            rw [addAdd, hc (i * sz + m) (by rw [enc_length]; omega), ← enc_take, ← enc_drop, List.getElem?_take_of_lt hm, List.getElem?_drop]⟩
    have hcl : CellI (.slice (if cap = i then (some a : Option Addr) else (some a).map (·.add (i * sz))) (j - i) (cap - i)) := ⟨rfl⟩
    exact @h _ hr hcl w hw
end
theorem E_ldNA {b n : Nat} {κ : Bool} {T : TypeId} {l : List Value} [hf : HasC H b κ T l] [hn : AtLen l n] (h : E B H (K (.agg l.toArray))) : E B H (S.ldN n (.pointer (some ⟨b, 0, none⟩)) K) :=
  E_ldN (hf := hf) (by rw [← hn.pf]; simp) hn.pf h
theorem E_slsC {α : Type} {enc : α → List Value} {sz : Nat} [hE : Enc enc sz] {T b : Nat} {xs : List Value} {W : WT} (l : List α) (n : Nat) (hx : l.flatMap enc = xs) (hn : n = l.length) (h : E B (sls enc T sz (.slice (some ⟨b, 0, none⟩) n n) l :: H) W) : E B (cel true b T xs :: H) W := by
  subst hx hn
  exact osl_of_cel (enc_length l) h
theorem E_clear {b o n c t T sz by_ : Nat} {z l : List Value} {ts : Array TypeId} {ty : TypeId} (ht : ts[0]? = some t) (hu : P.underlying t = some (.slice T)) (he : Elt P T sz by_ z) (hz : ∀ y ∈ z, isCell y = true)
    (hn : 1 ≤ n) (hle : o + n * sz ≤ l.length) (h : E B (cel true b T (setAll l o (rep n z)) :: H) (K (.tuple #[]))) :
    E B (cel true b T l :: H) (V P (Builtin.clear_ ts ty #[.slice (some ⟨b, o, none⟩) n c]) K) := by
  obtain ⟨i, zv, hi, hs, hb, hzv, hzl, hzn⟩ := he.pf
  obtain ⟨m, rfl⟩ : ∃ m, n = m + 1 := ⟨n - 1, by omega⟩
  have hcells : ∀ y ∈ rep (m + 1) z, isCell y = true := fun y hy => by
    unfold rep at hy
    obtain ⟨l, hl, hyl⟩ := List.mem_flatten.1 hy
    obtain ⟨_, rfl⟩ := List.mem_replicate.1 hl
    exact hz y hyl
  refine E_Vok fun w hw => ?_
  obtain ⟨w', h1, h2⟩ := putFrom_eq (o := o) (rep (m + 1) z) l 0 w hw hcells (by rw [rep_length, hzn]; omega)
  refine ⟨_, w', ?_, h w' (by simpa using h2)⟩
  unfold Builtin.clear_
  simp only [ht, List.getElem?_toArray, List.getElem?_cons_zero, run_bind, run_underlying' hu, zero_run hi hzv, zeroCells_eq, hzl]
  rw [run_storeCells _ _ _ _ h1]
  rfl
abbrev cI (n : Int) : List Value := [.int .i64 n]
instance : Enc cI 1 := ⟨fun _ => rfl, fun x y hy => by simp at hy; subst hy; rfl⟩
theorem ints_enc (l : List Int) : l.flatMap cI = ints l := by
  induction l with
  | nil => rfl
  | cons x l ih => rw [List.flatMap_cons, ih]; rfl
instance (priority := high) rs_ints {T : Nat} {v : Value} {l : List Int} {H : List Asrt} : Rs B (osl T 1 v l.length (ints l) :: H) v cI l := by
  rw [← ints_enc]; exact rs_sls (enc := cI)
abbrev cB (b : UInt8) : List Value := [.int .u8 b.toNat]
instance : Enc cB 1 := ⟨fun _ => rfl, fun x y hy => by simp at hy; subst hy; rfl⟩
theorem bcs_enc (l : List UInt8) : l.flatMap cB = bcs l := by
  induction l with
  | nil => rfl
  | cons x l ih => rw [List.flatMap_cons, ih]; rfl
instance (priority := low) rs_rb {v : Value} {bs : List UInt8} [h : Rb B H v bs] : Rs B H v cB bs := ⟨fun hw => by
  rw [bcs_enc]
  rcases h.pf hw with ⟨rfl, rfl⟩ | ⟨a, cap, rfl, hle, hc⟩
  · exact .inl ⟨rfl, rfl, rfl⟩
  · exact .inr ⟨a, cap, rfl, hle, fun j hj => hc j (by simpa using hj)⟩⟩
theorem E_bytes {T : Nat} {v : Value} {l : List UInt8} {W : WT} (h : E B (sls cB T 1 v l :: H) W) : E B (osl T 1 v l.length (bcs l) :: H) W := by
  rw [← bcs_enc]; exact h
theorem E_bytesS {T : Nat} {v : Value} {l : List UInt8} {W : WT} (h : E B (osl T 1 v l.length (bcs l) :: H) W) : E B (sls cB T 1 v l :: H) W := by
  unfold sls; rw [bcs_enc]; exact h
instance (priority := high) rb_sls {T : Nat} {v : Value} {l : List UInt8} {H : List Asrt} : Rb B (sls cB T 1 v l :: H) v l := ⟨fun hw => by
  unfold sls at hw; rw [bcs_enc] at hw
  exact rb_osl.pf hw⟩
theorem E_slcB {v : Value} {bs : List UInt8} {lo hi : Option Value} {l hh : Nat} [hf : Rb B H v bs] (h2 : S.bound hi bs.length = some hh) (h3 : S.bound lo 0 = some l) (h4 : l ≤ hh) (h5 : hh ≤ bs.length)
    (h : ∀ v' [∀ H' [Rb B H' v bs], Rb B H' v' ((bs.drop l).take (hh - l))] [CellI v'], E B H (K v')) : E B H (S.slc 1 v lo hi none K) := by
  intro w hw
  rcases hf.pf hw with ⟨hv, hb⟩ | ⟨a, cap, hv, hle, _⟩
  · subst hv hb
    have : hh = 0 := by simpa using h5
    subst this
    have : l = 0 := by omega
    subst this
    refine ⟨0, 0, 0, rfl, h2, h3, Nat.le_refl _, Nat.le_refl _, Nat.le_refl _, (fun h => by cases h), ?_⟩
    have hr : ∀ H' [Rb B H' (.slice none 0 0) ([] : List UInt8)], Rb B H' (.slice none 0 0) (([].drop 0).take (0 - 0) : List UInt8) := fun _ _ => ⟨fun _ => .inl ⟨rfl, rfl⟩⟩
    exact @h (.slice none 0 0) hr ⟨rfl⟩ w hw
  · subst hv
    refine ⟨l, hh, cap, rfl, h2, h3, h4, by omega, Nat.le_refl _, (fun h => by cases h), ?_⟩
    have hlen : ((bs.drop l).take (hh - l)).length = hh - l := by simp; omega
    have hr : ∀ H' [Rb B H' (.slice (some a) bs.length cap) bs], Rb B H' (.slice (if cap = l then (some a : Option Addr) else (some a).map (·.add (l * 1))) (hh - l) (cap - l)) ((bs.drop l).take (hh - l)) := fun H' hf' => ⟨fun {w'} hw' => by
      rcases hf'.pf hw' with ⟨h0, _⟩ | ⟨a', cap', hv', _, hc⟩
      · cases h0
      · cases hv'
        by_cases hcl : cap = l
        · have e : hh - l = 0 := by omega
          refine .inr ⟨a, cap - l, ?_, by rw [hlen]; omega, fun j hj => by rw [hlen] at hj; omega⟩
          rw [if_pos hcl, hlen]
        · refine .inr ⟨a.add l, cap - l, ?_, by rw [hlen]; omega, fun j hj => ?_⟩
          · rw [if_neg hcl, hlen]; simp
          · rw [hlen] at hj
            rw [addAdd, hc (l + j) (by omega)]
            simp [bcs, List.getElem?_take, hj, List.getElem?_drop]⟩
    have hcl : CellI (.slice (if cap = l then (some a : Option Addr) else (some a).map (·.add (l * 1))) (hh - l) (cap - l)) := ⟨rfl⟩
    exact @h _ hr hcl w hw
end Go.SL
namespace Go.SL
open Go.RowKit Go.ChangeShapes
variable {H : Type} {enc : TypeId × Value → H} {P : Program} {w : World} {fuel : Nat} {held : Bool}
end Go.SL
namespace Go.SL
open Go.RowKit
variable {B : World} {H : List Asrt} {K : Value → WT} {P : Program}
abbrev u32 (r : BitVec 32) : Value := .int .u32 (r.toNat : Int)
theorem wrap32 (r : BitVec 32) : IntKind.wrap .u32 (r.toNat : Int) = (r.toNat : Int) := by
  have := r.isLt
  unfold IntKind.wrap
  simp [IntKind.signed, IntKind.bits]
  omega
theorem of32 (r : BitVec 32) : BitVec.ofInt 32 (r.toNat : Int) = r := by
  apply BitVec.eq_of_toNat_eq
  simp
theorem E_xor32 {a b : BitVec 32} (h : E B H (K (u32 (a ^^^ b)))) : E B H (S.bin .xor (u32 a) (u32 b) K) := fun w hw => ⟨rfl, by
  have := h w hw
  show K (.int .u32 (IntKind.wrap .u32 ((BitVec.ofInt 32 (a.toNat : Int) ^^^ BitVec.ofInt 32 (b.toNat : Int)).toNat : Int))) w
  rw [of32, of32, wrap32]; exact this⟩
theorem E_and32 {a b : BitVec 32} (h : E B H (K (u32 (a &&& b)))) : E B H (S.bin .and (u32 a) (u32 b) K) := fun w hw => ⟨rfl, by
  have := h w hw
  show K (.int .u32 (IntKind.wrap .u32 ((BitVec.ofInt 32 (a.toNat : Int) &&& BitVec.ofInt 32 (b.toNat : Int)).toNat : Int))) w
  rw [of32, of32, wrap32]; exact this⟩
theorem E_shr32 {a : BitVec 32} {k : IntKind} (h : E B H (K (u32 (a >>> 1)))) : E B H (S.sh .shr (u32 a) (.int k 1) K) := fun w hw => ⟨by omega, by
  have := h w hw
  show K (.int .u32 (Int.fdiv (a.toNat : Int) (2 ^ min (1 : Int).toNat (IntKind.bits .u32)))) w
  have e : Int.fdiv (a.toNat : Int) (2 ^ min (1 : Int).toNat (IntKind.bits .u32)) = (((a >>> 1 : BitVec 32).toNat : Nat) : Int) := by
    have e2 : (2 : Int) ^ min (1 : Int).toNat (IntKind.bits .u32) = 2 := by decide
    rw [e2, Int.fdiv_eq_ediv_of_nonneg _ (by decide)]
    simp [BitVec.toNat_ushiftRight, Nat.shiftRight_eq_div_pow]
  rw [e]; exact this⟩
theorem E_neg32 {a : BitVec 32} (h : E B H (K (u32 (-a)))) : E B H (S.neg1 (u32 a) K) := fun w hw => by
  have := h w hw
  show K (.int .u32 (IntKind.wrap .u32 (0 - (a.toNat : Int)))) w
  have e : IntKind.wrap .u32 (0 - (a.toNat : Int)) = ((-a : BitVec 32).toNat : Int) := by
    have := a.isLt
    unfold IntKind.wrap
    simp [IntKind.signed, IntKind.bits, BitVec.toNat_neg]
    omega
  rw [e]; exact this
theorem E_com32 {a : BitVec 32} (h : E B H (K (u32 (~~~ a)))) : E B H (S.com1 (u32 a) K) := fun w hw => by
  have := h w hw
  show K (.int .u32 (IntKind.wrap .u32 ((BitVec.ofInt 32 4294967295 ^^^ BitVec.ofInt 32 (a.toNat : Int)).toNat : Int))) w
  have e1 : (BitVec.ofInt 32 4294967295 : BitVec 32) = BitVec.allOnes 32 := by decide
  rw [e1, of32, BitVec.allOnes_xor, wrap32]; exact this
theorem E_cvt32 {k : IntKind} {b : UInt8} (h : E B H (K (u32 (BitVec.ofNat 32 b.toNat)))) : E B H (S.cvt .u32 (.int k (b.toNat : Int)) K) := E_cvt (by
  have hb := b.toNat_lt
  have e : IntKind.wrap .u32 (b.toNat : Int) = ((BitVec.ofNat 32 b.toNat).toNat : Int) := by
    unfold IntKind.wrap
    simp [IntKind.signed, IntKind.bits]
    omega
  rw [e]; exact h)
theorem wrap8 (n : Int) (h : 0 ≤ n) : IntKind.wrap .u8 n = ((UInt8.ofNat n.toNat).toNat : Int) := by
  unfold IntKind.wrap
  simp [IntKind.signed, IntKind.bits]
  omega
theorem E_cvt8 {k : IntKind} {n : Int} (h0 : 0 ≤ n) (h : E B H (K (.int .u8 ((UInt8.ofNat n.toNat).toNat : Int)))) : E B H (S.cvt .u8 (.int k n) K) := E_cvt (by rw [wrap8 n h0]; exact h)
theorem E_shrI {k k' : IntKind} {n c : Int} (h0 : 0 ≤ n) (hc : 0 ≤ c) (h1 : c.toNat ≤ k.bits) (h : E B H (K (.int k (n / 2 ^ c.toNat)))) : E B H (S.sh .shr (.int k n) (.int k' c) K) := fun w hw => ⟨hc, by
  have := h w hw
  show K (.int k (Int.fdiv n (2 ^ min c.toNat k.bits))) w
  rw [Nat.min_eq_left h1, Int.fdiv_eq_ediv_of_nonneg _ (Int.pow_nonneg (by decide))]; exact this⟩
theorem wrap64 (n : Int) (h0 : 0 ≤ n) (h1 : n < 18446744073709551616) : IntKind.wrap .u64 n = n := by
  unfold IntKind.wrap
  simp [IntKind.signed, IntKind.bits]
  omega
theorem E_push8 {n : Nat} {k : IntKind} {c : UInt8} (hn : n < 72057594037927936) (h : E B H (K (.int .u64 ((n * 256 + c.toNat : Nat) : Int)))) :
    E B H (S.sh .shl (.int .u64 (n : Int)) (.int .u64 8) fun v48 => S.cvt .u64 (.int k (c.toNat : Int)) fun v50 => S.bin .or v48 v50 K) := fun w hw => ⟨by omega, by
  have := h w hw
  have hc := c.toNat_lt
  have e2 : (2 : Int) ^ min (8 : Int).toNat (IntKind.bits .u64) = 256 := by decide
  have e1 : IntKind.wrap .u64 ((n : Int) * 2 ^ min (8 : Int).toNat (IntKind.bits .u64)) = ((n * 256 : Nat) : Int) := by
    rw [e2, wrap64 _ (by omega) (by omega)]; simp
  have e3 : IntKind.wrap .u64 (c.toNat : Int) = (c.toNat : Int) := wrap64 _ (by omega) (by omega)
  show S.cvt .u64 (.int k (c.toNat : Int)) (fun v50 => S.bin .or (.int .u64 (IntKind.wrap .u64 ((n : Int) * 2 ^ min (8 : Int).toNat (IntKind.bits .u64)))) v50 K) w
  rw [e1]
  show S.bin .or (.int .u64 ((n * 256 : Nat) : Int)) (.int .u64 (IntKind.wrap .u64 (c.toNat : Int))) K w
  rw [e3]
  refine ⟨rfl, ?_⟩
  show K (.int .u64 (IntKind.wrap .u64 ((BitVec.ofInt 64 ((n * 256 : Nat) : Int) ||| BitVec.ofInt 64 (c.toNat : Int)).toNat : Int))) w
  have e4 : (BitVec.ofInt 64 ((n * 256 : Nat) : Int) ||| BitVec.ofInt 64 (c.toNat : Int)).toNat = n * 256 + c.toNat := by
    rw [BitVec.toNat_or, BitVec.ofInt_natCast, BitVec.ofInt_natCast, BitVec.toNat_ofNat, BitVec.toNat_ofNat, Nat.mod_eq_of_lt (by omega), Nat.mod_eq_of_lt (by omega)]
    have := Nat.two_pow_add_eq_or_of_lt (i := 8) (b := c.toNat) (by omega) n
    rw [Nat.mul_comm n 256]
    exact this.symm
  rw [e4, wrap64 _ (by omega) (by omega)]
  exact this⟩
theorem E_bz {ty t0 t1 T : Nat} {kk : IntKind} {k : Nat} {v : Value} {l : List UInt8} (hu : P.underlying t0 = some (.slice T)) (hk : P.underlying t1 = some (.int kk)) (he : Elt P T 1 1 [.int .u8 0])
    (hb : l.length + k ≤ 140737488355328) (h : ∀ v' [CellI v'], E B (sls cB T 1 v' (l ++ List.replicate k 0) :: H) (K v')) : E B (sls cB T 1 v l :: H) (V P (Builtin.append_ #[t0, t1] ty #[v, .int .i64 (k : Int)]) K) := by
  refine E_bytesS ?_
  refine E_appz (k := (k : Int)) hu hk he (by simp [isCell]) (by omega) (by rw [Int.toNat_natCast]; omega) (by rw [Int.toNat_natCast]; omega) (by omega) (by omega) fun v' _ => ?_
  have h' := h v'
  have e : bcs l ++ rep k [.int .u8 0] = bcs (l ++ List.replicate k 0) := by simp [bcs, rep]
  have e2 : l.length + k = (l ++ List.replicate k (0 : UInt8)).length := by simp
  rw [Int.toNat_natCast, e, e2]
  exact E_bytes h'
theorem E_lenstr {a : List UInt8} (h : E B H (K (.int .i64 a.length))) : E B H (S.lenS (str a) K) := by
  refine E_lenS ?_
  rw [strSize]; exact h
end Go.SL
namespace Go.SL
open Go.RowKit
variable {B : World} {H : List Asrt} {K : Value → WT} {P : Program}
instance ptA_there {a : Asrt} {p : Value} {o : Nat} {cs : List Value} [h : PtA B H p o cs] : PtA B (a :: H) p o cs := ⟨by
  obtain ⟨ad, hp, hr⟩ := h.pf
  exact ⟨ad, hp, fun {w} hw => hr hw.tail⟩⟩
section
variable {α : Type} {enc : α → List Value} {sz : Nat}
end
abbrev cL (b : Bool) : List Value := [.bool b]
instance : Enc cL 1 := ⟨fun _ => rfl, fun x y hy => by simp at hy; subst hy; rfl⟩
abbrev cS (s : List UInt8) : List Value := [str s]
instance : Enc cS 1 := ⟨fun _ => rfl, fun x y hy => by simp at hy; subst hy; rfl⟩
theorem E_stW {b n : Nat} {T : TypeId} {l vs : List Value} {v : Value} {H' : List Asrt} [hf : TakC H b T l H'] [hv : CellsI v vs] [hc : AllC vs] (hn : vs.length = n) (hl : l.length = n)
    (h : E B (cel true b T vs :: H') (K undef)) : E B H (S.st n (.pointer (some ⟨b, 0, none⟩)) v K) :=
  E_stN (hf := hf) (hv := hv) hn hc.pf (by omega) (by unfold setAll; rw [List.drop_of_length_le (by omega)]; simp) h
end Go.SL
namespace Go.SL
open Go.RowKit
class Stp (B : World) (H : List Asrt) (W : WT) (H' : outParam (List Asrt)) (W' : outParam WT) : Prop where
  pf : E B H' W' → E B H W
theorem goS {B : World} {H H' : List Asrt} {W W' : WT} [h : Stp B H W H' W'] (k : E B H' W') : E B H W := h.pf k
section
variable {B : World} {H H' : List Asrt} {K : Value → WT} {P : Program} {b o n m c sz : Nat} {κ : Bool} {T t : TypeId} {l l' vs cs : List Value} {v x : Value} {a : Option Addr} {ad : Addr} {k : IntKind} {i j : Int} {p : Prop} {W A C : WT} {body : (Value → WT) → WT} {rest : Value → WT} {bl : Bool} {s q : List UInt8} {f : FuncId} {xs ys : Array Value}
instance [HasC H b κ T l] [AtI l o v] : Stp B H (S.ld (.pointer (some ⟨b, o, none⟩)) K) H (K v) := ⟨E_ld⟩
instance (priority := low) [PtA B H v o cs] [AtI cs o x] : Stp B H (S.ld v K) H (K x) := ⟨E_ptld⟩
instance (priority := high) : Stp B H (S.fad (.pointer (some ⟨b, 0, none⟩)) n K) H (K (.pointer (some ⟨b, n, none⟩))) := ⟨E_fad0⟩
instance : Stp B H (S.fad (.pointer (some ⟨b, o, none⟩)) n K) H (K (.pointer (some ⟨b, o + n, none⟩))) := ⟨E_fad⟩
instance : Stp B H (S.nc (.pointer (some ad)) K) H (K (.pointer (some ad))) := ⟨E_nc⟩
instance : Stp B H (S.nc (.func (.func f) xs ys) K) H (K (.func (.func f) xs ys)) := ⟨E_nc_f⟩
instance : Stp B H (S.nc (.iface t x) K) H (K (.iface t x)) := ⟨E_nc_i⟩
instance : Stp B H (S.cond (.bool true) A C) H A := ⟨E_tt⟩
instance : Stp B H (S.cond (.bool false) A C) H C := ⟨E_ff⟩
instance (priority := high) [TakC H b T l H'] [SetI l o v l'] [CellI v] : Stp B H (S.st 1 (.pointer (some ⟨b, o, none⟩)) v K) (cel true b T l' :: H') (K undef) := ⟨E_st⟩
instance [TakC H b T l H'] [CellsI v vs] [AllC vs] [AtLen vs n] [SetsI l o vs l'] : Stp B H (S.st n (.pointer (some ⟨b, o, none⟩)) v K) (cel true b T l' :: H') (K undef) := ⟨E_stA⟩
instance : Stp B H (S.len (.slice a n c) K) H (K (.int .i64 n)) := ⟨E_len⟩
instance (priority := low) {α : Type} {enc : α → List Value} {u : List α} [Rs B H v enc u] : Stp B H (S.len v K) H (K (.int .i64 u.length)) := ⟨E_rslen⟩
instance (priority := high) : Stp B H (S.lenS (str s) K) H (K (.int .i64 s.length)) := ⟨E_lenstr⟩
instance : Stp B H (S.cap (.slice a n c) K) H (K (.int .i64 c)) := ⟨E_cap⟩
instance : Stp B H (S.bin .eql (.int k i) (.int k j) K) H (K (.bool (decide (i = j)))) := ⟨E_eql⟩
instance : Stp B H (S.bin .neq (.int k i) (.int k j) K) H (K (.bool (decide (i ≠ j)))) := ⟨E_neq⟩
instance : Stp B H (S.bin .lss (.int k i) (.int k j) K) H (K (.bool (decide (i < j)))) := ⟨E_lss⟩
instance : Stp B H (S.bin .leq (.int k i) (.int k j) K) H (K (.bool (decide (i ≤ j)))) := ⟨E_leq⟩
instance : Stp B H (S.bin .gtr (.int k i) (.int k j) K) H (K (.bool (decide (j < i)))) := ⟨E_gtr⟩
instance : Stp B H (S.bin .geq (.int k i) (.int k j) K) H (K (.bool (decide (j ≤ i)))) := ⟨E_geq⟩
instance [AtI l n v] : Stp B H (S.ext (.tuple l.toArray) n K) H (K v) := ⟨E_ext⟩
instance [AtI l o v] : Stp B H (S.prt false o n (.agg l.toArray) K) H (K v) := ⟨E_prt⟩
instance : Stp B H (S.mx (.int k i) (.int k j) K) H (K (.int k (max i j))) := ⟨E_mx⟩
instance : Stp B H (S.mn (.int k i) (.int k j) K) H (K (.int k (min i j))) := ⟨E_mn⟩
instance : Stp B H (S.gd undef bl body rest) H (rest undef) := ⟨E_gdu⟩
instance : Stp B H (S.dr W) H W := ⟨E_dr⟩
instance [Decidable p] : Stp B H (S.not1 (.bool (decide p)) K) H (K (.bool (decide (¬ p)))) := ⟨E_not⟩
instance (priority := high) : Stp B H (S.not1 (.bool true) K) H (K (.bool false)) := ⟨fun h => E_notb (c := true) h⟩
instance (priority := high) : Stp B H (S.not1 (.bool false) K) H (K (.bool true)) := ⟨fun h => E_notb (c := false) h⟩
instance {z : ByteArray} : Stp B H (S.str1 (.string z) K) H (K (.string z)) := ⟨E_str1⟩
instance : Stp B H (S.rck [] W) H W := ⟨E_rck0⟩
instance : Stp B H (S.gd (.bool false) true body rest) H (rest undef) := ⟨E_gff⟩
instance : Stp B H (S.gd (.bool true) false body rest) H (rest undef) := ⟨E_gtt⟩
instance : Stp B H (S.gd (.bool false) false body rest) H (body rest) := ⟨E_gft⟩
instance : Stp B H (S.gd (.bool true) true body rest) H (body rest) := ⟨E_gtf⟩
instance : Stp B H (S.pick (.bool false) v x K) H (K x) := ⟨E_pff⟩
instance : Stp B H (S.pick (.bool true) v x K) H (K v) := ⟨E_ptt⟩
instance (priority := high) : Stp B H (S.sbin .eql (str s) (str s) K) H (K (.bool true)) := ⟨E_streqS⟩
instance (priority := high) : Stp B H (S.sbin .neq (str s) (str s) K) H (K (.bool false)) := ⟨E_strneS⟩
instance : Stp B H (S.sbin .eql (str s) (str q) K) H (K (.bool (decide (s = q)))) := ⟨E_streq⟩
instance : Stp B H (S.sbin .neq (str s) (str q) K) H (K (.bool (decide (s ≠ q)))) := ⟨E_strne⟩
instance [HasC H b κ T l] [AtLen l n] : Stp B H (S.ldN n (.pointer (some ⟨b, 0, none⟩)) K) H (K (.agg l.toArray)) := ⟨E_ldNA⟩
instance (priority := low) [PtA B H v 0 cs] [AtLen cs n] : Stp B H (S.ldN n v K) H (K (.agg cs.toArray)) := ⟨E_ptldA⟩
end
class StT (B : World) (H : List Asrt) (W : WT) (p : outParam Prop) (W' : outParam WT) : Prop where
  pf : p → E B H W' → E B H W
class StF (B : World) (H : List Asrt) (W : WT) (p : outParam Prop) (W' : outParam WT) : Prop where
  pf : ¬ p → E B H W' → E B H W
theorem goT {B : World} {H : List Asrt} {W W' : WT} {p : Prop} [h : StT B H W p W'] (hp : p) (k : E B H W') : E B H W := h.pf hp k
theorem goF {B : World} {H : List Asrt} {W W' : WT} {p : Prop} [h : StF B H W p W'] (hp : ¬ p) (k : E B H W') : E B H W := h.pf hp k
section
variable {B : World} {H : List Asrt} {K : Value → WT} {A C : WT} {p : Prop} [Decidable p] {a b : Value} {body : (Value → WT) → WT} {rest : Value → WT}
instance : StT B H (S.cond (.bool (decide p)) A C) p A := ⟨fun hp h => E_ifT hp h⟩
instance : StF B H (S.cond (.bool (decide p)) A C) p C := ⟨fun hp h => E_ifF hp h⟩
instance : StT B H (S.gd (.bool (decide p)) true body rest) p (body rest) := ⟨fun hp h => E_gdT hp h⟩
instance : StF B H (S.gd (.bool (decide p)) true body rest) p (rest undef) := ⟨fun hp h => E_gdF hp h⟩
instance : StT B H (S.gd (.bool (decide p)) false body rest) p (rest undef) := ⟨fun hp h => E_gdnT hp h⟩
instance : StF B H (S.gd (.bool (decide p)) false body rest) p (body rest) := ⟨fun hp h => E_gdnF hp h⟩
instance : StT B H (S.pick (.bool (decide p)) a b K) p (K a) := ⟨fun hp h => E_pickT hp h⟩
instance : StF B H (S.pick (.bool (decide p)) a b K) p (K b) := ⟨fun hp h => E_pickF hp h⟩
end
end Go.SL
namespace Go.SL
open Go.RowKit
variable {B : World} {H : List Asrt} {K : Value → WT} {P : Program}
section
variable {α : Type} {Q : α → List Chunk → Prop}
end
section
variable {α : Type} {enc : α → List Value} {sz : Nat}
end
section
variable {κ : Type} [DecidableEq κ] {enc : κ → Value}
end
theorem strLt (a b : List UInt8) : Op.bytesLess a b = decide (a < b) := Go.Proofs.bytesLess_eq a b
theorem E_strlt {a b : List UInt8} (h : E B H (K (.bool (decide (a < b))))) : E B H (S.sbin .lss (str a) (str b) K) := fun w hw => by
  have := h w hw
  unfold S.sbin
  simp only [baToList]
  have e : Op.bytesLess a b = decide (a < b) := strLt a b
  show K (.bool (Op.bytesLess a b)) w
  rw [e]; exact this
theorem le_or (a b : List UInt8) : decide (a ≤ b) = (decide (a < b) || a == b) := by
  by_cases h1 : a < b
  · have : a ≤ b := List.le_of_lt h1
    simp [h1, this]
  · by_cases h2 : a = b
    · subst h2; simp
    · have : ¬ a ≤ b := fun h => h2 (List.le_antisymm h h1)
      simp [h1, h2, this]
theorem E_strle {a b : List UInt8} (h : E B H (K (.bool (decide (a ≤ b))))) : E B H (S.sbin .leq (str a) (str b) K) := fun w hw => by
  have := h w hw
  unfold S.sbin
  simp only [baToList]
  show K (.bool (Op.bytesLess a b || a == b)) w
  rw [strLt, ← le_or]; exact this
instance {a b : List UInt8} : Stp B H (S.sbin .lss (str a) (str b) K) H (K (.bool (decide (a < b)))) := ⟨E_strlt⟩
instance {a b : List UInt8} : Stp B H (S.sbin .leq (str a) (str b) K) H (K (.bool (decide (a ≤ b)))) := ⟨E_strle⟩
end Go.SL
namespace Go.SL
open Go.RowKit
class Sta (B : World) (H : List Asrt) (W : WT) (α : outParam Type) (H' : outParam (α → List Asrt)) (W' : outParam (α → WT)) : Prop where
  pf : (∀ x, E B (H' x) (W' x)) → E B H W
theorem gA {B : World} {H : List Asrt} {W : WT} {α : Type} {H' : α → List Asrt} {W' : α → WT} [h : Sta B H W α H' W'] (k : ∀ x, E B (H' x) (W' x)) : E B H W := h.pf k
class StI (B : World) (H : List Asrt) (W : WT) (p : outParam Prop) (W' : outParam WT) : Prop where
  pf : p → E B H W' → E B H W
variable {B : World} {H H' G : List Asrt} {K : Value → WT} {W W' : WT} {o n sz : Nat} {T : TypeId} {cs vs : List Value} {v : Value} {k : IntKind} {i j : Int} {p : Prop} {a : Asrt}
theorem gS [h : Stp B H W H' W'] (k : E B H' W') : E B H W := h.pf k
theorem gT [h : StT B H W p W'] (k : E B H W') (hp : p := by first | assumption | decide) : E B H W := h.pf hp k
theorem gF [h : StF B H W p W'] (k : E B H W') (hp : ¬ p := by first | assumption | decide) : E B H W := h.pf hp k
theorem gI [h : StI B H W p W'] (k : E B H W') (hp : p := by omega) : E B H W := h.pf hp k
theorem gX {α : Type} {enc : α → List Value} {sz : Nat} [hE : Enc enc sz] {v : Value} {l : List α} {i : Nat} {x : α} {k : IntKind} [hf : Rs B H v enc l] (h : ∀ p [PtA B H p 0 (enc x)], E B H (K p)) (hx : l[i]? = some x := by assumption) :
    E B H (S.ixS sz v (.int k (i : Int)) K) := E_rsix hx h
instance [CellsI v vs] : Sta B H (S.box T v K) Nat (fun b => cel true b T vs :: H) (fun b => K (.pointer (some ⟨b, 0, none⟩))) := ⟨E_box⟩
instance {f : (Nat → Value) → WT} : Sta B H (S.fa f) (Nat → Value) (fun _ => H) (fun j => f j) := ⟨E_fa⟩
instance ptA_sub {o : Nat} {cs : List Value} {q : { q : Value // PtA B H q o cs }} : PtA B H q.1 o cs := q.2
instance (priority := high) [PtA B H v 0 cs] : Sta B H (S.fad v n K) { q : Value // PtA B H q n cs } (fun _ => H) (fun q => K q.1) := ⟨fun h => E_ptfad0 fun q i => h ⟨q, i⟩⟩
instance [PtA B H v o cs] : Sta B H (S.fad v n K) { q : Value // PtA B H q (o + n) cs } (fun _ => H) (fun q => K q.1) := ⟨fun h => E_ptfad fun q i => h ⟨q, i⟩⟩
instance : StI B H (S.bin .add (.int .i64 i) (.int .i64 j) K) (-9223372036854775808 ≤ i + j ∧ i + j ≤ 9223372036854775807) (K (.int .i64 (i + j))) := ⟨fun h k => E_addI h.1 h.2 k⟩
instance : StI B H (S.bin .sub (.int .i64 i) (.int .i64 j) K) (-9223372036854775808 ≤ i - j ∧ i - j ≤ 9223372036854775807) (K (.int .i64 (i - j))) := ⟨fun h k => E_subI h.1 h.2 k⟩
instance : StI B H (S.bin .mul (.int .i64 i) (.int .i64 j) K) (-9223372036854775808 ≤ i * j ∧ i * j ≤ 9223372036854775807) (K (.int .i64 (i * j))) := ⟨fun h k => E_mulI h.1 h.2 k⟩
class Fnd (H : List Asrt) (a : Asrt) (H' : outParam (List Asrt)) : Prop where
  pf : Find H a H'
instance (priority := high) fnd_here : Fnd (a :: H) a H := ⟨.here⟩
instance fnd_there {b : Asrt} [h : Fnd H a H'] : Fnd (b :: H) a (b :: H') := ⟨.there h.pf⟩
theorem fd [h : Fnd H a H'] (k : E B (a :: H') W) : E B H W := E_find h.pf k
class Sam (G H : List Asrt) : Prop where
  pf : Same G H
instance (priority := high) sam_refl : Sam H H := ⟨.refl⟩
instance sam_cons [h : Fnd H a H'] [k : Sam G H'] : Sam (a :: G) H := ⟨.cons h.pf k.pf⟩
instance (priority := low) sam_drop [k : Sam G H] : Sam G (a :: H) := ⟨.drop k.pf⟩
theorem sm [h : Sam G H] (k : E B G W) : E B H W := E_same h.pf k
end Go.SL
namespace Go.SL
open Go.RowKit
def gv (c : Bool) (v : Value) : Value := match c with | true => v | false => undef
class Imp (c d : Bool) : Prop where
  pf : c = true → d = true
instance (priority := high) imp_refl {c : Bool} : Imp c c := ⟨id⟩
instance imp_l {a b c : Bool} [h : Imp a c] : Imp (a && b) c := ⟨fun e => h.pf (by revert e; cases a <;> simp)⟩
instance (priority := low) imp_r {a b c : Bool} [h : Imp b c] : Imp (a && b) c := ⟨fun e => h.pf (by revert e; cases a <;> simp)⟩
class Un (c : Bool) (x : Value) (y : outParam Value) : Prop where
  pf : c = true → x = y
instance (priority := high) un_gv {c d : Bool} {y : Value} [h : Imp c d] : Un c (gv d y) y := ⟨fun e => by rw [h.pf e]; rfl⟩
instance (priority := low) un_self {c : Bool} {x : Value} : Un c x x := ⟨fun _ => rfl⟩
class Pb (B : World) (H : List Asrt) (c : Bool) (body : (Value → WT) → WT) (v : outParam Value) : Prop where
  pf : c = true → ∀ K : Value → WT, E B H (K v) → E B H (body K)
class Sty (B : World) (H : List Asrt) (W : WT) (W' : outParam WT) : Prop where
  pf : E B H W' → E B H W
variable {B : World} {H : List Asrt} {K : Value → WT} {W W' : WT} {c d e f : Bool} {x y z u v : Value} {body : (Value → WT) → WT} {rest : Value → WT} {b o n sz : Nat} {κ : Bool} {T : TypeId} {l : List Value} {k : IntKind} {i j : Int} {s q : List UInt8}
instance sty_gd [h : Pb B H c body v] : Sty B H (S.gd (.bool c) true body rest) (rest (gv c v)) := ⟨fun k => by
  cases c with
  | true => exact E_gtf (h.pf rfl _ k)
  | false => exact E_gff k⟩
instance sty_gdn [h : Pb B H (!c) body v] : Sty B H (S.gd (.bool c) false body rest) (rest (gv (!c) v)) := ⟨fun k => by
  cases c with
  | true => exact E_gtt k
  | false => exact E_gft (h.pf rfl _ k)⟩
instance sty_gg [h : Pb B H (d && c) body v] : Sty B H (S.gd (gv d (.bool c)) true body rest) (rest (gv (d && c) v)) := ⟨fun k => by
  cases d with
  | false => exact E_gdu k
  | true => cases c with
    | true => exact E_gtf (h.pf rfl _ k)
    | false => exact E_gff k⟩
instance sty_ggn [h : Pb B H (d && !c) body v] : Sty B H (S.gd (gv d (.bool c)) false body rest) (rest (gv (d && !c) v)) := ⟨fun k => by
  cases d with
  | false => exact E_gdu k
  | true => cases c with
    | true => exact E_gtt k
    | false => exact E_gft (h.pf rfl _ k)⟩
instance (priority := high) sty_pickF [h : Un c x (.bool e)] : Sty B H (S.pick (.bool c) x (.bool false) K) (K (.bool (c && e))) := ⟨fun k => by
  cases c with
  | true => rw [h.pf rfl]; exact E_ptt k
  | false => exact E_pff k⟩
instance (priority := high) sty_pickT [h : Un (!c) x (.bool e)] : Sty B H (S.pick (.bool c) (.bool true) x K) (K (.bool (c || e))) := ⟨fun k => by
  cases c with
  | true => exact E_ptt k
  | false => rw [h.pf rfl]; exact E_pff k⟩
instance sty_pick [h : Un c x u] [h' : Un (!c) y v] : Sty B H (S.pick (.bool c) x y K) (K (bif c then u else v)) := ⟨fun k => by
  cases c with
  | true => rw [h.pf rfl]; exact E_ptt k
  | false => rw [h'.pf rfl]; exact E_pff k⟩
instance : Sty B H (S.not1 (.bool c) K) (K (.bool (!c))) := ⟨fun k => E_notb k⟩
instance : Sty B H (S.beq .eql (.bool c) (.bool d) K) (K (.bool (c == d))) := ⟨fun k => k⟩
instance : Sty B H (S.beq .neq (.bool c) (.bool d) K) (K (.bool (!(c == d)))) := ⟨fun k => k⟩
instance : Sty B H (S.gd undef c body rest) (rest undef) := ⟨fun k => E_gdu k⟩
instance [h : Un c x y] : Pb B H c (fun k => k x) y := ⟨fun e K k => by
  have h' := h.pf e
  subst h'
  exact k⟩
instance (priority := high) [h : Un c x (.pointer (some ⟨b, 0, none⟩))] : Pb B H c (S.fad x n) (.pointer (some ⟨b, n, none⟩)) := ⟨fun e K k => by rw [h.pf e]; exact E_fad0 k⟩
instance [h : Un c x (.pointer (some ⟨b, o, none⟩))] : Pb B H c (S.fad x n) (.pointer (some ⟨b, o + n, none⟩)) := ⟨fun e K k => by rw [h.pf e]; exact E_fad k⟩
instance [h : Un c x (.pointer (some ⟨b, o, none⟩))] [HasC H b κ T l] [AtI l o v] : Pb B H c (S.ld x) v := ⟨fun e K k => by rw [h.pf e]; exact E_ld k⟩
instance [h : Un c x (.pointer (some ⟨b, 0, none⟩))] [HasC H b κ T l] [AtLen l n] : Pb B H c (S.ldN n x) (.agg l.toArray) := ⟨fun e K k => by rw [h.pf e]; exact E_ldNA k⟩
class SubI (l : List Value) (o n : Nat) (m : outParam (List Value)) : Prop where
  pf : (l.drop o).take n = m ∧ m.length = n
instance (priority := low) {l' : List Value} [h : Un c x (.pointer (some ⟨b, o, none⟩))] [HasC H b κ T l] [hs : SubI l o n l'] : Pb B H c (S.ldN n x) (.agg l'.toArray) := ⟨fun e K k => by rw [h.pf e]; exact E_ldN hs.pf.1 hs.pf.2 k⟩
instance (priority := low) {l' : List Value} [HasC H b κ T l] [hs : SubI l o n l'] : Sty B H (S.ldN n (.pointer (some ⟨b, o, none⟩)) K) (K (.agg l'.toArray)) := ⟨fun k => E_ldN hs.pf.1 hs.pf.2 k⟩
instance (priority := low) {α : Type} {enc : α → List Value} {l : List α} [h : Un c x y] [Rs B H y enc l] : Pb B H c (S.len x) (.int .i64 l.length) := ⟨fun e K k => by rw [h.pf e]; exact E_rslen k⟩
instance {a : Option Addr} {m : Nat} [h : Un c x (.slice a n m)] : Pb B H c (S.len x) (.int .i64 n) := ⟨fun e K k => by rw [h.pf e]; exact E_len k⟩
instance [h : Un c x (str s)] : Pb B H c (S.lenS x) (.int .i64 s.length) := ⟨fun e K k => by rw [h.pf e]; exact E_lenstr k⟩
instance [h : Un c x (.bool d)] : Pb B H c (S.not1 x) (.bool (!d)) := ⟨fun e K k => by rw [h.pf e]; exact E_notb k⟩
instance [h : Un c x (.int k i)] [h' : Un c y (.int k j)] : Pb B H c (S.bin .eql x y) (.bool (decide (i = j))) := ⟨fun e K k => by rw [h.pf e, h'.pf e]; exact E_eql k⟩
instance [h : Un c x (.int k i)] [h' : Un c y (.int k j)] : Pb B H c (S.bin .neq x y) (.bool (decide (i ≠ j))) := ⟨fun e K k => by rw [h.pf e, h'.pf e]; exact E_neq k⟩
instance [h : Un c x (.int k i)] [h' : Un c y (.int k j)] : Pb B H c (S.bin .lss x y) (.bool (decide (i < j))) := ⟨fun e K k => by rw [h.pf e, h'.pf e]; exact E_lss k⟩
instance [h : Un c x (.int k i)] [h' : Un c y (.int k j)] : Pb B H c (S.bin .leq x y) (.bool (decide (i ≤ j))) := ⟨fun e K k => by rw [h.pf e, h'.pf e]; exact E_leq k⟩
instance [h : Un c x (.int k i)] [h' : Un c y (.int k j)] : Pb B H c (S.bin .gtr x y) (.bool (decide (j < i))) := ⟨fun e K k => by rw [h.pf e, h'.pf e]; exact E_gtr k⟩
instance [h : Un c x (.int k i)] [h' : Un c y (.int k j)] : Pb B H c (S.bin .geq x y) (.bool (decide (j ≤ i))) := ⟨fun e K k => by rw [h.pf e, h'.pf e]; exact E_geq k⟩
instance [h : Un c x (str s)] [h' : Un c y (str q)] : Pb B H c (S.sbin .eql x y) (.bool (decide (s = q))) := ⟨fun e K k => by rw [h.pf e, h'.pf e]; exact E_streq k⟩
instance [h : Un c x (str s)] [h' : Un c y (str q)] : Pb B H c (S.sbin .neq x y) (.bool (decide (s ≠ q))) := ⟨fun e K k => by rw [h.pf e, h'.pf e]; exact E_strne k⟩
instance [h : Un c x (.bool d)] [h' : Un c y (.bool e)] : Pb B H c (S.beq .eql x y) (.bool (d == e)) := ⟨fun e K k => by rw [h.pf e, h'.pf e]; exact k⟩
instance (priority := high) pb_pickF [h : Un c x (.bool d)] [h' : Un (c && d) y (.bool e)] : Pb B H c (S.pick x y (.bool false)) (.bool (d && e)) := ⟨fun hc K k => by
  rw [h.pf hc]
  cases d with
  | true => rw [h'.pf (by simp [hc])]; exact E_ptt k
  | false => exact E_pff k⟩
instance (priority := high) pb_pickT [h : Un c x (.bool d)] [h' : Un (c && !d) y (.bool e)] : Pb B H c (S.pick x (.bool true) y) (.bool (d || e)) := ⟨fun hc K k => by
  rw [h.pf hc]
  cases d with
  | true => exact E_ptt k
  | false => rw [h'.pf (by simp [hc])]; exact E_pff k⟩
end Go.SL
namespace Go.SL
open Go.RowKit
variable {P : Program}
def EqG (P : Program) (n : Nat) (t : TypeId) (x y : Value) (b : Bool) : Prop := ∀ d w, (Op.equalIn (d + n) t x y).run P w = .ok b w
theorem EqG.up {n k : Nat} {t : TypeId} {x y : Value} {b : Bool} (h : EqG P n t x y b) (hk : n ≤ k) : EqG P k t x y b := fun d w => by
  have := h (d + (k - n)) w
  rwa [show d + (k - n) + n = d + k by omega] at this
theorem EqV.g {t : TypeId} {x y : Value} {b : Bool} (h : EqV P t x y b) : EqG P 1 t x y b := h.2
theorem EqG.equal {n : Nat} {t : TypeId} {x y : Value} {b : Bool} (h : EqG P n t x y b) (hn : n ≤ 10000) (w : World) : (Op.equal t x y).run P w = .ok b w := by
  have := h (10000 - n) w
  rwa [show 10000 - n + n = 10000 by omega] at this
def PartG (P : Program) (t : TypeId) (xs : Array Value) (o : Nat) (x : Value) : Prop := ∀ w, (part t xs o).run P w = .ok x w
theorem partG_cell {t : TypeId} {xs : Array Value} {o : Nat} {x : Value} (h : cellT P t = true) (hx : xs[o]? = some x) : PartG P t xs o x := fun _ => run_part h hx
theorem partG_agg {t : TypeId} {xs : List Value} {o n : Nat} {ys : List Value} (hi : (P.info? t).map (fun i => i.size) = some n) (hd : (match P.underlying t with | some (.struct _) | some (.array _ _) => true | _ => false) = true) (hy : (xs.drop o).take n = ys) : PartG P t xs.toArray o (.agg ys.toArray) := fun w => by
  obtain ⟨i, hi, hn⟩ := Option.map_eq_some_iff.1 hi
  have hagg : (isAgg t).run P w = .ok true w := by
    unfold isAgg
    cases hu : P.underlying t with
    | none => rw [hu] at hd; cases hd
    | some d =>
      rw [hu] at hd
      rw [run_bind, run_underlying' hu]
      cases d <;> first | rfl | (simp at hd; done)
  unfold part
  rw [run_bind, hagg]
  simp only [if_true, run_bind, run_size' hi, hn, run_pure]
  congr 3
  apply Array.ext'
  rw [Array.toList_extract, ← hy, List.extract_eq_take_drop, Nat.add_sub_cancel_left]
theorem eqg_fields {n d : Nat} {xs ys : Array Value} {w : World} : ∀ (fs : List Field) (bs : List Bool), fs.length = bs.length →
    (∀ (i : Nat) (f : Field) (b : Bool), fs[i]? = some f → bs[i]? = some b → f.name ≠ "_" ∧ ∃ x y, PartG P f.type xs f.offset x ∧ PartG P f.type ys f.offset y ∧ EqG P n f.type x y b) → (Op.eqFields (d + n) xs ys fs).run P w = .ok (bs.all id) w
  | [], [], _, _ => rfl
  | f :: fs, [], hl, _ => by simp at hl
  | [], b :: bs, hl, _ => by simp at hl
  | f :: fs, b :: bs, hl, h => by
    obtain ⟨hn, x, y, hx, hy, he⟩ := h 0 f b rfl rfl
    have ih := eqg_fields (n := n) (d := d) (xs := xs) (ys := ys) (w := w) fs bs (by simpa using hl) fun i f b hf hb => h (i + 1) f b hf hb
    unfold Op.eqFields
    rw [if_pos hn]
    simp only [run_bind, hx w, hy w, he d w]
    cases b with
    | false => simp [run_pure]
    | true => simp only [Bool.not_true, Bool.false_eq_true, if_false, ih]; simp
theorem eqg_struct {n : Nat} {t : TypeId} {xs ys : List Value} {bs : List Bool} (ts : List (TypeId × Nat))
    (hS : P.underlying t = some (.struct (P.fieldsOf t))) (hp : P.stoodInHeld t = false)
    (hf : (P.fieldsOf t).toList.map (fun f : Field => (f.name == "_", f.type, f.offset)) = ts.map fun (t, i) => (false, t, i))
    (hl : ts.length = bs.length) (he : ∀ (i : Nat) (t : TypeId) (o : Nat) (b : Bool), ts[i]? = some (t, o) → bs[i]? = some b → ∃ x y, PartG P t xs.toArray o x ∧ PartG P t ys.toArray o y ∧ EqG P n t x y b) :
    EqG P (n + 1) t (.agg xs.toArray) (.agg ys.toArray) (bs.all id) := fun d w => by
  rw [show d + (n + 1) = (d + n) + 1 by omega, run_equalIn_agg w (d + n) t _ _ hS hp]
  have hlen : (P.fieldsOf t).toList.length = bs.length := by have := congrArg List.length hf; simp at this; rw [← hl]; simpa using this
  refine eqg_fields _ _ hlen fun i f b hfi hbi => ?_
  have hlt : i < ts.length := by rw [hl]; exact (List.getElem?_eq_some_iff.1 hbi).1
  have h1 := congrArg (fun l => l[i]?) hf
  simp only [List.getElem?_map, hfi, Option.map_some, List.getElem?_eq_getElem hlt, Option.some.injEq, Prod.mk.injEq] at h1
  obtain ⟨x, y, hx, hy, hE⟩ := he i ts[i].1 ts[i].2 b (List.getElem?_eq_getElem hlt) hbi
  rw [h1.2.1, h1.2.2]
  exact ⟨by simpa using h1.1, x, y, hx, hy, hE⟩
theorem eqg_bytes {t e : TypeId} {n : Nat} {xs ys : List UInt8} (ht : P.underlying t = some (.array n e)) (he : P.underlying e = some (.int .u8)) (hsz : ∀ w, (sizeOf e).run P w = .ok 1 w) (hx : xs.length = n) (hy : ys.length = n) :
    EqG P 2 t (.agg (bcs xs).toArray) (.agg (bcs ys).toArray) (decide (xs = ys)) := fun d w => by
  have := run_equalIn_bytes (P := P) w d t e n ht he hsz xs ys hx hy
  have e : (xs == ys) = decide (xs = ys) := by rw [Bool.eq_iff_iff]; simp
  rw [e] at this
  exact this
end Go.SL
end
