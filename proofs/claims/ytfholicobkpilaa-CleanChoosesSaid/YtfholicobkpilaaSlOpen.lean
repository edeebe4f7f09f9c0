/-
  What the reading of a row says of arguments: bytes, bools, ints.
-/
import Derived.Test.YtfholicobkpilaaSlMapX
import Derived.Deep.Slices
import Derived.Deep.Grids
import Derived.SizedLaws
set_option linter.unusedSimpArgs false
set_option linter.unusedVariables false
set_option linter.unusedSectionVars false
namespace Go.SL
open Go.RowKit Go.ChangeShapes
variable {H : Type} {enc : TypeId × Value → H} {P : Program} {w : World} {fuel : Nat} {held : Bool}

def bools (l : List Bool) : List Value := l.map Value.bool
@[simp] theorem bools_length (l : List Bool) : (bools l).length = l.length := by simp [bools]
theorem u8_back {z : Int} (h : (Lit.int .u8 z).wf = true) : (Value.int .u8 z) = .int .u8 (UInt8.ofNat z.toNat).toNat := by
  have : 0 ≤ z ∧ z ≤ 255 := by
    unfold Lit.wf at h
    simp only [IntKind.min, IntKind.max, Bool.and_eq_true, decide_eq_true_eq] at h
    simp [IntKind.signed, IntKind.bits] at h
    omega
  simp
  omega
theorem trod_bytes {t e : TypeId} {cs : List Value} {x : DataW H × List MemPlace} (ht : P.underlying t = some (.slice e)) (he : P.underlying e = some (.int .u8)) (hc : P.cellsOf e = 1) (hb : P.bytesOf e = 1)
    (h : DataW.trod enc P w 0 (fun _ => true) held fuel t cs = some x) :
    ∃ v bs, cs = [v] ∧ CellI v ∧ rdB w v bs ∧ ∀ R, (∀ n ∈ x.1.weights P t, n ≤ R) → bs.length ≤ R := by
  rcases open_ints ht he hc h with ⟨rfl, rfl⟩ | ⟨a, len, cap, zs, rfl, _, hl, _, hz, rfl, hcell, hwf⟩
  · exact ⟨.slice none 0 0, [], rfl, ⟨rfl⟩, .inl ⟨rfl, rfl⟩, fun R _ => Nat.zero_le _⟩
  · simp only [if_true] at hz
    have hlen : ((zs.take len).map fun z => UInt8.ofNat z.toNat).length = len := by simp; omega
    refine ⟨.slice (some a) len cap, (zs.take len).map fun z => UInt8.ofNat z.toNat, rfl, ⟨rfl⟩, .inr ⟨a, cap, ?_, ?_, fun j hj => ?_⟩, fun R hR => ?_⟩
    · rw [hlen]
    · rw [hlen]; exact hl
    · rw [hlen] at hj
      have hjz : j < zs.length := by omega
      rw [hcell j hjz]
      simp only [bcs, List.map_map, List.getElem?_map, List.getElem?_take_of_lt hj, List.getElem?_eq_getElem hjz, Option.map_some, Function.comp, Option.some.injEq]
      rw [List.getD_eq_getElem?_getD, List.getElem?_eq_getElem hjz]
      exact u8_back (hwf _ (List.getElem_mem hjz))
    · have := hR (((lits (H := H) .u8 (zs.take len)).length + (lits (H := H) .u8 (zs.drop len)).length) * P.bytesOf e) (by simp [DataW.weights, ht])
      rw [hb] at this
      simp only [lits, List.length_map, List.length_take, List.length_drop, Nat.mul_one] at this
      rw [hlen]; omega
theorem trod_boolrow {t e : TypeId} {cs : List Value} {x : DataW H × List MemPlace} (ht : P.underlying t = some (.slice e)) (he : P.underlying e = some .bool) (hc : P.cellsOf e = 1)
    (h : DataW.trod enc P w 0 (fun _ => true) held fuel t cs = some x) :
    ∃ v bs, cs = [v] ∧ CellI v ∧ rdX w v bs.length (bools bs) := by
  rcases Go.Deep.open_bools ht he hc h with ⟨rfl, rfl⟩ | ⟨a, len, cap, f, rfl, _, hl, _, rfl, hcell⟩
  · exact ⟨.slice none 0 0, [], rfl, ⟨rfl⟩, .inl ⟨rfl, rfl, rfl⟩⟩
  · refine ⟨.slice (some a) len cap, (List.range len).map f, rfl, ⟨rfl⟩, .inr ⟨a, cap, by simp, by simpa using hl, fun j hj => ?_⟩⟩
    have hj' : j < len := by simpa using hj
    rw [hcell j (by omega)]
    simp [bools, hj']
theorem mem_weightsAll {e : TypeId} {n : Nat} : ∀ {ds : List (DataW H)} {d : DataW H}, d ∈ ds → n ∈ d.weights P e → n ∈ DataW.weightsAll P e ds
  | d0 :: ds, d, hd, hn => by
    simp only [DataW.weightsAll, List.mem_append]
    rcases List.mem_cons.1 hd with rfl | hd
    · exact .inl hn
    · exact .inr (mem_weightsAll hd hn)
/-- A list of what each number below n has. -/
theorem list_of {α : Type} {p : Nat → α → Prop} (n : Nat) (h : ∀ i, i < n → ∃ a, p i a) : ∃ l : List α, l.length = n ∧ ∀ i a, l[i]? = some a → p i a := by
  induction n with
  | zero => exact ⟨[], rfl, fun i a h => by simp at h⟩
  | succ n ih =>
    obtain ⟨l, hl, hp⟩ := ih fun i hi => h i (by omega)
    obtain ⟨a, ha⟩ := h n (by omega)
    refine ⟨l ++ [a], by simp [hl], fun i b hb => ?_⟩
    rcases Nat.lt_or_ge i n with hi | hi
    · rw [List.getElem?_append_left (by omega)] at hb; exact hp i b hb
    · rw [List.getElem?_append_right (by omega)] at hb
      cases hq : i - l.length with
      | zero => rw [hq] at hb; simp at hb; subst hb; have : i = n := by omega
                rw [this]; exact ha
      | succ k => rw [hq] at hb; simp at hb
theorem trod_int' {t : TypeId} {cs : List Value} {x : DataW H × List MemPlace} {k : IntKind} (ht : P.underlying t = some (.int k)) (h : DataW.trod enc P w 0 (fun _ => true) held fuel t cs = some x) :
    ∃ n, cs = [.int k n] ∧ (Lit.int k n).wf = true := by
  cases fuel with
  | zero => simp [DataW.trod] at h
  | succ n =>
    unfold DataW.trod at h
    rw [ht] at h
    split at h <;> simp_all
/-- A struct's fields, each as its own reading. -/
theorem trod_fields {t : TypeId} {cs : List Value} {x : DataW H × List MemPlace} (l : List (TypeId × Nat))
    (hl : (match P.underlying t with | some (.struct fs) => some (fs.toList.map fun f => (f.type, f.offset)) | _ => none) = some l)
    (h : DataW.trod enc P w 0 (fun _ => true) held fuel t cs = some x) :
    cs.length = P.cellsOf t ∧ ∃ n, ∀ (i : Nat) (p : TypeId × Nat), l[i]? = some p → ∃ y, DataW.trod enc P w 0 (fun _ => true) held n p.1 ((cs.drop p.2).take (P.cellsOf p.1)) = some y ∧ ∀ k ∈ y.1.weights P p.1, k ∈ x.1.weights P t := by
  cases hu : P.underlying t with
  | none => simp [hu] at hl
  | some d =>
    rw [hu] at hl
    cases d <;> simp only [Option.some.injEq, reduceCtorEq] at hl
    rename_i fs
    obtain ⟨xs, m, _, hx, hcl, hxl, hf⟩ := DataW.trod_struct hu h
    refine ⟨hcl, m, fun i p hp => ?_⟩
    have hp' : (fs.toList.map fun f => (f.type, f.offset))[i]? = some p := by rw [hl]; exact hp
    rw [List.getElem?_map] at hp'
    cases hfi : fs.toList[i]? with
    | none => simp [hfi] at hp'
    | some f =>
      rw [hfi] at hp'
      simp only [Option.map_some, Option.some.injEq] at hp'
      subst hp'
      have hfa : fs[i]? = some f := by rw [← Array.getElem?_toList]; exact hfi
      have hlt : i < xs.length := by rw [hxl]; exact (Array.getElem?_eq_some_iff.1 hfa).1
      have := hf i f hfa
      rw [List.getElem?_eq_getElem hlt] at this
      refine ⟨xs[i], this, fun k hk => ?_⟩
      rw [hx]
      simp only [DataW.weights, hu]
      exact DataW.weights_mem_each (j := i) (t := f.type) (d := xs[i].1) (by simp [hfi]) (by simp [hlt]) k hk
end Go.SL
