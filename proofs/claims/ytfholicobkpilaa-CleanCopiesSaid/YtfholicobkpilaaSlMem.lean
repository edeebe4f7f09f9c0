/-
  Rules for what makes memory: make, append, slices written out.
-/
import Derived.Test.YtfholicobkpilaaSlRules
set_option linter.unusedSimpArgs false
set_option linter.unusedVariables false
set_option linter.unusedSectionVars false
namespace Go.SL
open Go.RowKit
variable {B : World} {H : List Asrt} {K : Value → WT} {P : Program}

theorem E_Vok {s : Sem Value} (h : ∀ w, sat B H w → ∃ v w', s.run P w = .ok v w' ∧ K v w') : E B H (V P s K) := fun w hw => by
  obtain ⟨v, w', hr, hk⟩ := h w hw
  unfold V; rw [hr]; exact hk
theorem E_Uok {s : Sem Unit} (h : ∀ w, sat B H w → ∃ w', s.run P w = .ok () w' ∧ K undef w') : E B H (U P s K) := fun w hw => by
  obtain ⟨w', hr, hk⟩ := h w hw
  unfold U; rw [hr]; exact hk
theorem sat_cel_new {w : World} (h : sat B H w) (T : TypeId) (l : List Value) (fr : Nat × Nat) (hfr : fr.1 = fr.2 ∨ l.length ≤ fr.1) :
    sat B (cel true w.heap.size T l :: H) { w with heap := w.heap.push (.cells l.toArray T fr) } := by
  obtain ⟨hb, ch, ⟨l1, l2, e, h1, h2⟩, hc⟩ := h.new (.cells l.toArray T fr)
  exact ⟨hb, ch, ⟨l1, l2, e, ⟨fr, fun _ => hfr, h1⟩, h2⟩, hc⟩

/-- A type's zero value in cells, how many they are, how many bytes. -/
structure Elt (P : Program) (T : TypeId) (sz by_ : Nat) (z : List Value) : Prop where
  pf : ∃ i zv, P.info? T = some i ∧ i.size = sz ∧ i.bytes = by_ ∧ i.zero = some zv ∧ zv.cells.toList = z ∧ z.length = sz

def rep (n : Nat) (z : List Value) : List Value := (List.replicate n z).flatten
theorem rep_length (n : Nat) (z : List Value) : (rep n z).length = n * z.length := by
  induction n with
  | zero => simp [rep]
  | succ n ih => simp only [rep, List.replicate_succ, List.flatten_cons, List.length_append] at ih ⊢; rw [ih, Nat.succ_mul, Nat.add_comm]
theorem rep_get (n : Nat) (z : List Value) (i : Nat) (h : i < n * z.length) : (rep n z)[i]? = z[i % z.length]? := by
  induction n generalizing i with
  | zero => simp at h
  | succ n ih =>
    simp only [rep, List.replicate_succ, List.flatten_cons]
    by_cases hi : i < z.length
    · rw [List.getElem?_append_left hi, Nat.mod_eq_of_lt hi]
    · have hp : 0 < z.length := by
        rcases Nat.eq_zero_or_pos z.length with h0 | h0
        · rw [h0] at h; simp at h
        · exact h0
      rw [List.getElem?_append_right (by omega)]
      have := ih (i - z.length) (by rw [Nat.succ_mul] at h; omega)
      simp only [rep] at this
      rw [this]
      congr 1
      rw [Nat.mod_eq_sub_mod (by omega : i ≥ z.length)]
theorem zero_cells (z : Array Value) (n : Nat) (hz : z.size ≠ 0 ∨ n = 0) : ((Array.range (n * z.size)).map fun i => z[i % z.size]!) = (rep n z.toList).toArray := by
  apply Array.ext_getElem?
  intro i
  rcases hz with hz | rfl
  · simp only [Array.getElem?_map, List.getElem?_toArray]
    by_cases hi : i < n * z.size
    · rw [rep_get _ _ _ (by simpa using hi)]
      have hm : i % z.size < z.size := Nat.mod_lt _ (by omega)
      simp [Array.getElem?_range, hi, getElem!_pos z (i % z.size) hm, Array.getElem?_eq_getElem hm]
    · have : (rep n z.toList)[i]? = none := by
        rw [List.getElem?_eq_none_iff, rep_length]; simpa using hi
      rw [this]
      simp [Array.getElem?_range, hi]
  · simp [rep]

theorem E_mkS {t T : TypeId} {sz by_ : Nat} {z : List Value} {l c : Int} (hu : P.underlying t = some (.slice T)) (he : Elt P T sz by_ z) (h0 : 0 ≤ l) (h1 : l ≤ c) (h2 : by_ * c ≤ 140737488355328) (h3 : c ≤ 9223372036854775807)
    (h : ∀ b, E B (cel true b T (rep c.toNat z) :: H) (K (.slice (some ⟨b, 0, none⟩) l.toNat c.toNat))) : E B H (V P (Instr.makeSlice t (.int .i64 l) (.int .i64 c)) K) := by
  obtain ⟨i, zv, hi, hs, hb, hz, hzl, hzn⟩ := he.pf
  refine E_Vok fun w hw => ⟨_, _, ?_, h _ _ (sat_cel_new hw T (rep c.toNat z) (0, 0) (by simp))⟩
  unfold Instr.makeSlice
  simp only [run_bind, run_underlying' hu, asInt, asIntOf, run_pure, run_info' hi]
  have hwl : IntKind.i64.wrap l = l := wrapI (by omega) (by omega)
  have hwc : IntKind.i64.wrap c = c := wrapI (by omega) (by omega)
  have e48 : (2 : Int) ^ 48 = 281474976710656 := by decide
  have ht : ¬ ((decide (IntKind.i64.wrap c < 0) || decide (↑i.bytes * IntKind.i64.wrap c > 2 ^ 48) || decide (IntKind.i64.wrap l < 0) || decide (IntKind.i64.wrap l > IntKind.i64.wrap c)) = true) := by
    rw [hwl, hwc, hb, e48]
    simp only [Bool.or_eq_true, decide_eq_true_eq, not_or]
    refine ⟨⟨⟨by omega, by omega⟩, by omega⟩, by omega⟩
  rw [if_neg (by simpa using ht)]
  simp only [askRoom]
  have hroom : ¬ (IntKind.i64.wrap c).toNat * i.bytes > roomBytes := by
    rw [hwc, hb]
    have er : roomBytes = 140737488355328 := by decide
    rw [er]
    have : (((c.toNat * by_ : Nat)) : Int) ≤ 140737488355328 := by
      rw [Int.natCast_mul, Int.toNat_of_nonneg (by omega), Int.mul_comm]; exact h2
    omega
  simp only [if_neg hroom, run_pure, run_bind, run_size' hi]
  have hsz : zv.cells.size = sz := by rw [← Array.length_toList, hzl, hzn]
  have hcells : ∀ zz : Array Value, (zz = zv.cells ∨ c.toNat * sz = 0) → (Array.range (c.toNat * sz)).map (fun i => zz[i % zz.size]!) = (rep c.toNat z).toArray := by
    intro zz hzz
    by_cases hn : c.toNat * sz = 0
    · rw [hn]
      have : (rep c.toNat z) = [] := by rw [← List.length_eq_zero_iff, rep_length, hzn, hn]
      simp [this]
    · obtain rfl := hzz.resolve_right hn
      have := zero_cells zv.cells c.toNat (.inl (by rw [hsz]; intro h; rw [h] at hn; simp at hn))
      rw [hsz, hzl] at this
      rw [hsz]; exact this
  rw [hwc, hs, hwl]
  by_cases hn : c.toNat * sz = 0
  · simp only [if_pos hn, run_pure, newRow, newObj, run_bind, Sem.run]
    rw [hcells #[] (.inr hn)]
  · simp only [if_neg hn, run_bind, zero_run hi hz, run_pure, newRow, newObj, Sem.run]
    rw [hcells zv.cells (.inl rfl)]

/-! ### values put together -/
theorem setAll_cons (l : List Value) (o : Nat) (v : Value) (vs : List Value) (h : o + (v :: vs).length ≤ l.length) : setAll (l.set o v) (o + 1) vs = setAll l o (v :: vs) := by
  simp only [List.length_cons] at h
  have hlt : o < l.length := by omega
  unfold setAll
  rw [List.take_add_one (i := o), List.take_set_of_le (Nat.le_refl _), List.drop_set_of_lt (by omega)]
  simp [hlt]
  congr 1; omega
theorem fold_put (o : Nat) : ∀ (us : List Value) (k : Nat) (cs : Array Value), o + k + us.length ≤ cs.size →
    ((us.zipIdx k).foldl (fun (cs : Array Value) (x : Value × Nat) => cs.setIfInBounds (o + x.2) x.1) cs) = (setAll cs.toList (o + k) us).toArray
  | [], k, cs, h => by simp [setAll]
  | u :: us, k, cs, h => by
    simp only [List.length_cons] at h
    simp only [List.zipIdx_cons, List.foldl_cons]
    rw [fold_put o us (k + 1) _ (by simp; omega)]
    congr 1
    rw [Array.toList_setIfInBounds, ← Nat.add_assoc]
    exact setAll_cons _ _ _ _ (by simpa using h)
class AtN (l : List (Nat × Nat)) (n : Nat) (v : outParam (Nat × Nat)) : Prop where
  pf : l[n]? = some v
instance (priority := high) atN_zero {v l} : AtN (v :: l) 0 v := ⟨rfl⟩
instance atN_succ {u v l n} [h : AtN l n v] : AtN (u :: l) (n + 1) v := ⟨by simpa using h.pf⟩
class SetsI (l : List Value) (o : Nat) (vs : List Value) (l' : outParam (List Value)) : Prop where
  le : o + vs.length ≤ l.length
  pf : setAll l o vs = l'
instance (priority := high) setsI_one {l l' : List Value} {o : Nat} {v : Value} [h : SetI l o v l'] : SetsI l o [v] l' := ⟨by have := h.lt; simp; omega, by rw [setAll_one _ _ _ h.lt]; exact h.pf⟩
instance setsI_cons {l l1 l' : List Value} {o : Nat} {v : Value} {vs : List Value} [h : SetI l o v l1] [h' : SetsI l1 (o + 1) vs l'] : SetsI l o (v :: vs) l' :=
  ⟨by have := h'.le; have := h.lt; rw [← h.pf] at *; simp at *; omega, by
    rw [← setAll_cons l o v vs (by have := h'.le; have := h.lt; rw [← h.pf] at *; simp at *; omega), h.pf]; exact h'.pf⟩
/-- A list's length, by sight. -/
class AtLen (l : List Value) (n : Nat) : Prop where
  pf : l.length = n
instance : AtLen [] 0 := ⟨rfl⟩
instance atLen_cons {v l n} [h : AtLen l n] : AtLen (v :: l) (n + 1) := ⟨by simp [h.pf]⟩
class FillI (pl : List (Nat × Nat)) (l : List Value) (ps : List (Nat × Value)) (l' : outParam (List Value)) : Prop where
  pf : Instr.fill (pl[·]?) l.toArray ps = some l'.toArray
instance fillI_nil {pl l} : FillI pl l [] l := ⟨rfl⟩
instance fillI_cons {pl : List (Nat × Nat)} {l l1 l' vs : List Value} {i o n : Nat} {v : Value} {ps : List (Nat × Value)} [ha : AtN pl i (o, n)] [hv : CellsI v vs] [hs : SetsI l o vs l1] [hn : AtLen vs n] [h : FillI pl l1 ps l'] :
    FillI pl l ((i, v) :: ps) l' := ⟨by
  have hsz : v.cells.size = n := by rw [← Array.length_toList, hv.pf]; exact hn.pf
  have hle := hs.le
  have hl : vs.length = n := hn.pf
  have hz : v.cells.zipIdx.foldl (fun cs (x : Value × Nat) => cs.setIfInBounds (o + x.2) x.1) l.toArray = l1.toArray := by
    rw [← Array.foldl_toList, Array.toList_zipIdx, hv.pf]
    have := fold_put o vs 0 l.toArray (by simpa using hle)
    rw [this]
    simp only [Nat.add_zero]
    rw [hs.pf]
  unfold Instr.fill
  simp only [ha.pf, hsz]
  rw [if_neg (by simp; omega)]
  exact (congrArg (fun cs => Instr.fill (pl[·]?) cs ps) hz).trans h.pf⟩

/-- A struct's places and its zero value. -/
structure Str (P : Program) (t : TypeId) (pl : List (Nat × Nat)) (z : List Value) : Prop where
  pf : ∃ fs zv, P.underlying t = some (.struct fs) ∧ (∀ w, (fs.mapM fun f => do pure (f.offset, ← sizeOf f.type) : Sem (Array (Nat × Nat))).run P w = .ok pl.toArray w) ∧ (∀ w, (zeroValue t).run P w = .ok zv w) ∧ zv.cells.toList = z
theorem E_build {t : TypeId} {pl : List (Nat × Nat)} {z l : List Value} {ps : List (Nat × Value)} (hs : Str P t pl z) [hf : FillI pl z ps l] (h : E B H (K (.agg l.toArray))) : E B H (V P (Instr.build t ps.toArray) K) := by
  obtain ⟨fs, zv, hu, hm, hz, hzl⟩ := hs.pf
  refine E_Vok fun w hw => ⟨_, _, ?_, h w hw⟩
  unfold Instr.build
  simp only [run_bind, hz, run_pure, run_underlying' hu, hm]
  have : zv.cells = z.toArray := by rw [← hzl]
  rw [this]
  have hfill := hf.pf
  have hget : (fun x : Nat => (pl.toArray)[x]?) = (fun x : Nat => pl[x]?) := by funext x; simp
  simp only [hget, hfill, run_pure]

/-- A slice written out. -/
class PlacesI (n sz : Nat) (pl : outParam (List (Nat × Nat))) : Prop where
  pf : ∀ i, i < n → pl[i]? = some (i * sz, sz)
theorem fill_congr {f g : Nat → Option (Nat × Nat)} : ∀ (ps : List (Nat × Value)) (cs : Array Value), (∀ p ∈ ps, f p.1 = g p.1) → Instr.fill f cs ps = Instr.fill g cs ps
  | [], cs, h => rfl
  | (i, v) :: ps, cs, h => by
    have h0 := h (i, v) (List.mem_cons_self ..)
    simp only at h0
    unfold Instr.fill
    rw [h0]
    cases g i with
    | none => rfl
    | some p =>
      obtain ⟨off, size⟩ := p
      simp only
      split
      · rfl
      · exact fill_congr ps _ fun p hp => h p (List.mem_cons_of_mem _ hp)
theorem E_bsl {t T : TypeId} {n sz by_ : Nat} {z l : List Value} {ps : List (Nat × Value)} (pl : List (Nat × Nat)) (hu : P.underlying t = some (.slice T)) (he : Elt P T sz by_ z) (hpl : ∀ p ∈ ps, pl[p.1]? = some (p.1 * sz, sz))
    (hs0 : 0 < n * sz ∧ n * sz ≤ 1000) {l0 : List Value} (hr : rep n z = l0) [hf : FillI pl l0 ps l]
    (h : ∀ b, E B (cel true b T l :: H) (K (.slice (some ⟨b, 0, none⟩) n n))) : E B H (V P (Instr.buildSlice t n ps.toArray) K) := by
  subst hr
  obtain ⟨i, zv, hi, hs, hb, hz, hzl, hzn⟩ := he.pf
  refine E_Vok fun w hw => ⟨_, _, ?_, h _ _ (sat_cel_new hw T l (0, 0) (by simp))⟩
  unfold Instr.buildSlice
  simp only [run_bind, run_underlying' hu, run_size' hi, hs]
  have e24 : (2 : Nat) ^ 24 = 16777216 := by decide
  rw [if_neg (by rw [e24]; omega), if_neg (by omega)]
  simp only [run_bind, run_pure, zero_run hi hz]
  have hsz : zv.cells.size = sz := by rw [← Array.length_toList, hzl, hzn]
  have hc : (Array.range (n * sz)).map (fun i => zv.cells[i % zv.cells.size]!) = (rep n z).toArray := by
    have := zero_cells zv.cells n (.inl (by rw [hsz]; intro h; rw [h] at hs0; simp at hs0))
    rw [hsz, hzl] at this
    rw [hsz]; exact this
  rw [hc]
  have hfl : Instr.fill (fun i => some (i * sz, sz)) (rep n z).toArray ps = some l.toArray := by
    rw [← hf.pf]; exact fill_congr _ _ fun p hp => (hpl p hp).symm
  simp only [hfl, newRow, newObj, run_bind, Sem.run, run_pure]

theorem elt_of {T sz by_ : Nat} {zv : Value} {z : List Value} (h : (P.info? T).map (fun i => (i.size, i.bytes, i.zero)) = some (sz, by_, some zv)) (hz : zv.cells.toList = z) (hl : z.length = sz) : Elt P T sz by_ z := by
  cases hi : P.info? T with
  | none => simp [hi] at h
  | some i =>
    simp only [hi, Option.map_some, Option.some.injEq, Prod.mk.injEq] at h
    exact ⟨i, zv, hi, h.1, h.2.1, h.2.2, hz, hl⟩
theorem E_bsl0 {t T : TypeId} (hu : P.underlying t = some (.slice T)) {sz by_ : Nat} {z : List Value} (he : Elt P T sz by_ z)
    (h : ∀ b, E B (cel true b T [] :: H) (K (.slice (some ⟨b, 0, none⟩) 0 0))) : E B H (V P (Instr.buildSlice t 0 #[]) K) := by
  obtain ⟨i, zv, hi, hs, hb, hz, hzl, hzn⟩ := he.pf
  refine E_Vok fun w hw => ⟨_, _, ?_, h _ _ (sat_cel_new hw T [] (0, 0) (by simp))⟩
  unfold Instr.buildSlice
  simp only [run_bind, run_underlying' hu, run_size' hi, Nat.zero_mul]
  rw [if_neg (by decide), if_pos trivial]
  have e0 : Array.range 0 = #[] := by simp [Array.range]
  simp [run_pure, Instr.fill, newRow, newObj, Sem.run, run_bind, e0]
end Go.SL
