/-
  append on a slice of one's own.
-/
import Derived.Test.YtfholicobkpilaaSlMem
import Derived.Deep.AppendSrc
set_option linter.unusedSimpArgs false
set_option linter.unusedVariables false
set_option linter.unusedSectionVars false
namespace Go.SL
open Go.RowKit
variable {B : World} {H : List Asrt} {K : Value → WT} {P : Program}

/-- A slice of one's own: n elements of sz cells each, whose cells are xs. -/
def osl (T sz : Nat) (v : Value) (n : Nat) (xs : List Value) : Asrt := fun ch =>
  (v = .slice none 0 0 ∧ n = 0 ∧ xs = [] ∧ ch = []) ∨
  (∃ b cap spare, v = .slice (some ⟨b, 0, none⟩) n cap ∧ n ≤ cap ∧ xs.length = n * sz ∧ spare.length = (cap - n) * sz ∧ cel true b T (xs ++ spare) ch)
theorem osl_nil {T sz : Nat} {W : WT} (h : E B (osl T sz (.slice none 0 0) 0 [] :: H) W) : E B H W := fun w ⟨hb, l, hs, hc⟩ =>
  h w ⟨hb, l, ⟨[], l, rfl, .inl ⟨rfl, rfl, rfl, rfl⟩, hs⟩, hc⟩
theorem osl_of_cel {T sz b n : Nat} {xs : List Value} {W : WT} (hx : xs.length = n * sz) (h : E B (osl T sz (.slice (some ⟨b, 0, none⟩) n n) n xs :: H) W) : E B (cel true b T xs :: H) W :=
  E_imp (fun l hl => .inr ⟨b, n, [], rfl, Nat.le_refl _, hx, by simp, by simpa using hl⟩) h
/-- What is handed to append as its second argument is read so. -/
def Rd (P : Program) (B : World) (H : List Asrt) (tx : TypeId) (x : Value) (sz m : Nat) (ys : List Value) : Prop := ∀ w, sat B H w → Go.Src P sz tx x m ys w
theorem rd_slice {b o m c sz T : Nat} {tx e' : TypeId} {κ : Bool} {l ys : List Value} [hf : HasC H b κ T l] (hk : P.underlying tx = some (.slice e')) (hy : (l.drop o).take (m * sz) = ys) (hl : ys.length = m * sz)
    (hc : ∀ y ∈ ys, isCell y = true) : Rd P B H tx (.slice (some ⟨b, o, none⟩) m c) sz m ys := fun w hw =>
  Go.Src.ofSlice w hk ⟨b, o, none⟩ m c ys hl (fun j u hj => by
    have ha : (⟨b, o, none⟩ : Addr).add j = ⟨b, o + j, none⟩ := by
      unfold Addr.add; split
      · rename_i h0; subst h0; rfl
      · rfl
    rw [ha, sat_cell (hf := hf) hw]
    have hj' := hj
    rw [← hy, List.getElem?_take] at hj
    split at hj
    · rw [List.getElem?_drop] at hj; exact hj
    · cases hj) (fun u hu => by have := hc u hu; cases u <;> first | rfl | cases this)
theorem rd_nil {sz c : Nat} {tx e' : TypeId} (hk : P.underlying tx = some (.slice e')) : Rd P B H tx (.slice none 0 c) sz 0 [] := fun w _ => Go.Src.ofNil w hk c
theorem rd_str {s : ByteArray} {tx : TypeId} (hk : P.underlying tx = some .string) : Rd P B H tx (.string s) 1 s.size (Go.byteCells s) := fun w _ => Go.Src.ofString w hk s

theorem zeroCells_eq (z : Array Value) (n : Nat) : Builtin.zeroCells z n = (rep n z.toList).toArray := by
  unfold Builtin.zeroCells
  by_cases hz : z.size = 0
  · have : z = #[] := Array.eq_empty_of_size_eq_zero hz
    subst this; simp [rep]
  · exact zero_cells z n (.inl hz)

theorem sat_setCells {b : Nat} {T : TypeId} : ∀ (vs l : List Value) (o : Nat) (w : World), sat B (cel true b T l :: H) w → o + vs.length ≤ l.length →
    sat B (cel true b T (setAll l o vs) :: H) (w.setCells b o vs) ∧ ∀ j, j < vs.length → (w.cell? ⟨b, o + j, none⟩).isSome = true ∧ w.frozen? ⟨b, o + j, none⟩ = false
  | [], l, o, w, hw, _ => ⟨by simpa [setAll, World.setCells] using hw, fun j hj => by simp at hj⟩
  | v :: vs, l, o, w, hw, hl => by
    have hlt : o < l.length := by simp at hl; omega
    obtain ⟨fr, hh, hfr, hs⟩ := cel_own (l' := l.set o v) hw (by simp)
    have hset : w.setCell ⟨b, o, none⟩ v = { w with heap := w.heap.setIfInBounds b (.cells (l.set o v).toArray T fr) } := by
      rw [setCell_eq hh]; congr 3; simp
    rw [← hset] at hs
    obtain ⟨h1, _⟩ := sat_setCells vs (l.set o v) (o + 1) _ hs (by rw [List.length_set]; simp at hl; omega)
    refine ⟨?_, fun j hj => ?_⟩
    · rw [setAll_cons _ _ _ _ hl] at h1
      exact h1
    · simp only [List.length_cons] at hl hj
      unfold World.cell? World.frozen?
      simp only [hh]
      refine ⟨by simp; omega, ?_⟩
      have := hfr (o + j) (by omega)
      rw [← Bool.not_eq_true]; simpa using this

theorem rep_len {n sz : Nat} {z : List Value} (h : z.length = sz) : (rep n z).length = n * sz := by rw [rep_length, h]

theorem E_app0 {ty t0 t1 T sz by_ n m : Nat} {z xs ys : List Value} {v x : Value} (hu : P.underlying t0 = some (.slice T))
    (he : Elt P T sz by_ z) (hs : Rd P B H t1 x sz m ys) (hb : (n + m) * by_ ≤ 140737488355328) (hm : n + m ≤ 9223372036854775807)
    (h : ∀ v', E B (osl T sz v' (n + m) (xs ++ ys) :: H) (K v')) : E B (osl T sz v n xs :: H) (V P (Builtin.append_ #[t0, t1] ty #[v, x]) K) := by
  obtain ⟨i, zv, hinfo, hsz, hby, hzv, hzl, hzn⟩ := he.pf
  subst hsz
  refine E_Vok fun w hw => ?_
  have htl : sat B H w := hw.tail
  have hsrc := hs w htl
  have hyl : ys.length = m * i.size := hsrc.newsLen
  obtain ⟨hB, ch, ⟨c1, c2, hch, hosl, hst⟩, hcc⟩ := hw
  have grow : ∀ (base : Option Addr) (cap : Nat), v = .slice base n cap → cap < n + m → xs.length = n * i.size →
      (Builtin.firstCells i.size n (.slice base n cap)).run P w.drew = .ok xs.toArray w.drew →
      ∃ v' w', (Builtin.append_ #[t0, t1] ty #[v, x]).run P w = .ok v' w' ∧ K v' w' := by
    intro base cap hv hlt hxl hold
    subst hv
    have hfit : Builtin.nextslicecap (n + m) cap * i.bytes ≤ 281474976710656 := by
      have h1 := nextslicecap_le hlt
      have h2 := Nat.mul_le_mul_right i.bytes h1
      rw [Nat.mul_assoc, hby] at h2
      rw [hby]; omega
    refine ⟨_, _, run_append_grow_src w t0 t1 ty T i zv hu hinfo hzv base n cap xs hold x m ys hsrc hlt (by omega) hfit, ?_⟩
    refine h _ _ ?_
    have hd : sat B H w.drew := htl.same rfl rfl rfl rfl
    have := sat_cel_new hd T (xs ++ ys ++ rep (grownCap w (n + m) cap T - (n + m)) z) (0, 0) (by simp)
    have hcap : n + m ≤ grownCap w (n + m) cap T := by unfold grownCap Question.cut; simp
    obtain ⟨hb', ch', ⟨l1, l2, e, h1, h2⟩, hc'⟩ := this
    refine ⟨?_, ch', ⟨l1, l2, e, .inr ⟨_, _, rep (grownCap w (n + m) cap T - (n + m)) z, rfl, hcap, ?_, rep_len hzn, h1⟩, h2⟩, ?_⟩
    · have harr : (xs ++ ys).toArray ++ Builtin.zeroCells zv.cells (grownCap w (n + m) cap T - (n + m)) = (xs ++ ys ++ rep (grownCap w (n + m) cap T - (n + m)) z).toArray := by
        rw [zeroCells_eq, hzl]; simp
      rw [harr]; exact hb'
    · simp [hxl, hyl, Nat.add_mul]
    · have harr : (xs ++ ys).toArray ++ Builtin.zeroCells zv.cells (grownCap w (n + m) cap T - (n + m)) = (xs ++ ys ++ rep (grownCap w (n + m) cap T - (n + m)) z).toArray := by
        rw [zeroCells_eq, hzl]; simp
      rw [harr]; exact hc'
  rcases hosl with ⟨rfl, rfl, rfl, rfl⟩ | ⟨b, cap, spare, rfl, hle, hxl, hsl, hcel⟩
  · by_cases hm0 : m = 0
    · subst hm0
      have hys : ys = [] := by rw [← List.length_eq_zero_iff, hyl]; simp
      subst hys
      refine ⟨.slice none 0 0, w, ?_, h _ w ⟨hB, ch, ⟨[], c2, hch, .inl ⟨rfl, rfl, rfl, rfl⟩, hst⟩, hcc⟩⟩
      have hsz' : (sizeOf T).run P w = .ok i.size w := run_size' hinfo
      rcases hsrc.kind with ⟨e', hk⟩ | hk <;>
        simp [Builtin.append_, run_underlying' hu, run_underlying' hk, hsz', hsrc.len, hsrc.cells, run_bind, run_pure]
    · exact grow none 0 rfl (by omega) (by simp) (by simp [Builtin.firstCells, run_pure])
  · have hsat : sat B (cel true b T (xs ++ spare) :: H) w := ⟨hB, ch, ⟨c1, c2, hch, hcel, hst⟩, hcc⟩
    by_cases hroom : n + m ≤ cap
    · have hlen : (xs ++ spare).length = cap * i.size := by
        rw [List.length_append, hxl, hsl, ← Nat.add_mul]; congr 1; omega
      have hle2 : n * i.size + ys.length ≤ (xs ++ spare).length := by
        rw [hlen, hyl, ← Nat.add_mul]; exact Nat.mul_le_mul_right _ hroom
      obtain ⟨h1, h2⟩ := sat_setCells ys (xs ++ spare) (n * i.size) w hsat hle2
      refine ⟨_, _, run_append_room_src w t0 t1 ty T i hu hinfo b 0 n cap x m ys hsrc hroom (fun j hj => ?_) (fun j hj => ?_), ?_⟩
      · simpa using (h2 j hj).1
      · simpa using (h2 j hj).2
      · refine h _ _ ?_
        have he : setAll (xs ++ spare) (n * i.size) ys = xs ++ ys ++ spare.drop ys.length := by
          unfold setAll
          rw [← hxl]; simp
        rw [he] at h1
        simp only [Nat.zero_add]
        obtain ⟨hb', ch', ⟨l1, l2, e, h1', h2'⟩, hc'⟩ := h1
        refine ⟨hb', ch', ⟨l1, l2, e, .inr ⟨b, cap, spare.drop ys.length, rfl, hroom, ?_, ?_, h1'⟩, h2'⟩, hc'⟩
        · simp [hxl, hyl, Nat.add_mul]
        · rw [List.length_drop, hsl, hyl, ← Nat.sub_mul]; congr 1; omega
    · refine grow (some ⟨b, 0, none⟩) cap rfl (by omega) hxl ?_
      have hd : sat B (cel true b T (xs ++ spare) :: H) w.drew := hsat.same rfl rfl rfl rfl
      unfold Builtin.firstCells loadCells
      rw [run_loadCells _ _ _ _ (cellsFrom_eq (fun o => sat_cell (hf := hasC_here) hd o) (n * i.size) 0 0 xs (by simp [← hxl]) hxl)]
      simp

/-- append(s, make([]T, k)...). -/
theorem E_appz0 {ty t0 t1 T sz by_ n : Nat} {kk : IntKind} {k : Int} {z xs : List Value} {v : Value} (hu : P.underlying t0 = some (.slice T)) (hd : P.underlying t1 = some (.int kk))
    (he : Elt P T sz by_ z) (hz : ∀ y ∈ z, isCell y = true) (h0 : 0 ≤ k) (hb : (n + k.toNat) * by_ ≤ 140737488355328) (hm : n + k.toNat ≤ 9223372036854775807) (hby1 : 1 ≤ by_) (hsz1 : 1 ≤ sz)
    (h : ∀ v', E B (osl T sz v' (n + k.toNat) (xs ++ rep k.toNat z) :: H) (K v')) : E B (osl T sz v n xs :: H) (V P (Builtin.append_ #[t0, t1] ty #[v, .int .i64 k]) K) := by
  obtain ⟨i, zv, hinfo, hsz, hby, hzv, hzl, hzn⟩ := he.pf
  subst hsz
  refine E_Vok fun w hw => ?_
  obtain ⟨hB, ch, ⟨c1, c2, hch, hosl, hst⟩, hcc⟩ := hw
  have htl : sat B H w := sat.tail ⟨hB, ch, ⟨c1, c2, hch, hosl, hst⟩, hcc⟩
  have hwk : IntKind.i64.wrap k = k := wrapI (by omega) (by omega)
  have hl0 : ¬ k < 0 := by omega
  have e48 : (2 : Int) ^ 48 = 281474976710656 := by decide
  have e48n : (2 : Nat) ^ 48 = 281474976710656 := by decide
  have hkk : (k.toNat : Int) = k := Int.toNat_of_nonneg h0
  have hbig : ¬ k * (i.bytes : Int) > 281474976710656 := by
    rw [hby]
    have h1 : k.toNat * by_ ≤ (n + k.toNat) * by_ := Nat.mul_le_mul_right _ (by omega)
    have h2 : ((k.toNat * by_ : Nat) : Int) ≤ 140737488355328 := by omega
    rw [Int.natCast_mul, hkk] at h2
    omega
  have hzn' : zv.cells.size = i.size := by rw [← Array.length_toList, hzl, hzn]
  have happ : ∀ w', (if k.toNat * i.size = 0 then pure #[] else do pure (Builtin.zeroCells (← zeroValue T).cells k.toNat) : Sem (Array Value)).run P w' = .ok (rep k.toNat z).toArray w' := by
    intro w'
    by_cases hk0 : k.toNat * i.size = 0
    · rw [if_pos hk0]
      have : rep k.toNat z = [] := by rw [← List.length_eq_zero_iff, rep_length, hzn, hk0]
      rw [this]; rfl
    · rw [if_neg hk0, run_bind, zero_run hinfo hzv]
      simp only [run_pure, zeroCells_eq, hzl]
  have hrl : (rep k.toNat z).length = k.toNat * i.size := rep_len hzn
  have hcells : ∀ y ∈ rep k.toNat z, isCell y = true := fun y hy => by
    unfold rep at hy
    obtain ⟨l, hl, hyl⟩ := List.mem_flatten.1 hy
    obtain ⟨_, rfl⟩ := List.mem_replicate.1 hl
    exact hz y hyl
  have grow : ∀ (base : Option Addr) (cap : Nat), v = .slice base n cap → cap < n + k.toNat → xs.length = n * i.size →
      (∀ w', sat B (osl T i.size v n xs :: H) w' → (Builtin.firstCells i.size n (.slice base n cap)).run P w' = .ok xs.toArray w') →
      ∃ v' w', (Builtin.append_ #[t0, t1] ty #[v, .int .i64 k]).run P w = .ok v' w' ∧ K v' w' := by
    intro base cap hv hlt hxl hold
    have hsatD : sat B (osl T i.size v n xs :: H) w.drew := sat.same ⟨hB, ch, ⟨c1, c2, hch, hosl, hst⟩, hcc⟩ rfl rfl rfl rfl
    have hold2 := hold w.drew hsatD
    subst hv
    have h1 := nextslicecap_le hlt
    have h2 := Nat.mul_le_mul_right i.bytes h1
    rw [Nat.mul_assoc, hby] at h2
    have hfit : ¬ Builtin.nextslicecap (n + k.toNat) cap * i.bytes > 281474976710656 := by rw [hby]; omega
    have hn : ¬ n + k.toNat ≤ cap := by omega
    have h63 : ¬ ((n + k.toNat : Nat) : Int) > IntKind.i64.max := by
      have : IntKind.i64.max = 9223372036854775807 := by decide
      omega
    have hcap : n + k.toNat ≤ grownCap w (n + k.toNat) cap T := by unfold grownCap Question.cut; simp
    refine ⟨.slice (some ⟨w.heap.size, 0, none⟩) (n + k.toNat) (grownCap w (n + k.toNat) cap T),
      { w.drew with heap := w.drew.heap.push (.cells (xs ++ rep k.toNat z ++ rep (grownCap w (n + k.toNat) cap T - (n + k.toNat)) z).toArray T) }, ?_, ?_⟩
    · unfold Builtin.append_
      simp only [List.getElem?_toArray, List.getElem?_cons_zero, List.getElem?_cons_succ, run_bind, run_underlying' hu, run_underlying' hd, run_size' hinfo, run_pure, if_true, asInt, asIntOf, hwk, if_neg hl0, run_info' hinfo, e48, if_neg hbig, if_neg hn, e48n, if_neg hfit]
      rw [if_neg (fun h => h63 h.1)]
      simp only [run_bind, run_pure, run_info' hinfo]
      rw [if_neg hfit]
      have hch : (choose (.appendCap (n + k.toNat) cap T)).run P w = .ok (grownCap w (n + k.toNat) cap T) w.drew := by
        unfold choose Sem.run; simp [Question.forced, grownCap, Sem.run]
      have hroom : ∀ b w', (askRoom b).run P w' = .ok () w' := fun b w' => by unfold askRoom; split <;> rfl
      simp only [run_bind, hch, hroom, run_info' hinfo]
      rw [hold2]
      have := happ w.drew
      simp only [Bool.not_true, Bool.false_eq_true, if_false, this, zero_run hinfo hzv, run_pure, newRow, newObj, Sem.run, run_bind, zeroCells_eq, hzl]
      have happ2 : (if k.toNat * i.size = 0 then pure #[] else do pure (rep k.toNat (← zeroValue T).cells.toList).toArray : Sem (Array Value)).run P w.drew = .ok (rep k.toNat z).toArray w.drew := by
        have := happ w.drew
        simp only [zeroCells_eq] at this
        exact this
      rw [happ2]
      simp
    · refine h _ _ ?_
      have hd : sat B H w.drew := htl.same rfl rfl rfl rfl
      have := sat_cel_new hd T (xs ++ rep k.toNat z ++ rep (grownCap w (n + k.toNat) cap T - (n + k.toNat)) z) (0, 0) (by simp)
      obtain ⟨hb', ch', ⟨l1, l2, e, h1, h2⟩, hc'⟩ := this
      exact ⟨hb', ch', ⟨l1, l2, e, .inr ⟨_, _, rep (grownCap w (n + k.toNat) cap T - (n + k.toNat)) z, rfl, hcap, by simp [hxl, hrl, Nat.add_mul], rep_len hzn, h1⟩, h2⟩, hc'⟩
  rcases hosl with ⟨rfl, rfl, rfl, rfl⟩ | ⟨b, cap, spare, rfl, hle, hxl, hsl, hcel⟩
  · by_cases hk0 : k.toNat = 0
    · have hr : rep k.toNat z = [] := by rw [hk0]; rfl
      refine ⟨.slice none 0 0, w, ?_, ?_⟩
      · unfold Builtin.append_
        have hmul : k.toNat * i.size = 0 := by rw [hk0]; simp
        simp only [List.getElem?_toArray, List.getElem?_cons_zero, List.getElem?_cons_succ, run_bind, run_underlying' hu, run_underlying' hd, run_size' hinfo, run_pure, if_true, asInt, asIntOf, hwk, if_neg hl0, run_info' hinfo, e48, if_neg hbig, hk0]
        simp [run_pure]
      · have := h (.slice none 0 0)
        rw [hr, hk0] at this
        exact this w ⟨hB, ch, ⟨[], c2, hch, .inl ⟨rfl, rfl, rfl, rfl⟩, hst⟩, hcc⟩
    · exact grow none 0 rfl (by omega) (by simp) (fun w' _ => by simp [Builtin.firstCells, run_pure])
  · have hsat : sat B (cel true b T (xs ++ spare) :: H) w := ⟨hB, ch, ⟨c1, c2, hch, hcel, hst⟩, hcc⟩
    by_cases hroom : n + k.toNat ≤ cap
    · have hlen : (xs ++ spare).length = cap * i.size := by
        rw [List.length_append, hxl, hsl, ← Nat.add_mul]; congr 1; omega
      have hle2 : n * i.size + 0 + (rep k.toNat z).length ≤ (xs ++ spare).length := by
        rw [hlen, hrl, Nat.add_zero, ← Nat.add_mul]; exact Nat.mul_le_mul_right _ hroom
      obtain ⟨w', hw1, hw2⟩ := putFrom_eq (rep k.toNat z) (xs ++ spare) 0 w hsat hcells hle2
      refine ⟨.slice (some ⟨b, 0, none⟩) (n + k.toNat) cap, w', ?_, ?_⟩
      · unfold Builtin.append_
        simp only [List.getElem?_toArray, List.getElem?_cons_zero, List.getElem?_cons_succ, run_bind, run_underlying' hu, run_underlying' hd, run_size' hinfo, run_pure, if_true, asInt, asIntOf, hwk, if_neg hl0, run_info' hinfo, e48, if_neg hbig, if_pos hroom]
        have := happ w
        have ha : (⟨b, 0, none⟩ : Addr).add (n * i.size) = ⟨b, n * i.size, none⟩ := by
          unfold Addr.add; split
          · rename_i h0; rw [h0]
          · simp
        simp only [Bool.not_true, Bool.false_eq_true, if_false, this, ha, run_storeCells _ _ _ _ hw1]
      · refine h _ _ ?_
        have he : setAll (xs ++ spare) (n * i.size + 0) (rep k.toNat z) = xs ++ rep k.toNat z ++ spare.drop (rep k.toNat z).length := by
          unfold setAll
          rw [Nat.add_zero, ← hxl]; simp
        rw [he] at hw2
        obtain ⟨hb', ch', ⟨l1, l2, e, h1', h2'⟩, hc'⟩ := hw2
        refine ⟨hb', ch', ⟨l1, l2, e, .inr ⟨b, cap, spare.drop (rep k.toNat z).length, rfl, hroom, ?_, ?_, h1'⟩, h2'⟩, hc'⟩
        · simp [hxl, hrl, Nat.add_mul]
        · rw [List.length_drop, hsl, hrl, ← Nat.sub_mul]; congr 1; omega
    · refine grow (some ⟨b, 0, none⟩) cap rfl (by omega) hxl (fun w' hw' => ?_)
      obtain ⟨hB', ch', ⟨c1', c2', hch', hosl', hst'⟩, hcc'⟩ := hw'
      rcases hosl' with ⟨h0, _⟩ | ⟨b', cap', spare', hv', hle', hxl', hsl', hcel'⟩
      · cases h0
      · cases hv'
        have hsat' : sat B (cel true b T (xs ++ spare') :: H) w' := ⟨hB', ch', ⟨c1', c2', hch', hcel', hst'⟩, hcc'⟩
        unfold Builtin.firstCells loadCells
        rw [run_loadCells _ _ _ _ (cellsFrom_eq (fun o => sat_cell (hf := hasC_here) hsat' o) (n * i.size) 0 0 xs (by simp [← hxl]) hxl)]
        simp
theorem E_oslc {T sz n : Nat} {v : Value} {xs : List Value} {W : WT} (h : [CellI v] → E B (osl T sz v n xs :: H) W) : E B (osl T sz v n xs :: H) W := fun w hw => by
  have hc : CellI v := by
    obtain ⟨hB, ch, ⟨c1, c2, hch, hosl, hst⟩, hcc⟩ := hw
    rcases hosl with ⟨rfl, rfl, rfl, rfl⟩ | ⟨b, cap, spare, rfl, _⟩
    · exact ⟨rfl⟩
    · exact ⟨rfl⟩
  exact h w hw
theorem E_app {ty t0 t1 T sz by_ n m : Nat} {z xs ys : List Value} {v x : Value} (hu : P.underlying t0 = some (.slice T))
    (he : Elt P T sz by_ z) (hs : Rd P B H t1 x sz m ys) (hb : (n + m) * by_ ≤ 140737488355328) (hm : n + m ≤ 9223372036854775807)
    (h : ∀ v' [CellI v'], E B (osl T sz v' (n + m) (xs ++ ys) :: H) (K v')) : E B (osl T sz v n xs :: H) (V P (Builtin.append_ #[t0, t1] ty #[v, x]) K) :=
  E_app0 hu he hs hb hm fun v' => E_oslc (h v')
theorem E_appz {ty t0 t1 T sz by_ n : Nat} {kk : IntKind} {k : Int} {z xs : List Value} {v : Value} (hu : P.underlying t0 = some (.slice T)) (hd : P.underlying t1 = some (.int kk))
    (he : Elt P T sz by_ z) (hz : ∀ y ∈ z, isCell y = true) (h0 : 0 ≤ k) (hb : (n + k.toNat) * by_ ≤ 140737488355328) (hm : n + k.toNat ≤ 9223372036854775807) (hby1 : 1 ≤ by_) (hsz1 : 1 ≤ sz)
    (h : ∀ v' [CellI v'], E B (osl T sz v' (n + k.toNat) (xs ++ rep k.toNat z) :: H) (K v')) : E B (osl T sz v n xs :: H) (V P (Builtin.append_ #[t0, t1] ty #[v, .int .i64 k]) K) :=
  E_appz0 hu hd he hz h0 hb hm hby1 hsz1 fun v' => E_oslc (h v')
end Go.SL
