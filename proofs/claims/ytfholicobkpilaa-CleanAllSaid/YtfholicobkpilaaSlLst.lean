/-
  Slices as lists of elements: read, appended to, written, cut.
-/
import Derived.Test.YtfholicobkpilaaSlMeth
set_option linter.unusedSimpArgs false
set_option linter.unusedVariables false
set_option linter.unusedSectionVars false
namespace Go.SL
open Go.RowKit
variable {B : World} {H : List Asrt} {K : Value → WT} {P : Program}

/-- How an element lies: so many cells. -/
class Enc {α : Type} (enc : α → List Value) (sz : outParam Nat) : Prop where
  len : ∀ x, (enc x).length = sz
  cell : ∀ x, ∀ y ∈ enc x, isCell y = true
section
variable {α : Type} {enc : α → List Value} {sz : Nat}
theorem enc_length [hE : Enc enc sz] (l : List α) : (l.flatMap enc).length = l.length * sz := by
  induction l with
  | nil => simp
  | cons x l ih => simp only [List.flatMap_cons, List.length_append, hE.len, ih, List.length_cons, Nat.succ_mul]; omega
theorem enc_cells [hE : Enc enc sz] (l : List α) : ∀ y ∈ l.flatMap enc, isCell y = true := fun y hy => by
  obtain ⟨x, _, hx⟩ := List.mem_flatMap.1 hy
  exact hE.cell x y hx
theorem enc_drop [hE : Enc enc sz] (l : List α) (i : Nat) : (l.flatMap enc).drop (i * sz) = (l.drop i).flatMap enc := by
  induction l generalizing i with
  | nil => simp
  | cons x l ih =>
    cases i with
    | zero => simp
    | succ i =>
      rw [List.flatMap_cons, List.drop_append, hE.len, List.drop_of_length_le (by rw [hE.len, Nat.succ_mul]; omega), List.nil_append, List.drop_succ_cons, ← ih]
      congr 1; rw [Nat.succ_mul]; omega
theorem enc_take [hE : Enc enc sz] (l : List α) (i : Nat) : (l.flatMap enc).take (i * sz) = (l.take i).flatMap enc := by
  induction l generalizing i with
  | nil => simp
  | cons x l ih =>
    cases i with
    | zero => simp
    | succ i =>
      have e : (i + 1) * sz = sz + i * sz := by rw [Nat.succ_mul]; omega
      rw [List.flatMap_cons, List.take_append, hE.len, List.take_of_length_le (by rw [hE.len, e]; omega), List.take_succ_cons, List.flatMap_cons, ← ih]
      congr 2; omega
theorem enc_at [hE : Enc enc sz] {l : List α} {i : Nat} {x : α} (h : l[i]? = some x) : ∃ r, (l.flatMap enc).drop (i * sz) = enc x ++ r := by
  rw [enc_drop]
  have hlt := (List.getElem?_eq_some_iff.1 h).1
  rw [List.drop_eq_getElem_cons hlt, (List.getElem?_eq_some_iff.1 h).2]
  exact ⟨_, List.flatMap_cons ..⟩
theorem enc_set [hE : Enc enc sz] {l : List α} {i : Nat} (x : α) (sp : List Value) (h : i < l.length) : setAll (l.flatMap enc ++ sp) (i * sz) (enc x) = (l.set i x).flatMap enc ++ sp := by
  have hle : i * sz + sz ≤ (l.flatMap enc).length := by rw [enc_length, ← Nat.succ_mul]; exact Nat.mul_le_mul_right _ h
  unfold setAll
  have e : i * sz + (enc x).length = (i + 1) * sz := by rw [hE.len, Nat.succ_mul]
  have hle2 : (i + 1) * sz ≤ (l.flatMap enc).length := by rw [enc_length]; exact Nat.mul_le_mul_right _ h
  rw [e, List.take_append_of_le_length (by omega), List.drop_append_of_le_length hle2, enc_take, enc_drop, List.set_eq_take_append_cons_drop, if_pos h]
  simp

/-! ### places that can be read -/
/-- Pointer p: o behind a place where cs can be read. -/
class PtA (B : World) (H : List Asrt) (p : Value) (o : outParam Nat) (cs : outParam (List Value)) : Prop where
  pf : ∃ a : Addr, p = .pointer (some (a.add o)) ∧ ∀ {w}, sat B H w → ∀ j, j < cs.length → w.cell? (a.add j) = cs[j]?
theorem addAdd (a : Addr) (i j : Nat) : (a.add i).add j = a.add (i + j) := by
  unfold Addr.add
  by_cases h1 : i = 0 <;> by_cases h2 : j = 0 <;> simp [h1, h2] <;> omega
theorem E_ptfad {p : Value} {o off : Nat} {cs : List Value} [hp : PtA B H p o cs] (h : ∀ q [PtA B H q (o + off) cs], E B H (K q)) : E B H (S.fad p off K) := by
  obtain ⟨a, rfl, hr⟩ := hp.pf
  have : PtA B H (.pointer (some (a.add (o + off)))) (o + off) cs := ⟨a, rfl, hr⟩
  have := h (.pointer (some (a.add (o + off))))
  intro w hw
  show K (.pointer (some ((a.add o).add off))) w
  rw [addAdd]; exact this w hw
theorem E_ptfad0 {p : Value} {off : Nat} {cs : List Value} [hp : PtA B H p 0 cs] (h : ∀ q [PtA B H q off cs], E B H (K q)) : E B H (S.fad p off K) := E_ptfad (o := 0) (by rw [Nat.zero_add]; exact h)
theorem E_ptld {p : Value} {o : Nat} {cs : List Value} {u : Value} [hp : PtA B H p o cs] [hu : AtI cs o u] (h : E B H (K u)) : E B H (S.ld p K) := by
  obtain ⟨a, rfl, hr⟩ := hp.pf
  intro w hw
  have hlt : o < cs.length := (List.getElem?_eq_some_iff.1 hu.pf).1
  unfold S.ld
  simp only [hr hw o hlt, hu.pf]
  exact h w hw
theorem E_ptld' {p : Value} {o : Nat} {cs : List Value} {u : Value} [hp : PtA B H p o cs] (hu : cs[o]? = some u) (h : E B H (K u)) : E B H (S.ld p K) := E_ptld (hu := ⟨hu⟩) h
theorem E_ptldN {p : Value} {o n : Nat} {cs ds : List Value} [hp : PtA B H p o cs] (hd : (cs.drop o).take n = ds) (hn : ds.length = n) (h : E B H (K (.agg ds.toArray))) : E B H (S.ldN n p K) := by
  obtain ⟨a, rfl, hr⟩ := hp.pf
  intro w hw
  have key : ∀ m i, i + m = n → cellsFrom w (a.add o) i m = some (ds.drop i) := by
    intro m
    induction m with
    | zero => intro i hi; simp only [cellsFrom]; rw [List.drop_eq_nil_of_le (by omega)]
    | succ m ih =>
      intro i hi
      have hlt : i < ds.length := by omega
      have h1 : ds[i]? = cs[o + i]? := by rw [← hd, List.getElem?_take_of_lt (by omega), List.getElem?_drop]
      have hlt2 : o + i < cs.length := by
        rw [List.getElem?_eq_getElem hlt] at h1
        exact (List.getElem?_eq_some_iff.1 h1.symm).1
      simp only [cellsFrom, addAdd, hr hw (o + i) hlt2, ← h1, List.getElem?_eq_getElem hlt]
      rw [ih (i + 1) (by omega)]
      simp
  unfold S.ldN
  have := key n 0 (by omega)
  simp only [this, List.drop_zero]
  exact h w hw
theorem E_ptldA {p : Value} {n : Nat} {cs : List Value} [hp : PtA B H p 0 cs] [hn : AtLen cs n] (h : E B H (K (.agg cs.toArray))) : E B H (S.ldN n p K) := E_ptldN (by rw [← hn.pf]; simp) hn.pf h

/-- An array's element. -/
theorem E_ptixA {p : Value} {o len sz : Nat} {n : Int} {k : IntKind} {cs : List Value} [hp : PtA B H p o cs] (h0 : 0 ≤ n) (h1 : n < len) (h : ∀ q [PtA B H q (o + n.toNat * sz) cs], E B H (K q)) : E B H (S.ixA len sz p (.int k n) K) := by
  obtain ⟨a, rfl, hr⟩ := hp.pf
  have : PtA B H (.pointer (some (a.add (o + n.toNat * sz)))) (o + n.toNat * sz) cs := ⟨a, rfl, hr⟩
  have := h (.pointer (some (a.add (o + n.toNat * sz))))
  intro w hw
  refine ⟨h0, h1, ?_⟩
  rw [addAdd]; exact this w hw

/-! ### slices that can be read -/
class Rs {α : outParam Type} (B : World) (H : List Asrt) (v : Value) (enc : outParam (α → List Value)) (l : outParam (List α)) : Prop where
  pf : ∀ {w}, sat B H w → rdX w v l.length (l.flatMap enc)
instance rs_there {B a H v} {enc : α → List Value} {l : List α} [h : Rs B H v enc l] : Rs B (a :: H) v enc l := ⟨fun hw => h.pf hw.tail⟩
/-- A slice of one's own. -/
def sls (enc : α → List Value) (T sz : Nat) (v : Value) (l : List α) : Asrt := osl T sz v l.length (l.flatMap enc)
theorem E_sls {T : Nat} {v : Value} {l : List α} {W : WT} (h : E B (osl T sz v l.length (l.flatMap enc) :: H) W) : E B (sls enc T sz v l :: H) W := h
theorem E_slsS {T : Nat} {v : Value} {l : List α} {W : WT} (h : E B (sls enc T sz v l :: H) W) : E B (osl T sz v l.length (l.flatMap enc) :: H) W := h
theorem sls_nil {T : Nat} {W : WT} (enc : α → List Value) (sz : Nat) (h : E B (sls enc T sz (.slice none 0 0) [] :: H) W) : E B H W := osl_nil h
instance (priority := high) rs_sls {T : Nat} {v : Value} {l : List α} {H : List Asrt} : Rs B (sls enc T sz v l :: H) v enc l := ⟨fun hw => by
  rcases sat_osl hw with ⟨rfl, h1, h2⟩ | ⟨b, cap, rfl, hle, hl, hc⟩
  · exact .inl ⟨rfl, h1, h2⟩
  · exact .inr ⟨⟨b, 0, none⟩, cap, rfl, hle, fun j hj => by rw [add_at]; exact hc j hj⟩⟩
/-- What the start world has. -/
class BaseS {α : outParam Type} (B : World) (v : Value) (enc : outParam (α → List Value)) (l : outParam (List α)) : Prop where
  pf : rdX B v l.length (l.flatMap enc)
instance (priority := low) rs_base {H : List Asrt} {v : Value} {l : List α} [h : BaseS B v enc l] : Rs B H v enc l := ⟨fun {w} hw => by
  rcases h.pf with h | ⟨a, cap, hv, hle, hc⟩
  · exact .inl h
  · refine .inr ⟨a, cap, hv, hle, fun j hj => ?_⟩
    have hj' : (l.flatMap enc)[j]? = some (l.flatMap enc)[j] := by simp
    rw [hj']
    exact cell_base hw ((hc j hj).trans hj')⟩
theorem rs_cel {b n c : Nat} {κ : Bool} {T : TypeId} {xs : List Value} {l : List α} [hf : HasC H b κ T xs] (hn : l.length ≤ c) (hx : l.flatMap enc = xs) (hl : n = l.length := by rfl) : Rs B H (.slice (some ⟨b, 0, none⟩) n c) enc l := ⟨fun hw => by
  subst hl
  refine .inr ⟨⟨b, 0, none⟩, c, rfl, hn, fun j hj => ?_⟩
  rw [add_at, Nat.zero_add, sat_cell (hf := hf) hw, hx]⟩
theorem E_rslen {v : Value} {l : List α} [hf : Rs B H v enc l] (h : E B H (K (.int .i64 l.length))) : E B H (S.len v K) := fun w hw => by
  rcases hf.pf hw with ⟨rfl, h1, _⟩ | ⟨a, cap, rfl, _, _⟩
  · have := h w hw; rw [h1] at this; exact this
  · exact h w hw
theorem rs_cell {v : Value} {l : List α} [hf : Rs B H v enc l] {W : WT} (h : isCell v = true → E B H W) : E B H W := fun w hw =>
  h (by rcases hf.pf hw with ⟨rfl, _, _⟩ | ⟨a, cap, rfl, _, _⟩ <;> rfl) w hw
/-- An element's address. -/
theorem E_rsix [hE : Enc enc sz] {v : Value} {l : List α} {i : Nat} {x : α} {k : IntKind} [hf : Rs B H v enc l] (hx : l[i]? = some x)
    (h : ∀ p [PtA B H p 0 (enc x)], E B H (K p)) : E B H (S.ixS sz v (.int k (i : Int)) K) := fun w hw => by
  have hlt : i < l.length := (List.getElem?_eq_some_iff.1 hx).1
  have hle : i * sz + sz ≤ (l.flatMap enc).length := by rw [enc_length, ← Nat.succ_mul]; exact Nat.mul_le_mul_right _ hlt
  obtain ⟨r, hr⟩ := enc_at (enc := enc) hx
  rcases hf.pf hw with ⟨_, h1, _⟩ | ⟨a, cap, hv, hle2, _⟩
  · omega
  · subst hv
    refine ⟨by omega, by omega, ?_⟩
    have : PtA B H (.pointer (some (a.add (((i : Nat) : Int).toNat * sz)))) 0 (enc x) := by
      refine ⟨a.add (i * sz), by rw [Int.toNat_natCast, addAdd, Nat.add_zero], fun {w'} hw' j hj => ?_⟩
      rcases hf.pf hw' with ⟨h0, _, _⟩ | ⟨a', cap', hv', _, hc⟩
      · cases h0
      · cases hv'
        rw [hE.len] at hj
        rw [addAdd, hc (i * sz + j) (by omega)]
        have h2 : ((l.flatMap enc).drop (i * sz))[j]? = (enc x)[j]? := by rw [hr, List.getElem?_append_left (by rw [hE.len]; omega)]
        rw [← h2, List.getElem?_drop]
    exact h _ w hw
theorem rd_rs [hE : Enc enc sz] {v : Value} {l : List α} {tx e' : TypeId} [hf : Rs B H v enc l] (hk : P.underlying tx = some (.slice e')) : Rd P B H tx v sz l.length (l.flatMap enc) := fun w hw => by
  rcases hf.pf hw with ⟨rfl, h1, h2⟩ | ⟨a, cap, rfl, _, hc⟩
  · rw [h1, h2]; exact Go.Src.ofNil w hk 0
  · exact Go.Src.ofSlice w hk _ _ _ _ (enc_length l) (fun j u hj => by
      have hlt : j < (l.flatMap enc).length := (List.getElem?_eq_some_iff.1 hj).1
      rw [hc j hlt]; exact hj) (fun u hu => by have := enc_cells l u hu; cases u <;> first | rfl | cases this)
/-- append(s, x). -/
theorem E_sapp1 [hE : Enc enc sz] {t ty T by_ : Nat} {z cs : List Value} {v xv : Value} {l : List α} (x : α) (hu : P.underlying t = some (.slice T)) (he : Elt P T sz by_ z) [hc : CellsI xv cs] (hx : enc x = cs)
    (hs : 0 < sz ∧ sz ≤ 1000) (hb : (l.length + 1) * by_ ≤ 140737488355328) (hn : l.length + 1 ≤ 9223372036854775807)
    (h : ∀ v' [CellI v'], E B (sls enc T sz v' (l ++ [x]) :: H) (K v')) :
    E B (sls enc T sz v l :: H) (V P (Instr.buildSlice t 1 #[(0, xv)]) fun v1 => V P (Builtin.append_ #[t, t] ty #[v, v1]) K) := by
  have hcl : cs.length = sz := by rw [← hx, hE.len]
  have hzl : z.length = sz := by obtain ⟨i, zv, _, _, _, _, _, hz⟩ := he.pf; exact hz
  have h1 : SetsI z 0 cs cs := ⟨by omega, by unfold setAll; simp [hcl, hzl]⟩
  have h2 : AtLen cs sz := ⟨hcl⟩
  have h3 : AtN [(0, sz)] 0 (0, sz) := ⟨rfl⟩
  have h4 : FillI [(0, sz)] z [(0, xv)] cs := fillI_cons (ha := h3) (hv := hc) (hs := h1) (hn := h2) (h := fillI_nil)
  refine E_bsl (l0 := z) [(0, sz)] hu he (by simp) (by omega) (by simp [rep]) (hf := h4) fun b => ?_
  have hcs : ∀ y ∈ cs, isCell y = true := by rw [← hx]; exact hE.cell x
  have hrd : Rd P B (cel true b T cs :: H) t (.slice (some ⟨b, 0, none⟩) 1 1) sz 1 cs := rd_slice (l := cs) hu (by rw [Nat.one_mul, ← hcl]; simp) (by simp [hcl]) hcs
  refine E_find (a := osl T sz v l.length (l.flatMap enc)) (.there .here) ?_
  refine E_app (m := 1) hu he hrd (by omega) (by omega) fun v' _ => ?_
  have h' := h v'
  unfold sls at h'
  simp only [List.length_append, List.length_cons, List.length_nil, List.flatMap_append, List.flatMap_cons, List.flatMap_nil, List.append_nil, hx] at h'
  exact E_same (.cons .here (.drop .refl)) h'
/-- append(s, t...). -/
theorem E_sapps [hE : Enc enc sz] {t ty T by_ : Nat} {z : List Value} {v u : Value} {l m : List α} (hu : P.underlying t = some (.slice T)) (he : Elt P T sz by_ z) [hf : Rs B H u enc m]
    (hb : (l.length + m.length) * by_ ≤ 140737488355328) (hn : l.length + m.length ≤ 9223372036854775807)
    (h : ∀ v' [CellI v'], E B (sls enc T sz v' (l ++ m) :: H) (K v')) :
    E B (sls enc T sz v l :: H) (V P (Builtin.append_ #[t, t] ty #[v, u]) K) := by
  refine E_app (m := m.length) hu he (rd_rs (hf := hf) hu) hb hn fun v' _ => ?_
  have h' := h v'
  unfold sls at h'
  simp only [List.length_append, List.flatMap_append] at h'
  exact h'
/-- []T{}. -/
theorem E_sbsl0 {t T by_ : Nat} {z : List Value} (enc : α → List Value) (hu : P.underlying t = some (.slice T)) (he : Elt P T sz by_ z)
    (h : ∀ v [CellI v], E B (sls enc T sz v [] :: H) (K v)) : E B H (V P (Instr.buildSlice t 0 #[]) K) := by
  refine E_bsl0 hu he fun b => ?_
  refine osl_of_cel (n := 0) (sz := sz) (by simp) ?_
  exact h (.slice (some ⟨b, 0, none⟩) 0 0)
/-- s[i] = x. -/
theorem E_sset [hE : Enc enc sz] {T i : Nat} {v xv : Value} {l : List α} {cs : List Value} {k : IntKind} (x : α) (hi : i < l.length) [hc : CellsI xv cs] (hx : enc x = cs)
    (h : E B (sls enc T sz v (l.set i x) :: H) (K undef)) : E B (sls enc T sz v l :: H) (S.ixS sz v (.int k (i : Int)) fun p => S.st sz p xv K) := by
  subst hx
  refine E_oslo (by omega) fun b cap spare hv hle hxl hsl => ?_
  subst hv
  refine E_ixN hi ?_
  have hle2 : i * sz + sz ≤ l.length * sz := by rw [← Nat.succ_mul]; exact Nat.mul_le_mul_right _ hi
  refine E_stN (hf := takC_here) (hv := hc) (l' := (l.set i x).flatMap enc ++ spare) (hE.len x) (hE.cell x) (by rw [List.length_append, enc_length]; omega) (by rw [Nat.zero_add]; exact enc_set x spare hi) ?_
  refine E_osls (n := l.length) (cap := cap) (sz := sz) hle (by rw [enc_length]; simp) hsl ?_
  unfold sls at h
  rw [List.length_set] at h
  have hc : E B (osl T sz (.slice (some ⟨b, 0, none⟩) l.length cap) l.length ((l.set i x).flatMap enc) :: H) (K undef) := h
  exact hc
/-- s[:k], in the place of s. -/
theorem E_stake [hE : Enc enc sz] {T k : Nat} {v : Value} {l : List α} (hk : k ≤ l.length)
    (h : ∀ v' [CellI v'], E B (sls enc T sz v' (l.take k) :: H) (K v')) : E B (sls enc T sz v l :: H) (S.slc sz v none (some (.int .i64 (k : Int))) none K) := by
  have hb : S.bound (some (.int .i64 (k : Int))) l.length = some k := by simp [S.bound]
  refine E_oslc2 (fun hv hn hx => ?_) (fun b cap spare hv hle hxl hsl => ?_)
  · have hl : l = [] := List.length_eq_zero_iff.1 hn
    subst hl
    have hk0 : k = 0 := by simpa using hk
    subst hk0
    have h' := h (.slice none 0 0)
    intro w hw
    subst hv
    refine ⟨0, 0, 0, rfl, rfl, rfl, Nat.le_refl _, Nat.le_refl _, Nat.le_refl _, (fun h => by cases h), ?_⟩
    exact (osl_nil (T := T) (sz := sz) h') w hw
  · subst hv
    refine E_slc (l := 0) (hh := k) (m := cap) rfl hb rfl (by omega) (by omega) (by omega) (fun h => by cases h) ?_
    have e : (if cap = 0 then some (⟨b, 0, none⟩ : Addr) else some ⟨b, 0 + 0 * sz, none⟩) = some ⟨b, 0, none⟩ := by split <;> simp
    rw [e, Nat.sub_zero, Nat.sub_zero]
    have h' := h (.slice (some ⟨b, 0, none⟩) k cap)
    have es : l.flatMap enc ++ spare = (l.take k).flatMap enc ++ ((l.drop k).flatMap enc ++ spare) := by
      rw [← List.append_assoc, ← List.flatMap_append, List.take_append_drop]
    rw [es]
    refine E_osls (n := k) (cap := cap) (sz := sz) (by omega) (by rw [enc_length, List.length_take, Nat.min_eq_left hk]) ?_ ?_
    · rw [List.length_append, enc_length, hsl, List.length_drop, ← Nat.add_mul]; congr 1; omega
    · unfold sls at h'
      rw [List.length_take, Nat.min_eq_left hk] at h'
      exact h'
/-- A slice of a slice, to be read. -/
theorem E_slcS2 [hE : Enc enc sz] {v : Value} {l : List α} {lo hi : Option Value} {i j : Nat} [hf : Rs B H v enc l] (h2 : S.bound hi l.length = some j) (h3 : S.bound lo 0 = some i) (h4 : i ≤ j) (h5 : j ≤ l.length)
    (h : ∀ v' [∀ H' [Rs B H' v enc l], Rs B H' v' enc ((l.drop i).take (j - i))] [CellI v'], E B H (K v')) : E B H (S.slc sz v lo hi none K) := by
  intro w hw
  rcases hf.pf hw with ⟨hv, h1, hb⟩ | ⟨a, cap, hv, hle, _⟩
  · subst hv
    have hj : j = 0 := by omega
    subst hj
    have hi' : i = 0 := by omega
    subst hi'
    have hl : l = [] := List.length_eq_zero_iff.1 h1
    subst hl
    refine ⟨0, 0, 0, rfl, h2, h3, Nat.le_refl _, Nat.le_refl _, Nat.le_refl _, (fun h => by cases h), ?_⟩
    have hr : ∀ H' [Rs B H' (.slice none 0 0) enc ([] : List α)], Rs B H' (.slice none 0 0) enc ((([] : List α).drop 0).take (0 - 0)) := fun _ _ => ⟨fun _ => .inl ⟨rfl, rfl, rfl⟩⟩
    exact @h (.slice none 0 0) hr ⟨rfl⟩ w hw
  · subst hv
    refine ⟨i, j, cap, rfl, h2, h3, h4, by omega, Nat.le_refl _, (fun h => by cases h), ?_⟩
    have hlen : ((l.drop i).take (j - i)).length = j - i := by simp; omega
    have hr : ∀ H' [Rs B H' (.slice (some a) l.length cap) enc l], Rs B H' (.slice (if cap = i then (some a : Option Addr) else (some a).map (·.add (i * sz))) (j - i) (cap - i)) enc ((l.drop i).take (j - i)) := fun H' hf' => ⟨fun {w'} hw' => by
      rcases hf'.pf hw' with ⟨h0, _⟩ | ⟨a', cap', hv', _, hc⟩
      · cases h0
      · cases hv'
        by_cases hcl : cap = i
        · have e : j - i = 0 := by omega
          refine .inr ⟨a, cap - i, ?_, by rw [hlen]; omega, fun m hm => by rw [enc_length, hlen, e] at hm; omega⟩
          rw [if_pos hcl, hlen]
        · refine .inr ⟨a.add (i * sz), cap - i, ?_, by rw [hlen]; omega, fun m hm => ?_⟩
          · rw [if_neg hcl, hlen]; simp
          · rw [enc_length, hlen] at hm
            have hle3 : i * sz + (j - i) * sz ≤ l.length * sz := by rw [← Nat.add_mul]; exact Nat.mul_le_mul_right _ (by omega)
            rw [addAdd, hc (i * sz + m) (by rw [enc_length]; omega), ← enc_take, ← enc_drop, List.getElem?_take_of_lt hm, List.getElem?_drop]⟩
    have hcl : CellI (.slice (if cap = i then (some a : Option Addr) else (some a).map (·.add (i * sz))) (j - i) (cap - i)) := ⟨rfl⟩
    exact @h _ hr hcl w hw
end

/-- A whole block that is loaded. -/
theorem E_ldNA {b n : Nat} {κ : Bool} {T : TypeId} {l : List Value} [hf : HasC H b κ T l] [hn : AtLen l n] (h : E B H (K (.agg l.toArray))) : E B H (S.ldN n (.pointer (some ⟨b, 0, none⟩)) K) :=
  E_ldN (hf := hf) (by rw [← hn.pf]; simp) hn.pf h

/-- A slice that was written out. -/
theorem E_slsC {α : Type} {enc : α → List Value} {sz : Nat} [hE : Enc enc sz] {T b : Nat} {xs : List Value} {W : WT} (l : List α) (n : Nat) (hx : l.flatMap enc = xs) (hn : n = l.length) (h : E B (sls enc T sz (.slice (some ⟨b, 0, none⟩) n n) l :: H) W) : E B (cel true b T xs :: H) W := by
  subst hx hn
  exact osl_of_cel (enc_length l) h

/-- clear(s). -/
theorem E_clear {b o n c t T sz by_ : Nat} {z l : List Value} {ts : Array TypeId} {ty : TypeId} (ht : ts[0]? = some t) (hu : P.underlying t = some (.slice T)) (he : Elt P T sz by_ z) (hz : ∀ y ∈ z, isCell y = true)
    (hn : 1 ≤ n) (hle : o + n * sz ≤ l.length) (h : E B (cel true b T (setAll l o (rep n z)) :: H) (K (.tuple #[]))) :
    E B (cel true b T l :: H) (V P (Builtin.clear_ ts ty #[.slice (some ⟨b, o, none⟩) n c]) K) := by
  obtain ⟨i, zv, hi, hs, hb, hzv, hzl, hzn⟩ := he.pf
  obtain ⟨m, rfl⟩ : ∃ m, n = m + 1 := ⟨n - 1, by omega⟩
  have hcells : ∀ y ∈ rep (m + 1) z, isCell y = true := fun y hy => by
    unfold rep at hy
    obtain ⟨l, hl, hyl⟩ := List.mem_flatten.1 hy
    obtain ⟨_, rfl⟩ := List.mem_replicate.1 hl
    exact hz y hyl
  refine E_Vok fun w hw => ?_
  obtain ⟨w', h1, h2⟩ := putFrom_eq (o := o) (rep (m + 1) z) l 0 w hw hcells (by rw [rep_length, hzn]; omega)
  refine ⟨_, w', ?_, h w' (by simpa using h2)⟩
  unfold Builtin.clear_
  simp only [ht, List.getElem?_toArray, List.getElem?_cons_zero, run_bind, run_underlying' hu, zero_run hi hzv, zeroCells_eq, hzl]
  rw [run_storeCells _ _ _ _ h1]
  rfl

/-! ### numbers -/
abbrev cI (n : Int) : List Value := [.int .i64 n]
instance : Enc cI 1 := ⟨fun _ => rfl, fun x y hy => by simp at hy; subst hy; rfl⟩
theorem ints_enc (l : List Int) : l.flatMap cI = ints l := by
  induction l with
  | nil => rfl
  | cons x l ih => rw [List.flatMap_cons, ih]; rfl
theorem E_ints {T : Nat} {v : Value} {l : List Int} {W : WT} (h : E B (sls cI T 1 v l :: H) W) : E B (osl T 1 v l.length (ints l) :: H) W := by
  rw [← ints_enc]; exact h
theorem E_intsS {T : Nat} {v : Value} {l : List Int} {W : WT} (h : E B (osl T 1 v l.length (ints l) :: H) W) : E B (sls cI T 1 v l :: H) W := by
  unfold sls; rw [ints_enc]; exact h
instance (priority := high) rs_ints {T : Nat} {v : Value} {l : List Int} {H : List Asrt} : Rs B (osl T 1 v l.length (ints l) :: H) v cI l := by
  rw [← ints_enc]; exact rs_sls (enc := cI)
end Go.SL
