/-
  Byte slices that can be read: a pool's, or one's own.
-/
import Derived.Test.YtfholicobkpilaaSlSort
set_option linter.unusedSimpArgs false
set_option linter.unusedVariables false
set_option linter.unusedSectionVars false
namespace Go.SL
open Go.RowKit
variable {B : World} {H : List Asrt} {K : Value → WT} {P : Program}

def rdB (w : World) (v : Value) (bs : List UInt8) : Prop := (v = .slice none 0 0 ∧ bs = []) ∨
  ∃ (a : Addr) (cap : Nat), v = .slice (some a) bs.length cap ∧ bs.length ≤ cap ∧ ∀ j, j < bs.length → w.cell? (a.add j) = (bcs bs)[j]?
class InL (L : List (Value × List UInt8)) (v : Value) (bs : outParam (List UInt8)) : Prop where
  pf : (v, bs) ∈ L
instance (priority := high) inL_here {v bs L} : InL ((v, bs) :: L) v bs := ⟨by simp⟩
instance inL_there {p v bs L} [h : InL L v bs] : InL (p :: L) v bs := ⟨List.mem_cons_of_mem _ h.pf⟩
/-- Bytes that the start world has, and that so stay. -/
class BaseR (B : World) (v : Value) (bs : outParam (List UInt8)) : Prop where
  pf : rdB B v bs
class Rb (B : World) (H : List Asrt) (v : Value) (bs : outParam (List UInt8)) : Prop where
  pf : ∀ {w}, sat B H w → rdB w v bs
instance rb_there {B a H v bs} [h : Rb B H v bs] : Rb B (a :: H) v bs := ⟨fun hw => h.pf hw.tail⟩
theorem cell_base {w : World} {a : Addr} {v : Value} (h : sat B H w) (hc : B.cell? a = some v) : w.cell? a = some v := by
  unfold World.cell? at *
  have hlt : a.block < B.heap.size := by
    rcases Nat.lt_or_ge a.block B.heap.size with h' | h'
    · exact h'
    · simp [Array.getElem?_eq_none h'] at hc
  rw [h.1.block a.block hlt]; exact hc
instance (priority := low) rb_base {B H v bs} [h : BaseR B v bs] : Rb B H v bs := ⟨fun {w} hw => by
  rcases h.pf with h | ⟨a, cap, hv, hle, hc⟩
  · exact .inl h
  · refine .inr ⟨a, cap, hv, hle, fun j hj => ?_⟩
    have hj' : (bcs bs)[j]? = some ((bcs bs)[j]'(by simpa using hj)) := List.getElem?_eq_getElem _
    rw [hj']
    exact cell_base hw ((hc j hj).trans hj')⟩
theorem sat_osl {w : World} {sz : Nat} {T : TypeId} {v : Value} {n : Nat} {xs : List Value} (h : sat B (osl T sz v n xs :: H) w) : (v = .slice none 0 0 ∧ n = 0 ∧ xs = []) ∨
    ∃ b cap, v = .slice (some ⟨b, 0, none⟩) n cap ∧ n ≤ cap ∧ xs.length = n * sz ∧ ∀ j, j < xs.length → w.cell? ⟨b, 0 + j, none⟩ = xs[j]? := by
  obtain ⟨hB, ch, ⟨c1, c2, hch, hosl, hst⟩, hcc⟩ := h
  rcases hosl with ⟨rfl, rfl, rfl, rfl⟩ | ⟨b, cap, spare, rfl, hle, hxl, hsl, hcel⟩
  · exact .inl ⟨rfl, rfl, rfl⟩
  · refine .inr ⟨b, cap, rfl, hle, hxl, fun j hj => ?_⟩
    have hsat : sat B (cel true b T (xs ++ spare) :: H) w := ⟨hB, ch, ⟨c1, c2, hch, hcel, hst⟩, hcc⟩
    rw [sat_cell (hf := hasC_here) hsat, Nat.zero_add, List.getElem?_append_left hj]
instance (priority := high) rb_osl {T : TypeId} {v : Value} {n : Nat} {bs : List UInt8} {H : List Asrt} : Rb B (osl T 1 v n (bcs bs) :: H) v bs := ⟨fun hw => by
  rcases sat_osl hw with ⟨rfl, rfl, h⟩ | ⟨b, cap, rfl, hle, hl, hc⟩
  · exact .inl ⟨rfl, by simpa [bcs] using h⟩
  · have hn : bs.length = n := by simpa using hl
    subst hn
    exact .inr ⟨⟨b, 0, none⟩, cap, rfl, hle, fun j hj => by rw [add_at]; exact hc j (by simpa using hj)⟩⟩
theorem rb_cases {w : World} {v : Value} {bs : List UInt8} [hf : Rb B H v bs] (h : sat B H w) : rdB w v bs := hf.pf h
instance rb_ros {L : List (Value × List UInt8)} {v : Value} {bs : List UInt8} {H : List Asrt} [hm : InL L v bs]   : Rb B (ros L :: H) v bs := ⟨fun hw => by
  rcases sat_ros (hf := hasR_here) hw hm.pf with h | ⟨b, o, cap, hv, hle, hc⟩
  · exact .inl h
  · exact .inr ⟨⟨b, o, none⟩, cap, hv, hle, fun j hj => by rw [add_at]; exact hc j hj⟩⟩
theorem E_rb {v : Value} {bs : List UInt8} {W : WT} [hf : Rb B H v bs] (h0 : v = .slice none 0 0 → bs = [] → E B H W)
    (h1 : ∀ (a : Addr) (cap : Nat), v = .slice (some a) bs.length cap → bs.length ≤ cap → E B H W) : E B H W := fun w hw => by
  rcases hf.pf hw with ⟨h, h'⟩ | ⟨a, cap, h, hle, _⟩
  · exact h0 h h' w hw
  · exact h1 a cap h hle w hw
theorem E_rbn {v : Value} {bs : List UInt8} {W : WT} [hf : Rb B H v bs] (hn : 0 < bs.length)
    (h1 : ∀ b o cap, v = .slice (some ⟨b, o, none⟩) bs.length cap → bs.length ≤ cap → E B H W) : E B H W := fun w hw => by
  rcases hf.pf hw with ⟨h, h'⟩ | ⟨a, cap, h, hle, hc⟩
  · rw [h'] at hn; exact absurd hn (by simp)
  · obtain ⟨b, o, sp⟩ := a
    have h0 := hc 0 hn
    have hg : (bcs bs)[0]? = some ((bcs bs)[0]'(by simpa using hn)) := List.getElem?_eq_getElem _
    rw [hg] at h0
    have hsp : sp = none := by
      have : (⟨b, o, sp⟩ : Addr).add 0 = ⟨b, o, sp⟩ := rfl
      rw [this] at h0
      unfold World.cell? at h0
      cases sp with
      | none => rfl
      | some k => simp only at h0; split at h0 <;> simp at h0
    subst hsp
    exact h1 b o cap h hle w hw
theorem rd_rb {v : Value} {bs : List UInt8} {tx e' : TypeId} [hf : Rb B H v bs] (hk : P.underlying tx = some (.slice e')) : Rd P B H tx v 1 bs.length (bcs bs) := fun w hw => by
  rcases hf.pf hw with ⟨rfl, rfl⟩ | ⟨a, cap, rfl, _, hc⟩
  · exact Go.Src.ofNil w hk 0
  · exact Go.Src.ofSlice w hk _ _ _ _ (by simp) (fun j u hj => by
      have hlt : j < bs.length := by have := (List.getElem?_eq_some_iff.1 hj).1; simpa using this
      rw [hc j hlt]; exact hj) (fun u hu => by have := bcs_cell bs u hu; cases u <;> first | rfl | cases this)
theorem cells_rb {w : World} {a : Addr} {bs : List UInt8} (hc : ∀ j, j < bs.length → w.cell? (a.add j) = (bcs bs)[j]?) : ∀ (n i : Nat), i + n = bs.length → cellsFrom w a i n = some ((bcs bs).drop i)
  | 0, i, h => by simp only [cellsFrom]; rw [List.drop_eq_nil_of_le (by simp; omega)]
  | n + 1, i, h => by
    simp only [cellsFrom]
    have hlt : i < (bcs bs).length := by simp; omega
    rw [hc i (by omega), List.getElem?_eq_getElem hlt]
    simp only
    rw [cells_rb hc n (i + 1) (by omega)]
    simp
theorem E_b2sR {v : Value} {bs : List UInt8} [hf : Rb B H v bs] (h : E B H (K (.string ⟨bs.toArray⟩))) : E B H (S.b2s v K) := fun w hw => by
  rcases hf.pf hw with ⟨rfl, rfl⟩ | ⟨a, cap, rfl, _, hc⟩
  · exact h w hw
  · unfold S.b2s
    have := cells_rb hc bs.length 0 (by omega)
    simp only [this, List.drop_zero, bytesOf_bcs]
    simpa using h w hw
theorem E_rb_ld {b o n cap : Nat} {bs : List UInt8} {i : Nat} [hf : Rb B H (.slice (some ⟨b, o, none⟩) n cap) bs] (hi : i < bs.length)
    (h : E B H (K (.int .u8 (bs[i]).toNat))) : E B H (S.ld (.pointer (some ⟨b, o + i, none⟩)) K) := fun w hw => by
  rcases hf.pf hw with ⟨h0, _⟩ | ⟨a, cap', hv, _, hc⟩
  · cases h0
  · cases hv
    unfold S.ld
    have hg : (bcs bs)[i]? = some (.int .u8 (bs[i]).toNat) := by simp [bcs, hi]
    have := hc i hi
    rw [add_at] at this
    simp only [this, hg]
    exact h w hw

/-! ### any values -/
def rdX (w : World) (v : Value) (n : Nat) (xs : List Value) : Prop := (v = .slice none 0 0 ∧ n = 0 ∧ xs = []) ∨
  ∃ (a : Addr) (cap : Nat), v = .slice (some a) n cap ∧ n ≤ cap ∧ ∀ j, j < xs.length → w.cell? (a.add j) = xs[j]?
class BaseX (B : World) (v : Value) (n : outParam Nat) (xs : outParam (List Value)) : Prop where
  pf : rdX B v n xs
class Rx (B : World) (H : List Asrt) (v : Value) (n : outParam Nat) (xs : outParam (List Value)) : Prop where
  pf : ∀ {w}, sat B H w → rdX w v n xs
instance rx_there {B a H v n xs} [h : Rx B H v n xs] : Rx B (a :: H) v n xs := ⟨fun hw => h.pf hw.tail⟩
instance (priority := high) rx_osl {T sz : Nat} {v : Value} {n : Nat} {xs : List Value} {H : List Asrt} : Rx B (osl T sz v n xs :: H) v n xs := ⟨fun hw => by
  rcases sat_osl hw with ⟨rfl, rfl, rfl⟩ | ⟨b, cap, rfl, hle, hl, hc⟩
  · exact .inl ⟨rfl, rfl, rfl⟩
  · exact .inr ⟨⟨b, 0, none⟩, cap, rfl, hle, fun j hj => by rw [add_at]; exact hc j hj⟩⟩
instance (priority := low) rx_base {B H v n xs} [h : BaseX B v n xs] : Rx B H v n xs := ⟨fun {w} hw => by
  rcases h.pf with h | ⟨a, cap, hv, hle, hc⟩
  · exact .inl h
  · refine .inr ⟨a, cap, hv, hle, fun j hj => ?_⟩
    have hj' : xs[j]? = some xs[j] := by simp
    rw [hj']
    exact cell_base hw ((hc j hj).trans hj')⟩
theorem E_rxa {v : Value} {n : Nat} {xs : List Value} {W : WT} [hf : Rx B H v n xs] (h0 : v = .slice none 0 0 → n = 0 → xs = [] → E B H W)
    (h1 : ∀ (a : Addr) (cap : Nat), v = .slice (some a) n cap → n ≤ cap → E B H W) : E B H W := fun w hw => by
  rcases hf.pf hw with ⟨h, h', h''⟩ | ⟨a, cap, h, hle, _⟩
  · exact h0 h h' h'' w hw
  · exact h1 a cap h hle w hw
theorem E_rxn {v : Value} {n : Nat} {xs : List Value} {W : WT} [hf : Rx B H v n xs] (hn : 0 < xs.length)
    (h1 : ∀ b o cap, v = .slice (some ⟨b, o, none⟩) n cap → n ≤ cap → E B H W) : E B H W := fun w hw => by
  rcases hf.pf hw with ⟨h, h', h''⟩ | ⟨a, cap, h, hle, hc⟩
  · rw [h''] at hn; exact absurd hn (by simp)
  · obtain ⟨b, o, sp⟩ := a
    have h0 := hc 0 hn
    rw [List.getElem?_eq_getElem hn] at h0
    have hsp : sp = none := by
      have : (⟨b, o, sp⟩ : Addr).add 0 = ⟨b, o, sp⟩ := rfl
      rw [this] at h0
      unfold World.cell? at h0
      cases sp with
      | none => rfl
      | some k => simp only at h0; split at h0 <;> simp at h0
    subst hsp
    exact h1 b o cap h hle w hw
theorem E_rx_ld {b o n m cap : Nat} {xs : List Value} {u : Value} {i : Nat} [hf : Rx B H (.slice (some ⟨b, o, none⟩) m cap) n xs] (hi : xs[i]? = some u) (h : E B H (K u)) : E B H (S.ld (.pointer (some ⟨b, o + i, none⟩)) K) := fun w hw => by
  rcases hf.pf hw with ⟨h0, _⟩ | ⟨a, cap', hv, _, hc⟩
  · cases h0
  · cases hv
    unfold S.ld
    have hlt : i < xs.length := (List.getElem?_eq_some_iff.1 hi).1
    have := hc i hlt
    rw [add_at] at this
    simp only [this, hi]
    exact h w hw
theorem rd_rx {sz : Nat} {v : Value} {n : Nat} {xs : List Value} {tx e' : TypeId} [hf : Rx B H v n xs] (hk : P.underlying tx = some (.slice e')) (hl : xs.length = n * sz) (hc0 : ∀ y ∈ xs, isCell y = true) : Rd P B H tx v sz n xs := fun w hw => by
  rcases hf.pf hw with ⟨rfl, rfl, rfl⟩ | ⟨a, cap, rfl, _, hc⟩
  · exact Go.Src.ofNil w hk 0
  · exact Go.Src.ofSlice w hk _ _ _ _ hl (fun j u hj => by
      have hlt : j < xs.length := (List.getElem?_eq_some_iff.1 hj).1
      rw [hc j hlt]; exact hj) (fun u hu => by have := hc0 u hu; cases u <;> first | rfl | cases this)
/-! ### opening what one owns -/
theorem E_oslo {T sz n : Nat} {v : Value} {xs : List Value} {W : WT} (hn : 1 ≤ n) (h : ∀ b cap spare, v = .slice (some ⟨b, 0, none⟩) n cap → n ≤ cap → xs.length = n * sz → spare.length = (cap - n) * sz → E B (cel true b T (xs ++ spare) :: H) W) :
    E B (osl T sz v n xs :: H) W := fun w hw => by
  obtain ⟨hB, ch, ⟨c1, c2, hch, hosl, hst⟩, hcc⟩ := hw
  rcases hosl with ⟨rfl, rfl, rfl, rfl⟩ | ⟨b, cap, spare, rfl, hle, hxl, hsl, hcel⟩
  · omega
  · exact h b cap spare rfl hle hxl hsl w ⟨hB, ch, ⟨c1, c2, hch, hcel, hst⟩, hcc⟩
theorem E_oslc2 {T sz n : Nat} {v : Value} {xs : List Value} {W : WT} (h0 : v = .slice none 0 0 → n = 0 → xs = [] → E B H W) (h : ∀ b cap spare, v = .slice (some ⟨b, 0, none⟩) n cap → n ≤ cap → xs.length = n * sz → spare.length = (cap - n) * sz → E B (cel true b T (xs ++ spare) :: H) W) :
    E B (osl T sz v n xs :: H) W := fun w hw => by
  obtain ⟨hB, ch, ⟨c1, c2, hch, hosl, hst⟩, hcc⟩ := hw
  rcases hosl with ⟨rfl, rfl, rfl, rfl⟩ | ⟨b, cap, spare, rfl, hle, hxl, hsl, hcel⟩
  · exact h0 rfl rfl rfl w ⟨hB, c2, hst, by simpa [hch] using hcc⟩
  · exact h b cap spare rfl hle hxl hsl w ⟨hB, ch, ⟨c1, c2, hch, hcel, hst⟩, hcc⟩
theorem E_osls {T sz n b cap : Nat} {xs spare : List Value} {W : WT} (hle : n ≤ cap) (hxl : xs.length = n * sz) (hsl : spare.length = (cap - n) * sz) (h : E B (osl T sz (.slice (some ⟨b, 0, none⟩) n cap) n xs :: H) W) :
    E B (cel true b T (xs ++ spare) :: H) W := E_imp (fun l hl => .inr ⟨b, cap, spare, rfl, hle, hxl, hsl, hl⟩) h
/-- A slice of a slice. -/
theorem E_slc {sz n cap b o : Nat} {lo hi mx : Option Value} {l hh m : Nat} (h1 : S.bound mx cap = some m) (h2 : S.bound hi n = some hh) (h3 : S.bound lo 0 = some l) (h4 : l ≤ hh) (h5 : hh ≤ m) (h6 : m ≤ cap) (h7 : mx.isSome = true → hi.isSome = true)
    (h : E B H (K (.slice (if m = l then some ⟨b, o, none⟩ else some ⟨b, o + l * sz, none⟩) (hh - l) (m - l)))) : E B H (S.slc sz (.slice (some ⟨b, o, none⟩) n cap) lo hi mx K) := by
  intro w hw
  refine ⟨l, hh, m, h1, h2, h3, h4, h5, h6, h7, ?_⟩
  have := h w hw
  split at this
  · rename_i e; rw [if_pos e]; exact this
  · rename_i e; rw [if_neg e]; simpa [add_at] using this
theorem E_rb_len {v : Value} {bs : List UInt8} [hf : Rb B H v bs] (h : E B H (K (.int .i64 bs.length))) : E B H (S.len v K) :=
  E_rb (hf := hf) (fun hv hb => by subst hv hb; exact E_len h) (fun a cap hv _ => by subst hv; exact E_len h)
theorem E_rx_len {v : Value} {n : Nat} {xs : List Value} [hf : Rx B H v n xs] (h : E B H (K (.int .i64 n))) : E B H (S.len v K) :=
  E_rxa (hf := hf) (fun hv hn _ => by subst hv hn; exact E_len h) (fun a cap hv _ => by subst hv; exact E_len h)
theorem E_gff {body : (Value → WT) → WT} {rest : Value → WT} (hf : E B H (rest undef)) : E B H (S.gd (.bool false) true body rest) := hf
theorem E_gtt {body : (Value → WT) → WT} {rest : Value → WT} (hf : E B H (rest undef)) : E B H (S.gd (.bool true) false body rest) := hf
theorem E_gft {body : (Value → WT) → WT} {rest : Value → WT} (hf : E B H (body rest)) : E B H (S.gd (.bool false) false body rest) := hf
theorem E_gtf {body : (Value → WT) → WT} {rest : Value → WT} (hf : E B H (body rest)) : E B H (S.gd (.bool true) true body rest) := hf
theorem E_pff {a b : Value} (h : E B H (K b)) : E B H (S.pick (.bool false) a b K) := h
theorem E_ptt {a b : Value} (h : E B H (K a)) : E B H (S.pick (.bool true) a b K) := h
/-- A slice of bytes that can be read. -/
theorem E_slcR {v : Value} {bs : List UInt8} {lo hi : Option Value} {l hh : Nat} [hf : Rb B H v bs] (h2 : S.bound hi bs.length = some hh) (h3 : S.bound lo 0 = some l) (h4 : l ≤ hh) (h5 : hh ≤ bs.length)
    (h : ∀ v' [Rb B H v' ((bs.drop l).take (hh - l))] [CellI v'], E B H (K v')) : E B H (S.slc 1 v lo hi none K) := by
  intro w hw
  rcases hf.pf hw with ⟨hv, hb⟩ | ⟨a, cap, hv, hle, _⟩
  · subst hv hb
    have : hh = 0 := by simpa using h5
    subst this
    have : l = 0 := by omega
    subst this
    refine ⟨0, 0, 0, rfl, h2, h3, Nat.le_refl _, Nat.le_refl _, Nat.le_refl _, (fun h => by cases h), ?_⟩
    have hr : Rb B H (.slice none 0 0) (([].drop 0).take (0 - 0) : List UInt8) := ⟨fun _ => .inl ⟨rfl, rfl⟩⟩
    exact h (.slice none 0 0) w hw
  · subst hv
    refine ⟨l, hh, cap, rfl, h2, h3, h4, by omega, Nat.le_refl _, (fun h => by cases h), ?_⟩
    have hlen : ((bs.drop l).take (hh - l)).length = hh - l := by simp; omega
    have hr : Rb B H (.slice (if cap = l then (some a : Option Addr) else (some a).map (·.add (l * 1))) (hh - l) (cap - l)) ((bs.drop l).take (hh - l)) := ⟨fun {w'} hw' => by
      rcases hf.pf hw' with ⟨h0, _⟩ | ⟨a', cap', hv', _, hc⟩
      · cases h0
      · cases hv'
        by_cases hcl : cap = l
        · have e : hh - l = 0 := by omega
          refine .inr ⟨a, cap - l, ?_, by rw [hlen]; omega, fun j hj => by rw [hlen] at hj; omega⟩
          rw [if_pos hcl, hlen]
        · refine .inr ⟨a.add l, cap - l, ?_, by rw [hlen]; omega, fun j hj => ?_⟩
          · rw [if_neg hcl, hlen]; simp
          · rw [hlen] at hj
            have ha : (a.add l).add j = a.add (l + j) := by
              unfold Addr.add
              by_cases h1 : l = 0 <;> by_cases h2 : j = 0 <;> simp [h1, h2] <;> omega
            rw [ha, hc (l + j) (by omega)]
            simp [bcs, List.getElem?_take, hj, List.getElem?_drop]⟩
    have hcl : CellI (.slice (if cap = l then (some a : Option Addr) else (some a).map (·.add (l * 1))) (hh - l) (cap - l)) := ⟨rfl⟩
    exact h _ w hw
end Go.SL
