/-
  Byte slices that are only read, in a pool.
-/
import Derived.Test.YtfholicobkpilaaSlIter
set_option linter.unusedSimpArgs false
set_option linter.unusedVariables false
set_option linter.unusedSectionVars false
namespace Go.SL
open Go.RowKit
variable {B : World} {H : List Asrt} {K : Value → WT} {P : Program}

def bcs (bs : List UInt8) : List Value := bs.map fun b => .int .u8 b.toNat
@[simp] theorem bcs_length (bs : List UInt8) : (bcs bs).length = bs.length := by simp [bcs]
theorem bcs_cell (bs : List UInt8) : ∀ y ∈ bcs bs, isCell y = true := fun y h => by
  obtain ⟨b, _, rfl⟩ := List.mem_map.1 h; rfl
/-- A slice value v has the bytes bs, in one of the chunks ch. -/
def hasBytes (ch : List Chunk) (v : Value) (bs : List UInt8) : Prop := (v = .slice none 0 0 ∧ bs = []) ∨
  ∃ (b o cap : Nat) (l : List Value) (T : TypeId) (fr : Nat × Nat), v = .slice (some ⟨b, o, none⟩) bs.length cap ∧ bs.length ≤ cap ∧ (l.drop o).take bs.length = bcs bs ∧ (⟨false, b, .cells l.toArray T fr⟩ : Chunk) ∈ ch
/-- A pool: chunks that are only read, and which slices have which bytes in them. -/
def ros (L : List (Value × List UInt8)) : Asrt := fun ch => (∀ c ∈ ch, c.own = false) ∧ ∀ p ∈ L, hasBytes ch p.1 p.2
theorem hasBytes_mono {ch ch' : List Chunk} {v : Value} {bs : List UInt8} (h : ∀ c ∈ ch, c ∈ ch') (hb : hasBytes ch v bs) : hasBytes ch' v bs := by
  rcases hb with hb | ⟨b, o, cap, l, T, fr, h1, hle, h2, h3⟩
  · exact .inl hb
  · exact .inr ⟨b, o, cap, l, T, fr, h1, hle, h2, h _ h3⟩
theorem ros_sub {L L' : List (Value × List UInt8)} {W : WT} (hs : ∀ p ∈ L', p ∈ L) (h : E B (ros L' :: H) W) : E B (ros L :: H) W :=
  E_imp (fun l ⟨h1, h2⟩ => ⟨h1, fun p hp => h2 p (hs p hp)⟩) h
theorem ros_new {W : WT} (h : E B (ros [] :: H) W) : E B H W := fun w ⟨hb, l, hs, hc⟩ => h w ⟨hb, l, ⟨[], l, rfl, ⟨by simp, by simp⟩, hs⟩, hc⟩
theorem ros_join {L L' : List (Value × List UInt8)} {W : WT} (h : E B (ros (L ++ L') :: H) W) : E B (ros L :: ros L' :: H) W := fun w ⟨hb, l, ⟨l1, l2, e, ⟨h1, h2⟩, l3, l4, e', ⟨h3, h4⟩, hs⟩, hc⟩ =>
  h w ⟨hb, l, ⟨l1 ++ l3, l4, by rw [e, e', List.append_assoc], ⟨fun c hm => by
    rcases List.mem_append.1 hm with hm | hm
    · exact h1 c hm
    · exact h3 c hm, fun p hp => by
    rcases List.mem_append.1 hp with hp | hp
    · exact hasBytes_mono (fun c hc => List.mem_append_left _ hc) (h2 p hp)
    · exact hasBytes_mono (fun c hc => List.mem_append_right _ hc) (h4 p hp)⟩, hs⟩, hc⟩
theorem ros_dup {L : List (Value × List UInt8)} {W : WT} (h : E B (ros L :: ros L :: H) W) : E B (ros L :: H) W := fun w ⟨hb, l, ⟨l1, l2, e, ⟨h1, h2⟩, hs⟩, hc⟩ =>
  h w ⟨hb, l1 ++ (l1 ++ l2), ⟨l1, l1 ++ l2, rfl, ⟨h1, h2⟩, l1, l2, rfl, ⟨h1, h2⟩, hs⟩, fun c hm => hc.1 c (by
    rw [e]
    rcases List.mem_append.1 hm with hm | hm
    · exact List.mem_append_left _ hm
    · exact hm), by
    have hp := hc.2
    rw [e] at hp
    refine List.pairwise_append.2 ⟨(List.pairwise_append.1 hp).1, hp, fun c hcm d hdm k => ?_⟩
    rcases List.mem_append.1 hdm with hd | hd
    · have := h1 c hcm; have := h1 d hd; simp_all
    · exact (List.pairwise_append.1 hp).2.2 c hcm d hd k⟩
/-- What is owned, or only read, joins the pool. -/
theorem ros_add {κ : Bool} {b o cap : Nat} {T : TypeId} {l : List Value} {bs : List UInt8} {L : List (Value × List UInt8)} {W : WT} (hle : bs.length ≤ cap) (hl : (l.drop o).take bs.length = bcs bs)
    (h : E B (ros ((.slice (some ⟨b, o, none⟩) bs.length cap, bs) :: L) :: H) W) : E B (cel κ b T l :: ros L :: H) W := by
  have key : E B (cel false b T l :: ros L :: H) W := fun w ⟨hb, lc, ⟨l1, l2, e, ⟨fr, _, h1⟩, l3, l4, e', ⟨h3, h4⟩, hs⟩, hc⟩ => by
    subst h1
    refine h w ⟨hb, lc, ⟨[⟨false, b, .cells l.toArray T fr⟩] ++ l3, l4, by rw [e, e', List.append_assoc], ⟨fun c hm => ?_, fun p hp => ?_⟩, hs⟩, hc⟩
    · rcases List.mem_append.1 hm with hm | hm
      · simp at hm; subst hm; rfl
      · exact h3 c hm
    · rcases List.mem_cons.1 hp with rfl | hp
      · exact .inr ⟨b, o, cap, l, T, fr, rfl, hle, hl, by simp⟩
      · exact hasBytes_mono (fun c hc => List.mem_append_right _ hc) (h4 p hp)
  cases κ with
  | false => exact key
  | true =>
    intro w ⟨hb, lc, ⟨l1, l2, e, ⟨fr, _, h1⟩, hs⟩, hc⟩
    have hsat : sat B (pt true b (.cells l.toArray T fr) :: ros L :: H) w := ⟨hb, lc, ⟨l1, l2, e, h1, hs⟩, hc⟩
    refine E_share (fun w hw => ?_) w hsat
    obtain ⟨hb, lc, ⟨l1, l2, e, h1, hs⟩, hc⟩ := hw
    exact key w ⟨hb, lc, ⟨l1, l2, e, ⟨fr, by simp, h1⟩, hs⟩, hc⟩
class HasR (H : List Asrt) (L : outParam (List (Value × List UInt8))) : Prop where
  pf : ∃ H', Find H (ros L) H'
instance (priority := high) hasR_here {L H} : HasR (ros L :: H) L := ⟨_, .here⟩
instance hasR_there {a L H} [h : HasR H L] : HasR (a :: H) L := ⟨_, .there h.pf.choose_spec⟩
theorem sat_ros {w : World} {L : List (Value × List UInt8)} [hf : HasR H L] (h : sat B H w) {v : Value} {bs : List UInt8} (hm : (v, bs) ∈ L) :
    (v = .slice none 0 0 ∧ bs = []) ∨ ∃ b o cap, v = .slice (some ⟨b, o, none⟩) bs.length cap ∧ bs.length ≤ cap ∧ ∀ j, j < bs.length → w.cell? ⟨b, o + j, none⟩ = (bcs bs)[j]? := by
  obtain ⟨H', hf⟩ := hf.pf
  obtain ⟨hb, lc, ⟨l1, l2, e, ⟨h1, h2⟩, hs⟩, hc⟩ := sat_perm hf.perm h
  rcases h2 _ hm with h0 | ⟨b, o, cap, l, T, fr, hv, hle, hl, hch⟩
  · exact .inl h0
  · refine .inr ⟨b, o, cap, hv, hle, fun j hj => ?_⟩
    have hblk := (hc.1 _ (by rw [e]; exact List.mem_append_left _ hch)).1
    unfold World.cell?
    simp only [hblk]
    rw [← hl]
    simp [List.getElem?_take, hj, List.getElem?_drop]
theorem add_at (b o j : Nat) : (⟨b, o, none⟩ : Addr).add j = ⟨b, o + j, none⟩ := by
  unfold Addr.add; split
  · rename_i h0; subst h0; rfl
  · rfl
theorem rd_ros {L : List (Value × List UInt8)} {v : Value} {bs : List UInt8} {tx e' : TypeId} [hf : HasR H L] (hk : P.underlying tx = some (.slice e')) (hm : (v, bs) ∈ L) : Rd P B H tx v 1 bs.length (bcs bs) := fun w hw => by
  rcases sat_ros (hf := hf) hw hm with ⟨rfl, rfl⟩ | ⟨b, o, cap, rfl, _, hc⟩
  · exact Go.Src.ofNil w hk 0
  · exact Go.Src.ofSlice w hk _ _ _ _ (by simp) (fun j u hj => by
      have hlt : j < bs.length := by have := (List.getElem?_eq_some_iff.1 hj).1; simpa using this
      rw [add_at, hc j hlt]; exact hj) (fun u hu => by have := bcs_cell bs u hu; cases u <;> first | rfl | cases this)
theorem cells_ros {w : World} {b o : Nat} {bs : List UInt8} (hc : ∀ j, j < bs.length → w.cell? ⟨b, o + j, none⟩ = (bcs bs)[j]?) : ∀ (n i : Nat), i + n = bs.length → cellsFrom w ⟨b, o, none⟩ i n = some ((bcs bs).drop i)
  | 0, i, h => by simp only [cellsFrom]; rw [List.drop_eq_nil_of_le (by simp; omega)]
  | n + 1, i, h => by
    simp only [cellsFrom, add_at]
    have hlt : i < (bcs bs).length := by simp; omega
    rw [hc i (by omega), List.getElem?_eq_getElem hlt]
    simp only
    rw [cells_ros hc n (i + 1) (by omega)]
    simp
theorem bytesOf_bcs : ∀ (bs : List UInt8) (s : ByteArray), S.bytesOf (bcs bs) s = some ⟨(s.data.toList ++ bs).toArray⟩
  | [], s => by simp [bcs, S.bytesOf]
  | b :: bs, s => by
    have := bytesOf_bcs bs (s.push b)
    simp only [bcs, List.map_cons, S.bytesOf] at this ⊢
    have hb : UInt8.ofNat (Int.toNat ((b.toNat : Nat) : Int)) = b := by simp
    rw [hb, this]
    simp [ByteArray.push]
theorem E_ros_cases {L : List (Value × List UInt8)} {v : Value} {bs : List UInt8} {W : WT} [hf : HasR H L] (hm : (v, bs) ∈ L) (h0 : v = .slice none 0 0 → bs = [] → E B H W)
    (h1 : ∀ b o cap, v = .slice (some ⟨b, o, none⟩) bs.length cap → bs.length ≤ cap → E B H W) : E B H W := fun w hw => by
  rcases sat_ros (hf := hf) hw hm with ⟨h, h'⟩ | ⟨b, o, cap, h, hle, _⟩
  · exact h0 h h' w hw
  · exact h1 b o cap h hle w hw
/-- One's own bytes join the pool. -/
theorem osl_ros {T : TypeId} {v : Value} {bs : List UInt8} {n : Nat} {L : List (Value × List UInt8)} {W : WT} (hn : n = bs.length) (h : E B (ros ((v, bs) :: L) :: H) W) : E B (osl T 1 v n (bcs bs) :: ros L :: H) W := by
  subst hn
  intro w ⟨hb, l, ⟨l1, l2, e, h1, h2⟩, hc⟩
  rcases h1 with ⟨hv, h0, hx, hl⟩ | ⟨b, cap, spare, hv, hle, hxl, hsl, hcel⟩
  · subst hl
    have hbs : bs = [] := by simpa [bcs] using hx
    have h2' : stars (ros L :: H) l := by rw [e]; exact h2
    refine h w ⟨hb, l, ?_, hc⟩
    obtain ⟨l3, l4, e', ⟨h3, h4⟩, h5⟩ := h2'
    exact ⟨l3, l4, e', ⟨h3, fun p hp => by
      rcases List.mem_cons.1 hp with rfl | hp
      · exact .inl ⟨hv, hbs⟩
      · exact h4 p hp⟩, h5⟩
  · subst hv
    exact ros_add (o := 0) (cap := cap) (by have : bs.length = bs.length := rfl; simpa using hle) (by simp) h w ⟨hb, l, ⟨l1, l2, e, hcel, h2⟩, hc⟩
theorem E_b2s {L : List (Value × List UInt8)} {v : Value} {bs : List UInt8} [hf : HasR H L] (hm : (v, bs) ∈ L) (h : E B H (K (.string ⟨bs.toArray⟩))) : E B H (S.b2s v K) := fun w hw => by
  rcases sat_ros (hf := hf) hw hm with ⟨rfl, rfl⟩ | ⟨b, o, cap, rfl, _, hc⟩
  · exact h w hw
  · unfold S.b2s
    have := cells_ros hc bs.length 0 (by omega)
    simp only [this, List.drop_zero, bytesOf_bcs]
    simpa using h w hw
theorem E_ros_ld {L : List (Value × List UInt8)} {b o n cap : Nat} {bs : List UInt8} {i : Nat} [hf : HasR H L] (hm : (.slice (some ⟨b, o, none⟩) n cap, bs) ∈ L) (hi : i < bs.length)
    (h : E B H (K (.int .u8 (bs[i]).toNat))) : E B H (S.ld (.pointer (some ⟨b, o + i, none⟩)) K) := fun w hw => by
  rcases sat_ros (hf := hf) hw hm with ⟨h0, _⟩ | ⟨b', o', cap', hv, _, hc⟩
  · cases h0
  · cases hv
    unfold S.ld
    have hg : (bcs bs)[i]? = some (.int .u8 (bs[i]).toNat) := by simp [bcs, hi]
    simp only [hc i hi, hg]
    exact h w hw
end Go.SL
