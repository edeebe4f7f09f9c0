/-
  What a disk is: the document's words.
-/
import Derived.Test.YtfholicobkpilaaSlPrim
set_option linter.unusedSimpArgs false
set_option linter.unusedVariables false
set_option linter.unusedSectionVars false
namespace Go.Proofs.Ytfholicobkpilaa.Disk
/-- A sector: its sure bytes, and those that were written last. -/
structure Sec where
  sure : List UInt8
  last : Option (List UInt8)
def Sec.now (s : Sec) : List UInt8 := s.last.getD s.sure
structure Dk where
  S : List Sec
  trip : Int
  down : Bool
  life : Int
structure Dk.Ok (D : Dk) : Prop where
  n1 : 1 ≤ D.S.length
  n2 : D.S.length ≤ 4096
  t1 : 0 ≤ D.trip
  t2 : D.trip ≤ 9223372036854775807
  len : ∀ s ∈ D.S, s.sure.length = 128 ∧ ∀ b, s.last = some b → b.length = 128
def pad (bs : List UInt8) : List UInt8 := bs ++ List.replicate (128 - bs.length) 0
theorem pad_length {bs : List UInt8} (h : bs.length ≤ 128) : (pad bs).length = 128 := by simp [pad]; omega
def zero128 : List UInt8 := List.replicate 128 0
def Dk.new (n : Nat) : Dk := ⟨List.replicate n ⟨zero128, none⟩, 0, false, 0⟩
def Dk.out (D : Dk) (i : Int) : Prop := i < 0 ∨ (D.S.length : Int) ≤ i
instance (D : Dk) (i : Int) : Decidable (D.out i) := inferInstanceAs (Decidable (_ ∨ _))
/-- What is wrong with a disk, or a sector's number. -/
def Dk.pow (D : Dk) (i : Int) : Int := if D.down = true then 7 else if D.out i then 2 else 0
/-- The power goes. -/
def Dk.gone (D : Dk) : Dk := { D with trip := 0, down := true }
def Dk.tick (D : Dk) : Dk := { D with trip := max (D.trip - 1) 0 }
def Dk.setS (D : Dk) (i : Nat) (f : Sec → Sec) : Dk := { D with S := D.S.modify i f }
def Dk.wrE (D : Dk) (i : Int) (bs : List UInt8) : Int := if D.pow i ≠ 0 then D.pow i else if 128 < bs.length then 6 else if D.trip = 1 then 7 else 0
def Dk.wr (D : Dk) (i : Int) (bs : List UInt8) : Dk := if D.pow i ≠ 0 then D else if 128 < bs.length then D else if D.trip = 1 then D.gone else D.tick.setS i.toNat fun s => { s with last := some (pad bs) }
def Dk.rd (D : Dk) (i : Int) : List UInt8 := if D.pow i ≠ 0 then [] else match D.S[i.toNat]? with | some s => s.now | none => []
def Sec.settle (s : Sec) : Sec := ⟨s.now, none⟩
def Dk.flE (D : Dk) : Int := if D.down = true then 7 else if D.trip = 1 then 7 else 0
def Dk.fl (D : Dk) : Dk := if D.down = true then D else if D.trip = 1 then D.gone else { D.tick with S := D.S.map Sec.settle }
def Dk.trE (D : Dk) (n : Int) : Int := if D.down = true then 7 else if n < 0 then 2 else 0
def Dk.tr (D : Dk) (n : Int) : Dk := if D.down = true then D else if n < 0 then D else { D with trip := n }
def Dk.rotE (D : Dk) (i : Int) (bs : List UInt8) : Int := if D.out i then 2 else if 128 < bs.length then 6 else 0
def Dk.rot (D : Dk) (i : Int) (bs : List UInt8) : Dk := if D.out i then D else if 128 < bs.length then D else D.setS i.toNat fun _ => ⟨pad bs, none⟩
/-- The numbers of the sectors that were written, but not flushed. -/
def dirtyFrom : List Sec → Nat → List Int
  | [], _ => []
  | s :: l, i => if s.last.isSome then (i : Int) :: dirtyFrom l (i + 1) else dirtyFrom l (i + 1)
def Dk.dirty (D : Dk) : List Int := dirtyFrom D.S 0
/-- A crash: which are kept, which one is torn, and where. -/
structure Cr where
  keep : List Bool
  torn : Int
  at_ : Int
def Cr.one (c : Cr) (k : Nat) (s : Sec) (b : List UInt8) : List UInt8 :=
  if (k : Int) = c.torn ∧ 0 ≤ c.at_ ∧ c.at_ ≤ 128 then b.take c.at_.toNat ++ s.sure.drop c.at_.toNat else if c.keep.getD k false then b else s.sure
/-- What each sector that was written becomes, the k-th of them by g k. -/
def crashG (g : Nat → Sec → Sec) : List Sec → Nat → List Sec
  | [], _ => []
  | s :: l, k => if s.last.isSome then g k s :: crashG g l (k + 1) else s :: crashG g l k
def Cr.sec (c : Cr) (k : Nat) (s : Sec) : Sec := ⟨c.one k s s.now, none⟩
def Dk.crash (D : Dk) (c : Cr) : Dk := ⟨crashG c.sec D.S 0, 0, false, Go.IntKind.i64.wrap (D.life + 1)⟩

theorem dirty_head : ∀ {S : List Sec} {p : Nat} {k : Int} {ks : List Int}, dirtyFrom S p = k :: ks → ∃ (i : Nat) (s : Sec), k = ((p + i : Nat) : Int) ∧ S[i]? = some s ∧ s.last.isSome = true ∧
    (∀ s' : Sec, s'.last = none → dirtyFrom (S.set i s') p = ks) ∧ ∀ (g : Nat → Sec → Sec) (n : Nat), (g n s).last = none → crashG g S n = crashG g (S.set i (g n s)) (n + 1)
  | [], p, k, ks, h => by simp [dirtyFrom] at h
  | s :: S, p, k, ks, h => by
    unfold dirtyFrom at h
    by_cases hs : s.last.isSome = true
    · rw [if_pos hs] at h
      simp only [List.cons.injEq] at h
      refine ⟨0, s, by simp [← h.1], rfl, hs, fun s' hs' => ?_, fun g n hg => ?_⟩
      · simp [dirtyFrom, hs', h.2]
      · simp [crashG, hs, hg]
    · rw [if_neg hs] at h
      obtain ⟨i, s1, h1, h2, h3, h4, h5⟩ := dirty_head h
      refine ⟨i + 1, s1, by rw [h1]; congr 1; omega, by simpa using h2, h3, fun s' hs' => ?_, fun g n hg => ?_⟩
      · simp [dirtyFrom, hs, h4 s' hs']
      · simp [crashG, hs, h5 g n hg]
theorem dirty_nil : ∀ {S : List Sec} {p : Nat}, dirtyFrom S p = [] → (∀ s ∈ S, s.last = none) ∧ ∀ (g : Nat → Sec → Sec) (n : Nat), crashG g S n = S
  | [], p, h => ⟨by simp, fun g n => rfl⟩
  | s :: S, p, h => by
    unfold dirtyFrom at h
    by_cases hs : s.last.isSome = true
    · rw [if_pos hs] at h; cases h
    · rw [if_neg hs] at h
      obtain ⟨h1, h2⟩ := dirty_nil h
      refine ⟨fun x hx => ?_, fun g n => by simp [crashG, hs, h2 g n]⟩
      rcases List.mem_cons.1 hx with rfl | hx
      · cases hl : x.last with
        | none => rfl
        | some b => rw [hl] at hs; exact absurd rfl hs
      · exact h1 x hx
theorem mem_dirty : ∀ {S : List Sec} {p : Nat} {k : Int}, k ∈ dirtyFrom S p ↔ ∃ (i : Nat) (s : Sec), k = ((p + i : Nat) : Int) ∧ S[i]? = some s ∧ s.last.isSome = true
  | [], p, k => by simp [dirtyFrom]
  | s :: S, p, k => by
    have ih := mem_dirty (S := S) (p := p + 1) (k := k)
    have key : (∃ (i : Nat) (s' : Sec), k = ((p + i : Nat) : Int) ∧ (s :: S)[i]? = some s' ∧ s'.last.isSome = true) ↔ (k = (p : Int) ∧ s.last.isSome = true) ∨ k ∈ dirtyFrom S (p + 1) := by
      rw [ih]
      constructor
      · rintro ⟨i, s', h1, h2, h3⟩
        cases i with
        | zero => simp at h2; subst h2; exact .inl ⟨by simpa using h1, h3⟩
        | succ i => exact .inr ⟨i, s', by rw [h1]; congr 1; omega, by simpa using h2, h3⟩
      · rintro (⟨h1, h2⟩ | ⟨i, s', h1, h2, h3⟩)
        · exact ⟨0, s, by simpa using h1, rfl, h2⟩
        · exact ⟨i + 1, s', by rw [h1]; congr 1; omega, by simpa using h2, h3⟩
    rw [key, show dirtyFrom (s :: S) p = if s.last.isSome then (p : Int) :: dirtyFrom S (p + 1) else dirtyFrom S (p + 1) from rfl]
    by_cases hs : s.last.isSome = true
    · simp [hs]
    · simp [hs]
theorem dirty_sorted : ∀ {S : List Sec} {p : Nat}, (dirtyFrom S p).Pairwise (· < ·)
  | [], p => by simp [dirtyFrom]
  | s :: S, p => by
    unfold dirtyFrom
    split
    · refine List.pairwise_cons.2 ⟨fun k hk => ?_, dirty_sorted⟩
      obtain ⟨i, _, h, _⟩ := mem_dirty.1 hk
      rw [h]; omega
    · exact dirty_sorted
theorem dirty_length : ∀ {S : List Sec} {p : Nat}, (dirtyFrom S p).length ≤ S.length
  | [], p => by simp [dirtyFrom]
  | s :: S, p => by
    unfold dirtyFrom
    have := dirty_length (S := S) (p := p + 1)
    split <;> simp <;> omega
theorem settle_all : ∀ {S : List Sec} {n : Nat}, crashG (fun _ s => s.settle) S n = S.map Sec.settle
  | [], n => rfl
  | s :: S, n => by
    unfold crashG
    split
    · simp [settle_all]
    · rename_i h
      have : s.last = none := by cases hl : s.last with
        | none => rfl
        | some b => rw [hl] at h; exact absurd rfl h
      have : s.settle = s := by cases s; simp only at this; subst this; rfl
      simp [settle_all, this]
theorem sort_dirty {S : List Sec} {zs : List Int} (hz : zs.Perm (dirtyFrom S 0)) : (zs.mergeSort fun x y => decide (x ≤ y)) = dirtyFrom S 0 := by
  refine List.Perm.eq_of_pairwise (le := fun x y : Int => x ≤ y) (fun a b _ _ h1 h2 => by omega) ?_ ?_ ((List.mergeSort_perm ..).trans hz)
  · have := List.pairwise_mergeSort (le := fun x y : Int => decide (x ≤ y)) (by intro a b c; simp; omega) (by intro a b; simp; omega) zs
    exact this.imp fun h => by simpa using h
  · exact dirty_sorted.imp fun h => by omega
end Go.Proofs.Ytfholicobkpilaa.Disk
