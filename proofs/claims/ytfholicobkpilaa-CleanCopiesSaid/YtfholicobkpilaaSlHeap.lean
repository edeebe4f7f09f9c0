/-
  Separation logic over the model's worlds: chunks, assertions, satisfaction; what reads, writes and allocations do.
-/
import Derived.Below
set_option linter.unusedSimpArgs false
set_option linter.unusedVariables false
set_option linter.unusedSectionVars false
namespace Go.SL
open Go.RowKit
universe u

structure Chunk where
  own : Bool
  b : Nat
  o : Obj

abbrev Asrt := List Chunk → Prop
abbrev WT := World → Prop

def stars : List Asrt → Asrt
  | [] => fun l => l = []
  | a :: H => fun l => ∃ l1 l2, l = l1 ++ l2 ∧ a l1 ∧ stars H l2

def apartC (c d : Chunk) : Prop := (c.own = true ∨ d.own = true) → c.b ≠ d.b
theorem apartC.symm {c d : Chunk} (h : apartC c d) : apartC d c := fun k e => h k.symm e.symm

def okC (B w : World) (c : Chunk) : Prop := w.heap[c.b]? = some c.o ∧ (c.own = true → B.heap.size ≤ c.b)
def satC (B : World) (l : List Chunk) (w : World) : Prop := (∀ c ∈ l, okC B w c) ∧ l.Pairwise apartC
def sat (B : World) (H : List Asrt) (w : World) : Prop := Below B.heap.size B w ∧ ∃ l, stars H l ∧ satC B l w
/-- From whatever world that meets H, W holds. -/
def E (B : World) (H : List Asrt) (W : WT) : Prop := ∀ w, sat B H w → W w

theorem satC.perm {B w : World} {l l' : List Chunk} (p : l.Perm l') (h : satC B l w) : satC B l' w :=
  ⟨fun c hc => h.1 c (p.mem_iff.2 hc), p.pairwise h.2 (fun k => k.symm)⟩

theorem stars_perm {H H' : List Asrt} (p : H.Perm H') : ∀ {l}, stars H l → ∃ l', l.Perm l' ∧ stars H' l' := by
  induction p with
  | nil => exact fun h => ⟨_, .refl _, h⟩
  | cons a _ ih =>
    rintro l ⟨l1, l2, rfl, h1, h2⟩
    obtain ⟨l2', p, h⟩ := ih h2
    exact ⟨l1 ++ l2', p.append_left l1, l1, l2', rfl, h1, h⟩
  | swap a b H =>
    rintro l ⟨l1, l2, rfl, h1, l3, l4, rfl, h3, h4⟩
    refine ⟨l3 ++ (l1 ++ l4), ?_, l3, _, rfl, h3, l1, l4, rfl, h1, h4⟩
    rw [← List.append_assoc, ← List.append_assoc]
    exact List.perm_append_comm.append_right l4
  | trans _ _ ih1 ih2 =>
    intro l h
    obtain ⟨l1, p1, h1⟩ := ih1 h
    obtain ⟨l2, p2, h2⟩ := ih2 h1
    exact ⟨l2, p1.trans p2, h2⟩

theorem sat_perm {B w : World} {H H' : List Asrt} (p : H.Perm H') (h : sat B H w) : sat B H' w := by
  obtain ⟨hb, l, hs, hc⟩ := h
  obtain ⟨l', p', hs'⟩ := stars_perm p hs
  exact ⟨hb, l', hs', hc.perm p'⟩

theorem E_perm {B : World} {H H' : List Asrt} {W : WT} (p : H.Perm H') (h : E B H' W) : E B H W := fun w hw => h w (sat_perm p hw)

/-! ### assertions -/
def pt (κ : Bool) (b : Nat) (o : Obj) : Asrt := fun l => l = [⟨κ, b, o⟩]
def emp : Asrt := fun l => l = []
def pur (p : Prop) : Asrt := fun l => l = [] ∧ p
def ex {α : Sort u} (f : α → Asrt) : Asrt := fun l => ∃ x, f x l
def all (H : List Asrt) : Asrt := stars H

theorem stars_append {H H' : List Asrt} : ∀ {l}, stars (H ++ H') l ↔ ∃ l1 l2, l = l1 ++ l2 ∧ stars H l1 ∧ stars H' l2 := by
  induction H with
  | nil => intro l; exact ⟨fun h => ⟨[], l, rfl, rfl, h⟩, fun ⟨l1, l2, e, h1, h2⟩ => by cases h1; subst e; exact h2⟩
  | cons a H ih =>
    intro l
    constructor
    · rintro ⟨l1, l2, rfl, h1, h2⟩
      obtain ⟨l3, l4, rfl, h3, h4⟩ := ih.1 h2
      exact ⟨l1 ++ l3, l4, by simp, ⟨l1, l3, rfl, h1, h3⟩, h4⟩
    · rintro ⟨l1, l2, rfl, ⟨l3, l4, rfl, h3, h4⟩, h2⟩
      exact ⟨l3, l4 ++ l2, by simp, h3, ih.2 ⟨l4, l2, rfl, h4, h2⟩⟩

theorem E_all {B : World} {G H : List Asrt} {W : WT} (h : E B (G ++ H) W) : E B (all G :: H) W := fun w ⟨hb, l, ⟨l1, l2, e, h1, h2⟩, hc⟩ =>
  h w ⟨hb, l, stars_append.2 ⟨l1, l2, e, h1, h2⟩, hc⟩
theorem E_all' {B : World} {G H : List Asrt} {W : WT} (h : E B (all G :: H) W) : E B (G ++ H) W := fun w ⟨hb, l, hs, hc⟩ =>
  h w ⟨hb, l, (by obtain ⟨l1, l2, e, h1, h2⟩ := stars_append.1 hs; exact ⟨l1, l2, e, h1, h2⟩), hc⟩
theorem E_ex {B : World} {α : Sort u} {f : α → Asrt} {H : List Asrt} {W : WT} (h : ∀ x, E B (f x :: H) W) : E B (ex f :: H) W :=
  fun w ⟨hb, l, ⟨l1, l2, e, ⟨x, h1⟩, h2⟩, hc⟩ => h x w ⟨hb, l, ⟨l1, l2, e, h1, h2⟩, hc⟩
theorem E_ex' {B : World} {α : Sort u} {f : α → Asrt} {H : List Asrt} {W : WT} (x : α) (h : E B (ex f :: H) W) : E B (f x :: H) W :=
  fun w ⟨hb, l, ⟨l1, l2, e, h1, h2⟩, hc⟩ => h w ⟨hb, l, ⟨l1, l2, e, ⟨x, h1⟩, h2⟩, hc⟩
theorem E_pur {B : World} {p : Prop} {H : List Asrt} {W : WT} (h : p → E B H W) : E B (pur p :: H) W :=
  fun w ⟨hb, l, ⟨l1, l2, e, ⟨h0, hp⟩, h2⟩, hc⟩ => h hp w ⟨hb, l, by subst h0; simpa [e] using h2, hc⟩
theorem E_pur' {B : World} {p : Prop} {H : List Asrt} {W : WT} (hp : p) (h : E B (pur p :: H) W) : E B H W :=
  fun w ⟨hb, l, h2, hc⟩ => h w ⟨hb, l, ⟨[], l, rfl, ⟨rfl, hp⟩, h2⟩, hc⟩
/-- One assertion in the place of another one that follows from it. -/
theorem E_imp {B : World} {a a' : Asrt} {H : List Asrt} {W : WT} (hi : ∀ l, a l → a' l) (h : E B (a' :: H) W) : E B (a :: H) W :=
  fun w ⟨hb, l, ⟨l1, l2, e, h1, h2⟩, hc⟩ => h w ⟨hb, l, ⟨l1, l2, e, hi _ h1, h2⟩, hc⟩
/-- What is owned may be let go. -/
theorem E_drop {B : World} {a : Asrt} {H : List Asrt} {W : WT} (h : E B H W) : E B (a :: H) W :=
  fun w ⟨hb, l, ⟨l1, l2, e, _, h2⟩, hc⟩ => h w ⟨hb, l2, h2, fun c hm => hc.1 c (e ▸ List.mem_append_right _ hm), by
    have := hc.2; rw [e] at this; exact (List.pairwise_append.1 this).2.1⟩

theorem E_mono {B : World} {H : List Asrt} {W W' : WT} (h : E B H W) (hw : ∀ w, W w → W' w) : E B H W' := fun w hs => hw w (h w hs)

/-! ### taking an assertion out of the list -/
inductive Find : List Asrt → Asrt → List Asrt → Prop
  | here {a H} : Find (a :: H) a H
  | there {a b H H'} : Find H a H' → Find (b :: H) a (b :: H')
inductive Take : List Asrt → List Asrt → List Asrt → Prop
  | nil {H} : Take [] H H
  | cons {a G H H' F} : Find H a H' → Take G H' F → Take (a :: G) H F

theorem Find.perm {H H' : List Asrt} {a : Asrt} (h : Find H a H') : H.Perm (a :: H') := by
  induction h with
  | here => exact .refl _
  | there _ ih => exact (ih.cons _).trans (.swap ..)
theorem Take.perm {G H F : List Asrt} (h : Take G H F) : H.Perm (G ++ F) := by
  induction h with
  | nil => exact .refl _
  | cons hf _ ih => exact hf.perm.trans (ih.cons _)
theorem E_find {B : World} {H H' : List Asrt} {a : Asrt} {W : WT} (f : Find H a H') (h : E B (a :: H') W) : E B H W := E_perm f.perm h
theorem E_take {B : World} {G H F : List Asrt} {W : WT} (f : Take G H F) (h : E B (G ++ F) W) : E B H W := E_perm f.perm h
/-- The n-th assertion comes to the front. -/
def pull : Nat → List Asrt → Option (Asrt × List Asrt)
  | _, [] => none
  | 0, a :: H => some (a, H)
  | n + 1, b :: H => (pull n H).map fun (a, H') => (a, b :: H')
theorem pull_find : ∀ {n : Nat} {H : List Asrt} {a : Asrt} {H' : List Asrt}, pull n H = some (a, H') → Find H a H'
  | 0, [], _, _, h => by simp [pull] at h
  | n + 1, [], _, _, h => by simp [pull] at h
  | 0, b :: H, a, H', h => by simp [pull] at h; obtain ⟨rfl, rfl⟩ := h; exact .here
  | n + 1, b :: H, a, H', h => by
    simp only [pull, Option.map_eq_some_iff] at h
    obtain ⟨⟨x, y⟩, h1, h2⟩ := h
    simp only [Prod.mk.injEq] at h2
    obtain ⟨rfl, rfl⟩ := h2
    exact .there (pull_find h1)
theorem E_pull {B : World} (n : Nat) {H H' : List Asrt} {a : Asrt} {W : WT} (f : pull n H = some (a, H')) (h : E B (a :: H') W) : E B H W := E_find (pull_find f) h

/-! ### worlds -/
theorem sat.get {B w : World} {κ : Bool} {b : Nat} {o : Obj} {H : List Asrt} (h : sat B (pt κ b o :: H) w) : w.heap[b]? = some o := by
  obtain ⟨_, l, ⟨l1, l2, rfl, rfl, _⟩, hc⟩ := h
  exact (hc.1 ⟨κ, b, o⟩ (by simp)).1
theorem sat.tail {B w : World} {a : Asrt} {H : List Asrt} (h : sat B (a :: H) w) : sat B H w := by
  obtain ⟨hb, l, ⟨l1, l2, rfl, h1, h2⟩, hc⟩ := h
  exact ⟨hb, l2, h2, fun c hm => hc.1 c (List.mem_append_right _ hm), (List.pairwise_append.1 hc.2).2.1⟩

/-- Only the heap and the streams count. -/
theorem sat.same {B w w' : World} {H : List Asrt} (h : sat B H w) (hh : w'.heap = w.heap) (ho : w'.os = w.os) (ht : w'.tape = w.tape) (hp : w'.output = w.output) : sat B H w' := by
  obtain ⟨hb, l, hs, hc⟩ := h
  refine ⟨⟨ho.trans hb.os, ht.trans hb.tape, hp.trans hb.output, by rw [hh]; exact hb.size, fun k hk => by rw [hh]; exact hb.block k hk⟩, l, hs, fun c hm => ?_, hc.2⟩
  have := hc.1 c hm
  unfold okC at *
  rw [hh]; exact this

/-- A block that one owns is another one. -/
theorem sat.put {B w : World} {b : Nat} {o : Obj} {H : List Asrt} (o' : Obj) (h : sat B (pt true b o :: H) w) :
    sat B (pt true b o' :: H) { w with heap := w.heap.setIfInBounds b o' } := by
  obtain ⟨hb, l, ⟨l1, l2, rfl, rfl, h2⟩, hc⟩ := h
  have h0 := hc.1 ⟨true, b, o⟩ (by simp)
  have hlt : b < w.heap.size := by
    rcases Nat.lt_or_ge b w.heap.size with h | h
    · exact h
    · have := h0.1; simp [Array.getElem?_eq_none h] at this
  have hB := h0.2 rfl
  refine ⟨⟨hb.os, hb.tape, hb.output, by simpa using hb.size, fun k hk => ?_⟩, ⟨true, b, o'⟩ :: l2, ⟨[⟨true, b, o'⟩], l2, rfl, rfl, h2⟩, fun c hm => ?_, ?_⟩
  · simp only [Array.getElem?_setIfInBounds]
    rw [if_neg (by simp at hB; omega)]
    exact hb.block k hk
  · rcases List.mem_cons.1 hm with rfl | hm
    · exact ⟨by simp [Array.getElem?_setIfInBounds, hlt], fun _ => hB⟩
    · have hp := (List.pairwise_cons.1 hc.2).1 c hm
      have hne : b ≠ c.b := hp (.inl rfl)
      have := hc.1 c (List.mem_cons_of_mem _ hm)
      exact ⟨by simp only [Array.getElem?_setIfInBounds]; rw [if_neg hne]; exact this.1, this.2⟩
  · have hp := List.pairwise_cons.1 hc.2
    exact List.pairwise_cons.2 ⟨fun d hd k => hp.1 d hd (.inl rfl), hp.2⟩

theorem sat.new {B w : World} {H : List Asrt} (o : Obj) (h : sat B H w) : sat B (pt true w.heap.size o :: H) { w with heap := w.heap.push o } := by
  obtain ⟨hb, l, hs, hc⟩ := h
  have lt : ∀ c ∈ l, c.b < w.heap.size := fun c hm => by
    rcases Nat.lt_or_ge c.b w.heap.size with h | h
    · exact h
    · have := (hc.1 c hm).1; simp [Array.getElem?_eq_none h] at this
  have hbs := hb.size
  refine ⟨⟨hb.os, hb.tape, hb.output, by simp; omega, fun k hk => ?_⟩, ⟨true, w.heap.size, o⟩ :: l, ⟨[_], l, rfl, rfl, hs⟩, fun c hm => ?_, ?_⟩
  · have := hb.block k hk
    simp only [Array.getElem?_push]
    rw [if_neg (by omega)]; exact this
  · rcases List.mem_cons.1 hm with rfl | hm
    · exact ⟨by simp, fun _ => hb.size⟩
    · have := lt c hm
      exact ⟨by simp only [Array.getElem?_push]; rw [if_neg (by omega)]; exact (hc.1 c hm).1, (hc.1 c hm).2⟩
  · refine List.pairwise_cons.2 ⟨fun d hd _ e => ?_, hc.2⟩
    have := lt d hd
    simp at e; omega

theorem sat.below {B w : World} {H : List Asrt} (h : sat B H w) : Below B.heap.size B w := h.1
theorem sat.start (B : World) : sat B [] B := ⟨.refl _ _, [], rfl, by simp [satC]⟩

/-- What was there is there, to be read. -/
theorem E_base {B : World} {b : Nat} {o : Obj} {H : List Asrt} {W : WT} (hb : B.heap[b]? = some o) (h : E B (pt false b o :: H) W) : E B H W := by
  intro w ⟨hB, l, hs, hc⟩
  have hlt : b < B.heap.size := by
    rcases Nat.lt_or_ge b B.heap.size with h | h
    · exact h
    · simp [Array.getElem?_eq_none h] at hb
  refine h w ⟨hB, ⟨false, b, o⟩ :: l, ⟨[_], l, rfl, rfl, hs⟩, fun c hm => ?_, List.pairwise_cons.2 ⟨fun d hd k e => ?_, hc.2⟩⟩
  · rcases List.mem_cons.1 hm with rfl | hm
    · exact ⟨by rw [hB.block b hlt]; exact hb, by simp⟩
    · exact hc.1 c hm
  · have hd' : d.own = true := by simpa using k
    have := (hc.1 d hd).2 hd'
    simp at e; omega
/-- What is only read may be had twice. -/
theorem E_dup {B : World} {b : Nat} {o : Obj} {H : List Asrt} {W : WT} (h : E B (pt false b o :: pt false b o :: H) W) : E B (pt false b o :: H) W := by
  intro w ⟨hB, l, ⟨l1, l2, e, h1, h2⟩, hc⟩
  cases h1; subst e
  refine h w ⟨hB, ⟨false, b, o⟩ :: ⟨false, b, o⟩ :: l2, ⟨[_], _, rfl, rfl, [_], l2, rfl, rfl, h2⟩, fun c hm => hc.1 c (by simpa using hm), ?_⟩
  refine List.pairwise_cons.2 ⟨fun d hd k e => ?_, hc.2⟩
  rcases List.mem_cons.1 hd with rfl | hd
  · simp at k
  · exact (List.pairwise_cons.1 hc.2).1 d hd k e
/-- What is owned may be given up, to be only read. -/
theorem E_share {B : World} {b : Nat} {o : Obj} {H : List Asrt} {W : WT} (h : E B (pt false b o :: H) W) : E B (pt true b o :: H) W := by
  intro w ⟨hB, l, ⟨l1, l2, e, h1, h2⟩, hc⟩
  cases h1; subst e
  refine h w ⟨hB, ⟨false, b, o⟩ :: l2, ⟨[_], l2, rfl, rfl, h2⟩, fun c hm => ?_, List.pairwise_cons.2 ⟨fun d hd k => ?_, (List.pairwise_cons.1 hc.2).2⟩⟩
  · rcases List.mem_cons.1 hm with rfl | hm
    · exact ⟨(hc.1 ⟨true, b, o⟩ (by simp)).1, by simp⟩
    · exact hc.1 c (List.mem_cons_of_mem _ hm)
  · exact (List.pairwise_cons.1 hc.2).1 d hd (.inl rfl)
/-- Two that are owned are two. -/
theorem E_ne {B : World} {b b' : Nat} {o o' : Obj} {κ : Bool} {H : List Asrt} {W : WT} (h : b ≠ b' → E B (pt true b o :: pt κ b' o' :: H) W) :
    E B (pt true b o :: pt κ b' o' :: H) W := by
  intro w hw
  refine h ?_ w hw
  obtain ⟨_, l, ⟨l1, l2, rfl, rfl, l3, l4, rfl, rfl, _⟩, hc⟩ := hw
  exact (List.pairwise_cons.1 hc.2).1 ⟨κ, b', o'⟩ (by simp) (.inl rfl)
end Go.SL
