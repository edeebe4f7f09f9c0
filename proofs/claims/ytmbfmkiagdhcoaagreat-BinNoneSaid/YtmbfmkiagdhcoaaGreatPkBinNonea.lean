/-
  Part 1: SlA.
-/
import Derived.Below
import Derived.Orders
import Derived.OrdersHeld
import Derived.OrdersIn
import Derived.RangeFuncIn
import Derived.RangeFuncLeaves
import Derived.Laws.Sem
import Derived.DefersIn
import Derived.RecoverIn
set_option linter.unusedSimpArgs false
set_option linter.unusedVariables false
set_option linter.unusedSectionVars false
section
namespace Go.SL
open Go.RowKit
universe u
structure Chunk where
  own : Bool
  b : Nat
  o : Obj
abbrev Asrt := List Chunk → Prop
abbrev WT := World → Prop
def stars : List Asrt → Asrt
  | [] => fun l => l = []
  | a :: H => fun l => ∃ l1 l2, l = l1 ++ l2 ∧ a l1 ∧ stars H l2
def apartC (c d : Chunk) : Prop := (c.own = true ∨ d.own = true) → c.b ≠ d.b
theorem apartC.symm {c d : Chunk} (h : apartC c d) : apartC d c := fun k e => h k.symm e.symm
def okC (B w : World) (c : Chunk) : Prop := w.heap[c.b]? = some c.o ∧ (c.own = true → B.heap.size ≤ c.b)
def satC (B : World) (l : List Chunk) (w : World) : Prop := (∀ c ∈ l, okC B w c) ∧ l.Pairwise apartC
def sat (B : World) (H : List Asrt) (w : World) : Prop := Below B.heap.size B w ∧ ∃ l, stars H l ∧ satC B l w
def E (B : World) (H : List Asrt) (W : WT) : Prop := ∀ w, sat B H w → W w
theorem satC.perm {B w : World} {l l' : List Chunk} (p : l.Perm l') (h : satC B l w) : satC B l' w :=
  ⟨fun c hc => h.1 c (p.mem_iff.2 hc), p.pairwise h.2 (fun k => k.symm)⟩
theorem stars_perm {H H' : List Asrt} (p : H.Perm H') : ∀ {l}, stars H l → ∃ l', l.Perm l' ∧ stars H' l' := by
  induction p with
  | nil => exact fun h => ⟨_, .refl _, h⟩
  | cons a _ ih =>
    rintro l ⟨l1, l2, rfl, h1, h2⟩
    obtain ⟨l2', p, h⟩ := ih h2
    exact ⟨l1 ++ l2', p.append_left l1, l1, l2', rfl, h1, h⟩
  | swap a b H =>
    rintro l ⟨l1, l2, rfl, h1, l3, l4, rfl, h3, h4⟩
    refine ⟨l3 ++ (l1 ++ l4), ?_, l3, _, rfl, h3, l1, l4, rfl, h1, h4⟩
    rw [← List.append_assoc, ← List.append_assoc]
    exact List.perm_append_comm.append_right l4
  | trans _ _ ih1 ih2 =>
    intro l h
    obtain ⟨l1, p1, h1⟩ := ih1 h
    obtain ⟨l2, p2, h2⟩ := ih2 h1
    exact ⟨l2, p1.trans p2, h2⟩
theorem sat_perm {B w : World} {H H' : List Asrt} (p : H.Perm H') (h : sat B H w) : sat B H' w := by
  obtain ⟨hb, l, hs, hc⟩ := h
  obtain ⟨l', p', hs'⟩ := stars_perm p hs
  exact ⟨hb, l', hs', hc.perm p'⟩
theorem E_perm {B : World} {H H' : List Asrt} {W : WT} (p : H.Perm H') (h : E B H' W) : E B H W := fun w hw => h w (sat_perm p hw)
def pt (κ : Bool) (b : Nat) (o : Obj) : Asrt := fun l => l = [⟨κ, b, o⟩]
def pur (p : Prop) : Asrt := fun l => l = [] ∧ p
def ex {α : Sort u} (f : α → Asrt) : Asrt := fun l => ∃ x, f x l
def all (H : List Asrt) : Asrt := stars H
theorem stars_append {H H' : List Asrt} : ∀ {l}, stars (H ++ H') l ↔ ∃ l1 l2, l = l1 ++ l2 ∧ stars H l1 ∧ stars H' l2 := by
  induction H with
  | nil => intro l; exact ⟨fun h => ⟨[], l, rfl, rfl, h⟩, fun ⟨l1, l2, e, h1, h2⟩ => by cases h1; subst e; exact h2⟩
  | cons a H ih =>
    intro l
    constructor
    · rintro ⟨l1, l2, rfl, h1, h2⟩
      obtain ⟨l3, l4, rfl, h3, h4⟩ := ih.1 h2
      exact ⟨l1 ++ l3, l4, by simp, ⟨l1, l3, rfl, h1, h3⟩, h4⟩
    · rintro ⟨l1, l2, rfl, ⟨l3, l4, rfl, h3, h4⟩, h2⟩
      exact ⟨l3, l4 ++ l2, by simp, h3, ih.2 ⟨l4, l2, rfl, h4, h2⟩⟩
theorem E_all {B : World} {G H : List Asrt} {W : WT} (h : E B (G ++ H) W) : E B (all G :: H) W := fun w ⟨hb, l, ⟨l1, l2, e, h1, h2⟩, hc⟩ =>
  h w ⟨hb, l, stars_append.2 ⟨l1, l2, e, h1, h2⟩, hc⟩
theorem E_all' {B : World} {G H : List Asrt} {W : WT} (h : E B (all G :: H) W) : E B (G ++ H) W := fun w ⟨hb, l, hs, hc⟩ =>
  h w ⟨hb, l, (by obtain ⟨l1, l2, e, h1, h2⟩ := stars_append.1 hs; exact ⟨l1, l2, e, h1, h2⟩), hc⟩
theorem E_ex {B : World} {α : Sort u} {f : α → Asrt} {H : List Asrt} {W : WT} (h : ∀ x, E B (f x :: H) W) : E B (ex f :: H) W :=
  fun w ⟨hb, l, ⟨l1, l2, e, ⟨x, h1⟩, h2⟩, hc⟩ => h x w ⟨hb, l, ⟨l1, l2, e, h1, h2⟩, hc⟩
theorem E_ex' {B : World} {α : Sort u} {f : α → Asrt} {H : List Asrt} {W : WT} (x : α) (h : E B (ex f :: H) W) : E B (f x :: H) W :=
  fun w ⟨hb, l, ⟨l1, l2, e, h1, h2⟩, hc⟩ => h w ⟨hb, l, ⟨l1, l2, e, ⟨x, h1⟩, h2⟩, hc⟩
theorem E_pur {B : World} {p : Prop} {H : List Asrt} {W : WT} (h : p → E B H W) : E B (pur p :: H) W :=
  fun w ⟨hb, l, ⟨l1, l2, e, ⟨h0, hp⟩, h2⟩, hc⟩ => h hp w ⟨hb, l, by subst h0; simpa [e] using h2, hc⟩
theorem E_pur' {B : World} {p : Prop} {H : List Asrt} {W : WT} (hp : p) (h : E B (pur p :: H) W) : E B H W :=
  fun w ⟨hb, l, h2, hc⟩ => h w ⟨hb, l, ⟨[], l, rfl, ⟨rfl, hp⟩, h2⟩, hc⟩
theorem E_imp {B : World} {a a' : Asrt} {H : List Asrt} {W : WT} (hi : ∀ l, a l → a' l) (h : E B (a' :: H) W) : E B (a :: H) W :=
  fun w ⟨hb, l, ⟨l1, l2, e, h1, h2⟩, hc⟩ => h w ⟨hb, l, ⟨l1, l2, e, hi _ h1, h2⟩, hc⟩
theorem E_drop {B : World} {a : Asrt} {H : List Asrt} {W : WT} (h : E B H W) : E B (a :: H) W :=
  fun w ⟨hb, l, ⟨l1, l2, e, _, h2⟩, hc⟩ => h w ⟨hb, l2, h2, fun c hm => hc.1 c (e ▸ List.mem_append_right _ hm), by
    have := hc.2; rw [e] at this; exact (List.pairwise_append.1 this).2.1⟩
theorem E_mono {B : World} {H : List Asrt} {W W' : WT} (h : E B H W) (hw : ∀ w, W w → W' w) : E B H W' := fun w hs => hw w (h w hs)
inductive Find : List Asrt → Asrt → List Asrt → Prop
  | here {a H} : Find (a :: H) a H
  | there {a b H H'} : Find H a H' → Find (b :: H) a (b :: H')
inductive Take : List Asrt → List Asrt → List Asrt → Prop
  | nil {H} : Take [] H H
  | cons {a G H H' F} : Find H a H' → Take G H' F → Take (a :: G) H F
theorem Find.perm {H H' : List Asrt} {a : Asrt} (h : Find H a H') : H.Perm (a :: H') := by
  induction h with
  | here => exact .refl _
  | there _ ih => exact (ih.cons _).trans (.swap ..)
theorem Take.perm {G H F : List Asrt} (h : Take G H F) : H.Perm (G ++ F) := by
  induction h with
  | nil => exact .refl _
  | cons hf _ ih => exact hf.perm.trans (ih.cons _)
theorem E_find {B : World} {H H' : List Asrt} {a : Asrt} {W : WT} (f : Find H a H') (h : E B (a :: H') W) : E B H W := E_perm f.perm h
theorem sat.get {B w : World} {κ : Bool} {b : Nat} {o : Obj} {H : List Asrt} (h : sat B (pt κ b o :: H) w) : w.heap[b]? = some o := by
  obtain ⟨_, l, ⟨l1, l2, rfl, rfl, _⟩, hc⟩ := h
  exact (hc.1 ⟨κ, b, o⟩ (by simp)).1
theorem sat.tail {B w : World} {a : Asrt} {H : List Asrt} (h : sat B (a :: H) w) : sat B H w := by
  obtain ⟨hb, l, ⟨l1, l2, rfl, h1, h2⟩, hc⟩ := h
  exact ⟨hb, l2, h2, fun c hm => hc.1 c (List.mem_append_right _ hm), (List.pairwise_append.1 hc.2).2.1⟩
theorem sat.same {B w w' : World} {H : List Asrt} (h : sat B H w) (hh : w'.heap = w.heap) (ho : w'.os = w.os) (ht : w'.tape = w.tape) (hp : w'.output = w.output) : sat B H w' := by
  obtain ⟨hb, l, hs, hc⟩ := h
  refine ⟨⟨ho.trans hb.os, ht.trans hb.tape, hp.trans hb.output, by rw [hh]; exact hb.size, fun k hk => by rw [hh]; exact hb.block k hk⟩, l, hs, fun c hm => ?_, hc.2⟩
  have := hc.1 c hm
  unfold okC at *
  rw [hh]; exact this
theorem sat.put {B w : World} {b : Nat} {o : Obj} {H : List Asrt} (o' : Obj) (h : sat B (pt true b o :: H) w) :
    sat B (pt true b o' :: H) { w with heap := w.heap.setIfInBounds b o' } := by
  obtain ⟨hb, l, ⟨l1, l2, rfl, rfl, h2⟩, hc⟩ := h
  have h0 := hc.1 ⟨true, b, o⟩ (by simp)
  have hlt : b < w.heap.size := by
    rcases Nat.lt_or_ge b w.heap.size with h | h
    · exact h
    · have := h0.1; simp [Array.getElem?_eq_none h] at this
  have hB := h0.2 rfl
  refine ⟨⟨hb.os, hb.tape, hb.output, by simpa using hb.size, fun k hk => ?_⟩, ⟨true, b, o'⟩ :: l2, ⟨[⟨true, b, o'⟩], l2, rfl, rfl, h2⟩, fun c hm => ?_, ?_⟩
  · simp only [Array.getElem?_setIfInBounds]
    rw [if_neg (by simp at hB; omega)]
    exact hb.block k hk
  · rcases List.mem_cons.1 hm with rfl | hm
    · exact ⟨by simp [Array.getElem?_setIfInBounds, hlt], fun _ => hB⟩
    · have hp := (List.pairwise_cons.1 hc.2).1 c hm
      have hne : b ≠ c.b := hp (.inl rfl)
      have := hc.1 c (List.mem_cons_of_mem _ hm)
      exact ⟨by simp only [Array.getElem?_setIfInBounds]; rw [if_neg hne]; exact this.1, this.2⟩
  · have hp := List.pairwise_cons.1 hc.2
    exact List.pairwise_cons.2 ⟨fun d hd k => hp.1 d hd (.inl rfl), hp.2⟩
theorem sat.new {B w : World} {H : List Asrt} (o : Obj) (h : sat B H w) : sat B (pt true w.heap.size o :: H) { w with heap := w.heap.push o } := by
  obtain ⟨hb, l, hs, hc⟩ := h
  have lt : ∀ c ∈ l, c.b < w.heap.size := fun c hm => by
    rcases Nat.lt_or_ge c.b w.heap.size with h | h
    · exact h
    · have := (hc.1 c hm).1; simp [Array.getElem?_eq_none h] at this
  have hbs := hb.size
  refine ⟨⟨hb.os, hb.tape, hb.output, by simp; omega, fun k hk => ?_⟩, ⟨true, w.heap.size, o⟩ :: l, ⟨[_], l, rfl, rfl, hs⟩, fun c hm => ?_, ?_⟩
  · have := hb.block k hk
    simp only [Array.getElem?_push]
    rw [if_neg (by omega)]; exact this
  · rcases List.mem_cons.1 hm with rfl | hm
    · exact ⟨by simp, fun _ => hb.size⟩
    · have := lt c hm
      exact ⟨by simp only [Array.getElem?_push]; rw [if_neg (by omega)]; exact (hc.1 c hm).1, (hc.1 c hm).2⟩
  · refine List.pairwise_cons.2 ⟨fun d hd _ e => ?_, hc.2⟩
    have := lt d hd
    simp at e; omega
theorem sat.below {B w : World} {H : List Asrt} (h : sat B H w) : Below B.heap.size B w := h.1
theorem sat.start (B : World) : sat B [] B := ⟨.refl _ _, [], rfl, by simp [satC]⟩
theorem E_share {B : World} {b : Nat} {o : Obj} {H : List Asrt} {W : WT} (h : E B (pt false b o :: H) W) : E B (pt true b o :: H) W := by
  intro w ⟨hB, l, ⟨l1, l2, e, h1, h2⟩, hc⟩
  cases h1; subst e
  refine h w ⟨hB, ⟨false, b, o⟩ :: l2, ⟨[_], l2, rfl, rfl, h2⟩, fun c hm => ?_, List.pairwise_cons.2 ⟨fun d hd k => ?_, (List.pairwise_cons.1 hc.2).2⟩⟩
  · rcases List.mem_cons.1 hm with rfl | hm
    · exact ⟨(hc.1 ⟨true, b, o⟩ (by simp)).1, by simp⟩
    · exact hc.1 c (List.mem_cons_of_mem _ hm)
  · exact (List.pairwise_cons.1 hc.2).1 d hd (.inl rfl)
end Go.SL
namespace Go.SL
open Go.RowKit
def V (P : Program) (s : Sem Value) (K : Value → WT) : WT := fun w => match s.run P w with | .ok v w' => K v w' | _ => False
def U (P : Program) (s : Sem Unit) (K : Value → WT) : WT := fun w => match s.run P w with | .ok _ w' => K undef w' | _ => False
class Amb where
  pn : Value → WT
instance (priority := low) noAmb : Amb := ⟨fun _ _ => False⟩
def Amb.ch [A : Amb] (c : List PanicEntry) : WT := fun w => ∃ v, c = [{ v, recovered := false }] ∧ A.pn v w
def CF [Amb] (P : Program) (f : FuncId) (args : List Value) (K : Value → WT) : WT :=
  fun w => Calls P f args.toArray w fun | .returned v, w' => K v w' | .panicked c, w' => Amb.ch c w' | .outgrown, _ => False
def Gives [Amb] (P : Program) (s : Sem Next) (K : Value → WT) : WT := fun w => match s.run P w with
  | .ok (.value v) w' => K v w'
  | .ok .skip w' => K undef w'
  | .ok (.enter f args) w' => CF P f args.toList K w'
  | .ok (.round l f tmps assign body) w' => RoundIn Fence.wide 0 P l f tmps assign body w' fun | .returned v, w'' => K v w'' | _, _ => False
  | .halt (.panic v) w' => Amb.pn v w'
  | _ => False
abbrev I (n : Int) : Value := .int .i64 n
abbrev B (b : Bool) : Value := .bool b
def cellsFrom (w : World) (a : Addr) : Nat → Nat → Option (List Value)
  | _, 0 => some []
  | i, n + 1 => match w.cell? (a.add i) with
    | some v => (cellsFrom w a (i + 1) n).map (v :: ·)
    | none => none
def isCell : Value → Bool
  | .agg _ | .tuple _ => false
  | _ => true
def putFrom (a : Addr) : Nat → List Value → World → Option World
  | _, [], w => some w
  | i, v :: vs, w => match isCell v, w.cell? (a.add i), w.frozen? (a.add i) with
    | true, some _, false => putFrom a (i + 1) vs (w.setCell (a.add i) v)
    | _, _, _ => none
namespace S
def pick (c a b : Value) (K : Value → WT) : WT := fun w => match c with
  | .bool x => K (match x with | true => a | false => b) w
  | _ => False
def ld (a : Value) (K : Value → WT) : WT := fun w => match a with
  | .pointer (some ad) => match w.cell? ad with | some v => K v w | none => False
  | _ => False
def ldN (n : Nat) (a : Value) (K : Value → WT) : WT := fun w => match a with
  | .pointer (some ad) => match cellsFrom w ad 0 n with | some cs => K (.agg cs.toArray) w | none => False
  | _ => False
def st (n : Nat) (a v : Value) (K : Value → WT) : WT := fun w => match a with
  | .pointer (some ad) => v.cells.size = n ∧ match putFrom ad 0 v.cells.toList w with | some w' => K undef w' | none => False
  | _ => False
def box (T : TypeId) (v : Value) (K : Value → WT) : WT := fun w => K (.pointer (some ⟨w.heap.size, 0, none⟩)) { w with heap := w.heap.push (.cells v.cells T) }
def nc (x : Value) (K : Value → WT) : WT := fun w => match x with
  | .pointer none | .nilIface | .nilFunc | .func (.method _) _ _ => False
  | x => K x w
def fad (x : Value) (off : Nat) (K : Value → WT) : WT := fun w => match x with
  | .pointer (some ad) => K (.pointer (some (ad.add off))) w
  | _ => False
def ixS (sz : Nat) (x i : Value) (K : Value → WT) : WT := fun w => match x, i with
  | .slice (some a) len _, .int _ n => 0 ≤ n ∧ n < len ∧ K (.pointer (some (a.add (n.toNat * sz)))) w
  | _, _ => False
def ixA (len sz : Nat) (x i : Value) (K : Value → WT) : WT := fun w => match x, i with
  | .pointer (some a), .int _ n => 0 ≤ n ∧ n < len ∧ K (.pointer (some (a.add (n.toNat * sz)))) w
  | _, _ => False
def chr (x i : Value) (K : Value → WT) : WT := fun w => match x, i with
  | .string s, .int _ n => 0 ≤ n ∧ ∃ b, s[n.toNat]? = some b ∧ K (.int .u8 b.toNat) w
  | _, _ => False
def prt (agg : Bool) (off n : Nat) (x : Value) (K : Value → WT) : WT := fun w => match x with
  | .agg cs => match agg with
    | true => K (.agg (cs.extract off (off + n))) w
    | false => match cs[off]? with | some v => K v w | none => False
  | _ => False
def ext (x : Value) (i : Nat) (K : Value → WT) : WT := fun w => match x with
  | .tuple vs => match vs[i]? with | some v => K v w | none => False
  | _ => False
def bin (op : BinOp) (x y : Value) (K : Value → WT) : WT := fun w => match x, y with
  | .int k a, .int k' b => k = k' ∧ match op with
    | .add => K (.int k (k.wrap (a + b))) w
    | .sub => K (.int k (k.wrap (a - b))) w
    | .mul => K (.int k (k.wrap (a * b))) w
    | .quo => b ≠ 0 ∧ K (.int k (k.wrap (a.tdiv b))) w
    | .rem => b ≠ 0 ∧ K (.int k (a.tmod b)) w
    | .and => K (.int k (k.wrap (BitVec.ofInt k.bits a &&& BitVec.ofInt k.bits b).toNat)) w
    | .or => K (.int k (k.wrap (BitVec.ofInt k.bits a ||| BitVec.ofInt k.bits b).toNat)) w
    | .xor => K (.int k (k.wrap (BitVec.ofInt k.bits a ^^^ BitVec.ofInt k.bits b).toNat)) w
    | .andNot => K (.int k (k.wrap (BitVec.ofInt k.bits a &&& ~~~ BitVec.ofInt k.bits b).toNat)) w
    | .eql => K (.bool (decide (a = b))) w
    | .neq => K (.bool (decide (a ≠ b))) w
    | .lss => K (.bool (decide (a < b))) w
    | .leq => K (.bool (decide (a ≤ b))) w
    | .gtr => K (.bool (decide (b < a))) w
    | .geq => K (.bool (decide (b ≤ a))) w
    | _ => False
  | _, _ => False
def sh (op : BinOp) (x y : Value) (K : Value → WT) : WT := fun w => match x, y with
  | .int k a, .int _ b => 0 ≤ b ∧ match op with
    | .shl => K (.int k (k.wrap (a * 2 ^ min b.toNat k.bits))) w
    | .shr => K (.int k (a.fdiv (2 ^ min b.toNat k.bits))) w
    | _ => False
  | _, _ => False
def sbin (op : BinOp) (x y : Value) (K : Value → WT) : WT := fun w => match x, y with
  | .string a, .string b => match op with
    | .add => a.size + b.size ≤ 9223372036854775807 ∧ K (.string (a ++ b)) w
    | .eql => K (.bool (a.toList == b.toList)) w
    | .neq => K (.bool (!(a.toList == b.toList))) w
    | .lss => K (.bool (Op.bytesLess a.toList b.toList)) w
    | .leq => K (.bool (Op.bytesLess a.toList b.toList || a.toList == b.toList)) w
    | .gtr => K (.bool (!(Op.bytesLess a.toList b.toList || a.toList == b.toList))) w
    | .geq => K (.bool (!(Op.bytesLess a.toList b.toList))) w
    | _ => False
  | _, _ => False
def beq (op : BinOp) (x y : Value) (K : Value → WT) : WT := fun w => match x, y with
  | .bool a, .bool b => match op with
    | .eql => K (.bool (a == b)) w
    | .neq => K (.bool (!(a == b))) w
    | _ => False
  | _, _ => False
def neg1 (x : Value) (K : Value → WT) : WT := fun w => match x with
  | .int k n => K (.int k (k.wrap (0 - n))) w
  | _ => False
def com1 (x : Value) (K : Value → WT) : WT := fun w => match x with
  | .int k n => K (.int k (k.wrap (BitVec.ofInt k.bits (if k.signed then -1 else k.max) ^^^ BitVec.ofInt k.bits n).toNat)) w
  | _ => False
def not1 (x : Value) (K : Value → WT) : WT := fun w => match x with
  | .bool b => K (.bool (!b)) w
  | _ => False
def cvt (k : IntKind) (x : Value) (K : Value → WT) : WT := fun w => match x with
  | .int _ n => K (.int k (k.wrap n)) w
  | _ => False
def str1 (x : Value) (K : Value → WT) : WT := fun w => match x with
  | .string s => K (.string s) w
  | _ => False
def lenS (x : Value) (K : Value → WT) : WT := fun w => match x with
  | .string s => K (.int .i64 s.size) w
  | _ => False
def len (x : Value) (K : Value → WT) : WT := fun w => match x with
  | .slice _ n _ => K (.int .i64 n) w
  | _ => False
def cap (x : Value) (K : Value → WT) : WT := fun w => match x with
  | .slice _ _ n => K (.int .i64 n) w
  | _ => False
def lenM (x : Value) (K : Value → WT) : WT := fun w => match x with
  | .map none => K (.int .i64 0) w
  | .map (some r) => match w.heap[r]? with | some (.map es _) => K (.int .i64 es.size) w | _ => False
  | _ => False
def mx (x y : Value) (K : Value → WT) : WT := fun w => match x, y with
  | .int k a, .int _ b => K (.int k (if b > a then b else a)) w
  | _, _ => False
def mn (x y : Value) (K : Value → WT) : WT := fun w => match x, y with
  | .int k a, .int _ b => K (.int k (if b < a then b else a)) w
  | _, _ => False
def mkM (K : Value → WT) : WT := fun w => K (.map (some w.heap.size)) { w with heap := w.heap.push (.map #[] 0) }
def cond (c : Value) (A B : WT) : WT := fun w => match c with
  | .bool true => A w
  | .bool false => B w
  | _ => False
def gd (c : Value) (want : Bool) (body : (Value → WT) → WT) (rest : Value → WT) : WT := fun w => match c with
  | .bool true => (match want with | true => body rest w | false => rest undef w)
  | .bool false => (match want with | true => rest undef w | false => body rest w)
  | _ => rest undef w
def fa (f : (Nat → Value) → WT) : WT := fun w => ∀ j, f j w
def dr (W : WT) : WT := fun w => ∀ w' : World, w'.heap = w.heap → w'.os = w.os → w'.tape = w.tape → w'.output = w.output → W w'
def rck (facts : List WT) (W : WT) : WT := fun w => (∀ f ∈ facts, f w) ∧ W w
end S
abbrev Kn (n : Nat) : Type := Nat.rec (motive := fun _ => Type) WT (fun _ r => Value → r) n
def lam : (n : Nat) → (List Value → WT) → Kn n
  | 0, f => f []
  | n + 1, f => fun v => lam n fun l => f (v :: l)
def app : (n : Nat) → Kn n → List Value → WT
  | 0, k, _ => k
  | n + 1, k, v :: l => app n (k v) l
  | n + 1, k, [] => app n (k undef) []
theorem app_lam : ∀ (n : Nat) (f : List Value → WT) (l : List Value), l.length = n → app n (lam n f) l = f l
  | 0, f, [], _ => rfl
  | n + 1, f, v :: l, h => app_lam n (fun l => f (v :: l)) l (by simpa using h)
namespace S
def join (n : Nat) (body : Kn n → WT) (rest : Kn n) : WT := body rest
def loop (n : Nat) (body : Kn n → Kn n) (vals : List Value) : WT := fun w =>
  ∃ (σ : Type) (I : σ → List Value → WT) (μ : σ → Nat) (s0 : σ), I s0 vals w ∧
    ∀ s vs w, vs.length = n → I s vs w → app n (body (lam n fun vs' w' => ∃ s', μ s' < μ s ∧ I s' vs' w')) vs w
end S
end Go.SL
namespace Go.SL
open Go.RowKit
abbrev Env := Nat → Value
def ev (n : Nat) (e : Env) : Operand → Value
  | .tmp t => match Nat.blt t n with | true => e t | false => undef
  | .const v => v
  | .global g => .pointer (some ⟨g, 0, none⟩)
  | .func f => .func (.func f) #[] #[]
def upd (n : Nat) (e : Env) (d : Option Tmp) (v : Value) : Env := match d with
  | none => e
  | some d => match Nat.blt d n with
    | true => fun k => match Nat.beq k d with | true => v | false => e k
    | false => e
def callOk (P : Program) (f : FuncId) : Bool := match P.funcs[f]? with
  | some fn => fn.body.isSome && !(fn.name == "runtime.NumGoroutine")
  | none => false
def nope : WT := fun _ => False
namespace S
def both (A C : WT) : WT := fun w => A w ∧ C w
def pan [Amb] (x : Value) : WT := match x with
  | .iface t v => Amb.pn (.iface t v)
  | _ => nope
def cvv [Amb] (P : Program) (f : Value) (args : List Value) (K : Value → WT) : WT := match f with
  | .func (.func g) first captured => fun w => callOk P g = true ∧ CF P g (first.toList ++ args ++ captured.toList) K w
  | .func fn first captured => Gives P (invoke (.fn fn captured) (first ++ args.toArray)) K
  | _ => nope
def cOp : Bool → Operand
  | true => .const undef
  | false => .tmp 0
def eqS (op : BinOp) (t : TypeId) (c : Bool) (x y : Value) : Sem Value := do
  eqGuard op t (cOp c) (.tmp 0) x y
  binOp op t x y
def eqv (P : Program) (op : BinOp) (t : TypeId) (c : Bool) (x y : Value) (K : Value → WT) : WT := V P (eqS op t c x y) K
def bound (v : Option Value) (d : Nat) : Option Nat := match v with
  | none => some d
  | some (.int _ n) => match decide (0 ≤ n) with | true => some n.toNat | false => none
  | some _ => none
def slc (sz : Nat) (x : Value) (lo hi mx : Option Value) (K : Value → WT) : WT := fun w => match x with
  | .slice a len cap => ∃ l h m, bound mx cap = some m ∧ bound hi len = some h ∧ bound lo 0 = some l ∧ l ≤ h ∧ h ≤ m ∧ m ≤ cap ∧ (mx.isSome = true → hi.isSome = true) ∧
      K (.slice (if m = l then a else a.map (·.add (l * sz))) (h - l) (m - l)) w
  | _ => False
def bytesOf : List Value → ByteArray → Option ByteArray
  | [], s => some s
  | .int .u8 n :: l, s => bytesOf l (s.push (UInt8.ofNat n.toNat))
  | _, _ => none
def b2s (x : Value) (K : Value → WT) : WT := fun w => match x with
  | .slice none _ _ => K (.string .empty) w
  | .slice (some a) len _ => match cellsFrom w a 0 len with
    | some cs => match bytesOf cs .empty with
      | some s => K (.string s) w
      | none => False
    | none => False
  | _ => False
def lk (kd : TypeDesc) (z : Value) (ok : Bool) (m k : Value) (K : Value → WT) : WT := fun w => match m with
  | .map none => K (match ok with | true => .tuple #[z, .bool false] | false => z) w
  | .map (some r) => match w.heap[r]? with
    | some (.map es _) => match Instr.findNow kd k es.toList 0 with
      | some (some (_, v)) => K (match ok with | true => .tuple #[v, .bool true] | false => v) w
      | some none => K (match ok with | true => .tuple #[z, .bool false] | false => z) w
      | none => False
    | _ => False
  | _ => False
def slcS (x : Value) (lo hi : Option Value) (K : Value → WT) : WT := fun w => match x with
  | .string s => ∃ l h, bound hi s.size = some h ∧ bound lo 0 = some l ∧ l ≤ h ∧ h ≤ s.size ∧ K (.string (s.extract l h)) w
  | _ => False
end S
def isC : Operand → Bool
  | .const _ => true
  | _ => false
def bi (P : Program) (b : Builtin) (argTypes : Array TypeId) (type : TypeId) (args : List Value) (K : Value → WT) : WT := match b with
  | .len => match args with
    | [x] => match argTypes[0]? with
      | some t => match P.underlying t with
        | some .string => S.lenS x K
        | some (.slice _) => S.len x K
        | some (.map _ _) => S.lenM x K
        | _ => nope
      | none => nope
    | _ => nope
  | .cap => match args with
    | [x] => match argTypes[0]? with
      | some t => match P.underlying t with
        | some (.slice _) => S.cap x K
        | _ => nope
      | none => nope
    | _ => nope
  | .max => match args with | [x, y] => S.mx x y K | [x, y, z] => S.mx x y fun m => S.mx m z K | _ => nope
  | .min => match args with | [x, y] => S.mn x y K | [x, y, z] => S.mn x y fun m => S.mn m z K | _ => nope
  | .append => V P (Builtin.append_ argTypes type args.toArray) K
  | .copy => V P (Builtin.copy_ argTypes type args.toArray) K
  | .delete => V P (Builtin.delete_ argTypes type args.toArray) K
  | .clear => V P (Builtin.clear_ argTypes type args.toArray) K
  | .unsafeSliceData => V P (Builtin.unsafeSliceData_ argTypes type args.toArray) K
  | .unsafeString => V P (Builtin.unsafeString_ argTypes type args.toArray) K
  | _ => nope
def opK [Amb] (P : Program) (ρ : Operand → Value) (o : Oper) (K : Value → WT) : WT := match o.op with
  | .move x => K (ρ x)
  | .assign x => K (ρ x)
  | .pick c a b => S.pick (ρ c) (ρ a) (ρ b) K
  | .alloc T => match P.info? T with
    | some { zero := some z, .. } => S.box T z K
    | _ => nope
  | .box T x => S.box T (ρ x) K
  | .build t parts => V P (Instr.build t (parts.toList.map fun p => (p.1, ρ p.2)).toArray) K
  | .buildSlice t n parts => V P (Instr.buildSlice t n (parts.toList.map fun p => (p.1, ρ p.2)).toArray) K
  | .load t a => match P.info? t with
    | some i => match P.underlying t with
      | some (.struct _) | some (.array _ _) => S.ldN i.size (ρ a) K
      | some _ => S.ld (ρ a) K
      | none => nope
    | none => nope
  | .store t a x => match P.info? t with
    | some i => S.st i.size (ρ a) (ρ x) K
    | none => nope
  | .nilCheck x => S.nc (ρ x) K
  | .binOp op t x y _ => match P.underlying t with
    | some (.int _) => match op with
      | .shl => S.sh op (ρ x) (ρ y) K
      | .shr => S.sh op (ρ x) (ρ y) K
      | _ => S.bin op (ρ x) (ρ y) K
    | some .string => S.sbin op (ρ x) (ρ y) K
    | some .bool => S.beq op (ρ x) (ρ y) K
    | _ => S.eqv P op t (isC x || isC y) (ρ x) (ρ y) K
  | .unOp op _ x => match op with
    | .neg => S.neg1 (ρ x) K
    | .xor => S.com1 (ρ x) K
    | .not => S.not1 (ρ x) K
    | _ => nope
  | .convert src dst x => match P.underlying src, P.underlying dst with
    | some (.int _), some (.int k) => S.cvt k (ρ x) K
    | some .string, some .string => S.str1 (ρ x) K
    | some (.slice el), some .string => match P.underlying el with
      | some (.int .u8) => S.b2s (ρ x) K
      | _ => V P (convert src dst (ρ x)) K
    | _, _ => V P (convert src dst (ρ x)) K
  | .sliceToArrayPointer t x => V P (Instr.arrayAt t (ρ x)) K
  | .makeInterface t x => match P.underlying t with
    | some (.interface _) => nope
    | some _ => K (.iface t (ρ x))
    | none => nope
  | .makeFunc fn first captured => K (.func fn (first.toList.map ρ).toArray (captured.toList.map ρ).toArray)
  | .makeMap t r => match r with
    | none => S.mkM K
    | some _ => match P.underlying t with
      | some (.map _ _) => match r.map ρ with
        | some (.int _ _) => S.mkM K
        | _ => nope
      | _ => nope
  | .makeSlice t l c => V P (Instr.makeSlice t (ρ l) (ρ c)) K
  | .slice t x lo hi mx => match P.underlying t with
    | some (.slice el) => match P.info? el with
      | some i => S.slc i.size (ρ x) (lo.map ρ) (hi.map ρ) (mx.map ρ) K
      | none => nope
    | some .string => match mx with
      | none => S.slcS (ρ x) (lo.map ρ) (hi.map ρ) K
      | some _ => nope
    | _ => V P (Instr.sliceAt t (ρ x) (lo.map ρ) (hi.map ρ) (mx.map ρ)) K
  | .fieldAddr s x f => match P.underlying s with
    | some (.struct fs) => match fs[f]? with
      | some fd => match P.info? fd.type with
        | some i => match i.size with
          | 0 => nope
          | _ + 1 => S.fad (ρ x) fd.offset K
        | none => nope
      | none => nope
    | _ => nope
  | .field t x f => match P.underlying t with
    | some (.struct fs) => match fs[f]? with
      | some fd => match P.info? fd.type with
        | some i => match P.underlying fd.type with
          | some (.struct _) | some (.array _ _) => S.prt true fd.offset i.size (ρ x) K
          | some _ => S.prt false fd.offset i.size (ρ x) K
          | none => nope
        | none => nope
      | none => nope
    | _ => nope
  | .indexAddr t x i => match P.underlying t with
    | some (.slice el) => match P.info? el with
      | some j => S.ixS j.size (ρ x) (ρ i) K
      | none => nope
    | some (.array len el) => match P.info? el with
      | some j => S.ixA len j.size (ρ x) (ρ i) K
      | none => nope
    | _ => nope
  | .index t x i => match P.underlying t with
    | some .string => S.chr (ρ x) (ρ i) K
    | _ => V P (Instr.index t (ρ x) (ρ i)) K
  | .lookup t x i ok => match P.underlying t with
    | some (.map k el) => match P.underlying k with
      | some (.int kk) => match P.info? el with
        | some { zero := some z, .. } => S.lk (.int kk) z ok (ρ x) (ρ i) K
        | _ => nope
      | some .string => match P.info? el with
        | some { zero := some z, .. } => S.lk .string z ok (ρ x) (ρ i) K
        | _ => nope
      | _ => V P (Instr.lookup t (ρ x) (ρ i) ok) K
    | _ => nope
  | .mapUpdate t m k x => U P (Instr.mapUpdate t (ρ m) (ρ k) (ρ x)) K
  | .insert t m k x => U P (Instr.mapUpdate t (ρ m) (ρ k) (ρ x)) K
  | .mapEntry t m k => V P (Instr.mapEntry t (ρ m) (ρ k)) K
  | .entryStore t m s x => U P (Instr.entryStore t (ρ m) (ρ s) (ρ x)) K
  | .range t x => V P (Instr.range t (ρ x)) K
  | .next it isString => V P (Instr.next (ρ it) isString o.type) K
  | .entry it => V P (Instr.entry (ρ it)) K
  | .typeAssert x t u ok => V P (Instr.typeAssert (ρ x) t u ok) K
  | .extract t i => S.ext (ρ t) i K
  | .panic x => S.pan (ρ x)
  | .call c => match c.callee with
    | .builtin b => bi P b c.argTypes o.type (c.args.toList.map ρ) K
    | .value (.func f) => match callOk P f with
      | true => CF P f (c.args.toList.map ρ) K
      | false => Gives P (callFunc f (c.args.toList.map ρ).toArray) K
    | .value x => S.cvv P (ρ x) (c.args.toList.map ρ) K
    | .invoke r name => Gives P (invoke (.fn (.method name) #[]) ((ρ r) :: c.args.toList.map ρ).toArray) K
  | _ => nope
theorem amap (xs : Array Operand) (f : Operand → Value) : xs.map f = (xs.toList.map f).toArray := by cases xs; simp
theorem amapP (xs : Array (Nat × Operand)) (f : Operand → Value) : (xs.map fun (i, x) => (i, f x)) = (xs.toList.map fun p => (p.1, f p.2)).toArray := by cases xs; simp
theorem run_bind {P : Program} {α β : Type} (s : Sem α) (f : α → Sem β) (w : World) :
    (s >>= f).run P w = match s.run P w with | .ok a w' => (f a).run P w' | .halt h w' => .halt h w' := by
  show (Sem.bind s f).run P w = _
  induction s generalizing w with
  | pure a => rfl
  | load m a k ih => simp only [Sem.bind, Sem.run]; split; · exact ih _ _
                     · split; · exact ih _ _
                       · rfl
  | store m a v k ih =>
    simp only [Sem.bind]
    cases v <;> simp only [Sem.run] <;> cases w.cell? a <;> simp only <;> (try cases hf : w.frozen? a) <;> (try simp only [if_true, if_false, Bool.false_eq_true, ih]) <;> (try (cases w.farStore P a _ _ <;> simp only [ih]))
  | new o k ih => exact ih _ _
  | shape r k ih => exact ih _ _
  | freeze a n k ih => exact ih _
  | frozen a k ih => exact ih _ _
  | getObj r k ih => simp only [Sem.bind, Sem.run]; split; · rfl
                     · exact ih _ _
                     · rfl
  | setObj r o k ih => simp only [Sem.bind, Sem.run]; split; · rfl
                       · exact ih _
                       · rfl
  | choose q k ih => simp only [Sem.bind, Sem.run]; split <;> exact ih _ _
  | sys c k ih => exact ih _ _
  | program k ih => exact ih _ _
  | mark m k ih => exact ih _
  | halt h => rfl
theorem run_pure {P : Program} {α : Type} (a : α) (w : World) : (pure a : Sem α).run P w = .ok a w := rfl
theorem gives_V [Amb] {P : Program} {s : Sem Value} {K : Value → WT} {w : World} (h : V P s K w) : Gives P (do pure (.value (← s))) K w := by
  unfold V at h; unfold Gives
  rw [run_bind]
  split at h
  · rename_i h'; simp only [h', run_pure]; exact h
  · exact h.elim
theorem gives_U [Amb] {P : Program} {s : Sem Unit} {K : Value → WT} {w : World} (h : U P s K w) : Gives P (do s; pure .skip) K w := by
  unfold U at h; unfold Gives
  rw [run_bind]
  split at h
  · rename_i h'; simp only [h', run_pure]; exact h
  · exact h.elim
theorem run_underlying' {P : Program} {t : TypeId} {d : TypeDesc} {w : World} (h : P.underlying t = some d) : (underlying t).run P w = .ok d w := by
  unfold underlying; rw [run_bind]; show (match P.underlying t with | some d => (pure d : Sem TypeDesc) | none => _).run P w = _
  rw [h]; rfl
theorem run_info' {P : Program} {t : TypeId} {d : TypeInfo} {w : World} (h : P.info? t = some d) : (typeInfo t).run P w = .ok d w := by
  unfold typeInfo; rw [run_bind]; show (match P.info? t with | some d => (pure d : Sem TypeInfo) | none => _).run P w = _
  rw [h]; rfl
theorem run_size' {P : Program} {t : TypeId} {d : TypeInfo} {w : World} (h : P.info? t = some d) : (sizeOf t).run P w = .ok d.size w := by
  unfold sizeOf; rw [run_bind, run_info' h]; rfl
theorem run_load' {P : Program} {a : Addr} {v : Value} {w : World} (h : w.cell? a = some v) : (load a).run P w = .ok v w := by
  unfold load Sem.run; simp only [h]; rfl
theorem run_loadCells {P : Program} {a : Addr} {w : World} : ∀ (n i : Nat) (acc : Array Value) (cs : List Value), cellsFrom w a i n = some cs → (loadCellsFrom a i n acc).run P w = .ok (acc ++ cs.toArray) w
  | 0, i, acc, cs, h => by simp [cellsFrom] at h; subst h; simp [loadCellsFrom, run_pure]
  | n + 1, i, acc, cs, h => by
    simp only [cellsFrom] at h
    split at h
    · rename_i v hv
      simp only [Option.map_eq_some_iff] at h
      obtain ⟨l, hl, rfl⟩ := h
      simp only [loadCellsFrom]
      rw [run_bind, run_load' hv]
      simp only
      rw [run_loadCells n (i + 1) (acc.push v) l hl]
      simp
    · cases h
theorem run_storeCells {P : Program} {a : Addr} : ∀ (vs : List Value) (i : Nat) (w w' : World), putFrom a i vs w = some w' → (storeCells a vs i).run P w = .ok () w'
  | [], i, w, w', h => by simp [putFrom] at h; subst h; simp [storeCells, run_pure]
  | v :: vs, i, w, w', h => by
    simp only [putFrom] at h
    split at h
    · rename_i h1 h2 h3
      simp only [storeCells]
      rw [run_bind]
      have : (store (a.add i) v).run P w = .ok () (w.setCell (a.add i) v) := by
        unfold store
        cases v <;> simp [isCell] at h1 <;> simp only [Sem.run, h2, h3] <;> rfl
      rw [this]
      exact run_storeCells vs (i + 1) _ _ h
    · cases h
end Go.SL
namespace Go.SL
open Go.RowKit
variable {P : Program} {ρ : Operand → Value} {K : Value → WT} {w : World}
theorem gives_mono [Amb] {s : Sem Next} {K' : Value → WT} (h : Gives P s K w) (hk : ∀ v w, K v w → K' v w) : Gives P s K' w := by
  unfold Gives at *
  split at h
  · exact hk _ _ h
  · exact hk _ _ h
  · unfold CF at *
    refine Calls.mono h fun e w' h' => ?_
    cases e with
    | returned v => exact hk _ _ h'
    | panicked c => exact h'
    | outgrown => exact h'
  · refine RoundIn.mono h fun e w' h' => ?_
    cases e with
    | returned v => exact hk _ _ h'
    | panicked c => exact h'
    | outgrown => exact h'
  · exact h
  · exact h
def isAggD : TypeDesc → Bool
  | .struct _ | .array _ _ => true
  | _ => false
theorem run_load_agg {t : TypeId} {i : TypeInfo} {ad : Addr} {cs : List Value} (hi : P.info? t = some i) (ha : (isAgg t).run P w = .ok true w)
    (hc : cellsFrom w ad 0 i.size = some cs) : (Instr.loadAt t (.pointer (some ad))).run P w = .ok (.agg cs.toArray) w := by
  unfold Instr.loadAt Instr.sureAddr loadVar
  rw [run_bind]; simp only [run_pure]
  rw [run_bind, ha]; simp only [if_true]
  rw [run_bind, run_size' hi]; simp only
  unfold loadCells
  rw [run_bind, run_loadCells _ _ _ _ hc]; simp [run_pure]
theorem run_load_one {t : TypeId} {ad : Addr} {v : Value} (ha : (isAgg t).run P w = .ok false w)
    (hc : w.cell? ad = some v) : (Instr.loadAt t (.pointer (some ad))).run P w = .ok v w := by
  unfold Instr.loadAt Instr.sureAddr loadVar
  rw [run_bind]; simp only [run_pure]
  rw [run_bind, ha]; simp only [Bool.false_eq_true, if_false]
  exact run_load' hc
theorem run_isAgg_t {t : TypeId} {d : TypeDesc} (hu : P.underlying t = some d) (hd : isAggD d = true) : (isAgg t).run P w = .ok true w := by
  unfold isAgg; rw [run_bind, run_underlying' hu]; cases d <;> simp_all [run_pure, isAggD]
theorem run_isAgg_f {t : TypeId} {d : TypeDesc} (hu : P.underlying t = some d) (hd : isAggD d = false) : (isAgg t).run P w = .ok false w := by
  unfold isAgg; rw [run_bind, run_underlying' hu]; cases d <;> simp_all [run_pure, isAggD]
theorem ldN_sound {t : TypeId} {i : TypeInfo} {d : TypeDesc} {a : Value} (hi : P.info? t = some i) (hu : P.underlying t = some d)
    (hd : isAggD d = true) (h : S.ldN i.size a K w) : V P (Instr.loadAt t a) K w := by
  unfold S.ldN at h
  split at h
  · rename_i ad
    split at h
    · rename_i cs hc
      unfold V; rw [run_load_agg hi (run_isAgg_t hu hd) hc]; exact h
    · exact h.elim
  · exact h.elim
theorem ld_sound {t : TypeId} {d : TypeDesc} {a : Value} (hu : P.underlying t = some d)
    (hd : isAggD d = false) (h : S.ld a K w) : V P (Instr.loadAt t a) K w := by
  unfold S.ld at h
  split at h
  · rename_i ad
    split at h
    · rename_i v hc
      unfold V; rw [run_load_one (run_isAgg_f hu hd) hc]; exact h
    · exact h.elim
  · exact h.elim
theorem st_sound {t : TypeId} {i : TypeInfo} {a v : Value} (hi : P.info? t = some i) (h : S.st i.size a v K w) : U P (Instr.storeAt t a v) K w := by
  unfold S.st at h
  split at h
  · rename_i ad
    obtain ⟨hs, h⟩ := h
    split at h
    · rename_i w' hw
      unfold U Instr.storeAt Instr.sureAddr storeVar
      rw [run_bind]; simp only [run_pure]
      rw [run_bind, run_size' hi]; simp only
      rw [if_neg (by simp [hs]), run_storeCells _ _ _ _ hw]
      exact h
    · exact h.elim
  · exact h.elim
theorem box_sound {T : TypeId} {v : Value} (h : S.box T v K w) : V P (Instr.box T v) K w := h
theorem alloc_sound {T : TypeId} {i : TypeInfo} {z : Value} (hi : P.info? T = some i) (hz : i.zero = some z) (h : S.box T z K w) : V P (Instr.alloc T true (.tuple #[])) K w := by
  unfold V Instr.alloc zeroValue
  rw [run_bind, run_bind, run_info' hi]; simp only [hz, run_pure]
  exact h
theorem V_run {s s' : Sem Value} (hr : s'.run P w = s.run P w) (h : V P s K w) : V P s' K w := by unfold V at *; rw [hr]; exact h
theorem bin_sound {op : BinOp} {t : TypeId} {x y : Value} {xo yo : Operand} (h : S.bin op x y K w) : V P (do eqGuard op t xo yo x y; binOp op t x y) K w := by
  unfold S.bin at h
  split at h
  · rename_i k a k' b
    obtain ⟨rfl, h⟩ := h
    refine V_run (s := binOp op t (.int k a) (.int k b)) ?_ ?_
    · rw [run_bind]
      cases op <;> rfl
    · unfold V binOp
      cases op <;> first
        | exact h
        | exact h.elim
        | (simp only [ne_eq, not_true_eq_false, if_false, Op.intDiv, if_neg h.1]; exact h.2)
        | (simp only [ne_eq, not_true_eq_false, if_false, Op.intCmp, run_pure, bne, BEq.beq, decide_not] at h ⊢; exact h)
  · exact h.elim
theorem sh_sound {op : BinOp} {t : TypeId} {x y : Value} {xo yo : Operand} (h : S.sh op x y K w) : V P (do eqGuard op t xo yo x y; binOp op t x y) K w := by
  unfold S.sh at h
  split at h
  · rename_i k a k' b
    refine V_run (s := binOp op t (.int k a) (.int k' b)) ?_ ?_
    · rw [run_bind]
      cases op <;> rfl
    · have hb : ¬ b < 0 := by omega
      unfold V binOp
      cases op <;> first
        | exact h.2.elim
        | (simp only [Op.shift, if_neg hb]; exact h.2)
  · exact h.elim
theorem sbin_sound {op : BinOp} {t : TypeId} {x y : Value} {xo yo : Operand} (h : S.sbin op x y K w) : V P (do eqGuard op t xo yo x y; binOp op t x y) K w := by
  unfold S.sbin at h
  split at h
  · rename_i a b
    refine V_run (s := binOp op t (.string a) (.string b)) ?_ ?_
    · rw [run_bind]
      cases op <;> rfl
    · unfold V binOp
      cases op <;> first
        | exact h
        | exact h.elim
        | (have hb : ¬ ((a.size + b.size : Nat) : Int) > IntKind.i64.max := by (have : IntKind.i64.max = 9223372036854775807 := by decide); omega
           simp only [Op.stringOp, if_neg hb]; exact h.2)
  · exact h.elim
theorem beq_sound {op : BinOp} {t : TypeId} {x y : Value} {xo yo : Operand} (hu : P.underlying t = some .bool) (h : S.beq op x y K w) : V P (do eqGuard op t xo yo x y; binOp op t x y) K w := by
  unfold S.beq at h
  split at h
  · rename_i a b
    have he : (Op.equal t (.bool a) (.bool b)).run P w = .ok (a == b) w := by
      unfold Op.equal Op.maxDepth Op.equalIn
      rw [run_bind, run_underlying' hu]; rfl
    refine V_run (s := binOp op t (.bool a) (.bool b)) ?_ ?_
    · rw [run_bind]
      cases op <;> rfl
    · unfold V binOp
      cases op <;> first
        | exact h.elim
        | (simp only [run_bind, he, run_pure]; exact h)
  · exact h.elim
theorem eqGuard_c {op : BinOp} {t : TypeId} {xo yo : Operand} {x y : Value} :
    eqGuard op t xo yo x y = eqGuard op t (S.cOp (isC xo || isC yo)) (.tmp 0) x y := by
  unfold eqGuard
  cases op <;> try rfl
  all_goals
    cases x <;> cases y <;> try rfl
    all_goals (cases xo <;> cases yo <;> rfl)
theorem chr_sound {t : TypeId} {x i : Value} (hu : P.underlying t = some .string) (h : S.chr x i K w) : V P (Instr.index t x i) K w := by
  unfold S.chr at h
  split at h
  · rename_i s k n
    obtain ⟨h0, b, hb, h⟩ := h
    unfold V Instr.index asIntOf
    rw [run_bind]; simp only [run_pure]
    rw [run_bind, run_underlying' hu]; simp only [if_pos h0, hb, run_pure]
    exact h
  · exact h.elim
theorem ixS_sound {t el : TypeId} {j : TypeInfo} {x i : Value} (hu : P.underlying t = some (.slice el)) (hj : P.info? el = some j) (h : S.ixS j.size x i K w) : V P (Instr.indexAt t x i) K w := by
  unfold S.ixS at h
  split at h
  · rename_i a len c k n
    obtain ⟨h0, h1, h⟩ := h
    unfold V Instr.indexAt asIntOf
    simp only [run_bind, run_pure, run_underlying' hu, run_size' hj, if_pos (And.intro h0 h1)]
    exact h
  · exact h.elim
theorem ixA_sound {t el : TypeId} {len : Nat} {j : TypeInfo} {x i : Value} (hu : P.underlying t = some (.array len el)) (hj : P.info? el = some j) (h : S.ixA len j.size x i K w) : V P (Instr.indexAt t x i) K w := by
  unfold S.ixA at h
  split at h
  · rename_i a k n
    obtain ⟨h0, h1, h⟩ := h
    unfold V Instr.indexAt asIntOf
    simp only [run_bind, run_pure, run_underlying' hu, run_size' hj, Instr.sureAddr, if_pos (And.intro h0 h1)]
    exact h
  · exact h.elim
theorem fad_sound {s : TypeId} {fs : Array Field} {f : Nat} {fd : Field} {j : TypeInfo} {x : Value} (hu : P.underlying s = some (.struct fs)) (hf : fs[f]? = some fd)
    (hj : P.info? fd.type = some j) (h0 : j.size ≠ 0) (h : S.fad x fd.offset K w) : V P (Instr.fieldAt s x f) K w := by
  unfold S.fad at h
  split at h
  · rename_i ad
    unfold V Instr.fieldAt
    rw [run_bind, run_underlying' hu]; simp only [hf]
    rw [run_bind]; simp only [Instr.sureAddr, run_pure]
    rw [run_bind]
    unfold fieldPlace
    rw [run_bind, run_size' hj]; simp only [if_neg h0, run_pure]
    exact h
  · exact h.elim
theorem prt_sound {t : TypeId} {fs : Array Field} {f : Nat} {fd : Field} {j : TypeInfo} {d : TypeDesc} {x : Value} (hu : P.underlying t = some (.struct fs)) (hf : fs[f]? = some fd)
    (hj : P.info? fd.type = some j) (hd : P.underlying fd.type = some d) (h : S.prt (isAggD d) fd.offset j.size x K w) : V P (Instr.field t x f) K w := by
  unfold S.prt at h
  split at h
  · rename_i cs
    unfold V Instr.field
    rw [run_bind, run_underlying' hu]; simp only [hf]
    rw [run_bind]; simp only [asAgg, run_pure]
    unfold part
    split at h
    · rename_i ht
      rw [run_bind, run_isAgg_t hd ht]; simp only [if_true]
      rw [run_bind, run_size' hj]
      exact h
    · rename_i hf'
      rw [run_bind, run_isAgg_f hd hf']; simp only [Bool.false_eq_true, if_false]
      split at h
      · rename_i v hv; simp only [hv, run_pure]; exact h
      · exact h.elim
  · exact h.elim
theorem ext_sound {x : Value} {i : Nat} (h : S.ext x i K w) : V P (Instr.extract x i) K w := by
  unfold S.ext at h
  unfold V Instr.extract
  split at h
  · split at h
    · rename_i hv; simp only [hv, run_pure]; exact h
    · exact h.elim
  · exact h.elim
theorem pick_sound [Amb] {c a b : Value} (h : S.pick c a b K w) : Gives P (do pure (.value (if ← asBool c then a else b))) K w := by
  unfold S.pick at h
  split at h
  · rename_i x
    unfold Gives
    rw [run_bind]; simp only [asBool, run_pure]
    cases x <;> exact h
  · exact h.elim
theorem nc_sound [Amb] {x : Value} {xo : Operand} {ρ : Operand → Value} {o : Oper} (ho : o.op = .nilCheck xo) (hx : ρ xo = x) (h : S.nc x K w) : Gives P (execOp ρ o) K w := by
  unfold execOp
  rw [ho]; simp only; rw [hx]
  unfold S.nc at h
  cases x with
  | pointer a => cases a with
    | none => exact h.elim
    | some a => exact h
  | func fn first captured => cases fn <;> first | exact h.elim | exact h
  | nilFunc => exact h.elim
  | nilIface => exact h.elim
  | _ => exact h
theorem bound_run {v : Value} {d n y : Nat} {c : BoundsCode} (h : S.bound (some v) d = some n) (hn : n ≤ y) : (Instr.sliceBound v y c).run P w = .ok n w := by
  unfold S.bound at h
  split at h
  · rename_i heq; cases heq
  · rename_i k i heq
    cases heq
    split at h
    · rename_i hd
      have h0 : 0 ≤ i := of_decide_eq_true hd
      cases h
      unfold Instr.sliceBound asIntOf
      simp only [run_bind, run_pure]
      rw [if_pos ⟨h0, by omega⟩]; rfl
    · cases h
  · cases h
theorem bounds_run {b : Bool} {len cap l h m : Nat} {lo hi mx : Option Value} (h1 : S.bound mx cap = some m) (h2 : S.bound hi len = some h) (h3 : S.bound lo 0 = some l)
    (h4 : l ≤ h) (h5 : h ≤ m) (h6 : m ≤ cap) (h7 : mx.isSome = true → hi.isSome = true) : (Instr.sliceBounds b len cap lo hi mx).run P w = .ok (l, h, m) w := by
  unfold Instr.sliceBounds
  cases mx with
  | none =>
    simp [S.bound] at h1; subst h1
    cases hi with
    | none =>
      simp [S.bound] at h2; subst h2
      cases lo with
      | none => simp [S.bound] at h3; subst h3; rfl
      | some v => simp only [run_bind, run_pure, bound_run h3 h4]
    | some u =>
      cases lo with
      | none => simp [S.bound] at h3; subst h3; simp only [run_bind, run_pure, bound_run h2 h5]
      | some v => simp only [run_bind, run_pure, bound_run h3 h4, bound_run h2 h5]
  | some x =>
    cases hi with
    | none => simp at h7
    | some u =>
      cases lo with
      | none => simp [S.bound] at h3; subst h3; simp only [run_bind, run_pure, bound_run h2 h5, bound_run h1 h6]
      | some v => simp only [run_bind, run_pure, bound_run h3 h4, bound_run h2 h5, bound_run h1 h6]
theorem slc_sound {t el : TypeId} {j : TypeInfo} {x : Value} {lo hi mx : Option Value} (hu : P.underlying t = some (.slice el)) (hj : P.info? el = some j) (h : S.slc j.size x lo hi mx K w) :
    V P (Instr.sliceAt t x lo hi mx) K w := by
  unfold S.slc at h
  split at h
  · rename_i a len cap
    obtain ⟨l, h', m, h1, h2, h3, h4, h5, h6, h7, hk⟩ := h
    unfold V Instr.sliceAt Instr.slice
    simp only [run_bind, run_underlying' hu, bounds_run h1 h2 h3 h4 h5 h6 h7, run_size' hj, run_pure]
    exact hk
  · exact h.elim
theorem slcS_sound {t : TypeId} {x : Value} {lo hi : Option Value} (hu : P.underlying t = some .string) (h : S.slcS x lo hi K w) :
    V P (Instr.sliceAt t x lo hi none) K w := by
  unfold S.slcS at h
  split at h
  · rename_i s
    obtain ⟨l, h', h2, h3, h4, h5, hk⟩ := h
    unfold V Instr.sliceAt Instr.slice
    simp only [run_bind, run_underlying' hu, Option.isSome_none, Bool.false_eq_true, if_false, bounds_run (mx := none) (b := false) (cap := s.size) rfl h2 h3 h4 h5 (Nat.le_refl _) (by simp), run_pure]
    exact hk
  · exact h.elim
theorem run_getObj' {r : Nat} {o : Obj} (h : w.heap[r]? = some o) (hc : ∀ c el f, o ≠ .cells c el f) : (getObj r).run P w = .ok o w := by
  unfold getObj Sem.run
  rw [h]
  cases o <;> first | rfl | (exact absurd rfl (hc _ _ _))
theorem bytesOf_run : ∀ (cs : List Value) (s s' : ByteArray), S.bytesOf cs s = some s' →
    (forIn cs s (fun c r => match c with
      | .int .u8 n => pure (ForInStep.yield (r.push (UInt8.ofNat n.toNat)))
      | _ => do
        (stuck "bytesToString: byte expected" : Sem PUnit)
        pure (ForInStep.yield r)) : Sem ByteArray).run P w = .ok s' w
  | [], s, s', h => by simp only [S.bytesOf, Option.some.injEq] at h; subst h; rfl
  | c :: cs, s, s', h => by
    unfold S.bytesOf at h
    split at h
    · rename_i heq; cases heq
    · rename_i heq
      obtain ⟨rfl, rfl⟩ := List.cons.inj heq
      simp only [List.forIn_cons, run_bind, run_pure]
      exact bytesOf_run _ _ _ h
    · cases h
theorem b2s_sound {x : Value} (h : S.b2s x K w) : V P (Conv.bytesToString x) K w := by
  unfold S.b2s at h
  split at h
  · exact h
  · rename_i a len cap
    split at h
    · rename_i cs hc
      split at h
      · rename_i s hs
        unfold V Conv.bytesToString loadCells
        simp only
        rw [run_bind, run_loadCells _ _ _ _ hc]
        have := bytesOf_run (P := P) (w := w) cs .empty s hs
        simp only [run_bind, Array.empty_append] at this ⊢
        simp only [List.forIn_toArray]
        erw [this]
        exact h
      · exact h.elim
    · exact h.elim
  · exact h.elim
theorem find_run {kt : TypeId} {k : Value} {es : List MapEntry} {d : TypeDesc} {r : Option (Nat × Value)} (hd : P.underlying kt = some d) (h : Instr.findNow d k es 0 = some r) : (Instr.findKey kt k es).run P w = .ok r w := by
  unfold Instr.findKey
  rw [run_bind, run_underlying' hd]; simp only [h, run_pure]
theorem checkKey_run {b : Bool} {kt : TypeId} {k : Value} {d : TypeDesc} (hd : P.underlying kt = some d) (h : (match d with | .int _ | .string => true | _ => false) = true) : (Instr.checkKey b 10000 kt k).run P w = .ok () w := by
  unfold Instr.checkKey
  rw [run_bind, run_underlying' hd]
  cases d <;> first | rfl | cases h
theorem zero_run {t : TypeId} {i : TypeInfo} {z : Value} (hi : P.info? t = some i) (hz : i.zero = some z) : (zeroValue t).run P w = .ok z w := by
  unfold zeroValue
  rw [run_bind, run_info' hi]; simp only [hz, run_pure]
theorem lk_sound {t kt el : TypeId} {kd : TypeDesc} {i : TypeInfo} {z m k : Value} {ok : Bool} (ht : P.underlying t = some (.map kt el)) (hk : P.underlying kt = some kd)
    (hd : (match kd with | .int _ | .string => true | _ => false) = true) (hi : P.info? el = some i) (hz : i.zero = some z) (h : S.lk kd z ok m k K w) : V P (Instr.lookup t m k ok) K w := by
  unfold S.lk at h
  split at h
  · unfold V Instr.lookup
    simp only [run_bind, run_underlying' ht, run_pure, checkKey_run hk hd, find_run (P := P) (w := w) hk (show Instr.findNow kd k (#[] : Array MapEntry).toList 0 = some none from rfl), zero_run hi hz]
    cases ok <;> exact h
  · split at h
    · rename_i hm
      split at h
      · rename_i hf
        unfold V Instr.lookup
        simp only [run_bind, run_underlying' ht, run_getObj' hm (by simp), run_pure, checkKey_run hk hd, find_run (P := P) (w := w) hk hf]
        cases ok <;> exact h
      · rename_i hf
        unfold V Instr.lookup
        simp only [run_bind, run_underlying' ht, run_getObj' hm (by simp), run_pure, checkKey_run hk hd, find_run (P := P) (w := w) hk hf, zero_run hi hz]
        cases ok <;> exact h
      · exact h.elim
    · exact h.elim
  · exact h.elim
theorem ints_mx {x y : Value} (h : S.mx x y K w) (ts : Array TypeId) (ty : TypeId) : V P (Builtin.max_ ts ty #[x, y]) K w := by
  unfold S.mx at h
  split at h
  · exact h
  · exact h.elim
theorem ints_mn {x y : Value} (h : S.mn x y K w) (ts : Array TypeId) (ty : TypeId) : V P (Builtin.min_ ts ty #[x, y]) K w := by
  unfold S.mn at h
  split at h
  · exact h
  · exact h.elim
theorem ints_mx3 {x y z : Value} (h : S.mx x y (fun m => S.mx m z K) w) (ts : Array TypeId) (ty : TypeId) : V P (Builtin.max_ ts ty #[x, y, z]) K w := by
  cases x <;> first | exact h.elim | (cases y <;> first | exact h.elim | (cases z <;> first | exact h.elim | exact h))
theorem ints_mn3 {x y z : Value} (h : S.mn x y (fun m => S.mn m z K) w) (ts : Array TypeId) (ty : TypeId) : V P (Builtin.min_ ts ty #[x, y, z]) K w := by
  cases x <;> first | exact h.elim | (cases y <;> first | exact h.elim | (cases z <;> first | exact h.elim | exact h))
theorem lenS_sound {t ty : TypeId} {x : Value} {ts : Array TypeId} (ht : ts[0]? = some t) (hu : P.underlying t = some .string) (h : S.lenS x K w) : V P (Builtin.len_ ts ty #[x]) K w := by
  unfold S.lenS at h
  split at h
  · unfold V Builtin.len_; simp only [ht, List.getElem?_toArray, List.getElem?_cons_zero, run_bind, run_underlying' hu, run_pure]; exact h
  · exact h.elim
theorem len_sound {t ty el : TypeId} {x : Value} {ts : Array TypeId} (ht : ts[0]? = some t) (hu : P.underlying t = some (.slice el)) (h : S.len x K w) : V P (Builtin.len_ ts ty #[x]) K w := by
  unfold S.len at h
  split at h
  · unfold V Builtin.len_; simp only [ht, List.getElem?_toArray, List.getElem?_cons_zero, run_bind, run_underlying' hu, run_pure]; exact h
  · exact h.elim
theorem cap_sound {t ty el : TypeId} {x : Value} {ts : Array TypeId} (ht : ts[0]? = some t) (hu : P.underlying t = some (.slice el)) (h : S.cap x K w) : V P (Builtin.cap_ ts ty #[x]) K w := by
  unfold S.cap at h
  split at h
  · unfold V Builtin.cap_; simp only [ht, List.getElem?_toArray, List.getElem?_cons_zero, run_bind, run_underlying' hu, run_pure]; exact h
  · exact h.elim
theorem lenM_sound {t ty k el : TypeId} {x : Value} {ts : Array TypeId} (ht : ts[0]? = some t) (hu : P.underlying t = some (.map k el)) (h : S.lenM x K w) : V P (Builtin.len_ ts ty #[x]) K w := by
  unfold S.lenM at h
  split at h
  · unfold V Builtin.len_; simp only [ht, List.getElem?_toArray, List.getElem?_cons_zero, run_bind, run_underlying' hu, run_pure]; exact h
  · split at h
    · rename_i hm
      unfold V Builtin.len_
      simp only [ht, List.getElem?_toArray, List.getElem?_cons_zero, run_bind, run_underlying' hu, run_pure, run_getObj' hm (by simp)]
      exact h
    · exact h.elim
  · exact h.elim
theorem bi_sound [Amb] {b : Builtin} {ts : Array TypeId} {ty : TypeId} {args : List Value} {consts : Array Bool} (h : bi P b ts ty args K w) : Gives P (builtin b ts ty consts args.toArray) K w := by
  cases b <;> try exact h.elim
  case append => exact gives_V h
  case copy => exact gives_V h
  case delete => exact gives_V h
  case clear => exact gives_V h
  case unsafeSliceData => exact gives_V h
  case unsafeString => exact gives_V h
  case max => match args, h with
    | [x, y], h => exact gives_V (ints_mx h _ _)
    | [x, y, z], h => exact gives_V (ints_mx3 h _ _)
  case min => match args, h with
    | [x, y], h => exact gives_V (ints_mn h _ _)
    | [x, y, z], h => exact gives_V (ints_mn3 h _ _)
  case len =>
    match args, h with
    | [x], h =>
      simp only [bi] at h
      cases ht : ts[0]? with
      | none => simp only [ht] at h; exact h.elim
      | some t =>
        simp only [ht] at h
        cases hu : P.underlying t with
        | none => simp only [hu] at h; exact h.elim
        | some d =>
          simp only [hu] at h
          cases d <;> first
            | exact h.elim
            | exact gives_V (lenS_sound ht hu h)
            | exact gives_V (len_sound ht hu h)
            | exact gives_V (lenM_sound ht hu h)
  case cap =>
    match args, h with
    | [x], h =>
      simp only [bi] at h
      cases ht : ts[0]? with
      | none => simp only [ht] at h; exact h.elim
      | some t =>
        simp only [ht] at h
        cases hu : P.underlying t with
        | none => simp only [hu] at h; exact h.elim
        | some d =>
          simp only [hu] at h
          cases d <;> first
            | exact h.elim
            | exact gives_V (cap_sound ht hu h)
theorem run_callFunc {f : FuncId} {args : Array Value} (h : callOk P f = true) : (callFunc f args).run P w = .ok (.enter f args) w := by
  unfold callOk at h
  unfold callFunc
  rw [run_bind]
  show Sem.run P (match P.funcs[f]? with | none => _ | some fn => _) w = _
  cases hf : P.funcs[f]? with
  | none => simp [hf] at h
  | some fn =>
    simp only [hf, Bool.and_eq_true, Bool.not_eq_true'] at h ⊢
    have hb : fn.body.isNone = false := by cases hx : fn.body <;> simp_all
    simp only [h.2, hb, Bool.false_eq_true, if_false, run_pure]
theorem cf_sound [Amb] {f : FuncId} {args : List Value} (h : callOk P f = true) (hc : CF P f args K w) : Gives P (callFunc f args.toArray) K w := by
  unfold Gives; rw [run_callFunc h]; simpa using hc
theorem opK_sound [Amb] {o : Oper} (hρ : ∀ f, ρ (.func f) = .func (.func f) #[] #[]) (h : opK P ρ o K w) : Gives P (execOp ρ o) K w := by
  cases hop : o.op <;> simp only [opK, hop] at h <;> try exact h.elim
  case move x => unfold execOp; simp only [hop]; exact h
  case assign x => unfold execOp; simp only [hop]; exact h
  case pick c a b => unfold execOp; simp only [hop]; exact pick_sound h
  case alloc T =>
    unfold execOp; simp only [hop]
    cases hi : P.info? T with
    | none => simp only [hi] at h; exact h.elim
    | some i =>
      cases hz : i.zero with
      | none => obtain ⟨_, _, _, _, _, _, _, z, _, _⟩ := i; simp only at hz; subst hz; simp only [hi] at h; exact h.elim
      | some z =>
        refine gives_V (alloc_sound hi hz ?_)
        obtain ⟨_, _, _, _, _, _, _, z, _, _⟩ := i; simp only at hz; subst hz; simp only [hi] at h; exact h
  case box T x => unfold execOp; simp only [hop]; exact gives_V (box_sound h)
  case build t ps => unfold execOp; simp only [hop]; rw [amapP]; exact gives_V h
  case buildSlice t n ps => unfold execOp; simp only [hop]; rw [amapP]; exact gives_V h
  case load t a =>
    unfold execOp; simp only [hop]
    cases hi : P.info? t with
    | none => simp only [hi] at h; exact h.elim
    | some i =>
      simp only [hi] at h
      cases hu : P.underlying t with
      | none => simp only [hu] at h; exact h.elim
      | some d =>
        simp only [hu] at h
        cases d <;> first
          | exact gives_V (ldN_sound hi hu rfl h)
          | exact gives_V (ld_sound hu rfl h)
  case store t a x =>
    unfold execOp; simp only [hop]
    cases hi : P.info? t with
    | none => simp only [hi] at h; exact h.elim
    | some i => simp only [hi] at h; exact gives_U (st_sound hi h)
  case nilCheck x => exact nc_sound hop rfl h
  case binOp op t x y yt =>
    unfold execOp; simp only [hop]
    have heqv : ∀ {K : Value → WT} {w : World}, S.eqv P op t (isC x || isC y) (ρ x) (ρ y) K w → Gives P (do pure (.value (← (do eqGuard op t x y (ρ x) (ρ y); binOp op t (ρ x) (ρ y))))) K w := fun h => by
      refine gives_V ?_
      unfold S.eqv S.eqS at h
      rw [eqGuard_c (xo := x) (yo := y)]; exact h
    cases hu : P.underlying t with
    | none => simp only [hu] at h; exact heqv h
    | some d =>
      simp only [hu] at h
      cases d with
      | int k =>
        cases op <;> simp only at h <;> first
          | exact gives_V (sh_sound h)
          | exact gives_V (bin_sound h)
      | string => exact gives_V (sbin_sound h)
      | bool => exact gives_V (beq_sound hu h)
      | _ => exact heqv h
  case unOp op t x =>
    unfold execOp; simp only [hop]
    cases op <;> simp only at h <;> try exact h.elim
    all_goals
      refine gives_V ?_
      generalize ρ x = vx at h ⊢
      cases vx <;> first | exact h.elim | exact h
  case convert src dst x =>
    unfold execOp; simp only [hop]
    refine gives_V ?_
    cases hs : P.underlying src with
    | none => simp only [hs] at h; exact h
    | some ds =>
      cases hd : P.underlying dst with
      | none => simp only [hs, hd] at h; exact h
      | some dd =>
        cases ds <;> cases dd <;> simp only [hs, hd] at h <;> try exact h
        · unfold S.cvt at h
          split at h
          · rename_i k' n hx
            unfold V convert
            simp only [run_bind, run_underlying' hs, run_underlying' hd, hx]
            exact h
          · exact h.elim
        · unfold S.str1 at h
          split at h
          · rename_i n hx
            unfold V convert
            simp only [run_bind, run_underlying' hs, run_underlying' hd, hx]
            exact h
          · exact h.elim
        · rename_i el
          cases hel : P.underlying el with
          | none => simp only [hel] at h; exact h
          | some de =>
            simp only [hel] at h
            cases de with
            | int k =>
              cases k <;> try exact h
              have h' := b2s_sound (P := P) h
              have hx : ∃ a l c, ρ x = .slice a l c := by
                generalize ρ x = vx at h
                cases vx <;> first | exact ⟨_, _, _, rfl⟩ | exact h.elim
              obtain ⟨a, l, c, hx⟩ := hx
              rw [hx] at h' ⊢
              unfold V convert
              simp only [run_bind, run_underlying' hs, run_underlying' hd, run_underlying' hel]
              exact h'
            | _ => exact h
  case sliceToArrayPointer t x => unfold execOp; simp only [hop]; exact gives_V h
  case makeInterface t x =>
    unfold execOp; simp only [hop]
    cases hu : P.underlying t with
    | none => simp only [hu] at h; exact h.elim
    | some d =>
      simp only [hu] at h
      refine gives_V ?_
      unfold V Instr.makeInterface
      rw [run_bind, run_underlying' hu]
      cases d <;> first | exact h.elim | exact h
  case makeFunc fn first captured =>
    unfold execOp; simp only [hop]
    rw [amap, amap]; exact h
  case makeMap t r =>
    unfold execOp; simp only [hop]
    refine gives_V ?_
    cases r with
    | none => exact h
    | some r =>
      simp only at h
      cases hu : P.underlying t with
      | none => simp only [hu] at h; exact h.elim
      | some d =>
        simp only [hu] at h
        cases d <;> simp only at h <;> try exact h.elim
        simp only [Option.map_some] at h
        generalize hr : ρ r = vr at h
        cases vr <;> simp only at h <;> try exact h.elim
        unfold V Instr.makeMap
        simp only [Option.map_some, hr, run_bind, run_underlying' hu, asInt, asIntOf, run_pure]
        exact h
  case makeSlice t l c => unfold execOp; simp only [hop]; exact gives_V h
  case slice t x lo hi mx =>
    unfold execOp; simp only [hop]
    refine gives_V ?_
    cases hu : P.underlying t with
    | none => simp only [hu] at h; exact h
    | some d =>
      simp only [hu] at h
      cases d with
      | slice el =>
        simp only at h
        cases hi : P.info? el with
        | none => simp only [hi] at h; exact h.elim
        | some i => simp only [hi] at h; exact slc_sound hu hi h
      | string =>
        cases mx with
        | none => exact slcS_sound hu h
        | some _ => exact h.elim
      | _ => exact h
  case fieldAddr s x f =>
    unfold execOp; simp only [hop]
    refine gives_V ?_
    cases hu : P.underlying s with
    | none => simp only [hu] at h; exact h.elim
    | some d =>
      simp only [hu] at h
      cases d <;> simp only at h <;> try exact h.elim
      rename_i fs
      cases hf : fs[f]? with
      | none => simp only [hf] at h; exact h.elim
      | some fd =>
        simp only [hf] at h
        cases hj : P.info? fd.type with
        | none => simp only [hj] at h; exact h.elim
        | some j =>
          simp only [hj] at h
          cases hz : j.size with
          | zero => simp only [hz] at h; exact h.elim
          | succ n => simp only [hz] at h; exact fad_sound hu hf hj (by omega) h
  case field t x f =>
    unfold execOp; simp only [hop]
    refine gives_V ?_
    cases hu : P.underlying t with
    | none => simp only [hu] at h; exact h.elim
    | some d =>
      simp only [hu] at h
      cases d <;> simp only at h <;> try exact h.elim
      rename_i fs
      cases hf : fs[f]? with
      | none => simp only [hf] at h; exact h.elim
      | some fd =>
        simp only [hf] at h
        cases hj : P.info? fd.type with
        | none => simp only [hj] at h; exact h.elim
        | some j =>
          simp only [hj] at h
          cases hd : P.underlying fd.type with
          | none => simp only [hd] at h; exact h.elim
          | some d => simp only [hd] at h; exact prt_sound hu hf hj hd (by cases d <;> exact h)
  case indexAddr t x i =>
    unfold execOp; simp only [hop]
    refine gives_V ?_
    cases hu : P.underlying t with
    | none => simp only [hu] at h; exact h.elim
    | some d =>
      simp only [hu] at h
      cases d <;> simp only at h <;> try exact h.elim
      · rename_i el
        cases hj : P.info? el with
        | none => simp only [hj] at h; exact h.elim
        | some j => simp only [hj] at h; exact ixS_sound hu hj h
      · rename_i len el
        cases hj : P.info? el with
        | none => simp only [hj] at h; exact h.elim
        | some j => simp only [hj] at h; exact ixA_sound hu hj h
  case index t x i =>
    unfold execOp; simp only [hop]
    refine gives_V ?_
    cases hu : P.underlying t with
    | none => simp only [hu] at h; exact h
    | some d =>
      simp only [hu] at h
      cases d <;> first | exact chr_sound hu h | exact h
  case lookup t x i ok =>
    unfold execOp; simp only [hop]
    refine gives_V ?_
    cases ht : P.underlying t with
    | none => simp only [ht] at h; exact h.elim
    | some d =>
      simp only [ht] at h
      cases d <;> simp only at h <;> try exact h.elim
      rename_i kt el
      cases hk : P.underlying kt with
      | none => simp only [hk] at h; exact h
      | some dk =>
        simp only [hk] at h
        cases dk <;> simp only at h <;> try exact h
        all_goals
          cases hi : P.info? el with
          | none => simp only [hi] at h; exact h.elim
          | some j =>
            cases hz : j.zero with
            | none => obtain ⟨_, _, _, _, _, _, _, z, _, _⟩ := j; simp only at hz; subst hz; simp only [hi] at h; exact h.elim
            | some z =>
              refine lk_sound ht hk rfl hi hz ?_
              obtain ⟨_, _, _, _, _, _, _, z, _, _⟩ := j; simp only at hz; subst hz; simp only [hi] at h; exact h
  case mapUpdate t m k x => unfold execOp; simp only [hop]; exact gives_U h
  case insert t m k x => unfold execOp; simp only [hop]; exact gives_U h
  case mapEntry t m k => unfold execOp; simp only [hop]; exact gives_V h
  case entryStore t m s x => unfold execOp; simp only [hop]; exact gives_U h
  case range t x => unfold execOp; simp only [hop]; exact gives_V h
  case next it b => unfold execOp; simp only [hop]; exact gives_V h
  case entry it => unfold execOp; simp only [hop]; exact gives_V h
  case typeAssert x t u ok => unfold execOp; simp only [hop]; exact gives_V h
  case extract t i => unfold execOp; simp only [hop]; exact gives_V (ext_sound h)
  case panic x =>
    unfold execOp; simp only [hop]
    generalize ρ x = vx at h ⊢
    cases vx <;> try exact False.elim h
    exact h
  case call c =>
    unfold execOp; simp only [hop]
    cases hc : c.callee with
    | builtin b =>
      simp only [hc] at h
      unfold resolve; simp only [hc]
      unfold Gives; rw [run_bind, run_pure]; simp only
      rw [amap]
      exact bi_sound h
    | invoke r name =>
      simp only [hc] at h
      unfold resolve; simp only [hc]
      unfold Gives; rw [run_bind, run_pure]; simp only
      rw [amap]
      simpa [Gives] using h
    | value x =>
      simp only [hc] at h
      unfold resolve; simp only [hc]
      rw [amap]
      cases x with
      | func f =>
        simp only [hρ] at h ⊢
        unfold Deferred.ofValue Gives; rw [run_bind, run_pure]; simp only
        have : (invoke (.fn (.func f) #[]) (#[] ++ (List.map ρ c.args.toList).toArray)) = callFunc f (List.map ρ c.args.toList).toArray := by
          simp [invoke]
        rw [this]
        cases hk : callOk P f with
        | true => simp only [hk] at h; exact cf_sound hk h
        | false => simp only [hk] at h; exact h
      | _ =>
        simp only at h
        generalize ρ _ = vx at h ⊢
        unfold S.cvv at h
        split at h
        · obtain ⟨hk, h⟩ := h
          unfold Deferred.ofValue Gives; rw [run_bind, run_pure]; simp only
          have := cf_sound hk h
          unfold Gives at this
          unfold invoke
          rename_i g first captured
          have he : (first.toList ++ List.map ρ c.args.toList ++ captured.toList).toArray = first ++ (List.map ρ c.args.toList).toArray ++ captured := by
            cases first; cases captured; simp
          rw [he] at this
          exact this
        · unfold Deferred.ofValue Gives; rw [run_bind, run_pure]; simp only
          exact h
        · exact h.elim
end Go.SL
namespace Go.SL
open Go.RowKit
inductive DT where
  | nil
  | one (i : Nat) (t : DT)
  | two (i : Nat) (t : DT) (j : Nat) (u : DT)
  | three (i : Nat) (t : DT) (j : Nat) (u : DT) (m : Nat) (v : DT)
  | four (i : Nat) (t : DT) (j : Nat) (u : DT) (m : Nat) (v : DT) (q : Nat) (x : DT)
inductive Ann where
  | z
  | seq (a b : Ann)
  | join (live : List Nat) (a b : Ann)
  | cond (a b : Ann)
  | blk (a : Ann)
  | loop (live : List Nat) (a : Ann)
  | draw (order : List Nat)
  | drawT (len : Nat) (t : DT)
  | rf (ids : List Nat) (a b : Ann)
inductive X where
  | nrm
  | ex (id : Nat)
  | rt
def mk : List Nat → List Value → Env → Env
  | t :: ts, v :: vs, j => fun k => match Nat.beq k t with | true => v | false => mk ts vs j k
  | _, _, j => j
theorem mk_same : ∀ (ts : List Nat) (j : Env), mk ts (ts.map j) j = j
  | [], j => rfl
  | t :: ts, j => by
    funext k
    simp only [List.map, mk]
    split
    · rename_i h; have := Nat.eq_of_beq_eq_true h; subst this; rfl
    · rw [mk_same ts j]
def grd (n : Nat) (ops : Array Oper) (e : Env) (o : Oper) (body : (Value → WT) → WT) (rest : Value → WT) : WT := match o.guard with
  | none => body rest
  | some (j, b) => match ops.toList[j]? with
    | some oj => match oj.dst with
      | some t => S.gd (ev n e (.tmp t)) b body rest
      | none => rest undef
    | none => rest undef
def opsW [Amb] (P : Program) (n : Nat) (ops : Array Oper) : List Nat → (Env → WT) → Env → WT
  | [], K, e => K e
  | i :: rest, K, e => match ops.toList[i]? with
    | none => opsW P n ops rest K e
    | some o => grd n ops e o (opK P (ev n e) o) (fun v => opsW P n ops rest K (upd n e o.dst v))
def isFlt (P : Program) (o : Oper) : Bool := match o.op with
  | .move _ | .assign _ | .pick _ _ _ | .load _ _ | .nilCheck _ | .unOp _ _ _ | .makeInterface _ _ | .makeFunc _ _ _ | .fieldAddr _ _ _ | .field _ _ _ | .indexAddr _ _ _ | .extract _ _ => true
  | .binOp _ t _ _ _ => match P.underlying t with | some (.int _) | some .string | some .bool => true | _ => false
  | .convert s d _ => match P.underlying s, P.underlying d with
    | some (.int _), some (.int _) | some .string, some .string => true
    | some (.slice el), some .string => match P.underlying el with | some (.int .u8) => true | _ => false
    | _, _ => false
  | .slice t _ _ _ _ => match P.underlying t with | some (.slice _) | some .string => true | _ => false
  | .index t _ _ => match P.underlying t with | some .string => true | _ => false
  | .lookup t _ _ _ => match P.underlying t with
    | some (.map k _) => match P.underlying k with | some (.int _) | some .string => true | _ => false
    | _ => false
  | .build t _ => match P.underlying t with | some (.array _ _) => true | _ => false
  | .call { callee := .builtin .len, .. } | .call { callee := .builtin .cap, .. } | .call { callee := .builtin .max, .. } | .call { callee := .builtin .min, .. } => true
  | _ => false
def isRd (P : Program) (o : Oper) : Bool := match o.op with
  | .load _ _ | .lookup _ _ _ _ => true
  | .convert s _ _ => match P.underlying s with | some (.slice _) => true | _ => false
  | .call { callee := .builtin .len, argTypes, .. } => match argTypes[0]? with
    | some t => match P.underlying t with | some (.map _ _) => true | _ => false
    | none => true
  | _ => false
def exemptN (ops : Array Oper) : Nat → Nat → Nat → Bool
  | 0, _, _ => false
  | f + 1, j, i => match ops.toList[j]? with
    | some o => o.after.toList.any fun ed => Region.binds .any ed && (Nat.beq ed.on i || exemptN ops f ed.on i)
    | none => false
def exempt (ops : Array Oper) (j i : Nat) : Bool := exemptN ops 10 j i
def rcks (facts : List WT) (W : WT) : WT := match facts with
  | [] => W
  | f :: fs => S.rck (f :: fs) W
def drawW [Amb] (P : Program) (n : Nat) (ops : Array Oper) : List Nat → List (Nat × WT) → (Env → WT) → Env → WT
  | [], _, K, e => K e
  | i :: rest, p, K, e => match ops.toList[i]? with
    | none => nope
    | some o => match isFlt P o with
      | true => grd n ops e o (opK P (ev n e) o) (fun v => drawW P n ops rest
          (match isRd P o with | true => (i, grd n ops e o (opK P (ev n e) o) (fun v' _ => v' = v)) :: p | false => p) K (upd n e o.dst v))
      | false => grd n ops e o (opK P (ev n e) o) (fun v =>
          rcks ((p.filter fun x => !exempt ops i x.1).map (·.2)) (drawW P n ops rest (p.filter fun x => !exempt ops i x.1) K (upd n e o.dst v)))
def stepW [Amb] (P : Program) (n : Nat) (ops : Array Oper) (i : Nat) (o : Oper) (p : List (Nat × WT)) (e : Env) (K : List (Nat × WT) → Env → WT) : WT :=
  grd n ops e o (opK P (ev n e) o) (fun v => rcks ((p.filter fun x => !exempt ops i x.1).map (·.2)) (K (p.filter fun x => !exempt ops i x.1) (upd n e o.dst v)))
def drawT [Amb] (P : Program) (n : Nat) (ops : Array Oper) : DT → List (Nat × WT) → (Env → WT) → Env → WT
  | .nil, _, K, e => K e
  | .one i t, p, K, e => match ops.toList[i]? with
    | none => nope
    | some o => match isFlt P o with
      | true => grd n ops e o (opK P (ev n e) o) (fun v => drawT P n ops t
          (match isRd P o with | true => (i, grd n ops e o (opK P (ev n e) o) (fun v' _ => v' = v)) :: p | false => p) K (upd n e o.dst v))
      | false => stepW P n ops i o p e fun p e => drawT P n ops t p K e
  | .two i t j u, p, K, e => match ops.toList[i]?, ops.toList[j]? with
    | some oi, some oj => fun w => stepW P n ops i oi p e (fun p e => drawT P n ops t p K e) w ∧ stepW P n ops j oj p e (fun p e => drawT P n ops u p K e) w
    | _, _ => nope
  | .three i t j u m v, p, K, e => match ops.toList[i]?, ops.toList[j]?, ops.toList[m]? with
    | some oi, some oj, some om => fun w => stepW P n ops i oi p e (fun p e => drawT P n ops t p K e) w ∧ stepW P n ops j oj p e (fun p e => drawT P n ops u p K e) w ∧ stepW P n ops m om p e (fun p e => drawT P n ops v p K e) w
    | _, _, _ => nope
  | .four i t j u m v q x, p, K, e => match ops.toList[i]?, ops.toList[j]?, ops.toList[m]?, ops.toList[q]? with
    | some oi, some oj, some om, some oq => fun w => stepW P n ops i oi p e (fun p e => drawT P n ops t p K e) w ∧ stepW P n ops j oj p e (fun p e => drawT P n ops u p K e) w ∧ stepW P n ops m om p e (fun p e => drawT P n ops v p K e) w ∧ stepW P n ops q oq p e (fun p e => drawT P n ops x p K e) w
    | _, _, _, _ => nope
def drawTOk (P : Program) (ops : Array Oper) : DT → Nat → Array Bool → Bool
  | .nil, k, listed => Nat.beq k 0 && (Region.ready .any ops listed).isEmpty
  | .one _ _, 0, _ => false
  | .one i t, k + 1, listed => match ops.toList[i]? with
    | none => false
    | some o => (match isFlt P o with
      | true => Region.free .any ops listed i && (Region.ready .any ops listed).contains i
      | false => Region.ready .any ops listed == [i]) && drawTOk P ops t k (listed.setIfInBounds i true)
  | .two _ _ _ _, 0, _ => false
  | .two i t j u, k + 1, listed => (Region.ready .any ops listed == [i, j]) && drawTOk P ops t k (listed.setIfInBounds i true) && drawTOk P ops u k (listed.setIfInBounds j true)
  | .three _ _ _ _ _ _, 0, _ => false
  | .three i t j u m v, k + 1, listed => (Region.ready .any ops listed == [i, j, m]) && drawTOk P ops t k (listed.setIfInBounds i true) && drawTOk P ops u k (listed.setIfInBounds j true) && drawTOk P ops v k (listed.setIfInBounds m true)
  | .four _ _ _ _ _ _ _ _, 0, _ => false
  | .four i t j u m v q x, k + 1, listed => (Region.ready .any ops listed == [i, j, m, q]) && drawTOk P ops t k (listed.setIfInBounds i true) && drawTOk P ops u k (listed.setIfInBounds j true) && drawTOk P ops v k (listed.setIfInBounds m true) && drawTOk P ops x k (listed.setIfInBounds q true)
def drawOk (P : Program) (ops : Array Oper) : List Nat → Array Bool → Bool
  | [], listed => (Region.ready .any ops listed).isEmpty
  | i :: rest, listed => match ops.toList[i]? with
    | none => false
    | some o => (match isFlt P o with
      | true => Region.free .any ops listed i && (Region.ready .any ops listed).contains i
      | false => Region.ready .any ops listed == [i]) && drawOk P ops rest (listed.setIfInBounds i true)
def MK : Nat := 1000000
def marksOf : Value → List Deferred
  | .tuple vs => vs.toList.filterMap fun | .int _ r => some { target := .collected r.toNat, args := #[] } | _ => none
  | _ => []
def addMark (v : Value) (r : Nat) : Value := match v with
  | .tuple vs => .tuple (#[.int .u64 r] ++ vs)
  | _ => .tuple #[.int .u64 r]
def updAll (n : Nat) (e : Env) : List Tmp → List Value → Env
  | t :: ts, v :: vs => updAll n (upd n e (some t) v) ts vs
  | _, _ => e
def setMK (e : Env) (mv : Value) : Env := fun k => match Nat.beq k MK with | true => mv | false => e k
inductive Md where
  | p
  | m
  | r (l : Nat)
  | q (ds : List Deferred) (kp : List (Nat × Value))
def Md.ds : Md → List Deferred
  | .q ds _ => ds
  | _ => []
def Md.kp : Md → List (Nat × Value)
  | .q _ kp => kp
  | _ => []
def Md.keeps (md : Md) (a : Act) : Prop := ∀ p ∈ md.kp, a.tmps.getD p.1 undef = p.2
def Md.free (md : Md) (d : Option Tmp) : Bool := match md with
  | .q _ kp => (match d with
    | some t => kp.all fun p => !(Nat.beq p.1 t)
    | none => true)
  | _ => true
def Md.okOps (md : Md) (ops : Array Oper) : Bool := match md with
  | .q _ _ => ops.toList.all fun o => md.free o.dst
  | _ => true
abbrev Md.amb (A : Amb) : Md → Amb
  | .m => noAmb
  | .r _ => noAmb
  | _ => A
def X.code : X → Option Code
  | .nrm => none
  | .ex i => some (.exit i)
  | .rt => some .ret
def Loop.like (L L' : Loop) : Prop := L'.fn = L.fn ∧ L'.tmps = L.tmps ∧ L'.params = L.params ∧ L'.assign = L.assign ∧ L'.body = L.body ∧ L'.defers = L.defers
def World.put (w : World) (b : Nat) (o : Obj) : World := { w with heap := w.heap.setIfInBounds b o }
def S.cvf (P : Program) (f : Value) (args : List Value) (K : Value → WT) : WT := match f with
  | .func (.func g) first captured => fun w => callOk P g = true ∧ CF P g (first.toList ++ args ++ captured.toList) K w
  | _ => nope
abbrev Round (np : Nat) := Nat → (WT → WT) → (X → WT) → Kn np
def exl {α : Type} (no : α) : List (Nat × α) → Nat → α
  | [], _ => no
  | (j, f) :: l, i => match Nat.beq i j with | true => f | false => exl no l i
def aft {α : Type} (no an rt : α) (exs : List (Nat × α)) : X → α
  | .nrm => an
  | .rt => rt
  | .ex i => exl no exs i
def begun (l : Nat) (L : Loop) (W : WT) : WT := fun w => ∃ L1, w.heap[l]? = some (.loop L1) ∧ Loop.like L L1 ∧ L1.state = .ready ∧ W (World.put w l (.loop { L1 with state := .busy }))
def ended (l : Nat) (L : Loop) (K : Value → WT) (j : X) : WT := fun w => ∃ L2, w.heap[l]? = some (.loop L2) ∧ Loop.like L L2 ∧
  K (.bool (match j with | .nrm => true | _ => false)) (World.put w l (.loop { L2 with state := (match j with | .nrm => .ready | _ => .done), pending := X.code j }))
def YieldOk (P : Program) (l : Nat) (L : Loop) (np : Nat) (Bd : Round np) : Prop :=
  ∀ (args : List Value) (K : Value → WT) (w : World), args.length = np → (∃ L1, w.heap[l]? = some (.loop L1) ∧ Loop.like L L1) →
    app np (Bd l (begun l L) (ended l L K)) args w → S.cvv P (.func (.yield l) #[] #[]) args K w
def over (l : Nat) (L : Loop) (after : X → WT) : WT := fun w => ∃ L3 j, w.heap[l]? = some (.loop L3) ∧ Loop.like L L3 ∧ L3.state ≠ .busy ∧ L3.pending = X.code j ∧
  after j (World.put w l (.loop { L3 with state := .exhausted }))
def S.rf (P : Program) (f mv : Value) (np : Nat) (Bd : Round np) (an rt : Value → WT) (exs : List (Nat × (Value → WT))) : WT := fun w =>
  ∀ (l dl : Nat) (L : Loop), dl = w.heap.size → l = w.heap.size + 1 → L.state = .ready → L.pending = none → YieldOk P l L np Bd →
    S.cvf P f [.func (.yield l) #[] #[]] (fun _ => over l L fun j => aft (fun _ => nope) an rt exs j (addMark mv dl)) { w with heap := (w.heap.push (.deferred (some []))).push (.loop L) }
def S.rfr (P : Program) (l0 : Nat) (f : Value) (np : Nat) (Bd : Round np) (an rt : WT) (exs : List (Nat × WT)) : WT := fun w =>
  ∃ L0, w.heap[l0]? = some (.loop L0) ∧
  ∀ (l : Nat) (L : Loop), l = w.heap.size → L.state = .ready → L.pending = none → YieldOk P l L np Bd →
    S.cvf P f [.func (.yield l) #[] #[]] (fun _ => over l L (aft nope an rt exs)) { w with heap := w.heap.push (.loop L) }
def swp [A : Amb] (P : Program) (n : Nat) : Code → Md → Ann → (X → Env → WT) → Env → WT
  | .skip, _, _, Q, e => Q .nrm e
  | .exit id, _, _, Q, e => Q (.ex id) e
  | .ret, _, _, Q, e => Q .rt e
  | .region _ ops d, md, a, Q, e => match md.okOps ops with
   | false => nope
   | true => match d with
    | false => @opsW (md.amb A) P n ops (List.range ops.size) (Q .nrm) e
    | true => match a with
      | .draw order => match Region.noSelect ops && P.follows .mixedOrders && Nat.beq order.length ops.size && drawOk P ops order (Array.replicate ops.size false) with
        | true => S.dr (@drawW (md.amb A) P n ops order [] (Q .nrm) e)
        | false => nope
      | .drawT len t => match Region.noSelect ops && P.follows .mixedOrders && Nat.beq len ops.size && drawTOk P ops t len (Array.replicate ops.size false) with
        | true => S.dr (@drawT (md.amb A) P n ops t [] (Q .nrm) e)
        | false => nope
      | _ => nope
  | .seq x y, md, a, Q, e => match a with
    | .seq a b => swp P n x md a (fun r => match r with | .nrm => swp P n y md b Q | r => Q r) e
    | .join live a b => S.join live.length (fun K => swp P n x md a (fun r => match r with | .nrm => fun e' => app live.length K (live.map e') | r => Q r) e)
        (lam live.length fun vs => S.fa fun j => swp P n y md b Q (mk live vs j))
    | _ => nope
  | .cond c x y, md, a, Q, e => match a with
    | .cond a b => S.cond (ev n e c) (swp P n x md a Q e) (swp P n y md b Q e)
    | _ => nope
  | .block id c, md, a, Q, e => match a with
    | .blk a => swp P n c md a (fun r => match r with | .ex i => (match Nat.beq i id with | true => Q .nrm | false => Q (.ex i)) | r => Q r) e
    | _ => nope
  | .loop c, md, a, Q, e => match a with
    | .loop live a => S.loop live.length (fun K => lam live.length fun vs => S.fa fun j => swp P n c md a (fun r => match r with | .nrm => fun e' => app live.length K (live.map e') | r => Q r) (mk live vs j)) (live.map e)
    | _ => nope
  | .rangeFunc f ps as bd, md, a, Q, e => match a with
    | .rf ids a b =>
      match md with
      | .m => S.rf P (ev n e f) (e MK) ps.size
          (fun l bro Kj => lam ps.size fun args => swp P n as (.r l) a (fun r => match r with | .nrm => fun e' => bro (swp P n bd (.r l) b (fun r _ => Kj r) e') | _ => fun _ => nope) (updAll n e ps.toList args))
          (fun mv => Q .nrm (setMK e mv))
          (fun mv => Q .rt (setMK e mv))
          (ids.map fun i => (i, fun mv => Q (.ex i) (setMK e mv)))
      | .r l0 => S.rfr P l0 (ev n e f) ps.size
          (fun l bro Kj => lam ps.size fun args => swp P n as (.r l) a (fun r => match r with | .nrm => fun e' => bro (swp P n bd (.r l) b (fun r _ => Kj r) e') | _ => fun _ => nope) (updAll n e ps.toList args))
          (Q .nrm e) (Q .rt e) (ids.map fun i => (i, Q (.ex i) e))
      | .p => nope
      | .q _ _ => nope
    | _ => nope
  | _, _, _, _, _ => nope
structure Rep (md : Md) (a : Act) (e : Env) (n : Nat) : Prop where
  size : a.tmps.size = n
  at_ : ∀ k, k < n → a.tmps.getD k undef = e k
  defers : match md with | .m => a.defers = marksOf (e MK) | md => a.defers = md.ds
  lt : n ≤ MK
  keep : md.keeps a
theorem Rep.evt {md : Md} {a : Act} {e : Env} {n : Nat} (h : Rep md a e n) (t : Nat) : a.tmps.getD t undef = ev n e (.tmp t) := by
  unfold ev
  simp only
  cases hb : Nat.blt t n with
  | true => exact h.at_ t (by simpa [Nat.blt_eq] using hb)
  | false =>
    have : ¬ t < n := by rw [← Bool.not_eq_true] at hb; simpa [Nat.blt_eq] using hb
    simp [Array.getD_eq_getD_getElem?, Array.getElem?_eq_none (by have := h.size; omega : a.tmps.size ≤ t)]
theorem Rep.eval {md : Md} {a : Act} {e : Env} {n : Nat} (h : Rep md a e n) : a.eval = ev n e := by
  funext x
  cases x <;> first | rfl | exact h.evt _
theorem keeps_put {md : Md} {a : Act} {d : Option Tmp} {v : Value} (h : md.keeps a) (hd : md.free d = true) : md.keeps (a.put d v) := fun p hp => by
  cases d with
  | none => exact h p hp
  | some t =>
    cases md with
    | q ds kp =>
      unfold Md.free at hd
      simp only [List.all_eq_true] at hd
      have h1 := hd p hp
      have hne : p.1 ≠ t := fun he => by rw [he] at h1; simp at h1
      rw [← h p hp]
      simp only [Act.put, Array.getD_eq_getD_getElem?, Array.getElem?_setIfInBounds, if_neg (Ne.symm hne)]
    | _ => cases hp
theorem Md.okOps_free {md : Md} {ops : Array Oper} (h : md.okOps ops = true) {i : Nat} {o : Oper} (ho : ops[i]? = some o) : md.free o.dst = true := by
  cases md with
  | q ds kp =>
    unfold Md.okOps at h
    simp only [List.all_eq_true] at h
    exact h o (List.mem_of_getElem? (by rw [Array.getElem?_toList]; exact ho))
  | _ => rfl
theorem Rep.put {md : Md} {a : Act} {e : Env} {n : Nat} (h : Rep md a e n) (d : Option Tmp) (v : Value) (hfr : md.free d = true := by first | rfl | assumption) : Rep md (a.put d v) (upd n e d v) n := by
  cases d with
  | none => exact h
  | some d =>
    by_cases hd : d < n
    · have hb : Nat.blt d n = true := by simpa [Nat.blt_eq] using hd
      have hlt := h.lt
      refine ⟨by simp [Act.put, h.size], fun k hk => ?_, ?_, h.lt, keeps_put h.keep hfr⟩
      · simp only [Act.put, upd, hb]
        by_cases hkd : k = d
        · subst hkd
          simp [Array.getD_eq_getD_getElem?, Array.getElem?_setIfInBounds, h.size, hd]
        · have hb : Nat.beq k d = false := by rw [← Bool.not_eq_true]; intro h; exact hkd (Nat.eq_of_beq_eq_true h)
          simp only [hb]
          rw [← h.at_ k hk]
          simp [Array.getD_eq_getD_getElem?, Array.getElem?_setIfInBounds, Ne.symm hkd]
      · have hne : Nat.beq MK d = false := by
          rw [← Bool.not_eq_true]; intro h
          have h1 : MK = d := Nat.eq_of_beq_eq_true h
          have h2 : MK < n := by rw [h1]; exact hd
          exact absurd h2 (Nat.not_lt.2 hlt)
        have hdf := h.defers
        cases md <;> simp only [Act.put, upd, hb, hne] at hdf ⊢ <;> exact hdf
    · have hb : Nat.blt d n = false := by rw [← Bool.not_eq_true]; simpa [Nat.blt_eq] using hd
      have : a.put (some d) v = a := by
        simp [Act.put, Array.setIfInBounds, h.size, hd]
      rw [this]
      simp only [upd, hb]
      exact h
theorem Rep.panics [Amb] {md : Md} {a : Act} {e : Env} {n : Nat} {Q : Exit → Act → World → Prop} (h : Rep md a e n) (hp : ∀ a c w, a.defers = md.ds → md.keeps a → Amb.ch c w → Q (.panic c) a w) (hmd : md = .p ∨ (∃ ds kp, md = .q ds kp) ∨ ∀ c w, ¬ Amb.ch c w) (c : List PanicEntry) (w : World) (hc : Amb.ch c w) : Q (.panic c) a w := by
  rcases hmd with rfl | ⟨ds, kp, rfl⟩ | hn
  · exact hp a c w h.defers h.keep hc
  · exact hp a c w h.defers h.keep hc
  · exact (hn c w hc).elim
theorem toList_get (ops : Array Oper) (i : Nat) : ops.toList[i]? = ops[i]? := by simp
theorem wanted_eq {ops : Array Oper} {md : Md} {a : Act} {e : Env} {n : Nat} {o : Oper} (hr : Rep md a e n) (j : Nat) (b : Bool) (hg : o.guard = some (j, b)) :
    Region.wanted o (yielded ops a.tmps) = (match (ops[j]?).bind (·.dst) with | some t => (match ev n e (.tmp t) with | .bool x => x == b | _ => false) | none => false) := by
  unfold Region.wanted yielded
  simp only [hg]
  cases hd : (ops[j]?).bind (·.dst) with
  | none => rfl
  | some t =>
    simp only [Option.bind_some]
    have := hr.evt t
    rw [Array.getD_eq_getD_getElem?] at this
    cases ht : a.tmps[t]? with
    | none => simp [ht] at this; rw [← this]; rfl
    | some v =>
      simp [ht] at this; rw [← this]
      cases v <;> first | rfl | (rename_i x; cases x <;> cases b <;> rfl)
theorem grd_cases {ops : Array Oper} {md : Md} {a : Act} {e : Env} {n : Nat} {o : Oper} (hr : Rep md a e n) {body : (Value → WT) → WT} {rest : Value → WT} {w : World} (h : grd n ops e o body rest w) :
    (Region.wanted o (yielded ops a.tmps) = true ∧ body rest w) ∨ (Region.wanted o (yielded ops a.tmps) = false ∧ rest undef w) := by
  unfold grd at h
  cases hg : o.guard with
  | none => simp only [hg] at h; exact .inl ⟨by unfold Region.wanted; simp [hg], h⟩
  | some jb =>
    obtain ⟨j, b⟩ := jb
    simp only [hg] at h
    rw [wanted_eq hr j b hg]
    rw [toList_get] at h
    cases hj : ops[j]? with
    | none => simp only [hj] at h; exact .inr ⟨rfl, h⟩
    | some oj =>
      simp only [hj] at h
      cases hd : oj.dst with
      | none => simp only [hd] at h; exact .inr ⟨by simp [hd], h⟩
      | some t =>
        simp only [hd] at h
        simp only [Option.bind_some, hd]
        unfold S.gd at h
        generalize ev n e (.tmp t) = v at h ⊢
        cases v <;> first
          | exact .inr ⟨rfl, h⟩
          | (rename_i x; cases x <;> cases b <;> first | exact .inl ⟨rfl, h⟩ | exact .inr ⟨rfl, h⟩)
def Fr (r : Option Nat) : Fence := { Fence.wide with round := r }
theorem ev_func (n : Nat) (e : Env) (f : FuncId) : ev n e (.func f) = .func (.func f) #[] #[] := rfl
theorem callsFr {r : Option Nat} {k : Nat} {P : Program} {f : FuncId} {args : Array Value} {w : World} {R : Ending → World → Prop} (h : Calls P f args w R) : CallsIn (Fr r) k P f args w R :=
  (callsIn_wide (n := k)).2 h
def notDefer (o : Oper) : Prop := ∀ c, o.op ≠ .defer c
theorem wpIn_of_gives [Amb] {P : Program} {r : Option Nat} {o : Oper} {a : Act} {K : Value → WT} {w : World} {next : Act → World → Prop} {Q : Exit → Act → World → Prop} (hnd : notDefer o)
    (hp : ∀ c w, Amb.ch c w → Q (.panic c) a w) (h : Gives P (execOp a.eval o) K w) (hk : ∀ v w, K v w → next (a.put o.dst v) w) : o.wpIn (Fr r) 0 P a w next Q := by
  refine ⟨fun _ _ => trivial, ?_⟩
  rw [Oper.semAt_eq _ _ _ hnd]
  unfold Gives at h
  split at h
  · rename_i hx; rw [hx]; exact hk _ _ h
  · rename_i hx; rw [hx]; exact hk _ _ h
  · rename_i hx; rw [hx, Oper.uponIn_enter]
    unfold CF at h
    refine ⟨fun h => by simp [Fr, Fence.wide] at h, callsFr (Calls.mono (by simpa using h) fun e w' h' => ?_)⟩
    cases e with
    | returned v => exact hk _ _ h'
    | panicked c => exact hp _ _ h'
    | outgrown => exact h'.elim
  · rename_i hx; rw [hx, Oper.uponIn_round]
    refine ⟨fun h => by simp [Fr, Fence.wide] at h, ?_⟩
    have h2 : RoundIn (Fr r) 0 P _ _ _ _ _ _ _ := h
    refine RoundIn.mono h2 fun e w' h' => ?_
    cases e with
    | returned v => exact hk _ _ h'
    | panicked c => exact h'.elim
    | outgrown => exact h'.elim
  · rename_i hx; rw [hx, Oper.uponIn_panic]; exact hp _ _ ⟨_, rfl, h⟩
  · exact h.elim
theorem opK_notDefer [Amb] {P : Program} {ρ : Operand → Value} {o : Oper} {K : Value → WT} {w : World} (h : opK P ρ o K w) : notDefer o := fun c hc => by
  unfold opK at h; rw [hc] at h; exact h
theorem opsW_sound [Amb] {P : Program} {md : Md} {r : Option Nat} {n : Nat} {ops : Array Oper} {K : Env → WT} {Q : Exit → Act → World → Prop}
    (hp : ∀ a c w, a.defers = md.ds → md.keeps a → Amb.ch c w → Q (.panic c) a w) (hmd : md = .p ∨ (∃ ds kp, md = .q ds kp) ∨ ∀ c w, ¬ Amb.ch c w) (hok : md.okOps ops = true) (hK : ∀ a e w, Rep md a e n → K e w → Q .normal a w) : ∀ (l : List Nat) (a : Act) (e : Env) (w : World), Rep md a e n → opsW P n ops l K e w → wpOpsIn (Fr r) 0 P ops Q l a w
  | [], a, e, w, hr, h => hK a e w hr h
  | i :: rest, a, e, w, hr, h => by
    unfold opsW at h
    rw [toList_get] at h
    unfold wpOpsIn
    cases ho : ops[i]? with
    | none => simp only [ho] at h ⊢; exact opsW_sound hp hmd hok hK rest a e w hr h
    | some o =>
      simp only [ho] at h ⊢
      rcases grd_cases hr h with ⟨hw, h⟩ | ⟨hw, h⟩
      · rw [if_pos hw]
        refine wpIn_of_gives (opK_notDefer h) (hr.panics hp hmd) ?_ fun v w h => opsW_sound hp hmd hok hK rest _ _ w (hr.put _ _ (Md.okOps_free hok ho)) h
        rw [hr.eval]; exact opK_sound (ev_func n e) h
      · rw [if_neg (by simp [hw])]
        exact ⟨fun _ _ => trivial, opsW_sound hp hmd hok hK rest _ _ w (hr.put _ _ (Md.okOps_free hok ho)) h⟩
end Go.SL
namespace Go.SL
open Go.RowKit
variable {P : Program} {ρ : Operand → Value} {K : Value → WT} {w : World}
def Pure (f : (Value → WT) → WT) : Prop := ∀ K w, f K w → ∃ v, K v w ∧ ∀ K' w', K' v w' → f K' w'
def Local (f : (Value → WT) → WT) : Prop := ∀ K w, f K w → ∃ v, K v w ∧ ∀ K', K' v w → f K' w
theorem Pure.local {f : (Value → WT) → WT} (h : Pure f) : Local f := fun K w hk => let ⟨v, h1, h2⟩ := h K w hk; ⟨v, h1, fun K' => h2 K' w⟩
theorem pure_nope : Pure fun _ => nope := fun _ _ h => h.elim
theorem pure_val (v : Value) : Pure fun K => K v := fun _ _ h => ⟨v, h, fun _ _ h => h⟩
theorem pure_pick (c a b : Value) : Pure (S.pick c a b) := fun K w h => by
  cases c <;> first | exact h.elim | exact ⟨_, h, fun _ _ h => h⟩
theorem pure_nc (x : Value) : Pure (S.nc x) := fun K w h => by
  cases x with
  | pointer a => cases a <;> first | exact h.elim | exact ⟨_, h, fun _ _ h => h⟩
  | func fn first captured => cases fn <;> first | exact h.elim | exact ⟨_, h, fun _ _ h => h⟩
  | _ => first | exact h.elim | exact ⟨_, h, fun _ _ h => h⟩
theorem pure_fad (x : Value) (off : Nat) : Pure (S.fad x off) := fun K w h => by
  cases x with
  | pointer a => cases a <;> first | exact h.elim | exact ⟨_, h, fun _ _ h => h⟩
  | _ => exact h.elim
theorem pure_ixS (sz : Nat) (x i : Value) : Pure (S.ixS sz x i) := fun K w h => by
  cases x with
  | slice a l c => cases a with
    | none => exact h.elim
    | some a => cases i <;> first | exact h.elim | exact ⟨_, h.2.2, fun _ _ h' => ⟨h.1, h.2.1, h'⟩⟩
  | _ => exact h.elim
theorem pure_ixA (len sz : Nat) (x i : Value) : Pure (S.ixA len sz x i) := fun K w h => by
  cases x with
  | pointer a => cases a with
    | none => exact h.elim
    | some a => cases i <;> first | exact h.elim | exact ⟨_, h.2.2, fun _ _ h' => ⟨h.1, h.2.1, h'⟩⟩
  | _ => exact h.elim
theorem pure_chr (x i : Value) : Pure (S.chr x i) := fun K w h => by
  cases x with
  | string s => cases i with
    | int k n => exact let ⟨h0, b, hb, hk⟩ := h; ⟨_, hk, fun _ _ h' => ⟨h0, b, hb, h'⟩⟩
    | _ => exact h.elim
  | _ => exact h.elim
theorem pure_prt (agg : Bool) (off n : Nat) (x : Value) : Pure (S.prt agg off n x) := fun K w h => by
  cases x with
  | agg cs =>
    cases agg with
    | true => exact ⟨_, h, fun _ _ h => h⟩
    | false =>
      simp only [S.prt] at h ⊢
      cases hc : cs[off]? with
      | none => simp only [hc] at h
      | some v => simp only [hc] at h ⊢; exact ⟨v, h, fun _ _ h => h⟩
  | _ => exact h.elim
theorem pure_ext (x : Value) (i : Nat) : Pure (S.ext x i) := fun K w h => by
  cases x with
  | tuple cs =>
    simp only [S.ext] at h ⊢
    cases hc : cs[i]? with
    | none => simp only [hc] at h
    | some v => simp only [hc] at h ⊢; exact ⟨v, h, fun _ _ h => h⟩
  | _ => exact h.elim
theorem pure_bin (op : BinOp) (x y : Value) : Pure (S.bin op x y) := fun K w h => by
  cases x with
  | int k a => cases y with
    | int k' b =>
      obtain ⟨rfl, h⟩ := h
      cases op <;> first
        | exact h.elim
        | exact ⟨_, h, fun _ _ h => ⟨rfl, h⟩⟩
        | exact ⟨_, h.2, fun _ _ h' => ⟨rfl, h.1, h'⟩⟩
    | _ => exact h.elim
  | _ => exact h.elim
theorem pure_sh (op : BinOp) (x y : Value) : Pure (S.sh op x y) := fun K w h => by
  cases x with
  | int k a => cases y with
    | int k' b =>
      obtain ⟨h0, h⟩ := h
      cases op <;> first
        | exact h.elim
        | exact ⟨_, h, fun _ _ h => ⟨h0, h⟩⟩
    | _ => exact h.elim
  | _ => exact h.elim
theorem pure_sbin (op : BinOp) (x y : Value) : Pure (S.sbin op x y) := fun K w h => by
  cases x with
  | string a => cases y with
    | string b =>
      cases op <;> first
        | exact h.elim
        | exact ⟨_, h, fun _ _ h => h⟩
        | exact ⟨_, h.2, fun _ _ h' => ⟨h.1, h'⟩⟩
    | _ => exact h.elim
  | _ => exact h.elim
theorem pure_beq (op : BinOp) (x y : Value) : Pure (S.beq op x y) := fun K w h => by
  cases x with
  | bool a => cases y with
    | bool b =>
      cases op <;> first
        | exact h.elim
        | exact ⟨_, h, fun _ _ h => h⟩
    | _ => exact h.elim
  | _ => exact h.elim
theorem pure_neg1 (x : Value) : Pure (S.neg1 x) := fun K w h => by cases x <;> first | exact h.elim | exact ⟨_, h, fun _ _ h => h⟩
theorem pure_com1 (x : Value) : Pure (S.com1 x) := fun K w h => by cases x <;> first | exact h.elim | exact ⟨_, h, fun _ _ h => h⟩
theorem pure_not1 (x : Value) : Pure (S.not1 x) := fun K w h => by cases x <;> first | exact h.elim | exact ⟨_, h, fun _ _ h => h⟩
theorem pure_cvt (k : IntKind) (x : Value) : Pure (S.cvt k x) := fun K w h => by cases x <;> first | exact h.elim | exact ⟨_, h, fun _ _ h => h⟩
theorem pure_str1 (x : Value) : Pure (S.str1 x) := fun K w h => by cases x <;> first | exact h.elim | exact ⟨_, h, fun _ _ h => h⟩
theorem pure_lenS (x : Value) : Pure (S.lenS x) := fun K w h => by cases x <;> first | exact h.elim | exact ⟨_, h, fun _ _ h => h⟩
theorem pure_len (x : Value) : Pure (S.len x) := fun K w h => by cases x <;> first | exact h.elim | exact ⟨_, h, fun _ _ h => h⟩
theorem pure_cap (x : Value) : Pure (S.cap x) := fun K w h => by cases x <;> first | exact h.elim | exact ⟨_, h, fun _ _ h => h⟩
theorem pure_mx (x y : Value) : Pure (S.mx x y) := fun K w h => by
  cases x <;> first | exact h.elim | (cases y <;> first | exact h.elim | exact ⟨_, h, fun _ _ h => h⟩)
theorem pure_mn (x y : Value) : Pure (S.mn x y) := fun K w h => by
  cases x <;> first | exact h.elim | (cases y <;> first | exact h.elim | exact ⟨_, h, fun _ _ h => h⟩)
theorem pure_mx3 (x y z : Value) : Pure (fun K => S.mx x y fun m => S.mx m z K) := fun K w h => by
  cases x <;> first | exact h.elim | (cases y <;> first | exact h.elim | (cases z <;> first | exact h.elim | exact ⟨_, h, fun _ _ h => h⟩))
theorem pure_mn3 (x y z : Value) : Pure (fun K => S.mn x y fun m => S.mn m z K) := fun K w h => by
  cases x <;> first | exact h.elim | (cases y <;> first | exact h.elim | (cases z <;> first | exact h.elim | exact ⟨_, h, fun _ _ h => h⟩))
theorem pure_slc (sz : Nat) (x : Value) (lo hi mx : Option Value) : Pure (S.slc sz x lo hi mx) := fun K w h => by
  cases x with
  | slice a l c =>
    obtain ⟨i, j, m, h1, h2, h3, h4, h5, h6, h7, hk⟩ := h
    exact ⟨_, hk, fun _ _ h' => ⟨i, j, m, h1, h2, h3, h4, h5, h6, h7, h'⟩⟩
  | _ => exact h.elim
theorem pure_slcS (x : Value) (lo hi : Option Value) : Pure (S.slcS x lo hi) := fun K w h => by
  cases x with
  | string s =>
    obtain ⟨i, j, h1, h2, h3, h4, hk⟩ := h
    exact ⟨_, hk, fun _ _ h' => ⟨i, j, h1, h2, h3, h4, h'⟩⟩
  | _ => exact h.elim
theorem local_ld (a : Value) : Local (S.ld a) := fun K w h => by
  cases a with
  | pointer a => cases a with
    | none => exact h.elim
    | some a =>
      simp only [S.ld] at h ⊢
      cases hc : w.cell? a with
      | none => simp only [hc] at h
      | some v => simp only [hc] at h ⊢; exact ⟨v, h, fun _ h => h⟩
  | _ => exact h.elim
theorem local_ldN (n : Nat) (a : Value) : Local (S.ldN n a) := fun K w h => by
  cases a with
  | pointer a => cases a with
    | none => exact h.elim
    | some a =>
      simp only [S.ldN] at h ⊢
      cases hc : cellsFrom w a 0 n with
      | none => simp only [hc] at h
      | some v => simp only [hc] at h ⊢; exact ⟨_, h, fun _ h => h⟩
  | _ => exact h.elim
theorem local_lenM (x : Value) : Local (S.lenM x) := fun K w h => by
  cases x with
  | map r => cases r with
    | none => exact ⟨_, h, fun _ h => h⟩
    | some r =>
      simp only [S.lenM] at h ⊢
      cases hr : w.heap[r]? with
      | none => simp only [hr] at h
      | some o => cases o <;> simp only [hr] at h ⊢ <;> exact ⟨_, h, fun _ h => h⟩
  | _ => exact h.elim
theorem local_b2s (x : Value) : Local (S.b2s x) := fun K w h => by
  cases x with
  | slice a l c => cases a with
    | none => exact ⟨_, h, fun _ h => h⟩
    | some a =>
      simp only [S.b2s] at h ⊢
      cases hc : cellsFrom w a 0 l with
      | none => simp only [hc] at h
      | some cs =>
        simp only [hc] at h ⊢
        cases hb : S.bytesOf cs .empty with
        | none => simp only [hb] at h
        | some s => simp only [hb] at h ⊢; exact ⟨_, h, fun _ h => h⟩
  | _ => exact h.elim
theorem local_lk (kd : TypeDesc) (z : Value) (ok : Bool) (m k : Value) : Local (S.lk kd z ok m k) := fun K w h => by
  cases m with
  | map r => cases r with
    | none => exact ⟨_, h, fun _ h => h⟩
    | some r =>
      simp only [S.lk] at h ⊢
      cases hr : w.heap[r]? with
      | none => simp only [hr] at h
      | some o =>
        cases o <;> simp only [hr] at h ⊢
        rename_i es cl
        cases hf : Instr.findNow kd k es.toList 0 with
        | none => simp only [hf] at h
        | some r => cases r <;> simp only [hf] at h ⊢ <;> exact ⟨_, h, fun _ h => h⟩
  | _ => exact h.elim
def RO (P : Program) {α : Type} (s : Sem α) : Prop := (∃ v, ∀ w, s.run P w = .ok v w) ∨ ∀ w, ∃ h w', s.run P w = .halt h w'
theorem RO.ret {α : Type} (a : α) : RO P (Pure.pure a : Sem α) := .inl ⟨a, fun _ => rfl⟩
theorem RO.bind {α β : Type} {s : Sem α} {f : α → Sem β} (h : RO P s) (hf : ∀ a, RO P (f a)) : RO P (s >>= f) := by
  rcases h with ⟨v, h⟩ | h
  · rcases hf v with ⟨u, h2⟩ | h2
    · exact .inl ⟨u, fun w => by rw [run_bind, h]; exact h2 w⟩
    · exact .inr fun w => by rw [run_bind, h]; exact h2 w
  · exact .inr fun w => by
      obtain ⟨x, w', h⟩ := h w
      exact ⟨x, w', by rw [run_bind, h]⟩
theorem RO.stuck {α : Type} (x : String) : RO P (Go.stuck x : Sem α) := .inr fun w => ⟨_, _, rfl⟩
theorem RO.unsup {α : Type} (x : Unsupported) : RO P (Go.unsupported x : Sem α) := .inr fun w => ⟨_, _, rfl⟩
theorem RO.program : RO P Go.program := .inl ⟨P, fun _ => rfl⟩
theorem RO.info (t : TypeId) : RO P (typeInfo t) := .bind .program fun p => by
  cases p.info? t <;> first | exact .stuck _ | exact .ret _
theorem RO.zero (t : TypeId) : RO P (zeroValue t) := .bind (.info t) fun i => by
  cases i.zero <;> first | exact .unsup _ | exact .ret _
theorem RO.size (t : TypeId) : RO P (sizeOf t) := .bind (.info t) fun i => .ret _
theorem RO.buildA {t el : TypeId} {n : Nat} (hu : P.underlying t = some (.array n el)) (ps : Array (Nat × Value)) : RO P (Instr.build t ps) := by
  unfold Instr.build
  refine .bind (.zero t) fun z => ?_
  have hud : ∀ w, (underlying t).run P w = .ok (.array n el) w := fun w => run_underlying' hu
  have key : RO P (do
      let size ← sizeOf el
      let some cells := Instr.fill (fun i => some (i * size, size)) z.cells ps.toList | Go.stuck "build: a part of the wrong size"
      pure (Value.agg cells) : Sem Value) := .bind (.size el) fun m => by
    cases Instr.fill (fun i => some (i * m, m)) z.cells ps.toList <;> first | exact .stuck _ | exact .ret _
  rcases key with ⟨v, h⟩ | h
  · exact .inl ⟨v, fun w => by rw [run_bind, hud]; exact h w⟩
  · exact .inr fun w => by rw [run_bind, hud]; exact h w
theorem RO.V {s : Sem Value} (h : RO P s) : Go.SL.Pure (Go.SL.V P s) := fun K w hk => by
  rcases h with ⟨v, h⟩ | h
  · unfold Go.SL.V at hk ⊢
    rw [h w] at hk
    exact ⟨v, hk, fun K' w' hk' => by rw [h w']; exact hk'⟩
  · obtain ⟨x, w', h⟩ := h w
    unfold Go.SL.V at hk
    rw [h] at hk; exact hk.elim
theorem flt_both [Amb] {o : Oper} (hf : isFlt P o = true) : Local (opK P ρ o) ∧ (isRd P o = false → Pure (opK P ρ o)) := by
  have both : ∀ {f : (Value → WT) → WT}, Pure f → Local f ∧ (isRd P o = false → Pure f) := fun h => ⟨h.local, fun _ => h⟩
  show Local (fun K => opK P ρ o K) ∧ (isRd P o = false → Pure fun K => opK P ρ o K)
  cases hop : o.op <;> simp only [isFlt, hop] at hf <;> (try (cases hf; done)) <;> simp only [opK, hop]
  case move x => exact both (pure_val _)
  case assign x => exact both (pure_val _)
  case pick c a b => exact both (pure_pick _ _ _)
  case build t ps =>
    cases hu : P.underlying t with
    | none => simp [hu] at hf
    | some d =>
      simp only [hu] at hf
      cases d <;> simp only at hf <;> try (cases hf; done)
      exact both (RO.buildA hu _).V
  case load t a =>
    refine ⟨?_, fun h => by simp [isRd, hop] at h⟩
    cases P.info? t with
    | none => exact pure_nope.local
    | some i =>
      simp only
      cases P.underlying t with
      | none => exact pure_nope.local
      | some d => cases d <;> first | exact local_ld _ | exact local_ldN _ _
  case nilCheck x => exact both (pure_nc _)
  case binOp op t x y yt =>
    cases hu : P.underlying t with
    | none => simp [hu] at hf
    | some d =>
      simp only [hu] at hf
      cases d <;> simp only at hf <;> try (cases hf; done)
      · exact both (pure_beq _ _ _)
      · cases op <;> first | exact both (pure_sh _ _ _) | exact both (pure_bin _ _ _)
      · exact both (pure_sbin _ _ _)
  case unOp op t x => cases op <;> first | exact both pure_nope | exact both (pure_neg1 _) | exact both (pure_com1 _) | exact both (pure_not1 _)
  case convert s d x =>
    cases hs : P.underlying s with
    | none => simp [hs] at hf
    | some ds =>
      cases hd : P.underlying d with
      | none => simp [hs, hd] at hf
      | some dd =>
        simp only [hs, hd] at hf
        cases ds <;> cases dd <;> simp only at hf <;> try (cases hf; done)
        · exact both (pure_cvt _ _)
        · exact both (pure_str1 _)
        · rename_i el
          refine ⟨?_, fun h => by simp [isRd, hop, hs] at h⟩
          simp only
          cases hel : P.underlying el with
          | none => simp [hel] at hf
          | some de =>
            simp only [hel] at hf
            cases de <;> (try simp only at hf) <;> try (cases hf; done)
            rename_i k
            cases k <;> (try simp only at hf) <;> try (cases hf; done)
            exact local_b2s _
  case makeInterface t x =>
    cases P.underlying t with
    | none => exact both pure_nope
    | some d => cases d <;> first | exact both pure_nope | exact both (pure_val _)
  case makeFunc fn f c => exact both (pure_val _)
  case slice t x lo hi mx =>
    cases hu : P.underlying t with
    | none => simp [hu] at hf
    | some d =>
      simp only [hu] at hf
      cases d <;> simp only at hf <;> try (cases hf; done)
      · cases mx with
        | none => exact both (pure_slcS _ _ _)
        | some _ => exact both pure_nope
      · rename_i el
        simp only
        cases P.info? el with
        | none => exact both pure_nope
        | some i => exact both (pure_slc _ _ _ _ _)
  case fieldAddr s x f =>
    cases P.underlying s with
    | none => exact both pure_nope
    | some d =>
      cases d <;> simp only <;> try exact both pure_nope
      rename_i fs
      cases fs[f]? with
      | none => exact both pure_nope
      | some fd =>
        simp only
        cases P.info? fd.type with
        | none => exact both pure_nope
        | some i => simp only; cases i.size <;> first | exact both pure_nope | exact both (pure_fad _ _)
  case field t x f =>
    cases P.underlying t with
    | none => exact both pure_nope
    | some d =>
      cases d <;> simp only <;> try exact both pure_nope
      rename_i fs
      cases fs[f]? with
      | none => exact both pure_nope
      | some fd =>
        simp only
        cases P.info? fd.type with
        | none => exact both pure_nope
        | some i =>
          simp only
          cases P.underlying fd.type with
          | none => exact both pure_nope
          | some d => cases d <;> exact both (pure_prt _ _ _ _)
  case indexAddr t x i =>
    cases P.underlying t with
    | none => exact both pure_nope
    | some d =>
      cases d <;> simp only <;> (try exact both pure_nope)
      all_goals
        rename_i el
        cases P.info? el with
        | none => exact both pure_nope
        | some i => first | exact both (pure_ixS _ _ _) | exact both (pure_ixA _ _ _ _)
  case index t x i =>
    cases hu : P.underlying t with
    | none => simp [hu] at hf
    | some d =>
      simp only [hu] at hf
      cases d <;> simp only at hf <;> try (cases hf; done)
      exact both (pure_chr _ _)
  case lookup t x i ok =>
    refine ⟨?_, fun h => by simp [isRd, hop] at h⟩
    cases hu : P.underlying t with
    | none => simp [hu] at hf
    | some d =>
      simp only [hu] at hf
      cases d <;> simp only at hf <;> try (cases hf; done)
      rename_i kt el
      simp only
      cases hk : P.underlying kt with
      | none => simp [hk] at hf
      | some dk =>
        simp only [hk] at hf
        cases dk <;> simp only at hf <;> try (cases hf; done)
        all_goals
          simp only
          cases hi : P.info? el with
          | none => exact pure_nope.local
          | some j => obtain ⟨_, _, _, _, _, _, _, z, _, _⟩ := j; cases z <;> first | exact pure_nope.local | exact local_lk _ _ _ _ _
  case extract t i => exact both (pure_ext _ _)
  case call c =>
    obtain ⟨cal, args, ts⟩ := c
    cases cal with
    | value x => simp at hf
    | invoke r n => simp at hf
    | builtin b =>
      simp only
      cases b <;> simp only at hf <;> try (cases hf; done)
      all_goals simp only [bi]
      · match (args.toList.map ρ) with
        | [] => exact both pure_nope
        | [x] =>
          simp only
          cases ht : ts[0]? with
          | none => exact both pure_nope
          | some t =>
            simp only
            cases hu : P.underlying t with
            | none => exact both pure_nope
            | some d => cases d <;> first | exact both pure_nope | exact both (pure_cap _)
        | _ :: _ :: _ => exact both pure_nope
      · match (args.toList.map ρ) with
        | [] => exact both pure_nope
        | [x] =>
          simp only
          cases ht : ts[0]? with
          | none => exact both pure_nope
          | some t =>
            simp only
            cases hu : P.underlying t with
            | none => exact both pure_nope
            | some d =>
              cases d <;> first
                | exact both pure_nope | exact both (pure_len _) | exact both (pure_lenS _)
                | exact ⟨local_lenM _, fun h => by simp [isRd, hop, ht, hu] at h⟩
        | _ :: _ :: _ => exact both pure_nope
      · match (args.toList.map ρ) with
        | [x, y] => exact both (pure_mx _ _)
        | [x, y, z] => exact both (pure_mx3 _ _ _)
        | [] => exact both pure_nope
        | [_] => exact both pure_nope
        | _ :: _ :: _ :: _ :: _ => exact both pure_nope
      · match (args.toList.map ρ) with
        | [x, y] => exact both (pure_mn _ _)
        | [x, y, z] => exact both (pure_mn3 _ _ _)
        | [] => exact both pure_nope
        | [_] => exact both pure_nope
        | _ :: _ :: _ :: _ :: _ => exact both pure_nope
theorem flt_valuey {o : Oper} (hf : isFlt P o = true) (ρ : Operand → Value) (w : World) : match (execOp ρ o).run P w with | .ok (.value _) _ => True | .ok _ _ => False | .halt _ _ => True := by
  have val : ∀ (s : Sem Value), match (do pure (.value (← s)) : Sem Next).run P w with | .ok (.value _) _ => True | .ok _ _ => False | .halt _ _ => True := fun s => by
    rw [run_bind]; cases s.run P w <;> simp [run_pure]
  unfold execOp
  cases hop : o.op <;> simp only [isFlt, hop] at hf <;> (try (cases hf; done)) <;> simp only [run_pure] <;> try exact val _
  case pick c a b => rw [run_bind]; cases (asBool (ρ c)).run P w <;> simp [run_pure]
  case makeFunc fn f c => trivial
  case nilCheck x =>
    have hp : match (runtimePanic .nilDeref : Sem Next).run P w with | .ok (.value _) _ => True | .ok _ _ => False | .halt _ _ => True := by
      unfold runtimePanic; simp [run_bind, program, Sem.run, goPanic]
    generalize ρ x = vx
    cases vx with
    | pointer a => cases a <;> first | exact hp | simp [run_pure]
    | nilIface => exact hp
    | nilFunc => exact hp
    | func fn f c =>
      cases fn with
      | method name =>
        simp only
        generalize f[0]? = g
        cases g with
        | none => simp [run_pure]
        | some v =>
          cases v with
          | nilIface => exact hp
          | iface t u =>
            simp only
            rw [run_bind]
            simp only [program, Sem.run]
            rw [run_bind]
            cases Sem.run P _ w with
            | halt h w' => simp
            | ok a w' => simp only; cases hb : (a != some false) <;> simp [run_pure, unsupported, Sem.run, run_bind]
          | _ => simp [run_pure]
      | _ => simp [run_pure]
    | _ => simp [run_pure]
  case call c =>
    obtain ⟨cal, args, ts⟩ := c
    cases cal with
    | value x => simp at hf
    | invoke r n => simp at hf
    | builtin b =>
      simp only [resolve]
      rw [run_bind, run_pure]
      cases b <;> simp only at hf <;> try (cases hf; done)
      all_goals exact val _
end Go.SL
namespace Go.SL
open Go.RowKit
variable {P : Program} {e : Env} {w : World}
theorem flt_amb {A A' : Amb} {ρ : Operand → Value} {o : Oper} {K : Value → WT} (hf : isFlt P o = true) (h : @opK A P ρ o K w) : @opK A' P ρ o K w := by
  unfold isFlt at hf
  unfold opK at h ⊢
  cases hop : o.op
  case call c =>
    rw [hop] at hf
    simp only [hop] at h ⊢
    obtain ⟨cal, args, ts⟩ := c
    cases cal with
    | value x => simp at hf
    | invoke r n => simp at hf
    | builtin b => exact h
  all_goals
    simp only [hop] at hf h ⊢
    first | exact h | (cases hf; done)
theorem flt_run [Amb] {n : Nat} {o : Oper} (hf : isFlt P o = true) {v : Value} (h : opK P (ev n e) o (fun v' w' => v' = v ∧ w' = w) w) : (execOp (ev n e) o).run P w = .ok (.value v) w := by
  have hg := @opK_sound _ _ _ _ noAmb _ (ev_func n e) (flt_amb (A' := noAmb) hf h)
  have hv := flt_valuey hf (ev n e) w
  unfold Gives at hg
  cases hr : (execOp (ev n e) o).run P w with
  | halt x w' =>
    simp only [hr] at hg
    cases x <;> exact hg.elim
  | ok n w' =>
    simp only [hr] at hg hv
    cases n <;> simp only at hg hv
    obtain ⟨rfl, rfl⟩ := hg
    rfl
def wpOpX [Amb] (P : Program) (ops : Array Oper) (i : Nat) (K : Act → World → Prop) (a : Act) (w : World) : Prop := match ops[i]? with
  | none => K a w
  | some o => if Region.wanted o (yielded ops a.tmps) then notDefer o ∧ Gives P (execOp a.eval o) (fun v => K (a.put o.dst v)) w else K (a.put o.dst undef) w
theorem wpOpX_mono [Amb] {ops : Array Oper} {i : Nat} {a : Act} {K K' : Act → World → Prop} (h : ∀ a w, K a w → K' a w) (hx : wpOpX P ops i K a w) : wpOpX P ops i K' a w := by
  unfold wpOpX at *
  split at hx
  · exact h _ _ hx
  · split at hx
    · rename_i hw; rw [if_pos hw]; exact ⟨hx.1, gives_mono hx.2 fun v w => h _ _⟩
    · rename_i hw; rw [if_neg hw]; exact h _ _ hx
theorem value_notDefer {ρ : Operand → Value} {o : Oper} {v : Value} {w' : World} (h : (execOp ρ o).run P w = .ok (.value v) w') : notDefer o := fun c hc => by
  unfold execOp at h
  simp only [hc] at h
  rw [run_bind] at h
  cases hr : (resolve ρ c o.type).run P w <;> simp [hr, run_pure] at h
def wpAnyP [Amb] (P : Program) (ops : Array Oper) (Qn : Act → World → Prop) : Nat → List (Nat × WT) → Array Bool → Act → World → Prop
  | 0, _, listed, a, w => Region.ready .any ops listed = [] ∧ Qn a w
  | fuel + 1, p, listed, a, w =>
    (Region.ready .any ops listed = [] → Qn a w) ∧
    ∀ i ∈ Region.ready .any ops listed, wpOpX P ops i (fun a' w' => (∀ x ∈ p.filter (fun x => !exempt ops i x.1), x.2 w') ∧
      wpAnyP P ops Qn fuel (p.filter fun x => !exempt ops i x.1) (listed.setIfInBounds i true) a' w') a w
theorem put_defers (a : Act) (d : Option Tmp) (v : Value) : (a.put d v).defers = a.defers := by cases d <;> rfl
theorem wpAny_of_P [Amb] {r : Option Nat} {ops : Array Oper} {Q : Exit → Act → World → Prop} {ds : List Deferred} {md : Md} (hok : md.okOps ops = true) (hp : ∀ a c w, a.defers = ds → md.keeps a → Amb.ch c w → Q (.panic c) a w) : ∀ (fuel : Nat) (p : List (Nat × WT)) (listed : Array Bool) (a : Act) (w : World), a.defers = ds → md.keeps a →
    wpAnyP P ops (Q .normal) fuel p listed a w → wpAnyIn (Fr r) 0 P .any ops Q fuel listed a w
  | 0, _, _, _, _, _, _, h => h
  | fuel + 1, p, listed, a, w, hd, hkp, h => ⟨h.1, fun i hi => by
    have hx := h.2 i hi
    unfold wpOpX at hx
    unfold wpOpIn
    cases ho : ops[i]? with
    | none => simp only [ho] at hx ⊢; exact wpAny_of_P hok hp fuel _ _ _ _ hd hkp hx.2
    | some o =>
      simp only [ho] at hx ⊢
      split at hx
      · rename_i hw
        rw [if_pos hw]
        exact wpIn_of_gives hx.1 (fun c w h => hp a c w hd hkp h) hx.2 fun v w h => wpAny_of_P hok hp fuel _ _ _ _ (by rw [put_defers]; exact hd) (keeps_put hkp (Md.okOps_free hok ho)) h.2
      · rename_i hw
        rw [if_neg hw]
        exact ⟨fun _ _ => trivial, wpAny_of_P hok hp fuel _ _ _ _ (by rw [put_defers]; exact hd) (keeps_put hkp (Md.okOps_free hok ho)) hx.2⟩⟩
theorem yields_wpOpX [Amb] {ops : Array Oper} {S : WT} {i : Nat} {o : Oper} {v : Value} {a : Act} (hi : ops[i]? = some o) (hy : YieldsIf P ops S o v a) {K : Act → World → Prop} (hS : S w) (h : K (a.put o.dst v) w) :
    wpOpX P ops i K a w := by
  unfold wpOpX
  simp only [hi]
  rcases hy with ⟨hw, hv⟩ | ⟨hw, rfl⟩
  · rw [if_pos hw]; refine ⟨value_notDefer (hv w hS), ?_⟩; unfold Gives; rw [hv w hS]; exact h
  · rw [if_neg (by simp [hw])]; exact h
theorem wpOpX_put [Amb] {ops : Array Oper} {S : WT} {j : Nat} {oi oj : Oper} {v : Value} (hj : ops[j]? = some oj) (hap : oi.apart ops oj = true)
    (hsi : ∀ cs b, oi.op ≠ .select cs b) (hsj : ∀ cs b, oj.op ≠ .select cs b) {K : Act → World → Prop} {a : Act}
    (hy : YieldsIf P ops S oi v a) (h : wpOpX P ops j K (a.put oi.dst v) w) :
    wpOpX P ops j (fun a' w' => YieldsIf P ops S oi v a' ∧ K (a'.put oi.dst v) w') a w := by
  obtain ⟨h1, h2, h3⟩ := Oper.apart_spec hap
  have keep : ∀ u, YieldsIf P ops S oi v (a.put oj.dst u) := fun u =>
    hy.of_same (execOp_put oi hsi a oj.dst u h3) (wanted_put oi a oj.dst u h3)
  unfold wpOpX at *
  simp only [hj] at *
  rw [wanted_put oj a oi.dst v h1, execOp_put oj hsj a oi.dst v h1] at h
  split at h
  · rename_i hw
    rw [if_pos hw]
    exact ⟨h.1, gives_mono h.2 fun u w h => ⟨keep u, by rw [← Act.put_comm a v u h2]; exact h⟩⟩
  · rename_i hw
    rw [if_neg hw]
    exact ⟨keep _, by rw [← Act.put_comm a v undef h2]; exact h⟩
def Closed (ops : Array Oper) (listed : Array Bool) : Prop := ∀ j oj, ops[j]? = some oj → listed.getD j false = true → ∀ ed ∈ oj.after, Region.binds .any ed = true → listed.getD ed.on false = true
theorem closed_start (ops : Array Oper) (n : Nat) : Closed ops (Array.replicate n false) := fun j oj _ h => by
  rcases Nat.lt_or_ge j n with h' | h'
  · simp [h'] at h
  · simp [h'] at h
theorem getD_set_true {listed : Array Bool} {i k : Nat} (h : listed.getD k false = true) : (listed.setIfInBounds i true).getD k false = true := by
  rcases Nat.lt_or_ge k listed.size with h' | h'
  · simp only [Array.getD_eq_getD_getElem?, Array.getElem?_setIfInBounds] at h ⊢
    by_cases hi : i = k
    · subst hi; simp [h']
    · simp only [hi, if_false]; exact h
  · simp [h'] at h
theorem Closed.step {ops : Array Oper} {listed : Array Bool} {i : Nat} (hc : Closed ops listed) (hi : i ∈ Region.ready .any ops listed) : Closed ops (listed.setIfInBounds i true) := fun k ok hk hl ed hed hb => by
  by_cases hki : i = k
  · subst hki
    obtain ⟨_, o, ho, hall⟩ := mem_ready.1 hi
    rw [ho] at hk; cases hk
    exact getD_set_true (hall ed hed hb)
  · refine getD_set_true (hc k ok hk ?_ ed hed hb)
    rw [getD_set_ne false hki] at hl
    exact hl
theorem exemptN_listed {ops : Array Oper} {listed : Array Bool} {i : Nat} (hc : Closed ops listed) : ∀ (f j : Nat), (∀ o, ops[j]? = some o → ∀ ed ∈ o.after, Region.binds .any ed = true → listed.getD ed.on false = true) → exemptN ops f j i = true → listed.getD i false = true
  | 0, j, _, h => by cases h
  | f + 1, j, hj, h => by
    unfold exemptN at h
    rw [toList_get] at h
    cases ho : ops[j]? with
    | none => simp [ho] at h
    | some o =>
      simp only [ho, List.any_eq_true, Bool.and_eq_true, Bool.or_eq_true] at h
      obtain ⟨ed, hed, hb, h⟩ := h
      have hl := hj o ho ed (by simpa using hed) hb
      rcases h with h | h
      · rw [← Nat.eq_of_beq_eq_true h]; exact hl
      · exact exemptN_listed hc f ed.on (fun o' ho' => hc ed.on o' ho' hl) h
theorem exempt_ready {ops : Array Oper} {listed : Array Bool} {i j : Nat} (hc : Closed ops listed) (hj : j ∈ Region.ready .any ops listed) (hi : i ∈ Region.ready .any ops listed) : exempt ops j i = false := by
  obtain ⟨_, oj, hoj, hall⟩ := mem_ready.1 hj
  have hi0 := (mem_ready.1 hi).1
  rw [← Bool.not_eq_true]
  intro h
  have h1 := exemptN_listed hc 10 j (fun o ho => by rw [hoj] at ho; cases ho; exact hall) h
  rcases Nat.lt_or_ge i listed.size with h' | h'
  · simp [h'] at h1 hi0; rw [hi0] at h1; cases h1
  · simp [Array.getElem?_eq_none h'] at h1
theorem weakP [Amb] {ops : Array Oper} {Q : Act → World → Prop} : ∀ (fuel : Nat) (p p' : List (Nat × WT)) (listed : Array Bool) (a : Act) (w : World), (∀ x ∈ p', x ∈ p ∨ ∀ w, x.2 w) → wpAnyP P ops Q fuel p listed a w → wpAnyP P ops Q fuel p' listed a w := by
  intro fuel
  induction fuel with
  | zero => exact fun p p' listed a w _ h => h
  | succ fuel ih =>
    intro p p' listed a w hs h
    refine ⟨h.1, fun j hj => wpOpX_mono (fun a' w' h' => ⟨fun x hx => ?_, ih _ _ _ _ _ (fun x hx => ?_) h'.2⟩) (h.2 j hj)⟩
    · simp only [List.mem_filter] at hx
      rcases hs x hx.1 with h1 | h1
      · exact h'.1 x (List.mem_filter.2 ⟨h1, hx.2⟩)
      · exact h1 w'
    · simp only [List.mem_filter] at hx
      rcases hs x hx.1 with h1 | h1
      · exact .inl (List.mem_filter.2 ⟨h1, hx.2⟩)
      · exact .inr h1
theorem takeP [Amb] {ops : Array Oper} {Q : Act → World → Prop} {S : WT} {i : Nat} {oi : Oper} {v : Value} (hi : ops[i]? = some oi) (hsel : ∀ (j : Nat) (o : Oper) cs b, ops[j]? = some o → o.op ≠ .select cs b)
    :
    ∀ (fuel : Nat) (p : List (Nat × WT)) (listed : Array Bool) (a : Act) (w : World), Closed ops listed →
      (∀ j oj, ops[j]? = some oj → j ≠ i → listed.getD j true = false → (∀ e ∈ oj.after, Region.binds .any e = true → e.on ≠ i) → oi.apart ops oj = true) →
      i ∈ Region.ready .any ops listed → YieldsIf P ops S oi v a → S w → (∀ x ∈ p, x.2 w) →
      wpAnyP P ops Q fuel ((i, S) :: p) (listed.setIfInBounds i true) (a.put oi.dst v) w → wpAnyP P ops Q (fuel + 1) p listed a w := by
  intro fuel
  induction fuel with
  | zero =>
    intro p listed a w hcl _ hr hy hS hp H
    refine ⟨fun h => (by rw [h] at hr; cases hr), fun j hj => ?_⟩
    by_cases hji : j = i
    · subst hji
      exact yields_wpOpX hi hy hS ⟨fun x hx => hp x (List.mem_filter.1 hx).1, H⟩
    · have := ready_mono hj hji
      rw [H.1] at this
      cases this
  | succ fuel ih =>
    intro p listed a w hcl hfree hr hy hS hp H
    refine ⟨fun h => (by rw [h] at hr; cases hr), fun j hj => ?_⟩
    by_cases hji : j = i
    · subst hji
      exact yields_wpOpX hi hy hS ⟨fun x hx => hp x (List.mem_filter.1 hx).1, weakP _ _ _ _ _ _ (fun x hx => .inl (List.mem_cons_of_mem _ (List.mem_filter.1 hx).1)) H⟩
    · have h1 := H.2 j (ready_mono hj hji)
      have hex := exempt_ready hcl hj hr
      obtain ⟨hjun, oj, hoj, hall⟩ := mem_ready.1 hj
      have hnot : ∀ e ∈ oj.after, Region.binds .any e = true → e.on ≠ i := fun e he hb heq => by
        have h1 := hall e he hb
        have h0 := (mem_ready.1 hr).1
        rw [heq] at h1
        rcases Nat.lt_or_ge i listed.size with h' | h'
        · simp [h'] at h0 h1; rw [h0] at h1; cases h1
        · simp [Array.getElem?_eq_none h'] at h1
      have h2 := wpOpX_put hoj (hfree j oj hoj hji hjun hnot) (fun cs b => hsel i oi cs b hi) (fun cs b => hsel j oj cs b hoj) hy h1
      have hfree' : ∀ k ok, ops[k]? = some ok → k ≠ i → (listed.setIfInBounds j true).getD k true = false →
          (∀ e ∈ ok.after, Region.binds .any e = true → e.on ≠ i) → oi.apart ops ok = true := fun k ok hk hki hun hno => by
        refine hfree k ok hk hki ?_ hno
        by_cases hjk : j = k
        · subst hjk; exact hjun
        · rw [getD_set_ne true hjk] at hun; exact hun
      have hfil : ((i, S) :: p).filter (fun x => !exempt ops j x.1) = (i, S) :: p.filter (fun x => !exempt ops j x.1) := by
        simp [List.filter_cons, hex]
      refine wpOpX_mono (fun a' w' h3 => ?_) h2
      rw [hfil] at h3
      obtain ⟨hy', hf', h3⟩ := h3
      refine ⟨fun x hx => hf' x (List.mem_cons_of_mem _ hx), ih _ (listed.setIfInBounds j true) a' w' (hcl.step hj) hfree' (ready_mono hr (Ne.symm hji)) hy' (hf' (i, S) (List.mem_cons_self ..)) (fun x hx => hf' x (List.mem_cons_of_mem _ hx)) ?_⟩
      rw [Array.setIfInBounds_comm _ _ hji]
      exact h3
theorem wpOp_of_gives [Amb] {ops : Array Oper} {i : Nat} {o : Oper} {md : Md} {a : Act} {n : Nat} {K : Value → WT} {next : Act → World → Prop} (ho : ops[i]? = some o) (hr : Rep md a e n)
    (h : grd n ops e o (opK P (ev n e) o) K w) (hk : ∀ v w, K v w → next (a.put o.dst v) w) : wpOpX P ops i next a w := by
  unfold wpOpX
  simp only [ho]
  rcases grd_cases hr h with ⟨hw, h⟩ | ⟨hw, h⟩
  · rw [if_pos hw, hr.eval]
    exact ⟨opK_notDefer h, gives_mono (opK_sound (ev_func n e) h) hk⟩
  · rw [if_neg (by simp [hw])]
    exact hk _ _ h
theorem grd_intro {ops : Array Oper} {md : Md} {a : Act} {n : Nat} {o : Oper} (hr : Rep md a e n) {body : (Value → WT) → WT} {rest : Value → WT}
    (hw : Region.wanted o (yielded ops a.tmps) = true) (h : body rest w) : grd n ops e o body rest w := by
  unfold grd
  cases hg : o.guard with
  | none => exact h
  | some jb =>
    obtain ⟨j, b⟩ := jb
    rw [wanted_eq hr j b hg] at hw
    simp only [toList_get]
    cases hj : ops[j]? with
    | none => simp [hj] at hw
    | some oj =>
      cases hd : oj.dst with
      | none => simp [hj, hd] at hw
      | some t =>
        simp only [hj, hd, Option.bind_some] at hw ⊢
        generalize ev n e (.tmp t) = v at hw ⊢
        cases v <;> simp only at hw <;> try (cases hw; done)
        rename_i x
        cases x <;> cases b <;> first | exact h | (cases hw; done)
theorem grd_intro' {ops : Array Oper} {md : Md} {a : Act} {n : Nat} {o : Oper} (hr : Rep md a e n) {body : (Value → WT) → WT} {rest : Value → WT}
    (hw : Region.wanted o (yielded ops a.tmps) = false) (h : rest undef w) : grd n ops e o body rest w := by
  unfold grd
  cases hg : o.guard with
  | none => unfold Region.wanted at hw; simp [hg] at hw
  | some jb =>
    obtain ⟨j, b⟩ := jb
    rw [wanted_eq hr j b hg] at hw
    simp only [toList_get]
    cases hj : ops[j]? with
    | none => exact h
    | some oj =>
      cases hd : oj.dst with
      | none => simp only [hd]; exact h
      | some t =>
        simp only [hj, hd, Option.bind_some] at hw ⊢
        generalize ev n e (.tmp t) = v at hw ⊢
        cases v <;> first
          | exact h
          | (rename_i x; cases x <;> cases b <;> first | exact h | (cases hw; done))
theorem rcks_split {fs : List WT} {W : WT} (h : rcks fs W w) : (∀ f ∈ fs, f w) ∧ W w := by
  cases fs with
  | nil => exact ⟨by simp, h⟩
  | cons f fs => exact h
theorem drawW_sound [Amb] {n : Nat} {ops : Array Oper} {K : Env → WT} {md : Md} {Q : Act → World → Prop}
    (hsel : ∀ (j : Nat) (o : Oper) cs b, ops[j]? = some o → o.op ≠ .select cs b)
    (hops : md.okOps ops = true) (hK : ∀ a e w, Rep md a e n → K e w → Q a w) : ∀ (order : List Nat) (listed : Array Bool) (p : List (Nat × WT)) (a : Act) (e : Env) (w : World), Closed ops listed → Rep md a e n →
      drawOk P ops order listed = true → (∀ x ∈ p, x.2 w) → drawW P n ops order p K e w → wpAnyP P ops Q order.length p listed a w
  | [], listed, p, a, e, w, hcl, hr, hok, hp, h => ⟨by simpa [drawOk] using hok, hK a e w hr h⟩
  | i :: rest, listed, p, a, e, w, hcl, hr, hok, hp, h => by
    unfold drawW at h
    unfold drawOk at hok
    rw [toList_get] at h hok
    cases ho : ops[i]? with
    | none => simp [ho] at hok
    | some o =>
      simp only [ho, Bool.and_eq_true] at h hok
      obtain ⟨hmode, hok⟩ := hok
      cases hf : isFlt P o with
      | true =>
        simp only [hf] at h hmode
        simp only [Bool.and_eq_true] at hmode
        have hrdy : i ∈ Region.ready .any ops listed := by simpa using hmode.2
        have hfree := Region.free_spec ho hmode.1
        rcases grd_cases hr h with ⟨hw, h⟩ | ⟨hw, h⟩
        · obtain ⟨v, hv, hloc⟩ := (flt_both (ρ := ev n e) hf).1 _ _ h
          have hrun := flt_run hf (hloc _ ⟨rfl, rfl⟩)
          cases hrd : isRd P o with
          | false =>
            simp only [hrd] at hv
            obtain ⟨v', hv', hpure⟩ := (flt_both (ρ := ev n e) hf).2 hrd _ _ h
            simp only [hrd] at hv'
            have hy : YieldsIf P ops (fun _ => True) o v' a := .inl ⟨hw, fun w' _ => by rw [hr.eval]; exact flt_run hf (hpure _ w' ⟨rfl, rfl⟩)⟩
            refine takeP ho hsel rest.length p listed a w hcl hfree hrdy hy trivial hp ?_
            have := drawW_sound hsel hops hK rest (listed.setIfInBounds i true) p (a.put o.dst v') _ w (hcl.step hrdy) (hr.put _ _ (Md.okOps_free hops ho)) hok hp hv'
            exact weakP _ _ _ _ _ _ (fun x hx => by
              rcases List.mem_cons.1 hx with rfl | hx
              · exact .inr fun _ => trivial
              · exact .inl hx) this
          | true =>
            simp only [hrd] at hv
            have hfact : grd n ops e o (opK P (ev n e) o) (fun v' _ => v' = v) w := grd_intro hr hw (hloc _ rfl)
            have hy : YieldsIf P ops (grd n ops e o (opK P (ev n e) o) (fun v' _ => v' = v)) o v a := .inl ⟨hw, fun w' hw' => by
              rw [hr.eval]
              rcases grd_cases hr hw' with ⟨_, h⟩ | ⟨hn, _⟩
              · obtain ⟨v', rfl, hl⟩ := (flt_both (ρ := ev n e) hf).1 _ _ h
                exact flt_run hf (hl _ ⟨rfl, rfl⟩)
              · rw [hw] at hn; cases hn⟩
            refine takeP ho hsel rest.length p listed a w hcl hfree hrdy hy hfact hp ?_
            exact drawW_sound hsel hops hK rest (listed.setIfInBounds i true) _ (a.put o.dst v) _ w (hcl.step hrdy) (hr.put _ _ (Md.okOps_free hops ho)) hok (by
              intro x hx
              rcases List.mem_cons.1 hx with rfl | hx
              · exact hfact
              · exact hp x hx) hv
        · have hy : YieldsIf P ops (fun _ => True) o undef a := .inr ⟨hw, rfl⟩
          refine takeP ho hsel rest.length p listed a w hcl hfree hrdy hy trivial hp ?_
          cases hrd : isRd P o with
          | false =>
            simp only [hrd] at h
            exact weakP _ _ _ _ _ _ (fun x hx => by
              rcases List.mem_cons.1 hx with rfl | hx
              · exact .inr fun _ => trivial
              · exact .inl hx) (drawW_sound hsel hops hK rest (listed.setIfInBounds i true) p (a.put o.dst undef) _ w (hcl.step hrdy) (hr.put _ _ (Md.okOps_free hops ho)) hok hp h)
          | true =>
            simp only [hrd] at h
            have hfact : grd n ops e o (opK P (ev n e) o) (fun v' _ => v' = undef) w := grd_intro' hr hw rfl
            exact weakP _ _ _ _ _ _ (fun x hx => by
              rcases List.mem_cons.1 hx with rfl | hx
              · exact .inr fun _ => trivial
              · exact .inl (List.mem_cons_of_mem _ hx)) (drawW_sound hsel hops hK rest (listed.setIfInBounds i true) _ (a.put o.dst undef) _ w (hcl.step hrdy) (hr.put _ _ (Md.okOps_free hops ho)) hok (by
              intro x hx
              rcases List.mem_cons.1 hx with rfl | hx
              · exact hfact
              · exact hp x hx) h)
      | false =>
        simp only [hf] at h hmode
        have hrdy : Region.ready .any ops listed = [i] := by simpa using hmode
        refine ⟨fun h => (by rw [h] at hrdy; cases hrdy), fun j hj => ?_⟩
        rw [hrdy] at hj
        simp only [List.mem_singleton] at hj
        subst hj
        refine wpOp_of_gives ho hr h fun v w h => ?_
        obtain ⟨h1, h2⟩ := rcks_split h
        have h1' : ∀ x ∈ p.filter (fun x => !exempt ops j x.1), x.2 w := fun x hx => h1 _ (List.mem_map.2 ⟨x, hx, rfl⟩)
        exact ⟨h1', drawW_sound hsel hops hK rest _ _ _ _ w (hcl.step (by rw [hrdy]; exact List.mem_singleton_self _)) (hr.put _ _ (Md.okOps_free hops ho)) hok h1' h2⟩
theorem stepW_sound [Amb] {n : Nat} {ops : Array Oper} {md : Md} {i : Nat} {o : Oper} {p : List (Nat × WT)} {a : Act} {e : Env} {K : List (Nat × WT) → Env → WT} {next : List (Nat × WT) → Act → World → Prop}
    (ho : ops[i]? = some o) (hr : Rep md a e n) (hops : md.okOps ops = true) (h : stepW P n ops i o p e K w)
    (hk : ∀ p a e w, Rep md a e n → (∀ x ∈ p, x.2 w) → K p e w → next p a w) :
    wpOpX P ops i (fun a' w' => (∀ x ∈ p.filter (fun x => !exempt ops i x.1), x.2 w') ∧ next (p.filter fun x => !exempt ops i x.1) a' w') a w := by
  unfold stepW at h
  refine wpOp_of_gives ho hr h fun v w h => ?_
  obtain ⟨h1, h2⟩ := rcks_split h
  have h1' : ∀ x ∈ p.filter (fun x => !exempt ops i x.1), x.2 w := fun x hx => h1 _ (List.mem_map.2 ⟨x, hx, rfl⟩)
  exact ⟨h1', hk _ _ _ w (hr.put _ _ (Md.okOps_free hops ho)) h1' h2⟩
theorem drawT_sound [Amb] {n : Nat} {ops : Array Oper} {K : Env → WT} {md : Md} {Q : Act → World → Prop}
    (hsel : ∀ (j : Nat) (o : Oper) cs b, ops[j]? = some o → o.op ≠ .select cs b)
    (hops : md.okOps ops = true) (hK : ∀ a e w, Rep md a e n → K e w → Q a w) : ∀ (t : DT) (k : Nat) (listed : Array Bool) (p : List (Nat × WT)) (a : Act) (e : Env) (w : World), Closed ops listed → Rep md a e n →
      drawTOk P ops t k listed = true → (∀ x ∈ p, x.2 w) → drawT P n ops t p K e w → wpAnyP P ops Q k p listed a w
  | .nil, k, listed, p, a, e, w, hcl, hr, hok, hp, h => by
    unfold drawTOk at hok
    simp only [Bool.and_eq_true] at hok
    have h0 := Nat.eq_of_beq_eq_true hok.1
    subst h0
    exact ⟨by simpa using hok.2, hK a e w hr h⟩
  | .one i t, 0, listed, p, a, e, w, hcl, hr, hok, hp, h => by unfold drawTOk at hok; cases hok
  | .two i t j u, 0, listed, p, a, e, w, hcl, hr, hok, hp, h => by unfold drawTOk at hok; cases hok
  | .three i t j u m v, 0, listed, p, a, e, w, hcl, hr, hok, hp, h => by unfold drawTOk at hok; cases hok
  | .four i t j u m v q x, 0, listed, p, a, e, w, hcl, hr, hok, hp, h => by unfold drawTOk at hok; cases hok
  | .one i t, k + 1, listed, p, a, e, w, hcl, hr, hok, hp, h => by
    unfold drawT at h
    unfold drawTOk at hok
    rw [toList_get] at h hok
    cases ho : ops[i]? with
    | none => simp [ho] at hok
    | some o =>
      simp only [ho, Bool.and_eq_true] at h hok
      obtain ⟨hmode, hok⟩ := hok
      cases hf : isFlt P o with
      | true =>
        simp only [hf] at h hmode
        simp only [Bool.and_eq_true] at hmode
        have hrdy : i ∈ Region.ready .any ops listed := by simpa using hmode.2
        have hfree := Region.free_spec ho hmode.1
        rcases grd_cases hr h with ⟨hw, h⟩ | ⟨hw, h⟩
        · obtain ⟨v, hv, hloc⟩ := (flt_both (ρ := ev n e) hf).1 _ _ h
          have hrun := flt_run hf (hloc _ ⟨rfl, rfl⟩)
          cases hrd : isRd P o with
          | false =>
            simp only [hrd] at hv
            obtain ⟨v', hv', hpure⟩ := (flt_both (ρ := ev n e) hf).2 hrd _ _ h
            simp only [hrd] at hv'
            have hy : YieldsIf P ops (fun _ => True) o v' a := .inl ⟨hw, fun w' _ => by rw [hr.eval]; exact flt_run hf (hpure _ w' ⟨rfl, rfl⟩)⟩
            refine takeP ho hsel k p listed a w hcl hfree hrdy hy trivial hp ?_
            have := drawT_sound hsel hops hK t k (listed.setIfInBounds i true) p (a.put o.dst v') _ w (hcl.step hrdy) (hr.put _ _ (Md.okOps_free hops ho)) hok hp hv'
            exact weakP _ _ _ _ _ _ (fun x hx => by
              rcases List.mem_cons.1 hx with rfl | hx
              · exact .inr fun _ => trivial
              · exact .inl hx) this
          | true =>
            simp only [hrd] at hv
            have hfact : grd n ops e o (opK P (ev n e) o) (fun v' _ => v' = v) w := grd_intro hr hw (hloc _ rfl)
            have hy : YieldsIf P ops (grd n ops e o (opK P (ev n e) o) (fun v' _ => v' = v)) o v a := .inl ⟨hw, fun w' hw' => by
              rw [hr.eval]
              rcases grd_cases hr hw' with ⟨_, h⟩ | ⟨hn, _⟩
              · obtain ⟨v', rfl, hl⟩ := (flt_both (ρ := ev n e) hf).1 _ _ h
                exact flt_run hf (hl _ ⟨rfl, rfl⟩)
              · rw [hw] at hn; cases hn⟩
            refine takeP ho hsel k p listed a w hcl hfree hrdy hy hfact hp ?_
            exact drawT_sound hsel hops hK t k (listed.setIfInBounds i true) _ (a.put o.dst v) _ w (hcl.step hrdy) (hr.put _ _ (Md.okOps_free hops ho)) hok (by
              intro x hx
              rcases List.mem_cons.1 hx with rfl | hx
              · exact hfact
              · exact hp x hx) hv
        · have hy : YieldsIf P ops (fun _ => True) o undef a := .inr ⟨hw, rfl⟩
          refine takeP ho hsel k p listed a w hcl hfree hrdy hy trivial hp ?_
          cases hrd : isRd P o with
          | false =>
            simp only [hrd] at h
            exact weakP _ _ _ _ _ _ (fun x hx => by
              rcases List.mem_cons.1 hx with rfl | hx
              · exact .inr fun _ => trivial
              · exact .inl hx) (drawT_sound hsel hops hK t k (listed.setIfInBounds i true) p (a.put o.dst undef) _ w (hcl.step hrdy) (hr.put _ _ (Md.okOps_free hops ho)) hok hp h)
          | true =>
            simp only [hrd] at h
            have hfact : grd n ops e o (opK P (ev n e) o) (fun v' _ => v' = undef) w := grd_intro' hr hw rfl
            exact weakP _ _ _ _ _ _ (fun x hx => by
              rcases List.mem_cons.1 hx with rfl | hx
              · exact .inr fun _ => trivial
              · exact .inl (List.mem_cons_of_mem _ hx)) (drawT_sound hsel hops hK t k (listed.setIfInBounds i true) _ (a.put o.dst undef) _ w (hcl.step hrdy) (hr.put _ _ (Md.okOps_free hops ho)) hok (by
              intro x hx
              rcases List.mem_cons.1 hx with rfl | hx
              · exact hfact
              · exact hp x hx) h)
      | false =>
        simp only [hf] at h hmode
        have hrdy : Region.ready .any ops listed = [i] := by simpa using hmode
        refine ⟨fun h => (by rw [h] at hrdy; cases hrdy), fun j hj => ?_⟩
        rw [hrdy] at hj
        simp only [List.mem_singleton] at hj
        subst hj
        exact stepW_sound ho hr hops h fun p a e w hr hp h => drawT_sound hsel hops hK t k _ p a e w (hcl.step (by rw [hrdy]; exact List.mem_singleton_self _)) hr hok hp h
  | .two i t j u, k + 1, listed, p, a, e, w, hcl, hr, hok, hp, h => by
    unfold drawT at h
    unfold drawTOk at hok
    rw [toList_get, toList_get] at h
    simp only [Bool.and_eq_true] at hok
    obtain ⟨⟨hmode, hok1⟩, hok2⟩ := hok
    have hrdy : Region.ready .any ops listed = [i, j] := by simpa using hmode
    cases hi : ops[i]? with
    | none => simp only [hi] at h; exact h.elim
    | some oi =>
      cases hj : ops[j]? with
      | none => simp only [hi, hj] at h; exact h.elim
      | some oj =>
        simp only [hi, hj] at h
        have hmi : i ∈ Region.ready .any ops listed := by rw [hrdy]; exact List.mem_cons_self ..
        have hmj : j ∈ Region.ready .any ops listed := by rw [hrdy]; exact List.mem_cons_of_mem _ (List.mem_cons_self ..)
        refine ⟨fun h => (by rw [h] at hrdy; cases hrdy), fun m hm => ?_⟩
        rw [hrdy] at hm
        rcases List.mem_cons.1 hm with rfl | hm
        · exact stepW_sound hi hr hops h.1 fun p a e w hr hp h => drawT_sound hsel hops hK t k _ p a e w (hcl.step hmi) hr hok1 hp h
        · simp only [List.mem_singleton] at hm
          subst hm
          exact stepW_sound hj hr hops h.2 fun p a e w hr hp h => drawT_sound hsel hops hK u k _ p a e w (hcl.step hmj) hr hok2 hp h
  | .three i t j u m v, k + 1, listed, p, a, e, w, hcl, hr, hok, hp, h => by
    unfold drawT at h
    unfold drawTOk at hok
    rw [toList_get, toList_get, toList_get] at h
    simp only [Bool.and_eq_true] at hok
    obtain ⟨⟨⟨hmode, hok1⟩, hok2⟩, hok3⟩ := hok
    have hrdy : Region.ready .any ops listed = [i, j, m] := by simpa using hmode
    cases hi : ops[i]? with
    | none => simp only [hi] at h; exact h.elim
    | some oi =>
      cases hj : ops[j]? with
      | none => simp only [hi, hj] at h; exact h.elim
      | some oj =>
        cases hl : ops[m]? with
        | none => simp only [hi, hj, hl] at h; exact h.elim
        | some om =>
          simp only [hi, hj, hl] at h
          have hmi : i ∈ Region.ready .any ops listed := by rw [hrdy]; exact List.mem_cons_self ..
          have hmj : j ∈ Region.ready .any ops listed := by rw [hrdy]; exact List.mem_cons_of_mem _ (List.mem_cons_self ..)
          have hml : m ∈ Region.ready .any ops listed := by rw [hrdy]; exact List.mem_cons_of_mem _ (List.mem_cons_of_mem _ (List.mem_cons_self ..))
          refine ⟨fun h => (by rw [h] at hrdy; cases hrdy), fun q hq => ?_⟩
          rw [hrdy] at hq
          rcases List.mem_cons.1 hq with rfl | hq
          · exact stepW_sound hi hr hops h.1 fun p a e w hr hp h => drawT_sound hsel hops hK t k _ p a e w (hcl.step hmi) hr hok1 hp h
          rcases List.mem_cons.1 hq with rfl | hq
          · exact stepW_sound hj hr hops h.2.1 fun p a e w hr hp h => drawT_sound hsel hops hK u k _ p a e w (hcl.step hmj) hr hok2 hp h
          · simp only [List.mem_singleton] at hq
            subst hq
            exact stepW_sound hl hr hops h.2.2 fun p a e w hr hp h => drawT_sound hsel hops hK v k _ p a e w (hcl.step hml) hr hok3 hp h
  | .four i t j u m v q x, k + 1, listed, p, a, e, w, hcl, hr, hok, hp, h => by
    unfold drawT at h
    unfold drawTOk at hok
    rw [toList_get, toList_get, toList_get, toList_get] at h
    simp only [Bool.and_eq_true] at hok
    obtain ⟨⟨⟨⟨hmode, hok1⟩, hok2⟩, hok3⟩, hok4⟩ := hok
    have hrdy : Region.ready .any ops listed = [i, j, m, q] := by simpa using hmode
    have hin : ∀ y ∈ [i, j, m, q], y ∈ Region.ready .any ops listed := fun y hy => by rw [hrdy]; exact hy
    cases hi : ops[i]? with
    | none => simp only [hi] at h; exact h.elim
    | some oi =>
      cases hj : ops[j]? with
      | none => simp only [hi, hj] at h; exact h.elim
      | some oj =>
        cases hl : ops[m]? with
        | none => simp only [hi, hj, hl] at h; exact h.elim
        | some om =>
          cases hz : ops[q]? with
          | none => simp only [hi, hj, hl, hz] at h; exact h.elim
          | some oq =>
            simp only [hi, hj, hl, hz] at h
            refine ⟨fun h => (by rw [h] at hrdy; cases hrdy), fun y hy => ?_⟩
            rw [hrdy] at hy
            rcases List.mem_cons.1 hy with rfl | hy
            · exact stepW_sound hi hr hops h.1 fun p a e w hr hp h => drawT_sound hsel hops hK t k _ p a e w (hcl.step (hin _ (by simp))) hr hok1 hp h
            rcases List.mem_cons.1 hy with rfl | hy
            · exact stepW_sound hj hr hops h.2.1 fun p a e w hr hp h => drawT_sound hsel hops hK u k _ p a e w (hcl.step (hin _ (by simp))) hr hok2 hp h
            rcases List.mem_cons.1 hy with rfl | hy
            · exact stepW_sound hl hr hops h.2.2.1 fun p a e w hr hp h => drawT_sound hsel hops hK v k _ p a e w (hcl.step (hin _ (by simp))) hr hok3 hp h
            · simp only [List.mem_singleton] at hy
              subst hy
              exact stepW_sound hz hr hops h.2.2.2 fun p a e w hr hp h => drawT_sound hsel hops hK x k _ p a e w (hcl.step (hin _ (by simp))) hr hok4 hp h
end Go.SL
namespace Go.SL
open Go.RowKit
variable {P : Program} {e : Env} {w : World}
def X.of : Exit → Option X
  | .normal => some .nrm
  | .exit id => some (.ex id)
  | .ret => some .rt
  | _ => none
def post [A : Amb] (md : Md) (n : Nat) (Q : X → Env → WT) : Exit → Act → World → Prop := fun x a w => (∃ r e, X.of x = some r ∧ Rep md a e n ∧ Q r e w) ∨ ∃ c, x = .panic c ∧ @Amb.ch (md.amb A) c w ∧ a.defers = md.ds ∧ md.keeps a
theorem least {p : Nat → Prop} (h : ∃ m, p m) : ∃ m, p m ∧ ∀ k, p k → m ≤ k := by
  obtain ⟨m, hm⟩ := h
  induction m using Nat.strongRecOn with
  | _ m ih =>
    by_cases hx : ∃ k, k < m ∧ p k
    · obtain ⟨k, hk, hp⟩ := hx; exact ih k hk hp
    · exact ⟨m, hm, fun k hp => Nat.le_of_not_lt fun hlt => hx ⟨k, hlt, hp⟩⟩
theorem marks_add (v : Value) (r : Nat) : marksOf (addMark v r) = { target := .collected r, args := #[] } :: marksOf v := by
  cases v <;> simp [addMark, marksOf]
theorem updAll_rep {md : Md} {n : Nat} (hq : ∀ d, md.free d = true) : ∀ (ts : List Tmp) (vs : List Value) (a : Act) (e : Env), Rep md a e n →
    Rep md { a with tmps := (ts.zip vs).foldl (fun tmps (t, v) => tmps.setIfInBounds t v) a.tmps } (updAll n e ts vs) n
  | [], _, a, e, h => h
  | t :: ts, [], a, e, h => h
  | t :: ts, v :: vs, a, e, h => updAll_rep hq ts vs (a.put (some t) v) _ (h.put _ _ (hq _))
theorem zip_fold (ps : Array Tmp) (args : Array Value) (tmps : Array Value) :
    (ps.zip args).foldl (fun tmps (t, a) => tmps.setIfInBounds t a) tmps = (ps.toList.zip args.toList).foldl (fun tmps (t, a) => tmps.setIfInBounds t a) tmps := by
  rw [← Array.foldl_toList, Array.toList_zip]
theorem run_getLoop {l : Nat} {L : Loop} (h : w.heap[l]? = some (.loop L)) : (Instr.getLoop l).run P w = .ok L w := by
  unfold Instr.getLoop
  rw [run_bind, run_getObj' h (by simp)]; rfl
theorem run_setObj' {l : Nat} {L : Loop} {o : Obj} (h : w.heap[l]? = some (.loop L)) : (setObj l o).run P w = .ok () (World.put w l o) := by
  unfold setObj Sem.run
  simp only [h]; rfl
theorem yield_ok [Amb] {n l : Nat} {a : Act} {e : Env} {ps : Array Tmp} {as bd : Code} {an bn : Ann} {L : Loop} {md : Md} (hrep : Rep md a e n)
    (hL : L.tmps = a.tmps ∧ L.params = ps ∧ L.assign = as ∧ L.body = bd)
    (ia : ∀ (Q : X → Env → WT) (a : Act) (e : Env) (w : World), Rep (.r l) a e n → swp P n as (.r l) an Q e w → as.wpIn (Fr (some l)) 0 P (post (.r l) n Q) a w)
    (ib : ∀ (Q : X → Env → WT) (a : Act) (e : Env) (w : World), Rep (.r l) a e n → swp P n bd (.r l) bn Q e w → bd.wpIn (Fr (some l)) 0 P (post (.r l) n Q) a w) :
    YieldOk P l L ps.size (fun l bro Kj => lam ps.size fun args => swp P n as (.r l) an (fun r => match r with | .nrm => fun e' => bro (swp P n bd (.r l) bn (fun r _ => Kj r) e') | _ => fun _ => nope) (updAll n e ps.toList args)) := by
  intro args K w hlen ⟨L1, hl, hlike⟩ hbd
  rw [app_lam _ _ _ hlen] at hbd
  obtain ⟨ht, hp, has, hbo⟩ := hL
  obtain ⟨k1, k2, k3, k4, k5, k6⟩ := hlike
  unfold S.cvv
  simp only
  unfold Gives invoke Instr.yield
  simp only
  rw [run_bind, run_getLoop hl]
  simp only
  rw [if_neg (by simp [k3, hp, hlen]), run_pure]
  simp only
  refine roundIn_of_wpIn (F := Fence.wide) trivial ?_
  rw [k4, k5, has, hbo]
  have hr0 : Rep (.r l) { tmps := (L1.params.zip (#[] ++ args.toArray)).foldl (fun tmps (t, a) => tmps.setIfInBounds t a) L1.tmps, defers := [] } (updAll n e ps.toList args) n := by
    have := updAll_rep (md := .r l) (fun _ => rfl) ps.toList args { tmps := a.tmps, defers := [] } e ⟨hrep.size, hrep.at_, rfl, hrep.lt, by intro p hp; cases hp⟩
    rw [zip_fold, k3, hp, k2, ht]
    simpa using this
  refine wpIn_mono (ia _ _ _ w hr0 hbd) ?_
  rintro ex a1 w1 (⟨rr, e1, hx, hr1, h1⟩ | ⟨c, rfl, ⟨_, _, hc⟩, _⟩)
  rotate_left
  · exact hc.elim
  cases ex <;> simp only [X.of, Option.some.injEq] at hx <;> try (cases hx; done)
  all_goals subst hx
  · obtain ⟨L2, hl2, hlike2, hst, h1⟩ := h1
    refine ⟨_, ?_, wpIn_mono (ib _ _ _ _ hr1 h1) ?_⟩
    · unfold Instr.beginRound
      rw [run_bind, run_getLoop hl2]; simp only
      rw [run_bind, run_setObj' hl2]; simp only [hst]; rfl
    · rintro ex a3 w3 (⟨rr, e3, hx, hr3, L3, hl3, hlike3, h3⟩ | ⟨c, rfl, ⟨_, _, hc⟩, _⟩)
      rotate_left
      · exact hc.elim
      have hend : ∀ j : X, (Instr.endRound l (X.code j)).run P w3 = .ok (.bool (match j with | .nrm => true | _ => false))
          (World.put w3 l (.loop { L3 with state := (match j with | .nrm => .ready | _ => .done), pending := X.code j })) := by
        intro j
        unfold Instr.endRound
        rw [run_bind, run_getLoop hl3]; simp only
        rw [run_bind, run_setObj' hl3]
        cases j <;> rfl
      cases ex <;> simp only [X.of, Option.some.injEq] at hx <;> try (cases hx; done)
      all_goals subst hx
      · exact ⟨_, _, hend .nrm, h3⟩
      · exact ⟨_, _, hend (.ex _), h3⟩
      · exact ⟨_, _, hend .rt, h3⟩
  · exact h1.elim
  · exact h1.elim
theorem cvf_enter {f : Value} {args : List Value} {K : Value → WT} (h : S.cvf P f args K w) : ∃ g first captured, f = .func (.func g) first captured ∧ callOk P g = true ∧ CF P g (first.toList ++ args ++ captured.toList) K w := by
  unfold S.cvf at h
  split at h
  · exact ⟨_, _, _, rfl, h⟩
  · exact h.elim
theorem over_run {l : Nat} {L : Loop} {after : X → WT} (h : over l L after w) : ∃ j w', (Instr.endLoop l).run P w = .ok (X.code j) w' ∧ after j w' := by
  obtain ⟨L3, j, hl, _, hst, hp, h⟩ := h
  refine ⟨j, _, ?_, h⟩
  unfold Instr.endLoop
  rw [run_bind, run_getLoop hl]; simp only
  have hb : (L3.state == .busy) = false := by cases hs : L3.state <;> simp_all
  simp only [hb, Bool.false_eq_true, if_false]
  rw [run_bind, run_setObj' hl]
  simp only [hp, run_pure]
theorem aft_cases {α : Type} {no an rt : α} {f : Nat → α} {ids : List Nat} {j : X} : aft no an rt (ids.map fun i => (i, f i)) j = (match j with | .nrm => an | .rt => rt | .ex i => f i) ∨ aft no an rt (ids.map fun i => (i, f i)) j = no := by
  cases j with
  | nrm => exact .inl rfl
  | rt => exact .inl rfl
  | ex i =>
    simp only [aft]
    induction ids with
    | nil => exact .inr rfl
    | cons k ids ih =>
      simp only [List.map_cons, exl]
      cases hb : Nat.beq i k with
      | true => have := Nat.eq_of_beq_eq_true hb; subst this; exact .inl rfl
      | false => exact ih
theorem arr3 (x y : Array Value) (v : Value) : (x.toList ++ [v] ++ y.toList).toArray = x ++ #[v] ++ y := by cases x; cases y; simp
theorem amb_cases [A : Amb] (md : Md) : md = .p ∨ (∃ ds kp, md = .q ds kp) ∨ ∀ c w, ¬ @Amb.ch (md.amb A) c w := by
  cases md with
  | p => exact .inl rfl
  | q ds kp => exact .inr (.inl ⟨ds, kp, rfl⟩)
  | m => exact .inr (.inr fun c w ⟨_, _, h⟩ => h)
  | r l => exact .inr (.inr fun c w ⟨_, _, h⟩ => h)
theorem swp_sound [A : Amb] {n : Nat} : ∀ (c : Code) (md : Md) (ro : Option Nat) (an : Ann) (Q : X → Env → WT) (a : Act) (e : Env) (w : World), ro = (match md with | .r l => some l | _ => none) →
    Rep md a e n → swp P n c md an Q e w → c.wpIn (Fr ro) 0 P (post md n Q) a w := by
  intro c
  induction c with
  | skip => exact fun md ro an Q a e w hm hr h => wpIn_skip (.inl ⟨.nrm, e, rfl, hr, (by unfold swp at h; exact h)⟩)
  | exit id => exact fun md ro an Q a e w hm hr h => wpIn_exit (.inl ⟨.ex id, e, rfl, hr, (by unfold swp at h; exact h)⟩)
  | ret => exact fun md ro an Q a e w hm hr h => wpIn_ret (.inl ⟨.rt, e, rfl, hr, (by unfold swp at h; exact h)⟩)
  | region id ops d =>
    intro md ro an Q a e w hm hr h
    unfold swp at h
    cases hok : md.okOps ops with
    | false => simp only [hok] at h; exact h.elim
    | true =>
    simp only [hok] at h
    cases d with
    | false => exact wpIn_region (@opsW_sound (md.amb A) _ _ _ _ _ (Q .nrm) _ (fun a c w hd hkp hc => .inr ⟨c, rfl, hc, hd, hkp⟩) (amb_cases md) hok (fun a e w hr h => .inl ⟨.nrm, e, rfl, hr, h⟩) _ a e w hr h)
    | true =>
      simp only at h
      cases an <;> simp only at h <;> try exact h.elim
      · rename_i order
        have hokO := hok
        clear hok
        cases hok : Region.noSelect ops && P.follows .mixedOrders && Nat.beq order.length ops.size && drawOk P ops order (Array.replicate ops.size false) with
        | true =>
          simp only [hok] at h
          simp only [Bool.and_eq_true] at hok
          obtain ⟨⟨⟨hs, hmx⟩, hl⟩, hok⟩ := hok
          have hl := Nat.eq_of_beq_eq_true hl
          have hpan : ∀ a' c w', a'.defers = a.defers → md.keeps a' → @Amb.ch (md.amb A) c w' → post md n Q (.panic c) a' w' := fun a' c w' hd hkp hc => by
            refine .inr ⟨c, rfl, hc, ?_, hkp⟩
            rw [hd]
            rcases amb_cases (A := A) md with rfl | ⟨ds, kp, rfl⟩ | hn
            · exact hr.defers
            · exact hr.defers
            · exact (hn _ _ hc).elim
          refine wpIn_region_any hmx (@wpAny_of_P _ (md.amb A) _ _ _ a.defers md hokO hpan _ [] _ _ _ rfl hr.keep ?_)
          have hw := h { w with drawn := w.drawn + 1 } rfl rfl rfl rfl
          have := @drawW_sound _ (md.amb A) _ _ (Q .nrm) md (post md n Q .normal) (Region.noSelect_spec hs) hokO
            (fun a e w hr h => .inl ⟨.nrm, e, rfl, hr, h⟩) order (Array.replicate ops.size false) [] a e _ (closed_start _ _) hr hok (by simp) hw
          rw [hl] at this
          exact this
        | false => simp only [hok] at h; exact h.elim
      · rename_i len t
        have hokO := hok
        clear hok
        cases hok : Region.noSelect ops && P.follows .mixedOrders && Nat.beq len ops.size && drawTOk P ops t len (Array.replicate ops.size false) with
        | true =>
          simp only [hok] at h
          simp only [Bool.and_eq_true] at hok
          obtain ⟨⟨⟨hs, hmx⟩, hl⟩, hok⟩ := hok
          have hl := Nat.eq_of_beq_eq_true hl
          have hpan : ∀ a' c w', a'.defers = a.defers → md.keeps a' → @Amb.ch (md.amb A) c w' → post md n Q (.panic c) a' w' := fun a' c w' hd hkp hc => by
            refine .inr ⟨c, rfl, hc, ?_, hkp⟩
            rw [hd]
            rcases amb_cases (A := A) md with rfl | ⟨ds, kp, rfl⟩ | hn
            · exact hr.defers
            · exact hr.defers
            · exact (hn _ _ hc).elim
          refine wpIn_region_any hmx (@wpAny_of_P _ (md.amb A) _ _ _ a.defers md hokO hpan _ [] _ _ _ rfl hr.keep ?_)
          have hw := h { w with drawn := w.drawn + 1 } rfl rfl rfl rfl
          have := @drawT_sound _ (md.amb A) _ _ (Q .nrm) md (post md n Q .normal) (Region.noSelect_spec hs) hokO
            (fun a e w hr h => .inl ⟨.nrm, e, rfl, hr, h⟩) t len (Array.replicate ops.size false) [] a e _ (closed_start _ _) hr hok (by simp) hw
          rw [hl] at this
          exact this
        | false => simp only [hok] at h; exact h.elim
  | seq x y ihx ihy =>
    intro md ro an Q a e w hm hr h
    unfold swp at h
    cases an <;> simp only at h <;> try exact h.elim
    · rename_i aa bb
      refine wpIn_seq (wpIn_mono (ihx md ro aa _ a e w hm hr h) ?_)
      rintro ex a' w' (⟨r, e', hx, hr', h'⟩ | ⟨c, rfl, hc, hd⟩)
      rotate_left
      · exact .inr ⟨c, rfl, hc, hd⟩
      cases ex <;> simp only [X.of, Option.some.injEq] at hx <;> try (cases hx; done)
      all_goals subst hx
      · exact ihy md ro bb Q a' e' w' hm hr' h'
      · exact .inl ⟨_, e', rfl, hr', h'⟩
      · exact .inl ⟨_, e', rfl, hr', h'⟩
    · rename_i live aa bb
      unfold S.join at h
      refine wpIn_seq (wpIn_mono (ihx md ro aa _ a e w hm hr h) ?_)
      rintro ex a' w' (⟨r, e', hx, hr', h'⟩ | ⟨c, rfl, hc, hd⟩)
      rotate_left
      · exact .inr ⟨c, rfl, hc, hd⟩
      cases ex <;> simp only [X.of, Option.some.injEq] at hx <;> try (cases hx; done)
      all_goals subst hx
      · simp only at h'
        rw [app_lam _ _ _ (by simp)] at h'
        have := h' e'
        simp only [mk_same] at this
        exact ihy md ro bb Q a' e' w' hm hr' this
      · exact .inl ⟨_, e', rfl, hr', h'⟩
      · exact .inl ⟨_, e', rfl, hr', h'⟩
  | cond c x y ihx ihy =>
    intro md ro an Q a e w hm hr h
    unfold swp at h
    cases an <;> simp only at h <;> try exact h.elim
    rename_i aa bb
    unfold S.cond at h
    split at h
    · rename_i hc; exact wpIn_cond_true (by rw [hr.eval]; exact hc) (ihx md ro aa Q a e w hm hr h)
    · rename_i hc; exact wpIn_cond_false (by rw [hr.eval]; exact hc) (ihy md ro bb Q a e w hm hr h)
    · exact h.elim
  | block id c ih =>
    intro md ro an Q a e w hm hr h
    unfold swp at h
    cases an <;> simp only at h <;> try exact h.elim
    rename_i aa
    refine wpIn_block (wpIn_mono (ih md ro aa _ a e w hm hr h) ?_)
    rintro ex a' w' (⟨r, e', hx, hr', h'⟩ | ⟨c, rfl, hc, hd⟩)
    rotate_left
    · exact .inr ⟨c, rfl, hc, hd⟩
    cases ex <;> simp only [X.of, Option.some.injEq] at hx <;> try (cases hx; done)
    all_goals subst hx
    · exact .inl ⟨_, e', rfl, hr', h'⟩
    · rename_i i
      simp only [Exit.inBlock]
      simp only at h'
      cases hb : Nat.beq i id with
      | true =>
        simp only [hb] at h'
        rw [if_pos (Nat.eq_of_beq_eq_true hb)]; exact .inl ⟨_, e', rfl, hr', h'⟩
      | false =>
        simp only [hb] at h'
        rw [if_neg (fun he => by subst he; simp at hb)]; exact .inl ⟨_, e', rfl, hr', h'⟩
    · exact .inl ⟨_, e', rfl, hr', h'⟩
  | loop c ih =>
    intro md ro an Q a e w hm hr h
    unfold swp at h
    cases an <;> simp only at h <;> try exact h.elim
    rename_i live aa
    obtain ⟨σ, I, μ, s0, h0, hstep⟩ := h
    have hmin : ∀ (a : Act) (w : World), (∃ s e, Rep md a e n ∧ I s (live.map e) w) → ∃ m, ∃ s e, Rep md a e n ∧ I s (live.map e) w ∧ μ s = m := fun a w ⟨s, e, h1, h2⟩ => ⟨_, s, e, h1, h2, rfl⟩
    let J : Act → World → Prop := fun a w => ∃ s e, Rep md a e n ∧ I s (live.map e) w
    open Classical in
    let ν : Act → World → Nat := fun a w => if hj : J a w then Classical.choose (least (hmin a w hj)) else 0
    refine wpIn_loop J ν ⟨s0, e, hr, h0⟩ ?_
    intro a w hJ
    have hν : ν a w = Classical.choose (least (hmin a w hJ)) := by simp only [ν]; rw [dif_pos hJ]
    obtain ⟨s, e, hr, hI, hμ⟩ := (Classical.choose_spec (least (hmin a w hJ))).1
    have hb := hstep s (live.map e) w (by simp) hI
    rw [app_lam _ _ _ (by simp)] at hb
    have hb := hb e
    simp only [mk_same] at hb
    refine wpIn_mono (ih md ro aa _ a e w hm hr hb) ?_
    rintro ex a' w' (⟨r, e', hx, hr', h'⟩ | ⟨c, rfl, hc, hd⟩)
    rotate_left
    · exact .inr ⟨c, rfl, hc, hd⟩
    cases ex <;> simp only [X.of, Option.some.injEq] at hx <;> try (cases hx; done)
    all_goals subst hx
    · simp only at h'
      rw [app_lam _ _ _ (by simp)] at h'
      obtain ⟨s', hlt, hI'⟩ := h'
      have hJ' : J a' w' := ⟨s', e', hr', hI'⟩
      refine ⟨hJ', ?_⟩
      have hν' : ν a' w' = Classical.choose (least (hmin a' w' hJ')) := by simp only [ν]; rw [dif_pos hJ']
      rw [hν, hν', ← hμ]
      exact Nat.lt_of_le_of_lt ((Classical.choose_spec (least (hmin a' w' hJ'))).2 _ ⟨s', e', hr', hI', rfl⟩) hlt
    · exact .inl ⟨_, e', rfl, hr', h'⟩
    · exact .inl ⟨_, e', rfl, hr', h'⟩
  | rangeFunc f ps as bd iha ihb =>
    intro md ro an Q a e w hm hr h
    unfold swp at h
    cases an <;> simp only at h <;> try exact h.elim
    rename_i ids aa bb
    have hres : ∀ (l : Nat) (w : World) g first captured, ev n e f = .func (.func g) first captured →
        (resolve a.eval (rangeCall f l) 0).run P w = .ok { target := .fn (.func g) captured, args := first ++ #[.func (.yield l) #[] #[]] } w := by
      intro l w g first captured hf
      unfold resolve rangeCall
      rw [hr.eval]; simp only [hf, Deferred.ofValue]
      simp [ev, run_pure]
    have hinv : ∀ (l : Nat) (w : World) g (first captured : Array Value), callOk P g = true →
        (invoke (.fn (.func g) captured) (first ++ #[.func (.yield l) #[] #[]])).run P w = .ok (.enter g (first ++ #[.func (.yield l) #[] #[]] ++ captured)) w := by
      intro l w g first captured hk
      unfold invoke
      exact run_callFunc hk
    cases md with
    | p => exact h.elim
    | q ds kp => exact h.elim
    | m =>
      simp only at h
      subst hm
      refine wpIn_rangeFunc fun fn _ => ?_
      let L : Loop := { state := .ready, pending := none, fn := fn, tmps := a.tmps, params := ps, assign := as, body := bd, defers := w.heap.size }
      have hy := yield_ok (P := P) (n := n) (l := w.heap.size + 1) (L := L) (an := aa) (bn := bb) hr ⟨rfl, rfl, rfl, rfl⟩ (fun Q a e w hr h => iha (.r _) _ aa Q a e w rfl hr h) (fun Q a e w hr h => ihb (.r _) _ bb Q a e w rfl hr h)
      have hc := h (w.heap.size + 1) w.heap.size L rfl rfl rfl rfl hy
      obtain ⟨g, first, captured, hf, hk, hc⟩ := cvf_enter hc
      refine ⟨w.heap.size + 1, [{ target := .collected w.heap.size, args := #[] }], { w with heap := (w.heap.push (.deferred (some []))).push (.loop L) }, _, _, g, _, _, ?_, hres _ _ g first captured hf, fun _ _ => trivial, hinv _ _ g first captured hk, fun h => by simp [Fr, Fence.wide] at h, ?_⟩
      · simp [Instr.enterLoop, run_bind, newObj, Sem.run, run_pure, L, Fr]; rfl
      · unfold CF at hc
        rw [arr3] at hc
        refine callsFr (Calls.mono hc fun en w' h' => ?_)
        cases en with
        | panicked c => exact (show False from let ⟨_, _, h⟩ := h'; h).elim
        | outgrown => exact h'.elim
        | returned v =>
          obtain ⟨j, w4, he, h4⟩ := over_run (P := P) h'
          refine ⟨X.code j, w4, he, ?_⟩
          have hrep : Rep .m { a with defers := [{ target := .collected w.heap.size, args := #[] }] ++ a.defers } (setMK e (addMark (e MK) w.heap.size)) n := by
            refine ⟨hr.size, fun k hk => ?_, ?_, hr.lt, by intro p hp; cases hp⟩
            · have hne : Nat.beq k MK = false := by
                rw [← Bool.not_eq_true]; intro h
                have h1 : k = MK := Nat.eq_of_beq_eq_true h
                have := hr.lt
                rw [h1] at hk; exact absurd hk (Nat.not_lt.2 this)
              simp only [setMK, hne]; exact hr.at_ k hk
            · have hb : Nat.beq MK MK = true := Nat.beq_refl MK
              have hd := hr.defers
              simp only at hd
              simp only [setMK, hb, marks_add, hd, List.cons_append, List.nil_append]
          rcases aft_cases (α := Value → WT) (no := fun _ => nope) (an := fun mv => Q .nrm (setMK e mv)) (rt := fun mv => Q .rt (setMK e mv))
            (f := fun i => fun mv => Q (.ex i) (setMK e mv)) (ids := ids) (j := j) with hj | hj
          · rw [hj] at h4
            cases j with
            | nrm => exact .inl ⟨.nrm, _, rfl, hrep, h4⟩
            | ex i => exact wpIn_exit (.inl ⟨.ex i, _, rfl, hrep, h4⟩)
            | rt => exact wpIn_ret (.inl ⟨.rt, _, rfl, hrep, h4⟩)
          · rw [hj] at h4; exact h4.elim
    | r l0 =>
      simp only at h
      subst hm
      obtain ⟨L0, hl0, h⟩ := h
      refine wpIn_rangeFunc fun fn _ => ?_
      let L : Loop := { state := .ready, pending := none, fn := fn, tmps := a.tmps, params := ps, assign := as, body := bd, defers := L0.defers }
      have hy := yield_ok (P := P) (n := n) (l := w.heap.size) (L := L) (an := aa) (bn := bb) hr ⟨rfl, rfl, rfl, rfl⟩ (fun Q a e w hr h => iha (.r _) _ aa Q a e w rfl hr h) (fun Q a e w hr h => ihb (.r _) _ bb Q a e w rfl hr h)
      have hc := h w.heap.size L rfl rfl rfl hy
      obtain ⟨g, first, captured, hf, hk, hc⟩ := cvf_enter hc
      refine ⟨w.heap.size, [], { w with heap := w.heap.push (.loop L) }, _, _, g, _, _, ?_, hres _ _ g first captured hf, fun _ _ => trivial, hinv _ _ g first captured hk, fun h => by simp [Fr, Fence.wide] at h, ?_⟩
      · simp [Instr.enterLoop, run_bind, run_getLoop hl0, newObj, Sem.run, run_pure, L, Fr]
      · unfold CF at hc
        rw [arr3] at hc
        refine callsFr (Calls.mono hc fun en w' h' => ?_)
        cases en with
        | panicked c => exact (show False from let ⟨_, _, h⟩ := h'; h).elim
        | outgrown => exact h'.elim
        | returned v =>
          obtain ⟨j, w4, he, h4⟩ := over_run (P := P) h'
          refine ⟨X.code j, w4, he, ?_⟩
          have hrep : Rep (.r l0) { a with defers := [] ++ a.defers } e n := hr
          rcases aft_cases (α := WT) (no := nope) (an := Q .nrm e) (rt := Q .rt e) (f := fun i => Q (.ex i) e) (ids := ids) (j := j) with hj | hj
          · rw [hj] at h4
            cases j with
            | nrm => exact .inl ⟨.nrm, _, rfl, hrep, h4⟩
            | ex i => exact wpIn_exit (.inl ⟨.ex i, _, rfl, hrep, h4⟩)
            | rt => exact wpIn_ret (.inl ⟨.rt, _, rfl, hrep, h4⟩)
          · rw [hj] at h4; exact h4.elim
  | _ => intro md ro an Q a e w hm hr h; unfold swp at h; exact h.elim
def ini (args : List Value) : Env := fun k => args.getD k undef
def ldT (P : Program) (t : TypeId) (a : Value) (K : Value → WT) : WT := match P.info? t with
  | some i => match P.underlying t with
    | some (.struct _) | some (.array _ _) => S.ldN i.size a K
    | some _ => S.ld a K
    | none => nope
  | none => nope
def resW (P : Program) : List ResultVar → Env → (List Value → WT) → WT
  | [], _, K => K []
  | .tmp t :: rs, e, K => resW P rs e fun vs => K (e t :: vs)
  | .cell a t :: rs, e, K => ldT P t (e a) fun v => resW P rs e fun vs => K (v :: vs)
def one (K : Value → WT) : List Value → WT
  | [v] => K v
  | vs => K (.tuple vs.toArray)
def fin (P : Program) (fn : Func) (K : Value → WT) (e : Env) : WT := resW P fn.results.toList (fun k => ev fn.ntmps e (.tmp k)) (one K)
def marksN : Value → List Nat
  | .tuple vs => vs.toList.filterMap fun | .int _ r => some r.toNat | _ => none
  | _ => []
def takeAll : List Nat → WT → WT
  | [], W => W
  | r :: rs, W => fun w => w.heap[r]? = some (.deferred (some [])) ∧ takeAll rs W (World.put w r (.deferred none))
def S.done (mv : Value) (W : WT) : WT := takeAll (marksN mv) W
def shal [Amb] (P : Program) (fn : Func) (md : Md) (an : Ann) (args : List Value) (K : Value → WT) : WT := match fn.body with
  | some c => match Nat.ble args.length fn.ntmps && Nat.ble fn.ntmps MK with
    | true => match md with
      | .p => swp P fn.ntmps c .p an (fun r => match r with | .nrm => fin P fn K | .rt => fin P fn K | .ex _ => fun _ => nope) (ini args)
      | .m => swp P fn.ntmps c .m an (fun r => match r with | .nrm => fun e => S.done (e MK) (fin P fn K e) | .rt => fun e => S.done (e MK) (fin P fn K e) | .ex _ => fun _ => nope) (ini args)
      | .r _ => nope
      | .q _ _ => nope
    | false => nope
  | none => nope
theorem ldT_run {t : TypeId} {a : Value} {K : Value → WT} (h : ldT P t a K w) : ∃ v, (do loadVar t (← asAddr a) : Sem Value).run P w = .ok v w ∧ K v w := by
  unfold ldT at h
  have key : ∀ ad v, (Instr.loadAt t (.pointer (some ad))).run P w = .ok v w → (do loadVar t (← asAddr (.pointer (some ad))) : Sem Value).run P w = .ok v w := fun ad v hv => hv
  cases hi : P.info? t with
  | none => simp only [hi] at h; exact h.elim
  | some i =>
    simp only [hi] at h
    cases hu : P.underlying t with
    | none => simp only [hu] at h; exact h.elim
    | some d =>
      simp only [hu] at h
      have hone : S.ld a K w → isAggD d = false → ∃ v, (do loadVar t (← asAddr a) : Sem Value).run P w = .ok v w ∧ K v w := fun h hd => by
        cases a with
        | pointer a => cases a with
          | none => exact h.elim
          | some ad =>
            simp only [S.ld] at h
            cases hc : w.cell? ad with
            | none => simp only [hc] at h
            | some v => simp only [hc] at h; exact ⟨v, key _ _ (run_load_one (run_isAgg_f hu hd) hc), h⟩
        | _ => exact h.elim
      have hmany : S.ldN i.size a K w → isAggD d = true → ∃ v, (do loadVar t (← asAddr a) : Sem Value).run P w = .ok v w ∧ K v w := fun h hd => by
        cases a with
        | pointer a => cases a with
          | none => exact h.elim
          | some ad =>
            simp only [S.ldN] at h
            cases hc : cellsFrom w ad 0 i.size with
            | none => simp only [hc] at h
            | some v => simp only [hc] at h; exact ⟨_, key _ _ (run_load_agg hi (run_isAgg_t hu hd) hc), h⟩
        | _ => exact h.elim
      cases d <;> first | exact hone h rfl | exact hmany h rfl
def resM (tmps : Array Value) : ResultVar → Sem Value
  | .tmp t => pure (tmps.getD t undef)
  | .cell a t => do loadVar t (← asAddr (tmps.getD a undef))
theorem results_eq (fn : Func) (tmps : Array Value) : results fn tmps = (do
    let vs ← fn.results.mapM (resM tmps)
    pure (if h : vs.size = 1 then vs[0] else .tuple vs)) := by
  unfold results
  have : (fun x => match x with | .tmp t => pure (tmps.getD t undef) | .cell a t => do loadVar t (← asAddr (tmps.getD a undef)) : ResultVar → Sem Value) = resM tmps := by
    funext x; cases x <;> rfl
  exact congrArg (fun f => (do let vs ← fn.results.mapM f; pure (if h : vs.size = 1 then vs[0] else .tuple vs) : Sem Value)) this
theorem resW_run {tmps : Array Value} (he : ∀ k, tmps.getD k undef = e k) : ∀ (rs : List ResultVar) (K : List Value → WT), resW P rs e K w → ∃ vs,
    (rs.mapM (resM tmps)).run P w = .ok vs w ∧ K vs w
  | [], K, h => ⟨[], rfl, h⟩
  | .tmp t :: rs, K, h => by
    obtain ⟨vs, hr, hk⟩ := resW_run he rs _ h
    refine ⟨e t :: vs, ?_, hk⟩
    rw [List.mapM_cons, run_bind]
    simp only [resM, run_pure, he]
    rw [run_bind, hr]; rfl
  | .cell a t :: rs, K, h => by
    obtain ⟨v, hv, h⟩ := ldT_run h
    obtain ⟨vs, hr, hk⟩ := resW_run he rs _ h
    refine ⟨v :: vs, ?_, hk⟩
    rw [List.mapM_cons, run_bind]
    simp only [resM, he]
    rw [hv]
    simp only
    rw [run_bind, hr]; rfl
theorem fin_run {fn : Func} {K : Value → WT} {tmps : Array Value} (he : ∀ k, tmps.getD k undef = ev fn.ntmps e (.tmp k)) (h : fin P fn K e w) : ∃ v, (results fn tmps).run P w = .ok v w ∧ K v w := by
  obtain ⟨vs, hr, hk⟩ := resW_run he _ _ h
  refine ⟨(if h : vs.toArray.size = 1 then vs.toArray[0] else .tuple vs.toArray), ?_, ?_⟩
  · rw [results_eq, run_bind, Array.mapM_eq_mapM_toList]
    have : (List.toArray <$> List.mapM (resM tmps) fn.results.toList : Sem (Array Value)).run P w = .ok vs.toArray w := by
      rw [← bind_pure_comp, run_bind, hr]; rfl
    rw [this]
    rfl
  · match vs, hk with
    | [v], hk => exact hk
    | [], hk => exact hk
    | a :: b :: l, hk => simpa [one] using hk
theorem leaves_all {fn : Func} {tmps : Array Value} {R : Ending → World → Prop} : ∀ (rs : List Nat) (W : WT) (w : World), takeAll rs W w → (∀ w, W w → LeavesIn Fence.wide 0 P fn tmps R [] .returning w) →
    LeavesInM Fence.wide 0 P fn tmps R (rs.map fun r => { target := .collected r, args := #[] }) .returning w
  | [], W, w, h, hw => hw w h
  | r :: rs, W, w, h, hw => by
    refine ⟨by simp, .inl ⟨r, _, rfl, ?_, leaves_all rs W _ h.2 hw⟩⟩
    unfold Instr.takeDeferred
    rw [run_bind, run_getObj' h.1 (by simp)]
    simp only
    rw [run_bind]
    have : (setObj r (.deferred none)).run P w = .ok () (World.put w r (.deferred none)) := by
      unfold setObj Sem.run; simp only [h.1]; rfl
    rw [this]; rfl
theorem marks_eq (v : Value) : marksOf v = (marksN v).map fun r => { target := .collected r, args := #[] } := by
  cases v <;> simp [marksOf, marksN]
  rename_i vs
  induction vs.toList with
  | nil => rfl
  | cons x l ih => cases x <;> simp [List.filterMap_cons, ih]
theorem shal_sound [Amb] {f : FuncId} {fn : Func} {md : Md} {an : Ann} {args : List Value} {K : Value → WT} (hf : P.funcs[f]? = some fn) (h : shal P fn md an args K w) : CF P f args K w := by
  unfold shal at h
  cases hb : fn.body with
  | none => simp only [hb] at h; exact h.elim
  | some c =>
    simp only [hb] at h
    cases hn : Nat.ble args.length fn.ntmps && Nat.ble fn.ntmps MK with
    | false => simp only [hn] at h; exact h.elim
    | true =>
      simp only [hn] at h
      simp only [Bool.and_eq_true] at hn
      have hle := Nat.le_of_ble_eq_true hn.1
      have hlt := Nat.le_of_ble_eq_true hn.2
      have hini : ∀ k, k < fn.ntmps → (args.toArray ++ Array.replicate (fn.ntmps - args.toArray.size) undef).getD k undef = ini args k := by
        intro k _
        simp only [ini, Array.getD_eq_getD_getElem?, List.getD_eq_getElem?_getD]
        by_cases hk : k < args.length
        · simp [Array.getElem?_append, hk]
        · have : args[k]? = none := by simp; omega
          rw [this, Array.getElem?_append]
          simp [hk, Array.getElem?_replicate]
          split <;> rfl
      have hMK : ini args MK = undef := by
        have : args[MK]? = none := by
          rw [List.getElem?_eq_none_iff]; exact Nat.le_trans hle hlt
        simp only [ini, List.getD_eq_getElem?_getD, this]; rfl
      unfold CF
      cases md with
      | r l => exact h.elim
      | q ds kp => exact h.elim
      | p =>
        refine (callsIn_wide (n := 0)).1 (callsIn_of_wp hf hb trivial (wpIn_mono (swp_sound c .p none an _ _ _ w rfl ⟨by simp; omega, hini, rfl, hlt, by intro p hp; cases hp⟩ h) ?_))
        rintro ex a' w' (⟨r, e', hx, hr', h'⟩ | ⟨c, rfl, hc, hd⟩)
        rotate_left
        · exact ⟨hd.1, hc⟩
        cases ex <;> simp only [X.of, Option.some.injEq] at hx <;> try (cases hx; done)
        all_goals subst hx
        · obtain ⟨v, h1, h2⟩ := fin_run (fun k => hr'.evt k) h'
          exact ⟨hr'.defers, v, h1, h2⟩
        · exact h'.elim
        · obtain ⟨v, h1, h2⟩ := fin_run (fun k => hr'.evt k) h'
          exact ⟨hr'.defers, v, h1, h2⟩
      | m =>
        refine (callsIn_wide (n := 0)).1 (callsIn_of_wp_marks hf hb trivial (wpIn_mono (swp_sound c .m none an _ _ _ w rfl ⟨by simp; omega, hini, by simp [hMK, marksOf, undef], hlt, by intro p hp; cases hp⟩ h) ?_))
        have hgo : ∀ (a' : Act) (e' : Env) (w' : World), Rep .m a' e' fn.ntmps → S.done (e' MK) (fin P fn K e') w' →
            LeavesInM Fence.wide 0 P fn a'.tmps (fun | .returned v, w' => K v w' | .panicked c, w' => Amb.ch c w' | .outgrown, _ => False) a'.defers .returning w' := by
          intro a' e' w' hr' h'
          have hd := hr'.defers
          simp only at hd
          rw [hd, marks_eq]
          refine leaves_all _ _ _ h' fun w h => ?_
          obtain ⟨v, h1, h2⟩ := fin_run (fun k => hr'.evt k) h
          exact ⟨v, h1, h2⟩
        rintro ex a' w' (⟨r, e', hx, hr', h'⟩ | ⟨c, rfl, hc, hd⟩)
        rotate_left
        · exact (show False from let ⟨_, _, h⟩ := hc; h).elim
        cases ex <;> simp only [X.of, Option.some.injEq] at hx <;> try (cases hx; done)
        all_goals subst hx
        · exact hgo a' e' w' hr' h'
        · exact h'.elim
        · exact hgo a' e' w' hr' h'
end Go.SL
namespace Go.SL
open Go.RowKit
variable {P : Program} {w : World}
end Go.SL
end
