/-
  The shallow form of a function's code: each operation as a small predicate transformer over values and worlds.
-/
import Derived.Test.YtfholicobkpilaaSlHeap
import Derived.Orders
import Derived.OrdersHeld
import Derived.OrdersIn
import Derived.RangeFuncIn
import Derived.RangeFuncLeaves
set_option linter.unusedSimpArgs false
set_option linter.unusedVariables false
set_option linter.unusedSectionVars false
namespace Go.SL
open Go.RowKit

/-- What a value-giving operation of the model comes to. -/
def V (P : Program) (s : Sem Value) (K : Value → WT) : WT := fun w => match s.run P w with | .ok v w' => K v w' | _ => False
def U (P : Program) (s : Sem Unit) (K : Value → WT) : WT := fun w => match s.run P w with | .ok _ w' => K undef w' | _ => False
/-- A call of function f that returns. -/
def CF (P : Program) (f : FuncId) (args : List Value) (K : Value → WT) : WT :=
  fun w => Calls P f args.toArray w fun | .returned v, w' => K v w' | _, _ => False
def Gives (P : Program) (s : Sem Next) (K : Value → WT) : WT := fun w => match s.run P w with
  | .ok (.value v) w' => K v w'
  | .ok .skip w' => K undef w'
  | .ok (.enter f args) w' => CF P f args.toList K w'
  | .ok (.round l f tmps assign body) w' => RoundIn Fence.wide 0 P l f tmps assign body w' fun | .returned v, w'' => K v w'' | _, _ => False
  | _ => False

/-- An int, a bool. -/
abbrev I (n : Int) : Value := .int .i64 n
abbrev B (b : Bool) : Value := .bool b

def cellsFrom (w : World) (a : Addr) : Nat → Nat → Option (List Value)
  | _, 0 => some []
  | i, n + 1 => match w.cell? (a.add i) with
    | some v => (cellsFrom w a (i + 1) n).map (v :: ·)
    | none => none
def isCell : Value → Bool
  | .agg _ | .tuple _ => false
  | _ => true
def putFrom (a : Addr) : Nat → List Value → World → Option World
  | _, [], w => some w
  | i, v :: vs, w => match isCell v, w.cell? (a.add i), w.frozen? (a.add i) with
    | true, some _, false => putFrom a (i + 1) vs (w.setCell (a.add i) v)
    | _, _, _ => none

namespace S
def pick (c a b : Value) (K : Value → WT) : WT := fun w => match c with
  | .bool x => K (match x with | true => a | false => b) w
  | _ => False
def ld (a : Value) (K : Value → WT) : WT := fun w => match a with
  | .pointer (some ad) => match w.cell? ad with | some v => K v w | none => False
  | _ => False
def ldN (n : Nat) (a : Value) (K : Value → WT) : WT := fun w => match a with
  | .pointer (some ad) => match cellsFrom w ad 0 n with | some cs => K (.agg cs.toArray) w | none => False
  | _ => False
def st (n : Nat) (a v : Value) (K : Value → WT) : WT := fun w => match a with
  | .pointer (some ad) => v.cells.size = n ∧ match putFrom ad 0 v.cells.toList w with | some w' => K undef w' | none => False
  | _ => False
def box (T : TypeId) (v : Value) (K : Value → WT) : WT := fun w => K (.pointer (some ⟨w.heap.size, 0, none⟩)) { w with heap := w.heap.push (.cells v.cells T) }
def nc (x : Value) (K : Value → WT) : WT := fun w => match x with
  | .pointer none | .nilIface | .nilFunc | .func (.method _) _ _ => False
  | x => K x w
def fad (x : Value) (off : Nat) (K : Value → WT) : WT := fun w => match x with
  | .pointer (some ad) => K (.pointer (some (ad.add off))) w
  | _ => False
def ixS (sz : Nat) (x i : Value) (K : Value → WT) : WT := fun w => match x, i with
  | .slice (some a) len _, .int _ n => 0 ≤ n ∧ n < len ∧ K (.pointer (some (a.add (n.toNat * sz)))) w
  | _, _ => False
def ixA (len sz : Nat) (x i : Value) (K : Value → WT) : WT := fun w => match x, i with
  | .pointer (some a), .int _ n => 0 ≤ n ∧ n < len ∧ K (.pointer (some (a.add (n.toNat * sz)))) w
  | _, _ => False
def chr (x i : Value) (K : Value → WT) : WT := fun w => match x, i with
  | .string s, .int _ n => 0 ≤ n ∧ ∃ b, s[n.toNat]? = some b ∧ K (.int .u8 b.toNat) w
  | _, _ => False
/-- One field, or element, of a value: one cell, or n of them. -/
def prt (agg : Bool) (off n : Nat) (x : Value) (K : Value → WT) : WT := fun w => match x with
  | .agg cs => match agg with
    | true => K (.agg (cs.extract off (off + n))) w
    | false => match cs[off]? with | some v => K v w | none => False
  | _ => False
def ext (x : Value) (i : Nat) (K : Value → WT) : WT := fun w => match x with
  | .tuple vs => match vs[i]? with | some v => K v w | none => False
  | _ => False
/-- Arithmetic and comparisons of integers. -/
def bin (op : BinOp) (x y : Value) (K : Value → WT) : WT := fun w => match x, y with
  | .int k a, .int k' b => k = k' ∧ match op with
    | .add => K (.int k (k.wrap (a + b))) w
    | .sub => K (.int k (k.wrap (a - b))) w
    | .mul => K (.int k (k.wrap (a * b))) w
    | .quo => b ≠ 0 ∧ K (.int k (k.wrap (a.tdiv b))) w
    | .rem => b ≠ 0 ∧ K (.int k (a.tmod b)) w
    | .and => K (.int k (k.wrap (BitVec.ofInt k.bits a &&& BitVec.ofInt k.bits b).toNat)) w
    | .or => K (.int k (k.wrap (BitVec.ofInt k.bits a ||| BitVec.ofInt k.bits b).toNat)) w
    | .xor => K (.int k (k.wrap (BitVec.ofInt k.bits a ^^^ BitVec.ofInt k.bits b).toNat)) w
    | .andNot => K (.int k (k.wrap (BitVec.ofInt k.bits a &&& ~~~ BitVec.ofInt k.bits b).toNat)) w
    | .eql => K (.bool (decide (a = b))) w
    | .neq => K (.bool (decide (a ≠ b))) w
    | .lss => K (.bool (decide (a < b))) w
    | .leq => K (.bool (decide (a ≤ b))) w
    | .gtr => K (.bool (decide (b < a))) w
    | .geq => K (.bool (decide (b ≤ a))) w
    | _ => False
  | _, _ => False
def sh (op : BinOp) (x y : Value) (K : Value → WT) : WT := fun w => match x, y with
  | .int k a, .int _ b => 0 ≤ b ∧ match op with
    | .shl => K (.int k (k.wrap (a * 2 ^ min b.toNat k.bits))) w
    | .shr => K (.int k (a.fdiv (2 ^ min b.toNat k.bits))) w
    | _ => False
  | _, _ => False
def sbin (op : BinOp) (x y : Value) (K : Value → WT) : WT := fun w => match x, y with
  | .string a, .string b => match op with
    | .add => a.size + b.size ≤ 9223372036854775807 ∧ K (.string (a ++ b)) w
    | .eql => K (.bool (a.toList == b.toList)) w
    | .neq => K (.bool (!(a.toList == b.toList))) w
    | .lss => K (.bool (Op.bytesLess a.toList b.toList)) w
    | .leq => K (.bool (Op.bytesLess a.toList b.toList || a.toList == b.toList)) w
    | .gtr => K (.bool (!(Op.bytesLess a.toList b.toList || a.toList == b.toList))) w
    | .geq => K (.bool (!(Op.bytesLess a.toList b.toList))) w
    | _ => False
  | _, _ => False
def beq (op : BinOp) (x y : Value) (K : Value → WT) : WT := fun w => match x, y with
  | .bool a, .bool b => match op with
    | .eql => K (.bool (a == b)) w
    | .neq => K (.bool (!(a == b))) w
    | _ => False
  | _, _ => False
/-- '==' where one of the two is nil. -/
def isNil : Value → Option Bool
  | .pointer a => some a.isNone
  | .slice a _ _ => some a.isNone
  | .map a => some a.isNone
  | .nilFunc => some true
  | .func .. => some false
  | .nilIface => some true
  | .iface .. => some false
  | _ => none
def neg1 (x : Value) (K : Value → WT) : WT := fun w => match x with
  | .int k n => K (.int k (k.wrap (0 - n))) w
  | _ => False
def com1 (x : Value) (K : Value → WT) : WT := fun w => match x with
  | .int k n => K (.int k (k.wrap (BitVec.ofInt k.bits (if k.signed then -1 else k.max) ^^^ BitVec.ofInt k.bits n).toNat)) w
  | _ => False
def not1 (x : Value) (K : Value → WT) : WT := fun w => match x with
  | .bool b => K (.bool (!b)) w
  | _ => False
def cvt (k : IntKind) (x : Value) (K : Value → WT) : WT := fun w => match x with
  | .int _ n => K (.int k (k.wrap n)) w
  | _ => False
def str1 (x : Value) (K : Value → WT) : WT := fun w => match x with
  | .string s => K (.string s) w
  | _ => False
def lenS (x : Value) (K : Value → WT) : WT := fun w => match x with
  | .string s => K (.int .i64 s.size) w
  | _ => False
def len (x : Value) (K : Value → WT) : WT := fun w => match x with
  | .slice _ n _ => K (.int .i64 n) w
  | _ => False
def cap (x : Value) (K : Value → WT) : WT := fun w => match x with
  | .slice _ _ n => K (.int .i64 n) w
  | _ => False
def lenM (x : Value) (K : Value → WT) : WT := fun w => match x with
  | .map none => K (.int .i64 0) w
  | .map (some r) => match w.heap[r]? with | some (.map es _) => K (.int .i64 es.size) w | _ => False
  | _ => False
def mx (x y : Value) (K : Value → WT) : WT := fun w => match x, y with
  | .int k a, .int _ b => K (.int k (if b > a then b else a)) w
  | _, _ => False
def mn (x y : Value) (K : Value → WT) : WT := fun w => match x, y with
  | .int k a, .int _ b => K (.int k (if b < a then b else a)) w
  | _, _ => False
def mkM (K : Value → WT) : WT := fun w => K (.map (some w.heap.size)) { w with heap := w.heap.push (.map #[] 0) }
/-- A function value that is called. -/
def cv (P : Program) (f : Value) (args : List Value) (K : Value → WT) : WT := match f with
  | .func (.func g) first captured => CF P g (first.toList ++ args ++ captured.toList) K
  | _ => fun _ => False
/-- A call through an interface. -/
def ci (P : Program) (r : Value) (name : String) (args : List Value) (K : Value → WT) : WT := fun w =>
  Gives P (do let d ← (pure { target := .fn (.method name) #[], args := #[r] ++ args.toArray } : Sem Deferred); invoke d.target d.args) K w
def cond (c : Value) (A B : WT) : WT := fun w => match c with
  | .bool true => A w
  | .bool false => B w
  | _ => False
/-- An operation that waits for a test. -/
def gd (c : Value) (want : Bool) (body : (Value → WT) → WT) (rest : Value → WT) : WT := fun w => match c with
  | .bool true => (match want with | true => body rest w | false => rest undef w)
  | .bool false => (match want with | true => rest undef w | false => body rest w)
  | _ => rest undef w
def fa (f : (Nat → Value) → WT) : WT := fun w => ∀ j, f j w
/-- The tape has been asked. -/
def dr (W : WT) : WT := fun w => ∀ w' : World, w'.heap = w.heap → w'.os = w.os → w'.tape = w.tape → w'.output = w.output → W w'
def rck (facts : List WT) (W : WT) : WT := fun w => (∀ f ∈ facts, f w) ∧ W w
end S

/-! ### curried functions of n values -/
def Kn : Nat → Type
  | 0 => WT
  | n + 1 => Value → Kn n
def lam : (n : Nat) → (List Value → WT) → Kn n
  | 0, f => f []
  | n + 1, f => fun v => lam n fun l => f (v :: l)
def app : (n : Nat) → Kn n → List Value → WT
  | 0, k, _ => k
  | n + 1, k, v :: l => app n (k v) l
  | n + 1, k, [] => app n (k undef) []
theorem app_lam : ∀ (n : Nat) (f : List Value → WT) (l : List Value), l.length = n → app n (lam n f) l = f l
  | 0, f, [], _ => rfl
  | n + 1, f, v :: l, h => app_lam n (fun l => f (v :: l)) l (by simpa using h)
namespace S
def join (n : Nat) (body : Kn n → WT) (rest : Kn n) : WT := body rest
def loop (n : Nat) (body : Kn n → Kn n) (vals : List Value) : WT := fun w =>
  ∃ (σ : Type) (I : σ → List Value → WT) (μ : σ → Nat) (s0 : σ), I s0 vals w ∧
    ∀ s vs w, vs.length = n → I s vs w → app n (body (lam n fun vs' w' => ∃ s', μ s' < μ s ∧ I s' vs' w')) vs w
end S
end Go.SL
