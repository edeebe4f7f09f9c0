/-
  Names: what a fact does to a book (plain).
-/
import Derived.Test.YtjafpncngmbcdaaGreatNmM
set_option linter.unusedSimpArgs false
set_option linter.unusedVariables false
set_option linter.unusedSectionVars false
namespace Go.Proofs.YtjafpncngmbcdaaGreat.Nam
open Go Go.SL
def inBinB (n : Int) : Bool := decide (0 ≤ n) && decide (n < 4096)
def numB (n : Int) : Bool := decide (0 ≤ n) && decide (n ≤ 9007199254740991)
def spotB (b s : Int) : Bool := inBinB b && decide (0 ≤ s) && decide (s < 64)
def rightB (r : Rf) : Bool := decide (1 ≤ r.len) && decide (r.len ≤ 512) && decide (0 ≤ r.bin) && decide (r.bin < 4096) && decide (0 ≤ r.slot) && decide (r.slot < 64)
/-- What a kind names. -/
def nPlace (k : Int) : Bool := decide (k = 1 ∨ k = 2)
def nName (k : Int) : Bool := decide (k = 3 ∨ k = 4 ∨ k = 5 ∨ k = 6)
def nGen (k : Int) : Bool := decide (k = 3 ∨ k = 4)
def nTime (k : Int) : Bool := decide (k = 3 ∨ k = 5 ∨ k = 8)
def ruleB (f : Fa) : Bool := numB f.last && numB f.young && numB f.step && decide (0 < f.step) && numB f.count
def bareB (f : Fa) : Bool := (nPlace f.k || decide (f.bin = 0 ∧ f.at_ = 0 ∧ f.n = 0)) && (nName f.k || decide (f.name = [])) && (nGen f.k || decide (f.gen = 0)) && (nTime f.k || decide (f.time = 0)) &&
  (decide (f.k = 3) || decide (f.refs = [])) && (decide (f.k = 5) || decide (f.held = [])) && (decide (f.k = 7) || decide (f.moves = [])) && (decide (f.k = 9) || decide (f.last = 0 ∧ f.young = 0 ∧ f.step = 0 ∧ f.count = 0))
def badB (f : Fa) : Bool := (nPlace f.k && !inBinB f.bin) || (decide (f.k = 2) && decide (¬ (f.at_ = 0 ∧ f.n = 0))) || (decide (f.k = 1) && (decide (f.at_ < 0) || decide (4096 ≤ f.at_) || decide (f.n < 2) || decide (64 < f.n))) ||
  (decide (f.k = 9) && !ruleB f) || (nName f.k && !nameOk f.name) || (nGen f.k && decide (f.gen < 1)) || !numB f.gen || !numB f.time
def moveOk (m : Mv) : Bool := spotB m.fb m.fs && spotB m.tb m.ts
def heldOk (h : List UInt8 × Int) : Bool := nameOk h.1 && decide (1 ≤ h.2) && numB h.2
def checkF (f : Fa) : Int :=
  if f.k < 1 ∨ 9 < f.k ∨ bareB f = false then 4
  else if badB f = true then 2
  else if 256 < f.refs.length ∨ 64 < f.held.length ∨ 64 < f.moves.length then 6
  else if (f.k = 7 ∧ f.moves = []) ∨ f.moves.any (fun m => !moveOk m) = true ∨ f.held.any (fun h => !heldOk h) = true then 2
  else if f.refs.any (fun r => !rightB r) = true then 2 else 0
def genV (V : List Ver) (n : List UInt8) (g : Int) : Option Ver := (fof V n).find? fun v => decide (v.gen = g)
def liveB (V : List Ver) (n : List UInt8) (g : Int) : Bool := match genV V n g with | none => false | some v => !v.gone
def nextG (V : List Ver) (n : List UInt8) : Int := topG (fof V n) + 1
def risesB (l : List (List UInt8 × Int)) : Bool := decide ((l.map (·.1)).Pairwise (· < ·))
def checkB (M : Bk) (f : Fa) : Int :=
  if checkF f ≠ 0 then checkF f
  else if f.k = 8 then (if f.time < M.now then 2 else 0)
  else if f.k = 3 then (if M.now < f.time then 2 else if f.gen < nextG M.V f.name then 10 else if (fof M.V f.name = [] ∧ (nms M.V).length = 64) ∨ (fof M.V f.name).length = 32 then 6 else 0)
  else if f.k = 4 then (if liveB M.V f.name f.gen = true then 0 else 9)
  else if f.k = 5 then (if M.now < f.time then 2 else if (sof M.S f.name).isSome then 10 else if M.S.length = 16 then 6 else if f.held.any (fun h => !liveB M.V h.1 h.2) = true then 9 else if risesB f.held = false then 4 else 0)
  else if f.k = 6 then (if (sof M.S f.name).isSome then 0 else 9)
  else 0
/-- Does a snapshot hold a generation? -/
def heldB (S : List Sn) (n : List UInt8) (g : Int) : Bool := S.any fun s => decide ((n, g) ∈ s.held)
def keepP (S : List Sn) (v : Ver) : Bool := heldB S v.name v.gen || !v.gone
def sweepV (S : List Sn) (V : List Ver) : List Ver := V.filter (keepP S)
def dropM (M : Bk) (n : List UInt8) (g : Int) : Bk := { M with V := sweepV M.S (markV M.V n g) }
def moveR (ms : List Mv) (r : Rf) : Rf := match ms.find? (fun m => decide (m.fb = r.bin ∧ m.fs = r.slot)) with | none => r | some m => { r with bin := m.tb, slot := m.ts }
def moveV (ms : List Mv) (v : Ver) : Ver := { v with refs := v.refs.map (moveR ms) }
def liveL (V : List Ver) (n : List UInt8) : List Ver := (fof V n).filter fun v => !v.gone
def addN (l : List Int) (x : Int) : List Int := if x ∈ l then l else l ++ [x]
/-- Does the i-th of live generations stay? -/
def staysB (now : Int) (f : Fa) (l : List Ver) (i : Nat) : Bool := match l[i]? with
  | none => true
  | some v => decide ((l.length - i : Int) ≤ f.last) || decide (now - f.young < v.time) ||
    (!((l.drop (i + 1)).any fun w => decide (w.time / f.step = v.time / f.step)) && decide (((l.filterMap fun w => if v.time / f.step < w.time / f.step then some (w.time / f.step) else none).foldl addN []).length < f.count))
def goesL (now : Int) (f : Fa) (k : List UInt8) (l : List Ver) (n : Nat) : List (List UInt8 × Int) := (List.range n).filterMap fun i => match l[i]? with | none => none | some v => if staysB now f l i then none else some (k, v.gen)
def expireL (M : Bk) (f : Fa) : List (List UInt8 × Int) := (nms M.V).flatMap fun k => goesL M.now f k (liveL M.V k) (liveL M.V k).length
def keepOk (f : Fa) : Bool := decide (0 ≤ f.last ∧ 0 ≤ f.young ∧ 1 ≤ f.step ∧ 0 ≤ f.count)
def dropF (h : List UInt8 × Int) : Fa := ⟨4, 0, 0, 0, h.1, h.2, 0, [], [], [], 0, 0, 0, 0⟩
def stepD (M : Bk) (h : List UInt8 × Int) : Bk := if checkB M (dropF h) ≠ 0 then M else dropM M h.1 h.2
def applyM (M : Bk) (f : Fa) : Bk :=
  if f.k = 8 then { M with now := f.time }
  else if f.k = 3 then { M with V := insV M.V ⟨f.name, f.gen, f.time, f.refs, false⟩ }
  else if f.k = 4 then dropM M f.name f.gen
  else if f.k = 5 then { M with S := insS M.S ⟨f.name, f.time, f.held⟩ }
  else if f.k = 6 then { M with S := M.S.filter fun s => decide (s.name ≠ f.name), V := sweepV (M.S.filter fun s => decide (s.name ≠ f.name)) M.V }
  else if f.k = 7 then { M with V := M.V.map (moveV f.moves) }
  else if f.k = 9 then (expireL M f).foldl stepD M
  else M
def stepM (M : Bk) (f : Fa) : Bk := if checkB M f ≠ 0 then M else applyM M f
end Go.Proofs.YtjafpncngmbcdaaGreat.Nam
