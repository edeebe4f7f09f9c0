/-
  No cell of these rows narrows 'for every input' (looked for: loops, veiled, ifaces, maps, wideKeys, modest, calm, conditions, laid).
  DERIVED. THE GIVEN ROWS OF THIS SEAT. 4 by the template 'for every input the law returns true; each argument reads behind the call as it read before'; 0 by the template 'total and deterministic' (their statements: YtmbfmkiagdhcoaaGreatTotals.lean).
  GIVEN WITH THE SEED: the statements are not yours to turn. If you find one false, say at which input.
  Laid BY PROGRAM, IN A SANDBOX (cutbox-rows.mjs): the forced cells as the released guide's own fill.sh prints them over the translation da450930b4b51ef2… (all of the seat's roots in one cut). By AI agents, Wed Nov 11 2026. No macro, syntax, notation, axiom, sorry.
-/
import Derived.Test.YtmbfmkiagdhcoaaGreatChecked
import GoSem.Claim
import GoSem.ClaimJoined
import GoSem.ClaimMapViews
import Derived.JoinedTies
import Derived.KernelRfl
namespace Go.Proofs.YtmbfmkiagdhcoaaGreat
/- THE CELL 'sum', in the pinned program and in every row, IS THE sha256 OF THE DUMP (.gsa) THAT YtmbfmkiagdhcoaaGreatProg.lean LOADS. Nothing in Lean hashes anything: it is a label: what it is worth is what the hold of that sum in a sandbox is worth. -/
noncomputable def Tryz.pinned : Pinned := { name := "ytmbfmkiagdhcoaagreat", sum := "da450930b4b51ef217cec6680818a0bd5ae0f25d6f8256c699f7e77112a2aa5d", checked := Tryz.checked }
namespace Rows
def none {H : Type} : Left H := { results := [], args := [] }

/-- 'aumbrylaw12.BinKeeps': WHATEVER THE INPUT: true; the input reads as it did. -/
def binKeepsSpec : ChangeSpec := { name := "binKeeps", fn := fun _ => fun
  | [d1, d2, d3, d4] => { results := [.lit (.bool true)], args := [d1, d2, d3, d4] }
  | _ => none }
def binKeepsRow : OpenClaim := { program := "ytmbfmkiagdhcoaagreat", sum := "da450930b4b51ef217cec6680818a0bd5ae0f25d6f8256c699f7e77112a2aa5d", func := "aumbry/aumbrylaw12.BinKeeps", spec := "binKeeps", inPlace := ["slices.overlaps[aumbry/api.Run]"], unfollowed := true, recurses := true, apart := false }
def BinKeepsSaid : Prop := binKeepsRow.holds Tryz.pinned (OpenSpec.ofChange binKeepsSpec)

/-- ITS FALSE NEIGHBOUR: 'it returns false'. Refute it at one input. -/
def binKeepsWrong : ChangeSpec := { name := "binKeeps", fn := fun _ => fun
  | [d1, d2, d3, d4] => { results := [.lit (.bool false)], args := [d1, d2, d3, d4] }
  | _ => none }
def BinKeepsWrongFalsely : Prop := binKeepsRow.holds Tryz.pinned (OpenSpec.ofChange binKeepsWrong)

/-- 'aumbrylaw12.BinNone': WHATEVER THE INPUT: true; the input reads as it did. -/
def binNoneSpec : ChangeSpec := { name := "binNone", fn := fun _ => fun
  | [d1, d2] => { results := [.lit (.bool true)], args := [d1, d2] }
  | _ => none }
def binNoneRow : OpenClaim := { program := "ytmbfmkiagdhcoaagreat", sum := "da450930b4b51ef217cec6680818a0bd5ae0f25d6f8256c699f7e77112a2aa5d", func := "aumbry/aumbrylaw12.BinNone", spec := "binNone", inPlace := ["slices.overlaps[aumbry/api.Run]"], unfollowed := true, recurses := true, apart := false }
def BinNoneSaid : Prop := binNoneRow.holds Tryz.pinned (OpenSpec.ofChange binNoneSpec)

/-- ITS FALSE NEIGHBOUR: 'it returns false'. Refute it at one input. -/
def binNoneWrong : ChangeSpec := { name := "binNone", fn := fun _ => fun
  | [d1, d2] => { results := [.lit (.bool false)], args := [d1, d2] }
  | _ => none }
def BinNoneWrongFalsely : Prop := binNoneRow.holds Tryz.pinned (OpenSpec.ofChange binNoneWrong)

/-- 'aumbrylaw12.BinPlays': WHATEVER THE INPUT: true; the input reads as it did. -/
def binPlaysSpec : ChangeSpec := { name := "binPlays", fn := fun _ => fun
  | [d1, d2, d3] => { results := [.lit (.bool true)], args := [d1, d2, d3] }
  | _ => none }
def binPlaysRow : OpenClaim := { program := "ytmbfmkiagdhcoaagreat", sum := "da450930b4b51ef217cec6680818a0bd5ae0f25d6f8256c699f7e77112a2aa5d", func := "aumbry/aumbrylaw12.BinPlays", spec := "binPlays", inPlace := ["slices.overlaps[aumbry/api.Run]"], unfollowed := true, recurses := true, apart := false }
def BinPlaysSaid : Prop := binPlaysRow.holds Tryz.pinned (OpenSpec.ofChange binPlaysSpec)

/-- ITS FALSE NEIGHBOUR: 'it returns false'. Refute it at one input. -/
def binPlaysWrong : ChangeSpec := { name := "binPlays", fn := fun _ => fun
  | [d1, d2, d3] => { results := [.lit (.bool false)], args := [d1, d2, d3] }
  | _ => none }
def BinPlaysWrongFalsely : Prop := binPlaysRow.holds Tryz.pinned (OpenSpec.ofChange binPlaysWrong)

/-- 'aumbrylaw12.BinLasts': WHATEVER THE INPUT: true; the input reads as it did. -/
def binLastsSpec : ChangeSpec := { name := "binLasts", fn := fun _ => fun
  | [d1, d2, d3, d4, d5] => { results := [.lit (.bool true)], args := [d1, d2, d3, d4, d5] }
  | _ => none }
def binLastsRow : OpenClaim := { program := "ytmbfmkiagdhcoaagreat", sum := "da450930b4b51ef217cec6680818a0bd5ae0f25d6f8256c699f7e77112a2aa5d", func := "aumbry/aumbrylaw12.BinLasts", spec := "binLasts", inPlace := ["slices.overlaps[aumbry/api.Run]"], unfollowed := true, recurses := true, apart := false }
def BinLastsSaid : Prop := binLastsRow.holds Tryz.pinned (OpenSpec.ofChange binLastsSpec)

/-- ITS FALSE NEIGHBOUR: 'it returns false'. Refute it at one input. -/
def binLastsWrong : ChangeSpec := { name := "binLasts", fn := fun _ => fun
  | [d1, d2, d3, d4, d5] => { results := [.lit (.bool false)], args := [d1, d2, d3, d4, d5] }
  | _ => none }
def BinLastsWrongFalsely : Prop := binLastsRow.holds Tryz.pinned (OpenSpec.ofChange binLastsWrong)

/- THE SECOND FORM. 'bulk': how many values and letters a reading holds, each counted each time it is reached (what is shared counts as often as it is met; a slice's spare places count too). A statement '..UptoSaid' is the law's where the arguments, and the package variables that the reading takes, are together of bulk at most 1048576: NARROWER than '..Said'. Prove '..Said' where nothing that the law and all that it calls make is longer than what came in: it says more and counts as full. Else prove '..UptoSaid'. A law counts once. -/
mutual
def uptoBulk {H : Type} : DataW H → Nat
  | .lit (.string bytes) => bytes.length + 1
  | .lit _ => 1
  | .nil => 1
  | .ptr d => uptoBulk d + 1
  | .slice elems spare => uptoBulkAll elems + uptoBulkAll spare + 1
  | .agg parts => uptoBulkAll parts + 1
  | .iface _ d => uptoBulk d + 1
  | .map entries => uptoBulkEntries entries + 1
  | .held _ => 1
def uptoBulkAll {H : Type} : List (DataW H) → Nat
  | [] => 0
  | d :: r => uptoBulk d + uptoBulkAll r
def uptoBulkEntries {H : Type} : List (Lit × DataW H) → Nat
  | [] => 0
  | x :: r => uptoBulkEntry x + uptoBulkEntries r
def uptoBulkEntry {H : Type} : Lit × DataW H → Nat
  | (.string bytes, d) => bytes.length + uptoBulk d + 1
  | (_, d) => uptoBulk d + 1
 end
def uptoSmall : (H : Type) → List (DataW H) → Bool := fun _ ds => decide (uptoBulkAll ds ≤ 1048576)
def OpenSpec.upto (s : _root_.Go.ChangeSpec) : _root_.Go.OpenSpec := { _root_.Go.OpenSpec.ofChange s with cond := some uptoSmall }

/-- 'aumbrylaw12.BinKeeps', WHERE WHAT IT READS IS OF BULK AT MOST 1048576: true; the input reads as it did. -/
def binKeepsUptoRow : OpenClaim := { program := "ytmbfmkiagdhcoaagreat", sum := "da450930b4b51ef217cec6680818a0bd5ae0f25d6f8256c699f7e77112a2aa5d", func := "aumbry/aumbrylaw12.BinKeeps", spec := "binKeeps", inPlace := ["slices.overlaps[aumbry/api.Run]"], unfollowed := true, recurses := true, apart := false, narrowed := true }
def BinKeepsUptoSaid : Prop := binKeepsUptoRow.holds Tryz.pinned (OpenSpec.upto binKeepsSpec)

/-- 'aumbrylaw12.BinNone', WHERE WHAT IT READS IS OF BULK AT MOST 1048576: true; the input reads as it did. -/
def binNoneUptoRow : OpenClaim := { program := "ytmbfmkiagdhcoaagreat", sum := "da450930b4b51ef217cec6680818a0bd5ae0f25d6f8256c699f7e77112a2aa5d", func := "aumbry/aumbrylaw12.BinNone", spec := "binNone", inPlace := ["slices.overlaps[aumbry/api.Run]"], unfollowed := true, recurses := true, apart := false, narrowed := true }
def BinNoneUptoSaid : Prop := binNoneUptoRow.holds Tryz.pinned (OpenSpec.upto binNoneSpec)

/-- 'aumbrylaw12.BinPlays', WHERE WHAT IT READS IS OF BULK AT MOST 1048576: true; the input reads as it did. -/
def binPlaysUptoRow : OpenClaim := { program := "ytmbfmkiagdhcoaagreat", sum := "da450930b4b51ef217cec6680818a0bd5ae0f25d6f8256c699f7e77112a2aa5d", func := "aumbry/aumbrylaw12.BinPlays", spec := "binPlays", inPlace := ["slices.overlaps[aumbry/api.Run]"], unfollowed := true, recurses := true, apart := false, narrowed := true }
def BinPlaysUptoSaid : Prop := binPlaysUptoRow.holds Tryz.pinned (OpenSpec.upto binPlaysSpec)

/-- 'aumbrylaw12.BinLasts', WHERE WHAT IT READS IS OF BULK AT MOST 1048576: true; the input reads as it did. -/
def binLastsUptoRow : OpenClaim := { program := "ytmbfmkiagdhcoaagreat", sum := "da450930b4b51ef217cec6680818a0bd5ae0f25d6f8256c699f7e77112a2aa5d", func := "aumbry/aumbrylaw12.BinLasts", spec := "binLasts", inPlace := ["slices.overlaps[aumbry/api.Run]"], unfollowed := true, recurses := true, apart := false, narrowed := true }
def BinLastsUptoSaid : Prop := binLastsUptoRow.holds Tryz.pinned (OpenSpec.upto binLastsSpec)

end Rows
end Go.Proofs.YtmbfmkiagdhcoaaGreat
