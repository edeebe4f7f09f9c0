/-
  No cell of these rows narrows 'for every input' (looked for: loops, veiled, ifaces, maps, wideKeys, modest, calm, conditions, laid).
  DERIVED. THE GIVEN ROWS OF THIS SEAT. 5 by the template 'for every input the law returns true; each argument reads behind the call as it read before'; 0 by the template 'total and deterministic' (their statements: YtblgkgobakhigaaTotals.lean).
  GIVEN WITH THE SEED: the statements are not yours to turn. If you find one false, say at which input.
  Laid BY PROGRAM, IN A SANDBOX (cutbox-rows.mjs): the forced cells as the released guide's own fill.sh prints them over the translation 20afb3e8400294c5… (all of the seat's roots in one cut). By AI agents, Wed Nov 11 2026. No macro, syntax, notation, axiom, sorry.
-/
import Derived.Test.YtblgkgobakhigaaChecked
import GoSem.Claim
import GoSem.ClaimJoined
import GoSem.ClaimMapViews
import Derived.JoinedTies
import Derived.KernelRfl
namespace Go.Proofs.Ytblgkgobakhigaa
/- THE CELL 'sum', in the pinned program and in every row, IS THE sha256 OF THE DUMP (.gsa) THAT YtblgkgobakhigaaProg.lean LOADS. Nothing in Lean hashes anything: it is a label: what it is worth is what the hold of that sum in a sandbox is worth. -/
noncomputable def Try.pinned : Pinned := { name := "ytblgkgobakhigaa", sum := "20afb3e8400294c540ded6b6d83e6b175f016b80e430fec5106e03e916edd97a", checked := Try.checked }
namespace Rows
def none {H : Type} : Left H := { results := [], args := [] }

/-- 'aumbrylaw25.CodeLengths': WHATEVER THE INPUT: true; the input reads as it did. -/
def codeLengthsSpec : ChangeSpec := { name := "codeLengths", fn := fun _ => fun
  | [d] => { results := [.lit (.bool true)], args := [d] }
  | _ => none }
def codeLengthsRow : OpenClaim := { program := "ytblgkgobakhigaa", sum := "20afb3e8400294c540ded6b6d83e6b175f016b80e430fec5106e03e916edd97a", func := "aumbry/aumbrylaw25.CodeLengths", spec := "codeLengths", inPlace := ["internal/abi.NoEscape"], unfollowed := true, recurses := true, apart := false }
def CodeLengthsSaid : Prop := codeLengthsRow.holds Try.pinned (OpenSpec.ofChange codeLengthsSpec)

/-- ITS FALSE NEIGHBOUR: 'it returns false'. Refute it at one input. -/
def codeLengthsWrong : ChangeSpec := { name := "codeLengths", fn := fun _ => fun
  | [d] => { results := [.lit (.bool false)], args := [d] }
  | _ => none }
def CodeLengthsWrongFalsely : Prop := codeLengthsRow.holds Try.pinned (OpenSpec.ofChange codeLengthsWrong)

/-- 'aumbrylaw25.CodeWords': WHATEVER THE INPUT: true; the input reads as it did. -/
def codeWordsSpec : ChangeSpec := { name := "codeWords", fn := fun _ => fun
  | [d] => { results := [.lit (.bool true)], args := [d] }
  | _ => none }
def codeWordsRow : OpenClaim := { program := "ytblgkgobakhigaa", sum := "20afb3e8400294c540ded6b6d83e6b175f016b80e430fec5106e03e916edd97a", func := "aumbry/aumbrylaw25.CodeWords", spec := "codeWords", inPlace := ["internal/abi.NoEscape"], unfollowed := true, recurses := true, apart := false }
def CodeWordsSaid : Prop := codeWordsRow.holds Try.pinned (OpenSpec.ofChange codeWordsSpec)

/-- ITS FALSE NEIGHBOUR: 'it returns false'. Refute it at one input. -/
def codeWordsWrong : ChangeSpec := { name := "codeWords", fn := fun _ => fun
  | [d] => { results := [.lit (.bool false)], args := [d] }
  | _ => none }
def CodeWordsWrongFalsely : Prop := codeWordsRow.holds Try.pinned (OpenSpec.ofChange codeWordsWrong)

/-- 'aumbrylaw25.CodePuts': WHATEVER THE INPUT: true; the input reads as it did. -/
def codePutsSpec : ChangeSpec := { name := "codePuts", fn := fun _ => fun
  | [d] => { results := [.lit (.bool true)], args := [d] }
  | _ => none }
def codePutsRow : OpenClaim := { program := "ytblgkgobakhigaa", sum := "20afb3e8400294c540ded6b6d83e6b175f016b80e430fec5106e03e916edd97a", func := "aumbry/aumbrylaw25.CodePuts", spec := "codePuts", inPlace := ["internal/abi.NoEscape"], unfollowed := true, recurses := true, apart := false }
def CodePutsSaid : Prop := codePutsRow.holds Try.pinned (OpenSpec.ofChange codePutsSpec)

/-- ITS FALSE NEIGHBOUR: 'it returns false'. Refute it at one input. -/
def codePutsWrong : ChangeSpec := { name := "codePuts", fn := fun _ => fun
  | [d] => { results := [.lit (.bool false)], args := [d] }
  | _ => none }
def CodePutsWrongFalsely : Prop := codePutsRow.holds Try.pinned (OpenSpec.ofChange codePutsWrong)

/-- 'aumbrylaw25.CodeBest': WHATEVER THE INPUT: true; the input reads as it did. -/
def codeBestSpec : ChangeSpec := { name := "codeBest", fn := fun _ => fun
  | [d1, d2] => { results := [.lit (.bool true)], args := [d1, d2] }
  | _ => none }
def codeBestRow : OpenClaim := { program := "ytblgkgobakhigaa", sum := "20afb3e8400294c540ded6b6d83e6b175f016b80e430fec5106e03e916edd97a", func := "aumbry/aumbrylaw25.CodeBest", spec := "codeBest", inPlace := ["internal/abi.NoEscape"], unfollowed := true, recurses := true, apart := false }
def CodeBestSaid : Prop := codeBestRow.holds Try.pinned (OpenSpec.ofChange codeBestSpec)

/-- ITS FALSE NEIGHBOUR: 'it returns false'. Refute it at one input. -/
def codeBestWrong : ChangeSpec := { name := "codeBest", fn := fun _ => fun
  | [d1, d2] => { results := [.lit (.bool false)], args := [d1, d2] }
  | _ => none }
def CodeBestWrongFalsely : Prop := codeBestRow.holds Try.pinned (OpenSpec.ofChange codeBestWrong)

/-- 'aumbrylaw25.CodeBack': WHATEVER THE INPUT: true; the input reads as it did. -/
def codeBackSpec : ChangeSpec := { name := "codeBack", fn := fun _ => fun
  | [d] => { results := [.lit (.bool true)], args := [d] }
  | _ => none }
def codeBackRow : OpenClaim := { program := "ytblgkgobakhigaa", sum := "20afb3e8400294c540ded6b6d83e6b175f016b80e430fec5106e03e916edd97a", func := "aumbry/aumbrylaw25.CodeBack", spec := "codeBack", inPlace := ["internal/abi.NoEscape"], unfollowed := true, recurses := true, apart := false }
def CodeBackSaid : Prop := codeBackRow.holds Try.pinned (OpenSpec.ofChange codeBackSpec)

/-- ITS FALSE NEIGHBOUR: 'it returns false'. Refute it at one input. -/
def codeBackWrong : ChangeSpec := { name := "codeBack", fn := fun _ => fun
  | [d] => { results := [.lit (.bool false)], args := [d] }
  | _ => none }
def CodeBackWrongFalsely : Prop := codeBackRow.holds Try.pinned (OpenSpec.ofChange codeBackWrong)

/- THE SECOND FORM. 'bulk': how many values and letters a reading holds, each counted each time it is reached (what is shared counts as often as it is met; a slice's spare places count too). A statement '..UptoSaid' is the law's where the arguments, and the package variables that the reading takes, are together of bulk at most 1048576: NARROWER than '..Said'. Prove '..Said' where nothing that the law and all that it calls make is longer than what came in: it says more and counts as full. Else prove '..UptoSaid'. A law counts once. -/
mutual
def uptoBulk {H : Type} : DataW H → Nat
  | .lit (.string bytes) => bytes.length + 1
  | .lit _ => 1
  | .nil => 1
  | .ptr d => uptoBulk d + 1
  | .slice elems spare => uptoBulkAll elems + uptoBulkAll spare + 1
  | .agg parts => uptoBulkAll parts + 1
  | .iface _ d => uptoBulk d + 1
  | .map entries => uptoBulkEntries entries + 1
  | .held _ => 1
def uptoBulkAll {H : Type} : List (DataW H) → Nat
  | [] => 0
  | d :: r => uptoBulk d + uptoBulkAll r
def uptoBulkEntries {H : Type} : List (Lit × DataW H) → Nat
  | [] => 0
  | x :: r => uptoBulkEntry x + uptoBulkEntries r
def uptoBulkEntry {H : Type} : Lit × DataW H → Nat
  | (.string bytes, d) => bytes.length + uptoBulk d + 1
  | (_, d) => uptoBulk d + 1
 end
def uptoSmall : (H : Type) → List (DataW H) → Bool := fun _ ds => decide (uptoBulkAll ds ≤ 1048576)
def OpenSpec.upto (s : _root_.Go.ChangeSpec) : _root_.Go.OpenSpec := { _root_.Go.OpenSpec.ofChange s with cond := some uptoSmall }

/-- 'aumbrylaw25.CodeLengths', WHERE WHAT IT READS IS OF BULK AT MOST 1048576: true; the input reads as it did. -/
def codeLengthsUptoRow : OpenClaim := { program := "ytblgkgobakhigaa", sum := "20afb3e8400294c540ded6b6d83e6b175f016b80e430fec5106e03e916edd97a", func := "aumbry/aumbrylaw25.CodeLengths", spec := "codeLengths", inPlace := ["internal/abi.NoEscape"], unfollowed := true, recurses := true, apart := false, narrowed := true }
def CodeLengthsUptoSaid : Prop := codeLengthsUptoRow.holds Try.pinned (OpenSpec.upto codeLengthsSpec)

/-- 'aumbrylaw25.CodeWords', WHERE WHAT IT READS IS OF BULK AT MOST 1048576: true; the input reads as it did. -/
def codeWordsUptoRow : OpenClaim := { program := "ytblgkgobakhigaa", sum := "20afb3e8400294c540ded6b6d83e6b175f016b80e430fec5106e03e916edd97a", func := "aumbry/aumbrylaw25.CodeWords", spec := "codeWords", inPlace := ["internal/abi.NoEscape"], unfollowed := true, recurses := true, apart := false, narrowed := true }
def CodeWordsUptoSaid : Prop := codeWordsUptoRow.holds Try.pinned (OpenSpec.upto codeWordsSpec)

/-- 'aumbrylaw25.CodePuts', WHERE WHAT IT READS IS OF BULK AT MOST 1048576: true; the input reads as it did. -/
def codePutsUptoRow : OpenClaim := { program := "ytblgkgobakhigaa", sum := "20afb3e8400294c540ded6b6d83e6b175f016b80e430fec5106e03e916edd97a", func := "aumbry/aumbrylaw25.CodePuts", spec := "codePuts", inPlace := ["internal/abi.NoEscape"], unfollowed := true, recurses := true, apart := false, narrowed := true }
def CodePutsUptoSaid : Prop := codePutsUptoRow.holds Try.pinned (OpenSpec.upto codePutsSpec)

/-- 'aumbrylaw25.CodeBest', WHERE WHAT IT READS IS OF BULK AT MOST 1048576: true; the input reads as it did. -/
def codeBestUptoRow : OpenClaim := { program := "ytblgkgobakhigaa", sum := "20afb3e8400294c540ded6b6d83e6b175f016b80e430fec5106e03e916edd97a", func := "aumbry/aumbrylaw25.CodeBest", spec := "codeBest", inPlace := ["internal/abi.NoEscape"], unfollowed := true, recurses := true, apart := false, narrowed := true }
def CodeBestUptoSaid : Prop := codeBestUptoRow.holds Try.pinned (OpenSpec.upto codeBestSpec)

/-- 'aumbrylaw25.CodeBack', WHERE WHAT IT READS IS OF BULK AT MOST 1048576: true; the input reads as it did. -/
def codeBackUptoRow : OpenClaim := { program := "ytblgkgobakhigaa", sum := "20afb3e8400294c540ded6b6d83e6b175f016b80e430fec5106e03e916edd97a", func := "aumbry/aumbrylaw25.CodeBack", spec := "codeBack", inPlace := ["internal/abi.NoEscape"], unfollowed := true, recurses := true, apart := false, narrowed := true }
def CodeBackUptoSaid : Prop := codeBackUptoRow.holds Try.pinned (OpenSpec.upto codeBackSpec)

end Rows
end Go.Proofs.Ytblgkgobakhigaa
