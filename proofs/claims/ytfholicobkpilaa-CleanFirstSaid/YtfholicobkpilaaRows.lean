/-
  No cell of these rows narrows 'for every input' (looked for: loops, veiled, ifaces, maps, wideKeys, modest, calm, conditions, laid).
  DERIVED. THE GIVEN ROWS OF THIS SEAT. 11 by the template 'for every input the law returns true; each argument reads behind the call as it read before'; 0 by the template 'total and deterministic' (their statements: YtfholicobkpilaaTotals.lean).
  GIVEN WITH THE SEED: the statements are not yours to turn. If you find one false, say at which input.
  Laid BY PROGRAM, IN A SANDBOX (cutbox-rows.mjs): the forced cells as the released guide's own fill.sh prints them over the translation df0f4f23af756027… (all of the seat's roots in one cut). By AI agents, Wed Nov 11 2026. No macro, syntax, notation, axiom, sorry.
-/
import Derived.Test.YtfholicobkpilaaChecked
import GoSem.Claim
import GoSem.ClaimJoined
import GoSem.ClaimMapViews
import Derived.JoinedTies
import Derived.KernelRfl
namespace Go.Proofs.Ytfholicobkpilaa
/- THE CELL 'sum', in the pinned program and in every row, IS THE sha256 OF THE DUMP (.gsa) THAT YtfholicobkpilaaProg.lean LOADS. Nothing in Lean hashes anything: it is a label: what it is worth is what the hold of that sum in a sandbox is worth. -/
noncomputable def Try.pinned : Pinned := { name := "ytfholicobkpilaa", sum := "df0f4f23af756027f99976129e30d2c30d0cfe7c93770333ab8e99cf99cfa521", checked := Try.checked }
namespace Rows
def none {H : Type} : Left H := { results := [], args := [] }

/-- 'aumbrylaw03.DiskNew': WHATEVER THE INPUT: true; the input reads as it did. -/
def diskNewSpec : ChangeSpec := { name := "diskNew", fn := fun _ => fun
  | [d] => { results := [.lit (.bool true)], args := [d] }
  | _ => none }
def diskNewRow : OpenClaim := { program := "ytfholicobkpilaa", sum := "df0f4f23af756027f99976129e30d2c30d0cfe7c93770333ab8e99cf99cfa521", func := "aumbry/aumbrylaw03.DiskNew", spec := "diskNew", unfollowed := true, recurses := true, plainKeys := false, apart := false }
def DiskNewSaid : Prop := diskNewRow.holds Try.pinned (OpenSpec.ofChange diskNewSpec)

/-- ITS FALSE NEIGHBOUR: 'it returns false'. Refute it at one input. -/
def diskNewWrong : ChangeSpec := { name := "diskNew", fn := fun _ => fun
  | [d] => { results := [.lit (.bool false)], args := [d] }
  | _ => none }
def DiskNewWrongFalsely : Prop := diskNewRow.holds Try.pinned (OpenSpec.ofChange diskNewWrong)

/-- 'aumbrylaw03.DiskLasts': WHATEVER THE INPUT: true; the input reads as it did. -/
def diskLastsSpec : ChangeSpec := { name := "diskLasts", fn := fun _ => fun
  | [d1, d2, d3, d4] => { results := [.lit (.bool true)], args := [d1, d2, d3, d4] }
  | _ => none }
def diskLastsRow : OpenClaim := { program := "ytfholicobkpilaa", sum := "df0f4f23af756027f99976129e30d2c30d0cfe7c93770333ab8e99cf99cfa521", func := "aumbry/aumbrylaw03.DiskLasts", spec := "diskLasts", unfollowed := true, recurses := true, plainKeys := false, apart := false }
def DiskLastsSaid : Prop := diskLastsRow.holds Try.pinned (OpenSpec.ofChange diskLastsSpec)

/-- ITS FALSE NEIGHBOUR: 'it returns false'. Refute it at one input. -/
def diskLastsWrong : ChangeSpec := { name := "diskLasts", fn := fun _ => fun
  | [d1, d2, d3, d4] => { results := [.lit (.bool false)], args := [d1, d2, d3, d4] }
  | _ => none }
def DiskLastsWrongFalsely : Prop := diskLastsRow.holds Try.pinned (OpenSpec.ofChange diskLastsWrong)

/-- 'aumbrylaw03.DiskTorn': WHATEVER THE INPUT: true; the input reads as it did. -/
def diskTornSpec : ChangeSpec := { name := "diskTorn", fn := fun _ => fun
  | [d1, d2, d3] => { results := [.lit (.bool true)], args := [d1, d2, d3] }
  | _ => none }
def diskTornRow : OpenClaim := { program := "ytfholicobkpilaa", sum := "df0f4f23af756027f99976129e30d2c30d0cfe7c93770333ab8e99cf99cfa521", func := "aumbry/aumbrylaw03.DiskTorn", spec := "diskTorn", unfollowed := true, recurses := true, plainKeys := false, apart := false }
def DiskTornSaid : Prop := diskTornRow.holds Try.pinned (OpenSpec.ofChange diskTornSpec)

/-- ITS FALSE NEIGHBOUR: 'it returns false'. Refute it at one input. -/
def diskTornWrong : ChangeSpec := { name := "diskTorn", fn := fun _ => fun
  | [d1, d2, d3] => { results := [.lit (.bool false)], args := [d1, d2, d3] }
  | _ => none }
def DiskTornWrongFalsely : Prop := diskTornRow.holds Try.pinned (OpenSpec.ofChange diskTornWrong)

/-- 'aumbrylaw03.DiskPlays': WHATEVER THE INPUT: true; the input reads as it did. -/
def diskPlaysSpec : ChangeSpec := { name := "diskPlays", fn := fun _ => fun
  | [d1, d2] => { results := [.lit (.bool true)], args := [d1, d2] }
  | _ => none }
def diskPlaysRow : OpenClaim := { program := "ytfholicobkpilaa", sum := "df0f4f23af756027f99976129e30d2c30d0cfe7c93770333ab8e99cf99cfa521", func := "aumbry/aumbrylaw03.DiskPlays", spec := "diskPlays", unfollowed := true, recurses := true, plainKeys := false, apart := false }
def DiskPlaysSaid : Prop := diskPlaysRow.holds Try.pinned (OpenSpec.ofChange diskPlaysSpec)

/-- ITS FALSE NEIGHBOUR: 'it returns false'. Refute it at one input. -/
def diskPlaysWrong : ChangeSpec := { name := "diskPlays", fn := fun _ => fun
  | [d1, d2] => { results := [.lit (.bool false)], args := [d1, d2] }
  | _ => none }
def DiskPlaysWrongFalsely : Prop := diskPlaysRow.holds Try.pinned (OpenSpec.ofChange diskPlaysWrong)

/-- 'aumbrylaw03.DiskAll': WHATEVER THE INPUT: true; the input reads as it did. -/
def diskAllSpec : ChangeSpec := { name := "diskAll", fn := fun _ => fun
  | [d1, d2, d3] => { results := [.lit (.bool true)], args := [d1, d2, d3] }
  | _ => none }
def diskAllRow : OpenClaim := { program := "ytfholicobkpilaa", sum := "df0f4f23af756027f99976129e30d2c30d0cfe7c93770333ab8e99cf99cfa521", func := "aumbry/aumbrylaw03.DiskAll", spec := "diskAll", inPlace := ["maps.clone"], unfollowed := true, recurses := true, plainKeys := false, apart := false }
def DiskAllSaid : Prop := diskAllRow.holds Try.pinned (OpenSpec.ofChange diskAllSpec)

/-- ITS FALSE NEIGHBOUR: 'it returns false'. Refute it at one input. -/
def diskAllWrong : ChangeSpec := { name := "diskAll", fn := fun _ => fun
  | [d1, d2, d3] => { results := [.lit (.bool false)], args := [d1, d2, d3] }
  | _ => none }
def DiskAllWrongFalsely : Prop := diskAllRow.holds Try.pinned (OpenSpec.ofChange diskAllWrong)

/-- 'aumbrylaw03.DiskForks': WHATEVER THE INPUT: true; the input reads as it did. -/
def diskForksSpec : ChangeSpec := { name := "diskForks", fn := fun _ => fun
  | [d1, d2, d3, d4] => { results := [.lit (.bool true)], args := [d1, d2, d3, d4] }
  | _ => none }
def diskForksRow : OpenClaim := { program := "ytfholicobkpilaa", sum := "df0f4f23af756027f99976129e30d2c30d0cfe7c93770333ab8e99cf99cfa521", func := "aumbry/aumbrylaw03.DiskForks", spec := "diskForks", inPlace := ["maps.clone"], unfollowed := true, recurses := true, plainKeys := false, apart := false }
def DiskForksSaid : Prop := diskForksRow.holds Try.pinned (OpenSpec.ofChange diskForksSpec)

/-- ITS FALSE NEIGHBOUR: 'it returns false'. Refute it at one input. -/
def diskForksWrong : ChangeSpec := { name := "diskForks", fn := fun _ => fun
  | [d1, d2, d3, d4] => { results := [.lit (.bool false)], args := [d1, d2, d3, d4] }
  | _ => none }
def DiskForksWrongFalsely : Prop := diskForksRow.holds Try.pinned (OpenSpec.ofChange diskForksWrong)

/-- 'aumbrylaw18.CleanChooses': WHATEVER THE INPUT: true; the input reads as it did. -/
def cleanChoosesSpec : ChangeSpec := { name := "cleanChooses", fn := fun _ => fun
  | [d1, d2, d3] => { results := [.lit (.bool true)], args := [d1, d2, d3] }
  | _ => none }
def cleanChoosesRow : OpenClaim := { program := "ytfholicobkpilaa", sum := "df0f4f23af756027f99976129e30d2c30d0cfe7c93770333ab8e99cf99cfa521", func := "aumbry/aumbrylaw18.CleanChooses", spec := "cleanChooses", unfollowed := true, recurses := true, plainKeys := false, apart := false }
def CleanChoosesSaid : Prop := cleanChoosesRow.holds Try.pinned (OpenSpec.ofChange cleanChoosesSpec)

/-- ITS FALSE NEIGHBOUR: 'it returns false'. Refute it at one input. -/
def cleanChoosesWrong : ChangeSpec := { name := "cleanChooses", fn := fun _ => fun
  | [d1, d2, d3] => { results := [.lit (.bool false)], args := [d1, d2, d3] }
  | _ => none }
def CleanChoosesWrongFalsely : Prop := cleanChoosesRow.holds Try.pinned (OpenSpec.ofChange cleanChoosesWrong)

/-- 'aumbrylaw18.CleanAll': WHATEVER THE INPUT: true; the input reads as it did. -/
def cleanAllSpec : ChangeSpec := { name := "cleanAll", fn := fun _ => fun
  | [d1, d2] => { results := [.lit (.bool true)], args := [d1, d2] }
  | _ => none }
def cleanAllRow : OpenClaim := { program := "ytfholicobkpilaa", sum := "df0f4f23af756027f99976129e30d2c30d0cfe7c93770333ab8e99cf99cfa521", func := "aumbry/aumbrylaw18.CleanAll", spec := "cleanAll", unfollowed := true, recurses := true, plainKeys := false, apart := false }
def CleanAllSaid : Prop := cleanAllRow.holds Try.pinned (OpenSpec.ofChange cleanAllSpec)

/-- ITS FALSE NEIGHBOUR: 'it returns false'. Refute it at one input. -/
def cleanAllWrong : ChangeSpec := { name := "cleanAll", fn := fun _ => fun
  | [d1, d2] => { results := [.lit (.bool false)], args := [d1, d2] }
  | _ => none }
def CleanAllWrongFalsely : Prop := cleanAllRow.holds Try.pinned (OpenSpec.ofChange cleanAllWrong)

/-- 'aumbrylaw18.CleanFirst': WHATEVER THE INPUT: true; the input reads as it did. -/
def cleanFirstSpec : ChangeSpec := { name := "cleanFirst", fn := fun _ => fun
  | [d1, d2, d3] => { results := [.lit (.bool true)], args := [d1, d2, d3] }
  | _ => none }
def cleanFirstRow : OpenClaim := { program := "ytfholicobkpilaa", sum := "df0f4f23af756027f99976129e30d2c30d0cfe7c93770333ab8e99cf99cfa521", func := "aumbry/aumbrylaw18.CleanFirst", spec := "cleanFirst", unfollowed := true, recurses := true, plainKeys := false, apart := false }
def CleanFirstSaid : Prop := cleanFirstRow.holds Try.pinned (OpenSpec.ofChange cleanFirstSpec)

/-- ITS FALSE NEIGHBOUR: 'it returns false'. Refute it at one input. -/
def cleanFirstWrong : ChangeSpec := { name := "cleanFirst", fn := fun _ => fun
  | [d1, d2, d3] => { results := [.lit (.bool false)], args := [d1, d2, d3] }
  | _ => none }
def CleanFirstWrongFalsely : Prop := cleanFirstRow.holds Try.pinned (OpenSpec.ofChange cleanFirstWrong)

/-- 'aumbrylaw18.CleanCopies': WHATEVER THE INPUT: true; the input reads as it did. -/
def cleanCopiesSpec : ChangeSpec := { name := "cleanCopies", fn := fun _ => fun
  | [d1, d2] => { results := [.lit (.bool true)], args := [d1, d2] }
  | _ => none }
def cleanCopiesRow : OpenClaim := { program := "ytfholicobkpilaa", sum := "df0f4f23af756027f99976129e30d2c30d0cfe7c93770333ab8e99cf99cfa521", func := "aumbry/aumbrylaw18.CleanCopies", spec := "cleanCopies", unfollowed := true, recurses := true, plainKeys := false, apart := false }
def CleanCopiesSaid : Prop := cleanCopiesRow.holds Try.pinned (OpenSpec.ofChange cleanCopiesSpec)

/-- ITS FALSE NEIGHBOUR: 'it returns false'. Refute it at one input. -/
def cleanCopiesWrong : ChangeSpec := { name := "cleanCopies", fn := fun _ => fun
  | [d1, d2] => { results := [.lit (.bool false)], args := [d1, d2] }
  | _ => none }
def CleanCopiesWrongFalsely : Prop := cleanCopiesRow.holds Try.pinned (OpenSpec.ofChange cleanCopiesWrong)

/-- 'aumbrylaw18.CleanShares': WHATEVER THE INPUT: true; the input reads as it did. -/
def cleanSharesSpec : ChangeSpec := { name := "cleanShares", fn := fun _ => fun
  | [d1, d2] => { results := [.lit (.bool true)], args := [d1, d2] }
  | _ => none }
def cleanSharesRow : OpenClaim := { program := "ytfholicobkpilaa", sum := "df0f4f23af756027f99976129e30d2c30d0cfe7c93770333ab8e99cf99cfa521", func := "aumbry/aumbrylaw18.CleanShares", spec := "cleanShares", unfollowed := true, recurses := true, plainKeys := false, apart := false }
def CleanSharesSaid : Prop := cleanSharesRow.holds Try.pinned (OpenSpec.ofChange cleanSharesSpec)

/-- ITS FALSE NEIGHBOUR: 'it returns false'. Refute it at one input. -/
def cleanSharesWrong : ChangeSpec := { name := "cleanShares", fn := fun _ => fun
  | [d1, d2] => { results := [.lit (.bool false)], args := [d1, d2] }
  | _ => none }
def CleanSharesWrongFalsely : Prop := cleanSharesRow.holds Try.pinned (OpenSpec.ofChange cleanSharesWrong)

/- THE SECOND FORM. 'bulk': how many values and letters a reading holds, each counted each time it is reached (what is shared counts as often as it is met; a slice's spare places count too). A statement '..UptoSaid' is the law's where the arguments, and the package variables that the reading takes, are together of bulk at most 1048576: NARROWER than '..Said'. Prove '..Said' where nothing that the law and all that it calls make is longer than what came in: it says more and counts as full. Else prove '..UptoSaid'. A law counts once. -/
mutual
def uptoBulk {H : Type} : DataW H → Nat
  | .lit (.string bytes) => bytes.length + 1
  | .lit _ => 1
  | .nil => 1
  | .ptr d => uptoBulk d + 1
  | .slice elems spare => uptoBulkAll elems + uptoBulkAll spare + 1
  | .agg parts => uptoBulkAll parts + 1
  | .iface _ d => uptoBulk d + 1
  | .map entries => uptoBulkEntries entries + 1
  | .held _ => 1
def uptoBulkAll {H : Type} : List (DataW H) → Nat
  | [] => 0
  | d :: r => uptoBulk d + uptoBulkAll r
def uptoBulkEntries {H : Type} : List (Lit × DataW H) → Nat
  | [] => 0
  | x :: r => uptoBulkEntry x + uptoBulkEntries r
def uptoBulkEntry {H : Type} : Lit × DataW H → Nat
  | (.string bytes, d) => bytes.length + uptoBulk d + 1
  | (_, d) => uptoBulk d + 1
 end
def uptoSmall : (H : Type) → List (DataW H) → Bool := fun _ ds => decide (uptoBulkAll ds ≤ 1048576)
def OpenSpec.upto (s : _root_.Go.ChangeSpec) : _root_.Go.OpenSpec := { _root_.Go.OpenSpec.ofChange s with cond := some uptoSmall }

/-- 'aumbrylaw03.DiskNew', WHERE WHAT IT READS IS OF BULK AT MOST 1048576: true; the input reads as it did. -/
def diskNewUptoRow : OpenClaim := { program := "ytfholicobkpilaa", sum := "df0f4f23af756027f99976129e30d2c30d0cfe7c93770333ab8e99cf99cfa521", func := "aumbry/aumbrylaw03.DiskNew", spec := "diskNew", unfollowed := true, recurses := true, plainKeys := false, apart := false, narrowed := true }
def DiskNewUptoSaid : Prop := diskNewUptoRow.holds Try.pinned (OpenSpec.upto diskNewSpec)

/-- 'aumbrylaw03.DiskLasts', WHERE WHAT IT READS IS OF BULK AT MOST 1048576: true; the input reads as it did. -/
def diskLastsUptoRow : OpenClaim := { program := "ytfholicobkpilaa", sum := "df0f4f23af756027f99976129e30d2c30d0cfe7c93770333ab8e99cf99cfa521", func := "aumbry/aumbrylaw03.DiskLasts", spec := "diskLasts", unfollowed := true, recurses := true, plainKeys := false, apart := false, narrowed := true }
def DiskLastsUptoSaid : Prop := diskLastsUptoRow.holds Try.pinned (OpenSpec.upto diskLastsSpec)

/-- 'aumbrylaw03.DiskTorn', WHERE WHAT IT READS IS OF BULK AT MOST 1048576: true; the input reads as it did. -/
def diskTornUptoRow : OpenClaim := { program := "ytfholicobkpilaa", sum := "df0f4f23af756027f99976129e30d2c30d0cfe7c93770333ab8e99cf99cfa521", func := "aumbry/aumbrylaw03.DiskTorn", spec := "diskTorn", unfollowed := true, recurses := true, plainKeys := false, apart := false, narrowed := true }
def DiskTornUptoSaid : Prop := diskTornUptoRow.holds Try.pinned (OpenSpec.upto diskTornSpec)

/-- 'aumbrylaw03.DiskPlays', WHERE WHAT IT READS IS OF BULK AT MOST 1048576: true; the input reads as it did. -/
def diskPlaysUptoRow : OpenClaim := { program := "ytfholicobkpilaa", sum := "df0f4f23af756027f99976129e30d2c30d0cfe7c93770333ab8e99cf99cfa521", func := "aumbry/aumbrylaw03.DiskPlays", spec := "diskPlays", unfollowed := true, recurses := true, plainKeys := false, apart := false, narrowed := true }
def DiskPlaysUptoSaid : Prop := diskPlaysUptoRow.holds Try.pinned (OpenSpec.upto diskPlaysSpec)

/-- 'aumbrylaw03.DiskAll', WHERE WHAT IT READS IS OF BULK AT MOST 1048576: true; the input reads as it did. -/
def diskAllUptoRow : OpenClaim := { program := "ytfholicobkpilaa", sum := "df0f4f23af756027f99976129e30d2c30d0cfe7c93770333ab8e99cf99cfa521", func := "aumbry/aumbrylaw03.DiskAll", spec := "diskAll", inPlace := ["maps.clone"], unfollowed := true, recurses := true, plainKeys := false, apart := false, narrowed := true }
def DiskAllUptoSaid : Prop := diskAllUptoRow.holds Try.pinned (OpenSpec.upto diskAllSpec)

/-- 'aumbrylaw03.DiskForks', WHERE WHAT IT READS IS OF BULK AT MOST 1048576: true; the input reads as it did. -/
def diskForksUptoRow : OpenClaim := { program := "ytfholicobkpilaa", sum := "df0f4f23af756027f99976129e30d2c30d0cfe7c93770333ab8e99cf99cfa521", func := "aumbry/aumbrylaw03.DiskForks", spec := "diskForks", inPlace := ["maps.clone"], unfollowed := true, recurses := true, plainKeys := false, apart := false, narrowed := true }
def DiskForksUptoSaid : Prop := diskForksUptoRow.holds Try.pinned (OpenSpec.upto diskForksSpec)

/-- 'aumbrylaw18.CleanChooses', WHERE WHAT IT READS IS OF BULK AT MOST 1048576: true; the input reads as it did. -/
def cleanChoosesUptoRow : OpenClaim := { program := "ytfholicobkpilaa", sum := "df0f4f23af756027f99976129e30d2c30d0cfe7c93770333ab8e99cf99cfa521", func := "aumbry/aumbrylaw18.CleanChooses", spec := "cleanChooses", unfollowed := true, recurses := true, plainKeys := false, apart := false, narrowed := true }
def CleanChoosesUptoSaid : Prop := cleanChoosesUptoRow.holds Try.pinned (OpenSpec.upto cleanChoosesSpec)

/-- 'aumbrylaw18.CleanAll', WHERE WHAT IT READS IS OF BULK AT MOST 1048576: true; the input reads as it did. -/
def cleanAllUptoRow : OpenClaim := { program := "ytfholicobkpilaa", sum := "df0f4f23af756027f99976129e30d2c30d0cfe7c93770333ab8e99cf99cfa521", func := "aumbry/aumbrylaw18.CleanAll", spec := "cleanAll", unfollowed := true, recurses := true, plainKeys := false, apart := false, narrowed := true }
def CleanAllUptoSaid : Prop := cleanAllUptoRow.holds Try.pinned (OpenSpec.upto cleanAllSpec)

/-- 'aumbrylaw18.CleanFirst', WHERE WHAT IT READS IS OF BULK AT MOST 1048576: true; the input reads as it did. -/
def cleanFirstUptoRow : OpenClaim := { program := "ytfholicobkpilaa", sum := "df0f4f23af756027f99976129e30d2c30d0cfe7c93770333ab8e99cf99cfa521", func := "aumbry/aumbrylaw18.CleanFirst", spec := "cleanFirst", unfollowed := true, recurses := true, plainKeys := false, apart := false, narrowed := true }
def CleanFirstUptoSaid : Prop := cleanFirstUptoRow.holds Try.pinned (OpenSpec.upto cleanFirstSpec)

/-- 'aumbrylaw18.CleanCopies', WHERE WHAT IT READS IS OF BULK AT MOST 1048576: true; the input reads as it did. -/
def cleanCopiesUptoRow : OpenClaim := { program := "ytfholicobkpilaa", sum := "df0f4f23af756027f99976129e30d2c30d0cfe7c93770333ab8e99cf99cfa521", func := "aumbry/aumbrylaw18.CleanCopies", spec := "cleanCopies", unfollowed := true, recurses := true, plainKeys := false, apart := false, narrowed := true }
def CleanCopiesUptoSaid : Prop := cleanCopiesUptoRow.holds Try.pinned (OpenSpec.upto cleanCopiesSpec)

/-- 'aumbrylaw18.CleanShares', WHERE WHAT IT READS IS OF BULK AT MOST 1048576: true; the input reads as it did. -/
def cleanSharesUptoRow : OpenClaim := { program := "ytfholicobkpilaa", sum := "df0f4f23af756027f99976129e30d2c30d0cfe7c93770333ab8e99cf99cfa521", func := "aumbry/aumbrylaw18.CleanShares", spec := "cleanShares", unfollowed := true, recurses := true, plainKeys := false, apart := false, narrowed := true }
def CleanSharesUptoSaid : Prop := cleanSharesUptoRow.holds Try.pinned (OpenSpec.upto cleanSharesSpec)

end Rows
end Go.Proofs.Ytfholicobkpilaa
