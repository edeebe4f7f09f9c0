/-
  No cell of these rows narrows 'for every input' (looked for: loops, veiled, ifaces, maps, wideKeys, modest, calm, conditions, laid).
  DERIVED. THE GIVEN ROWS OF THIS SEAT. 4 by the template 'for every input the law returns true; each argument reads behind the call as it read before'; 0 by the template 'total and deterministic' (their statements: YtabpaknfenpkoaaGreatTotals.lean).
  GIVEN WITH THE SEED: the statements are not yours to turn. If you find one false, say at which input.
  Laid BY PROGRAM, IN A SANDBOX (cutbox-rows.mjs): the forced cells as the released guide's own fill.sh prints them over the translation 8ace9a07ad00ec28… (all of the seat's roots in one cut). By AI agents, Wed Nov 11 2026. No macro, syntax, notation, axiom, sorry.
-/
import Derived.Test.YtabpaknfenpkoaaGreatChecked
import GoSem.Claim
import GoSem.ClaimJoined
import GoSem.ClaimMapViews
import Derived.JoinedTies
import Derived.KernelRfl
namespace Go.Proofs.YtabpaknfenpkoaaGreat
/- THE CELL 'sum', in the pinned program and in every row, IS THE sha256 OF THE DUMP (.gsa) THAT YtabpaknfenpkoaaGreatProg.lean LOADS. Nothing in Lean hashes anything: it is a label: what it is worth is what the hold of that sum in a sandbox is worth. -/
noncomputable def Tryz.pinned : Pinned := { name := "ytabpaknfenpkoaagreat", sum := "8ace9a07ad00ec2865ce5b79077b2124d4edd6aff97465c27dfb59f027bf860f", checked := Tryz.checked }
namespace Rows
def none {H : Type} : Left H := { results := [], args := [] }

/-- 'aumbrylaw21.ModelPlays': WHATEVER THE INPUT: true; the input reads as it did. -/
def modelPlaysSpec : ChangeSpec := { name := "modelPlays", fn := fun _ => fun
  | [d1, d2, d3, d4, d5] => { results := [.lit (.bool true)], args := [d1, d2, d3, d4, d5] }
  | _ => none }
def modelPlaysRow : OpenClaim := { program := "ytabpaknfenpkoaagreat", sum := "8ace9a07ad00ec2865ce5b79077b2124d4edd6aff97465c27dfb59f027bf860f", func := "aumbry/aumbrylaw21.ModelPlays", spec := "modelPlays", unfollowed := true, recurses := true, apart := false }
def ModelPlaysSaid : Prop := modelPlaysRow.holds Tryz.pinned (OpenSpec.ofChange modelPlaysSpec)

/-- ITS FALSE NEIGHBOUR: 'it returns false'. Refute it at one input. -/
def modelPlaysWrong : ChangeSpec := { name := "modelPlays", fn := fun _ => fun
  | [d1, d2, d3, d4, d5] => { results := [.lit (.bool false)], args := [d1, d2, d3, d4, d5] }
  | _ => none }
def ModelPlaysWrongFalsely : Prop := modelPlaysRow.holds Tryz.pinned (OpenSpec.ofChange modelPlaysWrong)

/-- 'aumbrylaw21.ModelShows': WHATEVER THE INPUT: true; the input reads as it did. -/
def modelShowsSpec : ChangeSpec := { name := "modelShows", fn := fun _ => fun
  | [d1, d2, d3, d4, d5] => { results := [.lit (.bool true)], args := [d1, d2, d3, d4, d5] }
  | _ => none }
def modelShowsRow : OpenClaim := { program := "ytabpaknfenpkoaagreat", sum := "8ace9a07ad00ec2865ce5b79077b2124d4edd6aff97465c27dfb59f027bf860f", func := "aumbry/aumbrylaw21.ModelShows", spec := "modelShows", unfollowed := true, recurses := true, apart := false }
def ModelShowsSaid : Prop := modelShowsRow.holds Tryz.pinned (OpenSpec.ofChange modelShowsSpec)

/-- ITS FALSE NEIGHBOUR: 'it returns false'. Refute it at one input. -/
def modelShowsWrong : ChangeSpec := { name := "modelShows", fn := fun _ => fun
  | [d1, d2, d3, d4, d5] => { results := [.lit (.bool false)], args := [d1, d2, d3, d4, d5] }
  | _ => none }
def ModelShowsWrongFalsely : Prop := modelShowsRow.holds Tryz.pinned (OpenSpec.ofChange modelShowsWrong)

/-- 'aumbrylaw21.ModelFails': WHATEVER THE INPUT: true; the input reads as it did. -/
def modelFailsSpec : ChangeSpec := { name := "modelFails", fn := fun _ => fun
  | [d1, d2, d3] => { results := [.lit (.bool true)], args := [d1, d2, d3] }
  | _ => none }
def modelFailsRow : OpenClaim := { program := "ytabpaknfenpkoaagreat", sum := "8ace9a07ad00ec2865ce5b79077b2124d4edd6aff97465c27dfb59f027bf860f", func := "aumbry/aumbrylaw21.ModelFails", spec := "modelFails", inPlace := ["maps.clone"], unfollowed := true, recurses := true, apart := false }
def ModelFailsSaid : Prop := modelFailsRow.holds Tryz.pinned (OpenSpec.ofChange modelFailsSpec)

/-- ITS FALSE NEIGHBOUR: 'it returns false'. Refute it at one input. -/
def modelFailsWrong : ChangeSpec := { name := "modelFails", fn := fun _ => fun
  | [d1, d2, d3] => { results := [.lit (.bool false)], args := [d1, d2, d3] }
  | _ => none }
def ModelFailsWrongFalsely : Prop := modelFailsRow.holds Tryz.pinned (OpenSpec.ofChange modelFailsWrong)

/-- 'aumbrylaw21.ModelForks': WHATEVER THE INPUT: true; the input reads as it did. -/
def modelForksSpec : ChangeSpec := { name := "modelForks", fn := fun _ => fun
  | [d1, d2, d3] => { results := [.lit (.bool true)], args := [d1, d2, d3] }
  | _ => none }
def modelForksRow : OpenClaim := { program := "ytabpaknfenpkoaagreat", sum := "8ace9a07ad00ec2865ce5b79077b2124d4edd6aff97465c27dfb59f027bf860f", func := "aumbry/aumbrylaw21.ModelForks", spec := "modelForks", inPlace := ["maps.clone"], unfollowed := true, recurses := true, apart := false }
def ModelForksSaid : Prop := modelForksRow.holds Tryz.pinned (OpenSpec.ofChange modelForksSpec)

/-- ITS FALSE NEIGHBOUR: 'it returns false'. Refute it at one input. -/
def modelForksWrong : ChangeSpec := { name := "modelForks", fn := fun _ => fun
  | [d1, d2, d3] => { results := [.lit (.bool false)], args := [d1, d2, d3] }
  | _ => none }
def ModelForksWrongFalsely : Prop := modelForksRow.holds Tryz.pinned (OpenSpec.ofChange modelForksWrong)

/- THE SECOND FORM. 'bulk': how many values and letters a reading holds, each counted each time it is reached (what is shared counts as often as it is met; a slice's spare places count too). A statement '..UptoSaid' is the law's where the arguments, and the package variables that the reading takes, are together of bulk at most 1048576: NARROWER than '..Said'. Prove '..Said' where nothing that the law and all that it calls make is longer than what came in: it says more and counts as full. Else prove '..UptoSaid'. A law counts once. -/
mutual
def uptoBulk {H : Type} : DataW H → Nat
  | .lit (.string bytes) => bytes.length + 1
  | .lit _ => 1
  | .nil => 1
  | .ptr d => uptoBulk d + 1
  | .slice elems spare => uptoBulkAll elems + uptoBulkAll spare + 1
  | .agg parts => uptoBulkAll parts + 1
  | .iface _ d => uptoBulk d + 1
  | .map entries => uptoBulkEntries entries + 1
  | .held _ => 1
def uptoBulkAll {H : Type} : List (DataW H) → Nat
  | [] => 0
  | d :: r => uptoBulk d + uptoBulkAll r
def uptoBulkEntries {H : Type} : List (Lit × DataW H) → Nat
  | [] => 0
  | x :: r => uptoBulkEntry x + uptoBulkEntries r
def uptoBulkEntry {H : Type} : Lit × DataW H → Nat
  | (.string bytes, d) => bytes.length + uptoBulk d + 1
  | (_, d) => uptoBulk d + 1
 end
def uptoSmall : (H : Type) → List (DataW H) → Bool := fun _ ds => decide (uptoBulkAll ds ≤ 1048576)
def OpenSpec.upto (s : _root_.Go.ChangeSpec) : _root_.Go.OpenSpec := { _root_.Go.OpenSpec.ofChange s with cond := some uptoSmall }

/-- 'aumbrylaw21.ModelPlays', WHERE WHAT IT READS IS OF BULK AT MOST 1048576: true; the input reads as it did. -/
def modelPlaysUptoRow : OpenClaim := { program := "ytabpaknfenpkoaagreat", sum := "8ace9a07ad00ec2865ce5b79077b2124d4edd6aff97465c27dfb59f027bf860f", func := "aumbry/aumbrylaw21.ModelPlays", spec := "modelPlays", unfollowed := true, recurses := true, apart := false, narrowed := true }
def ModelPlaysUptoSaid : Prop := modelPlaysUptoRow.holds Tryz.pinned (OpenSpec.upto modelPlaysSpec)

/-- 'aumbrylaw21.ModelShows', WHERE WHAT IT READS IS OF BULK AT MOST 1048576: true; the input reads as it did. -/
def modelShowsUptoRow : OpenClaim := { program := "ytabpaknfenpkoaagreat", sum := "8ace9a07ad00ec2865ce5b79077b2124d4edd6aff97465c27dfb59f027bf860f", func := "aumbry/aumbrylaw21.ModelShows", spec := "modelShows", unfollowed := true, recurses := true, apart := false, narrowed := true }
def ModelShowsUptoSaid : Prop := modelShowsUptoRow.holds Tryz.pinned (OpenSpec.upto modelShowsSpec)

/-- 'aumbrylaw21.ModelFails', WHERE WHAT IT READS IS OF BULK AT MOST 1048576: true; the input reads as it did. -/
def modelFailsUptoRow : OpenClaim := { program := "ytabpaknfenpkoaagreat", sum := "8ace9a07ad00ec2865ce5b79077b2124d4edd6aff97465c27dfb59f027bf860f", func := "aumbry/aumbrylaw21.ModelFails", spec := "modelFails", inPlace := ["maps.clone"], unfollowed := true, recurses := true, apart := false, narrowed := true }
def ModelFailsUptoSaid : Prop := modelFailsUptoRow.holds Tryz.pinned (OpenSpec.upto modelFailsSpec)

/-- 'aumbrylaw21.ModelForks', WHERE WHAT IT READS IS OF BULK AT MOST 1048576: true; the input reads as it did. -/
def modelForksUptoRow : OpenClaim := { program := "ytabpaknfenpkoaagreat", sum := "8ace9a07ad00ec2865ce5b79077b2124d4edd6aff97465c27dfb59f027bf860f", func := "aumbry/aumbrylaw21.ModelForks", spec := "modelForks", inPlace := ["maps.clone"], unfollowed := true, recurses := true, apart := false, narrowed := true }
def ModelForksUptoSaid : Prop := modelForksUptoRow.holds Tryz.pinned (OpenSpec.upto modelForksSpec)

end Rows
end Go.Proofs.YtabpaknfenpkoaaGreat
