/-
  No cell of these rows narrows 'for every input' (looked for: loops, veiled, ifaces, maps, wideKeys, modest, calm, conditions, laid).
  DERIVED. THE GIVEN ROWS OF THIS SEAT. 6 by the template 'for every input the law returns true; each argument reads behind the call as it read before'; 0 by the template 'total and deterministic' (their statements: YtjafpncngmbcdaaGreatTotals.lean).
  GIVEN WITH THE SEED: the statements are not yours to turn. If you find one false, say at which input.
  Laid BY PROGRAM, IN A SANDBOX (cutbox-rows.mjs): the forced cells as the released guide's own fill.sh prints them over the translation 5bd3fc01c624dcec… (all of the seat's roots in one cut). By AI agents, Wed Nov 11 2026. No macro, syntax, notation, axiom, sorry.
-/
import Derived.Test.YtjafpncngmbcdaaGreatChecked
import GoSem.Claim
import GoSem.ClaimJoined
import GoSem.ClaimMapViews
import Derived.JoinedTies
import Derived.KernelRfl
namespace Go.Proofs.YtjafpncngmbcdaaGreat
/- THE CELL 'sum', in the pinned program and in every row, IS THE sha256 OF THE DUMP (.gsa) THAT YtjafpncngmbcdaaGreatProg.lean LOADS. Nothing in Lean hashes anything: it is a label: what it is worth is what the hold of that sum in a sandbox is worth. -/
noncomputable def Tryz.pinned : Pinned := { name := "ytjafpncngmbcdaagreat", sum := "5bd3fc01c624dcece2309618c39aef108386b6a11713c8aad6abc395a893a865", checked := Tryz.checked }
namespace Rows
def none {H : Type} : Left H := { results := [], args := [] }

/-- 'aumbrylaw16.NamesPlays': WHATEVER THE INPUT: true; the input reads as it did. -/
def namesPlaysSpec : ChangeSpec := { name := "namesPlays", fn := fun _ => fun
  | [d] => { results := [.lit (.bool true)], args := [d] }
  | _ => none }
def namesPlaysRow : OpenClaim := { program := "ytjafpncngmbcdaagreat", sum := "5bd3fc01c624dcece2309618c39aef108386b6a11713c8aad6abc395a893a865", func := "aumbry/aumbrylaw16.NamesPlays", spec := "namesPlays", inPlace := ["internal/bytealg.abigen_runtime_cmpstring"], unfollowed := true, recurses := true, plainKeys := false, apart := false }
def NamesPlaysSaid : Prop := namesPlaysRow.holds Tryz.pinned (OpenSpec.ofChange namesPlaysSpec)

/-- ITS FALSE NEIGHBOUR: 'it returns false'. Refute it at one input. -/
def namesPlaysWrong : ChangeSpec := { name := "namesPlays", fn := fun _ => fun
  | [d] => { results := [.lit (.bool false)], args := [d] }
  | _ => none }
def NamesPlaysWrongFalsely : Prop := namesPlaysRow.holds Tryz.pinned (OpenSpec.ofChange namesPlaysWrong)

/-- 'aumbrylaw16.NamesTells': WHATEVER THE INPUT: true; the input reads as it did. -/
def namesTellsSpec : ChangeSpec := { name := "namesTells", fn := fun _ => fun
  | [d1, d2, d3, d4] => { results := [.lit (.bool true)], args := [d1, d2, d3, d4] }
  | _ => none }
def namesTellsRow : OpenClaim := { program := "ytjafpncngmbcdaagreat", sum := "5bd3fc01c624dcece2309618c39aef108386b6a11713c8aad6abc395a893a865", func := "aumbry/aumbrylaw16.NamesTells", spec := "namesTells", inPlace := ["internal/bytealg.abigen_runtime_cmpstring"], unfollowed := true, recurses := true, plainKeys := false, apart := false }
def NamesTellsSaid : Prop := namesTellsRow.holds Tryz.pinned (OpenSpec.ofChange namesTellsSpec)

/-- ITS FALSE NEIGHBOUR: 'it returns false'. Refute it at one input. -/
def namesTellsWrong : ChangeSpec := { name := "namesTells", fn := fun _ => fun
  | [d1, d2, d3, d4] => { results := [.lit (.bool false)], args := [d1, d2, d3, d4] }
  | _ => none }
def NamesTellsWrongFalsely : Prop := namesTellsRow.holds Tryz.pinned (OpenSpec.ofChange namesTellsWrong)

/-- 'aumbrylaw16.NamesExpires': WHATEVER THE INPUT: true; the input reads as it did. -/
def namesExpiresSpec : ChangeSpec := { name := "namesExpires", fn := fun _ => fun
  | [d1, d2] => { results := [.lit (.bool true)], args := [d1, d2] }
  | _ => none }
def namesExpiresRow : OpenClaim := { program := "ytjafpncngmbcdaagreat", sum := "5bd3fc01c624dcece2309618c39aef108386b6a11713c8aad6abc395a893a865", func := "aumbry/aumbrylaw16.NamesExpires", spec := "namesExpires", inPlace := ["internal/bytealg.abigen_runtime_cmpstring"], unfollowed := true, recurses := true, plainKeys := false, apart := false }
def NamesExpiresSaid : Prop := namesExpiresRow.holds Tryz.pinned (OpenSpec.ofChange namesExpiresSpec)

/-- ITS FALSE NEIGHBOUR: 'it returns false'. Refute it at one input. -/
def namesExpiresWrong : ChangeSpec := { name := "namesExpires", fn := fun _ => fun
  | [d1, d2] => { results := [.lit (.bool false)], args := [d1, d2] }
  | _ => none }
def NamesExpiresWrongFalsely : Prop := namesExpiresRow.holds Tryz.pinned (OpenSpec.ofChange namesExpiresWrong)

/-- 'aumbrylaw16.NamesHolds': WHATEVER THE INPUT: true; the input reads as it did. -/
def namesHoldsSpec : ChangeSpec := { name := "namesHolds", fn := fun _ => fun
  | [d1, d2, d3] => { results := [.lit (.bool true)], args := [d1, d2, d3] }
  | _ => none }
def namesHoldsRow : OpenClaim := { program := "ytjafpncngmbcdaagreat", sum := "5bd3fc01c624dcece2309618c39aef108386b6a11713c8aad6abc395a893a865", func := "aumbry/aumbrylaw16.NamesHolds", spec := "namesHolds", inPlace := ["internal/bytealg.abigen_runtime_cmpstring"], unfollowed := true, recurses := true, plainKeys := false, apart := false }
def NamesHoldsSaid : Prop := namesHoldsRow.holds Tryz.pinned (OpenSpec.ofChange namesHoldsSpec)

/-- ITS FALSE NEIGHBOUR: 'it returns false'. Refute it at one input. -/
def namesHoldsWrong : ChangeSpec := { name := "namesHolds", fn := fun _ => fun
  | [d1, d2, d3] => { results := [.lit (.bool false)], args := [d1, d2, d3] }
  | _ => none }
def NamesHoldsWrongFalsely : Prop := namesHoldsRow.holds Tryz.pinned (OpenSpec.ofChange namesHoldsWrong)

/-- 'aumbrylaw16.NamesLive': WHATEVER THE INPUT: true; the input reads as it did. -/
def namesLiveSpec : ChangeSpec := { name := "namesLive", fn := fun _ => fun
  | [d] => { results := [.lit (.bool true)], args := [d] }
  | _ => none }
def namesLiveRow : OpenClaim := { program := "ytjafpncngmbcdaagreat", sum := "5bd3fc01c624dcece2309618c39aef108386b6a11713c8aad6abc395a893a865", func := "aumbry/aumbrylaw16.NamesLive", spec := "namesLive", inPlace := ["internal/bytealg.abigen_runtime_cmpstring"], unfollowed := true, recurses := true, plainKeys := false, apart := false }
def NamesLiveSaid : Prop := namesLiveRow.holds Tryz.pinned (OpenSpec.ofChange namesLiveSpec)

/-- ITS FALSE NEIGHBOUR: 'it returns false'. Refute it at one input. -/
def namesLiveWrong : ChangeSpec := { name := "namesLive", fn := fun _ => fun
  | [d] => { results := [.lit (.bool false)], args := [d] }
  | _ => none }
def NamesLiveWrongFalsely : Prop := namesLiveRow.holds Tryz.pinned (OpenSpec.ofChange namesLiveWrong)

/-- 'aumbrylaw16.NamesForks': WHATEVER THE INPUT: true; the input reads as it did. -/
def namesForksSpec : ChangeSpec := { name := "namesForks", fn := fun _ => fun
  | [d1, d2, d3] => { results := [.lit (.bool true)], args := [d1, d2, d3] }
  | _ => none }
def namesForksRow : OpenClaim := { program := "ytjafpncngmbcdaagreat", sum := "5bd3fc01c624dcece2309618c39aef108386b6a11713c8aad6abc395a893a865", func := "aumbry/aumbrylaw16.NamesForks", spec := "namesForks", inPlace := ["internal/bytealg.abigen_runtime_cmpstring", "maps.clone"], unfollowed := true, recurses := true, plainKeys := false, apart := false }
def NamesForksSaid : Prop := namesForksRow.holds Tryz.pinned (OpenSpec.ofChange namesForksSpec)

/-- ITS FALSE NEIGHBOUR: 'it returns false'. Refute it at one input. -/
def namesForksWrong : ChangeSpec := { name := "namesForks", fn := fun _ => fun
  | [d1, d2, d3] => { results := [.lit (.bool false)], args := [d1, d2, d3] }
  | _ => none }
def NamesForksWrongFalsely : Prop := namesForksRow.holds Tryz.pinned (OpenSpec.ofChange namesForksWrong)

/- THE SECOND FORM. 'bulk': how many values and letters a reading holds, each counted each time it is reached (what is shared counts as often as it is met; a slice's spare places count too). A statement '..UptoSaid' is the law's where the arguments, and the package variables that the reading takes, are together of bulk at most 1048576: NARROWER than '..Said'. Prove '..Said' where nothing that the law and all that it calls make is longer than what came in: it says more and counts as full. Else prove '..UptoSaid'. A law counts once. -/
mutual
def uptoBulk {H : Type} : DataW H → Nat
  | .lit (.string bytes) => bytes.length + 1
  | .lit _ => 1
  | .nil => 1
  | .ptr d => uptoBulk d + 1
  | .slice elems spare => uptoBulkAll elems + uptoBulkAll spare + 1
  | .agg parts => uptoBulkAll parts + 1
  | .iface _ d => uptoBulk d + 1
  | .map entries => uptoBulkEntries entries + 1
  | .held _ => 1
def uptoBulkAll {H : Type} : List (DataW H) → Nat
  | [] => 0
  | d :: r => uptoBulk d + uptoBulkAll r
def uptoBulkEntries {H : Type} : List (Lit × DataW H) → Nat
  | [] => 0
  | x :: r => uptoBulkEntry x + uptoBulkEntries r
def uptoBulkEntry {H : Type} : Lit × DataW H → Nat
  | (.string bytes, d) => bytes.length + uptoBulk d + 1
  | (_, d) => uptoBulk d + 1
 end
def uptoSmall : (H : Type) → List (DataW H) → Bool := fun _ ds => decide (uptoBulkAll ds ≤ 1048576)
def OpenSpec.upto (s : _root_.Go.ChangeSpec) : _root_.Go.OpenSpec := { _root_.Go.OpenSpec.ofChange s with cond := some uptoSmall }

/-- 'aumbrylaw16.NamesPlays', WHERE WHAT IT READS IS OF BULK AT MOST 1048576: true; the input reads as it did. -/
def namesPlaysUptoRow : OpenClaim := { program := "ytjafpncngmbcdaagreat", sum := "5bd3fc01c624dcece2309618c39aef108386b6a11713c8aad6abc395a893a865", func := "aumbry/aumbrylaw16.NamesPlays", spec := "namesPlays", inPlace := ["internal/bytealg.abigen_runtime_cmpstring"], unfollowed := true, recurses := true, plainKeys := false, apart := false, narrowed := true }
def NamesPlaysUptoSaid : Prop := namesPlaysUptoRow.holds Tryz.pinned (OpenSpec.upto namesPlaysSpec)

/-- 'aumbrylaw16.NamesTells', WHERE WHAT IT READS IS OF BULK AT MOST 1048576: true; the input reads as it did. -/
def namesTellsUptoRow : OpenClaim := { program := "ytjafpncngmbcdaagreat", sum := "5bd3fc01c624dcece2309618c39aef108386b6a11713c8aad6abc395a893a865", func := "aumbry/aumbrylaw16.NamesTells", spec := "namesTells", inPlace := ["internal/bytealg.abigen_runtime_cmpstring"], unfollowed := true, recurses := true, plainKeys := false, apart := false, narrowed := true }
def NamesTellsUptoSaid : Prop := namesTellsUptoRow.holds Tryz.pinned (OpenSpec.upto namesTellsSpec)

/-- 'aumbrylaw16.NamesExpires', WHERE WHAT IT READS IS OF BULK AT MOST 1048576: true; the input reads as it did. -/
def namesExpiresUptoRow : OpenClaim := { program := "ytjafpncngmbcdaagreat", sum := "5bd3fc01c624dcece2309618c39aef108386b6a11713c8aad6abc395a893a865", func := "aumbry/aumbrylaw16.NamesExpires", spec := "namesExpires", inPlace := ["internal/bytealg.abigen_runtime_cmpstring"], unfollowed := true, recurses := true, plainKeys := false, apart := false, narrowed := true }
def NamesExpiresUptoSaid : Prop := namesExpiresUptoRow.holds Tryz.pinned (OpenSpec.upto namesExpiresSpec)

/-- 'aumbrylaw16.NamesHolds', WHERE WHAT IT READS IS OF BULK AT MOST 1048576: true; the input reads as it did. -/
def namesHoldsUptoRow : OpenClaim := { program := "ytjafpncngmbcdaagreat", sum := "5bd3fc01c624dcece2309618c39aef108386b6a11713c8aad6abc395a893a865", func := "aumbry/aumbrylaw16.NamesHolds", spec := "namesHolds", inPlace := ["internal/bytealg.abigen_runtime_cmpstring"], unfollowed := true, recurses := true, plainKeys := false, apart := false, narrowed := true }
def NamesHoldsUptoSaid : Prop := namesHoldsUptoRow.holds Tryz.pinned (OpenSpec.upto namesHoldsSpec)

/-- 'aumbrylaw16.NamesLive', WHERE WHAT IT READS IS OF BULK AT MOST 1048576: true; the input reads as it did. -/
def namesLiveUptoRow : OpenClaim := { program := "ytjafpncngmbcdaagreat", sum := "5bd3fc01c624dcece2309618c39aef108386b6a11713c8aad6abc395a893a865", func := "aumbry/aumbrylaw16.NamesLive", spec := "namesLive", inPlace := ["internal/bytealg.abigen_runtime_cmpstring"], unfollowed := true, recurses := true, plainKeys := false, apart := false, narrowed := true }
def NamesLiveUptoSaid : Prop := namesLiveUptoRow.holds Tryz.pinned (OpenSpec.upto namesLiveSpec)

/-- 'aumbrylaw16.NamesForks', WHERE WHAT IT READS IS OF BULK AT MOST 1048576: true; the input reads as it did. -/
def namesForksUptoRow : OpenClaim := { program := "ytjafpncngmbcdaagreat", sum := "5bd3fc01c624dcece2309618c39aef108386b6a11713c8aad6abc395a893a865", func := "aumbry/aumbrylaw16.NamesForks", spec := "namesForks", inPlace := ["internal/bytealg.abigen_runtime_cmpstring", "maps.clone"], unfollowed := true, recurses := true, plainKeys := false, apart := false, narrowed := true }
def NamesForksUptoSaid : Prop := namesForksUptoRow.holds Tryz.pinned (OpenSpec.upto namesForksSpec)

end Rows
end Go.Proofs.YtjafpncngmbcdaaGreat
