/-
  DERIVED. GIVEN WITH THE SEED: THE CARDS: each row of YtmbfmkiagdhcoaaDoorRows.lean that lists a variable, with what it lists TIED to the program's text (the seventh form; the later family's looks); each row that meets fmt, with fmt's text TOLD by the authors' own Lean function (tested against real Go, not proved from fmt's source: count such statements apart). THE CARD IS WHAT COUNTS. Prove the row's statement (the work); the ties are given (YtmbfmkiagdhcoaaDoorTie.lean); close each card by the builder's one call (the guide's Derived/Test/ToyasCard.lean, 'card_holds'). Laid BY PROGRAM, IN A SANDBOX (cutbox-door.mjs). By AI agents, Wed Nov 11 2026. No macro, syntax, notation, axiom, sorry.
-/
import Derived.Test.YtmbfmkiagdhcoaaDoorRows
import GoSem.ClaimSeven
namespace Go.Proofs.YtmbfmkiagdhcoaaDoor
namespace Rows

/-- THE TIED CARD OF 'aumbrylaw05.SlotSeen'. -/
def slotSeenCard : Claim7 := { stood := { row := slotSeenRow, standIns := [], harness := (true, "ce19f9e2085dbe62378e0455d9c309b2399ccc77abc160dfedcdeb2119fe7019"), looks := false }, kinds := [], alts := [], laidByText := true, laidKinds := [.data, .pinned], laidTests := true, laidLooks := .later }
def SlotSeenCardSaid : Prop := Claim7.holds Tryd.pinned (.plain (OpenSpec.ofChange slotSeenSpec)) slotSeenCard

/-- THE TIED CARD OF 'aumbrylaw05.SlotNone'. -/
def slotNoneCard : Claim7 := { stood := { row := slotNoneRow, standIns := [], harness := (true, "ce19f9e2085dbe62378e0455d9c309b2399ccc77abc160dfedcdeb2119fe7019"), looks := false }, kinds := [], alts := [], laidByText := true, laidKinds := [.data, .pinned], laidTests := true, laidLooks := .later }
def SlotNoneCardSaid : Prop := Claim7.holds Tryd.pinned (.plain (OpenSpec.ofChange slotNoneSpec)) slotNoneCard

/-- THE TIED CARD OF 'aumbrylaw05.SlotTorn'. -/
def slotTornCard : Claim7 := { stood := { row := slotTornRow, standIns := [], harness := (true, "ce19f9e2085dbe62378e0455d9c309b2399ccc77abc160dfedcdeb2119fe7019"), looks := false }, kinds := [], alts := [], laidByText := true, laidKinds := [.data, .pinned], laidTests := true, laidLooks := .later }
def SlotTornCardSaid : Prop := Claim7.holds Tryd.pinned (.plain (OpenSpec.ofChange slotTornSpec)) slotTornCard

/-- THE SECOND FORM's CARD OF 'aumbrylaw05.SlotSeen'. -/
def slotSeenUptoCard : Claim7 := { stood := { row := slotSeenUptoRow, standIns := [], harness := (true, "ce19f9e2085dbe62378e0455d9c309b2399ccc77abc160dfedcdeb2119fe7019"), looks := false }, kinds := [], alts := [], laidByText := true, laidKinds := [.data, .pinned], laidTests := true, laidLooks := .later }
def SlotSeenUptoCardSaid : Prop := Claim7.holds Tryd.pinned (.plain (OpenSpec.upto slotSeenSpec)) slotSeenUptoCard

/-- THE SECOND FORM's CARD OF 'aumbrylaw05.SlotNone'. -/
def slotNoneUptoCard : Claim7 := { stood := { row := slotNoneUptoRow, standIns := [], harness := (true, "ce19f9e2085dbe62378e0455d9c309b2399ccc77abc160dfedcdeb2119fe7019"), looks := false }, kinds := [], alts := [], laidByText := true, laidKinds := [.data, .pinned], laidTests := true, laidLooks := .later }
def SlotNoneUptoCardSaid : Prop := Claim7.holds Tryd.pinned (.plain (OpenSpec.upto slotNoneSpec)) slotNoneUptoCard

/-- THE SECOND FORM's CARD OF 'aumbrylaw05.SlotTorn'. -/
def slotTornUptoCard : Claim7 := { stood := { row := slotTornUptoRow, standIns := [], harness := (true, "ce19f9e2085dbe62378e0455d9c309b2399ccc77abc160dfedcdeb2119fe7019"), looks := false }, kinds := [], alts := [], laidByText := true, laidKinds := [.data, .pinned], laidTests := true, laidLooks := .later }
def SlotTornUptoCardSaid : Prop := Claim7.holds Tryd.pinned (.plain (OpenSpec.upto slotTornSpec)) slotTornUptoCard
end Rows
end Go.Proofs.YtmbfmkiagdhcoaaDoor
