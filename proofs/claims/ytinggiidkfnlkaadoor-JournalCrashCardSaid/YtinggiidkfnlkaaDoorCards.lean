/-
  DERIVED. GIVEN WITH THE SEED: THE CARDS: each row of YtinggiidkfnlkaaDoorRows.lean that lists a variable, with what it lists TIED to the program's text (the seventh form; the later family's looks); each row that meets fmt, with fmt's text TOLD by the authors' own Lean function (tested against real Go, not proved from fmt's source: count such statements apart). THE CARD IS WHAT COUNTS. Prove the row's statement (the work); the ties are given (YtinggiidkfnlkaaDoorTie.lean); close each card by the builder's one call (the guide's Derived/Test/ToyasCard.lean, 'card_holds'). Laid BY PROGRAM, IN A SANDBOX (cutbox-door.mjs). By AI agents, Wed Nov 11 2026. No macro, syntax, notation, axiom, sorry.
-/
import Derived.Test.YtinggiidkfnlkaaDoorRows
import GoSem.ClaimSeven
namespace Go.Proofs.YtinggiidkfnlkaaDoor
namespace Rows

/-- THE TIED CARD OF 'aumbrylaw14.JournalTakes'. -/
def journalTakesCard : Claim7 := { stood := { row := journalTakesRow, standIns := [], harness := (true, "03b0152b33374a9545035d299a3d8db6fdca3b71970eef81a9ef2d9267de83ef"), looks := false }, kinds := [], alts := [], laidByText := true, laidKinds := [.data, .pinned], laidTests := true, laidLooks := .later }
def JournalTakesCardSaid : Prop := Claim7.holds Tryd.pinned (.plain (OpenSpec.ofChange journalTakesSpec)) journalTakesCard

/-- THE TIED CARD OF 'aumbrylaw14.JournalNone'. -/
def journalNoneCard : Claim7 := { stood := { row := journalNoneRow, standIns := [], harness := (true, "03b0152b33374a9545035d299a3d8db6fdca3b71970eef81a9ef2d9267de83ef"), looks := false }, kinds := [], alts := [], laidByText := true, laidKinds := [.data, .pinned], laidTests := true, laidLooks := .later }
def JournalNoneCardSaid : Prop := Claim7.holds Tryd.pinned (.plain (OpenSpec.ofChange journalNoneSpec)) journalNoneCard

/-- THE TIED CARD OF 'aumbrylaw14.JournalCrash'. -/
def journalCrashCard : Claim7 := { stood := { row := journalCrashRow, standIns := [], harness := (true, "03b0152b33374a9545035d299a3d8db6fdca3b71970eef81a9ef2d9267de83ef"), looks := false }, kinds := [], alts := [], laidByText := true, laidKinds := [.data, .pinned], laidTests := true, laidLooks := .later }
def JournalCrashCardSaid : Prop := Claim7.holds Tryd.pinned (.plain (OpenSpec.ofChange journalCrashSpec)) journalCrashCard

/-- THE SECOND FORM's CARD OF 'aumbrylaw14.JournalTakes'. -/
def journalTakesUptoCard : Claim7 := { stood := { row := journalTakesUptoRow, standIns := [], harness := (true, "03b0152b33374a9545035d299a3d8db6fdca3b71970eef81a9ef2d9267de83ef"), looks := false }, kinds := [], alts := [], laidByText := true, laidKinds := [.data, .pinned], laidTests := true, laidLooks := .later }
def JournalTakesUptoCardSaid : Prop := Claim7.holds Tryd.pinned (.plain (OpenSpec.upto journalTakesSpec)) journalTakesUptoCard

/-- THE SECOND FORM's CARD OF 'aumbrylaw14.JournalNone'. -/
def journalNoneUptoCard : Claim7 := { stood := { row := journalNoneUptoRow, standIns := [], harness := (true, "03b0152b33374a9545035d299a3d8db6fdca3b71970eef81a9ef2d9267de83ef"), looks := false }, kinds := [], alts := [], laidByText := true, laidKinds := [.data, .pinned], laidTests := true, laidLooks := .later }
def JournalNoneUptoCardSaid : Prop := Claim7.holds Tryd.pinned (.plain (OpenSpec.upto journalNoneSpec)) journalNoneUptoCard

/-- THE SECOND FORM's CARD OF 'aumbrylaw14.JournalCrash'. -/
def journalCrashUptoCard : Claim7 := { stood := { row := journalCrashUptoRow, standIns := [], harness := (true, "03b0152b33374a9545035d299a3d8db6fdca3b71970eef81a9ef2d9267de83ef"), looks := false }, kinds := [], alts := [], laidByText := true, laidKinds := [.data, .pinned], laidTests := true, laidLooks := .later }
def JournalCrashUptoCardSaid : Prop := Claim7.holds Tryd.pinned (.plain (OpenSpec.upto journalCrashSpec)) journalCrashUptoCard
end Rows
end Go.Proofs.YtinggiidkfnlkaaDoor
