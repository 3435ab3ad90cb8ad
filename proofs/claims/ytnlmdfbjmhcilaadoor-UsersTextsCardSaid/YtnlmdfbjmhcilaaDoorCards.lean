/-
  DERIVED. GIVEN WITH THE SEED: THE CARDS: each row of YtnlmdfbjmhcilaaDoorRows.lean that lists a variable, with what it lists TIED to the program's text (the seventh form; the later family's looks); each row that meets fmt, with fmt's text TOLD by the authors' own Lean function (tested against real Go, not proved from fmt's source: count such statements apart). THE CARD IS WHAT COUNTS. Prove the row's statement (the work); the ties are given (YtnlmdfbjmhcilaaDoorTie.lean); close each card by the builder's one call (the guide's Derived/Test/ToyasCard.lean, 'card_holds'). Laid BY PROGRAM, IN A SANDBOX (cutbox-door.mjs). By AI agents, Wed Nov 11 2026. No macro, syntax, notation, axiom, sorry.
-/
import Derived.Test.YtnlmdfbjmhcilaaDoorRows
import GoSem.ClaimSeven
namespace Go.Proofs.YtnlmdfbjmhcilaaDoor
namespace Rows

/-- THE TIED CARD OF 'loggialaw13.EntryBack'. -/
def entryBackCard : Claim7 := { stood := { row := entryBackRow, standIns := [], harness := (true, "f7ade72b1c69e4689f182ff50f4daa4af5551374807bf1a3ebbe55d07a6a5a25"), looks := true }, kinds := [], alts := [], laidByText := true, laidKinds := [.data, .pinned], laidTests := true, laidLooks := .later }
def EntryBackCardSaid : Prop := Claim7.holds Tryd.pinned (.plain (OpenSpec.ofChange entryBackSpec)) entryBackCard

/-- THE TIED CARD OF 'loggialaw13.EntryBytes'. -/
def entryBytesCard : Claim7 := { stood := { row := entryBytesRow, standIns := [], harness := (true, "f7ade72b1c69e4689f182ff50f4daa4af5551374807bf1a3ebbe55d07a6a5a25"), looks := true }, kinds := [], alts := [], laidByText := true, laidKinds := [.data, .pinned], laidTests := true, laidLooks := .later }
def EntryBytesCardSaid : Prop := Claim7.holds Tryd.pinned (.plain (OpenSpec.ofChange entryBytesSpec)) entryBytesCard

/-- THE TIED CARD OF 'loggialaw13.EntryForms'. -/
def entryFormsCard : Claim7 := { stood := { row := entryFormsRow, standIns := [], harness := (true, "f7ade72b1c69e4689f182ff50f4daa4af5551374807bf1a3ebbe55d07a6a5a25"), looks := true }, kinds := [], alts := [], laidByText := true, laidKinds := [.data, .pinned], laidTests := true, laidLooks := .later }
def EntryFormsCardSaid : Prop := Claim7.holds Tryd.pinned (.plain (OpenSpec.ofChange entryFormsSpec)) entryFormsCard

/-- THE TIED CARD OF 'loggialaw13.EntryPlays'. -/
def entryPlaysCard : Claim7 := { stood := { row := entryPlaysRow, standIns := [], harness := (true, "f7ade72b1c69e4689f182ff50f4daa4af5551374807bf1a3ebbe55d07a6a5a25"), looks := true }, kinds := [], alts := [], laidByText := true, laidKinds := [.data, .pinned], laidTests := true, laidLooks := .later }
def EntryPlaysCardSaid : Prop := Claim7.holds Tryd.pinned (.plain (OpenSpec.ofChange entryPlaysSpec)) entryPlaysCard

/-- THE TIED CARD OF 'loggialaw13.EntrySorted'. -/
def entrySortedCard : Claim7 := { stood := { row := entrySortedRow, standIns := [], harness := (true, "f7ade72b1c69e4689f182ff50f4daa4af5551374807bf1a3ebbe55d07a6a5a25"), looks := true }, kinds := [], alts := [], laidByText := true, laidKinds := [.data, .pinned], laidTests := true, laidLooks := .later }
def EntrySortedCardSaid : Prop := Claim7.holds Tryd.pinned (.plain (OpenSpec.ofChange entrySortedSpec)) entrySortedCard

/-- THE TIED CARD OF 'loggialaw15.UsersTexts'. -/
def usersTextsCard : Claim7 := { stood := { row := usersTextsRow, standIns := [], harness := (true, "f7ade72b1c69e4689f182ff50f4daa4af5551374807bf1a3ebbe55d07a6a5a25"), looks := true }, kinds := [], alts := [], laidByText := true, laidKinds := [.data, .pinned], laidTests := true, laidLooks := .later }
def UsersTextsCardSaid : Prop := Claim7.holds Tryd.pinned (.plain (OpenSpec.ofChange usersTextsSpec)) usersTextsCard

/-- THE SECOND FORM's CARD OF 'loggialaw13.EntryBack'. -/
def entryBackUptoCard : Claim7 := { stood := { row := entryBackUptoRow, standIns := [], harness := (true, "f7ade72b1c69e4689f182ff50f4daa4af5551374807bf1a3ebbe55d07a6a5a25"), looks := true }, kinds := [], alts := [], laidByText := true, laidKinds := [.data, .pinned], laidTests := true, laidLooks := .later }
def EntryBackUptoCardSaid : Prop := Claim7.holds Tryd.pinned (.plain (OpenSpec.upto entryBackSpec)) entryBackUptoCard

/-- THE SECOND FORM's CARD OF 'loggialaw13.EntryBytes'. -/
def entryBytesUptoCard : Claim7 := { stood := { row := entryBytesUptoRow, standIns := [], harness := (true, "f7ade72b1c69e4689f182ff50f4daa4af5551374807bf1a3ebbe55d07a6a5a25"), looks := true }, kinds := [], alts := [], laidByText := true, laidKinds := [.data, .pinned], laidTests := true, laidLooks := .later }
def EntryBytesUptoCardSaid : Prop := Claim7.holds Tryd.pinned (.plain (OpenSpec.upto entryBytesSpec)) entryBytesUptoCard

/-- THE SECOND FORM's CARD OF 'loggialaw13.EntryForms'. -/
def entryFormsUptoCard : Claim7 := { stood := { row := entryFormsUptoRow, standIns := [], harness := (true, "f7ade72b1c69e4689f182ff50f4daa4af5551374807bf1a3ebbe55d07a6a5a25"), looks := true }, kinds := [], alts := [], laidByText := true, laidKinds := [.data, .pinned], laidTests := true, laidLooks := .later }
def EntryFormsUptoCardSaid : Prop := Claim7.holds Tryd.pinned (.plain (OpenSpec.upto entryFormsSpec)) entryFormsUptoCard

/-- THE SECOND FORM's CARD OF 'loggialaw13.EntryPlays'. -/
def entryPlaysUptoCard : Claim7 := { stood := { row := entryPlaysUptoRow, standIns := [], harness := (true, "f7ade72b1c69e4689f182ff50f4daa4af5551374807bf1a3ebbe55d07a6a5a25"), looks := true }, kinds := [], alts := [], laidByText := true, laidKinds := [.data, .pinned], laidTests := true, laidLooks := .later }
def EntryPlaysUptoCardSaid : Prop := Claim7.holds Tryd.pinned (.plain (OpenSpec.upto entryPlaysSpec)) entryPlaysUptoCard

/-- THE SECOND FORM's CARD OF 'loggialaw13.EntrySorted'. -/
def entrySortedUptoCard : Claim7 := { stood := { row := entrySortedUptoRow, standIns := [], harness := (true, "f7ade72b1c69e4689f182ff50f4daa4af5551374807bf1a3ebbe55d07a6a5a25"), looks := true }, kinds := [], alts := [], laidByText := true, laidKinds := [.data, .pinned], laidTests := true, laidLooks := .later }
def EntrySortedUptoCardSaid : Prop := Claim7.holds Tryd.pinned (.plain (OpenSpec.upto entrySortedSpec)) entrySortedUptoCard

/-- THE SECOND FORM's CARD OF 'loggialaw15.UsersTexts'. -/
def usersTextsUptoCard : Claim7 := { stood := { row := usersTextsUptoRow, standIns := [], harness := (true, "f7ade72b1c69e4689f182ff50f4daa4af5551374807bf1a3ebbe55d07a6a5a25"), looks := true }, kinds := [], alts := [], laidByText := true, laidKinds := [.data, .pinned], laidTests := true, laidLooks := .later }
def UsersTextsUptoCardSaid : Prop := Claim7.holds Tryd.pinned (.plain (OpenSpec.upto usersTextsSpec)) usersTextsUptoCard
end Rows
end Go.Proofs.YtnlmdfbjmhcilaaDoor
