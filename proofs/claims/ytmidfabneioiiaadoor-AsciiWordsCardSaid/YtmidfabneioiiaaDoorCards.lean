/-
  DERIVED. GIVEN WITH THE SEED: THE CARDS: each row of YtmidfabneioiiaaDoorRows.lean that lists a variable, with what it lists TIED to the program's text (the seventh form; the later family's looks); each row that meets fmt, with fmt's text TOLD by the authors' own Lean function (tested against real Go, not proved from fmt's source: count such statements apart). THE CARD IS WHAT COUNTS. Prove the row's statement (the work); the ties are given (YtmidfabneioiiaaDoorTie.lean); close each card by the builder's one call (the guide's Derived/Test/ToyasCard.lean, 'card_holds'). Laid BY PROGRAM, IN A SANDBOX (cutbox-door.mjs). By AI agents, Wed Nov 11 2026. No macro, syntax, notation, axiom, sorry.
-/
import Derived.Test.YtmidfabneioiiaaDoorRows
import GoSem.ClaimSeven
namespace Go.Proofs.YtmidfabneioiiaaDoor
namespace Rows

/-- THE TIED CARD OF 'parapetlaw1.AsciiCuts'. -/
def asciiCutsCard : Claim7 := { stood := { row := asciiCutsRow, standIns := [], harness := (true, "7e5529743acd6e4abc6dd432202f442b1f0c6f89a3fc69a9b4c6289624a7b270"), looks := false }, kinds := [], alts := [], laidByText := true, laidKinds := [.data, .pinned], laidTests := true, laidLooks := .later }
def AsciiCutsCardSaid : Prop := Claim7.holds Tryd.pinned (.plain (OpenSpec.ofChange asciiCutsSpec)) asciiCutsCard

/-- THE TIED CARD OF 'parapetlaw1.AsciiWords'. -/
def asciiWordsCard : Claim7 := { stood := { row := asciiWordsRow, standIns := [], harness := (true, "7e5529743acd6e4abc6dd432202f442b1f0c6f89a3fc69a9b4c6289624a7b270"), looks := false }, kinds := [], alts := [], laidByText := true, laidKinds := [.data, .pinned], laidTests := true, laidLooks := .later }
def AsciiWordsCardSaid : Prop := Claim7.holds Tryd.pinned (.plain (OpenSpec.ofChange asciiWordsSpec)) asciiWordsCard

/-- THE TIED CARD OF 'parapetlaw1.AsciiBytes'. -/
def asciiBytesCard : Claim7 := { stood := { row := asciiBytesRow, standIns := [], harness := (true, "7e5529743acd6e4abc6dd432202f442b1f0c6f89a3fc69a9b4c6289624a7b270"), looks := false }, kinds := [], alts := [], laidByText := true, laidKinds := [.data, .pinned], laidTests := true, laidLooks := .later }
def AsciiBytesCardSaid : Prop := Claim7.holds Tryd.pinned (.plain (OpenSpec.ofChange asciiBytesSpec)) asciiBytesCard

/-- THE TIED CARD OF 'parapetlaw1.AsciiCases'. -/
def asciiCasesCard : Claim7 := { stood := { row := asciiCasesRow, standIns := [], harness := (true, "7e5529743acd6e4abc6dd432202f442b1f0c6f89a3fc69a9b4c6289624a7b270"), looks := false }, kinds := [], alts := [], laidByText := true, laidKinds := [.data, .pinned], laidTests := true, laidLooks := .later }
def AsciiCasesCardSaid : Prop := Claim7.holds Tryd.pinned (.plain (OpenSpec.ofChange asciiCasesSpec)) asciiCasesCard

/-- THE TIED CARD OF 'parapetlaw1.AsciiAny'. -/
def asciiAnyCard : Claim7 := { stood := { row := asciiAnyRow, standIns := [], harness := (true, "7e5529743acd6e4abc6dd432202f442b1f0c6f89a3fc69a9b4c6289624a7b270"), looks := false }, kinds := [], alts := [], laidByText := true, laidKinds := [.data, .pinned], laidTests := true, laidLooks := .later }
def AsciiAnyCardSaid : Prop := Claim7.holds Tryd.pinned (.plain (OpenSpec.ofChange asciiAnySpec)) asciiAnyCard

/-- THE TIED CARD OF 'parapetlaw1.AsciiNumbers'. -/
def asciiNumbersCard : Claim7 := { stood := { row := asciiNumbersRow, standIns := [], harness := (true, "7e5529743acd6e4abc6dd432202f442b1f0c6f89a3fc69a9b4c6289624a7b270"), looks := false }, kinds := [], alts := [], laidByText := true, laidKinds := [.data, .pinned], laidTests := true, laidLooks := .later }
def AsciiNumbersCardSaid : Prop := Claim7.holds Tryd.pinned (.plain (OpenSpec.ofChange asciiNumbersSpec)) asciiNumbersCard

/-- THE TIED CARD OF 'parapetlaw1.AsciiBack'. -/
def asciiBackCard : Claim7 := { stood := { row := asciiBackRow, standIns := [], harness := (true, "7e5529743acd6e4abc6dd432202f442b1f0c6f89a3fc69a9b4c6289624a7b270"), looks := false }, kinds := [], alts := [], laidByText := true, laidKinds := [.data, .pinned], laidTests := true, laidLooks := .later }
def AsciiBackCardSaid : Prop := Claim7.holds Tryd.pinned (.plain (OpenSpec.ofChange asciiBackSpec)) asciiBackCard

/-- THE TIED CARD OF 'parapetlaw1.AsciiTrims'. -/
def asciiTrimsCard : Claim7 := { stood := { row := asciiTrimsRow, standIns := [], harness := (true, "7e5529743acd6e4abc6dd432202f442b1f0c6f89a3fc69a9b4c6289624a7b270"), looks := false }, kinds := [], alts := [], laidByText := true, laidKinds := [.data, .pinned], laidTests := true, laidLooks := .later }
def AsciiTrimsCardSaid : Prop := Claim7.holds Tryd.pinned (.plain (OpenSpec.ofChange asciiTrimsSpec)) asciiTrimsCard

/-- THE TIED CARD OF 'parapetlaw1.AsciiTokens'. -/
def asciiTokensCard : Claim7 := { stood := { row := asciiTokensRow, standIns := [], harness := (true, "7e5529743acd6e4abc6dd432202f442b1f0c6f89a3fc69a9b4c6289624a7b270"), looks := false }, kinds := [], alts := [], laidByText := true, laidKinds := [.data, .pinned], laidTests := true, laidLooks := .later }
def AsciiTokensCardSaid : Prop := Claim7.holds Tryd.pinned (.plain (OpenSpec.ofChange asciiTokensSpec)) asciiTokensCard

/-- THE SECOND FORM's CARD OF 'parapetlaw1.AsciiCuts'. -/
def asciiCutsUptoCard : Claim7 := { stood := { row := asciiCutsUptoRow, standIns := [], harness := (true, "7e5529743acd6e4abc6dd432202f442b1f0c6f89a3fc69a9b4c6289624a7b270"), looks := false }, kinds := [], alts := [], laidByText := true, laidKinds := [.data, .pinned], laidTests := true, laidLooks := .later }
def AsciiCutsUptoCardSaid : Prop := Claim7.holds Tryd.pinned (.plain (OpenSpec.upto asciiCutsSpec)) asciiCutsUptoCard

/-- THE SECOND FORM's CARD OF 'parapetlaw1.AsciiWords'. -/
def asciiWordsUptoCard : Claim7 := { stood := { row := asciiWordsUptoRow, standIns := [], harness := (true, "7e5529743acd6e4abc6dd432202f442b1f0c6f89a3fc69a9b4c6289624a7b270"), looks := false }, kinds := [], alts := [], laidByText := true, laidKinds := [.data, .pinned], laidTests := true, laidLooks := .later }
def AsciiWordsUptoCardSaid : Prop := Claim7.holds Tryd.pinned (.plain (OpenSpec.upto asciiWordsSpec)) asciiWordsUptoCard

/-- THE SECOND FORM's CARD OF 'parapetlaw1.AsciiBytes'. -/
def asciiBytesUptoCard : Claim7 := { stood := { row := asciiBytesUptoRow, standIns := [], harness := (true, "7e5529743acd6e4abc6dd432202f442b1f0c6f89a3fc69a9b4c6289624a7b270"), looks := false }, kinds := [], alts := [], laidByText := true, laidKinds := [.data, .pinned], laidTests := true, laidLooks := .later }
def AsciiBytesUptoCardSaid : Prop := Claim7.holds Tryd.pinned (.plain (OpenSpec.upto asciiBytesSpec)) asciiBytesUptoCard

/-- THE SECOND FORM's CARD OF 'parapetlaw1.AsciiCases'. -/
def asciiCasesUptoCard : Claim7 := { stood := { row := asciiCasesUptoRow, standIns := [], harness := (true, "7e5529743acd6e4abc6dd432202f442b1f0c6f89a3fc69a9b4c6289624a7b270"), looks := false }, kinds := [], alts := [], laidByText := true, laidKinds := [.data, .pinned], laidTests := true, laidLooks := .later }
def AsciiCasesUptoCardSaid : Prop := Claim7.holds Tryd.pinned (.plain (OpenSpec.upto asciiCasesSpec)) asciiCasesUptoCard

/-- THE SECOND FORM's CARD OF 'parapetlaw1.AsciiAny'. -/
def asciiAnyUptoCard : Claim7 := { stood := { row := asciiAnyUptoRow, standIns := [], harness := (true, "7e5529743acd6e4abc6dd432202f442b1f0c6f89a3fc69a9b4c6289624a7b270"), looks := false }, kinds := [], alts := [], laidByText := true, laidKinds := [.data, .pinned], laidTests := true, laidLooks := .later }
def AsciiAnyUptoCardSaid : Prop := Claim7.holds Tryd.pinned (.plain (OpenSpec.upto asciiAnySpec)) asciiAnyUptoCard

/-- THE SECOND FORM's CARD OF 'parapetlaw1.AsciiNumbers'. -/
def asciiNumbersUptoCard : Claim7 := { stood := { row := asciiNumbersUptoRow, standIns := [], harness := (true, "7e5529743acd6e4abc6dd432202f442b1f0c6f89a3fc69a9b4c6289624a7b270"), looks := false }, kinds := [], alts := [], laidByText := true, laidKinds := [.data, .pinned], laidTests := true, laidLooks := .later }
def AsciiNumbersUptoCardSaid : Prop := Claim7.holds Tryd.pinned (.plain (OpenSpec.upto asciiNumbersSpec)) asciiNumbersUptoCard

/-- THE SECOND FORM's CARD OF 'parapetlaw1.AsciiBack'. -/
def asciiBackUptoCard : Claim7 := { stood := { row := asciiBackUptoRow, standIns := [], harness := (true, "7e5529743acd6e4abc6dd432202f442b1f0c6f89a3fc69a9b4c6289624a7b270"), looks := false }, kinds := [], alts := [], laidByText := true, laidKinds := [.data, .pinned], laidTests := true, laidLooks := .later }
def AsciiBackUptoCardSaid : Prop := Claim7.holds Tryd.pinned (.plain (OpenSpec.upto asciiBackSpec)) asciiBackUptoCard

/-- THE SECOND FORM's CARD OF 'parapetlaw1.AsciiTrims'. -/
def asciiTrimsUptoCard : Claim7 := { stood := { row := asciiTrimsUptoRow, standIns := [], harness := (true, "7e5529743acd6e4abc6dd432202f442b1f0c6f89a3fc69a9b4c6289624a7b270"), looks := false }, kinds := [], alts := [], laidByText := true, laidKinds := [.data, .pinned], laidTests := true, laidLooks := .later }
def AsciiTrimsUptoCardSaid : Prop := Claim7.holds Tryd.pinned (.plain (OpenSpec.upto asciiTrimsSpec)) asciiTrimsUptoCard

/-- THE SECOND FORM's CARD OF 'parapetlaw1.AsciiTokens'. -/
def asciiTokensUptoCard : Claim7 := { stood := { row := asciiTokensUptoRow, standIns := [], harness := (true, "7e5529743acd6e4abc6dd432202f442b1f0c6f89a3fc69a9b4c6289624a7b270"), looks := false }, kinds := [], alts := [], laidByText := true, laidKinds := [.data, .pinned], laidTests := true, laidLooks := .later }
def AsciiTokensUptoCardSaid : Prop := Claim7.holds Tryd.pinned (.plain (OpenSpec.upto asciiTokensSpec)) asciiTokensUptoCard
end Rows
end Go.Proofs.YtmidfabneioiiaaDoor
