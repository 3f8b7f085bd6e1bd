/-
  DERIVED. GIVEN WITH THE SEED: THE CARDS: each row of YtnjkoegepjhklaaDoorRows.lean that lists a variable, with what it lists TIED to the program's text (the seventh form; the later family's looks); each row that meets fmt, with fmt's text TOLD by the authors' own Lean function (tested against real Go, not proved from fmt's source: count such statements apart). THE CARD IS WHAT COUNTS. Prove the row's statement (the work); the ties are given (YtnjkoegepjhklaaDoorTie.lean); close each card by the builder's one call (the guide's Derived/Test/ToyasCard.lean, 'card_holds'). Laid BY PROGRAM, IN A SANDBOX (cutbox-door.mjs). By AI agents, Wed Nov 11 2026. No macro, syntax, notation, axiom, sorry.
-/
import Derived.Test.YtnjkoegepjhklaaDoorRows
import GoSem.ClaimSeven
namespace Go.Proofs.YtnjkoegepjhklaaDoor
namespace Rows

/-- THE TIED CARD OF 'parapetlaw13.HeaderUnsafe'. -/
def headerUnsafeCard : Claim7 := { stood := { row := headerUnsafeRow, standIns := [], harness := (true, "2a57f022eeda5c223505ab219acc737f0eb3e89df9b7026725360f3c01049ac0"), looks := false }, kinds := [], alts := [], laidByText := true, laidKinds := [.data, .pinned], laidTests := true, laidLooks := .later }
def HeaderUnsafeCardSaid : Prop := Claim7.holds Tryd.pinned (.plain (OpenSpec.ofChange headerUnsafeSpec)) headerUnsafeCard

/-- THE TIED CARD OF 'parapetlaw13.HeaderOrder'. -/
def headerOrderCard : Claim7 := { stood := { row := headerOrderRow, standIns := [], harness := (true, "2a57f022eeda5c223505ab219acc737f0eb3e89df9b7026725360f3c01049ac0"), looks := false }, kinds := [], alts := [], laidByText := true, laidKinds := [.data, .pinned], laidTests := true, laidLooks := .later }
def HeaderOrderCardSaid : Prop := Claim7.holds Tryd.pinned (.plain (OpenSpec.ofChange headerOrderSpec)) headerOrderCard

/-- THE TIED CARD OF 'parapetlaw13.HeaderLong'. -/
def headerLongCard : Claim7 := { stood := { row := headerLongRow, standIns := [], harness := (true, "2a57f022eeda5c223505ab219acc737f0eb3e89df9b7026725360f3c01049ac0"), looks := false }, kinds := [], alts := [], laidByText := true, laidKinds := [.data, .pinned], laidTests := true, laidLooks := .later }
def HeaderLongCardSaid : Prop := Claim7.holds Tryd.pinned (.plain (OpenSpec.ofChange headerLongSpec)) headerLongCard

/-- THE TIED CARD OF 'parapetlaw13.HeaderTypes'. -/
def headerTypesCard : Claim7 := { stood := { row := headerTypesRow, standIns := [], harness := (true, "2a57f022eeda5c223505ab219acc737f0eb3e89df9b7026725360f3c01049ac0"), looks := false }, kinds := [], alts := [], laidByText := true, laidKinds := [.data, .pinned], laidTests := true, laidLooks := .later }
def HeaderTypesCardSaid : Prop := Claim7.holds Tryd.pinned (.plain (OpenSpec.ofChange headerTypesSpec)) headerTypesCard

/-- THE TIED CARD OF 'parapetlaw13.HeaderKinds'. -/
def headerKindsCard : Claim7 := { stood := { row := headerKindsRow, standIns := [], harness := (true, "2a57f022eeda5c223505ab219acc737f0eb3e89df9b7026725360f3c01049ac0"), looks := false }, kinds := [], alts := [], laidByText := true, laidKinds := [.data, .pinned], laidTests := true, laidLooks := .later }
def HeaderKindsCardSaid : Prop := Claim7.holds Tryd.pinned (.plain (OpenSpec.ofChange headerKindsSpec)) headerKindsCard

/-- THE TIED CARD OF 'parapetlaw13.HeaderLists'. -/
def headerListsCard : Claim7 := { stood := { row := headerListsRow, standIns := [], harness := (true, "2a57f022eeda5c223505ab219acc737f0eb3e89df9b7026725360f3c01049ac0"), looks := false }, kinds := [], alts := [], laidByText := true, laidKinds := [.data, .pinned], laidTests := true, laidLooks := .later }
def HeaderListsCardSaid : Prop := Claim7.holds Tryd.pinned (.plain (OpenSpec.ofChange headerListsSpec)) headerListsCard

/-- THE TIED CARD OF 'parapetlaw13.HeaderValues'. -/
def headerValuesCard : Claim7 := { stood := { row := headerValuesRow, standIns := [], harness := (true, "2a57f022eeda5c223505ab219acc737f0eb3e89df9b7026725360f3c01049ac0"), looks := false }, kinds := [], alts := [], laidByText := true, laidKinds := [.data, .pinned], laidTests := true, laidLooks := .later }
def HeaderValuesCardSaid : Prop := Claim7.holds Tryd.pinned (.plain (OpenSpec.ofChange headerValuesSpec)) headerValuesCard

/-- THE SECOND FORM's CARD OF 'parapetlaw13.HeaderUnsafe'. -/
def headerUnsafeUptoCard : Claim7 := { stood := { row := headerUnsafeUptoRow, standIns := [], harness := (true, "2a57f022eeda5c223505ab219acc737f0eb3e89df9b7026725360f3c01049ac0"), looks := false }, kinds := [], alts := [], laidByText := true, laidKinds := [.data, .pinned], laidTests := true, laidLooks := .later }
def HeaderUnsafeUptoCardSaid : Prop := Claim7.holds Tryd.pinned (.plain (OpenSpec.upto headerUnsafeSpec)) headerUnsafeUptoCard

/-- THE SECOND FORM's CARD OF 'parapetlaw13.HeaderOrder'. -/
def headerOrderUptoCard : Claim7 := { stood := { row := headerOrderUptoRow, standIns := [], harness := (true, "2a57f022eeda5c223505ab219acc737f0eb3e89df9b7026725360f3c01049ac0"), looks := false }, kinds := [], alts := [], laidByText := true, laidKinds := [.data, .pinned], laidTests := true, laidLooks := .later }
def HeaderOrderUptoCardSaid : Prop := Claim7.holds Tryd.pinned (.plain (OpenSpec.upto headerOrderSpec)) headerOrderUptoCard

/-- THE SECOND FORM's CARD OF 'parapetlaw13.HeaderLong'. -/
def headerLongUptoCard : Claim7 := { stood := { row := headerLongUptoRow, standIns := [], harness := (true, "2a57f022eeda5c223505ab219acc737f0eb3e89df9b7026725360f3c01049ac0"), looks := false }, kinds := [], alts := [], laidByText := true, laidKinds := [.data, .pinned], laidTests := true, laidLooks := .later }
def HeaderLongUptoCardSaid : Prop := Claim7.holds Tryd.pinned (.plain (OpenSpec.upto headerLongSpec)) headerLongUptoCard

/-- THE SECOND FORM's CARD OF 'parapetlaw13.HeaderTypes'. -/
def headerTypesUptoCard : Claim7 := { stood := { row := headerTypesUptoRow, standIns := [], harness := (true, "2a57f022eeda5c223505ab219acc737f0eb3e89df9b7026725360f3c01049ac0"), looks := false }, kinds := [], alts := [], laidByText := true, laidKinds := [.data, .pinned], laidTests := true, laidLooks := .later }
def HeaderTypesUptoCardSaid : Prop := Claim7.holds Tryd.pinned (.plain (OpenSpec.upto headerTypesSpec)) headerTypesUptoCard

/-- THE SECOND FORM's CARD OF 'parapetlaw13.HeaderKinds'. -/
def headerKindsUptoCard : Claim7 := { stood := { row := headerKindsUptoRow, standIns := [], harness := (true, "2a57f022eeda5c223505ab219acc737f0eb3e89df9b7026725360f3c01049ac0"), looks := false }, kinds := [], alts := [], laidByText := true, laidKinds := [.data, .pinned], laidTests := true, laidLooks := .later }
def HeaderKindsUptoCardSaid : Prop := Claim7.holds Tryd.pinned (.plain (OpenSpec.upto headerKindsSpec)) headerKindsUptoCard

/-- THE SECOND FORM's CARD OF 'parapetlaw13.HeaderLists'. -/
def headerListsUptoCard : Claim7 := { stood := { row := headerListsUptoRow, standIns := [], harness := (true, "2a57f022eeda5c223505ab219acc737f0eb3e89df9b7026725360f3c01049ac0"), looks := false }, kinds := [], alts := [], laidByText := true, laidKinds := [.data, .pinned], laidTests := true, laidLooks := .later }
def HeaderListsUptoCardSaid : Prop := Claim7.holds Tryd.pinned (.plain (OpenSpec.upto headerListsSpec)) headerListsUptoCard

/-- THE SECOND FORM's CARD OF 'parapetlaw13.HeaderValues'. -/
def headerValuesUptoCard : Claim7 := { stood := { row := headerValuesUptoRow, standIns := [], harness := (true, "2a57f022eeda5c223505ab219acc737f0eb3e89df9b7026725360f3c01049ac0"), looks := false }, kinds := [], alts := [], laidByText := true, laidKinds := [.data, .pinned], laidTests := true, laidLooks := .later }
def HeaderValuesUptoCardSaid : Prop := Claim7.holds Tryd.pinned (.plain (OpenSpec.upto headerValuesSpec)) headerValuesUptoCard
end Rows
end Go.Proofs.YtnjkoegepjhklaaDoor
