/-
  DERIVED. GIVEN WITH THE SEED: THE CARDS: each row of YtaihjnicondifaaDoorRows.lean that lists a variable, with what it lists TIED to the program's text (the seventh form; the later family's looks); each row that meets fmt, with fmt's text TOLD by the authors' own Lean function (tested against real Go, not proved from fmt's source: count such statements apart). THE CARD IS WHAT COUNTS. Prove the row's statement (the work); the ties are given (YtaihjnicondifaaDoorTie.lean); close each card by the builder's one call (the guide's Derived/Test/ToyasCard.lean, 'card_holds'). Laid BY PROGRAM, IN A SANDBOX (cutbox-door.mjs). By AI agents, Wed Nov 11 2026. No macro, syntax, notation, axiom, sorry.
-/
import Derived.Test.YtaihjnicondifaaDoorRows
import GoSem.ClaimSeven
namespace Go.Proofs.YtaihjnicondifaaDoor
namespace Rows

/-- THE TIED CARD OF 'parapetlaw26.HttpCuts'. -/
def httpCutsCard : Claim7 := { stood := { row := httpCutsRow, standIns := [], harness := (true, "4bcd8194627fc3dd2d70303197d9242cb979c2daed6fabe494c8bf84b82c775c"), looks := false }, kinds := [], alts := [], laidByText := true, laidKinds := [.data, .pinned], laidTests := true, laidLooks := .later }
def HttpCutsCardSaid : Prop := Claim7.holds Tryd.pinned (.plain (OpenSpec.ofChange httpCutsSpec)) httpCutsCard

/-- THE TIED CARD OF 'parapetlaw26.HttpLengths'. -/
def httpLengthsCard : Claim7 := { stood := { row := httpLengthsRow, standIns := [], harness := (true, "4bcd8194627fc3dd2d70303197d9242cb979c2daed6fabe494c8bf84b82c775c"), looks := false }, kinds := [], alts := [], laidByText := true, laidKinds := [.data, .pinned], laidTests := true, laidLooks := .later }
def HttpLengthsCardSaid : Prop := Claim7.holds Tryd.pinned (.plain (OpenSpec.ofChange httpLengthsSpec)) httpLengthsCard

/-- THE TIED CARD OF 'parapetlaw26.HttpChunks'. -/
def httpChunksCard : Claim7 := { stood := { row := httpChunksRow, standIns := [], harness := (true, "4bcd8194627fc3dd2d70303197d9242cb979c2daed6fabe494c8bf84b82c775c"), looks := false }, kinds := [], alts := [], laidByText := true, laidKinds := [.data, .pinned], laidTests := true, laidLooks := .later }
def HttpChunksCardSaid : Prop := Claim7.holds Tryd.pinned (.plain (OpenSpec.ofChange httpChunksSpec)) httpChunksCard

/-- THE TIED CARD OF 'parapetlaw26.HttpSmuggles'. -/
def httpSmugglesCard : Claim7 := { stood := { row := httpSmugglesRow, standIns := [], harness := (true, "4bcd8194627fc3dd2d70303197d9242cb979c2daed6fabe494c8bf84b82c775c"), looks := false }, kinds := [], alts := [], laidByText := true, laidKinds := [.data, .pinned], laidTests := true, laidLooks := .later }
def HttpSmugglesCardSaid : Prop := Claim7.holds Tryd.pinned (.plain (OpenSpec.ofChange httpSmugglesSpec)) httpSmugglesCard

/-- THE TIED CARD OF 'parapetlaw26.HttpLimits'. -/
def httpLimitsCard : Claim7 := { stood := { row := httpLimitsRow, standIns := [], harness := (true, "4bcd8194627fc3dd2d70303197d9242cb979c2daed6fabe494c8bf84b82c775c"), looks := false }, kinds := [], alts := [], laidByText := true, laidKinds := [.data, .pinned], laidTests := true, laidLooks := .later }
def HttpLimitsCardSaid : Prop := Claim7.holds Tryd.pinned (.plain (OpenSpec.ofChange httpLimitsSpec)) httpLimitsCard

/-- THE TIED CARD OF 'parapetlaw26.HttpClose'. -/
def httpCloseCard : Claim7 := { stood := { row := httpCloseRow, standIns := [], harness := (true, "4bcd8194627fc3dd2d70303197d9242cb979c2daed6fabe494c8bf84b82c775c"), looks := false }, kinds := [], alts := [], laidByText := true, laidKinds := [.data, .pinned], laidTests := true, laidLooks := .later }
def HttpCloseCardSaid : Prop := Claim7.holds Tryd.pinned (.plain (OpenSpec.ofChange httpCloseSpec)) httpCloseCard

/-- THE TIED CARD OF 'parapetlaw26.HttpEnds'. -/
def httpEndsCard : Claim7 := { stood := { row := httpEndsRow, standIns := [], harness := (true, "4bcd8194627fc3dd2d70303197d9242cb979c2daed6fabe494c8bf84b82c775c"), looks := false }, kinds := [], alts := [], laidByText := true, laidKinds := [.data, .pinned], laidTests := true, laidLooks := .later }
def HttpEndsCardSaid : Prop := Claim7.holds Tryd.pinned (.plain (OpenSpec.ofChange httpEndsSpec)) httpEndsCard

/-- THE TIED CARD OF 'parapetlaw26.HttpEmpty'. -/
def httpEmptyCard : Claim7 := { stood := { row := httpEmptyRow, standIns := [], harness := (true, "4bcd8194627fc3dd2d70303197d9242cb979c2daed6fabe494c8bf84b82c775c"), looks := false }, kinds := [], alts := [], laidByText := true, laidKinds := [.data, .pinned], laidTests := true, laidLooks := .later }
def HttpEmptyCardSaid : Prop := Claim7.holds Tryd.pinned (.plain (OpenSpec.ofChange httpEmptySpec)) httpEmptyCard

/-- THE SECOND FORM's CARD OF 'parapetlaw26.HttpCuts'. -/
def httpCutsUptoCard : Claim7 := { stood := { row := httpCutsUptoRow, standIns := [], harness := (true, "4bcd8194627fc3dd2d70303197d9242cb979c2daed6fabe494c8bf84b82c775c"), looks := false }, kinds := [], alts := [], laidByText := true, laidKinds := [.data, .pinned], laidTests := true, laidLooks := .later }
def HttpCutsUptoCardSaid : Prop := Claim7.holds Tryd.pinned (.plain (OpenSpec.upto httpCutsSpec)) httpCutsUptoCard

/-- THE SECOND FORM's CARD OF 'parapetlaw26.HttpLengths'. -/
def httpLengthsUptoCard : Claim7 := { stood := { row := httpLengthsUptoRow, standIns := [], harness := (true, "4bcd8194627fc3dd2d70303197d9242cb979c2daed6fabe494c8bf84b82c775c"), looks := false }, kinds := [], alts := [], laidByText := true, laidKinds := [.data, .pinned], laidTests := true, laidLooks := .later }
def HttpLengthsUptoCardSaid : Prop := Claim7.holds Tryd.pinned (.plain (OpenSpec.upto httpLengthsSpec)) httpLengthsUptoCard

/-- THE SECOND FORM's CARD OF 'parapetlaw26.HttpChunks'. -/
def httpChunksUptoCard : Claim7 := { stood := { row := httpChunksUptoRow, standIns := [], harness := (true, "4bcd8194627fc3dd2d70303197d9242cb979c2daed6fabe494c8bf84b82c775c"), looks := false }, kinds := [], alts := [], laidByText := true, laidKinds := [.data, .pinned], laidTests := true, laidLooks := .later }
def HttpChunksUptoCardSaid : Prop := Claim7.holds Tryd.pinned (.plain (OpenSpec.upto httpChunksSpec)) httpChunksUptoCard

/-- THE SECOND FORM's CARD OF 'parapetlaw26.HttpSmuggles'. -/
def httpSmugglesUptoCard : Claim7 := { stood := { row := httpSmugglesUptoRow, standIns := [], harness := (true, "4bcd8194627fc3dd2d70303197d9242cb979c2daed6fabe494c8bf84b82c775c"), looks := false }, kinds := [], alts := [], laidByText := true, laidKinds := [.data, .pinned], laidTests := true, laidLooks := .later }
def HttpSmugglesUptoCardSaid : Prop := Claim7.holds Tryd.pinned (.plain (OpenSpec.upto httpSmugglesSpec)) httpSmugglesUptoCard

/-- THE SECOND FORM's CARD OF 'parapetlaw26.HttpLimits'. -/
def httpLimitsUptoCard : Claim7 := { stood := { row := httpLimitsUptoRow, standIns := [], harness := (true, "4bcd8194627fc3dd2d70303197d9242cb979c2daed6fabe494c8bf84b82c775c"), looks := false }, kinds := [], alts := [], laidByText := true, laidKinds := [.data, .pinned], laidTests := true, laidLooks := .later }
def HttpLimitsUptoCardSaid : Prop := Claim7.holds Tryd.pinned (.plain (OpenSpec.upto httpLimitsSpec)) httpLimitsUptoCard

/-- THE SECOND FORM's CARD OF 'parapetlaw26.HttpClose'. -/
def httpCloseUptoCard : Claim7 := { stood := { row := httpCloseUptoRow, standIns := [], harness := (true, "4bcd8194627fc3dd2d70303197d9242cb979c2daed6fabe494c8bf84b82c775c"), looks := false }, kinds := [], alts := [], laidByText := true, laidKinds := [.data, .pinned], laidTests := true, laidLooks := .later }
def HttpCloseUptoCardSaid : Prop := Claim7.holds Tryd.pinned (.plain (OpenSpec.upto httpCloseSpec)) httpCloseUptoCard

/-- THE SECOND FORM's CARD OF 'parapetlaw26.HttpEnds'. -/
def httpEndsUptoCard : Claim7 := { stood := { row := httpEndsUptoRow, standIns := [], harness := (true, "4bcd8194627fc3dd2d70303197d9242cb979c2daed6fabe494c8bf84b82c775c"), looks := false }, kinds := [], alts := [], laidByText := true, laidKinds := [.data, .pinned], laidTests := true, laidLooks := .later }
def HttpEndsUptoCardSaid : Prop := Claim7.holds Tryd.pinned (.plain (OpenSpec.upto httpEndsSpec)) httpEndsUptoCard

/-- THE SECOND FORM's CARD OF 'parapetlaw26.HttpEmpty'. -/
def httpEmptyUptoCard : Claim7 := { stood := { row := httpEmptyUptoRow, standIns := [], harness := (true, "4bcd8194627fc3dd2d70303197d9242cb979c2daed6fabe494c8bf84b82c775c"), looks := false }, kinds := [], alts := [], laidByText := true, laidKinds := [.data, .pinned], laidTests := true, laidLooks := .later }
def HttpEmptyUptoCardSaid : Prop := Claim7.holds Tryd.pinned (.plain (OpenSpec.upto httpEmptySpec)) httpEmptyUptoCard
end Rows
end Go.Proofs.YtaihjnicondifaaDoor
