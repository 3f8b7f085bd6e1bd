/-
  DERIVED. GIVEN WITH THE SEED: THE CARDS: each row of YtilpaopkhghicaaDoorRows.lean that lists a variable, with what it lists TIED to the program's text (the seventh form; the later family's looks); each row that meets fmt, with fmt's text TOLD by the authors' own Lean function (tested against real Go, not proved from fmt's source: count such statements apart). THE CARD IS WHAT COUNTS. Prove the row's statement (the work); the ties are given (YtilpaopkhghicaaDoorTie.lean); close each card by the builder's one call (the guide's Derived/Test/ToyasCard.lean, 'card_holds'). Laid BY PROGRAM, IN A SANDBOX (cutbox-door.mjs). By AI agents, Wed Nov 11 2026. No macro, syntax, notation, axiom, sorry.
-/
import Derived.Test.YtilpaopkhghicaaDoorRows
import GoSem.ClaimSeven
namespace Go.Proofs.YtilpaopkhghicaaDoor
namespace Rows

/-- THE TIED CARD OF 'parapetlaw27.AnswerQueries'. -/
def answerQueriesCard : Claim7 := { stood := { row := answerQueriesRow, standIns := [], harness := (true, "e5a1a14df46eaa2b12bbd4b94ed472c71a68c7fa2aff8b8a661952bdca065e7d"), looks := false }, kinds := [], alts := [], laidByText := true, laidKinds := [.data, .pinned], laidTests := true, laidLooks := .later }
def AnswerQueriesCardSaid : Prop := Claim7.holds Tryd.pinned (.plain (OpenSpec.ofChange answerQueriesSpec)) answerQueriesCard

/-- THE TIED CARD OF 'parapetlaw27.AnswerLimit'. -/
def answerLimitCard : Claim7 := { stood := { row := answerLimitRow, standIns := [], harness := (true, "e5a1a14df46eaa2b12bbd4b94ed472c71a68c7fa2aff8b8a661952bdca065e7d"), looks := false }, kinds := [], alts := [], laidByText := true, laidKinds := [.data, .pinned], laidTests := true, laidLooks := .later }
def AnswerLimitCardSaid : Prop := Claim7.holds Tryd.pinned (.plain (OpenSpec.ofChange answerLimitSpec)) answerLimitCard

/-- THE TIED CARD OF 'parapetlaw27.AnswerOrder'. -/
def answerOrderCard : Claim7 := { stood := { row := answerOrderRow, standIns := [], harness := (true, "e5a1a14df46eaa2b12bbd4b94ed472c71a68c7fa2aff8b8a661952bdca065e7d"), looks := false }, kinds := [], alts := [], laidByText := true, laidKinds := [.data, .pinned], laidTests := true, laidLooks := .later }
def AnswerOrderCardSaid : Prop := Claim7.holds Tryd.pinned (.plain (OpenSpec.ofChange answerOrderSpec)) answerOrderCard

/-- THE TIED CARD OF 'parapetlaw27.AnswerBack'. -/
def answerBackCard : Claim7 := { stood := { row := answerBackRow, standIns := [], harness := (true, "e5a1a14df46eaa2b12bbd4b94ed472c71a68c7fa2aff8b8a661952bdca065e7d"), looks := false }, kinds := [], alts := [], laidByText := true, laidKinds := [.data, .pinned], laidTests := true, laidLooks := .later }
def AnswerBackCardSaid : Prop := Claim7.holds Tryd.pinned (.plain (OpenSpec.ofChange answerBackSpec)) answerBackCard

/-- THE TIED CARD OF 'parapetlaw27.AnswerLines'. -/
def answerLinesCard : Claim7 := { stood := { row := answerLinesRow, standIns := [], harness := (true, "e5a1a14df46eaa2b12bbd4b94ed472c71a68c7fa2aff8b8a661952bdca065e7d"), looks := false }, kinds := [], alts := [], laidByText := true, laidKinds := [.data, .pinned], laidTests := true, laidLooks := .later }
def AnswerLinesCardSaid : Prop := Claim7.holds Tryd.pinned (.plain (OpenSpec.ofChange answerLinesSpec)) answerLinesCard

/-- THE TIED CARD OF 'parapetlaw27.AnswerTexts'. -/
def answerTextsCard : Claim7 := { stood := { row := answerTextsRow, standIns := [], harness := (true, "e5a1a14df46eaa2b12bbd4b94ed472c71a68c7fa2aff8b8a661952bdca065e7d"), looks := false }, kinds := [], alts := [], laidByText := true, laidKinds := [.data, .pinned], laidTests := true, laidLooks := .later }
def AnswerTextsCardSaid : Prop := Claim7.holds Tryd.pinned (.plain (OpenSpec.ofChange answerTextsSpec)) answerTextsCard

/-- THE SECOND FORM's CARD OF 'parapetlaw27.AnswerQueries'. -/
def answerQueriesUptoCard : Claim7 := { stood := { row := answerQueriesUptoRow, standIns := [], harness := (true, "e5a1a14df46eaa2b12bbd4b94ed472c71a68c7fa2aff8b8a661952bdca065e7d"), looks := false }, kinds := [], alts := [], laidByText := true, laidKinds := [.data, .pinned], laidTests := true, laidLooks := .later }
def AnswerQueriesUptoCardSaid : Prop := Claim7.holds Tryd.pinned (.plain (OpenSpec.upto answerQueriesSpec)) answerQueriesUptoCard

/-- THE SECOND FORM's CARD OF 'parapetlaw27.AnswerLimit'. -/
def answerLimitUptoCard : Claim7 := { stood := { row := answerLimitUptoRow, standIns := [], harness := (true, "e5a1a14df46eaa2b12bbd4b94ed472c71a68c7fa2aff8b8a661952bdca065e7d"), looks := false }, kinds := [], alts := [], laidByText := true, laidKinds := [.data, .pinned], laidTests := true, laidLooks := .later }
def AnswerLimitUptoCardSaid : Prop := Claim7.holds Tryd.pinned (.plain (OpenSpec.upto answerLimitSpec)) answerLimitUptoCard

/-- THE SECOND FORM's CARD OF 'parapetlaw27.AnswerOrder'. -/
def answerOrderUptoCard : Claim7 := { stood := { row := answerOrderUptoRow, standIns := [], harness := (true, "e5a1a14df46eaa2b12bbd4b94ed472c71a68c7fa2aff8b8a661952bdca065e7d"), looks := false }, kinds := [], alts := [], laidByText := true, laidKinds := [.data, .pinned], laidTests := true, laidLooks := .later }
def AnswerOrderUptoCardSaid : Prop := Claim7.holds Tryd.pinned (.plain (OpenSpec.upto answerOrderSpec)) answerOrderUptoCard

/-- THE SECOND FORM's CARD OF 'parapetlaw27.AnswerBack'. -/
def answerBackUptoCard : Claim7 := { stood := { row := answerBackUptoRow, standIns := [], harness := (true, "e5a1a14df46eaa2b12bbd4b94ed472c71a68c7fa2aff8b8a661952bdca065e7d"), looks := false }, kinds := [], alts := [], laidByText := true, laidKinds := [.data, .pinned], laidTests := true, laidLooks := .later }
def AnswerBackUptoCardSaid : Prop := Claim7.holds Tryd.pinned (.plain (OpenSpec.upto answerBackSpec)) answerBackUptoCard

/-- THE SECOND FORM's CARD OF 'parapetlaw27.AnswerLines'. -/
def answerLinesUptoCard : Claim7 := { stood := { row := answerLinesUptoRow, standIns := [], harness := (true, "e5a1a14df46eaa2b12bbd4b94ed472c71a68c7fa2aff8b8a661952bdca065e7d"), looks := false }, kinds := [], alts := [], laidByText := true, laidKinds := [.data, .pinned], laidTests := true, laidLooks := .later }
def AnswerLinesUptoCardSaid : Prop := Claim7.holds Tryd.pinned (.plain (OpenSpec.upto answerLinesSpec)) answerLinesUptoCard

/-- THE SECOND FORM's CARD OF 'parapetlaw27.AnswerTexts'. -/
def answerTextsUptoCard : Claim7 := { stood := { row := answerTextsUptoRow, standIns := [], harness := (true, "e5a1a14df46eaa2b12bbd4b94ed472c71a68c7fa2aff8b8a661952bdca065e7d"), looks := false }, kinds := [], alts := [], laidByText := true, laidKinds := [.data, .pinned], laidTests := true, laidLooks := .later }
def AnswerTextsUptoCardSaid : Prop := Claim7.holds Tryd.pinned (.plain (OpenSpec.upto answerTextsSpec)) answerTextsUptoCard
end Rows
end Go.Proofs.YtilpaopkhghicaaDoor
