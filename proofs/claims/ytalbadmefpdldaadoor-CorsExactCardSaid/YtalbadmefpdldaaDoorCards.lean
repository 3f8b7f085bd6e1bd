/-
  DERIVED. GIVEN WITH THE SEED: THE CARDS: each row of YtalbadmefpdldaaDoorRows.lean that lists a variable, with what it lists TIED to the program's text (the seventh form; the later family's looks); each row that meets fmt, with fmt's text TOLD by the authors' own Lean function (tested against real Go, not proved from fmt's source: count such statements apart). THE CARD IS WHAT COUNTS. Prove the row's statement (the work); the ties are given (YtalbadmefpdldaaDoorTie.lean); close each card by the builder's one call (the guide's Derived/Test/ToyasCard.lean, 'card_holds'). Laid BY PROGRAM, IN A SANDBOX (cutbox-door.mjs). By AI agents, Wed Nov 11 2026. No macro, syntax, notation, axiom, sorry.
-/
import Derived.Test.YtalbadmefpdldaaDoorRows
import GoSem.ClaimSeven
namespace Go.Proofs.YtalbadmefpdldaaDoor
namespace Rows

/-- THE TIED CARD OF 'parapetlaw17.CorsAllows'. -/
def corsAllowsCard : Claim7 := { stood := { row := corsAllowsRow, standIns := [], harness := (true, "6d661d8dc4566ad462daa4d5422f0caa9590e600dac6c352fce2bc2f8e1a9d43"), looks := false }, kinds := [], alts := [], laidByText := true, laidKinds := [.data, .pinned], laidTests := true, laidLooks := .later }
def CorsAllowsCardSaid : Prop := Claim7.holds Tryd.pinned (.plain (OpenSpec.ofChange corsAllowsSpec)) corsAllowsCard

/-- THE TIED CARD OF 'parapetlaw17.CorsPlain'. -/
def corsPlainCard : Claim7 := { stood := { row := corsPlainRow, standIns := [], harness := (true, "6d661d8dc4566ad462daa4d5422f0caa9590e600dac6c352fce2bc2f8e1a9d43"), looks := false }, kinds := [], alts := [], laidByText := true, laidKinds := [.data, .pinned], laidTests := true, laidLooks := .later }
def CorsPlainCardSaid : Prop := Claim7.holds Tryd.pinned (.plain (OpenSpec.ofChange corsPlainSpec)) corsPlainCard

/-- THE TIED CARD OF 'parapetlaw17.CorsMore'. -/
def corsMoreCard : Claim7 := { stood := { row := corsMoreRow, standIns := [], harness := (true, "6d661d8dc4566ad462daa4d5422f0caa9590e600dac6c352fce2bc2f8e1a9d43"), looks := false }, kinds := [], alts := [], laidByText := true, laidKinds := [.data, .pinned], laidTests := true, laidLooks := .later }
def CorsMoreCardSaid : Prop := Claim7.holds Tryd.pinned (.plain (OpenSpec.ofChange corsMoreSpec)) corsMoreCard

/-- THE TIED CARD OF 'parapetlaw17.CorsWild'. -/
def corsWildCard : Claim7 := { stood := { row := corsWildRow, standIns := [], harness := (true, "6d661d8dc4566ad462daa4d5422f0caa9590e600dac6c352fce2bc2f8e1a9d43"), looks := false }, kinds := [], alts := [], laidByText := true, laidKinds := [.data, .pinned], laidTests := true, laidLooks := .later }
def CorsWildCardSaid : Prop := Claim7.holds Tryd.pinned (.plain (OpenSpec.ofChange corsWildSpec)) corsWildCard

/-- THE TIED CARD OF 'parapetlaw17.CorsMethods'. -/
def corsMethodsCard : Claim7 := { stood := { row := corsMethodsRow, standIns := [], harness := (true, "6d661d8dc4566ad462daa4d5422f0caa9590e600dac6c352fce2bc2f8e1a9d43"), looks := false }, kinds := [], alts := [], laidByText := true, laidKinds := [.data, .pinned], laidTests := true, laidLooks := .later }
def CorsMethodsCardSaid : Prop := Claim7.holds Tryd.pinned (.plain (OpenSpec.ofChange corsMethodsSpec)) corsMethodsCard

/-- THE TIED CARD OF 'parapetlaw17.CorsFinds'. -/
def corsFindsCard : Claim7 := { stood := { row := corsFindsRow, standIns := [], harness := (true, "6d661d8dc4566ad462daa4d5422f0caa9590e600dac6c352fce2bc2f8e1a9d43"), looks := false }, kinds := [], alts := [], laidByText := true, laidKinds := [.data, .pinned], laidTests := true, laidLooks := .later }
def CorsFindsCardSaid : Prop := Claim7.holds Tryd.pinned (.plain (OpenSpec.ofChange corsFindsSpec)) corsFindsCard

/-- THE TIED CARD OF 'parapetlaw17.CorsExact'. -/
def corsExactCard : Claim7 := { stood := { row := corsExactRow, standIns := [], harness := (true, "6d661d8dc4566ad462daa4d5422f0caa9590e600dac6c352fce2bc2f8e1a9d43"), looks := false }, kinds := [], alts := [], laidByText := true, laidKinds := [.data, .pinned], laidTests := true, laidLooks := .later }
def CorsExactCardSaid : Prop := Claim7.holds Tryd.pinned (.plain (OpenSpec.ofChange corsExactSpec)) corsExactCard

/-- THE SECOND FORM's CARD OF 'parapetlaw17.CorsAllows'. -/
def corsAllowsUptoCard : Claim7 := { stood := { row := corsAllowsUptoRow, standIns := [], harness := (true, "6d661d8dc4566ad462daa4d5422f0caa9590e600dac6c352fce2bc2f8e1a9d43"), looks := false }, kinds := [], alts := [], laidByText := true, laidKinds := [.data, .pinned], laidTests := true, laidLooks := .later }
def CorsAllowsUptoCardSaid : Prop := Claim7.holds Tryd.pinned (.plain (OpenSpec.upto corsAllowsSpec)) corsAllowsUptoCard

/-- THE SECOND FORM's CARD OF 'parapetlaw17.CorsPlain'. -/
def corsPlainUptoCard : Claim7 := { stood := { row := corsPlainUptoRow, standIns := [], harness := (true, "6d661d8dc4566ad462daa4d5422f0caa9590e600dac6c352fce2bc2f8e1a9d43"), looks := false }, kinds := [], alts := [], laidByText := true, laidKinds := [.data, .pinned], laidTests := true, laidLooks := .later }
def CorsPlainUptoCardSaid : Prop := Claim7.holds Tryd.pinned (.plain (OpenSpec.upto corsPlainSpec)) corsPlainUptoCard

/-- THE SECOND FORM's CARD OF 'parapetlaw17.CorsMore'. -/
def corsMoreUptoCard : Claim7 := { stood := { row := corsMoreUptoRow, standIns := [], harness := (true, "6d661d8dc4566ad462daa4d5422f0caa9590e600dac6c352fce2bc2f8e1a9d43"), looks := false }, kinds := [], alts := [], laidByText := true, laidKinds := [.data, .pinned], laidTests := true, laidLooks := .later }
def CorsMoreUptoCardSaid : Prop := Claim7.holds Tryd.pinned (.plain (OpenSpec.upto corsMoreSpec)) corsMoreUptoCard

/-- THE SECOND FORM's CARD OF 'parapetlaw17.CorsWild'. -/
def corsWildUptoCard : Claim7 := { stood := { row := corsWildUptoRow, standIns := [], harness := (true, "6d661d8dc4566ad462daa4d5422f0caa9590e600dac6c352fce2bc2f8e1a9d43"), looks := false }, kinds := [], alts := [], laidByText := true, laidKinds := [.data, .pinned], laidTests := true, laidLooks := .later }
def CorsWildUptoCardSaid : Prop := Claim7.holds Tryd.pinned (.plain (OpenSpec.upto corsWildSpec)) corsWildUptoCard

/-- THE SECOND FORM's CARD OF 'parapetlaw17.CorsMethods'. -/
def corsMethodsUptoCard : Claim7 := { stood := { row := corsMethodsUptoRow, standIns := [], harness := (true, "6d661d8dc4566ad462daa4d5422f0caa9590e600dac6c352fce2bc2f8e1a9d43"), looks := false }, kinds := [], alts := [], laidByText := true, laidKinds := [.data, .pinned], laidTests := true, laidLooks := .later }
def CorsMethodsUptoCardSaid : Prop := Claim7.holds Tryd.pinned (.plain (OpenSpec.upto corsMethodsSpec)) corsMethodsUptoCard

/-- THE SECOND FORM's CARD OF 'parapetlaw17.CorsFinds'. -/
def corsFindsUptoCard : Claim7 := { stood := { row := corsFindsUptoRow, standIns := [], harness := (true, "6d661d8dc4566ad462daa4d5422f0caa9590e600dac6c352fce2bc2f8e1a9d43"), looks := false }, kinds := [], alts := [], laidByText := true, laidKinds := [.data, .pinned], laidTests := true, laidLooks := .later }
def CorsFindsUptoCardSaid : Prop := Claim7.holds Tryd.pinned (.plain (OpenSpec.upto corsFindsSpec)) corsFindsUptoCard

/-- THE SECOND FORM's CARD OF 'parapetlaw17.CorsExact'. -/
def corsExactUptoCard : Claim7 := { stood := { row := corsExactUptoRow, standIns := [], harness := (true, "6d661d8dc4566ad462daa4d5422f0caa9590e600dac6c352fce2bc2f8e1a9d43"), looks := false }, kinds := [], alts := [], laidByText := true, laidKinds := [.data, .pinned], laidTests := true, laidLooks := .later }
def CorsExactUptoCardSaid : Prop := Claim7.holds Tryd.pinned (.plain (OpenSpec.upto corsExactSpec)) corsExactUptoCard
end Rows
end Go.Proofs.YtalbadmefpdldaaDoor
