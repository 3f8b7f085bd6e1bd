/-
  NARROWER THAN 'FOR EVERY INPUT', by the rows' own cells (each row's printed sentence says how): AnswerQueries: laid · AnswerLimit: laid · AnswerOrder: laid · AnswerBack: laid · AnswerLines: laid · AnswerTexts: laid.
  DERIVED. THE GIVEN ROWS OF THIS SEAT. 6 by the template 'for every input the law returns true; each argument reads behind the call as it read before'; 0 by the template 'total and deterministic' (their statements: YtilpaopkhghicaaDoorTotals.lean).
  GIVEN WITH THE SEED: the statements are not yours to turn. If you find one false, say at which input.
  Laid BY PROGRAM, IN A SANDBOX (cutbox-rows.mjs): the forced cells as the released guide's own fill.sh prints them over the translation 1348942bd9d86125… (all of the seat's roots in one cut). By AI agents, Wed Nov 11 2026. No macro, syntax, notation, axiom, sorry.
-/
import Derived.Test.YtilpaopkhghicaaDoorChecked
import GoSem.PinnedTables
import GoSem.Claim
import GoSem.ClaimJoined
import GoSem.ClaimMapViews
import Derived.JoinedTies
import Derived.KernelRfl
namespace Go.Proofs.YtilpaopkhghicaaDoor
/- THE CELL 'sum', in the pinned program and in every row, IS THE sha256 OF THE DUMP (.gsa) THAT YtilpaopkhghicaaDoorProg.lean LOADS. Nothing in Lean hashes anything: it is a label: what it is worth is what the hold of that sum in a sandbox is worth. -/
noncomputable def Tryd.pinned : Pinned := { name := "ytilpaopkhghicaadoor", sum := "1348942bd9d861258ba4a5f11c07a32e0e1c5a62f18abd191ab31f5357be7a30", checked := Tryd.checked }
namespace Rows
def none {H : Type} : Left H := { results := [], args := [] }

/- WHAT THE LISTED PACKAGE-LEVEL VARIABLES READ AS WHEN THE CALL BEGINS. Each datum BY PROGRAM (the guide's laid-datum.mjs) off the statement by which the dump's own 'gosem.cut.vars' lays the variable. In a bare row this is a premise. The card (YtilpaopkhghicaaDoorCards.lean) ties it to the program's text. -/
def laid_unicode_utf8_acceptRanges {H : Type} : DataW H := .agg [.agg [.lit (.int .u8 128), .lit (.int .u8 191)], .agg [.lit (.int .u8 160), .lit (.int .u8 191)], .agg [.lit (.int .u8 128), .lit (.int .u8 159)], .agg [.lit (.int .u8 144), .lit (.int .u8 191)], .agg [.lit (.int .u8 128), .lit (.int .u8 143)], .agg [.lit (.int .u8 0), .lit (.int .u8 0)], .agg [.lit (.int .u8 0), .lit (.int .u8 0)], .agg [.lit (.int .u8 0), .lit (.int .u8 0)], .agg [.lit (.int .u8 0), .lit (.int .u8 0)], .agg [.lit (.int .u8 0), .lit (.int .u8 0)], .agg [.lit (.int .u8 0), .lit (.int .u8 0)], .agg [.lit (.int .u8 0), .lit (.int .u8 0)], .agg [.lit (.int .u8 0), .lit (.int .u8 0)], .agg [.lit (.int .u8 0), .lit (.int .u8 0)], .agg [.lit (.int .u8 0), .lit (.int .u8 0)], .agg [.lit (.int .u8 0), .lit (.int .u8 0)]]
/-- One of Go's own tables, pinned by name: the form's constant. -/
def laid_unicode_utf8_first : DataW Unit := Go.Pinned.utf8First

/-- 'parapetlaw27.AnswerQueries': WHATEVER THE INPUT: true; the input reads as it did. -/
def answerQueriesSpec : ChangeSpec := { name := "answerQueries", fn := fun _ => fun
  | [d] => { results := [.lit (.bool true)], args := [d] }
  | _ => none }
def answerQueriesRow : OpenClaim := { program := "ytilpaopkhghicaadoor", sum := "1348942bd9d861258ba4a5f11c07a32e0e1c5a62f18abd191ab31f5357be7a30", func := "parapet/parapetlaw27.AnswerQueries", spec := "answerQueries", inPlace := ["internal/bytealg.CountString", "internal/bytealg.IndexByteString", "internal/bytealg.IndexString"], unfollowed := true, recurses := true, named := ["unicode/utf8.first", "unicode/utf8.acceptRanges", "internal/bytealg.MaxLen"], apart := false, laid := [("unicode/utf8.acceptRanges", laid_unicode_utf8_acceptRanges), ("unicode/utf8.first", laid_unicode_utf8_first)] }
def AnswerQueriesSaid : Prop := answerQueriesRow.holds Tryd.pinned (OpenSpec.ofChange answerQueriesSpec)

/-- ITS FALSE NEIGHBOUR: 'it returns false'. Refute it at one input. -/
def answerQueriesWrong : ChangeSpec := { name := "answerQueries", fn := fun _ => fun
  | [d] => { results := [.lit (.bool false)], args := [d] }
  | _ => none }
def AnswerQueriesWrongFalsely : Prop := answerQueriesRow.holds Tryd.pinned (OpenSpec.ofChange answerQueriesWrong)

/-- 'parapetlaw27.AnswerLimit': WHATEVER THE INPUT: true; the input reads as it did. -/
def answerLimitSpec : ChangeSpec := { name := "answerLimit", fn := fun _ => fun
  | [d] => { results := [.lit (.bool true)], args := [d] }
  | _ => none }
def answerLimitRow : OpenClaim := { program := "ytilpaopkhghicaadoor", sum := "1348942bd9d861258ba4a5f11c07a32e0e1c5a62f18abd191ab31f5357be7a30", func := "parapet/parapetlaw27.AnswerLimit", spec := "answerLimit", inPlace := ["internal/bytealg.CountString", "internal/bytealg.IndexByteString", "internal/bytealg.IndexString"], unfollowed := true, recurses := true, named := ["unicode/utf8.first", "unicode/utf8.acceptRanges", "internal/bytealg.MaxLen"], apart := false, laid := [("unicode/utf8.acceptRanges", laid_unicode_utf8_acceptRanges), ("unicode/utf8.first", laid_unicode_utf8_first)] }
def AnswerLimitSaid : Prop := answerLimitRow.holds Tryd.pinned (OpenSpec.ofChange answerLimitSpec)

/-- ITS FALSE NEIGHBOUR: 'it returns false'. Refute it at one input. -/
def answerLimitWrong : ChangeSpec := { name := "answerLimit", fn := fun _ => fun
  | [d] => { results := [.lit (.bool false)], args := [d] }
  | _ => none }
def AnswerLimitWrongFalsely : Prop := answerLimitRow.holds Tryd.pinned (OpenSpec.ofChange answerLimitWrong)

/-- 'parapetlaw27.AnswerOrder': WHATEVER THE INPUT: true; the input reads as it did. -/
def answerOrderSpec : ChangeSpec := { name := "answerOrder", fn := fun _ => fun
  | [d1, d2] => { results := [.lit (.bool true)], args := [d1, d2] }
  | _ => none }
def answerOrderRow : OpenClaim := { program := "ytilpaopkhghicaadoor", sum := "1348942bd9d861258ba4a5f11c07a32e0e1c5a62f18abd191ab31f5357be7a30", func := "parapet/parapetlaw27.AnswerOrder", spec := "answerOrder", inPlace := ["internal/bytealg.CountString", "internal/bytealg.IndexByteString", "internal/bytealg.IndexString"], unfollowed := true, recurses := true, named := ["unicode/utf8.first", "unicode/utf8.acceptRanges", "internal/bytealg.MaxLen"], apart := false, laid := [("unicode/utf8.acceptRanges", laid_unicode_utf8_acceptRanges), ("unicode/utf8.first", laid_unicode_utf8_first)] }
def AnswerOrderSaid : Prop := answerOrderRow.holds Tryd.pinned (OpenSpec.ofChange answerOrderSpec)

/-- ITS FALSE NEIGHBOUR: 'it returns false'. Refute it at one input. -/
def answerOrderWrong : ChangeSpec := { name := "answerOrder", fn := fun _ => fun
  | [d1, d2] => { results := [.lit (.bool false)], args := [d1, d2] }
  | _ => none }
def AnswerOrderWrongFalsely : Prop := answerOrderRow.holds Tryd.pinned (OpenSpec.ofChange answerOrderWrong)

/-- 'parapetlaw27.AnswerBack': WHATEVER THE INPUT: true; the input reads as it did. -/
def answerBackSpec : ChangeSpec := { name := "answerBack", fn := fun _ => fun
  | [d] => { results := [.lit (.bool true)], args := [d] }
  | _ => none }
def answerBackRow : OpenClaim := { program := "ytilpaopkhghicaadoor", sum := "1348942bd9d861258ba4a5f11c07a32e0e1c5a62f18abd191ab31f5357be7a30", func := "parapet/parapetlaw27.AnswerBack", spec := "answerBack", inPlace := ["internal/bytealg.CountString", "internal/bytealg.IndexByteString", "internal/bytealg.IndexString"], unfollowed := true, recurses := true, named := ["unicode/utf8.first", "unicode/utf8.acceptRanges", "internal/bytealg.MaxLen"], apart := false, laid := [("unicode/utf8.acceptRanges", laid_unicode_utf8_acceptRanges), ("unicode/utf8.first", laid_unicode_utf8_first)] }
def AnswerBackSaid : Prop := answerBackRow.holds Tryd.pinned (OpenSpec.ofChange answerBackSpec)

/-- ITS FALSE NEIGHBOUR: 'it returns false'. Refute it at one input. -/
def answerBackWrong : ChangeSpec := { name := "answerBack", fn := fun _ => fun
  | [d] => { results := [.lit (.bool false)], args := [d] }
  | _ => none }
def AnswerBackWrongFalsely : Prop := answerBackRow.holds Tryd.pinned (OpenSpec.ofChange answerBackWrong)

/-- 'parapetlaw27.AnswerLines': WHATEVER THE INPUT: true; the input reads as it did. -/
def answerLinesSpec : ChangeSpec := { name := "answerLines", fn := fun _ => fun
  | [d1, d2, d3, d4] => { results := [.lit (.bool true)], args := [d1, d2, d3, d4] }
  | _ => none }
def answerLinesRow : OpenClaim := { program := "ytilpaopkhghicaadoor", sum := "1348942bd9d861258ba4a5f11c07a32e0e1c5a62f18abd191ab31f5357be7a30", func := "parapet/parapetlaw27.AnswerLines", spec := "answerLines", inPlace := ["internal/bytealg.CountString", "internal/bytealg.IndexByteString", "internal/bytealg.IndexString"], unfollowed := true, recurses := true, named := ["unicode/utf8.first", "unicode/utf8.acceptRanges", "internal/bytealg.MaxLen"], apart := false, laid := [("unicode/utf8.acceptRanges", laid_unicode_utf8_acceptRanges), ("unicode/utf8.first", laid_unicode_utf8_first)] }
def AnswerLinesSaid : Prop := answerLinesRow.holds Tryd.pinned (OpenSpec.ofChange answerLinesSpec)

/-- ITS FALSE NEIGHBOUR: 'it returns false'. Refute it at one input. -/
def answerLinesWrong : ChangeSpec := { name := "answerLines", fn := fun _ => fun
  | [d1, d2, d3, d4] => { results := [.lit (.bool false)], args := [d1, d2, d3, d4] }
  | _ => none }
def AnswerLinesWrongFalsely : Prop := answerLinesRow.holds Tryd.pinned (OpenSpec.ofChange answerLinesWrong)

/-- 'parapetlaw27.AnswerTexts': WHATEVER THE INPUT: true; the input reads as it did. -/
def answerTextsSpec : ChangeSpec := { name := "answerTexts", fn := fun _ => fun
  | [d1, d2, d3, d4, d5, d6, d7] => { results := [.lit (.bool true)], args := [d1, d2, d3, d4, d5, d6, d7] }
  | _ => none }
def answerTextsRow : OpenClaim := { program := "ytilpaopkhghicaadoor", sum := "1348942bd9d861258ba4a5f11c07a32e0e1c5a62f18abd191ab31f5357be7a30", func := "parapet/parapetlaw27.AnswerTexts", spec := "answerTexts", inPlace := ["internal/bytealg.CountString", "internal/bytealg.IndexByteString", "internal/bytealg.IndexString"], unfollowed := true, recurses := true, named := ["unicode/utf8.first", "unicode/utf8.acceptRanges", "internal/bytealg.MaxLen"], apart := false, laid := [("unicode/utf8.acceptRanges", laid_unicode_utf8_acceptRanges), ("unicode/utf8.first", laid_unicode_utf8_first)] }
def AnswerTextsSaid : Prop := answerTextsRow.holds Tryd.pinned (OpenSpec.ofChange answerTextsSpec)

/-- ITS FALSE NEIGHBOUR: 'it returns false'. Refute it at one input. -/
def answerTextsWrong : ChangeSpec := { name := "answerTexts", fn := fun _ => fun
  | [d1, d2, d3, d4, d5, d6, d7] => { results := [.lit (.bool false)], args := [d1, d2, d3, d4, d5, d6, d7] }
  | _ => none }
def AnswerTextsWrongFalsely : Prop := answerTextsRow.holds Tryd.pinned (OpenSpec.ofChange answerTextsWrong)

/- THE SECOND FORM. 'bulk': how many values and letters a reading holds, each counted each time it is reached (what is shared counts as often as it is met; a slice's spare places count too). A statement '..UptoSaid' is the law's where the arguments, and the package variables that the reading takes, are together of bulk at most 1048576: NARROWER than '..Said'. Prove '..Said' where nothing that the law and all that it calls make is longer than what came in: it says more and counts as full. Else prove '..UptoSaid'. A law counts once. -/
mutual
def uptoBulk {H : Type} : DataW H → Nat
  | .lit (.string bytes) => bytes.length + 1
  | .lit _ => 1
  | .nil => 1
  | .ptr d => uptoBulk d + 1
  | .slice elems spare => uptoBulkAll elems + uptoBulkAll spare + 1
  | .agg parts => uptoBulkAll parts + 1
  | .iface _ d => uptoBulk d + 1
  | .map entries => uptoBulkEntries entries + 1
  | .held _ => 1
def uptoBulkAll {H : Type} : List (DataW H) → Nat
  | [] => 0
  | d :: r => uptoBulk d + uptoBulkAll r
def uptoBulkEntries {H : Type} : List (Lit × DataW H) → Nat
  | [] => 0
  | x :: r => uptoBulkEntry x + uptoBulkEntries r
def uptoBulkEntry {H : Type} : Lit × DataW H → Nat
  | (.string bytes, d) => bytes.length + uptoBulk d + 1
  | (_, d) => uptoBulk d + 1
 end
def uptoSmall : (H : Type) → List (DataW H) → Bool := fun _ ds => decide (uptoBulkAll ds ≤ 1048576)
def OpenSpec.upto (s : _root_.Go.ChangeSpec) : _root_.Go.OpenSpec := { _root_.Go.OpenSpec.ofChange s with cond := some uptoSmall }

/-- 'parapetlaw27.AnswerQueries', WHERE WHAT IT READS IS OF BULK AT MOST 1048576: true; the input reads as it did. -/
def answerQueriesUptoRow : OpenClaim := { program := "ytilpaopkhghicaadoor", sum := "1348942bd9d861258ba4a5f11c07a32e0e1c5a62f18abd191ab31f5357be7a30", func := "parapet/parapetlaw27.AnswerQueries", spec := "answerQueries", inPlace := ["internal/bytealg.CountString", "internal/bytealg.IndexByteString", "internal/bytealg.IndexString"], unfollowed := true, recurses := true, named := ["unicode/utf8.first", "unicode/utf8.acceptRanges", "internal/bytealg.MaxLen"], apart := false, laid := [("unicode/utf8.acceptRanges", laid_unicode_utf8_acceptRanges), ("unicode/utf8.first", laid_unicode_utf8_first)], narrowed := true }
def AnswerQueriesUptoSaid : Prop := answerQueriesUptoRow.holds Tryd.pinned (OpenSpec.upto answerQueriesSpec)

/-- 'parapetlaw27.AnswerLimit', WHERE WHAT IT READS IS OF BULK AT MOST 1048576: true; the input reads as it did. -/
def answerLimitUptoRow : OpenClaim := { program := "ytilpaopkhghicaadoor", sum := "1348942bd9d861258ba4a5f11c07a32e0e1c5a62f18abd191ab31f5357be7a30", func := "parapet/parapetlaw27.AnswerLimit", spec := "answerLimit", inPlace := ["internal/bytealg.CountString", "internal/bytealg.IndexByteString", "internal/bytealg.IndexString"], unfollowed := true, recurses := true, named := ["unicode/utf8.first", "unicode/utf8.acceptRanges", "internal/bytealg.MaxLen"], apart := false, laid := [("unicode/utf8.acceptRanges", laid_unicode_utf8_acceptRanges), ("unicode/utf8.first", laid_unicode_utf8_first)], narrowed := true }
def AnswerLimitUptoSaid : Prop := answerLimitUptoRow.holds Tryd.pinned (OpenSpec.upto answerLimitSpec)

/-- 'parapetlaw27.AnswerOrder', WHERE WHAT IT READS IS OF BULK AT MOST 1048576: true; the input reads as it did. -/
def answerOrderUptoRow : OpenClaim := { program := "ytilpaopkhghicaadoor", sum := "1348942bd9d861258ba4a5f11c07a32e0e1c5a62f18abd191ab31f5357be7a30", func := "parapet/parapetlaw27.AnswerOrder", spec := "answerOrder", inPlace := ["internal/bytealg.CountString", "internal/bytealg.IndexByteString", "internal/bytealg.IndexString"], unfollowed := true, recurses := true, named := ["unicode/utf8.first", "unicode/utf8.acceptRanges", "internal/bytealg.MaxLen"], apart := false, laid := [("unicode/utf8.acceptRanges", laid_unicode_utf8_acceptRanges), ("unicode/utf8.first", laid_unicode_utf8_first)], narrowed := true }
def AnswerOrderUptoSaid : Prop := answerOrderUptoRow.holds Tryd.pinned (OpenSpec.upto answerOrderSpec)

/-- 'parapetlaw27.AnswerBack', WHERE WHAT IT READS IS OF BULK AT MOST 1048576: true; the input reads as it did. -/
def answerBackUptoRow : OpenClaim := { program := "ytilpaopkhghicaadoor", sum := "1348942bd9d861258ba4a5f11c07a32e0e1c5a62f18abd191ab31f5357be7a30", func := "parapet/parapetlaw27.AnswerBack", spec := "answerBack", inPlace := ["internal/bytealg.CountString", "internal/bytealg.IndexByteString", "internal/bytealg.IndexString"], unfollowed := true, recurses := true, named := ["unicode/utf8.first", "unicode/utf8.acceptRanges", "internal/bytealg.MaxLen"], apart := false, laid := [("unicode/utf8.acceptRanges", laid_unicode_utf8_acceptRanges), ("unicode/utf8.first", laid_unicode_utf8_first)], narrowed := true }
def AnswerBackUptoSaid : Prop := answerBackUptoRow.holds Tryd.pinned (OpenSpec.upto answerBackSpec)

/-- 'parapetlaw27.AnswerLines', WHERE WHAT IT READS IS OF BULK AT MOST 1048576: true; the input reads as it did. -/
def answerLinesUptoRow : OpenClaim := { program := "ytilpaopkhghicaadoor", sum := "1348942bd9d861258ba4a5f11c07a32e0e1c5a62f18abd191ab31f5357be7a30", func := "parapet/parapetlaw27.AnswerLines", spec := "answerLines", inPlace := ["internal/bytealg.CountString", "internal/bytealg.IndexByteString", "internal/bytealg.IndexString"], unfollowed := true, recurses := true, named := ["unicode/utf8.first", "unicode/utf8.acceptRanges", "internal/bytealg.MaxLen"], apart := false, laid := [("unicode/utf8.acceptRanges", laid_unicode_utf8_acceptRanges), ("unicode/utf8.first", laid_unicode_utf8_first)], narrowed := true }
def AnswerLinesUptoSaid : Prop := answerLinesUptoRow.holds Tryd.pinned (OpenSpec.upto answerLinesSpec)

/-- 'parapetlaw27.AnswerTexts', WHERE WHAT IT READS IS OF BULK AT MOST 1048576: true; the input reads as it did. -/
def answerTextsUptoRow : OpenClaim := { program := "ytilpaopkhghicaadoor", sum := "1348942bd9d861258ba4a5f11c07a32e0e1c5a62f18abd191ab31f5357be7a30", func := "parapet/parapetlaw27.AnswerTexts", spec := "answerTexts", inPlace := ["internal/bytealg.CountString", "internal/bytealg.IndexByteString", "internal/bytealg.IndexString"], unfollowed := true, recurses := true, named := ["unicode/utf8.first", "unicode/utf8.acceptRanges", "internal/bytealg.MaxLen"], apart := false, laid := [("unicode/utf8.acceptRanges", laid_unicode_utf8_acceptRanges), ("unicode/utf8.first", laid_unicode_utf8_first)], narrowed := true }
def AnswerTextsUptoSaid : Prop := answerTextsUptoRow.holds Tryd.pinned (OpenSpec.upto answerTextsSpec)

end Rows
end Go.Proofs.YtilpaopkhghicaaDoor
