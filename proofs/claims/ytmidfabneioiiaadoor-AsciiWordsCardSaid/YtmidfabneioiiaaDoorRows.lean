/-
  NARROWER THAN 'FOR EVERY INPUT', by the rows' own cells (each row's printed sentence says how): AsciiCuts: laid · AsciiWords: laid · AsciiBytes: laid · AsciiCases: laid · AsciiAny: laid · AsciiNumbers: laid · AsciiBack: laid · AsciiTrims: laid · AsciiTokens: laid.
  DERIVED. THE GIVEN ROWS OF THIS SEAT. 9 by the template 'for every input the law returns true; each argument reads behind the call as it read before'; 0 by the template 'total and deterministic' (their statements: YtmidfabneioiiaaDoorTotals.lean).
  GIVEN WITH THE SEED: the statements are not yours to turn. If you find one false, say at which input.
  Laid BY PROGRAM, IN A SANDBOX (cutbox-rows.mjs): the forced cells as the released guide's own fill.sh prints them over the translation 7294774e0bef6a47… (all of the seat's roots in one cut). By AI agents, Wed Nov 11 2026. No macro, syntax, notation, axiom, sorry.
-/
import Derived.Test.YtmidfabneioiiaaDoorChecked
import GoSem.PinnedTables
import GoSem.Claim
import GoSem.ClaimJoined
import GoSem.ClaimMapViews
import Derived.JoinedTies
import Derived.KernelRfl
namespace Go.Proofs.YtmidfabneioiiaaDoor
/- THE CELL 'sum', in the pinned program and in every row, IS THE sha256 OF THE DUMP (.gsa) THAT YtmidfabneioiiaaDoorProg.lean LOADS. Nothing in Lean hashes anything: it is a label: what it is worth is what the hold of that sum in a sandbox is worth. -/
noncomputable def Tryd.pinned : Pinned := { name := "ytmidfabneioiiaadoor", sum := "7294774e0bef6a47d6b7dd617514ce8cf847e2ac1836c18def7110159f53b8fc", checked := Tryd.checked }
namespace Rows
def none {H : Type} : Left H := { results := [], args := [] }

/- WHAT THE LISTED PACKAGE-LEVEL VARIABLES READ AS WHEN THE CALL BEGINS. Each datum BY PROGRAM (the guide's laid-datum.mjs) off the statement by which the dump's own 'gosem.cut.vars' lays the variable. In a bare row this is a premise. The card (YtmidfabneioiiaaDoorCards.lean) ties it to the program's text. -/
def laid_unicode_utf8_acceptRanges {H : Type} : DataW H := .agg [.agg [.lit (.int .u8 128), .lit (.int .u8 191)], .agg [.lit (.int .u8 160), .lit (.int .u8 191)], .agg [.lit (.int .u8 128), .lit (.int .u8 159)], .agg [.lit (.int .u8 144), .lit (.int .u8 191)], .agg [.lit (.int .u8 128), .lit (.int .u8 143)], .agg [.lit (.int .u8 0), .lit (.int .u8 0)], .agg [.lit (.int .u8 0), .lit (.int .u8 0)], .agg [.lit (.int .u8 0), .lit (.int .u8 0)], .agg [.lit (.int .u8 0), .lit (.int .u8 0)], .agg [.lit (.int .u8 0), .lit (.int .u8 0)], .agg [.lit (.int .u8 0), .lit (.int .u8 0)], .agg [.lit (.int .u8 0), .lit (.int .u8 0)], .agg [.lit (.int .u8 0), .lit (.int .u8 0)], .agg [.lit (.int .u8 0), .lit (.int .u8 0)], .agg [.lit (.int .u8 0), .lit (.int .u8 0)], .agg [.lit (.int .u8 0), .lit (.int .u8 0)]]
/-- One of Go's own tables, pinned by name: the form's constant. -/
def laid_unicode_utf8_first : DataW Unit := Go.Pinned.utf8First

/-- 'parapetlaw1.AsciiCuts': WHATEVER THE INPUT: true; the input reads as it did. -/
def asciiCutsSpec : ChangeSpec := { name := "asciiCuts", fn := fun _ => fun
  | [d1, d2] => { results := [.lit (.bool true)], args := [d1, d2] }
  | _ => none }
def asciiCutsRow : OpenClaim := { program := "ytmidfabneioiiaadoor", sum := "7294774e0bef6a47d6b7dd617514ce8cf847e2ac1836c18def7110159f53b8fc", func := "parapet/parapetlaw1.AsciiCuts", spec := "asciiCuts", inPlace := ["internal/bytealg.CountString", "internal/bytealg.IndexByteString", "internal/bytealg.IndexString"], named := ["unicode/utf8.first", "unicode/utf8.acceptRanges", "internal/bytealg.MaxLen"], apart := false, laid := [("unicode/utf8.acceptRanges", laid_unicode_utf8_acceptRanges), ("unicode/utf8.first", laid_unicode_utf8_first)] }
def AsciiCutsSaid : Prop := asciiCutsRow.holds Tryd.pinned (OpenSpec.ofChange asciiCutsSpec)

/-- ITS FALSE NEIGHBOUR: 'it returns false'. Refute it at one input. -/
def asciiCutsWrong : ChangeSpec := { name := "asciiCuts", fn := fun _ => fun
  | [d1, d2] => { results := [.lit (.bool false)], args := [d1, d2] }
  | _ => none }
def AsciiCutsWrongFalsely : Prop := asciiCutsRow.holds Tryd.pinned (OpenSpec.ofChange asciiCutsWrong)

/-- 'parapetlaw1.AsciiWords': WHATEVER THE INPUT: true; the input reads as it did. -/
def asciiWordsSpec : ChangeSpec := { name := "asciiWords", fn := fun _ => fun
  | [d] => { results := [.lit (.bool true)], args := [d] }
  | _ => none }
def asciiWordsRow : OpenClaim := { program := "ytmidfabneioiiaadoor", sum := "7294774e0bef6a47d6b7dd617514ce8cf847e2ac1836c18def7110159f53b8fc", func := "parapet/parapetlaw1.AsciiWords", spec := "asciiWords", inPlace := ["internal/bytealg.CountString", "internal/bytealg.IndexByteString", "internal/bytealg.IndexString"], named := ["unicode/utf8.first", "unicode/utf8.acceptRanges", "internal/bytealg.MaxLen"], apart := false, laid := [("unicode/utf8.acceptRanges", laid_unicode_utf8_acceptRanges), ("unicode/utf8.first", laid_unicode_utf8_first)] }
def AsciiWordsSaid : Prop := asciiWordsRow.holds Tryd.pinned (OpenSpec.ofChange asciiWordsSpec)

/-- ITS FALSE NEIGHBOUR: 'it returns false'. Refute it at one input. -/
def asciiWordsWrong : ChangeSpec := { name := "asciiWords", fn := fun _ => fun
  | [d] => { results := [.lit (.bool false)], args := [d] }
  | _ => none }
def AsciiWordsWrongFalsely : Prop := asciiWordsRow.holds Tryd.pinned (OpenSpec.ofChange asciiWordsWrong)

/-- 'parapetlaw1.AsciiBytes': WHATEVER THE INPUT: true; the input reads as it did. -/
def asciiBytesSpec : ChangeSpec := { name := "asciiBytes", fn := fun _ => fun
  | [d] => { results := [.lit (.bool true)], args := [d] }
  | _ => none }
def asciiBytesRow : OpenClaim := { program := "ytmidfabneioiiaadoor", sum := "7294774e0bef6a47d6b7dd617514ce8cf847e2ac1836c18def7110159f53b8fc", func := "parapet/parapetlaw1.AsciiBytes", spec := "asciiBytes", inPlace := ["internal/bytealg.CountString", "internal/bytealg.IndexByteString", "internal/bytealg.IndexString"], named := ["unicode/utf8.first", "unicode/utf8.acceptRanges", "internal/bytealg.MaxLen"], apart := false, laid := [("unicode/utf8.acceptRanges", laid_unicode_utf8_acceptRanges), ("unicode/utf8.first", laid_unicode_utf8_first)] }
def AsciiBytesSaid : Prop := asciiBytesRow.holds Tryd.pinned (OpenSpec.ofChange asciiBytesSpec)

/-- ITS FALSE NEIGHBOUR: 'it returns false'. Refute it at one input. -/
def asciiBytesWrong : ChangeSpec := { name := "asciiBytes", fn := fun _ => fun
  | [d] => { results := [.lit (.bool false)], args := [d] }
  | _ => none }
def AsciiBytesWrongFalsely : Prop := asciiBytesRow.holds Tryd.pinned (OpenSpec.ofChange asciiBytesWrong)

/-- 'parapetlaw1.AsciiCases': WHATEVER THE INPUT: true; the input reads as it did. -/
def asciiCasesSpec : ChangeSpec := { name := "asciiCases", fn := fun _ => fun
  | [d1, d2] => { results := [.lit (.bool true)], args := [d1, d2] }
  | _ => none }
def asciiCasesRow : OpenClaim := { program := "ytmidfabneioiiaadoor", sum := "7294774e0bef6a47d6b7dd617514ce8cf847e2ac1836c18def7110159f53b8fc", func := "parapet/parapetlaw1.AsciiCases", spec := "asciiCases", inPlace := ["internal/bytealg.CountString", "internal/bytealg.IndexByteString", "internal/bytealg.IndexString"], named := ["unicode/utf8.first", "unicode/utf8.acceptRanges", "internal/bytealg.MaxLen"], apart := false, laid := [("unicode/utf8.acceptRanges", laid_unicode_utf8_acceptRanges), ("unicode/utf8.first", laid_unicode_utf8_first)] }
def AsciiCasesSaid : Prop := asciiCasesRow.holds Tryd.pinned (OpenSpec.ofChange asciiCasesSpec)

/-- ITS FALSE NEIGHBOUR: 'it returns false'. Refute it at one input. -/
def asciiCasesWrong : ChangeSpec := { name := "asciiCases", fn := fun _ => fun
  | [d1, d2] => { results := [.lit (.bool false)], args := [d1, d2] }
  | _ => none }
def AsciiCasesWrongFalsely : Prop := asciiCasesRow.holds Tryd.pinned (OpenSpec.ofChange asciiCasesWrong)

/-- 'parapetlaw1.AsciiAny': WHATEVER THE INPUT: true; the input reads as it did. -/
def asciiAnySpec : ChangeSpec := { name := "asciiAny", fn := fun _ => fun
  | [d1, d2] => { results := [.lit (.bool true)], args := [d1, d2] }
  | _ => none }
def asciiAnyRow : OpenClaim := { program := "ytmidfabneioiiaadoor", sum := "7294774e0bef6a47d6b7dd617514ce8cf847e2ac1836c18def7110159f53b8fc", func := "parapet/parapetlaw1.AsciiAny", spec := "asciiAny", inPlace := ["internal/bytealg.CountString", "internal/bytealg.IndexByteString", "internal/bytealg.IndexString"], named := ["unicode/utf8.first", "unicode/utf8.acceptRanges", "internal/bytealg.MaxLen"], apart := false, laid := [("unicode/utf8.acceptRanges", laid_unicode_utf8_acceptRanges), ("unicode/utf8.first", laid_unicode_utf8_first)] }
def AsciiAnySaid : Prop := asciiAnyRow.holds Tryd.pinned (OpenSpec.ofChange asciiAnySpec)

/-- ITS FALSE NEIGHBOUR: 'it returns false'. Refute it at one input. -/
def asciiAnyWrong : ChangeSpec := { name := "asciiAny", fn := fun _ => fun
  | [d1, d2] => { results := [.lit (.bool false)], args := [d1, d2] }
  | _ => none }
def AsciiAnyWrongFalsely : Prop := asciiAnyRow.holds Tryd.pinned (OpenSpec.ofChange asciiAnyWrong)

/-- 'parapetlaw1.AsciiNumbers': WHATEVER THE INPUT: true; the input reads as it did. -/
def asciiNumbersSpec : ChangeSpec := { name := "asciiNumbers", fn := fun _ => fun
  | [d1, d2, d3] => { results := [.lit (.bool true)], args := [d1, d2, d3] }
  | _ => none }
def asciiNumbersRow : OpenClaim := { program := "ytmidfabneioiiaadoor", sum := "7294774e0bef6a47d6b7dd617514ce8cf847e2ac1836c18def7110159f53b8fc", func := "parapet/parapetlaw1.AsciiNumbers", spec := "asciiNumbers", inPlace := ["internal/bytealg.CountString", "internal/bytealg.IndexByteString", "internal/bytealg.IndexString"], named := ["unicode/utf8.first", "unicode/utf8.acceptRanges", "internal/bytealg.MaxLen"], apart := false, laid := [("unicode/utf8.acceptRanges", laid_unicode_utf8_acceptRanges), ("unicode/utf8.first", laid_unicode_utf8_first)] }
def AsciiNumbersSaid : Prop := asciiNumbersRow.holds Tryd.pinned (OpenSpec.ofChange asciiNumbersSpec)

/-- ITS FALSE NEIGHBOUR: 'it returns false'. Refute it at one input. -/
def asciiNumbersWrong : ChangeSpec := { name := "asciiNumbers", fn := fun _ => fun
  | [d1, d2, d3] => { results := [.lit (.bool false)], args := [d1, d2, d3] }
  | _ => none }
def AsciiNumbersWrongFalsely : Prop := asciiNumbersRow.holds Tryd.pinned (OpenSpec.ofChange asciiNumbersWrong)

/-- 'parapetlaw1.AsciiBack': WHATEVER THE INPUT: true; the input reads as it did. -/
def asciiBackSpec : ChangeSpec := { name := "asciiBack", fn := fun _ => fun
  | [d1, d2, d3] => { results := [.lit (.bool true)], args := [d1, d2, d3] }
  | _ => none }
def asciiBackRow : OpenClaim := { program := "ytmidfabneioiiaadoor", sum := "7294774e0bef6a47d6b7dd617514ce8cf847e2ac1836c18def7110159f53b8fc", func := "parapet/parapetlaw1.AsciiBack", spec := "asciiBack", inPlace := ["internal/bytealg.CountString", "internal/bytealg.IndexByteString", "internal/bytealg.IndexString"], named := ["unicode/utf8.first", "unicode/utf8.acceptRanges", "internal/bytealg.MaxLen"], apart := false, laid := [("unicode/utf8.acceptRanges", laid_unicode_utf8_acceptRanges), ("unicode/utf8.first", laid_unicode_utf8_first)] }
def AsciiBackSaid : Prop := asciiBackRow.holds Tryd.pinned (OpenSpec.ofChange asciiBackSpec)

/-- ITS FALSE NEIGHBOUR: 'it returns false'. Refute it at one input. -/
def asciiBackWrong : ChangeSpec := { name := "asciiBack", fn := fun _ => fun
  | [d1, d2, d3] => { results := [.lit (.bool false)], args := [d1, d2, d3] }
  | _ => none }
def AsciiBackWrongFalsely : Prop := asciiBackRow.holds Tryd.pinned (OpenSpec.ofChange asciiBackWrong)

/-- 'parapetlaw1.AsciiTrims': WHATEVER THE INPUT: true; the input reads as it did. -/
def asciiTrimsSpec : ChangeSpec := { name := "asciiTrims", fn := fun _ => fun
  | [d1, d2, d3] => { results := [.lit (.bool true)], args := [d1, d2, d3] }
  | _ => none }
def asciiTrimsRow : OpenClaim := { program := "ytmidfabneioiiaadoor", sum := "7294774e0bef6a47d6b7dd617514ce8cf847e2ac1836c18def7110159f53b8fc", func := "parapet/parapetlaw1.AsciiTrims", spec := "asciiTrims", inPlace := ["internal/bytealg.CountString", "internal/bytealg.IndexByteString", "internal/bytealg.IndexString"], named := ["unicode/utf8.first", "unicode/utf8.acceptRanges", "internal/bytealg.MaxLen"], apart := false, laid := [("unicode/utf8.acceptRanges", laid_unicode_utf8_acceptRanges), ("unicode/utf8.first", laid_unicode_utf8_first)] }
def AsciiTrimsSaid : Prop := asciiTrimsRow.holds Tryd.pinned (OpenSpec.ofChange asciiTrimsSpec)

/-- ITS FALSE NEIGHBOUR: 'it returns false'. Refute it at one input. -/
def asciiTrimsWrong : ChangeSpec := { name := "asciiTrims", fn := fun _ => fun
  | [d1, d2, d3] => { results := [.lit (.bool false)], args := [d1, d2, d3] }
  | _ => none }
def AsciiTrimsWrongFalsely : Prop := asciiTrimsRow.holds Tryd.pinned (OpenSpec.ofChange asciiTrimsWrong)

/-- 'parapetlaw1.AsciiTokens': WHATEVER THE INPUT: true; the input reads as it did. -/
def asciiTokensSpec : ChangeSpec := { name := "asciiTokens", fn := fun _ => fun
  | [d] => { results := [.lit (.bool true)], args := [d] }
  | _ => none }
def asciiTokensRow : OpenClaim := { program := "ytmidfabneioiiaadoor", sum := "7294774e0bef6a47d6b7dd617514ce8cf847e2ac1836c18def7110159f53b8fc", func := "parapet/parapetlaw1.AsciiTokens", spec := "asciiTokens", inPlace := ["internal/bytealg.CountString", "internal/bytealg.IndexByteString", "internal/bytealg.IndexString"], named := ["unicode/utf8.first", "unicode/utf8.acceptRanges", "internal/bytealg.MaxLen"], apart := false, laid := [("unicode/utf8.acceptRanges", laid_unicode_utf8_acceptRanges), ("unicode/utf8.first", laid_unicode_utf8_first)] }
def AsciiTokensSaid : Prop := asciiTokensRow.holds Tryd.pinned (OpenSpec.ofChange asciiTokensSpec)

/-- ITS FALSE NEIGHBOUR: 'it returns false'. Refute it at one input. -/
def asciiTokensWrong : ChangeSpec := { name := "asciiTokens", fn := fun _ => fun
  | [d] => { results := [.lit (.bool false)], args := [d] }
  | _ => none }
def AsciiTokensWrongFalsely : Prop := asciiTokensRow.holds Tryd.pinned (OpenSpec.ofChange asciiTokensWrong)

/- THE SECOND FORM. 'bulk': how many values and letters a reading holds, each counted each time it is reached (what is shared counts as often as it is met; a slice's spare places count too). A statement '..UptoSaid' is the law's where the arguments, and the package variables that the reading takes, are together of bulk at most 1048576: NARROWER than '..Said'. Prove '..Said' where nothing that the law and all that it calls make is longer than what came in: it says more and counts as full. Else prove '..UptoSaid'. A law counts once. -/
mutual
def uptoBulk {H : Type} : DataW H → Nat
  | .lit (.string bytes) => bytes.length + 1
  | .lit _ => 1
  | .nil => 1
  | .ptr d => uptoBulk d + 1
  | .slice elems spare => uptoBulkAll elems + uptoBulkAll spare + 1
  | .agg parts => uptoBulkAll parts + 1
  | .iface _ d => uptoBulk d + 1
  | .map entries => uptoBulkEntries entries + 1
  | .held _ => 1
def uptoBulkAll {H : Type} : List (DataW H) → Nat
  | [] => 0
  | d :: r => uptoBulk d + uptoBulkAll r
def uptoBulkEntries {H : Type} : List (Lit × DataW H) → Nat
  | [] => 0
  | x :: r => uptoBulkEntry x + uptoBulkEntries r
def uptoBulkEntry {H : Type} : Lit × DataW H → Nat
  | (.string bytes, d) => bytes.length + uptoBulk d + 1
  | (_, d) => uptoBulk d + 1
 end
def uptoSmall : (H : Type) → List (DataW H) → Bool := fun _ ds => decide (uptoBulkAll ds ≤ 1048576)
def OpenSpec.upto (s : _root_.Go.ChangeSpec) : _root_.Go.OpenSpec := { _root_.Go.OpenSpec.ofChange s with cond := some uptoSmall }

/-- 'parapetlaw1.AsciiCuts', WHERE WHAT IT READS IS OF BULK AT MOST 1048576: true; the input reads as it did. -/
def asciiCutsUptoRow : OpenClaim := { program := "ytmidfabneioiiaadoor", sum := "7294774e0bef6a47d6b7dd617514ce8cf847e2ac1836c18def7110159f53b8fc", func := "parapet/parapetlaw1.AsciiCuts", spec := "asciiCuts", inPlace := ["internal/bytealg.CountString", "internal/bytealg.IndexByteString", "internal/bytealg.IndexString"], named := ["unicode/utf8.first", "unicode/utf8.acceptRanges", "internal/bytealg.MaxLen"], apart := false, laid := [("unicode/utf8.acceptRanges", laid_unicode_utf8_acceptRanges), ("unicode/utf8.first", laid_unicode_utf8_first)], narrowed := true }
def AsciiCutsUptoSaid : Prop := asciiCutsUptoRow.holds Tryd.pinned (OpenSpec.upto asciiCutsSpec)

/-- 'parapetlaw1.AsciiWords', WHERE WHAT IT READS IS OF BULK AT MOST 1048576: true; the input reads as it did. -/
def asciiWordsUptoRow : OpenClaim := { program := "ytmidfabneioiiaadoor", sum := "7294774e0bef6a47d6b7dd617514ce8cf847e2ac1836c18def7110159f53b8fc", func := "parapet/parapetlaw1.AsciiWords", spec := "asciiWords", inPlace := ["internal/bytealg.CountString", "internal/bytealg.IndexByteString", "internal/bytealg.IndexString"], named := ["unicode/utf8.first", "unicode/utf8.acceptRanges", "internal/bytealg.MaxLen"], apart := false, laid := [("unicode/utf8.acceptRanges", laid_unicode_utf8_acceptRanges), ("unicode/utf8.first", laid_unicode_utf8_first)], narrowed := true }
def AsciiWordsUptoSaid : Prop := asciiWordsUptoRow.holds Tryd.pinned (OpenSpec.upto asciiWordsSpec)

/-- 'parapetlaw1.AsciiBytes', WHERE WHAT IT READS IS OF BULK AT MOST 1048576: true; the input reads as it did. -/
def asciiBytesUptoRow : OpenClaim := { program := "ytmidfabneioiiaadoor", sum := "7294774e0bef6a47d6b7dd617514ce8cf847e2ac1836c18def7110159f53b8fc", func := "parapet/parapetlaw1.AsciiBytes", spec := "asciiBytes", inPlace := ["internal/bytealg.CountString", "internal/bytealg.IndexByteString", "internal/bytealg.IndexString"], named := ["unicode/utf8.first", "unicode/utf8.acceptRanges", "internal/bytealg.MaxLen"], apart := false, laid := [("unicode/utf8.acceptRanges", laid_unicode_utf8_acceptRanges), ("unicode/utf8.first", laid_unicode_utf8_first)], narrowed := true }
def AsciiBytesUptoSaid : Prop := asciiBytesUptoRow.holds Tryd.pinned (OpenSpec.upto asciiBytesSpec)

/-- 'parapetlaw1.AsciiCases', WHERE WHAT IT READS IS OF BULK AT MOST 1048576: true; the input reads as it did. -/
def asciiCasesUptoRow : OpenClaim := { program := "ytmidfabneioiiaadoor", sum := "7294774e0bef6a47d6b7dd617514ce8cf847e2ac1836c18def7110159f53b8fc", func := "parapet/parapetlaw1.AsciiCases", spec := "asciiCases", inPlace := ["internal/bytealg.CountString", "internal/bytealg.IndexByteString", "internal/bytealg.IndexString"], named := ["unicode/utf8.first", "unicode/utf8.acceptRanges", "internal/bytealg.MaxLen"], apart := false, laid := [("unicode/utf8.acceptRanges", laid_unicode_utf8_acceptRanges), ("unicode/utf8.first", laid_unicode_utf8_first)], narrowed := true }
def AsciiCasesUptoSaid : Prop := asciiCasesUptoRow.holds Tryd.pinned (OpenSpec.upto asciiCasesSpec)

/-- 'parapetlaw1.AsciiAny', WHERE WHAT IT READS IS OF BULK AT MOST 1048576: true; the input reads as it did. -/
def asciiAnyUptoRow : OpenClaim := { program := "ytmidfabneioiiaadoor", sum := "7294774e0bef6a47d6b7dd617514ce8cf847e2ac1836c18def7110159f53b8fc", func := "parapet/parapetlaw1.AsciiAny", spec := "asciiAny", inPlace := ["internal/bytealg.CountString", "internal/bytealg.IndexByteString", "internal/bytealg.IndexString"], named := ["unicode/utf8.first", "unicode/utf8.acceptRanges", "internal/bytealg.MaxLen"], apart := false, laid := [("unicode/utf8.acceptRanges", laid_unicode_utf8_acceptRanges), ("unicode/utf8.first", laid_unicode_utf8_first)], narrowed := true }
def AsciiAnyUptoSaid : Prop := asciiAnyUptoRow.holds Tryd.pinned (OpenSpec.upto asciiAnySpec)

/-- 'parapetlaw1.AsciiNumbers', WHERE WHAT IT READS IS OF BULK AT MOST 1048576: true; the input reads as it did. -/
def asciiNumbersUptoRow : OpenClaim := { program := "ytmidfabneioiiaadoor", sum := "7294774e0bef6a47d6b7dd617514ce8cf847e2ac1836c18def7110159f53b8fc", func := "parapet/parapetlaw1.AsciiNumbers", spec := "asciiNumbers", inPlace := ["internal/bytealg.CountString", "internal/bytealg.IndexByteString", "internal/bytealg.IndexString"], named := ["unicode/utf8.first", "unicode/utf8.acceptRanges", "internal/bytealg.MaxLen"], apart := false, laid := [("unicode/utf8.acceptRanges", laid_unicode_utf8_acceptRanges), ("unicode/utf8.first", laid_unicode_utf8_first)], narrowed := true }
def AsciiNumbersUptoSaid : Prop := asciiNumbersUptoRow.holds Tryd.pinned (OpenSpec.upto asciiNumbersSpec)

/-- 'parapetlaw1.AsciiBack', WHERE WHAT IT READS IS OF BULK AT MOST 1048576: true; the input reads as it did. -/
def asciiBackUptoRow : OpenClaim := { program := "ytmidfabneioiiaadoor", sum := "7294774e0bef6a47d6b7dd617514ce8cf847e2ac1836c18def7110159f53b8fc", func := "parapet/parapetlaw1.AsciiBack", spec := "asciiBack", inPlace := ["internal/bytealg.CountString", "internal/bytealg.IndexByteString", "internal/bytealg.IndexString"], named := ["unicode/utf8.first", "unicode/utf8.acceptRanges", "internal/bytealg.MaxLen"], apart := false, laid := [("unicode/utf8.acceptRanges", laid_unicode_utf8_acceptRanges), ("unicode/utf8.first", laid_unicode_utf8_first)], narrowed := true }
def AsciiBackUptoSaid : Prop := asciiBackUptoRow.holds Tryd.pinned (OpenSpec.upto asciiBackSpec)

/-- 'parapetlaw1.AsciiTrims', WHERE WHAT IT READS IS OF BULK AT MOST 1048576: true; the input reads as it did. -/
def asciiTrimsUptoRow : OpenClaim := { program := "ytmidfabneioiiaadoor", sum := "7294774e0bef6a47d6b7dd617514ce8cf847e2ac1836c18def7110159f53b8fc", func := "parapet/parapetlaw1.AsciiTrims", spec := "asciiTrims", inPlace := ["internal/bytealg.CountString", "internal/bytealg.IndexByteString", "internal/bytealg.IndexString"], named := ["unicode/utf8.first", "unicode/utf8.acceptRanges", "internal/bytealg.MaxLen"], apart := false, laid := [("unicode/utf8.acceptRanges", laid_unicode_utf8_acceptRanges), ("unicode/utf8.first", laid_unicode_utf8_first)], narrowed := true }
def AsciiTrimsUptoSaid : Prop := asciiTrimsUptoRow.holds Tryd.pinned (OpenSpec.upto asciiTrimsSpec)

/-- 'parapetlaw1.AsciiTokens', WHERE WHAT IT READS IS OF BULK AT MOST 1048576: true; the input reads as it did. -/
def asciiTokensUptoRow : OpenClaim := { program := "ytmidfabneioiiaadoor", sum := "7294774e0bef6a47d6b7dd617514ce8cf847e2ac1836c18def7110159f53b8fc", func := "parapet/parapetlaw1.AsciiTokens", spec := "asciiTokens", inPlace := ["internal/bytealg.CountString", "internal/bytealg.IndexByteString", "internal/bytealg.IndexString"], named := ["unicode/utf8.first", "unicode/utf8.acceptRanges", "internal/bytealg.MaxLen"], apart := false, laid := [("unicode/utf8.acceptRanges", laid_unicode_utf8_acceptRanges), ("unicode/utf8.first", laid_unicode_utf8_first)], narrowed := true }
def AsciiTokensUptoSaid : Prop := asciiTokensUptoRow.holds Tryd.pinned (OpenSpec.upto asciiTokensSpec)

end Rows
end Go.Proofs.YtmidfabneioiiaaDoor
