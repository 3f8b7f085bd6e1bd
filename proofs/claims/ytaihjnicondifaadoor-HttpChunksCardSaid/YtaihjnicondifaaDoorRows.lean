/-
  NARROWER THAN 'FOR EVERY INPUT', by the rows' own cells (each row's printed sentence says how): HttpCuts: laid · HttpLengths: laid · HttpChunks: laid · HttpSmuggles: laid · HttpLimits: laid · HttpClose: laid · HttpEnds: laid · HttpEmpty: laid.
  DERIVED. THE GIVEN ROWS OF THIS SEAT. 8 by the template 'for every input the law returns true; each argument reads behind the call as it read before'; 0 by the template 'total and deterministic' (their statements: YtaihjnicondifaaDoorTotals.lean).
  GIVEN WITH THE SEED: the statements are not yours to turn. If you find one false, say at which input.
  Laid BY PROGRAM, IN A SANDBOX (cutbox-rows.mjs): the forced cells as the released guide's own fill.sh prints them over the translation 8a06ff4d3d6ea9f8… (all of the seat's roots in one cut). By AI agents, Wed Nov 11 2026. No macro, syntax, notation, axiom, sorry.
-/
import Derived.Test.YtaihjnicondifaaDoorChecked
import GoSem.PinnedTables
import GoSem.Claim
import GoSem.ClaimJoined
import GoSem.ClaimMapViews
import Derived.JoinedTies
import Derived.KernelRfl
namespace Go.Proofs.YtaihjnicondifaaDoor
/- THE CELL 'sum', in the pinned program and in every row, IS THE sha256 OF THE DUMP (.gsa) THAT YtaihjnicondifaaDoorProg.lean LOADS. Nothing in Lean hashes anything: it is a label: what it is worth is what the hold of that sum in a sandbox is worth. -/
noncomputable def Tryd.pinned : Pinned := { name := "ytaihjnicondifaadoor", sum := "8a06ff4d3d6ea9f8bedeab3452de0a6af7f7ce38d8e68e6a2651bdd561b36495", checked := Tryd.checked }
namespace Rows
def none {H : Type} : Left H := { results := [], args := [] }

/- WHAT THE LISTED PACKAGE-LEVEL VARIABLES READ AS WHEN THE CALL BEGINS. Each datum BY PROGRAM (the guide's laid-datum.mjs) off the statement by which the dump's own 'gosem.cut.vars' lays the variable. In a bare row this is a premise. The card (YtaihjnicondifaaDoorCards.lean) ties it to the program's text. -/
def laid_unicode_utf8_acceptRanges {H : Type} : DataW H := .agg [.agg [.lit (.int .u8 128), .lit (.int .u8 191)], .agg [.lit (.int .u8 160), .lit (.int .u8 191)], .agg [.lit (.int .u8 128), .lit (.int .u8 159)], .agg [.lit (.int .u8 144), .lit (.int .u8 191)], .agg [.lit (.int .u8 128), .lit (.int .u8 143)], .agg [.lit (.int .u8 0), .lit (.int .u8 0)], .agg [.lit (.int .u8 0), .lit (.int .u8 0)], .agg [.lit (.int .u8 0), .lit (.int .u8 0)], .agg [.lit (.int .u8 0), .lit (.int .u8 0)], .agg [.lit (.int .u8 0), .lit (.int .u8 0)], .agg [.lit (.int .u8 0), .lit (.int .u8 0)], .agg [.lit (.int .u8 0), .lit (.int .u8 0)], .agg [.lit (.int .u8 0), .lit (.int .u8 0)], .agg [.lit (.int .u8 0), .lit (.int .u8 0)], .agg [.lit (.int .u8 0), .lit (.int .u8 0)], .agg [.lit (.int .u8 0), .lit (.int .u8 0)]]
/-- One of Go's own tables, pinned by name: the form's constant. -/
def laid_unicode_utf8_first : DataW Unit := Go.Pinned.utf8First

/-- 'parapetlaw26.HttpCuts': WHATEVER THE INPUT: true; the input reads as it did. -/
def httpCutsSpec : ChangeSpec := { name := "httpCuts", fn := fun _ => fun
  | [d1, d2] => { results := [.lit (.bool true)], args := [d1, d2] }
  | _ => none }
def httpCutsRow : OpenClaim := { program := "ytaihjnicondifaadoor", sum := "8a06ff4d3d6ea9f8bedeab3452de0a6af7f7ce38d8e68e6a2651bdd561b36495", func := "parapet/parapetlaw26.HttpCuts", spec := "httpCuts", inPlace := ["internal/bytealg.CountString", "internal/bytealg.IndexByteString", "internal/bytealg.IndexString"], unfollowed := true, recurses := true, named := ["unicode/utf8.first", "unicode/utf8.acceptRanges", "internal/bytealg.MaxLen"], apart := false, laid := [("unicode/utf8.acceptRanges", laid_unicode_utf8_acceptRanges), ("unicode/utf8.first", laid_unicode_utf8_first)] }
def HttpCutsSaid : Prop := httpCutsRow.holds Tryd.pinned (OpenSpec.ofChange httpCutsSpec)

/-- ITS FALSE NEIGHBOUR: 'it returns false'. Refute it at one input. -/
def httpCutsWrong : ChangeSpec := { name := "httpCuts", fn := fun _ => fun
  | [d1, d2] => { results := [.lit (.bool false)], args := [d1, d2] }
  | _ => none }
def HttpCutsWrongFalsely : Prop := httpCutsRow.holds Tryd.pinned (OpenSpec.ofChange httpCutsWrong)

/-- 'parapetlaw26.HttpLengths': WHATEVER THE INPUT: true; the input reads as it did. -/
def httpLengthsSpec : ChangeSpec := { name := "httpLengths", fn := fun _ => fun
  | [d1, d2, d3] => { results := [.lit (.bool true)], args := [d1, d2, d3] }
  | _ => none }
def httpLengthsRow : OpenClaim := { program := "ytaihjnicondifaadoor", sum := "8a06ff4d3d6ea9f8bedeab3452de0a6af7f7ce38d8e68e6a2651bdd561b36495", func := "parapet/parapetlaw26.HttpLengths", spec := "httpLengths", inPlace := ["internal/bytealg.CountString", "internal/bytealg.IndexByteString", "internal/bytealg.IndexString"], unfollowed := true, recurses := true, named := ["unicode/utf8.first", "unicode/utf8.acceptRanges", "internal/bytealg.MaxLen"], apart := false, laid := [("unicode/utf8.acceptRanges", laid_unicode_utf8_acceptRanges), ("unicode/utf8.first", laid_unicode_utf8_first)] }
def HttpLengthsSaid : Prop := httpLengthsRow.holds Tryd.pinned (OpenSpec.ofChange httpLengthsSpec)

/-- ITS FALSE NEIGHBOUR: 'it returns false'. Refute it at one input. -/
def httpLengthsWrong : ChangeSpec := { name := "httpLengths", fn := fun _ => fun
  | [d1, d2, d3] => { results := [.lit (.bool false)], args := [d1, d2, d3] }
  | _ => none }
def HttpLengthsWrongFalsely : Prop := httpLengthsRow.holds Tryd.pinned (OpenSpec.ofChange httpLengthsWrong)

/-- 'parapetlaw26.HttpChunks': WHATEVER THE INPUT: true; the input reads as it did. -/
def httpChunksSpec : ChangeSpec := { name := "httpChunks", fn := fun _ => fun
  | [d1, d2, d3, d4] => { results := [.lit (.bool true)], args := [d1, d2, d3, d4] }
  | _ => none }
def httpChunksRow : OpenClaim := { program := "ytaihjnicondifaadoor", sum := "8a06ff4d3d6ea9f8bedeab3452de0a6af7f7ce38d8e68e6a2651bdd561b36495", func := "parapet/parapetlaw26.HttpChunks", spec := "httpChunks", inPlace := ["internal/bytealg.CountString", "internal/bytealg.IndexByteString", "internal/bytealg.IndexString"], unfollowed := true, recurses := true, named := ["unicode/utf8.first", "unicode/utf8.acceptRanges", "internal/bytealg.MaxLen"], apart := false, laid := [("unicode/utf8.acceptRanges", laid_unicode_utf8_acceptRanges), ("unicode/utf8.first", laid_unicode_utf8_first)] }
def HttpChunksSaid : Prop := httpChunksRow.holds Tryd.pinned (OpenSpec.ofChange httpChunksSpec)

/-- ITS FALSE NEIGHBOUR: 'it returns false'. Refute it at one input. -/
def httpChunksWrong : ChangeSpec := { name := "httpChunks", fn := fun _ => fun
  | [d1, d2, d3, d4] => { results := [.lit (.bool false)], args := [d1, d2, d3, d4] }
  | _ => none }
def HttpChunksWrongFalsely : Prop := httpChunksRow.holds Tryd.pinned (OpenSpec.ofChange httpChunksWrong)

/-- 'parapetlaw26.HttpSmuggles': WHATEVER THE INPUT: true; the input reads as it did. -/
def httpSmugglesSpec : ChangeSpec := { name := "httpSmuggles", fn := fun _ => fun
  | [d1, d2] => { results := [.lit (.bool true)], args := [d1, d2] }
  | _ => none }
def httpSmugglesRow : OpenClaim := { program := "ytaihjnicondifaadoor", sum := "8a06ff4d3d6ea9f8bedeab3452de0a6af7f7ce38d8e68e6a2651bdd561b36495", func := "parapet/parapetlaw26.HttpSmuggles", spec := "httpSmuggles", inPlace := ["internal/bytealg.CountString", "internal/bytealg.IndexByteString", "internal/bytealg.IndexString"], unfollowed := true, recurses := true, named := ["unicode/utf8.first", "unicode/utf8.acceptRanges", "internal/bytealg.MaxLen"], apart := false, laid := [("unicode/utf8.acceptRanges", laid_unicode_utf8_acceptRanges), ("unicode/utf8.first", laid_unicode_utf8_first)] }
def HttpSmugglesSaid : Prop := httpSmugglesRow.holds Tryd.pinned (OpenSpec.ofChange httpSmugglesSpec)

/-- ITS FALSE NEIGHBOUR: 'it returns false'. Refute it at one input. -/
def httpSmugglesWrong : ChangeSpec := { name := "httpSmuggles", fn := fun _ => fun
  | [d1, d2] => { results := [.lit (.bool false)], args := [d1, d2] }
  | _ => none }
def HttpSmugglesWrongFalsely : Prop := httpSmugglesRow.holds Tryd.pinned (OpenSpec.ofChange httpSmugglesWrong)

/-- 'parapetlaw26.HttpLimits': WHATEVER THE INPUT: true; the input reads as it did. -/
def httpLimitsSpec : ChangeSpec := { name := "httpLimits", fn := fun _ => fun
  | [d1, d2] => { results := [.lit (.bool true)], args := [d1, d2] }
  | _ => none }
def httpLimitsRow : OpenClaim := { program := "ytaihjnicondifaadoor", sum := "8a06ff4d3d6ea9f8bedeab3452de0a6af7f7ce38d8e68e6a2651bdd561b36495", func := "parapet/parapetlaw26.HttpLimits", spec := "httpLimits", inPlace := ["internal/bytealg.CountString", "internal/bytealg.IndexByteString", "internal/bytealg.IndexString"], unfollowed := true, recurses := true, named := ["unicode/utf8.first", "unicode/utf8.acceptRanges", "internal/bytealg.MaxLen"], apart := false, laid := [("unicode/utf8.acceptRanges", laid_unicode_utf8_acceptRanges), ("unicode/utf8.first", laid_unicode_utf8_first)] }
def HttpLimitsSaid : Prop := httpLimitsRow.holds Tryd.pinned (OpenSpec.ofChange httpLimitsSpec)

/-- ITS FALSE NEIGHBOUR: 'it returns false'. Refute it at one input. -/
def httpLimitsWrong : ChangeSpec := { name := "httpLimits", fn := fun _ => fun
  | [d1, d2] => { results := [.lit (.bool false)], args := [d1, d2] }
  | _ => none }
def HttpLimitsWrongFalsely : Prop := httpLimitsRow.holds Tryd.pinned (OpenSpec.ofChange httpLimitsWrong)

/-- 'parapetlaw26.HttpClose': WHATEVER THE INPUT: true; the input reads as it did. -/
def httpCloseSpec : ChangeSpec := { name := "httpClose", fn := fun _ => fun
  | [d1, d2] => { results := [.lit (.bool true)], args := [d1, d2] }
  | _ => none }
def httpCloseRow : OpenClaim := { program := "ytaihjnicondifaadoor", sum := "8a06ff4d3d6ea9f8bedeab3452de0a6af7f7ce38d8e68e6a2651bdd561b36495", func := "parapet/parapetlaw26.HttpClose", spec := "httpClose", inPlace := ["internal/bytealg.CountString", "internal/bytealg.IndexByteString", "internal/bytealg.IndexString"], unfollowed := true, recurses := true, named := ["unicode/utf8.first", "unicode/utf8.acceptRanges", "internal/bytealg.MaxLen"], apart := false, laid := [("unicode/utf8.acceptRanges", laid_unicode_utf8_acceptRanges), ("unicode/utf8.first", laid_unicode_utf8_first)] }
def HttpCloseSaid : Prop := httpCloseRow.holds Tryd.pinned (OpenSpec.ofChange httpCloseSpec)

/-- ITS FALSE NEIGHBOUR: 'it returns false'. Refute it at one input. -/
def httpCloseWrong : ChangeSpec := { name := "httpClose", fn := fun _ => fun
  | [d1, d2] => { results := [.lit (.bool false)], args := [d1, d2] }
  | _ => none }
def HttpCloseWrongFalsely : Prop := httpCloseRow.holds Tryd.pinned (OpenSpec.ofChange httpCloseWrong)

/-- 'parapetlaw26.HttpEnds': WHATEVER THE INPUT: true; the input reads as it did. -/
def httpEndsSpec : ChangeSpec := { name := "httpEnds", fn := fun _ => fun
  | [d1, d2] => { results := [.lit (.bool true)], args := [d1, d2] }
  | _ => none }
def httpEndsRow : OpenClaim := { program := "ytaihjnicondifaadoor", sum := "8a06ff4d3d6ea9f8bedeab3452de0a6af7f7ce38d8e68e6a2651bdd561b36495", func := "parapet/parapetlaw26.HttpEnds", spec := "httpEnds", inPlace := ["internal/bytealg.CountString", "internal/bytealg.IndexByteString", "internal/bytealg.IndexString"], unfollowed := true, recurses := true, named := ["unicode/utf8.first", "unicode/utf8.acceptRanges", "internal/bytealg.MaxLen"], apart := false, laid := [("unicode/utf8.acceptRanges", laid_unicode_utf8_acceptRanges), ("unicode/utf8.first", laid_unicode_utf8_first)] }
def HttpEndsSaid : Prop := httpEndsRow.holds Tryd.pinned (OpenSpec.ofChange httpEndsSpec)

/-- ITS FALSE NEIGHBOUR: 'it returns false'. Refute it at one input. -/
def httpEndsWrong : ChangeSpec := { name := "httpEnds", fn := fun _ => fun
  | [d1, d2] => { results := [.lit (.bool false)], args := [d1, d2] }
  | _ => none }
def HttpEndsWrongFalsely : Prop := httpEndsRow.holds Tryd.pinned (OpenSpec.ofChange httpEndsWrong)

/-- 'parapetlaw26.HttpEmpty': WHATEVER THE INPUT: true; the input reads as it did. -/
def httpEmptySpec : ChangeSpec := { name := "httpEmpty", fn := fun _ => fun
  | [d1, d2] => { results := [.lit (.bool true)], args := [d1, d2] }
  | _ => none }
def httpEmptyRow : OpenClaim := { program := "ytaihjnicondifaadoor", sum := "8a06ff4d3d6ea9f8bedeab3452de0a6af7f7ce38d8e68e6a2651bdd561b36495", func := "parapet/parapetlaw26.HttpEmpty", spec := "httpEmpty", inPlace := ["internal/bytealg.CountString", "internal/bytealg.IndexByteString", "internal/bytealg.IndexString"], unfollowed := true, recurses := true, named := ["unicode/utf8.first", "unicode/utf8.acceptRanges", "internal/bytealg.MaxLen"], apart := false, laid := [("unicode/utf8.acceptRanges", laid_unicode_utf8_acceptRanges), ("unicode/utf8.first", laid_unicode_utf8_first)] }
def HttpEmptySaid : Prop := httpEmptyRow.holds Tryd.pinned (OpenSpec.ofChange httpEmptySpec)

/-- ITS FALSE NEIGHBOUR: 'it returns false'. Refute it at one input. -/
def httpEmptyWrong : ChangeSpec := { name := "httpEmpty", fn := fun _ => fun
  | [d1, d2] => { results := [.lit (.bool false)], args := [d1, d2] }
  | _ => none }
def HttpEmptyWrongFalsely : Prop := httpEmptyRow.holds Tryd.pinned (OpenSpec.ofChange httpEmptyWrong)

/- THE SECOND FORM. 'bulk': how many values and letters a reading holds, each counted each time it is reached (what is shared counts as often as it is met; a slice's spare places count too). A statement '..UptoSaid' is the law's where the arguments, and the package variables that the reading takes, are together of bulk at most 1048576: NARROWER than '..Said'. Prove '..Said' where nothing that the law and all that it calls make is longer than what came in: it says more and counts as full. Else prove '..UptoSaid'. A law counts once. -/
mutual
def uptoBulk {H : Type} : DataW H → Nat
  | .lit (.string bytes) => bytes.length + 1
  | .lit _ => 1
  | .nil => 1
  | .ptr d => uptoBulk d + 1
  | .slice elems spare => uptoBulkAll elems + uptoBulkAll spare + 1
  | .agg parts => uptoBulkAll parts + 1
  | .iface _ d => uptoBulk d + 1
  | .map entries => uptoBulkEntries entries + 1
  | .held _ => 1
def uptoBulkAll {H : Type} : List (DataW H) → Nat
  | [] => 0
  | d :: r => uptoBulk d + uptoBulkAll r
def uptoBulkEntries {H : Type} : List (Lit × DataW H) → Nat
  | [] => 0
  | x :: r => uptoBulkEntry x + uptoBulkEntries r
def uptoBulkEntry {H : Type} : Lit × DataW H → Nat
  | (.string bytes, d) => bytes.length + uptoBulk d + 1
  | (_, d) => uptoBulk d + 1
 end
def uptoSmall : (H : Type) → List (DataW H) → Bool := fun _ ds => decide (uptoBulkAll ds ≤ 1048576)
def OpenSpec.upto (s : _root_.Go.ChangeSpec) : _root_.Go.OpenSpec := { _root_.Go.OpenSpec.ofChange s with cond := some uptoSmall }

/-- 'parapetlaw26.HttpCuts', WHERE WHAT IT READS IS OF BULK AT MOST 1048576: true; the input reads as it did. -/
def httpCutsUptoRow : OpenClaim := { program := "ytaihjnicondifaadoor", sum := "8a06ff4d3d6ea9f8bedeab3452de0a6af7f7ce38d8e68e6a2651bdd561b36495", func := "parapet/parapetlaw26.HttpCuts", spec := "httpCuts", inPlace := ["internal/bytealg.CountString", "internal/bytealg.IndexByteString", "internal/bytealg.IndexString"], unfollowed := true, recurses := true, named := ["unicode/utf8.first", "unicode/utf8.acceptRanges", "internal/bytealg.MaxLen"], apart := false, laid := [("unicode/utf8.acceptRanges", laid_unicode_utf8_acceptRanges), ("unicode/utf8.first", laid_unicode_utf8_first)], narrowed := true }
def HttpCutsUptoSaid : Prop := httpCutsUptoRow.holds Tryd.pinned (OpenSpec.upto httpCutsSpec)

/-- 'parapetlaw26.HttpLengths', WHERE WHAT IT READS IS OF BULK AT MOST 1048576: true; the input reads as it did. -/
def httpLengthsUptoRow : OpenClaim := { program := "ytaihjnicondifaadoor", sum := "8a06ff4d3d6ea9f8bedeab3452de0a6af7f7ce38d8e68e6a2651bdd561b36495", func := "parapet/parapetlaw26.HttpLengths", spec := "httpLengths", inPlace := ["internal/bytealg.CountString", "internal/bytealg.IndexByteString", "internal/bytealg.IndexString"], unfollowed := true, recurses := true, named := ["unicode/utf8.first", "unicode/utf8.acceptRanges", "internal/bytealg.MaxLen"], apart := false, laid := [("unicode/utf8.acceptRanges", laid_unicode_utf8_acceptRanges), ("unicode/utf8.first", laid_unicode_utf8_first)], narrowed := true }
def HttpLengthsUptoSaid : Prop := httpLengthsUptoRow.holds Tryd.pinned (OpenSpec.upto httpLengthsSpec)

/-- 'parapetlaw26.HttpChunks', WHERE WHAT IT READS IS OF BULK AT MOST 1048576: true; the input reads as it did. -/
def httpChunksUptoRow : OpenClaim := { program := "ytaihjnicondifaadoor", sum := "8a06ff4d3d6ea9f8bedeab3452de0a6af7f7ce38d8e68e6a2651bdd561b36495", func := "parapet/parapetlaw26.HttpChunks", spec := "httpChunks", inPlace := ["internal/bytealg.CountString", "internal/bytealg.IndexByteString", "internal/bytealg.IndexString"], unfollowed := true, recurses := true, named := ["unicode/utf8.first", "unicode/utf8.acceptRanges", "internal/bytealg.MaxLen"], apart := false, laid := [("unicode/utf8.acceptRanges", laid_unicode_utf8_acceptRanges), ("unicode/utf8.first", laid_unicode_utf8_first)], narrowed := true }
def HttpChunksUptoSaid : Prop := httpChunksUptoRow.holds Tryd.pinned (OpenSpec.upto httpChunksSpec)

/-- 'parapetlaw26.HttpSmuggles', WHERE WHAT IT READS IS OF BULK AT MOST 1048576: true; the input reads as it did. -/
def httpSmugglesUptoRow : OpenClaim := { program := "ytaihjnicondifaadoor", sum := "8a06ff4d3d6ea9f8bedeab3452de0a6af7f7ce38d8e68e6a2651bdd561b36495", func := "parapet/parapetlaw26.HttpSmuggles", spec := "httpSmuggles", inPlace := ["internal/bytealg.CountString", "internal/bytealg.IndexByteString", "internal/bytealg.IndexString"], unfollowed := true, recurses := true, named := ["unicode/utf8.first", "unicode/utf8.acceptRanges", "internal/bytealg.MaxLen"], apart := false, laid := [("unicode/utf8.acceptRanges", laid_unicode_utf8_acceptRanges), ("unicode/utf8.first", laid_unicode_utf8_first)], narrowed := true }
def HttpSmugglesUptoSaid : Prop := httpSmugglesUptoRow.holds Tryd.pinned (OpenSpec.upto httpSmugglesSpec)

/-- 'parapetlaw26.HttpLimits', WHERE WHAT IT READS IS OF BULK AT MOST 1048576: true; the input reads as it did. -/
def httpLimitsUptoRow : OpenClaim := { program := "ytaihjnicondifaadoor", sum := "8a06ff4d3d6ea9f8bedeab3452de0a6af7f7ce38d8e68e6a2651bdd561b36495", func := "parapet/parapetlaw26.HttpLimits", spec := "httpLimits", inPlace := ["internal/bytealg.CountString", "internal/bytealg.IndexByteString", "internal/bytealg.IndexString"], unfollowed := true, recurses := true, named := ["unicode/utf8.first", "unicode/utf8.acceptRanges", "internal/bytealg.MaxLen"], apart := false, laid := [("unicode/utf8.acceptRanges", laid_unicode_utf8_acceptRanges), ("unicode/utf8.first", laid_unicode_utf8_first)], narrowed := true }
def HttpLimitsUptoSaid : Prop := httpLimitsUptoRow.holds Tryd.pinned (OpenSpec.upto httpLimitsSpec)

/-- 'parapetlaw26.HttpClose', WHERE WHAT IT READS IS OF BULK AT MOST 1048576: true; the input reads as it did. -/
def httpCloseUptoRow : OpenClaim := { program := "ytaihjnicondifaadoor", sum := "8a06ff4d3d6ea9f8bedeab3452de0a6af7f7ce38d8e68e6a2651bdd561b36495", func := "parapet/parapetlaw26.HttpClose", spec := "httpClose", inPlace := ["internal/bytealg.CountString", "internal/bytealg.IndexByteString", "internal/bytealg.IndexString"], unfollowed := true, recurses := true, named := ["unicode/utf8.first", "unicode/utf8.acceptRanges", "internal/bytealg.MaxLen"], apart := false, laid := [("unicode/utf8.acceptRanges", laid_unicode_utf8_acceptRanges), ("unicode/utf8.first", laid_unicode_utf8_first)], narrowed := true }
def HttpCloseUptoSaid : Prop := httpCloseUptoRow.holds Tryd.pinned (OpenSpec.upto httpCloseSpec)

/-- 'parapetlaw26.HttpEnds', WHERE WHAT IT READS IS OF BULK AT MOST 1048576: true; the input reads as it did. -/
def httpEndsUptoRow : OpenClaim := { program := "ytaihjnicondifaadoor", sum := "8a06ff4d3d6ea9f8bedeab3452de0a6af7f7ce38d8e68e6a2651bdd561b36495", func := "parapet/parapetlaw26.HttpEnds", spec := "httpEnds", inPlace := ["internal/bytealg.CountString", "internal/bytealg.IndexByteString", "internal/bytealg.IndexString"], unfollowed := true, recurses := true, named := ["unicode/utf8.first", "unicode/utf8.acceptRanges", "internal/bytealg.MaxLen"], apart := false, laid := [("unicode/utf8.acceptRanges", laid_unicode_utf8_acceptRanges), ("unicode/utf8.first", laid_unicode_utf8_first)], narrowed := true }
def HttpEndsUptoSaid : Prop := httpEndsUptoRow.holds Tryd.pinned (OpenSpec.upto httpEndsSpec)

/-- 'parapetlaw26.HttpEmpty', WHERE WHAT IT READS IS OF BULK AT MOST 1048576: true; the input reads as it did. -/
def httpEmptyUptoRow : OpenClaim := { program := "ytaihjnicondifaadoor", sum := "8a06ff4d3d6ea9f8bedeab3452de0a6af7f7ce38d8e68e6a2651bdd561b36495", func := "parapet/parapetlaw26.HttpEmpty", spec := "httpEmpty", inPlace := ["internal/bytealg.CountString", "internal/bytealg.IndexByteString", "internal/bytealg.IndexString"], unfollowed := true, recurses := true, named := ["unicode/utf8.first", "unicode/utf8.acceptRanges", "internal/bytealg.MaxLen"], apart := false, laid := [("unicode/utf8.acceptRanges", laid_unicode_utf8_acceptRanges), ("unicode/utf8.first", laid_unicode_utf8_first)], narrowed := true }
def HttpEmptyUptoSaid : Prop := httpEmptyUptoRow.holds Tryd.pinned (OpenSpec.upto httpEmptySpec)

end Rows
end Go.Proofs.YtaihjnicondifaaDoor
