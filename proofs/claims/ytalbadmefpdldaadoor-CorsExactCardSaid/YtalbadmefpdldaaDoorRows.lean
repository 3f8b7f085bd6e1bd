/-
  NARROWER THAN 'FOR EVERY INPUT', by the rows' own cells (each row's printed sentence says how): CorsAllows: laid · CorsPlain: laid · CorsMore: laid · CorsWild: laid · CorsMethods: laid · CorsFinds: laid · CorsExact: laid.
  DERIVED. THE GIVEN ROWS OF THIS SEAT. 7 by the template 'for every input the law returns true; each argument reads behind the call as it read before'; 0 by the template 'total and deterministic' (their statements: YtalbadmefpdldaaDoorTotals.lean).
  GIVEN WITH THE SEED: the statements are not yours to turn. If you find one false, say at which input.
  Laid BY PROGRAM, IN A SANDBOX (cutbox-rows.mjs): the forced cells as the released guide's own fill.sh prints them over the translation 83093736f2103aa5… (all of the seat's roots in one cut). By AI agents, Wed Nov 11 2026. No macro, syntax, notation, axiom, sorry.
-/
import Derived.Test.YtalbadmefpdldaaDoorChecked
import GoSem.PinnedTables
import GoSem.Claim
import GoSem.ClaimJoined
import GoSem.ClaimMapViews
import Derived.JoinedTies
import Derived.KernelRfl
namespace Go.Proofs.YtalbadmefpdldaaDoor
/- THE CELL 'sum', in the pinned program and in every row, IS THE sha256 OF THE DUMP (.gsa) THAT YtalbadmefpdldaaDoorProg.lean LOADS. Nothing in Lean hashes anything: it is a label: what it is worth is what the hold of that sum in a sandbox is worth. -/
noncomputable def Tryd.pinned : Pinned := { name := "ytalbadmefpdldaadoor", sum := "83093736f2103aa5cfb59104ce2894113ac27e8b9846e1f087149c27b5a53a6a", checked := Tryd.checked }
namespace Rows
def none {H : Type} : Left H := { results := [], args := [] }

/- WHAT THE LISTED PACKAGE-LEVEL VARIABLES READ AS WHEN THE CALL BEGINS. Each datum BY PROGRAM (the guide's laid-datum.mjs) off the statement by which the dump's own 'gosem.cut.vars' lays the variable. In a bare row this is a premise. The card (YtalbadmefpdldaaDoorCards.lean) ties it to the program's text. -/
def laid_unicode_utf8_acceptRanges {H : Type} : DataW H := .agg [.agg [.lit (.int .u8 128), .lit (.int .u8 191)], .agg [.lit (.int .u8 160), .lit (.int .u8 191)], .agg [.lit (.int .u8 128), .lit (.int .u8 159)], .agg [.lit (.int .u8 144), .lit (.int .u8 191)], .agg [.lit (.int .u8 128), .lit (.int .u8 143)], .agg [.lit (.int .u8 0), .lit (.int .u8 0)], .agg [.lit (.int .u8 0), .lit (.int .u8 0)], .agg [.lit (.int .u8 0), .lit (.int .u8 0)], .agg [.lit (.int .u8 0), .lit (.int .u8 0)], .agg [.lit (.int .u8 0), .lit (.int .u8 0)], .agg [.lit (.int .u8 0), .lit (.int .u8 0)], .agg [.lit (.int .u8 0), .lit (.int .u8 0)], .agg [.lit (.int .u8 0), .lit (.int .u8 0)], .agg [.lit (.int .u8 0), .lit (.int .u8 0)], .agg [.lit (.int .u8 0), .lit (.int .u8 0)], .agg [.lit (.int .u8 0), .lit (.int .u8 0)]]
/-- One of Go's own tables, pinned by name: the form's constant. -/
def laid_unicode_utf8_first : DataW Unit := Go.Pinned.utf8First

/-- 'parapetlaw17.CorsAllows': WHATEVER THE INPUT: true; the input reads as it did. -/
def corsAllowsSpec : ChangeSpec := { name := "corsAllows", fn := fun _ => fun
  | [d1, d2, d3, d4] => { results := [.lit (.bool true)], args := [d1, d2, d3, d4] }
  | _ => none }
def corsAllowsRow : OpenClaim := { program := "ytalbadmefpdldaadoor", sum := "83093736f2103aa5cfb59104ce2894113ac27e8b9846e1f087149c27b5a53a6a", func := "parapet/parapetlaw17.CorsAllows", spec := "corsAllows", inPlace := ["internal/bytealg.IndexByteString", "internal/bytealg.IndexString"], unfollowed := true, recurses := true, named := ["internal/bytealg.MaxLen", "unicode/utf8.first", "unicode/utf8.acceptRanges"], apart := false, laid := [("unicode/utf8.acceptRanges", laid_unicode_utf8_acceptRanges), ("unicode/utf8.first", laid_unicode_utf8_first)] }
def CorsAllowsSaid : Prop := corsAllowsRow.holds Tryd.pinned (OpenSpec.ofChange corsAllowsSpec)

/-- ITS FALSE NEIGHBOUR: 'it returns false'. Refute it at one input. -/
def corsAllowsWrong : ChangeSpec := { name := "corsAllows", fn := fun _ => fun
  | [d1, d2, d3, d4] => { results := [.lit (.bool false)], args := [d1, d2, d3, d4] }
  | _ => none }
def CorsAllowsWrongFalsely : Prop := corsAllowsRow.holds Tryd.pinned (OpenSpec.ofChange corsAllowsWrong)

/-- 'parapetlaw17.CorsPlain': WHATEVER THE INPUT: true; the input reads as it did. -/
def corsPlainSpec : ChangeSpec := { name := "corsPlain", fn := fun _ => fun
  | [d1, d2, d3, d4] => { results := [.lit (.bool true)], args := [d1, d2, d3, d4] }
  | _ => none }
def corsPlainRow : OpenClaim := { program := "ytalbadmefpdldaadoor", sum := "83093736f2103aa5cfb59104ce2894113ac27e8b9846e1f087149c27b5a53a6a", func := "parapet/parapetlaw17.CorsPlain", spec := "corsPlain", inPlace := ["internal/bytealg.IndexByteString", "internal/bytealg.IndexString"], unfollowed := true, recurses := true, named := ["internal/bytealg.MaxLen", "unicode/utf8.first", "unicode/utf8.acceptRanges"], apart := false, laid := [("unicode/utf8.acceptRanges", laid_unicode_utf8_acceptRanges), ("unicode/utf8.first", laid_unicode_utf8_first)] }
def CorsPlainSaid : Prop := corsPlainRow.holds Tryd.pinned (OpenSpec.ofChange corsPlainSpec)

/-- ITS FALSE NEIGHBOUR: 'it returns false'. Refute it at one input. -/
def corsPlainWrong : ChangeSpec := { name := "corsPlain", fn := fun _ => fun
  | [d1, d2, d3, d4] => { results := [.lit (.bool false)], args := [d1, d2, d3, d4] }
  | _ => none }
def CorsPlainWrongFalsely : Prop := corsPlainRow.holds Tryd.pinned (OpenSpec.ofChange corsPlainWrong)

/-- 'parapetlaw17.CorsMore': WHATEVER THE INPUT: true; the input reads as it did. -/
def corsMoreSpec : ChangeSpec := { name := "corsMore", fn := fun _ => fun
  | [d1, d2, d3, d4, d5] => { results := [.lit (.bool true)], args := [d1, d2, d3, d4, d5] }
  | _ => none }
def corsMoreRow : OpenClaim := { program := "ytalbadmefpdldaadoor", sum := "83093736f2103aa5cfb59104ce2894113ac27e8b9846e1f087149c27b5a53a6a", func := "parapet/parapetlaw17.CorsMore", spec := "corsMore", inPlace := ["internal/bytealg.IndexByteString", "internal/bytealg.IndexString"], unfollowed := true, recurses := true, named := ["internal/bytealg.MaxLen", "unicode/utf8.first", "unicode/utf8.acceptRanges"], apart := false, laid := [("unicode/utf8.acceptRanges", laid_unicode_utf8_acceptRanges), ("unicode/utf8.first", laid_unicode_utf8_first)] }
def CorsMoreSaid : Prop := corsMoreRow.holds Tryd.pinned (OpenSpec.ofChange corsMoreSpec)

/-- ITS FALSE NEIGHBOUR: 'it returns false'. Refute it at one input. -/
def corsMoreWrong : ChangeSpec := { name := "corsMore", fn := fun _ => fun
  | [d1, d2, d3, d4, d5] => { results := [.lit (.bool false)], args := [d1, d2, d3, d4, d5] }
  | _ => none }
def CorsMoreWrongFalsely : Prop := corsMoreRow.holds Tryd.pinned (OpenSpec.ofChange corsMoreWrong)

/-- 'parapetlaw17.CorsWild': WHATEVER THE INPUT: true; the input reads as it did. -/
def corsWildSpec : ChangeSpec := { name := "corsWild", fn := fun _ => fun
  | [d1, d2] => { results := [.lit (.bool true)], args := [d1, d2] }
  | _ => none }
def corsWildRow : OpenClaim := { program := "ytalbadmefpdldaadoor", sum := "83093736f2103aa5cfb59104ce2894113ac27e8b9846e1f087149c27b5a53a6a", func := "parapet/parapetlaw17.CorsWild", spec := "corsWild", inPlace := ["internal/bytealg.IndexByteString", "internal/bytealg.IndexString"], unfollowed := true, recurses := true, named := ["internal/bytealg.MaxLen", "unicode/utf8.first", "unicode/utf8.acceptRanges"], apart := false, laid := [("unicode/utf8.acceptRanges", laid_unicode_utf8_acceptRanges), ("unicode/utf8.first", laid_unicode_utf8_first)] }
def CorsWildSaid : Prop := corsWildRow.holds Tryd.pinned (OpenSpec.ofChange corsWildSpec)

/-- ITS FALSE NEIGHBOUR: 'it returns false'. Refute it at one input. -/
def corsWildWrong : ChangeSpec := { name := "corsWild", fn := fun _ => fun
  | [d1, d2] => { results := [.lit (.bool false)], args := [d1, d2] }
  | _ => none }
def CorsWildWrongFalsely : Prop := corsWildRow.holds Tryd.pinned (OpenSpec.ofChange corsWildWrong)

/-- 'parapetlaw17.CorsMethods': WHATEVER THE INPUT: true; the input reads as it did. -/
def corsMethodsSpec : ChangeSpec := { name := "corsMethods", fn := fun _ => fun
  | [d1, d2] => { results := [.lit (.bool true)], args := [d1, d2] }
  | _ => none }
def corsMethodsRow : OpenClaim := { program := "ytalbadmefpdldaadoor", sum := "83093736f2103aa5cfb59104ce2894113ac27e8b9846e1f087149c27b5a53a6a", func := "parapet/parapetlaw17.CorsMethods", spec := "corsMethods", inPlace := ["internal/bytealg.IndexByteString", "internal/bytealg.IndexString"], unfollowed := true, recurses := true, named := ["internal/bytealg.MaxLen", "unicode/utf8.first", "unicode/utf8.acceptRanges"], apart := false, laid := [("unicode/utf8.acceptRanges", laid_unicode_utf8_acceptRanges), ("unicode/utf8.first", laid_unicode_utf8_first)] }
def CorsMethodsSaid : Prop := corsMethodsRow.holds Tryd.pinned (OpenSpec.ofChange corsMethodsSpec)

/-- ITS FALSE NEIGHBOUR: 'it returns false'. Refute it at one input. -/
def corsMethodsWrong : ChangeSpec := { name := "corsMethods", fn := fun _ => fun
  | [d1, d2] => { results := [.lit (.bool false)], args := [d1, d2] }
  | _ => none }
def CorsMethodsWrongFalsely : Prop := corsMethodsRow.holds Tryd.pinned (OpenSpec.ofChange corsMethodsWrong)

/-- 'parapetlaw17.CorsFinds': WHATEVER THE INPUT: true; the input reads as it did. -/
def corsFindsSpec : ChangeSpec := { name := "corsFinds", fn := fun _ => fun
  | [d1, d2, d3] => { results := [.lit (.bool true)], args := [d1, d2, d3] }
  | _ => none }
def corsFindsRow : OpenClaim := { program := "ytalbadmefpdldaadoor", sum := "83093736f2103aa5cfb59104ce2894113ac27e8b9846e1f087149c27b5a53a6a", func := "parapet/parapetlaw17.CorsFinds", spec := "corsFinds", inPlace := ["internal/bytealg.IndexByteString", "internal/bytealg.IndexString"], unfollowed := true, recurses := true, named := ["internal/bytealg.MaxLen", "unicode/utf8.first", "unicode/utf8.acceptRanges"], apart := false, laid := [("unicode/utf8.acceptRanges", laid_unicode_utf8_acceptRanges), ("unicode/utf8.first", laid_unicode_utf8_first)] }
def CorsFindsSaid : Prop := corsFindsRow.holds Tryd.pinned (OpenSpec.ofChange corsFindsSpec)

/-- ITS FALSE NEIGHBOUR: 'it returns false'. Refute it at one input. -/
def corsFindsWrong : ChangeSpec := { name := "corsFinds", fn := fun _ => fun
  | [d1, d2, d3] => { results := [.lit (.bool false)], args := [d1, d2, d3] }
  | _ => none }
def CorsFindsWrongFalsely : Prop := corsFindsRow.holds Tryd.pinned (OpenSpec.ofChange corsFindsWrong)

/-- 'parapetlaw17.CorsExact': WHATEVER THE INPUT: true; the input reads as it did. -/
def corsExactSpec : ChangeSpec := { name := "corsExact", fn := fun _ => fun
  | [d1, d2] => { results := [.lit (.bool true)], args := [d1, d2] }
  | _ => none }
def corsExactRow : OpenClaim := { program := "ytalbadmefpdldaadoor", sum := "83093736f2103aa5cfb59104ce2894113ac27e8b9846e1f087149c27b5a53a6a", func := "parapet/parapetlaw17.CorsExact", spec := "corsExact", inPlace := ["internal/bytealg.IndexByteString", "internal/bytealg.IndexString"], unfollowed := true, recurses := true, named := ["internal/bytealg.MaxLen", "unicode/utf8.first", "unicode/utf8.acceptRanges"], apart := false, laid := [("unicode/utf8.acceptRanges", laid_unicode_utf8_acceptRanges), ("unicode/utf8.first", laid_unicode_utf8_first)] }
def CorsExactSaid : Prop := corsExactRow.holds Tryd.pinned (OpenSpec.ofChange corsExactSpec)

/-- ITS FALSE NEIGHBOUR: 'it returns false'. Refute it at one input. -/
def corsExactWrong : ChangeSpec := { name := "corsExact", fn := fun _ => fun
  | [d1, d2] => { results := [.lit (.bool false)], args := [d1, d2] }
  | _ => none }
def CorsExactWrongFalsely : Prop := corsExactRow.holds Tryd.pinned (OpenSpec.ofChange corsExactWrong)

/- THE SECOND FORM. 'bulk': how many values and letters a reading holds, each counted each time it is reached (what is shared counts as often as it is met; a slice's spare places count too). A statement '..UptoSaid' is the law's where the arguments, and the package variables that the reading takes, are together of bulk at most 1048576: NARROWER than '..Said'. Prove '..Said' where nothing that the law and all that it calls make is longer than what came in: it says more and counts as full. Else prove '..UptoSaid'. A law counts once. -/
mutual
def uptoBulk {H : Type} : DataW H → Nat
  | .lit (.string bytes) => bytes.length + 1
  | .lit _ => 1
  | .nil => 1
  | .ptr d => uptoBulk d + 1
  | .slice elems spare => uptoBulkAll elems + uptoBulkAll spare + 1
  | .agg parts => uptoBulkAll parts + 1
  | .iface _ d => uptoBulk d + 1
  | .map entries => uptoBulkEntries entries + 1
  | .held _ => 1
def uptoBulkAll {H : Type} : List (DataW H) → Nat
  | [] => 0
  | d :: r => uptoBulk d + uptoBulkAll r
def uptoBulkEntries {H : Type} : List (Lit × DataW H) → Nat
  | [] => 0
  | x :: r => uptoBulkEntry x + uptoBulkEntries r
def uptoBulkEntry {H : Type} : Lit × DataW H → Nat
  | (.string bytes, d) => bytes.length + uptoBulk d + 1
  | (_, d) => uptoBulk d + 1
 end
def uptoSmall : (H : Type) → List (DataW H) → Bool := fun _ ds => decide (uptoBulkAll ds ≤ 1048576)
def OpenSpec.upto (s : _root_.Go.ChangeSpec) : _root_.Go.OpenSpec := { _root_.Go.OpenSpec.ofChange s with cond := some uptoSmall }

/-- 'parapetlaw17.CorsAllows', WHERE WHAT IT READS IS OF BULK AT MOST 1048576: true; the input reads as it did. -/
def corsAllowsUptoRow : OpenClaim := { program := "ytalbadmefpdldaadoor", sum := "83093736f2103aa5cfb59104ce2894113ac27e8b9846e1f087149c27b5a53a6a", func := "parapet/parapetlaw17.CorsAllows", spec := "corsAllows", inPlace := ["internal/bytealg.IndexByteString", "internal/bytealg.IndexString"], unfollowed := true, recurses := true, named := ["internal/bytealg.MaxLen", "unicode/utf8.first", "unicode/utf8.acceptRanges"], apart := false, laid := [("unicode/utf8.acceptRanges", laid_unicode_utf8_acceptRanges), ("unicode/utf8.first", laid_unicode_utf8_first)], narrowed := true }
def CorsAllowsUptoSaid : Prop := corsAllowsUptoRow.holds Tryd.pinned (OpenSpec.upto corsAllowsSpec)

/-- 'parapetlaw17.CorsPlain', WHERE WHAT IT READS IS OF BULK AT MOST 1048576: true; the input reads as it did. -/
def corsPlainUptoRow : OpenClaim := { program := "ytalbadmefpdldaadoor", sum := "83093736f2103aa5cfb59104ce2894113ac27e8b9846e1f087149c27b5a53a6a", func := "parapet/parapetlaw17.CorsPlain", spec := "corsPlain", inPlace := ["internal/bytealg.IndexByteString", "internal/bytealg.IndexString"], unfollowed := true, recurses := true, named := ["internal/bytealg.MaxLen", "unicode/utf8.first", "unicode/utf8.acceptRanges"], apart := false, laid := [("unicode/utf8.acceptRanges", laid_unicode_utf8_acceptRanges), ("unicode/utf8.first", laid_unicode_utf8_first)], narrowed := true }
def CorsPlainUptoSaid : Prop := corsPlainUptoRow.holds Tryd.pinned (OpenSpec.upto corsPlainSpec)

/-- 'parapetlaw17.CorsMore', WHERE WHAT IT READS IS OF BULK AT MOST 1048576: true; the input reads as it did. -/
def corsMoreUptoRow : OpenClaim := { program := "ytalbadmefpdldaadoor", sum := "83093736f2103aa5cfb59104ce2894113ac27e8b9846e1f087149c27b5a53a6a", func := "parapet/parapetlaw17.CorsMore", spec := "corsMore", inPlace := ["internal/bytealg.IndexByteString", "internal/bytealg.IndexString"], unfollowed := true, recurses := true, named := ["internal/bytealg.MaxLen", "unicode/utf8.first", "unicode/utf8.acceptRanges"], apart := false, laid := [("unicode/utf8.acceptRanges", laid_unicode_utf8_acceptRanges), ("unicode/utf8.first", laid_unicode_utf8_first)], narrowed := true }
def CorsMoreUptoSaid : Prop := corsMoreUptoRow.holds Tryd.pinned (OpenSpec.upto corsMoreSpec)

/-- 'parapetlaw17.CorsWild', WHERE WHAT IT READS IS OF BULK AT MOST 1048576: true; the input reads as it did. -/
def corsWildUptoRow : OpenClaim := { program := "ytalbadmefpdldaadoor", sum := "83093736f2103aa5cfb59104ce2894113ac27e8b9846e1f087149c27b5a53a6a", func := "parapet/parapetlaw17.CorsWild", spec := "corsWild", inPlace := ["internal/bytealg.IndexByteString", "internal/bytealg.IndexString"], unfollowed := true, recurses := true, named := ["internal/bytealg.MaxLen", "unicode/utf8.first", "unicode/utf8.acceptRanges"], apart := false, laid := [("unicode/utf8.acceptRanges", laid_unicode_utf8_acceptRanges), ("unicode/utf8.first", laid_unicode_utf8_first)], narrowed := true }
def CorsWildUptoSaid : Prop := corsWildUptoRow.holds Tryd.pinned (OpenSpec.upto corsWildSpec)

/-- 'parapetlaw17.CorsMethods', WHERE WHAT IT READS IS OF BULK AT MOST 1048576: true; the input reads as it did. -/
def corsMethodsUptoRow : OpenClaim := { program := "ytalbadmefpdldaadoor", sum := "83093736f2103aa5cfb59104ce2894113ac27e8b9846e1f087149c27b5a53a6a", func := "parapet/parapetlaw17.CorsMethods", spec := "corsMethods", inPlace := ["internal/bytealg.IndexByteString", "internal/bytealg.IndexString"], unfollowed := true, recurses := true, named := ["internal/bytealg.MaxLen", "unicode/utf8.first", "unicode/utf8.acceptRanges"], apart := false, laid := [("unicode/utf8.acceptRanges", laid_unicode_utf8_acceptRanges), ("unicode/utf8.first", laid_unicode_utf8_first)], narrowed := true }
def CorsMethodsUptoSaid : Prop := corsMethodsUptoRow.holds Tryd.pinned (OpenSpec.upto corsMethodsSpec)

/-- 'parapetlaw17.CorsFinds', WHERE WHAT IT READS IS OF BULK AT MOST 1048576: true; the input reads as it did. -/
def corsFindsUptoRow : OpenClaim := { program := "ytalbadmefpdldaadoor", sum := "83093736f2103aa5cfb59104ce2894113ac27e8b9846e1f087149c27b5a53a6a", func := "parapet/parapetlaw17.CorsFinds", spec := "corsFinds", inPlace := ["internal/bytealg.IndexByteString", "internal/bytealg.IndexString"], unfollowed := true, recurses := true, named := ["internal/bytealg.MaxLen", "unicode/utf8.first", "unicode/utf8.acceptRanges"], apart := false, laid := [("unicode/utf8.acceptRanges", laid_unicode_utf8_acceptRanges), ("unicode/utf8.first", laid_unicode_utf8_first)], narrowed := true }
def CorsFindsUptoSaid : Prop := corsFindsUptoRow.holds Tryd.pinned (OpenSpec.upto corsFindsSpec)

/-- 'parapetlaw17.CorsExact', WHERE WHAT IT READS IS OF BULK AT MOST 1048576: true; the input reads as it did. -/
def corsExactUptoRow : OpenClaim := { program := "ytalbadmefpdldaadoor", sum := "83093736f2103aa5cfb59104ce2894113ac27e8b9846e1f087149c27b5a53a6a", func := "parapet/parapetlaw17.CorsExact", spec := "corsExact", inPlace := ["internal/bytealg.IndexByteString", "internal/bytealg.IndexString"], unfollowed := true, recurses := true, named := ["internal/bytealg.MaxLen", "unicode/utf8.first", "unicode/utf8.acceptRanges"], apart := false, laid := [("unicode/utf8.acceptRanges", laid_unicode_utf8_acceptRanges), ("unicode/utf8.first", laid_unicode_utf8_first)], narrowed := true }
def CorsExactUptoSaid : Prop := corsExactUptoRow.holds Tryd.pinned (OpenSpec.upto corsExactSpec)

end Rows
end Go.Proofs.YtalbadmefpdldaaDoor
