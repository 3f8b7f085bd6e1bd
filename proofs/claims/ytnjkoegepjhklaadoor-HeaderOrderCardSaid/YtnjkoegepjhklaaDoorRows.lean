/-
  NARROWER THAN 'FOR EVERY INPUT', by the rows' own cells (each row's printed sentence says how): HeaderUnsafe: laid · HeaderOrder: laid · HeaderLong: laid · HeaderTypes: laid · HeaderKinds: laid · HeaderLists: laid · HeaderValues: laid.
  DERIVED. THE GIVEN ROWS OF THIS SEAT. 7 by the template 'for every input the law returns true; each argument reads behind the call as it read before'; 0 by the template 'total and deterministic' (their statements: YtnjkoegepjhklaaDoorTotals.lean).
  GIVEN WITH THE SEED: the statements are not yours to turn. If you find one false, say at which input.
  Laid BY PROGRAM, IN A SANDBOX (cutbox-rows.mjs): the forced cells as the released guide's own fill.sh prints them over the translation c7707f0bca3a9553… (all of the seat's roots in one cut). By AI agents, Wed Nov 11 2026. No macro, syntax, notation, axiom, sorry.
-/
import Derived.Test.YtnjkoegepjhklaaDoorChecked
import GoSem.PinnedTables
import GoSem.Claim
import GoSem.ClaimJoined
import GoSem.ClaimMapViews
import Derived.JoinedTies
import Derived.KernelRfl
namespace Go.Proofs.YtnjkoegepjhklaaDoor
/- THE CELL 'sum', in the pinned program and in every row, IS THE sha256 OF THE DUMP (.gsa) THAT YtnjkoegepjhklaaDoorProg.lean LOADS. Nothing in Lean hashes anything: it is a label: what it is worth is what the hold of that sum in a sandbox is worth. -/
noncomputable def Tryd.pinned : Pinned := { name := "ytnjkoegepjhklaadoor", sum := "c7707f0bca3a9553e0a2d0266ed80268154df8bd5139b87e51209cdd653c8ef5", checked := Tryd.checked }
namespace Rows
def none {H : Type} : Left H := { results := [], args := [] }

/- WHAT THE LISTED PACKAGE-LEVEL VARIABLES READ AS WHEN THE CALL BEGINS. Each datum BY PROGRAM (the guide's laid-datum.mjs) off the statement by which the dump's own 'gosem.cut.vars' lays the variable. In a bare row this is a premise. The card (YtnjkoegepjhklaaDoorCards.lean) ties it to the program's text. -/
def laid_unicode_utf8_acceptRanges {H : Type} : DataW H := .agg [.agg [.lit (.int .u8 128), .lit (.int .u8 191)], .agg [.lit (.int .u8 160), .lit (.int .u8 191)], .agg [.lit (.int .u8 128), .lit (.int .u8 159)], .agg [.lit (.int .u8 144), .lit (.int .u8 191)], .agg [.lit (.int .u8 128), .lit (.int .u8 143)], .agg [.lit (.int .u8 0), .lit (.int .u8 0)], .agg [.lit (.int .u8 0), .lit (.int .u8 0)], .agg [.lit (.int .u8 0), .lit (.int .u8 0)], .agg [.lit (.int .u8 0), .lit (.int .u8 0)], .agg [.lit (.int .u8 0), .lit (.int .u8 0)], .agg [.lit (.int .u8 0), .lit (.int .u8 0)], .agg [.lit (.int .u8 0), .lit (.int .u8 0)], .agg [.lit (.int .u8 0), .lit (.int .u8 0)], .agg [.lit (.int .u8 0), .lit (.int .u8 0)], .agg [.lit (.int .u8 0), .lit (.int .u8 0)], .agg [.lit (.int .u8 0), .lit (.int .u8 0)]]
/-- One of Go's own tables, pinned by name: the form's constant. -/
def laid_unicode_utf8_first : DataW Unit := Go.Pinned.utf8First

/-- 'parapetlaw13.HeaderUnsafe': WHATEVER THE INPUT: true; the input reads as it did. -/
def headerUnsafeSpec : ChangeSpec := { name := "headerUnsafe", fn := fun _ => fun
  | [d] => { results := [.lit (.bool true)], args := [d] }
  | _ => none }
def headerUnsafeRow : OpenClaim := { program := "ytnjkoegepjhklaadoor", sum := "c7707f0bca3a9553e0a2d0266ed80268154df8bd5139b87e51209cdd653c8ef5", func := "parapet/parapetlaw13.HeaderUnsafe", spec := "headerUnsafe", inPlace := ["internal/bytealg.IndexByteString", "internal/bytealg.IndexString"], unfollowed := true, recurses := true, named := ["internal/bytealg.MaxLen", "unicode/utf8.first", "unicode/utf8.acceptRanges"], apart := false, laid := [("unicode/utf8.acceptRanges", laid_unicode_utf8_acceptRanges), ("unicode/utf8.first", laid_unicode_utf8_first)] }
def HeaderUnsafeSaid : Prop := headerUnsafeRow.holds Tryd.pinned (OpenSpec.ofChange headerUnsafeSpec)

/-- ITS FALSE NEIGHBOUR: 'it returns false'. Refute it at one input. -/
def headerUnsafeWrong : ChangeSpec := { name := "headerUnsafe", fn := fun _ => fun
  | [d] => { results := [.lit (.bool false)], args := [d] }
  | _ => none }
def HeaderUnsafeWrongFalsely : Prop := headerUnsafeRow.holds Tryd.pinned (OpenSpec.ofChange headerUnsafeWrong)

/-- 'parapetlaw13.HeaderOrder': WHATEVER THE INPUT: true; the input reads as it did. -/
def headerOrderSpec : ChangeSpec := { name := "headerOrder", fn := fun _ => fun
  | [d] => { results := [.lit (.bool true)], args := [d] }
  | _ => none }
def headerOrderRow : OpenClaim := { program := "ytnjkoegepjhklaadoor", sum := "c7707f0bca3a9553e0a2d0266ed80268154df8bd5139b87e51209cdd653c8ef5", func := "parapet/parapetlaw13.HeaderOrder", spec := "headerOrder", inPlace := ["internal/bytealg.IndexByteString", "internal/bytealg.IndexString"], unfollowed := true, recurses := true, named := ["internal/bytealg.MaxLen", "unicode/utf8.first", "unicode/utf8.acceptRanges"], apart := false, laid := [("unicode/utf8.acceptRanges", laid_unicode_utf8_acceptRanges), ("unicode/utf8.first", laid_unicode_utf8_first)] }
def HeaderOrderSaid : Prop := headerOrderRow.holds Tryd.pinned (OpenSpec.ofChange headerOrderSpec)

/-- ITS FALSE NEIGHBOUR: 'it returns false'. Refute it at one input. -/
def headerOrderWrong : ChangeSpec := { name := "headerOrder", fn := fun _ => fun
  | [d] => { results := [.lit (.bool false)], args := [d] }
  | _ => none }
def HeaderOrderWrongFalsely : Prop := headerOrderRow.holds Tryd.pinned (OpenSpec.ofChange headerOrderWrong)

/-- 'parapetlaw13.HeaderLong': WHATEVER THE INPUT: true; the input reads as it did. -/
def headerLongSpec : ChangeSpec := { name := "headerLong", fn := fun _ => fun
  | [d1, d2] => { results := [.lit (.bool true)], args := [d1, d2] }
  | _ => none }
def headerLongRow : OpenClaim := { program := "ytnjkoegepjhklaadoor", sum := "c7707f0bca3a9553e0a2d0266ed80268154df8bd5139b87e51209cdd653c8ef5", func := "parapet/parapetlaw13.HeaderLong", spec := "headerLong", inPlace := ["internal/bytealg.IndexByteString", "internal/bytealg.IndexString"], unfollowed := true, recurses := true, named := ["internal/bytealg.MaxLen", "unicode/utf8.first", "unicode/utf8.acceptRanges"], apart := false, laid := [("unicode/utf8.acceptRanges", laid_unicode_utf8_acceptRanges), ("unicode/utf8.first", laid_unicode_utf8_first)] }
def HeaderLongSaid : Prop := headerLongRow.holds Tryd.pinned (OpenSpec.ofChange headerLongSpec)

/-- ITS FALSE NEIGHBOUR: 'it returns false'. Refute it at one input. -/
def headerLongWrong : ChangeSpec := { name := "headerLong", fn := fun _ => fun
  | [d1, d2] => { results := [.lit (.bool false)], args := [d1, d2] }
  | _ => none }
def HeaderLongWrongFalsely : Prop := headerLongRow.holds Tryd.pinned (OpenSpec.ofChange headerLongWrong)

/-- 'parapetlaw13.HeaderTypes': WHATEVER THE INPUT: true; the input reads as it did. -/
def headerTypesSpec : ChangeSpec := { name := "headerTypes", fn := fun _ => fun
  | [d1, d2, d3] => { results := [.lit (.bool true)], args := [d1, d2, d3] }
  | _ => none }
def headerTypesRow : OpenClaim := { program := "ytnjkoegepjhklaadoor", sum := "c7707f0bca3a9553e0a2d0266ed80268154df8bd5139b87e51209cdd653c8ef5", func := "parapet/parapetlaw13.HeaderTypes", spec := "headerTypes", inPlace := ["internal/bytealg.IndexByteString", "internal/bytealg.IndexString"], unfollowed := true, recurses := true, named := ["internal/bytealg.MaxLen", "unicode/utf8.first", "unicode/utf8.acceptRanges"], apart := false, laid := [("unicode/utf8.acceptRanges", laid_unicode_utf8_acceptRanges), ("unicode/utf8.first", laid_unicode_utf8_first)] }
def HeaderTypesSaid : Prop := headerTypesRow.holds Tryd.pinned (OpenSpec.ofChange headerTypesSpec)

/-- ITS FALSE NEIGHBOUR: 'it returns false'. Refute it at one input. -/
def headerTypesWrong : ChangeSpec := { name := "headerTypes", fn := fun _ => fun
  | [d1, d2, d3] => { results := [.lit (.bool false)], args := [d1, d2, d3] }
  | _ => none }
def HeaderTypesWrongFalsely : Prop := headerTypesRow.holds Tryd.pinned (OpenSpec.ofChange headerTypesWrong)

/-- 'parapetlaw13.HeaderKinds': WHATEVER THE INPUT: true; the input reads as it did. -/
def headerKindsSpec : ChangeSpec := { name := "headerKinds", fn := fun _ => fun
  | [d] => { results := [.lit (.bool true)], args := [d] }
  | _ => none }
def headerKindsRow : OpenClaim := { program := "ytnjkoegepjhklaadoor", sum := "c7707f0bca3a9553e0a2d0266ed80268154df8bd5139b87e51209cdd653c8ef5", func := "parapet/parapetlaw13.HeaderKinds", spec := "headerKinds", inPlace := ["internal/bytealg.IndexByteString", "internal/bytealg.IndexString"], unfollowed := true, recurses := true, named := ["internal/bytealg.MaxLen", "unicode/utf8.first", "unicode/utf8.acceptRanges"], apart := false, laid := [("unicode/utf8.acceptRanges", laid_unicode_utf8_acceptRanges), ("unicode/utf8.first", laid_unicode_utf8_first)] }
def HeaderKindsSaid : Prop := headerKindsRow.holds Tryd.pinned (OpenSpec.ofChange headerKindsSpec)

/-- ITS FALSE NEIGHBOUR: 'it returns false'. Refute it at one input. -/
def headerKindsWrong : ChangeSpec := { name := "headerKinds", fn := fun _ => fun
  | [d] => { results := [.lit (.bool false)], args := [d] }
  | _ => none }
def HeaderKindsWrongFalsely : Prop := headerKindsRow.holds Tryd.pinned (OpenSpec.ofChange headerKindsWrong)

/-- 'parapetlaw13.HeaderLists': WHATEVER THE INPUT: true; the input reads as it did. -/
def headerListsSpec : ChangeSpec := { name := "headerLists", fn := fun _ => fun
  | [d1, d2] => { results := [.lit (.bool true)], args := [d1, d2] }
  | _ => none }
def headerListsRow : OpenClaim := { program := "ytnjkoegepjhklaadoor", sum := "c7707f0bca3a9553e0a2d0266ed80268154df8bd5139b87e51209cdd653c8ef5", func := "parapet/parapetlaw13.HeaderLists", spec := "headerLists", inPlace := ["internal/bytealg.IndexByteString", "internal/bytealg.IndexString", "internal/bytealg.CountString"], unfollowed := true, recurses := true, named := ["internal/bytealg.MaxLen", "unicode/utf8.first", "unicode/utf8.acceptRanges"], apart := false, laid := [("unicode/utf8.acceptRanges", laid_unicode_utf8_acceptRanges), ("unicode/utf8.first", laid_unicode_utf8_first)] }
def HeaderListsSaid : Prop := headerListsRow.holds Tryd.pinned (OpenSpec.ofChange headerListsSpec)

/-- ITS FALSE NEIGHBOUR: 'it returns false'. Refute it at one input. -/
def headerListsWrong : ChangeSpec := { name := "headerLists", fn := fun _ => fun
  | [d1, d2] => { results := [.lit (.bool false)], args := [d1, d2] }
  | _ => none }
def HeaderListsWrongFalsely : Prop := headerListsRow.holds Tryd.pinned (OpenSpec.ofChange headerListsWrong)

/-- 'parapetlaw13.HeaderValues': WHATEVER THE INPUT: true; the input reads as it did. -/
def headerValuesSpec : ChangeSpec := { name := "headerValues", fn := fun _ => fun
  | [d1, d2] => { results := [.lit (.bool true)], args := [d1, d2] }
  | _ => none }
def headerValuesRow : OpenClaim := { program := "ytnjkoegepjhklaadoor", sum := "c7707f0bca3a9553e0a2d0266ed80268154df8bd5139b87e51209cdd653c8ef5", func := "parapet/parapetlaw13.HeaderValues", spec := "headerValues", inPlace := ["internal/bytealg.IndexByteString", "internal/bytealg.IndexString", "internal/bytealg.CountString"], unfollowed := true, recurses := true, named := ["internal/bytealg.MaxLen", "unicode/utf8.first", "unicode/utf8.acceptRanges"], apart := false, laid := [("unicode/utf8.acceptRanges", laid_unicode_utf8_acceptRanges), ("unicode/utf8.first", laid_unicode_utf8_first)] }
def HeaderValuesSaid : Prop := headerValuesRow.holds Tryd.pinned (OpenSpec.ofChange headerValuesSpec)

/-- ITS FALSE NEIGHBOUR: 'it returns false'. Refute it at one input. -/
def headerValuesWrong : ChangeSpec := { name := "headerValues", fn := fun _ => fun
  | [d1, d2] => { results := [.lit (.bool false)], args := [d1, d2] }
  | _ => none }
def HeaderValuesWrongFalsely : Prop := headerValuesRow.holds Tryd.pinned (OpenSpec.ofChange headerValuesWrong)

/- THE SECOND FORM. 'bulk': how many values and letters a reading holds, each counted each time it is reached (what is shared counts as often as it is met; a slice's spare places count too). A statement '..UptoSaid' is the law's where the arguments, and the package variables that the reading takes, are together of bulk at most 1048576: NARROWER than '..Said'. Prove '..Said' where nothing that the law and all that it calls make is longer than what came in: it says more and counts as full. Else prove '..UptoSaid'. A law counts once. -/
mutual
def uptoBulk {H : Type} : DataW H → Nat
  | .lit (.string bytes) => bytes.length + 1
  | .lit _ => 1
  | .nil => 1
  | .ptr d => uptoBulk d + 1
  | .slice elems spare => uptoBulkAll elems + uptoBulkAll spare + 1
  | .agg parts => uptoBulkAll parts + 1
  | .iface _ d => uptoBulk d + 1
  | .map entries => uptoBulkEntries entries + 1
  | .held _ => 1
def uptoBulkAll {H : Type} : List (DataW H) → Nat
  | [] => 0
  | d :: r => uptoBulk d + uptoBulkAll r
def uptoBulkEntries {H : Type} : List (Lit × DataW H) → Nat
  | [] => 0
  | x :: r => uptoBulkEntry x + uptoBulkEntries r
def uptoBulkEntry {H : Type} : Lit × DataW H → Nat
  | (.string bytes, d) => bytes.length + uptoBulk d + 1
  | (_, d) => uptoBulk d + 1
 end
def uptoSmall : (H : Type) → List (DataW H) → Bool := fun _ ds => decide (uptoBulkAll ds ≤ 1048576)
def OpenSpec.upto (s : _root_.Go.ChangeSpec) : _root_.Go.OpenSpec := { _root_.Go.OpenSpec.ofChange s with cond := some uptoSmall }

/-- 'parapetlaw13.HeaderUnsafe', WHERE WHAT IT READS IS OF BULK AT MOST 1048576: true; the input reads as it did. -/
def headerUnsafeUptoRow : OpenClaim := { program := "ytnjkoegepjhklaadoor", sum := "c7707f0bca3a9553e0a2d0266ed80268154df8bd5139b87e51209cdd653c8ef5", func := "parapet/parapetlaw13.HeaderUnsafe", spec := "headerUnsafe", inPlace := ["internal/bytealg.IndexByteString", "internal/bytealg.IndexString"], unfollowed := true, recurses := true, named := ["internal/bytealg.MaxLen", "unicode/utf8.first", "unicode/utf8.acceptRanges"], apart := false, laid := [("unicode/utf8.acceptRanges", laid_unicode_utf8_acceptRanges), ("unicode/utf8.first", laid_unicode_utf8_first)], narrowed := true }
def HeaderUnsafeUptoSaid : Prop := headerUnsafeUptoRow.holds Tryd.pinned (OpenSpec.upto headerUnsafeSpec)

/-- 'parapetlaw13.HeaderOrder', WHERE WHAT IT READS IS OF BULK AT MOST 1048576: true; the input reads as it did. -/
def headerOrderUptoRow : OpenClaim := { program := "ytnjkoegepjhklaadoor", sum := "c7707f0bca3a9553e0a2d0266ed80268154df8bd5139b87e51209cdd653c8ef5", func := "parapet/parapetlaw13.HeaderOrder", spec := "headerOrder", inPlace := ["internal/bytealg.IndexByteString", "internal/bytealg.IndexString"], unfollowed := true, recurses := true, named := ["internal/bytealg.MaxLen", "unicode/utf8.first", "unicode/utf8.acceptRanges"], apart := false, laid := [("unicode/utf8.acceptRanges", laid_unicode_utf8_acceptRanges), ("unicode/utf8.first", laid_unicode_utf8_first)], narrowed := true }
def HeaderOrderUptoSaid : Prop := headerOrderUptoRow.holds Tryd.pinned (OpenSpec.upto headerOrderSpec)

/-- 'parapetlaw13.HeaderLong', WHERE WHAT IT READS IS OF BULK AT MOST 1048576: true; the input reads as it did. -/
def headerLongUptoRow : OpenClaim := { program := "ytnjkoegepjhklaadoor", sum := "c7707f0bca3a9553e0a2d0266ed80268154df8bd5139b87e51209cdd653c8ef5", func := "parapet/parapetlaw13.HeaderLong", spec := "headerLong", inPlace := ["internal/bytealg.IndexByteString", "internal/bytealg.IndexString"], unfollowed := true, recurses := true, named := ["internal/bytealg.MaxLen", "unicode/utf8.first", "unicode/utf8.acceptRanges"], apart := false, laid := [("unicode/utf8.acceptRanges", laid_unicode_utf8_acceptRanges), ("unicode/utf8.first", laid_unicode_utf8_first)], narrowed := true }
def HeaderLongUptoSaid : Prop := headerLongUptoRow.holds Tryd.pinned (OpenSpec.upto headerLongSpec)

/-- 'parapetlaw13.HeaderTypes', WHERE WHAT IT READS IS OF BULK AT MOST 1048576: true; the input reads as it did. -/
def headerTypesUptoRow : OpenClaim := { program := "ytnjkoegepjhklaadoor", sum := "c7707f0bca3a9553e0a2d0266ed80268154df8bd5139b87e51209cdd653c8ef5", func := "parapet/parapetlaw13.HeaderTypes", spec := "headerTypes", inPlace := ["internal/bytealg.IndexByteString", "internal/bytealg.IndexString"], unfollowed := true, recurses := true, named := ["internal/bytealg.MaxLen", "unicode/utf8.first", "unicode/utf8.acceptRanges"], apart := false, laid := [("unicode/utf8.acceptRanges", laid_unicode_utf8_acceptRanges), ("unicode/utf8.first", laid_unicode_utf8_first)], narrowed := true }
def HeaderTypesUptoSaid : Prop := headerTypesUptoRow.holds Tryd.pinned (OpenSpec.upto headerTypesSpec)

/-- 'parapetlaw13.HeaderKinds', WHERE WHAT IT READS IS OF BULK AT MOST 1048576: true; the input reads as it did. -/
def headerKindsUptoRow : OpenClaim := { program := "ytnjkoegepjhklaadoor", sum := "c7707f0bca3a9553e0a2d0266ed80268154df8bd5139b87e51209cdd653c8ef5", func := "parapet/parapetlaw13.HeaderKinds", spec := "headerKinds", inPlace := ["internal/bytealg.IndexByteString", "internal/bytealg.IndexString"], unfollowed := true, recurses := true, named := ["internal/bytealg.MaxLen", "unicode/utf8.first", "unicode/utf8.acceptRanges"], apart := false, laid := [("unicode/utf8.acceptRanges", laid_unicode_utf8_acceptRanges), ("unicode/utf8.first", laid_unicode_utf8_first)], narrowed := true }
def HeaderKindsUptoSaid : Prop := headerKindsUptoRow.holds Tryd.pinned (OpenSpec.upto headerKindsSpec)

/-- 'parapetlaw13.HeaderLists', WHERE WHAT IT READS IS OF BULK AT MOST 1048576: true; the input reads as it did. -/
def headerListsUptoRow : OpenClaim := { program := "ytnjkoegepjhklaadoor", sum := "c7707f0bca3a9553e0a2d0266ed80268154df8bd5139b87e51209cdd653c8ef5", func := "parapet/parapetlaw13.HeaderLists", spec := "headerLists", inPlace := ["internal/bytealg.IndexByteString", "internal/bytealg.IndexString", "internal/bytealg.CountString"], unfollowed := true, recurses := true, named := ["internal/bytealg.MaxLen", "unicode/utf8.first", "unicode/utf8.acceptRanges"], apart := false, laid := [("unicode/utf8.acceptRanges", laid_unicode_utf8_acceptRanges), ("unicode/utf8.first", laid_unicode_utf8_first)], narrowed := true }
def HeaderListsUptoSaid : Prop := headerListsUptoRow.holds Tryd.pinned (OpenSpec.upto headerListsSpec)

/-- 'parapetlaw13.HeaderValues', WHERE WHAT IT READS IS OF BULK AT MOST 1048576: true; the input reads as it did. -/
def headerValuesUptoRow : OpenClaim := { program := "ytnjkoegepjhklaadoor", sum := "c7707f0bca3a9553e0a2d0266ed80268154df8bd5139b87e51209cdd653c8ef5", func := "parapet/parapetlaw13.HeaderValues", spec := "headerValues", inPlace := ["internal/bytealg.IndexByteString", "internal/bytealg.IndexString", "internal/bytealg.CountString"], unfollowed := true, recurses := true, named := ["internal/bytealg.MaxLen", "unicode/utf8.first", "unicode/utf8.acceptRanges"], apart := false, laid := [("unicode/utf8.acceptRanges", laid_unicode_utf8_acceptRanges), ("unicode/utf8.first", laid_unicode_utf8_first)], narrowed := true }
def HeaderValuesUptoSaid : Prop := headerValuesUptoRow.holds Tryd.pinned (OpenSpec.upto headerValuesSpec)

end Rows
end Go.Proofs.YtnjkoegepjhklaaDoor
