/-
  NARROWER THAN 'FOR EVERY INPUT', by the rows' own cells (each row's printed sentence says how): FnExactNameRead: laid · FnExactFilterRead: laid · FnNameStrict: laid · FnFilterStrict: laid · FnNameOne: laid.
  DERIVED. THE GIVEN ROWS OF THIS SEAT. 5 by the template 'for every input the law returns true; each argument reads behind the call as it read before'; 0 by the template 'total and deterministic' (their statements: YtchccgdjelhenaaDoorTotals.lean).
  GIVEN WITH THE SEED: the statements are not yours to turn. If you find one false, say at which input.
  Laid BY PROGRAM, IN A SANDBOX (cutbox-rows.mjs): the forced cells as the released guide's own fill.sh prints them over the translation a239bb82980e0ef5… (all of the seat's roots in one cut). By AI agents, Wed Nov 11 2026. No macro, syntax, notation, axiom, sorry.
-/
import Derived.Test.YtchccgdjelhenaaDoorChecked
import GoSem.PinnedTables
import GoSem.Claim
import GoSem.ClaimJoined
import GoSem.ClaimMapViews
import Derived.JoinedTies
import Derived.KernelRfl
namespace Go.Proofs.YtchccgdjelhenaaDoor
/- THE CELL 'sum', in the pinned program and in every row, IS THE sha256 OF THE DUMP (.gsa) THAT YtchccgdjelhenaaDoorProg.lean LOADS. Nothing in Lean hashes anything: it is a label: what it is worth is what the hold of that sum in a sandbox is worth. -/
noncomputable def Tryd.pinned : Pinned := { name := "ytchccgdjelhenaadoor", sum := "a239bb82980e0ef5f4b72455e843995645b102524bfa25c8f131b3f51f9321a5", checked := Tryd.checked }
namespace Rows
def none {H : Type} : Left H := { results := [], args := [] }

/- WHAT THE LISTED PACKAGE-LEVEL VARIABLES READ AS WHEN THE CALL BEGINS. Each datum BY PROGRAM (the guide's laid-datum.mjs) off the statement by which the dump's own 'gosem.cut.vars' lays the variable. In a bare row this is a premise. The card (YtchccgdjelhenaaDoorCards.lean) ties it to the program's text. -/
def laid_unicode_utf8_acceptRanges {H : Type} : DataW H := .agg [.agg [.lit (.int .u8 128), .lit (.int .u8 191)], .agg [.lit (.int .u8 160), .lit (.int .u8 191)], .agg [.lit (.int .u8 128), .lit (.int .u8 159)], .agg [.lit (.int .u8 144), .lit (.int .u8 191)], .agg [.lit (.int .u8 128), .lit (.int .u8 143)], .agg [.lit (.int .u8 0), .lit (.int .u8 0)], .agg [.lit (.int .u8 0), .lit (.int .u8 0)], .agg [.lit (.int .u8 0), .lit (.int .u8 0)], .agg [.lit (.int .u8 0), .lit (.int .u8 0)], .agg [.lit (.int .u8 0), .lit (.int .u8 0)], .agg [.lit (.int .u8 0), .lit (.int .u8 0)], .agg [.lit (.int .u8 0), .lit (.int .u8 0)], .agg [.lit (.int .u8 0), .lit (.int .u8 0)], .agg [.lit (.int .u8 0), .lit (.int .u8 0)], .agg [.lit (.int .u8 0), .lit (.int .u8 0)], .agg [.lit (.int .u8 0), .lit (.int .u8 0)]]
/-- One of Go's own tables, pinned by name: the form's constant. -/
def laid_unicode_utf8_first : DataW Unit := Go.Pinned.utf8First

/-- 'laws.FnExactNameRead': WHATEVER THE INPUT: true; the input reads as it did. -/
def fnExactNameReadSpec : ChangeSpec := { name := "fnExactNameRead", fn := fun _ => fun
  | [d] => { results := [.lit (.bool true)], args := [d] }
  | _ => none }
def fnExactNameReadRow : OpenClaim := { program := "ytchccgdjelhenaadoor", sum := "a239bb82980e0ef5f4b72455e843995645b102524bfa25c8f131b3f51f9321a5", func := "loop.example/chronicler/laws.FnExactNameRead", spec := "fnExactNameRead", inPlace := ["internal/bytealg.CountString", "internal/bytealg.IndexByteString", "internal/bytealg.IndexString", "internal/abi.NoEscape", "internal/bytealg.MakeNoZero"], named := ["unicode/utf8.first", "unicode/utf8.acceptRanges", "internal/bytealg.MaxLen"], apart := false, laid := [("unicode/utf8.acceptRanges", laid_unicode_utf8_acceptRanges), ("unicode/utf8.first", laid_unicode_utf8_first)] }
def FnExactNameReadSaid : Prop := fnExactNameReadRow.holds Tryd.pinned (OpenSpec.ofChange fnExactNameReadSpec)

/-- ITS FALSE NEIGHBOUR: 'it returns false'. Refute it at one input. -/
def fnExactNameReadWrong : ChangeSpec := { name := "fnExactNameRead", fn := fun _ => fun
  | [d] => { results := [.lit (.bool false)], args := [d] }
  | _ => none }
def FnExactNameReadWrongFalsely : Prop := fnExactNameReadRow.holds Tryd.pinned (OpenSpec.ofChange fnExactNameReadWrong)

/-- 'laws.FnExactFilterRead': WHATEVER THE INPUT: true; the input reads as it did. -/
def fnExactFilterReadSpec : ChangeSpec := { name := "fnExactFilterRead", fn := fun _ => fun
  | [d] => { results := [.lit (.bool true)], args := [d] }
  | _ => none }
def fnExactFilterReadRow : OpenClaim := { program := "ytchccgdjelhenaadoor", sum := "a239bb82980e0ef5f4b72455e843995645b102524bfa25c8f131b3f51f9321a5", func := "loop.example/chronicler/laws.FnExactFilterRead", spec := "fnExactFilterRead", inPlace := ["internal/bytealg.CountString", "internal/bytealg.IndexByteString", "internal/bytealg.IndexString", "internal/abi.NoEscape", "internal/bytealg.MakeNoZero"], named := ["unicode/utf8.first", "unicode/utf8.acceptRanges", "internal/bytealg.MaxLen"], apart := false, laid := [("unicode/utf8.acceptRanges", laid_unicode_utf8_acceptRanges), ("unicode/utf8.first", laid_unicode_utf8_first)] }
def FnExactFilterReadSaid : Prop := fnExactFilterReadRow.holds Tryd.pinned (OpenSpec.ofChange fnExactFilterReadSpec)

/-- ITS FALSE NEIGHBOUR: 'it returns false'. Refute it at one input. -/
def fnExactFilterReadWrong : ChangeSpec := { name := "fnExactFilterRead", fn := fun _ => fun
  | [d] => { results := [.lit (.bool false)], args := [d] }
  | _ => none }
def FnExactFilterReadWrongFalsely : Prop := fnExactFilterReadRow.holds Tryd.pinned (OpenSpec.ofChange fnExactFilterReadWrong)

/-- 'laws.FnNameStrict': WHATEVER THE INPUT: true; the input reads as it did. -/
def fnNameStrictSpec : ChangeSpec := { name := "fnNameStrict", fn := fun _ => fun
  | [d] => { results := [.lit (.bool true)], args := [d] }
  | _ => none }
def fnNameStrictRow : OpenClaim := { program := "ytchccgdjelhenaadoor", sum := "a239bb82980e0ef5f4b72455e843995645b102524bfa25c8f131b3f51f9321a5", func := "loop.example/chronicler/laws.FnNameStrict", spec := "fnNameStrict", inPlace := ["internal/bytealg.CountString", "internal/bytealg.IndexByteString", "internal/bytealg.IndexString", "internal/abi.NoEscape", "internal/bytealg.MakeNoZero"], named := ["unicode/utf8.first", "unicode/utf8.acceptRanges", "internal/bytealg.MaxLen"], apart := false, laid := [("unicode/utf8.acceptRanges", laid_unicode_utf8_acceptRanges), ("unicode/utf8.first", laid_unicode_utf8_first)] }
def FnNameStrictSaid : Prop := fnNameStrictRow.holds Tryd.pinned (OpenSpec.ofChange fnNameStrictSpec)

/-- ITS FALSE NEIGHBOUR: 'it returns false'. Refute it at one input. -/
def fnNameStrictWrong : ChangeSpec := { name := "fnNameStrict", fn := fun _ => fun
  | [d] => { results := [.lit (.bool false)], args := [d] }
  | _ => none }
def FnNameStrictWrongFalsely : Prop := fnNameStrictRow.holds Tryd.pinned (OpenSpec.ofChange fnNameStrictWrong)

/-- 'laws.FnFilterStrict': WHATEVER THE INPUT: true; the input reads as it did. -/
def fnFilterStrictSpec : ChangeSpec := { name := "fnFilterStrict", fn := fun _ => fun
  | [d] => { results := [.lit (.bool true)], args := [d] }
  | _ => none }
def fnFilterStrictRow : OpenClaim := { program := "ytchccgdjelhenaadoor", sum := "a239bb82980e0ef5f4b72455e843995645b102524bfa25c8f131b3f51f9321a5", func := "loop.example/chronicler/laws.FnFilterStrict", spec := "fnFilterStrict", inPlace := ["internal/bytealg.CountString", "internal/bytealg.IndexByteString", "internal/bytealg.IndexString", "internal/abi.NoEscape", "internal/bytealg.MakeNoZero"], named := ["unicode/utf8.first", "unicode/utf8.acceptRanges", "internal/bytealg.MaxLen"], apart := false, laid := [("unicode/utf8.acceptRanges", laid_unicode_utf8_acceptRanges), ("unicode/utf8.first", laid_unicode_utf8_first)] }
def FnFilterStrictSaid : Prop := fnFilterStrictRow.holds Tryd.pinned (OpenSpec.ofChange fnFilterStrictSpec)

/-- ITS FALSE NEIGHBOUR: 'it returns false'. Refute it at one input. -/
def fnFilterStrictWrong : ChangeSpec := { name := "fnFilterStrict", fn := fun _ => fun
  | [d] => { results := [.lit (.bool false)], args := [d] }
  | _ => none }
def FnFilterStrictWrongFalsely : Prop := fnFilterStrictRow.holds Tryd.pinned (OpenSpec.ofChange fnFilterStrictWrong)

/-- 'laws.FnNameOne': WHATEVER THE INPUT: true; the input reads as it did. -/
def fnNameOneSpec : ChangeSpec := { name := "fnNameOne", fn := fun _ => fun
  | [d1, d2] => { results := [.lit (.bool true)], args := [d1, d2] }
  | _ => none }
def fnNameOneRow : OpenClaim := { program := "ytchccgdjelhenaadoor", sum := "a239bb82980e0ef5f4b72455e843995645b102524bfa25c8f131b3f51f9321a5", func := "loop.example/chronicler/laws.FnNameOne", spec := "fnNameOne", inPlace := ["internal/abi.NoEscape", "internal/bytealg.MakeNoZero", "internal/bytealg.CountString", "internal/bytealg.IndexByteString", "internal/bytealg.IndexString"], named := ["unicode/utf8.first", "unicode/utf8.acceptRanges", "internal/bytealg.MaxLen"], apart := false, laid := [("unicode/utf8.acceptRanges", laid_unicode_utf8_acceptRanges), ("unicode/utf8.first", laid_unicode_utf8_first)] }
def FnNameOneSaid : Prop := fnNameOneRow.holds Tryd.pinned (OpenSpec.ofChange fnNameOneSpec)

/-- ITS FALSE NEIGHBOUR: 'it returns false'. Refute it at one input. -/
def fnNameOneWrong : ChangeSpec := { name := "fnNameOne", fn := fun _ => fun
  | [d1, d2] => { results := [.lit (.bool false)], args := [d1, d2] }
  | _ => none }
def FnNameOneWrongFalsely : Prop := fnNameOneRow.holds Tryd.pinned (OpenSpec.ofChange fnNameOneWrong)

/- THE SECOND FORM. 'bulk': how many values and letters a reading holds, each counted each time it is reached (what is shared counts as often as it is met; a slice's spare places count too). A statement '..UptoSaid' is the law's where the arguments, and the package variables that the reading takes, are together of bulk at most 1048576: NARROWER than '..Said'. Prove '..Said' where nothing that the law and all that it calls make is longer than what came in: it says more and counts as full. Else prove '..UptoSaid'. A law counts once. -/
mutual
def uptoBulk {H : Type} : DataW H → Nat
  | .lit (.string bytes) => bytes.length + 1
  | .lit _ => 1
  | .nil => 1
  | .ptr d => uptoBulk d + 1
  | .slice elems spare => uptoBulkAll elems + uptoBulkAll spare + 1
  | .agg parts => uptoBulkAll parts + 1
  | .iface _ d => uptoBulk d + 1
  | .map entries => uptoBulkEntries entries + 1
  | .held _ => 1
def uptoBulkAll {H : Type} : List (DataW H) → Nat
  | [] => 0
  | d :: r => uptoBulk d + uptoBulkAll r
def uptoBulkEntries {H : Type} : List (Lit × DataW H) → Nat
  | [] => 0
  | x :: r => uptoBulkEntry x + uptoBulkEntries r
def uptoBulkEntry {H : Type} : Lit × DataW H → Nat
  | (.string bytes, d) => bytes.length + uptoBulk d + 1
  | (_, d) => uptoBulk d + 1
 end
def uptoSmall : (H : Type) → List (DataW H) → Bool := fun _ ds => decide (uptoBulkAll ds ≤ 1048576)
def OpenSpec.upto (s : _root_.Go.ChangeSpec) : _root_.Go.OpenSpec := { _root_.Go.OpenSpec.ofChange s with cond := some uptoSmall }

/-- 'laws.FnExactNameRead', WHERE WHAT IT READS IS OF BULK AT MOST 1048576: true; the input reads as it did. -/
def fnExactNameReadUptoRow : OpenClaim := { program := "ytchccgdjelhenaadoor", sum := "a239bb82980e0ef5f4b72455e843995645b102524bfa25c8f131b3f51f9321a5", func := "loop.example/chronicler/laws.FnExactNameRead", spec := "fnExactNameRead", inPlace := ["internal/bytealg.CountString", "internal/bytealg.IndexByteString", "internal/bytealg.IndexString", "internal/abi.NoEscape", "internal/bytealg.MakeNoZero"], named := ["unicode/utf8.first", "unicode/utf8.acceptRanges", "internal/bytealg.MaxLen"], apart := false, laid := [("unicode/utf8.acceptRanges", laid_unicode_utf8_acceptRanges), ("unicode/utf8.first", laid_unicode_utf8_first)], narrowed := true }
def FnExactNameReadUptoSaid : Prop := fnExactNameReadUptoRow.holds Tryd.pinned (OpenSpec.upto fnExactNameReadSpec)

/-- 'laws.FnExactFilterRead', WHERE WHAT IT READS IS OF BULK AT MOST 1048576: true; the input reads as it did. -/
def fnExactFilterReadUptoRow : OpenClaim := { program := "ytchccgdjelhenaadoor", sum := "a239bb82980e0ef5f4b72455e843995645b102524bfa25c8f131b3f51f9321a5", func := "loop.example/chronicler/laws.FnExactFilterRead", spec := "fnExactFilterRead", inPlace := ["internal/bytealg.CountString", "internal/bytealg.IndexByteString", "internal/bytealg.IndexString", "internal/abi.NoEscape", "internal/bytealg.MakeNoZero"], named := ["unicode/utf8.first", "unicode/utf8.acceptRanges", "internal/bytealg.MaxLen"], apart := false, laid := [("unicode/utf8.acceptRanges", laid_unicode_utf8_acceptRanges), ("unicode/utf8.first", laid_unicode_utf8_first)], narrowed := true }
def FnExactFilterReadUptoSaid : Prop := fnExactFilterReadUptoRow.holds Tryd.pinned (OpenSpec.upto fnExactFilterReadSpec)

/-- 'laws.FnNameStrict', WHERE WHAT IT READS IS OF BULK AT MOST 1048576: true; the input reads as it did. -/
def fnNameStrictUptoRow : OpenClaim := { program := "ytchccgdjelhenaadoor", sum := "a239bb82980e0ef5f4b72455e843995645b102524bfa25c8f131b3f51f9321a5", func := "loop.example/chronicler/laws.FnNameStrict", spec := "fnNameStrict", inPlace := ["internal/bytealg.CountString", "internal/bytealg.IndexByteString", "internal/bytealg.IndexString", "internal/abi.NoEscape", "internal/bytealg.MakeNoZero"], named := ["unicode/utf8.first", "unicode/utf8.acceptRanges", "internal/bytealg.MaxLen"], apart := false, laid := [("unicode/utf8.acceptRanges", laid_unicode_utf8_acceptRanges), ("unicode/utf8.first", laid_unicode_utf8_first)], narrowed := true }
def FnNameStrictUptoSaid : Prop := fnNameStrictUptoRow.holds Tryd.pinned (OpenSpec.upto fnNameStrictSpec)

/-- 'laws.FnFilterStrict', WHERE WHAT IT READS IS OF BULK AT MOST 1048576: true; the input reads as it did. -/
def fnFilterStrictUptoRow : OpenClaim := { program := "ytchccgdjelhenaadoor", sum := "a239bb82980e0ef5f4b72455e843995645b102524bfa25c8f131b3f51f9321a5", func := "loop.example/chronicler/laws.FnFilterStrict", spec := "fnFilterStrict", inPlace := ["internal/bytealg.CountString", "internal/bytealg.IndexByteString", "internal/bytealg.IndexString", "internal/abi.NoEscape", "internal/bytealg.MakeNoZero"], named := ["unicode/utf8.first", "unicode/utf8.acceptRanges", "internal/bytealg.MaxLen"], apart := false, laid := [("unicode/utf8.acceptRanges", laid_unicode_utf8_acceptRanges), ("unicode/utf8.first", laid_unicode_utf8_first)], narrowed := true }
def FnFilterStrictUptoSaid : Prop := fnFilterStrictUptoRow.holds Tryd.pinned (OpenSpec.upto fnFilterStrictSpec)

/-- 'laws.FnNameOne', WHERE WHAT IT READS IS OF BULK AT MOST 1048576: true; the input reads as it did. -/
def fnNameOneUptoRow : OpenClaim := { program := "ytchccgdjelhenaadoor", sum := "a239bb82980e0ef5f4b72455e843995645b102524bfa25c8f131b3f51f9321a5", func := "loop.example/chronicler/laws.FnNameOne", spec := "fnNameOne", inPlace := ["internal/abi.NoEscape", "internal/bytealg.MakeNoZero", "internal/bytealg.CountString", "internal/bytealg.IndexByteString", "internal/bytealg.IndexString"], named := ["unicode/utf8.first", "unicode/utf8.acceptRanges", "internal/bytealg.MaxLen"], apart := false, laid := [("unicode/utf8.acceptRanges", laid_unicode_utf8_acceptRanges), ("unicode/utf8.first", laid_unicode_utf8_first)], narrowed := true }
def FnNameOneUptoSaid : Prop := fnNameOneUptoRow.holds Tryd.pinned (OpenSpec.upto fnNameOneSpec)

end Rows
end Go.Proofs.YtchccgdjelhenaaDoor
