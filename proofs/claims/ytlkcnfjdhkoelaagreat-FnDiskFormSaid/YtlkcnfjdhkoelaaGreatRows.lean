/-
  No cell of these rows narrows 'for every input' (looked for: loops, veiled, ifaces, maps, wideKeys, modest, calm, conditions, laid).
  DERIVED. THE GIVEN ROWS OF THIS SEAT. 5 by the template 'for every input the law returns true; each argument reads behind the call as it read before'; 0 by the template 'total and deterministic' (their statements: YtlkcnfjdhkoelaaGreatTotals.lean).
  GIVEN WITH THE SEED: the statements are not yours to turn. If you find one false, say at which input.
  Laid BY PROGRAM, IN A SANDBOX (cutbox-rows.mjs): the forced cells as the released guide's own fill.sh prints them over the translation c5c7621e2a9109e8… (all of the seat's roots in one cut). By AI agents, Wed Nov 11 2026. No macro, syntax, notation, axiom, sorry.
-/
import Derived.Test.YtlkcnfjdhkoelaaGreatChecked
import GoSem.Claim
import GoSem.ClaimJoined
import GoSem.ClaimMapViews
import Derived.JoinedTies
import Derived.KernelRfl
namespace Go.Proofs.YtlkcnfjdhkoelaaGreat
/- THE CELL 'sum', in the pinned program and in every row, IS THE sha256 OF THE DUMP (.gsa) THAT YtlkcnfjdhkoelaaGreatProg.lean LOADS. Nothing in Lean hashes anything: it is a label: what it is worth is what the hold of that sum in a sandbox is worth. -/
noncomputable def Tryz.pinned : Pinned := { name := "ytlkcnfjdhkoelaagreat", sum := "c5c7621e2a9109e85868c1c0ed44abffd0a6f624b81a48f935c9132a66efcf3f", checked := Tryz.checked }
namespace Rows
def none {H : Type} : Left H := { results := [], args := [] }

/-- 'laws.FnExactStoreAsk': WHATEVER THE INPUT: true; the input reads as it did. -/
def fnExactStoreAskSpec : ChangeSpec := { name := "fnExactStoreAsk", fn := fun _ => fun
  | [d1, d2, d3, d4] => { results := [.lit (.bool true)], args := [d1, d2, d3, d4] }
  | _ => none }
def fnExactStoreAskRow : OpenClaim := { program := "ytlkcnfjdhkoelaagreat", sum := "c5c7621e2a9109e85868c1c0ed44abffd0a6f624b81a48f935c9132a66efcf3f", func := "loop.example/chronicler/laws.FnExactStoreAsk", spec := "fnExactStoreAsk", inPlace := ["slices.overlaps[loop.example/chronicler/impl.Row]", "internal/abi.NoEscape", "internal/bytealg.MakeNoZero"], unfollowed := true, recurses := true, apart := false }
def FnExactStoreAskSaid : Prop := fnExactStoreAskRow.holds Tryz.pinned (OpenSpec.ofChange fnExactStoreAskSpec)

/-- ITS FALSE NEIGHBOUR: 'it returns false'. Refute it at one input. -/
def fnExactStoreAskWrong : ChangeSpec := { name := "fnExactStoreAsk", fn := fun _ => fun
  | [d1, d2, d3, d4] => { results := [.lit (.bool false)], args := [d1, d2, d3, d4] }
  | _ => none }
def FnExactStoreAskWrongFalsely : Prop := fnExactStoreAskRow.holds Tryz.pinned (OpenSpec.ofChange fnExactStoreAskWrong)

/-- 'laws.FnStoreForm': WHATEVER THE INPUT: true; the input reads as it did. -/
def fnStoreFormSpec : ChangeSpec := { name := "fnStoreForm", fn := fun _ => fun
  | [d] => { results := [.lit (.bool true)], args := [d] }
  | _ => none }
def fnStoreFormRow : OpenClaim := { program := "ytlkcnfjdhkoelaagreat", sum := "c5c7621e2a9109e85868c1c0ed44abffd0a6f624b81a48f935c9132a66efcf3f", func := "loop.example/chronicler/laws.FnStoreForm", spec := "fnStoreForm", inPlace := ["slices.overlaps[loop.example/chronicler/impl.Row]"], unfollowed := true, recurses := true, apart := false }
def FnStoreFormSaid : Prop := fnStoreFormRow.holds Tryz.pinned (OpenSpec.ofChange fnStoreFormSpec)

/-- ITS FALSE NEIGHBOUR: 'it returns false'. Refute it at one input. -/
def fnStoreFormWrong : ChangeSpec := { name := "fnStoreForm", fn := fun _ => fun
  | [d] => { results := [.lit (.bool false)], args := [d] }
  | _ => none }
def FnStoreFormWrongFalsely : Prop := fnStoreFormRow.holds Tryz.pinned (OpenSpec.ofChange fnStoreFormWrong)

/-- 'laws.FnStoreRows': WHATEVER THE INPUT: true; the input reads as it did. -/
def fnStoreRowsSpec : ChangeSpec := { name := "fnStoreRows", fn := fun _ => fun
  | [d] => { results := [.lit (.bool true)], args := [d] }
  | _ => none }
def fnStoreRowsRow : OpenClaim := { program := "ytlkcnfjdhkoelaagreat", sum := "c5c7621e2a9109e85868c1c0ed44abffd0a6f624b81a48f935c9132a66efcf3f", func := "loop.example/chronicler/laws.FnStoreRows", spec := "fnStoreRows", inPlace := ["slices.overlaps[loop.example/chronicler/impl.Row]"], unfollowed := true, recurses := true, apart := false }
def FnStoreRowsSaid : Prop := fnStoreRowsRow.holds Tryz.pinned (OpenSpec.ofChange fnStoreRowsSpec)

/-- ITS FALSE NEIGHBOUR: 'it returns false'. Refute it at one input. -/
def fnStoreRowsWrong : ChangeSpec := { name := "fnStoreRows", fn := fun _ => fun
  | [d] => { results := [.lit (.bool false)], args := [d] }
  | _ => none }
def FnStoreRowsWrongFalsely : Prop := fnStoreRowsRow.holds Tryz.pinned (OpenSpec.ofChange fnStoreRowsWrong)

/-- 'laws.FnDiskForm': WHATEVER THE INPUT: true; the input reads as it did. -/
def fnDiskFormSpec : ChangeSpec := { name := "fnDiskForm", fn := fun _ => fun
  | [d] => { results := [.lit (.bool true)], args := [d] }
  | _ => none }
def fnDiskFormRow : OpenClaim := { program := "ytlkcnfjdhkoelaagreat", sum := "c5c7621e2a9109e85868c1c0ed44abffd0a6f624b81a48f935c9132a66efcf3f", func := "loop.example/chronicler/laws.FnDiskForm", spec := "fnDiskForm", inPlace := ["slices.overlaps[loop.example/chronicler/impl.Row]"], unfollowed := true, recurses := true, apart := false }
def FnDiskFormSaid : Prop := fnDiskFormRow.holds Tryz.pinned (OpenSpec.ofChange fnDiskFormSpec)

/-- ITS FALSE NEIGHBOUR: 'it returns false'. Refute it at one input. -/
def fnDiskFormWrong : ChangeSpec := { name := "fnDiskForm", fn := fun _ => fun
  | [d] => { results := [.lit (.bool false)], args := [d] }
  | _ => none }
def FnDiskFormWrongFalsely : Prop := fnDiskFormRow.holds Tryz.pinned (OpenSpec.ofChange fnDiskFormWrong)

/-- 'laws.FnFlushPart': WHATEVER THE INPUT: true; the input reads as it did. -/
def fnFlushPartSpec : ChangeSpec := { name := "fnFlushPart", fn := fun _ => fun
  | [d] => { results := [.lit (.bool true)], args := [d] }
  | _ => none }
def fnFlushPartRow : OpenClaim := { program := "ytlkcnfjdhkoelaagreat", sum := "c5c7621e2a9109e85868c1c0ed44abffd0a6f624b81a48f935c9132a66efcf3f", func := "loop.example/chronicler/laws.FnFlushPart", spec := "fnFlushPart", inPlace := ["slices.overlaps[loop.example/chronicler/impl.Row]"], unfollowed := true, recurses := true, apart := false }
def FnFlushPartSaid : Prop := fnFlushPartRow.holds Tryz.pinned (OpenSpec.ofChange fnFlushPartSpec)

/-- ITS FALSE NEIGHBOUR: 'it returns false'. Refute it at one input. -/
def fnFlushPartWrong : ChangeSpec := { name := "fnFlushPart", fn := fun _ => fun
  | [d] => { results := [.lit (.bool false)], args := [d] }
  | _ => none }
def FnFlushPartWrongFalsely : Prop := fnFlushPartRow.holds Tryz.pinned (OpenSpec.ofChange fnFlushPartWrong)

/- THE SECOND FORM. 'bulk': how many values and letters a reading holds, each counted each time it is reached (what is shared counts as often as it is met; a slice's spare places count too). A statement '..UptoSaid' is the law's where the arguments, and the package variables that the reading takes, are together of bulk at most 1048576: NARROWER than '..Said'. Prove '..Said' where nothing that the law and all that it calls make is longer than what came in: it says more and counts as full. Else prove '..UptoSaid'. A law counts once. -/
mutual
def uptoBulk {H : Type} : DataW H → Nat
  | .lit (.string bytes) => bytes.length + 1
  | .lit _ => 1
  | .nil => 1
  | .ptr d => uptoBulk d + 1
  | .slice elems spare => uptoBulkAll elems + uptoBulkAll spare + 1
  | .agg parts => uptoBulkAll parts + 1
  | .iface _ d => uptoBulk d + 1
  | .map entries => uptoBulkEntries entries + 1
  | .held _ => 1
def uptoBulkAll {H : Type} : List (DataW H) → Nat
  | [] => 0
  | d :: r => uptoBulk d + uptoBulkAll r
def uptoBulkEntries {H : Type} : List (Lit × DataW H) → Nat
  | [] => 0
  | x :: r => uptoBulkEntry x + uptoBulkEntries r
def uptoBulkEntry {H : Type} : Lit × DataW H → Nat
  | (.string bytes, d) => bytes.length + uptoBulk d + 1
  | (_, d) => uptoBulk d + 1
 end
def uptoSmall : (H : Type) → List (DataW H) → Bool := fun _ ds => decide (uptoBulkAll ds ≤ 1048576)
def OpenSpec.upto (s : _root_.Go.ChangeSpec) : _root_.Go.OpenSpec := { _root_.Go.OpenSpec.ofChange s with cond := some uptoSmall }

/-- 'laws.FnExactStoreAsk', WHERE WHAT IT READS IS OF BULK AT MOST 1048576: true; the input reads as it did. -/
def fnExactStoreAskUptoRow : OpenClaim := { program := "ytlkcnfjdhkoelaagreat", sum := "c5c7621e2a9109e85868c1c0ed44abffd0a6f624b81a48f935c9132a66efcf3f", func := "loop.example/chronicler/laws.FnExactStoreAsk", spec := "fnExactStoreAsk", inPlace := ["slices.overlaps[loop.example/chronicler/impl.Row]", "internal/abi.NoEscape", "internal/bytealg.MakeNoZero"], unfollowed := true, recurses := true, apart := false, narrowed := true }
def FnExactStoreAskUptoSaid : Prop := fnExactStoreAskUptoRow.holds Tryz.pinned (OpenSpec.upto fnExactStoreAskSpec)

/-- 'laws.FnStoreForm', WHERE WHAT IT READS IS OF BULK AT MOST 1048576: true; the input reads as it did. -/
def fnStoreFormUptoRow : OpenClaim := { program := "ytlkcnfjdhkoelaagreat", sum := "c5c7621e2a9109e85868c1c0ed44abffd0a6f624b81a48f935c9132a66efcf3f", func := "loop.example/chronicler/laws.FnStoreForm", spec := "fnStoreForm", inPlace := ["slices.overlaps[loop.example/chronicler/impl.Row]"], unfollowed := true, recurses := true, apart := false, narrowed := true }
def FnStoreFormUptoSaid : Prop := fnStoreFormUptoRow.holds Tryz.pinned (OpenSpec.upto fnStoreFormSpec)

/-- 'laws.FnStoreRows', WHERE WHAT IT READS IS OF BULK AT MOST 1048576: true; the input reads as it did. -/
def fnStoreRowsUptoRow : OpenClaim := { program := "ytlkcnfjdhkoelaagreat", sum := "c5c7621e2a9109e85868c1c0ed44abffd0a6f624b81a48f935c9132a66efcf3f", func := "loop.example/chronicler/laws.FnStoreRows", spec := "fnStoreRows", inPlace := ["slices.overlaps[loop.example/chronicler/impl.Row]"], unfollowed := true, recurses := true, apart := false, narrowed := true }
def FnStoreRowsUptoSaid : Prop := fnStoreRowsUptoRow.holds Tryz.pinned (OpenSpec.upto fnStoreRowsSpec)

/-- 'laws.FnDiskForm', WHERE WHAT IT READS IS OF BULK AT MOST 1048576: true; the input reads as it did. -/
def fnDiskFormUptoRow : OpenClaim := { program := "ytlkcnfjdhkoelaagreat", sum := "c5c7621e2a9109e85868c1c0ed44abffd0a6f624b81a48f935c9132a66efcf3f", func := "loop.example/chronicler/laws.FnDiskForm", spec := "fnDiskForm", inPlace := ["slices.overlaps[loop.example/chronicler/impl.Row]"], unfollowed := true, recurses := true, apart := false, narrowed := true }
def FnDiskFormUptoSaid : Prop := fnDiskFormUptoRow.holds Tryz.pinned (OpenSpec.upto fnDiskFormSpec)

/-- 'laws.FnFlushPart', WHERE WHAT IT READS IS OF BULK AT MOST 1048576: true; the input reads as it did. -/
def fnFlushPartUptoRow : OpenClaim := { program := "ytlkcnfjdhkoelaagreat", sum := "c5c7621e2a9109e85868c1c0ed44abffd0a6f624b81a48f935c9132a66efcf3f", func := "loop.example/chronicler/laws.FnFlushPart", spec := "fnFlushPart", inPlace := ["slices.overlaps[loop.example/chronicler/impl.Row]"], unfollowed := true, recurses := true, apart := false, narrowed := true }
def FnFlushPartUptoSaid : Prop := fnFlushPartUptoRow.holds Tryz.pinned (OpenSpec.upto fnFlushPartSpec)

end Rows
end Go.Proofs.YtlkcnfjdhkoelaaGreat
