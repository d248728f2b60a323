/-
  No cell of these rows narrows 'for every input' (looked for: loops, veiled, ifaces, maps, wideKeys, modest, calm, conditions, laid).
  DERIVED. THE GIVEN ROWS OF THIS SEAT. 6 by the template 'for every input the law returns true; each argument reads behind the call as it read before'; 0 by the template 'total and deterministic' (their statements: YtonnpkdadcafcaaGreatTotals.lean).
  GIVEN WITH THE SEED: the statements are not yours to turn. If you find one false, say at which input.
  Laid BY PROGRAM, IN A SANDBOX (cutbox-rows.mjs): the forced cells as the released guide's own fill.sh prints them over the translation 07e69e3b00345eab… (all of the seat's roots in one cut). By AI agents, Wed Nov 11 2026. No macro, syntax, notation, axiom, sorry.
-/
import Derived.Test.YtonnpkdadcafcaaGreatChecked
import GoSem.Claim
import GoSem.ClaimJoined
import GoSem.ClaimMapViews
import Derived.JoinedTies
import Derived.KernelRfl
namespace Go.Proofs.YtonnpkdadcafcaaGreat
/- THE CELL 'sum', in the pinned program and in every row, IS THE sha256 OF THE DUMP (.gsa) THAT YtonnpkdadcafcaaGreatProg.lean LOADS. Nothing in Lean hashes anything: it is a label: what it is worth is what the hold of that sum in a sandbox is worth. -/
noncomputable def Tryz.pinned : Pinned := { name := "ytonnpkdadcafcaagreat", sum := "07e69e3b00345eab9f80fa8beb206e16c80622fa3f432dd772f337206bdf906a", checked := Tryz.checked }
namespace Rows
def none {H : Type} : Left H := { results := [], args := [] }

/-- 'laws.FnExactDiskOk': WHATEVER THE INPUT: true; the input reads as it did. -/
def fnExactDiskOkSpec : ChangeSpec := { name := "fnExactDiskOk", fn := fun _ => fun
  | [d] => { results := [.lit (.bool true)], args := [d] }
  | _ => none }
def fnExactDiskOkRow : OpenClaim := { program := "ytonnpkdadcafcaagreat", sum := "07e69e3b00345eab9f80fa8beb206e16c80622fa3f432dd772f337206bdf906a", func := "loop.example/chronicler/laws.FnExactDiskOk", spec := "fnExactDiskOk", inPlace := ["slices.overlaps[loop.example/chronicler/impl.Row]"], unfollowed := true, recurses := true, apart := false }
def FnExactDiskOkSaid : Prop := fnExactDiskOkRow.holds Tryz.pinned (OpenSpec.ofChange fnExactDiskOkSpec)

/-- ITS FALSE NEIGHBOUR: 'it returns false'. Refute it at one input. -/
def fnExactDiskOkWrong : ChangeSpec := { name := "fnExactDiskOk", fn := fun _ => fun
  | [d] => { results := [.lit (.bool false)], args := [d] }
  | _ => none }
def FnExactDiskOkWrongFalsely : Prop := fnExactDiskOkRow.holds Tryz.pinned (OpenSpec.ofChange fnExactDiskOkWrong)

/-- 'laws.FnExactDiskOpen': WHATEVER THE INPUT: true; the input reads as it did. -/
def fnExactDiskOpenSpec : ChangeSpec := { name := "fnExactDiskOpen", fn := fun _ => fun
  | [d] => { results := [.lit (.bool true)], args := [d] }
  | _ => none }
def fnExactDiskOpenRow : OpenClaim := { program := "ytonnpkdadcafcaagreat", sum := "07e69e3b00345eab9f80fa8beb206e16c80622fa3f432dd772f337206bdf906a", func := "loop.example/chronicler/laws.FnExactDiskOpen", spec := "fnExactDiskOpen", inPlace := ["slices.overlaps[loop.example/chronicler/impl.Row]"], unfollowed := true, recurses := true, apart := false }
def FnExactDiskOpenSaid : Prop := fnExactDiskOpenRow.holds Tryz.pinned (OpenSpec.ofChange fnExactDiskOpenSpec)

/-- ITS FALSE NEIGHBOUR: 'it returns false'. Refute it at one input. -/
def fnExactDiskOpenWrong : ChangeSpec := { name := "fnExactDiskOpen", fn := fun _ => fun
  | [d] => { results := [.lit (.bool false)], args := [d] }
  | _ => none }
def FnExactDiskOpenWrongFalsely : Prop := fnExactDiskOpenRow.holds Tryz.pinned (OpenSpec.ofChange fnExactDiskOpenWrong)

/-- 'laws.FnExactDiskTidy': WHATEVER THE INPUT: true; the input reads as it did. -/
def fnExactDiskTidySpec : ChangeSpec := { name := "fnExactDiskTidy", fn := fun _ => fun
  | [d] => { results := [.lit (.bool true)], args := [d] }
  | _ => none }
def fnExactDiskTidyRow : OpenClaim := { program := "ytonnpkdadcafcaagreat", sum := "07e69e3b00345eab9f80fa8beb206e16c80622fa3f432dd772f337206bdf906a", func := "loop.example/chronicler/laws.FnExactDiskTidy", spec := "fnExactDiskTidy", inPlace := ["slices.overlaps[loop.example/chronicler/impl.Row]"], unfollowed := true, recurses := true, apart := false }
def FnExactDiskTidySaid : Prop := fnExactDiskTidyRow.holds Tryz.pinned (OpenSpec.ofChange fnExactDiskTidySpec)

/-- ITS FALSE NEIGHBOUR: 'it returns false'. Refute it at one input. -/
def fnExactDiskTidyWrong : ChangeSpec := { name := "fnExactDiskTidy", fn := fun _ => fun
  | [d] => { results := [.lit (.bool false)], args := [d] }
  | _ => none }
def FnExactDiskTidyWrongFalsely : Prop := fnExactDiskTidyRow.holds Tryz.pinned (OpenSpec.ofChange fnExactDiskTidyWrong)

/-- 'laws.FnExactStepsFlush': WHATEVER THE INPUT: true; the input reads as it did. -/
def fnExactStepsFlushSpec : ChangeSpec := { name := "fnExactStepsFlush", fn := fun _ => fun
  | [d1, d2] => { results := [.lit (.bool true)], args := [d1, d2] }
  | _ => none }
def fnExactStepsFlushRow : OpenClaim := { program := "ytonnpkdadcafcaagreat", sum := "07e69e3b00345eab9f80fa8beb206e16c80622fa3f432dd772f337206bdf906a", func := "loop.example/chronicler/laws.FnExactStepsFlush", spec := "fnExactStepsFlush", inPlace := ["slices.overlaps[loop.example/chronicler/impl.Row]"], unfollowed := true, recurses := true, apart := false }
def FnExactStepsFlushSaid : Prop := fnExactStepsFlushRow.holds Tryz.pinned (OpenSpec.ofChange fnExactStepsFlushSpec)

/-- ITS FALSE NEIGHBOUR: 'it returns false'. Refute it at one input. -/
def fnExactStepsFlushWrong : ChangeSpec := { name := "fnExactStepsFlush", fn := fun _ => fun
  | [d1, d2] => { results := [.lit (.bool false)], args := [d1, d2] }
  | _ => none }
def FnExactStepsFlushWrongFalsely : Prop := fnExactStepsFlushRow.holds Tryz.pinned (OpenSpec.ofChange fnExactStepsFlushWrong)

/-- 'laws.FnExactStepsMerge': WHATEVER THE INPUT: true; the input reads as it did. -/
def fnExactStepsMergeSpec : ChangeSpec := { name := "fnExactStepsMerge", fn := fun _ => fun
  | [d1, d2] => { results := [.lit (.bool true)], args := [d1, d2] }
  | _ => none }
def fnExactStepsMergeRow : OpenClaim := { program := "ytonnpkdadcafcaagreat", sum := "07e69e3b00345eab9f80fa8beb206e16c80622fa3f432dd772f337206bdf906a", func := "loop.example/chronicler/laws.FnExactStepsMerge", spec := "fnExactStepsMerge", inPlace := ["slices.overlaps[loop.example/chronicler/impl.Row]"], unfollowed := true, recurses := true, apart := false }
def FnExactStepsMergeSaid : Prop := fnExactStepsMergeRow.holds Tryz.pinned (OpenSpec.ofChange fnExactStepsMergeSpec)

/-- ITS FALSE NEIGHBOUR: 'it returns false'. Refute it at one input. -/
def fnExactStepsMergeWrong : ChangeSpec := { name := "fnExactStepsMerge", fn := fun _ => fun
  | [d1, d2] => { results := [.lit (.bool false)], args := [d1, d2] }
  | _ => none }
def FnExactStepsMergeWrongFalsely : Prop := fnExactStepsMergeRow.holds Tryz.pinned (OpenSpec.ofChange fnExactStepsMergeWrong)

/-- 'laws.FnExactDiskTo': WHATEVER THE INPUT: true; the input reads as it did. -/
def fnExactDiskToSpec : ChangeSpec := { name := "fnExactDiskTo", fn := fun _ => fun
  | [d1, d2, d3] => { results := [.lit (.bool true)], args := [d1, d2, d3] }
  | _ => none }
def fnExactDiskToRow : OpenClaim := { program := "ytonnpkdadcafcaagreat", sum := "07e69e3b00345eab9f80fa8beb206e16c80622fa3f432dd772f337206bdf906a", func := "loop.example/chronicler/laws.FnExactDiskTo", spec := "fnExactDiskTo", inPlace := ["slices.overlaps[loop.example/chronicler/impl.Row]"], unfollowed := true, recurses := true, apart := false }
def FnExactDiskToSaid : Prop := fnExactDiskToRow.holds Tryz.pinned (OpenSpec.ofChange fnExactDiskToSpec)

/-- ITS FALSE NEIGHBOUR: 'it returns false'. Refute it at one input. -/
def fnExactDiskToWrong : ChangeSpec := { name := "fnExactDiskTo", fn := fun _ => fun
  | [d1, d2, d3] => { results := [.lit (.bool false)], args := [d1, d2, d3] }
  | _ => none }
def FnExactDiskToWrongFalsely : Prop := fnExactDiskToRow.holds Tryz.pinned (OpenSpec.ofChange fnExactDiskToWrong)

/- THE SECOND FORM. 'bulk': how many values and letters a reading holds, each counted each time it is reached (what is shared counts as often as it is met; a slice's spare places count too). A statement '..UptoSaid' is the law's where the arguments, and the package variables that the reading takes, are together of bulk at most 1048576: NARROWER than '..Said'. Prove '..Said' where nothing that the law and all that it calls make is longer than what came in: it says more and counts as full. Else prove '..UptoSaid'. A law counts once. -/
mutual
def uptoBulk {H : Type} : DataW H → Nat
  | .lit (.string bytes) => bytes.length + 1
  | .lit _ => 1
  | .nil => 1
  | .ptr d => uptoBulk d + 1
  | .slice elems spare => uptoBulkAll elems + uptoBulkAll spare + 1
  | .agg parts => uptoBulkAll parts + 1
  | .iface _ d => uptoBulk d + 1
  | .map entries => uptoBulkEntries entries + 1
  | .held _ => 1
def uptoBulkAll {H : Type} : List (DataW H) → Nat
  | [] => 0
  | d :: r => uptoBulk d + uptoBulkAll r
def uptoBulkEntries {H : Type} : List (Lit × DataW H) → Nat
  | [] => 0
  | x :: r => uptoBulkEntry x + uptoBulkEntries r
def uptoBulkEntry {H : Type} : Lit × DataW H → Nat
  | (.string bytes, d) => bytes.length + uptoBulk d + 1
  | (_, d) => uptoBulk d + 1
 end
def uptoSmall : (H : Type) → List (DataW H) → Bool := fun _ ds => decide (uptoBulkAll ds ≤ 1048576)
def OpenSpec.upto (s : _root_.Go.ChangeSpec) : _root_.Go.OpenSpec := { _root_.Go.OpenSpec.ofChange s with cond := some uptoSmall }

/-- 'laws.FnExactDiskOk', WHERE WHAT IT READS IS OF BULK AT MOST 1048576: true; the input reads as it did. -/
def fnExactDiskOkUptoRow : OpenClaim := { program := "ytonnpkdadcafcaagreat", sum := "07e69e3b00345eab9f80fa8beb206e16c80622fa3f432dd772f337206bdf906a", func := "loop.example/chronicler/laws.FnExactDiskOk", spec := "fnExactDiskOk", inPlace := ["slices.overlaps[loop.example/chronicler/impl.Row]"], unfollowed := true, recurses := true, apart := false, narrowed := true }
def FnExactDiskOkUptoSaid : Prop := fnExactDiskOkUptoRow.holds Tryz.pinned (OpenSpec.upto fnExactDiskOkSpec)

/-- 'laws.FnExactDiskOpen', WHERE WHAT IT READS IS OF BULK AT MOST 1048576: true; the input reads as it did. -/
def fnExactDiskOpenUptoRow : OpenClaim := { program := "ytonnpkdadcafcaagreat", sum := "07e69e3b00345eab9f80fa8beb206e16c80622fa3f432dd772f337206bdf906a", func := "loop.example/chronicler/laws.FnExactDiskOpen", spec := "fnExactDiskOpen", inPlace := ["slices.overlaps[loop.example/chronicler/impl.Row]"], unfollowed := true, recurses := true, apart := false, narrowed := true }
def FnExactDiskOpenUptoSaid : Prop := fnExactDiskOpenUptoRow.holds Tryz.pinned (OpenSpec.upto fnExactDiskOpenSpec)

/-- 'laws.FnExactDiskTidy', WHERE WHAT IT READS IS OF BULK AT MOST 1048576: true; the input reads as it did. -/
def fnExactDiskTidyUptoRow : OpenClaim := { program := "ytonnpkdadcafcaagreat", sum := "07e69e3b00345eab9f80fa8beb206e16c80622fa3f432dd772f337206bdf906a", func := "loop.example/chronicler/laws.FnExactDiskTidy", spec := "fnExactDiskTidy", inPlace := ["slices.overlaps[loop.example/chronicler/impl.Row]"], unfollowed := true, recurses := true, apart := false, narrowed := true }
def FnExactDiskTidyUptoSaid : Prop := fnExactDiskTidyUptoRow.holds Tryz.pinned (OpenSpec.upto fnExactDiskTidySpec)

/-- 'laws.FnExactStepsFlush', WHERE WHAT IT READS IS OF BULK AT MOST 1048576: true; the input reads as it did. -/
def fnExactStepsFlushUptoRow : OpenClaim := { program := "ytonnpkdadcafcaagreat", sum := "07e69e3b00345eab9f80fa8beb206e16c80622fa3f432dd772f337206bdf906a", func := "loop.example/chronicler/laws.FnExactStepsFlush", spec := "fnExactStepsFlush", inPlace := ["slices.overlaps[loop.example/chronicler/impl.Row]"], unfollowed := true, recurses := true, apart := false, narrowed := true }
def FnExactStepsFlushUptoSaid : Prop := fnExactStepsFlushUptoRow.holds Tryz.pinned (OpenSpec.upto fnExactStepsFlushSpec)

/-- 'laws.FnExactStepsMerge', WHERE WHAT IT READS IS OF BULK AT MOST 1048576: true; the input reads as it did. -/
def fnExactStepsMergeUptoRow : OpenClaim := { program := "ytonnpkdadcafcaagreat", sum := "07e69e3b00345eab9f80fa8beb206e16c80622fa3f432dd772f337206bdf906a", func := "loop.example/chronicler/laws.FnExactStepsMerge", spec := "fnExactStepsMerge", inPlace := ["slices.overlaps[loop.example/chronicler/impl.Row]"], unfollowed := true, recurses := true, apart := false, narrowed := true }
def FnExactStepsMergeUptoSaid : Prop := fnExactStepsMergeUptoRow.holds Tryz.pinned (OpenSpec.upto fnExactStepsMergeSpec)

/-- 'laws.FnExactDiskTo', WHERE WHAT IT READS IS OF BULK AT MOST 1048576: true; the input reads as it did. -/
def fnExactDiskToUptoRow : OpenClaim := { program := "ytonnpkdadcafcaagreat", sum := "07e69e3b00345eab9f80fa8beb206e16c80622fa3f432dd772f337206bdf906a", func := "loop.example/chronicler/laws.FnExactDiskTo", spec := "fnExactDiskTo", inPlace := ["slices.overlaps[loop.example/chronicler/impl.Row]"], unfollowed := true, recurses := true, apart := false, narrowed := true }
def FnExactDiskToUptoSaid : Prop := fnExactDiskToUptoRow.holds Tryz.pinned (OpenSpec.upto fnExactDiskToSpec)

end Rows
end Go.Proofs.YtonnpkdadcafcaaGreat
