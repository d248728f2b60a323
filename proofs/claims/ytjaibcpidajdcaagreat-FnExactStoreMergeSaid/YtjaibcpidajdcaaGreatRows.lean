/-
  No cell of these rows narrows 'for every input' (looked for: loops, veiled, ifaces, maps, wideKeys, modest, calm, conditions, laid).
  DERIVED. THE GIVEN ROWS OF THIS SEAT. 5 by the template 'for every input the law returns true; each argument reads behind the call as it read before'; 0 by the template 'total and deterministic' (their statements: YtjaibcpidajdcaaGreatTotals.lean).
  GIVEN WITH THE SEED: the statements are not yours to turn. If you find one false, say at which input.
  Laid BY PROGRAM, IN A SANDBOX (cutbox-rows.mjs): the forced cells as the released guide's own fill.sh prints them over the translation 83fe91ff100385f2… (all of the seat's roots in one cut). By AI agents, Wed Nov 11 2026. No macro, syntax, notation, axiom, sorry.
-/
import Derived.Test.YtjaibcpidajdcaaGreatChecked
import GoSem.Claim
import GoSem.ClaimJoined
import GoSem.ClaimMapViews
import Derived.JoinedTies
import Derived.KernelRfl
namespace Go.Proofs.YtjaibcpidajdcaaGreat
/- THE CELL 'sum', in the pinned program and in every row, IS THE sha256 OF THE DUMP (.gsa) THAT YtjaibcpidajdcaaGreatProg.lean LOADS. Nothing in Lean hashes anything: it is a label: what it is worth is what the hold of that sum in a sandbox is worth. -/
noncomputable def Tryz.pinned : Pinned := { name := "ytjaibcpidajdcaagreat", sum := "83fe91ff100385f2996b6b60f0b4079d8fdc415a15cf0f41d5525ec56a1fba70", checked := Tryz.checked }
namespace Rows
def none {H : Type} : Left H := { results := [], args := [] }

/-- 'laws.FnExactStoreOk': WHATEVER THE INPUT: true; the input reads as it did. -/
def fnExactStoreOkSpec : ChangeSpec := { name := "fnExactStoreOk", fn := fun _ => fun
  | [d] => { results := [.lit (.bool true)], args := [d] }
  | _ => none }
def fnExactStoreOkRow : OpenClaim := { program := "ytjaibcpidajdcaagreat", sum := "83fe91ff100385f2996b6b60f0b4079d8fdc415a15cf0f41d5525ec56a1fba70", func := "loop.example/chronicler/laws.FnExactStoreOk", spec := "fnExactStoreOk", inPlace := ["slices.overlaps[loop.example/chronicler/impl.Row]"], unfollowed := true, recurses := true, apart := false }
def FnExactStoreOkSaid : Prop := fnExactStoreOkRow.holds Tryz.pinned (OpenSpec.ofChange fnExactStoreOkSpec)

/-- ITS FALSE NEIGHBOUR: 'it returns false'. Refute it at one input. -/
def fnExactStoreOkWrong : ChangeSpec := { name := "fnExactStoreOk", fn := fun _ => fun
  | [d] => { results := [.lit (.bool false)], args := [d] }
  | _ => none }
def FnExactStoreOkWrongFalsely : Prop := fnExactStoreOkRow.holds Tryz.pinned (OpenSpec.ofChange fnExactStoreOkWrong)

/-- 'laws.FnExactStoreRows': WHATEVER THE INPUT: true; the input reads as it did. -/
def fnExactStoreRowsSpec : ChangeSpec := { name := "fnExactStoreRows", fn := fun _ => fun
  | [d1, d2] => { results := [.lit (.bool true)], args := [d1, d2] }
  | _ => none }
def fnExactStoreRowsRow : OpenClaim := { program := "ytjaibcpidajdcaagreat", sum := "83fe91ff100385f2996b6b60f0b4079d8fdc415a15cf0f41d5525ec56a1fba70", func := "loop.example/chronicler/laws.FnExactStoreRows", spec := "fnExactStoreRows", inPlace := ["slices.overlaps[loop.example/chronicler/impl.Row]"], unfollowed := true, recurses := true, apart := false }
def FnExactStoreRowsSaid : Prop := fnExactStoreRowsRow.holds Tryz.pinned (OpenSpec.ofChange fnExactStoreRowsSpec)

/-- ITS FALSE NEIGHBOUR: 'it returns false'. Refute it at one input. -/
def fnExactStoreRowsWrong : ChangeSpec := { name := "fnExactStoreRows", fn := fun _ => fun
  | [d1, d2] => { results := [.lit (.bool false)], args := [d1, d2] }
  | _ => none }
def FnExactStoreRowsWrongFalsely : Prop := fnExactStoreRowsRow.holds Tryz.pinned (OpenSpec.ofChange fnExactStoreRowsWrong)

/-- 'laws.FnExactStoreFlush': WHATEVER THE INPUT: true; the input reads as it did. -/
def fnExactStoreFlushSpec : ChangeSpec := { name := "fnExactStoreFlush", fn := fun _ => fun
  | [d] => { results := [.lit (.bool true)], args := [d] }
  | _ => none }
def fnExactStoreFlushRow : OpenClaim := { program := "ytjaibcpidajdcaagreat", sum := "83fe91ff100385f2996b6b60f0b4079d8fdc415a15cf0f41d5525ec56a1fba70", func := "loop.example/chronicler/laws.FnExactStoreFlush", spec := "fnExactStoreFlush", inPlace := ["slices.overlaps[loop.example/chronicler/impl.Row]"], unfollowed := true, recurses := true, apart := false }
def FnExactStoreFlushSaid : Prop := fnExactStoreFlushRow.holds Tryz.pinned (OpenSpec.ofChange fnExactStoreFlushSpec)

/-- ITS FALSE NEIGHBOUR: 'it returns false'. Refute it at one input. -/
def fnExactStoreFlushWrong : ChangeSpec := { name := "fnExactStoreFlush", fn := fun _ => fun
  | [d] => { results := [.lit (.bool false)], args := [d] }
  | _ => none }
def FnExactStoreFlushWrongFalsely : Prop := fnExactStoreFlushRow.holds Tryz.pinned (OpenSpec.ofChange fnExactStoreFlushWrong)

/-- 'laws.FnExactStoreAdd': WHATEVER THE INPUT: true; the input reads as it did. -/
def fnExactStoreAddSpec : ChangeSpec := { name := "fnExactStoreAdd", fn := fun _ => fun
  | [d1, d2, d3] => { results := [.lit (.bool true)], args := [d1, d2, d3] }
  | _ => none }
def fnExactStoreAddRow : OpenClaim := { program := "ytjaibcpidajdcaagreat", sum := "83fe91ff100385f2996b6b60f0b4079d8fdc415a15cf0f41d5525ec56a1fba70", func := "loop.example/chronicler/laws.FnExactStoreAdd", spec := "fnExactStoreAdd", inPlace := ["slices.overlaps[loop.example/chronicler/impl.Row]"], unfollowed := true, recurses := true, apart := false }
def FnExactStoreAddSaid : Prop := fnExactStoreAddRow.holds Tryz.pinned (OpenSpec.ofChange fnExactStoreAddSpec)

/-- ITS FALSE NEIGHBOUR: 'it returns false'. Refute it at one input. -/
def fnExactStoreAddWrong : ChangeSpec := { name := "fnExactStoreAdd", fn := fun _ => fun
  | [d1, d2, d3] => { results := [.lit (.bool false)], args := [d1, d2, d3] }
  | _ => none }
def FnExactStoreAddWrongFalsely : Prop := fnExactStoreAddRow.holds Tryz.pinned (OpenSpec.ofChange fnExactStoreAddWrong)

/-- 'laws.FnExactStoreMerge': WHATEVER THE INPUT: true; the input reads as it did. -/
def fnExactStoreMergeSpec : ChangeSpec := { name := "fnExactStoreMerge", fn := fun _ => fun
  | [d1, d2] => { results := [.lit (.bool true)], args := [d1, d2] }
  | _ => none }
def fnExactStoreMergeRow : OpenClaim := { program := "ytjaibcpidajdcaagreat", sum := "83fe91ff100385f2996b6b60f0b4079d8fdc415a15cf0f41d5525ec56a1fba70", func := "loop.example/chronicler/laws.FnExactStoreMerge", spec := "fnExactStoreMerge", inPlace := ["slices.overlaps[loop.example/chronicler/impl.Row]"], unfollowed := true, recurses := true, apart := false }
def FnExactStoreMergeSaid : Prop := fnExactStoreMergeRow.holds Tryz.pinned (OpenSpec.ofChange fnExactStoreMergeSpec)

/-- ITS FALSE NEIGHBOUR: 'it returns false'. Refute it at one input. -/
def fnExactStoreMergeWrong : ChangeSpec := { name := "fnExactStoreMerge", fn := fun _ => fun
  | [d1, d2] => { results := [.lit (.bool false)], args := [d1, d2] }
  | _ => none }
def FnExactStoreMergeWrongFalsely : Prop := fnExactStoreMergeRow.holds Tryz.pinned (OpenSpec.ofChange fnExactStoreMergeWrong)

/- THE SECOND FORM. 'bulk': how many values and letters a reading holds, each counted each time it is reached (what is shared counts as often as it is met; a slice's spare places count too). A statement '..UptoSaid' is the law's where the arguments, and the package variables that the reading takes, are together of bulk at most 1048576: NARROWER than '..Said'. Prove '..Said' where nothing that the law and all that it calls make is longer than what came in: it says more and counts as full. Else prove '..UptoSaid'. A law counts once. -/
mutual
def uptoBulk {H : Type} : DataW H → Nat
  | .lit (.string bytes) => bytes.length + 1
  | .lit _ => 1
  | .nil => 1
  | .ptr d => uptoBulk d + 1
  | .slice elems spare => uptoBulkAll elems + uptoBulkAll spare + 1
  | .agg parts => uptoBulkAll parts + 1
  | .iface _ d => uptoBulk d + 1
  | .map entries => uptoBulkEntries entries + 1
  | .held _ => 1
def uptoBulkAll {H : Type} : List (DataW H) → Nat
  | [] => 0
  | d :: r => uptoBulk d + uptoBulkAll r
def uptoBulkEntries {H : Type} : List (Lit × DataW H) → Nat
  | [] => 0
  | x :: r => uptoBulkEntry x + uptoBulkEntries r
def uptoBulkEntry {H : Type} : Lit × DataW H → Nat
  | (.string bytes, d) => bytes.length + uptoBulk d + 1
  | (_, d) => uptoBulk d + 1
 end
def uptoSmall : (H : Type) → List (DataW H) → Bool := fun _ ds => decide (uptoBulkAll ds ≤ 1048576)
def OpenSpec.upto (s : _root_.Go.ChangeSpec) : _root_.Go.OpenSpec := { _root_.Go.OpenSpec.ofChange s with cond := some uptoSmall }

/-- 'laws.FnExactStoreOk', WHERE WHAT IT READS IS OF BULK AT MOST 1048576: true; the input reads as it did. -/
def fnExactStoreOkUptoRow : OpenClaim := { program := "ytjaibcpidajdcaagreat", sum := "83fe91ff100385f2996b6b60f0b4079d8fdc415a15cf0f41d5525ec56a1fba70", func := "loop.example/chronicler/laws.FnExactStoreOk", spec := "fnExactStoreOk", inPlace := ["slices.overlaps[loop.example/chronicler/impl.Row]"], unfollowed := true, recurses := true, apart := false, narrowed := true }
def FnExactStoreOkUptoSaid : Prop := fnExactStoreOkUptoRow.holds Tryz.pinned (OpenSpec.upto fnExactStoreOkSpec)

/-- 'laws.FnExactStoreRows', WHERE WHAT IT READS IS OF BULK AT MOST 1048576: true; the input reads as it did. -/
def fnExactStoreRowsUptoRow : OpenClaim := { program := "ytjaibcpidajdcaagreat", sum := "83fe91ff100385f2996b6b60f0b4079d8fdc415a15cf0f41d5525ec56a1fba70", func := "loop.example/chronicler/laws.FnExactStoreRows", spec := "fnExactStoreRows", inPlace := ["slices.overlaps[loop.example/chronicler/impl.Row]"], unfollowed := true, recurses := true, apart := false, narrowed := true }
def FnExactStoreRowsUptoSaid : Prop := fnExactStoreRowsUptoRow.holds Tryz.pinned (OpenSpec.upto fnExactStoreRowsSpec)

/-- 'laws.FnExactStoreFlush', WHERE WHAT IT READS IS OF BULK AT MOST 1048576: true; the input reads as it did. -/
def fnExactStoreFlushUptoRow : OpenClaim := { program := "ytjaibcpidajdcaagreat", sum := "83fe91ff100385f2996b6b60f0b4079d8fdc415a15cf0f41d5525ec56a1fba70", func := "loop.example/chronicler/laws.FnExactStoreFlush", spec := "fnExactStoreFlush", inPlace := ["slices.overlaps[loop.example/chronicler/impl.Row]"], unfollowed := true, recurses := true, apart := false, narrowed := true }
def FnExactStoreFlushUptoSaid : Prop := fnExactStoreFlushUptoRow.holds Tryz.pinned (OpenSpec.upto fnExactStoreFlushSpec)

/-- 'laws.FnExactStoreAdd', WHERE WHAT IT READS IS OF BULK AT MOST 1048576: true; the input reads as it did. -/
def fnExactStoreAddUptoRow : OpenClaim := { program := "ytjaibcpidajdcaagreat", sum := "83fe91ff100385f2996b6b60f0b4079d8fdc415a15cf0f41d5525ec56a1fba70", func := "loop.example/chronicler/laws.FnExactStoreAdd", spec := "fnExactStoreAdd", inPlace := ["slices.overlaps[loop.example/chronicler/impl.Row]"], unfollowed := true, recurses := true, apart := false, narrowed := true }
def FnExactStoreAddUptoSaid : Prop := fnExactStoreAddUptoRow.holds Tryz.pinned (OpenSpec.upto fnExactStoreAddSpec)

/-- 'laws.FnExactStoreMerge', WHERE WHAT IT READS IS OF BULK AT MOST 1048576: true; the input reads as it did. -/
def fnExactStoreMergeUptoRow : OpenClaim := { program := "ytjaibcpidajdcaagreat", sum := "83fe91ff100385f2996b6b60f0b4079d8fdc415a15cf0f41d5525ec56a1fba70", func := "loop.example/chronicler/laws.FnExactStoreMerge", spec := "fnExactStoreMerge", inPlace := ["slices.overlaps[loop.example/chronicler/impl.Row]"], unfollowed := true, recurses := true, apart := false, narrowed := true }
def FnExactStoreMergeUptoSaid : Prop := fnExactStoreMergeUptoRow.holds Tryz.pinned (OpenSpec.upto fnExactStoreMergeSpec)

end Rows
end Go.Proofs.YtjaibcpidajdcaaGreat
