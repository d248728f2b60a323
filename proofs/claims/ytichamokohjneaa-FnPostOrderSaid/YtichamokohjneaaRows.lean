/-
  No cell of these rows narrows 'for every input' (looked for: loops, veiled, ifaces, maps, wideKeys, modest, calm, conditions, laid).
  DERIVED. THE GIVEN ROWS OF THIS SEAT. 14 by the template 'for every input the law returns true; each argument reads behind the call as it read before'; 0 by the template 'total and deterministic' (their statements: YtichamokohjneaaTotals.lean).
  GIVEN WITH THE SEED: the statements are not yours to turn. If you find one false, say at which input.
  Laid BY PROGRAM, IN A SANDBOX (cutbox-rows.mjs): the forced cells as the released guide's own fill.sh prints them over the translation 1c00d2cd6d872d05… (all of the seat's roots in one cut). By AI agents, Wed Nov 11 2026. No macro, syntax, notation, axiom, sorry.
-/
import Derived.Test.YtichamokohjneaaChecked
import GoSem.Claim
import GoSem.ClaimJoined
import GoSem.ClaimMapViews
import Derived.JoinedTies
import Derived.KernelRfl
namespace Go.Proofs.Ytichamokohjneaa
/- THE CELL 'sum', in the pinned program and in every row, IS THE sha256 OF THE DUMP (.gsa) THAT YtichamokohjneaaProg.lean LOADS. Nothing in Lean hashes anything: it is a label: what it is worth is what the hold of that sum in a sandbox is worth. -/
noncomputable def Try.pinned : Pinned := { name := "ytichamokohjneaa", sum := "1c00d2cd6d872d0511165cb6800b8f0c8ff58268a5f1cf7cca14ba5b89b82790", checked := Try.checked }
namespace Rows
def none {H : Type} : Left H := { results := [], args := [] }

/-- 'laws.FnPostOrder': WHATEVER THE INPUT: true; the input reads as it did. -/
def fnPostOrderSpec : ChangeSpec := { name := "fnPostOrder", fn := fun _ => fun
  | [d] => { results := [.lit (.bool true)], args := [d] }
  | _ => none }
def fnPostOrderRow : OpenClaim := { program := "ytichamokohjneaa", sum := "1c00d2cd6d872d0511165cb6800b8f0c8ff58268a5f1cf7cca14ba5b89b82790", func := "loop.example/chronicler/laws.FnPostOrder", spec := "fnPostOrder", unfollowed := true, recurses := true, apart := false }
def FnPostOrderSaid : Prop := fnPostOrderRow.holds Try.pinned (OpenSpec.ofChange fnPostOrderSpec)

/-- ITS FALSE NEIGHBOUR: 'it returns false'. Refute it at one input. -/
def fnPostOrderWrong : ChangeSpec := { name := "fnPostOrder", fn := fun _ => fun
  | [d] => { results := [.lit (.bool false)], args := [d] }
  | _ => none }
def FnPostOrderWrongFalsely : Prop := fnPostOrderRow.holds Try.pinned (OpenSpec.ofChange fnPostOrderWrong)

/-- 'laws.FnIndexPosts': WHATEVER THE INPUT: true; the input reads as it did. -/
def fnIndexPostsSpec : ChangeSpec := { name := "fnIndexPosts", fn := fun _ => fun
  | [d] => { results := [.lit (.bool true)], args := [d] }
  | _ => none }
def fnIndexPostsRow : OpenClaim := { program := "ytichamokohjneaa", sum := "1c00d2cd6d872d0511165cb6800b8f0c8ff58268a5f1cf7cca14ba5b89b82790", func := "loop.example/chronicler/laws.FnIndexPosts", spec := "fnIndexPosts", unfollowed := true, recurses := true, apart := false }
def FnIndexPostsSaid : Prop := fnIndexPostsRow.holds Try.pinned (OpenSpec.ofChange fnIndexPostsSpec)

/-- ITS FALSE NEIGHBOUR: 'it returns false'. Refute it at one input. -/
def fnIndexPostsWrong : ChangeSpec := { name := "fnIndexPosts", fn := fun _ => fun
  | [d] => { results := [.lit (.bool false)], args := [d] }
  | _ => none }
def FnIndexPostsWrongFalsely : Prop := fnIndexPostsRow.holds Try.pinned (OpenSpec.ofChange fnIndexPostsWrong)

/-- 'laws.FnIndexNew': WHATEVER THE INPUT: true; the input reads as it did. -/
def fnIndexNewSpec : ChangeSpec := { name := "fnIndexNew", fn := fun _ => fun
  | [d] => { results := [.lit (.bool true)], args := [d] }
  | _ => none }
def fnIndexNewRow : OpenClaim := { program := "ytichamokohjneaa", sum := "1c00d2cd6d872d0511165cb6800b8f0c8ff58268a5f1cf7cca14ba5b89b82790", func := "loop.example/chronicler/laws.FnIndexNew", spec := "fnIndexNew", unfollowed := true, recurses := true, apart := false }
def FnIndexNewSaid : Prop := fnIndexNewRow.holds Try.pinned (OpenSpec.ofChange fnIndexNewSpec)

/-- ITS FALSE NEIGHBOUR: 'it returns false'. Refute it at one input. -/
def fnIndexNewWrong : ChangeSpec := { name := "fnIndexNew", fn := fun _ => fun
  | [d] => { results := [.lit (.bool false)], args := [d] }
  | _ => none }
def FnIndexNewWrongFalsely : Prop := fnIndexNewRow.holds Try.pinned (OpenSpec.ofChange fnIndexNewWrong)

/-- 'laws.FnAddTwice': WHATEVER THE INPUT: true; the input reads as it did. -/
def fnAddTwiceSpec : ChangeSpec := { name := "fnAddTwice", fn := fun _ => fun
  | [d] => { results := [.lit (.bool true)], args := [d] }
  | _ => none }
def fnAddTwiceRow : OpenClaim := { program := "ytichamokohjneaa", sum := "1c00d2cd6d872d0511165cb6800b8f0c8ff58268a5f1cf7cca14ba5b89b82790", func := "loop.example/chronicler/laws.FnAddTwice", spec := "fnAddTwice", unfollowed := true, recurses := true, apart := false }
def FnAddTwiceSaid : Prop := fnAddTwiceRow.holds Try.pinned (OpenSpec.ofChange fnAddTwiceSpec)

/-- ITS FALSE NEIGHBOUR: 'it returns false'. Refute it at one input. -/
def fnAddTwiceWrong : ChangeSpec := { name := "fnAddTwice", fn := fun _ => fun
  | [d] => { results := [.lit (.bool false)], args := [d] }
  | _ => none }
def FnAddTwiceWrongFalsely : Prop := fnAddTwiceRow.holds Try.pinned (OpenSpec.ofChange fnAddTwiceWrong)

/-- 'laws.FnIndexAdd': WHATEVER THE INPUT: true; the input reads as it did. -/
def fnIndexAddSpec : ChangeSpec := { name := "fnIndexAdd", fn := fun _ => fun
  | [d] => { results := [.lit (.bool true)], args := [d] }
  | _ => none }
def fnIndexAddRow : OpenClaim := { program := "ytichamokohjneaa", sum := "1c00d2cd6d872d0511165cb6800b8f0c8ff58268a5f1cf7cca14ba5b89b82790", func := "loop.example/chronicler/laws.FnIndexAdd", spec := "fnIndexAdd", unfollowed := true, recurses := true, apart := false }
def FnIndexAddSaid : Prop := fnIndexAddRow.holds Try.pinned (OpenSpec.ofChange fnIndexAddSpec)

/-- ITS FALSE NEIGHBOUR: 'it returns false'. Refute it at one input. -/
def fnIndexAddWrong : ChangeSpec := { name := "fnIndexAdd", fn := fun _ => fun
  | [d] => { results := [.lit (.bool false)], args := [d] }
  | _ => none }
def FnIndexAddWrongFalsely : Prop := fnIndexAddRow.holds Try.pinned (OpenSpec.ofChange fnIndexAddWrong)

/-- 'laws.FnExactIndexOk': WHATEVER THE INPUT: true; the input reads as it did. -/
def fnExactIndexOkSpec : ChangeSpec := { name := "fnExactIndexOk", fn := fun _ => fun
  | [d] => { results := [.lit (.bool true)], args := [d] }
  | _ => none }
def fnExactIndexOkRow : OpenClaim := { program := "ytichamokohjneaa", sum := "1c00d2cd6d872d0511165cb6800b8f0c8ff58268a5f1cf7cca14ba5b89b82790", func := "loop.example/chronicler/laws.FnExactIndexOk", spec := "fnExactIndexOk", unfollowed := true, recurses := true, apart := false }
def FnExactIndexOkSaid : Prop := fnExactIndexOkRow.holds Try.pinned (OpenSpec.ofChange fnExactIndexOkSpec)

/-- ITS FALSE NEIGHBOUR: 'it returns false'. Refute it at one input. -/
def fnExactIndexOkWrong : ChangeSpec := { name := "fnExactIndexOk", fn := fun _ => fun
  | [d] => { results := [.lit (.bool false)], args := [d] }
  | _ => none }
def FnExactIndexOkWrongFalsely : Prop := fnExactIndexOkRow.holds Try.pinned (OpenSpec.ofChange fnExactIndexOkWrong)

/-- 'laws.FnIndexFind': WHATEVER THE INPUT: true; the input reads as it did. -/
def fnIndexFindSpec : ChangeSpec := { name := "fnIndexFind", fn := fun _ => fun
  | [d] => { results := [.lit (.bool true)], args := [d] }
  | _ => none }
def fnIndexFindRow : OpenClaim := { program := "ytichamokohjneaa", sum := "1c00d2cd6d872d0511165cb6800b8f0c8ff58268a5f1cf7cca14ba5b89b82790", func := "loop.example/chronicler/laws.FnIndexFind", spec := "fnIndexFind", unfollowed := true, recurses := true, apart := false }
def FnIndexFindSaid : Prop := fnIndexFindRow.holds Try.pinned (OpenSpec.ofChange fnIndexFindSpec)

/-- ITS FALSE NEIGHBOUR: 'it returns false'. Refute it at one input. -/
def fnIndexFindWrong : ChangeSpec := { name := "fnIndexFind", fn := fun _ => fun
  | [d] => { results := [.lit (.bool false)], args := [d] }
  | _ => none }
def FnIndexFindWrongFalsely : Prop := fnIndexFindRow.holds Try.pinned (OpenSpec.ofChange fnIndexFindWrong)

/-- 'laws.FnFindNone': WHATEVER THE INPUT: true; the input reads as it did. -/
def fnFindNoneSpec : ChangeSpec := { name := "fnFindNone", fn := fun _ => fun
  | [d1, d2] => { results := [.lit (.bool true)], args := [d1, d2] }
  | _ => none }
def fnFindNoneRow : OpenClaim := { program := "ytichamokohjneaa", sum := "1c00d2cd6d872d0511165cb6800b8f0c8ff58268a5f1cf7cca14ba5b89b82790", func := "loop.example/chronicler/laws.FnFindNone", spec := "fnFindNone", unfollowed := true, recurses := true, apart := false }
def FnFindNoneSaid : Prop := fnFindNoneRow.holds Try.pinned (OpenSpec.ofChange fnFindNoneSpec)

/-- ITS FALSE NEIGHBOUR: 'it returns false'. Refute it at one input. -/
def fnFindNoneWrong : ChangeSpec := { name := "fnFindNone", fn := fun _ => fun
  | [d1, d2] => { results := [.lit (.bool false)], args := [d1, d2] }
  | _ => none }
def FnFindNoneWrongFalsely : Prop := fnFindNoneRow.holds Try.pinned (OpenSpec.ofChange fnFindNoneWrong)

/-- 'laws.FnAddFind': WHATEVER THE INPUT: true; the input reads as it did. -/
def fnAddFindSpec : ChangeSpec := { name := "fnAddFind", fn := fun _ => fun
  | [d1, d2] => { results := [.lit (.bool true)], args := [d1, d2] }
  | _ => none }
def fnAddFindRow : OpenClaim := { program := "ytichamokohjneaa", sum := "1c00d2cd6d872d0511165cb6800b8f0c8ff58268a5f1cf7cca14ba5b89b82790", func := "loop.example/chronicler/laws.FnAddFind", spec := "fnAddFind", unfollowed := true, recurses := true, apart := false }
def FnAddFindSaid : Prop := fnAddFindRow.holds Try.pinned (OpenSpec.ofChange fnAddFindSpec)

/-- ITS FALSE NEIGHBOUR: 'it returns false'. Refute it at one input. -/
def fnAddFindWrong : ChangeSpec := { name := "fnAddFind", fn := fun _ => fun
  | [d1, d2] => { results := [.lit (.bool false)], args := [d1, d2] }
  | _ => none }
def FnAddFindWrongFalsely : Prop := fnAddFindRow.holds Try.pinned (OpenSpec.ofChange fnAddFindWrong)

/-- 'laws.FnFindBoth': WHATEVER THE INPUT: true; the input reads as it did. -/
def fnFindBothSpec : ChangeSpec := { name := "fnFindBoth", fn := fun _ => fun
  | [d1, d2] => { results := [.lit (.bool true)], args := [d1, d2] }
  | _ => none }
def fnFindBothRow : OpenClaim := { program := "ytichamokohjneaa", sum := "1c00d2cd6d872d0511165cb6800b8f0c8ff58268a5f1cf7cca14ba5b89b82790", func := "loop.example/chronicler/laws.FnFindBoth", spec := "fnFindBoth", unfollowed := true, recurses := true, apart := false }
def FnFindBothSaid : Prop := fnFindBothRow.holds Try.pinned (OpenSpec.ofChange fnFindBothSpec)

/-- ITS FALSE NEIGHBOUR: 'it returns false'. Refute it at one input. -/
def fnFindBothWrong : ChangeSpec := { name := "fnFindBoth", fn := fun _ => fun
  | [d1, d2] => { results := [.lit (.bool false)], args := [d1, d2] }
  | _ => none }
def FnFindBothWrongFalsely : Prop := fnFindBothRow.holds Try.pinned (OpenSpec.ofChange fnFindBothWrong)

/-- 'laws.FnExactIndexPost': WHATEVER THE INPUT: true; the input reads as it did. -/
def fnExactIndexPostSpec : ChangeSpec := { name := "fnExactIndexPost", fn := fun _ => fun
  | [d1, d2] => { results := [.lit (.bool true)], args := [d1, d2] }
  | _ => none }
def fnExactIndexPostRow : OpenClaim := { program := "ytichamokohjneaa", sum := "1c00d2cd6d872d0511165cb6800b8f0c8ff58268a5f1cf7cca14ba5b89b82790", func := "loop.example/chronicler/laws.FnExactIndexPost", spec := "fnExactIndexPost", unfollowed := true, recurses := true, apart := false }
def FnExactIndexPostSaid : Prop := fnExactIndexPostRow.holds Try.pinned (OpenSpec.ofChange fnExactIndexPostSpec)

/-- ITS FALSE NEIGHBOUR: 'it returns false'. Refute it at one input. -/
def fnExactIndexPostWrong : ChangeSpec := { name := "fnExactIndexPost", fn := fun _ => fun
  | [d1, d2] => { results := [.lit (.bool false)], args := [d1, d2] }
  | _ => none }
def FnExactIndexPostWrongFalsely : Prop := fnExactIndexPostRow.holds Try.pinned (OpenSpec.ofChange fnExactIndexPostWrong)

/-- 'laws.FnExactIndexAdd': WHATEVER THE INPUT: true; the input reads as it did. -/
def fnExactIndexAddSpec : ChangeSpec := { name := "fnExactIndexAdd", fn := fun _ => fun
  | [d1, d2] => { results := [.lit (.bool true)], args := [d1, d2] }
  | _ => none }
def fnExactIndexAddRow : OpenClaim := { program := "ytichamokohjneaa", sum := "1c00d2cd6d872d0511165cb6800b8f0c8ff58268a5f1cf7cca14ba5b89b82790", func := "loop.example/chronicler/laws.FnExactIndexAdd", spec := "fnExactIndexAdd", unfollowed := true, recurses := true, apart := false }
def FnExactIndexAddSaid : Prop := fnExactIndexAddRow.holds Try.pinned (OpenSpec.ofChange fnExactIndexAddSpec)

/-- ITS FALSE NEIGHBOUR: 'it returns false'. Refute it at one input. -/
def fnExactIndexAddWrong : ChangeSpec := { name := "fnExactIndexAdd", fn := fun _ => fun
  | [d1, d2] => { results := [.lit (.bool false)], args := [d1, d2] }
  | _ => none }
def FnExactIndexAddWrongFalsely : Prop := fnExactIndexAddRow.holds Try.pinned (OpenSpec.ofChange fnExactIndexAddWrong)

/-- 'laws.FnExactWorldNew': WHATEVER THE INPUT: true; the input reads as it did. -/
def fnExactWorldNewSpec : ChangeSpec := { name := "fnExactWorldNew", fn := fun _ => fun
  | [] => { results := [.lit (.bool true)], args := [] }
  | _ => none }
def fnExactWorldNewRow : OpenClaim := { program := "ytichamokohjneaa", sum := "1c00d2cd6d872d0511165cb6800b8f0c8ff58268a5f1cf7cca14ba5b89b82790", func := "loop.example/chronicler/laws.FnExactWorldNew", spec := "fnExactWorldNew", unfollowed := true, recurses := true, apart := false }
def FnExactWorldNewSaid : Prop := fnExactWorldNewRow.holds Try.pinned (OpenSpec.ofChange fnExactWorldNewSpec)

/-- ITS FALSE NEIGHBOUR: 'it returns false'. Refute it at one input. -/
def fnExactWorldNewWrong : ChangeSpec := { name := "fnExactWorldNew", fn := fun _ => fun
  | [] => { results := [.lit (.bool false)], args := [] }
  | _ => none }
def FnExactWorldNewWrongFalsely : Prop := fnExactWorldNewRow.holds Try.pinned (OpenSpec.ofChange fnExactWorldNewWrong)

/-- 'laws.FnExactIndexFind': WHATEVER THE INPUT: true; the input reads as it did. -/
def fnExactIndexFindSpec : ChangeSpec := { name := "fnExactIndexFind", fn := fun _ => fun
  | [d1, d2] => { results := [.lit (.bool true)], args := [d1, d2] }
  | _ => none }
def fnExactIndexFindRow : OpenClaim := { program := "ytichamokohjneaa", sum := "1c00d2cd6d872d0511165cb6800b8f0c8ff58268a5f1cf7cca14ba5b89b82790", func := "loop.example/chronicler/laws.FnExactIndexFind", spec := "fnExactIndexFind", unfollowed := true, recurses := true, apart := false }
def FnExactIndexFindSaid : Prop := fnExactIndexFindRow.holds Try.pinned (OpenSpec.ofChange fnExactIndexFindSpec)

/-- ITS FALSE NEIGHBOUR: 'it returns false'. Refute it at one input. -/
def fnExactIndexFindWrong : ChangeSpec := { name := "fnExactIndexFind", fn := fun _ => fun
  | [d1, d2] => { results := [.lit (.bool false)], args := [d1, d2] }
  | _ => none }
def FnExactIndexFindWrongFalsely : Prop := fnExactIndexFindRow.holds Try.pinned (OpenSpec.ofChange fnExactIndexFindWrong)

/- THE SECOND FORM. 'bulk': how many values and letters a reading holds, each counted each time it is reached (what is shared counts as often as it is met; a slice's spare places count too). A statement '..UptoSaid' is the law's where the arguments, and the package variables that the reading takes, are together of bulk at most 1048576: NARROWER than '..Said'. Prove '..Said' where nothing that the law and all that it calls make is longer than what came in: it says more and counts as full. Else prove '..UptoSaid'. A law counts once. -/
mutual
def uptoBulk {H : Type} : DataW H → Nat
  | .lit (.string bytes) => bytes.length + 1
  | .lit _ => 1
  | .nil => 1
  | .ptr d => uptoBulk d + 1
  | .slice elems spare => uptoBulkAll elems + uptoBulkAll spare + 1
  | .agg parts => uptoBulkAll parts + 1
  | .iface _ d => uptoBulk d + 1
  | .map entries => uptoBulkEntries entries + 1
  | .held _ => 1
def uptoBulkAll {H : Type} : List (DataW H) → Nat
  | [] => 0
  | d :: r => uptoBulk d + uptoBulkAll r
def uptoBulkEntries {H : Type} : List (Lit × DataW H) → Nat
  | [] => 0
  | x :: r => uptoBulkEntry x + uptoBulkEntries r
def uptoBulkEntry {H : Type} : Lit × DataW H → Nat
  | (.string bytes, d) => bytes.length + uptoBulk d + 1
  | (_, d) => uptoBulk d + 1
 end
def uptoSmall : (H : Type) → List (DataW H) → Bool := fun _ ds => decide (uptoBulkAll ds ≤ 1048576)
def OpenSpec.upto (s : _root_.Go.ChangeSpec) : _root_.Go.OpenSpec := { _root_.Go.OpenSpec.ofChange s with cond := some uptoSmall }

/-- 'laws.FnPostOrder', WHERE WHAT IT READS IS OF BULK AT MOST 1048576: true; the input reads as it did. -/
def fnPostOrderUptoRow : OpenClaim := { program := "ytichamokohjneaa", sum := "1c00d2cd6d872d0511165cb6800b8f0c8ff58268a5f1cf7cca14ba5b89b82790", func := "loop.example/chronicler/laws.FnPostOrder", spec := "fnPostOrder", unfollowed := true, recurses := true, apart := false, narrowed := true }
def FnPostOrderUptoSaid : Prop := fnPostOrderUptoRow.holds Try.pinned (OpenSpec.upto fnPostOrderSpec)

/-- 'laws.FnIndexPosts', WHERE WHAT IT READS IS OF BULK AT MOST 1048576: true; the input reads as it did. -/
def fnIndexPostsUptoRow : OpenClaim := { program := "ytichamokohjneaa", sum := "1c00d2cd6d872d0511165cb6800b8f0c8ff58268a5f1cf7cca14ba5b89b82790", func := "loop.example/chronicler/laws.FnIndexPosts", spec := "fnIndexPosts", unfollowed := true, recurses := true, apart := false, narrowed := true }
def FnIndexPostsUptoSaid : Prop := fnIndexPostsUptoRow.holds Try.pinned (OpenSpec.upto fnIndexPostsSpec)

/-- 'laws.FnIndexNew', WHERE WHAT IT READS IS OF BULK AT MOST 1048576: true; the input reads as it did. -/
def fnIndexNewUptoRow : OpenClaim := { program := "ytichamokohjneaa", sum := "1c00d2cd6d872d0511165cb6800b8f0c8ff58268a5f1cf7cca14ba5b89b82790", func := "loop.example/chronicler/laws.FnIndexNew", spec := "fnIndexNew", unfollowed := true, recurses := true, apart := false, narrowed := true }
def FnIndexNewUptoSaid : Prop := fnIndexNewUptoRow.holds Try.pinned (OpenSpec.upto fnIndexNewSpec)

/-- 'laws.FnAddTwice', WHERE WHAT IT READS IS OF BULK AT MOST 1048576: true; the input reads as it did. -/
def fnAddTwiceUptoRow : OpenClaim := { program := "ytichamokohjneaa", sum := "1c00d2cd6d872d0511165cb6800b8f0c8ff58268a5f1cf7cca14ba5b89b82790", func := "loop.example/chronicler/laws.FnAddTwice", spec := "fnAddTwice", unfollowed := true, recurses := true, apart := false, narrowed := true }
def FnAddTwiceUptoSaid : Prop := fnAddTwiceUptoRow.holds Try.pinned (OpenSpec.upto fnAddTwiceSpec)

/-- 'laws.FnIndexAdd', WHERE WHAT IT READS IS OF BULK AT MOST 1048576: true; the input reads as it did. -/
def fnIndexAddUptoRow : OpenClaim := { program := "ytichamokohjneaa", sum := "1c00d2cd6d872d0511165cb6800b8f0c8ff58268a5f1cf7cca14ba5b89b82790", func := "loop.example/chronicler/laws.FnIndexAdd", spec := "fnIndexAdd", unfollowed := true, recurses := true, apart := false, narrowed := true }
def FnIndexAddUptoSaid : Prop := fnIndexAddUptoRow.holds Try.pinned (OpenSpec.upto fnIndexAddSpec)

/-- 'laws.FnExactIndexOk', WHERE WHAT IT READS IS OF BULK AT MOST 1048576: true; the input reads as it did. -/
def fnExactIndexOkUptoRow : OpenClaim := { program := "ytichamokohjneaa", sum := "1c00d2cd6d872d0511165cb6800b8f0c8ff58268a5f1cf7cca14ba5b89b82790", func := "loop.example/chronicler/laws.FnExactIndexOk", spec := "fnExactIndexOk", unfollowed := true, recurses := true, apart := false, narrowed := true }
def FnExactIndexOkUptoSaid : Prop := fnExactIndexOkUptoRow.holds Try.pinned (OpenSpec.upto fnExactIndexOkSpec)

/-- 'laws.FnIndexFind', WHERE WHAT IT READS IS OF BULK AT MOST 1048576: true; the input reads as it did. -/
def fnIndexFindUptoRow : OpenClaim := { program := "ytichamokohjneaa", sum := "1c00d2cd6d872d0511165cb6800b8f0c8ff58268a5f1cf7cca14ba5b89b82790", func := "loop.example/chronicler/laws.FnIndexFind", spec := "fnIndexFind", unfollowed := true, recurses := true, apart := false, narrowed := true }
def FnIndexFindUptoSaid : Prop := fnIndexFindUptoRow.holds Try.pinned (OpenSpec.upto fnIndexFindSpec)

/-- 'laws.FnFindNone', WHERE WHAT IT READS IS OF BULK AT MOST 1048576: true; the input reads as it did. -/
def fnFindNoneUptoRow : OpenClaim := { program := "ytichamokohjneaa", sum := "1c00d2cd6d872d0511165cb6800b8f0c8ff58268a5f1cf7cca14ba5b89b82790", func := "loop.example/chronicler/laws.FnFindNone", spec := "fnFindNone", unfollowed := true, recurses := true, apart := false, narrowed := true }
def FnFindNoneUptoSaid : Prop := fnFindNoneUptoRow.holds Try.pinned (OpenSpec.upto fnFindNoneSpec)

/-- 'laws.FnAddFind', WHERE WHAT IT READS IS OF BULK AT MOST 1048576: true; the input reads as it did. -/
def fnAddFindUptoRow : OpenClaim := { program := "ytichamokohjneaa", sum := "1c00d2cd6d872d0511165cb6800b8f0c8ff58268a5f1cf7cca14ba5b89b82790", func := "loop.example/chronicler/laws.FnAddFind", spec := "fnAddFind", unfollowed := true, recurses := true, apart := false, narrowed := true }
def FnAddFindUptoSaid : Prop := fnAddFindUptoRow.holds Try.pinned (OpenSpec.upto fnAddFindSpec)

/-- 'laws.FnFindBoth', WHERE WHAT IT READS IS OF BULK AT MOST 1048576: true; the input reads as it did. -/
def fnFindBothUptoRow : OpenClaim := { program := "ytichamokohjneaa", sum := "1c00d2cd6d872d0511165cb6800b8f0c8ff58268a5f1cf7cca14ba5b89b82790", func := "loop.example/chronicler/laws.FnFindBoth", spec := "fnFindBoth", unfollowed := true, recurses := true, apart := false, narrowed := true }
def FnFindBothUptoSaid : Prop := fnFindBothUptoRow.holds Try.pinned (OpenSpec.upto fnFindBothSpec)

/-- 'laws.FnExactIndexPost', WHERE WHAT IT READS IS OF BULK AT MOST 1048576: true; the input reads as it did. -/
def fnExactIndexPostUptoRow : OpenClaim := { program := "ytichamokohjneaa", sum := "1c00d2cd6d872d0511165cb6800b8f0c8ff58268a5f1cf7cca14ba5b89b82790", func := "loop.example/chronicler/laws.FnExactIndexPost", spec := "fnExactIndexPost", unfollowed := true, recurses := true, apart := false, narrowed := true }
def FnExactIndexPostUptoSaid : Prop := fnExactIndexPostUptoRow.holds Try.pinned (OpenSpec.upto fnExactIndexPostSpec)

/-- 'laws.FnExactIndexAdd', WHERE WHAT IT READS IS OF BULK AT MOST 1048576: true; the input reads as it did. -/
def fnExactIndexAddUptoRow : OpenClaim := { program := "ytichamokohjneaa", sum := "1c00d2cd6d872d0511165cb6800b8f0c8ff58268a5f1cf7cca14ba5b89b82790", func := "loop.example/chronicler/laws.FnExactIndexAdd", spec := "fnExactIndexAdd", unfollowed := true, recurses := true, apart := false, narrowed := true }
def FnExactIndexAddUptoSaid : Prop := fnExactIndexAddUptoRow.holds Try.pinned (OpenSpec.upto fnExactIndexAddSpec)

/-- 'laws.FnExactWorldNew', WHERE WHAT IT READS IS OF BULK AT MOST 1048576: true; the input reads as it did. -/
def fnExactWorldNewUptoRow : OpenClaim := { program := "ytichamokohjneaa", sum := "1c00d2cd6d872d0511165cb6800b8f0c8ff58268a5f1cf7cca14ba5b89b82790", func := "loop.example/chronicler/laws.FnExactWorldNew", spec := "fnExactWorldNew", unfollowed := true, recurses := true, apart := false, narrowed := true }
def FnExactWorldNewUptoSaid : Prop := fnExactWorldNewUptoRow.holds Try.pinned (OpenSpec.upto fnExactWorldNewSpec)

/-- 'laws.FnExactIndexFind', WHERE WHAT IT READS IS OF BULK AT MOST 1048576: true; the input reads as it did. -/
def fnExactIndexFindUptoRow : OpenClaim := { program := "ytichamokohjneaa", sum := "1c00d2cd6d872d0511165cb6800b8f0c8ff58268a5f1cf7cca14ba5b89b82790", func := "loop.example/chronicler/laws.FnExactIndexFind", spec := "fnExactIndexFind", unfollowed := true, recurses := true, apart := false, narrowed := true }
def FnExactIndexFindUptoSaid : Prop := fnExactIndexFindUptoRow.holds Try.pinned (OpenSpec.upto fnExactIndexFindSpec)

end Rows
end Go.Proofs.Ytichamokohjneaa
