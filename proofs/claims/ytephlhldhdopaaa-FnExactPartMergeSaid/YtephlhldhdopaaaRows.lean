/-
  No cell of these rows narrows 'for every input' (looked for: loops, veiled, ifaces, maps, wideKeys, modest, calm, conditions, laid).
  DERIVED. THE GIVEN ROWS OF THIS SEAT. 6 by the template 'for every input the law returns true; each argument reads behind the call as it read before'; 0 by the template 'total and deterministic' (their statements: YtephlhldhdopaaaTotals.lean).
  GIVEN WITH THE SEED: the statements are not yours to turn. If you find one false, say at which input.
  Laid BY PROGRAM, IN A SANDBOX (cutbox-rows.mjs): the forced cells as the released guide's own fill.sh prints them over the translation 300ff48e4faf87eb… (all of the seat's roots in one cut). By AI agents, Wed Nov 11 2026. No macro, syntax, notation, axiom, sorry.
-/
import Derived.Test.YtephlhldhdopaaaChecked
import GoSem.Claim
import GoSem.ClaimJoined
import GoSem.ClaimMapViews
import Derived.JoinedTies
import Derived.KernelRfl
namespace Go.Proofs.Ytephlhldhdopaaa
/- THE CELL 'sum', in the pinned program and in every row, IS THE sha256 OF THE DUMP (.gsa) THAT YtephlhldhdopaaaProg.lean LOADS. Nothing in Lean hashes anything: it is a label: what it is worth is what the hold of that sum in a sandbox is worth. -/
noncomputable def Try.pinned : Pinned := { name := "ytephlhldhdopaaa", sum := "300ff48e4faf87eb8ef32d33c1e75efd38467d80f4231290f7c0283ebcfc6496", checked := Try.checked }
namespace Rows
def none {H : Type} : Left H := { results := [], args := [] }

/-- 'laws.FnPartRows': WHATEVER THE INPUT: true; the input reads as it did. -/
def fnPartRowsSpec : ChangeSpec := { name := "fnPartRows", fn := fun _ => fun
  | [d1, d2] => { results := [.lit (.bool true)], args := [d1, d2] }
  | _ => none }
def fnPartRowsRow : OpenClaim := { program := "ytephlhldhdopaaa", sum := "300ff48e4faf87eb8ef32d33c1e75efd38467d80f4231290f7c0283ebcfc6496", func := "loop.example/chronicler/laws.FnPartRows", spec := "fnPartRows", inPlace := ["slices.overlaps[loop.example/chronicler/impl.Row]"], apart := false }
def FnPartRowsSaid : Prop := fnPartRowsRow.holds Try.pinned (OpenSpec.ofChange fnPartRowsSpec)

/-- ITS FALSE NEIGHBOUR: 'it returns false'. Refute it at one input. -/
def fnPartRowsWrong : ChangeSpec := { name := "fnPartRows", fn := fun _ => fun
  | [d1, d2] => { results := [.lit (.bool false)], args := [d1, d2] }
  | _ => none }
def FnPartRowsWrongFalsely : Prop := fnPartRowsRow.holds Try.pinned (OpenSpec.ofChange fnPartRowsWrong)

/-- 'laws.FnPartMerge': WHATEVER THE INPUT: true; the input reads as it did. -/
def fnPartMergeSpec : ChangeSpec := { name := "fnPartMerge", fn := fun _ => fun
  | [d] => { results := [.lit (.bool true)], args := [d] }
  | _ => none }
def fnPartMergeRow : OpenClaim := { program := "ytephlhldhdopaaa", sum := "300ff48e4faf87eb8ef32d33c1e75efd38467d80f4231290f7c0283ebcfc6496", func := "loop.example/chronicler/laws.FnPartMerge", spec := "fnPartMerge", inPlace := ["slices.overlaps[loop.example/chronicler/impl.Row]"], apart := false }
def FnPartMergeSaid : Prop := fnPartMergeRow.holds Try.pinned (OpenSpec.ofChange fnPartMergeSpec)

/-- ITS FALSE NEIGHBOUR: 'it returns false'. Refute it at one input. -/
def fnPartMergeWrong : ChangeSpec := { name := "fnPartMerge", fn := fun _ => fun
  | [d] => { results := [.lit (.bool false)], args := [d] }
  | _ => none }
def FnPartMergeWrongFalsely : Prop := fnPartMergeRow.holds Try.pinned (OpenSpec.ofChange fnPartMergeWrong)

/-- 'laws.FnPartThree': WHATEVER THE INPUT: true; the input reads as it did. -/
def fnPartThreeSpec : ChangeSpec := { name := "fnPartThree", fn := fun _ => fun
  | [d1, d2] => { results := [.lit (.bool true)], args := [d1, d2] }
  | _ => none }
def fnPartThreeRow : OpenClaim := { program := "ytephlhldhdopaaa", sum := "300ff48e4faf87eb8ef32d33c1e75efd38467d80f4231290f7c0283ebcfc6496", func := "loop.example/chronicler/laws.FnPartThree", spec := "fnPartThree", inPlace := ["slices.overlaps[loop.example/chronicler/impl.Row]"], apart := false }
def FnPartThreeSaid : Prop := fnPartThreeRow.holds Try.pinned (OpenSpec.ofChange fnPartThreeSpec)

/-- ITS FALSE NEIGHBOUR: 'it returns false'. Refute it at one input. -/
def fnPartThreeWrong : ChangeSpec := { name := "fnPartThree", fn := fun _ => fun
  | [d1, d2] => { results := [.lit (.bool false)], args := [d1, d2] }
  | _ => none }
def FnPartThreeWrongFalsely : Prop := fnPartThreeRow.holds Try.pinned (OpenSpec.ofChange fnPartThreeWrong)

/-- 'laws.FnPartIds': WHATEVER THE INPUT: true; the input reads as it did. -/
def fnPartIdsSpec : ChangeSpec := { name := "fnPartIds", fn := fun _ => fun
  | [d] => { results := [.lit (.bool true)], args := [d] }
  | _ => none }
def fnPartIdsRow : OpenClaim := { program := "ytephlhldhdopaaa", sum := "300ff48e4faf87eb8ef32d33c1e75efd38467d80f4231290f7c0283ebcfc6496", func := "loop.example/chronicler/laws.FnPartIds", spec := "fnPartIds", inPlace := ["slices.overlaps[loop.example/chronicler/impl.Row]"], apart := false }
def FnPartIdsSaid : Prop := fnPartIdsRow.holds Try.pinned (OpenSpec.ofChange fnPartIdsSpec)

/-- ITS FALSE NEIGHBOUR: 'it returns false'. Refute it at one input. -/
def fnPartIdsWrong : ChangeSpec := { name := "fnPartIds", fn := fun _ => fun
  | [d] => { results := [.lit (.bool false)], args := [d] }
  | _ => none }
def FnPartIdsWrongFalsely : Prop := fnPartIdsRow.holds Try.pinned (OpenSpec.ofChange fnPartIdsWrong)

/-- 'laws.FnPartNewer': WHATEVER THE INPUT: true; the input reads as it did. -/
def fnPartNewerSpec : ChangeSpec := { name := "fnPartNewer", fn := fun _ => fun
  | [d] => { results := [.lit (.bool true)], args := [d] }
  | _ => none }
def fnPartNewerRow : OpenClaim := { program := "ytephlhldhdopaaa", sum := "300ff48e4faf87eb8ef32d33c1e75efd38467d80f4231290f7c0283ebcfc6496", func := "loop.example/chronicler/laws.FnPartNewer", spec := "fnPartNewer", inPlace := ["slices.overlaps[loop.example/chronicler/impl.Row]"], apart := false }
def FnPartNewerSaid : Prop := fnPartNewerRow.holds Try.pinned (OpenSpec.ofChange fnPartNewerSpec)

/-- ITS FALSE NEIGHBOUR: 'it returns false'. Refute it at one input. -/
def fnPartNewerWrong : ChangeSpec := { name := "fnPartNewer", fn := fun _ => fun
  | [d] => { results := [.lit (.bool false)], args := [d] }
  | _ => none }
def FnPartNewerWrongFalsely : Prop := fnPartNewerRow.holds Try.pinned (OpenSpec.ofChange fnPartNewerWrong)

/-- 'laws.FnExactPartMerge': WHATEVER THE INPUT: true; the input reads as it did. -/
def fnExactPartMergeSpec : ChangeSpec := { name := "fnExactPartMerge", fn := fun _ => fun
  | [d1, d2] => { results := [.lit (.bool true)], args := [d1, d2] }
  | _ => none }
def fnExactPartMergeRow : OpenClaim := { program := "ytephlhldhdopaaa", sum := "300ff48e4faf87eb8ef32d33c1e75efd38467d80f4231290f7c0283ebcfc6496", func := "loop.example/chronicler/laws.FnExactPartMerge", spec := "fnExactPartMerge", inPlace := ["slices.overlaps[loop.example/chronicler/impl.Row]"], apart := false }
def FnExactPartMergeSaid : Prop := fnExactPartMergeRow.holds Try.pinned (OpenSpec.ofChange fnExactPartMergeSpec)

/-- ITS FALSE NEIGHBOUR: 'it returns false'. Refute it at one input. -/
def fnExactPartMergeWrong : ChangeSpec := { name := "fnExactPartMerge", fn := fun _ => fun
  | [d1, d2] => { results := [.lit (.bool false)], args := [d1, d2] }
  | _ => none }
def FnExactPartMergeWrongFalsely : Prop := fnExactPartMergeRow.holds Try.pinned (OpenSpec.ofChange fnExactPartMergeWrong)

/- THE SECOND FORM. 'bulk': how many values and letters a reading holds, each counted each time it is reached (what is shared counts as often as it is met; a slice's spare places count too). A statement '..UptoSaid' is the law's where the arguments, and the package variables that the reading takes, are together of bulk at most 1048576: NARROWER than '..Said'. Prove '..Said' where nothing that the law and all that it calls make is longer than what came in: it says more and counts as full. Else prove '..UptoSaid'. A law counts once. -/
mutual
def uptoBulk {H : Type} : DataW H → Nat
  | .lit (.string bytes) => bytes.length + 1
  | .lit _ => 1
  | .nil => 1
  | .ptr d => uptoBulk d + 1
  | .slice elems spare => uptoBulkAll elems + uptoBulkAll spare + 1
  | .agg parts => uptoBulkAll parts + 1
  | .iface _ d => uptoBulk d + 1
  | .map entries => uptoBulkEntries entries + 1
  | .held _ => 1
def uptoBulkAll {H : Type} : List (DataW H) → Nat
  | [] => 0
  | d :: r => uptoBulk d + uptoBulkAll r
def uptoBulkEntries {H : Type} : List (Lit × DataW H) → Nat
  | [] => 0
  | x :: r => uptoBulkEntry x + uptoBulkEntries r
def uptoBulkEntry {H : Type} : Lit × DataW H → Nat
  | (.string bytes, d) => bytes.length + uptoBulk d + 1
  | (_, d) => uptoBulk d + 1
 end
def uptoSmall : (H : Type) → List (DataW H) → Bool := fun _ ds => decide (uptoBulkAll ds ≤ 1048576)
def OpenSpec.upto (s : _root_.Go.ChangeSpec) : _root_.Go.OpenSpec := { _root_.Go.OpenSpec.ofChange s with cond := some uptoSmall }

/-- 'laws.FnPartRows', WHERE WHAT IT READS IS OF BULK AT MOST 1048576: true; the input reads as it did. -/
def fnPartRowsUptoRow : OpenClaim := { program := "ytephlhldhdopaaa", sum := "300ff48e4faf87eb8ef32d33c1e75efd38467d80f4231290f7c0283ebcfc6496", func := "loop.example/chronicler/laws.FnPartRows", spec := "fnPartRows", inPlace := ["slices.overlaps[loop.example/chronicler/impl.Row]"], apart := false, narrowed := true }
def FnPartRowsUptoSaid : Prop := fnPartRowsUptoRow.holds Try.pinned (OpenSpec.upto fnPartRowsSpec)

/-- 'laws.FnPartMerge', WHERE WHAT IT READS IS OF BULK AT MOST 1048576: true; the input reads as it did. -/
def fnPartMergeUptoRow : OpenClaim := { program := "ytephlhldhdopaaa", sum := "300ff48e4faf87eb8ef32d33c1e75efd38467d80f4231290f7c0283ebcfc6496", func := "loop.example/chronicler/laws.FnPartMerge", spec := "fnPartMerge", inPlace := ["slices.overlaps[loop.example/chronicler/impl.Row]"], apart := false, narrowed := true }
def FnPartMergeUptoSaid : Prop := fnPartMergeUptoRow.holds Try.pinned (OpenSpec.upto fnPartMergeSpec)

/-- 'laws.FnPartThree', WHERE WHAT IT READS IS OF BULK AT MOST 1048576: true; the input reads as it did. -/
def fnPartThreeUptoRow : OpenClaim := { program := "ytephlhldhdopaaa", sum := "300ff48e4faf87eb8ef32d33c1e75efd38467d80f4231290f7c0283ebcfc6496", func := "loop.example/chronicler/laws.FnPartThree", spec := "fnPartThree", inPlace := ["slices.overlaps[loop.example/chronicler/impl.Row]"], apart := false, narrowed := true }
def FnPartThreeUptoSaid : Prop := fnPartThreeUptoRow.holds Try.pinned (OpenSpec.upto fnPartThreeSpec)

/-- 'laws.FnPartIds', WHERE WHAT IT READS IS OF BULK AT MOST 1048576: true; the input reads as it did. -/
def fnPartIdsUptoRow : OpenClaim := { program := "ytephlhldhdopaaa", sum := "300ff48e4faf87eb8ef32d33c1e75efd38467d80f4231290f7c0283ebcfc6496", func := "loop.example/chronicler/laws.FnPartIds", spec := "fnPartIds", inPlace := ["slices.overlaps[loop.example/chronicler/impl.Row]"], apart := false, narrowed := true }
def FnPartIdsUptoSaid : Prop := fnPartIdsUptoRow.holds Try.pinned (OpenSpec.upto fnPartIdsSpec)

/-- 'laws.FnPartNewer', WHERE WHAT IT READS IS OF BULK AT MOST 1048576: true; the input reads as it did. -/
def fnPartNewerUptoRow : OpenClaim := { program := "ytephlhldhdopaaa", sum := "300ff48e4faf87eb8ef32d33c1e75efd38467d80f4231290f7c0283ebcfc6496", func := "loop.example/chronicler/laws.FnPartNewer", spec := "fnPartNewer", inPlace := ["slices.overlaps[loop.example/chronicler/impl.Row]"], apart := false, narrowed := true }
def FnPartNewerUptoSaid : Prop := fnPartNewerUptoRow.holds Try.pinned (OpenSpec.upto fnPartNewerSpec)

/-- 'laws.FnExactPartMerge', WHERE WHAT IT READS IS OF BULK AT MOST 1048576: true; the input reads as it did. -/
def fnExactPartMergeUptoRow : OpenClaim := { program := "ytephlhldhdopaaa", sum := "300ff48e4faf87eb8ef32d33c1e75efd38467d80f4231290f7c0283ebcfc6496", func := "loop.example/chronicler/laws.FnExactPartMerge", spec := "fnExactPartMerge", inPlace := ["slices.overlaps[loop.example/chronicler/impl.Row]"], apart := false, narrowed := true }
def FnExactPartMergeUptoSaid : Prop := fnExactPartMergeUptoRow.holds Try.pinned (OpenSpec.upto fnExactPartMergeSpec)

end Rows
end Go.Proofs.Ytephlhldhdopaaa
