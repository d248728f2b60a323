/-
  No cell of these rows narrows 'for every input' (looked for: loops, veiled, ifaces, maps, wideKeys, modest, calm, conditions, laid).
  DERIVED. THE GIVEN ROWS OF THIS SEAT. 7 by the template 'for every input the law returns true; each argument reads behind the call as it read before'; 0 by the template 'total and deterministic' (their statements: YtfcdncblogldnaaTotals.lean).
  GIVEN WITH THE SEED: the statements are not yours to turn. If you find one false, say at which input.
  Laid BY PROGRAM, IN A SANDBOX (cutbox-rows.mjs): the forced cells as the released guide's own fill.sh prints them over the translation 331512c0ea4fcf41… (all of the seat's roots in one cut). By AI agents, Wed Nov 11 2026. No macro, syntax, notation, axiom, sorry.
-/
import Derived.Test.YtfcdncblogldnaaChecked
import GoSem.Claim
import GoSem.ClaimJoined
import GoSem.ClaimMapViews
import Derived.JoinedTies
import Derived.KernelRfl
namespace Go.Proofs.Ytfcdncblogldnaa
/- THE CELL 'sum', in the pinned program and in every row, IS THE sha256 OF THE DUMP (.gsa) THAT YtfcdncblogldnaaProg.lean LOADS. Nothing in Lean hashes anything: it is a label: what it is worth is what the hold of that sum in a sandbox is worth. -/
noncomputable def Try.pinned : Pinned := { name := "ytfcdncblogldnaa", sum := "331512c0ea4fcf41f9f07e161c63d166f67e20b7c0d54930228c8ca76685d4cf", checked := Try.checked }
namespace Rows
def none {H : Type} : Left H := { results := [], args := [] }

/-- 'laws.FnPartForm': WHATEVER THE INPUT: true; the input reads as it did. -/
def fnPartFormSpec : ChangeSpec := { name := "fnPartForm", fn := fun _ => fun
  | [d1, d2] => { results := [.lit (.bool true)], args := [d1, d2] }
  | _ => none }
def fnPartFormRow : OpenClaim := { program := "ytfcdncblogldnaa", sum := "331512c0ea4fcf41f9f07e161c63d166f67e20b7c0d54930228c8ca76685d4cf", func := "loop.example/chronicler/laws.FnPartForm", spec := "fnPartForm", apart := false }
def FnPartFormSaid : Prop := fnPartFormRow.holds Try.pinned (OpenSpec.ofChange fnPartFormSpec)

/-- ITS FALSE NEIGHBOUR: 'it returns false'. Refute it at one input. -/
def fnPartFormWrong : ChangeSpec := { name := "fnPartForm", fn := fun _ => fun
  | [d1, d2] => { results := [.lit (.bool false)], args := [d1, d2] }
  | _ => none }
def FnPartFormWrongFalsely : Prop := fnPartFormRow.holds Try.pinned (OpenSpec.ofChange fnPartFormWrong)

/-- 'laws.FnExactPartOk': WHATEVER THE INPUT: true; the input reads as it did. -/
def fnExactPartOkSpec : ChangeSpec := { name := "fnExactPartOk", fn := fun _ => fun
  | [d] => { results := [.lit (.bool true)], args := [d] }
  | _ => none }
def fnExactPartOkRow : OpenClaim := { program := "ytfcdncblogldnaa", sum := "331512c0ea4fcf41f9f07e161c63d166f67e20b7c0d54930228c8ca76685d4cf", func := "loop.example/chronicler/laws.FnExactPartOk", spec := "fnExactPartOk", apart := false }
def FnExactPartOkSaid : Prop := fnExactPartOkRow.holds Try.pinned (OpenSpec.ofChange fnExactPartOkSpec)

/-- ITS FALSE NEIGHBOUR: 'it returns false'. Refute it at one input. -/
def fnExactPartOkWrong : ChangeSpec := { name := "fnExactPartOk", fn := fun _ => fun
  | [d] => { results := [.lit (.bool false)], args := [d] }
  | _ => none }
def FnExactPartOkWrongFalsely : Prop := fnExactPartOkRow.holds Try.pinned (OpenSpec.ofChange fnExactPartOkWrong)

/-- 'laws.FnExactPartRows': WHATEVER THE INPUT: true; the input reads as it did. -/
def fnExactPartRowsSpec : ChangeSpec := { name := "fnExactPartRows", fn := fun _ => fun
  | [d] => { results := [.lit (.bool true)], args := [d] }
  | _ => none }
def fnExactPartRowsRow : OpenClaim := { program := "ytfcdncblogldnaa", sum := "331512c0ea4fcf41f9f07e161c63d166f67e20b7c0d54930228c8ca76685d4cf", func := "loop.example/chronicler/laws.FnExactPartRows", spec := "fnExactPartRows", apart := false }
def FnExactPartRowsSaid : Prop := fnExactPartRowsRow.holds Try.pinned (OpenSpec.ofChange fnExactPartRowsSpec)

/-- ITS FALSE NEIGHBOUR: 'it returns false'. Refute it at one input. -/
def fnExactPartRowsWrong : ChangeSpec := { name := "fnExactPartRows", fn := fun _ => fun
  | [d] => { results := [.lit (.bool false)], args := [d] }
  | _ => none }
def FnExactPartRowsWrongFalsely : Prop := fnExactPartRowsRow.holds Try.pinned (OpenSpec.ofChange fnExactPartRowsWrong)

/-- 'laws.FnPartOf': WHATEVER THE INPUT: true; the input reads as it did. -/
def fnPartOfSpec : ChangeSpec := { name := "fnPartOf", fn := fun _ => fun
  | [d] => { results := [.lit (.bool true)], args := [d] }
  | _ => none }
def fnPartOfRow : OpenClaim := { program := "ytfcdncblogldnaa", sum := "331512c0ea4fcf41f9f07e161c63d166f67e20b7c0d54930228c8ca76685d4cf", func := "loop.example/chronicler/laws.FnPartOf", spec := "fnPartOf", apart := false }
def FnPartOfSaid : Prop := fnPartOfRow.holds Try.pinned (OpenSpec.ofChange fnPartOfSpec)

/-- ITS FALSE NEIGHBOUR: 'it returns false'. Refute it at one input. -/
def fnPartOfWrong : ChangeSpec := { name := "fnPartOf", fn := fun _ => fun
  | [d] => { results := [.lit (.bool false)], args := [d] }
  | _ => none }
def FnPartOfWrongFalsely : Prop := fnPartOfRow.holds Try.pinned (OpenSpec.ofChange fnPartOfWrong)

/-- 'laws.FnExactPartOf': WHATEVER THE INPUT: true; the input reads as it did. -/
def fnExactPartOfSpec : ChangeSpec := { name := "fnExactPartOf", fn := fun _ => fun
  | [d1, d2] => { results := [.lit (.bool true)], args := [d1, d2] }
  | _ => none }
def fnExactPartOfRow : OpenClaim := { program := "ytfcdncblogldnaa", sum := "331512c0ea4fcf41f9f07e161c63d166f67e20b7c0d54930228c8ca76685d4cf", func := "loop.example/chronicler/laws.FnExactPartOf", spec := "fnExactPartOf", apart := false }
def FnExactPartOfSaid : Prop := fnExactPartOfRow.holds Try.pinned (OpenSpec.ofChange fnExactPartOfSpec)

/-- ITS FALSE NEIGHBOUR: 'it returns false'. Refute it at one input. -/
def fnExactPartOfWrong : ChangeSpec := { name := "fnExactPartOf", fn := fun _ => fun
  | [d1, d2] => { results := [.lit (.bool false)], args := [d1, d2] }
  | _ => none }
def FnExactPartOfWrongFalsely : Prop := fnExactPartOfRow.holds Try.pinned (OpenSpec.ofChange fnExactPartOfWrong)

/-- 'laws.FnExactDiskNew': WHATEVER THE INPUT: true; the input reads as it did. -/
def fnExactDiskNewSpec : ChangeSpec := { name := "fnExactDiskNew", fn := fun _ => fun
  | [] => { results := [.lit (.bool true)], args := [] }
  | _ => none }
def fnExactDiskNewRow : OpenClaim := { program := "ytfcdncblogldnaa", sum := "331512c0ea4fcf41f9f07e161c63d166f67e20b7c0d54930228c8ca76685d4cf", func := "loop.example/chronicler/laws.FnExactDiskNew", spec := "fnExactDiskNew", apart := false }
def FnExactDiskNewSaid : Prop := fnExactDiskNewRow.holds Try.pinned (OpenSpec.ofChange fnExactDiskNewSpec)

/-- ITS FALSE NEIGHBOUR: 'it returns false'. Refute it at one input. -/
def fnExactDiskNewWrong : ChangeSpec := { name := "fnExactDiskNew", fn := fun _ => fun
  | [] => { results := [.lit (.bool false)], args := [] }
  | _ => none }
def FnExactDiskNewWrongFalsely : Prop := fnExactDiskNewRow.holds Try.pinned (OpenSpec.ofChange fnExactDiskNewWrong)

/-- 'laws.FnPartRows': WHATEVER THE INPUT: true; the input reads as it did. -/
def fnPartRowsSpec : ChangeSpec := { name := "fnPartRows", fn := fun _ => fun
  | [d1, d2] => { results := [.lit (.bool true)], args := [d1, d2] }
  | _ => none }
def fnPartRowsRow : OpenClaim := { program := "ytfcdncblogldnaa", sum := "331512c0ea4fcf41f9f07e161c63d166f67e20b7c0d54930228c8ca76685d4cf", func := "loop.example/chronicler/laws.FnPartRows", spec := "fnPartRows", inPlace := ["slices.overlaps[loop.example/chronicler/impl.Row]"], apart := false }
def FnPartRowsSaid : Prop := fnPartRowsRow.holds Try.pinned (OpenSpec.ofChange fnPartRowsSpec)

/-- ITS FALSE NEIGHBOUR: 'it returns false'. Refute it at one input. -/
def fnPartRowsWrong : ChangeSpec := { name := "fnPartRows", fn := fun _ => fun
  | [d1, d2] => { results := [.lit (.bool false)], args := [d1, d2] }
  | _ => none }
def FnPartRowsWrongFalsely : Prop := fnPartRowsRow.holds Try.pinned (OpenSpec.ofChange fnPartRowsWrong)

/- THE SECOND FORM. 'bulk': how many values and letters a reading holds, each counted each time it is reached (what is shared counts as often as it is met; a slice's spare places count too). A statement '..UptoSaid' is the law's where the arguments, and the package variables that the reading takes, are together of bulk at most 1048576: NARROWER than '..Said'. Prove '..Said' where nothing that the law and all that it calls make is longer than what came in: it says more and counts as full. Else prove '..UptoSaid'. A law counts once. -/
mutual
def uptoBulk {H : Type} : DataW H → Nat
  | .lit (.string bytes) => bytes.length + 1
  | .lit _ => 1
  | .nil => 1
  | .ptr d => uptoBulk d + 1
  | .slice elems spare => uptoBulkAll elems + uptoBulkAll spare + 1
  | .agg parts => uptoBulkAll parts + 1
  | .iface _ d => uptoBulk d + 1
  | .map entries => uptoBulkEntries entries + 1
  | .held _ => 1
def uptoBulkAll {H : Type} : List (DataW H) → Nat
  | [] => 0
  | d :: r => uptoBulk d + uptoBulkAll r
def uptoBulkEntries {H : Type} : List (Lit × DataW H) → Nat
  | [] => 0
  | x :: r => uptoBulkEntry x + uptoBulkEntries r
def uptoBulkEntry {H : Type} : Lit × DataW H → Nat
  | (.string bytes, d) => bytes.length + uptoBulk d + 1
  | (_, d) => uptoBulk d + 1
 end
def uptoSmall : (H : Type) → List (DataW H) → Bool := fun _ ds => decide (uptoBulkAll ds ≤ 1048576)
def OpenSpec.upto (s : _root_.Go.ChangeSpec) : _root_.Go.OpenSpec := { _root_.Go.OpenSpec.ofChange s with cond := some uptoSmall }

/-- 'laws.FnPartForm', WHERE WHAT IT READS IS OF BULK AT MOST 1048576: true; the input reads as it did. -/
def fnPartFormUptoRow : OpenClaim := { program := "ytfcdncblogldnaa", sum := "331512c0ea4fcf41f9f07e161c63d166f67e20b7c0d54930228c8ca76685d4cf", func := "loop.example/chronicler/laws.FnPartForm", spec := "fnPartForm", apart := false, narrowed := true }
def FnPartFormUptoSaid : Prop := fnPartFormUptoRow.holds Try.pinned (OpenSpec.upto fnPartFormSpec)

/-- 'laws.FnExactPartOk', WHERE WHAT IT READS IS OF BULK AT MOST 1048576: true; the input reads as it did. -/
def fnExactPartOkUptoRow : OpenClaim := { program := "ytfcdncblogldnaa", sum := "331512c0ea4fcf41f9f07e161c63d166f67e20b7c0d54930228c8ca76685d4cf", func := "loop.example/chronicler/laws.FnExactPartOk", spec := "fnExactPartOk", apart := false, narrowed := true }
def FnExactPartOkUptoSaid : Prop := fnExactPartOkUptoRow.holds Try.pinned (OpenSpec.upto fnExactPartOkSpec)

/-- 'laws.FnExactPartRows', WHERE WHAT IT READS IS OF BULK AT MOST 1048576: true; the input reads as it did. -/
def fnExactPartRowsUptoRow : OpenClaim := { program := "ytfcdncblogldnaa", sum := "331512c0ea4fcf41f9f07e161c63d166f67e20b7c0d54930228c8ca76685d4cf", func := "loop.example/chronicler/laws.FnExactPartRows", spec := "fnExactPartRows", apart := false, narrowed := true }
def FnExactPartRowsUptoSaid : Prop := fnExactPartRowsUptoRow.holds Try.pinned (OpenSpec.upto fnExactPartRowsSpec)

/-- 'laws.FnPartOf', WHERE WHAT IT READS IS OF BULK AT MOST 1048576: true; the input reads as it did. -/
def fnPartOfUptoRow : OpenClaim := { program := "ytfcdncblogldnaa", sum := "331512c0ea4fcf41f9f07e161c63d166f67e20b7c0d54930228c8ca76685d4cf", func := "loop.example/chronicler/laws.FnPartOf", spec := "fnPartOf", apart := false, narrowed := true }
def FnPartOfUptoSaid : Prop := fnPartOfUptoRow.holds Try.pinned (OpenSpec.upto fnPartOfSpec)

/-- 'laws.FnExactPartOf', WHERE WHAT IT READS IS OF BULK AT MOST 1048576: true; the input reads as it did. -/
def fnExactPartOfUptoRow : OpenClaim := { program := "ytfcdncblogldnaa", sum := "331512c0ea4fcf41f9f07e161c63d166f67e20b7c0d54930228c8ca76685d4cf", func := "loop.example/chronicler/laws.FnExactPartOf", spec := "fnExactPartOf", apart := false, narrowed := true }
def FnExactPartOfUptoSaid : Prop := fnExactPartOfUptoRow.holds Try.pinned (OpenSpec.upto fnExactPartOfSpec)

/-- 'laws.FnExactDiskNew', WHERE WHAT IT READS IS OF BULK AT MOST 1048576: true; the input reads as it did. -/
def fnExactDiskNewUptoRow : OpenClaim := { program := "ytfcdncblogldnaa", sum := "331512c0ea4fcf41f9f07e161c63d166f67e20b7c0d54930228c8ca76685d4cf", func := "loop.example/chronicler/laws.FnExactDiskNew", spec := "fnExactDiskNew", apart := false, narrowed := true }
def FnExactDiskNewUptoSaid : Prop := fnExactDiskNewUptoRow.holds Try.pinned (OpenSpec.upto fnExactDiskNewSpec)

/-- 'laws.FnPartRows', WHERE WHAT IT READS IS OF BULK AT MOST 1048576: true; the input reads as it did. -/
def fnPartRowsUptoRow : OpenClaim := { program := "ytfcdncblogldnaa", sum := "331512c0ea4fcf41f9f07e161c63d166f67e20b7c0d54930228c8ca76685d4cf", func := "loop.example/chronicler/laws.FnPartRows", spec := "fnPartRows", inPlace := ["slices.overlaps[loop.example/chronicler/impl.Row]"], apart := false, narrowed := true }
def FnPartRowsUptoSaid : Prop := fnPartRowsUptoRow.holds Try.pinned (OpenSpec.upto fnPartRowsSpec)

end Rows
end Go.Proofs.Ytfcdncblogldnaa
