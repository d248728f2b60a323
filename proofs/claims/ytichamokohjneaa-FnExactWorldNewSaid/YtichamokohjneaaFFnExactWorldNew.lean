/- The statement: for every input the law returns true, and the input reads as it did. Conditions: none. -/
import Derived.Test.YtichamokohjneaaA4
import Derived.Test.YtichamokohjneaaRows
import Derived.Test.YtichamokohjneaaGFnExactWorldNew
namespace Go.Proofs.Ytichamokohjneaa
open Go Go.Sx Go.ChangeShapes Go.WideShapes Go.ChangeAt Go.RowKit
theorem Try.own : ownKnob Try.prog.godebug = none := by kernel_rfl
theorem Try.laidOut : laidOutB Try.prog = true := by kernel_rfl

set_option maxRecDepth 100000 in
theorem call_FnExactWorldNew {H : Type} {enc : TypeId × Value → H} {W : Go.World} {b0 : Nat}  : Calls Try.prog 15 #[] W fun e W' => e = .returned (.bool true) ∧ Below W.heap.size W W' := by
  have hE : Ents [] [] := Ents.nil
  refine (c_laws_FnExactWorldNew (r := true)  (e_FnExactWorldNew )).law fun g hg => hE g hg W _ fun f hf => ?_
  cases hf
set_option maxRecDepth 100000 in
theorem lifted_FnExactWorldNew (os : Os) (started : os.Started) (H : Type) (enc : TypeId × Value → H) :
    ReturnsInHanded {} Try.checked os 15 .any (Rows.fnExactWorldNewSpec.pre6 enc Try.prog Try.f15 Rows.fnExactWorldNewRow.domain false) (Rows.fnExactWorldNewSpec.post enc Try.prog Try.f15 false true false false) := by
  refine returnsInHanded_of_change (C := Try.checked) Try.own started (by kernel_rfl) Try.func15
    (ChangeSpec.witness6 (enc := enc) (C := Try.checked) false ⟨#[], #[], []⟩ 8 (by kernel_rfl) (by kernel_rfl) (by kernel_rfl) (by kernel_rfl)) ?_
  intro W base args ds gs before hval0 hW hcnd _
  have hval : ∀ (j : Nat) t v, Try.f15.params[j]? = some t → args[j]? = some v → Value.okWide Try.prog W .any base t v := hval0
  have hW' : DataW.Whole enc Try.prog Try.f15.params.toList Rows.fnExactWorldNewSpec.vars false W args.toList ds gs before := hW
  obtain ⟨p, q, hA0, hV, rfl, hfz, hnd⟩ := hW
  have hA : DataW.TrodAll enc Try.prog W 0 (fun _ => true) true Try.f15.params.toList args.toList ds p := hA0
  rw [Try.params15] at hA hval
  obtain ⟨h0, rfl, rfl⟩ := trodAll_nil hA
  obtain rfl : args = #[] := Array.toList_eq_nil_iff.1 h0
  obtain ⟨rfl, rfl⟩ := trodVars_none hV
  refine (call_FnExactWorldNew (H := H) (enc := enc) (b0 := base)).mono fun e W' ⟨he, hw⟩ => ?_
  subst he
  exact ⟨_, rfl, post_law Try.laidOut hW' hw (by kernel_rfl) rfl rfl Try.underlying4 rfl⟩
theorem FnExactWorldNew_holds : Rows.FnExactWorldNewSaid :=
  OpenClaim.holds_of_wide 15 Try.f15 rfl rfl rfl rfl rfl rfl rfl ⟨rfl, rfl, rfl, rfl, rfl⟩ rfl rfl rfl rfl rfl (by kernel_rfl) Try.func15 closed_FnExactWorldNew
    (of_decide_eq_true (by kernel_rfl)) (by unfold Func.isWrapper; first | (rw [if_pos (by decide +kernel)]; kernel_rfl) | (rw [if_neg (by decide +kernel)]; exact ⟨rfl, rfl⟩))
    (fun os started H enc _ => lifted_FnExactWorldNew os started H enc)
#print axioms FnExactWorldNew_holds
end Go.Proofs.Ytichamokohjneaa
