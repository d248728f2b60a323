/- The statement: for every input the law returns true, and the input reads as it did. Conditions: none. -/
import Derived.Test.YtlkcnfjdhkoelaaGreatA5
import Derived.Test.YtlkcnfjdhkoelaaGreatRows
import Derived.Test.YtlkcnfjdhkoelaaGreatGFnDiskForm
namespace Go.Proofs.YtlkcnfjdhkoelaaGreat
open Go Go.Sx Go.ChangeShapes Go.WideShapes Go.ChangeAt Go.RowKit
theorem Tryz.own : ownKnob Tryz.prog.godebug = none := by kernel_rfl
theorem Tryz.laidOut : laidOutB Tryz.prog = true := by kernel_rfl
theorem bg5 : Bg Tryz.prog 5 UInt8 := Bg.u8 Tryz.underlying5
theorem bg53 : Bg Tryz.prog 53 (List UInt8) := Bg.slice Tryz.underlying53 (by kernel_rfl) bg5
set_option maxRecDepth 100000 in
theorem call_FnDiskForm {H : Type} {enc : TypeId × Value → H} {W : Go.World} {b0 : Nat} {v0 : Value} {d0 : DataW H} {p0 : List MemPlace} (h0 : DataW.Trod enc Tryz.prog W 0 (fun _ => true) true 53 v0 d0 p0) (k0 : Value.okWide Tryz.prog W .any b0 53 v0) : Calls Tryz.prog 6 #[v0] W fun e W' => e = .returned (.bool true) ∧ Below W.heap.size W W' := by
  obtain ⟨n0, h0⟩ := h0
  obtain ⟨a0, r0, z0⟩ := bg53 H enc W n0 _ _ h0
  obtain ⟨x0, e0, s0⟩ := Dp.op r0
  have e0 : v0.cells.toList = [.slice x0.1 a0.length x0.2.1] := e0
  obtain rfl := val_slice Tryz.underlying53 k0 e0
  have hE : Ents [dp a0 x0] [imm (.slice x0.1 a0.length x0.2.1) a0] := (Ents.cons (Ent.dimm Ent.z) Ents.nil)
  refine (c_laws_FnDiskForm (r := true) a0 (x0.1, x0.2.1) (e_FnDiskForm a0 (Dp.okd s0))).law fun g hg => hE g hg W _ fun f hf => ?_
  rcases List.mem_cons.1 hf with rfl | hf
  · exact s0
  cases hf
set_option maxRecDepth 100000 in
theorem lifted_FnDiskForm (os : Os) (started : os.Started) (H : Type) (enc : TypeId × Value → H) :
    ReturnsInHanded {} Tryz.checked os 6 .any (Rows.fnDiskFormSpec.pre6 enc Tryz.prog Tryz.f6 Rows.fnDiskFormRow.domain false) (Rows.fnDiskFormSpec.post enc Tryz.prog Tryz.f6 false true false false) := by
  refine returnsInHanded_of_change (C := Tryz.checked) Tryz.own started (by kernel_rfl) Tryz.func6
    (ChangeSpec.witness6 (enc := enc) (C := Tryz.checked) false ⟨#[], #[.slice none 0 0], []⟩ 8 (by kernel_rfl) (by kernel_rfl) (by kernel_rfl) (by kernel_rfl)) ?_
  intro W base args ds gs before hval0 hW hcnd _
  have hval : ∀ (j : Nat) t v, Tryz.f6.params[j]? = some t → args[j]? = some v → Value.okWide Tryz.prog W .any base t v := hval0
  have hW' : DataW.Whole enc Tryz.prog Tryz.f6.params.toList Rows.fnDiskFormSpec.vars false W args.toList ds gs before := hW
  obtain ⟨p, q, hA0, hV, rfl, hfz, hnd⟩ := hW
  have hA : DataW.TrodAll enc Tryz.prog W 0 (fun _ => true) true Tryz.f6.params.toList args.toList ds p := hA0
  rw [Tryz.params6] at hA hval
  obtain ⟨v0, d0, rfl, rfl, h0⟩ := trodAll_one hA
  obtain ⟨rfl, rfl⟩ := trodVars_none hV
  refine (call_FnDiskForm h0 (hval 0 53 v0 rfl rfl)).mono fun e W' ⟨he, hw⟩ => ?_
  subst he
  exact ⟨_, rfl, post_law Tryz.laidOut hW' hw (by kernel_rfl) rfl rfl Tryz.underlying4 rfl⟩
theorem FnDiskForm_holds : Rows.FnDiskFormSaid :=
  OpenClaim.holds_of_wide 6 Tryz.f6 rfl rfl rfl rfl rfl rfl rfl ⟨rfl, rfl, rfl, rfl, rfl⟩ rfl rfl rfl rfl rfl (by kernel_rfl) Tryz.func6 closed_FnDiskForm
    (of_decide_eq_true (by kernel_rfl)) (by unfold Func.isWrapper; first | (rw [if_pos (by decide +kernel)]; kernel_rfl) | (rw [if_neg (by decide +kernel)]; exact ⟨rfl, rfl⟩))
    (fun os started H enc _ => lifted_FnDiskForm os started H enc)
#print axioms FnDiskForm_holds
end Go.Proofs.YtlkcnfjdhkoelaaGreat
