/- The statement: for every input the law returns true, and the input reads as it did. Conditions: none. -/
import Derived.Test.YtcbcmljlomihpaaA2
import Derived.Test.YtcbcmljlomihpaaRows
import Derived.Test.YtcbcmljlomihpaaGFnFindNone
namespace Go.Proofs.Ytcbcmljlomihpaa
open Go Go.Sx Go.ChangeShapes Go.WideShapes Go.ChangeAt Go.RowKit
theorem Try.own : ownKnob Try.prog.godebug = none := by kernel_rfl
theorem Try.laidOut : laidOutB Try.prog = true := by kernel_rfl
theorem bg5 : Bg Try.prog 5 UInt8 := Bg.u8 Try.underlying5
theorem bg22 : Bg Try.prog 22 (List UInt8) := Bg.slice Try.underlying22 (by kernel_rfl) bg5
set_option maxRecDepth 100000 in
theorem call_FnFindNone {H : Type} {enc : TypeId × Value → H} {W : Go.World} {b0 : Nat} {v0 : Value} {d0 : DataW H} {p0 : List MemPlace} (h0 : DataW.Trod enc Try.prog W 0 (fun _ => true) true 22 v0 d0 p0) (k0 : Value.okWide Try.prog W .any b0 22 v0) {v1 : Value} {d1 : DataW H} {p1 : List MemPlace} (h1 : DataW.Trod enc Try.prog W 0 (fun _ => true) true 22 v1 d1 p1) (k1 : Value.okWide Try.prog W .any b0 22 v1) : Calls Try.prog 3 #[v0, v1] W fun e W' => e = .returned (.bool true) ∧ Below W.heap.size W W' := by
  obtain ⟨n0, h0⟩ := h0
  obtain ⟨a0, r0, z0⟩ := bg22 H enc W n0 _ _ h0
  obtain ⟨x0, e0, s0⟩ := Dp.op r0
  have e0 : v0.cells.toList = [.slice x0.1 a0.length x0.2.1] := e0
  obtain rfl := val_slice Try.underlying22 k0 e0
  obtain ⟨n1, h1⟩ := h1
  obtain ⟨a1, r1, z1⟩ := bg22 H enc W n1 _ _ h1
  obtain ⟨x1, e1, s1⟩ := Dp.op r1
  have e1 : v1.cells.toList = [.slice x1.1 a1.length x1.2.1] := e1
  obtain rfl := val_slice Try.underlying22 k1 e1
  have hE : Ents [dp a0 x0, dp a1 x1] [imm (.slice x0.1 a0.length x0.2.1) a0, imm (.slice x1.1 a1.length x1.2.1) a1] := (Ents.cons (Ent.dimm Ent.z) (Ents.cons (Ent.dimm Ent.z.s) Ents.nil))
  refine (c_laws_FnFindNone (r := true) a0 (x0.1, x0.2.1) a1 (x1.1, x1.2.1) (e_FnFindNone a0 a1 (Dp.okd s0) (Dp.okd s1))).law fun g hg => hE g hg W _ fun f hf => ?_
  rcases List.mem_cons.1 hf with rfl | hf
  · exact s0
  rcases List.mem_cons.1 hf with rfl | hf
  · exact s1
  cases hf
set_option maxRecDepth 100000 in
theorem lifted_FnFindNone (os : Os) (started : os.Started) (H : Type) (enc : TypeId × Value → H) :
    ReturnsInHanded {} Try.checked os 3 .any (Rows.fnFindNoneSpec.pre6 enc Try.prog Try.f3 Rows.fnFindNoneRow.domain false) (Rows.fnFindNoneSpec.post enc Try.prog Try.f3 false true false false) := by
  refine returnsInHanded_of_change (C := Try.checked) Try.own started (by kernel_rfl) Try.func3
    (ChangeSpec.witness6 (enc := enc) (C := Try.checked) false ⟨#[], #[.slice none 0 0, .slice none 0 0], []⟩ 8 (by kernel_rfl) (by kernel_rfl) (by kernel_rfl) (by kernel_rfl)) ?_
  intro W base args ds gs before hval0 hW hcnd _
  have hval : ∀ (j : Nat) t v, Try.f3.params[j]? = some t → args[j]? = some v → Value.okWide Try.prog W .any base t v := hval0
  have hW' : DataW.Whole enc Try.prog Try.f3.params.toList Rows.fnFindNoneSpec.vars false W args.toList ds gs before := hW
  obtain ⟨p, q, hA0, hV, rfl, hfz, hnd⟩ := hW
  have hA : DataW.TrodAll enc Try.prog W 0 (fun _ => true) true Try.f3.params.toList args.toList ds p := hA0
  rw [Try.params3] at hA hval
  obtain ⟨v0, v1, d0, d1, p0, p1, rfl, rfl, rfl, h0, h1⟩ := trodAll_two hA
  obtain ⟨rfl, rfl⟩ := trodVars_none hV
  refine (call_FnFindNone h0 (hval 0 22 v0 rfl rfl) h1 (hval 1 22 v1 rfl rfl)).mono fun e W' ⟨he, hw⟩ => ?_
  subst he
  exact ⟨_, rfl, post_law Try.laidOut hW' hw (by kernel_rfl) rfl rfl Try.underlying4 rfl⟩
theorem FnFindNone_holds : Rows.FnFindNoneSaid :=
  OpenClaim.holds_of_wide 3 Try.f3 rfl rfl rfl rfl rfl rfl rfl ⟨rfl, rfl, rfl, rfl, rfl⟩ rfl rfl rfl rfl rfl (by kernel_rfl) Try.func3 closed_FnFindNone
    (of_decide_eq_true (by kernel_rfl)) (by unfold Func.isWrapper; first | (rw [if_pos (by decide +kernel)]; kernel_rfl) | (rw [if_neg (by decide +kernel)]; exact ⟨rfl, rfl⟩))
    (fun os started H enc _ => lifted_FnFindNone os started H enc)
#print axioms FnFindNone_holds
end Go.Proofs.Ytcbcmljlomihpaa
