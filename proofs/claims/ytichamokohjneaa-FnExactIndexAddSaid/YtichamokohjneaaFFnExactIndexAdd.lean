/- The statement: for every input the law returns true, and the input reads as it did. Conditions: none. -/
import Derived.Test.YtichamokohjneaaA5
import Derived.Test.YtichamokohjneaaRows
import Derived.Test.YtichamokohjneaaGFnExactIndexAdd
namespace Go.Proofs.Ytichamokohjneaa
open Go Go.Sx Go.ChangeShapes Go.WideShapes Go.ChangeAt Go.RowKit
theorem Try.own : ownKnob Try.prog.godebug = none := by kernel_rfl
theorem Try.laidOut : laidOutB Try.prog = true := by kernel_rfl
theorem bg9 : Bg Try.prog 9 ByteArray := Bg.str Try.underlying9
theorem bg64 : Bg Try.prog 64 Tag := Bg.struct Try.underlying64 (by kernel_rfl) (BgF.cons rfl (by kernel_rfl) bg9 (BgF.one rfl (by kernel_rfl) bg9))
theorem bg70 : Bg Try.prog 70 (List Tag) := Bg.slice Try.underlying70 (by kernel_rfl) bg64
theorem bg47 : Bg Try.prog 47 (List (List Tag)) := Bg.slice Try.underlying47 (by kernel_rfl) bg70
theorem bg3 : Bg Try.prog 3 Int := Bg.int Try.underlying3
theorem bg31 : Bg Try.prog 31 (List Int) := Bg.slice Try.underlying31 (by kernel_rfl) bg3
theorem bg147 : Bg Try.prog 147 Post := Bg.struct Try.underlying147 (by kernel_rfl) (BgF.cons rfl (by kernel_rfl) bg64 (BgF.one rfl (by kernel_rfl) bg31))
theorem bg48 : Bg Try.prog 48 (List Post) := Bg.slice Try.underlying48 (by kernel_rfl) bg147
theorem bg50 : Bg Try.prog 50 Index := Bg.struct Try.underlying50 (by kernel_rfl) (BgF.cons rfl (by kernel_rfl) bg47 (BgF.one rfl (by kernel_rfl) bg48))
set_option maxRecDepth 100000 in
theorem call_FnExactIndexAdd {H : Type} {enc : TypeId × Value → H} {W : Go.World} {b0 : Nat} {v0 : Value} {d0 : DataW H} {p0 : List MemPlace} (h0 : DataW.Trod enc Try.prog W 0 (fun _ => true) true 50 v0 d0 p0) (k0 : Value.okWide Try.prog W .any b0 50 v0) {v1 : Value} {d1 : DataW H} {p1 : List MemPlace} (h1 : DataW.Trod enc Try.prog W 0 (fun _ => true) true 70 v1 d1 p1) (k1 : Value.okWide Try.prog W .any b0 70 v1) : Calls Try.prog 14 #[v0, v1] W fun e W' => e = .returned (.bool true) ∧ Below W.heap.size W W' := by
  obtain ⟨n0, h0⟩ := h0
  obtain ⟨a0, r0, z0⟩ := bg50 H enc W n0 _ _ h0
  obtain ⟨x0, e0, s0⟩ := Dp.op r0
  have e0 : v0.cells.toList = [.slice x0.1.1 a0.1.length x0.1.2.1, .slice x0.2.1 a0.2.length x0.2.2.1] := e0
  obtain rfl := val_struct Try.underlying50 k0 e0
  obtain ⟨n1, h1⟩ := h1
  obtain ⟨a1, r1, z1⟩ := bg70 H enc W n1 _ _ h1
  obtain ⟨x1, e1, s1⟩ := Dp.op r1
  have e1 : v1.cells.toList = [.slice x1.1 a1.length x1.2.1] := e1
  obtain rfl := val_slice Try.underlying70 k1 e1
  have hE : Ents [dp a0 x0, dp a1 x1] [imm (.slice x0.1.1 a0.1.length x0.1.2.1) a0.1, imm (.slice x0.2.1 a0.2.length x0.2.2.1) a0.2, imm (.slice x1.1 a1.length x1.2.1) a1] := (Ents.cons (Ent.dimm (Ent.dfst Ent.z)) (Ents.cons (Ent.dimm (Ent.dsnd Ent.z)) (Ents.cons (Ent.dimm Ent.z.s) Ents.nil)))
  refine (c_laws_FnExactIndexAdd (r := true) a0 ((x0.1.1, x0.1.2.1), (x0.2.1, x0.2.2.1)) a1 (x1.1, x1.2.1) (e_FnExactIndexAdd a0 a1 (Dp.okd s0) (Dp.okd s1) z0 z1)).law fun g hg => hE g hg W _ fun f hf => ?_
  rcases List.mem_cons.1 hf with rfl | hf
  · exact s0
  rcases List.mem_cons.1 hf with rfl | hf
  · exact s1
  cases hf
set_option maxRecDepth 100000 in
theorem lifted_FnExactIndexAdd (os : Os) (started : os.Started) (H : Type) (enc : TypeId × Value → H) :
    ReturnsInHanded {} Try.checked os 14 .any (Rows.fnExactIndexAddSpec.pre6 enc Try.prog Try.f14 Rows.fnExactIndexAddRow.domain false) (Rows.fnExactIndexAddSpec.post enc Try.prog Try.f14 false true false false) := by
  refine returnsInHanded_of_change (C := Try.checked) Try.own started (by kernel_rfl) Try.func14
    (ChangeSpec.witness6 (enc := enc) (C := Try.checked) false ⟨#[], #[.agg #[.slice none 0 0, .slice none 0 0], .slice none 0 0], []⟩ 8 (by kernel_rfl) (by kernel_rfl) (by kernel_rfl) (by kernel_rfl)) ?_
  intro W base args ds gs before hval0 hW hcnd _
  have hval : ∀ (j : Nat) t v, Try.f14.params[j]? = some t → args[j]? = some v → Value.okWide Try.prog W .any base t v := hval0
  have hW' : DataW.Whole enc Try.prog Try.f14.params.toList Rows.fnExactIndexAddSpec.vars false W args.toList ds gs before := hW
  obtain ⟨p, q, hA0, hV, rfl, hfz, hnd⟩ := hW
  have hA : DataW.TrodAll enc Try.prog W 0 (fun _ => true) true Try.f14.params.toList args.toList ds p := hA0
  rw [Try.params14] at hA hval
  obtain ⟨v0, v1, d0, d1, p0, p1, rfl, rfl, rfl, h0, h1⟩ := trodAll_two hA
  obtain ⟨rfl, rfl⟩ := trodVars_none hV
  refine (call_FnExactIndexAdd h0 (hval 0 50 v0 rfl rfl) h1 (hval 1 70 v1 rfl rfl)).mono fun e W' ⟨he, hw⟩ => ?_
  subst he
  exact ⟨_, rfl, post_law Try.laidOut hW' hw (by kernel_rfl) rfl rfl Try.underlying4 rfl⟩
theorem FnExactIndexAdd_holds : Rows.FnExactIndexAddSaid :=
  OpenClaim.holds_of_wide 14 Try.f14 rfl rfl rfl rfl rfl rfl rfl ⟨rfl, rfl, rfl, rfl, rfl⟩ rfl rfl rfl rfl rfl (by kernel_rfl) Try.func14 closed_FnExactIndexAdd
    (of_decide_eq_true (by kernel_rfl)) (by unfold Func.isWrapper; first | (rw [if_pos (by decide +kernel)]; kernel_rfl) | (rw [if_neg (by decide +kernel)]; exact ⟨rfl, rfl⟩))
    (fun os started H enc _ => lifted_FnExactIndexAdd os started H enc)
#print axioms FnExactIndexAdd_holds
end Go.Proofs.Ytichamokohjneaa
