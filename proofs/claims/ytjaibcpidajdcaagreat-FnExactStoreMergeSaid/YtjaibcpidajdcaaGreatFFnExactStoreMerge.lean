/- The statement: for every input the law returns true, and the input reads as it did. Conditions: none. -/
import Derived.Test.YtjaibcpidajdcaaGreatA4
import Derived.Test.YtjaibcpidajdcaaGreatRows
import Derived.Test.YtjaibcpidajdcaaGreatGFnExactStoreMerge
namespace Go.Proofs.YtjaibcpidajdcaaGreat
open Go Go.Sx Go.ChangeShapes Go.WideShapes Go.ChangeAt Go.RowKit
theorem Tryz.own : ownKnob Tryz.prog.godebug = none := by kernel_rfl
theorem Tryz.laidOut : laidOutB Tryz.prog = true := by kernel_rfl
theorem bg9 : Bg Tryz.prog 9 ByteArray := Bg.str Tryz.underlying9
theorem bg94 : Bg Tryz.prog 94 Tag := Bg.struct Tryz.underlying94 (by kernel_rfl) (BgF.cons rfl (by kernel_rfl) bg9 (BgF.one rfl (by kernel_rfl) bg9))
theorem bg51 : Bg Tryz.prog 51 (List Tag) := Bg.slice Tryz.underlying51 (by kernel_rfl) bg94
theorem bg22 : Bg Tryz.prog 22 (List (List Tag)) := Bg.slice Tryz.underlying22 (by kernel_rfl) bg51
theorem bg3 : Bg Tryz.prog 3 Int := Bg.int Tryz.underlying3
theorem bg69 : Bg Tryz.prog 69 (List Int) := Bg.slice Tryz.underlying69 (by kernel_rfl) bg3
theorem bg149 : Bg Tryz.prog 149 Post := Bg.struct Tryz.underlying149 (by kernel_rfl) (BgF.cons rfl (by kernel_rfl) bg94 (BgF.one rfl (by kernel_rfl) bg69))
theorem bg23 : Bg Tryz.prog 23 (List Post) := Bg.slice Tryz.underlying23 (by kernel_rfl) bg149
theorem bg25 : Bg Tryz.prog 25 Index := Bg.struct Tryz.underlying25 (by kernel_rfl) (BgF.cons rfl (by kernel_rfl) bg22 (BgF.one rfl (by kernel_rfl) bg23))
theorem bg53 : Bg Tryz.prog 53 Row := Bg.struct Tryz.underlying53 (by kernel_rfl) (BgF.cons rfl (by kernel_rfl) bg3 (BgF.one rfl (by kernel_rfl) bg3))
theorem bg168 : Bg Tryz.prog 168 (List Row) := Bg.slice Tryz.underlying168 (by kernel_rfl) bg53
theorem bg108 : Bg Tryz.prog 108 (List (List Row)) := Bg.slice Tryz.underlying108 (by kernel_rfl) bg168
theorem bg110 : Bg Tryz.prog 110 Part := Bg.struct Tryz.underlying110 (by kernel_rfl) (BgF.cons rfl (by kernel_rfl) bg69 (BgF.one rfl (by kernel_rfl) bg108))
theorem bg26 : Bg Tryz.prog 26 (List Part) := Bg.slice Tryz.underlying26 (by kernel_rfl) bg110
theorem bg124 : Bg Tryz.prog 124 Sample := Bg.struct Tryz.underlying124 (by kernel_rfl) (BgF.cons rfl (by kernel_rfl) bg3 (BgF.one rfl (by kernel_rfl) bg53))
theorem bg27 : Bg Tryz.prog 27 (List Sample) := Bg.slice Tryz.underlying27 (by kernel_rfl) bg124
theorem bg29 : Bg Tryz.prog 29 Store := Bg.struct Tryz.underlying29 (by kernel_rfl) (BgF.cons rfl (by kernel_rfl) bg25 (BgF.cons rfl (by kernel_rfl) bg26 (BgF.one rfl (by kernel_rfl) bg27)))
set_option maxRecDepth 100000 in
theorem call_FnExactStoreMerge {H : Type} {enc : TypeId × Value → H} {W : Go.World} {b0 : Nat} {v0 : Value} {d0 : DataW H} {p0 : List MemPlace} (h0 : DataW.Trod enc Tryz.prog W 0 (fun _ => true) true 29 v0 d0 p0) (k0 : Value.okWide Tryz.prog W .any b0 29 v0) {v1 : Value} {d1 : DataW H} {p1 : List MemPlace} (h1 : DataW.Trod enc Tryz.prog W 0 (fun _ => true) true 3 v1 d1 p1) (k1 : Value.okWide Tryz.prog W .any b0 3 v1) : Calls Tryz.prog 7 #[v0, v1] W fun e W' => e = .returned (.bool true) ∧ Below W.heap.size W W' := by
  obtain ⟨n0, h0⟩ := h0
  obtain ⟨a0, r0, z0⟩ := bg29 H enc W n0 _ _ h0
  obtain ⟨x0, e0, s0⟩ := Dp.op r0
  have e0 : v0.cells.toList = [.slice x0.1.1.1 a0.1.1.length x0.1.1.2.1, .slice x0.1.2.1 a0.1.2.length x0.1.2.2.1, .slice x0.2.1.1 a0.2.1.length x0.2.1.2.1, .slice x0.2.2.1 a0.2.2.length x0.2.2.2.1] := e0
  obtain rfl := val_struct Tryz.underlying29 k0 e0
  obtain ⟨n1, h1⟩ := h1
  obtain ⟨a1, r1, z1⟩ := bg3 H enc W n1 _ _ h1
  obtain ⟨x1, e1, s1⟩ := Dp.op r1
  have e1 : v1.cells.toList = [.int .i64 (a1)] := e1
  obtain rfl := val_int Tryz.underlying3 k1 e1
  have hE : Ents [dp a0 x0, dp a1 x1] [imm (.slice x0.1.1.1 a0.1.1.length x0.1.1.2.1) a0.1.1, imm (.slice x0.1.2.1 a0.1.2.length x0.1.2.2.1) a0.1.2, imm (.slice x0.2.1.1 a0.2.1.length x0.2.1.2.1) a0.2.1, imm (.slice x0.2.2.1 a0.2.2.length x0.2.2.2.1) a0.2.2] := (Ents.cons (Ent.dimm (Ent.dfst (Ent.dfst Ent.z))) (Ents.cons (Ent.dimm (Ent.dsnd (Ent.dfst Ent.z))) (Ents.cons (Ent.dimm (Ent.dfst (Ent.dsnd Ent.z))) (Ents.cons (Ent.dimm (Ent.dsnd (Ent.dsnd Ent.z))) Ents.nil))))
  refine (c_laws_FnExactStoreMerge (r := true) a0 (((x0.1.1.1, x0.1.1.2.1), (x0.1.2.1, x0.1.2.2.1)), (x0.2.1.1, x0.2.1.2.1), (x0.2.2.1, x0.2.2.2.1)) a1 (e_FnExactStoreMerge a0 a1 (Dp.okd s0) (Dp.okd s1) z0)).law fun g hg => hE g hg W _ fun f hf => ?_
  rcases List.mem_cons.1 hf with rfl | hf
  · exact s0
  rcases List.mem_cons.1 hf with rfl | hf
  · exact s1
  cases hf
set_option maxRecDepth 100000 in
theorem lifted_FnExactStoreMerge (os : Os) (started : os.Started) (H : Type) (enc : TypeId × Value → H) :
    ReturnsInHanded {} Tryz.checked os 7 .any (Rows.fnExactStoreMergeSpec.pre6 enc Tryz.prog Tryz.f7 Rows.fnExactStoreMergeRow.domain false) (Rows.fnExactStoreMergeSpec.post enc Tryz.prog Tryz.f7 false true false false) := by
  refine returnsInHanded_of_change (C := Tryz.checked) Tryz.own started (by kernel_rfl) Tryz.func7
    (ChangeSpec.witness6 (enc := enc) (C := Tryz.checked) false ⟨#[], #[.agg #[.slice none 0 0, .slice none 0 0, .slice none 0 0, .slice none 0 0], .int .i64 0], []⟩ 8 (by kernel_rfl) (by kernel_rfl) (by kernel_rfl) (by kernel_rfl)) ?_
  intro W base args ds gs before hval0 hW hcnd _
  have hval : ∀ (j : Nat) t v, Tryz.f7.params[j]? = some t → args[j]? = some v → Value.okWide Tryz.prog W .any base t v := hval0
  have hW' : DataW.Whole enc Tryz.prog Tryz.f7.params.toList Rows.fnExactStoreMergeSpec.vars false W args.toList ds gs before := hW
  obtain ⟨p, q, hA0, hV, rfl, hfz, hnd⟩ := hW
  have hA : DataW.TrodAll enc Tryz.prog W 0 (fun _ => true) true Tryz.f7.params.toList args.toList ds p := hA0
  rw [Tryz.params7] at hA hval
  obtain ⟨v0, v1, d0, d1, p0, p1, rfl, rfl, rfl, h0, h1⟩ := trodAll_two hA
  obtain ⟨rfl, rfl⟩ := trodVars_none hV
  refine (call_FnExactStoreMerge h0 (hval 0 29 v0 rfl rfl) h1 (hval 1 3 v1 rfl rfl)).mono fun e W' ⟨he, hw⟩ => ?_
  subst he
  exact ⟨_, rfl, post_law Tryz.laidOut hW' hw (by kernel_rfl) rfl rfl Tryz.underlying4 rfl⟩
theorem FnExactStoreMerge_holds : Rows.FnExactStoreMergeSaid :=
  OpenClaim.holds_of_wide 7 Tryz.f7 rfl rfl rfl rfl rfl rfl rfl ⟨rfl, rfl, rfl, rfl, rfl⟩ rfl rfl rfl rfl rfl (by kernel_rfl) Tryz.func7 closed_FnExactStoreMerge
    (of_decide_eq_true (by kernel_rfl)) (by unfold Func.isWrapper; first | (rw [if_pos (by decide +kernel)]; kernel_rfl) | (rw [if_neg (by decide +kernel)]; exact ⟨rfl, rfl⟩))
    (fun os started H enc _ => lifted_FnExactStoreMerge os started H enc)
#print axioms FnExactStoreMerge_holds
end Go.Proofs.YtjaibcpidajdcaaGreat
