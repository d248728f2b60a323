/- The statement: for every input the law returns true, and the input reads as it did. Conditions: none. -/
import Derived.Test.YtjaibcpidajdcaaGreatA5
import Derived.Test.YtjaibcpidajdcaaGreatRows
import Derived.Test.YtjaibcpidajdcaaGreatGFnExactStoreFlush
namespace Go.Proofs.YtjaibcpidajdcaaGreat
open Go Go.Sx Go.ChangeShapes Go.WideShapes Go.ChangeAt Go.RowKit
theorem Tryz.own : ownKnob Tryz.prog.godebug = none := by kernel_rfl
theorem Tryz.laidOut : laidOutB Tryz.prog = true := by kernel_rfl
theorem bg9 : Bg Tryz.prog 9 ByteArray := Bg.str Tryz.underlying9
theorem bg94 : Bg Tryz.prog 94 Tag := Bg.struct Tryz.underlying94 (by kernel_rfl) (BgF.cons rfl (by kernel_rfl) bg9 (BgF.one rfl (by kernel_rfl) bg9))
theorem bg51 : Bg Tryz.prog 51 (List Tag) := Bg.slice Tryz.underlying51 (by kernel_rfl) bg94
theorem bg22 : Bg Tryz.prog 22 (List (List Tag)) := Bg.slice Tryz.underlying22 (by kernel_rfl) bg51
theorem bg3 : Bg Tryz.prog 3 Int := Bg.int Tryz.underlying3
theorem bg69 : Bg Tryz.prog 69 (List Int) := Bg.slice Tryz.underlying69 (by kernel_rfl) bg3
theorem bg149 : Bg Tryz.prog 149 Post := Bg.struct Tryz.underlying149 (by kernel_rfl) (BgF.cons rfl (by kernel_rfl) bg94 (BgF.one rfl (by kernel_rfl) bg69))
theorem bg23 : Bg Tryz.prog 23 (List Post) := Bg.slice Tryz.underlying23 (by kernel_rfl) bg149
theorem bg25 : Bg Tryz.prog 25 Index := Bg.struct Tryz.underlying25 (by kernel_rfl) (BgF.cons rfl (by kernel_rfl) bg22 (BgF.one rfl (by kernel_rfl) bg23))
theorem bg53 : Bg Tryz.prog 53 Row := Bg.struct Tryz.underlying53 (by kernel_rfl) (BgF.cons rfl (by kernel_rfl) bg3 (BgF.one rfl (by kernel_rfl) bg3))
theorem bg168 : Bg Tryz.prog 168 (List Row) := Bg.slice Tryz.underlying168 (by kernel_rfl) bg53
theorem bg108 : Bg Tryz.prog 108 (List (List Row)) := Bg.slice Tryz.underlying108 (by kernel_rfl) bg168
theorem bg110 : Bg Tryz.prog 110 Part := Bg.struct Tryz.underlying110 (by kernel_rfl) (BgF.cons rfl (by kernel_rfl) bg69 (BgF.one rfl (by kernel_rfl) bg108))
theorem bg26 : Bg Tryz.prog 26 (List Part) := Bg.slice Tryz.underlying26 (by kernel_rfl) bg110
theorem bg124 : Bg Tryz.prog 124 Sample := Bg.struct Tryz.underlying124 (by kernel_rfl) (BgF.cons rfl (by kernel_rfl) bg3 (BgF.one rfl (by kernel_rfl) bg53))
theorem bg27 : Bg Tryz.prog 27 (List Sample) := Bg.slice Tryz.underlying27 (by kernel_rfl) bg124
theorem bg29 : Bg Tryz.prog 29 Store := Bg.struct Tryz.underlying29 (by kernel_rfl) (BgF.cons rfl (by kernel_rfl) bg25 (BgF.cons rfl (by kernel_rfl) bg26 (BgF.one rfl (by kernel_rfl) bg27)))
set_option maxRecDepth 100000 in
theorem call_FnExactStoreFlush {H : Type} {enc : TypeId × Value → H} {W : Go.World} {b0 : Nat} {v0 : Value} {d0 : DataW H} {p0 : List MemPlace} (h0 : DataW.Trod enc Tryz.prog W 0 (fun _ => true) true 29 v0 d0 p0) (k0 : Value.okWide Tryz.prog W .any b0 29 v0) : Calls Tryz.prog 5 #[v0] W fun e W' => e = .returned (.bool true) ∧ Below W.heap.size W W' := by
  obtain ⟨n0, h0⟩ := h0
  obtain ⟨a0, r0, z0⟩ := bg29 H enc W n0 _ _ h0
  obtain ⟨x0, e0, s0⟩ := Dp.op r0
  have e0 : v0.cells.toList = [.slice x0.1.1.1 a0.1.1.length x0.1.1.2.1, .slice x0.1.2.1 a0.1.2.length x0.1.2.2.1, .slice x0.2.1.1 a0.2.1.length x0.2.1.2.1, .slice x0.2.2.1 a0.2.2.length x0.2.2.2.1] := e0
  obtain rfl := val_struct Tryz.underlying29 k0 e0
  have hE : Ents [dp a0 x0] [imm (.slice x0.1.1.1 a0.1.1.length x0.1.1.2.1) a0.1.1, imm (.slice x0.1.2.1 a0.1.2.length x0.1.2.2.1) a0.1.2, imm (.slice x0.2.1.1 a0.2.1.length x0.2.1.2.1) a0.2.1, imm (.slice x0.2.2.1 a0.2.2.length x0.2.2.2.1) a0.2.2] := (Ents.cons (Ent.dimm (Ent.dfst (Ent.dfst Ent.z))) (Ents.cons (Ent.dimm (Ent.dsnd (Ent.dfst Ent.z))) (Ents.cons (Ent.dimm (Ent.dfst (Ent.dsnd Ent.z))) (Ents.cons (Ent.dimm (Ent.dsnd (Ent.dsnd Ent.z))) Ents.nil))))
  refine (c_laws_FnExactStoreFlush (r := true) a0 (((x0.1.1.1, x0.1.1.2.1), (x0.1.2.1, x0.1.2.2.1)), (x0.2.1.1, x0.2.1.2.1), (x0.2.2.1, x0.2.2.2.1)) (e_FnExactStoreFlush a0 (Dp.okd s0) z0)).law fun g hg => hE g hg W _ fun f hf => ?_
  rcases List.mem_cons.1 hf with rfl | hf
  · exact s0
  cases hf
set_option maxRecDepth 100000 in
theorem lifted_FnExactStoreFlush (os : Os) (started : os.Started) (H : Type) (enc : TypeId × Value → H) :
    ReturnsInHanded {} Tryz.checked os 5 .any (Rows.fnExactStoreFlushSpec.pre6 enc Tryz.prog Tryz.f5 Rows.fnExactStoreFlushRow.domain false) (Rows.fnExactStoreFlushSpec.post enc Tryz.prog Tryz.f5 false true false false) := by
  refine returnsInHanded_of_change (C := Tryz.checked) Tryz.own started (by kernel_rfl) Tryz.func5
    (ChangeSpec.witness6 (enc := enc) (C := Tryz.checked) false ⟨#[], #[.agg #[.slice none 0 0, .slice none 0 0, .slice none 0 0, .slice none 0 0]], []⟩ 8 (by kernel_rfl) (by kernel_rfl) (by kernel_rfl) (by kernel_rfl)) ?_
  intro W base args ds gs before hval0 hW hcnd _
  have hval : ∀ (j : Nat) t v, Tryz.f5.params[j]? = some t → args[j]? = some v → Value.okWide Tryz.prog W .any base t v := hval0
  have hW' : DataW.Whole enc Tryz.prog Tryz.f5.params.toList Rows.fnExactStoreFlushSpec.vars false W args.toList ds gs before := hW
  obtain ⟨p, q, hA0, hV, rfl, hfz, hnd⟩ := hW
  have hA : DataW.TrodAll enc Tryz.prog W 0 (fun _ => true) true Tryz.f5.params.toList args.toList ds p := hA0
  rw [Tryz.params5] at hA hval
  obtain ⟨v0, d0, rfl, rfl, h0⟩ := trodAll_one hA
  obtain ⟨rfl, rfl⟩ := trodVars_none hV
  refine (call_FnExactStoreFlush h0 (hval 0 29 v0 rfl rfl)).mono fun e W' ⟨he, hw⟩ => ?_
  subst he
  exact ⟨_, rfl, post_law Tryz.laidOut hW' hw (by kernel_rfl) rfl rfl Tryz.underlying4 rfl⟩
theorem FnExactStoreFlush_holds : Rows.FnExactStoreFlushSaid :=
  OpenClaim.holds_of_wide 5 Tryz.f5 rfl rfl rfl rfl rfl rfl rfl ⟨rfl, rfl, rfl, rfl, rfl⟩ rfl rfl rfl rfl rfl (by kernel_rfl) Tryz.func5 closed_FnExactStoreFlush
    (of_decide_eq_true (by kernel_rfl)) (by unfold Func.isWrapper; first | (rw [if_pos (by decide +kernel)]; kernel_rfl) | (rw [if_neg (by decide +kernel)]; exact ⟨rfl, rfl⟩))
    (fun os started H enc _ => lifted_FnExactStoreFlush os started H enc)
#print axioms FnExactStoreFlush_holds
end Go.Proofs.YtjaibcpidajdcaaGreat
