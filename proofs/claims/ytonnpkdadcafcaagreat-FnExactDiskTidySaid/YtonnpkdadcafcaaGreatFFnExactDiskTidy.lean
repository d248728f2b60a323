/- The statement: for every input the law returns true, and the input reads as it did. Conditions: none. -/
import Derived.Test.YtonnpkdadcafcaaGreatA4
import Derived.Test.YtonnpkdadcafcaaGreatRows
import Derived.Test.YtonnpkdadcafcaaGreatGFnExactDiskTidy
namespace Go.Proofs.YtonnpkdadcafcaaGreat
open Go Go.Sx Go.ChangeShapes Go.WideShapes Go.ChangeAt Go.RowKit
theorem Tryz.own : ownKnob Tryz.prog.godebug = none := by kernel_rfl
theorem Tryz.laidOut : laidOutB Tryz.prog = true := by kernel_rfl
theorem bg3 : Bg Tryz.prog 3 Int := Bg.int Tryz.underlying3
theorem bg23 : Bg Tryz.prog 23 (List Int) := Bg.slice Tryz.underlying23 (by kernel_rfl) bg3
theorem bg166 : Bg Tryz.prog 166 Row := Bg.struct Tryz.underlying166 (by kernel_rfl) (BgF.cons rfl (by kernel_rfl) bg3 (BgF.one rfl (by kernel_rfl) bg3))
theorem bg222 : Bg Tryz.prog 222 (List Row) := Bg.slice Tryz.underlying222 (by kernel_rfl) bg166
theorem bg118 : Bg Tryz.prog 118 (List (List Row)) := Bg.slice Tryz.underlying118 (by kernel_rfl) bg222
theorem bg120 : Bg Tryz.prog 120 Part := Bg.struct Tryz.underlying120 (by kernel_rfl) (BgF.cons rfl (by kernel_rfl) bg23 (BgF.one rfl (by kernel_rfl) bg118))
theorem bg127 : Bg Tryz.prog 127 File := Bg.struct Tryz.underlying127 (by kernel_rfl) (BgF.cons rfl (by kernel_rfl) bg3 (BgF.one rfl (by kernel_rfl) bg120))
theorem bg22 : Bg Tryz.prog 22 (List File) := Bg.slice Tryz.underlying22 (by kernel_rfl) bg127
theorem bg9 : Bg Tryz.prog 9 ByteArray := Bg.str Tryz.underlying9
theorem bg180 : Bg Tryz.prog 180 Tag := Bg.struct Tryz.underlying180 (by kernel_rfl) (BgF.cons rfl (by kernel_rfl) bg9 (BgF.one rfl (by kernel_rfl) bg9))
theorem bg129 : Bg Tryz.prog 129 (List Tag) := Bg.slice Tryz.underlying129 (by kernel_rfl) bg180
theorem bg24 : Bg Tryz.prog 24 (List (List Tag)) := Bg.slice Tryz.underlying24 (by kernel_rfl) bg129
theorem bg26 : Bg Tryz.prog 26 Disk := Bg.struct Tryz.underlying26 (by kernel_rfl) (BgF.cons rfl (by kernel_rfl) bg22 (BgF.cons rfl (by kernel_rfl) bg23 (BgF.cons rfl (by kernel_rfl) bg24 (BgF.one rfl (by kernel_rfl) bg3))))
set_option maxRecDepth 100000 in
theorem call_FnExactDiskTidy {H : Type} {enc : TypeId × Value → H} {W : Go.World} {b0 : Nat} {v0 : Value} {d0 : DataW H} {p0 : List MemPlace} (h0 : DataW.Trod enc Tryz.prog W 0 (fun _ => true) true 26 v0 d0 p0) (k0 : Value.okWide Tryz.prog W .any b0 26 v0) : Calls Tryz.prog 5 #[v0] W fun e W' => e = .returned (.bool true) ∧ Below W.heap.size W W' := by
  obtain ⟨n0, h0⟩ := h0
  obtain ⟨a0, r0, z0⟩ := bg26 H enc W n0 _ _ h0
  obtain ⟨x0, e0, s0⟩ := Dp.op r0
  have e0 : v0.cells.toList = [.slice x0.1.1 a0.1.length x0.1.2.1, .slice x0.2.1.1 a0.2.1.length x0.2.1.2.1, .slice x0.2.2.1.1 a0.2.2.1.length x0.2.2.1.2.1, .int .i64 (a0.2.2.2)] := e0
  obtain rfl := val_struct Tryz.underlying26 k0 e0
  have hE : Ents [dp a0 x0] [imm (.slice x0.1.1 a0.1.length x0.1.2.1) a0.1, imm (.slice x0.2.1.1 a0.2.1.length x0.2.1.2.1) a0.2.1, imm (.slice x0.2.2.1.1 a0.2.2.1.length x0.2.2.1.2.1) a0.2.2.1] := (Ents.cons (Ent.dimm (Ent.dfst Ent.z)) (Ents.cons (Ent.dimm (Ent.dfst (Ent.dsnd Ent.z))) (Ents.cons (Ent.dimm (Ent.dfst (Ent.dsnd (Ent.dsnd Ent.z)))) Ents.nil)))
  refine (c_laws_FnExactDiskTidy (r := true) a0 ((x0.1.1, x0.1.2.1), (x0.2.1.1, x0.2.1.2.1), (x0.2.2.1.1, x0.2.2.1.2.1), ()) (e_FnExactDiskTidy a0 (Dp.okd s0) z0)).law fun g hg => hE g hg W _ fun f hf => ?_
  rcases List.mem_cons.1 hf with rfl | hf
  · exact s0
  cases hf
set_option maxRecDepth 100000 in
theorem lifted_FnExactDiskTidy (os : Os) (started : os.Started) (H : Type) (enc : TypeId × Value → H) :
    ReturnsInHanded {} Tryz.checked os 5 .any (Rows.fnExactDiskTidySpec.pre6 enc Tryz.prog Tryz.f5 Rows.fnExactDiskTidyRow.domain false) (Rows.fnExactDiskTidySpec.post enc Tryz.prog Tryz.f5 false true false false) := by
  refine returnsInHanded_of_change (C := Tryz.checked) Tryz.own started (by kernel_rfl) Tryz.func5
    (ChangeSpec.witness6 (enc := enc) (C := Tryz.checked) false ⟨#[], #[.agg #[.slice none 0 0, .slice none 0 0, .slice none 0 0, .int .i64 0]], []⟩ 8 (by kernel_rfl) (by kernel_rfl) (by kernel_rfl) (by kernel_rfl)) ?_
  intro W base args ds gs before hval0 hW hcnd _
  have hval : ∀ (j : Nat) t v, Tryz.f5.params[j]? = some t → args[j]? = some v → Value.okWide Tryz.prog W .any base t v := hval0
  have hW' : DataW.Whole enc Tryz.prog Tryz.f5.params.toList Rows.fnExactDiskTidySpec.vars false W args.toList ds gs before := hW
  obtain ⟨p, q, hA0, hV, rfl, hfz, hnd⟩ := hW
  have hA : DataW.TrodAll enc Tryz.prog W 0 (fun _ => true) true Tryz.f5.params.toList args.toList ds p := hA0
  rw [Tryz.params5] at hA hval
  obtain ⟨v0, d0, rfl, rfl, h0⟩ := trodAll_one hA
  obtain ⟨rfl, rfl⟩ := trodVars_none hV
  refine (call_FnExactDiskTidy h0 (hval 0 26 v0 rfl rfl)).mono fun e W' ⟨he, hw⟩ => ?_
  subst he
  exact ⟨_, rfl, post_law Tryz.laidOut hW' hw (by kernel_rfl) rfl rfl Tryz.underlying4 rfl⟩
theorem FnExactDiskTidy_holds : Rows.FnExactDiskTidySaid :=
  OpenClaim.holds_of_wide 5 Tryz.f5 rfl rfl rfl rfl rfl rfl rfl ⟨rfl, rfl, rfl, rfl, rfl⟩ rfl rfl rfl rfl rfl (by kernel_rfl) Tryz.func5 closed_FnExactDiskTidy
    (of_decide_eq_true (by kernel_rfl)) (by unfold Func.isWrapper; first | (rw [if_pos (by decide +kernel)]; kernel_rfl) | (rw [if_neg (by decide +kernel)]; exact ⟨rfl, rfl⟩))
    (fun os started H enc _ => lifted_FnExactDiskTidy os started H enc)
#print axioms FnExactDiskTidy_holds
end Go.Proofs.YtonnpkdadcafcaaGreat
