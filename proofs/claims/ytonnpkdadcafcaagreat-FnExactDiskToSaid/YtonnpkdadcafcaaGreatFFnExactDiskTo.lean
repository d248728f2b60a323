/- The statement: for every input the law returns true, and the input reads as it did. Conditions: none. -/
import Derived.Test.YtonnpkdadcafcaaGreatA4
import Derived.Test.YtonnpkdadcafcaaGreatRows
import Derived.Test.YtonnpkdadcafcaaGreatGFnExactDiskTo
namespace Go.Proofs.YtonnpkdadcafcaaGreat
open Go Go.Sx Go.ChangeShapes Go.WideShapes Go.ChangeAt Go.RowKit
theorem Tryz.own : ownKnob Tryz.prog.godebug = none := by kernel_rfl
theorem Tryz.laidOut : laidOutB Tryz.prog = true := by kernel_rfl
theorem bg3 : Bg Tryz.prog 3 Int := Bg.int Tryz.underlying3
theorem bg23 : Bg Tryz.prog 23 (List Int) := Bg.slice Tryz.underlying23 (by kernel_rfl) bg3
theorem bg166 : Bg Tryz.prog 166 Row := Bg.struct Tryz.underlying166 (by kernel_rfl) (BgF.cons rfl (by kernel_rfl) bg3 (BgF.one rfl (by kernel_rfl) bg3))
theorem bg222 : Bg Tryz.prog 222 (List Row) := Bg.slice Tryz.underlying222 (by kernel_rfl) bg166
theorem bg118 : Bg Tryz.prog 118 (List (List Row)) := Bg.slice Tryz.underlying118 (by kernel_rfl) bg222
theorem bg120 : Bg Tryz.prog 120 Part := Bg.struct Tryz.underlying120 (by kernel_rfl) (BgF.cons rfl (by kernel_rfl) bg23 (BgF.one rfl (by kernel_rfl) bg118))
theorem bg127 : Bg Tryz.prog 127 File := Bg.struct Tryz.underlying127 (by kernel_rfl) (BgF.cons rfl (by kernel_rfl) bg3 (BgF.one rfl (by kernel_rfl) bg120))
theorem bg22 : Bg Tryz.prog 22 (List File) := Bg.slice Tryz.underlying22 (by kernel_rfl) bg127
theorem bg9 : Bg Tryz.prog 9 ByteArray := Bg.str Tryz.underlying9
theorem bg180 : Bg Tryz.prog 180 Tag := Bg.struct Tryz.underlying180 (by kernel_rfl) (BgF.cons rfl (by kernel_rfl) bg9 (BgF.one rfl (by kernel_rfl) bg9))
theorem bg129 : Bg Tryz.prog 129 (List Tag) := Bg.slice Tryz.underlying129 (by kernel_rfl) bg180
theorem bg24 : Bg Tryz.prog 24 (List (List Tag)) := Bg.slice Tryz.underlying24 (by kernel_rfl) bg129
theorem bg26 : Bg Tryz.prog 26 Disk := Bg.struct Tryz.underlying26 (by kernel_rfl) (BgF.cons rfl (by kernel_rfl) bg22 (BgF.cons rfl (by kernel_rfl) bg23 (BgF.cons rfl (by kernel_rfl) bg24 (BgF.one rfl (by kernel_rfl) bg3))))
theorem bg122 : Bg Tryz.prog 122 Step := Bg.struct Tryz.underlying122 (by kernel_rfl) (BgF.cons rfl (by kernel_rfl) bg3 (BgF.cons rfl (by kernel_rfl) bg3 (BgF.cons rfl (by kernel_rfl) bg120 (BgF.cons rfl (by kernel_rfl) bg23 (BgF.one rfl (by kernel_rfl) bg24)))))
theorem bg64 : Bg Tryz.prog 64 (List Step) := Bg.slice Tryz.underlying64 (by kernel_rfl) bg122
set_option maxRecDepth 100000 in
theorem call_FnExactDiskTo {H : Type} {enc : TypeId × Value → H} {W : Go.World} {b0 : Nat} {v0 : Value} {d0 : DataW H} {p0 : List MemPlace} (h0 : DataW.Trod enc Tryz.prog W 0 (fun _ => true) true 26 v0 d0 p0) (k0 : Value.okWide Tryz.prog W .any b0 26 v0) {v1 : Value} {d1 : DataW H} {p1 : List MemPlace} (h1 : DataW.Trod enc Tryz.prog W 0 (fun _ => true) true 64 v1 d1 p1) (k1 : Value.okWide Tryz.prog W .any b0 64 v1) {v2 : Value} {d2 : DataW H} {p2 : List MemPlace} (h2 : DataW.Trod enc Tryz.prog W 0 (fun _ => true) true 3 v2 d2 p2) (k2 : Value.okWide Tryz.prog W .any b0 3 v2) : Calls Tryz.prog 8 #[v0, v1, v2] W fun e W' => e = .returned (.bool true) ∧ Below W.heap.size W W' := by
  obtain ⟨n0, h0⟩ := h0
  obtain ⟨a0, r0, z0⟩ := bg26 H enc W n0 _ _ h0
  obtain ⟨x0, e0, s0⟩ := Dp.op r0
  have e0 : v0.cells.toList = [.slice x0.1.1 a0.1.length x0.1.2.1, .slice x0.2.1.1 a0.2.1.length x0.2.1.2.1, .slice x0.2.2.1.1 a0.2.2.1.length x0.2.2.1.2.1, .int .i64 (a0.2.2.2)] := e0
  obtain rfl := val_struct Tryz.underlying26 k0 e0
  obtain ⟨n1, h1⟩ := h1
  obtain ⟨a1, r1, z1⟩ := bg64 H enc W n1 _ _ h1
  obtain ⟨x1, e1, s1⟩ := Dp.op r1
  have e1 : v1.cells.toList = [.slice x1.1 a1.length x1.2.1] := e1
  obtain rfl := val_slice Tryz.underlying64 k1 e1
  obtain ⟨n2, h2⟩ := h2
  obtain ⟨a2, r2, z2⟩ := bg3 H enc W n2 _ _ h2
  obtain ⟨x2, e2, s2⟩ := Dp.op r2
  have e2 : v2.cells.toList = [.int .i64 (a2)] := e2
  obtain rfl := val_int Tryz.underlying3 k2 e2
  have hE : Ents [dp a0 x0, dp a1 x1, dp a2 x2] [imm (.slice x0.1.1 a0.1.length x0.1.2.1) a0.1, imm (.slice x0.2.1.1 a0.2.1.length x0.2.1.2.1) a0.2.1, imm (.slice x0.2.2.1.1 a0.2.2.1.length x0.2.2.1.2.1) a0.2.2.1, imm (.slice x1.1 a1.length x1.2.1) a1] := (Ents.cons (Ent.dimm (Ent.dfst Ent.z)) (Ents.cons (Ent.dimm (Ent.dfst (Ent.dsnd Ent.z))) (Ents.cons (Ent.dimm (Ent.dfst (Ent.dsnd (Ent.dsnd Ent.z)))) (Ents.cons (Ent.dimm Ent.z.s) Ents.nil))))
  refine (c_laws_FnExactDiskTo (r := true) a0 ((x0.1.1, x0.1.2.1), (x0.2.1.1, x0.2.1.2.1), (x0.2.2.1.1, x0.2.2.1.2.1), ()) a1 (x1.1, x1.2.1) a2 (e_FnExactDiskTo a0 a1 a2 (Dp.okd s0) (Dp.okd s1) (Dp.okd s2) z0 z1)).law fun g hg => hE g hg W _ fun f hf => ?_
  rcases List.mem_cons.1 hf with rfl | hf
  · exact s0
  rcases List.mem_cons.1 hf with rfl | hf
  · exact s1
  rcases List.mem_cons.1 hf with rfl | hf
  · exact s2
  cases hf
set_option maxRecDepth 100000 in
theorem lifted_FnExactDiskTo (os : Os) (started : os.Started) (H : Type) (enc : TypeId × Value → H) :
    ReturnsInHanded {} Tryz.checked os 8 .any (Rows.fnExactDiskToSpec.pre6 enc Tryz.prog Tryz.f8 Rows.fnExactDiskToRow.domain false) (Rows.fnExactDiskToSpec.post enc Tryz.prog Tryz.f8 false true false false) := by
  refine returnsInHanded_of_change (C := Tryz.checked) Tryz.own started (by kernel_rfl) Tryz.func8
    (ChangeSpec.witness6 (enc := enc) (C := Tryz.checked) false ⟨#[], #[.agg #[.slice none 0 0, .slice none 0 0, .slice none 0 0, .int .i64 0], .slice none 0 0, .int .i64 0], []⟩ 8 (by kernel_rfl) (by kernel_rfl) (by kernel_rfl) (by kernel_rfl)) ?_
  intro W base args ds gs before hval0 hW hcnd _
  have hval : ∀ (j : Nat) t v, Tryz.f8.params[j]? = some t → args[j]? = some v → Value.okWide Tryz.prog W .any base t v := hval0
  have hW' : DataW.Whole enc Tryz.prog Tryz.f8.params.toList Rows.fnExactDiskToSpec.vars false W args.toList ds gs before := hW
  obtain ⟨p, q, hA0, hV, rfl, hfz, hnd⟩ := hW
  have hA : DataW.TrodAll enc Tryz.prog W 0 (fun _ => true) true Tryz.f8.params.toList args.toList ds p := hA0
  rw [Tryz.params8] at hA hval
  obtain ⟨v0, v1, v2, d0, d1, d2, p0, p1, p2, rfl, rfl, rfl, h0, h1, h2⟩ := trodAll_three hA
  obtain ⟨rfl, rfl⟩ := trodVars_none hV
  refine (call_FnExactDiskTo h0 (hval 0 26 v0 rfl rfl) h1 (hval 1 64 v1 rfl rfl) h2 (hval 2 3 v2 rfl rfl)).mono fun e W' ⟨he, hw⟩ => ?_
  subst he
  exact ⟨_, rfl, post_law Tryz.laidOut hW' hw (by kernel_rfl) rfl rfl Tryz.underlying4 rfl⟩
theorem FnExactDiskTo_holds : Rows.FnExactDiskToSaid :=
  OpenClaim.holds_of_wide 8 Tryz.f8 rfl rfl rfl rfl rfl rfl rfl ⟨rfl, rfl, rfl, rfl, rfl⟩ rfl rfl rfl rfl rfl (by kernel_rfl) Tryz.func8 closed_FnExactDiskTo
    (of_decide_eq_true (by kernel_rfl)) (by unfold Func.isWrapper; first | (rw [if_pos (by decide +kernel)]; kernel_rfl) | (rw [if_neg (by decide +kernel)]; exact ⟨rfl, rfl⟩))
    (fun os started H enc _ => lifted_FnExactDiskTo os started H enc)
#print axioms FnExactDiskTo_holds
end Go.Proofs.YtonnpkdadcafcaaGreat
