/- The statement: for every input the law returns true, and the input reads as it did. Conditions: none. -/
import Derived.Test.YtlkcnfjdhkoelaaGreatA3
import Derived.Test.YtlkcnfjdhkoelaaGreatRows
import Derived.Test.YtlkcnfjdhkoelaaGreatGFnExactStoreAsk
namespace Go.Proofs.YtlkcnfjdhkoelaaGreat
open Go Go.Sx Go.ChangeShapes Go.WideShapes Go.ChangeAt Go.RowKit
theorem Tryz.own : ownKnob Tryz.prog.godebug = none := by kernel_rfl
theorem Tryz.laidOut : laidOutB Tryz.prog = true := by kernel_rfl
theorem bg9 : Bg Tryz.prog 9 ByteArray := Bg.str Tryz.underlying9
theorem bg90 : Bg Tryz.prog 90 Tag := Bg.struct Tryz.underlying90 (by kernel_rfl) (BgF.cons rfl (by kernel_rfl) bg9 (BgF.one rfl (by kernel_rfl) bg9))
theorem bg193 : Bg Tryz.prog 193 (List Tag) := Bg.slice Tryz.underlying193 (by kernel_rfl) bg90
theorem bg22 : Bg Tryz.prog 22 (List (List Tag)) := Bg.slice Tryz.underlying22 (by kernel_rfl) bg193
theorem bg3 : Bg Tryz.prog 3 Int := Bg.int Tryz.underlying3
theorem bg69 : Bg Tryz.prog 69 (List Int) := Bg.slice Tryz.underlying69 (by kernel_rfl) bg3
theorem bg196 : Bg Tryz.prog 196 Post := Bg.struct Tryz.underlying196 (by kernel_rfl) (BgF.cons rfl (by kernel_rfl) bg90 (BgF.one rfl (by kernel_rfl) bg69))
theorem bg23 : Bg Tryz.prog 23 (List Post) := Bg.slice Tryz.underlying23 (by kernel_rfl) bg196
theorem bg25 : Bg Tryz.prog 25 Index := Bg.struct Tryz.underlying25 (by kernel_rfl) (BgF.cons rfl (by kernel_rfl) bg22 (BgF.one rfl (by kernel_rfl) bg23))
theorem bg153 : Bg Tryz.prog 153 Row := Bg.struct Tryz.underlying153 (by kernel_rfl) (BgF.cons rfl (by kernel_rfl) bg3 (BgF.one rfl (by kernel_rfl) bg3))
theorem bg234 : Bg Tryz.prog 234 (List Row) := Bg.slice Tryz.underlying234 (by kernel_rfl) bg153
theorem bg144 : Bg Tryz.prog 144 (List (List Row)) := Bg.slice Tryz.underlying144 (by kernel_rfl) bg234
theorem bg146 : Bg Tryz.prog 146 Part := Bg.struct Tryz.underlying146 (by kernel_rfl) (BgF.cons rfl (by kernel_rfl) bg69 (BgF.one rfl (by kernel_rfl) bg144))
theorem bg26 : Bg Tryz.prog 26 (List Part) := Bg.slice Tryz.underlying26 (by kernel_rfl) bg146
theorem bg155 : Bg Tryz.prog 155 Sample := Bg.struct Tryz.underlying155 (by kernel_rfl) (BgF.cons rfl (by kernel_rfl) bg3 (BgF.one rfl (by kernel_rfl) bg153))
theorem bg27 : Bg Tryz.prog 27 (List Sample) := Bg.slice Tryz.underlying27 (by kernel_rfl) bg155
theorem bg29 : Bg Tryz.prog 29 Store := Bg.struct Tryz.underlying29 (by kernel_rfl) (BgF.cons rfl (by kernel_rfl) bg25 (BgF.cons rfl (by kernel_rfl) bg26 (BgF.one rfl (by kernel_rfl) bg27)))
theorem bg4 : Bg Tryz.prog 4 Bool := Bg.bool Tryz.underlying4
theorem bg92 : Bg Tryz.prog 92 Cond := Bg.struct Tryz.underlying92 (by kernel_rfl) (BgF.cons rfl (by kernel_rfl) bg90 (BgF.one rfl (by kernel_rfl) bg4))
theorem bg30 : Bg Tryz.prog 30 (List Cond) := Bg.slice Tryz.underlying30 (by kernel_rfl) bg92
set_option maxRecDepth 100000 in
theorem call_FnExactStoreAsk {H : Type} {enc : TypeId × Value → H} {W : Go.World} {b0 : Nat} {v0 : Value} {d0 : DataW H} {p0 : List MemPlace} (h0 : DataW.Trod enc Tryz.prog W 0 (fun _ => true) true 29 v0 d0 p0) (k0 : Value.okWide Tryz.prog W .any b0 29 v0) {v1 : Value} {d1 : DataW H} {p1 : List MemPlace} (h1 : DataW.Trod enc Tryz.prog W 0 (fun _ => true) true 30 v1 d1 p1) (k1 : Value.okWide Tryz.prog W .any b0 30 v1) {v2 : Value} {d2 : DataW H} {p2 : List MemPlace} (h2 : DataW.Trod enc Tryz.prog W 0 (fun _ => true) true 3 v2 d2 p2) (k2 : Value.okWide Tryz.prog W .any b0 3 v2) {v3 : Value} {d3 : DataW H} {p3 : List MemPlace} (h3 : DataW.Trod enc Tryz.prog W 0 (fun _ => true) true 3 v3 d3 p3) (k3 : Value.okWide Tryz.prog W .any b0 3 v3) : Calls Tryz.prog 3 #[v0, v1, v2, v3] W fun e W' => e = .returned (.bool true) ∧ Below W.heap.size W W' := by
  obtain ⟨n0, h0⟩ := h0
  obtain ⟨a0, r0, z0⟩ := bg29 H enc W n0 _ _ h0
  obtain ⟨x0, e0, s0⟩ := Dp.op r0
  have e0 : v0.cells.toList = [.slice x0.1.1.1 a0.1.1.length x0.1.1.2.1, .slice x0.1.2.1 a0.1.2.length x0.1.2.2.1, .slice x0.2.1.1 a0.2.1.length x0.2.1.2.1, .slice x0.2.2.1 a0.2.2.length x0.2.2.2.1] := e0
  obtain rfl := val_struct Tryz.underlying29 k0 e0
  obtain ⟨n1, h1⟩ := h1
  obtain ⟨a1, r1, z1⟩ := bg30 H enc W n1 _ _ h1
  obtain ⟨x1, e1, s1⟩ := Dp.op r1
  have e1 : v1.cells.toList = [.slice x1.1 a1.length x1.2.1] := e1
  obtain rfl := val_slice Tryz.underlying30 k1 e1
  obtain ⟨n2, h2⟩ := h2
  obtain ⟨a2, r2, z2⟩ := bg3 H enc W n2 _ _ h2
  obtain ⟨x2, e2, s2⟩ := Dp.op r2
  have e2 : v2.cells.toList = [.int .i64 (a2)] := e2
  obtain rfl := val_int Tryz.underlying3 k2 e2
  obtain ⟨n3, h3⟩ := h3
  obtain ⟨a3, r3, z3⟩ := bg3 H enc W n3 _ _ h3
  obtain ⟨x3, e3, s3⟩ := Dp.op r3
  have e3 : v3.cells.toList = [.int .i64 (a3)] := e3
  obtain rfl := val_int Tryz.underlying3 k3 e3
  have hE : Ents [dp a0 x0, dp a1 x1, dp a2 x2, dp a3 x3] [imm (.slice x0.1.1.1 a0.1.1.length x0.1.1.2.1) a0.1.1, imm (.slice x0.1.2.1 a0.1.2.length x0.1.2.2.1) a0.1.2, imm (.slice x0.2.1.1 a0.2.1.length x0.2.1.2.1) a0.2.1, imm (.slice x0.2.2.1 a0.2.2.length x0.2.2.2.1) a0.2.2, imm (.slice x1.1 a1.length x1.2.1) a1] := (Ents.cons (Ent.dimm (Ent.dfst (Ent.dfst Ent.z))) (Ents.cons (Ent.dimm (Ent.dsnd (Ent.dfst Ent.z))) (Ents.cons (Ent.dimm (Ent.dfst (Ent.dsnd Ent.z))) (Ents.cons (Ent.dimm (Ent.dsnd (Ent.dsnd Ent.z))) (Ents.cons (Ent.dimm Ent.z.s) Ents.nil)))))
  refine (c_laws_FnExactStoreAsk (r := true) a0 (((x0.1.1.1, x0.1.1.2.1), (x0.1.2.1, x0.1.2.2.1)), (x0.2.1.1, x0.2.1.2.1), (x0.2.2.1, x0.2.2.2.1)) a1 (x1.1, x1.2.1) a2 a3 (e_FnExactStoreAsk a0 a1 a2 a3 (Dp.okd s0) (Dp.okd s1) (Dp.okd s2) (Dp.okd s3) z0 z1)).law fun g hg => hE g hg W _ fun f hf => ?_
  rcases List.mem_cons.1 hf with rfl | hf
  · exact s0
  rcases List.mem_cons.1 hf with rfl | hf
  · exact s1
  rcases List.mem_cons.1 hf with rfl | hf
  · exact s2
  rcases List.mem_cons.1 hf with rfl | hf
  · exact s3
  cases hf
set_option maxRecDepth 100000 in
theorem lifted_FnExactStoreAsk (os : Os) (started : os.Started) (H : Type) (enc : TypeId × Value → H) :
    ReturnsInHanded {} Tryz.checked os 3 .any (Rows.fnExactStoreAskSpec.pre6 enc Tryz.prog Tryz.f3 Rows.fnExactStoreAskRow.domain false) (Rows.fnExactStoreAskSpec.post enc Tryz.prog Tryz.f3 false true false false) := by
  refine returnsInHanded_of_change (C := Tryz.checked) Tryz.own started (by kernel_rfl) Tryz.func3
    (ChangeSpec.witness6 (enc := enc) (C := Tryz.checked) false ⟨#[], #[.agg #[.slice none 0 0, .slice none 0 0, .slice none 0 0, .slice none 0 0], .slice none 0 0, .int .i64 0, .int .i64 0], []⟩ 8 (by kernel_rfl) (by kernel_rfl) (by kernel_rfl) (by kernel_rfl)) ?_
  intro W base args ds gs before hval0 hW hcnd _
  have hval : ∀ (j : Nat) t v, Tryz.f3.params[j]? = some t → args[j]? = some v → Value.okWide Tryz.prog W .any base t v := hval0
  have hW' : DataW.Whole enc Tryz.prog Tryz.f3.params.toList Rows.fnExactStoreAskSpec.vars false W args.toList ds gs before := hW
  obtain ⟨p, q, hA0, hV, rfl, hfz, hnd⟩ := hW
  have hA : DataW.TrodAll enc Tryz.prog W 0 (fun _ => true) true Tryz.f3.params.toList args.toList ds p := hA0
  rw [Tryz.params3] at hA hval
  obtain ⟨v0, v1, v2, v3, d0, d1, d2, d3, p0, p1, p2, p3, rfl, rfl, rfl, h0, h1, h2, h3⟩ := trodAll_four hA
  obtain ⟨rfl, rfl⟩ := trodVars_none hV
  refine (call_FnExactStoreAsk h0 (hval 0 29 v0 rfl rfl) h1 (hval 1 30 v1 rfl rfl) h2 (hval 2 3 v2 rfl rfl) h3 (hval 3 3 v3 rfl rfl)).mono fun e W' ⟨he, hw⟩ => ?_
  subst he
  exact ⟨_, rfl, post_law Tryz.laidOut hW' hw (by kernel_rfl) rfl rfl Tryz.underlying4 rfl⟩
theorem FnExactStoreAsk_holds : Rows.FnExactStoreAskSaid :=
  OpenClaim.holds_of_wide 3 Tryz.f3 rfl rfl rfl rfl rfl rfl rfl ⟨rfl, rfl, rfl, rfl, rfl⟩ rfl rfl rfl rfl rfl (by kernel_rfl) Tryz.func3 closed_FnExactStoreAsk
    (of_decide_eq_true (by kernel_rfl)) (by unfold Func.isWrapper; first | (rw [if_pos (by decide +kernel)]; kernel_rfl) | (rw [if_neg (by decide +kernel)]; exact ⟨rfl, rfl⟩))
    (fun os started H enc _ => lifted_FnExactStoreAsk os started H enc)
#print axioms FnExactStoreAsk_holds
end Go.Proofs.YtlkcnfjdhkoelaaGreat
