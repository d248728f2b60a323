/- The statement: for every input the law returns true, and the input reads as it did. Conditions: none. -/
import Derived.Test.YtchccgdjelhenaaDoorA1
import Derived.Test.YtchccgdjelhenaaDoorRows
import Derived.Test.YtchccgdjelhenaaDoorGFnNameOne
import Derived.Test.YtchccgdjelhenaaDoorTie
import Derived.Test.YtchccgdjelhenaaDoorCards
import Derived.ProofKit
import Derived.Lay
import Derived.LaidMore
import Derived.LaidOnce
import Derived.SevenTiedAt
namespace Go.Proofs.YtchccgdjelhenaaDoor
open Go Go.Sx Go.ChangeShapes Go.WideShapes Go.ChangeAt Go.RowKit
theorem Tryd.own : ownKnob Tryd.prog.godebug = none := by kernel_rfl
theorem Tryd.laidOut : laidOutB Tryd.prog = true := by kernel_rfl
theorem bg5 : Bg Tryd.prog 5 UInt8 := Bg.u8 Tryd.underlying5
theorem bg33 : Bg Tryd.prog 33 (List UInt8) := Bg.slice Tryd.underlying33 (by kernel_rfl) bg5
set_option maxRecDepth 100000 in
theorem call_FnNameOne {H : Type} {enc : TypeId × Value → H} {W : Go.World} {b0 : Nat} {v0 : Value} {d0 : DataW H} {p0 : List MemPlace} (h0 : DataW.Trod enc Tryd.prog W 0 (fun _ => true) true 33 v0 d0 p0) (k0 : Value.okWide Tryd.prog W .any b0 33 v0) {v1 : Value} {d1 : DataW H} {p1 : List MemPlace} (h1 : DataW.Trod enc Tryd.prog W 0 (fun _ => true) true 33 v1 d1 p1) (k1 : Value.okWide Tryd.prog W .any b0 33 v1) : Calls Tryd.prog 7 #[v0, v1] W fun e W' => e = .returned (.bool true) ∧ Below W.heap.size W W' := by
  obtain ⟨n0, h0⟩ := h0
  obtain ⟨a0, r0, z0⟩ := bg33 H enc W n0 _ _ h0
  obtain ⟨x0, e0, s0⟩ := Dp.op r0
  have e0 : v0.cells.toList = [.slice x0.1 a0.length x0.2.1] := e0
  obtain rfl := val_slice Tryd.underlying33 k0 e0
  obtain ⟨n1, h1⟩ := h1
  obtain ⟨a1, r1, z1⟩ := bg33 H enc W n1 _ _ h1
  obtain ⟨x1, e1, s1⟩ := Dp.op r1
  have e1 : v1.cells.toList = [.slice x1.1 a1.length x1.2.1] := e1
  obtain rfl := val_slice Tryd.underlying33 k1 e1
  have hE : Ents [dp a0 x0, dp a1 x1] [imm (.slice x0.1 a0.length x0.2.1) a0, imm (.slice x1.1 a1.length x1.2.1) a1] := (Ents.cons (Ent.dimm Ent.z) (Ents.cons (Ent.dimm Ent.z.s) Ents.nil))
  refine (c_laws_FnNameOne (r := true) a0 (x0.1, x0.2.1) a1 (x1.1, x1.2.1) (e_FnNameOne a0 a1 (Dp.okd s0) (Dp.okd s1))).law fun g hg => hE g hg W _ fun f hf => ?_
  rcases List.mem_cons.1 hf with rfl | hf
  · exact s0
  rcases List.mem_cons.1 hf with rfl | hf
  · exact s1
  cases hf
def laidD_FnNameOne : List (String × DataW Unit) := [("unicode/utf8.acceptRanges", Rows.laid_unicode_utf8_acceptRanges), ("unicode/utf8.first", Rows.laid_unicode_utf8_first)]
set_option maxRecDepth 100000 in
theorem lifted_FnNameOne (os : Os) (started : os.Started) (H : Type) (enc : TypeId × Value → H) :
    ReturnsInHanded {} Tryd.checked os 7 .any (fun w args => (Rows.fnNameOneSpec.pre enc Tryd.prog Tryd.f7 [] false w args ∧ laidMetH Tryd.prog laidD_FnNameOne w) ∧ sizedMet enc Tryd.prog Tryd.f7 (OpenSpec.ofChange Rows.fnNameOneSpec) false w args) (Rows.fnNameOneSpec.post enc Tryd.prog Tryd.f7 false true false false) := by
  refine returnsInHanded_of_change_and (C := Tryd.checked) (X := (fun w _ => laidMetH Tryd.prog laidD_FnNameOne w)) (fun _ _ _ hh h => h.of_heap hh) Tryd.own started (by kernel_rfl) Tryd.func7
    (ChangeSpec.witness_shaped (enc := enc) (C := Tryd.checked) (os := os) (X := (fun w _ => laidMetH Tryd.prog laidD_FnNameOne w)) false (World.laidAll Tryd.prog os laidD_FnNameOne) #[.slice none 0 0, .slice none 0 0] 8 (World.laidAll_os _ _ _)
      (World.shaped_of_ZipB (by kernel_rfl) (by kernel_rfl)) (by kernel_rfl) (by kernel_rfl) (by kernel_rfl)
      (by rw [MakeChecks.laidMetH_plain _ _ _ (by kernel_rfl)]; exact laidMet_laidAll _ (by kernel_rfl) (by kernel_rfl))) ?_
  intro W base args ds gs before hval0 hW _ _ _ _
  have hval : ∀ (j : Nat) t v, Tryd.f7.params[j]? = some t → args[j]? = some v → Value.okWide Tryd.prog W .any base t v := hval0
  have hW' : DataW.Whole enc Tryd.prog Tryd.f7.params.toList Rows.fnNameOneSpec.vars false W args.toList ds gs before := hW
  obtain ⟨p, q, hA0, hV, rfl, hfz, hnd⟩ := hW
  have hA : DataW.TrodAll enc Tryd.prog W 0 (fun _ => true) true Tryd.f7.params.toList args.toList ds p := hA0
  rw [Tryd.params7] at hA hval
  obtain ⟨v0, v1, d0, d1, p0, p1, rfl, rfl, rfl, h0, h1⟩ := trodAll_two hA
  obtain ⟨rfl, rfl⟩ := trodVars_none hV
  refine (call_FnNameOne h0 (hval 0 33 v0 rfl rfl) h1 (hval 1 33 v1 rfl rfl)).mono fun e W' ⟨he, hw⟩ => ?_
  subst he
  exact ⟨_, rfl, post_law Tryd.laidOut hW' hw (by kernel_rfl) rfl rfl Tryd.underlying4 rfl⟩
theorem FnNameOne_row : Rows.FnNameOneSaid :=
  OpenClaim.holds_of_wide 7 Tryd.f7 rfl rfl rfl rfl rfl rfl rfl ⟨rfl, rfl, rfl, rfl, rfl⟩ rfl rfl rfl rfl rfl (by kernel_rfl) Tryd.func7 closed_FnNameOne
    (of_decide_eq_true (by kernel_rfl)) (by unfold Func.isWrapper; first | (rw [if_pos (by decide +kernel)]; kernel_rfl) | (rw [if_neg (by decide +kernel)]; exact ⟨rfl, rfl⟩))
    (fun os started H enc _ => lifted_FnNameOne os started H enc)
theorem FnNameOne_holds : Rows.FnNameOneCardSaid :=
  Claim7.holds_tied_plain_at .later [] [.data, .pinned] true (true, "36eb64964a87af143b1181dedb2aba441876bf81261ef567faa431572b8b2696") false FnNameOne_row (fun _ h => by cases h) (by kernel_rfl) (fun _ h => by cases h) fnNameOne_row_tie rfl ⟨rfl, rfl⟩ (by kernel_rfl) rfl
    (fun f fn hf hfn => by
      obtain rfl : f = 7 := Option.some.inj ((show Tryd.prog.funcNamed "loop.example/chronicler/laws.FnNameOne" = some 7 by kernel_rfl).symm.trans hf) |>.symm
      obtain rfl : fn = Tryd.f7 := (Option.some.inj (Tryd.func7.symm.trans hfn)).symm
      exact ⟨by kernel_rfl, fun j t ht => by
        rw [Tryd.params7] at ht
        have hm : t ∈ [33, 33] := by simpa using Array.mem_of_getElem? ht
        have hall : ([33, 33].all fun u => !Tryd.prog.wantsStandIn u) = true := by kernel_rfl
        exact (show Tryd.prog.wantsStandIn t = false by simpa using List.all_eq_true.1 hall t hm)⟩)
    (by kernel_rfl)
#print axioms FnNameOne_holds
end Go.Proofs.YtchccgdjelhenaaDoor
