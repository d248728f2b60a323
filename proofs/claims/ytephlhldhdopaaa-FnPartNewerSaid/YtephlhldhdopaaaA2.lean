/- The walks and the plain laws, part 2: each function that the law reaches computes what its plain function tells, and what the plain functions answer. Conditions: lengths that memory can hold. -/
import Derived.Test.YtephlhldhdopaaaA1
namespace Go.Proofs.Ytephlhldhdopaaa
open Go Go.Sx
theorem c_impl_put {r : (List Row)} (v0 : (List Row)) (x_v0 : Option Addr × Nat) (v1 : Row) (H : p_impl_put v0 v1 = some r) : Fn' Try.prog 35 #[.slice x_v0.1 v0.length x_v0.2, .agg #[.int .i64 (v1.1), .int .i64 (v1.2)]] [imm (.slice x_v0.1 v0.length x_v0.2) v0] [] (ι := Option Addr × Nat) (fun x => .slice x.1 r.length x.2) (fun _ => []) (fun x => [tree (.slice x.1 r.length x.2) r]) := by
  refine calls_of (args := [_, _]) Try.func35 rfl (by kernel_rfl) Try.ntmps35 (by simp) fun c => ?_
  unfold p_impl_put at H
  refine Tr.seq ?_
  refine Tr.region ?_
  refine Rg.ed (e_box (t := 46) (v := .agg #[.int .i64 (v1.1), .int .i64 (v1.2)]) rfl) rfl (by decide) ?_
  rintro _ _ _ ⟨g1, rfl, rfl, rfl⟩
  refine Rg.q (v := .slice none 0 0) (Pu.qo (p_assign rfl)) (by decide) ?_
  refine Rg.nl ?_
  refine nT (?_)
  refine Tr.seq ?_
  refine Tr.region ?_
  refine Rg.ed (e_lit0 Row Try.underlying36 ty46) rfl (by decide) ?_
  rintro _ _ _ ⟨a2, c3, rfl, rfl, rfl⟩
  refine Rg.q (v := .slice x_v0.1 v0.length x_v0.2) (Pu.qo (p_move rfl)) (by decide) ?_
  obtain ⟨h6, H⟩ := gd.of H
  refine Rg.ed (e_appF (l := ([] : List Row)) (k := v0) (α := Row) Try.underlying36 ty46 rfl rfl (h6.b (by decide)) h6.x (.cons Del.here .nil) (Ent.b Ent.z)) rfl (by decide) ?_
  rintro _ _ _ ⟨a4, c5, rfl, rfl, rfl⟩
  refine Rg.q (v := .slice a4 ((([] : List Row) ++ v0).length) c5) (Pu.qo (p_assign rfl)) (by decide) ?_
  refine Rg.nl ?_
  refine nT (?_)
  refine Tr.seq ?_
  refine Tr.region ?_
  refine Rg.q (v := .int .i64 (0)) (Pu.qo (p_assign rfl)) (by decide) ?_
  refine Rg.nl ?_
  refine nT (?_)
  obtain ⟨x7, hx8, H⟩ := bd.of H
  obtain ⟨n9, hx8⟩ := lp.of hx8
  refine tMidC (ι := Unit) (fun ψ => [(3, .pointer (some ⟨g1, 0, none⟩)), (5, .slice a4 ((([] : List Row) ++ v0).length) c5), (6, .int .i64 (x7))]) (fun ψ => [box g1 46 [.int .i64 (v1.1), .int .i64 (v1.2)], tree (.slice a4 ((([] : List Row) ++ v0).length) c5) (([] : List Row) ++ v0)]) ?_ ?_
  · refine Tr.block ?_
    refine tLoopC (ι := { q : Nat × (Int) × Unit // itr (p_impl_put_b0 v0 v1) q.1 q.2.1 = some x7 }) (fun ζ => [(3, .pointer (some ⟨g1, 0, none⟩)), (5, .slice a4 ((([] : List Row) ++ v0).length) c5), (6, .int .i64 (ζ.1.2.1))]) (fun ζ => [box g1 46 [.int .i64 (v1.1), .int .i64 (v1.2)], tree (.slice a4 ((([] : List Row) ++ v0).length) c5) (([] : List Row) ++ v0)]) (fun ζ => ζ.1.1) ⟨(n9, 0, ()), hx8⟩ ⟨rfl, rfl, rfl, trivial⟩ (.cons Del.here.there (.cons Del.here .nil)) ?_
    rintro ⟨⟨m10, σ11, z12⟩, hk17⟩
    obtain ⟨m18, t14, e, H1, hi15, hb16⟩ := itr.of (n := m10) (s := σ11) hk17
    subst e; unfold p_impl_put_b0 at H1
    show Tr _ _ _ _ _ [(3, .pointer (some ⟨g1, 0, none⟩)), (5, .slice a4 ((([] : List Row) ++ v0).length) c5), (6, .int .i64 (σ11))] _ [box g1 46 [.int .i64 (v1.1), .int .i64 (v1.2)], tree (.slice a4 ((([] : List Row) ++ v0).length) c5) (([] : List Row) ++ v0)]
    refine Tr.seq ?_
    obtain ⟨b19, j20, H1⟩ := bd.of H1
    refine tMid1 [(23, .bool (b19)), (3, .pointer (some ⟨g1, 0, none⟩)), (5, .slice a4 ((([] : List Row) ++ v0).length) c5), (6, .int .i64 (σ11))] ?_ ?_
    · refine tLinS [(3, .pointer (some ⟨g1, 0, none⟩)), (5, .slice a4 ((([] : List Row) ++ v0).length) c5), (6, .int .i64 (σ11))] Try.mixed (.inr (by kernel_rfl)) ⟨rfl, rfl, rfl, trivial⟩ rfl ?_
      refine Lin.q (v := .int .i64 (σ11)) (by decide) (Pu.qo (p_move rfl)) ?_
      refine Lin.q (v := .slice a4 ((([] : List Row) ++ v0).length) c5) (by decide) (Pu.qo (p_move rfl)) ?_
      refine Lin.q (v := .int .i64 (((([] : List Row) ++ v0).length : Int))) (by decide) (Pu.qo (p_len 46 Try.underlying36 rfl)) ?_
      refine Lin.q (v := .bool (decide (σ11 < ((([] : List Row) ++ v0).length : Int)))) (by decide) (Pu.qo (p_lss rfl rfl)) ?_
      rcases Bool.eq_false_or_eq_true (decide (σ11 < ((([] : List Row) ++ v0).length : Int))) with h21 | h21
      · have j20 := cdT h21 j20
        refine Lin.q (v := .bool (true)) (by decide) (Qo.eqv (v := .bool (decide (σ11 < ((([] : List Row) ++ v0).length : Int)))) (Pu.qo (p_move rfl)) (congrArg Value.bool h21)) ?_
        refine Lin.g (v := .slice a4 ((([] : List Row) ++ v0).length) c5) (by decide) rfl (Pu.qo (p_move rfl)) ?_
        refine Lin.g (v := .int .i64 (σ11)) (by decide) rfl (Pu.qo (p_move rfl)) ?_
        obtain ⟨h22, j20⟩ := gd.of j20
        refine Lin.g (v := elp a4 (σ11.toNat * Enc.sz Row + 0)) (by decide) rfl (q_ixO' Try.underlying36 ty46 rfl rfl h22 Has.here.there) ?_
        refine Lin.g (v := elp a4 (σ11.toNat * Enc.sz Row + 0)) (by decide) rfl (q_faeE (l := (([] : List Row) ++ v0)) (E := fun i => Flat.enc (nth (([] : List Row) ++ v0) i)) (oa := a4) (j := 0) σ11.toNat fa46_0 rfl (EntB.flat (EntB.tree Has.here.there)) h22.lt rfl) ?_
        refine Lin.g (v := .int .i64 ((nth (([] : List Row) ++ v0) σ11.toNat).1)) (by decide) rfl (q_lde (l := (([] : List Row) ++ v0)) (E := fun i => Flat.enc (nth (([] : List Row) ++ v0) i)) (oa := a4) (i := σ11.toNat) (j := 0) ty3 rfl (EntB.flat (EntB.tree Has.here.there)) h22.lt rfl) ?_
        refine Lin.g (v := .pointer (some ⟨g1, 0, none⟩)) (by decide) rfl (Pu.qo (p_fabE fa46_0 rfl rfl)) ?_
        refine Lin.g (v := .int .i64 (v1.1)) (by decide) rfl (q_ldb ty3 rfl Has.here rfl) ?_
        refine Lin.g (v := .bool (decide (((nth (([] : List Row) ++ v0) σ11.toNat).1) < v1.1))) (by decide) rfl (Pu.qo (p_lss rfl rfl)) ?_
        refine Lin.q (v := .bool (decide (((nth (([] : List Row) ++ v0) σ11.toNat).1) < v1.1))) (by decide) (Pu.qo (p_pickT rfl rfl)) ?_
        have j20 := Option.some.inj j20; subst j20
        show At _ _ _ _ _ _
        exact n1 ⟨rfl, rfl, rfl, rfl, trivial⟩
      · have j20 := cdF h21 j20
        refine Lin.q (v := .bool (false)) (by decide) (Qo.eqv (v := .bool (decide (σ11 < ((([] : List Row) ++ v0).length : Int)))) (Pu.qo (p_move rfl)) (congrArg Value.bool h21)) ?_
        refine Lin.skip (by decide) rfl ?_
        refine Lin.skip (by decide) rfl ?_
        refine Lin.skip (by decide) rfl ?_
        refine Lin.skip (by decide) rfl ?_
        refine Lin.skip (by decide) rfl ?_
        refine Lin.skip (by decide) rfl ?_
        refine Lin.skip (by decide) rfl ?_
        refine Lin.skip (by decide) rfl ?_
        refine Lin.q (v := .bool (false)) (by decide) (Pu.qo (p_pickF rfl rfl)) ?_
        have j20 := Option.some.inj j20; subst j20
        show At _ _ _ _ _ _
        exact n1 ⟨rfl, rfl, rfl, rfl, trivial⟩
    refine Tr.cond (b := b19) rfl (fun h23 => ?_) (fun h23 => ?_)
    · have H1 := cdT h23 H1
      refine tSkip ?_
      refine nT (?_)
      refine Tr.block ?_
      refine Tr.region ?_
      refine Rg.q (v := .int .i64 (σ11)) (Pu.qo (p_move rfl)) (by decide) ?_
      obtain ⟨h24, H1⟩ := gd.of H1
      refine Rg.q (v := .int .i64 (σ11 + 1)) (Pu.qo (p_add rfl rfl h24)) (by decide) ?_
      refine Rg.q (v := .int .i64 (σ11 + 1)) (Pu.qo (p_assign rfl)) (by decide) ?_
      refine Rg.nl ?_
      exact nB (nLC ⟨(m18, σ11 + 1, ()), hi15 _ (Option.some.inj H1).symm⟩ (Nat.lt_succ_self _) ⟨rfl, rfl, rfl, trivial⟩ Ents.refl (.cons Del.here (.cons Del.here .nil)))
    · have H1 := cdF h23 H1
      refine tExit (xT (xT (xE (?_))))
      have hx := hb16 _ (Option.some.inj H1).symm; subst hx
      exact nMC () ⟨rfl, rfl, rfl, trivial⟩ Ents.refl (.cons Del.here (.cons Del.here .nil))
  · intro y13
    show Tr _ _ _ _ _ [(3, .pointer (some ⟨g1, 0, none⟩)), (5, .slice a4 ((([] : List Row) ++ v0).length) c5), (6, .int .i64 (x7))] _ [box g1 46 [.int .i64 (v1.1), .int .i64 (v1.2)], tree (.slice a4 ((([] : List Row) ++ v0).length) c5) (([] : List Row) ++ v0)]
    refine Tr.seq ?_
    obtain ⟨b25, j26, H⟩ := bd.of H
    refine tMid1 [(39, .bool (b25)), (3, .pointer (some ⟨g1, 0, none⟩)), (5, .slice a4 ((([] : List Row) ++ v0).length) c5), (6, .int .i64 (x7))] ?_ ?_
    · refine tLinS [(3, .pointer (some ⟨g1, 0, none⟩)), (5, .slice a4 ((([] : List Row) ++ v0).length) c5), (6, .int .i64 (x7))] Try.mixed (.inr (by kernel_rfl)) ⟨rfl, rfl, rfl, trivial⟩ rfl ?_
      refine Lin.q (v := .int .i64 (x7)) (by decide) (Pu.qo (p_move rfl)) ?_
      refine Lin.q (v := .slice a4 ((([] : List Row) ++ v0).length) c5) (by decide) (Pu.qo (p_move rfl)) ?_
      refine Lin.q (v := .int .i64 (((([] : List Row) ++ v0).length : Int))) (by decide) (Pu.qo (p_len 46 Try.underlying36 rfl)) ?_
      refine Lin.q (v := .bool (decide (x7 < ((([] : List Row) ++ v0).length : Int)))) (by decide) (Pu.qo (p_lss rfl rfl)) ?_
      rcases Bool.eq_false_or_eq_true (decide (x7 < ((([] : List Row) ++ v0).length : Int))) with h27 | h27
      · have j26 := cdT h27 j26
        refine Lin.q (v := .bool (true)) (by decide) (Qo.eqv (v := .bool (decide (x7 < ((([] : List Row) ++ v0).length : Int)))) (Pu.qo (p_move rfl)) (congrArg Value.bool h27)) ?_
        refine Lin.g (v := .slice a4 ((([] : List Row) ++ v0).length) c5) (by decide) rfl (Pu.qo (p_move rfl)) ?_
        refine Lin.g (v := .int .i64 (x7)) (by decide) rfl (Pu.qo (p_move rfl)) ?_
        obtain ⟨h28, j26⟩ := gd.of j26
        refine Lin.g (v := elp a4 (x7.toNat * Enc.sz Row + 0)) (by decide) rfl (q_ixO' Try.underlying36 ty46 rfl rfl h28 Has.here.there) ?_
        refine Lin.g (v := elp a4 (x7.toNat * Enc.sz Row + 0)) (by decide) rfl (q_faeE (l := (([] : List Row) ++ v0)) (E := fun i => Flat.enc (nth (([] : List Row) ++ v0) i)) (oa := a4) (j := 0) x7.toNat fa46_0 rfl (EntB.flat (EntB.tree Has.here.there)) h28.lt rfl) ?_
        refine Lin.g (v := .int .i64 ((nth (([] : List Row) ++ v0) x7.toNat).1)) (by decide) rfl (q_lde (l := (([] : List Row) ++ v0)) (E := fun i => Flat.enc (nth (([] : List Row) ++ v0) i)) (oa := a4) (i := x7.toNat) (j := 0) ty3 rfl (EntB.flat (EntB.tree Has.here.there)) h28.lt rfl) ?_
        refine Lin.g (v := .pointer (some ⟨g1, 0, none⟩)) (by decide) rfl (Pu.qo (p_fabE fa46_0 rfl rfl)) ?_
        refine Lin.g (v := .int .i64 (v1.1)) (by decide) rfl (q_ldb ty3 rfl Has.here rfl) ?_
        refine Lin.g (v := .bool (decide (((nth (([] : List Row) ++ v0) x7.toNat).1) = v1.1))) (by decide) rfl (Pu.qo (p_eql rfl rfl)) ?_
        refine Lin.q (v := .bool (decide (((nth (([] : List Row) ++ v0) x7.toNat).1) = v1.1))) (by decide) (Pu.qo (p_pickT rfl rfl)) ?_
        have j26 := Option.some.inj j26; subst j26
        show At _ _ _ _ _ _
        exact n1 ⟨rfl, rfl, rfl, rfl, trivial⟩
      · have j26 := cdF h27 j26
        refine Lin.q (v := .bool (false)) (by decide) (Qo.eqv (v := .bool (decide (x7 < ((([] : List Row) ++ v0).length : Int)))) (Pu.qo (p_move rfl)) (congrArg Value.bool h27)) ?_
        refine Lin.skip (by decide) rfl ?_
        refine Lin.skip (by decide) rfl ?_
        refine Lin.skip (by decide) rfl ?_
        refine Lin.skip (by decide) rfl ?_
        refine Lin.skip (by decide) rfl ?_
        refine Lin.skip (by decide) rfl ?_
        refine Lin.skip (by decide) rfl ?_
        refine Lin.skip (by decide) rfl ?_
        refine Lin.q (v := .bool (false)) (by decide) (Pu.qo (p_pickF rfl rfl)) ?_
        have j26 := Option.some.inj j26; subst j26
        show At _ _ _ _ _ _
        exact n1 ⟨rfl, rfl, rfl, rfl, trivial⟩
    refine Tr.cond (b := b25) rfl (fun h29 => ?_) (fun h29 => ?_)
    · have H := cdT h29 H
      refine Tr.seq ?_
      refine Tr.region ?_
      refine Rg.q (v := .slice a4 ((([] : List Row) ++ v0).length) c5) (Pu.qo (p_move rfl)) (by decide) ?_
      refine Rg.q (v := .int .i64 (x7)) (Pu.qo (p_move rfl)) (by decide) ?_
      refine Rg.q (v := .agg #[.int .i64 (v1.1), .int .i64 (v1.2)]) (q_ldbA ty46 rfl Has.here rfl) (by decide) ?_
      obtain ⟨h30, H⟩ := gd.of H
      refine Rg.q (v := elp a4 (x7.toNat * Enc.sz Row + 0)) (q_ixO' Try.underlying36 ty46 rfl rfl h30 Has.here.there) (by decide) ?_
      refine Rg.en (e_setT (l := (([] : List Row) ++ v0)) (α := Row) (oa := a4) x7.toNat v1 ((), ()) ty46 rfl rfl rfl h30.lt (ShpT.wfa _) (.cons Del.here.there .nil)) rfl ?_
      rintro _ _ _ ⟨rfl, rfl, rfl⟩
      refine Rg.nl ?_
      refine nT (?_)
      refine Tr.seq ?_
      refine Tr.olen Has.here fun hn => ?_; rw [hn]
      refine Tr.region ?_
      refine Rg.q (v := .slice a4 (((([] : List Row) ++ v0).set x7.toNat v1).length) c5) (Pu.qo (p_move rfl)) (by decide) ?_
      refine Rg.q (v := .slice a4 (((([] : List Row) ++ v0).set x7.toNat v1).length) c5) (Pu.qo (p_assign rfl)) (by decide) ?_
      refine Rg.nl ?_
      refine nT (?_)
      refine tRet ?_
      refine rT (?_)
      have hr := Option.some.inj H; subst hr
      exact back1 (a4, c5) rfl (ResV.tmp (v := .slice a4 (((([] : List Row) ++ v0).set x7.toNat v1).length) c5) rfl) rfl Ents.nil (.cons Del.here .nil)
    · have H := cdF h29 H
      refine tSkip ?_
      refine nT (?_)
      refine Tr.seq ?_
      refine Tr.region ?_
      refine Rg.ed (e_lit0 Row Try.underlying36 ty46) rfl (by decide) ?_
      rintro _ _ _ ⟨a31, c32, rfl, rfl, rfl⟩
      refine Rg.q (v := .slice a4 ((([] : List Row) ++ v0).length) c5) (Pu.qo (p_move rfl)) (by decide) ?_
      refine Rg.q (v := .int .i64 (x7)) (Pu.qo (p_move rfl)) (by decide) ?_
      refine Rg.q (v := .agg #[.int .i64 (v1.1), .int .i64 (v1.2)]) (q_ldbA ty46 rfl Has.here.there rfl) (by decide) ?_
      refine Rg.ed (e_litT (α := Row) (vs := [(0, .agg #[.int .i64 (v1.1), .int .i64 (v1.2)])]) [v1] rfl (fun _ => rfl) (fun _ _ => by repeat constructor) Try.underlying36 ty46 rfl (by decide) (by decide) (by kernel_rfl)) rfl (by decide) ?_
      rintro _ _ _ ⟨a33, c34, rfl, rfl, rfl⟩
      obtain ⟨r35, h36, H⟩ := bd.of H
      refine Rg.ed (e_callM (vs := [.slice a4 ((([] : List Row) ++ v0).length) c5, .int .i64 (x7), .slice a33 (([v1] : List Row).length) c34]) (c_slices_Insert_Row_Row (([] : List Row) ++ v0) (a4, c5) x7 ([v1] : List Row) (a33, c34) h36) (Solo.tree (Solo.tree Solo.nil)) (fun _ => (Solo.tree Solo.nil)) rfl (.cons Del.here.there.there.there (.cons Del.here .nil)) EntsB.nil) rfl (by decide) ?_
      rintro _ _ _ ⟨x37, rfl, rfl, rfl⟩
      obtain ⟨h40, H⟩ := gd.of H
      refine Rg.ed (e_appF (l := ([] : List Row)) (k := r35) (α := Row) Try.underlying36 ty46 rfl rfl (h40.b (by decide)) h40.x (.cons Del.here.there .nil) (EntB.tree Has.here)) rfl (by decide) ?_
      rintro _ _ _ ⟨a38, c39, rfl, rfl, rfl⟩
      refine Rg.q (v := .slice a38 ((([] : List Row) ++ r35).length) c39) (Pu.qo (p_assign rfl)) (by decide) ?_
      refine Rg.nl ?_
      refine nT (?_)
      refine tRet ?_
      have hr := Option.some.inj H; subst hr
      exact back1 (a38, c39) rfl (ResV.tmp (v := .slice a38 ((([] : List Row) ++ r35).length) c39) rfl) rfl Ents.nil (.cons Del.here .nil)
noncomputable def p_impl_BlockMerge_b0 (v1 : (List Row)) (σ20 : (List Row) × Int) : Option (((List Row) × Int) ⊕ ((List Row))) := cond (decide (σ20.2 < (v1.length : Int))) (gd (ix σ20.2 v1.length) <| bd (p_impl_put σ20.1 (nth v1 σ20.2.toNat)) fun r31 => gd (I64 (σ20.2 + 1)) <| some (.inl (r31, σ20.2 + 1))) (some (.inr σ20.1))
noncomputable def p_impl_BlockMerge (v0 : (List Row)) (v1 : (List Row)) : Option ((List Row) × Bool) := bd (bd (p_impl_BlockOk v0) fun r3 => cond (!r3) (some (true)) (bd (p_impl_BlockOk v1) fun r6 => some (!r6))) fun b1 => cond (b1) (some (([] : List Row), false)) (gd (room (([] : List Row).length + v0.length)) <| bd (lp (p_impl_BlockMerge_b0 v1) ((([] : List Row) ++ v0), 0)) fun x16 => cond (decide (24 < (x16.length : Int))) (some (([] : List Row), false)) (some (x16, true)))
theorem c_impl_BlockMerge {r : (List Row) × Bool} (v0 : (List Row)) (x_v0 : Option Addr × Nat) (v1 : (List Row)) (x_v1 : Option Addr × Nat) (H : p_impl_BlockMerge v0 v1 = some r) : Fn' Try.prog 17 #[.slice x_v0.1 v0.length x_v0.2, .slice x_v1.1 v1.length x_v1.2] [imm (.slice x_v0.1 v0.length x_v0.2) v0, imm (.slice x_v1.1 v1.length x_v1.2) v1] [] (ι := (Option Addr × Nat) × Unit) (fun x => .tuple #[.slice x.1.1 r.1.length x.1.2, .bool (r.2)]) (fun _ => []) (fun x => [tree (.slice x.1.1 r.1.length x.1.2) r.1]) := by
  refine calls_of (args := [_, _]) Try.func17 rfl (by kernel_rfl) Try.ntmps17 (by simp) fun c => ?_
  unfold p_impl_BlockMerge at H
  refine Tr.seq ?_
  refine Tr.region ?_
  refine Rg.q (v := .slice none 0 0) (Pu.qo (p_assign rfl)) (by decide) ?_
  refine Rg.q (v := .bool (false)) (Pu.qo (p_assign rfl)) (by decide) ?_
  refine Rg.nl ?_
  refine nT (?_)
  refine Tr.seq ?_
  obtain ⟨b1, j2, H⟩ := bd.of H
  refine tMid1 [(16, .bool (b1)), (0, .slice x_v0.1 v0.length x_v0.2), (1, .slice x_v1.1 v1.length x_v1.2)] ?_ ?_
  · refine tLinT [(0, .slice x_v0.1 v0.length x_v0.2), (1, .slice x_v1.1 v1.length x_v1.2)] ⟨rfl, rfl, trivial⟩ ?_
    refine Lin.q (v := .slice x_v0.1 v0.length x_v0.2) (by decide) (Pu.qo (p_move rfl)) ?_
    obtain ⟨r3, h4, j2⟩ := bd.of j2
    refine Lin.q (v := .bool (r3)) (by decide) (q_call (vs := [.slice x_v0.1 v0.length x_v0.2]) (c_impl_BlockOk v0 x_v0 h4) rfl (EntsB.cons (Ent.b Ent.z) EntsB.nil)) ?_
    refine Lin.q (v := .bool (!r3)) (by decide) (Pu.qo (p_not rfl)) ?_
    rcases Bool.eq_false_or_eq_true (!r3) with h5 | h5
    · have j2 := cdT h5 j2
      refine Lin.q (v := .bool (true)) (by decide) (Qo.eqv (v := .bool (!r3)) (Pu.qo (p_move rfl)) (congrArg Value.bool h5)) ?_
      refine Lin.skip (by decide) rfl ?_
      refine Lin.skip (by decide) rfl ?_
      refine Lin.skip (by decide) rfl ?_
      refine Lin.q (v := .bool (true)) (by decide) (Pu.qo (p_pickT rfl rfl)) ?_
      have j2 := Option.some.inj j2; subst j2
      show At _ _ _ _ _ _
      exact n1 ⟨rfl, rfl, rfl, trivial⟩
    · have j2 := cdF h5 j2
      refine Lin.q (v := .bool (false)) (by decide) (Qo.eqv (v := .bool (!r3)) (Pu.qo (p_move rfl)) (congrArg Value.bool h5)) ?_
      refine Lin.g (v := .slice x_v1.1 v1.length x_v1.2) (by decide) rfl (Pu.qo (p_move rfl)) ?_
      obtain ⟨r6, h7, j2⟩ := bd.of j2
      refine Lin.g (v := .bool (r6)) (by decide) rfl (q_call (vs := [.slice x_v1.1 v1.length x_v1.2]) (c_impl_BlockOk v1 x_v1 h7) rfl (EntsB.cons (Ent.b Ent.z.s) EntsB.nil)) ?_
      refine Lin.g (v := .bool (!r6)) (by decide) rfl (Pu.qo (p_not rfl)) ?_
      refine Lin.q (v := .bool (!r6)) (by decide) (Pu.qo (p_pickF rfl rfl)) ?_
      have j2 := Option.some.inj j2; subst j2
      show At _ _ _ _ _ _
      exact n1 ⟨rfl, rfl, rfl, trivial⟩
  refine Tr.cond (b := b1) rfl (fun h8 => ?_) (fun h8 => ?_)
  · have H := cdT h8 H
    refine Tr.seq ?_
    refine Tr.region ?_
    refine Rg.ed (e_lit0 Row Try.underlying36 ty46) rfl (by decide) ?_
    rintro _ _ _ ⟨a9, c10, rfl, rfl, rfl⟩
    refine Rg.q (v := .slice a9 (([] : List Row).length) c10) (Pu.qo (p_assign rfl)) (by decide) ?_
    refine Rg.q (v := .bool (false)) (Pu.qo (p_assign rfl)) (by decide) ?_
    refine Rg.nl ?_
    refine nT (?_)
    refine tRet ?_
    refine rT (?_)
    have hr := Option.some.inj H; subst hr
    exact back2 ((a9, c10), ()) rfl (ResV.tmp (v := .slice a9 (([] : List Row).length) c10) rfl) (ResV.tmp (v := .bool (false)) rfl) rfl Ents.nil (.cons Del.here .nil)
  · have H := cdF h8 H
    refine tSkip ?_
    refine nT (?_)
    refine Tr.seq ?_
    refine Tr.region ?_
    refine Rg.ed (e_lit0 Row Try.underlying36 ty46) rfl (by decide) ?_
    rintro _ _ _ ⟨a11, c12, rfl, rfl, rfl⟩
    refine Rg.q (v := .slice x_v0.1 v0.length x_v0.2) (Pu.qo (p_move rfl)) (by decide) ?_
    obtain ⟨h15, H⟩ := gd.of H
    refine Rg.ed (e_appF (l := ([] : List Row)) (k := v0) (α := Row) Try.underlying36 ty46 rfl rfl (h15.b (by decide)) h15.x (.cons Del.here .nil) (Ent.b Ent.z)) rfl (by decide) ?_
    rintro _ _ _ ⟨a13, c14, rfl, rfl, rfl⟩
    refine Rg.q (v := .slice a13 ((([] : List Row) ++ v0).length) c14) (Pu.qo (p_assign rfl)) (by decide) ?_
    refine Rg.nl ?_
    refine nT (?_)
    refine Tr.seq ?_
    refine Tr.seq ?_
    refine Tr.region ?_
    refine Rg.q (v := .slice x_v1.1 v1.length x_v1.2) (Pu.qo (p_move rfl)) (by decide) ?_
    refine Rg.q (v := .int .i64 ((v1.length : Int))) (Pu.qo (p_len 46 Try.underlying36 rfl)) (by decide) ?_
    refine Rg.q (v := .int .i64 (0)) (Pu.qo (p_move rfl)) (by decide) ?_
    refine Rg.nl ?_
    refine nT (?_)
    obtain ⟨x16, hx17, H⟩ := bd.of H
    obtain ⟨n18, hx17⟩ := lp.of hx17
    refine tMidNC (ι := Option Addr × Nat) (fun ψ => [(6, .slice ψ.1 x16.length ψ.2)]) (fun ψ => [tree (.slice ψ.1 x16.length ψ.2) x16]) ?_ ?_
    · refine Tr.block ?_
      refine tLoopC (ι := { q : Nat × ((List Row) × Int) × (Option Addr × Nat) // itr (p_impl_BlockMerge_b0 v1) q.1 q.2.1 = some x16 }) (fun ζ => [(6, .slice ζ.1.2.2.1 ζ.1.2.1.1.length ζ.1.2.2.2), (21, .slice x_v1.1 v1.length x_v1.2), (22, .int .i64 ((v1.length : Int))), (23, .int .i64 (ζ.1.2.1.2))]) (fun ζ => [tree (.slice ζ.1.2.2.1 ζ.1.2.1.1.length ζ.1.2.2.2) ζ.1.2.1.1]) (fun ζ => ζ.1.1) ⟨(n18, ((([] : List Row) ++ v0), 0), (a13, c14)), hx17⟩ ⟨rfl, rfl, rfl, rfl, trivial⟩ (.cons Del.here .nil) ?_
      rintro ⟨⟨m19, σ20, z21⟩, hk26⟩
      obtain ⟨m27, t23, e, H1, hi24, hb25⟩ := itr.of (n := m19) (s := σ20) hk26
      subst e; unfold p_impl_BlockMerge_b0 at H1
      show Tr _ _ _ _ _ [(6, .slice z21.1 σ20.1.length z21.2), (21, .slice x_v1.1 v1.length x_v1.2), (22, .int .i64 ((v1.length : Int))), (23, .int .i64 (σ20.2))] _ [tree (.slice z21.1 σ20.1.length z21.2) σ20.1]
      refine Tr.seq ?_
      refine Tr.region ?_
      refine Rg.q (v := .bool (decide (σ20.2 < (v1.length : Int)))) (Pu.qo (p_lss rfl rfl)) (by decide) ?_
      refine Rg.nl ?_
      refine nT (?_)
      refine Tr.seq ?_
      refine Tr.cond (b := decide (σ20.2 < (v1.length : Int))) rfl (fun h28 => ?_) (fun h28 => ?_)
      · have H1 := cdT h28 H1
        refine tSkip ?_
        refine nT (?_)
        refine Tr.seq ?_
        refine Tr.block ?_
        refine Tr.seq ?_
        refine Tr.region ?_
        obtain ⟨h29, H1⟩ := gd.of H1
        refine Rg.q (v := elp x_v1.1 (σ20.2.toNat * Enc.sz Row + 0)) (q_ixg (l := v1) (E := fun i => Flat.enc (nth v1 i)) (oa := x_v1.1) Try.underlying36 ty46 rfl rfl h29 rfl (EntB.flat (Ent.b Ent.z.s))) (by decide) ?_
        refine Rg.q (v := .agg #[.int .i64 ((nth v1 σ20.2.toNat).1), .int .i64 ((nth v1 σ20.2.toNat).2)]) (q_ldeA (l := v1) (E := fun i => Flat.enc (nth v1 i)) (oa := x_v1.1) (i := σ20.2.toNat) ty46 rfl (EntB.flat (Ent.b Ent.z.s)) h29.lt) (by decide) ?_
        refine Rg.ed (e_alloc ty46) rfl (by decide) ?_
        rintro _ _ _ ⟨g30, rfl, rfl, rfl⟩
        refine Rg.en (e_store (v := .agg #[.int .i64 ((nth v1 σ20.2.toNat).1), .int .i64 ((nth v1 σ20.2.toNat).2)]) (cs' := [.int .i64 ((nth v1 σ20.2.toNat).1), .int .i64 ((nth v1 σ20.2.toNat).2)]) ty46 rfl rfl Upd.here rfl (by simp [Value.cells, Value.oneCell']) (Nat.le_of_ble_eq_true rfl) rfl) rfl ?_
        rintro _ _ _ ⟨rfl, rfl, rfl⟩
        refine Rg.nl ?_
        refine nT (?_)
        refine Tr.region ?_
        refine Rg.q (v := .slice z21.1 σ20.1.length z21.2) (Pu.qo (p_move rfl)) (by decide) ?_
        refine Rg.q (v := .agg #[.int .i64 ((nth v1 σ20.2.toNat).1), .int .i64 ((nth v1 σ20.2.toNat).2)]) (q_ldbA ty46 rfl Has.here rfl) (by decide) ?_
        obtain ⟨r31, h32, H1⟩ := bd.of H1
        refine Rg.ed (e_callB (vs := [.slice z21.1 σ20.1.length z21.2, .agg #[.int .i64 ((nth v1 σ20.2.toNat).1), .int .i64 ((nth v1 σ20.2.toNat).2)]]) (c_impl_put σ20.1 z21 (nth v1 σ20.2.toNat) h32) (fun _ => (Solo.tree Solo.nil)) rfl (EntsB.cons (EntB.tree Has.here.there) EntsB.nil)) rfl (by decide) ?_
        rintro _ _ _ ⟨x33, rfl, rfl, rfl⟩
        refine Rg.q (v := .slice x33.1 r31.length x33.2) (Pu.qo (p_assign rfl)) (by decide) ?_
        refine Rg.nl ?_
        refine nB (nT (?_))
        refine Tr.region ?_
        obtain ⟨h34, H1⟩ := gd.of H1
        refine Rg.q (v := .int .i64 (σ20.2 + 1)) (Pu.qo (p_add rfl rfl h34)) (by decide) ?_
        refine Rg.q (v := .int .i64 (σ20.2 + 1)) (Pu.qo (p_move rfl)) (by decide) ?_
        refine Rg.nl ?_
        exact nLC ⟨(m27, (r31, σ20.2 + 1), (x33.1, x33.2)), hi24 _ (Option.some.inj H1).symm⟩ (Nat.lt_succ_self _) ⟨rfl, rfl, rfl, rfl, trivial⟩ Ents.refl (.cons Del.here .nil)
      · have H1 := cdF h28 H1
        refine tExit (xT (xT (xE (?_))))
        have hx := hb25 _ (Option.some.inj H1).symm; subst hx
        exact nMC (z21.1, z21.2) ⟨rfl, trivial⟩ Ents.refl (.cons Del.here .nil)
    · intro y22
      show At _ _ [(6, .slice y22.1 x16.length y22.2)] _ [tree (.slice y22.1 x16.length y22.2) x16] _
      refine nT (?_)
      refine Tr.seq ?_
      refine Tr.seq ?_
      refine Tr.region ?_
      refine Rg.q (v := .slice y22.1 x16.length y22.2) (Pu.qo (p_move rfl)) (by decide) ?_
      refine Rg.q (v := .int .i64 ((x16.length : Int))) (Pu.qo (p_len 46 Try.underlying36 rfl)) (by decide) ?_
      refine Rg.q (v := .bool (decide (24 < (x16.length : Int)))) (Pu.qo (p_gtr rfl rfl)) (by decide) ?_
      refine Rg.nl ?_
      refine nT (?_)
      refine Tr.cond (b := decide (24 < (x16.length : Int))) rfl (fun h35 => ?_) (fun h35 => ?_)
      · have H := cdT h35 H
        refine Tr.seq ?_
        refine Tr.region ?_
        refine Rg.ed (e_lit0 Row Try.underlying36 ty46) rfl (by decide) ?_
        rintro _ _ _ ⟨a36, c37, rfl, rfl, rfl⟩
        refine Rg.q (v := .slice a36 (([] : List Row).length) c37) (Pu.qo (p_assign rfl)) (by decide) ?_
        refine Rg.q (v := .bool (false)) (Pu.qo (p_assign rfl)) (by decide) ?_
        refine Rg.nl ?_
        refine nT (?_)
        refine tRet ?_
        refine rT (?_)
        have hr := Option.some.inj H; subst hr
        exact back2 ((a36, c37), ()) rfl (ResV.tmp (v := .slice a36 (([] : List Row).length) c37) rfl) (ResV.tmp (v := .bool (false)) rfl) rfl Ents.nil (.cons Del.here .nil)
      · have H := cdF h35 H
        refine tSkip ?_
        refine nT (?_)
        refine Tr.seq ?_
        refine Tr.region ?_
        refine Rg.q (v := .slice y22.1 x16.length y22.2) (Pu.qo (p_move rfl)) (by decide) ?_
        refine Rg.q (v := .slice y22.1 x16.length y22.2) (Pu.qo (p_assign rfl)) (by decide) ?_
        refine Rg.q (v := .bool (true)) (Pu.qo (p_assign rfl)) (by decide) ?_
        refine Rg.nl ?_
        refine nT (?_)
        refine tRet ?_
        have hr := Option.some.inj H; subst hr
        exact back2 (y22, ()) rfl (ResV.tmp (v := .slice y22.1 x16.length y22.2) rfl) (ResV.tmp (v := .bool (true)) rfl) rfl Ents.nil (.cons Del.here .nil)
noncomputable def p_impl_PartMerge_b0 (v0 : Part) (v1 : Part) (σ23 : (List Int) × (List (List Row)) × Int) : Option (((List Int) × (List (List Row)) × Int) ⊕ (((List Int) × (List (List Row))) ⊕ (Part × Bool))) := cond (decide (σ23.2.2 ≤ 6)) (bd (p_impl_PartOf v0 σ23.2.2) fun r32 => bd (p_impl_PartOf v1 σ23.2.2) fun r35 => bd (p_impl_BlockMerge r32 r35) fun r38 => cond (!r38.2) (some (.inr (.inr ((([]), ([])), false)))) (cond (decide (0 < (r38.1.length : Int))) (gd (room (σ23.1.length + 1)) <| gd (room (σ23.2.1.length + 1)) <| gd (I64 (σ23.2.2 + 1)) <| some (.inl ((σ23.1 ++ [σ23.2.2]), (σ23.2.1 ++ [r38.1]), σ23.2.2 + 1))) (gd (I64 (σ23.2.2 + 1)) <| some (.inl (σ23.1, σ23.2.1, σ23.2.2 + 1))))) (some (.inr (.inl (σ23.1, σ23.2.1))))
noncomputable def p_impl_PartMerge (v0 : Part) (v1 : Part) : Option (Part × Bool) := bd (bd (p_impl_PartOk v0) fun r8 => cond (!r8) (some (true)) (bd (p_impl_PartOk v1) fun r11 => some (!r11))) fun b6 => cond (b6) (some ((([]), ([])), false)) (bd (lp (p_impl_PartMerge_b0 v0 v1) (([] : List Int), ([] : List (List Row)), 1)) <| sw (fun e53 => some (e53, true)) (fun q => some q))
theorem c_impl_PartMerge {r : Part × Bool} (v0 : Part) (x_v0 : (Option Addr × Nat) × (Option Addr × Nat)) (v1 : Part) (x_v1 : (Option Addr × Nat) × (Option Addr × Nat)) (H : p_impl_PartMerge v0 v1 = some r) : Fn' Try.prog 14 #[.agg #[.slice x_v0.1.1 v0.1.length x_v0.1.2, .slice x_v0.2.1 v0.2.length x_v0.2.2], .agg #[.slice x_v1.1.1 v1.1.length x_v1.1.2, .slice x_v1.2.1 v1.2.length x_v1.2.2]] [imm (.slice x_v0.1.1 v0.1.length x_v0.1.2) v0.1, imm (.slice x_v0.2.1 v0.2.length x_v0.2.2) v0.2, imm (.slice x_v1.1.1 v1.1.length x_v1.1.2) v1.1, imm (.slice x_v1.2.1 v1.2.length x_v1.2.2) v1.2] [] (ι := ((Option Addr × Nat) × (Option Addr × Nat)) × Unit) (fun x => .tuple #[.agg #[.slice x.1.1.1 r.1.1.length x.1.1.2, .slice x.1.2.1 r.1.2.length x.1.2.2], .bool (r.2)]) (fun _ => []) (fun x => [tree (.slice x.1.1.1 r.1.1.length x.1.1.2) r.1.1, tree (.slice x.1.2.1 r.1.2.length x.1.2.2) r.1.2]) := by
  refine calls_of (args := [_, _]) Try.func14 rfl (by kernel_rfl) Try.ntmps14 (by simp) fun c => ?_
  unfold p_impl_PartMerge at H
  refine Tr.openD Ent.z.s fun X1 => ?_
  refine Tr.openD Ent.z.s.s.s.s fun X2 => ?_
  refine Tr.seq ?_
  refine Tr.region ?_
  refine Rg.ed (e_box (t := 26) (v := .agg #[.slice x_v0.1.1 v0.1.length x_v0.1.2, .slice x_v0.2.1 v0.2.length x_v0.2.2]) rfl) rfl (by decide) ?_
  rintro _ _ _ ⟨g3, rfl, rfl, rfl⟩
  refine Rg.ed (e_box (t := 26) (v := .agg #[.slice x_v1.1.1 v1.1.length x_v1.1.2, .slice x_v1.2.1 v1.2.length x_v1.2.2]) rfl) rfl (by decide) ?_
  rintro _ _ _ ⟨g4, rfl, rfl, rfl⟩
  refine Rg.ed (e_alloc ty26) rfl (by decide) ?_
  rintro _ _ _ ⟨g5, rfl, rfl, rfl⟩
  refine Rg.q (v := .bool (false)) (Pu.qo (p_assign rfl)) (by decide) ?_
  refine Rg.nl ?_
  refine nT (?_)
  refine Tr.seq ?_
  obtain ⟨b6, j7, H⟩ := bd.of H
  refine tMid1 [(17, .bool (b6)), (4, .pointer (some ⟨g5, 0, none⟩)), (3, .pointer (some ⟨g4, 0, none⟩)), (2, .pointer (some ⟨g3, 0, none⟩))] ?_ ?_
  · refine tLinT [(4, .pointer (some ⟨g5, 0, none⟩)), (3, .pointer (some ⟨g4, 0, none⟩)), (2, .pointer (some ⟨g3, 0, none⟩))] ⟨rfl, rfl, rfl, trivial⟩ ?_
    refine Lin.q (v := .agg #[.slice x_v0.1.1 v0.1.length x_v0.1.2, .slice x_v0.2.1 v0.2.length x_v0.2.2]) (by decide) (q_ldbA ty26 rfl Has.here.there.there rfl) ?_
    obtain ⟨r8, h9, j7⟩ := bd.of j7
    refine Lin.q (v := .bool (r8)) (by decide) (q_call (vs := [.agg #[.slice x_v0.1.1 v0.1.length x_v0.1.2, .slice x_v0.2.1 v0.2.length x_v0.2.2]]) (c_impl_PartOk v0 x_v0 h9) rfl (EntsB.cons (Ent.b Ent.z.s.s) (EntsB.cons (Ent.b (Ent.dimm Ent.z.s)) EntsB.nil))) ?_
    refine Lin.q (v := .bool (!r8)) (by decide) (Pu.qo (p_not rfl)) ?_
    rcases Bool.eq_false_or_eq_true (!r8) with h10 | h10
    · have j7 := cdT h10 j7
      refine Lin.q (v := .bool (true)) (by decide) (Qo.eqv (v := .bool (!r8)) (Pu.qo (p_move rfl)) (congrArg Value.bool h10)) ?_
      refine Lin.skip (by decide) rfl ?_
      refine Lin.skip (by decide) rfl ?_
      refine Lin.skip (by decide) rfl ?_
      refine Lin.q (v := .bool (true)) (by decide) (Pu.qo (p_pickT rfl rfl)) ?_
      have j7 := Option.some.inj j7; subst j7
      show At _ _ _ _ _ _
      exact n1 ⟨rfl, rfl, rfl, rfl, trivial⟩
    · have j7 := cdF h10 j7
      refine Lin.q (v := .bool (false)) (by decide) (Qo.eqv (v := .bool (!r8)) (Pu.qo (p_move rfl)) (congrArg Value.bool h10)) ?_
      refine Lin.g (v := .agg #[.slice x_v1.1.1 v1.1.length x_v1.1.2, .slice x_v1.2.1 v1.2.length x_v1.2.2]) (by decide) rfl (q_ldbA ty26 rfl Has.here.there rfl) ?_
      obtain ⟨r11, h12, j7⟩ := bd.of j7
      refine Lin.g (v := .bool (r11)) (by decide) rfl (q_call (vs := [.agg #[.slice x_v1.1.1 v1.1.length x_v1.1.2, .slice x_v1.2.1 v1.2.length x_v1.2.2]]) (c_impl_PartOk v1 x_v1 h12) rfl (EntsB.cons (Ent.b Ent.z.s.s.s.s) (EntsB.cons (Ent.b (Ent.dimm Ent.z)) EntsB.nil))) ?_
      refine Lin.g (v := .bool (!r11)) (by decide) rfl (Pu.qo (p_not rfl)) ?_
      refine Lin.q (v := .bool (!r11)) (by decide) (Pu.qo (p_pickF rfl rfl)) ?_
      have j7 := Option.some.inj j7; subst j7
      show At _ _ _ _ _ _
      exact n1 ⟨rfl, rfl, rfl, rfl, trivial⟩
  refine Tr.cond (b := b6) rfl (fun h13 => ?_) (fun h13 => ?_)
  · have H := cdT h13 H
    refine Tr.seq ?_
    refine Tr.nilT Int ?_
    refine Tr.nilT (List Row) ?_
    refine Tr.region ?_
    refine Rg.q (v := .agg #[.slice none 0 0, .slice none 0 0]) (Pu.qo (p_buildS (vs := []) (cs := #[.slice none 0 0, .slice none 0 0]) ty26 pl26 rfl rfl)) (by decide) ?_
    refine Rg.en (e_store (v := .agg #[.slice none 0 0, .slice none 0 0]) (cs' := [.slice none 0 0, .slice none 0 0]) ty26 rfl rfl Upd.here.there.there rfl (by simp [Value.cells, Value.oneCell']) (Nat.le_of_ble_eq_true rfl) rfl) rfl ?_
    rintro _ _ _ ⟨rfl, rfl, rfl⟩
    refine Rg.q (v := .bool (false)) (Pu.qo (p_assign rfl)) (by decide) ?_
    refine Rg.nl ?_
    refine nT (?_)
    refine tRet ?_
    refine rT (?_)
    have hr := Option.some.inj H; subst hr
    exact back2 (((none, 0), (none, 0)), ()) rfl (ResV.agg ty26 rfl Has.here.there.there rfl) (ResV.tmp (v := .bool (false)) rfl) rfl Ents.nil (.cons Del.here.there (.cons Del.here .nil))
  · have H := cdF h13 H
    refine tSkip ?_
    refine nT (?_)
    refine Tr.seq ?_
    refine Tr.region ?_
    refine Rg.ed (e_lit0 Int Try.underlying23 ty3) rfl (by decide) ?_
    rintro _ _ _ ⟨a14, c15, rfl, rfl, rfl⟩
    refine Rg.ed (e_lit0 (List Row) Try.underlying24 ty36) rfl (by decide) ?_
    rintro _ _ _ ⟨a16, c17, rfl, rfl, rfl⟩
    refine Rg.q (v := .agg #[.slice a14 (([] : List Int).length) c15, .slice a16 (([] : List (List Row)).length) c17]) (Pu.qo (p_buildS (vs := [(0, .slice a14 (([] : List Int).length) c15), (1, .slice a16 (([] : List (List Row)).length) c17)]) (cs := #[.slice a14 (([] : List Int).length) c15, .slice a16 (([] : List (List Row)).length) c17]) ty26 pl26 rfl rfl)) (by decide) ?_
    refine Rg.ed (e_alloc ty26) rfl (by decide) ?_
    rintro _ _ _ ⟨g18, rfl, rfl, rfl⟩
    refine Rg.en (e_store (v := .agg #[.slice a14 (([] : List Int).length) c15, .slice a16 (([] : List (List Row)).length) c17]) (cs' := [.slice a14 (([] : List Int).length) c15, .slice a16 (([] : List (List Row)).length) c17]) ty26 rfl rfl Upd.here rfl (by simp [Value.cells, Value.oneCell']) (Nat.le_of_ble_eq_true rfl) rfl) rfl ?_
    rintro _ _ _ ⟨rfl, rfl, rfl⟩
    refine Rg.nl ?_
    refine nT (?_)
    refine Tr.seq ?_
    refine Tr.seq ?_
    refine Tr.region ?_
    refine Rg.q (v := .int .i64 (1)) (Pu.qo (p_assign rfl)) (by decide) ?_
    refine Rg.nl ?_
    refine nT (?_)
    obtain ⟨x19, hx20, H⟩ := bd.of H
    obtain ⟨n21, hx20⟩ := lp.of hx20
    refine tMidNC (ι := { q : ((List Int) × (List (List Row))) × ((Option Addr × Nat) × (Option Addr × Nat)) // x19 = .inl q.1 }) (fun ψ => [(4, .pointer (some ⟨g5, 0, none⟩)), (6, .pointer (some ⟨g18, 0, none⟩))]) (fun ψ => [box g5 26 [.slice none 0 0, .slice none 0 0], tree (.slice ψ.1.2.1.1 ψ.1.1.1.length ψ.1.2.1.2) ψ.1.1.1, tree (.slice ψ.1.2.2.1 ψ.1.1.2.length ψ.1.2.2.2) ψ.1.1.2, box g18 26 [.slice ψ.1.2.1.1 ψ.1.1.1.length ψ.1.2.1.2, .slice ψ.1.2.2.1 ψ.1.1.2.length ψ.1.2.2.2]]) ?_ ?_
    · refine Tr.block ?_
      refine tLoopC (ι := { q : Nat × ((List Int) × (List (List Row)) × Int) × ((Option Addr × Nat) × (Option Addr × Nat)) // itr (p_impl_PartMerge_b0 v0 v1) q.1 q.2.1 = some x19 }) (fun ζ => [(2, .pointer (some ⟨g3, 0, none⟩)), (3, .pointer (some ⟨g4, 0, none⟩)), (4, .pointer (some ⟨g5, 0, none⟩)), (6, .pointer (some ⟨g18, 0, none⟩)), (7, .int .i64 (ζ.1.2.1.2.2))]) (fun ζ => [box g3 26 [.slice x_v0.1.1 v0.1.length x_v0.1.2, .slice x_v0.2.1 v0.2.length x_v0.2.2], box g4 26 [.slice x_v1.1.1 v1.1.length x_v1.1.2, .slice x_v1.2.1 v1.2.length x_v1.2.2], box g5 26 [.slice none 0 0, .slice none 0 0], tree (.slice ζ.1.2.2.1.1 ζ.1.2.1.1.length ζ.1.2.2.1.2) ζ.1.2.1.1, tree (.slice ζ.1.2.2.2.1 ζ.1.2.1.2.1.length ζ.1.2.2.2.2) ζ.1.2.1.2.1, box g18 26 [.slice ζ.1.2.2.1.1 ζ.1.2.1.1.length ζ.1.2.2.1.2, .slice ζ.1.2.2.2.1 ζ.1.2.1.2.1.length ζ.1.2.2.2.2]]) (fun ζ => ζ.1.1) ⟨(n21, (([] : List Int), ([] : List (List Row)), 1), ((a14, c15), (a16, c17))), hx20⟩ ⟨rfl, rfl, rfl, rfl, rfl, trivial⟩ (.cons Del.here.there.there.there.there.there (.cons Del.here.there.there.there.there (.cons Del.here.there.there.there (.cons Del.here.there.there (.cons Del.here.there (.cons Del.here .nil)))))) ?_
      rintro ⟨⟨m22, σ23, z24⟩, hk29⟩
      obtain ⟨m30, t26, e, H1, hi27, hb28⟩ := itr.of (n := m22) (s := σ23) hk29
      subst e; unfold p_impl_PartMerge_b0 at H1
      show Tr _ _ _ _ _ [(2, .pointer (some ⟨g3, 0, none⟩)), (3, .pointer (some ⟨g4, 0, none⟩)), (4, .pointer (some ⟨g5, 0, none⟩)), (6, .pointer (some ⟨g18, 0, none⟩)), (7, .int .i64 (σ23.2.2))] _ [box g3 26 [.slice x_v0.1.1 v0.1.length x_v0.1.2, .slice x_v0.2.1 v0.2.length x_v0.2.2], box g4 26 [.slice x_v1.1.1 v1.1.length x_v1.1.2, .slice x_v1.2.1 v1.2.length x_v1.2.2], box g5 26 [.slice none 0 0, .slice none 0 0], tree (.slice z24.1.1 σ23.1.length z24.1.2) σ23.1, tree (.slice z24.2.1 σ23.2.1.length z24.2.2) σ23.2.1, box g18 26 [.slice z24.1.1 σ23.1.length z24.1.2, .slice z24.2.1 σ23.2.1.length z24.2.2]]
      refine Tr.seq ?_
      refine Tr.seq ?_
      refine Tr.region ?_
      refine Rg.q (v := .int .i64 (σ23.2.2)) (Pu.qo (p_move rfl)) (by decide) ?_
      refine Rg.q (v := .bool (decide (σ23.2.2 ≤ 6))) (Pu.qo (p_leq rfl rfl)) (by decide) ?_
      refine Rg.nl ?_
      refine nT (?_)
      refine Tr.cond (b := decide (σ23.2.2 ≤ 6)) rfl (fun h31 => ?_) (fun h31 => ?_)
      · have H1 := cdT h31 H1
        refine tSkip ?_
        refine nT (?_)
        refine Tr.seq ?_
        refine Tr.block ?_
        refine Tr.seq ?_
        refine tNwS [(2, .pointer (some ⟨g3, 0, none⟩)), (3, .pointer (some ⟨g4, 0, none⟩)), (4, .pointer (some ⟨g5, 0, none⟩)), (6, .pointer (some ⟨g18, 0, none⟩)), (7, .int .i64 (σ23.2.2))] 2 [0, 1, 3, 4, 2, 5, 6, 7, 8, 9, 10, 11] [2, 5, 6] [] Try.mixed (by kernel_rfl) (by decide) List.nodup_nil ⟨rfl, rfl, rfl, rfl, rfl, trivial⟩ rfl okNil ?_
        refine w_q (v := .agg #[.slice x_v0.1.1 v0.1.length x_v0.1.2, .slice x_v0.2.1 v0.2.length x_v0.2.2]) rfl (by decide) rfl rfl rfl (fun F => (q_ldbA ty26 rfl (Has.here.app F) rfl)) ?_
        refine w_pu (v := .int .i64 (σ23.2.2)) rfl (by decide) rfl rfl rfl (p_move rfl) ?_
        refine w_q (v := .agg #[.slice x_v1.1.1 v1.1.length x_v1.1.2, .slice x_v1.2.1 v1.2.length x_v1.2.2]) rfl (by decide) rfl rfl rfl (fun F => (q_ldbA ty26 rfl (Has.here.there.app F) rfl)) ?_
        refine w_pu (v := .int .i64 (σ23.2.2)) rfl (by decide) rfl rfl rfl (p_move rfl) ?_
        obtain ⟨r32, h33, H1⟩ := bd.of H1
        refine w_ed rfl (by decide) rfl Rdy.nil rfl (n_callB (vs := [.agg #[.slice x_v0.1.1 v0.1.length x_v0.1.2, .slice x_v0.2.1 v0.2.length x_v0.2.2], .int .i64 (σ23.2.2)]) (c_impl_PartOf v0 x_v0 σ23.2.2 h33) (fun _ => (Solo.tree Solo.nil)) rfl (EntsB.cons (Ent.b Ent.z.s.s) (EntsB.cons (Ent.b (Ent.dimm Ent.z.s)) EntsB.nil))) ?_
        rintro _ _ _ ⟨x34, rfl, rfl, rfl⟩
        refine ⟨(PdOk.q rfl rfl (fun F => (q_ldbA ty26 rfl (Has.here.there.there.app F) rfl)) (PdOk.anc (by kernel_rfl) PdOk.nil)), ?_⟩
        obtain ⟨r35, h36, H1⟩ := bd.of H1
        refine w_ed rfl (by decide) rfl Rdy.nil rfl (n_callB (vs := [.agg #[.slice x_v1.1.1 v1.1.length x_v1.1.2, .slice x_v1.2.1 v1.2.length x_v1.2.2], .int .i64 (σ23.2.2)]) (c_impl_PartOf v1 x_v1 σ23.2.2 h36) (fun _ => (Solo.tree Solo.nil)) rfl (EntsB.cons (Ent.b Ent.z.s.s.s.s) (EntsB.cons (Ent.b (Ent.dimm Ent.z)) EntsB.nil))) ?_
        rintro _ _ _ ⟨x37, rfl, rfl, rfl⟩
        refine ⟨(PdOk.anc (by kernel_rfl) (PdOk.anc (by kernel_rfl) PdOk.nil)), ?_⟩
        obtain ⟨r38, h39, H1⟩ := bd.of H1
        refine w_ed rfl (by decide) rfl Rdy.nil rfl (n_callB (vs := [.slice x34.1 r32.length x34.2, .slice x37.1 r35.length x37.2]) (c_impl_BlockMerge r32 x34 r35 x37 h39) (fun _ => (Solo.tree Solo.nil)) rfl (EntsB.cons (EntB.tree Has.here.there) (EntsB.cons (EntB.tree Has.here) EntsB.nil))) ?_
        rintro _ _ _ ⟨x40, rfl, rfl, rfl⟩
        refine ⟨(PdOk.anc (by kernel_rfl) (PdOk.anc (by kernel_rfl) PdOk.nil)), ?_⟩
        refine w_pu (v := .tuple #[.slice x40.1.1 r38.1.length x40.1.2, .bool (r38.2)]) rfl (by decide) rfl rfl rfl (p_move rfl) ?_
        refine w_pu (v := .slice x40.1.1 r38.1.length x40.1.2) rfl (by decide) rfl rfl rfl (p_extract rfl rfl) ?_
        refine w_pu (v := .bool (r38.2)) rfl (by decide) rfl rfl rfl (p_extract rfl rfl) ?_
        refine w_pu (v := .slice x40.1.1 r38.1.length x40.1.2) rfl (by decide) rfl rfl rfl (p_assign rfl) ?_
        refine w_pu (v := .bool (r38.2)) rfl (by decide) rfl rfl rfl (p_assign rfl) ?_
        refine w_nil ?_
        show At _ _ _ _ _ _
        refine nT (?_)
        refine Tr.seq ?_
        refine Tr.seq ?_
        refine Tr.region ?_
        refine Rg.q (v := .bool (r38.2)) (Pu.qo (p_move rfl)) (by decide) ?_
        refine Rg.q (v := .bool (!r38.2)) (Pu.qo (p_not rfl)) (by decide) ?_
        refine Rg.nl ?_
        refine nT (?_)
        refine Tr.cond (b := !r38.2) rfl (fun h41 => ?_) (fun h41 => ?_)
        · have H1 := cdT h41 H1
          refine Tr.seq ?_
          refine Tr.nilT Int ?_
          refine Tr.nilT (List Row) ?_
          refine Tr.region ?_
          refine Rg.q (v := .agg #[.slice none 0 0, .slice none 0 0]) (Pu.qo (p_buildS (vs := []) (cs := #[.slice none 0 0, .slice none 0 0]) ty26 pl26 rfl rfl)) (by decide) ?_
          refine Rg.en (e_store (v := .agg #[.slice none 0 0, .slice none 0 0]) (cs' := [.slice none 0 0, .slice none 0 0]) ty26 rfl rfl Upd.here.there.there.there.there.there.there.there rfl (by simp [Value.cells, Value.oneCell']) (Nat.le_of_ble_eq_true rfl) rfl) rfl ?_
          rintro _ _ _ ⟨rfl, rfl, rfl⟩
          refine Rg.q (v := .bool (false)) (Pu.qo (p_assign rfl)) (by decide) ?_
          refine Rg.nl ?_
          refine nT (?_)
          refine tRet ?_
          refine rT (rB (rT (rT (rB (rT (rT (?_)))))))
          have hx := hb28 _ (Option.some.inj H1).symm; subst hx
          replace H := sw.r H
          have hr := Option.some.inj H; subst hr
          exact back2 (((none, 0), (none, 0)), ()) rfl (ResV.agg ty26 rfl Has.here.there.there.there.there.there.there.there rfl) (ResV.tmp (v := .bool (false)) rfl) rfl Ents.nil (.cons Del.here.there (.cons Del.here .nil))
        · have H1 := cdF h41 H1
          refine tSkip ?_
          refine nT (?_)
          refine Tr.seq ?_
          refine Tr.region ?_
          refine Rg.q (v := .slice x40.1.1 r38.1.length x40.1.2) (Pu.qo (p_move rfl)) (by decide) ?_
          refine Rg.q (v := .int .i64 ((r38.1.length : Int))) (Pu.qo (p_len 46 Try.underlying36 rfl)) (by decide) ?_
          refine Rg.q (v := .bool (decide (0 < (r38.1.length : Int)))) (Pu.qo (p_gtr rfl rfl)) (by decide) ?_
          refine Rg.nl ?_
          refine nT (?_)
          refine Tr.cond (b := decide (0 < (r38.1.length : Int))) rfl (fun h42 => ?_) (fun h42 => ?_)
          · have H1 := cdT h42 H1
            refine Tr.seq ?_
            refine Tr.region ?_
            refine Rg.q (v := .pointer (some ⟨g18, 0, none⟩)) (Pu.qo (p_fabE fa26_0 rfl rfl)) (by decide) ?_
            refine Rg.q (v := .slice z24.1.1 σ23.1.length z24.1.2) (q_ldb ty23 rfl Has.here.there.there.there.there.there.there.there.there rfl) (by decide) ?_
            refine Rg.q (v := .int .i64 (σ23.2.2)) (Pu.qo (p_move rfl)) (by decide) ?_
            refine Rg.ed (e_lit (vs := [(0, .int .i64 (σ23.2.2))]) [.int .i64 (σ23.2.2)] Try.underlying23 ty3 rfl (by decide) (by decide) (by kernel_rfl)) rfl (by decide) ?_
            rintro _ _ _ ⟨g43, rfl, rfl, rfl⟩
            obtain ⟨h46, H1⟩ := gd.of H1
            refine Rg.ed (e_app1 (l := σ23.1) (α := Int) σ23.2.2 () Try.underlying23 ty3 rfl rfl (h46.b (by decide)) h46.x rfl (ShpT.wfa _) (.cons Del.here.there.there.there.there.there.there.there (.cons Del.here .nil))) rfl (by decide) ?_
            rintro _ _ _ ⟨a44, c45, rfl, rfl, rfl⟩
            refine Rg.q (v := .pointer (some ⟨g18, 0, none⟩)) (Pu.qo (p_fabE fa26_0 rfl rfl)) (by decide) ?_
            refine Rg.en (e_store (v := .slice a44 ((σ23.1 ++ [σ23.2.2]).length) c45) (cs' := [.slice a44 ((σ23.1 ++ [σ23.2.2]).length) c45, .slice z24.2.1 σ23.2.1.length z24.2.2]) ty23 rfl rfl Upd.here.there.there.there.there.there.there.there.there rfl (by simp [Value.cells, Value.oneCell']) (Nat.le_of_ble_eq_true rfl) rfl) rfl ?_
            rintro _ _ _ ⟨rfl, rfl, rfl⟩
            refine Rg.nl ?_
            refine nT (?_)
            refine Tr.region ?_
            refine Rg.q (v := .pointer (some ⟨g18, 1, none⟩)) (Pu.qo (p_fabE fa26_1 rfl rfl)) (by decide) ?_
            refine Rg.q (v := .slice z24.2.1 σ23.2.1.length z24.2.2) (q_ldb ty24 rfl Has.here.there.there.there.there.there.there.there.there rfl) (by decide) ?_
            refine Rg.q (v := .slice x40.1.1 r38.1.length x40.1.2) (Pu.qo (p_move rfl)) (by decide) ?_
            refine Rg.ed (e_lit (vs := [(0, .slice x40.1.1 r38.1.length x40.1.2)]) [.slice x40.1.1 r38.1.length x40.1.2] Try.underlying24 ty36 rfl (by decide) (by decide) (by kernel_rfl)) rfl (by decide) ?_
            rintro _ _ _ ⟨g47, rfl, rfl, rfl⟩
            obtain ⟨h50, H1⟩ := gd.of H1
            refine Rg.ed (e_app1 (l := σ23.2.1) (α := (List Row)) r38.1 x40.1 Try.underlying24 ty36 rfl rfl (h50.b (by decide)) h50.x rfl (ShpT.wfa _) (.cons Del.here.there.there.there.there.there.there.there.there (.cons Del.here (.cons Del.here.there .nil)))) rfl (by decide) ?_
            rintro _ _ _ ⟨a48, c49, rfl, rfl, rfl⟩
            refine Rg.q (v := .pointer (some ⟨g18, 1, none⟩)) (Pu.qo (p_fabE fa26_1 rfl rfl)) (by decide) ?_
            refine Rg.en (e_store (v := .slice a48 ((σ23.2.1 ++ [r38.1]).length) c49) (cs' := [.slice a44 ((σ23.1 ++ [σ23.2.2]).length) c45, .slice a48 ((σ23.2.1 ++ [r38.1]).length) c49]) ty24 rfl rfl Upd.here.there.there.there.there.there.there.there rfl (by simp [Value.cells, Value.oneCell']) (Nat.le_of_ble_eq_true rfl) rfl) rfl ?_
            rintro _ _ _ ⟨rfl, rfl, rfl⟩
            refine Rg.nl ?_
            refine nB (nT (?_))
            refine Tr.region ?_
            refine Rg.q (v := .int .i64 (σ23.2.2)) (Pu.qo (p_move rfl)) (by decide) ?_
            obtain ⟨h51, H1⟩ := gd.of H1
            refine Rg.q (v := .int .i64 (σ23.2.2 + 1)) (Pu.qo (p_add rfl rfl h51)) (by decide) ?_
            refine Rg.q (v := .int .i64 (σ23.2.2 + 1)) (Pu.qo (p_assign rfl)) (by decide) ?_
            refine Rg.nl ?_
            exact nLC ⟨(m30, ((σ23.1 ++ [σ23.2.2]), (σ23.2.1 ++ [r38.1]), σ23.2.2 + 1), ((a44, c45), (a48, c49))), hi27 _ (Option.some.inj H1).symm⟩ (Nat.lt_succ_self _) ⟨rfl, rfl, rfl, rfl, rfl, trivial⟩ Ents.refl (.cons Del.here.there.there.there.there (.cons Del.here.there.there.there.there (.cons Del.here.there.there.there.there (.cons Del.here.there (.cons Del.here (.cons Del.here.there.there .nil))))))
          · have H1 := cdF h42 H1
            refine tSkip ?_
            refine nB (nT (?_))
            refine Tr.region ?_
            refine Rg.q (v := .int .i64 (σ23.2.2)) (Pu.qo (p_move rfl)) (by decide) ?_
            obtain ⟨h52, H1⟩ := gd.of H1
            refine Rg.q (v := .int .i64 (σ23.2.2 + 1)) (Pu.qo (p_add rfl rfl h52)) (by decide) ?_
            refine Rg.q (v := .int .i64 (σ23.2.2 + 1)) (Pu.qo (p_assign rfl)) (by decide) ?_
            refine Rg.nl ?_
            exact nLC ⟨(m30, (σ23.1, σ23.2.1, σ23.2.2 + 1), ((z24.1.1, z24.1.2), (z24.2.1, z24.2.2))), hi27 _ (Option.some.inj H1).symm⟩ (Nat.lt_succ_self _) ⟨rfl, rfl, rfl, rfl, rfl, trivial⟩ Ents.refl (.cons Del.here.there.there.there (.cons Del.here.there.there.there (.cons Del.here.there.there.there (.cons Del.here.there.there.there (.cons Del.here.there.there.there (.cons Del.here.there.there.there .nil))))))
      · have H1 := cdF h31 H1
        refine tExit (xT (xT (xE (?_))))
        exact nMC ⟨((σ23.1, σ23.2.1), ((z24.1.1, z24.1.2), (z24.2.1, z24.2.2))), (hb28 _ (Option.some.inj H1).symm).symm⟩ ⟨rfl, rfl, trivial⟩ Ents.refl (.cons Del.here.there.there (.cons Del.here.there.there (.cons Del.here.there.there (.cons Del.here.there.there .nil))))
    · rintro ⟨⟨e53, y25⟩, hx⟩; subst hx; replace H := sw.l H
      show At _ _ [(4, .pointer (some ⟨g5, 0, none⟩)), (6, .pointer (some ⟨g18, 0, none⟩))] _ [box g5 26 [.slice none 0 0, .slice none 0 0], tree (.slice y25.1.1 e53.1.length y25.1.2) e53.1, tree (.slice y25.2.1 e53.2.length y25.2.2) e53.2, box g18 26 [.slice y25.1.1 e53.1.length y25.1.2, .slice y25.2.1 e53.2.length y25.2.2]] _
      refine nT (?_)
      refine Tr.seq ?_
      refine Tr.region ?_
      refine Rg.q (v := .agg #[.slice y25.1.1 e53.1.length y25.1.2, .slice y25.2.1 e53.2.length y25.2.2]) (q_ldbA ty26 rfl Has.here.there.there.there rfl) (by decide) ?_
      refine Rg.en (e_store (v := .agg #[.slice y25.1.1 e53.1.length y25.1.2, .slice y25.2.1 e53.2.length y25.2.2]) (cs' := [.slice y25.1.1 e53.1.length y25.1.2, .slice y25.2.1 e53.2.length y25.2.2]) ty26 rfl rfl Upd.here rfl (by simp [Value.cells, Value.oneCell']) (Nat.le_of_ble_eq_true rfl) rfl) rfl ?_
      rintro _ _ _ ⟨rfl, rfl, rfl⟩
      refine Rg.q (v := .bool (true)) (Pu.qo (p_assign rfl)) (by decide) ?_
      refine Rg.nl ?_
      refine nT (?_)
      refine tRet ?_
      have hr := Option.some.inj H; subst hr
      exact back2 (y25, ()) rfl (ResV.agg ty26 rfl Has.here rfl) (ResV.tmp (v := .bool (true)) rfl) rfl Ents.nil (.cons Del.here.there (.cons Del.here.there .nil))
noncomputable def p_spec_l12Of_b0 (v0 : Part) (v1 : Int) (σ7 : Int) : Option ((Int) ⊕ (Unit ⊕ (List Row))) := cond (decide (σ7 < (v0.1.length : Int))) (gd (ix σ7 v0.1.length) <| cond (decide ((nth v0.1 σ7.toNat) = v1)) (gd (ix σ7 v0.2.length) <| some (.inr (.inr (nth v0.2 σ7.toNat)))) (gd (I64 (σ7 + 1)) <| some (.inl (σ7 + 1)))) (some (.inr (.inl ())))
noncomputable def p_spec_l12Of (v0 : Part) (v1 : Int) : Option ((List Row)) := bd (lp (p_spec_l12Of_b0 v0 v1) 0) <| sw (fun e20 => some ([] : List Row)) (fun q => some q)
theorem c_spec_l12Of {r : (List Row)} (v0 : Part) (x_v0 : (Option Addr × Nat) × (Option Addr × Nat)) (v1 : Int) (H : p_spec_l12Of v0 v1 = some r) : Fn' Try.prog 53 #[.agg #[.slice x_v0.1.1 v0.1.length x_v0.1.2, .slice x_v0.2.1 v0.2.length x_v0.2.2], .int .i64 (v1)] [imm (.slice x_v0.1.1 v0.1.length x_v0.1.2) v0.1, imm (.slice x_v0.2.1 v0.2.length x_v0.2.2) v0.2] [] (ι := Option Addr × Nat) (fun x => .slice x.1 r.length x.2) (fun x => [imm (.slice x.1 r.length x.2) r]) (fun x => []) := by
  refine calls_of (args := [_, _]) Try.func53 rfl (by kernel_rfl) Try.ntmps53 (by simp) fun c => ?_
  unfold p_spec_l12Of at H
  refine Tr.openD Ent.z.s fun X1 => ?_
  refine Tr.seq ?_
  refine Tr.region ?_
  refine Rg.ed (e_box (t := 26) (v := .agg #[.slice x_v0.1.1 v0.1.length x_v0.1.2, .slice x_v0.2.1 v0.2.length x_v0.2.2]) rfl) rfl (by decide) ?_
  rintro _ _ _ ⟨g2, rfl, rfl, rfl⟩
  refine Rg.q (v := .slice none 0 0) (Pu.qo (p_assign rfl)) (by decide) ?_
  refine Rg.nl ?_
  refine nT (?_)
  refine Tr.seq ?_
  refine Tr.seq ?_
  refine Tr.region ?_
  refine Rg.q (v := .int .i64 (0)) (Pu.qo (p_assign rfl)) (by decide) ?_
  refine Rg.nl ?_
  refine nT (?_)
  obtain ⟨x3, hx4, H⟩ := bd.of H
  obtain ⟨n5, hx4⟩ := lp.of hx4
  refine tMidNC (ι := { q : (Unit) × Unit // x3 = .inl q.1 }) (fun ψ => []) (fun ψ => []) ?_ ?_
  · refine Tr.block ?_
    refine tLoopC (ι := { q : Nat × (Int) × Unit // itr (p_spec_l12Of_b0 v0 v1) q.1 q.2.1 = some x3 }) (fun ζ => [(1, .int .i64 (v1)), (2, .pointer (some ⟨g2, 0, none⟩)), (5, .int .i64 (ζ.1.2.1))]) (fun ζ => [box g2 26 [.slice x_v0.1.1 v0.1.length x_v0.1.2, .slice x_v0.2.1 v0.2.length x_v0.2.2]]) (fun ζ => ζ.1.1) ⟨(n5, 0, ()), hx4⟩ ⟨rfl, rfl, rfl, trivial⟩ (.cons Del.here .nil) ?_
    rintro ⟨⟨m6, σ7, z8⟩, hk13⟩
    obtain ⟨m14, t10, e, H1, hi11, hb12⟩ := itr.of (n := m6) (s := σ7) hk13
    subst e; unfold p_spec_l12Of_b0 at H1
    show Tr _ _ _ _ _ [(1, .int .i64 (v1)), (2, .pointer (some ⟨g2, 0, none⟩)), (5, .int .i64 (σ7))] _ [box g2 26 [.slice x_v0.1.1 v0.1.length x_v0.1.2, .slice x_v0.2.1 v0.2.length x_v0.2.2]]
    refine Tr.seq ?_
    refine Tr.seq ?_
    refine Tr.region ?_
    refine Rg.q (v := .int .i64 (σ7)) (Pu.qo (p_move rfl)) (by decide) ?_
    refine Rg.q (v := .pointer (some ⟨g2, 0, none⟩)) (Pu.qo (p_fabE fa26_0 rfl rfl)) (by decide) ?_
    refine Rg.q (v := .slice x_v0.1.1 v0.1.length x_v0.1.2) (q_ldb ty23 rfl Has.here rfl) (by decide) ?_
    refine Rg.q (v := .int .i64 ((v0.1.length : Int))) (Pu.qo (p_len 3 Try.underlying23 rfl)) (by decide) ?_
    refine Rg.q (v := .bool (decide (σ7 < (v0.1.length : Int)))) (Pu.qo (p_lss rfl rfl)) (by decide) ?_
    refine Rg.nl ?_
    refine nT (?_)
    refine Tr.cond (b := decide (σ7 < (v0.1.length : Int))) rfl (fun h15 => ?_) (fun h15 => ?_)
    · have H1 := cdT h15 H1
      refine tSkip ?_
      refine nT (?_)
      refine Tr.seq ?_
      refine Tr.block ?_
      refine Tr.seq ?_
      refine Tr.region ?_
      refine Rg.q (v := .pointer (some ⟨g2, 0, none⟩)) (Pu.qo (p_fabE fa26_0 rfl rfl)) (by decide) ?_
      refine Rg.q (v := .slice x_v0.1.1 v0.1.length x_v0.1.2) (q_ldb ty23 rfl Has.here rfl) (by decide) ?_
      refine Rg.q (v := .int .i64 (σ7)) (Pu.qo (p_move rfl)) (by decide) ?_
      obtain ⟨h16, H1⟩ := gd.of H1
      refine Rg.q (v := elp x_v0.1.1 (σ7.toNat * Enc.sz Int + 0)) (q_ixg (l := v0.1) (E := fun i => Flat.enc (nth v0.1 i)) (oa := x_v0.1.1) Try.underlying23 ty3 rfl rfl h16 rfl (EntB.flat (Ent.b Ent.z.s))) (by decide) ?_
      refine Rg.q (v := .int .i64 (nth v0.1 σ7.toNat)) (q_lde (l := v0.1) (E := fun i => Flat.enc (nth v0.1 i)) (oa := x_v0.1.1) (i := σ7.toNat) (j := 0) ty3 rfl (EntB.flat (Ent.b Ent.z.s)) h16.lt rfl) (by decide) ?_
      refine Rg.q (v := .int .i64 (v1)) (Pu.qo (p_move rfl)) (by decide) ?_
      refine Rg.q (v := .bool (decide ((nth v0.1 σ7.toNat) = v1))) (Pu.qo (p_eql rfl rfl)) (by decide) ?_
      refine Rg.nl ?_
      refine nT (?_)
      refine Tr.cond (b := decide ((nth v0.1 σ7.toNat) = v1)) rfl (fun h17 => ?_) (fun h17 => ?_)
      · have H1 := cdT h17 H1
        refine Tr.seq ?_
        refine Tr.region ?_
        refine Rg.q (v := .pointer (some ⟨g2, 1, none⟩)) (Pu.qo (p_fabE fa26_1 rfl rfl)) (by decide) ?_
        refine Rg.q (v := .slice x_v0.2.1 v0.2.length x_v0.2.2) (q_ldb ty24 rfl Has.here rfl) (by decide) ?_
        refine Rg.q (v := .int .i64 (σ7)) (Pu.qo (p_move rfl)) (by decide) ?_
        obtain ⟨h18, H1⟩ := gd.of H1
        refine Rg.q (v := elp x_v0.2.1 (σ7.toNat * Enc.sz (List Row) + 0)) (q_ixg (l := v0.2) (E := fun i => Dp.denc (nth v0.2 i) (X1 i)) (oa := x_v0.2.1) Try.underlying24 ty36 rfl rfl h18 rfl (Ent.b (Ent.darr Ent.z))) (by decide) ?_
        refine Rg.q (v := .slice ((X1 σ7.toNat).1) ((nth v0.2 σ7.toNat).length) ((X1 σ7.toNat).2.1)) (q_lde (l := v0.2) (E := fun i => Dp.denc (nth v0.2 i) (X1 i)) (oa := x_v0.2.1) (i := σ7.toNat) (j := 0) ty36 rfl (Ent.b (Ent.darr Ent.z)) h18.lt rfl) (by decide) ?_
        refine Rg.q (v := .slice ((X1 σ7.toNat).1) ((nth v0.2 σ7.toNat).length) ((X1 σ7.toNat).2.1)) (Pu.qo (p_assign rfl)) (by decide) ?_
        refine Rg.nl ?_
        refine nT (?_)
        refine tRet ?_
        refine rB (rT (rT (rB (rT (rT (?_))))))
        have hx := hb12 _ (Option.some.inj H1).symm; subst hx
        replace H := sw.r H
        have hr := Option.some.inj H; subst hr
        exact back1 ((X1 σ7.toNat).1, (X1 σ7.toNat).2.1) rfl (ResV.tmp (v := .slice ((X1 σ7.toNat).1) ((nth v0.2 σ7.toNat).length) ((X1 σ7.toNat).2.1)) rfl) rfl (Ents.cons (Ent.dimm (Ent.del Ent.z h18.lt)) Ents.nil) Take.nil
      · have H1 := cdF h17 H1
        refine tSkip ?_
        refine nB (nT (?_))
        refine Tr.region ?_
        refine Rg.q (v := .int .i64 (σ7)) (Pu.qo (p_move rfl)) (by decide) ?_
        obtain ⟨h19, H1⟩ := gd.of H1
        refine Rg.q (v := .int .i64 (σ7 + 1)) (Pu.qo (p_add rfl rfl h19)) (by decide) ?_
        refine Rg.q (v := .int .i64 (σ7 + 1)) (Pu.qo (p_assign rfl)) (by decide) ?_
        refine Rg.nl ?_
        exact nLC ⟨(m14, σ7 + 1, ()), hi11 _ (Option.some.inj H1).symm⟩ (Nat.lt_succ_self _) ⟨rfl, rfl, rfl, trivial⟩ Ents.refl (.cons Del.here .nil)
    · have H1 := cdF h15 H1
      refine tExit (xT (xT (xE (?_))))
      exact nMC ⟨((), ()), (hb12 _ (Option.some.inj H1).symm).symm⟩ trivial Ents.refl Take.nil
  · rintro ⟨⟨e20, y9⟩, hx⟩; subst hx; replace H := sw.l H
    show At _ _ [] _ [] _
    refine nT (?_)
    refine Tr.seq ?_
    refine Tr.region ?_
    refine Rg.ed (e_lit0 Row Try.underlying36 ty46) rfl (by decide) ?_
    rintro _ _ _ ⟨a21, c22, rfl, rfl, rfl⟩
    refine Rg.q (v := .slice a21 (([] : List Row).length) c22) (Pu.qo (p_assign rfl)) (by decide) ?_
    refine Rg.nl ?_
    refine nT (?_)
    refine Tr.freeze (.cons Del.here .nil) ?_
    refine tRet ?_
    have hr := Option.some.inj H; subst hr
    exact back1 (a21, c22) rfl (ResV.tmp (v := .slice a21 (([] : List Row).length) c22) rfl) rfl (Ents.cons Ent.z Ents.nil) Take.nil
noncomputable def p_spec_l2Merge_b0 (v1 : (List Row)) (σ10 : (List Row) × Int) : Option (((List Row) × Int) ⊕ ((List Row))) := cond (decide (σ10.2 < (v1.length : Int))) (gd (ix σ10.2 v1.length) <| bd (p_spec_l2Put σ10.1 (nth v1 σ10.2.toNat)) fun r20 => gd (I64 (σ10.2 + 1)) <| some (.inl (r20, σ10.2 + 1))) (some (.inr σ10.1))
noncomputable def p_spec_l2Merge (v0 : (List Row)) (v1 : (List Row)) : Option ((List Row)) := gd (room (([] : List Row).length + v0.length)) <| bd (lp (p_spec_l2Merge_b0 v1) ((([] : List Row) ++ v0), 0)) fun x6 => some x6
theorem c_spec_l2Merge {r : (List Row)} (v0 : (List Row)) (x_v0 : Option Addr × Nat) (v1 : (List Row)) (x_v1 : Option Addr × Nat) (H : p_spec_l2Merge v0 v1 = some r) : Fn' Try.prog 52 #[.slice x_v0.1 v0.length x_v0.2, .slice x_v1.1 v1.length x_v1.2] [imm (.slice x_v0.1 v0.length x_v0.2) v0, imm (.slice x_v1.1 v1.length x_v1.2) v1] [] (ι := Option Addr × Nat) (fun x => .slice x.1 r.length x.2) (fun _ => []) (fun x => [tree (.slice x.1 r.length x.2) r]) := by
  refine calls_of (args := [_, _]) Try.func52 rfl (by kernel_rfl) Try.ntmps52 (by simp) fun c => ?_
  unfold p_spec_l2Merge at H
  refine Tr.seq ?_
  refine Tr.region ?_
  refine Rg.q (v := .slice none 0 0) (Pu.qo (p_assign rfl)) (by decide) ?_
  refine Rg.nl ?_
  refine nT (?_)
  refine Tr.seq ?_
  refine Tr.region ?_
  refine Rg.ed (e_lit0 Row Try.underlying36 ty46) rfl (by decide) ?_
  rintro _ _ _ ⟨a1, c2, rfl, rfl, rfl⟩
  refine Rg.q (v := .slice x_v0.1 v0.length x_v0.2) (Pu.qo (p_move rfl)) (by decide) ?_
  obtain ⟨h5, H⟩ := gd.of H
  refine Rg.ed (e_appF (l := ([] : List Row)) (k := v0) (α := Row) Try.underlying36 ty46 rfl rfl (h5.b (by decide)) h5.x (.cons Del.here .nil) (Ent.b Ent.z)) rfl (by decide) ?_
  rintro _ _ _ ⟨a3, c4, rfl, rfl, rfl⟩
  refine Rg.q (v := .slice a3 ((([] : List Row) ++ v0).length) c4) (Pu.qo (p_assign rfl)) (by decide) ?_
  refine Rg.nl ?_
  refine nT (?_)
  refine Tr.seq ?_
  refine Tr.seq ?_
  refine Tr.region ?_
  refine Rg.q (v := .int .i64 (0)) (Pu.qo (p_assign rfl)) (by decide) ?_
  refine Rg.nl ?_
  refine nT (?_)
  obtain ⟨x6, hx7, H⟩ := bd.of H
  obtain ⟨n8, hx7⟩ := lp.of hx7
  refine tMidNC (ι := Option Addr × Nat) (fun ψ => [(5, .slice ψ.1 x6.length ψ.2)]) (fun ψ => [tree (.slice ψ.1 x6.length ψ.2) x6]) ?_ ?_
  · refine Tr.block ?_
    refine tLoopC (ι := { q : Nat × ((List Row) × Int) × (Option Addr × Nat) // itr (p_spec_l2Merge_b0 v1) q.1 q.2.1 = some x6 }) (fun ζ => [(1, .slice x_v1.1 v1.length x_v1.2), (5, .slice ζ.1.2.2.1 ζ.1.2.1.1.length ζ.1.2.2.2), (6, .int .i64 (ζ.1.2.1.2))]) (fun ζ => [tree (.slice ζ.1.2.2.1 ζ.1.2.1.1.length ζ.1.2.2.2) ζ.1.2.1.1]) (fun ζ => ζ.1.1) ⟨(n8, ((([] : List Row) ++ v0), 0), (a3, c4)), hx7⟩ ⟨rfl, rfl, rfl, trivial⟩ (.cons Del.here .nil) ?_
    rintro ⟨⟨m9, σ10, z11⟩, hk16⟩
    obtain ⟨m17, t13, e, H1, hi14, hb15⟩ := itr.of (n := m9) (s := σ10) hk16
    subst e; unfold p_spec_l2Merge_b0 at H1
    show Tr _ _ _ _ _ [(1, .slice x_v1.1 v1.length x_v1.2), (5, .slice z11.1 σ10.1.length z11.2), (6, .int .i64 (σ10.2))] _ [tree (.slice z11.1 σ10.1.length z11.2) σ10.1]
    refine Tr.seq ?_
    refine Tr.seq ?_
    refine Tr.region ?_
    refine Rg.q (v := .int .i64 (σ10.2)) (Pu.qo (p_move rfl)) (by decide) ?_
    refine Rg.q (v := .slice x_v1.1 v1.length x_v1.2) (Pu.qo (p_move rfl)) (by decide) ?_
    refine Rg.q (v := .int .i64 ((v1.length : Int))) (Pu.qo (p_len 46 Try.underlying36 rfl)) (by decide) ?_
    refine Rg.q (v := .bool (decide (σ10.2 < (v1.length : Int)))) (Pu.qo (p_lss rfl rfl)) (by decide) ?_
    refine Rg.nl ?_
    refine nT (?_)
    refine Tr.cond (b := decide (σ10.2 < (v1.length : Int))) rfl (fun h18 => ?_) (fun h18 => ?_)
    · have H1 := cdT h18 H1
      refine tSkip ?_
      refine nT (?_)
      refine Tr.seq ?_
      refine Tr.block ?_
      refine Tr.region ?_
      refine Rg.q (v := .slice z11.1 σ10.1.length z11.2) (Pu.qo (p_move rfl)) (by decide) ?_
      refine Rg.q (v := .slice x_v1.1 v1.length x_v1.2) (Pu.qo (p_move rfl)) (by decide) ?_
      refine Rg.q (v := .int .i64 (σ10.2)) (Pu.qo (p_move rfl)) (by decide) ?_
      obtain ⟨h19, H1⟩ := gd.of H1
      refine Rg.q (v := elp x_v1.1 (σ10.2.toNat * Enc.sz Row + 0)) (q_ixg (l := v1) (E := fun i => Flat.enc (nth v1 i)) (oa := x_v1.1) Try.underlying36 ty46 rfl rfl h19 rfl (EntB.flat (Ent.b Ent.z.s))) (by decide) ?_
      refine Rg.q (v := .agg #[.int .i64 ((nth v1 σ10.2.toNat).1), .int .i64 ((nth v1 σ10.2.toNat).2)]) (q_ldeA (l := v1) (E := fun i => Flat.enc (nth v1 i)) (oa := x_v1.1) (i := σ10.2.toNat) ty46 rfl (EntB.flat (Ent.b Ent.z.s)) h19.lt) (by decide) ?_
      obtain ⟨r20, h21, H1⟩ := bd.of H1
      refine Rg.ed (e_callB (vs := [.slice z11.1 σ10.1.length z11.2, .agg #[.int .i64 ((nth v1 σ10.2.toNat).1), .int .i64 ((nth v1 σ10.2.toNat).2)]]) (c_spec_l2Put σ10.1 z11 (nth v1 σ10.2.toNat) h21) (fun _ => (Solo.tree Solo.nil)) rfl (EntsB.cons (EntB.tree Has.here) EntsB.nil)) rfl (by decide) ?_
      rintro _ _ _ ⟨x22, rfl, rfl, rfl⟩
      refine Rg.q (v := .slice x22.1 r20.length x22.2) (Pu.qo (p_assign rfl)) (by decide) ?_
      refine Rg.nl ?_
      refine nB (nT (?_))
      refine Tr.region ?_
      refine Rg.q (v := .int .i64 (σ10.2)) (Pu.qo (p_move rfl)) (by decide) ?_
      obtain ⟨h23, H1⟩ := gd.of H1
      refine Rg.q (v := .int .i64 (σ10.2 + 1)) (Pu.qo (p_add rfl rfl h23)) (by decide) ?_
      refine Rg.q (v := .int .i64 (σ10.2 + 1)) (Pu.qo (p_assign rfl)) (by decide) ?_
      refine Rg.nl ?_
      exact nLC ⟨(m17, (r20, σ10.2 + 1), (x22.1, x22.2)), hi14 _ (Option.some.inj H1).symm⟩ (Nat.lt_succ_self _) ⟨rfl, rfl, rfl, trivial⟩ Ents.refl (.cons Del.here .nil)
    · have H1 := cdF h18 H1
      refine tExit (xT (xT (xE (?_))))
      have hx := hb15 _ (Option.some.inj H1).symm; subst hx
      exact nMC (z11.1, z11.2) ⟨rfl, trivial⟩ Ents.refl (.cons Del.here .nil)
  · intro y12
    show At _ _ [(5, .slice y12.1 x6.length y12.2)] _ [tree (.slice y12.1 x6.length y12.2) x6] _
    refine nT (?_)
    refine Tr.seq ?_
    refine Tr.region ?_
    refine Rg.q (v := .slice y12.1 x6.length y12.2) (Pu.qo (p_move rfl)) (by decide) ?_
    refine Rg.q (v := .slice y12.1 x6.length y12.2) (Pu.qo (p_assign rfl)) (by decide) ?_
    refine Rg.nl ?_
    refine nT (?_)
    refine tRet ?_
    have hr := Option.some.inj H; subst hr
    exact back1 y12 rfl (ResV.tmp (v := .slice y12.1 x6.length y12.2) rfl) rfl Ents.nil (.cons Del.here .nil)
noncomputable def p_spec_l12Merge_b0 (v0 : Part) (v1 : Part) (σ12 : (List (List Row)) × Int) : Option (((List (List Row)) × Int) ⊕ ((List (List Row)))) := cond (decide (σ12.2 ≤ 6)) (bd (p_spec_l12Of v0 σ12.2) fun r21 => bd (p_spec_l12Of v1 σ12.2) fun r24 => bd (p_spec_l2Merge r21 r24) fun r27 => gd (room (σ12.1.length + 1)) <| gd (I64 (σ12.2 + 1)) <| some (.inl ((σ12.1 ++ [r27]), σ12.2 + 1))) (some (.inr σ12.1))
noncomputable def p_spec_l12Merge (v0 : Part) (v1 : Part) : Option (Part) := bd (lp (p_spec_l12Merge_b0 v0 v1) (([] : List (List Row)), 1)) fun x8 => bd (p_spec_l12Make x8) fun r35 => some r35
theorem c_spec_l12Merge {r : Part} (v0 : Part) (x_v0 : (Option Addr × Nat) × (Option Addr × Nat)) (v1 : Part) (x_v1 : (Option Addr × Nat) × (Option Addr × Nat)) (H : p_spec_l12Merge v0 v1 = some r) : Fn' Try.prog 32 #[.agg #[.slice x_v0.1.1 v0.1.length x_v0.1.2, .slice x_v0.2.1 v0.2.length x_v0.2.2], .agg #[.slice x_v1.1.1 v1.1.length x_v1.1.2, .slice x_v1.2.1 v1.2.length x_v1.2.2]] [imm (.slice x_v0.1.1 v0.1.length x_v0.1.2) v0.1, imm (.slice x_v0.2.1 v0.2.length x_v0.2.2) v0.2, imm (.slice x_v1.1.1 v1.1.length x_v1.1.2) v1.1, imm (.slice x_v1.2.1 v1.2.length x_v1.2.2) v1.2] [] (ι := (Option Addr × Nat) × (Option Addr × Nat)) (fun x => .agg #[.slice x.1.1 r.1.length x.1.2, .slice x.2.1 r.2.length x.2.2]) (fun _ => []) (fun x => [tree (.slice x.1.1 r.1.length x.1.2) r.1, tree (.slice x.2.1 r.2.length x.2.2) r.2]) := by
  refine calls_of (args := [_, _]) Try.func32 rfl (by kernel_rfl) Try.ntmps32 (by simp) fun c => ?_
  unfold p_spec_l12Merge at H
  refine Tr.openD Ent.z.s fun X1 => ?_
  refine Tr.openD Ent.z.s.s.s.s fun X2 => ?_
  refine Tr.seq ?_
  refine Tr.region ?_
  refine Rg.ed (e_box (t := 26) (v := .agg #[.slice x_v0.1.1 v0.1.length x_v0.1.2, .slice x_v0.2.1 v0.2.length x_v0.2.2]) rfl) rfl (by decide) ?_
  rintro _ _ _ ⟨g3, rfl, rfl, rfl⟩
  refine Rg.ed (e_box (t := 26) (v := .agg #[.slice x_v1.1.1 v1.1.length x_v1.1.2, .slice x_v1.2.1 v1.2.length x_v1.2.2]) rfl) rfl (by decide) ?_
  rintro _ _ _ ⟨g4, rfl, rfl, rfl⟩
  refine Rg.ed (e_alloc ty26) rfl (by decide) ?_
  rintro _ _ _ ⟨g5, rfl, rfl, rfl⟩
  refine Rg.nl ?_
  refine nT (?_)
  refine Tr.seq ?_
  refine Tr.region ?_
  refine Rg.ed (e_lit0 (List Row) Try.underlying24 ty36) rfl (by decide) ?_
  rintro _ _ _ ⟨a6, c7, rfl, rfl, rfl⟩
  refine Rg.q (v := .slice a6 (([] : List (List Row)).length) c7) (Pu.qo (p_assign rfl)) (by decide) ?_
  refine Rg.nl ?_
  refine nT (?_)
  refine Tr.seq ?_
  refine Tr.seq ?_
  refine Tr.region ?_
  refine Rg.q (v := .int .i64 (1)) (Pu.qo (p_assign rfl)) (by decide) ?_
  refine Rg.nl ?_
  refine nT (?_)
  obtain ⟨x8, hx9, H⟩ := bd.of H
  obtain ⟨n10, hx9⟩ := lp.of hx9
  refine tMidNC (ι := Option Addr × Nat) (fun ψ => [(4, .pointer (some ⟨g5, 0, none⟩)), (5, .slice ψ.1 x8.length ψ.2)]) (fun ψ => [box g5 26 [.slice none 0 0, .slice none 0 0], tree (.slice ψ.1 x8.length ψ.2) x8]) ?_ ?_
  · refine Tr.block ?_
    refine tLoopC (ι := { q : Nat × ((List (List Row)) × Int) × (Option Addr × Nat) // itr (p_spec_l12Merge_b0 v0 v1) q.1 q.2.1 = some x8 }) (fun ζ => [(2, .pointer (some ⟨g3, 0, none⟩)), (3, .pointer (some ⟨g4, 0, none⟩)), (4, .pointer (some ⟨g5, 0, none⟩)), (5, .slice ζ.1.2.2.1 ζ.1.2.1.1.length ζ.1.2.2.2), (6, .int .i64 (ζ.1.2.1.2))]) (fun ζ => [box g3 26 [.slice x_v0.1.1 v0.1.length x_v0.1.2, .slice x_v0.2.1 v0.2.length x_v0.2.2], box g4 26 [.slice x_v1.1.1 v1.1.length x_v1.1.2, .slice x_v1.2.1 v1.2.length x_v1.2.2], box g5 26 [.slice none 0 0, .slice none 0 0], tree (.slice ζ.1.2.2.1 ζ.1.2.1.1.length ζ.1.2.2.2) ζ.1.2.1.1]) (fun ζ => ζ.1.1) ⟨(n10, (([] : List (List Row)), 1), (a6, c7)), hx9⟩ ⟨rfl, rfl, rfl, rfl, rfl, trivial⟩ (.cons Del.here.there.there.there (.cons Del.here.there.there (.cons Del.here.there (.cons Del.here .nil)))) ?_
    rintro ⟨⟨m11, σ12, z13⟩, hk18⟩
    obtain ⟨m19, t15, e, H1, hi16, hb17⟩ := itr.of (n := m11) (s := σ12) hk18
    subst e; unfold p_spec_l12Merge_b0 at H1
    show Tr _ _ _ _ _ [(2, .pointer (some ⟨g3, 0, none⟩)), (3, .pointer (some ⟨g4, 0, none⟩)), (4, .pointer (some ⟨g5, 0, none⟩)), (5, .slice z13.1 σ12.1.length z13.2), (6, .int .i64 (σ12.2))] _ [box g3 26 [.slice x_v0.1.1 v0.1.length x_v0.1.2, .slice x_v0.2.1 v0.2.length x_v0.2.2], box g4 26 [.slice x_v1.1.1 v1.1.length x_v1.1.2, .slice x_v1.2.1 v1.2.length x_v1.2.2], box g5 26 [.slice none 0 0, .slice none 0 0], tree (.slice z13.1 σ12.1.length z13.2) σ12.1]
    refine Tr.seq ?_
    refine Tr.seq ?_
    refine Tr.region ?_
    refine Rg.q (v := .int .i64 (σ12.2)) (Pu.qo (p_move rfl)) (by decide) ?_
    refine Rg.q (v := .bool (decide (σ12.2 ≤ 6))) (Pu.qo (p_leq rfl rfl)) (by decide) ?_
    refine Rg.nl ?_
    refine nT (?_)
    refine Tr.cond (b := decide (σ12.2 ≤ 6)) rfl (fun h20 => ?_) (fun h20 => ?_)
    · have H1 := cdT h20 H1
      refine tSkip ?_
      refine nT (?_)
      refine Tr.seq ?_
      refine Tr.block ?_
      refine tNwL [(2, .pointer (some ⟨g3, 0, none⟩)), (3, .pointer (some ⟨g4, 0, none⟩)), (4, .pointer (some ⟨g5, 0, none⟩)), (5, .slice z13.1 σ12.1.length z13.2), (6, .int .i64 (σ12.2))] 2 [0, 1, 2, 4, 5, 3, 6, 7, 8, 9] [3, 6, 7, 8, 9] [] Try.mixed rfl (by kernel_rfl) (by kernel_rfl) (by decide) List.nodup_nil ⟨rfl, rfl, rfl, rfl, rfl, trivial⟩ rfl okNil ?_
      refine w_pu (v := .slice z13.1 σ12.1.length z13.2) rfl (by decide) rfl rfl rfl (p_move rfl) ?_
      refine w_q (v := .agg #[.slice x_v0.1.1 v0.1.length x_v0.1.2, .slice x_v0.2.1 v0.2.length x_v0.2.2]) rfl (by decide) rfl rfl rfl (fun F => (q_ldbA ty26 rfl (Has.here.app F) rfl)) ?_
      refine w_pu (v := .int .i64 (σ12.2)) rfl (by decide) rfl rfl rfl (p_move rfl) ?_
      refine w_q (v := .agg #[.slice x_v1.1.1 v1.1.length x_v1.1.2, .slice x_v1.2.1 v1.2.length x_v1.2.2]) rfl (by decide) rfl rfl rfl (fun F => (q_ldbA ty26 rfl (Has.here.there.app F) rfl)) ?_
      refine w_pu (v := .int .i64 (σ12.2)) rfl (by decide) rfl rfl rfl (p_move rfl) ?_
      obtain ⟨r21, h22, H1⟩ := bd.of H1
      refine w_ed rfl (by decide) rfl Rdy.nil rfl (n_call (vs := [.agg #[.slice x_v0.1.1 v0.1.length x_v0.1.2, .slice x_v0.2.1 v0.2.length x_v0.2.2], .int .i64 (σ12.2)]) (c_spec_l12Of v0 x_v0 σ12.2 h22) rfl (Ents.cons Ent.z.s.s (Ents.cons (Ent.dimm Ent.z.s) Ents.nil)) Take.nil) ?_
      rintro _ _ _ ⟨x23, rfl, rfl, rfl⟩
      refine ⟨(PdOk.q rfl rfl (fun F => (q_ldbA ty26 rfl (Has.here.there.app F) rfl)) (PdOk.anc (by kernel_rfl) PdOk.nil)), ?_⟩
      obtain ⟨r24, h25, H1⟩ := bd.of H1
      refine w_ed rfl (by decide) rfl Rdy.nil rfl (n_call (vs := [.agg #[.slice x_v1.1.1 v1.1.length x_v1.1.2, .slice x_v1.2.1 v1.2.length x_v1.2.2], .int .i64 (σ12.2)]) (c_spec_l12Of v1 x_v1 σ12.2 h25) rfl (Ents.cons Ent.z.s.s.s.s.s (Ents.cons (Ent.dimm Ent.z.s) Ents.nil)) Take.nil) ?_
      rintro _ _ _ ⟨x26, rfl, rfl, rfl⟩
      refine ⟨(PdOk.anc (by kernel_rfl) (PdOk.anc (by kernel_rfl) PdOk.nil)), ?_⟩
      obtain ⟨r27, h28, H1⟩ := bd.of H1
      refine w_ed rfl (by decide) rfl Rdy.nil rfl (n_callB (vs := [.slice x23.1 r21.length x23.2, .slice x26.1 r24.length x26.2]) (c_spec_l2Merge r21 x23 r24 x26 h28) (fun _ => (Solo.tree Solo.nil)) rfl (EntsB.cons (Ent.b Ent.z.s) (EntsB.cons (Ent.b Ent.z) EntsB.nil))) ?_
      rintro _ _ _ ⟨x29, rfl, rfl, rfl⟩
      refine ⟨(PdOk.anc (by kernel_rfl) (PdOk.anc (by kernel_rfl) PdOk.nil)), ?_⟩
      refine w_ed rfl (by decide) rfl Rdy.nil rfl (n_lit (vs := [(0, .slice x29.1 r27.length x29.2)]) [.slice x29.1 r27.length x29.2] Try.underlying24 ty36 rfl (by decide) (by decide) (by kernel_rfl)) ?_
      rintro _ _ _ ⟨g30, rfl, rfl, rfl⟩
      refine ⟨(PdOk.q rfl rfl (fun F => (q_ldbA ty26 rfl (Has.here.there.there.there.app F) rfl)) (PdOk.q rfl rfl (fun F => (q_ldbA ty26 rfl (Has.here.there.there.app F) rfl)) PdOk.nil)), ?_⟩
      obtain ⟨h33, H1⟩ := gd.of H1
      refine w_ed rfl (by decide) rfl Rdy.nil rfl (n_app1 (l := σ12.1) (α := (List Row)) r27 x29 Try.underlying24 ty36 rfl rfl (h33.b (by decide)) h33.x rfl (ShpT.wfa _) (.cons Del.here.there.there.there.there.there (.cons Del.here (.cons Del.here .nil)))) ?_
      rintro _ _ _ ⟨a31, c32, rfl, rfl, rfl⟩
      refine ⟨(PdOk.q rfl rfl (fun F => (q_ldbA ty26 rfl (Has.here.there.there.app F) rfl)) (PdOk.q rfl rfl (fun F => (q_ldbA ty26 rfl (Has.here.there.app F) rfl)) PdOk.nil)), ?_⟩
      refine w_nil ?_
      show Rg _ _ _ _ _ _ _ _ _
      refine Rg.q (v := .slice a31 ((σ12.1 ++ [r27]).length) c32) (Pu.qo (p_assign rfl)) (by decide) ?_
      refine Rg.nl ?_
      refine nB (nT (?_))
      refine Tr.region ?_
      refine Rg.q (v := .int .i64 (σ12.2)) (Pu.qo (p_move rfl)) (by decide) ?_
      obtain ⟨h34, H1⟩ := gd.of H1
      refine Rg.q (v := .int .i64 (σ12.2 + 1)) (Pu.qo (p_add rfl rfl h34)) (by decide) ?_
      refine Rg.q (v := .int .i64 (σ12.2 + 1)) (Pu.qo (p_assign rfl)) (by decide) ?_
      refine Rg.nl ?_
      exact nLC ⟨(m19, ((σ12.1 ++ [r27]), σ12.2 + 1), (a31, c32)), hi16 _ (Option.some.inj H1).symm⟩ (Nat.lt_succ_self _) ⟨rfl, rfl, rfl, rfl, rfl, trivial⟩ Ents.refl.s.s (.cons Del.here.there (.cons Del.here.there (.cons Del.here.there (.cons Del.here .nil))))
    · have H1 := cdF h20 H1
      refine tExit (xT (xT (xE (?_))))
      have hx := hb17 _ (Option.some.inj H1).symm; subst hx
      exact nMC (z13.1, z13.2) ⟨rfl, rfl, trivial⟩ Ents.refl (.cons Del.here.there.there (.cons Del.here.there.there .nil))
  · intro y14
    show At _ _ [(4, .pointer (some ⟨g5, 0, none⟩)), (5, .slice y14.1 x8.length y14.2)] _ [box g5 26 [.slice none 0 0, .slice none 0 0], tree (.slice y14.1 x8.length y14.2) x8] _
    refine nT (?_)
    refine Tr.seq ?_
    refine Tr.region ?_
    refine Rg.q (v := .slice y14.1 x8.length y14.2) (Pu.qo (p_move rfl)) (by decide) ?_
    obtain ⟨r35, h36, H⟩ := bd.of H
    refine Rg.ed (e_callB (vs := [.slice y14.1 x8.length y14.2]) (c_spec_l12Make x8 y14 h36) (fun _ => (Solo.tree (Solo.tree Solo.nil))) rfl (EntsB.cons (EntB.tree Has.here.there) EntsB.nil)) rfl (by decide) ?_
    rintro _ _ _ ⟨x37, rfl, rfl, rfl⟩
    refine Rg.en (e_store (v := .agg #[.slice x37.1.1 r35.1.length x37.1.2, .slice x37.2.1 r35.2.length x37.2.2]) (cs' := [.slice x37.1.1 r35.1.length x37.1.2, .slice x37.2.1 r35.2.length x37.2.2]) ty26 rfl rfl Upd.here.there.there rfl (by simp [Value.cells, Value.oneCell']) (Nat.le_of_ble_eq_true rfl) rfl) rfl ?_
    rintro _ _ _ ⟨rfl, rfl, rfl⟩
    refine Rg.nl ?_
    refine nT (?_)
    refine tRet ?_
    have hr := Option.some.inj H; subst hr
    exact back1 x37 rfl (ResV.agg ty26 rfl Has.here.there.there rfl) rfl Ents.nil (.cons Del.here (.cons Del.here .nil))
noncomputable def p_spec_PartMerge (v0 : Part) (v1 : Part) : Option (Part × Bool) := bd (bd (p_spec_PartOk v0) fun r8 => cond (!r8) (some (true)) (bd (p_spec_PartOk v1) fun r11 => some (!r11))) fun b6 => cond (b6) (some ((([]), ([])), false)) (bd (p_spec_l12Merge v0 v1) fun r14 => bd (p_spec_PartOk r14) fun r18 => cond (!r18) (some ((([]), ([])), false)) (some (r14, true)))
theorem c_spec_PartMerge {r : Part × Bool} (v0 : Part) (x_v0 : (Option Addr × Nat) × (Option Addr × Nat)) (v1 : Part) (x_v1 : (Option Addr × Nat) × (Option Addr × Nat)) (H : p_spec_PartMerge v0 v1 = some r) : Fn' Try.prog 15 #[.agg #[.slice x_v0.1.1 v0.1.length x_v0.1.2, .slice x_v0.2.1 v0.2.length x_v0.2.2], .agg #[.slice x_v1.1.1 v1.1.length x_v1.1.2, .slice x_v1.2.1 v1.2.length x_v1.2.2]] [imm (.slice x_v0.1.1 v0.1.length x_v0.1.2) v0.1, imm (.slice x_v0.2.1 v0.2.length x_v0.2.2) v0.2, imm (.slice x_v1.1.1 v1.1.length x_v1.1.2) v1.1, imm (.slice x_v1.2.1 v1.2.length x_v1.2.2) v1.2] [] (ι := ((Option Addr × Nat) × (Option Addr × Nat)) × Unit) (fun x => .tuple #[.agg #[.slice x.1.1.1 r.1.1.length x.1.1.2, .slice x.1.2.1 r.1.2.length x.1.2.2], .bool (r.2)]) (fun _ => []) (fun x => [tree (.slice x.1.1.1 r.1.1.length x.1.1.2) r.1.1, tree (.slice x.1.2.1 r.1.2.length x.1.2.2) r.1.2]) := by
  refine calls_of (args := [_, _]) Try.func15 rfl (by kernel_rfl) Try.ntmps15 (by simp) fun c => ?_
  unfold p_spec_PartMerge at H
  refine Tr.openD Ent.z.s fun X1 => ?_
  refine Tr.openD Ent.z.s.s.s.s fun X2 => ?_
  refine Tr.seq ?_
  refine Tr.region ?_
  refine Rg.ed (e_box (t := 26) (v := .agg #[.slice x_v0.1.1 v0.1.length x_v0.1.2, .slice x_v0.2.1 v0.2.length x_v0.2.2]) rfl) rfl (by decide) ?_
  rintro _ _ _ ⟨g3, rfl, rfl, rfl⟩
  refine Rg.ed (e_box (t := 26) (v := .agg #[.slice x_v1.1.1 v1.1.length x_v1.1.2, .slice x_v1.2.1 v1.2.length x_v1.2.2]) rfl) rfl (by decide) ?_
  rintro _ _ _ ⟨g4, rfl, rfl, rfl⟩
  refine Rg.ed (e_alloc ty26) rfl (by decide) ?_
  rintro _ _ _ ⟨g5, rfl, rfl, rfl⟩
  refine Rg.q (v := .bool (false)) (Pu.qo (p_assign rfl)) (by decide) ?_
  refine Rg.nl ?_
  refine nT (?_)
  refine Tr.seq ?_
  obtain ⟨b6, j7, H⟩ := bd.of H
  refine tMid1 [(14, .bool (b6)), (4, .pointer (some ⟨g5, 0, none⟩)), (3, .pointer (some ⟨g4, 0, none⟩)), (2, .pointer (some ⟨g3, 0, none⟩))] ?_ ?_
  · refine tLinT [(4, .pointer (some ⟨g5, 0, none⟩)), (3, .pointer (some ⟨g4, 0, none⟩)), (2, .pointer (some ⟨g3, 0, none⟩))] ⟨rfl, rfl, rfl, trivial⟩ ?_
    refine Lin.q (v := .agg #[.slice x_v0.1.1 v0.1.length x_v0.1.2, .slice x_v0.2.1 v0.2.length x_v0.2.2]) (by decide) (q_ldbA ty26 rfl Has.here.there.there rfl) ?_
    obtain ⟨r8, h9, j7⟩ := bd.of j7
    refine Lin.q (v := .bool (r8)) (by decide) (q_call (vs := [.agg #[.slice x_v0.1.1 v0.1.length x_v0.1.2, .slice x_v0.2.1 v0.2.length x_v0.2.2]]) (c_spec_PartOk v0 x_v0 h9) rfl (EntsB.cons (Ent.b Ent.z.s.s) (EntsB.cons (Ent.b (Ent.dimm Ent.z.s)) EntsB.nil))) ?_
    refine Lin.q (v := .bool (!r8)) (by decide) (Pu.qo (p_not rfl)) ?_
    rcases Bool.eq_false_or_eq_true (!r8) with h10 | h10
    · have j7 := cdT h10 j7
      refine Lin.q (v := .bool (true)) (by decide) (Qo.eqv (v := .bool (!r8)) (Pu.qo (p_move rfl)) (congrArg Value.bool h10)) ?_
      refine Lin.skip (by decide) rfl ?_
      refine Lin.skip (by decide) rfl ?_
      refine Lin.skip (by decide) rfl ?_
      refine Lin.q (v := .bool (true)) (by decide) (Pu.qo (p_pickT rfl rfl)) ?_
      have j7 := Option.some.inj j7; subst j7
      show At _ _ _ _ _ _
      exact n1 ⟨rfl, rfl, rfl, rfl, trivial⟩
    · have j7 := cdF h10 j7
      refine Lin.q (v := .bool (false)) (by decide) (Qo.eqv (v := .bool (!r8)) (Pu.qo (p_move rfl)) (congrArg Value.bool h10)) ?_
      refine Lin.g (v := .agg #[.slice x_v1.1.1 v1.1.length x_v1.1.2, .slice x_v1.2.1 v1.2.length x_v1.2.2]) (by decide) rfl (q_ldbA ty26 rfl Has.here.there rfl) ?_
      obtain ⟨r11, h12, j7⟩ := bd.of j7
      refine Lin.g (v := .bool (r11)) (by decide) rfl (q_call (vs := [.agg #[.slice x_v1.1.1 v1.1.length x_v1.1.2, .slice x_v1.2.1 v1.2.length x_v1.2.2]]) (c_spec_PartOk v1 x_v1 h12) rfl (EntsB.cons (Ent.b Ent.z.s.s.s.s) (EntsB.cons (Ent.b (Ent.dimm Ent.z)) EntsB.nil))) ?_
      refine Lin.g (v := .bool (!r11)) (by decide) rfl (Pu.qo (p_not rfl)) ?_
      refine Lin.q (v := .bool (!r11)) (by decide) (Pu.qo (p_pickF rfl rfl)) ?_
      have j7 := Option.some.inj j7; subst j7
      show At _ _ _ _ _ _
      exact n1 ⟨rfl, rfl, rfl, rfl, trivial⟩
  refine Tr.cond (b := b6) rfl (fun h13 => ?_) (fun h13 => ?_)
  · have H := cdT h13 H
    refine Tr.seq ?_
    refine Tr.nilT Int ?_
    refine Tr.nilT (List Row) ?_
    refine Tr.region ?_
    refine Rg.q (v := .agg #[.slice none 0 0, .slice none 0 0]) (Pu.qo (p_buildS (vs := []) (cs := #[.slice none 0 0, .slice none 0 0]) ty26 pl26 rfl rfl)) (by decide) ?_
    refine Rg.en (e_store (v := .agg #[.slice none 0 0, .slice none 0 0]) (cs' := [.slice none 0 0, .slice none 0 0]) ty26 rfl rfl Upd.here.there.there rfl (by simp [Value.cells, Value.oneCell']) (Nat.le_of_ble_eq_true rfl) rfl) rfl ?_
    rintro _ _ _ ⟨rfl, rfl, rfl⟩
    refine Rg.q (v := .bool (false)) (Pu.qo (p_assign rfl)) (by decide) ?_
    refine Rg.nl ?_
    refine nT (?_)
    refine tRet ?_
    refine rT (?_)
    have hr := Option.some.inj H; subst hr
    exact back2 (((none, 0), (none, 0)), ()) rfl (ResV.agg ty26 rfl Has.here.there.there rfl) (ResV.tmp (v := .bool (false)) rfl) rfl Ents.nil (.cons Del.here.there (.cons Del.here .nil))
  · have H := cdF h13 H
    refine tSkip ?_
    refine nT (?_)
    refine Tr.seq ?_
    refine Tr.region ?_
    refine Rg.q (v := .agg #[.slice x_v0.1.1 v0.1.length x_v0.1.2, .slice x_v0.2.1 v0.2.length x_v0.2.2]) (q_ldbA ty26 rfl Has.here.there.there rfl) (by decide) ?_
    refine Rg.q (v := .agg #[.slice x_v1.1.1 v1.1.length x_v1.1.2, .slice x_v1.2.1 v1.2.length x_v1.2.2]) (q_ldbA ty26 rfl Has.here.there rfl) (by decide) ?_
    obtain ⟨r14, h15, H⟩ := bd.of H
    refine Rg.ed (e_callB (vs := [.agg #[.slice x_v0.1.1 v0.1.length x_v0.1.2, .slice x_v0.2.1 v0.2.length x_v0.2.2], .agg #[.slice x_v1.1.1 v1.1.length x_v1.1.2, .slice x_v1.2.1 v1.2.length x_v1.2.2]]) (c_spec_l12Merge v0 x_v0 v1 x_v1 h15) (fun _ => (Solo.tree (Solo.tree Solo.nil))) rfl (EntsB.cons (Ent.b Ent.z.s.s) (EntsB.cons (Ent.b (Ent.dimm Ent.z.s)) (EntsB.cons (Ent.b Ent.z.s.s.s.s) (EntsB.cons (Ent.b (Ent.dimm Ent.z)) EntsB.nil))))) rfl (by decide) ?_
    rintro _ _ _ ⟨x16, rfl, rfl, rfl⟩
    refine Rg.ed (e_alloc ty26) rfl (by decide) ?_
    rintro _ _ _ ⟨g17, rfl, rfl, rfl⟩
    refine Rg.en (e_store (v := .agg #[.slice x16.1.1 r14.1.length x16.1.2, .slice x16.2.1 r14.2.length x16.2.2]) (cs' := [.slice x16.1.1 r14.1.length x16.1.2, .slice x16.2.1 r14.2.length x16.2.2]) ty26 rfl rfl Upd.here rfl (by simp [Value.cells, Value.oneCell']) (Nat.le_of_ble_eq_true rfl) rfl) rfl ?_
    rintro _ _ _ ⟨rfl, rfl, rfl⟩
    refine Rg.nl ?_
    refine nT (?_)
    refine Tr.seq ?_
    refine Tr.seq ?_
    refine Tr.region ?_
    refine Rg.q (v := .agg #[.slice x16.1.1 r14.1.length x16.1.2, .slice x16.2.1 r14.2.length x16.2.2]) (q_ldbA ty26 rfl Has.here rfl) (by decide) ?_
    obtain ⟨r18, h19, H⟩ := bd.of H
    refine Rg.q (v := .bool (r18)) (q_call (vs := [.agg #[.slice x16.1.1 r14.1.length x16.1.2, .slice x16.2.1 r14.2.length x16.2.2]]) (c_spec_PartOk r14 x16 h19) rfl (EntsB.cons (EntB.tree Has.here.there) (EntsB.cons (EntB.tree Has.here.there.there) EntsB.nil))) (by decide) ?_
    refine Rg.q (v := .bool (!r18)) (Pu.qo (p_not rfl)) (by decide) ?_
    refine Rg.nl ?_
    refine nT (?_)
    refine Tr.cond (b := !r18) rfl (fun h20 => ?_) (fun h20 => ?_)
    · have H := cdT h20 H
      refine Tr.seq ?_
      refine Tr.nilT Int ?_
      refine Tr.nilT (List Row) ?_
      refine Tr.region ?_
      refine Rg.q (v := .agg #[.slice none 0 0, .slice none 0 0]) (Pu.qo (p_buildS (vs := []) (cs := #[.slice none 0 0, .slice none 0 0]) ty26 pl26 rfl rfl)) (by decide) ?_
      refine Rg.en (e_store (v := .agg #[.slice none 0 0, .slice none 0 0]) (cs' := [.slice none 0 0, .slice none 0 0]) ty26 rfl rfl Upd.here.there.there.there.there.there rfl (by simp [Value.cells, Value.oneCell']) (Nat.le_of_ble_eq_true rfl) rfl) rfl ?_
      rintro _ _ _ ⟨rfl, rfl, rfl⟩
      refine Rg.q (v := .bool (false)) (Pu.qo (p_assign rfl)) (by decide) ?_
      refine Rg.nl ?_
      refine nT (?_)
      refine tRet ?_
      refine rT (?_)
      have hr := Option.some.inj H; subst hr
      exact back2 (((none, 0), (none, 0)), ()) rfl (ResV.agg ty26 rfl Has.here.there.there.there.there.there rfl) (ResV.tmp (v := .bool (false)) rfl) rfl Ents.nil (.cons Del.here.there (.cons Del.here .nil))
    · have H := cdF h20 H
      refine tSkip ?_
      refine nT (?_)
      refine Tr.seq ?_
      refine Tr.region ?_
      refine Rg.q (v := .agg #[.slice x16.1.1 r14.1.length x16.1.2, .slice x16.2.1 r14.2.length x16.2.2]) (q_ldbA ty26 rfl Has.here rfl) (by decide) ?_
      refine Rg.en (e_store (v := .agg #[.slice x16.1.1 r14.1.length x16.1.2, .slice x16.2.1 r14.2.length x16.2.2]) (cs' := [.slice x16.1.1 r14.1.length x16.1.2, .slice x16.2.1 r14.2.length x16.2.2]) ty26 rfl rfl Upd.here.there.there.there rfl (by simp [Value.cells, Value.oneCell']) (Nat.le_of_ble_eq_true rfl) rfl) rfl ?_
      rintro _ _ _ ⟨rfl, rfl, rfl⟩
      refine Rg.q (v := .bool (true)) (Pu.qo (p_assign rfl)) (by decide) ?_
      refine Rg.nl ?_
      refine nT (?_)
      refine tRet ?_
      have hr := Option.some.inj H; subst hr
      exact back2 (x16, ()) rfl (ResV.agg ty26 rfl Has.here.there.there.there rfl) (ResV.tmp (v := .bool (true)) rfl) rfl Ents.nil (.cons Del.here.there (.cons Del.here.there .nil))
noncomputable def p_laws_lyInts_b0 (v0 : (List Int)) (v1 : (List Int)) (σ6 : Int) : Option ((Int) ⊕ (Unit ⊕ Bool)) := cond (decide (σ6 < (v0.length : Int))) (gd (ix σ6 v0.length) <| gd (ix σ6 v1.length) <| cond (!decide ((nth v0 σ6.toNat) = (nth v1 σ6.toNat))) (some (.inr (.inr false))) (gd (I64 (σ6 + 1)) <| some (.inl (σ6 + 1)))) (some (.inr (.inl ())))
noncomputable def p_laws_lyInts (v0 : (List Int)) (v1 : (List Int)) : Option (Bool) := cond (!decide ((v0.length : Int) = (v1.length : Int))) (some false) (bd (lp (p_laws_lyInts_b0 v0 v1) 0) <| sw (fun e19 => some true) (fun q => some q))
theorem c_laws_lyInts {r : Bool} (v0 : (List Int)) (x_v0 : Option Addr × Nat) (v1 : (List Int)) (x_v1 : Option Addr × Nat) (H : p_laws_lyInts v0 v1 = some r) : Fn' Try.prog 33 #[.slice x_v0.1 v0.length x_v0.2, .slice x_v1.1 v1.length x_v1.2] [imm (.slice x_v0.1 v0.length x_v0.2) v0, imm (.slice x_v1.1 v1.length x_v1.2) v1] [] (ι := Unit) (fun x => .bool (r)) (fun _ => []) (fun x => []) := by
  refine calls_of (args := [_, _]) Try.func33 rfl (by kernel_rfl) Try.ntmps33 (by simp) fun c => ?_
  unfold p_laws_lyInts at H
  refine Tr.seq ?_
  refine Tr.region ?_
  refine Rg.q (v := .bool (false)) (Pu.qo (p_assign rfl)) (by decide) ?_
  refine Rg.nl ?_
  refine nT (?_)
  refine Tr.seq ?_
  refine Tr.seq ?_
  refine Tr.region ?_
  refine Rg.q (v := .slice x_v0.1 v0.length x_v0.2) (Pu.qo (p_move rfl)) (by decide) ?_
  refine Rg.q (v := .int .i64 ((v0.length : Int))) (Pu.qo (p_len 3 Try.underlying23 rfl)) (by decide) ?_
  refine Rg.q (v := .slice x_v1.1 v1.length x_v1.2) (Pu.qo (p_move rfl)) (by decide) ?_
  refine Rg.q (v := .int .i64 ((v1.length : Int))) (Pu.qo (p_len 3 Try.underlying23 rfl)) (by decide) ?_
  refine Rg.q (v := .bool (!decide ((v0.length : Int) = (v1.length : Int)))) (Pu.qo (p_neq rfl rfl)) (by decide) ?_
  refine Rg.nl ?_
  refine nT (?_)
  refine Tr.cond (b := !decide ((v0.length : Int) = (v1.length : Int))) rfl (fun h1 => ?_) (fun h1 => ?_)
  · have H := cdT h1 H
    refine Tr.seq ?_
    refine Tr.region ?_
    refine Rg.q (v := .bool (false)) (Pu.qo (p_assign rfl)) (by decide) ?_
    refine Rg.nl ?_
    refine nT (?_)
    refine tRet ?_
    refine rT (?_)
    have hr := Option.some.inj H; subst hr
    exact back1 () rfl (ResV.tmp (v := .bool (false)) rfl) rfl Ents.nil Take.nil
  · have H := cdF h1 H
    refine tSkip ?_
    refine nT (?_)
    refine Tr.seq ?_
    refine Tr.seq ?_
    refine Tr.region ?_
    refine Rg.q (v := .int .i64 (0)) (Pu.qo (p_assign rfl)) (by decide) ?_
    refine Rg.nl ?_
    refine nT (?_)
    obtain ⟨x2, hx3, H⟩ := bd.of H
    obtain ⟨n4, hx3⟩ := lp.of hx3
    refine tMidNC (ι := { q : (Unit) × Unit // x2 = .inl q.1 }) (fun ψ => []) (fun ψ => []) ?_ ?_
    · refine Tr.block ?_
      refine tLoopC (ι := { q : Nat × (Int) × Unit // itr (p_laws_lyInts_b0 v0 v1) q.1 q.2.1 = some x2 }) (fun ζ => [(0, .slice x_v0.1 v0.length x_v0.2), (1, .slice x_v1.1 v1.length x_v1.2), (5, .int .i64 (ζ.1.2.1))]) (fun ζ => []) (fun ζ => ζ.1.1) ⟨(n4, 0, ()), hx3⟩ ⟨rfl, rfl, rfl, trivial⟩ Take.nil ?_
      rintro ⟨⟨m5, σ6, z7⟩, hk12⟩
      obtain ⟨m13, t9, e, H1, hi10, hb11⟩ := itr.of (n := m5) (s := σ6) hk12
      subst e; unfold p_laws_lyInts_b0 at H1
      show Tr _ _ _ _ _ [(0, .slice x_v0.1 v0.length x_v0.2), (1, .slice x_v1.1 v1.length x_v1.2), (5, .int .i64 (σ6))] _ []
      refine Tr.seq ?_
      refine Tr.seq ?_
      refine Tr.region ?_
      refine Rg.q (v := .int .i64 (σ6)) (Pu.qo (p_move rfl)) (by decide) ?_
      refine Rg.q (v := .slice x_v0.1 v0.length x_v0.2) (Pu.qo (p_move rfl)) (by decide) ?_
      refine Rg.q (v := .int .i64 ((v0.length : Int))) (Pu.qo (p_len 3 Try.underlying23 rfl)) (by decide) ?_
      refine Rg.q (v := .bool (decide (σ6 < (v0.length : Int)))) (Pu.qo (p_lss rfl rfl)) (by decide) ?_
      refine Rg.nl ?_
      refine nT (?_)
      refine Tr.cond (b := decide (σ6 < (v0.length : Int))) rfl (fun h14 => ?_) (fun h14 => ?_)
      · have H1 := cdT h14 H1
        refine tSkip ?_
        refine nT (?_)
        refine Tr.seq ?_
        refine Tr.block ?_
        refine Tr.seq ?_
        refine tLinS [(0, .slice x_v0.1 v0.length x_v0.2), (1, .slice x_v1.1 v1.length x_v1.2), (5, .int .i64 (σ6))] Try.mixed (.inr (by kernel_rfl)) ⟨rfl, rfl, rfl, trivial⟩ rfl ?_
        refine Lin.q (v := .slice x_v0.1 v0.length x_v0.2) (by decide) (Pu.qo (p_move rfl)) ?_
        refine Lin.q (v := .int .i64 (σ6)) (by decide) (Pu.qo (p_move rfl)) ?_
        obtain ⟨h15, H1⟩ := gd.of H1
        refine Lin.q (v := elp x_v0.1 (σ6.toNat * Enc.sz Int + 0)) (by decide) (q_ixg (l := v0) (E := fun i => Flat.enc (nth v0 i)) (oa := x_v0.1) Try.underlying23 ty3 rfl rfl h15 rfl (EntB.flat (Ent.b Ent.z))) ?_
        refine Lin.q (v := .int .i64 (nth v0 σ6.toNat)) (by decide) (q_lde (l := v0) (E := fun i => Flat.enc (nth v0 i)) (oa := x_v0.1) (i := σ6.toNat) (j := 0) ty3 rfl (EntB.flat (Ent.b Ent.z)) h15.lt rfl) ?_
        refine Lin.q (v := .slice x_v1.1 v1.length x_v1.2) (by decide) (Pu.qo (p_move rfl)) ?_
        refine Lin.q (v := .int .i64 (σ6)) (by decide) (Pu.qo (p_move rfl)) ?_
        obtain ⟨h16, H1⟩ := gd.of H1
        refine Lin.q (v := elp x_v1.1 (σ6.toNat * Enc.sz Int + 0)) (by decide) (q_ixg (l := v1) (E := fun i => Flat.enc (nth v1 i)) (oa := x_v1.1) Try.underlying23 ty3 rfl rfl h16 rfl (EntB.flat (Ent.b Ent.z.s))) ?_
        refine Lin.q (v := .int .i64 (nth v1 σ6.toNat)) (by decide) (q_lde (l := v1) (E := fun i => Flat.enc (nth v1 i)) (oa := x_v1.1) (i := σ6.toNat) (j := 0) ty3 rfl (EntB.flat (Ent.b Ent.z.s)) h16.lt rfl) ?_
        refine Lin.q (v := .bool (!decide ((nth v0 σ6.toNat) = (nth v1 σ6.toNat)))) (by decide) (Pu.qo (p_neq rfl rfl)) ?_
        show At _ _ _ _ _ _
        refine nT (?_)
        refine Tr.cond (b := !decide ((nth v0 σ6.toNat) = (nth v1 σ6.toNat))) rfl (fun h17 => ?_) (fun h17 => ?_)
        · have H1 := cdT h17 H1
          refine Tr.seq ?_
          refine Tr.region ?_
          refine Rg.q (v := .bool (false)) (Pu.qo (p_assign rfl)) (by decide) ?_
          refine Rg.nl ?_
          refine nT (?_)
          refine tRet ?_
          refine rB (rT (rT (rB (rT (rT (?_))))))
          have hx := hb11 _ (Option.some.inj H1).symm; subst hx
          replace H := sw.r H
          have hr := Option.some.inj H; subst hr
          exact back1 () rfl (ResV.tmp (v := .bool (false)) rfl) rfl Ents.nil Take.nil
        · have H1 := cdF h17 H1
          refine tSkip ?_
          refine nB (nT (?_))
          refine Tr.region ?_
          refine Rg.q (v := .int .i64 (σ6)) (Pu.qo (p_move rfl)) (by decide) ?_
          obtain ⟨h18, H1⟩ := gd.of H1
          refine Rg.q (v := .int .i64 (σ6 + 1)) (Pu.qo (p_add rfl rfl h18)) (by decide) ?_
          refine Rg.q (v := .int .i64 (σ6 + 1)) (Pu.qo (p_assign rfl)) (by decide) ?_
          refine Rg.nl ?_
          exact nLC ⟨(m13, σ6 + 1, ()), hi10 _ (Option.some.inj H1).symm⟩ (Nat.lt_succ_self _) ⟨rfl, rfl, rfl, trivial⟩ Ents.refl Take.nil
      · have H1 := cdF h14 H1
        refine tExit (xT (xT (xE (?_))))
        exact nMC ⟨((), ()), (hb11 _ (Option.some.inj H1).symm).symm⟩ trivial Ents.refl Take.nil
    · rintro ⟨⟨e19, y8⟩, hx⟩; subst hx; replace H := sw.l H
      show At _ _ [] _ [] _
      refine nT (?_)
      refine Tr.seq ?_
      refine Tr.region ?_
      refine Rg.q (v := .bool (true)) (Pu.qo (p_assign rfl)) (by decide) ?_
      refine Rg.nl ?_
      refine nT (?_)
      refine tRet ?_
      have hr := Option.some.inj H; subst hr
      exact back1 () rfl (ResV.tmp (v := .bool (true)) rfl) rfl Ents.nil Take.nil
noncomputable def p_laws_lyRows_b0 (v0 : (List Row)) (v1 : (List Row)) (σ6 : Int) : Option ((Int) ⊕ (Unit ⊕ Bool)) := cond (decide (σ6 < (v0.length : Int))) (gd (ix σ6 v0.length) <| gd (ix σ6 v1.length) <| cond (!decide (nth v0 σ6.toNat = nth v1 σ6.toNat)) (some (.inr (.inr false))) (gd (I64 (σ6 + 1)) <| some (.inl (σ6 + 1)))) (some (.inr (.inl ())))
noncomputable def p_laws_lyRows (v0 : (List Row)) (v1 : (List Row)) : Option (Bool) := cond (!decide ((v0.length : Int) = (v1.length : Int))) (some false) (bd (lp (p_laws_lyRows_b0 v0 v1) 0) <| sw (fun e19 => some true) (fun q => some q))
theorem c_laws_lyRows {r : Bool} (v0 : (List Row)) (x_v0 : Option Addr × Nat) (v1 : (List Row)) (x_v1 : Option Addr × Nat) (H : p_laws_lyRows v0 v1 = some r) : Fn' Try.prog 19 #[.slice x_v0.1 v0.length x_v0.2, .slice x_v1.1 v1.length x_v1.2] [imm (.slice x_v0.1 v0.length x_v0.2) v0, imm (.slice x_v1.1 v1.length x_v1.2) v1] [] (ι := Unit) (fun x => .bool (r)) (fun _ => []) (fun x => []) := by
  refine calls_of (args := [_, _]) Try.func19 rfl (by kernel_rfl) Try.ntmps19 (by simp) fun c => ?_
  unfold p_laws_lyRows at H
  refine Tr.seq ?_
  refine Tr.region ?_
  refine Rg.q (v := .bool (false)) (Pu.qo (p_assign rfl)) (by decide) ?_
  refine Rg.nl ?_
  refine nT (?_)
  refine Tr.seq ?_
  refine Tr.seq ?_
  refine Tr.region ?_
  refine Rg.q (v := .slice x_v0.1 v0.length x_v0.2) (Pu.qo (p_move rfl)) (by decide) ?_
  refine Rg.q (v := .int .i64 ((v0.length : Int))) (Pu.qo (p_len 46 Try.underlying36 rfl)) (by decide) ?_
  refine Rg.q (v := .slice x_v1.1 v1.length x_v1.2) (Pu.qo (p_move rfl)) (by decide) ?_
  refine Rg.q (v := .int .i64 ((v1.length : Int))) (Pu.qo (p_len 46 Try.underlying36 rfl)) (by decide) ?_
  refine Rg.q (v := .bool (!decide ((v0.length : Int) = (v1.length : Int)))) (Pu.qo (p_neq rfl rfl)) (by decide) ?_
  refine Rg.nl ?_
  refine nT (?_)
  refine Tr.cond (b := !decide ((v0.length : Int) = (v1.length : Int))) rfl (fun h1 => ?_) (fun h1 => ?_)
  · have H := cdT h1 H
    refine Tr.seq ?_
    refine Tr.region ?_
    refine Rg.q (v := .bool (false)) (Pu.qo (p_assign rfl)) (by decide) ?_
    refine Rg.nl ?_
    refine nT (?_)
    refine tRet ?_
    refine rT (?_)
    have hr := Option.some.inj H; subst hr
    exact back1 () rfl (ResV.tmp (v := .bool (false)) rfl) rfl Ents.nil Take.nil
  · have H := cdF h1 H
    refine tSkip ?_
    refine nT (?_)
    refine Tr.seq ?_
    refine Tr.seq ?_
    refine Tr.region ?_
    refine Rg.q (v := .int .i64 (0)) (Pu.qo (p_assign rfl)) (by decide) ?_
    refine Rg.nl ?_
    refine nT (?_)
    obtain ⟨x2, hx3, H⟩ := bd.of H
    obtain ⟨n4, hx3⟩ := lp.of hx3
    refine tMidNC (ι := { q : (Unit) × Unit // x2 = .inl q.1 }) (fun ψ => []) (fun ψ => []) ?_ ?_
    · refine Tr.block ?_
      refine tLoopC (ι := { q : Nat × (Int) × Unit // itr (p_laws_lyRows_b0 v0 v1) q.1 q.2.1 = some x2 }) (fun ζ => [(0, .slice x_v0.1 v0.length x_v0.2), (1, .slice x_v1.1 v1.length x_v1.2), (5, .int .i64 (ζ.1.2.1))]) (fun ζ => []) (fun ζ => ζ.1.1) ⟨(n4, 0, ()), hx3⟩ ⟨rfl, rfl, rfl, trivial⟩ Take.nil ?_
      rintro ⟨⟨m5, σ6, z7⟩, hk12⟩
      obtain ⟨m13, t9, e, H1, hi10, hb11⟩ := itr.of (n := m5) (s := σ6) hk12
      subst e; unfold p_laws_lyRows_b0 at H1
      show Tr _ _ _ _ _ [(0, .slice x_v0.1 v0.length x_v0.2), (1, .slice x_v1.1 v1.length x_v1.2), (5, .int .i64 (σ6))] _ []
      refine Tr.seq ?_
      refine Tr.seq ?_
      refine Tr.region ?_
      refine Rg.q (v := .int .i64 (σ6)) (Pu.qo (p_move rfl)) (by decide) ?_
      refine Rg.q (v := .slice x_v0.1 v0.length x_v0.2) (Pu.qo (p_move rfl)) (by decide) ?_
      refine Rg.q (v := .int .i64 ((v0.length : Int))) (Pu.qo (p_len 46 Try.underlying36 rfl)) (by decide) ?_
      refine Rg.q (v := .bool (decide (σ6 < (v0.length : Int)))) (Pu.qo (p_lss rfl rfl)) (by decide) ?_
      refine Rg.nl ?_
      refine nT (?_)
      refine Tr.cond (b := decide (σ6 < (v0.length : Int))) rfl (fun h14 => ?_) (fun h14 => ?_)
      · have H1 := cdT h14 H1
        refine tSkip ?_
        refine nT (?_)
        refine Tr.seq ?_
        refine Tr.block ?_
        refine Tr.seq ?_
        refine tLinS [(0, .slice x_v0.1 v0.length x_v0.2), (1, .slice x_v1.1 v1.length x_v1.2), (5, .int .i64 (σ6))] Try.mixed (.inr (by kernel_rfl)) ⟨rfl, rfl, rfl, trivial⟩ rfl ?_
        refine Lin.q (v := .slice x_v0.1 v0.length x_v0.2) (by decide) (Pu.qo (p_move rfl)) ?_
        refine Lin.q (v := .int .i64 (σ6)) (by decide) (Pu.qo (p_move rfl)) ?_
        obtain ⟨h15, H1⟩ := gd.of H1
        refine Lin.q (v := elp x_v0.1 (σ6.toNat * Enc.sz Row + 0)) (by decide) (q_ixg (l := v0) (E := fun i => Flat.enc (nth v0 i)) (oa := x_v0.1) Try.underlying36 ty46 rfl rfl h15 rfl (EntB.flat (Ent.b Ent.z))) ?_
        refine Lin.q (v := .agg #[.int .i64 ((nth v0 σ6.toNat).1), .int .i64 ((nth v0 σ6.toNat).2)]) (by decide) (q_ldeA (l := v0) (E := fun i => Flat.enc (nth v0 i)) (oa := x_v0.1) (i := σ6.toNat) ty46 rfl (EntB.flat (Ent.b Ent.z)) h15.lt) ?_
        refine Lin.q (v := .slice x_v1.1 v1.length x_v1.2) (by decide) (Pu.qo (p_move rfl)) ?_
        refine Lin.q (v := .int .i64 (σ6)) (by decide) (Pu.qo (p_move rfl)) ?_
        obtain ⟨h16, H1⟩ := gd.of H1
        refine Lin.q (v := elp x_v1.1 (σ6.toNat * Enc.sz Row + 0)) (by decide) (q_ixg (l := v1) (E := fun i => Flat.enc (nth v1 i)) (oa := x_v1.1) Try.underlying36 ty46 rfl rfl h16 rfl (EntB.flat (Ent.b Ent.z.s))) ?_
        refine Lin.q (v := .agg #[.int .i64 ((nth v1 σ6.toNat).1), .int .i64 ((nth v1 σ6.toNat).2)]) (by decide) (q_ldeA (l := v1) (E := fun i => Flat.enc (nth v1 i)) (oa := x_v1.1) (i := σ6.toNat) ty46 rfl (EntB.flat (Ent.b Ent.z.s)) h16.lt) ?_
        refine Lin.q (v := .bool (!decide (nth v0 σ6.toNat = nth v1 σ6.toNat))) (by decide) (Pu.qo (p_aneq (a := nth v0 σ6.toNat) (b := nth v1 σ6.toNat) ae46 rfl rfl rfl rfl)) ?_
        show At _ _ _ _ _ _
        refine nT (?_)
        refine Tr.cond (b := !decide (nth v0 σ6.toNat = nth v1 σ6.toNat)) rfl (fun h17 => ?_) (fun h17 => ?_)
        · have H1 := cdT h17 H1
          refine Tr.seq ?_
          refine Tr.region ?_
          refine Rg.q (v := .bool (false)) (Pu.qo (p_assign rfl)) (by decide) ?_
          refine Rg.nl ?_
          refine nT (?_)
          refine tRet ?_
          refine rB (rT (rT (rB (rT (rT (?_))))))
          have hx := hb11 _ (Option.some.inj H1).symm; subst hx
          replace H := sw.r H
          have hr := Option.some.inj H; subst hr
          exact back1 () rfl (ResV.tmp (v := .bool (false)) rfl) rfl Ents.nil Take.nil
        · have H1 := cdF h17 H1
          refine tSkip ?_
          refine nB (nT (?_))
          refine Tr.region ?_
          refine Rg.q (v := .int .i64 (σ6)) (Pu.qo (p_move rfl)) (by decide) ?_
          obtain ⟨h18, H1⟩ := gd.of H1
          refine Rg.q (v := .int .i64 (σ6 + 1)) (Pu.qo (p_add rfl rfl h18)) (by decide) ?_
          refine Rg.q (v := .int .i64 (σ6 + 1)) (Pu.qo (p_assign rfl)) (by decide) ?_
          refine Rg.nl ?_
          exact nLC ⟨(m13, σ6 + 1, ()), hi10 _ (Option.some.inj H1).symm⟩ (Nat.lt_succ_self _) ⟨rfl, rfl, rfl, trivial⟩ Ents.refl Take.nil
      · have H1 := cdF h14 H1
        refine tExit (xT (xT (xE (?_))))
        exact nMC ⟨((), ()), (hb11 _ (Option.some.inj H1).symm).symm⟩ trivial Ents.refl Take.nil
    · rintro ⟨⟨e19, y8⟩, hx⟩; subst hx; replace H := sw.l H
      show At _ _ [] _ [] _
      refine nT (?_)
      refine Tr.seq ?_
      refine Tr.region ?_
      refine Rg.q (v := .bool (true)) (Pu.qo (p_assign rfl)) (by decide) ?_
      refine Rg.nl ?_
      refine nT (?_)
      refine tRet ?_
      have hr := Option.some.inj H; subst hr
      exact back1 () rfl (ResV.tmp (v := .bool (true)) rfl) rfl Ents.nil Take.nil
noncomputable def p_laws_lyPart_b0 (v0 : Part) (v1 : Part) (σ15 : Int) : Option ((Int) ⊕ (Unit ⊕ Bool)) := cond (decide (σ15 < (v0.2.length : Int))) (gd (ix σ15 v0.2.length) <| gd (ix σ15 v1.2.length) <| bd (p_laws_lyRows (nth v0.2 σ15.toNat) (nth v1.2 σ15.toNat)) fun r26 => cond (!r26) (some (.inr (.inr false))) (gd (I64 (σ15 + 1)) <| some (.inl (σ15 + 1)))) (some (.inr (.inl ())))
noncomputable def p_laws_lyPart (v0 : Part) (v1 : Part) : Option (Bool) := bd (bd (p_laws_lyInts v0.1 v1.1) fun r7 => cond (!r7) (some (true)) (some (!decide ((v0.2.length : Int) = (v1.2.length : Int))))) fun b5 => cond (b5) (some false) (bd (lp (p_laws_lyPart_b0 v0 v1) 0) <| sw (fun e30 => some true) (fun q => some q))
theorem c_laws_lyPart {r : Bool} (v0 : Part) (x_v0 : (Option Addr × Nat) × (Option Addr × Nat)) (v1 : Part) (x_v1 : (Option Addr × Nat) × (Option Addr × Nat)) (H : p_laws_lyPart v0 v1 = some r) : Fn' Try.prog 16 #[.agg #[.slice x_v0.1.1 v0.1.length x_v0.1.2, .slice x_v0.2.1 v0.2.length x_v0.2.2], .agg #[.slice x_v1.1.1 v1.1.length x_v1.1.2, .slice x_v1.2.1 v1.2.length x_v1.2.2]] [imm (.slice x_v0.1.1 v0.1.length x_v0.1.2) v0.1, imm (.slice x_v0.2.1 v0.2.length x_v0.2.2) v0.2, imm (.slice x_v1.1.1 v1.1.length x_v1.1.2) v1.1, imm (.slice x_v1.2.1 v1.2.length x_v1.2.2) v1.2] [] (ι := Unit) (fun x => .bool (r)) (fun _ => []) (fun x => []) := by
  refine calls_of (args := [_, _]) Try.func16 rfl (by kernel_rfl) Try.ntmps16 (by simp) fun c => ?_
  unfold p_laws_lyPart at H
  refine Tr.openD Ent.z.s fun X1 => ?_
  refine Tr.openD Ent.z.s.s.s.s fun X2 => ?_
  refine Tr.seq ?_
  refine Tr.region ?_
  refine Rg.ed (e_box (t := 26) (v := .agg #[.slice x_v0.1.1 v0.1.length x_v0.1.2, .slice x_v0.2.1 v0.2.length x_v0.2.2]) rfl) rfl (by decide) ?_
  rintro _ _ _ ⟨g3, rfl, rfl, rfl⟩
  refine Rg.ed (e_box (t := 26) (v := .agg #[.slice x_v1.1.1 v1.1.length x_v1.1.2, .slice x_v1.2.1 v1.2.length x_v1.2.2]) rfl) rfl (by decide) ?_
  rintro _ _ _ ⟨g4, rfl, rfl, rfl⟩
  refine Rg.q (v := .bool (false)) (Pu.qo (p_assign rfl)) (by decide) ?_
  refine Rg.nl ?_
  refine nT (?_)
  refine Tr.seq ?_
  obtain ⟨b5, j6, H⟩ := bd.of H
  refine tMid1 [(20, .bool (b5)), (3, .pointer (some ⟨g4, 0, none⟩)), (2, .pointer (some ⟨g3, 0, none⟩))] ?_ ?_
  · refine tLinT [(3, .pointer (some ⟨g4, 0, none⟩)), (2, .pointer (some ⟨g3, 0, none⟩))] ⟨rfl, rfl, trivial⟩ ?_
    refine Lin.q (v := .pointer (some ⟨g3, 0, none⟩)) (by decide) (Pu.qo (p_fabE fa26_0 rfl rfl)) ?_
    refine Lin.q (v := .slice x_v0.1.1 v0.1.length x_v0.1.2) (by decide) (q_ldb ty23 rfl Has.here.there rfl) ?_
    refine Lin.q (v := .pointer (some ⟨g4, 0, none⟩)) (by decide) (Pu.qo (p_fabE fa26_0 rfl rfl)) ?_
    refine Lin.q (v := .slice x_v1.1.1 v1.1.length x_v1.1.2) (by decide) (q_ldb ty23 rfl Has.here rfl) ?_
    obtain ⟨r7, h8, j6⟩ := bd.of j6
    refine Lin.q (v := .bool (r7)) (by decide) (q_call (vs := [.slice x_v0.1.1 v0.1.length x_v0.1.2, .slice x_v1.1.1 v1.1.length x_v1.1.2]) (c_laws_lyInts v0.1 x_v0.1 v1.1 x_v1.1 h8) rfl (EntsB.cons (Ent.b Ent.z.s.s) (EntsB.cons (Ent.b Ent.z.s.s.s.s) EntsB.nil))) ?_
    refine Lin.q (v := .bool (!r7)) (by decide) (Pu.qo (p_not rfl)) ?_
    rcases Bool.eq_false_or_eq_true (!r7) with h9 | h9
    · have j6 := cdT h9 j6
      refine Lin.q (v := .bool (true)) (by decide) (Qo.eqv (v := .bool (!r7)) (Pu.qo (p_move rfl)) (congrArg Value.bool h9)) ?_
      refine Lin.skip (by decide) rfl ?_
      refine Lin.skip (by decide) rfl ?_
      refine Lin.skip (by decide) rfl ?_
      refine Lin.skip (by decide) rfl ?_
      refine Lin.skip (by decide) rfl ?_
      refine Lin.skip (by decide) rfl ?_
      refine Lin.skip (by decide) rfl ?_
      refine Lin.q (v := .bool (true)) (by decide) (Pu.qo (p_pickT rfl rfl)) ?_
      have j6 := Option.some.inj j6; subst j6
      show At _ _ _ _ _ _
      exact n1 ⟨rfl, rfl, rfl, trivial⟩
    · have j6 := cdF h9 j6
      refine Lin.q (v := .bool (false)) (by decide) (Qo.eqv (v := .bool (!r7)) (Pu.qo (p_move rfl)) (congrArg Value.bool h9)) ?_
      refine Lin.g (v := .pointer (some ⟨g3, 1, none⟩)) (by decide) rfl (Pu.qo (p_fabE fa26_1 rfl rfl)) ?_
      refine Lin.g (v := .slice x_v0.2.1 v0.2.length x_v0.2.2) (by decide) rfl (q_ldb ty24 rfl Has.here.there rfl) ?_
      refine Lin.g (v := .int .i64 ((v0.2.length : Int))) (by decide) rfl (Pu.qo (p_len 36 Try.underlying24 rfl)) ?_
      refine Lin.g (v := .pointer (some ⟨g4, 1, none⟩)) (by decide) rfl (Pu.qo (p_fabE fa26_1 rfl rfl)) ?_
      refine Lin.g (v := .slice x_v1.2.1 v1.2.length x_v1.2.2) (by decide) rfl (q_ldb ty24 rfl Has.here rfl) ?_
      refine Lin.g (v := .int .i64 ((v1.2.length : Int))) (by decide) rfl (Pu.qo (p_len 36 Try.underlying24 rfl)) ?_
      refine Lin.g (v := .bool (!decide ((v0.2.length : Int) = (v1.2.length : Int)))) (by decide) rfl (Pu.qo (p_neq rfl rfl)) ?_
      refine Lin.q (v := .bool (!decide ((v0.2.length : Int) = (v1.2.length : Int)))) (by decide) (Pu.qo (p_pickF rfl rfl)) ?_
      have j6 := Option.some.inj j6; subst j6
      show At _ _ _ _ _ _
      exact n1 ⟨rfl, rfl, rfl, trivial⟩
  refine Tr.cond (b := b5) rfl (fun h10 => ?_) (fun h10 => ?_)
  · have H := cdT h10 H
    refine Tr.seq ?_
    refine Tr.region ?_
    refine Rg.q (v := .bool (false)) (Pu.qo (p_assign rfl)) (by decide) ?_
    refine Rg.nl ?_
    refine nT (?_)
    refine tRet ?_
    refine rT (?_)
    have hr := Option.some.inj H; subst hr
    exact back1 () rfl (ResV.tmp (v := .bool (false)) rfl) rfl Ents.nil Take.nil
  · have H := cdF h10 H
    refine tSkip ?_
    refine nT (?_)
    refine Tr.seq ?_
    refine Tr.seq ?_
    refine Tr.region ?_
    refine Rg.q (v := .int .i64 (0)) (Pu.qo (p_assign rfl)) (by decide) ?_
    refine Rg.nl ?_
    refine nT (?_)
    obtain ⟨x11, hx12, H⟩ := bd.of H
    obtain ⟨n13, hx12⟩ := lp.of hx12
    refine tMidNC (ι := { q : (Unit) × Unit // x11 = .inl q.1 }) (fun ψ => []) (fun ψ => []) ?_ ?_
    · refine Tr.block ?_
      refine tLoopC (ι := { q : Nat × (Int) × Unit // itr (p_laws_lyPart_b0 v0 v1) q.1 q.2.1 = some x11 }) (fun ζ => [(2, .pointer (some ⟨g3, 0, none⟩)), (3, .pointer (some ⟨g4, 0, none⟩)), (5, .int .i64 (ζ.1.2.1))]) (fun ζ => [box g3 26 [.slice x_v0.1.1 v0.1.length x_v0.1.2, .slice x_v0.2.1 v0.2.length x_v0.2.2], box g4 26 [.slice x_v1.1.1 v1.1.length x_v1.1.2, .slice x_v1.2.1 v1.2.length x_v1.2.2]]) (fun ζ => ζ.1.1) ⟨(n13, 0, ()), hx12⟩ ⟨rfl, rfl, rfl, trivial⟩ (.cons Del.here.there (.cons Del.here .nil)) ?_
      rintro ⟨⟨m14, σ15, z16⟩, hk21⟩
      obtain ⟨m22, t18, e, H1, hi19, hb20⟩ := itr.of (n := m14) (s := σ15) hk21
      subst e; unfold p_laws_lyPart_b0 at H1
      show Tr _ _ _ _ _ [(2, .pointer (some ⟨g3, 0, none⟩)), (3, .pointer (some ⟨g4, 0, none⟩)), (5, .int .i64 (σ15))] _ [box g3 26 [.slice x_v0.1.1 v0.1.length x_v0.1.2, .slice x_v0.2.1 v0.2.length x_v0.2.2], box g4 26 [.slice x_v1.1.1 v1.1.length x_v1.1.2, .slice x_v1.2.1 v1.2.length x_v1.2.2]]
      refine Tr.seq ?_
      refine Tr.seq ?_
      refine Tr.region ?_
      refine Rg.q (v := .int .i64 (σ15)) (Pu.qo (p_move rfl)) (by decide) ?_
      refine Rg.q (v := .pointer (some ⟨g3, 1, none⟩)) (Pu.qo (p_fabE fa26_1 rfl rfl)) (by decide) ?_
      refine Rg.q (v := .slice x_v0.2.1 v0.2.length x_v0.2.2) (q_ldb ty24 rfl Has.here rfl) (by decide) ?_
      refine Rg.q (v := .int .i64 ((v0.2.length : Int))) (Pu.qo (p_len 36 Try.underlying24 rfl)) (by decide) ?_
      refine Rg.q (v := .bool (decide (σ15 < (v0.2.length : Int)))) (Pu.qo (p_lss rfl rfl)) (by decide) ?_
      refine Rg.nl ?_
      refine nT (?_)
      refine Tr.cond (b := decide (σ15 < (v0.2.length : Int))) rfl (fun h23 => ?_) (fun h23 => ?_)
      · have H1 := cdT h23 H1
        refine tSkip ?_
        refine nT (?_)
        refine Tr.seq ?_
        refine Tr.block ?_
        refine Tr.seq ?_
        refine tLinS [(2, .pointer (some ⟨g3, 0, none⟩)), (3, .pointer (some ⟨g4, 0, none⟩)), (5, .int .i64 (σ15))] Try.mixed (.inr (by kernel_rfl)) ⟨rfl, rfl, rfl, trivial⟩ rfl ?_
        refine Lin.q (v := .pointer (some ⟨g3, 1, none⟩)) (by decide) (Pu.qo (p_fabE fa26_1 rfl rfl)) ?_
        refine Lin.q (v := .slice x_v0.2.1 v0.2.length x_v0.2.2) (by decide) (q_ldb ty24 rfl Has.here rfl) ?_
        refine Lin.q (v := .int .i64 (σ15)) (by decide) (Pu.qo (p_move rfl)) ?_
        obtain ⟨h24, H1⟩ := gd.of H1
        refine Lin.q (v := elp x_v0.2.1 (σ15.toNat * Enc.sz (List Row) + 0)) (by decide) (q_ixg (l := v0.2) (E := fun i => Dp.denc (nth v0.2 i) (X1 i)) (oa := x_v0.2.1) Try.underlying24 ty36 rfl rfl h24 rfl (Ent.b (Ent.darr Ent.z.s))) ?_
        refine Lin.q (v := .slice ((X1 σ15.toNat).1) ((nth v0.2 σ15.toNat).length) ((X1 σ15.toNat).2.1)) (by decide) (q_lde (l := v0.2) (E := fun i => Dp.denc (nth v0.2 i) (X1 i)) (oa := x_v0.2.1) (i := σ15.toNat) (j := 0) ty36 rfl (Ent.b (Ent.darr Ent.z.s)) h24.lt rfl) ?_
        refine Lin.q (v := .pointer (some ⟨g4, 1, none⟩)) (by decide) (Pu.qo (p_fabE fa26_1 rfl rfl)) ?_
        refine Lin.q (v := .slice x_v1.2.1 v1.2.length x_v1.2.2) (by decide) (q_ldb ty24 rfl Has.here.there rfl) ?_
        refine Lin.q (v := .int .i64 (σ15)) (by decide) (Pu.qo (p_move rfl)) ?_
        obtain ⟨h25, H1⟩ := gd.of H1
        refine Lin.q (v := elp x_v1.2.1 (σ15.toNat * Enc.sz (List Row) + 0)) (by decide) (q_ixg (l := v1.2) (E := fun i => Dp.denc (nth v1.2 i) (X2 i)) (oa := x_v1.2.1) Try.underlying24 ty36 rfl rfl h25 rfl (Ent.b (Ent.darr Ent.z))) ?_
        refine Lin.q (v := .slice ((X2 σ15.toNat).1) ((nth v1.2 σ15.toNat).length) ((X2 σ15.toNat).2.1)) (by decide) (q_lde (l := v1.2) (E := fun i => Dp.denc (nth v1.2 i) (X2 i)) (oa := x_v1.2.1) (i := σ15.toNat) (j := 0) ty36 rfl (Ent.b (Ent.darr Ent.z)) h25.lt rfl) ?_
        obtain ⟨r26, h27, H1⟩ := bd.of H1
        refine Lin.q (v := .bool (r26)) (by decide) (q_call (vs := [.slice ((X1 σ15.toNat).1) ((nth v0.2 σ15.toNat).length) ((X1 σ15.toNat).2.1), .slice ((X2 σ15.toNat).1) ((nth v1.2 σ15.toNat).length) ((X2 σ15.toNat).2.1)]) (c_laws_lyRows (nth v0.2 σ15.toNat) ((X1 σ15.toNat).1, (X1 σ15.toNat).2.1) (nth v1.2 σ15.toNat) ((X2 σ15.toNat).1, (X2 σ15.toNat).2.1) h27) rfl (EntsB.cons (Ent.b (Ent.dimm (Ent.del Ent.z.s h24.lt))) (EntsB.cons (Ent.b (Ent.dimm (Ent.del Ent.z h25.lt))) EntsB.nil))) ?_
        refine Lin.q (v := .bool (!r26)) (by decide) (Pu.qo (p_not rfl)) ?_
        show At _ _ _ _ _ _
        refine nT (?_)
        refine Tr.cond (b := !r26) rfl (fun h28 => ?_) (fun h28 => ?_)
        · have H1 := cdT h28 H1
          refine Tr.seq ?_
          refine Tr.region ?_
          refine Rg.q (v := .bool (false)) (Pu.qo (p_assign rfl)) (by decide) ?_
          refine Rg.nl ?_
          refine nT (?_)
          refine tRet ?_
          refine rB (rT (rT (rB (rT (rT (?_))))))
          have hx := hb20 _ (Option.some.inj H1).symm; subst hx
          replace H := sw.r H
          have hr := Option.some.inj H; subst hr
          exact back1 () rfl (ResV.tmp (v := .bool (false)) rfl) rfl Ents.nil Take.nil
        · have H1 := cdF h28 H1
          refine tSkip ?_
          refine nB (nT (?_))
          refine Tr.region ?_
          refine Rg.q (v := .int .i64 (σ15)) (Pu.qo (p_move rfl)) (by decide) ?_
          obtain ⟨h29, H1⟩ := gd.of H1
          refine Rg.q (v := .int .i64 (σ15 + 1)) (Pu.qo (p_add rfl rfl h29)) (by decide) ?_
          refine Rg.q (v := .int .i64 (σ15 + 1)) (Pu.qo (p_assign rfl)) (by decide) ?_
          refine Rg.nl ?_
          exact nLC ⟨(m22, σ15 + 1, ()), hi19 _ (Option.some.inj H1).symm⟩ (Nat.lt_succ_self _) ⟨rfl, rfl, rfl, trivial⟩ Ents.refl (.cons Del.here (.cons Del.here .nil))
      · have H1 := cdF h23 H1
        refine tExit (xT (xT (xE (?_))))
        exact nMC ⟨((), ()), (hb20 _ (Option.some.inj H1).symm).symm⟩ trivial Ents.refl Take.nil
    · rintro ⟨⟨e30, y17⟩, hx⟩; subst hx; replace H := sw.l H
      show At _ _ [] _ [] _
      refine nT (?_)
      refine Tr.seq ?_
      refine Tr.region ?_
      refine Rg.q (v := .bool (true)) (Pu.qo (p_assign rfl)) (by decide) ?_
      refine Rg.nl ?_
      refine nT (?_)
      refine tRet ?_
      have hr := Option.some.inj H; subst hr
      exact back1 () rfl (ResV.tmp (v := .bool (true)) rfl) rfl Ents.nil Take.nil
noncomputable def p_laws_lyAt_b0 (v0 : (List Row)) (v1 : Int) (σ5 : Int) : Option ((Int) ⊕ (Unit ⊕ (Int × Bool))) := cond (decide (σ5 < (v0.length : Int))) (gd (ix σ5 v0.length) <| cond (decide (((nth v0 σ5.toNat).1) = v1)) (some (.inr (.inr ((nth v0 σ5.toNat).2, true)))) (gd (I64 (σ5 + 1)) <| some (.inl (σ5 + 1)))) (some (.inr (.inl ())))
noncomputable def p_laws_lyAt (v0 : (List Row)) (v1 : Int) : Option (Int × Bool) := bd (lp (p_laws_lyAt_b0 v0 v1) 0) <| sw (fun e17 => some (0, false)) (fun q => some q)
theorem c_laws_lyAt {r : Int × Bool} (v0 : (List Row)) (x_v0 : Option Addr × Nat) (v1 : Int) (H : p_laws_lyAt v0 v1 = some r) : Fn' Try.prog 22 #[.slice x_v0.1 v0.length x_v0.2, .int .i64 (v1)] [imm (.slice x_v0.1 v0.length x_v0.2) v0] [] (ι := Unit) (fun x => .tuple #[.int .i64 (r.1), .bool (r.2)]) (fun _ => []) (fun x => []) := by
  refine calls_of (args := [_, _]) Try.func22 rfl (by kernel_rfl) Try.ntmps22 (by simp) fun c => ?_
  unfold p_laws_lyAt at H
  refine Tr.seq ?_
  refine Tr.region ?_
  refine Rg.q (v := .int .i64 (0)) (Pu.qo (p_assign rfl)) (by decide) ?_
  refine Rg.q (v := .bool (false)) (Pu.qo (p_assign rfl)) (by decide) ?_
  refine Rg.nl ?_
  refine nT (?_)
  refine Tr.seq ?_
  refine Tr.seq ?_
  refine Tr.region ?_
  refine Rg.q (v := .int .i64 (0)) (Pu.qo (p_assign rfl)) (by decide) ?_
  refine Rg.nl ?_
  refine nT (?_)
  obtain ⟨x1, hx2, H⟩ := bd.of H
  obtain ⟨n3, hx2⟩ := lp.of hx2
  refine tMidNC (ι := { q : (Unit) × Unit // x1 = .inl q.1 }) (fun ψ => []) (fun ψ => []) ?_ ?_
  · refine Tr.block ?_
    refine tLoopC (ι := { q : Nat × (Int) × Unit // itr (p_laws_lyAt_b0 v0 v1) q.1 q.2.1 = some x1 }) (fun ζ => [(0, .slice x_v0.1 v0.length x_v0.2), (1, .int .i64 (v1)), (6, .int .i64 (ζ.1.2.1))]) (fun ζ => []) (fun ζ => ζ.1.1) ⟨(n3, 0, ()), hx2⟩ ⟨rfl, rfl, rfl, trivial⟩ Take.nil ?_
    rintro ⟨⟨m4, σ5, z6⟩, hk11⟩
    obtain ⟨m12, t8, e, H1, hi9, hb10⟩ := itr.of (n := m4) (s := σ5) hk11
    subst e; unfold p_laws_lyAt_b0 at H1
    show Tr _ _ _ _ _ [(0, .slice x_v0.1 v0.length x_v0.2), (1, .int .i64 (v1)), (6, .int .i64 (σ5))] _ []
    refine Tr.seq ?_
    refine Tr.seq ?_
    refine Tr.region ?_
    refine Rg.q (v := .int .i64 (σ5)) (Pu.qo (p_move rfl)) (by decide) ?_
    refine Rg.q (v := .slice x_v0.1 v0.length x_v0.2) (Pu.qo (p_move rfl)) (by decide) ?_
    refine Rg.q (v := .int .i64 ((v0.length : Int))) (Pu.qo (p_len 46 Try.underlying36 rfl)) (by decide) ?_
    refine Rg.q (v := .bool (decide (σ5 < (v0.length : Int)))) (Pu.qo (p_lss rfl rfl)) (by decide) ?_
    refine Rg.nl ?_
    refine nT (?_)
    refine Tr.cond (b := decide (σ5 < (v0.length : Int))) rfl (fun h13 => ?_) (fun h13 => ?_)
    · have H1 := cdT h13 H1
      refine tSkip ?_
      refine nT (?_)
      refine Tr.seq ?_
      refine Tr.block ?_
      refine Tr.seq ?_
      refine Tr.region ?_
      refine Rg.q (v := .slice x_v0.1 v0.length x_v0.2) (Pu.qo (p_move rfl)) (by decide) ?_
      refine Rg.q (v := .int .i64 (σ5)) (Pu.qo (p_move rfl)) (by decide) ?_
      obtain ⟨h14, H1⟩ := gd.of H1
      refine Rg.q (v := elp x_v0.1 (σ5.toNat * Enc.sz Row + 0)) (q_ixg (l := v0) (E := fun i => Flat.enc (nth v0 i)) (oa := x_v0.1) Try.underlying36 ty46 rfl rfl h14 rfl (EntB.flat (Ent.b Ent.z))) (by decide) ?_
      refine Rg.q (v := elp x_v0.1 (σ5.toNat * Enc.sz Row + 0)) (q_faeE (l := v0) (E := fun i => Flat.enc (nth v0 i)) (oa := x_v0.1) (j := 0) σ5.toNat fa46_0 rfl (EntB.flat (Ent.b Ent.z)) h14.lt rfl) (by decide) ?_
      refine Rg.q (v := .int .i64 ((nth v0 σ5.toNat).1)) (q_lde (l := v0) (E := fun i => Flat.enc (nth v0 i)) (oa := x_v0.1) (i := σ5.toNat) (j := 0) ty3 rfl (EntB.flat (Ent.b Ent.z)) h14.lt rfl) (by decide) ?_
      refine Rg.q (v := .int .i64 (v1)) (Pu.qo (p_move rfl)) (by decide) ?_
      refine Rg.q (v := .bool (decide (((nth v0 σ5.toNat).1) = v1))) (Pu.qo (p_eql rfl rfl)) (by decide) ?_
      refine Rg.nl ?_
      refine nT (?_)
      refine Tr.cond (b := decide (((nth v0 σ5.toNat).1) = v1)) rfl (fun h15 => ?_) (fun h15 => ?_)
      · have H1 := cdT h15 H1
        refine Tr.seq ?_
        refine Tr.region ?_
        refine Rg.q (v := .slice x_v0.1 v0.length x_v0.2) (Pu.qo (p_move rfl)) (by decide) ?_
        refine Rg.q (v := .int .i64 (σ5)) (Pu.qo (p_move rfl)) (by decide) ?_
        refine Rg.q (v := elp x_v0.1 (σ5.toNat * Enc.sz Row + 0)) (q_ixg (l := v0) (E := fun i => Flat.enc (nth v0 i)) (oa := x_v0.1) Try.underlying36 ty46 rfl rfl h14 rfl (EntB.flat (Ent.b Ent.z))) (by decide) ?_
        refine Rg.q (v := elp x_v0.1 (σ5.toNat * Enc.sz Row + 1)) (q_faeE (l := v0) (E := fun i => Flat.enc (nth v0 i)) (oa := x_v0.1) (j := 0) σ5.toNat fa46_1 rfl (EntB.flat (Ent.b Ent.z)) h14.lt rfl) (by decide) ?_
        refine Rg.q (v := .int .i64 ((nth v0 σ5.toNat).2)) (q_lde (l := v0) (E := fun i => Flat.enc (nth v0 i)) (oa := x_v0.1) (i := σ5.toNat) (j := 1) ty3 rfl (EntB.flat (Ent.b Ent.z)) h14.lt rfl) (by decide) ?_
        refine Rg.q (v := .int .i64 ((nth v0 σ5.toNat).2)) (Pu.qo (p_assign rfl)) (by decide) ?_
        refine Rg.q (v := .bool (true)) (Pu.qo (p_assign rfl)) (by decide) ?_
        refine Rg.nl ?_
        refine nT (?_)
        refine tRet ?_
        refine rB (rT (rT (rB (rT (rT (?_))))))
        have hx := hb10 _ (Option.some.inj H1).symm; subst hx
        replace H := sw.r H
        have hr := Option.some.inj H; subst hr
        exact back2 () rfl (ResV.tmp (v := .int .i64 ((nth v0 σ5.toNat).2)) rfl) (ResV.tmp (v := .bool (true)) rfl) rfl Ents.nil Take.nil
      · have H1 := cdF h15 H1
        refine tSkip ?_
        refine nB (nT (?_))
        refine Tr.region ?_
        refine Rg.q (v := .int .i64 (σ5)) (Pu.qo (p_move rfl)) (by decide) ?_
        obtain ⟨h16, H1⟩ := gd.of H1
        refine Rg.q (v := .int .i64 (σ5 + 1)) (Pu.qo (p_add rfl rfl h16)) (by decide) ?_
        refine Rg.q (v := .int .i64 (σ5 + 1)) (Pu.qo (p_assign rfl)) (by decide) ?_
        refine Rg.nl ?_
        exact nLC ⟨(m12, σ5 + 1, ()), hi9 _ (Option.some.inj H1).symm⟩ (Nat.lt_succ_self _) ⟨rfl, rfl, rfl, trivial⟩ Ents.refl Take.nil
    · have H1 := cdF h13 H1
      refine tExit (xT (xT (xE (?_))))
      exact nMC ⟨((), ()), (hb10 _ (Option.some.inj H1).symm).symm⟩ trivial Ents.refl Take.nil
  · rintro ⟨⟨e17, y7⟩, hx⟩; subst hx; replace H := sw.l H
    show At _ _ [] _ [] _
    refine nT (?_)
    refine Tr.seq ?_
    refine Tr.region ?_
    refine Rg.q (v := .int .i64 (0)) (Pu.qo (p_assign rfl)) (by decide) ?_
    refine Rg.q (v := .bool (false)) (Pu.qo (p_assign rfl)) (by decide) ?_
    refine Rg.nl ?_
    refine nT (?_)
    refine tRet ?_
    have hr := Option.some.inj H; subst hr
    exact back2 () rfl (ResV.tmp (v := .int .i64 (0)) rfl) (ResV.tmp (v := .bool (false)) rfl) rfl Ents.nil Take.nil
noncomputable def p_laws_FnPartNewer_b1 (r2 : Part × Part) (σ31 : Int) (r41 : (List Row)) (σ48 : Int) : Option ((Int) ⊕ (Unit ⊕ Bool)) := gd (ix σ31 r2.2.2.length) <| cond (decide (σ48 < ((nth r2.2.2 σ31.toNat).length : Int))) (gd (ix σ48 (nth r2.2.2 σ31.toNat).length) <| bd (p_laws_lyAt r41 ((nth (nth r2.2.2 σ31.toNat) σ48.toNat).1)) fun r60 => bd (cond (!r60.2) (some (true)) (some (!decide (r60.1 = ((nth (nth r2.2.2 σ31.toNat) σ48.toNat).2))))) fun b62 => cond (b62) (some (.inr (.inr false))) (gd (I64 (σ48 + 1)) <| some (.inl (σ48 + 1)))) (some (.inr (.inl ())))
noncomputable def p_laws_FnPartNewer_b0 (r2 : Part × Part) (r11 : Part × Bool) (σ31 : Int) : Option ((Int) ⊕ (Unit ⊕ Bool)) := cond (decide (σ31 < (r2.2.1.length : Int))) (gd (ix σ31 r2.2.1.length) <| bd (p_impl_PartOf r11.1 (nth r2.2.1 σ31.toNat)) fun r41 => bd (lp (p_laws_FnPartNewer_b1 r2 σ31 r41) 0) <| sw (fun e67 => gd (I64 (σ31 + 1)) <| some (.inl (σ31 + 1))) (fun q => some (.inr (.inr q)))) (some (.inr (.inl ())))
noncomputable def p_laws_FnPartNewer (v0 : (List UInt8)) : Option (Bool) := cond (decide (1048576 < (v0.length : Int))) (some true) (bd (p_spec_DrawPartMerge v0) fun r2 => bd (p_spec_PartMerge r2.1 r2.2) fun r7 => bd (p_impl_PartMerge r2.1 r2.2) fun r11 => bd (cond (!decide (r11.2 = r7.2)) (some (true)) (bd (p_laws_lyPart r11.1 r7.1) fun r18 => cond (!r18) (some (true)) (some (!r11.2)))) fun b15 => cond (b15) (bd (cond (decide (r11.2 = r7.2)) (bd (p_laws_lyPart r11.1 r7.1) fun r25 => some (r25)) (some (false))) fun b22 => some b22) (bd (lp (p_laws_FnPartNewer_b0 r2 r11) 0) <| sw (fun e69 => some true) (fun q => some q)))
theorem c_laws_FnPartNewer {r : Bool} (v0 : (List UInt8)) (x_v0 : Option Addr × Nat) (H : p_laws_FnPartNewer v0 = some r) : Fn' Try.prog 7 #[.slice x_v0.1 v0.length x_v0.2] [imm (.slice x_v0.1 v0.length x_v0.2) v0] [] (ι := Unit) (fun x => .bool (r)) (fun _ => []) (fun x => []) := by
  refine calls_of (args := [_]) Try.func7 rfl (by kernel_rfl) Try.ntmps7 (by simp) fun c => ?_
  unfold p_laws_FnPartNewer at H
  refine Tr.seq ?_
  refine Tr.region ?_
  refine Rg.q (v := .bool (false)) (Pu.qo (p_assign rfl)) (by decide) ?_
  refine Rg.nl ?_
  refine nT (?_)
  refine Tr.seq ?_
  refine Tr.seq ?_
  refine Tr.region ?_
  refine Rg.q (v := .slice x_v0.1 v0.length x_v0.2) (Pu.qo (p_move rfl)) (by decide) ?_
  refine Rg.q (v := .int .i64 ((v0.length : Int))) (Pu.qo (p_len 5 Try.underlying22 rfl)) (by decide) ?_
  refine Rg.q (v := .bool (decide (1048576 < (v0.length : Int)))) (Pu.qo (p_gtr rfl rfl)) (by decide) ?_
  refine Rg.nl ?_
  refine nT (?_)
  refine Tr.cond (b := decide (1048576 < (v0.length : Int))) rfl (fun h1 => ?_) (fun h1 => ?_)
  · have H := cdT h1 H
    refine Tr.seq ?_
    refine Tr.region ?_
    refine Rg.q (v := .bool (true)) (Pu.qo (p_assign rfl)) (by decide) ?_
    refine Rg.nl ?_
    refine nT (?_)
    refine tRet ?_
    refine rT (?_)
    have hr := Option.some.inj H; subst hr
    exact back1 () rfl (ResV.tmp (v := .bool (true)) rfl) rfl Ents.nil Take.nil
  · have H := cdF h1 H
    refine tSkip ?_
    refine nT (?_)
    refine Tr.seq ?_
    refine Tr.region ?_
    refine Rg.q (v := .slice x_v0.1 v0.length x_v0.2) (Pu.qo (p_move rfl)) (by decide) ?_
    obtain ⟨r2, h3, H⟩ := bd.of H
    refine Rg.ed (e_callB (vs := [.slice x_v0.1 v0.length x_v0.2]) (c_spec_DrawPartMerge v0 x_v0 h3) (fun _ => (Solo.tree (Solo.tree (Solo.tree (Solo.tree Solo.nil))))) rfl (EntsB.cons (Ent.b Ent.z) EntsB.nil)) rfl (by decide) ?_
    rintro _ _ _ ⟨x4, rfl, rfl, rfl⟩
    refine Rg.q (v := .tuple #[.agg #[.slice x4.1.1.1 r2.1.1.length x4.1.1.2, .slice x4.1.2.1 r2.1.2.length x4.1.2.2], .agg #[.slice x4.2.1.1 r2.2.1.length x4.2.1.2, .slice x4.2.2.1 r2.2.2.length x4.2.2.2]]) (Pu.qo (p_move rfl)) (by decide) ?_
    refine Rg.q (v := .agg #[.slice x4.1.1.1 r2.1.1.length x4.1.1.2, .slice x4.1.2.1 r2.1.2.length x4.1.2.2]) (Pu.qo (p_extract rfl rfl)) (by decide) ?_
    refine Rg.q (v := .agg #[.slice x4.2.1.1 r2.2.1.length x4.2.1.2, .slice x4.2.2.1 r2.2.2.length x4.2.2.2]) (Pu.qo (p_extract rfl rfl)) (by decide) ?_
    refine Rg.ed (e_alloc ty26) rfl (by decide) ?_
    rintro _ _ _ ⟨g5, rfl, rfl, rfl⟩
    refine Rg.ed (e_alloc ty26) rfl (by decide) ?_
    rintro _ _ _ ⟨g6, rfl, rfl, rfl⟩
    refine Rg.en (e_store (v := .agg #[.slice x4.1.1.1 r2.1.1.length x4.1.1.2, .slice x4.1.2.1 r2.1.2.length x4.1.2.2]) (cs' := [.slice x4.1.1.1 r2.1.1.length x4.1.1.2, .slice x4.1.2.1 r2.1.2.length x4.1.2.2]) ty26 rfl rfl Upd.here.there rfl (by simp [Value.cells, Value.oneCell']) (Nat.le_of_ble_eq_true rfl) rfl) rfl ?_
    rintro _ _ _ ⟨rfl, rfl, rfl⟩
    refine Rg.en (e_store (v := .agg #[.slice x4.2.1.1 r2.2.1.length x4.2.1.2, .slice x4.2.2.1 r2.2.2.length x4.2.2.2]) (cs' := [.slice x4.2.1.1 r2.2.1.length x4.2.1.2, .slice x4.2.2.1 r2.2.2.length x4.2.2.2]) ty26 rfl rfl Upd.here rfl (by simp [Value.cells, Value.oneCell']) (Nat.le_of_ble_eq_true rfl) rfl) rfl ?_
    rintro _ _ _ ⟨rfl, rfl, rfl⟩
    refine Rg.nl ?_
    refine nT (?_)
    refine Tr.seq ?_
    refine Tr.region ?_
    refine Rg.q (v := .agg #[.slice x4.1.1.1 r2.1.1.length x4.1.1.2, .slice x4.1.2.1 r2.1.2.length x4.1.2.2]) (q_ldbA ty26 rfl Has.here.there rfl) (by decide) ?_
    refine Rg.q (v := .agg #[.slice x4.2.1.1 r2.2.1.length x4.2.1.2, .slice x4.2.2.1 r2.2.2.length x4.2.2.2]) (q_ldbA ty26 rfl Has.here rfl) (by decide) ?_
    obtain ⟨r7, h8, H⟩ := bd.of H
    refine Rg.ed (e_callB (vs := [.agg #[.slice x4.1.1.1 r2.1.1.length x4.1.1.2, .slice x4.1.2.1 r2.1.2.length x4.1.2.2], .agg #[.slice x4.2.1.1 r2.2.1.length x4.2.1.2, .slice x4.2.2.1 r2.2.2.length x4.2.2.2]]) (c_spec_PartMerge r2.1 x4.1 r2.2 x4.2 h8) (fun _ => (Solo.tree (Solo.tree Solo.nil))) rfl (EntsB.cons (EntB.tree Has.here.there.there) (EntsB.cons (EntB.tree Has.here.there.there.there) (EntsB.cons (EntB.tree Has.here.there.there.there.there) (EntsB.cons (EntB.tree Has.here.there.there.there.there.there) EntsB.nil))))) rfl (by decide) ?_
    rintro _ _ _ ⟨x9, rfl, rfl, rfl⟩
    refine Rg.q (v := .tuple #[.agg #[.slice x9.1.1.1 r7.1.1.length x9.1.1.2, .slice x9.1.2.1 r7.1.2.length x9.1.2.2], .bool (r7.2)]) (Pu.qo (p_move rfl)) (by decide) ?_
    refine Rg.q (v := .agg #[.slice x9.1.1.1 r7.1.1.length x9.1.1.2, .slice x9.1.2.1 r7.1.2.length x9.1.2.2]) (Pu.qo (p_extract rfl rfl)) (by decide) ?_
    refine Rg.q (v := .bool (r7.2)) (Pu.qo (p_extract rfl rfl)) (by decide) ?_
    refine Rg.ed (e_alloc ty26) rfl (by decide) ?_
    rintro _ _ _ ⟨g10, rfl, rfl, rfl⟩
    refine Rg.en (e_store (v := .agg #[.slice x9.1.1.1 r7.1.1.length x9.1.1.2, .slice x9.1.2.1 r7.1.2.length x9.1.2.2]) (cs' := [.slice x9.1.1.1 r7.1.1.length x9.1.1.2, .slice x9.1.2.1 r7.1.2.length x9.1.2.2]) ty26 rfl rfl Upd.here rfl (by simp [Value.cells, Value.oneCell']) (Nat.le_of_ble_eq_true rfl) rfl) rfl ?_
    rintro _ _ _ ⟨rfl, rfl, rfl⟩
    refine Rg.q (v := .bool (r7.2)) (Pu.qo (p_assign rfl)) (by decide) ?_
    refine Rg.nl ?_
    refine nT (?_)
    refine Tr.seq ?_
    refine Tr.region ?_
    refine Rg.q (v := .agg #[.slice x4.1.1.1 r2.1.1.length x4.1.1.2, .slice x4.1.2.1 r2.1.2.length x4.1.2.2]) (q_ldbA ty26 rfl Has.here.there.there.there.there rfl) (by decide) ?_
    refine Rg.q (v := .agg #[.slice x4.2.1.1 r2.2.1.length x4.2.1.2, .slice x4.2.2.1 r2.2.2.length x4.2.2.2]) (q_ldbA ty26 rfl Has.here.there.there.there rfl) (by decide) ?_
    obtain ⟨r11, h12, H⟩ := bd.of H
    refine Rg.ed (e_callB (vs := [.agg #[.slice x4.1.1.1 r2.1.1.length x4.1.1.2, .slice x4.1.2.1 r2.1.2.length x4.1.2.2], .agg #[.slice x4.2.1.1 r2.2.1.length x4.2.1.2, .slice x4.2.2.1 r2.2.2.length x4.2.2.2]]) (c_impl_PartMerge r2.1 x4.1 r2.2 x4.2 h12) (fun _ => (Solo.tree (Solo.tree Solo.nil))) rfl (EntsB.cons (EntB.tree Has.here.there.there.there.there.there) (EntsB.cons (EntB.tree Has.here.there.there.there.there.there.there) (EntsB.cons (EntB.tree Has.here.there.there.there.there.there.there.there) (EntsB.cons (EntB.tree Has.here.there.there.there.there.there.there.there.there) EntsB.nil))))) rfl (by decide) ?_
    rintro _ _ _ ⟨x13, rfl, rfl, rfl⟩
    refine Rg.q (v := .tuple #[.agg #[.slice x13.1.1.1 r11.1.1.length x13.1.1.2, .slice x13.1.2.1 r11.1.2.length x13.1.2.2], .bool (r11.2)]) (Pu.qo (p_move rfl)) (by decide) ?_
    refine Rg.q (v := .agg #[.slice x13.1.1.1 r11.1.1.length x13.1.1.2, .slice x13.1.2.1 r11.1.2.length x13.1.2.2]) (Pu.qo (p_extract rfl rfl)) (by decide) ?_
    refine Rg.q (v := .bool (r11.2)) (Pu.qo (p_extract rfl rfl)) (by decide) ?_
    refine Rg.ed (e_alloc ty26) rfl (by decide) ?_
    rintro _ _ _ ⟨g14, rfl, rfl, rfl⟩
    refine Rg.en (e_store (v := .agg #[.slice x13.1.1.1 r11.1.1.length x13.1.1.2, .slice x13.1.2.1 r11.1.2.length x13.1.2.2]) (cs' := [.slice x13.1.1.1 r11.1.1.length x13.1.1.2, .slice x13.1.2.1 r11.1.2.length x13.1.2.2]) ty26 rfl rfl Upd.here rfl (by simp [Value.cells, Value.oneCell']) (Nat.le_of_ble_eq_true rfl) rfl) rfl ?_
    rintro _ _ _ ⟨rfl, rfl, rfl⟩
    refine Rg.q (v := .bool (r11.2)) (Pu.qo (p_assign rfl)) (by decide) ?_
    refine Rg.nl ?_
    refine nT (?_)
    refine Tr.seq ?_
    obtain ⟨b15, j16, H⟩ := bd.of H
    refine tMid1 [(46, .bool (b15)), (8, .bool (r11.2)), (7, .pointer (some ⟨g14, 0, none⟩)), (6, .bool (r7.2)), (5, .pointer (some ⟨g10, 0, none⟩)), (4, .pointer (some ⟨g6, 0, none⟩))] ?_ ?_
    · refine tLinT [(8, .bool (r11.2)), (7, .pointer (some ⟨g14, 0, none⟩)), (6, .bool (r7.2)), (5, .pointer (some ⟨g10, 0, none⟩)), (4, .pointer (some ⟨g6, 0, none⟩))] ⟨rfl, rfl, rfl, rfl, rfl, trivial⟩ ?_
      refine Lin.q (v := .bool (r11.2)) (by decide) (Pu.qo (p_move rfl)) ?_
      refine Lin.q (v := .bool (r7.2)) (by decide) (Pu.qo (p_move rfl)) ?_
      refine Lin.q (v := .bool (!decide (r11.2 = r7.2))) (by decide) (Pu.qo (p_bneq Try.underlying4 rfl rfl)) ?_
      rcases Bool.eq_false_or_eq_true (!decide (r11.2 = r7.2)) with h17 | h17
      · have j16 := cdT h17 j16
        refine Lin.q (v := .bool (true)) (by decide) (Qo.eqv (v := .bool (!decide (r11.2 = r7.2))) (Pu.qo (p_move rfl)) (congrArg Value.bool h17)) ?_
        refine Lin.skip (by decide) rfl ?_
        refine Lin.skip (by decide) rfl ?_
        refine Lin.skip (by decide) rfl ?_
        refine Lin.skip (by decide) rfl ?_
        refine Lin.q (v := .bool (true)) (by decide) (Pu.qo (p_pickT rfl rfl)) ?_
        refine Lin.q (v := .bool (true)) (by decide) (Pu.qo (p_move rfl)) ?_
        refine Lin.skip (by decide) rfl ?_
        refine Lin.skip (by decide) rfl ?_
        refine Lin.q (v := .bool (true)) (by decide) (Pu.qo (p_pickT rfl rfl)) ?_
        have j16 := Option.some.inj j16; subst j16
        show At _ _ _ _ _ _
        exact n1 ⟨rfl, rfl, rfl, rfl, rfl, rfl, trivial⟩
      · have j16 := cdF h17 j16
        refine Lin.q (v := .bool (false)) (by decide) (Qo.eqv (v := .bool (!decide (r11.2 = r7.2))) (Pu.qo (p_move rfl)) (congrArg Value.bool h17)) ?_
        refine Lin.g (v := .agg #[.slice x13.1.1.1 r11.1.1.length x13.1.1.2, .slice x13.1.2.1 r11.1.2.length x13.1.2.2]) (by decide) rfl (q_ldbA ty26 rfl Has.here rfl) ?_
        refine Lin.g (v := .agg #[.slice x9.1.1.1 r7.1.1.length x9.1.1.2, .slice x9.1.2.1 r7.1.2.length x9.1.2.2]) (by decide) rfl (q_ldbA ty26 rfl Has.here.there.there.there rfl) ?_
        obtain ⟨r18, h19, j16⟩ := bd.of j16
        refine Lin.g (v := .bool (r18)) (by decide) rfl (q_call (vs := [.agg #[.slice x13.1.1.1 r11.1.1.length x13.1.1.2, .slice x13.1.2.1 r11.1.2.length x13.1.2.2], .agg #[.slice x9.1.1.1 r7.1.1.length x9.1.1.2, .slice x9.1.2.1 r7.1.2.length x9.1.2.2]]) (c_laws_lyPart r11.1 x13.1 r7.1 x9.1 h19) rfl (EntsB.cons (EntB.tree Has.here.there) (EntsB.cons (EntB.tree Has.here.there.there) (EntsB.cons (EntB.tree Has.here.there.there.there.there) (EntsB.cons (EntB.tree Has.here.there.there.there.there.there) EntsB.nil))))) ?_
        refine Lin.g (v := .bool (!r18)) (by decide) rfl (Pu.qo (p_not rfl)) ?_
        refine Lin.q (v := .bool (!r18)) (by decide) (Pu.qo (p_pickF rfl rfl)) ?_
        rcases Bool.eq_false_or_eq_true (!r18) with h20 | h20
        · have j16 := cdT h20 j16
          refine Lin.q (v := .bool (true)) (by decide) (Qo.eqv (v := .bool (!r18)) (Pu.qo (p_move rfl)) (congrArg Value.bool h20)) ?_
          refine Lin.skip (by decide) rfl ?_
          refine Lin.skip (by decide) rfl ?_
          refine Lin.q (v := .bool (true)) (by decide) (Pu.qo (p_pickT rfl rfl)) ?_
          have j16 := Option.some.inj j16; subst j16
          show At _ _ _ _ _ _
          exact n1 ⟨rfl, rfl, rfl, rfl, rfl, rfl, trivial⟩
        · have j16 := cdF h20 j16
          refine Lin.q (v := .bool (false)) (by decide) (Qo.eqv (v := .bool (!r18)) (Pu.qo (p_move rfl)) (congrArg Value.bool h20)) ?_
          refine Lin.g (v := .bool (r11.2)) (by decide) rfl (Pu.qo (p_move rfl)) ?_
          refine Lin.g (v := .bool (!r11.2)) (by decide) rfl (Pu.qo (p_not rfl)) ?_
          refine Lin.q (v := .bool (!r11.2)) (by decide) (Pu.qo (p_pickF rfl rfl)) ?_
          have j16 := Option.some.inj j16; subst j16
          show At _ _ _ _ _ _
          exact n1 ⟨rfl, rfl, rfl, rfl, rfl, rfl, trivial⟩
    refine Tr.cond (b := b15) rfl (fun h21 => ?_) (fun h21 => ?_)
    · have H := cdT h21 H
      obtain ⟨b22, j23, H⟩ := bd.of H
      refine tMid1 [(2, .bool (b22))] ?_ ?_
      · refine tLinT [(8, .bool (r11.2)), (7, .pointer (some ⟨g14, 0, none⟩)), (6, .bool (r7.2)), (5, .pointer (some ⟨g10, 0, none⟩))] ⟨rfl, rfl, rfl, rfl, trivial⟩ ?_
        refine Lin.q (v := .bool (r11.2)) (by decide) (Pu.qo (p_move rfl)) ?_
        refine Lin.q (v := .bool (r7.2)) (by decide) (Pu.qo (p_move rfl)) ?_
        refine Lin.q (v := .bool (decide (r11.2 = r7.2))) (by decide) (Pu.qo (p_beql Try.underlying4 rfl rfl)) ?_
        rcases Bool.eq_false_or_eq_true (decide (r11.2 = r7.2)) with h24 | h24
        · have j23 := cdT h24 j23
          refine Lin.q (v := .bool (true)) (by decide) (Qo.eqv (v := .bool (decide (r11.2 = r7.2))) (Pu.qo (p_move rfl)) (congrArg Value.bool h24)) ?_
          refine Lin.g (v := .agg #[.slice x13.1.1.1 r11.1.1.length x13.1.1.2, .slice x13.1.2.1 r11.1.2.length x13.1.2.2]) (by decide) rfl (q_ldbA ty26 rfl Has.here rfl) ?_
          refine Lin.g (v := .agg #[.slice x9.1.1.1 r7.1.1.length x9.1.1.2, .slice x9.1.2.1 r7.1.2.length x9.1.2.2]) (by decide) rfl (q_ldbA ty26 rfl Has.here.there.there.there rfl) ?_
          obtain ⟨r25, h26, j23⟩ := bd.of j23
          refine Lin.g (v := .bool (r25)) (by decide) rfl (q_call (vs := [.agg #[.slice x13.1.1.1 r11.1.1.length x13.1.1.2, .slice x13.1.2.1 r11.1.2.length x13.1.2.2], .agg #[.slice x9.1.1.1 r7.1.1.length x9.1.1.2, .slice x9.1.2.1 r7.1.2.length x9.1.2.2]]) (c_laws_lyPart r11.1 x13.1 r7.1 x9.1 h26) rfl (EntsB.cons (EntB.tree Has.here.there) (EntsB.cons (EntB.tree Has.here.there.there) (EntsB.cons (EntB.tree Has.here.there.there.there.there) (EntsB.cons (EntB.tree Has.here.there.there.there.there.there) EntsB.nil))))) ?_
          refine Lin.q (v := .bool (r25)) (by decide) (Pu.qo (p_pickT rfl rfl)) ?_
          refine Lin.q (v := .bool (r25)) (by decide) (Pu.qo (p_assign rfl)) ?_
          have j23 := Option.some.inj j23; subst j23
          show At _ _ _ _ _ _
          exact n1 ⟨rfl, trivial⟩
        · have j23 := cdF h24 j23
          refine Lin.q (v := .bool (false)) (by decide) (Qo.eqv (v := .bool (decide (r11.2 = r7.2))) (Pu.qo (p_move rfl)) (congrArg Value.bool h24)) ?_
          refine Lin.skip (by decide) rfl ?_
          refine Lin.skip (by decide) rfl ?_
          refine Lin.skip (by decide) rfl ?_
          refine Lin.q (v := .bool (false)) (by decide) (Pu.qo (p_pickF rfl rfl)) ?_
          refine Lin.q (v := .bool (false)) (by decide) (Pu.qo (p_assign rfl)) ?_
          have j23 := Option.some.inj j23; subst j23
          show At _ _ _ _ _ _
          exact n1 ⟨rfl, trivial⟩
      refine tRet ?_
      refine rT (?_)
      have hr := Option.some.inj H; subst hr
      exact back1 () rfl (ResV.tmp (v := .bool (b22)) rfl) rfl Ents.nil Take.nil
    · have H := cdF h21 H
      refine tSkip ?_
      refine nT (?_)
      refine Tr.seq ?_
      refine Tr.seq ?_
      refine Tr.freeze (.cons Del.here.there.there.there.there.there.there.there.there.there.there.there .nil) ?_
      refine Tr.region ?_
      refine Rg.q (v := .int .i64 (0)) (Pu.qo (p_assign rfl)) (by decide) ?_
      refine Rg.nl ?_
      refine nT (?_)
      obtain ⟨x27, hx28, H⟩ := bd.of H
      obtain ⟨n29, hx28⟩ := lp.of hx28
      refine tMidNC (ι := { q : (Unit) × Unit // x27 = .inl q.1 }) (fun ψ => []) (fun ψ => []) ?_ ?_
      · refine Tr.block ?_
        refine tLoopC (ι := { q : Nat × (Int) × Unit // itr (p_laws_FnPartNewer_b0 r2 r11) q.1 q.2.1 = some x27 }) (fun ζ => [(4, .pointer (some ⟨g6, 0, none⟩)), (7, .pointer (some ⟨g14, 0, none⟩)), (9, .int .i64 (ζ.1.2.1))]) (fun ζ => [tree (.slice x4.2.1.1 r2.2.1.length x4.2.1.2) r2.2.1, box g6 26 [.slice x4.2.1.1 r2.2.1.length x4.2.1.2, .slice x4.2.2.1 r2.2.2.length x4.2.2.2], tree (.slice x13.1.1.1 r11.1.1.length x13.1.1.2) r11.1.1, tree (.slice x13.1.2.1 r11.1.2.length x13.1.2.2) r11.1.2, box g14 26 [.slice x13.1.1.1 r11.1.1.length x13.1.1.2, .slice x13.1.2.1 r11.1.2.length x13.1.2.2]]) (fun ζ => ζ.1.1) ⟨(n29, 0, ()), hx28⟩ ⟨rfl, rfl, rfl, trivial⟩ (.cons Del.here.there.there.there.there.there.there.there.there.there.there (.cons Del.here.there.there.there.there.there.there (.cons Del.here.there (.cons Del.here.there (.cons Del.here .nil))))) ?_
        rintro ⟨⟨m30, σ31, z32⟩, hk37⟩
        obtain ⟨m38, t34, e, H1, hi35, hb36⟩ := itr.of (n := m30) (s := σ31) hk37
        subst e; unfold p_laws_FnPartNewer_b0 at H1
        show Tr _ _ _ _ _ [(4, .pointer (some ⟨g6, 0, none⟩)), (7, .pointer (some ⟨g14, 0, none⟩)), (9, .int .i64 (σ31))] _ [tree (.slice x4.2.1.1 r2.2.1.length x4.2.1.2) r2.2.1, box g6 26 [.slice x4.2.1.1 r2.2.1.length x4.2.1.2, .slice x4.2.2.1 r2.2.2.length x4.2.2.2], tree (.slice x13.1.1.1 r11.1.1.length x13.1.1.2) r11.1.1, tree (.slice x13.1.2.1 r11.1.2.length x13.1.2.2) r11.1.2, box g14 26 [.slice x13.1.1.1 r11.1.1.length x13.1.1.2, .slice x13.1.2.1 r11.1.2.length x13.1.2.2]]
        refine Tr.seq ?_
        refine Tr.seq ?_
        refine Tr.region ?_
        refine Rg.q (v := .int .i64 (σ31)) (Pu.qo (p_move rfl)) (by decide) ?_
        refine Rg.q (v := .pointer (some ⟨g6, 0, none⟩)) (Pu.qo (p_fabE fa26_0 rfl rfl)) (by decide) ?_
        refine Rg.q (v := .slice x4.2.1.1 r2.2.1.length x4.2.1.2) (q_ldb ty23 rfl Has.here.there rfl) (by decide) ?_
        refine Rg.q (v := .int .i64 ((r2.2.1.length : Int))) (Pu.qo (p_len 3 Try.underlying23 rfl)) (by decide) ?_
        refine Rg.q (v := .bool (decide (σ31 < (r2.2.1.length : Int)))) (Pu.qo (p_lss rfl rfl)) (by decide) ?_
        refine Rg.nl ?_
        refine nT (?_)
        refine Tr.cond (b := decide (σ31 < (r2.2.1.length : Int))) rfl (fun h39 => ?_) (fun h39 => ?_)
        · have H1 := cdT h39 H1
          refine tSkip ?_
          refine nT (?_)
          refine Tr.seq ?_
          refine Tr.block ?_
          refine Tr.seq ?_
          refine tNwS [(4, .pointer (some ⟨g6, 0, none⟩)), (7, .pointer (some ⟨g14, 0, none⟩)), (9, .int .i64 (σ31))] 1 [0, 1, 2, 3, 4, 5, 6, 7] [6] [] Try.mixed (by kernel_rfl) (by decide) List.nodup_nil ⟨rfl, rfl, rfl, trivial⟩ rfl okNil ?_
          refine w_q (v := .agg #[.slice x13.1.1.1 r11.1.1.length x13.1.1.2, .slice x13.1.2.1 r11.1.2.length x13.1.2.2]) rfl (by decide) rfl rfl rfl (fun F => (q_ldbA ty26 rfl (Has.here.there.there.there.there.app F) rfl)) ?_
          refine w_pu (v := .pointer (some ⟨g6, 0, none⟩)) rfl (by decide) rfl rfl rfl (p_fabE fa26_0 rfl rfl) ?_
          refine w_q (v := .slice x4.2.1.1 r2.2.1.length x4.2.1.2) rfl (by decide) rfl rfl rfl (fun F => (q_ldb ty23 rfl (Has.here.there.app F) rfl)) ?_
          refine w_pu (v := .int .i64 (σ31)) rfl (by decide) rfl rfl rfl (p_move rfl) ?_
          obtain ⟨h40, H1⟩ := gd.of H1
          refine w_q (v := elp x4.2.1.1 (σ31.toNat * Enc.sz Int + 0)) rfl (by decide) rfl rfl rfl (fun F => (q_ixO' Try.underlying23 ty3 rfl rfl h40 (Has.here.app F))) ?_
          refine w_q (v := .int .i64 (nth r2.2.1 σ31.toNat)) rfl (by decide) rfl rfl rfl (fun F => (q_lde (l := r2.2.1) (E := fun i => Flat.enc (nth r2.2.1 i)) (oa := x4.2.1.1) (i := σ31.toNat) (j := 0) ty3 rfl (EntB.flat (EntB.tree (Has.here.app F))) h40.lt rfl)) ?_
          obtain ⟨r41, h42, H1⟩ := bd.of H1
          refine w_ed rfl (by decide) rfl Rdy.nil rfl (n_callB (vs := [.agg #[.slice x13.1.1.1 r11.1.1.length x13.1.1.2, .slice x13.1.2.1 r11.1.2.length x13.1.2.2], .int .i64 (nth r2.2.1 σ31.toNat)]) (c_impl_PartOf r11.1 x13.1 (nth r2.2.1 σ31.toNat) h42) (fun _ => (Solo.tree Solo.nil)) rfl (EntsB.cons (EntB.tree Has.here.there.there) (EntsB.cons (EntB.tree Has.here.there.there.there) EntsB.nil))) ?_
          rintro _ _ _ ⟨x43, rfl, rfl, rfl⟩
          refine ⟨(PdOk.anc (by kernel_rfl) (PdOk.q rfl rfl (fun F => (q_ixO' Try.underlying23 ty3 rfl rfl h40 (Has.here.there.app F))) (PdOk.q rfl rfl (fun F => (q_ldb ty23 rfl (Has.here.there.there.app F) rfl)) (PdOk.anc (by kernel_rfl) PdOk.nil)))), ?_⟩
          refine w_pu (v := .slice x43.1 r41.length x43.2) rfl (by decide) rfl rfl rfl (p_assign rfl) ?_
          refine w_nil ?_
          show At _ _ _ _ _ _
          refine nT (?_)
          refine Tr.seq ?_
          refine Tr.region ?_
          refine Rg.q (v := .int .i64 (0)) (Pu.qo (p_assign rfl)) (by decide) ?_
          refine Rg.nl ?_
          refine nT (?_)
          obtain ⟨x44, hx45, H1⟩ := bd.of H1
          obtain ⟨n46, hx45⟩ := lp.of hx45
          refine tMidNC (ι := { q : (Unit) × Unit // x44 = .inl q.1 }) (fun ψ => [(4, .pointer (some ⟨g6, 0, none⟩)), (7, .pointer (some ⟨g14, 0, none⟩)), (9, .int .i64 (σ31))]) (fun ψ => [tree (.slice x4.2.1.1 r2.2.1.length x4.2.1.2) r2.2.1, box g6 26 [.slice x4.2.1.1 r2.2.1.length x4.2.1.2, .slice x4.2.2.1 r2.2.2.length x4.2.2.2], tree (.slice x13.1.1.1 r11.1.1.length x13.1.1.2) r11.1.1, tree (.slice x13.1.2.1 r11.1.2.length x13.1.2.2) r11.1.2, box g14 26 [.slice x13.1.1.1 r11.1.1.length x13.1.1.2, .slice x13.1.2.1 r11.1.2.length x13.1.2.2]]) ?_ ?_
          · refine Tr.block ?_
            refine tLoopC (ι := { q : Nat × (Int) × Unit // itr (p_laws_FnPartNewer_b1 r2 σ31 r41) q.1 q.2.1 = some x44 }) (fun ζ => [(4, .pointer (some ⟨g6, 0, none⟩)), (7, .pointer (some ⟨g14, 0, none⟩)), (9, .int .i64 (σ31)), (10, .slice x43.1 r41.length x43.2), (11, .int .i64 (ζ.1.2.1))]) (fun ζ => [tree (.slice x4.2.1.1 r2.2.1.length x4.2.1.2) r2.2.1, box g6 26 [.slice x4.2.1.1 r2.2.1.length x4.2.1.2, .slice x4.2.2.1 r2.2.2.length x4.2.2.2], tree (.slice x13.1.1.1 r11.1.1.length x13.1.1.2) r11.1.1, tree (.slice x13.1.2.1 r11.1.2.length x13.1.2.2) r11.1.2, box g14 26 [.slice x13.1.1.1 r11.1.1.length x13.1.1.2, .slice x13.1.2.1 r11.1.2.length x13.1.2.2], tree (.slice x43.1 r41.length x43.2) r41]) (fun ζ => ζ.1.1) ⟨(n46, 0, ()), hx45⟩ ⟨rfl, rfl, rfl, rfl, rfl, trivial⟩ (.cons Del.here.there (.cons Del.here.there (.cons Del.here.there (.cons Del.here.there (.cons Del.here.there (.cons Del.here .nil)))))) ?_
            rintro ⟨⟨m47, σ48, z49⟩, hk54⟩
            obtain ⟨m55, t51, e, H2, hi52, hb53⟩ := itr.of (n := m47) (s := σ48) hk54
            subst e; unfold p_laws_FnPartNewer_b1 at H2
            show Tr _ _ _ _ _ [(4, .pointer (some ⟨g6, 0, none⟩)), (7, .pointer (some ⟨g14, 0, none⟩)), (9, .int .i64 (σ31)), (10, .slice x43.1 r41.length x43.2), (11, .int .i64 (σ48))] _ [tree (.slice x4.2.1.1 r2.2.1.length x4.2.1.2) r2.2.1, box g6 26 [.slice x4.2.1.1 r2.2.1.length x4.2.1.2, .slice x4.2.2.1 r2.2.2.length x4.2.2.2], tree (.slice x13.1.1.1 r11.1.1.length x13.1.1.2) r11.1.1, tree (.slice x13.1.2.1 r11.1.2.length x13.1.2.2) r11.1.2, box g14 26 [.slice x13.1.1.1 r11.1.1.length x13.1.1.2, .slice x13.1.2.1 r11.1.2.length x13.1.2.2], tree (.slice x43.1 r41.length x43.2) r41]
            refine Tr.seq ?_
            refine Tr.seq ?_
            refine Tr.openD Ent.z fun X56 => ?_
            refine Tr.region ?_
            refine Rg.q (v := .int .i64 (σ48)) (Pu.qo (p_move rfl)) (by decide) ?_
            refine Rg.q (v := .pointer (some ⟨g6, 1, none⟩)) (Pu.qo (p_fabE fa26_1 rfl rfl)) (by decide) ?_
            refine Rg.q (v := .slice x4.2.2.1 r2.2.2.length x4.2.2.2) (q_ldb ty24 rfl Has.here.there rfl) (by decide) ?_
            refine Rg.q (v := .int .i64 (σ31)) (Pu.qo (p_move rfl)) (by decide) ?_
            obtain ⟨h57, H2⟩ := gd.of H2
            refine Rg.q (v := elp x4.2.2.1 (σ31.toNat * Enc.sz (List Row) + 0)) (q_ixg (l := r2.2.2) (E := fun i => Dp.denc (nth r2.2.2 i) (X56 i)) (oa := x4.2.2.1) Try.underlying24 ty36 rfl rfl h57 rfl (Ent.b (Ent.darr Ent.z))) (by decide) ?_
            refine Rg.q (v := .slice ((X56 σ31.toNat).1) ((nth r2.2.2 σ31.toNat).length) ((X56 σ31.toNat).2.1)) (q_lde (l := r2.2.2) (E := fun i => Dp.denc (nth r2.2.2 i) (X56 i)) (oa := x4.2.2.1) (i := σ31.toNat) (j := 0) ty36 rfl (Ent.b (Ent.darr Ent.z)) h57.lt rfl) (by decide) ?_
            refine Rg.q (v := .int .i64 (((nth r2.2.2 σ31.toNat).length : Int))) (Pu.qo (p_len 46 Try.underlying36 rfl)) (by decide) ?_
            refine Rg.q (v := .bool (decide (σ48 < ((nth r2.2.2 σ31.toNat).length : Int)))) (Pu.qo (p_lss rfl rfl)) (by decide) ?_
            refine Rg.nl ?_
            refine nT (?_)
            refine Tr.cond (b := decide (σ48 < ((nth r2.2.2 σ31.toNat).length : Int))) rfl (fun h58 => ?_) (fun h58 => ?_)
            · have H2 := cdT h58 H2
              refine tSkip ?_
              refine nT (?_)
              refine Tr.seq ?_
              refine Tr.block ?_
              refine Tr.seq ?_
              refine Tr.region ?_
              refine Rg.q (v := .slice x43.1 r41.length x43.2) (Pu.qo (p_move rfl)) (by decide) ?_
              refine Rg.q (v := .pointer (some ⟨g6, 1, none⟩)) (Pu.qo (p_fabE fa26_1 rfl rfl)) (by decide) ?_
              refine Rg.q (v := .slice x4.2.2.1 r2.2.2.length x4.2.2.2) (q_ldb ty24 rfl Has.here.there rfl) (by decide) ?_
              refine Rg.q (v := .int .i64 (σ31)) (Pu.qo (p_move rfl)) (by decide) ?_
              refine Rg.q (v := elp x4.2.2.1 (σ31.toNat * Enc.sz (List Row) + 0)) (q_ixg (l := r2.2.2) (E := fun i => Dp.denc (nth r2.2.2 i) (X56 i)) (oa := x4.2.2.1) Try.underlying24 ty36 rfl rfl h57 rfl (Ent.b (Ent.darr Ent.z))) (by decide) ?_
              refine Rg.q (v := .slice ((X56 σ31.toNat).1) ((nth r2.2.2 σ31.toNat).length) ((X56 σ31.toNat).2.1)) (q_lde (l := r2.2.2) (E := fun i => Dp.denc (nth r2.2.2 i) (X56 i)) (oa := x4.2.2.1) (i := σ31.toNat) (j := 0) ty36 rfl (Ent.b (Ent.darr Ent.z)) h57.lt rfl) (by decide) ?_
              refine Rg.q (v := .int .i64 (σ48)) (Pu.qo (p_move rfl)) (by decide) ?_
              obtain ⟨h59, H2⟩ := gd.of H2
              refine Rg.q (v := elp ((X56 σ31.toNat).1) (σ48.toNat * Enc.sz Row + 0)) (q_ixg (l := nth r2.2.2 σ31.toNat) (E := fun i => Flat.enc (nth (nth r2.2.2 σ31.toNat) i)) (oa := (X56 σ31.toNat).1) Try.underlying36 ty46 rfl rfl h59 rfl (EntB.flat (Ent.b (Ent.dimm (Ent.del Ent.z h57.lt))))) (by decide) ?_
              refine Rg.q (v := elp ((X56 σ31.toNat).1) (σ48.toNat * Enc.sz Row + 0)) (q_faeE (l := nth r2.2.2 σ31.toNat) (E := fun i => Flat.enc (nth (nth r2.2.2 σ31.toNat) i)) (oa := (X56 σ31.toNat).1) (j := 0) σ48.toNat fa46_0 rfl (EntB.flat (Ent.b (Ent.dimm (Ent.del Ent.z h57.lt)))) h59.lt rfl) (by decide) ?_
              refine Rg.q (v := .int .i64 ((nth (nth r2.2.2 σ31.toNat) σ48.toNat).1)) (q_lde (l := nth r2.2.2 σ31.toNat) (E := fun i => Flat.enc (nth (nth r2.2.2 σ31.toNat) i)) (oa := (X56 σ31.toNat).1) (i := σ48.toNat) (j := 0) ty3 rfl (EntB.flat (Ent.b (Ent.dimm (Ent.del Ent.z h57.lt)))) h59.lt rfl) (by decide) ?_
              obtain ⟨r60, h61, H2⟩ := bd.of H2
              refine Rg.q (v := .tuple #[.int .i64 (r60.1), .bool (r60.2)]) (q_call (vs := [.slice x43.1 r41.length x43.2, .int .i64 ((nth (nth r2.2.2 σ31.toNat) σ48.toNat).1)]) (c_laws_lyAt r41 x43 ((nth (nth r2.2.2 σ31.toNat) σ48.toNat).1) h61) rfl (EntsB.cons (EntB.tree Has.here.there.there.there.there.there) EntsB.nil)) (by decide) ?_
              refine Rg.q (v := .tuple #[.int .i64 (r60.1), .bool (r60.2)]) (Pu.qo (p_move rfl)) (by decide) ?_
              refine Rg.q (v := .int .i64 (r60.1)) (Pu.qo (p_extract rfl rfl)) (by decide) ?_
              refine Rg.q (v := .bool (r60.2)) (Pu.qo (p_extract rfl rfl)) (by decide) ?_
              refine Rg.q (v := .int .i64 (r60.1)) (Pu.qo (p_assign rfl)) (by decide) ?_
              refine Rg.q (v := .bool (r60.2)) (Pu.qo (p_assign rfl)) (by decide) ?_
              refine Rg.nl ?_
              refine nT (?_)
              obtain ⟨b62, j63, H2⟩ := bd.of H2
              refine tMid1 [(107, .bool (b62)), (4, .pointer (some ⟨g6, 0, none⟩)), (7, .pointer (some ⟨g14, 0, none⟩)), (9, .int .i64 (σ31)), (10, .slice x43.1 r41.length x43.2), (11, .int .i64 (σ48))] ?_ ?_
              · refine tLinT [(13, .bool (r60.2)), (12, .int .i64 (r60.1)), (4, .pointer (some ⟨g6, 0, none⟩)), (7, .pointer (some ⟨g14, 0, none⟩)), (9, .int .i64 (σ31)), (10, .slice x43.1 r41.length x43.2), (11, .int .i64 (σ48))] ⟨rfl, rfl, rfl, rfl, rfl, rfl, rfl, trivial⟩ ?_
                refine Lin.q (v := .bool (r60.2)) (by decide) (Pu.qo (p_move rfl)) ?_
                refine Lin.q (v := .bool (!r60.2)) (by decide) (Pu.qo (p_not rfl)) ?_
                rcases Bool.eq_false_or_eq_true (!r60.2) with h64 | h64
                · have j63 := cdT h64 j63
                  refine Lin.q (v := .bool (true)) (by decide) (Qo.eqv (v := .bool (!r60.2)) (Pu.qo (p_move rfl)) (congrArg Value.bool h64)) ?_
                  refine Lin.skip (by decide) rfl ?_
                  refine Lin.skip (by decide) rfl ?_
                  refine Lin.skip (by decide) rfl ?_
                  refine Lin.skip (by decide) rfl ?_
                  refine Lin.skip (by decide) rfl ?_
                  refine Lin.skip (by decide) rfl ?_
                  refine Lin.skip (by decide) rfl ?_
                  refine Lin.skip (by decide) rfl ?_
                  refine Lin.skip (by decide) rfl ?_
                  refine Lin.skip (by decide) rfl ?_
                  refine Lin.skip (by decide) rfl ?_
                  refine Lin.q (v := .bool (true)) (by decide) (Pu.qo (p_pickT rfl rfl)) ?_
                  have j63 := Option.some.inj j63; subst j63
                  show At _ _ _ _ _ _
                  exact n1 ⟨rfl, rfl, rfl, rfl, rfl, rfl, trivial⟩
                · have j63 := cdF h64 j63
                  refine Lin.q (v := .bool (false)) (by decide) (Qo.eqv (v := .bool (!r60.2)) (Pu.qo (p_move rfl)) (congrArg Value.bool h64)) ?_
                  refine Lin.g (v := .int .i64 (r60.1)) (by decide) rfl (Pu.qo (p_move rfl)) ?_
                  refine Lin.g (v := .pointer (some ⟨g6, 1, none⟩)) (by decide) rfl (Pu.qo (p_fabE fa26_1 rfl rfl)) ?_
                  refine Lin.g (v := .slice x4.2.2.1 r2.2.2.length x4.2.2.2) (by decide) rfl (q_ldb ty24 rfl Has.here.there rfl) ?_
                  refine Lin.g (v := .int .i64 (σ31)) (by decide) rfl (Pu.qo (p_move rfl)) ?_
                  refine Lin.g (v := elp x4.2.2.1 (σ31.toNat * Enc.sz (List Row) + 0)) (by decide) rfl (q_ixg (l := r2.2.2) (E := fun i => Dp.denc (nth r2.2.2 i) (X56 i)) (oa := x4.2.2.1) Try.underlying24 ty36 rfl rfl h57 rfl (Ent.b (Ent.darr Ent.z))) ?_
                  refine Lin.g (v := .slice ((X56 σ31.toNat).1) ((nth r2.2.2 σ31.toNat).length) ((X56 σ31.toNat).2.1)) (by decide) rfl (q_lde (l := r2.2.2) (E := fun i => Dp.denc (nth r2.2.2 i) (X56 i)) (oa := x4.2.2.1) (i := σ31.toNat) (j := 0) ty36 rfl (Ent.b (Ent.darr Ent.z)) h57.lt rfl) ?_
                  refine Lin.g (v := .int .i64 (σ48)) (by decide) rfl (Pu.qo (p_move rfl)) ?_
                  refine Lin.g (v := elp ((X56 σ31.toNat).1) (σ48.toNat * Enc.sz Row + 0)) (by decide) rfl (q_ixg (l := nth r2.2.2 σ31.toNat) (E := fun i => Flat.enc (nth (nth r2.2.2 σ31.toNat) i)) (oa := (X56 σ31.toNat).1) Try.underlying36 ty46 rfl rfl h59 rfl (EntB.flat (Ent.b (Ent.dimm (Ent.del Ent.z h57.lt))))) ?_
                  refine Lin.g (v := elp ((X56 σ31.toNat).1) (σ48.toNat * Enc.sz Row + 1)) (by decide) rfl (q_faeE (l := nth r2.2.2 σ31.toNat) (E := fun i => Flat.enc (nth (nth r2.2.2 σ31.toNat) i)) (oa := (X56 σ31.toNat).1) (j := 0) σ48.toNat fa46_1 rfl (EntB.flat (Ent.b (Ent.dimm (Ent.del Ent.z h57.lt)))) h59.lt rfl) ?_
                  refine Lin.g (v := .int .i64 ((nth (nth r2.2.2 σ31.toNat) σ48.toNat).2)) (by decide) rfl (q_lde (l := nth r2.2.2 σ31.toNat) (E := fun i => Flat.enc (nth (nth r2.2.2 σ31.toNat) i)) (oa := (X56 σ31.toNat).1) (i := σ48.toNat) (j := 1) ty3 rfl (EntB.flat (Ent.b (Ent.dimm (Ent.del Ent.z h57.lt)))) h59.lt rfl) ?_
                  refine Lin.g (v := .bool (!decide (r60.1 = ((nth (nth r2.2.2 σ31.toNat) σ48.toNat).2)))) (by decide) rfl (Pu.qo (p_neq rfl rfl)) ?_
                  refine Lin.q (v := .bool (!decide (r60.1 = ((nth (nth r2.2.2 σ31.toNat) σ48.toNat).2)))) (by decide) (Pu.qo (p_pickF rfl rfl)) ?_
                  have j63 := Option.some.inj j63; subst j63
                  show At _ _ _ _ _ _
                  exact n1 ⟨rfl, rfl, rfl, rfl, rfl, rfl, trivial⟩
              refine Tr.cond (b := b62) rfl (fun h65 => ?_) (fun h65 => ?_)
              · have H2 := cdT h65 H2
                refine Tr.seq ?_
                refine Tr.region ?_
                refine Rg.q (v := .bool (false)) (Pu.qo (p_assign rfl)) (by decide) ?_
                refine Rg.nl ?_
                refine nT (?_)
                refine tRet ?_
                refine rB (rT (rT (rB (rT (rB (rT (rT (rB (rT (rT (?_)))))))))))
                have hx := hb53 _ (Option.some.inj H2).symm; subst hx
                replace H1 := sw.r H1
                have hx := hb36 _ (Option.some.inj H1).symm; subst hx
                replace H := sw.r H
                have hr := Option.some.inj H; subst hr
                exact back1 () rfl (ResV.tmp (v := .bool (false)) rfl) rfl Ents.nil Take.nil
              · have H2 := cdF h65 H2
                refine tSkip ?_
                refine nB (nT (?_))
                refine Tr.region ?_
                refine Rg.q (v := .int .i64 (σ48)) (Pu.qo (p_move rfl)) (by decide) ?_
                obtain ⟨h66, H2⟩ := gd.of H2
                refine Rg.q (v := .int .i64 (σ48 + 1)) (Pu.qo (p_add rfl rfl h66)) (by decide) ?_
                refine Rg.q (v := .int .i64 (σ48 + 1)) (Pu.qo (p_assign rfl)) (by decide) ?_
                refine Rg.nl ?_
                exact nLC ⟨(m55, σ48 + 1, ()), hi52 _ (Option.some.inj H2).symm⟩ (Nat.lt_succ_self _) ⟨rfl, rfl, rfl, rfl, rfl, trivial⟩ Ents.refl.s (.cons Del.here (.cons Del.here (.cons Del.here (.cons Del.here (.cons Del.here (.cons Del.here .nil))))))
            · have H2 := cdF h58 H2
              refine tExit (xT (xT (xE (?_))))
              exact nMC ⟨((), ()), (hb53 _ (Option.some.inj H2).symm).symm⟩ ⟨rfl, rfl, rfl, trivial⟩ Ents.refl.s (.cons Del.here (.cons Del.here (.cons Del.here (.cons Del.here (.cons Del.here .nil)))))
          · rintro ⟨⟨e67, y50⟩, hx⟩; subst hx; replace H1 := sw.l H1
            show At _ _ [(4, .pointer (some ⟨g6, 0, none⟩)), (7, .pointer (some ⟨g14, 0, none⟩)), (9, .int .i64 (σ31))] _ [tree (.slice x4.2.1.1 r2.2.1.length x4.2.1.2) r2.2.1, box g6 26 [.slice x4.2.1.1 r2.2.1.length x4.2.1.2, .slice x4.2.2.1 r2.2.2.length x4.2.2.2], tree (.slice x13.1.1.1 r11.1.1.length x13.1.1.2) r11.1.1, tree (.slice x13.1.2.1 r11.1.2.length x13.1.2.2) r11.1.2, box g14 26 [.slice x13.1.1.1 r11.1.1.length x13.1.1.2, .slice x13.1.2.1 r11.1.2.length x13.1.2.2]] _
            refine nB (nT (?_))
            refine Tr.region ?_
            refine Rg.q (v := .int .i64 (σ31)) (Pu.qo (p_move rfl)) (by decide) ?_
            obtain ⟨h68, H1⟩ := gd.of H1
            refine Rg.q (v := .int .i64 (σ31 + 1)) (Pu.qo (p_add rfl rfl h68)) (by decide) ?_
            refine Rg.q (v := .int .i64 (σ31 + 1)) (Pu.qo (p_assign rfl)) (by decide) ?_
            refine Rg.nl ?_
            exact nLC ⟨(m38, σ31 + 1, ()), hi35 _ (Option.some.inj H1).symm⟩ (Nat.lt_succ_self _) ⟨rfl, rfl, rfl, trivial⟩ Ents.refl (.cons Del.here (.cons Del.here (.cons Del.here (.cons Del.here (.cons Del.here .nil)))))
        · have H1 := cdF h39 H1
          refine tExit (xT (xT (xE (?_))))
          exact nMC ⟨((), ()), (hb36 _ (Option.some.inj H1).symm).symm⟩ trivial Ents.refl Take.nil
      · rintro ⟨⟨e69, y33⟩, hx⟩; subst hx; replace H := sw.l H
        show At _ _ [] _ [] _
        refine nT (?_)
        refine Tr.seq ?_
        refine Tr.region ?_
        refine Rg.q (v := .bool (true)) (Pu.qo (p_assign rfl)) (by decide) ?_
        refine Rg.nl ?_
        refine nT (?_)
        refine tRet ?_
        have hr := Option.some.inj H; subst hr
        exact back1 () rfl (ResV.tmp (v := .bool (true)) rfl) rfl Ents.nil Take.nil
def inn (lo n hi : Int) : Bool := decide (lo ≤ n) && decide (n ≤ hi)
theorem e_impl_within (n lo hi : Int) : p_impl_within n lo hi = some (inn lo n hi) := by
  unfold p_impl_within inn; cases decide (lo ≤ n) <;> rfl
theorem e_spec_l6In (n lo hi : Int) : p_spec_l6In n lo hi = some (inn lo n hi) := by
  unfold p_spec_l6In inn; cases decide (lo ≤ n) <;> rfl
def rowOk (r : Row) : Bool := inn 0 r.1 99 && inn (-99) r.2 99
theorem e_impl_rowOk (r : Row) : p_impl_rowOk r = some (rowOk r) := by
  unfold p_impl_rowOk rowOk; simp only [e_impl_within, bd_some]; cases inn 0 r.1 99 <;> rfl
theorem e_spec_l2Row (r : Row) : p_spec_l2Row r = some (rowOk r) := by
  unfold p_spec_l2Row rowOk; simp only [e_spec_l6In, bd_some]; cases inn 0 r.1 99 <;> rfl
def rowBad (b : List Row) (k : Nat) : Bool := !rowOk (nth b k) || (decide (0 < k) && decide ((nth b k).1 ≤ (nth b (k - 1)).1))
def blockOk (b : List Row) : Bool := allN b.length (rowBad b) && decide ((b.length : Int) ≤ 24)
theorem e_impl_BlockOk (b : List Row) (hb : b.length ≤ maxLen) : p_impl_BlockOk b = some (blockOk b) := by
  have hb' : b.length ≤ 9223372036854775807 := hb
  have hr : ∀ k, k < b.length → p_impl_BlockOk_b0 b (k : Int) = some (if rowBad b k then .inr (.inr false) else .inl ((k + 1 : Nat) : Int)) := fun k hk => by
    unfold p_impl_BlockOk_b0 rowBad
    simp only [dlt hk, cond_true, gd.yes (ixN hk), e_impl_rowOk, bd_some, Int.toNat_natCast, gd.yes (i64S hk hb')]
    cases h1 : rowOk (nth b k) with
    | false => simp
    | true =>
      simp only [Bool.not_true, cond_false, Bool.false_or]
      by_cases h0 : 0 < k
      · have h0' : (0 : Int) < k := by omega
        have e1 : (k : Int) - 1 = ((k - 1 : Nat) : Int) := by omega
        have hi : I64 ((k - 1 : Nat) : Int) := by unfold I64; omega
        simp only [h0, h0', decide_true, cond_true, e1, gd.yes hi, gd.yes (ixN (show k - 1 < b.length by omega)), Int.toNat_natCast, bd_some, Bool.true_and]
        cases decide ((nth b k).1 ≤ (nth b (k - 1)).1) <;> simp
      · have h0' : ¬ (0 : Int) < k := by omega
        simp [h0]
  unfold p_impl_BlockOk blockOk
  rcases lp_scan (body := p_impl_BlockOk_b0 b) (fun k => (k : Int)) b.length (rowBad b) (.inl ()) (fun _ => .inr false) (fun k hk _ h => by simp [hr k hk, h]) (fun k hk _ h => by simp [hr k hk, h]) (fun _ => by unfold p_impl_BlockOk_b0; simp) with ⟨h1, h2⟩ | ⟨h1, k, _, _, _, h2⟩
  · rw [show (lp (p_impl_BlockOk_b0 b) 0) = _ from h2, h1]; simp [sw]
  · rw [show (lp (p_impl_BlockOk_b0 b) 0) = _ from h2, h1]; simp [sw]
theorem e_spec_BlockOk (b : List Row) (hb : b.length ≤ maxLen) : p_spec_BlockOk b = some (blockOk b) := by
  have hb' : b.length ≤ 9223372036854775807 := hb
  have hr : ∀ k, k < b.length → p_spec_BlockOk_b0 b (k : Int) = some (if rowBad b k then .inr (.inr false) else .inl ((k + 1 : Nat) : Int)) := fun k hk => by
    unfold p_spec_BlockOk_b0 rowBad
    simp only [dlt hk, cond_true, gd.yes (ixN hk), e_spec_l2Row, bd_some, Int.toNat_natCast, gd.yes (i64S hk hb')]
    cases h1 : rowOk (nth b k) with
    | false => simp
    | true =>
      simp only [Bool.not_true, cond_false, Bool.false_or]
      by_cases h0 : 0 < k
      · have h0' : (0 : Int) < k := by omega
        have e1 : (k : Int) - 1 = ((k - 1 : Nat) : Int) := by omega
        have hi : I64 ((k - 1 : Nat) : Int) := by unfold I64; omega
        simp only [h0, h0', decide_true, cond_true, e1, gd.yes hi, gd.yes (ixN (show k - 1 < b.length by omega)), Int.toNat_natCast, bd_some, Bool.true_and]
        cases decide ((nth b k).1 ≤ (nth b (k - 1)).1) <;> simp
      · simp [h0]
  unfold p_spec_BlockOk blockOk
  rcases lp_scan (body := p_spec_BlockOk_b0 b) (fun k => (k : Int)) b.length (rowBad b) (.inl ()) (fun _ => .inr false) (fun k hk _ h => by simp [hr k hk, h]) (fun k hk _ h => by simp [hr k hk, h]) (fun _ => by unfold p_spec_BlockOk_b0; simp) with ⟨h1, h2⟩ | ⟨h1, k, _, _, _, h2⟩
  · rw [show (lp (p_spec_BlockOk_b0 b) 0) = _ from h2, h1]; simp [sw]
  · rw [show (lp (p_spec_BlockOk_b0 b) 0) = _ from h2, h1]; simp [sw]
def partBad (p : Part) (k : Nat) : Bool := ((!inn 1 (nth p.1 k) 6 || (decide (0 < k) && decide (nth p.1 k ≤ nth p.1 (k - 1)))) || !blockOk (nth p.2 k)) || decide ((nth p.2 k).length = 0)
def partOk (p : Part) : Bool := decide (p.1.length = p.2.length) && allN p.1.length (partBad p)
theorem e_impl_PartOk (p : Part) (hp : Dp.ok p) : p_impl_PartOk p = some (partOk p) := by
  obtain ⟨⟨hp1, _⟩, _, hp2⟩ := hp
  have hp1 : p.1.length ≤ 9223372036854775807 := hp1
  unfold p_impl_PartOk partOk
  by_cases hl : p.1.length = p.2.length
  · have hr : ∀ k, k < p.1.length → p_impl_PartOk_b0 p (k : Int) = some (if partBad p k then .inr (.inr false) else .inl ((k + 1 : Nat) : Int)) := fun k hk => by
      have hk2 : k < p.2.length := by omega
      unfold p_impl_PartOk_b0 partBad
      simp only [dlt hk, cond_true, gd.yes (ixN hk), gd.yes (ixN hk2), e_impl_within, e_impl_BlockOk _ (hp2 k hk2).1, bd_some, Int.toNat_natCast, gd.yes (i64S hk hp1)]
      cases h1 : inn 1 (nth p.1 k) 6 with
      | false => simp
      | true =>
        by_cases h0 : 0 < k
        · have h0' : (0 : Int) < k := by omega
          have e1 : (k : Int) - 1 = ((k - 1 : Nat) : Int) := by omega
          have hi : I64 ((k - 1 : Nat) : Int) := by unfold I64; omega
          simp only [h0, h0', decide_true, cond_true, e1, gd.yes hi, gd.yes (ixN (show k - 1 < p.1.length by omega)), Int.toNat_natCast, bd_some, Bool.true_and, Bool.not_true, cond_false, Bool.false_or]
          cases decide (nth p.1 k ≤ nth p.1 (k - 1)) <;> cases blockOk (nth p.2 k) <;> cases h9 : decide ((nth p.2 k).length = 0) <;> simp_all
        · simp only [h0, Bool.not_true, cond_false, Bool.false_or, decide_false, Bool.false_and]
          cases blockOk (nth p.2 k) <;> cases h9 : decide ((nth p.2 k).length = 0) <;> simp_all
    rcases lp_scan (body := p_impl_PartOk_b0 p) (fun k => (k : Int)) p.1.length (partBad p) (.inl ()) (fun _ => .inr false) (fun k hk _ h => by simp [hr k hk, h]) (fun k hk _ h => by simp [hr k hk, h]) (fun _ => by unfold p_impl_PartOk_b0; simp) with ⟨h1, h2⟩ | ⟨h1, k, _, _, _, h2⟩
    · rw [show (lp (p_impl_PartOk_b0 p) 0) = _ from h2, h1]; simp [sw, hl]
    · rw [show (lp (p_impl_PartOk_b0 p) 0) = _ from h2, h1]; simp [sw, hl]
  · have : ¬ (p.1.length : Int) = (p.2.length : Int) := by omega
    simp [this, hl]
theorem e_spec_PartOk (p : Part) (hp : Dp.ok p) : p_spec_PartOk p = some (partOk p) := by
  obtain ⟨⟨hp1, _⟩, _, hp2⟩ := hp
  have hp1 : p.1.length ≤ 9223372036854775807 := hp1
  unfold p_spec_PartOk partOk
  by_cases hl : p.1.length = p.2.length
  · have hr : ∀ k, k < p.1.length → p_spec_PartOk_b0 p (k : Int) = some (if partBad p k then .inr (.inr false) else .inl ((k + 1 : Nat) : Int)) := fun k hk => by
      have hk2 : k < p.2.length := by omega
      unfold p_spec_PartOk_b0 partBad
      simp only [dlt hk, cond_true, gd.yes (ixN hk), gd.yes (ixN hk2), e_spec_l6In, e_spec_BlockOk _ (hp2 k hk2).1, bd_some, Int.toNat_natCast, gd.yes (i64S hk hp1)]
      cases h1 : inn 1 (nth p.1 k) 6 with
      | false => simp
      | true =>
        by_cases h0 : 0 < k
        · have h0' : (0 : Int) < k := by omega
          have e1 : (k : Int) - 1 = ((k - 1 : Nat) : Int) := by omega
          have hi : I64 ((k - 1 : Nat) : Int) := by unfold I64; omega
          simp only [h0, h0', decide_true, cond_true, e1, gd.yes hi, gd.yes (ixN (show k - 1 < p.1.length by omega)), Int.toNat_natCast, bd_some, Bool.true_and, Bool.not_true, cond_false, Bool.false_or]
          cases decide (nth p.1 k ≤ nth p.1 (k - 1)) <;> cases blockOk (nth p.2 k) <;> cases h9 : decide ((nth p.2 k).length = 0) <;> simp_all
        · simp only [h0, Bool.not_true, cond_false, Bool.false_or, decide_false, Bool.false_and]
          cases blockOk (nth p.2 k) <;> cases h9 : decide ((nth p.2 k).length = 0) <;> simp_all
    rcases lp_scan (body := p_spec_PartOk_b0 p) (fun k => (k : Int)) p.1.length (partBad p) (.inl ()) (fun _ => .inr false) (fun k hk _ h => by simp [hr k hk, h]) (fun k hk _ h => by simp [hr k hk, h]) (fun _ => by unfold p_spec_PartOk_b0; simp) with ⟨h1, h2⟩ | ⟨h1, k, _, _, _, h2⟩
    · rw [show (lp (p_spec_PartOk_b0 p) 0) = _ from h2, h1]; simp [sw, hl]
    · rw [show (lp (p_spec_PartOk_b0 p) 0) = _ from h2, h1]; simp [sw, hl]
  · have : ¬ (p.1.length : Int) = (p.2.length : Int) := by omega
    simp [this, hl]
/-- the first place of id, or -1 -/
def place (l : List Int) (id : Int) : Int := match (List.range l.length).find? (fun i => decide (nth l i = id)) with | some i => i | none => -1
theorem place_no {l : List Int} {id : Int} (h : allN l.length (fun i => decide (nth l i = id)) = true) : place l id = -1 := by
  unfold place
  rw [List.find?_eq_none.2]
  intro i hi
  have := allN_iff.1 h i (by simpa using hi)
  simpa using this
theorem place_yes {l : List Int} {id : Int} {k : Nat} (hk : k < l.length) (h : decide (nth l k = id) = true) (h2 : ∀ i, i < k → decide (nth l i = id) = false) : place l id = k := by
  unfold place
  have : (List.range l.length).find? (fun i => decide (nth l i = id)) = some k := by
    rw [List.find?_range_eq_some]
    exact ⟨h, by simpa using hk, fun i hi => by simpa using h2 i hi⟩
  rw [this]
theorem e_Index (l : List Int) (id : Int) (ok : l.length ≤ 9223372036854775807) : p_slices_Index_int_int l id = some (place l id) := by
  unfold p_slices_Index_int_int
  rcases lp_scan (body := p_slices_Index_int_int_b0 l id) (fun k => (k : Int)) l.length (fun i => decide (nth l i = id)) (.inl ()) (fun k => .inr (k : Int)) (fun k hk _ h => by
      have h' : ¬ id = nth l k := fun e => by simp [e] at h
      unfold p_slices_Index_int_int_b0; simp [hk, gd.yes (ixN hk), h', gd.yes (i64S hk ok)]) (fun k hk _ h => by
      have h' : id = nth l k := by simp at h; exact h.symm
      unfold p_slices_Index_int_int_b0; simp [hk, gd.yes (ixN hk), h']) (fun _ => by unfold p_slices_Index_int_int_b0; simp) with ⟨h1, h2⟩ | ⟨h1, k, hk, hb, hn, h2⟩
  · rw [show (lp (p_slices_Index_int_int_b0 l id) 0) = _ from h2, place_no h1]; rfl
  · rw [show (lp (p_slices_Index_int_int_b0 l id) 0) = _ from h2, place_yes hk hb hn]; rfl
theorem place_lt {l : List Int} {id : Int} : place l id < 0 ∨ ∃ k, k < l.length ∧ place l id = (k : Int) := by
  cases ha : allN l.length (fun i => decide (nth l i = id)) with
  | true => exact .inl (by rw [place_no ha]; decide)
  | false =>
    obtain ⟨k, hk, h1, h2⟩ := first_bad ha
    exact .inr ⟨k, hk, place_yes hk h1 h2⟩
/-- the rows of series id -/
def rowsOf (p : Part) (id : Int) : List Row := if place p.1 id < 0 then [] else nth p.2 (place p.1 id).toNat
theorem partOk_len' {p : Part} (h : partOk p = true) : p.1.length = p.2.length := by
  unfold partOk at h; simp at h; exact h.1
theorem e_l12Of (p : Part) (id : Int) (ok : Dp.ok p) (hl : p.1.length = p.2.length) : p_spec_l12Of p id = some (rowsOf p id) := by
  have hm : p.1.length ≤ 9223372036854775807 := ok.1.1
  unfold p_spec_l12Of rowsOf
  rcases lp_scan (body := p_spec_l12Of_b0 p id) (fun k => (k : Int)) p.1.length (fun i => decide (nth p.1 i = id)) (.inl ()) (fun k => .inr (nth p.2 k)) (fun k hk _ h => by
      have h' : ¬ nth p.1 k = id := by simpa using h
      unfold p_spec_l12Of_b0; simp [hk, gd.yes (ixN hk), h', gd.yes (i64S hk hm)]) (fun k hk _ h => by
      have h' : nth p.1 k = id := by simpa using h
      have hk2 : k < p.2.length := by omega
      unfold p_spec_l12Of_b0; simp [hk, gd.yes (ixN hk), h', gd.yes (ixN hk2)]) (fun _ => by unfold p_spec_l12Of_b0; simp) with ⟨h1, h2⟩ | ⟨h1, k, hk, hb, hn, h2⟩
  · rw [show (lp (p_spec_l12Of_b0 p id) 0) = _ from h2, place_no h1]; rfl
  · rw [show (lp (p_spec_l12Of_b0 p id) 0) = _ from h2, place_yes hk hb hn]
    have : ¬ (k : Int) < 0 := by omega
    simp [sw, this]
def partOf (p : Part) (id : Int) : List Row := if partOk p then rowsOf p id else []
theorem e_impl_PartOf (p : Part) (id : Int) (ok : Dp.ok p) (hw : Wt.w p ≤ 1048576) : p_impl_PartOf p id = some (partOf p id) := by
  unfold p_impl_PartOf partOf
  rw [e_Index p.1 id ok.1.1, bd_some, e_impl_PartOk p ok, bd_some]
  cases h : partOk p with
  | false => rfl
  | true =>
    have hl := partOk_len' h
    rcases place_lt (l := p.1) (id := id) with hp | ⟨k, hk, hp⟩
    · simp [hp, rowsOf]
    · have h0 : ¬ (k : Int) < 0 := by omega
      have hk2 : k < p.2.length := by omega
      have hr : room (nth p.2 k).length := by
        have : (nth p.2 k).length ≤ 1048576 := Nat.le_trans wL_le (Nat.le_trans (wL_el hk2) (Nat.le_trans wP_2 hw))
        unfold room; omega
      simp [hp, rowsOf, h0, gd.yes (ixN hk2), gd.yes hr]
theorem ok_rows (l : List Row) (h : l.length ≤ 1048576) : Dp.ok l := ⟨Nat.le_trans h (by decide), fun _ _ => ⟨trivial, trivial⟩⟩
theorem tmod_rng {a n : Int} (ha : 0 ≤ a) (hn : 0 < n) : 0 ≤ a.tmod n ∧ a.tmod n < n := ⟨Int.tmod_nonneg n ha, Int.tmod_lt_of_pos a hn⟩
theorem tdiv_rng {a n : Int} (ha : 0 ≤ a) (hn : 0 < n) : 0 ≤ a.tdiv n ∧ a.tdiv n ≤ a := by
  rw [Int.tdiv_eq_ediv_of_nonneg ha]
  exact ⟨Int.ediv_nonneg ha (by omega), Int.ediv_le_self n ha⟩
theorem u8_rng (b : UInt8) : (0 : Int) ≤ (b.toNat : Int) ∧ (b.toNat : Int) ≤ 255 := by have := b.toNat_lt; omega
theorem xr_nn (a b : Int) : 0 ≤ xr a b := by unfold xr; omega
theorem xr_lt {a b : Int} (ha : 0 ≤ a) (ha2 : a < 4611686018427387904) (hb : 0 ≤ b) (hb2 : b < 4611686018427387904) : xr a b < 4611686018427387904 := by
  unfold xr
  have : a.toNat ^^^ b.toNat < 2 ^ 62 := Nat.xor_lt_two_pow (by omega) (by omega)
  omega
theorem d_pick (b : List UInt8) (p n : Int) (hb : b.length ≤ 2000) (h0 : 0 ≤ p) (h1 : p ≤ 1000000) (hn : n ≤ 1000000000) :
    ∃ x, p_spec_l6Rd_pick (b, p) n = some (x, p + 1) ∧ 0 ≤ x ∧ (1 ≤ n → x < n) := by
  unfold p_spec_l6Rd_pick
  have g0 : I64 (p + 1) := by unfold I64; omega
  have ep : p + 1 - 1 = p := by omega
  have gp : I64 p := by unfold I64; omega
  simp only [ep, gd.yes g0, gd.yes gp]
  by_cases hn1 : n < 1
  · exact ⟨0, by simp [hn1], Int.le_refl _, fun h => by omega⟩
  · by_cases hb0 : (b.length : Int) = 0
    · exact ⟨0, by simp [hn1, hb0], Int.le_refl _, fun h => by omega⟩
    · simp only [hn1, hb0, decide_false, cond_false, bd_some]
      by_cases hp : p < (b.length : Int)
      · have hx := tmod_rng (u8_rng (nth b p.toNat)).1 (show 0 < n by omega)
        have g1 : ix p b.length := ⟨h0, hp⟩
        have g2 : n ≠ 0 := by omega
        have g3 : I64 (((nth b p.toNat).toNat : Int).tmod n) := by unfold I64; omega
        simp only [hp, decide_true, cond_true, gd.yes g1, gd.yes g2, gd.yes g3]
        exact ⟨_, rfl, hx.1, fun _ => hx.2⟩
      · simp only [hp, decide_false, cond_false]
        have hL : (0 : Int) < (b.length : Int) := by omega
        have hm := tmod_rng h0 hL
        have hm2 := tmod_rng (show 0 ≤ p * 7 + 3 by omega) hL
        have hq := tdiv_rng h0 hL
        have u1 := u8_rng (nth b (p.tmod (b.length : Int)).toNat)
        have u2 := u8_rng (nth b ((p * 7 + 3).tmod (b.length : Int)).toNat)
        have g1 : (b.length : Int) ≠ 0 := hb0
        have g2 : I64 (p.tmod (b.length : Int)) := by unfold I64; omega
        have g3 : ix (p.tmod (b.length : Int)) b.length := hm
        have g4 : I64 (p * 7) := by unfold I64; omega
        have g5 : I64 (p * 7 + 3) := by unfold I64; omega
        have g6 : I64 ((p * 7 + 3).tmod (b.length : Int)) := by unfold I64; omega
        have g7 : ix ((p * 7 + 3).tmod (b.length : Int)) b.length := hm2
        have g8 : I64 (p * 29) := by unfold I64; omega
        have g9 : I64 (p.tdiv (b.length : Int)) := by unfold I64; omega
        simp only [gd.yes g1, gd.yes g2, gd.yes g3, gd.yes g4, gd.yes g5, gd.yes g6, gd.yes g7, gd.yes g8, gd.yes g9]
        generalize ((nth b (p.tmod (b.length : Int)).toNat).toNat : Int) = y1 at *
        generalize ((nth b ((p * 7 + 3).tmod (b.length : Int)).toNat).toNat : Int) = y2 at *
        generalize p.tdiv (b.length : Int) = q at *
        have k1 : I64 (y1 * 131) := by unfold I64; omega
        have k2 : I64 (y2 * 1117) := by unfold I64; omega
        have k3 : I64 (y1 * 131 + y2 * 1117) := by unfold I64; omega
        have k4 : I64 (y1 * 131 + y2 * 1117 + p * 29) := by unfold I64; omega
        have k5 : I64 (q * 53) := by unfold I64; omega
        have k6 : I64 (y1 * 131 + y2 * 1117 + p * 29 + q * 53) := by unfold I64; omega
        simp only [gd.yes k1, gd.yes k2, gd.yes k3, gd.yes k4, gd.yes k5, gd.yes k6]
        have hx0 : 0 ≤ y1 * 131 + y2 * 1117 + p * 29 + q * 53 := by omega
        have hx1 : y1 * 131 + y2 * 1117 + p * 29 + q * 53 < 1000000000 := by omega
        generalize y1 * 131 + y2 * 1117 + p * 29 + q * 53 = x at *
        have hd := tdiv_rng hx0 (show (0 : Int) < 64 by decide)
        have m1 : I64 (x.tdiv 64) := by unfold I64; omega
        have m2 : nn x := by unfold nn; omega
        have m3 : nn (x.tdiv 64) := by unfold nn; omega
        have hr0 := xr_nn x (x.tdiv 64)
        have hr1 := xr_lt hx0 (by omega) hd.1 (by omega) (b := x.tdiv 64)
        have hz := tmod_rng hr0 (show 0 < n by omega)
        have m4 : n ≠ 0 := by omega
        have m5 : I64 ((xr x (x.tdiv 64)).tmod n) := by unfold I64; omega
        simp only [gd.yes m1, gd.yes m2, gd.yes m3, gd.yes m4, gd.yes m5]
        exact ⟨_, rfl, hz.1, fun _ => hz.2⟩
/-- a row laid in, as the reference does it: whatever the order -/
def l2 (r : Row) : Bool → List Row → List Row
  | put, [] => if put then [] else [r]
  | put, x :: t => (if !put && decide (r.1 ≤ x.1) then [r] else []) ++ ((if x.1 = r.1 then [] else [x]) ++ l2 r (put || decide (r.1 ≤ x.1)) t)
theorem l2_len (r : Row) : ∀ (l : List Row) (put : Bool), (l2 r put l).length ≤ 2 * l.length + 1
  | [], put => by cases put <;> simp [l2]
  | x :: t, put => by
    have := l2_len r t (put || decide (r.1 ≤ x.1))
    simp only [l2, List.length_append, List.length_cons]
    split <;> split <;> simp <;> omega
theorem drop_nth {α : Type} [Inhabited α] {l : List α} {k : Nat} (hk : k < l.length) : l.drop k = nth l k :: l.drop (k + 1) := by
  rw [nth_eq l k hk, List.drop_eq_getElem_cons hk]
theorem e_l2Put (b : List Row) (r : Row) (hb : b.length ≤ 1048576) : p_spec_l2Put b r = some (l2 r false b) := by
  unfold p_spec_l2Put
  obtain ⟨e, he, hs1, hs2⟩ := lp.rule (body := p_spec_l2Put_b0 b r) (fun σ => ∃ k : Nat, k ≤ b.length ∧ σ.2.2 = (k : Int) ∧ σ.1.length ≤ 2 * k ∧ σ.1 ++ l2 r σ.2.1 (b.drop k) = l2 r false b) (fun σ => b.length - σ.2.2.toNat)
    (fun e => e.1.length ≤ 2 * b.length ∧ e.1 ++ (if e.2 then [] else [r]) = l2 r false b) (fun σ hI => by
      obtain ⟨k, k1, k2, k3, k4⟩ := hI
      unfold p_spec_l2Put_b0
      rw [k2]
      by_cases hk : k < b.length
      · left
        rw [drop_nth hk] at k4
        have hi := i64S hk (by omega)
        have r1 : room (σ.1.length + 1) := by unfold room; omega
        have r2 : room ((σ.1 ++ [r]).length + 1) := by simp; unfold room; omega
        simp only [dlt hk, cond_true, gd.yes (ixN hk), Int.toNat_natCast, gd.yes hi, gd.yes r1, gd.yes r2]
        obtain ⟨o, put, i⟩ := σ
        simp only at k2 k3 k4 ⊢
        cases put with
        | true =>
          simp only [l2, Bool.not_true, Bool.false_and, Bool.false_eq_true, if_false, List.nil_append, Bool.true_or] at k4
          simp only [Bool.not_true, cond_false, bd_some]
          by_cases hx : (nth b k).1 = r.1
          · simp only [hx, if_true, List.nil_append] at k4
            exact ⟨(o, true, ((k + 1 : Nat) : Int)), by simp [hx], ⟨k + 1, hk, rfl, by simp only; omega, k4⟩, by simp only; omega⟩
          · simp only [hx, if_false] at k4
            exact ⟨(o ++ [nth b k], true, ((k + 1 : Nat) : Int)), by simp [hx], ⟨k + 1, hk, rfl, by simp; omega, by simpa using k4⟩, by simp only; omega⟩
        | false =>
          by_cases hle : r.1 ≤ (nth b k).1
          · simp only [l2, hle, decide_true, Bool.not_false, Bool.true_and, if_true, Bool.or_true] at k4
            by_cases hx : (nth b k).1 = r.1
            · simp only [hx, if_true, List.nil_append] at k4
              exact ⟨(o ++ [r], true, ((k + 1 : Nat) : Int)), by simp [hx], ⟨k + 1, hk, rfl, by simp; omega, by simpa using k4⟩, by simp only; omega⟩
            · simp only [hx, if_false] at k4
              exact ⟨(o ++ [r] ++ [nth b k], true, ((k + 1 : Nat) : Int)), by simp [hx, hle], ⟨k + 1, hk, rfl, by simp; omega, by simpa using k4⟩, by simp only; omega⟩
          · simp only [l2, hle, decide_false, Bool.not_false, Bool.and_false, Bool.false_eq_true, if_false, List.nil_append, Bool.or_false] at k4
            have hx : ¬ (nth b k).1 = r.1 := by omega
            simp only [hx, if_false] at k4
            exact ⟨(o ++ [nth b k], false, ((k + 1 : Nat) : Int)), by simp [hx, hle], ⟨k + 1, hk, rfl, by simp; omega, by simpa using k4⟩, by simp only; omega⟩
      · right
        have hk' : k = b.length := by omega
        subst hk'
        refine ⟨(σ.1, σ.2.1), by simp, k3, ?_⟩
        rw [List.drop_length] at k4
        simpa [l2] using k4) (s := (([] : List Row), false, (0 : Int))) ⟨0, Nat.zero_le _, rfl, by simp, by simp⟩
  rw [he, bd_some]
  have r1 : room (e.1.length + 1) := by unfold room; omega
  cases hp : e.2 with
  | true => simp [hp] at hs2; simp [hp, hs2]
  | false => simp [hp] at hs2; simp [hp, gd.yes r1, hs2]
theorem d_l71Row (b : List UInt8) (p : Int) (hb : b.length ≤ 2000) (h0 : 0 ≤ p) (h1 : p + 4 ≤ 1000000) :
    ∃ r p', p_spec_l71Row (b, p) = some (r, p') ∧ p ≤ p' ∧ p' ≤ p + 4 := by
  obtain ⟨x1, e1, a1, b1⟩ := d_pick b p 40 hb h0 (by omega) (by decide)
  obtain ⟨x2, e2, a2, b2⟩ := d_pick b (p + 1) 20 hb (by omega) (by omega) (by decide)
  obtain ⟨x3, e3, a3, b3⟩ := d_pick b (p + 1 + 1) 40 hb (by omega) (by omega) (by decide)
  obtain ⟨x4, e4, a4, b4⟩ := d_pick b (p + 1 + 1 + 1) 3 hb (by omega) (by omega) (by decide)
  have g1 : I64 (x2 - 6) := by have := b2 (by decide); unfold I64; omega
  have b4 := b4 (by decide)
  have g2 : ix x4 ([-1, 99, 100] : List Int).length := ⟨a4, b4⟩
  have g3 : ix x4 ([-99, 99, 100] : List Int).length := ⟨a4, b4⟩
  unfold p_spec_l71Row
  simp only [e1, e2, e3, e4, bd_some, gd.yes g1, gd.yes g2, gd.yes g3]
  cases decide (x3 = 0) with
  | true => exact ⟨_, _, rfl, by omega, by omega⟩
  | false => cases decide (x3 = 1) with
    | true => exact ⟨_, _, rfl, by omega, by omega⟩
    | false => exact ⟨_, _, rfl, by omega, by omega⟩
theorem d_l71Block (b : List UInt8) (p : Int) (hb : b.length ≤ 2000) (h0 : 0 ≤ p) (h1 : p + 200 ≤ 1000000) :
    ∃ r p', p_spec_l71Block (b, p) = some (r, p') ∧ p ≤ p' ∧ p' ≤ p + 200 ∧ r.length ≤ 2000 := by
  obtain ⟨x1, e1, a1, b1⟩ := d_pick b p 9 hb h0 (by omega) (by decide)
  have b1 := b1 (by decide)
  unfold p_spec_l71Block
  simp only [e1, bd_some]
  obtain ⟨s, hs, i1, i2, i3⟩ := lp.rule (body := p_spec_l71Block_b0 (b, p)) (fun σ => 0 ≤ σ.2.2 ∧ σ.2.2 ≤ 8 ∧ p ≤ σ.1 ∧ σ.1 ≤ p + 1 + 4 * (8 - σ.2.2) ∧ ((σ.2.1.length : Nat) : Int) + 1 ≤ (2 : Int) ^ (9 - σ.2.2).toNat) (fun σ => σ.2.2.toNat)
    (fun e => p ≤ e.1 ∧ e.1 ≤ p + 40 ∧ e.2.length ≤ 600) (fun σ hI => by
      obtain ⟨j1, j2, j3, j4, j5⟩ := hI
      unfold p_spec_l71Block_b0
      by_cases hz : 0 < σ.2.2
      · left
        obtain ⟨r, p', q1, q2, q3⟩ := d_l71Row b σ.1 hb (by omega) (by omega)
        have g1 : I64 (σ.2.2 - 1) := by unfold I64; omega
        have hpow : (2 : Int) ^ (9 - (σ.2.2 - 1)).toNat = 2 * 2 ^ (9 - σ.2.2).toNat := by
          rw [show (9 - (σ.2.2 - 1)).toNat = (9 - σ.2.2).toNat + 1 by omega, Int.pow_succ]; omega
        have hlim : (2 : Int) ^ (9 - σ.2.2).toNat ≤ 2 ^ 9 := by
          have h : (2 : Nat) ^ (9 - σ.2.2).toNat ≤ 2 ^ 9 := Nat.pow_le_pow_right (by decide) (by omega)
          have h2 : ((2 ^ (9 - σ.2.2).toNat : Nat) : Int) ≤ ((2 ^ 9 : Nat) : Int) := by omega
          simpa using h2
        simp only [hz, decide_true, cond_true, q1, bd_some, e_spec_l2Row, gd.yes g1]
        cases hok : rowOk r with
        | true =>
          have hl : σ.2.1.length ≤ 1048576 := by omega
          simp only [cond_true, e_l2Put _ r hl, bd_some]
          have := l2_len r σ.2.1 false
          exact ⟨_, rfl, ⟨by simp only; omega, by simp only; omega, by simp only; omega, by simp only; omega, by simp only; rw [hpow]; omega⟩, by simp only; omega⟩
        | false =>
          simp only [cond_false]
          exact ⟨_, rfl, ⟨by simp only; omega, by simp only; omega, by simp only; omega, by simp only; omega, by simp only; rw [hpow]; omega⟩, by simp only; omega⟩
      · right
        have hz0 : σ.2.2 = 0 := by omega
        rw [hz0] at j5
        have hpw : (2 : Int) ^ (9 - (0 : Int)).toNat = 512 := by decide
        rw [hpw] at j5
        exact ⟨(σ.1, σ.2.1), by simp [hz], by simp only; omega, by simp only; omega, by simp only; omega⟩) (s := (p + 1, ([] : List Row), x1)) ⟨a1, by simp only; omega, by simp only; omega, by simp only; omega, by
      have h : (1 : Nat) ≤ 2 ^ (9 - x1).toNat := Nat.one_le_two_pow
      have h2 : ((1 : Nat) : Int) ≤ ((2 ^ (9 - x1).toNat : Nat) : Int) := by omega
      simpa using h2⟩
  rw [hs, bd_some]
  obtain ⟨x2, e2, a2, b2⟩ := d_pick b s.1 24 hb (by omega) (by omega) (by decide)
  simp only [e2, bd_some]
  by_cases hx0 : x2 = 0
  · obtain ⟨r, p', q1, q2, q3⟩ := d_l71Row b (s.1 + 1) hb (by omega) (by omega)
    have r1 : room (s.2.length + 1) := by unfold room; omega
    simp only [hx0, decide_true, cond_true, q1, bd_some, gd.yes r1]
    exact ⟨_, _, rfl, by omega, by omega, by simp; omega⟩
  · by_cases hx1 : x2 = 1
    · simp only [hx0, hx1, decide_false, cond_false, decide_true, cond_true, Int.reduceEq]
      obtain ⟨t, ht, u1, u2, u3⟩ := lp.rule (body := p_spec_l71Block_b1 (b, p)) (fun σ => s.1 + 1 ≤ σ.1 ∧ σ.1 ≤ s.1 + 1 + (σ.2.2 - 50) ∧ 50 ≤ σ.2.2 ∧ (σ.2.2 = 50 ∧ σ.2.1.length ≤ 600 ∨ σ.2.2 ≤ 50 + (σ.2.1.length : Int) ∧ σ.2.1.length ≤ 24)) (fun σ => 700 - σ.2.1.length)
        (fun e => s.1 + 1 ≤ e.2 ∧ e.2 ≤ s.1 + 30 ∧ e.1.length ≤ 700) (fun σ hI => by
          obtain ⟨j1, j2, j3, j4⟩ := hI
          unfold p_spec_l71Block_b1
          obtain ⟨x, q1, q2, q3⟩ := d_pick b σ.1 2 hb (by omega) (by omega) (by decide)
          have q3 := q3 (by decide)
          have g1 : I64 (24 - x) := by unfold I64; omega
          simp only [q1, bd_some, gd.yes g1]
          by_cases hc : (σ.2.1.length : Int) < 24 - x
          · left
            have r1 : room (σ.2.1.length + 1) := by unfold room; omega
            have g2 : I64 (σ.2.2 + 1) := by unfold I64; omega
            simp only [hc, decide_true, cond_true, gd.yes r1, gd.yes g2]
            exact ⟨_, rfl, ⟨by simp only; omega, by simp only; omega, by simp only; omega, by simp; omega⟩, by simp; omega⟩
          · right
            simp only [hc, decide_false, cond_false]
            exact ⟨_, rfl, by simp only; omega, by simp only; omega, by simp only; omega⟩) (s := (s.1 + 1, s.2, 50)) ⟨Int.le_refl _, by simp only; omega, Int.le_refl _, .inl ⟨rfl, i3⟩⟩
      rw [ht, bd_some]
      exact ⟨_, _, rfl, by omega, by omega, by omega⟩
    · simp only [hx0, hx1, decide_false, cond_false]
      exact ⟨_, _, rfl, by omega, by omega, by omega⟩
/-- what is not empty, with its number -/
def mkP (i : Nat) : List (List Row) → Part
  | [] => ([], [])
  | b :: t => if 0 < b.length then (((i + 1 : Nat) : Int) :: (mkP (i + 1) t).1, b :: (mkP (i + 1) t).2) else mkP (i + 1) t
theorem mkP_len : ∀ (l : List (List Row)) (i : Nat), (mkP i l).1.length = (mkP i l).2.length ∧ (mkP i l).1.length ≤ l.length
  | [], i => by simp [mkP]
  | b :: t, i => by
    have := mkP_len t (i + 1)
    unfold mkP
    split <;> simp <;> omega
theorem mkP_mem : ∀ (l : List (List Row)) (i : Nat) (b : List Row), b ∈ (mkP i l).2 → b ∈ l
  | [], i, b, h => by simp [mkP] at h
  | c :: t, i, b, h => by
    unfold mkP at h
    split at h
    · rcases List.mem_cons.1 h with rfl | h
      · simp
      · exact List.mem_cons_of_mem _ (mkP_mem t (i + 1) b h)
    · exact List.mem_cons_of_mem _ (mkP_mem t (i + 1) b h)
theorem nth_mem {α : Type} [Inhabited α] {l : List α} {k : Nat} (h : k < l.length) : nth l k ∈ l := by rw [nth_eq l k h]; exact List.getElem_mem h
theorem e_l12Make (v : List (List Row)) (hv : v.length ≤ 1048576) (hb : ∀ b ∈ v, b.length ≤ 1048576) : p_spec_l12Make v = some (mkP 0 v) := by
  unfold p_spec_l12Make
  obtain ⟨e, he, hs⟩ := lp.rule (body := p_spec_l12Make_b0 v) (fun σ => ∃ k : Nat, k ≤ v.length ∧ σ.2.2 = (k : Int) ∧ σ.1.length ≤ k ∧ σ.2.1.length ≤ k ∧ σ.1 ++ (mkP k (v.drop k)).1 = (mkP 0 v).1 ∧ σ.2.1 ++ (mkP k (v.drop k)).2 = (mkP 0 v).2) (fun σ => v.length - σ.2.2.toNat)
    (fun e => e = mkP 0 v) (fun σ hI => by
      obtain ⟨k, k1, k2, k3, k4, k5, k6⟩ := hI
      unfold p_spec_l12Make_b0
      rw [k2]
      by_cases hk : k < v.length
      · left
        rw [drop_nth hk] at k5 k6
        have hi := i64S hk (by omega)
        have r1 : room (σ.1.length + 1) := by unfold room; omega
        have r2 : room (σ.2.1.length + 1) := by unfold room; omega
        have r3 : room (([] : List Row).length + (nth v k).length) := by have := hb _ (nth_mem hk); unfold room; simp; omega
        simp only [dlt hk, cond_true, gd.yes (ixN hk), Int.toNat_natCast, gd.yes hi, gd.yes r1, gd.yes r2, gd.yes r3]
        by_cases hz : 0 < (nth v k).length
        · have hz' : (0 : Int) < ((nth v k).length : Int) := by omega
          simp only [mkP, hz, if_true] at k5 k6
          simp only [hz', decide_true, cond_true]
          exact ⟨_, rfl, ⟨k + 1, hk, rfl, by simp; omega, by simp; omega, by simpa using k5, by simpa using k6⟩, by simp only; omega⟩
        · have hz' : ¬ (0 : Int) < ((nth v k).length : Int) := by omega
          simp only [mkP, hz, if_false] at k5 k6
          simp only [hz', decide_false, cond_false]
          exact ⟨_, rfl, ⟨k + 1, hk, rfl, by simp only; omega, by simp only; omega, k5, k6⟩, by simp only; omega⟩
      · right
        have hk' : k = v.length := by omega
        subst hk'
        rw [List.drop_length] at k5 k6
        refine ⟨(σ.1, σ.2.1), by simp, ?_⟩
        simp [mkP] at k5 k6
        rw [k5, k6]) (s := (([] : List Int), ([] : List (List Row)), (0 : Int))) ⟨0, Nat.zero_le _, rfl, Nat.le_refl _, Nat.le_refl _, by simp, by simp⟩
  rw [he, hs]; rfl
/-- a small part -/
def small (p : Part) : Prop := p.1.length ≤ 10 ∧ p.2.length ≤ 10 ∧ ∀ b ∈ p.2, b.length ≤ 2000
theorem small_ok {p : Part} (h : small p) : Dp.ok p := by
  obtain ⟨h1, h2, h3⟩ := h
  exact ⟨⟨Nat.le_trans h1 (by decide), fun _ _ => trivial⟩, ⟨Nat.le_trans h2 (by decide), fun i hi => ok_rows _ (Nat.le_trans (h3 _ (nth_mem hi)) (by decide))⟩⟩
theorem wRow {b : List Row} : Wt.w b = b.length := by show b.length + sumN b.length (fun i => Wt.w (nth b i)) = _; rw [sumN_zero (f := fun i => Wt.w (nth b i)) fun i _ => rfl]; rfl
theorem sumN_bound {n m : Nat} {f : Nat → Nat} (h : ∀ i, i < n → f i ≤ m) : sumN n f ≤ n * m := by
  induction n with
  | zero => simp [sumN]
  | succ n ih => have := ih fun i hi => h i (by omega); have := h n (by omega); simp only [sumN, Nat.add_mul]; omega
theorem small_w {p : Part} (h : small p) : Wt.w p ≤ 1048576 := by
  obtain ⟨h1, h2, h3⟩ := h
  have a1 : Wt.w p.1 = p.1.length := by show p.1.length + sumN p.1.length (fun i => Wt.w (nth p.1 i)) = _; rw [sumN_zero (f := fun i => Wt.w (nth p.1 i)) fun i _ => rfl]; rfl
  have a2 : sumN p.2.length (fun i => Wt.w (nth p.2 i)) ≤ p.2.length * 2000 := sumN_bound fun i hi => by rw [wRow]; exact h3 _ (nth_mem hi)
  have a3 : p.2.length * 2000 ≤ 10 * 2000 := Nat.mul_le_mul_right _ h2
  show Wt.w p.1 + (p.2.length + sumN p.2.length fun i => Wt.w (nth p.2 i)) ≤ _
  omega
theorem d_l6Open (c : List UInt8) : ∃ b, p_spec_l6Open c = some (b, 0) ∧ b.length ≤ 2000 := by
  unfold p_spec_l6Open
  by_cases h : (2000 : Int) < (c.length : Int)
  · have g : sl2 0 2000 c.length := by unfold sl2; omega
    simp only [h, decide_true, cond_true, gd.yes g]
    exact ⟨_, rfl, by simp; omega⟩
  · simp only [h, decide_false, cond_false]
    exact ⟨_, rfl, by omega⟩
theorem d_l72Part (b : List UInt8) (p : Int) (hb : b.length ≤ 2000) (h0 : 0 ≤ p) (h1 : p + 900 ≤ 1000000) :
    ∃ r p', p_spec_l72Part (b, p) = some (r, p') ∧ p ≤ p' ∧ p' ≤ p + 900 ∧ r.1.length ≤ 5 ∧ r.2.length ≤ 5 ∧ ∀ x ∈ r.2, x.length ≤ 2000 := by
  unfold p_spec_l72Part
  obtain ⟨s, hs, i1, i2, i3, i4⟩ := lp.rule (body := p_spec_l72Part_b0 (b, p)) (fun σ => p ≤ σ.1 ∧ σ.1 ≤ p + 201 * σ.2.2 ∧ 0 ≤ σ.2.2 ∧ σ.2.2 ≤ 4 ∧ (σ.2.1.length : Int) = σ.2.2 ∧ ∀ x ∈ σ.2.1, x.length ≤ 2000) (fun σ => (4 - σ.2.2).toNat)
    (fun e => p ≤ e.1 ∧ e.1 ≤ p + 804 ∧ e.2.length ≤ 4 ∧ ∀ x ∈ e.2, x.length ≤ 2000) (fun σ hI => by
      obtain ⟨j1, j2, j3, j4, j5, j6⟩ := hI
      unfold p_spec_l72Part_b0
      by_cases hz : σ.2.2 < 4
      · left
        obtain ⟨x, q1, q2, q3⟩ := d_pick b σ.1 2 hb (by omega) (by omega) (by decide)
        have g1 : I64 (σ.2.2 + 1) := by unfold I64; omega
        have r1 : room (σ.2.1.length + 1) := by unfold room; omega
        simp only [hz, decide_true, cond_true, q1, bd_some, gd.yes g1, gd.yes r1]
        by_cases hx : x = 0
        · obtain ⟨r, p', w1, w2, w3, w4⟩ := d_l71Block b (σ.1 + 1) hb (by omega) (by omega)
          simp only [hx, decide_true, cond_true, w1, bd_some]
          refine ⟨_, rfl, ⟨by simp only; omega, by simp only; omega, by simp only; omega, by simp only; omega, by simp; omega, fun y hy => ?_⟩, by simp only; omega⟩
          rcases List.mem_append.1 hy with hy | hy
          · exact j6 y hy
          · simp at hy; subst hy; exact w4
        · simp only [hx, decide_false, cond_false]
          refine ⟨_, rfl, ⟨by simp only; omega, by simp only; omega, by simp only; omega, by simp only; omega, by simp; omega, fun y hy => ?_⟩, by simp only; omega⟩
          rcases List.mem_append.1 hy with hy | hy
          · exact j6 y hy
          · simp at hy; subst hy; simp
      · right
        simp only [hz, decide_false, cond_false]
        exact ⟨_, rfl, by simp only; omega, by simp only; omega, by simp only; omega, j6⟩) (s := (p, ([] : List (List Row)), 0)) ⟨Int.le_refl _, by simp, Int.le_refl _, by simp, rfl, by simp⟩
  simp only [hs, bd_some, e_l12Make s.2 (by omega) (fun x hx => Nat.le_trans (i4 x hx) (by decide))]
  obtain ⟨m1, m2⟩ := mkP_len s.2 0
  have m3 := mkP_mem s.2 0
  obtain ⟨x, q1, q2, q3⟩ := d_pick b s.1 24 hb (by omega) (by omega) (by decide)
  obtain ⟨y, w1, w2, w3⟩ := d_pick b (s.1 + 1) 9 hb (by omega) (by omega) (by decide)
  have r1 : room ((mkP 0 s.2).1.length + 1) := by unfold room; omega
  have r2 : room ((mkP 0 s.2).2.length + 1) := by unfold room; omega
  simp only [q1, w1, bd_some, gd.yes r1, gd.yes r2]
  by_cases hx : x = 0
  · simp only [hx, decide_true, cond_true]
    exact ⟨_, _, rfl, by omega, by omega, by simp; omega, by simp only; omega, fun z hz => i4 z (m3 z hz)⟩
  · by_cases hx1 : x = 1
    · simp only [hx, hx1, decide_false, cond_false, decide_true, cond_true, Int.reduceEq]
      refine ⟨_, _, rfl, by omega, by omega, by simp; omega, by simp; omega, fun z hz => ?_⟩
      rcases List.mem_append.1 hz with hz | hz
      · exact i4 z (m3 z hz)
      · simp at hz; subst hz; simp
    · simp only [hx, hx1, decide_false, cond_false]
      exact ⟨_, _, rfl, by omega, by omega, by omega, by omega, fun z hz => i4 z (m3 z hz)⟩
theorem d_DrawPartMerge (c : List UInt8) : ∃ r, p_spec_DrawPartMerge c = some r ∧ small r.1 ∧ small r.2 := by
  obtain ⟨b, e0, hb⟩ := d_l6Open c
  obtain ⟨r, p', e1, a1, a2, a3, a4, a5⟩ := d_l72Part b 0 hb (by decide) (by decide)
  obtain ⟨r2, p2, e2, b1, b2, b3, b4, b5⟩ := d_l72Part b p' hb (by omega) (by omega)
  unfold p_spec_DrawPartMerge
  simp only [e0, e1, e2, bd_some]
  have s1 : small r := ⟨by omega, by omega, a5⟩
  have s2 : small r2 := ⟨by omega, by omega, b5⟩
  exact ⟨_, rfl, s1, s2⟩
theorem e_lyRows (a b : List Row) (ha : a.length ≤ 9223372036854775807) : p_laws_lyRows a b = some (decide (a = b)) := by
  unfold p_laws_lyRows
  by_cases hl : a.length = b.length
  · have hl2 : (a.length : Int) = (b.length : Int) := by omega
    simp only [hl2, decide_true, Bool.not_true, cond_false]
    refine eq_loop hl (fun k hk => ?_) ?_
    · have hk2 : k < b.length := by omega
      unfold p_laws_lyRows_b0
      simp only [dlt hk, cond_true, gd.yes (ixN hk), gd.yes (ixN hk2), Int.toNat_natCast, gd.yes (i64S hk ha)]
      by_cases h : nth a k = nth b k <;> simp [h]
    · unfold p_laws_lyRows_b0; simp
  · have h2 : ¬ (a.length : Int) = (b.length : Int) := by omega
    have h3 : a ≠ b := fun e => hl (by rw [e])
    simp [h2, h3]
/-- what a valid part is -/
theorem partOk_iff {p : Part} (h : partOk p = true) : p.1.length = p.2.length ∧ (∀ k, k < p.1.length → 1 ≤ nth p.1 k ∧ nth p.1 k ≤ 6) ∧ (∀ k, 0 < k → k < p.1.length → nth p.1 (k - 1) < nth p.1 k) ∧ (∀ k, k < p.2.length → 0 < (nth p.2 k).length ∧ blockOk (nth p.2 k) = true) := by
  unfold partOk at h
  simp only [Bool.and_eq_true, decide_eq_true_eq] at h
  obtain ⟨h1, h2⟩ := h
  have h2 := allN_iff.1 h2
  refine ⟨h1, fun k hk => ?_, fun k h0 hk => ?_, fun k hk => ?_⟩
  · have := h2 k hk; simp only [partBad, inn, Bool.or_eq_false_iff, Bool.not_eq_false', Bool.and_eq_true, decide_eq_true_eq] at this; exact this.1.1.1
  · have := h2 k hk; simp [partBad, h0] at this; exact this.1.1.2
  · have := h2 k (by omega); simp [partBad] at this; exact ⟨List.length_pos_iff.2 this.2, this.1.2⟩
theorem ids_mono {p : Part} (h : ∀ k, 0 < k → k < p.1.length → nth p.1 (k - 1) < nth p.1 k) : ∀ {j k : Nat}, j < k → k < p.1.length → nth p.1 j < nth p.1 k := by
  intro j k hjk hk
  induction k with
  | zero => omega
  | succ k ih =>
    have h1 := h (k + 1) (by omega) hk
    rw [show k + 1 - 1 = k by omega] at h1
    rcases Nat.lt_or_eq_of_le (Nat.le_of_lt_succ hjk) with h' | rfl
    · have := ih h' (by omega); omega
    · exact h1
/-- a row laid into a block, as the program does it -/
def ins (r : Row) : List Row → List Row
  | [] => [r]
  | x :: t => if x.1 < r.1 then x :: ins r t else if x.1 = r.1 then r :: t else r :: x :: t
theorem ins_len (r : Row) : ∀ l : List Row, l.length ≤ (ins r l).length ∧ (ins r l).length ≤ l.length + 1
  | [] => by simp [ins]
  | x :: t => by
    have := ins_len r t
    unfold ins
    split
    · simp; omega
    · split <;> simp
theorem ins_pre (r : Row) : ∀ (p s : List Row), (∀ x ∈ p, x.1 < r.1) → ins r (p ++ s) = p ++ ins r s
  | [], s, _ => rfl
  | x :: p, s, h => by
    have hx := h x (by simp)
    rw [List.cons_append, ins, if_pos hx, ins_pre r p s fun y hy => h y (by simp [hy]), List.cons_append]
/-- times ascend -/
def Asc (l : List Row) : Prop := l.Pairwise fun x y => x.1 < y.1
theorem e_put (b : List Row) (r : Row) (hb : b.length ≤ 1048576) : p_impl_put b r = some (ins r b) := by
  unfold p_impl_put
  have r0 : room (([] : List Row).length + b.length) := by unfold room; simp; omega
  simp only [gd.yes r0, List.nil_append]
  have key : ∃ k : Nat, k ≤ b.length ∧ (∀ i, i < k → (nth b i).1 < r.1) ∧ (k < b.length → ¬ (nth b k).1 < r.1) ∧ lp (p_impl_put_b0 b r) 0 = some (k : Int) := by
    rcases lp_scan (body := p_impl_put_b0 b r) (fun k => (k : Int)) b.length (fun k => !decide ((nth b k).1 < r.1)) (b.length : Int) (fun k => (k : Int)) (fun k hk _ h => by
        have h' : (nth b k).1 < r.1 := by simpa using h
        unfold p_impl_put_b0; simp [hk, gd.yes (ixN hk), h', gd.yes (i64S hk (by omega))]) (fun k hk _ h => by
        have h' : ¬ (nth b k).1 < r.1 := by simpa using h
        unfold p_impl_put_b0; simp [hk, gd.yes (ixN hk), h']) (fun _ => by unfold p_impl_put_b0; simp) with ⟨h1, h2⟩ | ⟨h1, k, hk, hb', hn, h2⟩
    · exact ⟨b.length, Nat.le_refl _, fun i hi => by simpa using allN_iff.1 h1 i hi, fun h => absurd h (Nat.lt_irrefl _), h2⟩
    · exact ⟨k, Nat.le_of_lt hk, fun i hi => by simpa using hn i hi, fun _ => by simpa using hb', h2⟩
  obtain ⟨k, k1, k2, k3, k4⟩ := key
  rw [k4, bd_some]
  have hpre : ∀ x ∈ b.take k, x.1 < r.1 := fun x hx => by
    obtain ⟨i, hi, rfl⟩ := List.mem_iff_getElem.1 hx
    have hik : i < k := by simp at hi; omega
    have := k2 i hik
    rw [nth_eq b i (by omega)] at this
    simpa using this
  have hins : ins r b = b.take k ++ ins r (b.drop k) := by
    conv => lhs; rw [← List.take_append_drop k b]
    rw [ins_pre r _ _ hpre]
  by_cases hk : k < b.length
  · have h3 := k3 hk
    rw [drop_nth hk, ins, if_neg h3] at hins
    simp only [dlt hk, cond_true, gd.yes (ixN hk), bd_some, Int.toNat_natCast]
    by_cases he : (nth b k).1 = r.1
    · rw [if_pos he] at hins
      rw [hins, List.set_eq_take_append_cons_drop, if_pos hk]
      simp [he]
    · rw [if_neg he] at hins
      have g1 : (0 : Int) ≤ (k : Int) ∧ (k : Int) ≤ (b.length : Int) := by omega
      have g2 : room (b.length + [r].length) := by unfold room; simp; omega
      have g3 : 0 < [r].length := by simp
      unfold p_slices_Insert_Row_Row p_insert
      have e1 : b.take k ++ [r] ++ b.drop k = ins r b := by rw [hins, drop_nth hk]; simp
      simp only [he, decide_false, cond_false, gd.yes g1, gd.yes g2, gd.yes g3, bd_some, Int.toNat_natCast, e1]
      have := ins_len r b
      have g4 : room (([] : List Row).length + (ins r b).length) := by unfold room; simp; omega
      simp only [gd.yes g4]
  · have hk' : k = b.length := by omega
    subst hk'
    have g1 : (0 : Int) ≤ (b.length : Int) ∧ (b.length : Int) ≤ (b.length : Int) := by omega
    have g2 : room (b.length + [r].length) := by unfold room; simp; omega
    have g3 : 0 < [r].length := by simp
    rw [List.drop_length] at hins
    have e1 : b.take b.length ++ [r] ++ b.drop b.length = ins r b := by rw [hins, List.drop_length]; simp [ins]
    unfold p_slices_Insert_Row_Row p_insert
    simp only [Int.lt_irrefl, decide_false, cond_false, bd_some, gd.yes g1, gd.yes g2, gd.yes g3, Int.toNat_natCast, e1]
    have := ins_len r b
    have g4 : room (([] : List Row).length + (ins r b).length) := by unfold room; simp; omega
    simp only [gd.yes g4]
/-- the reference lays it in the same way where times ascend -/
theorem l2_true (r : Row) : ∀ l : List Row, (∀ x ∈ l, r.1 < x.1) → l2 r true l = l
  | [], _ => rfl
  | x :: t, h => by
    have hx := h x (by simp)
    simp only [l2, Bool.not_true, Bool.false_and, Bool.false_eq_true, if_false, List.nil_append, Bool.true_or]
    rw [if_neg (by omega), l2_true r t fun y hy => h y (by simp [hy])]; rfl
theorem l2_ins (r : Row) : ∀ l : List Row, Asc l → l2 r false l = ins r l
  | [], _ => rfl
  | x :: t, h => by
    unfold Asc at h
    obtain ⟨h1, h2⟩ := List.pairwise_cons.1 h
    simp only [l2, ins, Bool.not_false, Bool.true_and, Bool.false_or]
    by_cases hle : r.1 ≤ x.1
    · simp only [hle, decide_true, if_true]
      rw [if_neg (show ¬ x.1 < r.1 by omega), l2_true r t fun y hy => by have := h1 y hy; omega]
      by_cases he : x.1 = r.1 <;> simp [he]
    · simp only [hle, decide_false, Bool.false_eq_true, if_false, List.nil_append]
      rw [if_pos (show x.1 < r.1 by omega), if_neg (show ¬ x.1 = r.1 by omega), l2_ins r t h2]; rfl
theorem ins_mem {r y : Row} : ∀ {l : List Row}, y ∈ ins r l → y = r ∨ y ∈ l
  | [], h => by simp [ins] at h; exact .inl h
  | x :: t, h => by
    unfold ins at h
    split at h
    · rcases List.mem_cons.1 h with h | h
      · exact .inr (by simp [h])
      · exact (ins_mem h).imp id fun h => by simp [h]
    · split at h
      · rcases List.mem_cons.1 h with h | h
        · exact .inl h
        · exact .inr (by simp [h])
      · rcases List.mem_cons.1 h with h | h
        · exact .inl h
        · exact .inr h
theorem ins_asc (r : Row) : ∀ {l : List Row}, Asc l → Asc (ins r l)
  | [], _ => by simp [ins, Asc]
  | x :: t, h => by
    unfold Asc at h ⊢
    obtain ⟨h1, h2⟩ := List.pairwise_cons.1 h
    unfold ins
    split
    · rename_i hx
      refine List.pairwise_cons.2 ⟨fun y hy => ?_, ins_asc r h2⟩
      rcases ins_mem hy with rfl | hy
      · exact hx
      · exact h1 y hy
    · split
      · rename_i hx he
        exact List.pairwise_cons.2 ⟨fun y hy => by have := h1 y hy; omega, h2⟩
      · rename_i hx he
        refine List.pairwise_cons.2 ⟨fun y hy => ?_, h⟩
        rcases List.mem_cons.1 hy with rfl | hy
        · omega
        · have := h1 y hy; omega
/-- what stands at a time -/
def at? (l : List Row) (t : Int) : Option Int := match l with | [] => none | x :: l => if x.1 = t then some x.2 else at? l t
theorem at_none {l : List Row} {t : Int} (h : ∀ x ∈ l, x.1 ≠ t) : at? l t = none := by
  induction l with
  | nil => rfl
  | cons x l ih => unfold at?; rw [if_neg (h x (by simp)), ih fun y hy => h y (by simp [hy])]
theorem at_mem {l : List Row} (h : Asc l) {x : Row} (hx : x ∈ l) : at? l x.1 = some x.2 := by
  induction l with
  | nil => cases hx
  | cons y l ih =>
    obtain ⟨h1, h2⟩ := List.pairwise_cons.1 h
    unfold at?
    rcases List.mem_cons.1 hx with rfl | hx
    · simp
    · rw [if_neg (by have := h1 x hx; omega), ih h2 hx]
theorem at_ins (r : Row) (t : Int) : ∀ {l : List Row}, Asc l → at? (ins r l) t = if t = r.1 then some r.2 else at? l t
  | [], _ => by simp only [ins, at?, eq_comm]
  | x :: l, h => by
    obtain ⟨h1, h2⟩ := List.pairwise_cons.1 h
    unfold ins
    split
    · rename_i hx
      unfold at?
      rw [at_ins r t h2]
      by_cases e : x.1 = t
      · rw [if_pos e, if_pos e, if_neg (by omega)]
      · rw [if_neg e, if_neg e]
    · split
      · rename_i hx he
        unfold at?
        by_cases e : r.1 = t
        · rw [if_pos e, if_pos e.symm]
        · rw [if_neg e, if_neg (Ne.symm e), if_neg (by omega)]
      · rename_i hx he
        conv => lhs; unfold at?
        by_cases e : r.1 = t
        · rw [if_pos e, if_pos e.symm]
        · rw [if_neg e, if_neg (Ne.symm e)]
/-- all rows of two blocks -/
def mg (a b : List Row) : List Row := b.foldl (fun o r => ins r o) a
theorem mg_asc {a b : List Row} (ha : Asc a) : Asc (mg a b) := by
  unfold mg
  induction b generalizing a with
  | nil => exact ha
  | cons x b ih => exact ih (ins_asc x ha)
theorem mg_len : ∀ (b a : List Row), a.length ≤ (mg a b).length ∧ (mg a b).length ≤ a.length + b.length
  | [], a => by simp [mg]
  | x :: b, a => by
    have h1 := ins_len x a
    have h2 := mg_len b (ins x a)
    unfold mg at h2 ⊢
    simp only [List.foldl_cons, List.length_cons] at h2 ⊢
    omega
theorem mg_mem {y : Row} : ∀ {b a : List Row}, y ∈ mg a b → y ∈ a ∨ y ∈ b
  | [], a, h => .inl h
  | x :: b, a, h => by
    have h : y ∈ mg (ins x a) b := h
    rcases mg_mem h with h | h
    · rcases ins_mem h with rfl | h
      · exact .inr (by simp)
      · exact .inl h
    · exact .inr (by simp [h])
theorem mg_at (t : Int) : ∀ {b a : List Row}, Asc a → Asc b → at? (mg a b) t = (at? b t).or (at? a t)
  | [], a, _, _ => by simp [mg, at?]
  | x :: b, a, ha, hb => by
    obtain ⟨b1, b2⟩ := List.pairwise_cons.1 hb
    show at? (mg (ins x a) b) t = _
    rw [mg_at t (ins_asc x ha) b2, at_ins x t ha]
    show _ = (if x.1 = t then some x.2 else at? b t).or (at? a t)
    by_cases e : x.1 = t
    · rw [if_pos e, if_pos e.symm, at_none (l := b) fun y hy => by have := b1 y hy; omega]
      simp
    · rw [if_neg e, if_neg (Ne.symm e)]
/-- what a valid block is -/
theorem blockOk_iff {b : List Row} : blockOk b = true ↔ (∀ x ∈ b, rowOk x = true) ∧ Asc b ∧ b.length ≤ 24 := by
  unfold blockOk
  rw [Bool.and_eq_true, allN_iff, decide_eq_true_eq]
  constructor
  · rintro ⟨h1, h2⟩
    have hp : ∀ k, k < b.length → rowOk (nth b k) = true ∧ (0 < k → (nth b (k - 1)).1 < (nth b k).1) := fun k hk => by
      have := h1 k hk
      simp only [rowBad, Bool.or_eq_false_iff, Bool.not_eq_false', Bool.and_eq_false_iff, decide_eq_false_iff_not] at this
      exact ⟨this.1, fun h0 => by rcases this.2 with h | h <;> omega⟩
    refine ⟨fun x hx => ?_, ?_, by omega⟩
    · obtain ⟨i, hi, rfl⟩ := List.mem_iff_getElem.1 hx
      rw [← nth_eq b i hi]; exact (hp i hi).1
    · refine List.pairwise_iff_getElem.2 fun i j hi hj hij => ?_
      rw [← nth_eq b i hi, ← nth_eq b j hj]
      clear hi
      induction j with
      | zero => omega
      | succ j ih =>
        have h3 := (hp (j + 1) hj).2 (by omega)
        rw [show j + 1 - 1 = j by omega] at h3
        rcases Nat.lt_or_eq_of_le (Nat.le_of_lt_succ hij) with h' | rfl
        · have := ih (by omega) h'; omega
        · exact h3
  · rintro ⟨h1, h2, h3⟩
    refine ⟨fun k hk => ?_, by omega⟩
    have r1 : rowOk (nth b k) = true := h1 _ (nth_mem hk)
    simp only [rowBad, r1, Bool.not_true, Bool.false_or, Bool.and_eq_false_iff, decide_eq_false_iff_not]
    rcases Nat.eq_zero_or_pos k with h0 | h0
    · exact .inl (by omega)
    · refine .inr ?_
      have := List.pairwise_iff_getElem.1 h2 (k - 1) k (by omega) hk (by omega)
      rw [← nth_eq b (k - 1) (by omega), ← nth_eq b k hk] at this
      omega
theorem mg_ok {a b : List Row} (ha : blockOk a = true) (hb : blockOk b = true) : blockOk (mg a b) = decide ((mg a b).length ≤ 24) := by
  obtain ⟨a1, a2, a3⟩ := blockOk_iff.1 ha
  obtain ⟨b1, b2, b3⟩ := blockOk_iff.1 hb
  cases h : blockOk (mg a b) with
  | true => simp [(blockOk_iff.1 h).2.2]
  | false =>
    symm
    rw [decide_eq_false_iff_not]
    intro hl
    have : blockOk (mg a b) = true := blockOk_iff.2 ⟨fun x hx => (mg_mem hx).elim (a1 x) (b1 x), mg_asc a2, hl⟩
    rw [h] at this; cases this
theorem foldl_take {α β : Type} [Inhabited α] (f : β → α → β) (s : β) (l : List α) (k : Nat) (hk : k < l.length) : (l.take (k + 1)).foldl f s = f ((l.take k).foldl f s) (nth l k) := by
  rw [nth_eq l k hk, List.take_succ_eq_append_getElem hk, List.foldl_append]; rfl
theorem mg_take (a b : List Row) (k : Nat) (hk : k < b.length) : mg a (b.take (k + 1)) = ins (nth b k) (mg a (b.take k)) := foldl_take _ _ _ _ hk
theorem mg_take_len (a b : List Row) (k : Nat) (hk : k ≤ b.length) : (mg a (b.take k)).length ≤ a.length + b.length := by
  have := (mg_len (b.take k) a).2
  rw [List.length_take] at this; omega
theorem e_impl_BlockMerge (a b : List Row) (ha : a.length ≤ 1048576) (hb : b.length ≤ 1048576) : p_impl_BlockMerge a b = some (if blockOk a = true ∧ blockOk b = true ∧ (mg a b).length ≤ 24 then (mg a b, true) else ([], false)) := by
  have m : (1048576 : Nat) ≤ maxLen := by decide
  unfold p_impl_BlockMerge
  rw [e_impl_BlockOk a (Nat.le_trans ha m), bd_some]
  cases h1 : blockOk a with
  | false => simp
  | true =>
    simp only [Bool.not_true, cond_false, e_impl_BlockOk b (Nat.le_trans hb m), bd_some]
    cases h2 : blockOk b with
    | false => simp
    | true =>
      have la := (blockOk_iff.1 h1).2.2
      have lb := (blockOk_iff.1 h2).2.2
      have g1 : room (([] : List Row).length + a.length) := by unfold room; simp; omega
      simp only [Bool.not_true, cond_false, gd.yes g1, List.nil_append]
      have := lp_for (body := p_impl_BlockMerge_b0 b) (fun k => (mg a (b.take k), (k : Int))) b.length (mg a b) (fun k hk => by
        unfold p_impl_BlockMerge_b0
        have hl := mg_take_len a b k (by omega)
        simp only [dlt hk, cond_true, gd.yes (ixN hk), Int.toNat_natCast, e_put _ (nth b k) (show (mg a (b.take k)).length ≤ 1048576 by omega), bd_some, gd.yes (i64S hk (by omega)), mg_take a b k hk]
        rfl) (by unfold p_impl_BlockMerge_b0; simp)
      have e0 : lp (p_impl_BlockMerge_b0 b) (a, 0) = some (mg a b) := this
      rw [e0, bd_some]
      by_cases hl : (mg a b).length ≤ 24
      · have : ¬ (24 : Int) < ((mg a b).length : Int) := by omega
        simp [this, hl]
      · have : (24 : Int) < ((mg a b).length : Int) := by omega
        simp [this, hl]
theorem e_spec_l2Merge (a b : List Row) (ha : a.length ≤ 100) (hb : b.length ≤ 100) (h : Asc a) : p_spec_l2Merge a b = some (mg a b) := by
  unfold p_spec_l2Merge
  have g1 : room (([] : List Row).length + a.length) := by unfold room; simp; omega
  simp only [gd.yes g1, List.nil_append]
  have := lp_for (body := p_spec_l2Merge_b0 b) (fun k => (mg a (b.take k), (k : Int))) b.length (mg a b) (fun k hk => by
    unfold p_spec_l2Merge_b0
    have hl := mg_take_len a b k (by omega)
    simp only [dlt hk, cond_true, gd.yes (ixN hk), Int.toNat_natCast, e_l2Put _ (nth b k) (show (mg a (b.take k)).length ≤ 1048576 by omega), l2_ins _ _ (mg_asc h), bd_some, gd.yes (i64S hk (by omega)), mg_take a b k hk]
    rfl) (by unfold p_spec_l2Merge_b0; simp)
  have e0 : lp (p_spec_l2Merge_b0 b) (a, 0) = some (mg a b) := this
  rw [e0]; rfl
/-- a part is valid -/
theorem partOk_of {p : Part} (h1 : p.1.length = p.2.length) (h2 : ∀ x ∈ p.1, 1 ≤ x ∧ x ≤ 6) (h3 : p.1.Pairwise (· < ·)) (h4 : ∀ b ∈ p.2, 0 < b.length ∧ blockOk b = true) : partOk p = true := by
  unfold partOk
  rw [Bool.and_eq_true, decide_eq_true_eq, allN_iff]
  refine ⟨h1, fun k hk => ?_⟩
  have a1 := h2 _ (nth_mem hk)
  have a2 := h4 _ (nth_mem (show k < p.2.length by omega))
  have a3 : 0 < k → nth p.1 (k - 1) < nth p.1 k := fun h0 => by
    have := List.pairwise_iff_getElem.1 h3 (k - 1) k (by omega) hk (by omega)
    rwa [← nth_eq p.1 (k - 1) (by omega), ← nth_eq p.1 k hk] at this
  have a4 : inn 1 (nth p.1 k) 6 = true := by unfold inn; simp; omega
  have a5 : ¬ (nth p.2 k).length = 0 := by omega
  simp only [partBad, a4, a2.2, Bool.not_true, Bool.false_or, Bool.or_false]
  rw [decide_eq_false a5, Bool.or_false, Bool.and_eq_false_iff, decide_eq_false_iff_not, decide_eq_false_iff_not]
  rcases Nat.eq_zero_or_pos k with h0 | h0
  · exact .inl (by omega)
  · exact .inr (by have := a3 h0; omega)
theorem mkP_rng : ∀ (l : List (List Row)) (i : Nat), ∀ x ∈ (mkP i l).1, ∃ j, j < l.length ∧ x = ((i + j + 1 : Nat) : Int) ∧ 0 < (nth l j).length
  | [], i, x, h => by simp [mkP] at h
  | b :: t, i, x, h => by
    unfold mkP at h
    have step : x ∈ (mkP (i + 1) t).1 → ∃ j, j < (b :: t).length ∧ x = ((i + j + 1 : Nat) : Int) ∧ 0 < (nth (b :: t) j).length := fun h => by
      obtain ⟨j, h1, h2, h3⟩ := mkP_rng t (i + 1) x h
      exact ⟨j + 1, by simpa using h1, by rw [h2]; omega, h3⟩
    split at h
    · rename_i hb
      rcases List.mem_cons.1 h with rfl | h
      · exact ⟨0, by simp, rfl, hb⟩
      · exact step h
    · exact step h
theorem mkP_asc : ∀ (l : List (List Row)) (i : Nat), (mkP i l).1.Pairwise (· < ·)
  | [], i => by simp [mkP]
  | b :: t, i => by
    unfold mkP
    split
    · refine List.pairwise_cons.2 ⟨fun x hx => ?_, mkP_asc t (i + 1)⟩
      obtain ⟨j, _, h, _⟩ := mkP_rng t (i + 1) x hx
      omega
    · exact mkP_asc t (i + 1)
theorem mkP_pos : ∀ (l : List (List Row)) (i : Nat), ∀ b ∈ (mkP i l).2, 0 < b.length
  | [], i, x, h => by simp [mkP] at h
  | b :: t, i, x, h => by
    unfold mkP at h
    split at h
    · rename_i hb
      rcases List.mem_cons.1 h with rfl | h
      · exact hb
      · exact mkP_pos t (i + 1) x h
    · exact mkP_pos t (i + 1) x h
theorem mkP_has : ∀ (l : List (List Row)) (i j : Nat), j < l.length → 0 < (nth l j).length → ∃ k, k < (mkP i l).1.length ∧ nth (mkP i l).1 k = ((i + j + 1 : Nat) : Int) ∧ nth (mkP i l).2 k = nth l j
  | [], i, j, h, _ => by simp at h
  | b :: t, i, 0, h, hp => by
    have hb : 0 < b.length := hp
    unfold mkP
    rw [if_pos hb]
    exact ⟨0, by simp, rfl, rfl⟩
  | b :: t, i, j + 1, h, hp => by
    obtain ⟨k, h1, h2, h3⟩ := mkP_has t (i + 1) j (by simpa using h) hp
    unfold mkP
    split
    · exact ⟨k + 1, by simpa using h1, by rw [show nth (_ :: (mkP (i + 1) t).1) (k + 1) = nth (mkP (i + 1) t).1 k from rfl, h2]; omega, h3⟩
    · exact ⟨k, h1, by rw [h2]; omega, h3⟩
theorem mkP_snoc : ∀ (l : List (List Row)) (i : Nat) (b : List Row), mkP i (l ++ [b]) = if 0 < b.length then ((mkP i l).1 ++ [((i + l.length + 1 : Nat) : Int)], (mkP i l).2 ++ [b]) else mkP i l
  | [], i, b => by simp only [List.nil_append, mkP]; split <;> rfl
  | c :: t, i, b => by
    simp only [List.cons_append, mkP, mkP_snoc t (i + 1) b, List.length_cons]
    have e : i + 1 + t.length + 1 = i + (t.length + 1) + 1 := by omega
    rw [e]
    split <;> split <;> simp
/-- where the ids ascend, the rows of an id that stands there -/
theorem rowsOf_at {p : Part} (hp : p.1.Pairwise (· < ·)) {k : Nat} (hk : k < p.1.length) : rowsOf p (nth p.1 k) = nth p.2 k := by
  unfold rowsOf
  rw [place_yes hk (by simp) fun i hi => by
    have := List.pairwise_iff_getElem.1 hp i k (by omega) hk hi
    rw [← nth_eq p.1 i (by omega), ← nth_eq p.1 k hk] at this
    simp; omega]
  rw [if_neg (by omega)]; rfl
theorem rowsOf_no {p : Part} {id : Int} (h : ∀ x ∈ p.1, x ≠ id) : rowsOf p id = [] := by
  unfold rowsOf
  rw [place_no (allN_iff.2 fun i hi => by simpa using h _ (nth_mem hi)), if_pos (by decide)]
theorem partOk_asc {p : Part} (h : partOk p = true) : p.1.Pairwise (· < ·) := List.pairwise_iff_getElem.2 fun i j hi hj hij => by
  rw [← nth_eq p.1 i hi, ← nth_eq p.1 j hj]; exact ids_mono (partOk_iff h).2.2.1 hij hj
theorem partOk_rng {p : Part} (h : partOk p = true) : ∀ x ∈ p.1, 1 ≤ x ∧ x ≤ 6 := fun x hx => by
  obtain ⟨i, hi, rfl⟩ := List.mem_iff_getElem.1 hx
  rw [← nth_eq p.1 i hi]; exact (partOk_iff h).2.1 i hi
theorem rowsOf_ok {p : Part} (h : partOk p = true) (id : Int) : blockOk (rowsOf p id) = true := by
  unfold rowsOf
  rcases place_lt (l := p.1) (id := id) with hp | ⟨k, hk, hp⟩
  · rw [if_pos hp]; rfl
  · rw [hp, if_neg (by omega)]; exact ((partOk_iff h).2.2.2 k (by have := (partOk_iff h).1; omega)).2
theorem rowsOf_out {p : Part} (h : partOk p = true) {id : Int} (hi : ¬ (1 ≤ id ∧ id ≤ 6)) : rowsOf p id = [] := rowsOf_no fun x hx e => hi (e ▸ partOk_rng h x hx)
theorem partOk_small {p : Part} (h : partOk p = true) : small p := by
  obtain ⟨h1, h2, h3, h4⟩ := partOk_iff h
  have hk : ∀ k : Nat, k < p.1.length → ((k : Nat) : Int) + 1 ≤ nth p.1 k := fun k => by
    induction k with
    | zero => intro hk; have := (h2 0 hk).1; omega
    | succ k ih =>
      intro hk
      have := h3 (k + 1) (by omega) hk
      rw [show k + 1 - 1 = k by omega] at this
      have := ih (by omega); omega
  have hl : p.1.length ≤ 10 := by
    rcases Nat.lt_or_ge p.1.length 7 with h' | h'
    · omega
    · have := hk 6 (by omega); have := (h2 6 (by omega)).2; omega
  refine ⟨hl, by omega, fun b hb => ?_⟩
  obtain ⟨i, hi, rfl⟩ := List.mem_iff_getElem.1 hb
  have := (blockOk_iff.1 (h4 i hi).2).2.2
  rw [nth_eq p.2 i hi] at this; omega
def blk (a b : Part) (id : Int) : List Row := mg (rowsOf a id) (rowsOf b id)
def blks (a b : Part) (n : Nat) : List (List Row) := (List.range n).map fun i => blk a b ((i + 1 : Nat) : Int)
def pmP (a b : Part) : Part := mkP 0 (blks a b 6)
def pmOk (a b : Part) : Bool := partOk a && partOk b && allN 6 fun i => decide (24 < (blk a b ((i + 1 : Nat) : Int)).length)
def pm (a b : Part) : Part × Bool := if pmOk a b = true then (pmP a b, true) else (([], []), false)
theorem blks_len (a b : Part) (n : Nat) : (blks a b n).length = n := by simp [blks]
theorem blks_nth (a b : Part) {n i : Nat} (h : i < n) : nth (blks a b n) i = blk a b ((i + 1 : Nat) : Int) := by
  rw [nth_eq _ i (by rw [blks_len]; exact h)]; simp [blks]
theorem blks_succ (a b : Part) (n : Nat) : blks a b (n + 1) = blks a b n ++ [blk a b ((n + 1 : Nat) : Int)] := by simp [blks, List.range_succ]
theorem blk_out {a b : Part} (ha : partOk a = true) (hb : partOk b = true) {id : Int} (h : ¬ (1 ≤ id ∧ id ≤ 6)) : blk a b id = [] := by
  unfold blk; rw [rowsOf_out ha h, rowsOf_out hb h]; rfl
theorem pmOk_iff {a b : Part} : pmOk a b = true ↔ partOk a = true ∧ partOk b = true ∧ ∀ id, (blk a b id).length ≤ 24 := by
  unfold pmOk
  rw [Bool.and_eq_true, Bool.and_eq_true, allN_iff]
  constructor
  · rintro ⟨⟨h1, h2⟩, h3⟩
    refine ⟨h1, h2, fun id => ?_⟩
    by_cases hi : 1 ≤ id ∧ id ≤ 6
    · have := h3 (id - 1).toNat (by omega)
      rw [show (((id - 1).toNat + 1 : Nat) : Int) = id by omega] at this
      simpa using this
    · rw [blk_out h1 h2 hi]; simp
  · rintro ⟨h1, h2, h3⟩
    exact ⟨⟨h1, h2⟩, fun i hi => by simpa using h3 _⟩
theorem blk_ok {a b : Part} (ha : partOk a = true) (hb : partOk b = true) (id : Int) : blockOk (blk a b id) = decide ((blk a b id).length ≤ 24) := mg_ok (rowsOf_ok ha id) (rowsOf_ok hb id)
theorem blk_len {a b : Part} (ha : partOk a = true) (hb : partOk b = true) (id : Int) : (blk a b id).length ≤ 48 := by
  have h1 := (blockOk_iff.1 (rowsOf_ok ha id)).2.2
  have h2 := (blockOk_iff.1 (rowsOf_ok hb id)).2.2
  have := (mg_len (rowsOf b id) (rowsOf a id)).2
  unfold blk; omega
theorem pmP_rows {a b : Part} (ha : partOk a = true) (hb : partOk b = true) (id : Int) : rowsOf (pmP a b) id = blk a b id := by
  by_cases hi : 1 ≤ id ∧ id ≤ 6
  · obtain ⟨j, hj, rfl⟩ : ∃ j : Nat, j < 6 ∧ id = ((j + 1 : Nat) : Int) := ⟨(id - 1).toNat, by omega, by omega⟩
    by_cases hp : 0 < (blk a b ((j + 1 : Nat) : Int)).length
    · obtain ⟨k, h1, h2, h3⟩ := mkP_has (blks a b 6) 0 j (by rw [blks_len]; exact hj) (by rw [blks_nth a b hj]; exact hp)
      have := rowsOf_at (p := pmP a b) (mkP_asc _ _) h1
      have e : nth (pmP a b).1 k = ((j + 1 : Nat) : Int) := by rw [show nth (pmP a b).1 k = _ from h2]; omega
      rw [e] at this
      rw [this, show nth (pmP a b).2 k = _ from h3, blks_nth a b hj]
    · rw [rowsOf_no fun x hx e => ?_]
      · exact (List.length_eq_zero_iff.1 (by omega)).symm
      · obtain ⟨j', g1, g2, g3⟩ := mkP_rng (blks a b 6) 0 x hx
        rw [blks_len] at g1
        have : j' = j := by omega
        subst this
        rw [blks_nth a b g1] at g3
        exact hp g3
  · rw [blk_out ha hb hi]
    refine rowsOf_no fun x hx e => hi ?_
    obtain ⟨j', g1, g2, g3⟩ := mkP_rng (blks a b 6) 0 x hx
    rw [blks_len] at g1
    omega
theorem pmP_ok {a b : Part} (ha : partOk a = true) (hb : partOk b = true) : partOk (pmP a b) = allN 6 fun i => decide (24 < (blk a b ((i + 1 : Nat) : Int)).length) := by
  cases h : allN 6 fun i => decide (24 < (blk a b ((i + 1 : Nat) : Int)).length) with
  | true =>
    have h := allN_iff.1 h
    refine partOk_of (mkP_len _ _).1 (fun x hx => ?_) (mkP_asc _ _) fun y hy => ⟨mkP_pos _ _ y hy, ?_⟩
    · obtain ⟨j', g1, g2, g3⟩ := mkP_rng (blks a b 6) 0 x hx
      rw [blks_len] at g1; omega
    · have := mkP_mem _ _ y hy
      obtain ⟨i, hi, rfl⟩ := List.mem_map.1 this
      rw [blk_ok ha hb]
      have := h i (List.mem_range.1 hi)
      simpa using this
  | false =>
    obtain ⟨j, hj, h1, _⟩ := first_bad h
    have h1 : 24 < (blk a b ((j + 1 : Nat) : Int)).length := by simpa using h1
    cases h2 : partOk (pmP a b) with
    | false => rfl
    | true =>
      have := (blockOk_iff.1 (rowsOf_ok h2 ((j + 1 : Nat) : Int))).2.2
      rw [pmP_rows ha hb] at this
      omega
theorem pm_part {a b : Part} (h : pmOk a b = true) : partOk (pmP a b) = true := by
  obtain ⟨h1, h2, h3⟩ := pmOk_iff.1 h
  rw [pmP_ok h1 h2]
  exact allN_iff.2 fun i _ => by simpa using h3 _
theorem pm_small (a b : Part) : small (pm a b).1 := by
  unfold pm
  split
  · rename_i h; exact partOk_small (pm_part h)
  · exact ⟨by simp, by simp, by simp⟩
theorem e_impl_PartMerge (a b : Part) (oka : Dp.ok a) (okb : Dp.ok b) (wa : Wt.w a ≤ 1048576) (wb : Wt.w b ≤ 1048576) : p_impl_PartMerge a b = some (pm a b) := by
  unfold p_impl_PartMerge
  rw [e_impl_PartOk a oka, bd_some]
  cases h1 : partOk a with
  | false => simp [pm, pmOk, h1]
  | true =>
    simp only [Bool.not_true, cond_false, e_impl_PartOk b okb, bd_some]
    cases h2 : partOk b with
    | false => simp [pm, pmOk, h1, h2]
    | true =>
      simp only [Bool.not_true, cond_false]
      have hb : ∀ k : Nat, k < 6 → p_impl_PartMerge_b0 a b ((mkP 0 (blks a b k)).1, (mkP 0 (blks a b k)).2, ((k + 1 : Nat) : Int)) = some (if 24 < (blk a b ((k + 1 : Nat) : Int)).length then .inr (.inr (([], []), false)) else .inl ((mkP 0 (blks a b (k + 1))).1, (mkP 0 (blks a b (k + 1))).2, ((k + 1 + 1 : Nat) : Int))) := fun k hk => by
        unfold p_impl_PartMerge_b0
        have g0 : ((k + 1 : Nat) : Int) ≤ 6 := by omega
        have b1 := rowsOf_ok h1 ((k + 1 : Nat) : Int)
        have b2 := rowsOf_ok h2 ((k + 1 : Nat) : Int)
        have l1 := (blockOk_iff.1 b1).2.2
        have l2 := (blockOk_iff.1 b2).2.2
        have e1 : partOf a ((k + 1 : Nat) : Int) = rowsOf a ((k + 1 : Nat) : Int) := by unfold partOf; rw [if_pos h1]
        have e2 : partOf b ((k + 1 : Nat) : Int) = rowsOf b ((k + 1 : Nat) : Int) := by unfold partOf; rw [if_pos h2]
        simp only [g0, decide_true, cond_true, e_impl_PartOf a _ oka wa, e_impl_PartOf b _ okb wb, bd_some, e1, e2, e_impl_BlockMerge _ _ (show (rowsOf a ((k + 1 : Nat) : Int)).length ≤ 1048576 by omega) (show (rowsOf b ((k + 1 : Nat) : Int)).length ≤ 1048576 by omega), b1, b2, true_and]
        rw [show mg (rowsOf a ((k + 1 : Nat) : Int)) (rowsOf b ((k + 1 : Nat) : Int)) = blk a b ((k + 1 : Nat) : Int) from rfl]
        by_cases hl : (blk a b ((k + 1 : Nat) : Int)).length ≤ 24
        · rw [if_pos hl, if_neg (by omega)]
          have q1 := (mkP_len (blks a b k) 0).1
          have q2 := (mkP_len (blks a b k) 0).2
          rw [blks_len] at q2
          have r1 : room ((mkP 0 (blks a b k)).1.length + 1) := by unfold room; omega
          have r2 : room ((mkP 0 (blks a b k)).2.length + 1) := by unfold room; omega
          have r3 : I64 (((k + 1 : Nat) : Int) + 1) := by unfold I64; omega
          simp only [Bool.not_true, cond_false, gd.yes r1, gd.yes r2, gd.yes r3, blks_succ, mkP_snoc, blks_len]
          by_cases hz : 0 < (blk a b ((k + 1 : Nat) : Int)).length
          · have hz' : (0 : Int) < ((blk a b ((k + 1 : Nat) : Int)).length : Int) := by omega
            simp only [hz, hz', decide_true, cond_true, if_true]
            rw [show 0 + k + 1 = k + 1 by omega]; rfl
          · have hz' : ¬ (0 : Int) < ((blk a b ((k + 1 : Nat) : Int)).length : Int) := by omega
            simp only [hz, hz', decide_false, cond_false, if_false]; rfl
        · rw [if_neg hl, if_pos (by omega)]; rfl
      rcases lp_scan (body := p_impl_PartMerge_b0 a b) (fun k => ((mkP 0 (blks a b k)).1, (mkP 0 (blks a b k)).2, ((k + 1 : Nat) : Int))) 6 (fun i => decide (24 < (blk a b ((i + 1 : Nat) : Int)).length)) (.inl (pmP a b)) (fun _ => .inr (([], []), false)) (fun k hk _ h => by
          have h' : ¬ 24 < (blk a b ((k + 1 : Nat) : Int)).length := by simpa using h
          rw [hb k hk, if_neg h']) (fun k hk _ h => by
          have h' : 24 < (blk a b ((k + 1 : Nat) : Int)).length := by simpa using h
          rw [hb k hk, if_pos h']) (fun _ => by unfold p_impl_PartMerge_b0; simp [pmP]) with ⟨q1, q2⟩ | ⟨q1, k, _, _, _, q2⟩
      · have e0 : lp (p_impl_PartMerge_b0 a b) (([] : List Int), ([] : List (List Row)), 1) = some (.inl (pmP a b)) := q2
        have hp : pm a b = (pmP a b, true) := by unfold pm; rw [if_pos (by unfold pmOk; rw [h1, h2, q1]; rfl)]
        rw [e0, hp]; rfl
      · have e0 : lp (p_impl_PartMerge_b0 a b) (([] : List Int), ([] : List (List Row)), 1) = some (.inr (([], []), false)) := q2
        have hp : pm a b = (([], []), false) := by unfold pm; rw [if_neg (by unfold pmOk; rw [h1, h2, q1]; simp)]
        rw [e0, hp]; rfl
theorem e_spec_PartMerge (a b : Part) (oka : Dp.ok a) (okb : Dp.ok b) : p_spec_PartMerge a b = some (pm a b) := by
  unfold p_spec_PartMerge
  rw [e_spec_PartOk a oka, bd_some]
  cases h1 : partOk a with
  | false => simp [pm, pmOk, h1]
  | true =>
    simp only [Bool.not_true, cond_false, e_spec_PartOk b okb, bd_some]
    cases h2 : partOk b with
    | false => simp [pm, pmOk, h1, h2]
    | true =>
      have a1 := partOk_len' h1
      have a2 := partOk_len' h2
      have hm : p_spec_l12Merge a b = some (pmP a b) := by
        unfold p_spec_l12Merge
        have := lp_for (body := p_spec_l12Merge_b0 a b) (fun k => (blks a b k, ((k + 1 : Nat) : Int))) 6 (blks a b 6) (fun k hk => by
          unfold p_spec_l12Merge_b0
          have g0 : ((k + 1 : Nat) : Int) ≤ 6 := by omega
          have b1 := rowsOf_ok h1 ((k + 1 : Nat) : Int)
          have b2 := rowsOf_ok h2 ((k + 1 : Nat) : Int)
          have l1 := (blockOk_iff.1 b1).2.2
          have l2 := (blockOk_iff.1 b2).2.2
          have r1 : room ((blks a b k).length + 1) := by rw [blks_len]; unfold room; omega
          have r3 : I64 (((k + 1 : Nat) : Int) + 1) := by unfold I64; omega
          simp only [g0, decide_true, cond_true, e_l12Of a _ oka a1, e_l12Of b _ okb a2, bd_some, e_spec_l2Merge _ _ (show (rowsOf a ((k + 1 : Nat) : Int)).length ≤ 100 by omega) (show (rowsOf b ((k + 1 : Nat) : Int)).length ≤ 100 by omega) (blockOk_iff.1 b1).2.1, gd.yes r1, gd.yes r3, blks_succ]
          rfl) (by unfold p_spec_l12Merge_b0; simp)
        have e0 : lp (p_spec_l12Merge_b0 a b) (([] : List (List Row)), 1) = some (blks a b 6) := this
        rw [e0, bd_some, e_l12Make _ (by rw [blks_len]; omega) fun y hy => by
          obtain ⟨i, _, rfl⟩ := List.mem_map.1 hy
          have := blk_len h1 h2 ((i + 1 : Nat) : Int); omega]
        rfl
      have okp : Dp.ok (pmP a b) := by
        have hl := mkP_len (blks a b 6) 0
        rw [blks_len] at hl
        have h1' : (pmP a b).1.length ≤ 6 := hl.2
        have h2' : (pmP a b).2.length ≤ 6 := by rw [← show (pmP a b).1.length = (pmP a b).2.length from hl.1]; exact hl.2
        refine small_ok ⟨by omega, by omega, fun y hy => ?_⟩
        have := mkP_mem _ _ y hy
        obtain ⟨i, hi, rfl⟩ := List.mem_map.1 this
        have := blk_len h1 h2 ((i + 1 : Nat) : Int); omega
      simp only [Bool.not_true, cond_false, hm, bd_some, e_spec_PartOk _ okp, pmP_ok h1 h2]
      cases hq : allN 6 fun i => decide (24 < (blk a b ((i + 1 : Nat) : Int)).length) with
      | true =>
        have hp : pm a b = (pmP a b, true) := by unfold pm; rw [if_pos (by unfold pmOk; rw [h1, h2, hq]; rfl)]
        rw [hp]; rfl
      | false =>
        have hp : pm a b = (([], []), false) := by unfold pm; rw [if_neg (by unfold pmOk; rw [h1, h2, hq]; simp)]
        rw [hp]; rfl
theorem e_lyInts (a b : List Int) (ha : a.length ≤ 9223372036854775807) : p_laws_lyInts a b = some (decide (a = b)) := by
  unfold p_laws_lyInts
  by_cases hl : a.length = b.length
  · have hl2 : (a.length : Int) = (b.length : Int) := by omega
    simp only [hl2, decide_true, Bool.not_true, cond_false]
    refine eq_loop hl (fun k hk => ?_) ?_
    · have hk2 : k < b.length := by omega
      unfold p_laws_lyInts_b0
      simp only [dlt hk, cond_true, gd.yes (ixN hk), gd.yes (ixN hk2), Int.toNat_natCast, gd.yes (i64S hk ha)]
      by_cases h : nth a k = nth b k <;> simp [h]
    · unfold p_laws_lyInts_b0; simp
  · have h2 : ¬ (a.length : Int) = (b.length : Int) := by omega
    have h3 : a ≠ b := fun e => hl (by rw [e])
    simp [h2, h3]
theorem e_lyPart (a b : Part) (ok : Dp.ok a) : p_laws_lyPart a b = some (decide (a = b)) := by
  have m : maxLen ≤ 9223372036854775807 := by decide
  unfold p_laws_lyPart
  rw [e_lyInts a.1 b.1 (Nat.le_trans ok.1.1 m), bd_some]
  have he : a = b ↔ a.1 = b.1 ∧ a.2 = b.2 := ⟨fun h => by rw [h]; exact ⟨rfl, rfl⟩, fun h => Prod.ext h.1 h.2⟩
  by_cases h1 : a.1 = b.1
  · simp only [h1, decide_true, Bool.not_true, cond_false, bd_some]
    by_cases hl : a.2.length = b.2.length
    · have hl2 : (a.2.length : Int) = (b.2.length : Int) := by omega
      have e0 : decide (a = b) = decide (a.2 = b.2) := by
        by_cases h2 : a.2 = b.2
        · simp [he, h1, h2]
        · simp [he, h1, h2]
      rw [e0]
      simp only [hl2, decide_true, Bool.not_true, cond_false]
      refine eq_loop hl (fun k hk => ?_) ?_
      · have hk2 : k < b.2.length := by omega
        unfold p_laws_lyPart_b0
        simp only [dlt hk, cond_true, gd.yes (ixN hk), gd.yes (ixN hk2), Int.toNat_natCast, e_lyRows _ _ (Nat.le_trans (ok.2.2 k hk).1 m), bd_some, gd.yes (i64S hk (Nat.le_trans ok.2.1 m))]
        by_cases h : nth a.2 k = nth b.2 k <;> simp [h]
      · unfold p_laws_lyPart_b0; simp
    · have h2 : ¬ (a.2.length : Int) = (b.2.length : Int) := by omega
      have h3 : ¬ a = b := fun e => hl (by rw [e])
      simp [h2, h3]
  · have h3 : ¬ a = b := fun e => h1 (by rw [e])
    simp [h1, h3]
theorem pm_true {a b : Part} (h : pmOk a b = true) : pm a b = (pmP a b, true) := by unfold pm; rw [if_pos h]
theorem pm_false {a b : Part} (h : ¬ pmOk a b = true) : pm a b = (([], []), false) := by unfold pm; rw [if_neg h]
theorem pmP_eq {a b : Part} (ha : partOk a = true) (hb : partOk b = true) (id : Int) : rowsOf (pmP a b) id = mg (rowsOf a id) (rowsOf b id) := pmP_rows ha hb id
theorem rowsOf_asc {p : Part} (h : partOk p = true) (id : Int) : Asc (rowsOf p id) := (blockOk_iff.1 (rowsOf_ok h id)).2.1
theorem rowsOf_24 {p : Part} (h : partOk p = true) (id : Int) : (rowsOf p id).length ≤ 24 := (blockOk_iff.1 (rowsOf_ok h id)).2.2
theorem e_lyAt (l : List Row) (t : Int) (hl : l.length ≤ 9223372036854775807) : p_laws_lyAt l t = some (match at? l t with | some v => (v, true) | none => (0, false)) := by
  unfold p_laws_lyAt
  rcases lp_scan (body := p_laws_lyAt_b0 l t) (fun k => (k : Int)) l.length (fun i => decide ((nth l i).1 = t)) (.inl ()) (fun k => .inr ((nth l k).2, true)) (fun k hk _ h => by
      have h' : ¬ (nth l k).1 = t := by simpa using h
      unfold p_laws_lyAt_b0; simp [hk, gd.yes (ixN hk), h', gd.yes (i64S hk hl)]) (fun k hk _ h => by
      have h' : (nth l k).1 = t := by simpa using h
      unfold p_laws_lyAt_b0; simp [hk, gd.yes (ixN hk), h']) (fun _ => by unfold p_laws_lyAt_b0; simp) with ⟨h1, h2⟩ | ⟨h1, k, hk, hb, hn, h2⟩
  · rw [show (lp (p_laws_lyAt_b0 l t) 0) = _ from h2, at_none fun x hx => ?_]
    · rfl
    · obtain ⟨i, hi, rfl⟩ := List.mem_iff_getElem.1 hx
      have := allN_iff.1 h1 i hi
      rw [nth_eq l i hi] at this
      simpa using this
  · rw [show (lp (p_laws_lyAt_b0 l t) 0) = _ from h2]
    have : at? l t = some (nth l k).2 := by
      clear h1 h2 hl
      have hb : (nth l k).1 = t := by simpa using hb
      induction l generalizing k with
      | nil => simp at hk
      | cons x l ih =>
        cases k with
        | zero =>
          have hb : x.1 = t := hb
          unfold at?; rw [if_pos hb]; rfl
        | succ k =>
          have h0 := hn 0 (by omega)
          have h0 : ¬ x.1 = t := by simpa [nth] using h0
          unfold at?
          rw [if_neg h0]
          have hb' : (nth l k).1 = t := hb
          exact ih k (by simpa using hk) (by simpa using hb') (fun i hi => by simpa [nth] using hn (i + 1) (by omega)) hb'
    rw [this]; rfl
theorem e_FnPartNewer (c : List UInt8) (_ : Dp.ok c) : p_laws_FnPartNewer c = some true := by
  unfold p_laws_FnPartNewer
  by_cases hc : (1048576 : Int) < (c.length : Int)
  · simp [hc]
  · obtain ⟨q, e2, hq1, hq2⟩ := d_DrawPartMerge c
    have ok1 := small_ok hq1
    have ok2 := small_ok hq2
    have w1 := small_w hq1
    have w2 := small_w hq2
    have sm := pm_small q.1 q.2
    have okm := small_ok sm
    simp only [hc, decide_false, cond_false, e2, bd_some, e_spec_PartMerge q.1 q.2 ok1 ok2, e_impl_PartMerge q.1 q.2 ok1 ok2 w1 w2, e_lyPart _ _ okm, decide_true, Bool.not_true]
    by_cases hm : pmOk q.1 q.2 = true
    · obtain ⟨ha, hb, _⟩ := pmOk_iff.1 hm
      have hp := pm_part hm
      have hsm := partOk_small hp
      have hbl := partOk_len' hb
      simp only [pm_true hm, Bool.not_true, cond_false]
      have := lp_for (body := p_laws_FnPartNewer_b0 q (pmP q.1 q.2, true)) (fun k => (k : Int)) q.2.1.length (.inl ()) (fun k hk => by
        unfold p_laws_FnPartNewer_b0
        have hk2 : k < q.2.2.length := by omega
        have er : partOf (pmP q.1 q.2) (nth q.2.1 k) = mg (rowsOf q.1 (nth q.2.1 k)) (nth q.2.2 k) := by
          unfold partOf; rw [if_pos hp, pmP_eq ha hb, rowsOf_at (partOk_asc hb) hk]
        have hbA : Asc (nth q.2.2 k) := by rw [← rowsOf_at (partOk_asc hb) hk]; exact rowsOf_asc hb _
        have hb24 : (nth q.2.2 k).length ≤ 24 := by rw [← rowsOf_at (partOk_asc hb) hk]; exact rowsOf_24 hb _
        have hl := (mg_len (nth q.2.2 k) (rowsOf q.1 (nth q.2.1 k))).2
        have h24 := rowsOf_24 ha (nth q.2.1 k)
        have hq := hq2.1
        simp only [dlt hk, cond_true, gd.yes (ixN hk), Int.toNat_natCast, e_impl_PartOf _ _ (small_ok hsm) (small_w hsm), er, bd_some]
        have h5 := lp_for (body := p_laws_FnPartNewer_b1 q (k : Int) (mg (rowsOf q.1 (nth q.2.1 k)) (nth q.2.2 k))) (fun j => (j : Int)) (nth q.2.2 k).length (.inl ()) (fun j hj => by
          unfold p_laws_FnPartNewer_b1
          have ha? : at? (mg (rowsOf q.1 (nth q.2.1 k)) (nth q.2.2 k)) (nth (nth q.2.2 k) j).1 = some (nth (nth q.2.2 k) j).2 := by
            rw [mg_at _ (rowsOf_asc ha _) hbA, at_mem hbA (nth_mem hj)]; rfl
          simp only [gd.yes (ixN hk2), Int.toNat_natCast, dlt hj, cond_true, gd.yes (ixN hj), e_lyAt _ _ (show (mg (rowsOf q.1 (nth q.2.1 k)) (nth q.2.2 k)).length ≤ 9223372036854775807 by omega), ha?, bd_some, gd.yes (i64S hj (by omega))]
          simp) (by unfold p_laws_FnPartNewer_b1; simp [gd.yes (ixN hk2)])
        have e5 : lp (p_laws_FnPartNewer_b1 q (k : Int) (mg (rowsOf q.1 (nth q.2.1 k)) (nth q.2.2 k))) 0 = some (.inl ()) := h5
        rw [e5]
        simp only [bd_some, sw, gd.yes (i64S hk (by omega))]
        rfl) (by unfold p_laws_FnPartNewer_b0; simp)
      have e0 : lp (p_laws_FnPartNewer_b0 q (pmP q.1 q.2, true)) 0 = some (.inl ()) := this
      rw [e0]; rfl
    · simp [pm_false hm]
end Go.Proofs.Ytephlhldhdopaaa
