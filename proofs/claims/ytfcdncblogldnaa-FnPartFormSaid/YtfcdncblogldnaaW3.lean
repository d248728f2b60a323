/- The walks: each function of the program that these laws reach computes what its plain function tells. Conditions: none. -/
import Derived.Test.YtfcdncblogldnaaW2
namespace Go.Proofs.Ytfcdncblogldnaa
open Go Go.Sx
noncomputable def p_spec_l2Put_b0 (v0 : (List Row)) (v1 : Row) (σ8 : (List Row) × Bool × Int) : Option (((List Row) × Bool × Int) ⊕ ((List Row) × Bool)) := cond (decide (σ8.2.2 < (v0.length : Int))) (bd (cond (!σ8.2.1) (gd (ix σ8.2.2 v0.length) <| some (decide (v1.1 ≤ ((nth v0 σ8.2.2.toNat).1)))) (some (false))) fun b17 => cond (b17) (gd (room (σ8.1.length + 1)) <| gd (ix σ8.2.2 v0.length) <| cond (!decide (((nth v0 σ8.2.2.toNat).1) = v1.1)) (gd (room ((σ8.1 ++ [v1]).length + 1)) <| gd (I64 (σ8.2.2 + 1)) <| some (.inl (((σ8.1 ++ [v1]) ++ [nth v0 σ8.2.2.toNat]), true, σ8.2.2 + 1))) (gd (I64 (σ8.2.2 + 1)) <| some (.inl ((σ8.1 ++ [v1]), true, σ8.2.2 + 1)))) (gd (ix σ8.2.2 v0.length) <| cond (!decide (((nth v0 σ8.2.2.toNat).1) = v1.1)) (gd (room (σ8.1.length + 1)) <| gd (I64 (σ8.2.2 + 1)) <| some (.inl ((σ8.1 ++ [nth v0 σ8.2.2.toNat]), σ8.2.1, σ8.2.2 + 1))) (gd (I64 (σ8.2.2 + 1)) <| some (.inl (σ8.1, σ8.2.1, σ8.2.2 + 1))))) (some (.inr (σ8.1, σ8.2.1)))
noncomputable def p_spec_l2Put (v0 : (List Row)) (v1 : Row) : Option ((List Row)) := bd (lp (p_spec_l2Put_b0 v0 v1) (([] : List Row), false, 0)) fun x4 => cond (!x4.2) (gd (room (x4.1.length + 1)) <| some (x4.1 ++ [v1])) (some x4.1)
theorem c_spec_l2Put {r : (List Row)} (v0 : (List Row)) (x_v0 : Option Addr × Nat) (v1 : Row) (H : p_spec_l2Put v0 v1 = some r) : Fn' Try.prog 66 #[.slice x_v0.1 v0.length x_v0.2, .agg #[.int .i64 (v1.1), .int .i64 (v1.2)]] [imm (.slice x_v0.1 v0.length x_v0.2) v0] [] (ι := Option Addr × Nat) (fun x => .slice x.1 r.length x.2) (fun _ => []) (fun x => [tree (.slice x.1 r.length x.2) r]) := by
  refine calls_of (args := [_, _]) Try.func66 rfl (by kernel_rfl) Try.ntmps66 (by simp) fun c => ?_
  unfold p_spec_l2Put at H
  refine Tr.seq ?_
  refine Tr.region ?_
  refine Rg.ed (e_box (t := 68) (v := .agg #[.int .i64 (v1.1), .int .i64 (v1.2)]) rfl) rfl (by decide) ?_
  rintro _ _ _ ⟨g1, rfl, rfl, rfl⟩
  refine Rg.q (v := .slice none 0 0) (Pu.qo (p_assign rfl)) (by decide) ?_
  refine Rg.nl ?_
  refine nT (?_)
  refine Tr.seq ?_
  refine Tr.region ?_
  refine Rg.ed (e_lit0 Row Try.underlying29 ty68) rfl (by decide) ?_
  rintro _ _ _ ⟨a2, c3, rfl, rfl, rfl⟩
  refine Rg.q (v := .slice a2 (([] : List Row).length) c3) (Pu.qo (p_assign rfl)) (by decide) ?_
  refine Rg.nl ?_
  refine nT (?_)
  refine Tr.seq ?_
  refine Tr.region ?_
  refine Rg.q (v := .bool (false)) (Pu.qo (p_assign rfl)) (by decide) ?_
  refine Rg.nl ?_
  refine nT (?_)
  refine Tr.seq ?_
  refine Tr.seq ?_
  refine Tr.region ?_
  refine Rg.q (v := .int .i64 (0)) (Pu.qo (p_assign rfl)) (by decide) ?_
  refine Rg.nl ?_
  refine nT (?_)
  obtain ⟨x4, hx5, H⟩ := bd.of H
  obtain ⟨n6, hx5⟩ := lp.of hx5
  refine tMidNC (ι := Option Addr × Nat) (fun ψ => [(3, .pointer (some ⟨g1, 0, none⟩)), (5, .slice ψ.1 x4.1.length ψ.2), (6, .bool (x4.2))]) (fun ψ => [box g1 68 [.int .i64 (v1.1), .int .i64 (v1.2)], tree (.slice ψ.1 x4.1.length ψ.2) x4.1]) ?_ ?_
  · refine Tr.block ?_
    refine tLoopC (ι := { q : Nat × ((List Row) × Bool × Int) × (Option Addr × Nat) // itr (p_spec_l2Put_b0 v0 v1) q.1 q.2.1 = some x4 }) (fun ζ => [(0, .slice x_v0.1 v0.length x_v0.2), (3, .pointer (some ⟨g1, 0, none⟩)), (5, .slice ζ.1.2.2.1 ζ.1.2.1.1.length ζ.1.2.2.2), (6, .bool (ζ.1.2.1.2.1)), (7, .int .i64 (ζ.1.2.1.2.2))]) (fun ζ => [box g1 68 [.int .i64 (v1.1), .int .i64 (v1.2)], tree (.slice ζ.1.2.2.1 ζ.1.2.1.1.length ζ.1.2.2.2) ζ.1.2.1.1]) (fun ζ => ζ.1.1) ⟨(n6, (([] : List Row), false, 0), (a2, c3)), hx5⟩ ⟨rfl, rfl, rfl, rfl, rfl, trivial⟩ (.cons Del.here.there (.cons Del.here .nil)) ?_
    rintro ⟨⟨m7, σ8, z9⟩, hk14⟩
    obtain ⟨m15, t11, e, H1, hi12, hb13⟩ := itr.of (n := m7) (s := σ8) hk14
    subst e; unfold p_spec_l2Put_b0 at H1
    show Tr _ _ _ _ _ [(0, .slice x_v0.1 v0.length x_v0.2), (3, .pointer (some ⟨g1, 0, none⟩)), (5, .slice z9.1 σ8.1.length z9.2), (6, .bool (σ8.2.1)), (7, .int .i64 (σ8.2.2))] _ [box g1 68 [.int .i64 (v1.1), .int .i64 (v1.2)], tree (.slice z9.1 σ8.1.length z9.2) σ8.1]
    refine Tr.seq ?_
    refine Tr.seq ?_
    refine Tr.region ?_
    refine Rg.q (v := .int .i64 (σ8.2.2)) (Pu.qo (p_move rfl)) (by decide) ?_
    refine Rg.q (v := .slice x_v0.1 v0.length x_v0.2) (Pu.qo (p_move rfl)) (by decide) ?_
    refine Rg.q (v := .int .i64 ((v0.length : Int))) (Pu.qo (p_len 68 Try.underlying29 rfl)) (by decide) ?_
    refine Rg.q (v := .bool (decide (σ8.2.2 < (v0.length : Int)))) (Pu.qo (p_lss rfl rfl)) (by decide) ?_
    refine Rg.nl ?_
    refine nT (?_)
    refine Tr.cond (b := decide (σ8.2.2 < (v0.length : Int))) rfl (fun h16 => ?_) (fun h16 => ?_)
    · have H1 := cdT h16 H1
      refine tSkip ?_
      refine nT (?_)
      refine Tr.seq ?_
      refine Tr.block ?_
      refine Tr.seq ?_
      obtain ⟨b17, j18, H1⟩ := bd.of H1
      refine tMid1 [(26, .bool (b17)), (0, .slice x_v0.1 v0.length x_v0.2), (3, .pointer (some ⟨g1, 0, none⟩)), (5, .slice z9.1 σ8.1.length z9.2), (6, .bool (σ8.2.1)), (7, .int .i64 (σ8.2.2))] ?_ ?_
      · refine tLinS [(0, .slice x_v0.1 v0.length x_v0.2), (3, .pointer (some ⟨g1, 0, none⟩)), (5, .slice z9.1 σ8.1.length z9.2), (6, .bool (σ8.2.1)), (7, .int .i64 (σ8.2.2))] Try.mixed (.inr (by kernel_rfl)) ⟨rfl, rfl, rfl, rfl, rfl, trivial⟩ rfl ?_
        refine Lin.q (v := .bool (σ8.2.1)) (by decide) (Pu.qo (p_move rfl)) ?_
        refine Lin.q (v := .bool (!σ8.2.1)) (by decide) (Pu.qo (p_not rfl)) ?_
        rcases Bool.eq_false_or_eq_true (!σ8.2.1) with h19 | h19
        · have j18 := cdT h19 j18
          refine Lin.q (v := .bool (true)) (by decide) (Qo.eqv (v := .bool (!σ8.2.1)) (Pu.qo (p_move rfl)) (congrArg Value.bool h19)) ?_
          refine Lin.g (v := .slice x_v0.1 v0.length x_v0.2) (by decide) rfl (Pu.qo (p_move rfl)) ?_
          refine Lin.g (v := .int .i64 (σ8.2.2)) (by decide) rfl (Pu.qo (p_move rfl)) ?_
          obtain ⟨h20, j18⟩ := gd.of j18
          refine Lin.g (v := elp x_v0.1 (σ8.2.2.toNat * Enc.sz Row + 0)) (by decide) rfl (q_ixg (l := v0) (E := fun i => Flat.enc (nth v0 i)) (oa := x_v0.1) Try.underlying29 ty68 rfl rfl h20 rfl (EntB.flat (Ent.b Ent.z))) ?_
          refine Lin.g (v := elp x_v0.1 (σ8.2.2.toNat * Enc.sz Row + 0)) (by decide) rfl (q_faeE (l := v0) (E := fun i => Flat.enc (nth v0 i)) (oa := x_v0.1) (j := 0) σ8.2.2.toNat fa68_0 rfl (EntB.flat (Ent.b Ent.z)) h20.lt rfl) ?_
          refine Lin.g (v := .int .i64 ((nth v0 σ8.2.2.toNat).1)) (by decide) rfl (q_lde (l := v0) (E := fun i => Flat.enc (nth v0 i)) (oa := x_v0.1) (i := σ8.2.2.toNat) (j := 0) ty3 rfl (EntB.flat (Ent.b Ent.z)) h20.lt rfl) ?_
          refine Lin.g (v := .pointer (some ⟨g1, 0, none⟩)) (by decide) rfl (Pu.qo (p_fabE fa68_0 rfl rfl)) ?_
          refine Lin.g (v := .int .i64 (v1.1)) (by decide) rfl (q_ldb ty3 rfl Has.here rfl) ?_
          refine Lin.g (v := .bool (decide (v1.1 ≤ ((nth v0 σ8.2.2.toNat).1)))) (by decide) rfl (Pu.qo (p_geq rfl rfl)) ?_
          refine Lin.q (v := .bool (decide (v1.1 ≤ ((nth v0 σ8.2.2.toNat).1)))) (by decide) (Pu.qo (p_pickT rfl rfl)) ?_
          have j18 := Option.some.inj j18; subst j18
          show At _ _ _ _ _ _
          exact n1 ⟨rfl, rfl, rfl, rfl, rfl, rfl, trivial⟩
        · have j18 := cdF h19 j18
          refine Lin.q (v := .bool (false)) (by decide) (Qo.eqv (v := .bool (!σ8.2.1)) (Pu.qo (p_move rfl)) (congrArg Value.bool h19)) ?_
          refine Lin.skip (by decide) rfl ?_
          refine Lin.skip (by decide) rfl ?_
          refine Lin.skip (by decide) rfl ?_
          refine Lin.skip (by decide) rfl ?_
          refine Lin.skip (by decide) rfl ?_
          refine Lin.skip (by decide) rfl ?_
          refine Lin.skip (by decide) rfl ?_
          refine Lin.skip (by decide) rfl ?_
          refine Lin.q (v := .bool (false)) (by decide) (Pu.qo (p_pickF rfl rfl)) ?_
          have j18 := Option.some.inj j18; subst j18
          show At _ _ _ _ _ _
          exact n1 ⟨rfl, rfl, rfl, rfl, rfl, rfl, trivial⟩
      refine Tr.cond (b := b17) rfl (fun h21 => ?_) (fun h21 => ?_)
      · have H1 := cdT h21 H1
        refine Tr.seq ?_
        refine Tr.region ?_
        refine Rg.q (v := .slice z9.1 σ8.1.length z9.2) (Pu.qo (p_move rfl)) (by decide) ?_
        refine Rg.q (v := .agg #[.int .i64 (v1.1), .int .i64 (v1.2)]) (q_ldbA ty68 rfl Has.here rfl) (by decide) ?_
        refine Rg.ed (e_lit (vs := [(0, .agg #[.int .i64 (v1.1), .int .i64 (v1.2)])]) [.int .i64 (v1.1), .int .i64 (v1.2)] Try.underlying29 ty68 rfl (by decide) (by decide) (by kernel_rfl)) rfl (by decide) ?_
        rintro _ _ _ ⟨g22, rfl, rfl, rfl⟩
        obtain ⟨h25, H1⟩ := gd.of H1
        refine Rg.ed (e_app1 (l := σ8.1) (α := Row) v1 ((), ()) Try.underlying29 ty68 rfl rfl (h25.b (by decide)) h25.x rfl (ShpT.wfa _) (.cons Del.here.there.there (.cons Del.here .nil))) rfl (by decide) ?_
        rintro _ _ _ ⟨a23, c24, rfl, rfl, rfl⟩
        refine Rg.q (v := .slice a23 ((σ8.1 ++ [v1]).length) c24) (Pu.qo (p_assign rfl)) (by decide) ?_
        refine Rg.nl ?_
        refine nT (?_)
        refine Tr.region ?_
        refine Rg.q (v := .bool (true)) (Pu.qo (p_assign rfl)) (by decide) ?_
        refine Rg.nl ?_
        refine nT (?_)
        refine Tr.seq ?_
        refine tLinS [(6, .bool (true)), (5, .slice a23 ((σ8.1 ++ [v1]).length) c24), (0, .slice x_v0.1 v0.length x_v0.2), (3, .pointer (some ⟨g1, 0, none⟩)), (7, .int .i64 (σ8.2.2))] Try.mixed (.inr (by kernel_rfl)) ⟨rfl, rfl, rfl, rfl, rfl, trivial⟩ rfl ?_
        refine Lin.q (v := .slice x_v0.1 v0.length x_v0.2) (by decide) (Pu.qo (p_move rfl)) ?_
        refine Lin.q (v := .int .i64 (σ8.2.2)) (by decide) (Pu.qo (p_move rfl)) ?_
        obtain ⟨h26, H1⟩ := gd.of H1
        refine Lin.q (v := elp x_v0.1 (σ8.2.2.toNat * Enc.sz Row + 0)) (by decide) (q_ixg (l := v0) (E := fun i => Flat.enc (nth v0 i)) (oa := x_v0.1) Try.underlying29 ty68 rfl rfl h26 rfl (EntB.flat (Ent.b Ent.z))) ?_
        refine Lin.q (v := elp x_v0.1 (σ8.2.2.toNat * Enc.sz Row + 0)) (by decide) (q_faeE (l := v0) (E := fun i => Flat.enc (nth v0 i)) (oa := x_v0.1) (j := 0) σ8.2.2.toNat fa68_0 rfl (EntB.flat (Ent.b Ent.z)) h26.lt rfl) ?_
        refine Lin.q (v := .int .i64 ((nth v0 σ8.2.2.toNat).1)) (by decide) (q_lde (l := v0) (E := fun i => Flat.enc (nth v0 i)) (oa := x_v0.1) (i := σ8.2.2.toNat) (j := 0) ty3 rfl (EntB.flat (Ent.b Ent.z)) h26.lt rfl) ?_
        refine Lin.q (v := .pointer (some ⟨g1, 0, none⟩)) (by decide) (Pu.qo (p_fabE fa68_0 rfl rfl)) ?_
        refine Lin.q (v := .int .i64 (v1.1)) (by decide) (q_ldb ty3 rfl Has.here.there rfl) ?_
        refine Lin.q (v := .bool (!decide (((nth v0 σ8.2.2.toNat).1) = v1.1))) (by decide) (Pu.qo (p_neq rfl rfl)) ?_
        show At _ _ _ _ _ _
        refine nT (?_)
        refine Tr.cond (b := !decide (((nth v0 σ8.2.2.toNat).1) = v1.1)) rfl (fun h27 => ?_) (fun h27 => ?_)
        · have H1 := cdT h27 H1
          refine Tr.region ?_
          refine Rg.q (v := .slice a23 ((σ8.1 ++ [v1]).length) c24) (Pu.qo (p_move rfl)) (by decide) ?_
          refine Rg.q (v := .slice x_v0.1 v0.length x_v0.2) (Pu.qo (p_move rfl)) (by decide) ?_
          refine Rg.q (v := .int .i64 (σ8.2.2)) (Pu.qo (p_move rfl)) (by decide) ?_
          refine Rg.q (v := elp x_v0.1 (σ8.2.2.toNat * Enc.sz Row + 0)) (q_ixg (l := v0) (E := fun i => Flat.enc (nth v0 i)) (oa := x_v0.1) Try.underlying29 ty68 rfl rfl h26 rfl (EntB.flat (Ent.b Ent.z))) (by decide) ?_
          refine Rg.q (v := .agg #[.int .i64 ((nth v0 σ8.2.2.toNat).1), .int .i64 ((nth v0 σ8.2.2.toNat).2)]) (q_ldeA (l := v0) (E := fun i => Flat.enc (nth v0 i)) (oa := x_v0.1) (i := σ8.2.2.toNat) ty68 rfl (EntB.flat (Ent.b Ent.z)) h26.lt) (by decide) ?_
          refine Rg.ed (e_lit (vs := [(0, .agg #[.int .i64 ((nth v0 σ8.2.2.toNat).1), .int .i64 ((nth v0 σ8.2.2.toNat).2)])]) [.int .i64 ((nth v0 σ8.2.2.toNat).1), .int .i64 ((nth v0 σ8.2.2.toNat).2)] Try.underlying29 ty68 rfl (by decide) (by decide) (by kernel_rfl)) rfl (by decide) ?_
          rintro _ _ _ ⟨g28, rfl, rfl, rfl⟩
          obtain ⟨h31, H1⟩ := gd.of H1
          refine Rg.ed (e_app1 (l := (σ8.1 ++ [v1])) (α := Row) (nth v0 σ8.2.2.toNat) ((), ()) Try.underlying29 ty68 rfl rfl (h31.b (by decide)) h31.x rfl (ShpT.wfa _) (.cons Del.here.there (.cons Del.here .nil))) rfl (by decide) ?_
          rintro _ _ _ ⟨a29, c30, rfl, rfl, rfl⟩
          refine Rg.q (v := .slice a29 (((σ8.1 ++ [v1]) ++ [nth v0 σ8.2.2.toNat]).length) c30) (Pu.qo (p_assign rfl)) (by decide) ?_
          refine Rg.nl ?_
          refine nB (nT (?_))
          refine Tr.region ?_
          refine Rg.q (v := .int .i64 (σ8.2.2)) (Pu.qo (p_move rfl)) (by decide) ?_
          obtain ⟨h32, H1⟩ := gd.of H1
          refine Rg.q (v := .int .i64 (σ8.2.2 + 1)) (Pu.qo (p_add rfl rfl h32)) (by decide) ?_
          refine Rg.q (v := .int .i64 (σ8.2.2 + 1)) (Pu.qo (p_assign rfl)) (by decide) ?_
          refine Rg.nl ?_
          exact nLC ⟨(m15, (((σ8.1 ++ [v1]) ++ [nth v0 σ8.2.2.toNat]), true, σ8.2.2 + 1), (a29, c30)), hi12 _ (Option.some.inj H1).symm⟩ (Nat.lt_succ_self _) ⟨rfl, rfl, rfl, rfl, rfl, trivial⟩ Ents.refl (.cons Del.here.there (.cons Del.here .nil))
        · have H1 := cdF h27 H1
          refine tSkip ?_
          refine nB (nT (?_))
          refine Tr.region ?_
          refine Rg.q (v := .int .i64 (σ8.2.2)) (Pu.qo (p_move rfl)) (by decide) ?_
          obtain ⟨h33, H1⟩ := gd.of H1
          refine Rg.q (v := .int .i64 (σ8.2.2 + 1)) (Pu.qo (p_add rfl rfl h33)) (by decide) ?_
          refine Rg.q (v := .int .i64 (σ8.2.2 + 1)) (Pu.qo (p_assign rfl)) (by decide) ?_
          refine Rg.nl ?_
          exact nLC ⟨(m15, ((σ8.1 ++ [v1]), true, σ8.2.2 + 1), (a23, c24)), hi12 _ (Option.some.inj H1).symm⟩ (Nat.lt_succ_self _) ⟨rfl, rfl, rfl, rfl, rfl, trivial⟩ Ents.refl (.cons Del.here.there (.cons Del.here .nil))
      · have H1 := cdF h21 H1
        refine tSkip ?_
        refine nT (?_)
        refine Tr.seq ?_
        refine tLinS [(0, .slice x_v0.1 v0.length x_v0.2), (3, .pointer (some ⟨g1, 0, none⟩)), (5, .slice z9.1 σ8.1.length z9.2), (6, .bool (σ8.2.1)), (7, .int .i64 (σ8.2.2))] Try.mixed (.inr (by kernel_rfl)) ⟨rfl, rfl, rfl, rfl, rfl, trivial⟩ rfl ?_
        refine Lin.q (v := .slice x_v0.1 v0.length x_v0.2) (by decide) (Pu.qo (p_move rfl)) ?_
        refine Lin.q (v := .int .i64 (σ8.2.2)) (by decide) (Pu.qo (p_move rfl)) ?_
        obtain ⟨h34, H1⟩ := gd.of H1
        refine Lin.q (v := elp x_v0.1 (σ8.2.2.toNat * Enc.sz Row + 0)) (by decide) (q_ixg (l := v0) (E := fun i => Flat.enc (nth v0 i)) (oa := x_v0.1) Try.underlying29 ty68 rfl rfl h34 rfl (EntB.flat (Ent.b Ent.z))) ?_
        refine Lin.q (v := elp x_v0.1 (σ8.2.2.toNat * Enc.sz Row + 0)) (by decide) (q_faeE (l := v0) (E := fun i => Flat.enc (nth v0 i)) (oa := x_v0.1) (j := 0) σ8.2.2.toNat fa68_0 rfl (EntB.flat (Ent.b Ent.z)) h34.lt rfl) ?_
        refine Lin.q (v := .int .i64 ((nth v0 σ8.2.2.toNat).1)) (by decide) (q_lde (l := v0) (E := fun i => Flat.enc (nth v0 i)) (oa := x_v0.1) (i := σ8.2.2.toNat) (j := 0) ty3 rfl (EntB.flat (Ent.b Ent.z)) h34.lt rfl) ?_
        refine Lin.q (v := .pointer (some ⟨g1, 0, none⟩)) (by decide) (Pu.qo (p_fabE fa68_0 rfl rfl)) ?_
        refine Lin.q (v := .int .i64 (v1.1)) (by decide) (q_ldb ty3 rfl Has.here rfl) ?_
        refine Lin.q (v := .bool (!decide (((nth v0 σ8.2.2.toNat).1) = v1.1))) (by decide) (Pu.qo (p_neq rfl rfl)) ?_
        show At _ _ _ _ _ _
        refine nT (?_)
        refine Tr.cond (b := !decide (((nth v0 σ8.2.2.toNat).1) = v1.1)) rfl (fun h35 => ?_) (fun h35 => ?_)
        · have H1 := cdT h35 H1
          refine Tr.region ?_
          refine Rg.q (v := .slice z9.1 σ8.1.length z9.2) (Pu.qo (p_move rfl)) (by decide) ?_
          refine Rg.q (v := .slice x_v0.1 v0.length x_v0.2) (Pu.qo (p_move rfl)) (by decide) ?_
          refine Rg.q (v := .int .i64 (σ8.2.2)) (Pu.qo (p_move rfl)) (by decide) ?_
          refine Rg.q (v := elp x_v0.1 (σ8.2.2.toNat * Enc.sz Row + 0)) (q_ixg (l := v0) (E := fun i => Flat.enc (nth v0 i)) (oa := x_v0.1) Try.underlying29 ty68 rfl rfl h34 rfl (EntB.flat (Ent.b Ent.z))) (by decide) ?_
          refine Rg.q (v := .agg #[.int .i64 ((nth v0 σ8.2.2.toNat).1), .int .i64 ((nth v0 σ8.2.2.toNat).2)]) (q_ldeA (l := v0) (E := fun i => Flat.enc (nth v0 i)) (oa := x_v0.1) (i := σ8.2.2.toNat) ty68 rfl (EntB.flat (Ent.b Ent.z)) h34.lt) (by decide) ?_
          refine Rg.ed (e_lit (vs := [(0, .agg #[.int .i64 ((nth v0 σ8.2.2.toNat).1), .int .i64 ((nth v0 σ8.2.2.toNat).2)])]) [.int .i64 ((nth v0 σ8.2.2.toNat).1), .int .i64 ((nth v0 σ8.2.2.toNat).2)] Try.underlying29 ty68 rfl (by decide) (by decide) (by kernel_rfl)) rfl (by decide) ?_
          rintro _ _ _ ⟨g36, rfl, rfl, rfl⟩
          obtain ⟨h39, H1⟩ := gd.of H1
          refine Rg.ed (e_app1 (l := σ8.1) (α := Row) (nth v0 σ8.2.2.toNat) ((), ()) Try.underlying29 ty68 rfl rfl (h39.b (by decide)) h39.x rfl (ShpT.wfa _) (.cons Del.here.there.there (.cons Del.here .nil))) rfl (by decide) ?_
          rintro _ _ _ ⟨a37, c38, rfl, rfl, rfl⟩
          refine Rg.q (v := .slice a37 ((σ8.1 ++ [nth v0 σ8.2.2.toNat]).length) c38) (Pu.qo (p_assign rfl)) (by decide) ?_
          refine Rg.nl ?_
          refine nB (nT (?_))
          refine Tr.region ?_
          refine Rg.q (v := .int .i64 (σ8.2.2)) (Pu.qo (p_move rfl)) (by decide) ?_
          obtain ⟨h40, H1⟩ := gd.of H1
          refine Rg.q (v := .int .i64 (σ8.2.2 + 1)) (Pu.qo (p_add rfl rfl h40)) (by decide) ?_
          refine Rg.q (v := .int .i64 (σ8.2.2 + 1)) (Pu.qo (p_assign rfl)) (by decide) ?_
          refine Rg.nl ?_
          exact nLC ⟨(m15, ((σ8.1 ++ [nth v0 σ8.2.2.toNat]), σ8.2.1, σ8.2.2 + 1), (a37, c38)), hi12 _ (Option.some.inj H1).symm⟩ (Nat.lt_succ_self _) ⟨rfl, rfl, rfl, rfl, rfl, trivial⟩ Ents.refl (.cons Del.here.there (.cons Del.here .nil))
        · have H1 := cdF h35 H1
          refine tSkip ?_
          refine nB (nT (?_))
          refine Tr.region ?_
          refine Rg.q (v := .int .i64 (σ8.2.2)) (Pu.qo (p_move rfl)) (by decide) ?_
          obtain ⟨h41, H1⟩ := gd.of H1
          refine Rg.q (v := .int .i64 (σ8.2.2 + 1)) (Pu.qo (p_add rfl rfl h41)) (by decide) ?_
          refine Rg.q (v := .int .i64 (σ8.2.2 + 1)) (Pu.qo (p_assign rfl)) (by decide) ?_
          refine Rg.nl ?_
          exact nLC ⟨(m15, (σ8.1, σ8.2.1, σ8.2.2 + 1), (z9.1, z9.2)), hi12 _ (Option.some.inj H1).symm⟩ (Nat.lt_succ_self _) ⟨rfl, rfl, rfl, rfl, rfl, trivial⟩ Ents.refl (.cons Del.here (.cons Del.here .nil))
    · have H1 := cdF h16 H1
      refine tExit (xT (xT (xE (?_))))
      have hx := hb13 _ (Option.some.inj H1).symm; subst hx
      exact nMC (z9.1, z9.2) ⟨rfl, rfl, rfl, trivial⟩ Ents.refl (.cons Del.here (.cons Del.here .nil))
  · intro y10
    show At _ _ [(3, .pointer (some ⟨g1, 0, none⟩)), (5, .slice y10.1 x4.1.length y10.2), (6, .bool (x4.2))] _ [box g1 68 [.int .i64 (v1.1), .int .i64 (v1.2)], tree (.slice y10.1 x4.1.length y10.2) x4.1] _
    refine nT (?_)
    refine Tr.seq ?_
    refine Tr.seq ?_
    refine Tr.region ?_
    refine Rg.q (v := .bool (x4.2)) (Pu.qo (p_move rfl)) (by decide) ?_
    refine Rg.q (v := .bool (!x4.2)) (Pu.qo (p_not rfl)) (by decide) ?_
    refine Rg.nl ?_
    refine nT (?_)
    refine Tr.cond (b := !x4.2) rfl (fun h42 => ?_) (fun h42 => ?_)
    · have H := cdT h42 H
      refine Tr.region ?_
      refine Rg.q (v := .slice y10.1 x4.1.length y10.2) (Pu.qo (p_move rfl)) (by decide) ?_
      refine Rg.q (v := .agg #[.int .i64 (v1.1), .int .i64 (v1.2)]) (q_ldbA ty68 rfl Has.here rfl) (by decide) ?_
      refine Rg.ed (e_lit (vs := [(0, .agg #[.int .i64 (v1.1), .int .i64 (v1.2)])]) [.int .i64 (v1.1), .int .i64 (v1.2)] Try.underlying29 ty68 rfl (by decide) (by decide) (by kernel_rfl)) rfl (by decide) ?_
      rintro _ _ _ ⟨g43, rfl, rfl, rfl⟩
      obtain ⟨h46, H⟩ := gd.of H
      refine Rg.ed (e_app1 (l := x4.1) (α := Row) v1 ((), ()) Try.underlying29 ty68 rfl rfl (h46.b (by decide)) h46.x rfl (ShpT.wfa _) (.cons Del.here.there.there (.cons Del.here .nil))) rfl (by decide) ?_
      rintro _ _ _ ⟨a44, c45, rfl, rfl, rfl⟩
      refine Rg.q (v := .slice a44 ((x4.1 ++ [v1]).length) c45) (Pu.qo (p_assign rfl)) (by decide) ?_
      refine Rg.nl ?_
      refine nT (?_)
      refine Tr.seq ?_
      refine Tr.region ?_
      refine Rg.q (v := .slice a44 ((x4.1 ++ [v1]).length) c45) (Pu.qo (p_move rfl)) (by decide) ?_
      refine Rg.q (v := .slice a44 ((x4.1 ++ [v1]).length) c45) (Pu.qo (p_assign rfl)) (by decide) ?_
      refine Rg.nl ?_
      refine nT (?_)
      refine tRet ?_
      have hr := Option.some.inj H; subst hr
      exact back1 (a44, c45) rfl (ResV.tmp (v := .slice a44 ((x4.1 ++ [v1]).length) c45) rfl) rfl Ents.nil (.cons Del.here .nil)
    · have H := cdF h42 H
      refine tSkip ?_
      refine nT (?_)
      refine Tr.seq ?_
      refine Tr.region ?_
      refine Rg.q (v := .slice y10.1 x4.1.length y10.2) (Pu.qo (p_move rfl)) (by decide) ?_
      refine Rg.q (v := .slice y10.1 x4.1.length y10.2) (Pu.qo (p_assign rfl)) (by decide) ?_
      refine Rg.nl ?_
      refine nT (?_)
      refine tRet ?_
      have hr := Option.some.inj H; subst hr
      exact back1 y10 rfl (ResV.tmp (v := .slice y10.1 x4.1.length y10.2) rfl) rfl Ents.nil (.cons Del.here.there .nil)
noncomputable def p_spec_l71Block_b0 (v0 : L6Rd) (σ10 : Int × (List Row) × Int) : Option ((Int × (List Row) × Int) ⊕ (Int × (List Row))) := cond (decide (0 < σ10.2.2)) (bd (p_spec_l71Row (v0.1, σ10.1)) fun r19 => bd (p_spec_l2Row r19.1) fun r23 => cond (r23) (bd (p_spec_l2Put σ10.2.1 r19.1) fun r26 => gd (I64 (σ10.2.2 - 1)) <| some (.inl (r19.2, r26, σ10.2.2 - 1))) (gd (I64 (σ10.2.2 - 1)) <| some (.inl (r19.2, σ10.2.1, σ10.2.2 - 1)))) (some (.inr (σ10.1, σ10.2.1)))
noncomputable def p_spec_l71Block_b1 (v0 : L6Rd) (σ47 : Int × (List Row) × Int) : Option ((Int × (List Row) × Int) ⊕ ((List Row) × Int)) := bd (p_spec_l6Rd_pick (v0.1, σ47.1) 2) fun r55 => gd (I64 (24 - r55.1)) <| cond (decide ((σ47.2.1.length : Int) < (24 - r55.1))) (gd (room (σ47.2.1.length + 1)) <| gd (I64 (σ47.2.2 + 1)) <| some (.inl (r55.2, (σ47.2.1 ++ [(σ47.2.2, 1)]), σ47.2.2 + 1))) (some (.inr (σ47.2.1, r55.2)))
noncomputable def p_spec_l71Block (v0 : L6Rd) : Option ((List Row) × Int) := bd (p_spec_l6Rd_pick v0 9) fun r3 => bd (lp (p_spec_l71Block_b0 v0) (r3.2, ([] : List Row), r3.1)) fun x6 => bd (p_spec_l6Rd_pick (v0.1, x6.1) 24) fun r31 => cond (decide (r31.1 = 0)) (bd (p_spec_l71Row (v0.1, r31.2)) fun r35 => gd (room (x6.2.length + 1)) <| some (x6.2 ++ [r35.1], r35.2)) (cond (decide (r31.1 = 1)) (bd (lp (p_spec_l71Block_b1 v0) (r31.2, x6.2, 50)) fun x43 => some (x43.1, x43.2)) (some (x6.2, r31.2)))
theorem c_spec_l71Block {r : (List Row) × Int} (g_v0 : Nat) (v0 : L6Rd) (x_v0 : (Option Addr × Nat) × Unit) (H : p_spec_l71Block v0 = some r) : Fn' Try.prog 39 #[.pointer (some ⟨g_v0, 0, none⟩)] [imm (.slice x_v0.1.1 v0.1.length x_v0.1.2) v0.1] [box g_v0 85 [.slice x_v0.1.1 v0.1.length x_v0.1.2, .int .i64 (v0.2)]] (ι := Option Addr × Nat) (fun x => .slice x.1 r.1.length x.2) (fun _ => []) (fun x => [tree (.slice x.1 r.1.length x.2) r.1, box g_v0 85 [.slice x_v0.1.1 v0.1.length x_v0.1.2, .int .i64 (r.2)]]) := by
  refine calls_of (args := [_]) Try.func39 rfl (by kernel_rfl) Try.ntmps39 (by simp) fun c => ?_
  unfold p_spec_l71Block at H
  refine Tr.seq ?_
  refine Tr.region ?_
  refine Rg.q (v := .slice none 0 0) (Pu.qo (p_assign rfl)) (by decide) ?_
  refine Rg.nl ?_
  refine nT (?_)
  refine Tr.seq ?_
  refine Tr.region ?_
  refine Rg.ed (e_lit0 Row Try.underlying29 ty68) rfl (by decide) ?_
  rintro _ _ _ ⟨a1, c2, rfl, rfl, rfl⟩
  refine Rg.q (v := .slice a1 (([] : List Row).length) c2) (Pu.qo (p_assign rfl)) (by decide) ?_
  refine Rg.nl ?_
  refine nT (?_)
  refine Tr.seq ?_
  refine Tr.seq ?_
  refine Tr.region ?_
  refine Rg.q (v := .pointer (some ⟨g_v0, 0, none⟩)) (Pu.qo (p_move rfl)) (by decide) ?_
  obtain ⟨r3, h4, H⟩ := bd.of H
  refine Rg.ed (e_callM (vs := [.pointer (some ⟨g_v0, 0, none⟩), .int .i64 (9)]) (c_spec_l6Rd_pick g_v0 v0 (x_v0.1, ()) 9 h4) (Solo.box Solo.nil) (fun _ => (Solo.box Solo.nil)) rfl (.cons Del.here.there .nil) (EntsB.cons (Ent.b Ent.z) EntsB.nil)) rfl (by decide) ?_
  rintro _ _ _ ⟨u5, rfl, rfl, rfl⟩
  refine Rg.q (v := .int .i64 (r3.1)) (Pu.qo (p_assign rfl)) (by decide) ?_
  refine Rg.nl ?_
  refine nT (?_)
  obtain ⟨x6, hx7, H⟩ := bd.of H
  obtain ⟨n8, hx7⟩ := lp.of hx7
  refine tMidNC (ι := Option Addr × Nat) (fun ψ => [(0, .pointer (some ⟨g_v0, 0, none⟩)), (3, .slice ψ.1 x6.2.length ψ.2)]) (fun ψ => [box g_v0 85 [.slice x_v0.1.1 v0.1.length x_v0.1.2, .int .i64 (x6.1)], tree (.slice ψ.1 x6.2.length ψ.2) x6.2]) ?_ ?_
  · refine Tr.block ?_
    refine tLoopC (ι := { q : Nat × (Int × (List Row) × Int) × (Option Addr × Nat) // itr (p_spec_l71Block_b0 v0) q.1 q.2.1 = some x6 }) (fun ζ => [(0, .pointer (some ⟨g_v0, 0, none⟩)), (3, .slice ζ.1.2.2.1 ζ.1.2.1.2.1.length ζ.1.2.2.2), (4, .int .i64 (ζ.1.2.1.2.2))]) (fun ζ => [box g_v0 85 [.slice x_v0.1.1 v0.1.length x_v0.1.2, .int .i64 (ζ.1.2.1.1)], tree (.slice ζ.1.2.2.1 ζ.1.2.1.2.1.length ζ.1.2.2.2) ζ.1.2.1.2.1]) (fun ζ => ζ.1.1) ⟨(n8, (r3.2, ([] : List Row), r3.1), (a1, c2)), hx7⟩ ⟨rfl, rfl, rfl, trivial⟩ (.cons Del.here (.cons Del.here .nil)) ?_
    rintro ⟨⟨m9, σ10, z11⟩, hk16⟩
    obtain ⟨m17, t13, e, H1, hi14, hb15⟩ := itr.of (n := m9) (s := σ10) hk16
    subst e; unfold p_spec_l71Block_b0 at H1
    show Tr _ _ _ _ _ [(0, .pointer (some ⟨g_v0, 0, none⟩)), (3, .slice z11.1 σ10.2.1.length z11.2), (4, .int .i64 (σ10.2.2))] _ [box g_v0 85 [.slice x_v0.1.1 v0.1.length x_v0.1.2, .int .i64 (σ10.1)], tree (.slice z11.1 σ10.2.1.length z11.2) σ10.2.1]
    refine Tr.seq ?_
    refine Tr.seq ?_
    refine Tr.region ?_
    refine Rg.q (v := .int .i64 (σ10.2.2)) (Pu.qo (p_move rfl)) (by decide) ?_
    refine Rg.q (v := .bool (decide (0 < σ10.2.2))) (Pu.qo (p_gtr rfl rfl)) (by decide) ?_
    refine Rg.nl ?_
    refine nT (?_)
    refine Tr.cond (b := decide (0 < σ10.2.2)) rfl (fun h18 => ?_) (fun h18 => ?_)
    · have H1 := cdT h18 H1
      refine tSkip ?_
      refine nT (?_)
      refine Tr.seq ?_
      refine Tr.block ?_
      refine Tr.seq ?_
      refine Tr.region ?_
      refine Rg.q (v := .pointer (some ⟨g_v0, 0, none⟩)) (Pu.qo (p_move rfl)) (by decide) ?_
      obtain ⟨r19, h20, H1⟩ := bd.of H1
      refine Rg.ed (e_callM (vs := [.pointer (some ⟨g_v0, 0, none⟩)]) (c_spec_l71Row g_v0 (v0.1, σ10.1) (x_v0.1, ()) h20) (Solo.box Solo.nil) (fun _ => (Solo.box Solo.nil)) rfl (.cons Del.here .nil) (EntsB.cons (Ent.b Ent.z) EntsB.nil)) rfl (by decide) ?_
      rintro _ _ _ ⟨u21, rfl, rfl, rfl⟩
      refine Rg.ed (e_alloc ty68) rfl (by decide) ?_
      rintro _ _ _ ⟨g22, rfl, rfl, rfl⟩
      refine Rg.en (e_store (v := .agg #[.int .i64 (r19.1.1), .int .i64 (r19.1.2)]) (cs' := [.int .i64 (r19.1.1), .int .i64 (r19.1.2)]) ty68 rfl rfl Upd.here rfl (by simp [Value.cells, Value.oneCell']) (Nat.le_of_ble_eq_true rfl) rfl) rfl ?_
      rintro _ _ _ ⟨rfl, rfl, rfl⟩
      refine Rg.nl ?_
      refine nT (?_)
      refine Tr.seq ?_
      refine Tr.region ?_
      refine Rg.q (v := .agg #[.int .i64 (r19.1.1), .int .i64 (r19.1.2)]) (q_ldbA ty68 rfl Has.here rfl) (by decide) ?_
      obtain ⟨r23, h24, H1⟩ := bd.of H1
      refine Rg.q (v := .bool (r23)) (q_call (vs := [.agg #[.int .i64 (r19.1.1), .int .i64 (r19.1.2)]]) (c_spec_l2Row r19.1 h24) rfl EntsB.nil) (by decide) ?_
      refine Rg.nl ?_
      refine nT (?_)
      refine Tr.cond (b := r23) rfl (fun h25 => ?_) (fun h25 => ?_)
      · have H1 := cdT h25 H1
        refine Tr.region ?_
        refine Rg.q (v := .slice z11.1 σ10.2.1.length z11.2) (Pu.qo (p_move rfl)) (by decide) ?_
        refine Rg.q (v := .agg #[.int .i64 (r19.1.1), .int .i64 (r19.1.2)]) (q_ldbA ty68 rfl Has.here rfl) (by decide) ?_
        obtain ⟨r26, h27, H1⟩ := bd.of H1
        refine Rg.ed (e_callB (vs := [.slice z11.1 σ10.2.1.length z11.2, .agg #[.int .i64 (r19.1.1), .int .i64 (r19.1.2)]]) (c_spec_l2Put σ10.2.1 z11 r19.1 h27) (fun _ => (Solo.tree Solo.nil)) rfl (EntsB.cons (EntB.tree Has.here.there.there) EntsB.nil)) rfl (by decide) ?_
        rintro _ _ _ ⟨x28, rfl, rfl, rfl⟩
        refine Rg.q (v := .slice x28.1 r26.length x28.2) (Pu.qo (p_assign rfl)) (by decide) ?_
        refine Rg.nl ?_
        refine nB (nT (?_))
        refine Tr.region ?_
        refine Rg.q (v := .int .i64 (σ10.2.2)) (Pu.qo (p_move rfl)) (by decide) ?_
        obtain ⟨h29, H1⟩ := gd.of H1
        refine Rg.q (v := .int .i64 (σ10.2.2 - 1)) (Pu.qo (p_sub rfl rfl h29)) (by decide) ?_
        refine Rg.q (v := .int .i64 (σ10.2.2 - 1)) (Pu.qo (p_assign rfl)) (by decide) ?_
        refine Rg.nl ?_
        exact nLC ⟨(m17, (r19.2, r26, σ10.2.2 - 1), (x28.1, x28.2)), hi14 _ (Option.some.inj H1).symm⟩ (Nat.lt_succ_self _) ⟨rfl, rfl, rfl, trivial⟩ Ents.refl (.cons Del.here.there.there (.cons Del.here .nil))
      · have H1 := cdF h25 H1
        refine tSkip ?_
        refine nB (nT (?_))
        refine Tr.region ?_
        refine Rg.q (v := .int .i64 (σ10.2.2)) (Pu.qo (p_move rfl)) (by decide) ?_
        obtain ⟨h30, H1⟩ := gd.of H1
        refine Rg.q (v := .int .i64 (σ10.2.2 - 1)) (Pu.qo (p_sub rfl rfl h30)) (by decide) ?_
        refine Rg.q (v := .int .i64 (σ10.2.2 - 1)) (Pu.qo (p_assign rfl)) (by decide) ?_
        refine Rg.nl ?_
        exact nLC ⟨(m17, (r19.2, σ10.2.1, σ10.2.2 - 1), (z11.1, z11.2)), hi14 _ (Option.some.inj H1).symm⟩ (Nat.lt_succ_self _) ⟨rfl, rfl, rfl, trivial⟩ Ents.refl (.cons Del.here.there (.cons Del.here.there .nil))
    · have H1 := cdF h18 H1
      refine tExit (xT (xT (xE (?_))))
      have hx := hb15 _ (Option.some.inj H1).symm; subst hx
      exact nMC (z11.1, z11.2) ⟨rfl, rfl, trivial⟩ Ents.refl (.cons Del.here (.cons Del.here .nil))
  · intro y12
    show At _ _ [(0, .pointer (some ⟨g_v0, 0, none⟩)), (3, .slice y12.1 x6.2.length y12.2)] _ [box g_v0 85 [.slice x_v0.1.1 v0.1.length x_v0.1.2, .int .i64 (x6.1)], tree (.slice y12.1 x6.2.length y12.2) x6.2] _
    refine nT (?_)
    refine Tr.seq ?_
    refine Tr.seq ?_
    refine Tr.region ?_
    refine Rg.q (v := .pointer (some ⟨g_v0, 0, none⟩)) (Pu.qo (p_move rfl)) (by decide) ?_
    obtain ⟨r31, h32, H⟩ := bd.of H
    refine Rg.ed (e_callM (vs := [.pointer (some ⟨g_v0, 0, none⟩), .int .i64 (24)]) (c_spec_l6Rd_pick g_v0 (v0.1, x6.1) (x_v0.1, ()) 24 h32) (Solo.box Solo.nil) (fun _ => (Solo.box Solo.nil)) rfl (.cons Del.here .nil) (EntsB.cons (Ent.b Ent.z) EntsB.nil)) rfl (by decide) ?_
    rintro _ _ _ ⟨u33, rfl, rfl, rfl⟩
    refine Rg.nl ?_
    refine nT (?_)
    refine Tr.block ?_
    refine Tr.seq ?_
    refine Tr.region ?_
    refine Rg.q (v := .bool (decide (r31.1 = 0))) (Pu.qo (p_eql rfl rfl)) (by decide) ?_
    refine Rg.q (v := .bool (decide (r31.1 = 0))) (Pu.qo (p_assign rfl)) (by decide) ?_
    refine Rg.nl ?_
    refine nT (?_)
    refine Tr.cond (b := decide (r31.1 = 0)) rfl (fun h34 => ?_) (fun h34 => ?_)
    · have H := cdT h34 H
      refine Tr.seq ?_
      refine Tr.region ?_
      refine Rg.q (v := .slice y12.1 x6.2.length y12.2) (Pu.qo (p_move rfl)) (by decide) ?_
      refine Rg.q (v := .pointer (some ⟨g_v0, 0, none⟩)) (Pu.qo (p_move rfl)) (by decide) ?_
      obtain ⟨r35, h36, H⟩ := bd.of H
      refine Rg.ed (e_callM (vs := [.pointer (some ⟨g_v0, 0, none⟩)]) (c_spec_l71Row g_v0 (v0.1, r31.2) (x_v0.1, ()) h36) (Solo.box Solo.nil) (fun _ => (Solo.box Solo.nil)) rfl (.cons Del.here .nil) (EntsB.cons (Ent.b Ent.z) EntsB.nil)) rfl (by decide) ?_
      rintro _ _ _ ⟨u37, rfl, rfl, rfl⟩
      refine Rg.ed (e_lit (vs := [(0, .agg #[.int .i64 (r35.1.1), .int .i64 (r35.1.2)])]) [.int .i64 (r35.1.1), .int .i64 (r35.1.2)] Try.underlying29 ty68 rfl (by decide) (by decide) (by kernel_rfl)) rfl (by decide) ?_
      rintro _ _ _ ⟨g38, rfl, rfl, rfl⟩
      obtain ⟨h41, H⟩ := gd.of H
      refine Rg.ed (e_app1 (l := x6.2) (α := Row) r35.1 ((), ()) Try.underlying29 ty68 rfl rfl (h41.b (by decide)) h41.x rfl (ShpT.wfa _) (.cons Del.here.there.there (.cons Del.here .nil))) rfl (by decide) ?_
      rintro _ _ _ ⟨a39, c40, rfl, rfl, rfl⟩
      refine Rg.q (v := .slice a39 ((x6.2 ++ [r35.1]).length) c40) (Pu.qo (p_assign rfl)) (by decide) ?_
      refine Rg.nl ?_
      refine nT (?_)
      refine tRet ?_
      refine rB (rT (?_))
      have hr := Option.some.inj H; subst hr
      exact back1 (a39, c40) rfl (ResV.tmp (v := .slice a39 ((x6.2 ++ [r35.1]).length) c40) rfl) rfl Ents.nil (.cons Del.here (.cons Del.here .nil))
    · have H := cdF h34 H
      refine Tr.seq ?_
      refine Tr.region ?_
      refine Rg.q (v := .bool (decide (r31.1 = 1))) (Pu.qo (p_eql rfl rfl)) (by decide) ?_
      refine Rg.q (v := .bool (decide (r31.1 = 1))) (Pu.qo (p_assign rfl)) (by decide) ?_
      refine Rg.nl ?_
      refine nT (?_)
      refine Tr.cond (b := decide (r31.1 = 1)) rfl (fun h42 => ?_) (fun h42 => ?_)
      · have H := cdT h42 H
        refine Tr.seq ?_
        refine Tr.region ?_
        refine Rg.q (v := .int .i64 (50)) (Pu.qo (p_assign rfl)) (by decide) ?_
        refine Rg.nl ?_
        refine nT (?_)
        obtain ⟨x43, hx44, H⟩ := bd.of H
        obtain ⟨n45, hx44⟩ := lp.of hx44
        refine tMidNC (ι := Option Addr × Nat) (fun ψ => [(3, .slice ψ.1 x43.1.length ψ.2)]) (fun ψ => [tree (.slice ψ.1 x43.1.length ψ.2) x43.1, box g_v0 85 [.slice x_v0.1.1 v0.1.length x_v0.1.2, .int .i64 (x43.2)]]) ?_ ?_
        · refine Tr.block ?_
          refine tLoopC (ι := { q : Nat × (Int × (List Row) × Int) × (Option Addr × Nat) // itr (p_spec_l71Block_b1 v0) q.1 q.2.1 = some x43 }) (fun ζ => [(0, .pointer (some ⟨g_v0, 0, none⟩)), (3, .slice ζ.1.2.2.1 ζ.1.2.1.2.1.length ζ.1.2.2.2), (6, .int .i64 (ζ.1.2.1.2.2))]) (fun ζ => [box g_v0 85 [.slice x_v0.1.1 v0.1.length x_v0.1.2, .int .i64 (ζ.1.2.1.1)], tree (.slice ζ.1.2.2.1 ζ.1.2.1.2.1.length ζ.1.2.2.2) ζ.1.2.1.2.1]) (fun ζ => ζ.1.1) ⟨(n45, (r31.2, x6.2, 50), (y12.1, y12.2)), hx44⟩ ⟨rfl, rfl, rfl, trivial⟩ (.cons Del.here (.cons Del.here .nil)) ?_
          rintro ⟨⟨m46, σ47, z48⟩, hk53⟩
          obtain ⟨m54, t50, e, H1, hi51, hb52⟩ := itr.of (n := m46) (s := σ47) hk53
          subst e; unfold p_spec_l71Block_b1 at H1
          show Tr _ _ _ _ _ [(0, .pointer (some ⟨g_v0, 0, none⟩)), (3, .slice z48.1 σ47.2.1.length z48.2), (6, .int .i64 (σ47.2.2))] _ [box g_v0 85 [.slice x_v0.1.1 v0.1.length x_v0.1.2, .int .i64 (σ47.1)], tree (.slice z48.1 σ47.2.1.length z48.2) σ47.2.1]
          refine Tr.seq ?_
          refine Tr.seq ?_
          refine Tr.region ?_
          refine Rg.q (v := .slice z48.1 σ47.2.1.length z48.2) (Pu.qo (p_move rfl)) (by decide) ?_
          refine Rg.q (v := .int .i64 ((σ47.2.1.length : Int))) (Pu.qo (p_len 68 Try.underlying29 rfl)) (by decide) ?_
          refine Rg.q (v := .pointer (some ⟨g_v0, 0, none⟩)) (Pu.qo (p_move rfl)) (by decide) ?_
          obtain ⟨r55, h56, H1⟩ := bd.of H1
          refine Rg.ed (e_callM (vs := [.pointer (some ⟨g_v0, 0, none⟩), .int .i64 (2)]) (c_spec_l6Rd_pick g_v0 (v0.1, σ47.1) (x_v0.1, ()) 2 h56) (Solo.box Solo.nil) (fun _ => (Solo.box Solo.nil)) rfl (.cons Del.here .nil) (EntsB.cons (Ent.b Ent.z) EntsB.nil)) rfl (by decide) ?_
          rintro _ _ _ ⟨u57, rfl, rfl, rfl⟩
          obtain ⟨h58, H1⟩ := gd.of H1
          refine Rg.q (v := .int .i64 (24 - r55.1)) (Pu.qo (p_sub rfl rfl h58)) (by decide) ?_
          refine Rg.q (v := .bool (decide ((σ47.2.1.length : Int) < (24 - r55.1)))) (Pu.qo (p_lss rfl rfl)) (by decide) ?_
          refine Rg.nl ?_
          refine nT (?_)
          refine Tr.cond (b := decide ((σ47.2.1.length : Int) < (24 - r55.1))) rfl (fun h59 => ?_) (fun h59 => ?_)
          · have H1 := cdT h59 H1
            refine tSkip ?_
            refine nT (?_)
            refine Tr.seq ?_
            refine Tr.block ?_
            refine Tr.region ?_
            refine Rg.q (v := .slice z48.1 σ47.2.1.length z48.2) (Pu.qo (p_move rfl)) (by decide) ?_
            refine Rg.q (v := .int .i64 (σ47.2.2)) (Pu.qo (p_move rfl)) (by decide) ?_
            refine Rg.q (v := .agg #[.int .i64 (σ47.2.2), .int .i64 (1)]) (Pu.qo (p_buildS (vs := [(0, .int .i64 (σ47.2.2)), (1, .int .i64 (1))]) (cs := #[.int .i64 (σ47.2.2), .int .i64 (1)]) ty68 pl68 rfl rfl)) (by decide) ?_
            refine Rg.ed (e_lit (vs := [(0, .agg #[.int .i64 (σ47.2.2), .int .i64 (1)])]) [.int .i64 (σ47.2.2), .int .i64 (1)] Try.underlying29 ty68 rfl (by decide) (by decide) (by kernel_rfl)) rfl (by decide) ?_
            rintro _ _ _ ⟨g60, rfl, rfl, rfl⟩
            obtain ⟨h63, H1⟩ := gd.of H1
            refine Rg.ed (e_app1 (l := σ47.2.1) (α := Row) (σ47.2.2, 1) ((), ()) Try.underlying29 ty68 rfl rfl (h63.b (by decide)) h63.x rfl (ShpT.wfa _) (.cons Del.here.there.there (.cons Del.here .nil))) rfl (by decide) ?_
            rintro _ _ _ ⟨a61, c62, rfl, rfl, rfl⟩
            refine Rg.q (v := .slice a61 ((σ47.2.1 ++ [(σ47.2.2, 1)]).length) c62) (Pu.qo (p_assign rfl)) (by decide) ?_
            refine Rg.nl ?_
            refine nB (nT (?_))
            refine Tr.region ?_
            refine Rg.q (v := .int .i64 (σ47.2.2)) (Pu.qo (p_move rfl)) (by decide) ?_
            obtain ⟨h64, H1⟩ := gd.of H1
            refine Rg.q (v := .int .i64 (σ47.2.2 + 1)) (Pu.qo (p_add rfl rfl h64)) (by decide) ?_
            refine Rg.q (v := .int .i64 (σ47.2.2 + 1)) (Pu.qo (p_assign rfl)) (by decide) ?_
            refine Rg.nl ?_
            exact nLC ⟨(m54, (r55.2, (σ47.2.1 ++ [(σ47.2.2, 1)]), σ47.2.2 + 1), (a61, c62)), hi51 _ (Option.some.inj H1).symm⟩ (Nat.lt_succ_self _) ⟨rfl, rfl, rfl, trivial⟩ Ents.refl (.cons Del.here.there (.cons Del.here .nil))
          · have H1 := cdF h59 H1
            refine tExit (xT (xT (xE (?_))))
            have hx := hb52 _ (Option.some.inj H1).symm; subst hx
            exact nMC (z48.1, z48.2) ⟨rfl, trivial⟩ Ents.refl (.cons Del.here.there (.cons Del.here .nil))
        · intro y49
          show At _ _ [(3, .slice y49.1 x43.1.length y49.2)] _ [tree (.slice y49.1 x43.1.length y49.2) x43.1, box g_v0 85 [.slice x_v0.1.1 v0.1.length x_v0.1.2, .int .i64 (x43.2)]] _
          refine nB (nT (?_))
          refine Tr.seq ?_
          refine Tr.region ?_
          refine Rg.q (v := .slice y49.1 x43.1.length y49.2) (Pu.qo (p_move rfl)) (by decide) ?_
          refine Rg.q (v := .slice y49.1 x43.1.length y49.2) (Pu.qo (p_assign rfl)) (by decide) ?_
          refine Rg.nl ?_
          refine nT (?_)
          refine tRet ?_
          have hr := Option.some.inj H; subst hr
          exact back1 y49 rfl (ResV.tmp (v := .slice y49.1 x43.1.length y49.2) rfl) rfl Ents.nil (.cons Del.here (.cons Del.here .nil))
      · have H := cdF h42 H
        refine tSkip ?_
        refine nB (nT (?_))
        refine Tr.seq ?_
        refine Tr.region ?_
        refine Rg.q (v := .slice y12.1 x6.2.length y12.2) (Pu.qo (p_move rfl)) (by decide) ?_
        refine Rg.q (v := .slice y12.1 x6.2.length y12.2) (Pu.qo (p_assign rfl)) (by decide) ?_
        refine Rg.nl ?_
        refine nT (?_)
        refine tRet ?_
        have hr := Option.some.inj H; subst hr
        exact back1 y12 rfl (ResV.tmp (v := .slice y12.1 x6.2.length y12.2) rfl) rfl Ents.nil (.cons Del.here.there (.cons Del.here .nil))
noncomputable def p_spec_l12Make_b0 (v0 : (List (List Row))) (σ12 : (List Int) × (List (List Row)) × Int) : Option (((List Int) × (List (List Row)) × Int) ⊕ ((List Int) × (List (List Row)))) := cond (decide (σ12.2.2 < (v0.length : Int))) (gd (ix σ12.2.2 v0.length) <| cond (decide (0 < ((nth v0 σ12.2.2.toNat).length : Int))) (gd (I64 (σ12.2.2 + 1)) <| gd (room (σ12.1.length + 1)) <| gd (room (([] : List Row).length + (nth v0 σ12.2.2.toNat).length)) <| gd (room (σ12.2.1.length + 1)) <| some (.inl ((σ12.1 ++ [σ12.2.2 + 1]), (σ12.2.1 ++ [([] : List Row) ++ (nth v0 σ12.2.2.toNat)]), σ12.2.2 + 1))) (gd (I64 (σ12.2.2 + 1)) <| some (.inl (σ12.1, σ12.2.1, σ12.2.2 + 1)))) (some (.inr (σ12.1, σ12.2.1)))
noncomputable def p_spec_l12Make (v0 : (List (List Row))) : Option (Part) := bd (lp (p_spec_l12Make_b0 v0) (([] : List Int), ([] : List (List Row)), 0)) fun x8 => some x8
theorem c_spec_l12Make {r : Part} (v0 : (List (List Row))) (x_v0 : Option Addr × Nat) (H : p_spec_l12Make v0 = some r) : Fn' Try.prog 63 #[.slice x_v0.1 v0.length x_v0.2] [imm (.slice x_v0.1 v0.length x_v0.2) v0] [] (ι := (Option Addr × Nat) × (Option Addr × Nat)) (fun x => .agg #[.slice x.1.1 r.1.length x.1.2, .slice x.2.1 r.2.length x.2.2]) (fun _ => []) (fun x => [tree (.slice x.1.1 r.1.length x.1.2) r.1, tree (.slice x.2.1 r.2.length x.2.2) r.2]) := by
  refine calls_of (args := [_]) Try.func63 rfl (by kernel_rfl) Try.ntmps63 (by simp) fun c => ?_
  unfold p_spec_l12Make at H
  refine Tr.openD Ent.z fun X1 => ?_
  refine Tr.seq ?_
  refine Tr.region ?_
  refine Rg.ed (e_alloc ty26) rfl (by decide) ?_
  rintro _ _ _ ⟨g2, rfl, rfl, rfl⟩
  refine Rg.nl ?_
  refine nT (?_)
  refine Tr.seq ?_
  refine Tr.region ?_
  refine Rg.ed (e_lit0 Int Try.underlying23 ty3) rfl (by decide) ?_
  rintro _ _ _ ⟨a3, c4, rfl, rfl, rfl⟩
  refine Rg.ed (e_lit0 (List Row) Try.underlying24 ty29) rfl (by decide) ?_
  rintro _ _ _ ⟨a5, c6, rfl, rfl, rfl⟩
  refine Rg.q (v := .agg #[.slice a3 (([] : List Int).length) c4, .slice a5 (([] : List (List Row)).length) c6]) (Pu.qo (p_buildS (vs := [(0, .slice a3 (([] : List Int).length) c4), (1, .slice a5 (([] : List (List Row)).length) c6)]) (cs := #[.slice a3 (([] : List Int).length) c4, .slice a5 (([] : List (List Row)).length) c6]) ty26 pl26 rfl rfl)) (by decide) ?_
  refine Rg.ed (e_alloc ty26) rfl (by decide) ?_
  rintro _ _ _ ⟨g7, rfl, rfl, rfl⟩
  refine Rg.en (e_store (v := .agg #[.slice a3 (([] : List Int).length) c4, .slice a5 (([] : List (List Row)).length) c6]) (cs' := [.slice a3 (([] : List Int).length) c4, .slice a5 (([] : List (List Row)).length) c6]) ty26 rfl rfl Upd.here rfl (by simp [Value.cells, Value.oneCell']) (Nat.le_of_ble_eq_true rfl) rfl) rfl ?_
  rintro _ _ _ ⟨rfl, rfl, rfl⟩
  refine Rg.nl ?_
  refine nT (?_)
  refine Tr.seq ?_
  refine Tr.seq ?_
  refine Tr.region ?_
  refine Rg.q (v := .int .i64 (0)) (Pu.qo (p_assign rfl)) (by decide) ?_
  refine Rg.nl ?_
  refine nT (?_)
  obtain ⟨x8, hx9, H⟩ := bd.of H
  obtain ⟨n10, hx9⟩ := lp.of hx9
  refine tMidNC (ι := (Option Addr × Nat) × (Option Addr × Nat)) (fun ψ => [(2, .pointer (some ⟨g2, 0, none⟩)), (3, .pointer (some ⟨g7, 0, none⟩))]) (fun ψ => [box g2 26 [.slice none 0 0, .slice none 0 0], tree (.slice ψ.1.1 x8.1.length ψ.1.2) x8.1, tree (.slice ψ.2.1 x8.2.length ψ.2.2) x8.2, box g7 26 [.slice ψ.1.1 x8.1.length ψ.1.2, .slice ψ.2.1 x8.2.length ψ.2.2]]) ?_ ?_
  · refine Tr.block ?_
    refine tLoopC (ι := { q : Nat × ((List Int) × (List (List Row)) × Int) × ((Option Addr × Nat) × (Option Addr × Nat)) // itr (p_spec_l12Make_b0 v0) q.1 q.2.1 = some x8 }) (fun ζ => [(0, .slice x_v0.1 v0.length x_v0.2), (2, .pointer (some ⟨g2, 0, none⟩)), (3, .pointer (some ⟨g7, 0, none⟩)), (4, .int .i64 (ζ.1.2.1.2.2))]) (fun ζ => [box g2 26 [.slice none 0 0, .slice none 0 0], tree (.slice ζ.1.2.2.1.1 ζ.1.2.1.1.length ζ.1.2.2.1.2) ζ.1.2.1.1, tree (.slice ζ.1.2.2.2.1 ζ.1.2.1.2.1.length ζ.1.2.2.2.2) ζ.1.2.1.2.1, box g7 26 [.slice ζ.1.2.2.1.1 ζ.1.2.1.1.length ζ.1.2.2.1.2, .slice ζ.1.2.2.2.1 ζ.1.2.1.2.1.length ζ.1.2.2.2.2]]) (fun ζ => ζ.1.1) ⟨(n10, (([] : List Int), ([] : List (List Row)), 0), ((a3, c4), (a5, c6))), hx9⟩ ⟨rfl, rfl, rfl, rfl, trivial⟩ (.cons Del.here.there.there.there (.cons Del.here.there.there (.cons Del.here.there (.cons Del.here .nil)))) ?_
    rintro ⟨⟨m11, σ12, z13⟩, hk18⟩
    obtain ⟨m19, t15, e, H1, hi16, hb17⟩ := itr.of (n := m11) (s := σ12) hk18
    subst e; unfold p_spec_l12Make_b0 at H1
    show Tr _ _ _ _ _ [(0, .slice x_v0.1 v0.length x_v0.2), (2, .pointer (some ⟨g2, 0, none⟩)), (3, .pointer (some ⟨g7, 0, none⟩)), (4, .int .i64 (σ12.2.2))] _ [box g2 26 [.slice none 0 0, .slice none 0 0], tree (.slice z13.1.1 σ12.1.length z13.1.2) σ12.1, tree (.slice z13.2.1 σ12.2.1.length z13.2.2) σ12.2.1, box g7 26 [.slice z13.1.1 σ12.1.length z13.1.2, .slice z13.2.1 σ12.2.1.length z13.2.2]]
    refine Tr.seq ?_
    refine Tr.seq ?_
    refine Tr.region ?_
    refine Rg.q (v := .int .i64 (σ12.2.2)) (Pu.qo (p_move rfl)) (by decide) ?_
    refine Rg.q (v := .slice x_v0.1 v0.length x_v0.2) (Pu.qo (p_move rfl)) (by decide) ?_
    refine Rg.q (v := .int .i64 ((v0.length : Int))) (Pu.qo (p_len 29 Try.underlying24 rfl)) (by decide) ?_
    refine Rg.q (v := .bool (decide (σ12.2.2 < (v0.length : Int)))) (Pu.qo (p_lss rfl rfl)) (by decide) ?_
    refine Rg.nl ?_
    refine nT (?_)
    refine Tr.cond (b := decide (σ12.2.2 < (v0.length : Int))) rfl (fun h20 => ?_) (fun h20 => ?_)
    · have H1 := cdT h20 H1
      refine tSkip ?_
      refine nT (?_)
      refine Tr.seq ?_
      refine Tr.block ?_
      refine Tr.seq ?_
      refine Tr.region ?_
      refine Rg.q (v := .slice x_v0.1 v0.length x_v0.2) (Pu.qo (p_move rfl)) (by decide) ?_
      refine Rg.q (v := .int .i64 (σ12.2.2)) (Pu.qo (p_move rfl)) (by decide) ?_
      obtain ⟨h21, H1⟩ := gd.of H1
      refine Rg.q (v := elp x_v0.1 (σ12.2.2.toNat * Enc.sz (List Row) + 0)) (q_ixg (l := v0) (E := fun i => Dp.denc (nth v0 i) (X1 i)) (oa := x_v0.1) Try.underlying24 ty29 rfl rfl h21 rfl (Ent.b (Ent.darr Ent.z))) (by decide) ?_
      refine Rg.q (v := .slice ((X1 σ12.2.2.toNat).1) ((nth v0 σ12.2.2.toNat).length) ((X1 σ12.2.2.toNat).2.1)) (q_lde (l := v0) (E := fun i => Dp.denc (nth v0 i) (X1 i)) (oa := x_v0.1) (i := σ12.2.2.toNat) (j := 0) ty29 rfl (Ent.b (Ent.darr Ent.z)) h21.lt rfl) (by decide) ?_
      refine Rg.q (v := .int .i64 (((nth v0 σ12.2.2.toNat).length : Int))) (Pu.qo (p_len 68 Try.underlying29 rfl)) (by decide) ?_
      refine Rg.q (v := .bool (decide (0 < ((nth v0 σ12.2.2.toNat).length : Int)))) (Pu.qo (p_gtr rfl rfl)) (by decide) ?_
      refine Rg.nl ?_
      refine nT (?_)
      refine Tr.cond (b := decide (0 < ((nth v0 σ12.2.2.toNat).length : Int))) rfl (fun h22 => ?_) (fun h22 => ?_)
      · have H1 := cdT h22 H1
        refine Tr.seq ?_
        refine Tr.region ?_
        refine Rg.q (v := .pointer (some ⟨g7, 0, none⟩)) (Pu.qo (p_fabE fa26_0 rfl rfl)) (by decide) ?_
        refine Rg.q (v := .slice z13.1.1 σ12.1.length z13.1.2) (q_ldb ty23 rfl Has.here.there.there.there rfl) (by decide) ?_
        refine Rg.q (v := .int .i64 (σ12.2.2)) (Pu.qo (p_move rfl)) (by decide) ?_
        obtain ⟨h23, H1⟩ := gd.of H1
        refine Rg.q (v := .int .i64 (σ12.2.2 + 1)) (Pu.qo (p_add rfl rfl h23)) (by decide) ?_
        refine Rg.ed (e_lit (vs := [(0, .int .i64 (σ12.2.2 + 1))]) [.int .i64 (σ12.2.2 + 1)] Try.underlying23 ty3 rfl (by decide) (by decide) (by kernel_rfl)) rfl (by decide) ?_
        rintro _ _ _ ⟨g24, rfl, rfl, rfl⟩
        obtain ⟨h27, H1⟩ := gd.of H1
        refine Rg.ed (e_app1 (l := σ12.1) (α := Int) (σ12.2.2 + 1) () Try.underlying23 ty3 rfl rfl (h27.b (by decide)) h27.x rfl (ShpT.wfa _) (.cons Del.here.there.there (.cons Del.here .nil))) rfl (by decide) ?_
        rintro _ _ _ ⟨a25, c26, rfl, rfl, rfl⟩
        refine Rg.q (v := .pointer (some ⟨g7, 0, none⟩)) (Pu.qo (p_fabE fa26_0 rfl rfl)) (by decide) ?_
        refine Rg.en (e_store (v := .slice a25 ((σ12.1 ++ [σ12.2.2 + 1]).length) c26) (cs' := [.slice a25 ((σ12.1 ++ [σ12.2.2 + 1]).length) c26, .slice z13.2.1 σ12.2.1.length z13.2.2]) ty23 rfl rfl Upd.here.there.there.there rfl (by simp [Value.cells, Value.oneCell']) (Nat.le_of_ble_eq_true rfl) rfl) rfl ?_
        rintro _ _ _ ⟨rfl, rfl, rfl⟩
        refine Rg.nl ?_
        refine nT (?_)
        refine tNwS [(0, .slice x_v0.1 v0.length x_v0.2), (2, .pointer (some ⟨g2, 0, none⟩)), (3, .pointer (some ⟨g7, 0, none⟩)), (4, .int .i64 (σ12.2.2))] 2 [0, 1, 3, 4, 5, 6, 2, 7, 8, 9, 10, 11] [2, 7, 8, 9, 11] [] Try.mixed (by kernel_rfl) (by decide) List.nodup_nil ⟨rfl, rfl, rfl, rfl, trivial⟩ rfl okNil ?_
        refine w_pu (v := .pointer (some ⟨g7, 1, none⟩)) rfl (by decide) rfl rfl rfl (p_fabE fa26_1 rfl rfl) ?_
        refine w_q (v := .slice z13.2.1 σ12.2.1.length z13.2.2) rfl (by decide) rfl rfl rfl (fun F => (q_ldb ty24 rfl (Has.here.there.there.there.app F) rfl)) ?_
        refine w_pu (v := .slice x_v0.1 v0.length x_v0.2) rfl (by decide) rfl rfl rfl (p_move rfl) ?_
        refine w_pu (v := .int .i64 (σ12.2.2)) rfl (by decide) rfl rfl rfl (p_move rfl) ?_
        refine w_q (v := elp x_v0.1 (σ12.2.2.toNat * Enc.sz (List Row) + 0)) rfl (by decide) rfl rfl rfl (fun F => (q_ixg (l := v0) (E := fun i => Dp.denc (nth v0 i) (X1 i)) (oa := x_v0.1) Try.underlying24 ty29 rfl rfl h21 rfl (Ent.b (Ent.darr Ent.z)))) ?_
        refine w_q (v := .slice ((X1 σ12.2.2.toNat).1) ((nth v0 σ12.2.2.toNat).length) ((X1 σ12.2.2.toNat).2.1)) rfl (by decide) rfl rfl rfl (fun F => (q_lde (l := v0) (E := fun i => Dp.denc (nth v0 i) (X1 i)) (oa := x_v0.1) (i := σ12.2.2.toNat) (j := 0) ty29 rfl (Ent.b (Ent.darr Ent.z)) h21.lt rfl)) ?_
        refine w_ed rfl (by decide) rfl Rdy.nil rfl (n_lit0 Row Try.underlying29 ty68) ?_
        rintro _ _ _ ⟨a28, c29, rfl, rfl, rfl⟩
        refine ⟨(PdOk.q rfl rfl (fun F => (q_lde (l := v0) (E := fun i => Dp.denc (nth v0 i) (X1 i)) (oa := x_v0.1) (i := σ12.2.2.toNat) (j := 0) ty29 rfl (Ent.b (Ent.darr Ent.z)) h21.lt rfl)) (PdOk.q rfl rfl (fun F => (q_ixg (l := v0) (E := fun i => Dp.denc (nth v0 i) (X1 i)) (oa := x_v0.1) Try.underlying24 ty29 rfl rfl h21 rfl (Ent.b (Ent.darr Ent.z)))) (PdOk.q rfl rfl (fun F => (q_ldb ty24 rfl (Has.here.there.there.there.there.app F) rfl)) PdOk.nil))), ?_⟩
        obtain ⟨h32, H1⟩ := gd.of H1
        refine w_ed rfl (by decide) rfl Rdy.nil rfl (n_appF (l := ([] : List Row)) (k := nth v0 σ12.2.2.toNat) (α := Row) Try.underlying29 ty68 rfl rfl (h32.b (by decide)) h32.x (.cons Del.here .nil) (Ent.b (Ent.dimm (Ent.del Ent.z h21.lt)))) ?_
        rintro _ _ _ ⟨a30, c31, rfl, rfl, rfl⟩
        refine ⟨(PdOk.anc (by kernel_rfl) (PdOk.anc (by kernel_rfl) (PdOk.q rfl rfl (fun F => (q_ldb ty24 rfl (Has.here.there.there.there.there.app F) rfl)) PdOk.nil))), ?_⟩
        refine w_ed rfl (by decide) rfl Rdy.nil rfl (n_lit (vs := [(0, .slice a30 ((([] : List Row) ++ (nth v0 σ12.2.2.toNat)).length) c31)]) [.slice a30 ((([] : List Row) ++ (nth v0 σ12.2.2.toNat)).length) c31] Try.underlying24 ty29 rfl (by decide) (by decide) (by kernel_rfl)) ?_
        rintro _ _ _ ⟨g33, rfl, rfl, rfl⟩
        refine ⟨(PdOk.anc (by kernel_rfl) (PdOk.q rfl rfl (fun F => (q_ixg (l := v0) (E := fun i => Dp.denc (nth v0 i) (X1 i)) (oa := x_v0.1) Try.underlying24 ty29 rfl rfl h21 rfl (Ent.b (Ent.darr Ent.z)))) (PdOk.q rfl rfl (fun F => (q_ldb ty24 rfl (Has.here.there.there.there.there.there.app F) rfl)) PdOk.nil))), ?_⟩
        obtain ⟨h36, H1⟩ := gd.of H1
        refine w_ed rfl (by decide) rfl Rdy.nil rfl (n_app1 (l := σ12.2.1) (α := (List Row)) (([] : List Row) ++ (nth v0 σ12.2.2.toNat)) (a30, c31) Try.underlying24 ty29 rfl rfl (h36.b (by decide)) h36.x rfl (ShpT.wfa _) (.cons Del.here.there.there.there.there (.cons Del.here (.cons Del.here .nil)))) ?_
        rintro _ _ _ ⟨a34, c35, rfl, rfl, rfl⟩
        refine ⟨(PdOk.anc (by kernel_rfl) (PdOk.q rfl rfl (fun F => (q_ixg (l := v0) (E := fun i => Dp.denc (nth v0 i) (X1 i)) (oa := x_v0.1) Try.underlying24 ty29 rfl rfl h21 rfl (Ent.b (Ent.darr Ent.z)))) (PdOk.anc (by kernel_rfl) PdOk.nil))), ?_⟩
        refine w_pu (v := .pointer (some ⟨g7, 1, none⟩)) rfl (by decide) rfl rfl rfl (p_fabE fa26_1 rfl rfl) ?_
        refine w_en rfl rfl Rdy.nil rfl (n_store (v := .slice a34 ((σ12.2.1 ++ [([] : List Row) ++ (nth v0 σ12.2.2.toNat)]).length) c35) (cs' := [.slice a25 ((σ12.1 ++ [σ12.2.2 + 1]).length) c26, .slice a34 ((σ12.2.1 ++ [([] : List Row) ++ (nth v0 σ12.2.2.toNat)]).length) c35]) ty24 rfl rfl Upd.here.there.there.there rfl (by simp [Value.cells, Value.oneCell']) (Nat.le_of_ble_eq_true rfl) rfl) ?_
        rintro _ _ _ ⟨rfl, rfl, rfl⟩
        refine ⟨(PdOk.anc (by kernel_rfl) (PdOk.anc (by kernel_rfl) (PdOk.anc (by kernel_rfl) PdOk.nil))), ?_⟩
        refine w_nil ?_
        show At _ _ _ _ _ _
        refine nB (nT (?_))
        refine Tr.region ?_
        refine Rg.q (v := .int .i64 (σ12.2.2)) (Pu.qo (p_move rfl)) (by decide) ?_
        refine Rg.q (v := .int .i64 (σ12.2.2 + 1)) (Pu.qo (p_add rfl rfl h23)) (by decide) ?_
        refine Rg.q (v := .int .i64 (σ12.2.2 + 1)) (Pu.qo (p_assign rfl)) (by decide) ?_
        refine Rg.nl ?_
        exact nLC ⟨(m19, ((σ12.1 ++ [σ12.2.2 + 1]), (σ12.2.1 ++ [([] : List Row) ++ (nth v0 σ12.2.2.toNat)]), σ12.2.2 + 1), ((a25, c26), (a34, c35))), hi16 _ (Option.some.inj H1).symm⟩ (Nat.lt_succ_self _) ⟨rfl, rfl, rfl, rfl, trivial⟩ Ents.refl (.cons Del.here.there.there (.cons Del.here.there (.cons Del.here (.cons Del.here .nil))))
      · have H1 := cdF h22 H1
        refine tSkip ?_
        refine nB (nT (?_))
        refine Tr.region ?_
        refine Rg.q (v := .int .i64 (σ12.2.2)) (Pu.qo (p_move rfl)) (by decide) ?_
        obtain ⟨h37, H1⟩ := gd.of H1
        refine Rg.q (v := .int .i64 (σ12.2.2 + 1)) (Pu.qo (p_add rfl rfl h37)) (by decide) ?_
        refine Rg.q (v := .int .i64 (σ12.2.2 + 1)) (Pu.qo (p_assign rfl)) (by decide) ?_
        refine Rg.nl ?_
        exact nLC ⟨(m19, (σ12.1, σ12.2.1, σ12.2.2 + 1), ((z13.1.1, z13.1.2), (z13.2.1, z13.2.2))), hi16 _ (Option.some.inj H1).symm⟩ (Nat.lt_succ_self _) ⟨rfl, rfl, rfl, rfl, trivial⟩ Ents.refl (.cons Del.here (.cons Del.here (.cons Del.here (.cons Del.here .nil))))
    · have H1 := cdF h20 H1
      refine tExit (xT (xT (xE (?_))))
      have hx := hb17 _ (Option.some.inj H1).symm; subst hx
      exact nMC ((z13.1.1, z13.1.2), (z13.2.1, z13.2.2)) ⟨rfl, rfl, trivial⟩ Ents.refl (.cons Del.here (.cons Del.here (.cons Del.here (.cons Del.here .nil))))
  · intro y14
    show At _ _ [(2, .pointer (some ⟨g2, 0, none⟩)), (3, .pointer (some ⟨g7, 0, none⟩))] _ [box g2 26 [.slice none 0 0, .slice none 0 0], tree (.slice y14.1.1 x8.1.length y14.1.2) x8.1, tree (.slice y14.2.1 x8.2.length y14.2.2) x8.2, box g7 26 [.slice y14.1.1 x8.1.length y14.1.2, .slice y14.2.1 x8.2.length y14.2.2]] _
    refine nT (?_)
    refine Tr.seq ?_
    refine Tr.region ?_
    refine Rg.q (v := .agg #[.slice y14.1.1 x8.1.length y14.1.2, .slice y14.2.1 x8.2.length y14.2.2]) (q_ldbA ty26 rfl Has.here.there.there.there rfl) (by decide) ?_
    refine Rg.en (e_store (v := .agg #[.slice y14.1.1 x8.1.length y14.1.2, .slice y14.2.1 x8.2.length y14.2.2]) (cs' := [.slice y14.1.1 x8.1.length y14.1.2, .slice y14.2.1 x8.2.length y14.2.2]) ty26 rfl rfl Upd.here rfl (by simp [Value.cells, Value.oneCell']) (Nat.le_of_ble_eq_true rfl) rfl) rfl ?_
    rintro _ _ _ ⟨rfl, rfl, rfl⟩
    refine Rg.nl ?_
    refine nT (?_)
    refine tRet ?_
    have hr := Option.some.inj H; subst hr
    exact back1 y14 rfl (ResV.agg ty26 rfl Has.here rfl) rfl Ents.nil (.cons Del.here.there (.cons Del.here.there .nil))
noncomputable def p_spec_l72Part_b0 (v0 : L6Rd) (σ8 : Int × (List (List Row)) × Int) : Option ((Int × (List (List Row)) × Int) ⊕ (Int × (List (List Row)))) := cond (decide (σ8.2.2 < 4)) (bd (p_spec_l6Rd_pick (v0.1, σ8.1) 2) fun r19 => cond (decide (r19.1 = 0)) (bd (p_spec_l71Block (v0.1, r19.2)) fun r23 => gd (room (σ8.2.1.length + 1)) <| gd (I64 (σ8.2.2 + 1)) <| some (.inl (r23.2, (σ8.2.1 ++ [r23.1]), σ8.2.2 + 1))) (gd (room (σ8.2.1.length + 1)) <| gd (I64 (σ8.2.2 + 1)) <| some (.inl (r19.2, (σ8.2.1 ++ [([] : List Row)]), σ8.2.2 + 1)))) (some (.inr (σ8.1, σ8.2.1)))
noncomputable def p_spec_l72Part (v0 : L6Rd) : Option (Part × Int) := bd (lp (p_spec_l72Part_b0 v0) (v0.2, ([] : List (List Row)), 0)) fun x4 => bd (p_spec_l12Make x4.2) fun r36 => bd (p_spec_l6Rd_pick (v0.1, x4.1) 24) fun r40 => cond (decide (r40.1 = 0)) (bd (p_spec_l6Rd_pick (v0.1, r40.2) 9) fun r44 => gd (room (r36.1.length + 1)) <| some (((r36.1 ++ [r44.1]), r36.2), r44.2)) (cond (decide (r40.1 = 1)) (gd (room (r36.1.length + 1)) <| gd (room (r36.2.length + 1)) <| some (((r36.1 ++ [6]), (r36.2 ++ [([] : List Row)])), r40.2)) (some (r36, r40.2)))
theorem c_spec_l72Part {r : Part × Int} (g_v0 : Nat) (v0 : L6Rd) (x_v0 : (Option Addr × Nat) × Unit) (H : p_spec_l72Part v0 = some r) : Fn' Try.prog 37 #[.pointer (some ⟨g_v0, 0, none⟩)] [imm (.slice x_v0.1.1 v0.1.length x_v0.1.2) v0.1] [box g_v0 85 [.slice x_v0.1.1 v0.1.length x_v0.1.2, .int .i64 (v0.2)]] (ι := (Option Addr × Nat) × (Option Addr × Nat)) (fun x => .agg #[.slice x.1.1 r.1.1.length x.1.2, .slice x.2.1 r.1.2.length x.2.2]) (fun _ => []) (fun x => [tree (.slice x.1.1 r.1.1.length x.1.2) r.1.1, tree (.slice x.2.1 r.1.2.length x.2.2) r.1.2, box g_v0 85 [.slice x_v0.1.1 v0.1.length x_v0.1.2, .int .i64 (r.2)]]) := by
  refine calls_of (args := [_]) Try.func37 rfl (by kernel_rfl) Try.ntmps37 (by simp) fun c => ?_
  unfold p_spec_l72Part at H
  refine Tr.seq ?_
  refine Tr.region ?_
  refine Rg.ed (e_alloc ty26) rfl (by decide) ?_
  rintro _ _ _ ⟨g1, rfl, rfl, rfl⟩
  refine Rg.nl ?_
  refine nT (?_)
  refine Tr.seq ?_
  refine Tr.region ?_
  refine Rg.ed (e_lit0 (List Row) Try.underlying24 ty29) rfl (by decide) ?_
  rintro _ _ _ ⟨a2, c3, rfl, rfl, rfl⟩
  refine Rg.q (v := .slice a2 (([] : List (List Row)).length) c3) (Pu.qo (p_assign rfl)) (by decide) ?_
  refine Rg.nl ?_
  refine nT (?_)
  refine Tr.seq ?_
  refine Tr.seq ?_
  refine Tr.region ?_
  refine Rg.q (v := .int .i64 (0)) (Pu.qo (p_assign rfl)) (by decide) ?_
  refine Rg.nl ?_
  refine nT (?_)
  obtain ⟨x4, hx5, H⟩ := bd.of H
  obtain ⟨n6, hx5⟩ := lp.of hx5
  refine tMidNC (ι := Option Addr × Nat) (fun ψ => [(0, .pointer (some ⟨g_v0, 0, none⟩)), (2, .pointer (some ⟨g1, 0, none⟩)), (3, .slice ψ.1 x4.2.length ψ.2)]) (fun ψ => [box g_v0 85 [.slice x_v0.1.1 v0.1.length x_v0.1.2, .int .i64 (x4.1)], box g1 26 [.slice none 0 0, .slice none 0 0], tree (.slice ψ.1 x4.2.length ψ.2) x4.2]) ?_ ?_
  · refine Tr.block ?_
    refine tLoopC (ι := { q : Nat × (Int × (List (List Row)) × Int) × (Option Addr × Nat) // itr (p_spec_l72Part_b0 v0) q.1 q.2.1 = some x4 }) (fun ζ => [(0, .pointer (some ⟨g_v0, 0, none⟩)), (2, .pointer (some ⟨g1, 0, none⟩)), (3, .slice ζ.1.2.2.1 ζ.1.2.1.2.1.length ζ.1.2.2.2), (4, .int .i64 (ζ.1.2.1.2.2))]) (fun ζ => [box g_v0 85 [.slice x_v0.1.1 v0.1.length x_v0.1.2, .int .i64 (ζ.1.2.1.1)], box g1 26 [.slice none 0 0, .slice none 0 0], tree (.slice ζ.1.2.2.1 ζ.1.2.1.2.1.length ζ.1.2.2.2) ζ.1.2.1.2.1]) (fun ζ => ζ.1.1) ⟨(n6, (v0.2, ([] : List (List Row)), 0), (a2, c3)), hx5⟩ ⟨rfl, rfl, rfl, rfl, trivial⟩ (.cons Del.here.there.there (.cons Del.here.there (.cons Del.here .nil))) ?_
    rintro ⟨⟨m7, σ8, z9⟩, hk14⟩
    obtain ⟨m15, t11, e, H1, hi12, hb13⟩ := itr.of (n := m7) (s := σ8) hk14
    subst e; unfold p_spec_l72Part_b0 at H1
    show Tr _ _ _ _ _ [(0, .pointer (some ⟨g_v0, 0, none⟩)), (2, .pointer (some ⟨g1, 0, none⟩)), (3, .slice z9.1 σ8.2.1.length z9.2), (4, .int .i64 (σ8.2.2))] _ [box g_v0 85 [.slice x_v0.1.1 v0.1.length x_v0.1.2, .int .i64 (σ8.1)], box g1 26 [.slice none 0 0, .slice none 0 0], tree (.slice z9.1 σ8.2.1.length z9.2) σ8.2.1]
    refine Tr.seq ?_
    refine Tr.seq ?_
    refine Tr.region ?_
    refine Rg.q (v := .int .i64 (σ8.2.2)) (Pu.qo (p_move rfl)) (by decide) ?_
    refine Rg.q (v := .bool (decide (σ8.2.2 < 4))) (Pu.qo (p_lss rfl rfl)) (by decide) ?_
    refine Rg.nl ?_
    refine nT (?_)
    refine Tr.cond (b := decide (σ8.2.2 < 4)) rfl (fun h16 => ?_) (fun h16 => ?_)
    · have H1 := cdT h16 H1
      refine tSkip ?_
      refine nT (?_)
      refine Tr.seq ?_
      refine Tr.block ?_
      refine Tr.seq ?_
      refine Tr.region ?_
      refine Rg.ed (e_lit0 Row Try.underlying29 ty68) rfl (by decide) ?_
      rintro _ _ _ ⟨a17, c18, rfl, rfl, rfl⟩
      refine Rg.q (v := .slice a17 (([] : List Row).length) c18) (Pu.qo (p_assign rfl)) (by decide) ?_
      refine Rg.nl ?_
      refine nT (?_)
      refine Tr.seq ?_
      refine Tr.seq ?_
      refine Tr.region ?_
      refine Rg.q (v := .pointer (some ⟨g_v0, 0, none⟩)) (Pu.qo (p_move rfl)) (by decide) ?_
      obtain ⟨r19, h20, H1⟩ := bd.of H1
      refine Rg.ed (e_callM (vs := [.pointer (some ⟨g_v0, 0, none⟩), .int .i64 (2)]) (c_spec_l6Rd_pick g_v0 (v0.1, σ8.1) (x_v0.1, ()) 2 h20) (Solo.box Solo.nil) (fun _ => (Solo.box Solo.nil)) rfl (.cons Del.here.there .nil) (EntsB.cons (Ent.b Ent.z) EntsB.nil)) rfl (by decide) ?_
      rintro _ _ _ ⟨u21, rfl, rfl, rfl⟩
      refine Rg.q (v := .bool (decide (r19.1 = 0))) (Pu.qo (p_eql rfl rfl)) (by decide) ?_
      refine Rg.nl ?_
      refine nT (?_)
      refine Tr.cond (b := decide (r19.1 = 0)) rfl (fun h22 => ?_) (fun h22 => ?_)
      · have H1 := cdT h22 H1
        refine Tr.region ?_
        refine Rg.q (v := .pointer (some ⟨g_v0, 0, none⟩)) (Pu.qo (p_move rfl)) (by decide) ?_
        obtain ⟨r23, h24, H1⟩ := bd.of H1
        refine Rg.ed (e_callM (vs := [.pointer (some ⟨g_v0, 0, none⟩)]) (c_spec_l71Block g_v0 (v0.1, r19.2) (x_v0.1, ()) h24) (Solo.box Solo.nil) (fun _ => (Solo.tree (Solo.box Solo.nil))) rfl (.cons Del.here .nil) (EntsB.cons (Ent.b Ent.z) EntsB.nil)) rfl (by decide) ?_
        rintro _ _ _ ⟨x25, rfl, rfl, rfl⟩
        refine Rg.q (v := .slice x25.1 r23.1.length x25.2) (Pu.qo (p_assign rfl)) (by decide) ?_
        refine Rg.nl ?_
        refine nT (?_)
        refine Tr.region ?_
        refine Rg.q (v := .slice z9.1 σ8.2.1.length z9.2) (Pu.qo (p_move rfl)) (by decide) ?_
        refine Rg.q (v := .slice x25.1 r23.1.length x25.2) (Pu.qo (p_move rfl)) (by decide) ?_
        refine Rg.ed (e_lit (vs := [(0, .slice x25.1 r23.1.length x25.2)]) [.slice x25.1 r23.1.length x25.2] Try.underlying24 ty29 rfl (by decide) (by decide) (by kernel_rfl)) rfl (by decide) ?_
        rintro _ _ _ ⟨g26, rfl, rfl, rfl⟩
        obtain ⟨h29, H1⟩ := gd.of H1
        refine Rg.ed (e_app1 (l := σ8.2.1) (α := (List Row)) r23.1 x25 Try.underlying24 ty29 rfl rfl (h29.b (by decide)) h29.x rfl (ShpT.wfa _) (.cons Del.here.there.there.there.there.there (.cons Del.here (.cons Del.here .nil)))) rfl (by decide) ?_
        rintro _ _ _ ⟨a27, c28, rfl, rfl, rfl⟩
        refine Rg.q (v := .slice a27 ((σ8.2.1 ++ [r23.1]).length) c28) (Pu.qo (p_assign rfl)) (by decide) ?_
        refine Rg.nl ?_
        refine nB (nT (?_))
        refine Tr.region ?_
        refine Rg.q (v := .int .i64 (σ8.2.2)) (Pu.qo (p_move rfl)) (by decide) ?_
        obtain ⟨h30, H1⟩ := gd.of H1
        refine Rg.q (v := .int .i64 (σ8.2.2 + 1)) (Pu.qo (p_add rfl rfl h30)) (by decide) ?_
        refine Rg.q (v := .int .i64 (σ8.2.2 + 1)) (Pu.qo (p_assign rfl)) (by decide) ?_
        refine Rg.nl ?_
        exact nLC ⟨(m15, (r23.2, (σ8.2.1 ++ [r23.1]), σ8.2.2 + 1), (a27, c28)), hi12 _ (Option.some.inj H1).symm⟩ (Nat.lt_succ_self _) ⟨rfl, rfl, rfl, rfl, trivial⟩ Ents.refl (.cons Del.here.there (.cons Del.here.there.there (.cons Del.here .nil)))
      · have H1 := cdF h22 H1
        refine tSkip ?_
        refine nT (?_)
        refine Tr.region ?_
        refine Rg.q (v := .slice z9.1 σ8.2.1.length z9.2) (Pu.qo (p_move rfl)) (by decide) ?_
        refine Rg.q (v := .slice a17 (([] : List Row).length) c18) (Pu.qo (p_move rfl)) (by decide) ?_
        refine Rg.ed (e_lit (vs := [(0, .slice a17 (([] : List Row).length) c18)]) [.slice a17 (([] : List Row).length) c18] Try.underlying24 ty29 rfl (by decide) (by decide) (by kernel_rfl)) rfl (by decide) ?_
        rintro _ _ _ ⟨g31, rfl, rfl, rfl⟩
        obtain ⟨h34, H1⟩ := gd.of H1
        refine Rg.ed (e_app1 (l := σ8.2.1) (α := (List Row)) ([] : List Row) (a17, c18) Try.underlying24 ty29 rfl rfl (h34.b (by decide)) h34.x rfl (ShpT.wfa _) (.cons Del.here.there.there.there.there (.cons Del.here (.cons Del.here.there .nil)))) rfl (by decide) ?_
        rintro _ _ _ ⟨a32, c33, rfl, rfl, rfl⟩
        refine Rg.q (v := .slice a32 ((σ8.2.1 ++ [([] : List Row)]).length) c33) (Pu.qo (p_assign rfl)) (by decide) ?_
        refine Rg.nl ?_
        refine nB (nT (?_))
        refine Tr.region ?_
        refine Rg.q (v := .int .i64 (σ8.2.2)) (Pu.qo (p_move rfl)) (by decide) ?_
        obtain ⟨h35, H1⟩ := gd.of H1
        refine Rg.q (v := .int .i64 (σ8.2.2 + 1)) (Pu.qo (p_add rfl rfl h35)) (by decide) ?_
        refine Rg.q (v := .int .i64 (σ8.2.2 + 1)) (Pu.qo (p_assign rfl)) (by decide) ?_
        refine Rg.nl ?_
        exact nLC ⟨(m15, (r19.2, (σ8.2.1 ++ [([] : List Row)]), σ8.2.2 + 1), (a32, c33)), hi12 _ (Option.some.inj H1).symm⟩ (Nat.lt_succ_self _) ⟨rfl, rfl, rfl, rfl, trivial⟩ Ents.refl (.cons Del.here.there (.cons Del.here.there (.cons Del.here .nil)))
    · have H1 := cdF h16 H1
      refine tExit (xT (xT (xE (?_))))
      have hx := hb13 _ (Option.some.inj H1).symm; subst hx
      exact nMC (z9.1, z9.2) ⟨rfl, rfl, rfl, trivial⟩ Ents.refl (.cons Del.here (.cons Del.here (.cons Del.here .nil)))
  · intro y10
    show At _ _ [(0, .pointer (some ⟨g_v0, 0, none⟩)), (2, .pointer (some ⟨g1, 0, none⟩)), (3, .slice y10.1 x4.2.length y10.2)] _ [box g_v0 85 [.slice x_v0.1.1 v0.1.length x_v0.1.2, .int .i64 (x4.1)], box g1 26 [.slice none 0 0, .slice none 0 0], tree (.slice y10.1 x4.2.length y10.2) x4.2] _
    refine nT (?_)
    refine Tr.seq ?_
    refine Tr.region ?_
    refine Rg.q (v := .slice y10.1 x4.2.length y10.2) (Pu.qo (p_move rfl)) (by decide) ?_
    obtain ⟨r36, h37, H⟩ := bd.of H
    refine Rg.ed (e_callB (vs := [.slice y10.1 x4.2.length y10.2]) (c_spec_l12Make x4.2 y10 h37) (fun _ => (Solo.tree (Solo.tree Solo.nil))) rfl (EntsB.cons (EntB.tree Has.here.there.there) EntsB.nil)) rfl (by decide) ?_
    rintro _ _ _ ⟨x38, rfl, rfl, rfl⟩
    refine Rg.ed (e_alloc ty26) rfl (by decide) ?_
    rintro _ _ _ ⟨g39, rfl, rfl, rfl⟩
    refine Rg.en (e_store (v := .agg #[.slice x38.1.1 r36.1.length x38.1.2, .slice x38.2.1 r36.2.length x38.2.2]) (cs' := [.slice x38.1.1 r36.1.length x38.1.2, .slice x38.2.1 r36.2.length x38.2.2]) ty26 rfl rfl Upd.here rfl (by simp [Value.cells, Value.oneCell']) (Nat.le_of_ble_eq_true rfl) rfl) rfl ?_
    rintro _ _ _ ⟨rfl, rfl, rfl⟩
    refine Rg.nl ?_
    refine nT (?_)
    refine Tr.seq ?_
    refine Tr.seq ?_
    refine Tr.region ?_
    refine Rg.q (v := .pointer (some ⟨g_v0, 0, none⟩)) (Pu.qo (p_move rfl)) (by decide) ?_
    obtain ⟨r40, h41, H⟩ := bd.of H
    refine Rg.ed (e_callM (vs := [.pointer (some ⟨g_v0, 0, none⟩), .int .i64 (24)]) (c_spec_l6Rd_pick g_v0 (v0.1, x4.1) (x_v0.1, ()) 24 h41) (Solo.box Solo.nil) (fun _ => (Solo.box Solo.nil)) rfl (.cons Del.here.there.there.there .nil) (EntsB.cons (Ent.b Ent.z) EntsB.nil)) rfl (by decide) ?_
    rintro _ _ _ ⟨u42, rfl, rfl, rfl⟩
    refine Rg.nl ?_
    refine nT (?_)
    refine Tr.block ?_
    refine Tr.seq ?_
    refine Tr.region ?_
    refine Rg.q (v := .bool (decide (r40.1 = 0))) (Pu.qo (p_eql rfl rfl)) (by decide) ?_
    refine Rg.q (v := .bool (decide (r40.1 = 0))) (Pu.qo (p_assign rfl)) (by decide) ?_
    refine Rg.nl ?_
    refine nT (?_)
    refine Tr.cond (b := decide (r40.1 = 0)) rfl (fun h43 => ?_) (fun h43 => ?_)
    · have H := cdT h43 H
      refine tNwS [(6, .pointer (some ⟨g39, 0, none⟩)), (0, .pointer (some ⟨g_v0, 0, none⟩)), (2, .pointer (some ⟨g1, 0, none⟩))] 1 [0, 1, 2, 3, 4, 5, 6, 7] [3, 4, 5, 7] [] Try.mixed (by kernel_rfl) (by decide) List.nodup_nil ⟨rfl, rfl, rfl, trivial⟩ rfl okNil ?_
      refine w_pu (v := .pointer (some ⟨g39, 0, none⟩)) rfl (by decide) rfl rfl rfl (p_fabE fa26_0 rfl rfl) ?_
      refine w_q (v := .slice x38.1.1 r36.1.length x38.1.2) rfl (by decide) rfl rfl rfl (fun F => (q_ldb ty23 rfl (Has.here.there.app F) rfl)) ?_
      refine w_pu (v := .pointer (some ⟨g_v0, 0, none⟩)) rfl (by decide) rfl rfl rfl (p_move rfl) ?_
      obtain ⟨r44, h45, H⟩ := bd.of H
      refine w_ed rfl (by decide) rfl Rdy.nil rfl (n_callM (vs := [.pointer (some ⟨g_v0, 0, none⟩), .int .i64 (9)]) (c_spec_l6Rd_pick g_v0 (v0.1, r40.2) (x_v0.1, ()) 9 h45) (Solo.box Solo.nil) (fun _ => (Solo.box Solo.nil)) rfl (.cons Del.here .nil) (EntsB.cons (Ent.b Ent.z) EntsB.nil)) ?_
      rintro _ _ _ ⟨u46, rfl, rfl, rfl⟩
      refine ⟨(PdOk.q rfl rfl (fun F => (q_ldb ty23 rfl (Has.here.there.app F) rfl)) PdOk.nil), ?_⟩
      refine w_ed rfl (by decide) rfl Rdy.nil rfl (n_lit (vs := [(0, .int .i64 (r44.1))]) [.int .i64 (r44.1)] Try.underlying23 ty3 rfl (by decide) (by decide) (by kernel_rfl)) ?_
      rintro _ _ _ ⟨g47, rfl, rfl, rfl⟩
      refine ⟨(PdOk.q rfl rfl (fun F => (q_ldb ty23 rfl (Has.here.there.there.app F) rfl)) PdOk.nil), ?_⟩
      obtain ⟨h50, H⟩ := gd.of H
      refine w_ed rfl (by decide) rfl Rdy.nil rfl (n_app1 (l := r36.1) (α := Int) r44.1 () Try.underlying23 ty3 rfl rfl (h50.b (by decide)) h50.x rfl (ShpT.wfa _) (.cons Del.here.there.there.there (.cons Del.here .nil))) ?_
      rintro _ _ _ ⟨a48, c49, rfl, rfl, rfl⟩
      refine ⟨(PdOk.anc (by kernel_rfl) PdOk.nil), ?_⟩
      refine w_pu (v := .pointer (some ⟨g39, 0, none⟩)) rfl (by decide) rfl rfl rfl (p_fabE fa26_0 rfl rfl) ?_
      refine w_en rfl rfl Rdy.nil rfl (n_store (v := .slice a48 ((r36.1 ++ [r44.1]).length) c49) (cs' := [.slice a48 ((r36.1 ++ [r44.1]).length) c49, .slice x38.2.1 r36.2.length x38.2.2]) ty23 rfl rfl Upd.here.there.there rfl (by simp [Value.cells, Value.oneCell']) (Nat.le_of_ble_eq_true rfl) rfl) ?_
      rintro _ _ _ ⟨rfl, rfl, rfl⟩
      refine ⟨(PdOk.anc (by kernel_rfl) PdOk.nil), ?_⟩
      refine w_nil ?_
      show At _ _ _ _ _ _
      refine nB (nT (?_))
      refine Tr.seq ?_
      refine Tr.region ?_
      refine Rg.q (v := .agg #[.slice a48 ((r36.1 ++ [r44.1]).length) c49, .slice x38.2.1 r36.2.length x38.2.2]) (q_ldbA ty26 rfl Has.here.there.there rfl) (by decide) ?_
      refine Rg.en (e_store (v := .agg #[.slice a48 ((r36.1 ++ [r44.1]).length) c49, .slice x38.2.1 r36.2.length x38.2.2]) (cs' := [.slice a48 ((r36.1 ++ [r44.1]).length) c49, .slice x38.2.1 r36.2.length x38.2.2]) ty26 rfl rfl Upd.here.there.there.there.there rfl (by simp [Value.cells, Value.oneCell']) (Nat.le_of_ble_eq_true rfl) rfl) rfl ?_
      rintro _ _ _ ⟨rfl, rfl, rfl⟩
      refine Rg.nl ?_
      refine nT (?_)
      refine tRet ?_
      have hr := Option.some.inj H; subst hr
      exact back1 ((a48, c49), x38.2) rfl (ResV.agg ty26 rfl Has.here.there.there.there.there rfl) rfl Ents.nil (.cons Del.here (.cons Del.here.there.there (.cons Del.here .nil)))
    · have H := cdF h43 H
      refine Tr.seq ?_
      refine Tr.region ?_
      refine Rg.q (v := .bool (decide (r40.1 = 1))) (Pu.qo (p_eql rfl rfl)) (by decide) ?_
      refine Rg.q (v := .bool (decide (r40.1 = 1))) (Pu.qo (p_assign rfl)) (by decide) ?_
      refine Rg.nl ?_
      refine nT (?_)
      refine Tr.cond (b := decide (r40.1 = 1)) rfl (fun h51 => ?_) (fun h51 => ?_)
      · have H := cdT h51 H
        refine Tr.seq ?_
        refine Tr.region ?_
        refine Rg.q (v := .pointer (some ⟨g39, 0, none⟩)) (Pu.qo (p_fabE fa26_0 rfl rfl)) (by decide) ?_
        refine Rg.q (v := .slice x38.1.1 r36.1.length x38.1.2) (q_ldb ty23 rfl Has.here.there rfl) (by decide) ?_
        refine Rg.ed (e_lit (vs := [(0, .int .i64 (6))]) [.int .i64 (6)] Try.underlying23 ty3 rfl (by decide) (by decide) (by kernel_rfl)) rfl (by decide) ?_
        rintro _ _ _ ⟨g52, rfl, rfl, rfl⟩
        obtain ⟨h55, H⟩ := gd.of H
        refine Rg.ed (e_app1 (l := r36.1) (α := Int) 6 () Try.underlying23 ty3 rfl rfl (h55.b (by decide)) h55.x rfl (ShpT.wfa _) (.cons Del.here.there.there.there (.cons Del.here .nil))) rfl (by decide) ?_
        rintro _ _ _ ⟨a53, c54, rfl, rfl, rfl⟩
        refine Rg.q (v := .pointer (some ⟨g39, 0, none⟩)) (Pu.qo (p_fabE fa26_0 rfl rfl)) (by decide) ?_
        refine Rg.en (e_store (v := .slice a53 ((r36.1 ++ [6]).length) c54) (cs' := [.slice a53 ((r36.1 ++ [6]).length) c54, .slice x38.2.1 r36.2.length x38.2.2]) ty23 rfl rfl Upd.here.there.there rfl (by simp [Value.cells, Value.oneCell']) (Nat.le_of_ble_eq_true rfl) rfl) rfl ?_
        rintro _ _ _ ⟨rfl, rfl, rfl⟩
        refine Rg.nl ?_
        refine nT (?_)
        refine Tr.region ?_
        refine Rg.q (v := .pointer (some ⟨g39, 1, none⟩)) (Pu.qo (p_fabE fa26_1 rfl rfl)) (by decide) ?_
        refine Rg.q (v := .slice x38.2.1 r36.2.length x38.2.2) (q_ldb ty24 rfl Has.here.there.there rfl) (by decide) ?_
        refine Rg.ed (e_lit0 Row Try.underlying29 ty68) rfl (by decide) ?_
        rintro _ _ _ ⟨a56, c57, rfl, rfl, rfl⟩
        refine Rg.ed (e_lit (vs := [(0, .slice a56 (([] : List Row).length) c57)]) [.slice a56 (([] : List Row).length) c57] Try.underlying24 ty29 rfl (by decide) (by decide) (by kernel_rfl)) rfl (by decide) ?_
        rintro _ _ _ ⟨g58, rfl, rfl, rfl⟩
        obtain ⟨h61, H⟩ := gd.of H
        refine Rg.ed (e_app1 (l := r36.2) (α := (List Row)) ([] : List Row) (a56, c57) Try.underlying24 ty29 rfl rfl (h61.b (by decide)) h61.x rfl (ShpT.wfa _) (.cons Del.here.there.there.there.there.there (.cons Del.here (.cons Del.here .nil)))) rfl (by decide) ?_
        rintro _ _ _ ⟨a59, c60, rfl, rfl, rfl⟩
        refine Rg.q (v := .pointer (some ⟨g39, 1, none⟩)) (Pu.qo (p_fabE fa26_1 rfl rfl)) (by decide) ?_
        refine Rg.en (e_store (v := .slice a59 ((r36.2 ++ [([] : List Row)]).length) c60) (cs' := [.slice a53 ((r36.1 ++ [6]).length) c54, .slice a59 ((r36.2 ++ [([] : List Row)]).length) c60]) ty24 rfl rfl Upd.here.there.there.there rfl (by simp [Value.cells, Value.oneCell']) (Nat.le_of_ble_eq_true rfl) rfl) rfl ?_
        rintro _ _ _ ⟨rfl, rfl, rfl⟩
        refine Rg.nl ?_
        refine nB (nT (?_))
        refine Tr.seq ?_
        refine Tr.region ?_
        refine Rg.q (v := .agg #[.slice a53 ((r36.1 ++ [6]).length) c54, .slice a59 ((r36.2 ++ [([] : List Row)]).length) c60]) (q_ldbA ty26 rfl Has.here.there.there.there rfl) (by decide) ?_
        refine Rg.en (e_store (v := .agg #[.slice a53 ((r36.1 ++ [6]).length) c54, .slice a59 ((r36.2 ++ [([] : List Row)]).length) c60]) (cs' := [.slice a53 ((r36.1 ++ [6]).length) c54, .slice a59 ((r36.2 ++ [([] : List Row)]).length) c60]) ty26 rfl rfl Upd.here.there.there.there.there rfl (by simp [Value.cells, Value.oneCell']) (Nat.le_of_ble_eq_true rfl) rfl) rfl ?_
        rintro _ _ _ ⟨rfl, rfl, rfl⟩
        refine Rg.nl ?_
        refine nT (?_)
        refine tRet ?_
        have hr := Option.some.inj H; subst hr
        exact back1 ((a53, c54), (a59, c60)) rfl (ResV.agg ty26 rfl Has.here.there.there.there.there rfl) rfl Ents.nil (.cons Del.here.there (.cons Del.here (.cons Del.here .nil)))
      · have H := cdF h51 H
        refine tSkip ?_
        refine nB (nT (?_))
        refine Tr.seq ?_
        refine Tr.region ?_
        refine Rg.q (v := .agg #[.slice x38.1.1 r36.1.length x38.1.2, .slice x38.2.1 r36.2.length x38.2.2]) (q_ldbA ty26 rfl Has.here.there rfl) (by decide) ?_
        refine Rg.en (e_store (v := .agg #[.slice x38.1.1 r36.1.length x38.1.2, .slice x38.2.1 r36.2.length x38.2.2]) (cs' := [.slice x38.1.1 r36.1.length x38.1.2, .slice x38.2.1 r36.2.length x38.2.2]) ty26 rfl rfl Upd.here.there.there.there.there rfl (by simp [Value.cells, Value.oneCell']) (Nat.le_of_ble_eq_true rfl) rfl) rfl ?_
        rintro _ _ _ ⟨rfl, rfl, rfl⟩
        refine Rg.nl ?_
        refine nT (?_)
        refine tRet ?_
        have hr := Option.some.inj H; subst hr
        exact back1 x38 rfl (ResV.agg ty26 rfl Has.here.there.there.there.there rfl) rfl Ents.nil (.cons Del.here.there.there (.cons Del.here.there.there (.cons Del.here .nil)))
noncomputable def p_spec_DrawPartOk (v0 : (List UInt8)) : Option (Part) := bd (p_spec_l6Open v0) fun r2 => bd (p_spec_l72Part r2) fun r5 => bd (p_spec_l6Rd_pick (r2.1, r5.2) 5) fun r9 => cond (decide (r9.1 = 0)) (bd (p_spec_l6Rd_pick (r2.1, r9.2) 7) fun r13 => gd (I64 (1 + r13.1)) <| gd (room (r5.1.1.length + 1)) <| bd (p_spec_l71Block (r2.1, r13.2)) fun r21 => gd (room (r5.1.2.length + 1)) <| some ((r5.1.1 ++ [1 + r13.1]), (r5.1.2 ++ [r21.1]))) (some r5.1)
theorem c_spec_DrawPartOk {r : Part} (v0 : (List UInt8)) (x_v0 : Option Addr × Nat) (H : p_spec_DrawPartOk v0 = some r) : Fn' Try.prog 10 #[.slice x_v0.1 v0.length x_v0.2] [imm (.slice x_v0.1 v0.length x_v0.2) v0] [] (ι := (Option Addr × Nat) × (Option Addr × Nat)) (fun x => .agg #[.slice x.1.1 r.1.length x.1.2, .slice x.2.1 r.2.length x.2.2]) (fun _ => []) (fun x => [tree (.slice x.1.1 r.1.length x.1.2) r.1, tree (.slice x.2.1 r.2.length x.2.2) r.2]) := by
  refine calls_of (args := [_]) Try.func10 rfl (by kernel_rfl) Try.ntmps10 (by simp) fun c => ?_
  unfold p_spec_DrawPartOk at H
  refine Tr.seq ?_
  refine Tr.region ?_
  refine Rg.ed (e_alloc ty26) rfl (by decide) ?_
  rintro _ _ _ ⟨g1, rfl, rfl, rfl⟩
  refine Rg.nl ?_
  refine nT (?_)
  refine Tr.seq ?_
  refine Tr.region ?_
  refine Rg.q (v := .slice x_v0.1 v0.length x_v0.2) (Pu.qo (p_move rfl)) (by decide) ?_
  obtain ⟨r2, h3, H⟩ := bd.of H
  refine Rg.ed (e_call (vs := [.slice x_v0.1 v0.length x_v0.2]) (c_spec_l6Open v0 x_v0 h3) rfl (Ents.cons Ent.z Ents.nil) Take.nil) rfl (by decide) ?_
  rintro _ _ _ ⟨x4, rfl, rfl, rfl⟩
  refine Rg.q (v := .pointer (some ⟨x4.1, 0, none⟩)) (Pu.qo (p_assign rfl)) (by decide) ?_
  refine Rg.nl ?_
  refine nT (?_)
  refine Tr.seq ?_
  refine Tr.region ?_
  refine Rg.q (v := .pointer (some ⟨x4.1, 0, none⟩)) (Pu.qo (p_move rfl)) (by decide) ?_
  obtain ⟨r5, h6, H⟩ := bd.of H
  refine Rg.ed (e_callM (vs := [.pointer (some ⟨x4.1, 0, none⟩)]) (c_spec_l72Part x4.1 r2 (x4.2.1, ()) h6) (Solo.box Solo.nil) (fun _ => (Solo.tree (Solo.tree (Solo.box Solo.nil)))) rfl (.cons Del.here .nil) (EntsB.cons (Ent.b Ent.z) EntsB.nil)) rfl (by decide) ?_
  rintro _ _ _ ⟨x7, rfl, rfl, rfl⟩
  refine Rg.ed (e_alloc ty26) rfl (by decide) ?_
  rintro _ _ _ ⟨g8, rfl, rfl, rfl⟩
  refine Rg.en (e_store (v := .agg #[.slice x7.1.1 r5.1.1.length x7.1.2, .slice x7.2.1 r5.1.2.length x7.2.2]) (cs' := [.slice x7.1.1 r5.1.1.length x7.1.2, .slice x7.2.1 r5.1.2.length x7.2.2]) ty26 rfl rfl Upd.here rfl (by simp [Value.cells, Value.oneCell']) (Nat.le_of_ble_eq_true rfl) rfl) rfl ?_
  rintro _ _ _ ⟨rfl, rfl, rfl⟩
  refine Rg.nl ?_
  refine nT (?_)
  refine Tr.seq ?_
  refine Tr.seq ?_
  refine Tr.region ?_
  refine Rg.q (v := .pointer (some ⟨x4.1, 0, none⟩)) (Pu.qo (p_move rfl)) (by decide) ?_
  obtain ⟨r9, h10, H⟩ := bd.of H
  refine Rg.ed (e_callM (vs := [.pointer (some ⟨x4.1, 0, none⟩), .int .i64 (5)]) (c_spec_l6Rd_pick x4.1 (r2.1, r5.2) (x4.2.1, ()) 5 h10) (Solo.box Solo.nil) (fun _ => (Solo.box Solo.nil)) rfl (.cons Del.here.there.there.there .nil) (EntsB.cons (Ent.b Ent.z) EntsB.nil)) rfl (by decide) ?_
  rintro _ _ _ ⟨u11, rfl, rfl, rfl⟩
  refine Rg.q (v := .bool (decide (r9.1 = 0))) (Pu.qo (p_eql rfl rfl)) (by decide) ?_
  refine Rg.nl ?_
  refine nT (?_)
  refine Tr.cond (b := decide (r9.1 = 0)) rfl (fun h12 => ?_) (fun h12 => ?_)
  · have H := cdT h12 H
    refine Tr.seq ?_
    refine tNwS [(4, .pointer (some ⟨g8, 0, none⟩)), (3, .pointer (some ⟨x4.1, 0, none⟩)), (2, .pointer (some ⟨g1, 0, none⟩))] 2 [0, 1, 2, 3, 4, 5, 6, 7, 8] [3, 5, 6, 8] [] Try.mixed (by kernel_rfl) (by decide) List.nodup_nil ⟨rfl, rfl, rfl, trivial⟩ rfl okNil ?_
    refine w_pu (v := .pointer (some ⟨g8, 0, none⟩)) rfl (by decide) rfl rfl rfl (p_fabE fa26_0 rfl rfl) ?_
    refine w_q (v := .slice x7.1.1 r5.1.1.length x7.1.2) rfl (by decide) rfl rfl rfl (fun F => (q_ldb ty23 rfl (Has.here.there.app F) rfl)) ?_
    refine w_pu (v := .pointer (some ⟨x4.1, 0, none⟩)) rfl (by decide) rfl rfl rfl (p_move rfl) ?_
    obtain ⟨r13, h14, H⟩ := bd.of H
    refine w_ed rfl (by decide) rfl Rdy.nil rfl (n_callM (vs := [.pointer (some ⟨x4.1, 0, none⟩), .int .i64 (7)]) (c_spec_l6Rd_pick x4.1 (r2.1, r9.2) (x4.2.1, ()) 7 h14) (Solo.box Solo.nil) (fun _ => (Solo.box Solo.nil)) rfl (.cons Del.here .nil) (EntsB.cons (Ent.b Ent.z) EntsB.nil)) ?_
    rintro _ _ _ ⟨u15, rfl, rfl, rfl⟩
    refine ⟨(PdOk.q rfl rfl (fun F => (q_ldb ty23 rfl (Has.here.there.app F) rfl)) PdOk.nil), ?_⟩
    obtain ⟨h16, H⟩ := gd.of H
    refine w_pu (v := .int .i64 (1 + r13.1)) rfl (by decide) rfl rfl rfl (p_add rfl rfl h16) ?_
    refine w_ed rfl (by decide) rfl Rdy.nil rfl (n_lit (vs := [(0, .int .i64 (1 + r13.1))]) [.int .i64 (1 + r13.1)] Try.underlying23 ty3 rfl (by decide) (by decide) (by kernel_rfl)) ?_
    rintro _ _ _ ⟨g17, rfl, rfl, rfl⟩
    refine ⟨(PdOk.q rfl rfl (fun F => (q_ldb ty23 rfl (Has.here.there.there.app F) rfl)) PdOk.nil), ?_⟩
    obtain ⟨h20, H⟩ := gd.of H
    refine w_ed rfl (by decide) rfl Rdy.nil rfl (n_app1 (l := r5.1.1) (α := Int) (1 + r13.1) () Try.underlying23 ty3 rfl rfl (h20.b (by decide)) h20.x rfl (ShpT.wfa _) (.cons Del.here.there.there.there (.cons Del.here .nil))) ?_
    rintro _ _ _ ⟨a18, c19, rfl, rfl, rfl⟩
    refine ⟨(PdOk.anc (by kernel_rfl) PdOk.nil), ?_⟩
    refine w_pu (v := .pointer (some ⟨g8, 0, none⟩)) rfl (by decide) rfl rfl rfl (p_fabE fa26_0 rfl rfl) ?_
    refine w_en rfl rfl Rdy.nil rfl (n_store (v := .slice a18 ((r5.1.1 ++ [1 + r13.1]).length) c19) (cs' := [.slice a18 ((r5.1.1 ++ [1 + r13.1]).length) c19, .slice x7.2.1 r5.1.2.length x7.2.2]) ty23 rfl rfl Upd.here.there.there rfl (by simp [Value.cells, Value.oneCell']) (Nat.le_of_ble_eq_true rfl) rfl) ?_
    rintro _ _ _ ⟨rfl, rfl, rfl⟩
    refine ⟨(PdOk.anc (by kernel_rfl) PdOk.nil), ?_⟩
    refine w_nil ?_
    show At _ _ _ _ _ _
    refine nT (?_)
    refine tNwS [(4, .pointer (some ⟨g8, 0, none⟩)), (3, .pointer (some ⟨x4.1, 0, none⟩)), (2, .pointer (some ⟨g1, 0, none⟩))] 1 [0, 1, 2, 3, 4, 5, 6, 7] [3, 4, 5, 7] [] Try.mixed (by kernel_rfl) (by decide) List.nodup_nil ⟨rfl, rfl, rfl, trivial⟩ rfl okNil ?_
    refine w_pu (v := .pointer (some ⟨g8, 1, none⟩)) rfl (by decide) rfl rfl rfl (p_fabE fa26_1 rfl rfl) ?_
    refine w_q (v := .slice x7.2.1 r5.1.2.length x7.2.2) rfl (by decide) rfl rfl rfl (fun F => (q_ldb ty24 rfl (Has.here.there.there.app F) rfl)) ?_
    refine w_pu (v := .pointer (some ⟨x4.1, 0, none⟩)) rfl (by decide) rfl rfl rfl (p_move rfl) ?_
    obtain ⟨r21, h22, H⟩ := bd.of H
    refine w_ed rfl (by decide) rfl Rdy.nil rfl (n_callM (vs := [.pointer (some ⟨x4.1, 0, none⟩)]) (c_spec_l71Block x4.1 (r2.1, r13.2) (x4.2.1, ()) h22) (Solo.box Solo.nil) (fun _ => (Solo.tree (Solo.box Solo.nil))) rfl (.cons Del.here.there .nil) (EntsB.cons (Ent.b Ent.z) EntsB.nil)) ?_
    rintro _ _ _ ⟨x23, rfl, rfl, rfl⟩
    refine ⟨(PdOk.q rfl rfl (fun F => (q_ldb ty24 rfl (Has.here.there.there.there.app F) rfl)) PdOk.nil), ?_⟩
    refine w_ed rfl (by decide) rfl Rdy.nil rfl (n_lit (vs := [(0, .slice x23.1 r21.1.length x23.2)]) [.slice x23.1 r21.1.length x23.2] Try.underlying24 ty29 rfl (by decide) (by decide) (by kernel_rfl)) ?_
    rintro _ _ _ ⟨g24, rfl, rfl, rfl⟩
    refine ⟨(PdOk.q rfl rfl (fun F => (q_ldb ty24 rfl (Has.here.there.there.there.there.app F) rfl)) PdOk.nil), ?_⟩
    obtain ⟨h27, H⟩ := gd.of H
    refine w_ed rfl (by decide) rfl Rdy.nil rfl (n_app1 (l := r5.1.2) (α := (List Row)) r21.1 x23 Try.underlying24 ty29 rfl rfl (h27.b (by decide)) h27.x rfl (ShpT.wfa _) (.cons Del.here.there.there.there.there.there (.cons Del.here (.cons Del.here .nil)))) ?_
    rintro _ _ _ ⟨a25, c26, rfl, rfl, rfl⟩
    refine ⟨(PdOk.anc (by kernel_rfl) PdOk.nil), ?_⟩
    refine w_pu (v := .pointer (some ⟨g8, 1, none⟩)) rfl (by decide) rfl rfl rfl (p_fabE fa26_1 rfl rfl) ?_
    refine w_en rfl rfl Rdy.nil rfl (n_store (v := .slice a25 ((r5.1.2 ++ [r21.1]).length) c26) (cs' := [.slice a18 ((r5.1.1 ++ [1 + r13.1]).length) c19, .slice a25 ((r5.1.2 ++ [r21.1]).length) c26]) ty24 rfl rfl Upd.here.there.there.there rfl (by simp [Value.cells, Value.oneCell']) (Nat.le_of_ble_eq_true rfl) rfl) ?_
    rintro _ _ _ ⟨rfl, rfl, rfl⟩
    refine ⟨(PdOk.anc (by kernel_rfl) PdOk.nil), ?_⟩
    refine w_nil ?_
    show At _ _ _ _ _ _
    refine nT (?_)
    refine Tr.seq ?_
    refine Tr.region ?_
    refine Rg.q (v := .agg #[.slice a18 ((r5.1.1 ++ [1 + r13.1]).length) c19, .slice a25 ((r5.1.2 ++ [r21.1]).length) c26]) (q_ldbA ty26 rfl Has.here.there.there.there rfl) (by decide) ?_
    refine Rg.en (e_store (v := .agg #[.slice a18 ((r5.1.1 ++ [1 + r13.1]).length) c19, .slice a25 ((r5.1.2 ++ [r21.1]).length) c26]) (cs' := [.slice a18 ((r5.1.1 ++ [1 + r13.1]).length) c19, .slice a25 ((r5.1.2 ++ [r21.1]).length) c26]) ty26 rfl rfl Upd.here.there.there.there.there rfl (by simp [Value.cells, Value.oneCell']) (Nat.le_of_ble_eq_true rfl) rfl) rfl ?_
    rintro _ _ _ ⟨rfl, rfl, rfl⟩
    refine Rg.nl ?_
    refine nT (?_)
    refine tRet ?_
    have hr := Option.some.inj H; subst hr
    exact back1 ((a18, c19), (a25, c26)) rfl (ResV.agg ty26 rfl Has.here.there.there.there.there rfl) rfl Ents.nil (.cons Del.here.there.there (.cons Del.here .nil))
  · have H := cdF h12 H
    refine tSkip ?_
    refine nT (?_)
    refine Tr.seq ?_
    refine Tr.region ?_
    refine Rg.q (v := .agg #[.slice x7.1.1 r5.1.1.length x7.1.2, .slice x7.2.1 r5.1.2.length x7.2.2]) (q_ldbA ty26 rfl Has.here.there rfl) (by decide) ?_
    refine Rg.en (e_store (v := .agg #[.slice x7.1.1 r5.1.1.length x7.1.2, .slice x7.2.1 r5.1.2.length x7.2.2]) (cs' := [.slice x7.1.1 r5.1.1.length x7.1.2, .slice x7.2.1 r5.1.2.length x7.2.2]) ty26 rfl rfl Upd.here.there.there.there.there rfl (by simp [Value.cells, Value.oneCell']) (Nat.le_of_ble_eq_true rfl) rfl) rfl ?_
    rintro _ _ _ ⟨rfl, rfl, rfl⟩
    refine Rg.nl ?_
    refine nT (?_)
    refine tRet ?_
    have hr := Option.some.inj H; subst hr
    exact back1 x7 rfl (ResV.agg ty26 rfl Has.here.there.there.there.there rfl) rfl Ents.nil (.cons Del.here.there.there (.cons Del.here.there.there .nil))
noncomputable def p_spec_DrawPartOf (v0 : (List UInt8)) : Option (Part × Int) := bd (p_spec_l6Open v0) fun r2 => bd (p_spec_l72Part r2) fun r5 => cond (decide (0 < (r5.1.1.length : Int))) (bd (p_spec_l6Rd_pick (r2.1, r5.2) 4) fun r10 => cond (decide (0 < r10.1)) (bd (p_spec_l6Rd_pick (r2.1, r10.2) (r5.1.1.length : Int)) fun r14 => gd (ix r14.1 r5.1.1.length) <| some (r5.1, nth r5.1.1 r14.1.toNat)) (bd (p_spec_l6Rd_pick (r2.1, r10.2) 8) fun r18 => some (r5.1, r18.1))) (bd (p_spec_l6Rd_pick (r2.1, r5.2) 8) fun r21 => some (r5.1, r21.1))
theorem c_spec_DrawPartOf {r : Part × Int} (v0 : (List UInt8)) (x_v0 : Option Addr × Nat) (H : p_spec_DrawPartOf v0 = some r) : Fn' Try.prog 19 #[.slice x_v0.1 v0.length x_v0.2] [imm (.slice x_v0.1 v0.length x_v0.2) v0] [] (ι := ((Option Addr × Nat) × (Option Addr × Nat)) × Unit) (fun x => .tuple #[.agg #[.slice x.1.1.1 r.1.1.length x.1.1.2, .slice x.1.2.1 r.1.2.length x.1.2.2], .int .i64 (r.2)]) (fun _ => []) (fun x => [tree (.slice x.1.1.1 r.1.1.length x.1.1.2) r.1.1, tree (.slice x.1.2.1 r.1.2.length x.1.2.2) r.1.2]) := by
  refine calls_of (args := [_]) Try.func19 rfl (by kernel_rfl) Try.ntmps19 (by simp) fun c => ?_
  unfold p_spec_DrawPartOf at H
  refine Tr.seq ?_
  refine Tr.region ?_
  refine Rg.ed (e_alloc ty26) rfl (by decide) ?_
  rintro _ _ _ ⟨g1, rfl, rfl, rfl⟩
  refine Rg.q (v := .int .i64 (0)) (Pu.qo (p_assign rfl)) (by decide) ?_
  refine Rg.nl ?_
  refine nT (?_)
  refine Tr.seq ?_
  refine Tr.region ?_
  refine Rg.q (v := .slice x_v0.1 v0.length x_v0.2) (Pu.qo (p_move rfl)) (by decide) ?_
  obtain ⟨r2, h3, H⟩ := bd.of H
  refine Rg.ed (e_call (vs := [.slice x_v0.1 v0.length x_v0.2]) (c_spec_l6Open v0 x_v0 h3) rfl (Ents.cons Ent.z Ents.nil) Take.nil) rfl (by decide) ?_
  rintro _ _ _ ⟨x4, rfl, rfl, rfl⟩
  refine Rg.q (v := .pointer (some ⟨x4.1, 0, none⟩)) (Pu.qo (p_assign rfl)) (by decide) ?_
  refine Rg.nl ?_
  refine nT (?_)
  refine Tr.seq ?_
  refine Tr.region ?_
  refine Rg.q (v := .pointer (some ⟨x4.1, 0, none⟩)) (Pu.qo (p_move rfl)) (by decide) ?_
  obtain ⟨r5, h6, H⟩ := bd.of H
  refine Rg.ed (e_callM (vs := [.pointer (some ⟨x4.1, 0, none⟩)]) (c_spec_l72Part x4.1 r2 (x4.2.1, ()) h6) (Solo.box Solo.nil) (fun _ => (Solo.tree (Solo.tree (Solo.box Solo.nil)))) rfl (.cons Del.here .nil) (EntsB.cons (Ent.b Ent.z) EntsB.nil)) rfl (by decide) ?_
  rintro _ _ _ ⟨x7, rfl, rfl, rfl⟩
  refine Rg.ed (e_alloc ty26) rfl (by decide) ?_
  rintro _ _ _ ⟨g8, rfl, rfl, rfl⟩
  refine Rg.en (e_store (v := .agg #[.slice x7.1.1 r5.1.1.length x7.1.2, .slice x7.2.1 r5.1.2.length x7.2.2]) (cs' := [.slice x7.1.1 r5.1.1.length x7.1.2, .slice x7.2.1 r5.1.2.length x7.2.2]) ty26 rfl rfl Upd.here rfl (by simp [Value.cells, Value.oneCell']) (Nat.le_of_ble_eq_true rfl) rfl) rfl ?_
  rintro _ _ _ ⟨rfl, rfl, rfl⟩
  refine Rg.nl ?_
  refine nT (?_)
  refine Tr.seq ?_
  refine Tr.seq ?_
  refine Tr.region ?_
  refine Rg.q (v := .pointer (some ⟨g8, 0, none⟩)) (Pu.qo (p_fabE fa26_0 rfl rfl)) (by decide) ?_
  refine Rg.q (v := .slice x7.1.1 r5.1.1.length x7.1.2) (q_ldb ty23 rfl Has.here rfl) (by decide) ?_
  refine Rg.q (v := .int .i64 ((r5.1.1.length : Int))) (Pu.qo (p_len 3 Try.underlying23 rfl)) (by decide) ?_
  refine Rg.q (v := .bool (decide (0 < (r5.1.1.length : Int)))) (Pu.qo (p_gtr rfl rfl)) (by decide) ?_
  rcases Bool.eq_false_or_eq_true (decide (0 < (r5.1.1.length : Int))) with h9 | h9
  · have H := cdT h9 H
    refine Rg.q (v := .bool (true)) (Qo.eqv (v := .bool (decide (0 < (r5.1.1.length : Int)))) (Pu.qo (p_move rfl)) (congrArg Value.bool h9)) (by decide) ?_
    refine Rg.g (v := .pointer (some ⟨x4.1, 0, none⟩)) rfl (Pu.qo (p_move rfl)) (by decide) ?_
    obtain ⟨r10, h11, H⟩ := bd.of H
    refine Rg.ed (e_callM (vs := [.pointer (some ⟨x4.1, 0, none⟩), .int .i64 (4)]) (c_spec_l6Rd_pick x4.1 (r2.1, r5.2) (x4.2.1, ()) 4 h11) (Solo.box Solo.nil) (fun _ => (Solo.box Solo.nil)) rfl (.cons Del.here.there.there.there .nil) (EntsB.cons (Ent.b Ent.z) EntsB.nil)) rfl (by decide) ?_
    rintro _ _ _ ⟨u12, rfl, rfl, rfl⟩
    refine Rg.g (v := .bool (decide (0 < r10.1))) rfl (Pu.qo (p_gtr rfl rfl)) (by decide) ?_
    refine Rg.q (v := .bool (decide (0 < r10.1))) (Pu.qo (p_pickT rfl rfl)) (by decide) ?_
    refine Rg.nl ?_
    refine nT (?_)
    refine Tr.cond (b := decide (0 < r10.1)) rfl (fun h13 => ?_) (fun h13 => ?_)
    · have H := cdT h13 H
      refine Tr.seq ?_
      refine tNwS [(5, .pointer (some ⟨g8, 0, none⟩)), (4, .pointer (some ⟨x4.1, 0, none⟩)), (2, .pointer (some ⟨g1, 0, none⟩))] 2 [0, 1, 2, 3, 4, 5, 6, 7, 8, 9, 10, 11] [7, 10] [] Try.mixed (by kernel_rfl) (by decide) List.nodup_nil ⟨rfl, rfl, rfl, trivial⟩ rfl okNil ?_
      refine w_q (v := .agg #[.slice x7.1.1 r5.1.1.length x7.1.2, .slice x7.2.1 r5.1.2.length x7.2.2]) rfl (by decide) rfl rfl rfl (fun F => (q_ldbA ty26 rfl (Has.here.there.app F) rfl)) ?_
      refine w_pu (v := .pointer (some ⟨g8, 0, none⟩)) rfl (by decide) rfl rfl rfl (p_fabE fa26_0 rfl rfl) ?_
      refine w_q (v := .slice x7.1.1 r5.1.1.length x7.1.2) rfl (by decide) rfl rfl rfl (fun F => (q_ldb ty23 rfl (Has.here.there.app F) rfl)) ?_
      refine w_pu (v := .pointer (some ⟨x4.1, 0, none⟩)) rfl (by decide) rfl rfl rfl (p_move rfl) ?_
      refine w_pu (v := .pointer (some ⟨g8, 0, none⟩)) rfl (by decide) rfl rfl rfl (p_fabE fa26_0 rfl rfl) ?_
      refine w_q (v := .slice x7.1.1 r5.1.1.length x7.1.2) rfl (by decide) rfl rfl rfl (fun F => (q_ldb ty23 rfl (Has.here.there.app F) rfl)) ?_
      refine w_pu (v := .int .i64 ((r5.1.1.length : Int))) rfl (by decide) rfl rfl rfl (p_len 3 Try.underlying23 rfl) ?_
      obtain ⟨r14, h15, H⟩ := bd.of H
      refine w_ed rfl (by decide) rfl Rdy.nil rfl (n_callM (vs := [.pointer (some ⟨x4.1, 0, none⟩), .int .i64 ((r5.1.1.length : Int))]) (c_spec_l6Rd_pick x4.1 (r2.1, r10.2) (x4.2.1, ()) (r5.1.1.length : Int) h15) (Solo.box Solo.nil) (fun _ => (Solo.box Solo.nil)) rfl (.cons Del.here .nil) (EntsB.cons (Ent.b Ent.z) EntsB.nil)) ?_
      rintro _ _ _ ⟨u16, rfl, rfl, rfl⟩
      refine ⟨(PdOk.anc (by kernel_rfl) (PdOk.q rfl rfl (fun F => (q_ldb ty23 rfl (Has.here.there.app F) rfl)) (PdOk.q rfl rfl (fun F => (q_ldbA ty26 rfl (Has.here.there.app F) rfl)) PdOk.nil))), ?_⟩
      obtain ⟨h17, H⟩ := gd.of H
      refine w_q (v := elp x7.1.1 (r14.1.toNat * Enc.sz Int + 0)) rfl (by decide) rfl rfl rfl (fun F => (q_ixO' Try.underlying23 ty3 rfl rfl h17 (Has.here.there.there.app F))) ?_
      refine w_q (v := .int .i64 (nth r5.1.1 r14.1.toNat)) rfl (by decide) rfl rfl rfl (fun F => (q_lde (l := r5.1.1) (E := fun i => Flat.enc (nth r5.1.1 i)) (oa := x7.1.1) (i := r14.1.toNat) (j := 0) ty3 rfl (EntB.flat (EntB.tree (Has.here.there.there.app F))) h17.lt rfl)) ?_
      refine w_en rfl rfl Rdy.nil rfl (n_store (v := .agg #[.slice x7.1.1 r5.1.1.length x7.1.2, .slice x7.2.1 r5.1.2.length x7.2.2]) (cs' := [.slice x7.1.1 r5.1.1.length x7.1.2, .slice x7.2.1 r5.1.2.length x7.2.2]) ty26 rfl rfl Upd.here.there.there.there.there rfl (by simp [Value.cells, Value.oneCell']) (Nat.le_of_ble_eq_true rfl) rfl) ?_
      rintro _ _ _ ⟨rfl, rfl, rfl⟩
      refine ⟨(PdOk.q rfl rfl (fun F => (q_lde (l := r5.1.1) (E := fun i => Flat.enc (nth r5.1.1 i)) (oa := x7.1.1) (i := r14.1.toNat) (j := 0) ty3 rfl (EntB.flat (EntB.tree (Has.here.there.there.app F))) h17.lt rfl)) (PdOk.q rfl rfl (fun F => (q_ixO' Try.underlying23 ty3 rfl rfl h17 (Has.here.there.there.app F))) (PdOk.q rfl rfl (fun F => (q_ldb ty23 rfl (Has.here.there.app F) rfl)) (PdOk.q rfl rfl (fun F => (q_ldb ty23 rfl (Has.here.there.app F) rfl)) (PdOk.anc (by kernel_rfl) PdOk.nil))))), ?_⟩
      refine w_pu (v := .int .i64 (nth r5.1.1 r14.1.toNat)) rfl (by decide) rfl rfl rfl (p_assign rfl) ?_
      refine w_nil ?_
      show At _ _ _ _ _ _
      refine nT (?_)
      refine tRet ?_
      refine rT (?_)
      have hr := Option.some.inj H; subst hr
      exact back2 (x7, ()) rfl (ResV.agg ty26 rfl Has.here.there.there.there.there rfl) (ResV.tmp (v := .int .i64 (nth r5.1.1 r14.1.toNat)) rfl) rfl Ents.nil (.cons Del.here.there.there (.cons Del.here.there.there .nil))
    · have H := cdF h13 H
      refine tSkip ?_
      refine nT (?_)
      refine Tr.seq ?_
      refine tNwS [(5, .pointer (some ⟨g8, 0, none⟩)), (4, .pointer (some ⟨x4.1, 0, none⟩)), (2, .pointer (some ⟨g1, 0, none⟩))] 1 [0, 1, 2, 3, 4] [2, 3] [] Try.mixed (by kernel_rfl) (by decide) List.nodup_nil ⟨rfl, rfl, rfl, trivial⟩ rfl okNil ?_
      refine w_q (v := .agg #[.slice x7.1.1 r5.1.1.length x7.1.2, .slice x7.2.1 r5.1.2.length x7.2.2]) rfl (by decide) rfl rfl rfl (fun F => (q_ldbA ty26 rfl (Has.here.there.app F) rfl)) ?_
      refine w_pu (v := .pointer (some ⟨x4.1, 0, none⟩)) rfl (by decide) rfl rfl rfl (p_move rfl) ?_
      obtain ⟨r18, h19, H⟩ := bd.of H
      refine w_ed rfl (by decide) rfl Rdy.nil rfl (n_callM (vs := [.pointer (some ⟨x4.1, 0, none⟩), .int .i64 (8)]) (c_spec_l6Rd_pick x4.1 (r2.1, r10.2) (x4.2.1, ()) 8 h19) (Solo.box Solo.nil) (fun _ => (Solo.box Solo.nil)) rfl (.cons Del.here .nil) (EntsB.cons (Ent.b Ent.z) EntsB.nil)) ?_
      rintro _ _ _ ⟨u20, rfl, rfl, rfl⟩
      refine ⟨(PdOk.q rfl rfl (fun F => (q_ldbA ty26 rfl (Has.here.there.app F) rfl)) PdOk.nil), ?_⟩
      refine w_en rfl rfl Rdy.nil rfl (n_store (v := .agg #[.slice x7.1.1 r5.1.1.length x7.1.2, .slice x7.2.1 r5.1.2.length x7.2.2]) (cs' := [.slice x7.1.1 r5.1.1.length x7.1.2, .slice x7.2.1 r5.1.2.length x7.2.2]) ty26 rfl rfl Upd.here.there.there.there.there rfl (by simp [Value.cells, Value.oneCell']) (Nat.le_of_ble_eq_true rfl) rfl) ?_
      rintro _ _ _ ⟨rfl, rfl, rfl⟩
      refine ⟨(PdOk.anc (by kernel_rfl) PdOk.nil), ?_⟩
      refine w_pu (v := .int .i64 (r18.1)) rfl (by decide) rfl rfl rfl (p_assign rfl) ?_
      refine w_nil ?_
      show At _ _ _ _ _ _
      refine nT (?_)
      refine tRet ?_
      have hr := Option.some.inj H; subst hr
      exact back2 (x7, ()) rfl (ResV.agg ty26 rfl Has.here.there.there.there.there rfl) (ResV.tmp (v := .int .i64 (r18.1)) rfl) rfl Ents.nil (.cons Del.here.there.there (.cons Del.here.there.there .nil))
  · have H := cdF h9 H
    refine Rg.q (v := .bool (false)) (Qo.eqv (v := .bool (decide (0 < (r5.1.1.length : Int)))) (Pu.qo (p_move rfl)) (congrArg Value.bool h9)) (by decide) ?_
    refine Rg.skip rfl (by decide) ?_
    refine Rg.skip rfl (by decide) ?_
    refine Rg.skip rfl (by decide) ?_
    refine Rg.q (v := .bool (false)) (Pu.qo (p_pickF rfl rfl)) (by decide) ?_
    refine Rg.nl ?_
    refine nT (?_)
    refine Tr.condF rfl ?_
    refine tSkip ?_
    refine nT (?_)
    refine Tr.seq ?_
    refine tNwS [(5, .pointer (some ⟨g8, 0, none⟩)), (4, .pointer (some ⟨x4.1, 0, none⟩)), (2, .pointer (some ⟨g1, 0, none⟩))] 1 [0, 1, 2, 3, 4] [2, 3] [] Try.mixed (by kernel_rfl) (by decide) List.nodup_nil ⟨rfl, rfl, rfl, trivial⟩ rfl okNil ?_
    refine w_q (v := .agg #[.slice x7.1.1 r5.1.1.length x7.1.2, .slice x7.2.1 r5.1.2.length x7.2.2]) rfl (by decide) rfl rfl rfl (fun F => (q_ldbA ty26 rfl (Has.here.app F) rfl)) ?_
    refine w_pu (v := .pointer (some ⟨x4.1, 0, none⟩)) rfl (by decide) rfl rfl rfl (p_move rfl) ?_
    obtain ⟨r21, h22, H⟩ := bd.of H
    refine w_ed rfl (by decide) rfl Rdy.nil rfl (n_callM (vs := [.pointer (some ⟨x4.1, 0, none⟩), .int .i64 (8)]) (c_spec_l6Rd_pick x4.1 (r2.1, r5.2) (x4.2.1, ()) 8 h22) (Solo.box Solo.nil) (fun _ => (Solo.box Solo.nil)) rfl (.cons Del.here.there.there.there .nil) (EntsB.cons (Ent.b Ent.z) EntsB.nil)) ?_
    rintro _ _ _ ⟨u23, rfl, rfl, rfl⟩
    refine ⟨(PdOk.q rfl rfl (fun F => (q_ldbA ty26 rfl (Has.here.there.app F) rfl)) PdOk.nil), ?_⟩
    refine w_en rfl rfl Rdy.nil rfl (n_store (v := .agg #[.slice x7.1.1 r5.1.1.length x7.1.2, .slice x7.2.1 r5.1.2.length x7.2.2]) (cs' := [.slice x7.1.1 r5.1.1.length x7.1.2, .slice x7.2.1 r5.1.2.length x7.2.2]) ty26 rfl rfl Upd.here.there.there.there.there rfl (by simp [Value.cells, Value.oneCell']) (Nat.le_of_ble_eq_true rfl) rfl) ?_
    rintro _ _ _ ⟨rfl, rfl, rfl⟩
    refine ⟨(PdOk.anc (by kernel_rfl) PdOk.nil), ?_⟩
    refine w_pu (v := .int .i64 (r21.1)) rfl (by decide) rfl rfl rfl (p_assign rfl) ?_
    refine w_nil ?_
    show At _ _ _ _ _ _
    refine nT (?_)
    refine tRet ?_
    have hr := Option.some.inj H; subst hr
    exact back2 (x7, ()) rfl (ResV.agg ty26 rfl Has.here.there.there.there.there rfl) (ResV.tmp (v := .int .i64 (r21.1)) rfl) rfl Ents.nil (.cons Del.here.there.there (.cons Del.here.there.there .nil))
noncomputable def p_spec_DrawPartRows (v0 : (List UInt8)) : Option (Part) := bd (p_spec_l6Open v0) fun r2 => bd (p_spec_l72Part r2) fun r5 => some r5.1
theorem c_spec_DrawPartRows {r : Part} (v0 : (List UInt8)) (x_v0 : Option Addr × Nat) (H : p_spec_DrawPartRows v0 = some r) : Fn' Try.prog 33 #[.slice x_v0.1 v0.length x_v0.2] [imm (.slice x_v0.1 v0.length x_v0.2) v0] [] (ι := (Option Addr × Nat) × (Option Addr × Nat)) (fun x => .agg #[.slice x.1.1 r.1.length x.1.2, .slice x.2.1 r.2.length x.2.2]) (fun _ => []) (fun x => [tree (.slice x.1.1 r.1.length x.1.2) r.1, tree (.slice x.2.1 r.2.length x.2.2) r.2]) := by
  refine calls_of (args := [_]) Try.func33 rfl (by kernel_rfl) Try.ntmps33 (by simp) fun c => ?_
  unfold p_spec_DrawPartRows at H
  refine Tr.seq ?_
  refine Tr.region ?_
  refine Rg.ed (e_alloc ty26) rfl (by decide) ?_
  rintro _ _ _ ⟨g1, rfl, rfl, rfl⟩
  refine Rg.nl ?_
  refine nT (?_)
  refine Tr.seq ?_
  refine Tr.region ?_
  refine Rg.q (v := .slice x_v0.1 v0.length x_v0.2) (Pu.qo (p_move rfl)) (by decide) ?_
  obtain ⟨r2, h3, H⟩ := bd.of H
  refine Rg.ed (e_call (vs := [.slice x_v0.1 v0.length x_v0.2]) (c_spec_l6Open v0 x_v0 h3) rfl (Ents.cons Ent.z Ents.nil) Take.nil) rfl (by decide) ?_
  rintro _ _ _ ⟨x4, rfl, rfl, rfl⟩
  obtain ⟨r5, h6, H⟩ := bd.of H
  refine Rg.ed (e_callM (vs := [.pointer (some ⟨x4.1, 0, none⟩)]) (c_spec_l72Part x4.1 r2 (x4.2.1, ()) h6) (Solo.box Solo.nil) (fun _ => (Solo.tree (Solo.tree (Solo.box Solo.nil)))) rfl (.cons Del.here .nil) (EntsB.cons (Ent.b Ent.z) EntsB.nil)) rfl (by decide) ?_
  rintro _ _ _ ⟨x7, rfl, rfl, rfl⟩
  refine Rg.en (e_store (v := .agg #[.slice x7.1.1 r5.1.1.length x7.1.2, .slice x7.2.1 r5.1.2.length x7.2.2]) (cs' := [.slice x7.1.1 r5.1.1.length x7.1.2, .slice x7.2.1 r5.1.2.length x7.2.2]) ty26 rfl rfl Upd.here.there.there.there rfl (by simp [Value.cells, Value.oneCell']) (Nat.le_of_ble_eq_true rfl) rfl) rfl ?_
  rintro _ _ _ ⟨rfl, rfl, rfl⟩
  refine Rg.nl ?_
  refine nT (?_)
  refine tRet ?_
  have hr := Option.some.inj H; subst hr
  exact back1 x7 rfl (ResV.agg ty26 rfl Has.here.there.there.there rfl) rfl Ents.nil (.cons Del.here (.cons Del.here .nil))
noncomputable def p_spec_DrawPartMerge (v0 : (List UInt8)) : Option (Part × Part) := bd (p_spec_l6Open v0) fun r3 => bd (p_spec_l72Part r3) fun r6 => bd (p_spec_l72Part (r3.1, r6.2)) fun r9 => some (r6.1, r9.1)
theorem c_spec_DrawPartMerge {r : Part × Part} (v0 : (List UInt8)) (x_v0 : Option Addr × Nat) (H : p_spec_DrawPartMerge v0 = some r) : Fn' Try.prog 34 #[.slice x_v0.1 v0.length x_v0.2] [imm (.slice x_v0.1 v0.length x_v0.2) v0] [] (ι := ((Option Addr × Nat) × (Option Addr × Nat)) × ((Option Addr × Nat) × (Option Addr × Nat))) (fun x => .tuple #[.agg #[.slice x.1.1.1 r.1.1.length x.1.1.2, .slice x.1.2.1 r.1.2.length x.1.2.2], .agg #[.slice x.2.1.1 r.2.1.length x.2.1.2, .slice x.2.2.1 r.2.2.length x.2.2.2]]) (fun _ => []) (fun x => [tree (.slice x.1.1.1 r.1.1.length x.1.1.2) r.1.1, tree (.slice x.1.2.1 r.1.2.length x.1.2.2) r.1.2, tree (.slice x.2.1.1 r.2.1.length x.2.1.2) r.2.1, tree (.slice x.2.2.1 r.2.2.length x.2.2.2) r.2.2]) := by
  refine calls_of (args := [_]) Try.func34 rfl (by kernel_rfl) Try.ntmps34 (by simp) fun c => ?_
  unfold p_spec_DrawPartMerge at H
  refine Tr.seq ?_
  refine Tr.region ?_
  refine Rg.ed (e_alloc ty26) rfl (by decide) ?_
  rintro _ _ _ ⟨g1, rfl, rfl, rfl⟩
  refine Rg.ed (e_alloc ty26) rfl (by decide) ?_
  rintro _ _ _ ⟨g2, rfl, rfl, rfl⟩
  refine Rg.nl ?_
  refine nT (?_)
  refine Tr.seq ?_
  refine Tr.region ?_
  refine Rg.q (v := .slice x_v0.1 v0.length x_v0.2) (Pu.qo (p_move rfl)) (by decide) ?_
  obtain ⟨r3, h4, H⟩ := bd.of H
  refine Rg.ed (e_call (vs := [.slice x_v0.1 v0.length x_v0.2]) (c_spec_l6Open v0 x_v0 h4) rfl (Ents.cons Ent.z Ents.nil) Take.nil) rfl (by decide) ?_
  rintro _ _ _ ⟨x5, rfl, rfl, rfl⟩
  refine Rg.q (v := .pointer (some ⟨x5.1, 0, none⟩)) (Pu.qo (p_assign rfl)) (by decide) ?_
  refine Rg.nl ?_
  refine nT (?_)
  refine Tr.seq ?_
  refine Tr.region ?_
  refine Rg.q (v := .pointer (some ⟨x5.1, 0, none⟩)) (Pu.qo (p_move rfl)) (by decide) ?_
  obtain ⟨r6, h7, H⟩ := bd.of H
  refine Rg.ed (e_callM (vs := [.pointer (some ⟨x5.1, 0, none⟩)]) (c_spec_l72Part x5.1 r3 (x5.2.1, ()) h7) (Solo.box Solo.nil) (fun _ => (Solo.tree (Solo.tree (Solo.box Solo.nil)))) rfl (.cons Del.here .nil) (EntsB.cons (Ent.b Ent.z) EntsB.nil)) rfl (by decide) ?_
  rintro _ _ _ ⟨x8, rfl, rfl, rfl⟩
  refine Rg.q (v := .pointer (some ⟨x5.1, 0, none⟩)) (Pu.qo (p_move rfl)) (by decide) ?_
  obtain ⟨r9, h10, H⟩ := bd.of H
  refine Rg.ed (e_callM (vs := [.pointer (some ⟨x5.1, 0, none⟩)]) (c_spec_l72Part x5.1 (r3.1, r6.2) (x5.2.1, ()) h10) (Solo.box Solo.nil) (fun _ => (Solo.tree (Solo.tree (Solo.box Solo.nil)))) rfl (.cons Del.here.there.there .nil) (EntsB.cons (Ent.b Ent.z) EntsB.nil)) rfl (by decide) ?_
  rintro _ _ _ ⟨x11, rfl, rfl, rfl⟩
  refine Rg.en (e_store (v := .agg #[.slice x8.1.1 r6.1.1.length x8.1.2, .slice x8.2.1 r6.1.2.length x8.2.2]) (cs' := [.slice x8.1.1 r6.1.1.length x8.1.2, .slice x8.2.1 r6.1.2.length x8.2.2]) ty26 rfl rfl Upd.here.there.there.there.there.there.there rfl (by simp [Value.cells, Value.oneCell']) (Nat.le_of_ble_eq_true rfl) rfl) rfl ?_
  rintro _ _ _ ⟨rfl, rfl, rfl⟩
  refine Rg.en (e_store (v := .agg #[.slice x11.1.1 r9.1.1.length x11.1.2, .slice x11.2.1 r9.1.2.length x11.2.2]) (cs' := [.slice x11.1.1 r9.1.1.length x11.1.2, .slice x11.2.1 r9.1.2.length x11.2.2]) ty26 rfl rfl Upd.here.there.there.there.there.there rfl (by simp [Value.cells, Value.oneCell']) (Nat.le_of_ble_eq_true rfl) rfl) rfl ?_
  rintro _ _ _ ⟨rfl, rfl, rfl⟩
  refine Rg.nl ?_
  refine nT (?_)
  refine tRet ?_
  have hr := Option.some.inj H; subst hr
  exact back2 (x8, x11) rfl (ResV.agg ty26 rfl Has.here.there.there.there.there.there.there rfl) (ResV.agg ty26 rfl Has.here.there.there.there.there.there rfl) rfl Ents.nil (.cons Del.here.there.there.there (.cons Del.here.there.there.there (.cons Del.here (.cons Del.here .nil))))
noncomputable def p_laws_lyRows_b0 (v0 : (List Row)) (v1 : (List Row)) (σ6 : Int) : Option ((Int) ⊕ (Unit ⊕ Bool)) := cond (decide (σ6 < (v0.length : Int))) (gd (ix σ6 v0.length) <| gd (ix σ6 v1.length) <| cond (!decide (nth v0 σ6.toNat = nth v1 σ6.toNat)) (some (.inr (.inr false))) (gd (I64 (σ6 + 1)) <| some (.inl (σ6 + 1)))) (some (.inr (.inl ())))
noncomputable def p_laws_lyRows (v0 : (List Row)) (v1 : (List Row)) : Option (Bool) := cond (!decide ((v0.length : Int) = (v1.length : Int))) (some false) (bd (lp (p_laws_lyRows_b0 v0 v1) 0) <| sw (fun e19 => some true) (fun q => some q))
theorem c_laws_lyRows {r : Bool} (v0 : (List Row)) (x_v0 : Option Addr × Nat) (v1 : (List Row)) (x_v1 : Option Addr × Nat) (H : p_laws_lyRows v0 v1 = some r) : Fn' Try.prog 21 #[.slice x_v0.1 v0.length x_v0.2, .slice x_v1.1 v1.length x_v1.2] [imm (.slice x_v0.1 v0.length x_v0.2) v0, imm (.slice x_v1.1 v1.length x_v1.2) v1] [] (ι := Unit) (fun x => .bool (r)) (fun _ => []) (fun x => []) := by
  refine calls_of (args := [_, _]) Try.func21 rfl (by kernel_rfl) Try.ntmps21 (by simp) fun c => ?_
  unfold p_laws_lyRows at H
  refine Tr.seq ?_
  refine Tr.region ?_
  refine Rg.q (v := .bool (false)) (Pu.qo (p_assign rfl)) (by decide) ?_
  refine Rg.nl ?_
  refine nT (?_)
  refine Tr.seq ?_
  refine Tr.seq ?_
  refine Tr.region ?_
  refine Rg.q (v := .slice x_v0.1 v0.length x_v0.2) (Pu.qo (p_move rfl)) (by decide) ?_
  refine Rg.q (v := .int .i64 ((v0.length : Int))) (Pu.qo (p_len 68 Try.underlying29 rfl)) (by decide) ?_
  refine Rg.q (v := .slice x_v1.1 v1.length x_v1.2) (Pu.qo (p_move rfl)) (by decide) ?_
  refine Rg.q (v := .int .i64 ((v1.length : Int))) (Pu.qo (p_len 68 Try.underlying29 rfl)) (by decide) ?_
  refine Rg.q (v := .bool (!decide ((v0.length : Int) = (v1.length : Int)))) (Pu.qo (p_neq rfl rfl)) (by decide) ?_
  refine Rg.nl ?_
  refine nT (?_)
  refine Tr.cond (b := !decide ((v0.length : Int) = (v1.length : Int))) rfl (fun h1 => ?_) (fun h1 => ?_)
  · have H := cdT h1 H
    refine Tr.seq ?_
    refine Tr.region ?_
    refine Rg.q (v := .bool (false)) (Pu.qo (p_assign rfl)) (by decide) ?_
    refine Rg.nl ?_
    refine nT (?_)
    refine tRet ?_
    refine rT (?_)
    have hr := Option.some.inj H; subst hr
    exact back1 () rfl (ResV.tmp (v := .bool (false)) rfl) rfl Ents.nil Take.nil
  · have H := cdF h1 H
    refine tSkip ?_
    refine nT (?_)
    refine Tr.seq ?_
    refine Tr.seq ?_
    refine Tr.region ?_
    refine Rg.q (v := .int .i64 (0)) (Pu.qo (p_assign rfl)) (by decide) ?_
    refine Rg.nl ?_
    refine nT (?_)
    obtain ⟨x2, hx3, H⟩ := bd.of H
    obtain ⟨n4, hx3⟩ := lp.of hx3
    refine tMidNC (ι := { q : (Unit) × Unit // x2 = .inl q.1 }) (fun ψ => []) (fun ψ => []) ?_ ?_
    · refine Tr.block ?_
      refine tLoopC (ι := { q : Nat × (Int) × Unit // itr (p_laws_lyRows_b0 v0 v1) q.1 q.2.1 = some x2 }) (fun ζ => [(0, .slice x_v0.1 v0.length x_v0.2), (1, .slice x_v1.1 v1.length x_v1.2), (5, .int .i64 (ζ.1.2.1))]) (fun ζ => []) (fun ζ => ζ.1.1) ⟨(n4, 0, ()), hx3⟩ ⟨rfl, rfl, rfl, trivial⟩ Take.nil ?_
      rintro ⟨⟨m5, σ6, z7⟩, hk12⟩
      obtain ⟨m13, t9, e, H1, hi10, hb11⟩ := itr.of (n := m5) (s := σ6) hk12
      subst e; unfold p_laws_lyRows_b0 at H1
      show Tr _ _ _ _ _ [(0, .slice x_v0.1 v0.length x_v0.2), (1, .slice x_v1.1 v1.length x_v1.2), (5, .int .i64 (σ6))] _ []
      refine Tr.seq ?_
      refine Tr.seq ?_
      refine Tr.region ?_
      refine Rg.q (v := .int .i64 (σ6)) (Pu.qo (p_move rfl)) (by decide) ?_
      refine Rg.q (v := .slice x_v0.1 v0.length x_v0.2) (Pu.qo (p_move rfl)) (by decide) ?_
      refine Rg.q (v := .int .i64 ((v0.length : Int))) (Pu.qo (p_len 68 Try.underlying29 rfl)) (by decide) ?_
      refine Rg.q (v := .bool (decide (σ6 < (v0.length : Int)))) (Pu.qo (p_lss rfl rfl)) (by decide) ?_
      refine Rg.nl ?_
      refine nT (?_)
      refine Tr.cond (b := decide (σ6 < (v0.length : Int))) rfl (fun h14 => ?_) (fun h14 => ?_)
      · have H1 := cdT h14 H1
        refine tSkip ?_
        refine nT (?_)
        refine Tr.seq ?_
        refine Tr.block ?_
        refine Tr.seq ?_
        refine tLinS [(0, .slice x_v0.1 v0.length x_v0.2), (1, .slice x_v1.1 v1.length x_v1.2), (5, .int .i64 (σ6))] Try.mixed (.inr (by kernel_rfl)) ⟨rfl, rfl, rfl, trivial⟩ rfl ?_
        refine Lin.q (v := .slice x_v0.1 v0.length x_v0.2) (by decide) (Pu.qo (p_move rfl)) ?_
        refine Lin.q (v := .int .i64 (σ6)) (by decide) (Pu.qo (p_move rfl)) ?_
        obtain ⟨h15, H1⟩ := gd.of H1
        refine Lin.q (v := elp x_v0.1 (σ6.toNat * Enc.sz Row + 0)) (by decide) (q_ixg (l := v0) (E := fun i => Flat.enc (nth v0 i)) (oa := x_v0.1) Try.underlying29 ty68 rfl rfl h15 rfl (EntB.flat (Ent.b Ent.z))) ?_
        refine Lin.q (v := .agg #[.int .i64 ((nth v0 σ6.toNat).1), .int .i64 ((nth v0 σ6.toNat).2)]) (by decide) (q_ldeA (l := v0) (E := fun i => Flat.enc (nth v0 i)) (oa := x_v0.1) (i := σ6.toNat) ty68 rfl (EntB.flat (Ent.b Ent.z)) h15.lt) ?_
        refine Lin.q (v := .slice x_v1.1 v1.length x_v1.2) (by decide) (Pu.qo (p_move rfl)) ?_
        refine Lin.q (v := .int .i64 (σ6)) (by decide) (Pu.qo (p_move rfl)) ?_
        obtain ⟨h16, H1⟩ := gd.of H1
        refine Lin.q (v := elp x_v1.1 (σ6.toNat * Enc.sz Row + 0)) (by decide) (q_ixg (l := v1) (E := fun i => Flat.enc (nth v1 i)) (oa := x_v1.1) Try.underlying29 ty68 rfl rfl h16 rfl (EntB.flat (Ent.b Ent.z.s))) ?_
        refine Lin.q (v := .agg #[.int .i64 ((nth v1 σ6.toNat).1), .int .i64 ((nth v1 σ6.toNat).2)]) (by decide) (q_ldeA (l := v1) (E := fun i => Flat.enc (nth v1 i)) (oa := x_v1.1) (i := σ6.toNat) ty68 rfl (EntB.flat (Ent.b Ent.z.s)) h16.lt) ?_
        refine Lin.q (v := .bool (!decide (nth v0 σ6.toNat = nth v1 σ6.toNat))) (by decide) (Pu.qo (p_aneq (a := nth v0 σ6.toNat) (b := nth v1 σ6.toNat) ae68 rfl rfl rfl rfl)) ?_
        show At _ _ _ _ _ _
        refine nT (?_)
        refine Tr.cond (b := !decide (nth v0 σ6.toNat = nth v1 σ6.toNat)) rfl (fun h17 => ?_) (fun h17 => ?_)
        · have H1 := cdT h17 H1
          refine Tr.seq ?_
          refine Tr.region ?_
          refine Rg.q (v := .bool (false)) (Pu.qo (p_assign rfl)) (by decide) ?_
          refine Rg.nl ?_
          refine nT (?_)
          refine tRet ?_
          refine rB (rT (rT (rB (rT (rT (?_))))))
          have hx := hb11 _ (Option.some.inj H1).symm; subst hx
          replace H := sw.r H
          have hr := Option.some.inj H; subst hr
          exact back1 () rfl (ResV.tmp (v := .bool (false)) rfl) rfl Ents.nil Take.nil
        · have H1 := cdF h17 H1
          refine tSkip ?_
          refine nB (nT (?_))
          refine Tr.region ?_
          refine Rg.q (v := .int .i64 (σ6)) (Pu.qo (p_move rfl)) (by decide) ?_
          obtain ⟨h18, H1⟩ := gd.of H1
          refine Rg.q (v := .int .i64 (σ6 + 1)) (Pu.qo (p_add rfl rfl h18)) (by decide) ?_
          refine Rg.q (v := .int .i64 (σ6 + 1)) (Pu.qo (p_assign rfl)) (by decide) ?_
          refine Rg.nl ?_
          exact nLC ⟨(m13, σ6 + 1, ()), hi10 _ (Option.some.inj H1).symm⟩ (Nat.lt_succ_self _) ⟨rfl, rfl, rfl, trivial⟩ Ents.refl Take.nil
      · have H1 := cdF h14 H1
        refine tExit (xT (xT (xE (?_))))
        exact nMC ⟨((), ()), (hb11 _ (Option.some.inj H1).symm).symm⟩ trivial Ents.refl Take.nil
    · rintro ⟨⟨e19, y8⟩, hx⟩; subst hx; replace H := sw.l H
      show At _ _ [] _ [] _
      refine nT (?_)
      refine Tr.seq ?_
      refine Tr.region ?_
      refine Rg.q (v := .bool (true)) (Pu.qo (p_assign rfl)) (by decide) ?_
      refine Rg.nl ?_
      refine nT (?_)
      refine tRet ?_
      have hr := Option.some.inj H; subst hr
      exact back1 () rfl (ResV.tmp (v := .bool (true)) rfl) rfl Ents.nil Take.nil
noncomputable def p_laws_lyAmong_b0 (v0 : (List Int)) (v1 : Int) (σ5 : Int) : Option ((Int) ⊕ (Unit ⊕ Bool)) := cond (decide (σ5 < (v0.length : Int))) (gd (ix σ5 v0.length) <| cond (decide ((nth v0 σ5.toNat) = v1)) (some (.inr (.inr true))) (gd (I64 (σ5 + 1)) <| some (.inl (σ5 + 1)))) (some (.inr (.inl ())))
noncomputable def p_laws_lyAmong (v0 : (List Int)) (v1 : Int) : Option (Bool) := bd (lp (p_laws_lyAmong_b0 v0 v1) 0) <| sw (fun e17 => some false) (fun q => some q)
theorem c_laws_lyAmong {r : Bool} (v0 : (List Int)) (x_v0 : Option Addr × Nat) (v1 : Int) (H : p_laws_lyAmong v0 v1 = some r) : Fn' Try.prog 23 #[.slice x_v0.1 v0.length x_v0.2, .int .i64 (v1)] [imm (.slice x_v0.1 v0.length x_v0.2) v0] [] (ι := Unit) (fun x => .bool (r)) (fun _ => []) (fun x => []) := by
  refine calls_of (args := [_, _]) Try.func23 rfl (by kernel_rfl) Try.ntmps23 (by simp) fun c => ?_
  unfold p_laws_lyAmong at H
  refine Tr.seq ?_
  refine Tr.region ?_
  refine Rg.q (v := .bool (false)) (Pu.qo (p_assign rfl)) (by decide) ?_
  refine Rg.nl ?_
  refine nT (?_)
  refine Tr.seq ?_
  refine Tr.seq ?_
  refine Tr.region ?_
  refine Rg.q (v := .int .i64 (0)) (Pu.qo (p_assign rfl)) (by decide) ?_
  refine Rg.nl ?_
  refine nT (?_)
  obtain ⟨x1, hx2, H⟩ := bd.of H
  obtain ⟨n3, hx2⟩ := lp.of hx2
  refine tMidNC (ι := { q : (Unit) × Unit // x1 = .inl q.1 }) (fun ψ => []) (fun ψ => []) ?_ ?_
  · refine Tr.block ?_
    refine tLoopC (ι := { q : Nat × (Int) × Unit // itr (p_laws_lyAmong_b0 v0 v1) q.1 q.2.1 = some x1 }) (fun ζ => [(0, .slice x_v0.1 v0.length x_v0.2), (1, .int .i64 (v1)), (5, .int .i64 (ζ.1.2.1))]) (fun ζ => []) (fun ζ => ζ.1.1) ⟨(n3, 0, ()), hx2⟩ ⟨rfl, rfl, rfl, trivial⟩ Take.nil ?_
    rintro ⟨⟨m4, σ5, z6⟩, hk11⟩
    obtain ⟨m12, t8, e, H1, hi9, hb10⟩ := itr.of (n := m4) (s := σ5) hk11
    subst e; unfold p_laws_lyAmong_b0 at H1
    show Tr _ _ _ _ _ [(0, .slice x_v0.1 v0.length x_v0.2), (1, .int .i64 (v1)), (5, .int .i64 (σ5))] _ []
    refine Tr.seq ?_
    refine Tr.seq ?_
    refine Tr.region ?_
    refine Rg.q (v := .int .i64 (σ5)) (Pu.qo (p_move rfl)) (by decide) ?_
    refine Rg.q (v := .slice x_v0.1 v0.length x_v0.2) (Pu.qo (p_move rfl)) (by decide) ?_
    refine Rg.q (v := .int .i64 ((v0.length : Int))) (Pu.qo (p_len 3 Try.underlying23 rfl)) (by decide) ?_
    refine Rg.q (v := .bool (decide (σ5 < (v0.length : Int)))) (Pu.qo (p_lss rfl rfl)) (by decide) ?_
    refine Rg.nl ?_
    refine nT (?_)
    refine Tr.cond (b := decide (σ5 < (v0.length : Int))) rfl (fun h13 => ?_) (fun h13 => ?_)
    · have H1 := cdT h13 H1
      refine tSkip ?_
      refine nT (?_)
      refine Tr.seq ?_
      refine Tr.block ?_
      refine Tr.seq ?_
      refine Tr.region ?_
      refine Rg.q (v := .slice x_v0.1 v0.length x_v0.2) (Pu.qo (p_move rfl)) (by decide) ?_
      refine Rg.q (v := .int .i64 (σ5)) (Pu.qo (p_move rfl)) (by decide) ?_
      obtain ⟨h14, H1⟩ := gd.of H1
      refine Rg.q (v := elp x_v0.1 (σ5.toNat * Enc.sz Int + 0)) (q_ixg (l := v0) (E := fun i => Flat.enc (nth v0 i)) (oa := x_v0.1) Try.underlying23 ty3 rfl rfl h14 rfl (EntB.flat (Ent.b Ent.z))) (by decide) ?_
      refine Rg.q (v := .int .i64 (nth v0 σ5.toNat)) (q_lde (l := v0) (E := fun i => Flat.enc (nth v0 i)) (oa := x_v0.1) (i := σ5.toNat) (j := 0) ty3 rfl (EntB.flat (Ent.b Ent.z)) h14.lt rfl) (by decide) ?_
      refine Rg.q (v := .int .i64 (v1)) (Pu.qo (p_move rfl)) (by decide) ?_
      refine Rg.q (v := .bool (decide ((nth v0 σ5.toNat) = v1))) (Pu.qo (p_eql rfl rfl)) (by decide) ?_
      refine Rg.nl ?_
      refine nT (?_)
      refine Tr.cond (b := decide ((nth v0 σ5.toNat) = v1)) rfl (fun h15 => ?_) (fun h15 => ?_)
      · have H1 := cdT h15 H1
        refine Tr.seq ?_
        refine Tr.region ?_
        refine Rg.q (v := .bool (true)) (Pu.qo (p_assign rfl)) (by decide) ?_
        refine Rg.nl ?_
        refine nT (?_)
        refine tRet ?_
        refine rB (rT (rT (rB (rT (rT (?_))))))
        have hx := hb10 _ (Option.some.inj H1).symm; subst hx
        replace H := sw.r H
        have hr := Option.some.inj H; subst hr
        exact back1 () rfl (ResV.tmp (v := .bool (true)) rfl) rfl Ents.nil Take.nil
      · have H1 := cdF h15 H1
        refine tSkip ?_
        refine nB (nT (?_))
        refine Tr.region ?_
        refine Rg.q (v := .int .i64 (σ5)) (Pu.qo (p_move rfl)) (by decide) ?_
        obtain ⟨h16, H1⟩ := gd.of H1
        refine Rg.q (v := .int .i64 (σ5 + 1)) (Pu.qo (p_add rfl rfl h16)) (by decide) ?_
        refine Rg.q (v := .int .i64 (σ5 + 1)) (Pu.qo (p_assign rfl)) (by decide) ?_
        refine Rg.nl ?_
        exact nLC ⟨(m12, σ5 + 1, ()), hi9 _ (Option.some.inj H1).symm⟩ (Nat.lt_succ_self _) ⟨rfl, rfl, rfl, trivial⟩ Ents.refl Take.nil
    · have H1 := cdF h13 H1
      refine tExit (xT (xT (xE (?_))))
      exact nMC ⟨((), ()), (hb10 _ (Option.some.inj H1).symm).symm⟩ trivial Ents.refl Take.nil
  · rintro ⟨⟨e17, y7⟩, hx⟩; subst hx; replace H := sw.l H
    show At _ _ [] _ [] _
    refine nT (?_)
    refine Tr.seq ?_
    refine Tr.region ?_
    refine Rg.q (v := .bool (false)) (Pu.qo (p_assign rfl)) (by decide) ?_
    refine Rg.nl ?_
    refine nT (?_)
    refine tRet ?_
    have hr := Option.some.inj H; subst hr
    exact back1 () rfl (ResV.tmp (v := .bool (false)) rfl) rfl Ents.nil Take.nil
noncomputable def p_laws_FnPartOf_b0 (r2 : Part × Int) (σ24 : Int × Int) : Option ((Int × Int) ⊕ (Int ⊕ Bool)) := cond (decide (σ24.2 ≤ 7)) (bd (p_impl_PartOf r2.1 σ24.2) fun r33 => bd (p_laws_lyAmong r2.1.1 σ24.2) fun r36 => cond (!decide (r36 = (decide (0 < (r33.length : Int))))) (some (.inr (.inr false))) (gd (I64 (σ24.1 + (r33.length : Int))) <| gd (I64 (σ24.2 + 1)) <| some (.inl (σ24.1 + (r33.length : Int), σ24.2 + 1)))) (some (.inr (.inl σ24.1)))
noncomputable def p_laws_FnPartOf (v0 : (List UInt8)) : Option (Bool) := cond (decide (1048576 < (v0.length : Int))) (some true) (bd (p_spec_DrawPartOf v0) fun r2 => bd (p_impl_PartOf r2.1 r2.2) fun r6 => bd (p_spec_PartOf r2.1 r2.2) fun r9 => bd (p_laws_lyRows r6 r9) fun r12 => cond (!r12) (some r12) (bd (p_spec_PartOk r2.1) fun r16 => cond (!r16) (some r12) (bd (lp (p_laws_FnPartOf_b0 r2) (0, 0)) <| sw (fun e41 => bd (p_impl_PartRows r2.1) fun r42 => some (decide (e41 = r42))) (fun q => some q))))
theorem c_laws_FnPartOf {r : Bool} (v0 : (List UInt8)) (x_v0 : Option Addr × Nat) (H : p_laws_FnPartOf v0 = some r) : Fn' Try.prog 6 #[.slice x_v0.1 v0.length x_v0.2] [imm (.slice x_v0.1 v0.length x_v0.2) v0] [] (ι := Unit) (fun x => .bool (r)) (fun _ => []) (fun x => []) := by
  refine calls_of (args := [_]) Try.func6 rfl (by kernel_rfl) Try.ntmps6 (by simp) fun c => ?_
  unfold p_laws_FnPartOf at H
  refine Tr.seq ?_
  refine Tr.region ?_
  refine Rg.q (v := .bool (false)) (Pu.qo (p_assign rfl)) (by decide) ?_
  refine Rg.nl ?_
  refine nT (?_)
  refine Tr.seq ?_
  refine Tr.seq ?_
  refine Tr.region ?_
  refine Rg.q (v := .slice x_v0.1 v0.length x_v0.2) (Pu.qo (p_move rfl)) (by decide) ?_
  refine Rg.q (v := .int .i64 ((v0.length : Int))) (Pu.qo (p_len 5 Try.underlying22 rfl)) (by decide) ?_
  refine Rg.q (v := .bool (decide (1048576 < (v0.length : Int)))) (Pu.qo (p_gtr rfl rfl)) (by decide) ?_
  refine Rg.nl ?_
  refine nT (?_)
  refine Tr.cond (b := decide (1048576 < (v0.length : Int))) rfl (fun h1 => ?_) (fun h1 => ?_)
  · have H := cdT h1 H
    refine Tr.seq ?_
    refine Tr.region ?_
    refine Rg.q (v := .bool (true)) (Pu.qo (p_assign rfl)) (by decide) ?_
    refine Rg.nl ?_
    refine nT (?_)
    refine tRet ?_
    refine rT (?_)
    have hr := Option.some.inj H; subst hr
    exact back1 () rfl (ResV.tmp (v := .bool (true)) rfl) rfl Ents.nil Take.nil
  · have H := cdF h1 H
    refine tSkip ?_
    refine nT (?_)
    refine Tr.seq ?_
    refine Tr.region ?_
    refine Rg.q (v := .slice x_v0.1 v0.length x_v0.2) (Pu.qo (p_move rfl)) (by decide) ?_
    obtain ⟨r2, h3, H⟩ := bd.of H
    refine Rg.ed (e_callB (vs := [.slice x_v0.1 v0.length x_v0.2]) (c_spec_DrawPartOf v0 x_v0 h3) (fun _ => (Solo.tree (Solo.tree Solo.nil))) rfl (EntsB.cons (Ent.b Ent.z) EntsB.nil)) rfl (by decide) ?_
    rintro _ _ _ ⟨x4, rfl, rfl, rfl⟩
    refine Rg.q (v := .tuple #[.agg #[.slice x4.1.1.1 r2.1.1.length x4.1.1.2, .slice x4.1.2.1 r2.1.2.length x4.1.2.2], .int .i64 (r2.2)]) (Pu.qo (p_move rfl)) (by decide) ?_
    refine Rg.q (v := .agg #[.slice x4.1.1.1 r2.1.1.length x4.1.1.2, .slice x4.1.2.1 r2.1.2.length x4.1.2.2]) (Pu.qo (p_extract rfl rfl)) (by decide) ?_
    refine Rg.q (v := .int .i64 (r2.2)) (Pu.qo (p_extract rfl rfl)) (by decide) ?_
    refine Rg.ed (e_alloc ty26) rfl (by decide) ?_
    rintro _ _ _ ⟨g5, rfl, rfl, rfl⟩
    refine Rg.en (e_store (v := .agg #[.slice x4.1.1.1 r2.1.1.length x4.1.1.2, .slice x4.1.2.1 r2.1.2.length x4.1.2.2]) (cs' := [.slice x4.1.1.1 r2.1.1.length x4.1.1.2, .slice x4.1.2.1 r2.1.2.length x4.1.2.2]) ty26 rfl rfl Upd.here rfl (by simp [Value.cells, Value.oneCell']) (Nat.le_of_ble_eq_true rfl) rfl) rfl ?_
    rintro _ _ _ ⟨rfl, rfl, rfl⟩
    refine Rg.q (v := .int .i64 (r2.2)) (Pu.qo (p_assign rfl)) (by decide) ?_
    refine Rg.nl ?_
    refine nT (?_)
    refine Tr.seq ?_
    refine Tr.region ?_
    refine Rg.q (v := .agg #[.slice x4.1.1.1 r2.1.1.length x4.1.1.2, .slice x4.1.2.1 r2.1.2.length x4.1.2.2]) (q_ldbA ty26 rfl Has.here rfl) (by decide) ?_
    refine Rg.q (v := .int .i64 (r2.2)) (Pu.qo (p_move rfl)) (by decide) ?_
    obtain ⟨r6, h7, H⟩ := bd.of H
    refine Rg.ed (e_callB (vs := [.agg #[.slice x4.1.1.1 r2.1.1.length x4.1.1.2, .slice x4.1.2.1 r2.1.2.length x4.1.2.2], .int .i64 (r2.2)]) (c_impl_PartOf r2.1 x4.1 r2.2 h7) (fun _ => (Solo.tree Solo.nil)) rfl (EntsB.cons (EntB.tree Has.here.there) (EntsB.cons (EntB.tree Has.here.there.there) EntsB.nil))) rfl (by decide) ?_
    rintro _ _ _ ⟨x8, rfl, rfl, rfl⟩
    refine Rg.q (v := .slice x8.1 r6.length x8.2) (Pu.qo (p_assign rfl)) (by decide) ?_
    refine Rg.nl ?_
    refine nT (?_)
    refine Tr.seq ?_
    refine Tr.seq ?_
    refine Tr.region ?_
    refine Rg.q (v := .slice x8.1 r6.length x8.2) (Pu.qo (p_move rfl)) (by decide) ?_
    refine Rg.q (v := .agg #[.slice x4.1.1.1 r2.1.1.length x4.1.1.2, .slice x4.1.2.1 r2.1.2.length x4.1.2.2]) (q_ldbA ty26 rfl Has.here.there rfl) (by decide) ?_
    refine Rg.q (v := .int .i64 (r2.2)) (Pu.qo (p_move rfl)) (by decide) ?_
    obtain ⟨r9, h10, H⟩ := bd.of H
    refine Rg.ed (e_callB (vs := [.agg #[.slice x4.1.1.1 r2.1.1.length x4.1.1.2, .slice x4.1.2.1 r2.1.2.length x4.1.2.2], .int .i64 (r2.2)]) (c_spec_PartOf r2.1 x4.1 r2.2 h10) (fun _ => (Solo.tree Solo.nil)) rfl (EntsB.cons (EntB.tree Has.here.there.there) (EntsB.cons (EntB.tree Has.here.there.there.there) EntsB.nil))) rfl (by decide) ?_
    rintro _ _ _ ⟨x11, rfl, rfl, rfl⟩
    obtain ⟨r12, h13, H⟩ := bd.of H
    refine Rg.q (v := .bool (r12)) (q_call (vs := [.slice x8.1 r6.length x8.2, .slice x11.1 r9.length x11.2]) (c_laws_lyRows r6 x8 r9 x11 h13) rfl (EntsB.cons (EntB.tree Has.here.there) (EntsB.cons (EntB.tree Has.here) EntsB.nil))) (by decide) ?_
    refine Rg.q (v := .bool (!r12)) (Pu.qo (p_not rfl)) (by decide) ?_
    rcases Bool.eq_false_or_eq_true (!r12) with h14 | h14
    · have H := cdT h14 H
      refine Rg.q (v := .bool (true)) (Qo.eqv (v := .bool (!r12)) (Pu.qo (p_move rfl)) (congrArg Value.bool h14)) (by decide) ?_
      refine Rg.skip rfl (by decide) ?_
      refine Rg.skip rfl (by decide) ?_
      refine Rg.skip rfl (by decide) ?_
      refine Rg.q (v := .bool (true)) (Pu.qo (p_pickT rfl rfl)) (by decide) ?_
      refine Rg.nl ?_
      refine nT (?_)
      refine Tr.condT rfl ?_
      refine Tr.seq ?_
      refine Tr.region ?_
      refine Rg.q (v := .slice x8.1 r6.length x8.2) (Pu.qo (p_move rfl)) (by decide) ?_
      refine Rg.q (v := .agg #[.slice x4.1.1.1 r2.1.1.length x4.1.1.2, .slice x4.1.2.1 r2.1.2.length x4.1.2.2]) (q_ldbA ty26 rfl Has.here.there.there rfl) (by decide) ?_
      refine Rg.q (v := .int .i64 (r2.2)) (Pu.qo (p_move rfl)) (by decide) ?_
      refine Rg.ed (e_callB (vs := [.agg #[.slice x4.1.1.1 r2.1.1.length x4.1.1.2, .slice x4.1.2.1 r2.1.2.length x4.1.2.2], .int .i64 (r2.2)]) (c_spec_PartOf r2.1 x4.1 r2.2 h10) (fun _ => (Solo.tree Solo.nil)) rfl (EntsB.cons (EntB.tree Has.here.there.there.there) (EntsB.cons (EntB.tree Has.here.there.there.there.there) EntsB.nil))) rfl (by decide) ?_
      rintro _ _ _ ⟨x15, rfl, rfl, rfl⟩
      refine Rg.q (v := .bool (r12)) (q_call (vs := [.slice x8.1 r6.length x8.2, .slice x15.1 r9.length x15.2]) (c_laws_lyRows r6 x8 r9 x15 h13) rfl (EntsB.cons (EntB.tree Has.here.there.there) (EntsB.cons (EntB.tree Has.here) EntsB.nil))) (by decide) ?_
      refine Rg.q (v := .bool (r12)) (Pu.qo (p_assign rfl)) (by decide) ?_
      refine Rg.nl ?_
      refine nT (?_)
      refine tRet ?_
      refine rT (?_)
      have hr := Option.some.inj H; subst hr
      exact back1 () rfl (ResV.tmp (v := .bool (r12)) rfl) rfl Ents.nil Take.nil
    · have H := cdF h14 H
      refine Rg.q (v := .bool (false)) (Qo.eqv (v := .bool (!r12)) (Pu.qo (p_move rfl)) (congrArg Value.bool h14)) (by decide) ?_
      refine Rg.g (v := .agg #[.slice x4.1.1.1 r2.1.1.length x4.1.1.2, .slice x4.1.2.1 r2.1.2.length x4.1.2.2]) rfl (q_ldbA ty26 rfl Has.here.there.there rfl) (by decide) ?_
      obtain ⟨r16, h17, H⟩ := bd.of H
      refine Rg.g (v := .bool (r16)) rfl (q_call (vs := [.agg #[.slice x4.1.1.1 r2.1.1.length x4.1.1.2, .slice x4.1.2.1 r2.1.2.length x4.1.2.2]]) (c_spec_PartOk r2.1 x4.1 h17) rfl (EntsB.cons (EntB.tree Has.here.there.there.there) (EntsB.cons (EntB.tree Has.here.there.there.there.there) EntsB.nil))) (by decide) ?_
      refine Rg.g (v := .bool (!r16)) rfl (Pu.qo (p_not rfl)) (by decide) ?_
      refine Rg.q (v := .bool (!r16)) (Pu.qo (p_pickF rfl rfl)) (by decide) ?_
      refine Rg.nl ?_
      refine nT (?_)
      refine Tr.cond (b := !r16) rfl (fun h18 => ?_) (fun h18 => ?_)
      · have H := cdT h18 H
        refine Tr.seq ?_
        refine Tr.region ?_
        refine Rg.q (v := .slice x8.1 r6.length x8.2) (Pu.qo (p_move rfl)) (by decide) ?_
        refine Rg.q (v := .agg #[.slice x4.1.1.1 r2.1.1.length x4.1.1.2, .slice x4.1.2.1 r2.1.2.length x4.1.2.2]) (q_ldbA ty26 rfl Has.here.there.there rfl) (by decide) ?_
        refine Rg.q (v := .int .i64 (r2.2)) (Pu.qo (p_move rfl)) (by decide) ?_
        refine Rg.ed (e_callB (vs := [.agg #[.slice x4.1.1.1 r2.1.1.length x4.1.1.2, .slice x4.1.2.1 r2.1.2.length x4.1.2.2], .int .i64 (r2.2)]) (c_spec_PartOf r2.1 x4.1 r2.2 h10) (fun _ => (Solo.tree Solo.nil)) rfl (EntsB.cons (EntB.tree Has.here.there.there.there) (EntsB.cons (EntB.tree Has.here.there.there.there.there) EntsB.nil))) rfl (by decide) ?_
        rintro _ _ _ ⟨x19, rfl, rfl, rfl⟩
        refine Rg.q (v := .bool (r12)) (q_call (vs := [.slice x8.1 r6.length x8.2, .slice x19.1 r9.length x19.2]) (c_laws_lyRows r6 x8 r9 x19 h13) rfl (EntsB.cons (EntB.tree Has.here.there.there) (EntsB.cons (EntB.tree Has.here) EntsB.nil))) (by decide) ?_
        refine Rg.q (v := .bool (r12)) (Pu.qo (p_assign rfl)) (by decide) ?_
        refine Rg.nl ?_
        refine nT (?_)
        refine tRet ?_
        refine rT (?_)
        have hr := Option.some.inj H; subst hr
        exact back1 () rfl (ResV.tmp (v := .bool (r12)) rfl) rfl Ents.nil Take.nil
      · have H := cdF h18 H
        refine tSkip ?_
        refine nT (?_)
        refine Tr.seq ?_
        refine Tr.region ?_
        refine Rg.q (v := .int .i64 (0)) (Pu.qo (p_assign rfl)) (by decide) ?_
        refine Rg.nl ?_
        refine nT (?_)
        refine Tr.seq ?_
        refine Tr.seq ?_
        refine Tr.region ?_
        refine Rg.q (v := .int .i64 (0)) (Pu.qo (p_assign rfl)) (by decide) ?_
        refine Rg.nl ?_
        refine nT (?_)
        obtain ⟨x20, hx21, H⟩ := bd.of H
        obtain ⟨n22, hx21⟩ := lp.of hx21
        refine tMidNC (ι := { q : (Int) × Unit // x20 = .inl q.1 }) (fun ψ => [(3, .pointer (some ⟨g5, 0, none⟩)), (6, .int .i64 (ψ.1.1))]) (fun ψ => [tree (.slice x4.1.1.1 r2.1.1.length x4.1.1.2) r2.1.1, tree (.slice x4.1.2.1 r2.1.2.length x4.1.2.2) r2.1.2, box g5 26 [.slice x4.1.1.1 r2.1.1.length x4.1.1.2, .slice x4.1.2.1 r2.1.2.length x4.1.2.2]]) ?_ ?_
        · refine Tr.block ?_
          refine tLoopC (ι := { q : Nat × (Int × Int) × Unit // itr (p_laws_FnPartOf_b0 r2) q.1 q.2.1 = some x20 }) (fun ζ => [(3, .pointer (some ⟨g5, 0, none⟩)), (6, .int .i64 (ζ.1.2.1.1)), (7, .int .i64 (ζ.1.2.1.2))]) (fun ζ => [tree (.slice x4.1.1.1 r2.1.1.length x4.1.1.2) r2.1.1, tree (.slice x4.1.2.1 r2.1.2.length x4.1.2.2) r2.1.2, box g5 26 [.slice x4.1.1.1 r2.1.1.length x4.1.1.2, .slice x4.1.2.1 r2.1.2.length x4.1.2.2]]) (fun ζ => ζ.1.1) ⟨(n22, (0, 0), ()), hx21⟩ ⟨rfl, rfl, rfl, trivial⟩ (.cons Del.here.there.there.there (.cons Del.here.there.there.there (.cons Del.here.there.there .nil))) ?_
          rintro ⟨⟨m23, σ24, z25⟩, hk30⟩
          obtain ⟨m31, t27, e, H1, hi28, hb29⟩ := itr.of (n := m23) (s := σ24) hk30
          subst e; unfold p_laws_FnPartOf_b0 at H1
          show Tr _ _ _ _ _ [(3, .pointer (some ⟨g5, 0, none⟩)), (6, .int .i64 (σ24.1)), (7, .int .i64 (σ24.2))] _ [tree (.slice x4.1.1.1 r2.1.1.length x4.1.1.2) r2.1.1, tree (.slice x4.1.2.1 r2.1.2.length x4.1.2.2) r2.1.2, box g5 26 [.slice x4.1.1.1 r2.1.1.length x4.1.1.2, .slice x4.1.2.1 r2.1.2.length x4.1.2.2]]
          refine Tr.seq ?_
          refine Tr.seq ?_
          refine Tr.region ?_
          refine Rg.q (v := .int .i64 (σ24.2)) (Pu.qo (p_move rfl)) (by decide) ?_
          refine Rg.q (v := .bool (decide (σ24.2 ≤ 7))) (Pu.qo (p_leq rfl rfl)) (by decide) ?_
          refine Rg.nl ?_
          refine nT (?_)
          refine Tr.cond (b := decide (σ24.2 ≤ 7)) rfl (fun h32 => ?_) (fun h32 => ?_)
          · have H1 := cdT h32 H1
            refine tSkip ?_
            refine nT (?_)
            refine Tr.seq ?_
            refine Tr.block ?_
            refine Tr.seq ?_
            refine Tr.region ?_
            refine Rg.q (v := .agg #[.slice x4.1.1.1 r2.1.1.length x4.1.1.2, .slice x4.1.2.1 r2.1.2.length x4.1.2.2]) (q_ldbA ty26 rfl Has.here.there.there rfl) (by decide) ?_
            refine Rg.q (v := .int .i64 (σ24.2)) (Pu.qo (p_move rfl)) (by decide) ?_
            obtain ⟨r33, h34, H1⟩ := bd.of H1
            refine Rg.ed (e_callB (vs := [.agg #[.slice x4.1.1.1 r2.1.1.length x4.1.1.2, .slice x4.1.2.1 r2.1.2.length x4.1.2.2], .int .i64 (σ24.2)]) (c_impl_PartOf r2.1 x4.1 σ24.2 h34) (fun _ => (Solo.tree Solo.nil)) rfl (EntsB.cons (EntB.tree Has.here) (EntsB.cons (EntB.tree Has.here.there) EntsB.nil))) rfl (by decide) ?_
            rintro _ _ _ ⟨x35, rfl, rfl, rfl⟩
            refine Rg.q (v := .slice x35.1 r33.length x35.2) (Pu.qo (p_assign rfl)) (by decide) ?_
            refine Rg.nl ?_
            refine nT (?_)
            refine Tr.seq ?_
            refine Tr.seq ?_
            refine Tr.region ?_
            refine Rg.q (v := .pointer (some ⟨g5, 0, none⟩)) (Pu.qo (p_fabE fa26_0 rfl rfl)) (by decide) ?_
            refine Rg.q (v := .slice x4.1.1.1 r2.1.1.length x4.1.1.2) (q_ldb ty23 rfl Has.here.there.there.there rfl) (by decide) ?_
            refine Rg.q (v := .int .i64 (σ24.2)) (Pu.qo (p_move rfl)) (by decide) ?_
            obtain ⟨r36, h37, H1⟩ := bd.of H1
            refine Rg.q (v := .bool (r36)) (q_call (vs := [.slice x4.1.1.1 r2.1.1.length x4.1.1.2, .int .i64 (σ24.2)]) (c_laws_lyAmong r2.1.1 x4.1.1 σ24.2 h37) rfl (EntsB.cons (EntB.tree Has.here.there) EntsB.nil)) (by decide) ?_
            refine Rg.q (v := .slice x35.1 r33.length x35.2) (Pu.qo (p_move rfl)) (by decide) ?_
            refine Rg.q (v := .int .i64 ((r33.length : Int))) (Pu.qo (p_len 68 Try.underlying29 rfl)) (by decide) ?_
            refine Rg.q (v := .bool (decide (0 < (r33.length : Int)))) (Pu.qo (p_gtr rfl rfl)) (by decide) ?_
            refine Rg.q (v := .bool (!decide (r36 = (decide (0 < (r33.length : Int)))))) (Pu.qo (p_bneq Try.underlying4 rfl rfl)) (by decide) ?_
            refine Rg.nl ?_
            refine nT (?_)
            refine Tr.cond (b := !decide (r36 = (decide (0 < (r33.length : Int))))) rfl (fun h38 => ?_) (fun h38 => ?_)
            · have H1 := cdT h38 H1
              refine Tr.seq ?_
              refine Tr.region ?_
              refine Rg.q (v := .bool (false)) (Pu.qo (p_assign rfl)) (by decide) ?_
              refine Rg.nl ?_
              refine nT (?_)
              refine tRet ?_
              refine rT (rB (rT (rT (rB (rT (rT (?_)))))))
              have hx := hb29 _ (Option.some.inj H1).symm; subst hx
              replace H := sw.r H
              have hr := Option.some.inj H; subst hr
              exact back1 () rfl (ResV.tmp (v := .bool (false)) rfl) rfl Ents.nil Take.nil
            · have H1 := cdF h38 H1
              refine tSkip ?_
              refine nT (?_)
              refine Tr.region ?_
              refine Rg.q (v := .int .i64 (σ24.1)) (Pu.qo (p_move rfl)) (by decide) ?_
              refine Rg.q (v := .slice x35.1 r33.length x35.2) (Pu.qo (p_move rfl)) (by decide) ?_
              refine Rg.q (v := .int .i64 ((r33.length : Int))) (Pu.qo (p_len 68 Try.underlying29 rfl)) (by decide) ?_
              obtain ⟨h39, H1⟩ := gd.of H1
              refine Rg.q (v := .int .i64 (σ24.1 + (r33.length : Int))) (Pu.qo (p_add rfl rfl h39)) (by decide) ?_
              refine Rg.q (v := .int .i64 (σ24.1 + (r33.length : Int))) (Pu.qo (p_assign rfl)) (by decide) ?_
              refine Rg.nl ?_
              refine nB (nT (?_))
              refine Tr.region ?_
              refine Rg.q (v := .int .i64 (σ24.2)) (Pu.qo (p_move rfl)) (by decide) ?_
              obtain ⟨h40, H1⟩ := gd.of H1
              refine Rg.q (v := .int .i64 (σ24.2 + 1)) (Pu.qo (p_add rfl rfl h40)) (by decide) ?_
              refine Rg.q (v := .int .i64 (σ24.2 + 1)) (Pu.qo (p_assign rfl)) (by decide) ?_
              refine Rg.nl ?_
              exact nLC ⟨(m31, (σ24.1 + (r33.length : Int), σ24.2 + 1), ()), hi28 _ (Option.some.inj H1).symm⟩ (Nat.lt_succ_self _) ⟨rfl, rfl, rfl, trivial⟩ Ents.refl (.cons Del.here.there (.cons Del.here.there (.cons Del.here.there .nil)))
          · have H1 := cdF h32 H1
            refine tExit (xT (xT (xE (?_))))
            exact nMC ⟨(σ24.1, ()), (hb29 _ (Option.some.inj H1).symm).symm⟩ ⟨rfl, rfl, trivial⟩ Ents.refl (.cons Del.here (.cons Del.here (.cons Del.here .nil)))
        · rintro ⟨⟨e41, y26⟩, hx⟩; subst hx; replace H := sw.l H
          show At _ _ [(3, .pointer (some ⟨g5, 0, none⟩)), (6, .int .i64 (e41))] _ [tree (.slice x4.1.1.1 r2.1.1.length x4.1.1.2) r2.1.1, tree (.slice x4.1.2.1 r2.1.2.length x4.1.2.2) r2.1.2, box g5 26 [.slice x4.1.1.1 r2.1.1.length x4.1.1.2, .slice x4.1.2.1 r2.1.2.length x4.1.2.2]] _
          refine nT (?_)
          refine Tr.seq ?_
          refine Tr.region ?_
          refine Rg.q (v := .int .i64 (e41)) (Pu.qo (p_move rfl)) (by decide) ?_
          refine Rg.q (v := .agg #[.slice x4.1.1.1 r2.1.1.length x4.1.1.2, .slice x4.1.2.1 r2.1.2.length x4.1.2.2]) (q_ldbA ty26 rfl Has.here.there.there rfl) (by decide) ?_
          obtain ⟨r42, h43, H⟩ := bd.of H
          refine Rg.q (v := .int .i64 (r42)) (q_call (vs := [.agg #[.slice x4.1.1.1 r2.1.1.length x4.1.1.2, .slice x4.1.2.1 r2.1.2.length x4.1.2.2]]) (c_impl_PartRows r2.1 x4.1 h43) rfl (EntsB.cons (EntB.tree Has.here) (EntsB.cons (EntB.tree Has.here.there) EntsB.nil))) (by decide) ?_
          refine Rg.q (v := .bool (decide (e41 = r42))) (Pu.qo (p_eql rfl rfl)) (by decide) ?_
          refine Rg.q (v := .bool (decide (e41 = r42))) (Pu.qo (p_assign rfl)) (by decide) ?_
          refine Rg.nl ?_
          refine nT (?_)
          refine tRet ?_
          have hr := Option.some.inj H; subst hr
          exact back1 () rfl (ResV.tmp (v := .bool (decide (e41 = r42))) rfl) rfl Ents.nil Take.nil
noncomputable def p_laws_FnPartForm_b0 (r5 : Part) (σ23 : Int) : Option ((Int) ⊕ (Unit ⊕ Bool)) := cond (decide (σ23 < (r5.1.length : Int))) (bd (gd (ix σ23 r5.2.length) <| cond (decide (((nth r5.2 σ23.toNat).length : Int) = 0)) (some (true)) (bd (p_impl_BlockOk (nth r5.2 σ23.toNat)) fun r37 => cond (!r37) (some (true)) (cond (decide (0 < σ23)) (gd (I64 (σ23 - 1)) <| gd (ix (σ23 - 1) r5.1.length) <| gd (ix σ23 r5.1.length) <| some (decide ((nth r5.1 σ23.toNat) ≤ (nth r5.1 ((σ23 - 1).toNat))))) (some (false))))) fun b33 => cond (b33) (some (.inr (.inr false))) (gd (I64 (σ23 + 1)) <| some (.inl (σ23 + 1)))) (some (.inr (.inl ())))
noncomputable def p_laws_FnPartForm (v0 : (List UInt8)) (v1 : (List UInt8)) : Option (Bool) := bd (cond (decide (1048576 < (v0.length : Int))) (some (true)) (some (decide (1048576 < (v1.length : Int))))) fun b1 => cond (b1) (some true) (bd (p_spec_DrawPartOk v0) fun r5 => bd (p_impl_PartOk r5) fun r9 => bd (bd (p_spec_PartOk r5) fun r13 => cond (!decide (r9 = r13)) (some (true)) (some (!r9))) fun b11 => cond (b11) (bd (p_spec_PartOk r5) fun r17 => some (decide (r9 = r17))) (bd (lp (p_laws_FnPartForm_b0 r5) 0) <| sw (fun e46 => cond (decide ((r5.1.length : Int) = 0)) (some true) (gd ((r5.1.length : Int) ≠ 0) <| gd (I64 ((v1.length : Int).tmod (r5.1.length : Int))) <| gd (room (([] : List (List Row)).length + r5.2.length)) <| gd (ix ((v1.length : Int).tmod (r5.1.length : Int)) (([] : List (List Row)) ++ r5.2).length) <| gd (ix ((v1.length : Int).tmod (r5.1.length : Int)) r5.1.length) <| gd (ix ((v1.length : Int).tmod (r5.1.length : Int)) r5.2.length) <| gd (room (([] : List Int).length + r5.1.length)) <| gd (room ((([] : List Int) ++ r5.1).length + 1)) <| gd (room ((([] : List (List Row)) ++ r5.2).length + 1)) <| bd (bd (p_impl_PartOk (r5.1, ((([] : List (List Row)) ++ r5.2).set (((v1.length : Int).tmod (r5.1.length : Int)).toNat) ([])))) fun r77 => cond (!r77) (bd (p_impl_PartOk (((([] : List Int) ++ r5.1) ++ [nth r5.1 (((v1.length : Int).tmod (r5.1.length : Int)).toNat)]), ((([] : List (List Row)) ++ r5.2) ++ [nth r5.2 (((v1.length : Int).tmod (r5.1.length : Int)).toNat)]))) fun r80 => cond (!r80) (bd (p_impl_PartOk (r5.1, ([]))) fun r83 => some (!r83)) (some (false))) (some (false))) fun b75 => some b75)) (fun q => some q)))
theorem c_laws_FnPartForm {r : Bool} (v0 : (List UInt8)) (x_v0 : Option Addr × Nat) (v1 : (List UInt8)) (x_v1 : Option Addr × Nat) (H : p_laws_FnPartForm v0 v1 = some r) : Fn' Try.prog 3 #[.slice x_v0.1 v0.length x_v0.2, .slice x_v1.1 v1.length x_v1.2] [imm (.slice x_v0.1 v0.length x_v0.2) v0, imm (.slice x_v1.1 v1.length x_v1.2) v1] [] (ι := Unit) (fun x => .bool (r)) (fun _ => []) (fun x => []) := by
  refine calls_of (args := [_, _]) Try.func3 rfl (by kernel_rfl) Try.ntmps3 (by simp) fun c => ?_
  unfold p_laws_FnPartForm at H
  refine Tr.seq ?_
  refine Tr.region ?_
  refine Rg.q (v := .bool (false)) (Pu.qo (p_assign rfl)) (by decide) ?_
  refine Rg.nl ?_
  refine nT (?_)
  refine Tr.seq ?_
  obtain ⟨b1, j2, H⟩ := bd.of H
  refine tMid1 [(18, .bool (b1)), (0, .slice x_v0.1 v0.length x_v0.2), (1, .slice x_v1.1 v1.length x_v1.2)] ?_ ?_
  · refine tLinS [(0, .slice x_v0.1 v0.length x_v0.2), (1, .slice x_v1.1 v1.length x_v1.2)] Try.mixed (.inl rfl) ⟨rfl, rfl, trivial⟩ rfl ?_
    refine Lin.q (v := .slice x_v0.1 v0.length x_v0.2) (by decide) (Pu.qo (p_move rfl)) ?_
    refine Lin.q (v := .int .i64 ((v0.length : Int))) (by decide) (Pu.qo (p_len 5 Try.underlying22 rfl)) ?_
    refine Lin.q (v := .bool (decide (1048576 < (v0.length : Int)))) (by decide) (Pu.qo (p_gtr rfl rfl)) ?_
    rcases Bool.eq_false_or_eq_true (decide (1048576 < (v0.length : Int))) with h3 | h3
    · have j2 := cdT h3 j2
      refine Lin.q (v := .bool (true)) (by decide) (Qo.eqv (v := .bool (decide (1048576 < (v0.length : Int)))) (Pu.qo (p_move rfl)) (congrArg Value.bool h3)) ?_
      refine Lin.skip (by decide) rfl ?_
      refine Lin.skip (by decide) rfl ?_
      refine Lin.skip (by decide) rfl ?_
      refine Lin.q (v := .bool (true)) (by decide) (Pu.qo (p_pickT rfl rfl)) ?_
      have j2 := Option.some.inj j2; subst j2
      show At _ _ _ _ _ _
      exact n1 ⟨rfl, rfl, rfl, trivial⟩
    · have j2 := cdF h3 j2
      refine Lin.q (v := .bool (false)) (by decide) (Qo.eqv (v := .bool (decide (1048576 < (v0.length : Int)))) (Pu.qo (p_move rfl)) (congrArg Value.bool h3)) ?_
      refine Lin.g (v := .slice x_v1.1 v1.length x_v1.2) (by decide) rfl (Pu.qo (p_move rfl)) ?_
      refine Lin.g (v := .int .i64 ((v1.length : Int))) (by decide) rfl (Pu.qo (p_len 5 Try.underlying22 rfl)) ?_
      refine Lin.g (v := .bool (decide (1048576 < (v1.length : Int)))) (by decide) rfl (Pu.qo (p_gtr rfl rfl)) ?_
      refine Lin.q (v := .bool (decide (1048576 < (v1.length : Int)))) (by decide) (Pu.qo (p_pickF rfl rfl)) ?_
      have j2 := Option.some.inj j2; subst j2
      show At _ _ _ _ _ _
      exact n1 ⟨rfl, rfl, rfl, trivial⟩
  refine Tr.cond (b := b1) rfl (fun h4 => ?_) (fun h4 => ?_)
  · have H := cdT h4 H
    refine Tr.seq ?_
    refine Tr.region ?_
    refine Rg.q (v := .bool (true)) (Pu.qo (p_assign rfl)) (by decide) ?_
    refine Rg.nl ?_
    refine nT (?_)
    refine tRet ?_
    refine rT (?_)
    have hr := Option.some.inj H; subst hr
    exact back1 () rfl (ResV.tmp (v := .bool (true)) rfl) rfl Ents.nil Take.nil
  · have H := cdF h4 H
    refine tSkip ?_
    refine nT (?_)
    refine Tr.seq ?_
    refine Tr.region ?_
    refine Rg.q (v := .slice x_v0.1 v0.length x_v0.2) (Pu.qo (p_move rfl)) (by decide) ?_
    obtain ⟨r5, h6, H⟩ := bd.of H
    refine Rg.ed (e_callB (vs := [.slice x_v0.1 v0.length x_v0.2]) (c_spec_DrawPartOk v0 x_v0 h6) (fun _ => (Solo.tree (Solo.tree Solo.nil))) rfl (EntsB.cons (Ent.b Ent.z) EntsB.nil)) rfl (by decide) ?_
    rintro _ _ _ ⟨x7, rfl, rfl, rfl⟩
    refine Rg.ed (e_alloc ty26) rfl (by decide) ?_
    rintro _ _ _ ⟨g8, rfl, rfl, rfl⟩
    refine Rg.en (e_store (v := .agg #[.slice x7.1.1 r5.1.length x7.1.2, .slice x7.2.1 r5.2.length x7.2.2]) (cs' := [.slice x7.1.1 r5.1.length x7.1.2, .slice x7.2.1 r5.2.length x7.2.2]) ty26 rfl rfl Upd.here rfl (by simp [Value.cells, Value.oneCell']) (Nat.le_of_ble_eq_true rfl) rfl) rfl ?_
    rintro _ _ _ ⟨rfl, rfl, rfl⟩
    refine Rg.nl ?_
    refine nT (?_)
    refine Tr.seq ?_
    refine Tr.region ?_
    refine Rg.q (v := .agg #[.slice x7.1.1 r5.1.length x7.1.2, .slice x7.2.1 r5.2.length x7.2.2]) (q_ldbA ty26 rfl Has.here rfl) (by decide) ?_
    obtain ⟨r9, h10, H⟩ := bd.of H
    refine Rg.q (v := .bool (r9)) (q_call (vs := [.agg #[.slice x7.1.1 r5.1.length x7.1.2, .slice x7.2.1 r5.2.length x7.2.2]]) (c_impl_PartOk r5 x7 h10) rfl (EntsB.cons (EntB.tree Has.here.there) (EntsB.cons (EntB.tree Has.here.there.there) EntsB.nil))) (by decide) ?_
    refine Rg.q (v := .bool (r9)) (Pu.qo (p_assign rfl)) (by decide) ?_
    refine Rg.nl ?_
    refine nT (?_)
    refine Tr.seq ?_
    obtain ⟨b11, j12, H⟩ := bd.of H
    refine tMid1 [(30, .bool (b11)), (6, .bool (r9)), (5, .pointer (some ⟨g8, 0, none⟩)), (1, .slice x_v1.1 v1.length x_v1.2)] ?_ ?_
    · refine tLinS [(6, .bool (r9)), (5, .pointer (some ⟨g8, 0, none⟩)), (1, .slice x_v1.1 v1.length x_v1.2)] Try.mixed (.inl rfl) ⟨rfl, rfl, rfl, trivial⟩ rfl ?_
      refine Lin.q (v := .bool (r9)) (by decide) (Pu.qo (p_move rfl)) ?_
      refine Lin.q (v := .agg #[.slice x7.1.1 r5.1.length x7.1.2, .slice x7.2.1 r5.2.length x7.2.2]) (by decide) (q_ldbA ty26 rfl Has.here rfl) ?_
      obtain ⟨r13, h14, j12⟩ := bd.of j12
      refine Lin.q (v := .bool (r13)) (by decide) (q_call (vs := [.agg #[.slice x7.1.1 r5.1.length x7.1.2, .slice x7.2.1 r5.2.length x7.2.2]]) (c_spec_PartOk r5 x7 h14) rfl (EntsB.cons (EntB.tree Has.here.there) (EntsB.cons (EntB.tree Has.here.there.there) EntsB.nil))) ?_
      refine Lin.q (v := .bool (!decide (r9 = r13))) (by decide) (Pu.qo (p_bneq Try.underlying4 rfl rfl)) ?_
      rcases Bool.eq_false_or_eq_true (!decide (r9 = r13)) with h15 | h15
      · have j12 := cdT h15 j12
        refine Lin.q (v := .bool (true)) (by decide) (Qo.eqv (v := .bool (!decide (r9 = r13))) (Pu.qo (p_move rfl)) (congrArg Value.bool h15)) ?_
        refine Lin.skip (by decide) rfl ?_
        refine Lin.skip (by decide) rfl ?_
        refine Lin.q (v := .bool (true)) (by decide) (Pu.qo (p_pickT rfl rfl)) ?_
        have j12 := Option.some.inj j12; subst j12
        show At _ _ _ _ _ _
        exact n1 ⟨rfl, rfl, rfl, rfl, trivial⟩
      · have j12 := cdF h15 j12
        refine Lin.q (v := .bool (false)) (by decide) (Qo.eqv (v := .bool (!decide (r9 = r13))) (Pu.qo (p_move rfl)) (congrArg Value.bool h15)) ?_
        refine Lin.g (v := .bool (r9)) (by decide) rfl (Pu.qo (p_move rfl)) ?_
        refine Lin.g (v := .bool (!r9)) (by decide) rfl (Pu.qo (p_not rfl)) ?_
        refine Lin.q (v := .bool (!r9)) (by decide) (Pu.qo (p_pickF rfl rfl)) ?_
        have j12 := Option.some.inj j12; subst j12
        show At _ _ _ _ _ _
        exact n1 ⟨rfl, rfl, rfl, rfl, trivial⟩
    refine Tr.cond (b := b11) rfl (fun h16 => ?_) (fun h16 => ?_)
    · have H := cdT h16 H
      refine Tr.seq ?_
      refine Tr.region ?_
      refine Rg.q (v := .bool (r9)) (Pu.qo (p_move rfl)) (by decide) ?_
      refine Rg.q (v := .agg #[.slice x7.1.1 r5.1.length x7.1.2, .slice x7.2.1 r5.2.length x7.2.2]) (q_ldbA ty26 rfl Has.here rfl) (by decide) ?_
      obtain ⟨r17, h18, H⟩ := bd.of H
      refine Rg.q (v := .bool (r17)) (q_call (vs := [.agg #[.slice x7.1.1 r5.1.length x7.1.2, .slice x7.2.1 r5.2.length x7.2.2]]) (c_spec_PartOk r5 x7 h18) rfl (EntsB.cons (EntB.tree Has.here.there) (EntsB.cons (EntB.tree Has.here.there.there) EntsB.nil))) (by decide) ?_
      refine Rg.q (v := .bool (decide (r9 = r17))) (Pu.qo (p_beql Try.underlying4 rfl rfl)) (by decide) ?_
      refine Rg.q (v := .bool (decide (r9 = r17))) (Pu.qo (p_assign rfl)) (by decide) ?_
      refine Rg.nl ?_
      refine nT (?_)
      refine tRet ?_
      refine rT (?_)
      have hr := Option.some.inj H; subst hr
      exact back1 () rfl (ResV.tmp (v := .bool (decide (r9 = r17))) rfl) rfl Ents.nil Take.nil
    · have H := cdF h16 H
      refine tSkip ?_
      refine nT (?_)
      refine Tr.seq ?_
      refine Tr.seq ?_
      refine Tr.freeze (.cons Del.here.there.there .nil) ?_
      refine Tr.region ?_
      refine Rg.q (v := .int .i64 (0)) (Pu.qo (p_assign rfl)) (by decide) ?_
      refine Rg.nl ?_
      refine nT (?_)
      obtain ⟨x19, hx20, H⟩ := bd.of H
      obtain ⟨n21, hx20⟩ := lp.of hx20
      refine tMidNC (ι := { q : (Unit) × Unit // x19 = .inl q.1 }) (fun ψ => [(1, .slice x_v1.1 v1.length x_v1.2), (5, .pointer (some ⟨g8, 0, none⟩))]) (fun ψ => [tree (.slice x7.1.1 r5.1.length x7.1.2) r5.1, box g8 26 [.slice x7.1.1 r5.1.length x7.1.2, .slice x7.2.1 r5.2.length x7.2.2]]) ?_ ?_
      · refine Tr.block ?_
        refine tLoopC (ι := { q : Nat × (Int) × Unit // itr (p_laws_FnPartForm_b0 r5) q.1 q.2.1 = some x19 }) (fun ζ => [(1, .slice x_v1.1 v1.length x_v1.2), (5, .pointer (some ⟨g8, 0, none⟩)), (7, .int .i64 (ζ.1.2.1))]) (fun ζ => [tree (.slice x7.1.1 r5.1.length x7.1.2) r5.1, box g8 26 [.slice x7.1.1 r5.1.length x7.1.2, .slice x7.2.1 r5.2.length x7.2.2]]) (fun ζ => ζ.1.1) ⟨(n21, 0, ()), hx20⟩ ⟨rfl, rfl, rfl, trivial⟩ (.cons Del.here.there (.cons Del.here .nil)) ?_
        rintro ⟨⟨m22, σ23, z24⟩, hk29⟩
        obtain ⟨m30, t26, e, H1, hi27, hb28⟩ := itr.of (n := m22) (s := σ23) hk29
        subst e; unfold p_laws_FnPartForm_b0 at H1
        show Tr _ _ _ _ _ [(1, .slice x_v1.1 v1.length x_v1.2), (5, .pointer (some ⟨g8, 0, none⟩)), (7, .int .i64 (σ23))] _ [tree (.slice x7.1.1 r5.1.length x7.1.2) r5.1, box g8 26 [.slice x7.1.1 r5.1.length x7.1.2, .slice x7.2.1 r5.2.length x7.2.2]]
        refine Tr.seq ?_
        refine Tr.seq ?_
        refine Tr.region ?_
        refine Rg.q (v := .int .i64 (σ23)) (Pu.qo (p_move rfl)) (by decide) ?_
        refine Rg.q (v := .pointer (some ⟨g8, 0, none⟩)) (Pu.qo (p_fabE fa26_0 rfl rfl)) (by decide) ?_
        refine Rg.q (v := .slice x7.1.1 r5.1.length x7.1.2) (q_ldb ty23 rfl Has.here.there rfl) (by decide) ?_
        refine Rg.q (v := .int .i64 ((r5.1.length : Int))) (Pu.qo (p_len 3 Try.underlying23 rfl)) (by decide) ?_
        refine Rg.q (v := .bool (decide (σ23 < (r5.1.length : Int)))) (Pu.qo (p_lss rfl rfl)) (by decide) ?_
        refine Rg.nl ?_
        refine nT (?_)
        refine Tr.cond (b := decide (σ23 < (r5.1.length : Int))) rfl (fun h31 => ?_) (fun h31 => ?_)
        · have H1 := cdT h31 H1
          refine tSkip ?_
          refine nT (?_)
          refine Tr.seq ?_
          refine Tr.openD Ent.z fun X32 => ?_
          refine Tr.block ?_
          obtain ⟨b33, j34, H1⟩ := bd.of H1
          refine tMid1 [(75, .bool (b33)), (1, .slice x_v1.1 v1.length x_v1.2), (5, .pointer (some ⟨g8, 0, none⟩)), (7, .int .i64 (σ23))] ?_ ?_
          · refine tLinS [(1, .slice x_v1.1 v1.length x_v1.2), (5, .pointer (some ⟨g8, 0, none⟩)), (7, .int .i64 (σ23))] Try.mixed (.inr (by kernel_rfl)) ⟨rfl, rfl, rfl, trivial⟩ rfl ?_
            refine Lin.q (v := .pointer (some ⟨g8, 1, none⟩)) (by decide) (Pu.qo (p_fabE fa26_1 rfl rfl)) ?_
            refine Lin.q (v := .slice x7.2.1 r5.2.length x7.2.2) (by decide) (q_ldb ty24 rfl Has.here.there rfl) ?_
            refine Lin.q (v := .int .i64 (σ23)) (by decide) (Pu.qo (p_move rfl)) ?_
            obtain ⟨h35, j34⟩ := gd.of j34
            refine Lin.q (v := elp x7.2.1 (σ23.toNat * Enc.sz (List Row) + 0)) (by decide) (q_ixg (l := r5.2) (E := fun i => Dp.denc (nth r5.2 i) (X32 i)) (oa := x7.2.1) Try.underlying24 ty29 rfl rfl h35 rfl (Ent.b (Ent.darr Ent.z))) ?_
            refine Lin.q (v := .slice ((X32 σ23.toNat).1) ((nth r5.2 σ23.toNat).length) ((X32 σ23.toNat).2.1)) (by decide) (q_lde (l := r5.2) (E := fun i => Dp.denc (nth r5.2 i) (X32 i)) (oa := x7.2.1) (i := σ23.toNat) (j := 0) ty29 rfl (Ent.b (Ent.darr Ent.z)) h35.lt rfl) ?_
            refine Lin.q (v := .int .i64 (((nth r5.2 σ23.toNat).length : Int))) (by decide) (Pu.qo (p_len 68 Try.underlying29 rfl)) ?_
            refine Lin.q (v := .bool (decide (((nth r5.2 σ23.toNat).length : Int) = 0))) (by decide) (Pu.qo (p_eql rfl rfl)) ?_
            rcases Bool.eq_false_or_eq_true (decide (((nth r5.2 σ23.toNat).length : Int) = 0)) with h36 | h36
            · have j34 := cdT h36 j34
              refine Lin.q (v := .bool (true)) (by decide) (Qo.eqv (v := .bool (decide (((nth r5.2 σ23.toNat).length : Int) = 0))) (Pu.qo (p_move rfl)) (congrArg Value.bool h36)) ?_
              refine Lin.skip (by decide) rfl ?_
              refine Lin.skip (by decide) rfl ?_
              refine Lin.skip (by decide) rfl ?_
              refine Lin.skip (by decide) rfl ?_
              refine Lin.skip (by decide) rfl ?_
              refine Lin.skip (by decide) rfl ?_
              refine Lin.skip (by decide) rfl ?_
              refine Lin.q (v := .bool (true)) (by decide) (Pu.qo (p_pickT rfl rfl)) ?_
              refine Lin.q (v := .bool (true)) (by decide) (Pu.qo (p_move rfl)) ?_
              refine Lin.skip (by decide) rfl ?_
              refine Lin.skip (by decide) rfl ?_
              refine Lin.skip (by decide) rfl ?_
              refine Lin.skip (by decide) rfl ?_
              refine Lin.skip (by decide) rfl ?_
              refine Lin.skip (by decide) rfl ?_
              refine Lin.skip (by decide) rfl ?_
              refine Lin.skip (by decide) rfl ?_
              refine Lin.skip (by decide) rfl ?_
              refine Lin.skip (by decide) rfl ?_
              refine Lin.skip (by decide) rfl ?_
              refine Lin.skip (by decide) rfl ?_
              refine Lin.skip (by decide) rfl ?_
              refine Lin.skip (by decide) rfl ?_
              refine Lin.skip (by decide) rfl ?_
              refine Lin.skip (by decide) rfl ?_
              refine Lin.q (v := .bool (true)) (by decide) (Pu.qo (p_pickT rfl rfl)) ?_
              have j34 := Option.some.inj j34; subst j34
              show At _ _ _ _ _ _
              exact n1 ⟨rfl, rfl, rfl, rfl, trivial⟩
            · have j34 := cdF h36 j34
              refine Lin.q (v := .bool (false)) (by decide) (Qo.eqv (v := .bool (decide (((nth r5.2 σ23.toNat).length : Int) = 0))) (Pu.qo (p_move rfl)) (congrArg Value.bool h36)) ?_
              refine Lin.g (v := .pointer (some ⟨g8, 1, none⟩)) (by decide) rfl (Pu.qo (p_fabE fa26_1 rfl rfl)) ?_
              refine Lin.g (v := .slice x7.2.1 r5.2.length x7.2.2) (by decide) rfl (q_ldb ty24 rfl Has.here.there rfl) ?_
              refine Lin.g (v := .int .i64 (σ23)) (by decide) rfl (Pu.qo (p_move rfl)) ?_
              refine Lin.g (v := elp x7.2.1 (σ23.toNat * Enc.sz (List Row) + 0)) (by decide) rfl (q_ixg (l := r5.2) (E := fun i => Dp.denc (nth r5.2 i) (X32 i)) (oa := x7.2.1) Try.underlying24 ty29 rfl rfl h35 rfl (Ent.b (Ent.darr Ent.z))) ?_
              refine Lin.g (v := .slice ((X32 σ23.toNat).1) ((nth r5.2 σ23.toNat).length) ((X32 σ23.toNat).2.1)) (by decide) rfl (q_lde (l := r5.2) (E := fun i => Dp.denc (nth r5.2 i) (X32 i)) (oa := x7.2.1) (i := σ23.toNat) (j := 0) ty29 rfl (Ent.b (Ent.darr Ent.z)) h35.lt rfl) ?_
              obtain ⟨r37, h38, j34⟩ := bd.of j34
              refine Lin.g (v := .bool (r37)) (by decide) rfl (q_call (vs := [.slice ((X32 σ23.toNat).1) ((nth r5.2 σ23.toNat).length) ((X32 σ23.toNat).2.1)]) (c_impl_BlockOk (nth r5.2 σ23.toNat) ((X32 σ23.toNat).1, (X32 σ23.toNat).2.1) h38) rfl (EntsB.cons (Ent.b (Ent.dimm (Ent.del Ent.z h35.lt))) EntsB.nil)) ?_
              refine Lin.g (v := .bool (!r37)) (by decide) rfl (Pu.qo (p_not rfl)) ?_
              refine Lin.q (v := .bool (!r37)) (by decide) (Pu.qo (p_pickF rfl rfl)) ?_
              rcases Bool.eq_false_or_eq_true (!r37) with h39 | h39
              · have j34 := cdT h39 j34
                refine Lin.q (v := .bool (true)) (by decide) (Qo.eqv (v := .bool (!r37)) (Pu.qo (p_move rfl)) (congrArg Value.bool h39)) ?_
                refine Lin.skip (by decide) rfl ?_
                refine Lin.skip (by decide) rfl ?_
                refine Lin.skip (by decide) rfl ?_
                refine Lin.skip (by decide) rfl ?_
                refine Lin.skip (by decide) rfl ?_
                refine Lin.skip (by decide) rfl ?_
                refine Lin.skip (by decide) rfl ?_
                refine Lin.skip (by decide) rfl ?_
                refine Lin.skip (by decide) rfl ?_
                refine Lin.skip (by decide) rfl ?_
                refine Lin.skip (by decide) rfl ?_
                refine Lin.skip (by decide) rfl ?_
                refine Lin.skip (by decide) rfl ?_
                refine Lin.skip (by decide) rfl ?_
                refine Lin.skip (by decide) rfl ?_
                refine Lin.skip (by decide) rfl ?_
                refine Lin.q (v := .bool (true)) (by decide) (Pu.qo (p_pickT rfl rfl)) ?_
                have j34 := Option.some.inj j34; subst j34
                show At _ _ _ _ _ _
                exact n1 ⟨rfl, rfl, rfl, rfl, trivial⟩
              · have j34 := cdF h39 j34
                refine Lin.q (v := .bool (false)) (by decide) (Qo.eqv (v := .bool (!r37)) (Pu.qo (p_move rfl)) (congrArg Value.bool h39)) ?_
                refine Lin.g (v := .int .i64 (σ23)) (by decide) rfl (Pu.qo (p_move rfl)) ?_
                refine Lin.g (v := .bool (decide (0 < σ23))) (by decide) rfl (Pu.qo (p_gtr rfl rfl)) ?_
                rcases Bool.eq_false_or_eq_true (decide (0 < σ23)) with h40 | h40
                · have j34 := cdT h40 j34
                  refine Lin.g (v := .bool (true)) (by decide) rfl (Qo.eqv (v := .bool (decide (0 < σ23))) (Pu.qo (p_move rfl)) (congrArg Value.bool h40)) ?_
                  refine Lin.g (v := .pointer (some ⟨g8, 0, none⟩)) (by decide) rfl (Pu.qo (p_fabE fa26_0 rfl rfl)) ?_
                  refine Lin.g (v := .slice x7.1.1 r5.1.length x7.1.2) (by decide) rfl (q_ldb ty23 rfl Has.here.there rfl) ?_
                  refine Lin.g (v := .int .i64 (σ23)) (by decide) rfl (Pu.qo (p_move rfl)) ?_
                  obtain ⟨h41, j34⟩ := gd.of j34
                  refine Lin.g (v := .int .i64 (σ23 - 1)) (by decide) rfl (Pu.qo (p_sub rfl rfl h41)) ?_
                  obtain ⟨h42, j34⟩ := gd.of j34
                  refine Lin.g (v := elp x7.1.1 (((σ23 - 1).toNat) * Enc.sz Int + 0)) (by decide) rfl (q_ixO' Try.underlying23 ty3 rfl rfl h42 Has.here) ?_
                  refine Lin.g (v := .int .i64 (nth r5.1 ((σ23 - 1).toNat))) (by decide) rfl (q_lde (l := r5.1) (E := fun i => Flat.enc (nth r5.1 i)) (oa := x7.1.1) (i := (σ23 - 1).toNat) (j := 0) ty3 rfl (EntB.flat (EntB.tree Has.here)) h42.lt rfl) ?_
                  refine Lin.g (v := .pointer (some ⟨g8, 0, none⟩)) (by decide) rfl (Pu.qo (p_fabE fa26_0 rfl rfl)) ?_
                  refine Lin.g (v := .slice x7.1.1 r5.1.length x7.1.2) (by decide) rfl (q_ldb ty23 rfl Has.here.there rfl) ?_
                  refine Lin.g (v := .int .i64 (σ23)) (by decide) rfl (Pu.qo (p_move rfl)) ?_
                  obtain ⟨h43, j34⟩ := gd.of j34
                  refine Lin.g (v := elp x7.1.1 (σ23.toNat * Enc.sz Int + 0)) (by decide) rfl (q_ixO' Try.underlying23 ty3 rfl rfl h43 Has.here) ?_
                  refine Lin.g (v := .int .i64 (nth r5.1 σ23.toNat)) (by decide) rfl (q_lde (l := r5.1) (E := fun i => Flat.enc (nth r5.1 i)) (oa := x7.1.1) (i := σ23.toNat) (j := 0) ty3 rfl (EntB.flat (EntB.tree Has.here)) h43.lt rfl) ?_
                  refine Lin.g (v := .bool (decide ((nth r5.1 σ23.toNat) ≤ (nth r5.1 ((σ23 - 1).toNat))))) (by decide) rfl (Pu.qo (p_geq rfl rfl)) ?_
                  refine Lin.g (v := .bool (decide ((nth r5.1 σ23.toNat) ≤ (nth r5.1 ((σ23 - 1).toNat))))) (by decide) rfl (Pu.qo (p_pickT rfl rfl)) ?_
                  refine Lin.q (v := .bool (decide ((nth r5.1 σ23.toNat) ≤ (nth r5.1 ((σ23 - 1).toNat))))) (by decide) (Pu.qo (p_pickF rfl rfl)) ?_
                  have j34 := Option.some.inj j34; subst j34
                  show At _ _ _ _ _ _
                  exact n1 ⟨rfl, rfl, rfl, rfl, trivial⟩
                · have j34 := cdF h40 j34
                  refine Lin.g (v := .bool (false)) (by decide) rfl (Qo.eqv (v := .bool (decide (0 < σ23))) (Pu.qo (p_move rfl)) (congrArg Value.bool h40)) ?_
                  refine Lin.skip (by decide) rfl ?_
                  refine Lin.skip (by decide) rfl ?_
                  refine Lin.skip (by decide) rfl ?_
                  refine Lin.skip (by decide) rfl ?_
                  refine Lin.skip (by decide) rfl ?_
                  refine Lin.skip (by decide) rfl ?_
                  refine Lin.skip (by decide) rfl ?_
                  refine Lin.skip (by decide) rfl ?_
                  refine Lin.skip (by decide) rfl ?_
                  refine Lin.skip (by decide) rfl ?_
                  refine Lin.skip (by decide) rfl ?_
                  refine Lin.skip (by decide) rfl ?_
                  refine Lin.g (v := .bool (false)) (by decide) rfl (Pu.qo (p_pickF rfl rfl)) ?_
                  refine Lin.q (v := .bool (false)) (by decide) (Pu.qo (p_pickF rfl rfl)) ?_
                  have j34 := Option.some.inj j34; subst j34
                  show At _ _ _ _ _ _
                  exact n1 ⟨rfl, rfl, rfl, rfl, trivial⟩
          refine Tr.cond (b := b33) rfl (fun h44 => ?_) (fun h44 => ?_)
          · have H1 := cdT h44 H1
            refine Tr.seq ?_
            refine Tr.region ?_
            refine Rg.q (v := .bool (false)) (Pu.qo (p_assign rfl)) (by decide) ?_
            refine Rg.nl ?_
            refine nT (?_)
            refine tRet ?_
            refine rB (rT (rT (rB (rT (rT (?_))))))
            have hx := hb28 _ (Option.some.inj H1).symm; subst hx
            replace H := sw.r H
            have hr := Option.some.inj H; subst hr
            exact back1 () rfl (ResV.tmp (v := .bool (false)) rfl) rfl Ents.nil Take.nil
          · have H1 := cdF h44 H1
            refine tSkip ?_
            refine nB (nT (?_))
            refine Tr.region ?_
            refine Rg.q (v := .int .i64 (σ23)) (Pu.qo (p_move rfl)) (by decide) ?_
            obtain ⟨h45, H1⟩ := gd.of H1
            refine Rg.q (v := .int .i64 (σ23 + 1)) (Pu.qo (p_add rfl rfl h45)) (by decide) ?_
            refine Rg.q (v := .int .i64 (σ23 + 1)) (Pu.qo (p_assign rfl)) (by decide) ?_
            refine Rg.nl ?_
            exact nLC ⟨(m30, σ23 + 1, ()), hi27 _ (Option.some.inj H1).symm⟩ (Nat.lt_succ_self _) ⟨rfl, rfl, rfl, trivial⟩ Ents.refl.s (.cons Del.here (.cons Del.here .nil))
        · have H1 := cdF h31 H1
          refine tExit (xT (xT (xE (?_))))
          exact nMC ⟨((), ()), (hb28 _ (Option.some.inj H1).symm).symm⟩ ⟨rfl, rfl, trivial⟩ Ents.refl (.cons Del.here (.cons Del.here .nil))
      · rintro ⟨⟨e46, y25⟩, hx⟩; subst hx; replace H := sw.l H
        show At _ _ [(1, .slice x_v1.1 v1.length x_v1.2), (5, .pointer (some ⟨g8, 0, none⟩))] _ [tree (.slice x7.1.1 r5.1.length x7.1.2) r5.1, box g8 26 [.slice x7.1.1 r5.1.length x7.1.2, .slice x7.2.1 r5.2.length x7.2.2]] _
        refine nT (?_)
        refine Tr.seq ?_
        refine Tr.seq ?_
        refine Tr.region ?_
        refine Rg.q (v := .pointer (some ⟨g8, 0, none⟩)) (Pu.qo (p_fabE fa26_0 rfl rfl)) (by decide) ?_
        refine Rg.q (v := .slice x7.1.1 r5.1.length x7.1.2) (q_ldb ty23 rfl Has.here.there rfl) (by decide) ?_
        refine Rg.q (v := .int .i64 ((r5.1.length : Int))) (Pu.qo (p_len 3 Try.underlying23 rfl)) (by decide) ?_
        refine Rg.q (v := .bool (decide ((r5.1.length : Int) = 0))) (Pu.qo (p_eql rfl rfl)) (by decide) ?_
        refine Rg.nl ?_
        refine nT (?_)
        refine Tr.cond (b := decide ((r5.1.length : Int) = 0)) rfl (fun h47 => ?_) (fun h47 => ?_)
        · have H := cdT h47 H
          refine Tr.seq ?_
          refine Tr.region ?_
          refine Rg.q (v := .bool (true)) (Pu.qo (p_assign rfl)) (by decide) ?_
          refine Rg.nl ?_
          refine nT (?_)
          refine tRet ?_
          refine rT (?_)
          have hr := Option.some.inj H; subst hr
          exact back1 () rfl (ResV.tmp (v := .bool (true)) rfl) rfl Ents.nil Take.nil
        · have H := cdF h47 H
          refine tSkip ?_
          refine nT (?_)
          refine Tr.seq ?_
          refine Tr.region ?_
          refine Rg.q (v := .slice x_v1.1 v1.length x_v1.2) (Pu.qo (p_move rfl)) (by decide) ?_
          refine Rg.q (v := .int .i64 ((v1.length : Int))) (Pu.qo (p_len 5 Try.underlying22 rfl)) (by decide) ?_
          refine Rg.q (v := .pointer (some ⟨g8, 0, none⟩)) (Pu.qo (p_fabE fa26_0 rfl rfl)) (by decide) ?_
          refine Rg.q (v := .slice x7.1.1 r5.1.length x7.1.2) (q_ldb ty23 rfl Has.here.there rfl) (by decide) ?_
          refine Rg.q (v := .int .i64 ((r5.1.length : Int))) (Pu.qo (p_len 3 Try.underlying23 rfl)) (by decide) ?_
          obtain ⟨h48, H⟩ := gd.of H
          obtain ⟨h49, H⟩ := gd.of H
          refine Rg.q (v := .int .i64 ((v1.length : Int).tmod (r5.1.length : Int))) (Pu.qo (p_rem rfl rfl h48 h49)) (by decide) ?_
          refine Rg.q (v := .int .i64 ((v1.length : Int).tmod (r5.1.length : Int))) (Pu.qo (p_assign rfl)) (by decide) ?_
          refine Rg.nl ?_
          refine nT (?_)
          refine Tr.seq ?_
          refine tNwS [(8, .int .i64 ((v1.length : Int).tmod (r5.1.length : Int))), (5, .pointer (some ⟨g8, 0, none⟩))] 1 [0, 1, 3, 4, 2, 5, 6, 7, 8] [5, 8] [⟨2, [], fun g => .slice (some ⟨g, 0, none⟩) ([] : List (List Row)).length 0, fun g => row (.slice (some ⟨g, 0, none⟩) ([] : List (List Row)).length 0) ([] : List (List Row))⟩, ⟨7, [], fun g => .pointer (some ⟨g, 0, none⟩), fun g => box g 26 [.slice none 0 0, .slice none 0 0]⟩] Try.mixed (by kernel_rfl) (by decide) (show List.Nodup [2, 7] by decide) ⟨rfl, rfl, trivial⟩ rfl (okCons (FreeA.Ok.of rfl (by decide) (by kernel_rfl) fun c fs os => g_lit0r (List Row) Try.underlying24 ty29) (okCons (FreeA.Ok.of rfl (by decide) (by kernel_rfl) fun c fs os => e_alloc ty26) okNil)) ?_
          refine w_pu (v := .pointer (some ⟨g8, 0, none⟩)) rfl (by decide) rfl rfl rfl (p_fabE fa26_0 rfl rfl) ?_
          refine w_q (v := .slice x7.1.1 r5.1.length x7.1.2) rfl (by decide) rfl rfl rfl (fun F => (q_ldb ty23 rfl (Has.here.there.app F) rfl)) ?_
          refine w_pu (v := .pointer (some ⟨g8, 1, none⟩)) rfl (by decide) rfl rfl rfl (p_fabE fa26_1 rfl rfl) ?_
          refine w_q (v := .slice x7.2.1 r5.2.length x7.2.2) rfl (by decide) rfl rfl rfl (fun F => (q_ldb ty24 rfl (Has.here.there.app F) rfl)) ?_
          refine w_fr (z := ⟨2, [], fun g => .slice (some ⟨g, 0, none⟩) ([] : List (List Row)).length 0, fun g => row (.slice (some ⟨g, 0, none⟩) ([] : List (List Row)).length 0) ([] : List (List Row))⟩) (.head _) rfl rfl (by decide) (Rdy.cons (.inl rfl) (Rdy.cons (.inr (.inr trivial)) Rdy.nil)) trivial ?_; intro g50
          obtain ⟨h53, H⟩ := gd.of H
          refine w_ed rfl (by decide) rfl (Rdy.cons (.inl rfl) (Rdy.cons (.inr (.inr trivial)) Rdy.nil)) rfl (n_appR (l := ([] : List (List Row))) (k := r5.2) (α := (List Row)) Try.underlying24 ty29 rfl rfl (h53.b (by decide)) h53.x (.cons Del.here .nil) Ent.z) ?_
          rintro _ _ _ ⟨a51, c52, rfl, rfl, rfl⟩
          refine ⟨(PdOk.anc (by kernel_rfl) (PdOk.q rfl rfl (fun F => (q_ldb ty23 rfl (Has.here.there.there.app F) rfl)) PdOk.nil)), ?_⟩
          refine w_pu (v := .agg #[.slice x7.1.1 r5.1.length x7.1.2, .slice a51 ((([] : List (List Row)) ++ r5.2).length) c52]) rfl (by decide) rfl rfl rfl (p_buildS (vs := [(0, .slice x7.1.1 r5.1.length x7.1.2), (1, .slice a51 ((([] : List (List Row)) ++ r5.2).length) c52)]) (cs := #[.slice x7.1.1 r5.1.length x7.1.2, .slice a51 ((([] : List (List Row)) ++ r5.2).length) c52]) ty26 pl26 rfl rfl) ?_
          refine w_fr (z := ⟨7, [], fun g => .pointer (some ⟨g, 0, none⟩), fun g => box g 26 [.slice none 0 0, .slice none 0 0]⟩) (.tail _ (.head _)) rfl rfl (by decide) (Rdy.cons (.inl rfl) (Rdy.cons (.inl rfl) Rdy.nil)) trivial ?_; intro g54
          refine w_en rfl rfl (Rdy.cons (.inl rfl) (Rdy.cons (.inl rfl) Rdy.nil)) rfl (n_store (v := .agg #[.slice x7.1.1 r5.1.length x7.1.2, .slice a51 ((([] : List (List Row)) ++ r5.2).length) c52]) (cs' := [.slice x7.1.1 r5.1.length x7.1.2, .slice a51 ((([] : List (List Row)) ++ r5.2).length) c52]) ty26 rfl rfl Upd.here rfl (by simp [Value.cells, Value.oneCell']) (Nat.le_of_ble_eq_true rfl) rfl) ?_
          rintro _ _ _ ⟨rfl, rfl, rfl⟩
          refine ⟨(PdOk.anc (by kernel_rfl) (PdOk.anc (by kernel_rfl) PdOk.nil)), ?_⟩
          refine w_nil ?_
          show At _ _ _ _ _ _
          refine nT (?_)
          refine Tr.seq ?_
          refine Tr.region ?_
          refine Rg.q (v := .pointer (some ⟨g54, 1, none⟩)) (Pu.qo (p_fabE fa26_1 rfl rfl)) (by decide) ?_
          refine Rg.q (v := .slice a51 ((([] : List (List Row)) ++ r5.2).length) c52) (q_ldb ty24 rfl Has.here rfl) (by decide) ?_
          refine Rg.q (v := .int .i64 ((v1.length : Int).tmod (r5.1.length : Int))) (Pu.qo (p_move rfl)) (by decide) ?_
          obtain ⟨h55, H⟩ := gd.of H
          refine Rg.q (v := elp a51 ((((v1.length : Int).tmod (r5.1.length : Int)).toNat) * Enc.sz (List Row) + 0)) (q_ixR Try.underlying24 ty29 rfl rfl h55 Has.here.there) (by decide) ?_
          refine Rg.en (e_setR (l := (([] : List (List Row)) ++ r5.2)) (α := (List Row)) (oa := a51) (((v1.length : Int).tmod (r5.1.length : Int)).toNat) ([]) (none, 0) ty29 rfl rfl rfl h55.lt (.cons Del.here.there .nil) (Ents.cons Ent.nil0 Ents.nil)) rfl ?_
          rintro _ _ _ ⟨rfl, rfl, rfl⟩
          refine Rg.nl ?_
          refine nT (?_)
          refine Tr.seq ?_
          refine Tr.openD Ent.z fun X56 => ?_
          refine Tr.olenR Has.here fun hn => ?_; rw [hn]
          obtain ⟨h57, H⟩ := gd.of H
          obtain ⟨h58, H⟩ := gd.of H
          refine tNwS [(9, .pointer (some ⟨g54, 0, none⟩)), (8, .int .i64 ((v1.length : Int).tmod (r5.1.length : Int))), (5, .pointer (some ⟨g8, 0, none⟩))] 4 [1, 2, 4, 5, 6, 7, 8, 12, 13, 15, 16, 17, 18, 19, 0, 3, 9, 10, 11, 14, 20, 21, 22, 23, 24] [3, 10, 14, 21, 24] [⟨0, [], fun g => .slice (some ⟨g, 0, none⟩) ([] : List Int).length 0, fun g => tree (.slice (some ⟨g, 0, none⟩) ([] : List Int).length 0) ([] : List Int)⟩, ⟨9, [(105, .int .i64 (nth r5.1 (((v1.length : Int).tmod (r5.1.length : Int)).toNat)))], fun g => .slice (some ⟨g, 0, none⟩) 1 1, fun g => box g 3 [.int .i64 (nth r5.1 (((v1.length : Int).tmod (r5.1.length : Int)).toNat))]⟩, ⟨11, [], fun g => .slice (some ⟨g, 0, none⟩) ([] : List (List Row)).length 0, fun g => row (.slice (some ⟨g, 0, none⟩) ([] : List (List Row)).length 0) ([] : List (List Row))⟩, ⟨20, [(116, .slice ((X56 (((v1.length : Int).tmod (r5.1.length : Int)).toNat)).1) ((nth r5.2 (((v1.length : Int).tmod (r5.1.length : Int)).toNat)).length) ((X56 (((v1.length : Int).tmod (r5.1.length : Int)).toNat)).2.1))], fun g => .slice (some ⟨g, 0, none⟩) 1 1, fun g => box g 29 [.slice ((X56 (((v1.length : Int).tmod (r5.1.length : Int)).toNat)).1) ((nth r5.2 (((v1.length : Int).tmod (r5.1.length : Int)).toNat)).length) ((X56 (((v1.length : Int).tmod (r5.1.length : Int)).toNat)).2.1)]⟩, ⟨23, [], fun g => .pointer (some ⟨g, 0, none⟩), fun g => box g 26 [.slice none 0 0, .slice none 0 0]⟩] Try.mixed (by kernel_rfl) (by decide) (show List.Nodup [0, 9, 11, 20, 23] by decide) ⟨rfl, rfl, rfl, trivial⟩ rfl (okCons (FreeA.Ok.of rfl (by decide) (by kernel_rfl) fun c fs os => g_lit0 Int Try.underlying23 ty3) (okCons (FreeA.Ok.of rfl (by decide) (by kernel_rfl) fun c fs os => e_lit (vs := [(0, .int .i64 (nth r5.1 (((v1.length : Int).tmod (r5.1.length : Int)).toNat)))]) [.int .i64 (nth r5.1 (((v1.length : Int).tmod (r5.1.length : Int)).toNat))] Try.underlying23 ty3 rfl (by decide) (by decide) (by kernel_rfl)) (okCons (FreeA.Ok.of rfl (by decide) (by kernel_rfl) fun c fs os => g_lit0r (List Row) Try.underlying24 ty29) (okCons (FreeA.Ok.of rfl (by decide) (by kernel_rfl) fun c fs os => e_lit (vs := [(0, .slice ((X56 (((v1.length : Int).tmod (r5.1.length : Int)).toNat)).1) ((nth r5.2 (((v1.length : Int).tmod (r5.1.length : Int)).toNat)).length) ((X56 (((v1.length : Int).tmod (r5.1.length : Int)).toNat)).2.1))]) [.slice ((X56 (((v1.length : Int).tmod (r5.1.length : Int)).toNat)).1) ((nth r5.2 (((v1.length : Int).tmod (r5.1.length : Int)).toNat)).length) ((X56 (((v1.length : Int).tmod (r5.1.length : Int)).toNat)).2.1)] Try.underlying24 ty29 rfl (by decide) (by decide) (by kernel_rfl)) (okCons (FreeA.Ok.of rfl (by decide) (by kernel_rfl) fun c fs os => e_alloc ty26) okNil))))) ?_
          refine w_pu (v := .pointer (some ⟨g8, 0, none⟩)) rfl (by decide) rfl rfl rfl (p_fabE fa26_0 rfl rfl) ?_
          refine w_q (v := .slice x7.1.1 r5.1.length x7.1.2) rfl (by decide) rfl rfl rfl (fun F => (q_ldb ty23 rfl (Has.here.there.there.there.app F) rfl)) ?_
          refine w_pu (v := .pointer (some ⟨g8, 0, none⟩)) rfl (by decide) rfl rfl rfl (p_fabE fa26_0 rfl rfl) ?_
          refine w_q (v := .slice x7.1.1 r5.1.length x7.1.2) rfl (by decide) rfl rfl rfl (fun F => (q_ldb ty23 rfl (Has.here.there.there.there.app F) rfl)) ?_
          refine w_pu (v := .int .i64 ((v1.length : Int).tmod (r5.1.length : Int))) rfl (by decide) rfl rfl rfl (p_move rfl) ?_
          refine w_q (v := elp x7.1.1 ((((v1.length : Int).tmod (r5.1.length : Int)).toNat) * Enc.sz Int + 0)) rfl (by decide) rfl rfl rfl (fun F => (q_ixO' Try.underlying23 ty3 rfl rfl h57 (Has.here.there.there.app F))) ?_
          refine w_q (v := .int .i64 (nth r5.1 (((v1.length : Int).tmod (r5.1.length : Int)).toNat))) rfl (by decide) rfl rfl rfl (fun F => (q_lde (l := r5.1) (E := fun i => Flat.enc (nth r5.1 i)) (oa := x7.1.1) (i := ((v1.length : Int).tmod (r5.1.length : Int)).toNat) (j := 0) ty3 rfl (EntB.flat (EntB.tree (Has.here.there.there.app F))) h57.lt rfl)) ?_
          refine w_pu (v := .pointer (some ⟨g8, 1, none⟩)) rfl (by decide) rfl rfl rfl (p_fabE fa26_1 rfl rfl) ?_
          refine w_q (v := .slice x7.2.1 r5.2.length x7.2.2) rfl (by decide) rfl rfl rfl (fun F => (q_ldb ty24 rfl (Has.here.there.there.there.app F) rfl)) ?_
          refine w_pu (v := .pointer (some ⟨g8, 1, none⟩)) rfl (by decide) rfl rfl rfl (p_fabE fa26_1 rfl rfl) ?_
          refine w_q (v := .slice x7.2.1 r5.2.length x7.2.2) rfl (by decide) rfl rfl rfl (fun F => (q_ldb ty24 rfl (Has.here.there.there.there.app F) rfl)) ?_
          refine w_pu (v := .int .i64 ((v1.length : Int).tmod (r5.1.length : Int))) rfl (by decide) rfl rfl rfl (p_move rfl) ?_
          refine w_q (v := elp x7.2.1 ((((v1.length : Int).tmod (r5.1.length : Int)).toNat) * Enc.sz (List Row) + 0)) rfl (by decide) rfl rfl rfl (fun F => (q_ixg (l := r5.2) (E := fun i => Dp.denc (nth r5.2 i) (X56 i)) (oa := x7.2.1) Try.underlying24 ty29 rfl rfl h58 rfl (Ent.b (Ent.darr Ent.z)))) ?_
          refine w_q (v := .slice ((X56 (((v1.length : Int).tmod (r5.1.length : Int)).toNat)).1) ((nth r5.2 (((v1.length : Int).tmod (r5.1.length : Int)).toNat)).length) ((X56 (((v1.length : Int).tmod (r5.1.length : Int)).toNat)).2.1)) rfl (by decide) rfl rfl rfl (fun F => (q_lde (l := r5.2) (E := fun i => Dp.denc (nth r5.2 i) (X56 i)) (oa := x7.2.1) (i := ((v1.length : Int).tmod (r5.1.length : Int)).toNat) (j := 0) ty29 rfl (Ent.b (Ent.darr Ent.z)) h58.lt rfl)) ?_
          refine w_fr (z := ⟨0, [], fun g => .slice (some ⟨g, 0, none⟩) ([] : List Int).length 0, fun g => tree (.slice (some ⟨g, 0, none⟩) ([] : List Int).length 0) ([] : List Int)⟩) (.head _) rfl rfl (by decide) (Rdy.cons (.inl rfl) (Rdy.cons (.inr (.inr ⟨rfl, trivial⟩)) (Rdy.cons (.inr (.inr trivial)) (Rdy.cons (.inr (.inr ⟨rfl, trivial⟩)) (Rdy.cons (.inr (.inr trivial)) Rdy.nil))))) trivial ?_; intro g59
          obtain ⟨h62, H⟩ := gd.of H
          refine w_ed rfl (by decide) rfl (Rdy.cons (.inl rfl) (Rdy.cons (.inr (.inr ⟨rfl, trivial⟩)) (Rdy.cons (.inr (.inr trivial)) (Rdy.cons (.inr (.inr ⟨rfl, trivial⟩)) (Rdy.cons (.inr (.inr trivial)) Rdy.nil))))) rfl (n_appF (l := ([] : List Int)) (k := r5.1) (α := Int) Try.underlying23 ty3 rfl rfl (h62.b (by decide)) h62.x (.cons Del.here .nil) (EntB.tree Has.here.there.there)) ?_
          rintro _ _ _ ⟨a60, c61, rfl, rfl, rfl⟩
          refine ⟨(PdOk.q rfl rfl (fun F => (q_lde (l := r5.2) (E := fun i => Dp.denc (nth r5.2 i) (X56 i)) (oa := x7.2.1) (i := ((v1.length : Int).tmod (r5.1.length : Int)).toNat) (j := 0) ty29 rfl (Ent.b (Ent.darr Ent.z)) h58.lt rfl)) (PdOk.q rfl rfl (fun F => (q_ixg (l := r5.2) (E := fun i => Dp.denc (nth r5.2 i) (X56 i)) (oa := x7.2.1) Try.underlying24 ty29 rfl rfl h58 rfl (Ent.b (Ent.darr Ent.z)))) (PdOk.q rfl rfl (fun F => (q_ldb ty24 rfl (Has.here.there.there.there.there.app F) rfl)) (PdOk.q rfl rfl (fun F => (q_ldb ty24 rfl (Has.here.there.there.there.there.app F) rfl)) (PdOk.q rfl rfl (fun F => (q_lde (l := r5.1) (E := fun i => Flat.enc (nth r5.1 i)) (oa := x7.1.1) (i := ((v1.length : Int).tmod (r5.1.length : Int)).toNat) (j := 0) ty3 rfl (EntB.flat (EntB.tree (Has.here.there.there.there.app F))) h57.lt rfl)) (PdOk.q rfl rfl (fun F => (q_ixO' Try.underlying23 ty3 rfl rfl h57 (Has.here.there.there.there.app F))) (PdOk.q rfl rfl (fun F => (q_ldb ty23 rfl (Has.here.there.there.there.there.app F) rfl)) (PdOk.anc (by kernel_rfl) PdOk.nil)))))))), ?_⟩
          refine w_fr (z := ⟨9, [(105, .int .i64 (nth r5.1 (((v1.length : Int).tmod (r5.1.length : Int)).toNat)))], fun g => .slice (some ⟨g, 0, none⟩) 1 1, fun g => box g 3 [.int .i64 (nth r5.1 (((v1.length : Int).tmod (r5.1.length : Int)).toNat))]⟩) (.tail _ (.head _)) rfl rfl (by decide) (Rdy.cons (.inl rfl) (Rdy.cons (.inl rfl) (Rdy.cons (.inr (.inr trivial)) (Rdy.cons (.inr (.inr ⟨rfl, trivial⟩)) (Rdy.cons (.inr (.inr trivial)) Rdy.nil))))) ⟨rfl, trivial⟩ ?_; intro g63
          obtain ⟨h66, H⟩ := gd.of H
          refine w_ed rfl (by decide) rfl (Rdy.cons (.inl rfl) (Rdy.cons (.inl rfl) (Rdy.cons (.inr (.inr trivial)) (Rdy.cons (.inr (.inr ⟨rfl, trivial⟩)) (Rdy.cons (.inr (.inr trivial)) Rdy.nil))))) rfl (n_app1 (l := (([] : List Int) ++ r5.1)) (α := Int) (nth r5.1 (((v1.length : Int).tmod (r5.1.length : Int)).toNat)) () Try.underlying23 ty3 rfl rfl (h66.b (by decide)) h66.x rfl (ShpT.wfa _) (.cons Del.here.there (.cons Del.here .nil))) ?_
          rintro _ _ _ ⟨a64, c65, rfl, rfl, rfl⟩
          refine ⟨(PdOk.q rfl rfl (fun F => (q_lde (l := r5.2) (E := fun i => Dp.denc (nth r5.2 i) (X56 i)) (oa := x7.2.1) (i := ((v1.length : Int).tmod (r5.1.length : Int)).toNat) (j := 0) ty29 rfl (Ent.b (Ent.darr Ent.z)) h58.lt rfl)) (PdOk.q rfl rfl (fun F => (q_ixg (l := r5.2) (E := fun i => Dp.denc (nth r5.2 i) (X56 i)) (oa := x7.2.1) Try.underlying24 ty29 rfl rfl h58 rfl (Ent.b (Ent.darr Ent.z)))) (PdOk.q rfl rfl (fun F => (q_ldb ty24 rfl (Has.here.there.there.there.there.app F) rfl)) (PdOk.q rfl rfl (fun F => (q_ldb ty24 rfl (Has.here.there.there.there.there.app F) rfl)) (PdOk.anc (by kernel_rfl) (PdOk.anc (by kernel_rfl) (PdOk.anc (by kernel_rfl) (PdOk.anc (by kernel_rfl) PdOk.nil)))))))), ?_⟩
          refine w_fr (z := ⟨11, [], fun g => .slice (some ⟨g, 0, none⟩) ([] : List (List Row)).length 0, fun g => row (.slice (some ⟨g, 0, none⟩) ([] : List (List Row)).length 0) ([] : List (List Row))⟩) (.tail _ (.tail _ (.head _))) rfl rfl (by decide) (Rdy.cons (.inl rfl) (Rdy.cons (.inl rfl) (Rdy.cons (.inl rfl) (Rdy.cons (.inr (.inr ⟨rfl, trivial⟩)) (Rdy.cons (.inr (.inr trivial)) Rdy.nil))))) trivial ?_; intro g67
          refine w_ed rfl (by decide) rfl (Rdy.cons (.inl rfl) (Rdy.cons (.inl rfl) (Rdy.cons (.inl rfl) (Rdy.cons (.inr (.inr ⟨rfl, trivial⟩)) (Rdy.cons (.inr (.inr trivial)) Rdy.nil))))) rfl (n_appR (l := ([] : List (List Row))) (k := r5.2) (α := (List Row)) Try.underlying24 ty29 rfl rfl (h53.b (by decide)) h53.x (.cons Del.here .nil) (Ent.dimm Ent.z)) ?_
          rintro _ _ _ ⟨a68, c69, rfl, rfl, rfl⟩
          refine ⟨(PdOk.q rfl rfl (fun F => (q_lde (l := r5.2) (E := fun i => Dp.denc (nth r5.2 i) (X56 i)) (oa := x7.2.1) (i := ((v1.length : Int).tmod (r5.1.length : Int)).toNat) (j := 0) ty29 rfl (Ent.b (Ent.darr Ent.z)) h58.lt rfl)) (PdOk.q rfl rfl (fun F => (q_ixg (l := r5.2) (E := fun i => Dp.denc (nth r5.2 i) (X56 i)) (oa := x7.2.1) Try.underlying24 ty29 rfl rfl h58 rfl (Ent.b (Ent.darr Ent.z)))) (PdOk.q rfl rfl (fun F => (q_ldb ty24 rfl (Has.here.there.there.there.there.there.app F) rfl)) (PdOk.anc (by kernel_rfl) (PdOk.anc (by kernel_rfl) (PdOk.anc (by kernel_rfl) (PdOk.q rfl rfl (fun F => (q_ldb ty23 rfl (Has.here.there.there.there.there.there.app F) rfl)) (PdOk.anc (by kernel_rfl) PdOk.nil)))))))), ?_⟩
          refine w_fr (z := ⟨20, [(116, .slice ((X56 (((v1.length : Int).tmod (r5.1.length : Int)).toNat)).1) ((nth r5.2 (((v1.length : Int).tmod (r5.1.length : Int)).toNat)).length) ((X56 (((v1.length : Int).tmod (r5.1.length : Int)).toNat)).2.1))], fun g => .slice (some ⟨g, 0, none⟩) 1 1, fun g => box g 29 [.slice ((X56 (((v1.length : Int).tmod (r5.1.length : Int)).toNat)).1) ((nth r5.2 (((v1.length : Int).tmod (r5.1.length : Int)).toNat)).length) ((X56 (((v1.length : Int).tmod (r5.1.length : Int)).toNat)).2.1)]⟩) (.tail _ (.tail _ (.tail _ (.head _)))) rfl rfl (by decide) (Rdy.cons (.inl rfl) (Rdy.cons (.inl rfl) (Rdy.cons (.inl rfl) (Rdy.cons (.inl rfl) (Rdy.cons (.inr (.inr trivial)) Rdy.nil))))) ⟨rfl, trivial⟩ ?_; intro g70
          obtain ⟨h73, H⟩ := gd.of H
          refine w_ed rfl (by decide) rfl (Rdy.cons (.inl rfl) (Rdy.cons (.inl rfl) (Rdy.cons (.inl rfl) (Rdy.cons (.inl rfl) (Rdy.cons (.inr (.inr trivial)) Rdy.nil))))) rfl (n_app1R (l := (([] : List (List Row)) ++ r5.2)) (α := (List Row)) (nth r5.2 (((v1.length : Int).tmod (r5.1.length : Int)).toNat)) ((X56 (((v1.length : Int).tmod (r5.1.length : Int)).toNat)).1, (X56 (((v1.length : Int).tmod (r5.1.length : Int)).toNat)).2.1) Try.underlying24 ty29 rfl rfl (h73.b (by decide)) h73.x rfl (.cons Del.here.there (.cons Del.here .nil)) (Ents.cons (Ent.dimm (Ent.del Ent.z h58.lt)) Ents.nil)) ?_
          rintro _ _ _ ⟨a71, c72, rfl, rfl, rfl⟩
          refine ⟨(PdOk.anc (by kernel_rfl) (PdOk.anc (by kernel_rfl) (PdOk.anc (by kernel_rfl) (PdOk.anc (by kernel_rfl) (PdOk.anc (by kernel_rfl) (PdOk.q rfl rfl (fun F => (q_ixO' Try.underlying23 ty3 rfl rfl h57 (Has.here.there.there.there.there.app F))) (PdOk.q rfl rfl (fun F => (q_ldb ty23 rfl (Has.here.there.there.there.there.there.app F) rfl)) (PdOk.anc (by kernel_rfl) PdOk.nil)))))))), ?_⟩
          refine w_pu (v := .agg #[.slice a64 (((([] : List Int) ++ r5.1) ++ [nth r5.1 (((v1.length : Int).tmod (r5.1.length : Int)).toNat)]).length) c65, .slice a71 (((([] : List (List Row)) ++ r5.2) ++ [nth r5.2 (((v1.length : Int).tmod (r5.1.length : Int)).toNat)]).length) c72]) rfl (by decide) rfl rfl rfl (p_buildS (vs := [(0, .slice a64 (((([] : List Int) ++ r5.1) ++ [nth r5.1 (((v1.length : Int).tmod (r5.1.length : Int)).toNat)]).length) c65), (1, .slice a71 (((([] : List (List Row)) ++ r5.2) ++ [nth r5.2 (((v1.length : Int).tmod (r5.1.length : Int)).toNat)]).length) c72)]) (cs := #[.slice a64 (((([] : List Int) ++ r5.1) ++ [nth r5.1 (((v1.length : Int).tmod (r5.1.length : Int)).toNat)]).length) c65, .slice a71 (((([] : List (List Row)) ++ r5.2) ++ [nth r5.2 (((v1.length : Int).tmod (r5.1.length : Int)).toNat)]).length) c72]) ty26 pl26 rfl rfl) ?_
          refine w_fr (z := ⟨23, [], fun g => .pointer (some ⟨g, 0, none⟩), fun g => box g 26 [.slice none 0 0, .slice none 0 0]⟩) (.tail _ (.tail _ (.tail _ (.tail _ (.head _))))) rfl rfl (by decide) (Rdy.cons (.inl rfl) (Rdy.cons (.inl rfl) (Rdy.cons (.inl rfl) (Rdy.cons (.inl rfl) (Rdy.cons (.inl rfl) Rdy.nil))))) trivial ?_; intro g74
          refine w_en rfl rfl (Rdy.cons (.inl rfl) (Rdy.cons (.inl rfl) (Rdy.cons (.inl rfl) (Rdy.cons (.inl rfl) (Rdy.cons (.inl rfl) Rdy.nil))))) rfl (n_store (v := .agg #[.slice a64 (((([] : List Int) ++ r5.1) ++ [nth r5.1 (((v1.length : Int).tmod (r5.1.length : Int)).toNat)]).length) c65, .slice a71 (((([] : List (List Row)) ++ r5.2) ++ [nth r5.2 (((v1.length : Int).tmod (r5.1.length : Int)).toNat)]).length) c72]) (cs' := [.slice a64 (((([] : List Int) ++ r5.1) ++ [nth r5.1 (((v1.length : Int).tmod (r5.1.length : Int)).toNat)]).length) c65, .slice a71 (((([] : List (List Row)) ++ r5.2) ++ [nth r5.2 (((v1.length : Int).tmod (r5.1.length : Int)).toNat)]).length) c72]) ty26 rfl rfl Upd.here rfl (by simp [Value.cells, Value.oneCell']) (Nat.le_of_ble_eq_true rfl) rfl) ?_
          rintro _ _ _ ⟨rfl, rfl, rfl⟩
          refine ⟨(PdOk.anc (by kernel_rfl) (PdOk.anc (by kernel_rfl) (PdOk.anc (by kernel_rfl) (PdOk.anc (by kernel_rfl) (PdOk.anc (by kernel_rfl) (PdOk.anc (by kernel_rfl) (PdOk.anc (by kernel_rfl) (PdOk.anc (by kernel_rfl) PdOk.nil)))))))), ?_⟩
          refine w_nil ?_
          show At _ _ _ _ _ _
          refine nT (?_)
          obtain ⟨b75, j76, H⟩ := bd.of H
          refine tMid1 [(4, .bool (b75))] ?_ ?_
          · refine tLinS [(10, .pointer (some ⟨g74, 0, none⟩)), (9, .pointer (some ⟨g54, 0, none⟩)), (5, .pointer (some ⟨g8, 0, none⟩))] Try.mixed (.inl rfl) ⟨rfl, rfl, rfl, trivial⟩ rfl ?_
            refine Lin.q (v := .agg #[.slice x7.1.1 r5.1.length x7.1.2, .slice a51 (((([] : List (List Row)) ++ r5.2).set (((v1.length : Int).tmod (r5.1.length : Int)).toNat) ([])).length) c52]) (by decide) (q_ldbA ty26 rfl Has.here.there.there.there.there rfl) ?_
            obtain ⟨r77, h78, j76⟩ := bd.of j76
            refine Lin.q (v := .bool (r77)) (by decide) (q_call (vs := [.agg #[.slice x7.1.1 r5.1.length x7.1.2, .slice a51 (((([] : List (List Row)) ++ r5.2).set (((v1.length : Int).tmod (r5.1.length : Int)).toNat) ([])).length) c52]]) (c_impl_PartOk (r5.1, ((([] : List (List Row)) ++ r5.2).set (((v1.length : Int).tmod (r5.1.length : Int)).toNat) ([]))) (x7.1, (a51, c52)) h78) rfl (EntsB.cons (EntB.tree Has.here.there.there.there.there.there) (EntsB.cons (EntB.row Has.here.there.there.there) EntsB.nil))) ?_
            refine Lin.q (v := .bool (!r77)) (by decide) (Pu.qo (p_not rfl)) ?_
            rcases Bool.eq_false_or_eq_true (!r77) with h79 | h79
            · have j76 := cdT h79 j76
              refine Lin.q (v := .bool (true)) (by decide) (Qo.eqv (v := .bool (!r77)) (Pu.qo (p_move rfl)) (congrArg Value.bool h79)) ?_
              refine Lin.g (v := .agg #[.slice a64 (((([] : List Int) ++ r5.1) ++ [nth r5.1 (((v1.length : Int).tmod (r5.1.length : Int)).toNat)]).length) c65, .slice a71 (((([] : List (List Row)) ++ r5.2) ++ [nth r5.2 (((v1.length : Int).tmod (r5.1.length : Int)).toNat)]).length) c72]) (by decide) rfl (q_ldbA ty26 rfl Has.here rfl) ?_
              obtain ⟨r80, h81, j76⟩ := bd.of j76
              refine Lin.g (v := .bool (r80)) (by decide) rfl (q_call (vs := [.agg #[.slice a64 (((([] : List Int) ++ r5.1) ++ [nth r5.1 (((v1.length : Int).tmod (r5.1.length : Int)).toNat)]).length) c65, .slice a71 (((([] : List (List Row)) ++ r5.2) ++ [nth r5.2 (((v1.length : Int).tmod (r5.1.length : Int)).toNat)]).length) c72]]) (c_impl_PartOk (((([] : List Int) ++ r5.1) ++ [nth r5.1 (((v1.length : Int).tmod (r5.1.length : Int)).toNat)]), ((([] : List (List Row)) ++ r5.2) ++ [nth r5.2 (((v1.length : Int).tmod (r5.1.length : Int)).toNat)])) ((a64, c65), (a71, c72)) h81) rfl (EntsB.cons (EntB.tree Has.here.there.there) (EntsB.cons (EntB.row Has.here.there) EntsB.nil))) ?_
              refine Lin.g (v := .bool (!r80)) (by decide) rfl (Pu.qo (p_not rfl)) ?_
              refine Lin.q (v := .bool (!r80)) (by decide) (Pu.qo (p_pickT rfl rfl)) ?_
              rcases Bool.eq_false_or_eq_true (!r80) with h82 | h82
              · have j76 := cdT h82 j76
                refine Lin.q (v := .bool (true)) (by decide) (Qo.eqv (v := .bool (!r80)) (Pu.qo (p_move rfl)) (congrArg Value.bool h82)) ?_
                refine Lin.g (v := .pointer (some ⟨g8, 0, none⟩)) (by decide) rfl (Pu.qo (p_fabE fa26_0 rfl rfl)) ?_
                refine Lin.g (v := .slice x7.1.1 r5.1.length x7.1.2) (by decide) rfl (q_ldb ty23 rfl Has.here.there.there.there.there.there.there rfl) ?_
                refine Lin.g (v := .agg #[.slice x7.1.1 r5.1.length x7.1.2, .slice none 0 0]) (by decide) rfl (Pu.qo (p_buildS (vs := [(0, .slice x7.1.1 r5.1.length x7.1.2)]) (cs := #[.slice x7.1.1 r5.1.length x7.1.2, .slice none 0 0]) ty26 pl26 rfl rfl)) ?_
                obtain ⟨r83, h84, j76⟩ := bd.of j76
                refine Lin.g (v := .bool (r83)) (by decide) rfl (q_call (vs := [.agg #[.slice x7.1.1 r5.1.length x7.1.2, .slice none 0 0]]) (c_impl_PartOk (r5.1, ([])) (x7.1, (none, 0)) h84) rfl (EntsB.cons (EntB.tree Has.here.there.there.there.there.there) (EntsB.cons (Ent.b Ent.nil0) EntsB.nil))) ?_
                refine Lin.g (v := .bool (!r83)) (by decide) rfl (Pu.qo (p_not rfl)) ?_
                refine Lin.q (v := .bool (!r83)) (by decide) (Pu.qo (p_pickT rfl rfl)) ?_
                refine Lin.q (v := .bool (!r83)) (by decide) (Pu.qo (p_assign rfl)) ?_
                have j76 := Option.some.inj j76; subst j76
                show At _ _ _ _ _ _
                exact n1 ⟨rfl, trivial⟩
              · have j76 := cdF h82 j76
                refine Lin.q (v := .bool (false)) (by decide) (Qo.eqv (v := .bool (!r80)) (Pu.qo (p_move rfl)) (congrArg Value.bool h82)) ?_
                refine Lin.skip (by decide) rfl ?_
                refine Lin.skip (by decide) rfl ?_
                refine Lin.skip (by decide) rfl ?_
                refine Lin.skip (by decide) rfl ?_
                refine Lin.skip (by decide) rfl ?_
                refine Lin.q (v := .bool (false)) (by decide) (Pu.qo (p_pickF rfl rfl)) ?_
                refine Lin.q (v := .bool (false)) (by decide) (Pu.qo (p_assign rfl)) ?_
                have j76 := Option.some.inj j76; subst j76
                show At _ _ _ _ _ _
                exact n1 ⟨rfl, trivial⟩
            · have j76 := cdF h79 j76
              refine Lin.q (v := .bool (false)) (by decide) (Qo.eqv (v := .bool (!r77)) (Pu.qo (p_move rfl)) (congrArg Value.bool h79)) ?_
              refine Lin.skip (by decide) rfl ?_
              refine Lin.skip (by decide) rfl ?_
              refine Lin.skip (by decide) rfl ?_
              refine Lin.q (v := .bool (false)) (by decide) (Pu.qo (p_pickF rfl rfl)) ?_
              refine Lin.q (v := .bool (false)) (by decide) (Pu.qo (p_move rfl)) ?_
              refine Lin.skip (by decide) rfl ?_
              refine Lin.skip (by decide) rfl ?_
              refine Lin.skip (by decide) rfl ?_
              refine Lin.skip (by decide) rfl ?_
              refine Lin.skip (by decide) rfl ?_
              refine Lin.q (v := .bool (false)) (by decide) (Pu.qo (p_pickF rfl rfl)) ?_
              refine Lin.q (v := .bool (false)) (by decide) (Pu.qo (p_assign rfl)) ?_
              have j76 := Option.some.inj j76; subst j76
              show At _ _ _ _ _ _
              exact n1 ⟨rfl, trivial⟩
          refine tRet ?_
          have hr := Option.some.inj H; subst hr
          exact back1 () rfl (ResV.tmp (v := .bool (b75)) rfl) rfl Ents.nil Take.nil

end Go.Proofs.Ytfcdncblogldnaa
