/- The walks and the plain laws, part 2: each function that the law reaches computes what its plain function tells, and what the plain functions answer. Conditions: lengths that memory can hold. -/
import Derived.Test.YtephlhldhdopaaaA1
namespace Go.Proofs.Ytephlhldhdopaaa
open Go Go.Sx
theorem c_laws_szIntS {r : Int} (v0 : (List Int)) (x_v0 : Option Addr × Nat) (v1 : Int) (H : p_laws_szIntS v0 v1 = some r) : Fn' Try.prog 38 #[.slice x_v0.1 v0.length x_v0.2, .int .i64 (v1)] [imm (.slice x_v0.1 v0.length x_v0.2) v0] [] (ι := Unit) (fun x => .int .i64 (r)) (fun _ => []) (fun x => []) := by
  refine calls_of (args := [_, _]) Try.func38 rfl (by kernel_rfl) Try.ntmps38 (by simp) fun c => ?_
  unfold p_laws_szIntS at H
  refine Tr.seq ?_
  refine Tr.region ?_
  refine Rg.q (v := .int .i64 (0)) (Pu.qo (p_assign rfl)) (by decide) ?_
  refine Rg.nl ?_
  refine nT (?_)
  refine Tr.seq ?_
  refine Tr.region ?_
  refine Rg.q (v := .int .i64 (v1)) (Pu.qo (p_move rfl)) (by decide) ?_
  refine Rg.q (v := .slice x_v0.1 v0.length x_v0.2) (Pu.qo (p_move rfl)) (by decide) ?_
  refine Rg.q (v := .int .i64 ((v0.length : Int))) (Pu.qo (p_len 3 Try.underlying23 rfl)) (by decide) ?_
  obtain ⟨h1, H⟩ := gd.of H
  refine Rg.q (v := .int .i64 (v1 - (v0.length : Int))) (Pu.qo (p_sub rfl rfl h1)) (by decide) ?_
  refine Rg.q (v := .int .i64 (v1 - (v0.length : Int))) (Pu.qo (p_assign rfl)) (by decide) ?_
  refine Rg.nl ?_
  refine nT (?_)
  refine Tr.seq ?_
  refine Tr.seq ?_
  refine Tr.region ?_
  refine Rg.q (v := .int .i64 (v1 - (v0.length : Int))) (Pu.qo (p_move rfl)) (by decide) ?_
  refine Rg.q (v := .bool (decide ((v1 - (v0.length : Int)) < 0))) (Pu.qo (p_lss rfl rfl)) (by decide) ?_
  refine Rg.nl ?_
  refine nT (?_)
  refine Tr.cond (b := decide ((v1 - (v0.length : Int)) < 0)) rfl (fun h2 => ?_) (fun h2 => ?_)
  · have H := cdT h2 H
    refine Tr.seq ?_
    refine Tr.region ?_
    refine Rg.q (v := .int .i64 (-1)) (Pu.qo (p_assign rfl)) (by decide) ?_
    refine Rg.nl ?_
    refine nT (?_)
    refine tRet ?_
    refine rT (?_)
    have hr := Option.some.inj H; subst hr
    exact back1 () rfl (ResV.tmp (v := .int .i64 (-1)) rfl) rfl Ents.nil Take.nil
  · have H := cdF h2 H
    refine tSkip ?_
    refine nT (?_)
    refine Tr.seq ?_
    refine Tr.region ?_
    refine Rg.q (v := .int .i64 (v1 - (v0.length : Int))) (Pu.qo (p_move rfl)) (by decide) ?_
    refine Rg.q (v := .int .i64 (v1 - (v0.length : Int))) (Pu.qo (p_assign rfl)) (by decide) ?_
    refine Rg.nl ?_
    refine nT (?_)
    refine tRet ?_
    have hr := Option.some.inj H; subst hr
    exact back1 () rfl (ResV.tmp (v := .int .i64 (v1 - (v0.length : Int))) rfl) rfl Ents.nil Take.nil
def p_laws_szRowS (v0 : (List Row)) (v1 : Int) : Option (Int) := gd (I64 (v1 - (v0.length : Int))) <| cond (decide ((v1 - (v0.length : Int)) < 0)) (some (-1)) (some (v1 - (v0.length : Int)))
theorem c_laws_szRowS {r : Int} (v0 : (List Row)) (x_v0 : Option Addr × Nat) (v1 : Int) (H : p_laws_szRowS v0 v1 = some r) : Fn' Try.prog 56 #[.slice x_v0.1 v0.length x_v0.2, .int .i64 (v1)] [imm (.slice x_v0.1 v0.length x_v0.2) v0] [] (ι := Unit) (fun x => .int .i64 (r)) (fun _ => []) (fun x => []) := by
  refine calls_of (args := [_, _]) Try.func56 rfl (by kernel_rfl) Try.ntmps56 (by simp) fun c => ?_
  unfold p_laws_szRowS at H
  refine Tr.seq ?_
  refine Tr.region ?_
  refine Rg.q (v := .int .i64 (0)) (Pu.qo (p_assign rfl)) (by decide) ?_
  refine Rg.nl ?_
  refine nT (?_)
  refine Tr.seq ?_
  refine Tr.region ?_
  refine Rg.q (v := .int .i64 (v1)) (Pu.qo (p_move rfl)) (by decide) ?_
  refine Rg.q (v := .slice x_v0.1 v0.length x_v0.2) (Pu.qo (p_move rfl)) (by decide) ?_
  refine Rg.q (v := .int .i64 ((v0.length : Int))) (Pu.qo (p_len 83 Try.underlying77 rfl)) (by decide) ?_
  obtain ⟨h1, H⟩ := gd.of H
  refine Rg.q (v := .int .i64 (v1 - (v0.length : Int))) (Pu.qo (p_sub rfl rfl h1)) (by decide) ?_
  refine Rg.q (v := .int .i64 (v1 - (v0.length : Int))) (Pu.qo (p_assign rfl)) (by decide) ?_
  refine Rg.nl ?_
  refine nT (?_)
  refine Tr.seq ?_
  refine Tr.seq ?_
  refine Tr.region ?_
  refine Rg.q (v := .int .i64 (v1 - (v0.length : Int))) (Pu.qo (p_move rfl)) (by decide) ?_
  refine Rg.q (v := .bool (decide ((v1 - (v0.length : Int)) < 0))) (Pu.qo (p_lss rfl rfl)) (by decide) ?_
  refine Rg.nl ?_
  refine nT (?_)
  refine Tr.cond (b := decide ((v1 - (v0.length : Int)) < 0)) rfl (fun h2 => ?_) (fun h2 => ?_)
  · have H := cdT h2 H
    refine Tr.seq ?_
    refine Tr.region ?_
    refine Rg.q (v := .int .i64 (-1)) (Pu.qo (p_assign rfl)) (by decide) ?_
    refine Rg.nl ?_
    refine nT (?_)
    refine tRet ?_
    refine rT (?_)
    have hr := Option.some.inj H; subst hr
    exact back1 () rfl (ResV.tmp (v := .int .i64 (-1)) rfl) rfl Ents.nil Take.nil
  · have H := cdF h2 H
    refine tSkip ?_
    refine nT (?_)
    refine Tr.seq ?_
    refine Tr.region ?_
    refine Rg.q (v := .int .i64 (v1 - (v0.length : Int))) (Pu.qo (p_move rfl)) (by decide) ?_
    refine Rg.q (v := .int .i64 (v1 - (v0.length : Int))) (Pu.qo (p_assign rfl)) (by decide) ?_
    refine Rg.nl ?_
    refine nT (?_)
    refine tRet ?_
    have hr := Option.some.inj H; subst hr
    exact back1 () rfl (ResV.tmp (v := .int .i64 (v1 - (v0.length : Int))) rfl) rfl Ents.nil Take.nil
noncomputable def p_laws_szRowSS_b0 (v0 : (List (List Row))) (σ8 : Int × Int) : Option ((Int × Int) ⊕ (Int ⊕ Int)) := cond (decide (σ8.2 < (v0.length : Int))) (gd (ix σ8.2 v0.length) <| bd (p_laws_szRowS (nth v0 σ8.2.toNat) σ8.1) fun r18 => cond (decide (r18 < 0)) (some (.inr (.inr (-1)))) (gd (I64 (σ8.2 + 1)) <| some (.inl (r18, σ8.2 + 1)))) (some (.inr (.inl σ8.1)))
noncomputable def p_laws_szRowSS (v0 : (List (List Row))) (v1 : Int) : Option (Int) := gd (I64 (v1 - (v0.length : Int))) <| cond (decide ((v1 - (v0.length : Int)) < 0)) (some (-1)) (bd (lp (p_laws_szRowSS_b0 v0) (v1 - (v0.length : Int), 0)) <| sw (fun e22 => some e22) (fun q => some q))
theorem c_laws_szRowSS {r : Int} (v0 : (List (List Row))) (x_v0 : Option Addr × Nat) (v1 : Int) (H : p_laws_szRowSS v0 v1 = some r) : Fn' Try.prog 39 #[.slice x_v0.1 v0.length x_v0.2, .int .i64 (v1)] [imm (.slice x_v0.1 v0.length x_v0.2) v0] [] (ι := Unit) (fun x => .int .i64 (r)) (fun _ => []) (fun x => []) := by
  refine calls_of (args := [_, _]) Try.func39 rfl (by kernel_rfl) Try.ntmps39 (by simp) fun c => ?_
  unfold p_laws_szRowSS at H
  refine Tr.openD Ent.z fun X1 => ?_
  refine Tr.seq ?_
  refine Tr.region ?_
  refine Rg.q (v := .int .i64 (0)) (Pu.qo (p_assign rfl)) (by decide) ?_
  refine Rg.nl ?_
  refine nT (?_)
  refine Tr.seq ?_
  refine Tr.region ?_
  refine Rg.q (v := .int .i64 (v1)) (Pu.qo (p_move rfl)) (by decide) ?_
  refine Rg.q (v := .slice x_v0.1 v0.length x_v0.2) (Pu.qo (p_move rfl)) (by decide) ?_
  refine Rg.q (v := .int .i64 ((v0.length : Int))) (Pu.qo (p_len 77 Try.underlying47 rfl)) (by decide) ?_
  obtain ⟨h2, H⟩ := gd.of H
  refine Rg.q (v := .int .i64 (v1 - (v0.length : Int))) (Pu.qo (p_sub rfl rfl h2)) (by decide) ?_
  refine Rg.q (v := .int .i64 (v1 - (v0.length : Int))) (Pu.qo (p_assign rfl)) (by decide) ?_
  refine Rg.nl ?_
  refine nT (?_)
  refine Tr.seq ?_
  refine Tr.seq ?_
  refine Tr.region ?_
  refine Rg.q (v := .int .i64 (v1 - (v0.length : Int))) (Pu.qo (p_move rfl)) (by decide) ?_
  refine Rg.q (v := .bool (decide ((v1 - (v0.length : Int)) < 0))) (Pu.qo (p_lss rfl rfl)) (by decide) ?_
  refine Rg.nl ?_
  refine nT (?_)
  refine Tr.cond (b := decide ((v1 - (v0.length : Int)) < 0)) rfl (fun h3 => ?_) (fun h3 => ?_)
  · have H := cdT h3 H
    refine Tr.seq ?_
    refine Tr.region ?_
    refine Rg.q (v := .int .i64 (-1)) (Pu.qo (p_assign rfl)) (by decide) ?_
    refine Rg.nl ?_
    refine nT (?_)
    refine tRet ?_
    refine rT (?_)
    have hr := Option.some.inj H; subst hr
    exact back1 () rfl (ResV.tmp (v := .int .i64 (-1)) rfl) rfl Ents.nil Take.nil
  · have H := cdF h3 H
    refine tSkip ?_
    refine nT (?_)
    refine Tr.seq ?_
    refine Tr.seq ?_
    refine Tr.region ?_
    refine Rg.q (v := .int .i64 (0)) (Pu.qo (p_assign rfl)) (by decide) ?_
    refine Rg.nl ?_
    refine nT (?_)
    obtain ⟨x4, hx5, H⟩ := bd.of H
    obtain ⟨n6, hx5⟩ := lp.of hx5
    refine tMidNC (ι := { q : (Int) × Unit // x4 = .inl q.1 }) (fun ψ => [(1, .int .i64 (ψ.1.1))]) (fun ψ => []) ?_ ?_
    · refine Tr.block ?_
      refine tLoopC (ι := { q : Nat × (Int × Int) × Unit // itr (p_laws_szRowSS_b0 v0) q.1 q.2.1 = some x4 }) (fun ζ => [(0, .slice x_v0.1 v0.length x_v0.2), (1, .int .i64 (ζ.1.2.1.1)), (5, .int .i64 (ζ.1.2.1.2))]) (fun ζ => []) (fun ζ => ζ.1.1) ⟨(n6, (v1 - (v0.length : Int), 0), ()), hx5⟩ ⟨rfl, rfl, rfl, trivial⟩ Take.nil ?_
      rintro ⟨⟨m7, σ8, z9⟩, hk14⟩
      obtain ⟨m15, t11, e, H1, hi12, hb13⟩ := itr.of (n := m7) (s := σ8) hk14
      subst e; unfold p_laws_szRowSS_b0 at H1
      show Tr _ _ _ _ _ [(0, .slice x_v0.1 v0.length x_v0.2), (1, .int .i64 (σ8.1)), (5, .int .i64 (σ8.2))] _ []
      refine Tr.seq ?_
      refine Tr.seq ?_
      refine Tr.region ?_
      refine Rg.q (v := .int .i64 (σ8.2)) (Pu.qo (p_move rfl)) (by decide) ?_
      refine Rg.q (v := .slice x_v0.1 v0.length x_v0.2) (Pu.qo (p_move rfl)) (by decide) ?_
      refine Rg.q (v := .int .i64 ((v0.length : Int))) (Pu.qo (p_len 77 Try.underlying47 rfl)) (by decide) ?_
      refine Rg.q (v := .bool (decide (σ8.2 < (v0.length : Int)))) (Pu.qo (p_lss rfl rfl)) (by decide) ?_
      refine Rg.nl ?_
      refine nT (?_)
      refine Tr.cond (b := decide (σ8.2 < (v0.length : Int))) rfl (fun h16 => ?_) (fun h16 => ?_)
      · have H1 := cdT h16 H1
        refine tSkip ?_
        refine nT (?_)
        refine Tr.seq ?_
        refine Tr.block ?_
        refine Tr.seq ?_
        refine Tr.region ?_
        refine Rg.q (v := .slice x_v0.1 v0.length x_v0.2) (Pu.qo (p_move rfl)) (by decide) ?_
        refine Rg.q (v := .int .i64 (σ8.2)) (Pu.qo (p_move rfl)) (by decide) ?_
        obtain ⟨h17, H1⟩ := gd.of H1
        refine Rg.q (v := elp x_v0.1 (σ8.2.toNat * Enc.sz (List Row) + 0)) (q_ixg (l := v0) (E := fun i => Dp.denc (nth v0 i) (X1 i)) (oa := x_v0.1) Try.underlying47 ty77 rfl rfl h17 rfl (Ent.b (Ent.darr Ent.z))) (by decide) ?_
        refine Rg.q (v := .slice ((X1 σ8.2.toNat).1) ((nth v0 σ8.2.toNat).length) ((X1 σ8.2.toNat).2.1)) (q_lde (l := v0) (E := fun i => Dp.denc (nth v0 i) (X1 i)) (oa := x_v0.1) (i := σ8.2.toNat) (j := 0) ty77 rfl (Ent.b (Ent.darr Ent.z)) h17.lt rfl) (by decide) ?_
        refine Rg.q (v := .int .i64 (σ8.1)) (Pu.qo (p_move rfl)) (by decide) ?_
        obtain ⟨r18, h19, H1⟩ := bd.of H1
        refine Rg.q (v := .int .i64 (r18)) (q_call (vs := [.slice ((X1 σ8.2.toNat).1) ((nth v0 σ8.2.toNat).length) ((X1 σ8.2.toNat).2.1), .int .i64 (σ8.1)]) (c_laws_szRowS (nth v0 σ8.2.toNat) ((X1 σ8.2.toNat).1, (X1 σ8.2.toNat).2.1) σ8.1 h19) rfl (EntsB.cons (Ent.b (Ent.dimm (Ent.del Ent.z h17.lt))) EntsB.nil)) (by decide) ?_
        refine Rg.q (v := .int .i64 (r18)) (Pu.qo (p_assign rfl)) (by decide) ?_
        refine Rg.nl ?_
        refine nT (?_)
        refine Tr.seq ?_
        refine Tr.region ?_
        refine Rg.q (v := .int .i64 (r18)) (Pu.qo (p_move rfl)) (by decide) ?_
        refine Rg.q (v := .bool (decide (r18 < 0))) (Pu.qo (p_lss rfl rfl)) (by decide) ?_
        refine Rg.nl ?_
        refine nT (?_)
        refine Tr.cond (b := decide (r18 < 0)) rfl (fun h20 => ?_) (fun h20 => ?_)
        · have H1 := cdT h20 H1
          refine Tr.seq ?_
          refine Tr.region ?_
          refine Rg.q (v := .int .i64 (-1)) (Pu.qo (p_assign rfl)) (by decide) ?_
          refine Rg.nl ?_
          refine nT (?_)
          refine tRet ?_
          refine rB (rT (rT (rB (rT (rT (?_))))))
          have hx := hb13 _ (Option.some.inj H1).symm; subst hx
          replace H := sw.r H
          have hr := Option.some.inj H; subst hr
          exact back1 () rfl (ResV.tmp (v := .int .i64 (-1)) rfl) rfl Ents.nil Take.nil
        · have H1 := cdF h20 H1
          refine tSkip ?_
          refine nB (nT (?_))
          refine Tr.region ?_
          refine Rg.q (v := .int .i64 (σ8.2)) (Pu.qo (p_move rfl)) (by decide) ?_
          obtain ⟨h21, H1⟩ := gd.of H1
          refine Rg.q (v := .int .i64 (σ8.2 + 1)) (Pu.qo (p_add rfl rfl h21)) (by decide) ?_
          refine Rg.q (v := .int .i64 (σ8.2 + 1)) (Pu.qo (p_assign rfl)) (by decide) ?_
          refine Rg.nl ?_
          exact nLC ⟨(m15, (r18, σ8.2 + 1), ()), hi12 _ (Option.some.inj H1).symm⟩ (Nat.lt_succ_self _) ⟨rfl, rfl, rfl, trivial⟩ Ents.refl Take.nil
      · have H1 := cdF h16 H1
        refine tExit (xT (xT (xE (?_))))
        exact nMC ⟨(σ8.1, ()), (hb13 _ (Option.some.inj H1).symm).symm⟩ ⟨rfl, trivial⟩ Ents.refl Take.nil
    · rintro ⟨⟨e22, y10⟩, hx⟩; subst hx; replace H := sw.l H
      show At _ _ [(1, .int .i64 (e22))] _ [] _
      refine nT (?_)
      refine Tr.seq ?_
      refine Tr.region ?_
      refine Rg.q (v := .int .i64 (e22)) (Pu.qo (p_move rfl)) (by decide) ?_
      refine Rg.q (v := .int .i64 (e22)) (Pu.qo (p_assign rfl)) (by decide) ?_
      refine Rg.nl ?_
      refine nT (?_)
      refine tRet ?_
      have hr := Option.some.inj H; subst hr
      exact back1 () rfl (ResV.tmp (v := .int .i64 (e22)) rfl) rfl Ents.nil Take.nil
noncomputable def p_laws_szPart (v0 : Part) (v1 : Int) : Option (Int) := bd (p_laws_szIntS v0.1 v1) fun r3 => cond (decide (r3 < 0)) (some (-1)) (bd (p_laws_szRowSS v0.2 r3) fun r6 => cond (decide (r6 < 0)) (some (-1)) (some r6))
theorem c_laws_szPart {r : Int} (v0 : Part) (x_v0 : (Option Addr × Nat) × (Option Addr × Nat)) (v1 : Int) (H : p_laws_szPart v0 v1 = some r) : Fn' Try.prog 23 #[.agg #[.slice x_v0.1.1 v0.1.length x_v0.1.2, .slice x_v0.2.1 v0.2.length x_v0.2.2], .int .i64 (v1)] [imm (.slice x_v0.1.1 v0.1.length x_v0.1.2) v0.1, imm (.slice x_v0.2.1 v0.2.length x_v0.2.2) v0.2] [] (ι := Unit) (fun x => .int .i64 (r)) (fun _ => []) (fun x => []) := by
  refine calls_of (args := [_, _]) Try.func23 rfl (by kernel_rfl) Try.ntmps23 (by simp) fun c => ?_
  unfold p_laws_szPart at H
  refine Tr.openD Ent.z.s fun X1 => ?_
  refine Tr.seq ?_
  refine Tr.region ?_
  refine Rg.ed (e_box (t := 49) (v := .agg #[.slice x_v0.1.1 v0.1.length x_v0.1.2, .slice x_v0.2.1 v0.2.length x_v0.2.2]) rfl) rfl (by decide) ?_
  rintro _ _ _ ⟨g2, rfl, rfl, rfl⟩
  refine Rg.q (v := .int .i64 (0)) (Pu.qo (p_assign rfl)) (by decide) ?_
  refine Rg.nl ?_
  refine nT (?_)
  refine Tr.seq ?_
  refine Tr.region ?_
  refine Rg.q (v := .pointer (some ⟨g2, 0, none⟩)) (Pu.qo (p_fabE fa49_0 rfl rfl)) (by decide) ?_
  refine Rg.q (v := .slice x_v0.1.1 v0.1.length x_v0.1.2) (q_ldb ty23 rfl Has.here rfl) (by decide) ?_
  refine Rg.q (v := .int .i64 (v1)) (Pu.qo (p_move rfl)) (by decide) ?_
  obtain ⟨r3, h4, H⟩ := bd.of H
  refine Rg.q (v := .int .i64 (r3)) (q_call (vs := [.slice x_v0.1.1 v0.1.length x_v0.1.2, .int .i64 (v1)]) (c_laws_szIntS v0.1 x_v0.1 v1 h4) rfl (EntsB.cons (Ent.b Ent.z.s) EntsB.nil)) (by decide) ?_
  refine Rg.q (v := .int .i64 (r3)) (Pu.qo (p_assign rfl)) (by decide) ?_
  refine Rg.nl ?_
  refine nT (?_)
  refine Tr.seq ?_
  refine Tr.seq ?_
  refine Tr.region ?_
  refine Rg.q (v := .int .i64 (r3)) (Pu.qo (p_move rfl)) (by decide) ?_
  refine Rg.q (v := .bool (decide (r3 < 0))) (Pu.qo (p_lss rfl rfl)) (by decide) ?_
  refine Rg.nl ?_
  refine nT (?_)
  refine Tr.cond (b := decide (r3 < 0)) rfl (fun h5 => ?_) (fun h5 => ?_)
  · have H := cdT h5 H
    refine Tr.seq ?_
    refine Tr.region ?_
    refine Rg.q (v := .int .i64 (-1)) (Pu.qo (p_assign rfl)) (by decide) ?_
    refine Rg.nl ?_
    refine nT (?_)
    refine tRet ?_
    refine rT (?_)
    have hr := Option.some.inj H; subst hr
    exact back1 () rfl (ResV.tmp (v := .int .i64 (-1)) rfl) rfl Ents.nil Take.nil
  · have H := cdF h5 H
    refine tSkip ?_
    refine nT (?_)
    refine Tr.seq ?_
    refine Tr.region ?_
    refine Rg.q (v := .pointer (some ⟨g2, 1, none⟩)) (Pu.qo (p_fabE fa49_1 rfl rfl)) (by decide) ?_
    refine Rg.q (v := .slice x_v0.2.1 v0.2.length x_v0.2.2) (q_ldb ty47 rfl Has.here rfl) (by decide) ?_
    refine Rg.q (v := .int .i64 (r3)) (Pu.qo (p_move rfl)) (by decide) ?_
    obtain ⟨r6, h7, H⟩ := bd.of H
    refine Rg.q (v := .int .i64 (r6)) (q_call (vs := [.slice x_v0.2.1 v0.2.length x_v0.2.2, .int .i64 (r3)]) (c_laws_szRowSS v0.2 x_v0.2 r3 h7) rfl (EntsB.cons (Ent.b (Ent.dimm Ent.z)) EntsB.nil)) (by decide) ?_
    refine Rg.q (v := .int .i64 (r6)) (Pu.qo (p_assign rfl)) (by decide) ?_
    refine Rg.nl ?_
    refine nT (?_)
    refine Tr.seq ?_
    refine Tr.seq ?_
    refine Tr.region ?_
    refine Rg.q (v := .int .i64 (r6)) (Pu.qo (p_move rfl)) (by decide) ?_
    refine Rg.q (v := .bool (decide (r6 < 0))) (Pu.qo (p_lss rfl rfl)) (by decide) ?_
    refine Rg.nl ?_
    refine nT (?_)
    refine Tr.cond (b := decide (r6 < 0)) rfl (fun h8 => ?_) (fun h8 => ?_)
    · have H := cdT h8 H
      refine Tr.seq ?_
      refine Tr.region ?_
      refine Rg.q (v := .int .i64 (-1)) (Pu.qo (p_assign rfl)) (by decide) ?_
      refine Rg.nl ?_
      refine nT (?_)
      refine tRet ?_
      refine rT (?_)
      have hr := Option.some.inj H; subst hr
      exact back1 () rfl (ResV.tmp (v := .int .i64 (-1)) rfl) rfl Ents.nil Take.nil
    · have H := cdF h8 H
      refine tSkip ?_
      refine nT (?_)
      refine Tr.seq ?_
      refine Tr.region ?_
      refine Rg.q (v := .int .i64 (r6)) (Pu.qo (p_move rfl)) (by decide) ?_
      refine Rg.q (v := .int .i64 (r6)) (Pu.qo (p_assign rfl)) (by decide) ?_
      refine Rg.nl ?_
      refine nT (?_)
      refine tRet ?_
      have hr := Option.some.inj H; subst hr
      exact back1 () rfl (ResV.tmp (v := .int .i64 (r6)) rfl) rfl Ents.nil Take.nil
noncomputable def p_laws_toIntS_b0 (v0 : (List Int)) (σ8 : (List Int) × Int) : Option (((List Int) × Int) ⊕ ((List Int))) := cond (decide (σ8.2 < (v0.length : Int))) (gd (ix σ8.2 v0.length) <| gd (ix σ8.2 σ8.1.length) <| gd (I64 (σ8.2 + 1)) <| some (.inl ((σ8.1.set σ8.2.toNat (nth v0 σ8.2.toNat)), σ8.2 + 1))) (some (.inr σ8.1))
noncomputable def p_laws_toIntS (v0 : (List Int)) : Option ((List Int)) := gd (many (v0.length : Int)) <| bd (lp (p_laws_toIntS_b0 v0) ((List.replicate (v0.length : Int).toNat (Zr.z0 : Int)), 0)) fun x4 => some x4
theorem c_laws_toIntS {r : (List Int)} (v0 : (List Int)) (x_v0 : Option Addr × Nat) (H : p_laws_toIntS v0 = some r) : Fn' Try.prog 40 #[.slice x_v0.1 v0.length x_v0.2] [imm (.slice x_v0.1 v0.length x_v0.2) v0] [] (ι := Option Addr × Nat) (fun x => .slice x.1 r.length x.2) (fun _ => []) (fun x => [tree (.slice x.1 r.length x.2) r]) := by
  refine calls_of (args := [_]) Try.func40 rfl (by kernel_rfl) Try.ntmps40 (by simp) fun c => ?_
  unfold p_laws_toIntS at H
  refine Tr.seq ?_
  refine Tr.region ?_
  refine Rg.q (v := .slice none 0 0) (Pu.qo (p_assign rfl)) (by decide) ?_
  refine Rg.nl ?_
  refine nT (?_)
  refine Tr.seq ?_
  refine Tr.region ?_
  refine Rg.q (v := .slice x_v0.1 v0.length x_v0.2) (Pu.qo (p_move rfl)) (by decide) ?_
  refine Rg.q (v := .int .i64 ((v0.length : Int))) (Pu.qo (p_len 3 Try.underlying23 rfl)) (by decide) ?_
  obtain ⟨h3, H⟩ := gd.of H
  refine Rg.ed (e_makeR Int Try.underlying23 ty3 rfl rfl rfl h3 (by decide)) rfl (by decide) ?_
  rintro _ _ _ ⟨a1, c2, rfl, rfl, rfl⟩
  refine Rg.q (v := .slice a1 ((List.replicate (v0.length : Int).toNat (Zr.z0 : Int)).length) c2) (Pu.qo (p_assign rfl)) (by decide) ?_
  refine Rg.nl ?_
  refine nT (?_)
  refine Tr.seq ?_
  refine Tr.seq ?_
  refine Tr.region ?_
  refine Rg.q (v := .int .i64 (0)) (Pu.qo (p_assign rfl)) (by decide) ?_
  refine Rg.nl ?_
  refine nT (?_)
  obtain ⟨x4, hx5, H⟩ := bd.of H
  obtain ⟨n6, hx5⟩ := lp.of hx5
  refine tMidNC (ι := Unit) (fun ψ => [(3, .slice a1 x4.length c2)]) (fun ψ => [tree (.slice a1 x4.length c2) x4]) ?_ ?_
  · refine Tr.block ?_
    refine tLoopC (ι := { q : Nat × ((List Int) × Int) × Unit // itr (p_laws_toIntS_b0 v0) q.1 q.2.1 = some x4 }) (fun ζ => [(0, .slice x_v0.1 v0.length x_v0.2), (3, .slice a1 ζ.1.2.1.1.length c2), (4, .int .i64 (ζ.1.2.1.2))]) (fun ζ => [tree (.slice a1 ζ.1.2.1.1.length c2) ζ.1.2.1.1]) (fun ζ => ζ.1.1) ⟨(n6, ((List.replicate (v0.length : Int).toNat (Zr.z0 : Int)), 0), ()), hx5⟩ ⟨rfl, rfl, rfl, trivial⟩ (.cons Del.here .nil) ?_
    rintro ⟨⟨m7, σ8, z9⟩, hk14⟩
    obtain ⟨m15, t11, e, H1, hi12, hb13⟩ := itr.of (n := m7) (s := σ8) hk14
    subst e; unfold p_laws_toIntS_b0 at H1
    show Tr _ _ _ _ _ [(0, .slice x_v0.1 v0.length x_v0.2), (3, .slice a1 σ8.1.length c2), (4, .int .i64 (σ8.2))] _ [tree (.slice a1 σ8.1.length c2) σ8.1]
    refine Tr.seq ?_
    refine Tr.seq ?_
    refine Tr.region ?_
    refine Rg.q (v := .int .i64 (σ8.2)) (Pu.qo (p_move rfl)) (by decide) ?_
    refine Rg.q (v := .slice x_v0.1 v0.length x_v0.2) (Pu.qo (p_move rfl)) (by decide) ?_
    refine Rg.q (v := .int .i64 ((v0.length : Int))) (Pu.qo (p_len 3 Try.underlying23 rfl)) (by decide) ?_
    refine Rg.q (v := .bool (decide (σ8.2 < (v0.length : Int)))) (Pu.qo (p_lss rfl rfl)) (by decide) ?_
    refine Rg.nl ?_
    refine nT (?_)
    refine Tr.cond (b := decide (σ8.2 < (v0.length : Int))) rfl (fun h16 => ?_) (fun h16 => ?_)
    · have H1 := cdT h16 H1
      refine tSkip ?_
      refine nT (?_)
      refine Tr.seq ?_
      refine Tr.block ?_
      refine Tr.region ?_
      refine Rg.q (v := .slice a1 σ8.1.length c2) (Pu.qo (p_move rfl)) (by decide) ?_
      refine Rg.q (v := .int .i64 (σ8.2)) (Pu.qo (p_move rfl)) (by decide) ?_
      refine Rg.q (v := .slice x_v0.1 v0.length x_v0.2) (Pu.qo (p_move rfl)) (by decide) ?_
      refine Rg.q (v := .int .i64 (σ8.2)) (Pu.qo (p_move rfl)) (by decide) ?_
      obtain ⟨h17, H1⟩ := gd.of H1
      refine Rg.q (v := elp x_v0.1 (σ8.2.toNat * Enc.sz Int + 0)) (q_ixg (l := v0) (E := fun i => Flat.enc (nth v0 i)) (oa := x_v0.1) Try.underlying23 ty3 rfl rfl h17 rfl (EntB.flat (Ent.b Ent.z))) (by decide) ?_
      refine Rg.q (v := .int .i64 (nth v0 σ8.2.toNat)) (q_lde (l := v0) (E := fun i => Flat.enc (nth v0 i)) (oa := x_v0.1) (i := σ8.2.toNat) (j := 0) ty3 rfl (EntB.flat (Ent.b Ent.z)) h17.lt rfl) (by decide) ?_
      obtain ⟨h18, H1⟩ := gd.of H1
      refine Rg.q (v := elp a1 (σ8.2.toNat * Enc.sz Int + 0)) (q_ixO' Try.underlying23 ty3 rfl rfl h18 Has.here) (by decide) ?_
      refine Rg.en (e_setT (l := σ8.1) (α := Int) (oa := a1) σ8.2.toNat (nth v0 σ8.2.toNat) () ty3 rfl rfl rfl h18.lt (ShpT.wfa _) (.cons Del.here .nil)) rfl ?_
      rintro _ _ _ ⟨rfl, rfl, rfl⟩
      refine Rg.nl ?_
      refine nB (nT (?_))
      refine Tr.olen Has.here fun hn => ?_; rw [hn]
      refine Tr.region ?_
      refine Rg.q (v := .int .i64 (σ8.2)) (Pu.qo (p_move rfl)) (by decide) ?_
      obtain ⟨h19, H1⟩ := gd.of H1
      refine Rg.q (v := .int .i64 (σ8.2 + 1)) (Pu.qo (p_add rfl rfl h19)) (by decide) ?_
      refine Rg.q (v := .int .i64 (σ8.2 + 1)) (Pu.qo (p_assign rfl)) (by decide) ?_
      refine Rg.nl ?_
      exact nLC ⟨(m15, ((σ8.1.set σ8.2.toNat (nth v0 σ8.2.toNat)), σ8.2 + 1), ()), hi12 _ (Option.some.inj H1).symm⟩ (Nat.lt_succ_self _) ⟨rfl, rfl, rfl, trivial⟩ Ents.refl (.cons Del.here .nil)
    · have H1 := cdF h16 H1
      refine tExit (xT (xT (xE (?_))))
      have hx := hb13 _ (Option.some.inj H1).symm; subst hx
      exact nMC () ⟨rfl, trivial⟩ Ents.refl (.cons Del.here .nil)
  · intro y10
    show At _ _ [(3, .slice a1 x4.length c2)] _ [tree (.slice a1 x4.length c2) x4] _
    refine nT (?_)
    refine Tr.seq ?_
    refine Tr.region ?_
    refine Rg.q (v := .slice a1 x4.length c2) (Pu.qo (p_move rfl)) (by decide) ?_
    refine Rg.q (v := .slice a1 x4.length c2) (Pu.qo (p_assign rfl)) (by decide) ?_
    refine Rg.nl ?_
    refine nT (?_)
    refine tRet ?_
    have hr := Option.some.inj H; subst hr
    exact back1 (a1, c2) rfl (ResV.tmp (v := .slice a1 x4.length c2) rfl) rfl Ents.nil (.cons Del.here .nil)
def p_laws_toRow (v0 : Row) : Option (Row) := some v0
theorem c_laws_toRow {r : Row} (v0 : Row) (H : p_laws_toRow v0 = some r) : Fn' Try.prog 65 #[.agg #[.int .i64 (v0.1), .int .i64 (v0.2)]] [] [] (ι := Unit) (fun x => .agg #[.int .i64 (r.1), .int .i64 (r.2)]) (fun _ => []) (fun x => []) := by
  refine calls_of (args := [_]) Try.func65 rfl (by kernel_rfl) Try.ntmps65 (by simp) fun c => ?_
  unfold p_laws_toRow at H
  refine Tr.seq ?_
  refine Tr.region ?_
  refine Rg.ed (e_box (t := 83) (v := .agg #[.int .i64 (v0.1), .int .i64 (v0.2)]) rfl) rfl (by decide) ?_
  rintro _ _ _ ⟨g1, rfl, rfl, rfl⟩
  refine Rg.ed (e_alloc ty46) rfl (by decide) ?_
  rintro _ _ _ ⟨g2, rfl, rfl, rfl⟩
  refine Rg.nl ?_
  refine nT (?_)
  refine Tr.seq ?_
  refine Tr.region ?_
  refine Rg.ed (e_alloc ty46) rfl (by decide) ?_
  rintro _ _ _ ⟨g3, rfl, rfl, rfl⟩
  refine Rg.nl ?_
  refine nT (?_)
  refine Tr.seq ?_
  refine Tr.region ?_
  refine Rg.q (v := .pointer (some ⟨g1, 0, none⟩)) (Pu.qo (p_fabE fa83_0 rfl rfl)) (by decide) ?_
  refine Rg.q (v := .int .i64 (v0.1)) (q_ldb ty3 rfl Has.here.there.there rfl) (by decide) ?_
  refine Rg.q (v := .pointer (some ⟨g3, 0, none⟩)) (Pu.qo (p_fabE fa46_0 rfl rfl)) (by decide) ?_
  refine Rg.en (e_store (v := .int .i64 (v0.1)) (cs' := [.int .i64 (v0.1), .int .i64 (0)]) ty3 rfl rfl Upd.here rfl (by simp [Value.cells, Value.oneCell']) (Nat.le_of_ble_eq_true rfl) rfl) rfl ?_
  rintro _ _ _ ⟨rfl, rfl, rfl⟩
  refine Rg.nl ?_
  refine nT (?_)
  refine Tr.seq ?_
  refine Tr.region ?_
  refine Rg.q (v := .pointer (some ⟨g1, 1, none⟩)) (Pu.qo (p_fabE fa83_1 rfl rfl)) (by decide) ?_
  refine Rg.q (v := .int .i64 (v0.2)) (q_ldb ty3 rfl Has.here.there.there rfl) (by decide) ?_
  refine Rg.q (v := .pointer (some ⟨g3, 1, none⟩)) (Pu.qo (p_fabE fa46_1 rfl rfl)) (by decide) ?_
  refine Rg.en (e_store (v := .int .i64 (v0.2)) (cs' := [.int .i64 (v0.1), .int .i64 (v0.2)]) ty3 rfl rfl Upd.here rfl (by simp [Value.cells, Value.oneCell']) (Nat.le_of_ble_eq_true rfl) rfl) rfl ?_
  rintro _ _ _ ⟨rfl, rfl, rfl⟩
  refine Rg.nl ?_
  refine nT (?_)
  refine Tr.seq ?_
  refine Tr.region ?_
  refine Rg.q (v := .agg #[.int .i64 (v0.1), .int .i64 (v0.2)]) (q_ldbA ty46 rfl Has.here rfl) (by decide) ?_
  refine Rg.en (e_store (v := .agg #[.int .i64 (v0.1), .int .i64 (v0.2)]) (cs' := [.int .i64 (v0.1), .int .i64 (v0.2)]) ty46 rfl rfl Upd.here.there rfl (by simp [Value.cells, Value.oneCell']) (Nat.le_of_ble_eq_true rfl) rfl) rfl ?_
  rintro _ _ _ ⟨rfl, rfl, rfl⟩
  refine Rg.nl ?_
  refine nT (?_)
  refine tRet ?_
  have hr := Option.some.inj H; subst hr
  exact back1 () rfl (ResV.agg ty46 rfl Has.here.there rfl) rfl Ents.nil Take.nil
noncomputable def p_laws_toRowS_b0 (v0 : (List Row)) (σ8 : (List Row) × Int) : Option (((List Row) × Int) ⊕ ((List Row))) := cond (decide (σ8.2 < (v0.length : Int))) (gd (ix σ8.2 v0.length) <| bd (p_laws_toRow (nth v0 σ8.2.toNat)) fun r18 => gd (ix σ8.2 σ8.1.length) <| gd (I64 (σ8.2 + 1)) <| some (.inl ((σ8.1.set σ8.2.toNat r18), σ8.2 + 1))) (some (.inr σ8.1))
noncomputable def p_laws_toRowS (v0 : (List Row)) : Option ((List Row)) := gd (many (v0.length : Int)) <| bd (lp (p_laws_toRowS_b0 v0) ((List.replicate (v0.length : Int).toNat (Zr.z0 : Row)), 0)) fun x4 => some x4
theorem c_laws_toRowS {r : (List Row)} (v0 : (List Row)) (x_v0 : Option Addr × Nat) (H : p_laws_toRowS v0 = some r) : Fn' Try.prog 57 #[.slice x_v0.1 v0.length x_v0.2] [imm (.slice x_v0.1 v0.length x_v0.2) v0] [] (ι := Option Addr × Nat) (fun x => .slice x.1 r.length x.2) (fun _ => []) (fun x => [tree (.slice x.1 r.length x.2) r]) := by
  refine calls_of (args := [_]) Try.func57 rfl (by kernel_rfl) Try.ntmps57 (by simp) fun c => ?_
  unfold p_laws_toRowS at H
  refine Tr.seq ?_
  refine Tr.region ?_
  refine Rg.q (v := .slice none 0 0) (Pu.qo (p_assign rfl)) (by decide) ?_
  refine Rg.nl ?_
  refine nT (?_)
  refine Tr.seq ?_
  refine Tr.region ?_
  refine Rg.q (v := .slice x_v0.1 v0.length x_v0.2) (Pu.qo (p_move rfl)) (by decide) ?_
  refine Rg.q (v := .int .i64 ((v0.length : Int))) (Pu.qo (p_len 83 Try.underlying77 rfl)) (by decide) ?_
  obtain ⟨h3, H⟩ := gd.of H
  refine Rg.ed (e_makeR Row Try.underlying36 ty46 rfl rfl rfl h3 (by decide)) rfl (by decide) ?_
  rintro _ _ _ ⟨a1, c2, rfl, rfl, rfl⟩
  refine Rg.q (v := .slice a1 ((List.replicate (v0.length : Int).toNat (Zr.z0 : Row)).length) c2) (Pu.qo (p_assign rfl)) (by decide) ?_
  refine Rg.nl ?_
  refine nT (?_)
  refine Tr.seq ?_
  refine Tr.seq ?_
  refine Tr.region ?_
  refine Rg.q (v := .int .i64 (0)) (Pu.qo (p_assign rfl)) (by decide) ?_
  refine Rg.nl ?_
  refine nT (?_)
  obtain ⟨x4, hx5, H⟩ := bd.of H
  obtain ⟨n6, hx5⟩ := lp.of hx5
  refine tMidNC (ι := Unit) (fun ψ => [(3, .slice a1 x4.length c2)]) (fun ψ => [tree (.slice a1 x4.length c2) x4]) ?_ ?_
  · refine Tr.block ?_
    refine tLoopC (ι := { q : Nat × ((List Row) × Int) × Unit // itr (p_laws_toRowS_b0 v0) q.1 q.2.1 = some x4 }) (fun ζ => [(0, .slice x_v0.1 v0.length x_v0.2), (3, .slice a1 ζ.1.2.1.1.length c2), (4, .int .i64 (ζ.1.2.1.2))]) (fun ζ => [tree (.slice a1 ζ.1.2.1.1.length c2) ζ.1.2.1.1]) (fun ζ => ζ.1.1) ⟨(n6, ((List.replicate (v0.length : Int).toNat (Zr.z0 : Row)), 0), ()), hx5⟩ ⟨rfl, rfl, rfl, trivial⟩ (.cons Del.here .nil) ?_
    rintro ⟨⟨m7, σ8, z9⟩, hk14⟩
    obtain ⟨m15, t11, e, H1, hi12, hb13⟩ := itr.of (n := m7) (s := σ8) hk14
    subst e; unfold p_laws_toRowS_b0 at H1
    show Tr _ _ _ _ _ [(0, .slice x_v0.1 v0.length x_v0.2), (3, .slice a1 σ8.1.length c2), (4, .int .i64 (σ8.2))] _ [tree (.slice a1 σ8.1.length c2) σ8.1]
    refine Tr.seq ?_
    refine Tr.seq ?_
    refine Tr.region ?_
    refine Rg.q (v := .int .i64 (σ8.2)) (Pu.qo (p_move rfl)) (by decide) ?_
    refine Rg.q (v := .slice x_v0.1 v0.length x_v0.2) (Pu.qo (p_move rfl)) (by decide) ?_
    refine Rg.q (v := .int .i64 ((v0.length : Int))) (Pu.qo (p_len 83 Try.underlying77 rfl)) (by decide) ?_
    refine Rg.q (v := .bool (decide (σ8.2 < (v0.length : Int)))) (Pu.qo (p_lss rfl rfl)) (by decide) ?_
    refine Rg.nl ?_
    refine nT (?_)
    refine Tr.cond (b := decide (σ8.2 < (v0.length : Int))) rfl (fun h16 => ?_) (fun h16 => ?_)
    · have H1 := cdT h16 H1
      refine tSkip ?_
      refine nT (?_)
      refine Tr.seq ?_
      refine Tr.block ?_
      refine Tr.region ?_
      refine Rg.q (v := .slice a1 σ8.1.length c2) (Pu.qo (p_move rfl)) (by decide) ?_
      refine Rg.q (v := .int .i64 (σ8.2)) (Pu.qo (p_move rfl)) (by decide) ?_
      refine Rg.q (v := .slice x_v0.1 v0.length x_v0.2) (Pu.qo (p_move rfl)) (by decide) ?_
      refine Rg.q (v := .int .i64 (σ8.2)) (Pu.qo (p_move rfl)) (by decide) ?_
      obtain ⟨h17, H1⟩ := gd.of H1
      refine Rg.q (v := elp x_v0.1 (σ8.2.toNat * Enc.sz Row + 0)) (q_ixg (l := v0) (E := fun i => Flat.enc (nth v0 i)) (oa := x_v0.1) Try.underlying77 ty83 rfl rfl h17 rfl (EntB.flat (Ent.b Ent.z))) (by decide) ?_
      refine Rg.q (v := .agg #[.int .i64 ((nth v0 σ8.2.toNat).1), .int .i64 ((nth v0 σ8.2.toNat).2)]) (q_ldeA (l := v0) (E := fun i => Flat.enc (nth v0 i)) (oa := x_v0.1) (i := σ8.2.toNat) ty83 rfl (EntB.flat (Ent.b Ent.z)) h17.lt) (by decide) ?_
      obtain ⟨r18, h19, H1⟩ := bd.of H1
      refine Rg.q (v := .agg #[.int .i64 (r18.1), .int .i64 (r18.2)]) (q_call (vs := [.agg #[.int .i64 ((nth v0 σ8.2.toNat).1), .int .i64 ((nth v0 σ8.2.toNat).2)]]) (c_laws_toRow (nth v0 σ8.2.toNat) h19) rfl EntsB.nil) (by decide) ?_
      obtain ⟨h20, H1⟩ := gd.of H1
      refine Rg.q (v := elp a1 (σ8.2.toNat * Enc.sz Row + 0)) (q_ixO' Try.underlying36 ty46 rfl rfl h20 Has.here) (by decide) ?_
      refine Rg.en (e_setT (l := σ8.1) (α := Row) (oa := a1) σ8.2.toNat r18 ((), ()) ty46 rfl rfl rfl h20.lt (ShpT.wfa _) (.cons Del.here .nil)) rfl ?_
      rintro _ _ _ ⟨rfl, rfl, rfl⟩
      refine Rg.nl ?_
      refine nB (nT (?_))
      refine Tr.olen Has.here fun hn => ?_; rw [hn]
      refine Tr.region ?_
      refine Rg.q (v := .int .i64 (σ8.2)) (Pu.qo (p_move rfl)) (by decide) ?_
      obtain ⟨h21, H1⟩ := gd.of H1
      refine Rg.q (v := .int .i64 (σ8.2 + 1)) (Pu.qo (p_add rfl rfl h21)) (by decide) ?_
      refine Rg.q (v := .int .i64 (σ8.2 + 1)) (Pu.qo (p_assign rfl)) (by decide) ?_
      refine Rg.nl ?_
      exact nLC ⟨(m15, ((σ8.1.set σ8.2.toNat r18), σ8.2 + 1), ()), hi12 _ (Option.some.inj H1).symm⟩ (Nat.lt_succ_self _) ⟨rfl, rfl, rfl, trivial⟩ Ents.refl (.cons Del.here .nil)
    · have H1 := cdF h16 H1
      refine tExit (xT (xT (xE (?_))))
      have hx := hb13 _ (Option.some.inj H1).symm; subst hx
      exact nMC () ⟨rfl, trivial⟩ Ents.refl (.cons Del.here .nil)
  · intro y10
    show At _ _ [(3, .slice a1 x4.length c2)] _ [tree (.slice a1 x4.length c2) x4] _
    refine nT (?_)
    refine Tr.seq ?_
    refine Tr.region ?_
    refine Rg.q (v := .slice a1 x4.length c2) (Pu.qo (p_move rfl)) (by decide) ?_
    refine Rg.q (v := .slice a1 x4.length c2) (Pu.qo (p_assign rfl)) (by decide) ?_
    refine Rg.nl ?_
    refine nT (?_)
    refine tRet ?_
    have hr := Option.some.inj H; subst hr
    exact back1 (a1, c2) rfl (ResV.tmp (v := .slice a1 x4.length c2) rfl) rfl Ents.nil (.cons Del.here .nil)
noncomputable def p_laws_toRowSS_b0 (v0 : (List (List Row))) (σ9 : (List (List Row)) × Int) : Option (((List (List Row)) × Int) ⊕ ((List (List Row)))) := cond (decide (σ9.2 < (v0.length : Int))) (gd (ix σ9.2 v0.length) <| bd (p_laws_toRowS (nth v0 σ9.2.toNat)) fun r19 => gd (ix σ9.2 σ9.1.length) <| gd (I64 (σ9.2 + 1)) <| some (.inl ((σ9.1.set σ9.2.toNat r19), σ9.2 + 1))) (some (.inr σ9.1))
noncomputable def p_laws_toRowSS (v0 : (List (List Row))) : Option ((List (List Row))) := gd (many (v0.length : Int)) <| bd (lp (p_laws_toRowSS_b0 v0) ((List.replicate (v0.length : Int).toNat (Zr.z0 : (List Row))), 0)) fun x5 => some x5
theorem c_laws_toRowSS {r : (List (List Row))} (v0 : (List (List Row))) (x_v0 : Option Addr × Nat) (H : p_laws_toRowSS v0 = some r) : Fn' Try.prog 41 #[.slice x_v0.1 v0.length x_v0.2] [imm (.slice x_v0.1 v0.length x_v0.2) v0] [] (ι := Option Addr × Nat) (fun x => .slice x.1 r.length x.2) (fun _ => []) (fun x => [tree (.slice x.1 r.length x.2) r]) := by
  refine calls_of (args := [_]) Try.func41 rfl (by kernel_rfl) Try.ntmps41 (by simp) fun c => ?_
  unfold p_laws_toRowSS at H
  refine Tr.openD Ent.z fun X1 => ?_
  refine Tr.seq ?_
  refine Tr.region ?_
  refine Rg.q (v := .slice none 0 0) (Pu.qo (p_assign rfl)) (by decide) ?_
  refine Rg.nl ?_
  refine nT (?_)
  refine Tr.seq ?_
  refine Tr.region ?_
  refine Rg.q (v := .slice x_v0.1 v0.length x_v0.2) (Pu.qo (p_move rfl)) (by decide) ?_
  refine Rg.q (v := .int .i64 ((v0.length : Int))) (Pu.qo (p_len 77 Try.underlying47 rfl)) (by decide) ?_
  obtain ⟨h4, H⟩ := gd.of H
  refine Rg.ed (e_makeR (List Row) Try.underlying24 ty36 rfl rfl rfl h4 (by decide)) rfl (by decide) ?_
  rintro _ _ _ ⟨a2, c3, rfl, rfl, rfl⟩
  refine Rg.q (v := .slice a2 ((List.replicate (v0.length : Int).toNat (Zr.z0 : (List Row))).length) c3) (Pu.qo (p_assign rfl)) (by decide) ?_
  refine Rg.nl ?_
  refine nT (?_)
  refine Tr.seq ?_
  refine Tr.seq ?_
  refine Tr.region ?_
  refine Rg.q (v := .int .i64 (0)) (Pu.qo (p_assign rfl)) (by decide) ?_
  refine Rg.nl ?_
  refine nT (?_)
  obtain ⟨x5, hx6, H⟩ := bd.of H
  obtain ⟨n7, hx6⟩ := lp.of hx6
  refine tMidNC (ι := Unit) (fun ψ => [(3, .slice a2 x5.length c3)]) (fun ψ => [tree (.slice a2 x5.length c3) x5]) ?_ ?_
  · refine Tr.block ?_
    refine tLoopC (ι := { q : Nat × ((List (List Row)) × Int) × Unit // itr (p_laws_toRowSS_b0 v0) q.1 q.2.1 = some x5 }) (fun ζ => [(0, .slice x_v0.1 v0.length x_v0.2), (3, .slice a2 ζ.1.2.1.1.length c3), (4, .int .i64 (ζ.1.2.1.2))]) (fun ζ => [tree (.slice a2 ζ.1.2.1.1.length c3) ζ.1.2.1.1]) (fun ζ => ζ.1.1) ⟨(n7, ((List.replicate (v0.length : Int).toNat (Zr.z0 : (List Row))), 0), ()), hx6⟩ ⟨rfl, rfl, rfl, trivial⟩ (.cons Del.here .nil) ?_
    rintro ⟨⟨m8, σ9, z10⟩, hk15⟩
    obtain ⟨m16, t12, e, H1, hi13, hb14⟩ := itr.of (n := m8) (s := σ9) hk15
    subst e; unfold p_laws_toRowSS_b0 at H1
    show Tr _ _ _ _ _ [(0, .slice x_v0.1 v0.length x_v0.2), (3, .slice a2 σ9.1.length c3), (4, .int .i64 (σ9.2))] _ [tree (.slice a2 σ9.1.length c3) σ9.1]
    refine Tr.seq ?_
    refine Tr.seq ?_
    refine Tr.region ?_
    refine Rg.q (v := .int .i64 (σ9.2)) (Pu.qo (p_move rfl)) (by decide) ?_
    refine Rg.q (v := .slice x_v0.1 v0.length x_v0.2) (Pu.qo (p_move rfl)) (by decide) ?_
    refine Rg.q (v := .int .i64 ((v0.length : Int))) (Pu.qo (p_len 77 Try.underlying47 rfl)) (by decide) ?_
    refine Rg.q (v := .bool (decide (σ9.2 < (v0.length : Int)))) (Pu.qo (p_lss rfl rfl)) (by decide) ?_
    refine Rg.nl ?_
    refine nT (?_)
    refine Tr.cond (b := decide (σ9.2 < (v0.length : Int))) rfl (fun h17 => ?_) (fun h17 => ?_)
    · have H1 := cdT h17 H1
      refine tSkip ?_
      refine nT (?_)
      refine Tr.seq ?_
      refine Tr.block ?_
      refine Tr.region ?_
      refine Rg.q (v := .slice a2 σ9.1.length c3) (Pu.qo (p_move rfl)) (by decide) ?_
      refine Rg.q (v := .int .i64 (σ9.2)) (Pu.qo (p_move rfl)) (by decide) ?_
      refine Rg.q (v := .slice x_v0.1 v0.length x_v0.2) (Pu.qo (p_move rfl)) (by decide) ?_
      refine Rg.q (v := .int .i64 (σ9.2)) (Pu.qo (p_move rfl)) (by decide) ?_
      obtain ⟨h18, H1⟩ := gd.of H1
      refine Rg.q (v := elp x_v0.1 (σ9.2.toNat * Enc.sz (List Row) + 0)) (q_ixg (l := v0) (E := fun i => Dp.denc (nth v0 i) (X1 i)) (oa := x_v0.1) Try.underlying47 ty77 rfl rfl h18 rfl (Ent.b (Ent.darr Ent.z))) (by decide) ?_
      refine Rg.q (v := .slice ((X1 σ9.2.toNat).1) ((nth v0 σ9.2.toNat).length) ((X1 σ9.2.toNat).2.1)) (q_lde (l := v0) (E := fun i => Dp.denc (nth v0 i) (X1 i)) (oa := x_v0.1) (i := σ9.2.toNat) (j := 0) ty77 rfl (Ent.b (Ent.darr Ent.z)) h18.lt rfl) (by decide) ?_
      obtain ⟨r19, h20, H1⟩ := bd.of H1
      refine Rg.ed (e_callB (vs := [.slice ((X1 σ9.2.toNat).1) ((nth v0 σ9.2.toNat).length) ((X1 σ9.2.toNat).2.1)]) (c_laws_toRowS (nth v0 σ9.2.toNat) ((X1 σ9.2.toNat).1, (X1 σ9.2.toNat).2.1) h20) (fun _ => (Solo.tree Solo.nil)) rfl (EntsB.cons (Ent.b (Ent.dimm (Ent.del Ent.z h18.lt))) EntsB.nil)) rfl (by decide) ?_
      rintro _ _ _ ⟨x21, rfl, rfl, rfl⟩
      obtain ⟨h22, H1⟩ := gd.of H1
      refine Rg.q (v := elp a2 (σ9.2.toNat * Enc.sz (List Row) + 0)) (q_ixO' Try.underlying24 ty36 rfl rfl h22 Has.here.there) (by decide) ?_
      refine Rg.en (e_setT (l := σ9.1) (α := (List Row)) (oa := a2) σ9.2.toNat r19 x21 ty36 rfl rfl rfl h22.lt (ShpT.wfa _) (.cons Del.here.there (.cons Del.here .nil))) rfl ?_
      rintro _ _ _ ⟨rfl, rfl, rfl⟩
      refine Rg.nl ?_
      refine nB (nT (?_))
      refine Tr.olen Has.here fun hn => ?_; rw [hn]
      refine Tr.region ?_
      refine Rg.q (v := .int .i64 (σ9.2)) (Pu.qo (p_move rfl)) (by decide) ?_
      obtain ⟨h23, H1⟩ := gd.of H1
      refine Rg.q (v := .int .i64 (σ9.2 + 1)) (Pu.qo (p_add rfl rfl h23)) (by decide) ?_
      refine Rg.q (v := .int .i64 (σ9.2 + 1)) (Pu.qo (p_assign rfl)) (by decide) ?_
      refine Rg.nl ?_
      exact nLC ⟨(m16, ((σ9.1.set σ9.2.toNat r19), σ9.2 + 1), ()), hi13 _ (Option.some.inj H1).symm⟩ (Nat.lt_succ_self _) ⟨rfl, rfl, rfl, trivial⟩ Ents.refl (.cons Del.here .nil)
    · have H1 := cdF h17 H1
      refine tExit (xT (xT (xE (?_))))
      have hx := hb14 _ (Option.some.inj H1).symm; subst hx
      exact nMC () ⟨rfl, trivial⟩ Ents.refl (.cons Del.here .nil)
  · intro y11
    show At _ _ [(3, .slice a2 x5.length c3)] _ [tree (.slice a2 x5.length c3) x5] _
    refine nT (?_)
    refine Tr.seq ?_
    refine Tr.region ?_
    refine Rg.q (v := .slice a2 x5.length c3) (Pu.qo (p_move rfl)) (by decide) ?_
    refine Rg.q (v := .slice a2 x5.length c3) (Pu.qo (p_assign rfl)) (by decide) ?_
    refine Rg.nl ?_
    refine nT (?_)
    refine tRet ?_
    have hr := Option.some.inj H; subst hr
    exact back1 (a2, c3) rfl (ResV.tmp (v := .slice a2 x5.length c3) rfl) rfl Ents.nil (.cons Del.here .nil)
noncomputable def p_laws_toPart (v0 : Part) : Option (Part) := bd (p_laws_toIntS v0.1) fun r5 => bd (p_laws_toRowSS v0.2) fun r8 => some (r5, r8)
theorem c_laws_toPart {r : Part} (v0 : Part) (x_v0 : (Option Addr × Nat) × (Option Addr × Nat)) (H : p_laws_toPart v0 = some r) : Fn' Try.prog 24 #[.agg #[.slice x_v0.1.1 v0.1.length x_v0.1.2, .slice x_v0.2.1 v0.2.length x_v0.2.2]] [imm (.slice x_v0.1.1 v0.1.length x_v0.1.2) v0.1, imm (.slice x_v0.2.1 v0.2.length x_v0.2.2) v0.2] [] (ι := (Option Addr × Nat) × (Option Addr × Nat)) (fun x => .agg #[.slice x.1.1 r.1.length x.1.2, .slice x.2.1 r.2.length x.2.2]) (fun _ => []) (fun x => [tree (.slice x.1.1 r.1.length x.1.2) r.1, tree (.slice x.2.1 r.2.length x.2.2) r.2]) := by
  refine calls_of (args := [_]) Try.func24 rfl (by kernel_rfl) Try.ntmps24 (by simp) fun c => ?_
  unfold p_laws_toPart at H
  refine Tr.openD Ent.z.s fun X1 => ?_
  refine Tr.seq ?_
  refine Tr.region ?_
  refine Rg.ed (e_box (t := 49) (v := .agg #[.slice x_v0.1.1 v0.1.length x_v0.1.2, .slice x_v0.2.1 v0.2.length x_v0.2.2]) rfl) rfl (by decide) ?_
  rintro _ _ _ ⟨g2, rfl, rfl, rfl⟩
  refine Rg.ed (e_alloc ty26) rfl (by decide) ?_
  rintro _ _ _ ⟨g3, rfl, rfl, rfl⟩
  refine Rg.nl ?_
  refine nT (?_)
  refine Tr.seq ?_
  refine Tr.region ?_
  refine Rg.ed (e_alloc ty26) rfl (by decide) ?_
  rintro _ _ _ ⟨g4, rfl, rfl, rfl⟩
  refine Rg.nl ?_
  refine nT (?_)
  refine Tr.seq ?_
  refine Tr.region ?_
  refine Rg.q (v := .pointer (some ⟨g2, 0, none⟩)) (Pu.qo (p_fabE fa49_0 rfl rfl)) (by decide) ?_
  refine Rg.q (v := .slice x_v0.1.1 v0.1.length x_v0.1.2) (q_ldb ty23 rfl Has.here.there.there rfl) (by decide) ?_
  obtain ⟨r5, h6, H⟩ := bd.of H
  refine Rg.ed (e_callB (vs := [.slice x_v0.1.1 v0.1.length x_v0.1.2]) (c_laws_toIntS v0.1 x_v0.1 h6) (fun _ => (Solo.tree Solo.nil)) rfl (EntsB.cons (Ent.b Ent.z.s) EntsB.nil)) rfl (by decide) ?_
  rintro _ _ _ ⟨x7, rfl, rfl, rfl⟩
  refine Rg.q (v := .pointer (some ⟨g4, 0, none⟩)) (Pu.qo (p_fabE fa26_0 rfl rfl)) (by decide) ?_
  refine Rg.en (e_store (v := .slice x7.1 r5.length x7.2) (cs' := [.slice x7.1 r5.length x7.2, .slice none 0 0]) ty23 rfl rfl Upd.here.there rfl (by simp [Value.cells, Value.oneCell']) (Nat.le_of_ble_eq_true rfl) rfl) rfl ?_
  rintro _ _ _ ⟨rfl, rfl, rfl⟩
  refine Rg.nl ?_
  refine nT (?_)
  refine Tr.seq ?_
  refine Tr.region ?_
  refine Rg.q (v := .pointer (some ⟨g2, 1, none⟩)) (Pu.qo (p_fabE fa49_1 rfl rfl)) (by decide) ?_
  refine Rg.q (v := .slice x_v0.2.1 v0.2.length x_v0.2.2) (q_ldb ty47 rfl Has.here.there.there.there rfl) (by decide) ?_
  obtain ⟨r8, h9, H⟩ := bd.of H
  refine Rg.ed (e_callB (vs := [.slice x_v0.2.1 v0.2.length x_v0.2.2]) (c_laws_toRowSS v0.2 x_v0.2 h9) (fun _ => (Solo.tree Solo.nil)) rfl (EntsB.cons (Ent.b (Ent.dimm Ent.z)) EntsB.nil)) rfl (by decide) ?_
  rintro _ _ _ ⟨x10, rfl, rfl, rfl⟩
  refine Rg.q (v := .pointer (some ⟨g4, 1, none⟩)) (Pu.qo (p_fabE fa26_1 rfl rfl)) (by decide) ?_
  refine Rg.en (e_store (v := .slice x10.1 r8.length x10.2) (cs' := [.slice x7.1 r5.length x7.2, .slice x10.1 r8.length x10.2]) ty24 rfl rfl Upd.here.there.there rfl (by simp [Value.cells, Value.oneCell']) (Nat.le_of_ble_eq_true rfl) rfl) rfl ?_
  rintro _ _ _ ⟨rfl, rfl, rfl⟩
  refine Rg.nl ?_
  refine nT (?_)
  refine Tr.seq ?_
  refine Tr.region ?_
  refine Rg.q (v := .agg #[.slice x7.1 r5.length x7.2, .slice x10.1 r8.length x10.2]) (q_ldbA ty26 rfl Has.here.there.there rfl) (by decide) ?_
  refine Rg.en (e_store (v := .agg #[.slice x7.1 r5.length x7.2, .slice x10.1 r8.length x10.2]) (cs' := [.slice x7.1 r5.length x7.2, .slice x10.1 r8.length x10.2]) ty26 rfl rfl Upd.here.there.there.there rfl (by simp [Value.cells, Value.oneCell']) (Nat.le_of_ble_eq_true rfl) rfl) rfl ?_
  rintro _ _ _ ⟨rfl, rfl, rfl⟩
  refine Rg.nl ?_
  refine nT (?_)
  refine tRet ?_
  have hr := Option.some.inj H; subst hr
  exact back1 (x7, x10) rfl (ResV.agg ty26 rfl Has.here.there.there.there rfl) rfl Ents.nil (.cons Del.here.there (.cons Del.here .nil))
noncomputable def p_laws_eqIntS_b0 (v0 : (List Int)) (v1 : (List Int)) (σ6 : Int) : Option ((Int) ⊕ (Unit ⊕ Bool)) := cond (decide (σ6 < (v0.length : Int))) (gd (ix σ6 v0.length) <| gd (ix σ6 v1.length) <| cond (!decide ((nth v0 σ6.toNat) = (nth v1 σ6.toNat))) (some (.inr (.inr false))) (gd (I64 (σ6 + 1)) <| some (.inl (σ6 + 1)))) (some (.inr (.inl ())))
noncomputable def p_laws_eqIntS (v0 : (List Int)) (v1 : (List Int)) : Option (Bool) := cond (!decide ((v0.length : Int) = (v1.length : Int))) (some false) (bd (lp (p_laws_eqIntS_b0 v0 v1) 0) <| sw (fun e19 => some true) (fun q => some q))
theorem c_laws_eqIntS {r : Bool} (v0 : (List Int)) (x_v0 : Option Addr × Nat) (v1 : (List Int)) (x_v1 : Option Addr × Nat) (H : p_laws_eqIntS v0 v1 = some r) : Fn' Try.prog 42 #[.slice x_v0.1 v0.length x_v0.2, .slice x_v1.1 v1.length x_v1.2] [imm (.slice x_v0.1 v0.length x_v0.2) v0, imm (.slice x_v1.1 v1.length x_v1.2) v1] [] (ι := Unit) (fun x => .bool (r)) (fun _ => []) (fun x => []) := by
  refine calls_of (args := [_, _]) Try.func42 rfl (by kernel_rfl) Try.ntmps42 (by simp) fun c => ?_
  unfold p_laws_eqIntS at H
  refine Tr.seq ?_
  refine Tr.region ?_
  refine Rg.q (v := .bool (false)) (Pu.qo (p_assign rfl)) (by decide) ?_
  refine Rg.nl ?_
  refine nT (?_)
  refine Tr.seq ?_
  refine Tr.seq ?_
  refine Tr.region ?_
  refine Rg.q (v := .slice x_v0.1 v0.length x_v0.2) (Pu.qo (p_move rfl)) (by decide) ?_
  refine Rg.q (v := .int .i64 ((v0.length : Int))) (Pu.qo (p_len 3 Try.underlying23 rfl)) (by decide) ?_
  refine Rg.q (v := .slice x_v1.1 v1.length x_v1.2) (Pu.qo (p_move rfl)) (by decide) ?_
  refine Rg.q (v := .int .i64 ((v1.length : Int))) (Pu.qo (p_len 3 Try.underlying23 rfl)) (by decide) ?_
  refine Rg.q (v := .bool (!decide ((v0.length : Int) = (v1.length : Int)))) (Pu.qo (p_neq rfl rfl)) (by decide) ?_
  refine Rg.nl ?_
  refine nT (?_)
  refine Tr.cond (b := !decide ((v0.length : Int) = (v1.length : Int))) rfl (fun h1 => ?_) (fun h1 => ?_)
  · have H := cdT h1 H
    refine Tr.seq ?_
    refine Tr.region ?_
    refine Rg.q (v := .bool (false)) (Pu.qo (p_assign rfl)) (by decide) ?_
    refine Rg.nl ?_
    refine nT (?_)
    refine tRet ?_
    refine rT (?_)
    have hr := Option.some.inj H; subst hr
    exact back1 () rfl (ResV.tmp (v := .bool (false)) rfl) rfl Ents.nil Take.nil
  · have H := cdF h1 H
    refine tSkip ?_
    refine nT (?_)
    refine Tr.seq ?_
    refine Tr.seq ?_
    refine Tr.region ?_
    refine Rg.q (v := .int .i64 (0)) (Pu.qo (p_assign rfl)) (by decide) ?_
    refine Rg.nl ?_
    refine nT (?_)
    obtain ⟨x2, hx3, H⟩ := bd.of H
    obtain ⟨n4, hx3⟩ := lp.of hx3
    refine tMidNC (ι := { q : (Unit) × Unit // x2 = .inl q.1 }) (fun ψ => []) (fun ψ => []) ?_ ?_
    · refine Tr.block ?_
      refine tLoopC (ι := { q : Nat × (Int) × Unit // itr (p_laws_eqIntS_b0 v0 v1) q.1 q.2.1 = some x2 }) (fun ζ => [(0, .slice x_v0.1 v0.length x_v0.2), (1, .slice x_v1.1 v1.length x_v1.2), (5, .int .i64 (ζ.1.2.1))]) (fun ζ => []) (fun ζ => ζ.1.1) ⟨(n4, 0, ()), hx3⟩ ⟨rfl, rfl, rfl, trivial⟩ Take.nil ?_
      rintro ⟨⟨m5, σ6, z7⟩, hk12⟩
      obtain ⟨m13, t9, e, H1, hi10, hb11⟩ := itr.of (n := m5) (s := σ6) hk12
      subst e; unfold p_laws_eqIntS_b0 at H1
      show Tr _ _ _ _ _ [(0, .slice x_v0.1 v0.length x_v0.2), (1, .slice x_v1.1 v1.length x_v1.2), (5, .int .i64 (σ6))] _ []
      refine Tr.seq ?_
      refine Tr.seq ?_
      refine Tr.region ?_
      refine Rg.q (v := .int .i64 (σ6)) (Pu.qo (p_move rfl)) (by decide) ?_
      refine Rg.q (v := .slice x_v0.1 v0.length x_v0.2) (Pu.qo (p_move rfl)) (by decide) ?_
      refine Rg.q (v := .int .i64 ((v0.length : Int))) (Pu.qo (p_len 3 Try.underlying23 rfl)) (by decide) ?_
      refine Rg.q (v := .bool (decide (σ6 < (v0.length : Int)))) (Pu.qo (p_lss rfl rfl)) (by decide) ?_
      refine Rg.nl ?_
      refine nT (?_)
      refine Tr.cond (b := decide (σ6 < (v0.length : Int))) rfl (fun h14 => ?_) (fun h14 => ?_)
      · have H1 := cdT h14 H1
        refine tSkip ?_
        refine nT (?_)
        refine Tr.seq ?_
        refine Tr.block ?_
        refine Tr.seq ?_
        refine tLinS [(0, .slice x_v0.1 v0.length x_v0.2), (1, .slice x_v1.1 v1.length x_v1.2), (5, .int .i64 (σ6))] Try.mixed (.inr (by kernel_rfl)) ⟨rfl, rfl, rfl, trivial⟩ rfl ?_
        refine Lin.q (v := .slice x_v0.1 v0.length x_v0.2) (by decide) (Pu.qo (p_move rfl)) ?_
        refine Lin.q (v := .int .i64 (σ6)) (by decide) (Pu.qo (p_move rfl)) ?_
        obtain ⟨h15, H1⟩ := gd.of H1
        refine Lin.q (v := elp x_v0.1 (σ6.toNat * Enc.sz Int + 0)) (by decide) (q_ixg (l := v0) (E := fun i => Flat.enc (nth v0 i)) (oa := x_v0.1) Try.underlying23 ty3 rfl rfl h15 rfl (EntB.flat (Ent.b Ent.z))) ?_
        refine Lin.q (v := .int .i64 (nth v0 σ6.toNat)) (by decide) (q_lde (l := v0) (E := fun i => Flat.enc (nth v0 i)) (oa := x_v0.1) (i := σ6.toNat) (j := 0) ty3 rfl (EntB.flat (Ent.b Ent.z)) h15.lt rfl) ?_
        refine Lin.q (v := .slice x_v1.1 v1.length x_v1.2) (by decide) (Pu.qo (p_move rfl)) ?_
        refine Lin.q (v := .int .i64 (σ6)) (by decide) (Pu.qo (p_move rfl)) ?_
        obtain ⟨h16, H1⟩ := gd.of H1
        refine Lin.q (v := elp x_v1.1 (σ6.toNat * Enc.sz Int + 0)) (by decide) (q_ixg (l := v1) (E := fun i => Flat.enc (nth v1 i)) (oa := x_v1.1) Try.underlying23 ty3 rfl rfl h16 rfl (EntB.flat (Ent.b Ent.z.s))) ?_
        refine Lin.q (v := .int .i64 (nth v1 σ6.toNat)) (by decide) (q_lde (l := v1) (E := fun i => Flat.enc (nth v1 i)) (oa := x_v1.1) (i := σ6.toNat) (j := 0) ty3 rfl (EntB.flat (Ent.b Ent.z.s)) h16.lt rfl) ?_
        refine Lin.q (v := .bool (!decide ((nth v0 σ6.toNat) = (nth v1 σ6.toNat)))) (by decide) (Pu.qo (p_neq rfl rfl)) ?_
        show At _ _ _ _ _ _
        refine nT (?_)
        refine Tr.cond (b := !decide ((nth v0 σ6.toNat) = (nth v1 σ6.toNat))) rfl (fun h17 => ?_) (fun h17 => ?_)
        · have H1 := cdT h17 H1
          refine Tr.seq ?_
          refine Tr.region ?_
          refine Rg.q (v := .bool (false)) (Pu.qo (p_assign rfl)) (by decide) ?_
          refine Rg.nl ?_
          refine nT (?_)
          refine tRet ?_
          refine rB (rT (rT (rB (rT (rT (?_))))))
          have hx := hb11 _ (Option.some.inj H1).symm; subst hx
          replace H := sw.r H
          have hr := Option.some.inj H; subst hr
          exact back1 () rfl (ResV.tmp (v := .bool (false)) rfl) rfl Ents.nil Take.nil
        · have H1 := cdF h17 H1
          refine tSkip ?_
          refine nB (nT (?_))
          refine Tr.region ?_
          refine Rg.q (v := .int .i64 (σ6)) (Pu.qo (p_move rfl)) (by decide) ?_
          obtain ⟨h18, H1⟩ := gd.of H1
          refine Rg.q (v := .int .i64 (σ6 + 1)) (Pu.qo (p_add rfl rfl h18)) (by decide) ?_
          refine Rg.q (v := .int .i64 (σ6 + 1)) (Pu.qo (p_assign rfl)) (by decide) ?_
          refine Rg.nl ?_
          exact nLC ⟨(m13, σ6 + 1, ()), hi10 _ (Option.some.inj H1).symm⟩ (Nat.lt_succ_self _) ⟨rfl, rfl, rfl, trivial⟩ Ents.refl Take.nil
      · have H1 := cdF h14 H1
        refine tExit (xT (xT (xE (?_))))
        exact nMC ⟨((), ()), (hb11 _ (Option.some.inj H1).symm).symm⟩ trivial Ents.refl Take.nil
    · rintro ⟨⟨e19, y8⟩, hx⟩; subst hx; replace H := sw.l H
      show At _ _ [] _ [] _
      refine nT (?_)
      refine Tr.seq ?_
      refine Tr.region ?_
      refine Rg.q (v := .bool (true)) (Pu.qo (p_assign rfl)) (by decide) ?_
      refine Rg.nl ?_
      refine nT (?_)
      refine tRet ?_
      have hr := Option.some.inj H; subst hr
      exact back1 () rfl (ResV.tmp (v := .bool (true)) rfl) rfl Ents.nil Take.nil
def p_laws_eqRow (v0 : Row) (v1 : Row) : Option (Bool) := cond (!decide (v0.1 = v1.1)) (some false) (cond (!decide (v0.2 = v1.2)) (some false) (some true))
theorem c_laws_eqRow {r : Bool} (v0 : Row) (v1 : Row) (H : p_laws_eqRow v0 v1 = some r) : Fn' Try.prog 66 #[.agg #[.int .i64 (v0.1), .int .i64 (v0.2)], .agg #[.int .i64 (v1.1), .int .i64 (v1.2)]] [] [] (ι := Unit) (fun x => .bool (r)) (fun _ => []) (fun x => []) := by
  refine calls_of (args := [_, _]) Try.func66 rfl (by kernel_rfl) Try.ntmps66 (by simp) fun c => ?_
  unfold p_laws_eqRow at H
  refine Tr.seq ?_
  refine Tr.region ?_
  refine Rg.ed (e_box (t := 46) (v := .agg #[.int .i64 (v0.1), .int .i64 (v0.2)]) rfl) rfl (by decide) ?_
  rintro _ _ _ ⟨g1, rfl, rfl, rfl⟩
  refine Rg.ed (e_box (t := 46) (v := .agg #[.int .i64 (v1.1), .int .i64 (v1.2)]) rfl) rfl (by decide) ?_
  rintro _ _ _ ⟨g2, rfl, rfl, rfl⟩
  refine Rg.q (v := .bool (false)) (Pu.qo (p_assign rfl)) (by decide) ?_
  refine Rg.nl ?_
  refine nT (?_)
  refine Tr.seq ?_
  refine Tr.seq ?_
  refine Tr.region ?_
  refine Rg.q (v := .pointer (some ⟨g1, 0, none⟩)) (Pu.qo (p_fabE fa46_0 rfl rfl)) (by decide) ?_
  refine Rg.q (v := .int .i64 (v0.1)) (q_ldb ty3 rfl Has.here.there rfl) (by decide) ?_
  refine Rg.q (v := .pointer (some ⟨g2, 0, none⟩)) (Pu.qo (p_fabE fa46_0 rfl rfl)) (by decide) ?_
  refine Rg.q (v := .int .i64 (v1.1)) (q_ldb ty3 rfl Has.here rfl) (by decide) ?_
  refine Rg.q (v := .bool (!decide (v0.1 = v1.1))) (Pu.qo (p_neq rfl rfl)) (by decide) ?_
  refine Rg.nl ?_
  refine nT (?_)
  refine Tr.cond (b := !decide (v0.1 = v1.1)) rfl (fun h3 => ?_) (fun h3 => ?_)
  · have H := cdT h3 H
    refine Tr.seq ?_
    refine Tr.region ?_
    refine Rg.q (v := .bool (false)) (Pu.qo (p_assign rfl)) (by decide) ?_
    refine Rg.nl ?_
    refine nT (?_)
    refine tRet ?_
    refine rT (?_)
    have hr := Option.some.inj H; subst hr
    exact back1 () rfl (ResV.tmp (v := .bool (false)) rfl) rfl Ents.nil Take.nil
  · have H := cdF h3 H
    refine tSkip ?_
    refine nT (?_)
    refine Tr.seq ?_
    refine Tr.seq ?_
    refine Tr.region ?_
    refine Rg.q (v := .pointer (some ⟨g1, 1, none⟩)) (Pu.qo (p_fabE fa46_1 rfl rfl)) (by decide) ?_
    refine Rg.q (v := .int .i64 (v0.2)) (q_ldb ty3 rfl Has.here.there rfl) (by decide) ?_
    refine Rg.q (v := .pointer (some ⟨g2, 1, none⟩)) (Pu.qo (p_fabE fa46_1 rfl rfl)) (by decide) ?_
    refine Rg.q (v := .int .i64 (v1.2)) (q_ldb ty3 rfl Has.here rfl) (by decide) ?_
    refine Rg.q (v := .bool (!decide (v0.2 = v1.2))) (Pu.qo (p_neq rfl rfl)) (by decide) ?_
    refine Rg.nl ?_
    refine nT (?_)
    refine Tr.cond (b := !decide (v0.2 = v1.2)) rfl (fun h4 => ?_) (fun h4 => ?_)
    · have H := cdT h4 H
      refine Tr.seq ?_
      refine Tr.region ?_
      refine Rg.q (v := .bool (false)) (Pu.qo (p_assign rfl)) (by decide) ?_
      refine Rg.nl ?_
      refine nT (?_)
      refine tRet ?_
      refine rT (?_)
      have hr := Option.some.inj H; subst hr
      exact back1 () rfl (ResV.tmp (v := .bool (false)) rfl) rfl Ents.nil Take.nil
    · have H := cdF h4 H
      refine tSkip ?_
      refine nT (?_)
      refine Tr.seq ?_
      refine Tr.region ?_
      refine Rg.q (v := .bool (true)) (Pu.qo (p_assign rfl)) (by decide) ?_
      refine Rg.nl ?_
      refine nT (?_)
      refine tRet ?_
      have hr := Option.some.inj H; subst hr
      exact back1 () rfl (ResV.tmp (v := .bool (true)) rfl) rfl Ents.nil Take.nil
noncomputable def p_laws_eqRowS_b0 (v0 : (List Row)) (v1 : (List Row)) (σ6 : Int) : Option ((Int) ⊕ (Unit ⊕ Bool)) := cond (decide (σ6 < (v0.length : Int))) (gd (ix σ6 v0.length) <| gd (ix σ6 v1.length) <| bd (p_laws_eqRow (nth v0 σ6.toNat) (nth v1 σ6.toNat)) fun r17 => cond (!r17) (some (.inr (.inr false))) (gd (I64 (σ6 + 1)) <| some (.inl (σ6 + 1)))) (some (.inr (.inl ())))
noncomputable def p_laws_eqRowS (v0 : (List Row)) (v1 : (List Row)) : Option (Bool) := cond (!decide ((v0.length : Int) = (v1.length : Int))) (some false) (bd (lp (p_laws_eqRowS_b0 v0 v1) 0) <| sw (fun e21 => some true) (fun q => some q))
theorem c_laws_eqRowS {r : Bool} (v0 : (List Row)) (x_v0 : Option Addr × Nat) (v1 : (List Row)) (x_v1 : Option Addr × Nat) (H : p_laws_eqRowS v0 v1 = some r) : Fn' Try.prog 58 #[.slice x_v0.1 v0.length x_v0.2, .slice x_v1.1 v1.length x_v1.2] [imm (.slice x_v0.1 v0.length x_v0.2) v0, imm (.slice x_v1.1 v1.length x_v1.2) v1] [] (ι := Unit) (fun x => .bool (r)) (fun _ => []) (fun x => []) := by
  refine calls_of (args := [_, _]) Try.func58 rfl (by kernel_rfl) Try.ntmps58 (by simp) fun c => ?_
  unfold p_laws_eqRowS at H
  refine Tr.seq ?_
  refine Tr.region ?_
  refine Rg.q (v := .bool (false)) (Pu.qo (p_assign rfl)) (by decide) ?_
  refine Rg.nl ?_
  refine nT (?_)
  refine Tr.seq ?_
  refine Tr.seq ?_
  refine Tr.region ?_
  refine Rg.q (v := .slice x_v0.1 v0.length x_v0.2) (Pu.qo (p_move rfl)) (by decide) ?_
  refine Rg.q (v := .int .i64 ((v0.length : Int))) (Pu.qo (p_len 46 Try.underlying36 rfl)) (by decide) ?_
  refine Rg.q (v := .slice x_v1.1 v1.length x_v1.2) (Pu.qo (p_move rfl)) (by decide) ?_
  refine Rg.q (v := .int .i64 ((v1.length : Int))) (Pu.qo (p_len 46 Try.underlying36 rfl)) (by decide) ?_
  refine Rg.q (v := .bool (!decide ((v0.length : Int) = (v1.length : Int)))) (Pu.qo (p_neq rfl rfl)) (by decide) ?_
  refine Rg.nl ?_
  refine nT (?_)
  refine Tr.cond (b := !decide ((v0.length : Int) = (v1.length : Int))) rfl (fun h1 => ?_) (fun h1 => ?_)
  · have H := cdT h1 H
    refine Tr.seq ?_
    refine Tr.region ?_
    refine Rg.q (v := .bool (false)) (Pu.qo (p_assign rfl)) (by decide) ?_
    refine Rg.nl ?_
    refine nT (?_)
    refine tRet ?_
    refine rT (?_)
    have hr := Option.some.inj H; subst hr
    exact back1 () rfl (ResV.tmp (v := .bool (false)) rfl) rfl Ents.nil Take.nil
  · have H := cdF h1 H
    refine tSkip ?_
    refine nT (?_)
    refine Tr.seq ?_
    refine Tr.seq ?_
    refine Tr.region ?_
    refine Rg.q (v := .int .i64 (0)) (Pu.qo (p_assign rfl)) (by decide) ?_
    refine Rg.nl ?_
    refine nT (?_)
    obtain ⟨x2, hx3, H⟩ := bd.of H
    obtain ⟨n4, hx3⟩ := lp.of hx3
    refine tMidNC (ι := { q : (Unit) × Unit // x2 = .inl q.1 }) (fun ψ => []) (fun ψ => []) ?_ ?_
    · refine Tr.block ?_
      refine tLoopC (ι := { q : Nat × (Int) × Unit // itr (p_laws_eqRowS_b0 v0 v1) q.1 q.2.1 = some x2 }) (fun ζ => [(0, .slice x_v0.1 v0.length x_v0.2), (1, .slice x_v1.1 v1.length x_v1.2), (5, .int .i64 (ζ.1.2.1))]) (fun ζ => []) (fun ζ => ζ.1.1) ⟨(n4, 0, ()), hx3⟩ ⟨rfl, rfl, rfl, trivial⟩ Take.nil ?_
      rintro ⟨⟨m5, σ6, z7⟩, hk12⟩
      obtain ⟨m13, t9, e, H1, hi10, hb11⟩ := itr.of (n := m5) (s := σ6) hk12
      subst e; unfold p_laws_eqRowS_b0 at H1
      show Tr _ _ _ _ _ [(0, .slice x_v0.1 v0.length x_v0.2), (1, .slice x_v1.1 v1.length x_v1.2), (5, .int .i64 (σ6))] _ []
      refine Tr.seq ?_
      refine Tr.seq ?_
      refine Tr.region ?_
      refine Rg.q (v := .int .i64 (σ6)) (Pu.qo (p_move rfl)) (by decide) ?_
      refine Rg.q (v := .slice x_v0.1 v0.length x_v0.2) (Pu.qo (p_move rfl)) (by decide) ?_
      refine Rg.q (v := .int .i64 ((v0.length : Int))) (Pu.qo (p_len 46 Try.underlying36 rfl)) (by decide) ?_
      refine Rg.q (v := .bool (decide (σ6 < (v0.length : Int)))) (Pu.qo (p_lss rfl rfl)) (by decide) ?_
      refine Rg.nl ?_
      refine nT (?_)
      refine Tr.cond (b := decide (σ6 < (v0.length : Int))) rfl (fun h14 => ?_) (fun h14 => ?_)
      · have H1 := cdT h14 H1
        refine tSkip ?_
        refine nT (?_)
        refine Tr.seq ?_
        refine Tr.block ?_
        refine Tr.seq ?_
        refine tLinS [(0, .slice x_v0.1 v0.length x_v0.2), (1, .slice x_v1.1 v1.length x_v1.2), (5, .int .i64 (σ6))] Try.mixed (.inr (by kernel_rfl)) ⟨rfl, rfl, rfl, trivial⟩ rfl ?_
        refine Lin.q (v := .slice x_v0.1 v0.length x_v0.2) (by decide) (Pu.qo (p_move rfl)) ?_
        refine Lin.q (v := .int .i64 (σ6)) (by decide) (Pu.qo (p_move rfl)) ?_
        obtain ⟨h15, H1⟩ := gd.of H1
        refine Lin.q (v := elp x_v0.1 (σ6.toNat * Enc.sz Row + 0)) (by decide) (q_ixg (l := v0) (E := fun i => Flat.enc (nth v0 i)) (oa := x_v0.1) Try.underlying36 ty46 rfl rfl h15 rfl (EntB.flat (Ent.b Ent.z))) ?_
        refine Lin.q (v := .agg #[.int .i64 ((nth v0 σ6.toNat).1), .int .i64 ((nth v0 σ6.toNat).2)]) (by decide) (q_ldeA (l := v0) (E := fun i => Flat.enc (nth v0 i)) (oa := x_v0.1) (i := σ6.toNat) ty46 rfl (EntB.flat (Ent.b Ent.z)) h15.lt) ?_
        refine Lin.q (v := .slice x_v1.1 v1.length x_v1.2) (by decide) (Pu.qo (p_move rfl)) ?_
        refine Lin.q (v := .int .i64 (σ6)) (by decide) (Pu.qo (p_move rfl)) ?_
        obtain ⟨h16, H1⟩ := gd.of H1
        refine Lin.q (v := elp x_v1.1 (σ6.toNat * Enc.sz Row + 0)) (by decide) (q_ixg (l := v1) (E := fun i => Flat.enc (nth v1 i)) (oa := x_v1.1) Try.underlying36 ty46 rfl rfl h16 rfl (EntB.flat (Ent.b Ent.z.s))) ?_
        refine Lin.q (v := .agg #[.int .i64 ((nth v1 σ6.toNat).1), .int .i64 ((nth v1 σ6.toNat).2)]) (by decide) (q_ldeA (l := v1) (E := fun i => Flat.enc (nth v1 i)) (oa := x_v1.1) (i := σ6.toNat) ty46 rfl (EntB.flat (Ent.b Ent.z.s)) h16.lt) ?_
        obtain ⟨r17, h18, H1⟩ := bd.of H1
        refine Lin.q (v := .bool (r17)) (by decide) (q_call (vs := [.agg #[.int .i64 ((nth v0 σ6.toNat).1), .int .i64 ((nth v0 σ6.toNat).2)], .agg #[.int .i64 ((nth v1 σ6.toNat).1), .int .i64 ((nth v1 σ6.toNat).2)]]) (c_laws_eqRow (nth v0 σ6.toNat) (nth v1 σ6.toNat) h18) rfl EntsB.nil) ?_
        refine Lin.q (v := .bool (!r17)) (by decide) (Pu.qo (p_not rfl)) ?_
        show At _ _ _ _ _ _
        refine nT (?_)
        refine Tr.cond (b := !r17) rfl (fun h19 => ?_) (fun h19 => ?_)
        · have H1 := cdT h19 H1
          refine Tr.seq ?_
          refine Tr.region ?_
          refine Rg.q (v := .bool (false)) (Pu.qo (p_assign rfl)) (by decide) ?_
          refine Rg.nl ?_
          refine nT (?_)
          refine tRet ?_
          refine rB (rT (rT (rB (rT (rT (?_))))))
          have hx := hb11 _ (Option.some.inj H1).symm; subst hx
          replace H := sw.r H
          have hr := Option.some.inj H; subst hr
          exact back1 () rfl (ResV.tmp (v := .bool (false)) rfl) rfl Ents.nil Take.nil
        · have H1 := cdF h19 H1
          refine tSkip ?_
          refine nB (nT (?_))
          refine Tr.region ?_
          refine Rg.q (v := .int .i64 (σ6)) (Pu.qo (p_move rfl)) (by decide) ?_
          obtain ⟨h20, H1⟩ := gd.of H1
          refine Rg.q (v := .int .i64 (σ6 + 1)) (Pu.qo (p_add rfl rfl h20)) (by decide) ?_
          refine Rg.q (v := .int .i64 (σ6 + 1)) (Pu.qo (p_assign rfl)) (by decide) ?_
          refine Rg.nl ?_
          exact nLC ⟨(m13, σ6 + 1, ()), hi10 _ (Option.some.inj H1).symm⟩ (Nat.lt_succ_self _) ⟨rfl, rfl, rfl, trivial⟩ Ents.refl Take.nil
      · have H1 := cdF h14 H1
        refine tExit (xT (xT (xE (?_))))
        exact nMC ⟨((), ()), (hb11 _ (Option.some.inj H1).symm).symm⟩ trivial Ents.refl Take.nil
    · rintro ⟨⟨e21, y8⟩, hx⟩; subst hx; replace H := sw.l H
      show At _ _ [] _ [] _
      refine nT (?_)
      refine Tr.seq ?_
      refine Tr.region ?_
      refine Rg.q (v := .bool (true)) (Pu.qo (p_assign rfl)) (by decide) ?_
      refine Rg.nl ?_
      refine nT (?_)
      refine tRet ?_
      have hr := Option.some.inj H; subst hr
      exact back1 () rfl (ResV.tmp (v := .bool (true)) rfl) rfl Ents.nil Take.nil
noncomputable def p_laws_eqRowSS_b0 (v0 : (List (List Row))) (v1 : (List (List Row))) (σ8 : Int) : Option ((Int) ⊕ (Unit ⊕ Bool)) := cond (decide (σ8 < (v0.length : Int))) (gd (ix σ8 v0.length) <| gd (ix σ8 v1.length) <| bd (p_laws_eqRowS (nth v0 σ8.toNat) (nth v1 σ8.toNat)) fun r19 => cond (!r19) (some (.inr (.inr false))) (gd (I64 (σ8 + 1)) <| some (.inl (σ8 + 1)))) (some (.inr (.inl ())))
noncomputable def p_laws_eqRowSS (v0 : (List (List Row))) (v1 : (List (List Row))) : Option (Bool) := cond (!decide ((v0.length : Int) = (v1.length : Int))) (some false) (bd (lp (p_laws_eqRowSS_b0 v0 v1) 0) <| sw (fun e23 => some true) (fun q => some q))
theorem c_laws_eqRowSS {r : Bool} (v0 : (List (List Row))) (x_v0 : Option Addr × Nat) (v1 : (List (List Row))) (x_v1 : Option Addr × Nat) (H : p_laws_eqRowSS v0 v1 = some r) : Fn' Try.prog 43 #[.slice x_v0.1 v0.length x_v0.2, .slice x_v1.1 v1.length x_v1.2] [imm (.slice x_v0.1 v0.length x_v0.2) v0, imm (.slice x_v1.1 v1.length x_v1.2) v1] [] (ι := Unit) (fun x => .bool (r)) (fun _ => []) (fun x => []) := by
  refine calls_of (args := [_, _]) Try.func43 rfl (by kernel_rfl) Try.ntmps43 (by simp) fun c => ?_
  unfold p_laws_eqRowSS at H
  refine Tr.openD Ent.z fun X1 => ?_
  refine Tr.openD Ent.z.s.s fun X2 => ?_
  refine Tr.seq ?_
  refine Tr.region ?_
  refine Rg.q (v := .bool (false)) (Pu.qo (p_assign rfl)) (by decide) ?_
  refine Rg.nl ?_
  refine nT (?_)
  refine Tr.seq ?_
  refine Tr.seq ?_
  refine Tr.region ?_
  refine Rg.q (v := .slice x_v0.1 v0.length x_v0.2) (Pu.qo (p_move rfl)) (by decide) ?_
  refine Rg.q (v := .int .i64 ((v0.length : Int))) (Pu.qo (p_len 36 Try.underlying24 rfl)) (by decide) ?_
  refine Rg.q (v := .slice x_v1.1 v1.length x_v1.2) (Pu.qo (p_move rfl)) (by decide) ?_
  refine Rg.q (v := .int .i64 ((v1.length : Int))) (Pu.qo (p_len 36 Try.underlying24 rfl)) (by decide) ?_
  refine Rg.q (v := .bool (!decide ((v0.length : Int) = (v1.length : Int)))) (Pu.qo (p_neq rfl rfl)) (by decide) ?_
  refine Rg.nl ?_
  refine nT (?_)
  refine Tr.cond (b := !decide ((v0.length : Int) = (v1.length : Int))) rfl (fun h3 => ?_) (fun h3 => ?_)
  · have H := cdT h3 H
    refine Tr.seq ?_
    refine Tr.region ?_
    refine Rg.q (v := .bool (false)) (Pu.qo (p_assign rfl)) (by decide) ?_
    refine Rg.nl ?_
    refine nT (?_)
    refine tRet ?_
    refine rT (?_)
    have hr := Option.some.inj H; subst hr
    exact back1 () rfl (ResV.tmp (v := .bool (false)) rfl) rfl Ents.nil Take.nil
  · have H := cdF h3 H
    refine tSkip ?_
    refine nT (?_)
    refine Tr.seq ?_
    refine Tr.seq ?_
    refine Tr.region ?_
    refine Rg.q (v := .int .i64 (0)) (Pu.qo (p_assign rfl)) (by decide) ?_
    refine Rg.nl ?_
    refine nT (?_)
    obtain ⟨x4, hx5, H⟩ := bd.of H
    obtain ⟨n6, hx5⟩ := lp.of hx5
    refine tMidNC (ι := { q : (Unit) × Unit // x4 = .inl q.1 }) (fun ψ => []) (fun ψ => []) ?_ ?_
    · refine Tr.block ?_
      refine tLoopC (ι := { q : Nat × (Int) × Unit // itr (p_laws_eqRowSS_b0 v0 v1) q.1 q.2.1 = some x4 }) (fun ζ => [(0, .slice x_v0.1 v0.length x_v0.2), (1, .slice x_v1.1 v1.length x_v1.2), (5, .int .i64 (ζ.1.2.1))]) (fun ζ => []) (fun ζ => ζ.1.1) ⟨(n6, 0, ()), hx5⟩ ⟨rfl, rfl, rfl, trivial⟩ Take.nil ?_
      rintro ⟨⟨m7, σ8, z9⟩, hk14⟩
      obtain ⟨m15, t11, e, H1, hi12, hb13⟩ := itr.of (n := m7) (s := σ8) hk14
      subst e; unfold p_laws_eqRowSS_b0 at H1
      show Tr _ _ _ _ _ [(0, .slice x_v0.1 v0.length x_v0.2), (1, .slice x_v1.1 v1.length x_v1.2), (5, .int .i64 (σ8))] _ []
      refine Tr.seq ?_
      refine Tr.seq ?_
      refine Tr.region ?_
      refine Rg.q (v := .int .i64 (σ8)) (Pu.qo (p_move rfl)) (by decide) ?_
      refine Rg.q (v := .slice x_v0.1 v0.length x_v0.2) (Pu.qo (p_move rfl)) (by decide) ?_
      refine Rg.q (v := .int .i64 ((v0.length : Int))) (Pu.qo (p_len 36 Try.underlying24 rfl)) (by decide) ?_
      refine Rg.q (v := .bool (decide (σ8 < (v0.length : Int)))) (Pu.qo (p_lss rfl rfl)) (by decide) ?_
      refine Rg.nl ?_
      refine nT (?_)
      refine Tr.cond (b := decide (σ8 < (v0.length : Int))) rfl (fun h16 => ?_) (fun h16 => ?_)
      · have H1 := cdT h16 H1
        refine tSkip ?_
        refine nT (?_)
        refine Tr.seq ?_
        refine Tr.block ?_
        refine Tr.seq ?_
        refine tLinS [(0, .slice x_v0.1 v0.length x_v0.2), (1, .slice x_v1.1 v1.length x_v1.2), (5, .int .i64 (σ8))] Try.mixed (.inr (by kernel_rfl)) ⟨rfl, rfl, rfl, trivial⟩ rfl ?_
        refine Lin.q (v := .slice x_v0.1 v0.length x_v0.2) (by decide) (Pu.qo (p_move rfl)) ?_
        refine Lin.q (v := .int .i64 (σ8)) (by decide) (Pu.qo (p_move rfl)) ?_
        obtain ⟨h17, H1⟩ := gd.of H1
        refine Lin.q (v := elp x_v0.1 (σ8.toNat * Enc.sz (List Row) + 0)) (by decide) (q_ixg (l := v0) (E := fun i => Dp.denc (nth v0 i) (X1 i)) (oa := x_v0.1) Try.underlying24 ty36 rfl rfl h17 rfl (Ent.b (Ent.darr Ent.z.s))) ?_
        refine Lin.q (v := .slice ((X1 σ8.toNat).1) ((nth v0 σ8.toNat).length) ((X1 σ8.toNat).2.1)) (by decide) (q_lde (l := v0) (E := fun i => Dp.denc (nth v0 i) (X1 i)) (oa := x_v0.1) (i := σ8.toNat) (j := 0) ty36 rfl (Ent.b (Ent.darr Ent.z.s)) h17.lt rfl) ?_
        refine Lin.q (v := .slice x_v1.1 v1.length x_v1.2) (by decide) (Pu.qo (p_move rfl)) ?_
        refine Lin.q (v := .int .i64 (σ8)) (by decide) (Pu.qo (p_move rfl)) ?_
        obtain ⟨h18, H1⟩ := gd.of H1
        refine Lin.q (v := elp x_v1.1 (σ8.toNat * Enc.sz (List Row) + 0)) (by decide) (q_ixg (l := v1) (E := fun i => Dp.denc (nth v1 i) (X2 i)) (oa := x_v1.1) Try.underlying24 ty36 rfl rfl h18 rfl (Ent.b (Ent.darr Ent.z))) ?_
        refine Lin.q (v := .slice ((X2 σ8.toNat).1) ((nth v1 σ8.toNat).length) ((X2 σ8.toNat).2.1)) (by decide) (q_lde (l := v1) (E := fun i => Dp.denc (nth v1 i) (X2 i)) (oa := x_v1.1) (i := σ8.toNat) (j := 0) ty36 rfl (Ent.b (Ent.darr Ent.z)) h18.lt rfl) ?_
        obtain ⟨r19, h20, H1⟩ := bd.of H1
        refine Lin.q (v := .bool (r19)) (by decide) (q_call (vs := [.slice ((X1 σ8.toNat).1) ((nth v0 σ8.toNat).length) ((X1 σ8.toNat).2.1), .slice ((X2 σ8.toNat).1) ((nth v1 σ8.toNat).length) ((X2 σ8.toNat).2.1)]) (c_laws_eqRowS (nth v0 σ8.toNat) ((X1 σ8.toNat).1, (X1 σ8.toNat).2.1) (nth v1 σ8.toNat) ((X2 σ8.toNat).1, (X2 σ8.toNat).2.1) h20) rfl (EntsB.cons (Ent.b (Ent.dimm (Ent.del Ent.z.s h17.lt))) (EntsB.cons (Ent.b (Ent.dimm (Ent.del Ent.z h18.lt))) EntsB.nil))) ?_
        refine Lin.q (v := .bool (!r19)) (by decide) (Pu.qo (p_not rfl)) ?_
        show At _ _ _ _ _ _
        refine nT (?_)
        refine Tr.cond (b := !r19) rfl (fun h21 => ?_) (fun h21 => ?_)
        · have H1 := cdT h21 H1
          refine Tr.seq ?_
          refine Tr.region ?_
          refine Rg.q (v := .bool (false)) (Pu.qo (p_assign rfl)) (by decide) ?_
          refine Rg.nl ?_
          refine nT (?_)
          refine tRet ?_
          refine rB (rT (rT (rB (rT (rT (?_))))))
          have hx := hb13 _ (Option.some.inj H1).symm; subst hx
          replace H := sw.r H
          have hr := Option.some.inj H; subst hr
          exact back1 () rfl (ResV.tmp (v := .bool (false)) rfl) rfl Ents.nil Take.nil
        · have H1 := cdF h21 H1
          refine tSkip ?_
          refine nB (nT (?_))
          refine Tr.region ?_
          refine Rg.q (v := .int .i64 (σ8)) (Pu.qo (p_move rfl)) (by decide) ?_
          obtain ⟨h22, H1⟩ := gd.of H1
          refine Rg.q (v := .int .i64 (σ8 + 1)) (Pu.qo (p_add rfl rfl h22)) (by decide) ?_
          refine Rg.q (v := .int .i64 (σ8 + 1)) (Pu.qo (p_assign rfl)) (by decide) ?_
          refine Rg.nl ?_
          exact nLC ⟨(m15, σ8 + 1, ()), hi12 _ (Option.some.inj H1).symm⟩ (Nat.lt_succ_self _) ⟨rfl, rfl, rfl, trivial⟩ Ents.refl Take.nil
      · have H1 := cdF h16 H1
        refine tExit (xT (xT (xE (?_))))
        exact nMC ⟨((), ()), (hb13 _ (Option.some.inj H1).symm).symm⟩ trivial Ents.refl Take.nil
    · rintro ⟨⟨e23, y10⟩, hx⟩; subst hx; replace H := sw.l H
      show At _ _ [] _ [] _
      refine nT (?_)
      refine Tr.seq ?_
      refine Tr.region ?_
      refine Rg.q (v := .bool (true)) (Pu.qo (p_assign rfl)) (by decide) ?_
      refine Rg.nl ?_
      refine nT (?_)
      refine tRet ?_
      have hr := Option.some.inj H; subst hr
      exact back1 () rfl (ResV.tmp (v := .bool (true)) rfl) rfl Ents.nil Take.nil
noncomputable def p_laws_eqPart (v0 : Part) (v1 : Part) : Option (Bool) := bd (p_laws_eqIntS v0.1 v1.1) fun r5 => cond (!r5) (some false) (bd (p_laws_eqRowSS v0.2 v1.2) fun r8 => cond (!r8) (some false) (some true))
theorem c_laws_eqPart {r : Bool} (v0 : Part) (x_v0 : (Option Addr × Nat) × (Option Addr × Nat)) (v1 : Part) (x_v1 : (Option Addr × Nat) × (Option Addr × Nat)) (H : p_laws_eqPart v0 v1 = some r) : Fn' Try.prog 25 #[.agg #[.slice x_v0.1.1 v0.1.length x_v0.1.2, .slice x_v0.2.1 v0.2.length x_v0.2.2], .agg #[.slice x_v1.1.1 v1.1.length x_v1.1.2, .slice x_v1.2.1 v1.2.length x_v1.2.2]] [imm (.slice x_v0.1.1 v0.1.length x_v0.1.2) v0.1, imm (.slice x_v0.2.1 v0.2.length x_v0.2.2) v0.2, imm (.slice x_v1.1.1 v1.1.length x_v1.1.2) v1.1, imm (.slice x_v1.2.1 v1.2.length x_v1.2.2) v1.2] [] (ι := Unit) (fun x => .bool (r)) (fun _ => []) (fun x => []) := by
  refine calls_of (args := [_, _]) Try.func25 rfl (by kernel_rfl) Try.ntmps25 (by simp) fun c => ?_
  unfold p_laws_eqPart at H
  refine Tr.openD Ent.z.s fun X1 => ?_
  refine Tr.openD Ent.z.s.s.s.s fun X2 => ?_
  refine Tr.seq ?_
  refine Tr.region ?_
  refine Rg.ed (e_box (t := 26) (v := .agg #[.slice x_v0.1.1 v0.1.length x_v0.1.2, .slice x_v0.2.1 v0.2.length x_v0.2.2]) rfl) rfl (by decide) ?_
  rintro _ _ _ ⟨g3, rfl, rfl, rfl⟩
  refine Rg.ed (e_box (t := 26) (v := .agg #[.slice x_v1.1.1 v1.1.length x_v1.1.2, .slice x_v1.2.1 v1.2.length x_v1.2.2]) rfl) rfl (by decide) ?_
  rintro _ _ _ ⟨g4, rfl, rfl, rfl⟩
  refine Rg.q (v := .bool (false)) (Pu.qo (p_assign rfl)) (by decide) ?_
  refine Rg.nl ?_
  refine nT (?_)
  refine Tr.seq ?_
  refine Tr.seq ?_
  refine Tr.region ?_
  refine Rg.q (v := .pointer (some ⟨g3, 0, none⟩)) (Pu.qo (p_fabE fa26_0 rfl rfl)) (by decide) ?_
  refine Rg.q (v := .slice x_v0.1.1 v0.1.length x_v0.1.2) (q_ldb ty23 rfl Has.here.there rfl) (by decide) ?_
  refine Rg.q (v := .pointer (some ⟨g4, 0, none⟩)) (Pu.qo (p_fabE fa26_0 rfl rfl)) (by decide) ?_
  refine Rg.q (v := .slice x_v1.1.1 v1.1.length x_v1.1.2) (q_ldb ty23 rfl Has.here rfl) (by decide) ?_
  obtain ⟨r5, h6, H⟩ := bd.of H
  refine Rg.q (v := .bool (r5)) (q_call (vs := [.slice x_v0.1.1 v0.1.length x_v0.1.2, .slice x_v1.1.1 v1.1.length x_v1.1.2]) (c_laws_eqIntS v0.1 x_v0.1 v1.1 x_v1.1 h6) rfl (EntsB.cons (Ent.b Ent.z.s.s) (EntsB.cons (Ent.b Ent.z.s.s.s.s) EntsB.nil))) (by decide) ?_
  refine Rg.q (v := .bool (!r5)) (Pu.qo (p_not rfl)) (by decide) ?_
  refine Rg.nl ?_
  refine nT (?_)
  refine Tr.cond (b := !r5) rfl (fun h7 => ?_) (fun h7 => ?_)
  · have H := cdT h7 H
    refine Tr.seq ?_
    refine Tr.region ?_
    refine Rg.q (v := .bool (false)) (Pu.qo (p_assign rfl)) (by decide) ?_
    refine Rg.nl ?_
    refine nT (?_)
    refine tRet ?_
    refine rT (?_)
    have hr := Option.some.inj H; subst hr
    exact back1 () rfl (ResV.tmp (v := .bool (false)) rfl) rfl Ents.nil Take.nil
  · have H := cdF h7 H
    refine tSkip ?_
    refine nT (?_)
    refine Tr.seq ?_
    refine Tr.seq ?_
    refine Tr.region ?_
    refine Rg.q (v := .pointer (some ⟨g3, 1, none⟩)) (Pu.qo (p_fabE fa26_1 rfl rfl)) (by decide) ?_
    refine Rg.q (v := .slice x_v0.2.1 v0.2.length x_v0.2.2) (q_ldb ty24 rfl Has.here.there rfl) (by decide) ?_
    refine Rg.q (v := .pointer (some ⟨g4, 1, none⟩)) (Pu.qo (p_fabE fa26_1 rfl rfl)) (by decide) ?_
    refine Rg.q (v := .slice x_v1.2.1 v1.2.length x_v1.2.2) (q_ldb ty24 rfl Has.here rfl) (by decide) ?_
    obtain ⟨r8, h9, H⟩ := bd.of H
    refine Rg.q (v := .bool (r8)) (q_call (vs := [.slice x_v0.2.1 v0.2.length x_v0.2.2, .slice x_v1.2.1 v1.2.length x_v1.2.2]) (c_laws_eqRowSS v0.2 x_v0.2 v1.2 x_v1.2 h9) rfl (EntsB.cons (Ent.b (Ent.dimm Ent.z.s)) (EntsB.cons (Ent.b (Ent.dimm Ent.z)) EntsB.nil))) (by decide) ?_
    refine Rg.q (v := .bool (!r8)) (Pu.qo (p_not rfl)) (by decide) ?_
    refine Rg.nl ?_
    refine nT (?_)
    refine Tr.cond (b := !r8) rfl (fun h10 => ?_) (fun h10 => ?_)
    · have H := cdT h10 H
      refine Tr.seq ?_
      refine Tr.region ?_
      refine Rg.q (v := .bool (false)) (Pu.qo (p_assign rfl)) (by decide) ?_
      refine Rg.nl ?_
      refine nT (?_)
      refine tRet ?_
      refine rT (?_)
      have hr := Option.some.inj H; subst hr
      exact back1 () rfl (ResV.tmp (v := .bool (false)) rfl) rfl Ents.nil Take.nil
    · have H := cdF h10 H
      refine tSkip ?_
      refine nT (?_)
      refine Tr.seq ?_
      refine Tr.region ?_
      refine Rg.q (v := .bool (true)) (Pu.qo (p_assign rfl)) (by decide) ?_
      refine Rg.nl ?_
      refine nT (?_)
      refine tRet ?_
      have hr := Option.some.inj H; subst hr
      exact back1 () rfl (ResV.tmp (v := .bool (true)) rfl) rfl Ents.nil Take.nil
noncomputable def p_laws_markIntS_b0 (v0 : (List Int)) (σ5 : (List Int) × Int × Int) : Option (((List Int) × Int × Int) ⊕ (Int × (List Int))) := cond (decide (σ5.2.2 < (v0.length : Int))) (gd (ix σ5.2.2 σ5.1.length) <| gd (I64 (σ5.2.1 + 1)) <| gd (I64 (σ5.2.2 + 1)) <| some (.inl ((σ5.1.set σ5.2.2.toNat σ5.2.1), σ5.2.1 + 1, σ5.2.2 + 1))) (some (.inr (σ5.2.1, σ5.1)))
noncomputable def p_laws_markIntS (v0 : (List Int)) (v1 : Int) : Option (Int × (List Int)) := bd (lp (p_laws_markIntS_b0 v0) (v0, v1, 0)) fun x1 => some (x1.1, x1.2)
theorem c_laws_markIntS {r : Int × (List Int)} (v0 : (List Int)) (x_v0 : Option Addr × Nat) (v1 : Int) (H : p_laws_markIntS v0 v1 = some r) : Fn' Try.prog 44 #[.slice x_v0.1 v0.length x_v0.2, .int .i64 (v1)] [] [tree (.slice x_v0.1 v0.length x_v0.2) v0] (ι := Unit) (fun x => .int .i64 (r.1)) (fun _ => []) (fun x => [tree (.slice x_v0.1 v0.length x_v0.2) r.2]) := by
  refine calls_of (args := [_, _]) Try.func44 rfl (by kernel_rfl) Try.ntmps44 (by simp) fun c => ?_
  unfold p_laws_markIntS at H
  refine Tr.seq ?_
  refine Tr.region ?_
  refine Rg.q (v := .int .i64 (0)) (Pu.qo (p_assign rfl)) (by decide) ?_
  refine Rg.nl ?_
  refine nT (?_)
  refine Tr.seq ?_
  refine Tr.seq ?_
  refine Tr.region ?_
  refine Rg.q (v := .int .i64 (0)) (Pu.qo (p_assign rfl)) (by decide) ?_
  refine Rg.nl ?_
  refine nT (?_)
  obtain ⟨x1, hx2, H⟩ := bd.of H
  obtain ⟨n3, hx2⟩ := lp.of hx2
  refine tMidNC (ι := Unit) (fun ψ => [(1, .int .i64 (x1.1))]) (fun ψ => [tree (.slice x_v0.1 v0.length x_v0.2) x1.2]) ?_ ?_
  · refine Tr.block ?_
    refine tLoopC (ι := { q : Nat × ((List Int) × Int × Int) × Unit // itr (p_laws_markIntS_b0 v0) q.1 q.2.1 = some x1 }) (fun ζ => [(0, .slice x_v0.1 v0.length x_v0.2), (1, .int .i64 (ζ.1.2.1.2.1)), (5, .int .i64 (ζ.1.2.1.2.2))]) (fun ζ => [tree (.slice x_v0.1 v0.length x_v0.2) ζ.1.2.1.1]) (fun ζ => ζ.1.1) ⟨(n3, (v0, v1, 0), ()), hx2⟩ ⟨rfl, rfl, rfl, trivial⟩ (.cons Del.here .nil) ?_
    rintro ⟨⟨m4, σ5, z6⟩, hk11⟩
    obtain ⟨m12, t8, e, H1, hi9, hb10⟩ := itr.of (n := m4) (s := σ5) hk11
    subst e; unfold p_laws_markIntS_b0 at H1
    show Tr _ _ _ _ _ [(0, .slice x_v0.1 v0.length x_v0.2), (1, .int .i64 (σ5.2.1)), (5, .int .i64 (σ5.2.2))] _ [tree (.slice x_v0.1 v0.length x_v0.2) σ5.1]
    refine Tr.seq ?_
    refine Tr.seq ?_
    refine Tr.region ?_
    refine Rg.q (v := .int .i64 (σ5.2.2)) (Pu.qo (p_move rfl)) (by decide) ?_
    refine Rg.q (v := .slice x_v0.1 v0.length x_v0.2) (Pu.qo (p_move rfl)) (by decide) ?_
    refine Rg.q (v := .int .i64 ((v0.length : Int))) (Pu.qo (p_len 3 Try.underlying23 rfl)) (by decide) ?_
    refine Rg.q (v := .bool (decide (σ5.2.2 < (v0.length : Int)))) (Pu.qo (p_lss rfl rfl)) (by decide) ?_
    refine Rg.nl ?_
    refine nT (?_)
    refine Tr.cond (b := decide (σ5.2.2 < (v0.length : Int))) rfl (fun h13 => ?_) (fun h13 => ?_)
    · have H1 := cdT h13 H1
      refine tSkip ?_
      refine nT (?_)
      refine Tr.seq ?_
      refine Tr.block ?_
      refine Tr.seq ?_
      refine Tr.region ?_
      refine Rg.q (v := .slice x_v0.1 v0.length x_v0.2) (Pu.qo (p_move rfl)) (by decide) ?_
      refine Rg.q (v := .int .i64 (σ5.2.2)) (Pu.qo (p_move rfl)) (by decide) ?_
      refine Rg.q (v := .int .i64 (σ5.2.1)) (Pu.qo (p_move rfl)) (by decide) ?_
      obtain ⟨h14, H1⟩ := gd.of H1
      refine Rg.q (v := elp x_v0.1 (σ5.2.2.toNat * Enc.sz Int + 0)) (q_ixO' Try.underlying23 ty3 rfl rfl h14 Has.here) (by decide) ?_
      refine Rg.en (e_setT (l := σ5.1) (α := Int) (oa := x_v0.1) σ5.2.2.toNat σ5.2.1 () ty3 rfl rfl rfl h14.lt (ShpT.wfa _) (.cons Del.here .nil)) rfl ?_
      rintro _ _ _ ⟨rfl, rfl, rfl⟩
      refine Rg.nl ?_
      refine nT (?_)
      refine Tr.region ?_
      refine Rg.q (v := .int .i64 (σ5.2.1)) (Pu.qo (p_move rfl)) (by decide) ?_
      obtain ⟨h15, H1⟩ := gd.of H1
      refine Rg.q (v := .int .i64 (σ5.2.1 + 1)) (Pu.qo (p_add rfl rfl h15)) (by decide) ?_
      refine Rg.q (v := .int .i64 (σ5.2.1 + 1)) (Pu.qo (p_assign rfl)) (by decide) ?_
      refine Rg.nl ?_
      refine nB (nT (?_))
      refine Tr.region ?_
      refine Rg.q (v := .int .i64 (σ5.2.2)) (Pu.qo (p_move rfl)) (by decide) ?_
      obtain ⟨h16, H1⟩ := gd.of H1
      refine Rg.q (v := .int .i64 (σ5.2.2 + 1)) (Pu.qo (p_add rfl rfl h16)) (by decide) ?_
      refine Rg.q (v := .int .i64 (σ5.2.2 + 1)) (Pu.qo (p_assign rfl)) (by decide) ?_
      refine Rg.nl ?_
      exact nLC ⟨(m12, ((σ5.1.set σ5.2.2.toNat σ5.2.1), σ5.2.1 + 1, σ5.2.2 + 1), ()), hi9 _ (Option.some.inj H1).symm⟩ (Nat.lt_succ_self _) ⟨rfl, rfl, rfl, trivial⟩ Ents.refl (.cons Del.here .nil)
    · have H1 := cdF h13 H1
      refine tExit (xT (xT (xE (?_))))
      have hx := hb10 _ (Option.some.inj H1).symm; subst hx
      exact nMC () ⟨rfl, trivial⟩ Ents.refl (.cons Del.here .nil)
  · intro y7
    show At _ _ [(1, .int .i64 (x1.1))] _ [tree (.slice x_v0.1 v0.length x_v0.2) x1.2] _
    refine nT (?_)
    refine Tr.seq ?_
    refine Tr.region ?_
    refine Rg.q (v := .int .i64 (x1.1)) (Pu.qo (p_move rfl)) (by decide) ?_
    refine Rg.q (v := .int .i64 (x1.1)) (Pu.qo (p_assign rfl)) (by decide) ?_
    refine Rg.nl ?_
    refine nT (?_)
    refine tRet ?_
    have hr := Option.some.inj H; subst hr
    exact back1 () rfl (ResV.tmp (v := .int .i64 (x1.1)) rfl) rfl Ents.nil (.cons Del.here .nil)
noncomputable def p_laws_markRowS_b0 (v0 : (List Row)) (σ5 : (List Row) × Int × Int) : Option (((List Row) × Int × Int) ⊕ (Int × (List Row))) := cond (decide (σ5.2.2 < (v0.length : Int))) (gd (ix σ5.2.2 σ5.1.length) <| gd (I64 (σ5.2.1 + 1)) <| gd (I64 ((σ5.2.1 + 1) + 1)) <| gd (I64 (σ5.2.2 + 1)) <| some (.inl ((σ5.1.set σ5.2.2.toNat (σ5.2.1, (σ5.2.1 + 1))), (σ5.2.1 + 1) + 1, σ5.2.2 + 1))) (some (.inr (σ5.2.1, σ5.1)))
noncomputable def p_laws_markRowS (v0 : (List Row)) (v1 : Int) : Option (Int × (List Row)) := bd (lp (p_laws_markRowS_b0 v0) (v0, v1, 0)) fun x1 => some (x1.1, x1.2)
theorem c_laws_markRowS {r : Int × (List Row)} (v0 : (List Row)) (x_v0 : Option Addr × Nat) (v1 : Int) (H : p_laws_markRowS v0 v1 = some r) : Fn' Try.prog 59 #[.slice x_v0.1 v0.length x_v0.2, .int .i64 (v1)] [] [tree (.slice x_v0.1 v0.length x_v0.2) v0] (ι := Unit) (fun x => .int .i64 (r.1)) (fun _ => []) (fun x => [tree (.slice x_v0.1 v0.length x_v0.2) r.2]) := by
  refine calls_of (args := [_, _]) Try.func59 rfl (by kernel_rfl) Try.ntmps59 (by simp) fun c => ?_
  unfold p_laws_markRowS at H
  refine Tr.seq ?_
  refine Tr.region ?_
  refine Rg.q (v := .int .i64 (0)) (Pu.qo (p_assign rfl)) (by decide) ?_
  refine Rg.nl ?_
  refine nT (?_)
  refine Tr.seq ?_
  refine Tr.seq ?_
  refine Tr.region ?_
  refine Rg.q (v := .int .i64 (0)) (Pu.qo (p_assign rfl)) (by decide) ?_
  refine Rg.nl ?_
  refine nT (?_)
  obtain ⟨x1, hx2, H⟩ := bd.of H
  obtain ⟨n3, hx2⟩ := lp.of hx2
  refine tMidNC (ι := Unit) (fun ψ => [(1, .int .i64 (x1.1))]) (fun ψ => [tree (.slice x_v0.1 v0.length x_v0.2) x1.2]) ?_ ?_
  · refine Tr.block ?_
    refine tLoopC (ι := { q : Nat × ((List Row) × Int × Int) × Unit // itr (p_laws_markRowS_b0 v0) q.1 q.2.1 = some x1 }) (fun ζ => [(0, .slice x_v0.1 v0.length x_v0.2), (1, .int .i64 (ζ.1.2.1.2.1)), (5, .int .i64 (ζ.1.2.1.2.2))]) (fun ζ => [tree (.slice x_v0.1 v0.length x_v0.2) ζ.1.2.1.1]) (fun ζ => ζ.1.1) ⟨(n3, (v0, v1, 0), ()), hx2⟩ ⟨rfl, rfl, rfl, trivial⟩ (.cons Del.here .nil) ?_
    rintro ⟨⟨m4, σ5, z6⟩, hk11⟩
    obtain ⟨m12, t8, e, H1, hi9, hb10⟩ := itr.of (n := m4) (s := σ5) hk11
    subst e; unfold p_laws_markRowS_b0 at H1
    show Tr _ _ _ _ _ [(0, .slice x_v0.1 v0.length x_v0.2), (1, .int .i64 (σ5.2.1)), (5, .int .i64 (σ5.2.2))] _ [tree (.slice x_v0.1 v0.length x_v0.2) σ5.1]
    refine Tr.seq ?_
    refine Tr.seq ?_
    refine Tr.region ?_
    refine Rg.q (v := .int .i64 (σ5.2.2)) (Pu.qo (p_move rfl)) (by decide) ?_
    refine Rg.q (v := .slice x_v0.1 v0.length x_v0.2) (Pu.qo (p_move rfl)) (by decide) ?_
    refine Rg.q (v := .int .i64 ((v0.length : Int))) (Pu.qo (p_len 46 Try.underlying36 rfl)) (by decide) ?_
    refine Rg.q (v := .bool (decide (σ5.2.2 < (v0.length : Int)))) (Pu.qo (p_lss rfl rfl)) (by decide) ?_
    refine Rg.nl ?_
    refine nT (?_)
    refine Tr.cond (b := decide (σ5.2.2 < (v0.length : Int))) rfl (fun h13 => ?_) (fun h13 => ?_)
    · have H1 := cdT h13 H1
      refine tSkip ?_
      refine nT (?_)
      refine Tr.seq ?_
      refine Tr.block ?_
      refine Tr.seq ?_
      obtain ⟨h14, H1⟩ := gd.of H1
      refine Tr.zoom (k := σ5.2.2.toNat) h14.lt (.cons Del.here .nil) fun x15 => ?_
      show Tr _ _ _ _ _ _ _ (hole (.slice x_v0.1 v0.length x_v0.2) σ5.1 σ5.2.2.toNat [.int .i64 ((nth σ5.1 σ5.2.2.toNat).1), .int .i64 ((nth σ5.1 σ5.2.2.toNat).2)] :: _)
      refine Tr.region ?_
      refine Rg.q (v := .slice x_v0.1 v0.length x_v0.2) (Pu.qo (p_move rfl)) (by decide) ?_
      refine Rg.q (v := .int .i64 (σ5.2.2)) (Pu.qo (p_move rfl)) (by decide) ?_
      refine Rg.q (v := .int .i64 (σ5.2.1)) (Pu.qo (p_move rfl)) (by decide) ?_
      refine Rg.q (v := elp x_v0.1 (σ5.2.2.toNat * Enc.sz Row + 0)) (q_ixH (k := σ5.2.2.toNat) Try.underlying36 ty46 rfl rfl h14 rfl Has.here) (by decide) ?_
      refine Rg.q (v := elp x_v0.1 (σ5.2.2.toNat * Enc.sz Row + 0)) (q_faH (j := 0) (i := σ5.2.2.toNat) fa46_0 rfl Has.here rfl) (by decide) ?_
      refine Rg.en (e_stH (v := .int .i64 (σ5.2.1)) (i := σ5.2.2.toNat) (j := 0) (cs' := [.int .i64 (σ5.2.1), .int .i64 ((nth σ5.1 σ5.2.2.toNat).2)]) ty3 rfl rfl (.cons Del.here .nil) rfl (by simp [Value.cells, Value.oneCell']) (Nat.le_of_ble_eq_true rfl) rfl rfl) rfl ?_
      rintro _ _ _ ⟨rfl, rfl, rfl⟩
      refine Rg.nl ?_
      refine nT (?_)
      refine Tr.seq ?_
      refine Tr.region ?_
      refine Rg.q (v := .int .i64 (σ5.2.1)) (Pu.qo (p_move rfl)) (by decide) ?_
      obtain ⟨h16, H1⟩ := gd.of H1
      refine Rg.q (v := .int .i64 (σ5.2.1 + 1)) (Pu.qo (p_add rfl rfl h16)) (by decide) ?_
      refine Rg.q (v := .int .i64 (σ5.2.1 + 1)) (Pu.qo (p_assign rfl)) (by decide) ?_
      refine Rg.nl ?_
      refine nT (?_)
      refine Tr.seq ?_
      refine Tr.region ?_
      refine Rg.q (v := .slice x_v0.1 v0.length x_v0.2) (Pu.qo (p_move rfl)) (by decide) ?_
      refine Rg.q (v := .int .i64 (σ5.2.2)) (Pu.qo (p_move rfl)) (by decide) ?_
      refine Rg.q (v := .int .i64 (σ5.2.1 + 1)) (Pu.qo (p_move rfl)) (by decide) ?_
      refine Rg.q (v := elp x_v0.1 (σ5.2.2.toNat * Enc.sz Row + 0)) (q_ixH (k := σ5.2.2.toNat) Try.underlying36 ty46 rfl rfl h14 rfl Has.here) (by decide) ?_
      refine Rg.q (v := elp x_v0.1 (σ5.2.2.toNat * Enc.sz Row + 1)) (q_faH (j := 0) (i := σ5.2.2.toNat) fa46_1 rfl Has.here rfl) (by decide) ?_
      refine Rg.en (e_stH (v := .int .i64 (σ5.2.1 + 1)) (i := σ5.2.2.toNat) (j := 1) (cs' := [.int .i64 (σ5.2.1), .int .i64 (σ5.2.1 + 1)]) ty3 rfl rfl (.cons Del.here .nil) rfl (by simp [Value.cells, Value.oneCell']) (Nat.le_of_ble_eq_true rfl) rfl rfl) rfl ?_
      rintro _ _ _ ⟨rfl, rfl, rfl⟩
      refine Rg.nl ?_
      refine nT (?_)
      refine Tr.region ?_
      refine Rg.q (v := .int .i64 (σ5.2.1 + 1)) (Pu.qo (p_move rfl)) (by decide) ?_
      obtain ⟨h17, H1⟩ := gd.of H1
      refine Rg.q (v := .int .i64 ((σ5.2.1 + 1) + 1)) (Pu.qo (p_add rfl rfl h17)) (by decide) ?_
      refine Rg.q (v := .int .i64 ((σ5.2.1 + 1) + 1)) (Pu.qo (p_assign rfl)) (by decide) ?_
      refine Rg.nl ?_
      refine nB (nT (?_))
      refine Tr.region ?_
      refine Rg.q (v := .int .i64 (σ5.2.2)) (Pu.qo (p_move rfl)) (by decide) ?_
      obtain ⟨h18, H1⟩ := gd.of H1
      refine Rg.q (v := .int .i64 (σ5.2.2 + 1)) (Pu.qo (p_add rfl rfl h18)) (by decide) ?_
      refine Rg.q (v := .int .i64 (σ5.2.2 + 1)) (Pu.qo (p_assign rfl)) (by decide) ?_
      refine Rg.nl ?_
      refine At.unzoom (σ5.2.1, (σ5.2.1 + 1)) ((), ()) rfl (.cons Del.here .nil) ?_
      exact nLC ⟨(m12, ((σ5.1.set σ5.2.2.toNat (σ5.2.1, (σ5.2.1 + 1))), (σ5.2.1 + 1) + 1, σ5.2.2 + 1), ()), hi9 _ (Option.some.inj H1).symm⟩ (Nat.lt_succ_self _) ⟨rfl, rfl, rfl, trivial⟩ Ents.refl (.cons Del.here .nil)
    · have H1 := cdF h13 H1
      refine tExit (xT (xT (xE (?_))))
      have hx := hb10 _ (Option.some.inj H1).symm; subst hx
      exact nMC () ⟨rfl, trivial⟩ Ents.refl (.cons Del.here .nil)
  · intro y7
    show At _ _ [(1, .int .i64 (x1.1))] _ [tree (.slice x_v0.1 v0.length x_v0.2) x1.2] _
    refine nT (?_)
    refine Tr.seq ?_
    refine Tr.region ?_
    refine Rg.q (v := .int .i64 (x1.1)) (Pu.qo (p_move rfl)) (by decide) ?_
    refine Rg.q (v := .int .i64 (x1.1)) (Pu.qo (p_assign rfl)) (by decide) ?_
    refine Rg.nl ?_
    refine nT (?_)
    refine tRet ?_
    have hr := Option.some.inj H; subst hr
    exact back1 () rfl (ResV.tmp (v := .int .i64 (x1.1)) rfl) rfl Ents.nil (.cons Del.here .nil)
noncomputable def p_laws_markRowSS_b0 (v0 : (List (List Row))) (σ5 : (List (List Row)) × Int × Int) : Option (((List (List Row)) × Int × Int) ⊕ (Int × (List (List Row)))) := cond (decide (σ5.2.2 < (v0.length : Int))) (gd (ix σ5.2.2 σ5.1.length) <| bd (p_laws_markRowS (nth σ5.1 σ5.2.2.toNat) σ5.2.1) fun r16 => gd (I64 (σ5.2.2 + 1)) <| some (.inl ((σ5.1.set σ5.2.2.toNat r16.2), r16.1, σ5.2.2 + 1))) (some (.inr (σ5.2.1, σ5.1)))
noncomputable def p_laws_markRowSS (v0 : (List (List Row))) (v1 : Int) : Option (Int × (List (List Row))) := bd (lp (p_laws_markRowSS_b0 v0) (v0, v1, 0)) fun x1 => some (x1.1, x1.2)
theorem c_laws_markRowSS {r : Int × (List (List Row))} (v0 : (List (List Row))) (x_v0 : Option Addr × Nat) (v1 : Int) (H : p_laws_markRowSS v0 v1 = some r) : Fn' Try.prog 45 #[.slice x_v0.1 v0.length x_v0.2, .int .i64 (v1)] [] [tree (.slice x_v0.1 v0.length x_v0.2) v0] (ι := Unit) (fun x => .int .i64 (r.1)) (fun _ => []) (fun x => [tree (.slice x_v0.1 v0.length x_v0.2) r.2]) := by
  refine calls_of (args := [_, _]) Try.func45 rfl (by kernel_rfl) Try.ntmps45 (by simp) fun c => ?_
  unfold p_laws_markRowSS at H
  refine Tr.seq ?_
  refine Tr.region ?_
  refine Rg.q (v := .int .i64 (0)) (Pu.qo (p_assign rfl)) (by decide) ?_
  refine Rg.nl ?_
  refine nT (?_)
  refine Tr.seq ?_
  refine Tr.seq ?_
  refine Tr.region ?_
  refine Rg.q (v := .int .i64 (0)) (Pu.qo (p_assign rfl)) (by decide) ?_
  refine Rg.nl ?_
  refine nT (?_)
  obtain ⟨x1, hx2, H⟩ := bd.of H
  obtain ⟨n3, hx2⟩ := lp.of hx2
  refine tMidNC (ι := Unit) (fun ψ => [(1, .int .i64 (x1.1))]) (fun ψ => [tree (.slice x_v0.1 v0.length x_v0.2) x1.2]) ?_ ?_
  · refine Tr.block ?_
    refine tLoopC (ι := { q : Nat × ((List (List Row)) × Int × Int) × Unit // itr (p_laws_markRowSS_b0 v0) q.1 q.2.1 = some x1 }) (fun ζ => [(0, .slice x_v0.1 v0.length x_v0.2), (1, .int .i64 (ζ.1.2.1.2.1)), (5, .int .i64 (ζ.1.2.1.2.2))]) (fun ζ => [tree (.slice x_v0.1 v0.length x_v0.2) ζ.1.2.1.1]) (fun ζ => ζ.1.1) ⟨(n3, (v0, v1, 0), ()), hx2⟩ ⟨rfl, rfl, rfl, trivial⟩ (.cons Del.here .nil) ?_
    rintro ⟨⟨m4, σ5, z6⟩, hk11⟩
    obtain ⟨m12, t8, e, H1, hi9, hb10⟩ := itr.of (n := m4) (s := σ5) hk11
    subst e; unfold p_laws_markRowSS_b0 at H1
    show Tr _ _ _ _ _ [(0, .slice x_v0.1 v0.length x_v0.2), (1, .int .i64 (σ5.2.1)), (5, .int .i64 (σ5.2.2))] _ [tree (.slice x_v0.1 v0.length x_v0.2) σ5.1]
    refine Tr.seq ?_
    refine Tr.seq ?_
    refine Tr.region ?_
    refine Rg.q (v := .int .i64 (σ5.2.2)) (Pu.qo (p_move rfl)) (by decide) ?_
    refine Rg.q (v := .slice x_v0.1 v0.length x_v0.2) (Pu.qo (p_move rfl)) (by decide) ?_
    refine Rg.q (v := .int .i64 ((v0.length : Int))) (Pu.qo (p_len 36 Try.underlying24 rfl)) (by decide) ?_
    refine Rg.q (v := .bool (decide (σ5.2.2 < (v0.length : Int)))) (Pu.qo (p_lss rfl rfl)) (by decide) ?_
    refine Rg.nl ?_
    refine nT (?_)
    refine Tr.cond (b := decide (σ5.2.2 < (v0.length : Int))) rfl (fun h13 => ?_) (fun h13 => ?_)
    · have H1 := cdT h13 H1
      refine tSkip ?_
      refine nT (?_)
      refine Tr.seq ?_
      refine Tr.block ?_
      obtain ⟨h14, H1⟩ := gd.of H1
      refine Tr.zoom (k := σ5.2.2.toNat) h14.lt (.cons Del.here .nil) fun x15 => ?_
      show Tr _ _ _ _ _ _ _ (hole (.slice x_v0.1 v0.length x_v0.2) σ5.1 σ5.2.2.toNat [.slice x15.1 ((nth σ5.1 σ5.2.2.toNat).length) x15.2] :: tree (.slice x15.1 ((nth σ5.1 σ5.2.2.toNat).length) x15.2) (nth σ5.1 σ5.2.2.toNat) :: _)
      refine Tr.region ?_
      refine Rg.q (v := .slice x_v0.1 v0.length x_v0.2) (Pu.qo (p_move rfl)) (by decide) ?_
      refine Rg.q (v := .int .i64 (σ5.2.2)) (Pu.qo (p_move rfl)) (by decide) ?_
      refine Rg.q (v := elp x_v0.1 (σ5.2.2.toNat * Enc.sz (List Row) + 0)) (q_ixH (k := σ5.2.2.toNat) Try.underlying24 ty36 rfl rfl h14 rfl Has.here) (by decide) ?_
      refine Rg.q (v := .slice x15.1 ((nth σ5.1 σ5.2.2.toNat).length) x15.2) (q_ldH (i := σ5.2.2.toNat) (j := 0) ty36 rfl Has.here rfl) (by decide) ?_
      refine Rg.q (v := .int .i64 (σ5.2.1)) (Pu.qo (p_move rfl)) (by decide) ?_
      obtain ⟨r16, h17, H1⟩ := bd.of H1
      refine Rg.ed (e_callM (vs := [.slice x15.1 ((nth σ5.1 σ5.2.2.toNat).length) x15.2, .int .i64 (σ5.2.1)]) (c_laws_markRowS (nth σ5.1 σ5.2.2.toNat) x15 σ5.2.1 h17) (Solo.tree Solo.nil) (fun _ => (Solo.tree Solo.nil)) rfl (.cons Del.here.there .nil) EntsB.nil) rfl (by decide) ?_
      rintro _ _ _ ⟨u18, rfl, rfl, rfl⟩
      refine Rg.q (v := .int .i64 (r16.1)) (Pu.qo (p_assign rfl)) (by decide) ?_
      refine Rg.nl ?_
      refine nB (nT (?_))
      refine Tr.olen Has.here fun hn => ?_; rw [hn]
      refine Tr.region ?_
      refine Rg.q (v := .int .i64 (σ5.2.2)) (Pu.qo (p_move rfl)) (by decide) ?_
      obtain ⟨h19, H1⟩ := gd.of H1
      refine Rg.q (v := .int .i64 (σ5.2.2 + 1)) (Pu.qo (p_add rfl rfl h19)) (by decide) ?_
      refine Rg.q (v := .int .i64 (σ5.2.2 + 1)) (Pu.qo (p_assign rfl)) (by decide) ?_
      refine Rg.nl ?_
      refine At.unzoom r16.2 x15 rfl (.cons Del.here.there (.cons Del.here .nil)) ?_
      exact nLC ⟨(m12, ((σ5.1.set σ5.2.2.toNat r16.2), r16.1, σ5.2.2 + 1), ()), hi9 _ (Option.some.inj H1).symm⟩ (Nat.lt_succ_self _) ⟨rfl, rfl, rfl, trivial⟩ Ents.refl (.cons Del.here .nil)
    · have H1 := cdF h13 H1
      refine tExit (xT (xT (xE (?_))))
      have hx := hb10 _ (Option.some.inj H1).symm; subst hx
      exact nMC () ⟨rfl, trivial⟩ Ents.refl (.cons Del.here .nil)
  · intro y7
    show At _ _ [(1, .int .i64 (x1.1))] _ [tree (.slice x_v0.1 v0.length x_v0.2) x1.2] _
    refine nT (?_)
    refine Tr.seq ?_
    refine Tr.region ?_
    refine Rg.q (v := .int .i64 (x1.1)) (Pu.qo (p_move rfl)) (by decide) ?_
    refine Rg.q (v := .int .i64 (x1.1)) (Pu.qo (p_assign rfl)) (by decide) ?_
    refine Rg.nl ?_
    refine nT (?_)
    refine tRet ?_
    have hr := Option.some.inj H; subst hr
    exact back1 () rfl (ResV.tmp (v := .int .i64 (x1.1)) rfl) rfl Ents.nil (.cons Del.here .nil)
noncomputable def p_laws_markPart (v0 : Part) (v1 : Int) : Option (Int × Part) := bd (p_laws_markIntS v0.1 v1) fun r2 => bd (p_laws_markRowSS v0.2 r2.1) fun r5 => some (r5.1, (r2.2, r5.2))
theorem c_laws_markPart {r : Int × Part} (v0 : Part) (x_v0 : (Option Addr × Nat) × (Option Addr × Nat)) (v1 : Int) (H : p_laws_markPart v0 v1 = some r) : Fn' Try.prog 26 #[.agg #[.slice x_v0.1.1 v0.1.length x_v0.1.2, .slice x_v0.2.1 v0.2.length x_v0.2.2], .int .i64 (v1)] [] [tree (.slice x_v0.1.1 v0.1.length x_v0.1.2) v0.1, tree (.slice x_v0.2.1 v0.2.length x_v0.2.2) v0.2] (ι := Unit) (fun x => .int .i64 (r.1)) (fun _ => []) (fun x => [tree (.slice x_v0.1.1 v0.1.length x_v0.1.2) r.2.1, tree (.slice x_v0.2.1 v0.2.length x_v0.2.2) r.2.2]) := by
  refine calls_of (args := [_, _]) Try.func26 rfl (by kernel_rfl) Try.ntmps26 (by simp) fun c => ?_
  unfold p_laws_markPart at H
  refine Tr.seq ?_
  refine Tr.region ?_
  refine Rg.ed (e_box (t := 26) (v := .agg #[.slice x_v0.1.1 v0.1.length x_v0.1.2, .slice x_v0.2.1 v0.2.length x_v0.2.2]) rfl) rfl (by decide) ?_
  rintro _ _ _ ⟨g1, rfl, rfl, rfl⟩
  refine Rg.q (v := .int .i64 (0)) (Pu.qo (p_assign rfl)) (by decide) ?_
  refine Rg.nl ?_
  refine nT (?_)
  refine Tr.seq ?_
  refine Tr.region ?_
  refine Rg.q (v := .pointer (some ⟨g1, 0, none⟩)) (Pu.qo (p_fabE fa26_0 rfl rfl)) (by decide) ?_
  refine Rg.q (v := .slice x_v0.1.1 v0.1.length x_v0.1.2) (q_ldb ty23 rfl Has.here rfl) (by decide) ?_
  refine Rg.q (v := .int .i64 (v1)) (Pu.qo (p_move rfl)) (by decide) ?_
  obtain ⟨r2, h3, H⟩ := bd.of H
  refine Rg.ed (e_callM (vs := [.slice x_v0.1.1 v0.1.length x_v0.1.2, .int .i64 (v1)]) (c_laws_markIntS v0.1 x_v0.1 v1 h3) (Solo.tree Solo.nil) (fun _ => (Solo.tree Solo.nil)) rfl (.cons Del.here.there .nil) EntsB.nil) rfl (by decide) ?_
  rintro _ _ _ ⟨u4, rfl, rfl, rfl⟩
  refine Rg.q (v := .int .i64 (r2.1)) (Pu.qo (p_assign rfl)) (by decide) ?_
  refine Rg.nl ?_
  refine nT (?_)
  refine Tr.seq ?_
  refine Tr.region ?_
  refine Rg.q (v := .pointer (some ⟨g1, 1, none⟩)) (Pu.qo (p_fabE fa26_1 rfl rfl)) (by decide) ?_
  refine Rg.q (v := .slice x_v0.2.1 v0.2.length x_v0.2.2) (q_ldb ty24 rfl Has.here.there rfl) (by decide) ?_
  refine Rg.q (v := .int .i64 (r2.1)) (Pu.qo (p_move rfl)) (by decide) ?_
  obtain ⟨r5, h6, H⟩ := bd.of H
  refine Rg.ed (e_callM (vs := [.slice x_v0.2.1 v0.2.length x_v0.2.2, .int .i64 (r2.1)]) (c_laws_markRowSS v0.2 x_v0.2 r2.1 h6) (Solo.tree Solo.nil) (fun _ => (Solo.tree Solo.nil)) rfl (.cons Del.here.there.there .nil) EntsB.nil) rfl (by decide) ?_
  rintro _ _ _ ⟨u7, rfl, rfl, rfl⟩
  refine Rg.q (v := .int .i64 (r5.1)) (Pu.qo (p_assign rfl)) (by decide) ?_
  refine Rg.nl ?_
  refine nT (?_)
  refine Tr.seq ?_
  refine Tr.region ?_
  refine Rg.q (v := .int .i64 (r5.1)) (Pu.qo (p_move rfl)) (by decide) ?_
  refine Rg.q (v := .int .i64 (r5.1)) (Pu.qo (p_assign rfl)) (by decide) ?_
  refine Rg.nl ?_
  refine nT (?_)
  refine tRet ?_
  have hr := Option.some.inj H; subst hr
  exact back1 () rfl (ResV.tmp (v := .int .i64 (r5.1)) rfl) rfl Ents.nil (.cons Del.here.there (.cons Del.here .nil))
noncomputable def p_laws_heldIntS_b0 (v0 : (List Int)) (σ5 : Int × Int) : Option ((Int × Int) ⊕ (Int ⊕ Int)) := cond (decide (σ5.2 < (v0.length : Int))) (gd (ix σ5.2 v0.length) <| cond (!decide ((nth v0 σ5.2.toNat) = σ5.1)) (some (.inr (.inr (-1)))) (gd (I64 (σ5.1 + 1)) <| gd (I64 (σ5.2 + 1)) <| some (.inl (σ5.1 + 1, σ5.2 + 1)))) (some (.inr (.inl σ5.1)))
noncomputable def p_laws_heldIntS (v0 : (List Int)) (v1 : Int) : Option (Int) := bd (lp (p_laws_heldIntS_b0 v0) (v1, 0)) <| sw (fun e18 => some e18) (fun q => some q)
theorem c_laws_heldIntS {r : Int} (v0 : (List Int)) (x_v0 : Option Addr × Nat) (v1 : Int) (H : p_laws_heldIntS v0 v1 = some r) : Fn' Try.prog 46 #[.slice x_v0.1 v0.length x_v0.2, .int .i64 (v1)] [imm (.slice x_v0.1 v0.length x_v0.2) v0] [] (ι := Unit) (fun x => .int .i64 (r)) (fun _ => []) (fun x => []) := by
  refine calls_of (args := [_, _]) Try.func46 rfl (by kernel_rfl) Try.ntmps46 (by simp) fun c => ?_
  unfold p_laws_heldIntS at H
  refine Tr.seq ?_
  refine Tr.region ?_
  refine Rg.q (v := .int .i64 (0)) (Pu.qo (p_assign rfl)) (by decide) ?_
  refine Rg.nl ?_
  refine nT (?_)
  refine Tr.seq ?_
  refine Tr.seq ?_
  refine Tr.region ?_
  refine Rg.q (v := .int .i64 (0)) (Pu.qo (p_assign rfl)) (by decide) ?_
  refine Rg.nl ?_
  refine nT (?_)
  obtain ⟨x1, hx2, H⟩ := bd.of H
  obtain ⟨n3, hx2⟩ := lp.of hx2
  refine tMidNC (ι := { q : (Int) × Unit // x1 = .inl q.1 }) (fun ψ => [(1, .int .i64 (ψ.1.1))]) (fun ψ => []) ?_ ?_
  · refine Tr.block ?_
    refine tLoopC (ι := { q : Nat × (Int × Int) × Unit // itr (p_laws_heldIntS_b0 v0) q.1 q.2.1 = some x1 }) (fun ζ => [(0, .slice x_v0.1 v0.length x_v0.2), (1, .int .i64 (ζ.1.2.1.1)), (5, .int .i64 (ζ.1.2.1.2))]) (fun ζ => []) (fun ζ => ζ.1.1) ⟨(n3, (v1, 0), ()), hx2⟩ ⟨rfl, rfl, rfl, trivial⟩ Take.nil ?_
    rintro ⟨⟨m4, σ5, z6⟩, hk11⟩
    obtain ⟨m12, t8, e, H1, hi9, hb10⟩ := itr.of (n := m4) (s := σ5) hk11
    subst e; unfold p_laws_heldIntS_b0 at H1
    show Tr _ _ _ _ _ [(0, .slice x_v0.1 v0.length x_v0.2), (1, .int .i64 (σ5.1)), (5, .int .i64 (σ5.2))] _ []
    refine Tr.seq ?_
    refine Tr.seq ?_
    refine Tr.region ?_
    refine Rg.q (v := .int .i64 (σ5.2)) (Pu.qo (p_move rfl)) (by decide) ?_
    refine Rg.q (v := .slice x_v0.1 v0.length x_v0.2) (Pu.qo (p_move rfl)) (by decide) ?_
    refine Rg.q (v := .int .i64 ((v0.length : Int))) (Pu.qo (p_len 3 Try.underlying23 rfl)) (by decide) ?_
    refine Rg.q (v := .bool (decide (σ5.2 < (v0.length : Int)))) (Pu.qo (p_lss rfl rfl)) (by decide) ?_
    refine Rg.nl ?_
    refine nT (?_)
    refine Tr.cond (b := decide (σ5.2 < (v0.length : Int))) rfl (fun h13 => ?_) (fun h13 => ?_)
    · have H1 := cdT h13 H1
      refine tSkip ?_
      refine nT (?_)
      refine Tr.seq ?_
      refine Tr.block ?_
      refine Tr.seq ?_
      refine Tr.seq ?_
      refine Tr.region ?_
      refine Rg.q (v := .slice x_v0.1 v0.length x_v0.2) (Pu.qo (p_move rfl)) (by decide) ?_
      refine Rg.q (v := .int .i64 (σ5.2)) (Pu.qo (p_move rfl)) (by decide) ?_
      obtain ⟨h14, H1⟩ := gd.of H1
      refine Rg.q (v := elp x_v0.1 (σ5.2.toNat * Enc.sz Int + 0)) (q_ixg (l := v0) (E := fun i => Flat.enc (nth v0 i)) (oa := x_v0.1) Try.underlying23 ty3 rfl rfl h14 rfl (EntB.flat (Ent.b Ent.z))) (by decide) ?_
      refine Rg.q (v := .int .i64 (nth v0 σ5.2.toNat)) (q_lde (l := v0) (E := fun i => Flat.enc (nth v0 i)) (oa := x_v0.1) (i := σ5.2.toNat) (j := 0) ty3 rfl (EntB.flat (Ent.b Ent.z)) h14.lt rfl) (by decide) ?_
      refine Rg.q (v := .int .i64 (σ5.1)) (Pu.qo (p_move rfl)) (by decide) ?_
      refine Rg.q (v := .bool (!decide ((nth v0 σ5.2.toNat) = σ5.1))) (Pu.qo (p_neq rfl rfl)) (by decide) ?_
      refine Rg.nl ?_
      refine nT (?_)
      refine Tr.cond (b := !decide ((nth v0 σ5.2.toNat) = σ5.1)) rfl (fun h15 => ?_) (fun h15 => ?_)
      · have H1 := cdT h15 H1
        refine Tr.seq ?_
        refine Tr.region ?_
        refine Rg.q (v := .int .i64 (-1)) (Pu.qo (p_assign rfl)) (by decide) ?_
        refine Rg.nl ?_
        refine nT (?_)
        refine tRet ?_
        refine rT (rB (rT (rT (rB (rT (rT (?_)))))))
        have hx := hb10 _ (Option.some.inj H1).symm; subst hx
        replace H := sw.r H
        have hr := Option.some.inj H; subst hr
        exact back1 () rfl (ResV.tmp (v := .int .i64 (-1)) rfl) rfl Ents.nil Take.nil
      · have H1 := cdF h15 H1
        refine tSkip ?_
        refine nT (?_)
        refine Tr.region ?_
        refine Rg.q (v := .int .i64 (σ5.1)) (Pu.qo (p_move rfl)) (by decide) ?_
        obtain ⟨h16, H1⟩ := gd.of H1
        refine Rg.q (v := .int .i64 (σ5.1 + 1)) (Pu.qo (p_add rfl rfl h16)) (by decide) ?_
        refine Rg.q (v := .int .i64 (σ5.1 + 1)) (Pu.qo (p_assign rfl)) (by decide) ?_
        refine Rg.nl ?_
        refine nB (nT (?_))
        refine Tr.region ?_
        refine Rg.q (v := .int .i64 (σ5.2)) (Pu.qo (p_move rfl)) (by decide) ?_
        obtain ⟨h17, H1⟩ := gd.of H1
        refine Rg.q (v := .int .i64 (σ5.2 + 1)) (Pu.qo (p_add rfl rfl h17)) (by decide) ?_
        refine Rg.q (v := .int .i64 (σ5.2 + 1)) (Pu.qo (p_assign rfl)) (by decide) ?_
        refine Rg.nl ?_
        exact nLC ⟨(m12, (σ5.1 + 1, σ5.2 + 1), ()), hi9 _ (Option.some.inj H1).symm⟩ (Nat.lt_succ_self _) ⟨rfl, rfl, rfl, trivial⟩ Ents.refl Take.nil
    · have H1 := cdF h13 H1
      refine tExit (xT (xT (xE (?_))))
      exact nMC ⟨(σ5.1, ()), (hb10 _ (Option.some.inj H1).symm).symm⟩ ⟨rfl, trivial⟩ Ents.refl Take.nil
  · rintro ⟨⟨e18, y7⟩, hx⟩; subst hx; replace H := sw.l H
    show At _ _ [(1, .int .i64 (e18))] _ [] _
    refine nT (?_)
    refine Tr.seq ?_
    refine Tr.region ?_
    refine Rg.q (v := .int .i64 (e18)) (Pu.qo (p_move rfl)) (by decide) ?_
    refine Rg.q (v := .int .i64 (e18)) (Pu.qo (p_assign rfl)) (by decide) ?_
    refine Rg.nl ?_
    refine nT (?_)
    refine tRet ?_
    have hr := Option.some.inj H; subst hr
    exact back1 () rfl (ResV.tmp (v := .int .i64 (e18)) rfl) rfl Ents.nil Take.nil
noncomputable def p_laws_heldRowS_b0 (v0 : (List Row)) (σ5 : Int × Int) : Option ((Int × Int) ⊕ (Int ⊕ Int)) := cond (decide (σ5.2 < (v0.length : Int))) (gd (ix σ5.2 v0.length) <| cond (!decide (((nth v0 σ5.2.toNat).1) = σ5.1)) (some (.inr (.inr (-1)))) (gd (I64 (σ5.1 + 1)) <| cond (!decide (((nth v0 σ5.2.toNat).2) = (σ5.1 + 1))) (some (.inr (.inr (-1)))) (gd (I64 ((σ5.1 + 1) + 1)) <| gd (I64 (σ5.2 + 1)) <| some (.inl ((σ5.1 + 1) + 1, σ5.2 + 1))))) (some (.inr (.inl σ5.1)))
noncomputable def p_laws_heldRowS (v0 : (List Row)) (v1 : Int) : Option (Int) := bd (lp (p_laws_heldRowS_b0 v0) (v1, 0)) <| sw (fun e20 => some e20) (fun q => some q)
theorem c_laws_heldRowS {r : Int} (v0 : (List Row)) (x_v0 : Option Addr × Nat) (v1 : Int) (H : p_laws_heldRowS v0 v1 = some r) : Fn' Try.prog 60 #[.slice x_v0.1 v0.length x_v0.2, .int .i64 (v1)] [imm (.slice x_v0.1 v0.length x_v0.2) v0] [] (ι := Unit) (fun x => .int .i64 (r)) (fun _ => []) (fun x => []) := by
  refine calls_of (args := [_, _]) Try.func60 rfl (by kernel_rfl) Try.ntmps60 (by simp) fun c => ?_
  unfold p_laws_heldRowS at H
  refine Tr.seq ?_
  refine Tr.region ?_
  refine Rg.q (v := .int .i64 (0)) (Pu.qo (p_assign rfl)) (by decide) ?_
  refine Rg.nl ?_
  refine nT (?_)
  refine Tr.seq ?_
  refine Tr.seq ?_
  refine Tr.region ?_
  refine Rg.q (v := .int .i64 (0)) (Pu.qo (p_assign rfl)) (by decide) ?_
  refine Rg.nl ?_
  refine nT (?_)
  obtain ⟨x1, hx2, H⟩ := bd.of H
  obtain ⟨n3, hx2⟩ := lp.of hx2
  refine tMidNC (ι := { q : (Int) × Unit // x1 = .inl q.1 }) (fun ψ => [(1, .int .i64 (ψ.1.1))]) (fun ψ => []) ?_ ?_
  · refine Tr.block ?_
    refine tLoopC (ι := { q : Nat × (Int × Int) × Unit // itr (p_laws_heldRowS_b0 v0) q.1 q.2.1 = some x1 }) (fun ζ => [(0, .slice x_v0.1 v0.length x_v0.2), (1, .int .i64 (ζ.1.2.1.1)), (5, .int .i64 (ζ.1.2.1.2))]) (fun ζ => []) (fun ζ => ζ.1.1) ⟨(n3, (v1, 0), ()), hx2⟩ ⟨rfl, rfl, rfl, trivial⟩ Take.nil ?_
    rintro ⟨⟨m4, σ5, z6⟩, hk11⟩
    obtain ⟨m12, t8, e, H1, hi9, hb10⟩ := itr.of (n := m4) (s := σ5) hk11
    subst e; unfold p_laws_heldRowS_b0 at H1
    show Tr _ _ _ _ _ [(0, .slice x_v0.1 v0.length x_v0.2), (1, .int .i64 (σ5.1)), (5, .int .i64 (σ5.2))] _ []
    refine Tr.seq ?_
    refine Tr.seq ?_
    refine Tr.region ?_
    refine Rg.q (v := .int .i64 (σ5.2)) (Pu.qo (p_move rfl)) (by decide) ?_
    refine Rg.q (v := .slice x_v0.1 v0.length x_v0.2) (Pu.qo (p_move rfl)) (by decide) ?_
    refine Rg.q (v := .int .i64 ((v0.length : Int))) (Pu.qo (p_len 46 Try.underlying36 rfl)) (by decide) ?_
    refine Rg.q (v := .bool (decide (σ5.2 < (v0.length : Int)))) (Pu.qo (p_lss rfl rfl)) (by decide) ?_
    refine Rg.nl ?_
    refine nT (?_)
    refine Tr.cond (b := decide (σ5.2 < (v0.length : Int))) rfl (fun h13 => ?_) (fun h13 => ?_)
    · have H1 := cdT h13 H1
      refine tSkip ?_
      refine nT (?_)
      refine Tr.seq ?_
      refine Tr.block ?_
      refine Tr.seq ?_
      refine Tr.seq ?_
      refine Tr.region ?_
      refine Rg.q (v := .slice x_v0.1 v0.length x_v0.2) (Pu.qo (p_move rfl)) (by decide) ?_
      refine Rg.q (v := .int .i64 (σ5.2)) (Pu.qo (p_move rfl)) (by decide) ?_
      obtain ⟨h14, H1⟩ := gd.of H1
      refine Rg.q (v := elp x_v0.1 (σ5.2.toNat * Enc.sz Row + 0)) (q_ixg (l := v0) (E := fun i => Flat.enc (nth v0 i)) (oa := x_v0.1) Try.underlying36 ty46 rfl rfl h14 rfl (EntB.flat (Ent.b Ent.z))) (by decide) ?_
      refine Rg.q (v := elp x_v0.1 (σ5.2.toNat * Enc.sz Row + 0)) (q_faeE (l := v0) (E := fun i => Flat.enc (nth v0 i)) (oa := x_v0.1) (j := 0) σ5.2.toNat fa46_0 rfl (EntB.flat (Ent.b Ent.z)) h14.lt rfl) (by decide) ?_
      refine Rg.q (v := .int .i64 ((nth v0 σ5.2.toNat).1)) (q_lde (l := v0) (E := fun i => Flat.enc (nth v0 i)) (oa := x_v0.1) (i := σ5.2.toNat) (j := 0) ty3 rfl (EntB.flat (Ent.b Ent.z)) h14.lt rfl) (by decide) ?_
      refine Rg.q (v := .int .i64 (σ5.1)) (Pu.qo (p_move rfl)) (by decide) ?_
      refine Rg.q (v := .bool (!decide (((nth v0 σ5.2.toNat).1) = σ5.1))) (Pu.qo (p_neq rfl rfl)) (by decide) ?_
      refine Rg.nl ?_
      refine nT (?_)
      refine Tr.cond (b := !decide (((nth v0 σ5.2.toNat).1) = σ5.1)) rfl (fun h15 => ?_) (fun h15 => ?_)
      · have H1 := cdT h15 H1
        refine Tr.seq ?_
        refine Tr.region ?_
        refine Rg.q (v := .int .i64 (-1)) (Pu.qo (p_assign rfl)) (by decide) ?_
        refine Rg.nl ?_
        refine nT (?_)
        refine tRet ?_
        refine rT (rB (rT (rT (rB (rT (rT (?_)))))))
        have hx := hb10 _ (Option.some.inj H1).symm; subst hx
        replace H := sw.r H
        have hr := Option.some.inj H; subst hr
        exact back1 () rfl (ResV.tmp (v := .int .i64 (-1)) rfl) rfl Ents.nil Take.nil
      · have H1 := cdF h15 H1
        refine tSkip ?_
        refine nT (?_)
        refine Tr.seq ?_
        refine Tr.region ?_
        refine Rg.q (v := .int .i64 (σ5.1)) (Pu.qo (p_move rfl)) (by decide) ?_
        obtain ⟨h16, H1⟩ := gd.of H1
        refine Rg.q (v := .int .i64 (σ5.1 + 1)) (Pu.qo (p_add rfl rfl h16)) (by decide) ?_
        refine Rg.q (v := .int .i64 (σ5.1 + 1)) (Pu.qo (p_assign rfl)) (by decide) ?_
        refine Rg.nl ?_
        refine nT (?_)
        refine Tr.seq ?_
        refine Tr.seq ?_
        refine Tr.region ?_
        refine Rg.q (v := .slice x_v0.1 v0.length x_v0.2) (Pu.qo (p_move rfl)) (by decide) ?_
        refine Rg.q (v := .int .i64 (σ5.2)) (Pu.qo (p_move rfl)) (by decide) ?_
        refine Rg.q (v := elp x_v0.1 (σ5.2.toNat * Enc.sz Row + 0)) (q_ixg (l := v0) (E := fun i => Flat.enc (nth v0 i)) (oa := x_v0.1) Try.underlying36 ty46 rfl rfl h14 rfl (EntB.flat (Ent.b Ent.z))) (by decide) ?_
        refine Rg.q (v := elp x_v0.1 (σ5.2.toNat * Enc.sz Row + 1)) (q_faeE (l := v0) (E := fun i => Flat.enc (nth v0 i)) (oa := x_v0.1) (j := 0) σ5.2.toNat fa46_1 rfl (EntB.flat (Ent.b Ent.z)) h14.lt rfl) (by decide) ?_
        refine Rg.q (v := .int .i64 ((nth v0 σ5.2.toNat).2)) (q_lde (l := v0) (E := fun i => Flat.enc (nth v0 i)) (oa := x_v0.1) (i := σ5.2.toNat) (j := 1) ty3 rfl (EntB.flat (Ent.b Ent.z)) h14.lt rfl) (by decide) ?_
        refine Rg.q (v := .int .i64 (σ5.1 + 1)) (Pu.qo (p_move rfl)) (by decide) ?_
        refine Rg.q (v := .bool (!decide (((nth v0 σ5.2.toNat).2) = (σ5.1 + 1)))) (Pu.qo (p_neq rfl rfl)) (by decide) ?_
        refine Rg.nl ?_
        refine nT (?_)
        refine Tr.cond (b := !decide (((nth v0 σ5.2.toNat).2) = (σ5.1 + 1))) rfl (fun h17 => ?_) (fun h17 => ?_)
        · have H1 := cdT h17 H1
          refine Tr.seq ?_
          refine Tr.region ?_
          refine Rg.q (v := .int .i64 (-1)) (Pu.qo (p_assign rfl)) (by decide) ?_
          refine Rg.nl ?_
          refine nT (?_)
          refine tRet ?_
          refine rT (rB (rT (rT (rB (rT (rT (?_)))))))
          have hx := hb10 _ (Option.some.inj H1).symm; subst hx
          replace H := sw.r H
          have hr := Option.some.inj H; subst hr
          exact back1 () rfl (ResV.tmp (v := .int .i64 (-1)) rfl) rfl Ents.nil Take.nil
        · have H1 := cdF h17 H1
          refine tSkip ?_
          refine nT (?_)
          refine Tr.region ?_
          refine Rg.q (v := .int .i64 (σ5.1 + 1)) (Pu.qo (p_move rfl)) (by decide) ?_
          obtain ⟨h18, H1⟩ := gd.of H1
          refine Rg.q (v := .int .i64 ((σ5.1 + 1) + 1)) (Pu.qo (p_add rfl rfl h18)) (by decide) ?_
          refine Rg.q (v := .int .i64 ((σ5.1 + 1) + 1)) (Pu.qo (p_assign rfl)) (by decide) ?_
          refine Rg.nl ?_
          refine nB (nT (?_))
          refine Tr.region ?_
          refine Rg.q (v := .int .i64 (σ5.2)) (Pu.qo (p_move rfl)) (by decide) ?_
          obtain ⟨h19, H1⟩ := gd.of H1
          refine Rg.q (v := .int .i64 (σ5.2 + 1)) (Pu.qo (p_add rfl rfl h19)) (by decide) ?_
          refine Rg.q (v := .int .i64 (σ5.2 + 1)) (Pu.qo (p_assign rfl)) (by decide) ?_
          refine Rg.nl ?_
          exact nLC ⟨(m12, ((σ5.1 + 1) + 1, σ5.2 + 1), ()), hi9 _ (Option.some.inj H1).symm⟩ (Nat.lt_succ_self _) ⟨rfl, rfl, rfl, trivial⟩ Ents.refl Take.nil
    · have H1 := cdF h13 H1
      refine tExit (xT (xT (xE (?_))))
      exact nMC ⟨(σ5.1, ()), (hb10 _ (Option.some.inj H1).symm).symm⟩ ⟨rfl, trivial⟩ Ents.refl Take.nil
  · rintro ⟨⟨e20, y7⟩, hx⟩; subst hx; replace H := sw.l H
    show At _ _ [(1, .int .i64 (e20))] _ [] _
    refine nT (?_)
    refine Tr.seq ?_
    refine Tr.region ?_
    refine Rg.q (v := .int .i64 (e20)) (Pu.qo (p_move rfl)) (by decide) ?_
    refine Rg.q (v := .int .i64 (e20)) (Pu.qo (p_assign rfl)) (by decide) ?_
    refine Rg.nl ?_
    refine nT (?_)
    refine tRet ?_
    have hr := Option.some.inj H; subst hr
    exact back1 () rfl (ResV.tmp (v := .int .i64 (e20)) rfl) rfl Ents.nil Take.nil
noncomputable def p_laws_heldRowSS_b0 (v0 : (List (List Row))) (σ6 : Int × Int) : Option ((Int × Int) ⊕ (Int ⊕ Int)) := cond (decide (σ6.2 < (v0.length : Int))) (gd (ix σ6.2 v0.length) <| bd (p_laws_heldRowS (nth v0 σ6.2.toNat) σ6.1) fun r16 => cond (decide (r16 < 0)) (some (.inr (.inr (-1)))) (gd (I64 (σ6.2 + 1)) <| some (.inl (r16, σ6.2 + 1)))) (some (.inr (.inl σ6.1)))
noncomputable def p_laws_heldRowSS (v0 : (List (List Row))) (v1 : Int) : Option (Int) := bd (lp (p_laws_heldRowSS_b0 v0) (v1, 0)) <| sw (fun e20 => some e20) (fun q => some q)
theorem c_laws_heldRowSS {r : Int} (v0 : (List (List Row))) (x_v0 : Option Addr × Nat) (v1 : Int) (H : p_laws_heldRowSS v0 v1 = some r) : Fn' Try.prog 47 #[.slice x_v0.1 v0.length x_v0.2, .int .i64 (v1)] [imm (.slice x_v0.1 v0.length x_v0.2) v0] [] (ι := Unit) (fun x => .int .i64 (r)) (fun _ => []) (fun x => []) := by
  refine calls_of (args := [_, _]) Try.func47 rfl (by kernel_rfl) Try.ntmps47 (by simp) fun c => ?_
  unfold p_laws_heldRowSS at H
  refine Tr.openD Ent.z fun X1 => ?_
  refine Tr.seq ?_
  refine Tr.region ?_
  refine Rg.q (v := .int .i64 (0)) (Pu.qo (p_assign rfl)) (by decide) ?_
  refine Rg.nl ?_
  refine nT (?_)
  refine Tr.seq ?_
  refine Tr.seq ?_
  refine Tr.region ?_
  refine Rg.q (v := .int .i64 (0)) (Pu.qo (p_assign rfl)) (by decide) ?_
  refine Rg.nl ?_
  refine nT (?_)
  obtain ⟨x2, hx3, H⟩ := bd.of H
  obtain ⟨n4, hx3⟩ := lp.of hx3
  refine tMidNC (ι := { q : (Int) × Unit // x2 = .inl q.1 }) (fun ψ => [(1, .int .i64 (ψ.1.1))]) (fun ψ => []) ?_ ?_
  · refine Tr.block ?_
    refine tLoopC (ι := { q : Nat × (Int × Int) × Unit // itr (p_laws_heldRowSS_b0 v0) q.1 q.2.1 = some x2 }) (fun ζ => [(0, .slice x_v0.1 v0.length x_v0.2), (1, .int .i64 (ζ.1.2.1.1)), (5, .int .i64 (ζ.1.2.1.2))]) (fun ζ => []) (fun ζ => ζ.1.1) ⟨(n4, (v1, 0), ()), hx3⟩ ⟨rfl, rfl, rfl, trivial⟩ Take.nil ?_
    rintro ⟨⟨m5, σ6, z7⟩, hk12⟩
    obtain ⟨m13, t9, e, H1, hi10, hb11⟩ := itr.of (n := m5) (s := σ6) hk12
    subst e; unfold p_laws_heldRowSS_b0 at H1
    show Tr _ _ _ _ _ [(0, .slice x_v0.1 v0.length x_v0.2), (1, .int .i64 (σ6.1)), (5, .int .i64 (σ6.2))] _ []
    refine Tr.seq ?_
    refine Tr.seq ?_
    refine Tr.region ?_
    refine Rg.q (v := .int .i64 (σ6.2)) (Pu.qo (p_move rfl)) (by decide) ?_
    refine Rg.q (v := .slice x_v0.1 v0.length x_v0.2) (Pu.qo (p_move rfl)) (by decide) ?_
    refine Rg.q (v := .int .i64 ((v0.length : Int))) (Pu.qo (p_len 36 Try.underlying24 rfl)) (by decide) ?_
    refine Rg.q (v := .bool (decide (σ6.2 < (v0.length : Int)))) (Pu.qo (p_lss rfl rfl)) (by decide) ?_
    refine Rg.nl ?_
    refine nT (?_)
    refine Tr.cond (b := decide (σ6.2 < (v0.length : Int))) rfl (fun h14 => ?_) (fun h14 => ?_)
    · have H1 := cdT h14 H1
      refine tSkip ?_
      refine nT (?_)
      refine Tr.seq ?_
      refine Tr.block ?_
      refine Tr.seq ?_
      refine Tr.region ?_
      refine Rg.q (v := .slice x_v0.1 v0.length x_v0.2) (Pu.qo (p_move rfl)) (by decide) ?_
      refine Rg.q (v := .int .i64 (σ6.2)) (Pu.qo (p_move rfl)) (by decide) ?_
      obtain ⟨h15, H1⟩ := gd.of H1
      refine Rg.q (v := elp x_v0.1 (σ6.2.toNat * Enc.sz (List Row) + 0)) (q_ixg (l := v0) (E := fun i => Dp.denc (nth v0 i) (X1 i)) (oa := x_v0.1) Try.underlying24 ty36 rfl rfl h15 rfl (Ent.b (Ent.darr Ent.z))) (by decide) ?_
      refine Rg.q (v := .slice ((X1 σ6.2.toNat).1) ((nth v0 σ6.2.toNat).length) ((X1 σ6.2.toNat).2.1)) (q_lde (l := v0) (E := fun i => Dp.denc (nth v0 i) (X1 i)) (oa := x_v0.1) (i := σ6.2.toNat) (j := 0) ty36 rfl (Ent.b (Ent.darr Ent.z)) h15.lt rfl) (by decide) ?_
      refine Rg.q (v := .int .i64 (σ6.1)) (Pu.qo (p_move rfl)) (by decide) ?_
      obtain ⟨r16, h17, H1⟩ := bd.of H1
      refine Rg.q (v := .int .i64 (r16)) (q_call (vs := [.slice ((X1 σ6.2.toNat).1) ((nth v0 σ6.2.toNat).length) ((X1 σ6.2.toNat).2.1), .int .i64 (σ6.1)]) (c_laws_heldRowS (nth v0 σ6.2.toNat) ((X1 σ6.2.toNat).1, (X1 σ6.2.toNat).2.1) σ6.1 h17) rfl (EntsB.cons (Ent.b (Ent.dimm (Ent.del Ent.z h15.lt))) EntsB.nil)) (by decide) ?_
      refine Rg.q (v := .int .i64 (r16)) (Pu.qo (p_assign rfl)) (by decide) ?_
      refine Rg.nl ?_
      refine nT (?_)
      refine Tr.seq ?_
      refine Tr.region ?_
      refine Rg.q (v := .int .i64 (r16)) (Pu.qo (p_move rfl)) (by decide) ?_
      refine Rg.q (v := .bool (decide (r16 < 0))) (Pu.qo (p_lss rfl rfl)) (by decide) ?_
      refine Rg.nl ?_
      refine nT (?_)
      refine Tr.cond (b := decide (r16 < 0)) rfl (fun h18 => ?_) (fun h18 => ?_)
      · have H1 := cdT h18 H1
        refine Tr.seq ?_
        refine Tr.region ?_
        refine Rg.q (v := .int .i64 (-1)) (Pu.qo (p_assign rfl)) (by decide) ?_
        refine Rg.nl ?_
        refine nT (?_)
        refine tRet ?_
        refine rB (rT (rT (rB (rT (rT (?_))))))
        have hx := hb11 _ (Option.some.inj H1).symm; subst hx
        replace H := sw.r H
        have hr := Option.some.inj H; subst hr
        exact back1 () rfl (ResV.tmp (v := .int .i64 (-1)) rfl) rfl Ents.nil Take.nil
      · have H1 := cdF h18 H1
        refine tSkip ?_
        refine nB (nT (?_))
        refine Tr.region ?_
        refine Rg.q (v := .int .i64 (σ6.2)) (Pu.qo (p_move rfl)) (by decide) ?_
        obtain ⟨h19, H1⟩ := gd.of H1
        refine Rg.q (v := .int .i64 (σ6.2 + 1)) (Pu.qo (p_add rfl rfl h19)) (by decide) ?_
        refine Rg.q (v := .int .i64 (σ6.2 + 1)) (Pu.qo (p_assign rfl)) (by decide) ?_
        refine Rg.nl ?_
        exact nLC ⟨(m13, (r16, σ6.2 + 1), ()), hi10 _ (Option.some.inj H1).symm⟩ (Nat.lt_succ_self _) ⟨rfl, rfl, rfl, trivial⟩ Ents.refl Take.nil
    · have H1 := cdF h14 H1
      refine tExit (xT (xT (xE (?_))))
      exact nMC ⟨(σ6.1, ()), (hb11 _ (Option.some.inj H1).symm).symm⟩ ⟨rfl, trivial⟩ Ents.refl Take.nil
  · rintro ⟨⟨e20, y8⟩, hx⟩; subst hx; replace H := sw.l H
    show At _ _ [(1, .int .i64 (e20))] _ [] _
    refine nT (?_)
    refine Tr.seq ?_
    refine Tr.region ?_
    refine Rg.q (v := .int .i64 (e20)) (Pu.qo (p_move rfl)) (by decide) ?_
    refine Rg.q (v := .int .i64 (e20)) (Pu.qo (p_assign rfl)) (by decide) ?_
    refine Rg.nl ?_
    refine nT (?_)
    refine tRet ?_
    have hr := Option.some.inj H; subst hr
    exact back1 () rfl (ResV.tmp (v := .int .i64 (e20)) rfl) rfl Ents.nil Take.nil
noncomputable def p_laws_heldPart (v0 : Part) (v1 : Int) : Option (Int) := bd (p_laws_heldIntS v0.1 v1) fun r3 => cond (decide (r3 < 0)) (some (-1)) (bd (p_laws_heldRowSS v0.2 r3) fun r6 => cond (decide (r6 < 0)) (some (-1)) (some r6))
theorem c_laws_heldPart {r : Int} (v0 : Part) (x_v0 : (Option Addr × Nat) × (Option Addr × Nat)) (v1 : Int) (H : p_laws_heldPart v0 v1 = some r) : Fn' Try.prog 27 #[.agg #[.slice x_v0.1.1 v0.1.length x_v0.1.2, .slice x_v0.2.1 v0.2.length x_v0.2.2], .int .i64 (v1)] [imm (.slice x_v0.1.1 v0.1.length x_v0.1.2) v0.1, imm (.slice x_v0.2.1 v0.2.length x_v0.2.2) v0.2] [] (ι := Unit) (fun x => .int .i64 (r)) (fun _ => []) (fun x => []) := by
  refine calls_of (args := [_, _]) Try.func27 rfl (by kernel_rfl) Try.ntmps27 (by simp) fun c => ?_
  unfold p_laws_heldPart at H
  refine Tr.openD Ent.z.s fun X1 => ?_
  refine Tr.seq ?_
  refine Tr.region ?_
  refine Rg.ed (e_box (t := 26) (v := .agg #[.slice x_v0.1.1 v0.1.length x_v0.1.2, .slice x_v0.2.1 v0.2.length x_v0.2.2]) rfl) rfl (by decide) ?_
  rintro _ _ _ ⟨g2, rfl, rfl, rfl⟩
  refine Rg.q (v := .int .i64 (0)) (Pu.qo (p_assign rfl)) (by decide) ?_
  refine Rg.nl ?_
  refine nT (?_)
  refine Tr.seq ?_
  refine Tr.region ?_
  refine Rg.q (v := .pointer (some ⟨g2, 0, none⟩)) (Pu.qo (p_fabE fa26_0 rfl rfl)) (by decide) ?_
  refine Rg.q (v := .slice x_v0.1.1 v0.1.length x_v0.1.2) (q_ldb ty23 rfl Has.here rfl) (by decide) ?_
  refine Rg.q (v := .int .i64 (v1)) (Pu.qo (p_move rfl)) (by decide) ?_
  obtain ⟨r3, h4, H⟩ := bd.of H
  refine Rg.q (v := .int .i64 (r3)) (q_call (vs := [.slice x_v0.1.1 v0.1.length x_v0.1.2, .int .i64 (v1)]) (c_laws_heldIntS v0.1 x_v0.1 v1 h4) rfl (EntsB.cons (Ent.b Ent.z.s) EntsB.nil)) (by decide) ?_
  refine Rg.q (v := .int .i64 (r3)) (Pu.qo (p_assign rfl)) (by decide) ?_
  refine Rg.nl ?_
  refine nT (?_)
  refine Tr.seq ?_
  refine Tr.seq ?_
  refine Tr.region ?_
  refine Rg.q (v := .int .i64 (r3)) (Pu.qo (p_move rfl)) (by decide) ?_
  refine Rg.q (v := .bool (decide (r3 < 0))) (Pu.qo (p_lss rfl rfl)) (by decide) ?_
  refine Rg.nl ?_
  refine nT (?_)
  refine Tr.cond (b := decide (r3 < 0)) rfl (fun h5 => ?_) (fun h5 => ?_)
  · have H := cdT h5 H
    refine Tr.seq ?_
    refine Tr.region ?_
    refine Rg.q (v := .int .i64 (-1)) (Pu.qo (p_assign rfl)) (by decide) ?_
    refine Rg.nl ?_
    refine nT (?_)
    refine tRet ?_
    refine rT (?_)
    have hr := Option.some.inj H; subst hr
    exact back1 () rfl (ResV.tmp (v := .int .i64 (-1)) rfl) rfl Ents.nil Take.nil
  · have H := cdF h5 H
    refine tSkip ?_
    refine nT (?_)
    refine Tr.seq ?_
    refine Tr.region ?_
    refine Rg.q (v := .pointer (some ⟨g2, 1, none⟩)) (Pu.qo (p_fabE fa26_1 rfl rfl)) (by decide) ?_
    refine Rg.q (v := .slice x_v0.2.1 v0.2.length x_v0.2.2) (q_ldb ty24 rfl Has.here rfl) (by decide) ?_
    refine Rg.q (v := .int .i64 (r3)) (Pu.qo (p_move rfl)) (by decide) ?_
    obtain ⟨r6, h7, H⟩ := bd.of H
    refine Rg.q (v := .int .i64 (r6)) (q_call (vs := [.slice x_v0.2.1 v0.2.length x_v0.2.2, .int .i64 (r3)]) (c_laws_heldRowSS v0.2 x_v0.2 r3 h7) rfl (EntsB.cons (Ent.b (Ent.dimm Ent.z)) EntsB.nil)) (by decide) ?_
    refine Rg.q (v := .int .i64 (r6)) (Pu.qo (p_assign rfl)) (by decide) ?_
    refine Rg.nl ?_
    refine nT (?_)
    refine Tr.seq ?_
    refine Tr.seq ?_
    refine Tr.region ?_
    refine Rg.q (v := .int .i64 (r6)) (Pu.qo (p_move rfl)) (by decide) ?_
    refine Rg.q (v := .bool (decide (r6 < 0))) (Pu.qo (p_lss rfl rfl)) (by decide) ?_
    refine Rg.nl ?_
    refine nT (?_)
    refine Tr.cond (b := decide (r6 < 0)) rfl (fun h8 => ?_) (fun h8 => ?_)
    · have H := cdT h8 H
      refine Tr.seq ?_
      refine Tr.region ?_
      refine Rg.q (v := .int .i64 (-1)) (Pu.qo (p_assign rfl)) (by decide) ?_
      refine Rg.nl ?_
      refine nT (?_)
      refine tRet ?_
      refine rT (?_)
      have hr := Option.some.inj H; subst hr
      exact back1 () rfl (ResV.tmp (v := .int .i64 (-1)) rfl) rfl Ents.nil Take.nil
    · have H := cdF h8 H
      refine tSkip ?_
      refine nT (?_)
      refine Tr.seq ?_
      refine Tr.region ?_
      refine Rg.q (v := .int .i64 (r6)) (Pu.qo (p_move rfl)) (by decide) ?_
      refine Rg.q (v := .int .i64 (r6)) (Pu.qo (p_assign rfl)) (by decide) ?_
      refine Rg.nl ?_
      refine nT (?_)
      refine tRet ?_
      have hr := Option.some.inj H; subst hr
      exact back1 () rfl (ResV.tmp (v := .int .i64 (r6)) rfl) rfl Ents.nil Take.nil
noncomputable def p_laws_FnExactPartMerge (v0 : Part) (v1 : Part) : Option (Bool) := bd (p_laws_szPart v0 1048576) fun r5 => cond (decide (r5 < 0)) (some true) (bd (p_laws_szPart v1 r5) fun r8 => cond (decide (r8 < 0)) (some true) (bd (p_laws_toPart v0) fun r11 => bd (p_laws_toPart v1) fun r14 => bd (p_spec_PartMerge r11 r14) fun r17 => bd (p_impl_PartMerge r11 r14) fun r25 => bd (bd (p_laws_eqPart r25.1 r17.1) fun r31 => cond (!r31) (some (true)) (some (!decide (r25.2 = r17.2)))) fun b29 => cond (b29) (some false) (bd (p_laws_eqPart r11 r11) fun r36 => cond (!r36) (some false) (bd (p_laws_eqPart r14 r14) fun r40 => cond (!r40) (some false) (bd (p_laws_markPart r11 1) fun r43 => bd (p_laws_markPart r14 r43.1) fun r46 => bd (cond (decide (r46.1 < 0)) (some (true)) (bd (p_laws_eqPart r25.1 r17.1) fun r52 => cond (!r52) (some (true)) (some (!decide (r25.2 = r17.2))))) fun b49 => cond (b49) (some false) (bd (p_laws_markPart r25.1 1) fun r56 => bd (p_laws_heldPart r56.2 1) fun r59 => cond (decide (r59 < 0)) (some false) (cond (!decide (r59 = r56.1)) (some false) (bd (bd (p_laws_eqPart r25.1 r17.1) fun r69 => cond (!r69) (some (true)) (some (!decide (r25.2 = r17.2)))) fun b67 => cond (b67) (some false) (cond (decide (r59 < 0)) (some false) (cond (!decide (r59 = r56.1)) (some false) (some true)))))))))))
theorem c_laws_FnExactPartMerge {r : Bool} (v0 : Part) (x_v0 : (Option Addr × Nat) × (Option Addr × Nat)) (v1 : Part) (x_v1 : (Option Addr × Nat) × (Option Addr × Nat)) (H : p_laws_FnExactPartMerge v0 v1 = some r) : Fn' Try.prog 8 #[.agg #[.slice x_v0.1.1 v0.1.length x_v0.1.2, .slice x_v0.2.1 v0.2.length x_v0.2.2], .agg #[.slice x_v1.1.1 v1.1.length x_v1.1.2, .slice x_v1.2.1 v1.2.length x_v1.2.2]] [imm (.slice x_v0.1.1 v0.1.length x_v0.1.2) v0.1, imm (.slice x_v0.2.1 v0.2.length x_v0.2.2) v0.2, imm (.slice x_v1.1.1 v1.1.length x_v1.1.2) v1.1, imm (.slice x_v1.2.1 v1.2.length x_v1.2.2) v1.2] [] (ι := Unit) (fun x => .bool (r)) (fun _ => []) (fun x => []) := by
  refine calls_of (args := [_, _]) Try.func8 rfl (by kernel_rfl) Try.ntmps8 (by simp) fun c => ?_
  unfold p_laws_FnExactPartMerge at H
  refine Tr.openD Ent.z.s fun X1 => ?_
  refine Tr.openD Ent.z.s.s.s.s fun X2 => ?_
  refine Tr.seq ?_
  refine Tr.region ?_
  refine Rg.ed (e_box (t := 49) (v := .agg #[.slice x_v0.1.1 v0.1.length x_v0.1.2, .slice x_v0.2.1 v0.2.length x_v0.2.2]) rfl) rfl (by decide) ?_
  rintro _ _ _ ⟨g3, rfl, rfl, rfl⟩
  refine Rg.ed (e_box (t := 49) (v := .agg #[.slice x_v1.1.1 v1.1.length x_v1.1.2, .slice x_v1.2.1 v1.2.length x_v1.2.2]) rfl) rfl (by decide) ?_
  rintro _ _ _ ⟨g4, rfl, rfl, rfl⟩
  refine Rg.q (v := .bool (false)) (Pu.qo (p_assign rfl)) (by decide) ?_
  refine Rg.nl ?_
  refine nT (?_)
  refine Tr.seq ?_
  refine Tr.region ?_
  refine Rg.q (v := .int .i64 (1048576)) (Pu.qo (p_assign rfl)) (by decide) ?_
  refine Rg.nl ?_
  refine nT (?_)
  refine Tr.seq ?_
  refine Tr.region ?_
  refine Rg.q (v := .agg #[.slice x_v0.1.1 v0.1.length x_v0.1.2, .slice x_v0.2.1 v0.2.length x_v0.2.2]) (q_ldbA ty49 rfl Has.here.there rfl) (by decide) ?_
  refine Rg.q (v := .int .i64 (1048576)) (Pu.qo (p_move rfl)) (by decide) ?_
  obtain ⟨r5, h6, H⟩ := bd.of H
  refine Rg.q (v := .int .i64 (r5)) (q_call (vs := [.agg #[.slice x_v0.1.1 v0.1.length x_v0.1.2, .slice x_v0.2.1 v0.2.length x_v0.2.2], .int .i64 (1048576)]) (c_laws_szPart v0 x_v0 1048576 h6) rfl (EntsB.cons (Ent.b Ent.z.s.s) (EntsB.cons (Ent.b (Ent.dimm Ent.z.s)) EntsB.nil))) (by decide) ?_
  refine Rg.q (v := .int .i64 (r5)) (Pu.qo (p_assign rfl)) (by decide) ?_
  refine Rg.nl ?_
  refine nT (?_)
  refine Tr.seq ?_
  refine Tr.seq ?_
  refine Tr.region ?_
  refine Rg.q (v := .int .i64 (r5)) (Pu.qo (p_move rfl)) (by decide) ?_
  refine Rg.q (v := .bool (decide (r5 < 0))) (Pu.qo (p_lss rfl rfl)) (by decide) ?_
  refine Rg.nl ?_
  refine nT (?_)
  refine Tr.cond (b := decide (r5 < 0)) rfl (fun h7 => ?_) (fun h7 => ?_)
  · have H := cdT h7 H
    refine Tr.seq ?_
    refine Tr.region ?_
    refine Rg.q (v := .bool (true)) (Pu.qo (p_assign rfl)) (by decide) ?_
    refine Rg.nl ?_
    refine nT (?_)
    refine tRet ?_
    refine rT (?_)
    have hr := Option.some.inj H; subst hr
    exact back1 () rfl (ResV.tmp (v := .bool (true)) rfl) rfl Ents.nil Take.nil
  · have H := cdF h7 H
    refine tSkip ?_
    refine nT (?_)
    refine Tr.seq ?_
    refine Tr.region ?_
    refine Rg.q (v := .agg #[.slice x_v1.1.1 v1.1.length x_v1.1.2, .slice x_v1.2.1 v1.2.length x_v1.2.2]) (q_ldbA ty49 rfl Has.here rfl) (by decide) ?_
    refine Rg.q (v := .int .i64 (r5)) (Pu.qo (p_move rfl)) (by decide) ?_
    obtain ⟨r8, h9, H⟩ := bd.of H
    refine Rg.q (v := .int .i64 (r8)) (q_call (vs := [.agg #[.slice x_v1.1.1 v1.1.length x_v1.1.2, .slice x_v1.2.1 v1.2.length x_v1.2.2], .int .i64 (r5)]) (c_laws_szPart v1 x_v1 r5 h9) rfl (EntsB.cons (Ent.b Ent.z.s.s.s.s) (EntsB.cons (Ent.b (Ent.dimm Ent.z)) EntsB.nil))) (by decide) ?_
    refine Rg.q (v := .int .i64 (r8)) (Pu.qo (p_assign rfl)) (by decide) ?_
    refine Rg.nl ?_
    refine nT (?_)
    refine Tr.seq ?_
    refine Tr.seq ?_
    refine Tr.region ?_
    refine Rg.q (v := .int .i64 (r8)) (Pu.qo (p_move rfl)) (by decide) ?_
    refine Rg.q (v := .bool (decide (r8 < 0))) (Pu.qo (p_lss rfl rfl)) (by decide) ?_
    refine Rg.nl ?_
    refine nT (?_)
    refine Tr.cond (b := decide (r8 < 0)) rfl (fun h10 => ?_) (fun h10 => ?_)
    · have H := cdT h10 H
      refine Tr.seq ?_
      refine Tr.region ?_
      refine Rg.q (v := .bool (true)) (Pu.qo (p_assign rfl)) (by decide) ?_
      refine Rg.nl ?_
      refine nT (?_)
      refine tRet ?_
      refine rT (?_)
      have hr := Option.some.inj H; subst hr
      exact back1 () rfl (ResV.tmp (v := .bool (true)) rfl) rfl Ents.nil Take.nil
    · have H := cdF h10 H
      refine tSkip ?_
      refine nT (?_)
      refine Tr.seq ?_
      refine tNwS [(3, .pointer (some ⟨g4, 0, none⟩)), (2, .pointer (some ⟨g3, 0, none⟩))] 2 [0, 2, 1, 3, 4, 5, 6, 7, 8, 9, 10] [1, 3, 4, 9] [⟨8, [], fun g => .pointer (some ⟨g, 0, none⟩), fun g => box g 26 [.slice none 0 0, .slice none 0 0]⟩] Try.mixed (by kernel_rfl) (by decide) (show List.Nodup [8] by decide) ⟨rfl, rfl, trivial⟩ rfl (okCons (FreeA.Ok.of rfl (by decide) (by kernel_rfl) fun c fs os => e_alloc ty26) okNil) ?_
      refine w_q (v := .agg #[.slice x_v0.1.1 v0.1.length x_v0.1.2, .slice x_v0.2.1 v0.2.length x_v0.2.2]) rfl (by decide) rfl rfl rfl (fun F => (q_ldbA ty49 rfl (Has.here.there.app F) rfl)) ?_
      refine w_q (v := .agg #[.slice x_v1.1.1 v1.1.length x_v1.1.2, .slice x_v1.2.1 v1.2.length x_v1.2.2]) rfl (by decide) rfl rfl rfl (fun F => (q_ldbA ty49 rfl (Has.here.app F) rfl)) ?_
      obtain ⟨r11, h12, H⟩ := bd.of H
      refine w_ed rfl (by decide) rfl (Rdy.cons (.inr (.inr trivial)) Rdy.nil) rfl (n_callB (vs := [.agg #[.slice x_v0.1.1 v0.1.length x_v0.1.2, .slice x_v0.2.1 v0.2.length x_v0.2.2]]) (c_laws_toPart v0 x_v0 h12) (fun _ => (Solo.tree (Solo.tree Solo.nil))) rfl (EntsB.cons (Ent.b Ent.z.s.s) (EntsB.cons (Ent.b (Ent.dimm Ent.z.s)) EntsB.nil))) ?_
      rintro _ _ _ ⟨x13, rfl, rfl, rfl⟩
      refine ⟨(PdOk.q rfl rfl (fun F => (q_ldbA ty49 rfl (Has.here.there.there.app F) rfl)) (PdOk.anc (by kernel_rfl) PdOk.nil)), ?_⟩
      obtain ⟨r14, h15, H⟩ := bd.of H
      refine w_ed rfl (by decide) rfl (Rdy.cons (.inr (.inr trivial)) Rdy.nil) rfl (n_callB (vs := [.agg #[.slice x_v1.1.1 v1.1.length x_v1.1.2, .slice x_v1.2.1 v1.2.length x_v1.2.2]]) (c_laws_toPart v1 x_v1 h15) (fun _ => (Solo.tree (Solo.tree Solo.nil))) rfl (EntsB.cons (Ent.b Ent.z.s.s.s.s) (EntsB.cons (Ent.b (Ent.dimm Ent.z)) EntsB.nil))) ?_
      rintro _ _ _ ⟨x16, rfl, rfl, rfl⟩
      refine ⟨(PdOk.anc (by kernel_rfl) (PdOk.anc (by kernel_rfl) PdOk.nil)), ?_⟩
      obtain ⟨r17, h18, H⟩ := bd.of H
      refine w_ed rfl (by decide) rfl (Rdy.cons (.inr (.inr trivial)) Rdy.nil) rfl (n_callB (vs := [.agg #[.slice x13.1.1 r11.1.length x13.1.2, .slice x13.2.1 r11.2.length x13.2.2], .agg #[.slice x16.1.1 r14.1.length x16.1.2, .slice x16.2.1 r14.2.length x16.2.2]]) (c_spec_PartMerge r11 x13 r14 x16 h18) (fun _ => (Solo.tree (Solo.tree Solo.nil))) rfl (EntsB.cons (EntB.tree Has.here.there.there) (EntsB.cons (EntB.tree Has.here.there.there.there) (EntsB.cons (EntB.tree Has.here) (EntsB.cons (EntB.tree Has.here.there) EntsB.nil))))) ?_
      rintro _ _ _ ⟨x19, rfl, rfl, rfl⟩
      refine ⟨(PdOk.anc (by kernel_rfl) (PdOk.anc (by kernel_rfl) PdOk.nil)), ?_⟩
      refine w_pu (v := .tuple #[.agg #[.slice x19.1.1.1 r17.1.1.length x19.1.1.2, .slice x19.1.2.1 r17.1.2.length x19.1.2.2], .bool (r17.2)]) rfl (by decide) rfl rfl rfl (p_move rfl) ?_
      refine w_pu (v := .agg #[.slice x19.1.1.1 r17.1.1.length x19.1.1.2, .slice x19.1.2.1 r17.1.2.length x19.1.2.2]) rfl (by decide) rfl rfl rfl (p_extract rfl rfl) ?_
      refine w_pu (v := .bool (r17.2)) rfl (by decide) rfl rfl rfl (p_extract rfl rfl) ?_
      refine w_fr (z := ⟨8, [], fun g => .pointer (some ⟨g, 0, none⟩), fun g => box g 26 [.slice none 0 0, .slice none 0 0]⟩) (.head _) rfl rfl (by decide) (Rdy.cons (.inl rfl) Rdy.nil) trivial ?_; intro g20
      refine w_en rfl rfl (Rdy.cons (.inl rfl) Rdy.nil) rfl (n_store (v := .agg #[.slice x19.1.1.1 r17.1.1.length x19.1.1.2, .slice x19.1.2.1 r17.1.2.length x19.1.2.2]) (cs' := [.slice x19.1.1.1 r17.1.1.length x19.1.1.2, .slice x19.1.2.1 r17.1.2.length x19.1.2.2]) ty26 rfl rfl Upd.here rfl (by simp [Value.cells, Value.oneCell']) (Nat.le_of_ble_eq_true rfl) rfl) ?_
      rintro _ _ _ ⟨rfl, rfl, rfl⟩
      refine ⟨(PdOk.anc (by kernel_rfl) (PdOk.anc (by kernel_rfl) PdOk.nil)), ?_⟩
      refine w_pu (v := .bool (r17.2)) rfl (by decide) rfl rfl rfl (p_assign rfl) ?_
      refine w_nil ?_
      show At _ _ _ _ _ _
      refine nT (?_)
      refine Tr.seq ?_
      refine Tr.region ?_
      refine Rg.q (v := .agg #[.slice x_v0.1.1 v0.1.length x_v0.1.2, .slice x_v0.2.1 v0.2.length x_v0.2.2]) (q_ldbA ty49 rfl Has.here.there.there.there.there.there.there.there.there rfl) (by decide) ?_
      refine Rg.ed (e_callB (vs := [.agg #[.slice x_v0.1.1 v0.1.length x_v0.1.2, .slice x_v0.2.1 v0.2.length x_v0.2.2]]) (c_laws_toPart v0 x_v0 h12) (fun _ => (Solo.tree (Solo.tree Solo.nil))) rfl (EntsB.cons (Ent.b Ent.z.s.s) (EntsB.cons (Ent.b (Ent.dimm Ent.z.s)) EntsB.nil))) rfl (by decide) ?_
      rintro _ _ _ ⟨x21, rfl, rfl, rfl⟩
      refine Rg.ed (e_alloc ty26) rfl (by decide) ?_
      rintro _ _ _ ⟨g22, rfl, rfl, rfl⟩
      refine Rg.en (e_store (v := .agg #[.slice x21.1.1 r11.1.length x21.1.2, .slice x21.2.1 r11.2.length x21.2.2]) (cs' := [.slice x21.1.1 r11.1.length x21.1.2, .slice x21.2.1 r11.2.length x21.2.2]) ty26 rfl rfl Upd.here rfl (by simp [Value.cells, Value.oneCell']) (Nat.le_of_ble_eq_true rfl) rfl) rfl ?_
      rintro _ _ _ ⟨rfl, rfl, rfl⟩
      refine Rg.nl ?_
      refine nT (?_)
      refine Tr.seq ?_
      refine Tr.region ?_
      refine Rg.q (v := .agg #[.slice x_v1.1.1 v1.1.length x_v1.1.2, .slice x_v1.2.1 v1.2.length x_v1.2.2]) (q_ldbA ty49 rfl Has.here.there.there.there.there.there.there.there.there.there.there rfl) (by decide) ?_
      refine Rg.ed (e_callB (vs := [.agg #[.slice x_v1.1.1 v1.1.length x_v1.1.2, .slice x_v1.2.1 v1.2.length x_v1.2.2]]) (c_laws_toPart v1 x_v1 h15) (fun _ => (Solo.tree (Solo.tree Solo.nil))) rfl (EntsB.cons (Ent.b Ent.z.s.s.s.s) (EntsB.cons (Ent.b (Ent.dimm Ent.z)) EntsB.nil))) rfl (by decide) ?_
      rintro _ _ _ ⟨x23, rfl, rfl, rfl⟩
      refine Rg.ed (e_alloc ty26) rfl (by decide) ?_
      rintro _ _ _ ⟨g24, rfl, rfl, rfl⟩
      refine Rg.en (e_store (v := .agg #[.slice x23.1.1 r14.1.length x23.1.2, .slice x23.2.1 r14.2.length x23.2.2]) (cs' := [.slice x23.1.1 r14.1.length x23.1.2, .slice x23.2.1 r14.2.length x23.2.2]) ty26 rfl rfl Upd.here rfl (by simp [Value.cells, Value.oneCell']) (Nat.le_of_ble_eq_true rfl) rfl) rfl ?_
      rintro _ _ _ ⟨rfl, rfl, rfl⟩
      refine Rg.nl ?_
      refine nT (?_)
      refine Tr.seq ?_
      refine Tr.region ?_
      refine Rg.q (v := .agg #[.slice x21.1.1 r11.1.length x21.1.2, .slice x21.2.1 r11.2.length x21.2.2]) (q_ldbA ty26 rfl Has.here.there.there.there rfl) (by decide) ?_
      refine Rg.q (v := .agg #[.slice x23.1.1 r14.1.length x23.1.2, .slice x23.2.1 r14.2.length x23.2.2]) (q_ldbA ty26 rfl Has.here rfl) (by decide) ?_
      obtain ⟨r25, h26, H⟩ := bd.of H
      refine Rg.ed (e_callB (vs := [.agg #[.slice x21.1.1 r11.1.length x21.1.2, .slice x21.2.1 r11.2.length x21.2.2], .agg #[.slice x23.1.1 r14.1.length x23.1.2, .slice x23.2.1 r14.2.length x23.2.2]]) (c_impl_PartMerge r11 x21 r14 x23 h26) (fun _ => (Solo.tree (Solo.tree Solo.nil))) rfl (EntsB.cons (EntB.tree Has.here.there.there.there.there) (EntsB.cons (EntB.tree Has.here.there.there.there.there.there) (EntsB.cons (EntB.tree Has.here.there) (EntsB.cons (EntB.tree Has.here.there.there) EntsB.nil))))) rfl (by decide) ?_
      rintro _ _ _ ⟨x27, rfl, rfl, rfl⟩
      refine Rg.q (v := .tuple #[.agg #[.slice x27.1.1.1 r25.1.1.length x27.1.1.2, .slice x27.1.2.1 r25.1.2.length x27.1.2.2], .bool (r25.2)]) (Pu.qo (p_move rfl)) (by decide) ?_
      refine Rg.q (v := .agg #[.slice x27.1.1.1 r25.1.1.length x27.1.1.2, .slice x27.1.2.1 r25.1.2.length x27.1.2.2]) (Pu.qo (p_extract rfl rfl)) (by decide) ?_
      refine Rg.q (v := .bool (r25.2)) (Pu.qo (p_extract rfl rfl)) (by decide) ?_
      refine Rg.ed (e_alloc ty26) rfl (by decide) ?_
      rintro _ _ _ ⟨g28, rfl, rfl, rfl⟩
      refine Rg.en (e_store (v := .agg #[.slice x27.1.1.1 r25.1.1.length x27.1.1.2, .slice x27.1.2.1 r25.1.2.length x27.1.2.2]) (cs' := [.slice x27.1.1.1 r25.1.1.length x27.1.1.2, .slice x27.1.2.1 r25.1.2.length x27.1.2.2]) ty26 rfl rfl Upd.here rfl (by simp [Value.cells, Value.oneCell']) (Nat.le_of_ble_eq_true rfl) rfl) rfl ?_
      rintro _ _ _ ⟨rfl, rfl, rfl⟩
      refine Rg.q (v := .bool (r25.2)) (Pu.qo (p_assign rfl)) (by decide) ?_
      refine Rg.nl ?_
      refine nT (?_)
      refine Tr.seq ?_
      obtain ⟨b29, j30, H⟩ := bd.of H
      refine tMid1 [(53, .bool (b29)), (11, .bool (r25.2)), (10, .pointer (some ⟨g28, 0, none⟩)), (9, .pointer (some ⟨g24, 0, none⟩)), (8, .pointer (some ⟨g22, 0, none⟩)), (7, .bool (r17.2)), (6, .pointer (some ⟨g20, 0, none⟩)), (3, .pointer (some ⟨g4, 0, none⟩)), (2, .pointer (some ⟨g3, 0, none⟩))] ?_ ?_
      · refine tLinT [(11, .bool (r25.2)), (10, .pointer (some ⟨g28, 0, none⟩)), (9, .pointer (some ⟨g24, 0, none⟩)), (8, .pointer (some ⟨g22, 0, none⟩)), (7, .bool (r17.2)), (6, .pointer (some ⟨g20, 0, none⟩)), (3, .pointer (some ⟨g4, 0, none⟩)), (2, .pointer (some ⟨g3, 0, none⟩))] ⟨rfl, rfl, rfl, rfl, rfl, rfl, rfl, rfl, trivial⟩ ?_
        refine Lin.q (v := .agg #[.slice x27.1.1.1 r25.1.1.length x27.1.1.2, .slice x27.1.2.1 r25.1.2.length x27.1.2.2]) (by decide) (q_ldbA ty26 rfl Has.here rfl) ?_
        refine Lin.q (v := .agg #[.slice x19.1.1.1 r17.1.1.length x19.1.1.2, .slice x19.1.2.1 r17.1.2.length x19.1.2.2]) (by decide) (q_ldbA ty26 rfl Has.here.there.there.there.there.there.there.there.there.there rfl) ?_
        obtain ⟨r31, h32, j30⟩ := bd.of j30
        refine Lin.q (v := .bool (r31)) (by decide) (q_call (vs := [.agg #[.slice x27.1.1.1 r25.1.1.length x27.1.1.2, .slice x27.1.2.1 r25.1.2.length x27.1.2.2], .agg #[.slice x19.1.1.1 r17.1.1.length x19.1.1.2, .slice x19.1.2.1 r17.1.2.length x19.1.2.2]]) (c_laws_eqPart r25.1 x27.1 r17.1 x19.1 h32) rfl (EntsB.cons (EntB.tree Has.here.there) (EntsB.cons (EntB.tree Has.here.there.there) (EntsB.cons (EntB.tree Has.here.there.there.there.there.there.there.there.there.there.there) (EntsB.cons (EntB.tree Has.here.there.there.there.there.there.there.there.there.there.there.there) EntsB.nil))))) ?_
        refine Lin.q (v := .bool (!r31)) (by decide) (Pu.qo (p_not rfl)) ?_
        rcases Bool.eq_false_or_eq_true (!r31) with h33 | h33
        · have j30 := cdT h33 j30
          refine Lin.q (v := .bool (true)) (by decide) (Qo.eqv (v := .bool (!r31)) (Pu.qo (p_move rfl)) (congrArg Value.bool h33)) ?_
          refine Lin.skip (by decide) rfl ?_
          refine Lin.skip (by decide) rfl ?_
          refine Lin.skip (by decide) rfl ?_
          refine Lin.q (v := .bool (true)) (by decide) (Pu.qo (p_pickT rfl rfl)) ?_
          have j30 := Option.some.inj j30; subst j30
          show At _ _ _ _ _ _
          exact n1 ⟨rfl, rfl, rfl, rfl, rfl, rfl, rfl, rfl, rfl, trivial⟩
        · have j30 := cdF h33 j30
          refine Lin.q (v := .bool (false)) (by decide) (Qo.eqv (v := .bool (!r31)) (Pu.qo (p_move rfl)) (congrArg Value.bool h33)) ?_
          refine Lin.g (v := .bool (r25.2)) (by decide) rfl (Pu.qo (p_move rfl)) ?_
          refine Lin.g (v := .bool (r17.2)) (by decide) rfl (Pu.qo (p_move rfl)) ?_
          refine Lin.g (v := .bool (!decide (r25.2 = r17.2))) (by decide) rfl (Pu.qo (p_bneq Try.underlying4 rfl rfl)) ?_
          refine Lin.q (v := .bool (!decide (r25.2 = r17.2))) (by decide) (Pu.qo (p_pickF rfl rfl)) ?_
          have j30 := Option.some.inj j30; subst j30
          show At _ _ _ _ _ _
          exact n1 ⟨rfl, rfl, rfl, rfl, rfl, rfl, rfl, rfl, rfl, trivial⟩
      refine Tr.cond (b := b29) rfl (fun h34 => ?_) (fun h34 => ?_)
      · have H := cdT h34 H
        refine Tr.seq ?_
        refine Tr.region ?_
        refine Rg.q (v := .bool (false)) (Pu.qo (p_assign rfl)) (by decide) ?_
        refine Rg.nl ?_
        refine nT (?_)
        refine tRet ?_
        refine rT (?_)
        have hr := Option.some.inj H; subst hr
        exact back1 () rfl (ResV.tmp (v := .bool (false)) rfl) rfl Ents.nil Take.nil
      · have H := cdF h34 H
        refine tSkip ?_
        refine nT (?_)
        refine Tr.seq ?_
        refine Tr.seq ?_
        refine tNwS [(11, .bool (r25.2)), (10, .pointer (some ⟨g28, 0, none⟩)), (9, .pointer (some ⟨g24, 0, none⟩)), (8, .pointer (some ⟨g22, 0, none⟩)), (7, .bool (r17.2)), (6, .pointer (some ⟨g20, 0, none⟩)), (3, .pointer (some ⟨g4, 0, none⟩)), (2, .pointer (some ⟨g3, 0, none⟩))] 2 [0, 1, 2, 3, 4] [2] [] Try.mixed (by kernel_rfl) (by decide) List.nodup_nil ⟨rfl, rfl, rfl, rfl, rfl, rfl, rfl, rfl, trivial⟩ rfl okNil ?_
        refine w_q (v := .agg #[.slice x21.1.1 r11.1.length x21.1.2, .slice x21.2.1 r11.2.length x21.2.2]) rfl (by decide) rfl rfl rfl (fun F => (q_ldbA ty26 rfl (Has.here.there.there.there.there.there.there.app F) rfl)) ?_
        refine w_q (v := .agg #[.slice x_v0.1.1 v0.1.length x_v0.1.2, .slice x_v0.2.1 v0.2.length x_v0.2.2]) rfl (by decide) rfl rfl rfl (fun F => (q_ldbA ty49 rfl (Has.here.there.there.there.there.there.there.there.there.there.there.there.there.there.there.there.there.there.app F) rfl)) ?_
        refine w_ed rfl (by decide) rfl Rdy.nil rfl (n_callB (vs := [.agg #[.slice x_v0.1.1 v0.1.length x_v0.1.2, .slice x_v0.2.1 v0.2.length x_v0.2.2]]) (c_laws_toPart v0 x_v0 h12) (fun _ => (Solo.tree (Solo.tree Solo.nil))) rfl (EntsB.cons (Ent.b Ent.z.s.s) (EntsB.cons (Ent.b (Ent.dimm Ent.z.s)) EntsB.nil))) ?_
        rintro _ _ _ ⟨x35, rfl, rfl, rfl⟩
        refine ⟨(PdOk.anc (by kernel_rfl) (PdOk.q rfl rfl (fun F => (q_ldbA ty26 rfl (Has.here.there.there.there.there.there.there.there.there.app F) rfl)) PdOk.nil)), ?_⟩
        obtain ⟨r36, h37, H⟩ := bd.of H
        refine w_q (v := .bool (r36)) rfl (by decide) rfl rfl rfl (fun F => (q_call (vs := [.agg #[.slice x21.1.1 r11.1.length x21.1.2, .slice x21.2.1 r11.2.length x21.2.2], .agg #[.slice x35.1.1 r11.1.length x35.1.2, .slice x35.2.1 r11.2.length x35.2.2]]) (c_laws_eqPart r11 x21 r11 x35 h37) rfl (EntsB.cons (EntB.tree (Has.here.there.there.there.there.there.there.there.there.there.app F)) (EntsB.cons (EntB.tree (Has.here.there.there.there.there.there.there.there.there.there.there.app F)) (EntsB.cons (EntB.tree (Has.here.app F)) (EntsB.cons (EntB.tree (Has.here.there.app F)) EntsB.nil)))))) ?_
        refine w_pu (v := .bool (!r36)) rfl (by decide) rfl rfl rfl (p_not rfl) ?_
        refine w_nil ?_
        show At _ _ _ _ _ _
        refine nT (?_)
        refine Tr.cond (b := !r36) rfl (fun h38 => ?_) (fun h38 => ?_)
        · have H := cdT h38 H
          refine Tr.seq ?_
          refine Tr.region ?_
          refine Rg.q (v := .bool (false)) (Pu.qo (p_assign rfl)) (by decide) ?_
          refine Rg.nl ?_
          refine nT (?_)
          refine tRet ?_
          refine rT (?_)
          have hr := Option.some.inj H; subst hr
          exact back1 () rfl (ResV.tmp (v := .bool (false)) rfl) rfl Ents.nil Take.nil
        · have H := cdF h38 H
          refine tSkip ?_
          refine nT (?_)
          refine Tr.seq ?_
          refine Tr.seq ?_
          refine tNwS [(11, .bool (r25.2)), (10, .pointer (some ⟨g28, 0, none⟩)), (9, .pointer (some ⟨g24, 0, none⟩)), (8, .pointer (some ⟨g22, 0, none⟩)), (7, .bool (r17.2)), (6, .pointer (some ⟨g20, 0, none⟩)), (3, .pointer (some ⟨g4, 0, none⟩)), (2, .pointer (some ⟨g3, 0, none⟩))] 2 [0, 1, 2, 3, 4] [2] [] Try.mixed (by kernel_rfl) (by decide) List.nodup_nil ⟨rfl, rfl, rfl, rfl, rfl, rfl, rfl, rfl, trivial⟩ rfl okNil ?_
          refine w_q (v := .agg #[.slice x23.1.1 r14.1.length x23.1.2, .slice x23.2.1 r14.2.length x23.2.2]) rfl (by decide) rfl rfl rfl (fun F => (q_ldbA ty26 rfl (Has.here.there.there.there.there.there.app F) rfl)) ?_
          refine w_q (v := .agg #[.slice x_v1.1.1 v1.1.length x_v1.1.2, .slice x_v1.2.1 v1.2.length x_v1.2.2]) rfl (by decide) rfl rfl rfl (fun F => (q_ldbA ty49 rfl (Has.here.there.there.there.there.there.there.there.there.there.there.there.there.there.there.there.there.there.there.app F) rfl)) ?_
          refine w_ed rfl (by decide) rfl Rdy.nil rfl (n_callB (vs := [.agg #[.slice x_v1.1.1 v1.1.length x_v1.1.2, .slice x_v1.2.1 v1.2.length x_v1.2.2]]) (c_laws_toPart v1 x_v1 h15) (fun _ => (Solo.tree (Solo.tree Solo.nil))) rfl (EntsB.cons (Ent.b Ent.z.s.s.s.s) (EntsB.cons (Ent.b (Ent.dimm Ent.z)) EntsB.nil))) ?_
          rintro _ _ _ ⟨x39, rfl, rfl, rfl⟩
          refine ⟨(PdOk.anc (by kernel_rfl) (PdOk.q rfl rfl (fun F => (q_ldbA ty26 rfl (Has.here.there.there.there.there.there.there.there.app F) rfl)) PdOk.nil)), ?_⟩
          obtain ⟨r40, h41, H⟩ := bd.of H
          refine w_q (v := .bool (r40)) rfl (by decide) rfl rfl rfl (fun F => (q_call (vs := [.agg #[.slice x23.1.1 r14.1.length x23.1.2, .slice x23.2.1 r14.2.length x23.2.2], .agg #[.slice x39.1.1 r14.1.length x39.1.2, .slice x39.2.1 r14.2.length x39.2.2]]) (c_laws_eqPart r14 x23 r14 x39 h41) rfl (EntsB.cons (EntB.tree (Has.here.there.there.there.there.there.there.there.there.app F)) (EntsB.cons (EntB.tree (Has.here.there.there.there.there.there.there.there.there.there.app F)) (EntsB.cons (EntB.tree (Has.here.app F)) (EntsB.cons (EntB.tree (Has.here.there.app F)) EntsB.nil)))))) ?_
          refine w_pu (v := .bool (!r40)) rfl (by decide) rfl rfl rfl (p_not rfl) ?_
          refine w_nil ?_
          show At _ _ _ _ _ _
          refine nT (?_)
          refine Tr.cond (b := !r40) rfl (fun h42 => ?_) (fun h42 => ?_)
          · have H := cdT h42 H
            refine Tr.seq ?_
            refine Tr.region ?_
            refine Rg.q (v := .bool (false)) (Pu.qo (p_assign rfl)) (by decide) ?_
            refine Rg.nl ?_
            refine nT (?_)
            refine tRet ?_
            refine rT (?_)
            have hr := Option.some.inj H; subst hr
            exact back1 () rfl (ResV.tmp (v := .bool (false)) rfl) rfl Ents.nil Take.nil
          · have H := cdF h42 H
            refine tSkip ?_
            refine nT (?_)
            refine Tr.seq ?_
            refine Tr.region ?_
            refine Rg.q (v := .int .i64 (1)) (Pu.qo (p_assign rfl)) (by decide) ?_
            refine Rg.nl ?_
            refine nT (?_)
            refine Tr.seq ?_
            refine Tr.region ?_
            refine Rg.q (v := .agg #[.slice x21.1.1 r11.1.length x21.1.2, .slice x21.2.1 r11.2.length x21.2.2]) (q_ldbA ty26 rfl Has.here.there.there.there.there.there.there.there.there.there.there rfl) (by decide) ?_
            refine Rg.q (v := .int .i64 (1)) (Pu.qo (p_move rfl)) (by decide) ?_
            obtain ⟨r43, h44, H⟩ := bd.of H
            refine Rg.ed (e_callM (vs := [.agg #[.slice x21.1.1 r11.1.length x21.1.2, .slice x21.2.1 r11.2.length x21.2.2], .int .i64 (1)]) (c_laws_markPart r11 x21 1 h44) (Solo.tree (Solo.tree Solo.nil)) (fun _ => (Solo.tree (Solo.tree Solo.nil))) rfl (.cons Del.here.there.there.there.there.there.there.there.there.there.there.there (.cons Del.here.there.there.there.there.there.there.there.there.there.there.there .nil)) EntsB.nil) rfl (by decide) ?_
            rintro _ _ _ ⟨u45, rfl, rfl, rfl⟩
            refine Rg.q (v := .int .i64 (r43.1)) (Pu.qo (p_assign rfl)) (by decide) ?_
            refine Rg.nl ?_
            refine nT (?_)
            refine Tr.seq ?_
            refine Tr.olen Has.here fun hn => ?_; rw [hn]
            refine Tr.olen Has.here.there fun hn => ?_; rw [hn]
            refine Tr.olen Has.here.there.there.there.there fun hn => ?_; rw [hn]
            refine Tr.olen Has.here.there.there.there.there.there fun hn => ?_; rw [hn]
            refine Tr.region ?_
            refine Rg.q (v := .agg #[.slice x23.1.1 r14.1.length x23.1.2, .slice x23.2.1 r14.2.length x23.2.2]) (q_ldbA ty26 rfl Has.here.there.there.there.there.there.there.there.there.there rfl) (by decide) ?_
            refine Rg.q (v := .int .i64 (r43.1)) (Pu.qo (p_move rfl)) (by decide) ?_
            obtain ⟨r46, h47, H⟩ := bd.of H
            refine Rg.ed (e_callM (vs := [.agg #[.slice x23.1.1 r14.1.length x23.1.2, .slice x23.2.1 r14.2.length x23.2.2], .int .i64 (r43.1)]) (c_laws_markPart r14 x23 r43.1 h47) (Solo.tree (Solo.tree Solo.nil)) (fun _ => (Solo.tree (Solo.tree Solo.nil))) rfl (.cons Del.here.there.there.there.there.there.there.there.there.there.there (.cons Del.here.there.there.there.there.there.there.there.there.there.there .nil)) EntsB.nil) rfl (by decide) ?_
            rintro _ _ _ ⟨u48, rfl, rfl, rfl⟩
            refine Rg.q (v := .int .i64 (r46.1)) (Pu.qo (p_assign rfl)) (by decide) ?_
            refine Rg.nl ?_
            refine nT (?_)
            refine Tr.seq ?_
            refine Tr.olen Has.here fun hn => ?_; rw [hn]
            refine Tr.olen Has.here.there fun hn => ?_; rw [hn]
            refine Tr.olen Has.here.there.there fun hn => ?_; rw [hn]
            refine Tr.olen Has.here.there.there.there fun hn => ?_; rw [hn]
            refine Tr.olen Has.here.there.there.there.there fun hn => ?_; rw [hn]
            refine Tr.olen Has.here.there.there.there.there.there fun hn => ?_; rw [hn]
            refine Tr.olen Has.here.there.there.there.there.there.there fun hn => ?_; rw [hn]
            refine Tr.olen Has.here.there.there.there.there.there.there.there fun hn => ?_; rw [hn]
            obtain ⟨b49, j50, H⟩ := bd.of H
            refine tMid1 [(82, .bool (b49)), (10, .pointer (some ⟨g28, 0, none⟩)), (7, .bool (r17.2)), (6, .pointer (some ⟨g20, 0, none⟩)), (3, .pointer (some ⟨g4, 0, none⟩)), (2, .pointer (some ⟨g3, 0, none⟩))] ?_ ?_
            · refine tLinT [(12, .int .i64 (r46.1)), (11, .bool (r25.2)), (10, .pointer (some ⟨g28, 0, none⟩)), (7, .bool (r17.2)), (6, .pointer (some ⟨g20, 0, none⟩)), (3, .pointer (some ⟨g4, 0, none⟩)), (2, .pointer (some ⟨g3, 0, none⟩))] ⟨rfl, rfl, rfl, rfl, rfl, rfl, rfl, trivial⟩ ?_
              refine Lin.q (v := .int .i64 (r46.1)) (by decide) (Pu.qo (p_move rfl)) ?_
              refine Lin.q (v := .bool (decide (r46.1 < 0))) (by decide) (Pu.qo (p_lss rfl rfl)) ?_
              rcases Bool.eq_false_or_eq_true (decide (r46.1 < 0)) with h51 | h51
              · have j50 := cdT h51 j50
                refine Lin.q (v := .bool (true)) (by decide) (Qo.eqv (v := .bool (decide (r46.1 < 0))) (Pu.qo (p_move rfl)) (congrArg Value.bool h51)) ?_
                refine Lin.skip (by decide) rfl ?_
                refine Lin.skip (by decide) rfl ?_
                refine Lin.skip (by decide) rfl ?_
                refine Lin.skip (by decide) rfl ?_
                refine Lin.q (v := .bool (true)) (by decide) (Pu.qo (p_pickT rfl rfl)) ?_
                refine Lin.q (v := .bool (true)) (by decide) (Pu.qo (p_move rfl)) ?_
                refine Lin.skip (by decide) rfl ?_
                refine Lin.skip (by decide) rfl ?_
                refine Lin.skip (by decide) rfl ?_
                refine Lin.q (v := .bool (true)) (by decide) (Pu.qo (p_pickT rfl rfl)) ?_
                have j50 := Option.some.inj j50; subst j50
                show At _ _ _ _ _ _
                exact n1 ⟨rfl, rfl, rfl, rfl, rfl, rfl, trivial⟩
              · have j50 := cdF h51 j50
                refine Lin.q (v := .bool (false)) (by decide) (Qo.eqv (v := .bool (decide (r46.1 < 0))) (Pu.qo (p_move rfl)) (congrArg Value.bool h51)) ?_
                refine Lin.g (v := .agg #[.slice x27.1.1.1 r25.1.1.length x27.1.1.2, .slice x27.1.2.1 r25.1.2.length x27.1.2.2]) (by decide) rfl (q_ldbA ty26 rfl Has.here.there.there.there.there.there.there.there.there rfl) ?_
                refine Lin.g (v := .agg #[.slice x19.1.1.1 r17.1.1.length x19.1.1.2, .slice x19.1.2.1 r17.1.2.length x19.1.2.2]) (by decide) rfl (q_ldbA ty26 rfl Has.here.there.there.there.there.there.there.there.there.there.there.there.there.there rfl) ?_
                obtain ⟨r52, h53, j50⟩ := bd.of j50
                refine Lin.g (v := .bool (r52)) (by decide) rfl (q_call (vs := [.agg #[.slice x27.1.1.1 r25.1.1.length x27.1.1.2, .slice x27.1.2.1 r25.1.2.length x27.1.2.2], .agg #[.slice x19.1.1.1 r17.1.1.length x19.1.1.2, .slice x19.1.2.1 r17.1.2.length x19.1.2.2]]) (c_laws_eqPart r25.1 x27.1 r17.1 x19.1 h53) rfl (EntsB.cons (EntB.tree Has.here.there.there.there.there.there.there.there.there.there) (EntsB.cons (EntB.tree Has.here.there.there.there.there.there.there.there.there.there.there) (EntsB.cons (EntB.tree Has.here.there.there.there.there.there.there.there.there.there.there.there.there.there.there) (EntsB.cons (EntB.tree Has.here.there.there.there.there.there.there.there.there.there.there.there.there.there.there.there) EntsB.nil))))) ?_
                refine Lin.g (v := .bool (!r52)) (by decide) rfl (Pu.qo (p_not rfl)) ?_
                refine Lin.q (v := .bool (!r52)) (by decide) (Pu.qo (p_pickF rfl rfl)) ?_
                rcases Bool.eq_false_or_eq_true (!r52) with h54 | h54
                · have j50 := cdT h54 j50
                  refine Lin.q (v := .bool (true)) (by decide) (Qo.eqv (v := .bool (!r52)) (Pu.qo (p_move rfl)) (congrArg Value.bool h54)) ?_
                  refine Lin.skip (by decide) rfl ?_
                  refine Lin.skip (by decide) rfl ?_
                  refine Lin.skip (by decide) rfl ?_
                  refine Lin.q (v := .bool (true)) (by decide) (Pu.qo (p_pickT rfl rfl)) ?_
                  have j50 := Option.some.inj j50; subst j50
                  show At _ _ _ _ _ _
                  exact n1 ⟨rfl, rfl, rfl, rfl, rfl, rfl, trivial⟩
                · have j50 := cdF h54 j50
                  refine Lin.q (v := .bool (false)) (by decide) (Qo.eqv (v := .bool (!r52)) (Pu.qo (p_move rfl)) (congrArg Value.bool h54)) ?_
                  refine Lin.g (v := .bool (r25.2)) (by decide) rfl (Pu.qo (p_move rfl)) ?_
                  refine Lin.g (v := .bool (r17.2)) (by decide) rfl (Pu.qo (p_move rfl)) ?_
                  refine Lin.g (v := .bool (!decide (r25.2 = r17.2))) (by decide) rfl (Pu.qo (p_bneq Try.underlying4 rfl rfl)) ?_
                  refine Lin.q (v := .bool (!decide (r25.2 = r17.2))) (by decide) (Pu.qo (p_pickF rfl rfl)) ?_
                  have j50 := Option.some.inj j50; subst j50
                  show At _ _ _ _ _ _
                  exact n1 ⟨rfl, rfl, rfl, rfl, rfl, rfl, trivial⟩
            refine Tr.cond (b := b49) rfl (fun h55 => ?_) (fun h55 => ?_)
            · have H := cdT h55 H
              refine Tr.seq ?_
              refine Tr.olen Has.here fun hn => ?_; rw [hn]
              refine Tr.olen Has.here.there fun hn => ?_; rw [hn]
              refine Tr.olen Has.here.there.there fun hn => ?_; rw [hn]
              refine Tr.olen Has.here.there.there.there fun hn => ?_; rw [hn]
              refine Tr.olen Has.here.there.there.there.there fun hn => ?_; rw [hn]
              refine Tr.olen Has.here.there.there.there.there.there fun hn => ?_; rw [hn]
              refine Tr.olen Has.here.there.there.there.there.there.there fun hn => ?_; rw [hn]
              refine Tr.olen Has.here.there.there.there.there.there.there.there fun hn => ?_; rw [hn]
              refine Tr.region ?_
              refine Rg.q (v := .bool (false)) (Pu.qo (p_assign rfl)) (by decide) ?_
              refine Rg.nl ?_
              refine nT (?_)
              refine Tr.olen Has.here fun hn => ?_; rw [hn]
              refine Tr.olen Has.here.there fun hn => ?_; rw [hn]
              refine Tr.olen Has.here.there.there fun hn => ?_; rw [hn]
              refine Tr.olen Has.here.there.there.there fun hn => ?_; rw [hn]
              refine Tr.olen Has.here.there.there.there.there fun hn => ?_; rw [hn]
              refine Tr.olen Has.here.there.there.there.there.there fun hn => ?_; rw [hn]
              refine Tr.olen Has.here.there.there.there.there.there.there fun hn => ?_; rw [hn]
              refine Tr.olen Has.here.there.there.there.there.there.there.there fun hn => ?_; rw [hn]
              refine tRet ?_
              refine rT (?_)
              refine At.olen Has.here fun hn => ?_; rw [hn]
              refine At.olen Has.here.there fun hn => ?_; rw [hn]
              refine At.olen Has.here.there.there fun hn => ?_; rw [hn]
              refine At.olen Has.here.there.there.there fun hn => ?_; rw [hn]
              refine At.olen Has.here.there.there.there.there fun hn => ?_; rw [hn]
              refine At.olen Has.here.there.there.there.there.there fun hn => ?_; rw [hn]
              refine At.olen Has.here.there.there.there.there.there.there fun hn => ?_; rw [hn]
              refine At.olen Has.here.there.there.there.there.there.there.there fun hn => ?_; rw [hn]
              have hr := Option.some.inj H; subst hr
              exact back1 () rfl (ResV.tmp (v := .bool (false)) rfl) rfl Ents.nil Take.nil
            · have H := cdF h55 H
              refine tSkip ?_
              refine nT (?_)
              refine Tr.seq ?_
              refine Tr.olen Has.here fun hn => ?_; rw [hn]
              refine Tr.olen Has.here.there fun hn => ?_; rw [hn]
              refine Tr.olen Has.here.there.there fun hn => ?_; rw [hn]
              refine Tr.olen Has.here.there.there.there fun hn => ?_; rw [hn]
              refine Tr.olen Has.here.there.there.there.there fun hn => ?_; rw [hn]
              refine Tr.olen Has.here.there.there.there.there.there fun hn => ?_; rw [hn]
              refine Tr.olen Has.here.there.there.there.there.there.there fun hn => ?_; rw [hn]
              refine Tr.olen Has.here.there.there.there.there.there.there.there fun hn => ?_; rw [hn]
              refine Tr.region ?_
              refine Rg.q (v := .int .i64 (1)) (Pu.qo (p_assign rfl)) (by decide) ?_
              refine Rg.nl ?_
              refine nT (?_)
              refine Tr.seq ?_
              refine Tr.olen Has.here fun hn => ?_; rw [hn]
              refine Tr.olen Has.here.there fun hn => ?_; rw [hn]
              refine Tr.olen Has.here.there.there fun hn => ?_; rw [hn]
              refine Tr.olen Has.here.there.there.there fun hn => ?_; rw [hn]
              refine Tr.olen Has.here.there.there.there.there fun hn => ?_; rw [hn]
              refine Tr.olen Has.here.there.there.there.there.there fun hn => ?_; rw [hn]
              refine Tr.olen Has.here.there.there.there.there.there.there fun hn => ?_; rw [hn]
              refine Tr.olen Has.here.there.there.there.there.there.there.there fun hn => ?_; rw [hn]
              refine Tr.region ?_
              refine Rg.q (v := .agg #[.slice x27.1.1.1 r25.1.1.length x27.1.1.2, .slice x27.1.2.1 r25.1.2.length x27.1.2.2]) (q_ldbA ty26 rfl Has.here.there.there.there.there.there.there.there.there rfl) (by decide) ?_
              refine Rg.q (v := .int .i64 (1)) (Pu.qo (p_move rfl)) (by decide) ?_
              obtain ⟨r56, h57, H⟩ := bd.of H
              refine Rg.ed (e_callM (vs := [.agg #[.slice x27.1.1.1 r25.1.1.length x27.1.1.2, .slice x27.1.2.1 r25.1.2.length x27.1.2.2], .int .i64 (1)]) (c_laws_markPart r25.1 x27.1 1 h57) (Solo.tree (Solo.tree Solo.nil)) (fun _ => (Solo.tree (Solo.tree Solo.nil))) rfl (.cons Del.here.there.there.there.there.there.there.there.there.there (.cons Del.here.there.there.there.there.there.there.there.there.there .nil)) EntsB.nil) rfl (by decide) ?_
              rintro _ _ _ ⟨u58, rfl, rfl, rfl⟩
              refine Rg.q (v := .int .i64 (r56.1)) (Pu.qo (p_assign rfl)) (by decide) ?_
              refine Rg.nl ?_
              refine nT (?_)
              refine Tr.seq ?_
              refine Tr.olen Has.here fun hn => ?_; rw [hn]
              refine Tr.olen Has.here.there fun hn => ?_; rw [hn]
              refine Tr.olen Has.here.there.there fun hn => ?_; rw [hn]
              refine Tr.olen Has.here.there.there.there fun hn => ?_; rw [hn]
              refine Tr.olen Has.here.there.there.there.there fun hn => ?_; rw [hn]
              refine Tr.olen Has.here.there.there.there.there.there fun hn => ?_; rw [hn]
              refine Tr.olen Has.here.there.there.there.there.there.there fun hn => ?_; rw [hn]
              refine Tr.olen Has.here.there.there.there.there.there.there.there fun hn => ?_; rw [hn]
              refine Tr.olen Has.here.there.there.there.there.there.there.there.there fun hn => ?_; rw [hn]
              refine Tr.olen Has.here.there.there.there.there.there.there.there.there.there fun hn => ?_; rw [hn]
              refine Tr.region ?_
              refine Rg.q (v := .int .i64 (1)) (Pu.qo (p_assign rfl)) (by decide) ?_
              refine Rg.nl ?_
              refine nT (?_)
              refine Tr.seq ?_
              refine Tr.olen Has.here.there.there fun hn => ?_; rw [hn]
              refine Tr.olen Has.here.there.there.there fun hn => ?_; rw [hn]
              refine Tr.olen Has.here.there.there.there.there fun hn => ?_; rw [hn]
              refine Tr.olen Has.here.there.there.there.there.there fun hn => ?_; rw [hn]
              refine Tr.olen Has.here.there.there.there.there.there.there fun hn => ?_; rw [hn]
              refine Tr.olen Has.here.there.there.there.there.there.there.there fun hn => ?_; rw [hn]
              refine Tr.olen Has.here.there.there.there.there.there.there.there.there fun hn => ?_; rw [hn]
              refine Tr.olen Has.here.there.there.there.there.there.there.there.there.there fun hn => ?_; rw [hn]
              refine Tr.region ?_
              refine Rg.q (v := .agg #[.slice x27.1.1.1 r56.2.1.length x27.1.1.2, .slice x27.1.2.1 r56.2.2.length x27.1.2.2]) (q_ldbA ty26 rfl Has.here.there.there.there.there.there.there.there.there.there.there rfl) (by decide) ?_
              refine Rg.q (v := .int .i64 (1)) (Pu.qo (p_move rfl)) (by decide) ?_
              obtain ⟨r59, h60, H⟩ := bd.of H
              refine Rg.q (v := .int .i64 (r59)) (q_call (vs := [.agg #[.slice x27.1.1.1 r56.2.1.length x27.1.1.2, .slice x27.1.2.1 r56.2.2.length x27.1.2.2], .int .i64 (1)]) (c_laws_heldPart r56.2 x27.1 1 h60) rfl (EntsB.cons (EntB.tree Has.here) (EntsB.cons (EntB.tree Has.here.there) EntsB.nil))) (by decide) ?_
              refine Rg.q (v := .int .i64 (r59)) (Pu.qo (p_assign rfl)) (by decide) ?_
              refine Rg.nl ?_
              refine nT (?_)
              refine Tr.seq ?_
              refine Tr.seq ?_
              refine Tr.olen Has.here.there.there fun hn => ?_; rw [hn]
              refine Tr.olen Has.here.there.there.there fun hn => ?_; rw [hn]
              refine Tr.olen Has.here.there.there.there.there fun hn => ?_; rw [hn]
              refine Tr.olen Has.here.there.there.there.there.there fun hn => ?_; rw [hn]
              refine Tr.olen Has.here.there.there.there.there.there.there fun hn => ?_; rw [hn]
              refine Tr.olen Has.here.there.there.there.there.there.there.there fun hn => ?_; rw [hn]
              refine Tr.olen Has.here.there.there.there.there.there.there.there.there fun hn => ?_; rw [hn]
              refine Tr.olen Has.here.there.there.there.there.there.there.there.there.there fun hn => ?_; rw [hn]
              refine Tr.region ?_
              refine Rg.q (v := .int .i64 (r59)) (Pu.qo (p_move rfl)) (by decide) ?_
              refine Rg.q (v := .bool (decide (r59 < 0))) (Pu.qo (p_lss rfl rfl)) (by decide) ?_
              refine Rg.nl ?_
              refine nT (?_)
              refine Tr.cond (b := decide (r59 < 0)) rfl (fun h61 => ?_) (fun h61 => ?_)
              · have H := cdT h61 H
                refine Tr.seq ?_
                refine Tr.olen Has.here.there.there fun hn => ?_; rw [hn]
                refine Tr.olen Has.here.there.there.there fun hn => ?_; rw [hn]
                refine Tr.olen Has.here.there.there.there.there fun hn => ?_; rw [hn]
                refine Tr.olen Has.here.there.there.there.there.there fun hn => ?_; rw [hn]
                refine Tr.olen Has.here.there.there.there.there.there.there fun hn => ?_; rw [hn]
                refine Tr.olen Has.here.there.there.there.there.there.there.there fun hn => ?_; rw [hn]
                refine Tr.olen Has.here.there.there.there.there.there.there.there.there fun hn => ?_; rw [hn]
                refine Tr.olen Has.here.there.there.there.there.there.there.there.there.there fun hn => ?_; rw [hn]
                refine Tr.region ?_
                refine Rg.q (v := .bool (false)) (Pu.qo (p_assign rfl)) (by decide) ?_
                refine Rg.nl ?_
                refine nT (?_)
                refine Tr.olen Has.here.there.there fun hn => ?_; rw [hn]
                refine Tr.olen Has.here.there.there.there fun hn => ?_; rw [hn]
                refine Tr.olen Has.here.there.there.there.there fun hn => ?_; rw [hn]
                refine Tr.olen Has.here.there.there.there.there.there fun hn => ?_; rw [hn]
                refine Tr.olen Has.here.there.there.there.there.there.there fun hn => ?_; rw [hn]
                refine Tr.olen Has.here.there.there.there.there.there.there.there fun hn => ?_; rw [hn]
                refine Tr.olen Has.here.there.there.there.there.there.there.there.there fun hn => ?_; rw [hn]
                refine Tr.olen Has.here.there.there.there.there.there.there.there.there.there fun hn => ?_; rw [hn]
                refine tRet ?_
                refine rT (?_)
                refine At.olen Has.here.there.there fun hn => ?_; rw [hn]
                refine At.olen Has.here.there.there.there fun hn => ?_; rw [hn]
                refine At.olen Has.here.there.there.there.there fun hn => ?_; rw [hn]
                refine At.olen Has.here.there.there.there.there.there fun hn => ?_; rw [hn]
                refine At.olen Has.here.there.there.there.there.there.there fun hn => ?_; rw [hn]
                refine At.olen Has.here.there.there.there.there.there.there.there fun hn => ?_; rw [hn]
                refine At.olen Has.here.there.there.there.there.there.there.there.there fun hn => ?_; rw [hn]
                refine At.olen Has.here.there.there.there.there.there.there.there.there.there fun hn => ?_; rw [hn]
                have hr := Option.some.inj H; subst hr
                exact back1 () rfl (ResV.tmp (v := .bool (false)) rfl) rfl Ents.nil Take.nil
              · have H := cdF h61 H
                refine tSkip ?_
                refine nT (?_)
                refine Tr.seq ?_
                refine Tr.seq ?_
                refine Tr.olen Has.here.there.there fun hn => ?_; rw [hn]
                refine Tr.olen Has.here.there.there.there fun hn => ?_; rw [hn]
                refine Tr.olen Has.here.there.there.there.there fun hn => ?_; rw [hn]
                refine Tr.olen Has.here.there.there.there.there.there fun hn => ?_; rw [hn]
                refine Tr.olen Has.here.there.there.there.there.there.there fun hn => ?_; rw [hn]
                refine Tr.olen Has.here.there.there.there.there.there.there.there fun hn => ?_; rw [hn]
                refine Tr.olen Has.here.there.there.there.there.there.there.there.there fun hn => ?_; rw [hn]
                refine Tr.olen Has.here.there.there.there.there.there.there.there.there.there fun hn => ?_; rw [hn]
                refine Tr.region ?_
                refine Rg.q (v := .int .i64 (r59)) (Pu.qo (p_move rfl)) (by decide) ?_
                refine Rg.q (v := .int .i64 (r56.1)) (Pu.qo (p_move rfl)) (by decide) ?_
                refine Rg.q (v := .bool (!decide (r59 = r56.1))) (Pu.qo (p_neq rfl rfl)) (by decide) ?_
                refine Rg.nl ?_
                refine nT (?_)
                refine Tr.cond (b := !decide (r59 = r56.1)) rfl (fun h62 => ?_) (fun h62 => ?_)
                · have H := cdT h62 H
                  refine Tr.seq ?_
                  refine Tr.olen Has.here.there.there fun hn => ?_; rw [hn]
                  refine Tr.olen Has.here.there.there.there fun hn => ?_; rw [hn]
                  refine Tr.olen Has.here.there.there.there.there fun hn => ?_; rw [hn]
                  refine Tr.olen Has.here.there.there.there.there.there fun hn => ?_; rw [hn]
                  refine Tr.olen Has.here.there.there.there.there.there.there fun hn => ?_; rw [hn]
                  refine Tr.olen Has.here.there.there.there.there.there.there.there fun hn => ?_; rw [hn]
                  refine Tr.olen Has.here.there.there.there.there.there.there.there.there fun hn => ?_; rw [hn]
                  refine Tr.olen Has.here.there.there.there.there.there.there.there.there.there fun hn => ?_; rw [hn]
                  refine Tr.region ?_
                  refine Rg.q (v := .bool (false)) (Pu.qo (p_assign rfl)) (by decide) ?_
                  refine Rg.nl ?_
                  refine nT (?_)
                  refine Tr.olen Has.here.there.there fun hn => ?_; rw [hn]
                  refine Tr.olen Has.here.there.there.there fun hn => ?_; rw [hn]
                  refine Tr.olen Has.here.there.there.there.there fun hn => ?_; rw [hn]
                  refine Tr.olen Has.here.there.there.there.there.there fun hn => ?_; rw [hn]
                  refine Tr.olen Has.here.there.there.there.there.there.there fun hn => ?_; rw [hn]
                  refine Tr.olen Has.here.there.there.there.there.there.there.there fun hn => ?_; rw [hn]
                  refine Tr.olen Has.here.there.there.there.there.there.there.there.there fun hn => ?_; rw [hn]
                  refine Tr.olen Has.here.there.there.there.there.there.there.there.there.there fun hn => ?_; rw [hn]
                  refine tRet ?_
                  refine rT (?_)
                  refine At.olen Has.here.there.there fun hn => ?_; rw [hn]
                  refine At.olen Has.here.there.there.there fun hn => ?_; rw [hn]
                  refine At.olen Has.here.there.there.there.there fun hn => ?_; rw [hn]
                  refine At.olen Has.here.there.there.there.there.there fun hn => ?_; rw [hn]
                  refine At.olen Has.here.there.there.there.there.there.there fun hn => ?_; rw [hn]
                  refine At.olen Has.here.there.there.there.there.there.there.there fun hn => ?_; rw [hn]
                  refine At.olen Has.here.there.there.there.there.there.there.there.there fun hn => ?_; rw [hn]
                  refine At.olen Has.here.there.there.there.there.there.there.there.there.there fun hn => ?_; rw [hn]
                  have hr := Option.some.inj H; subst hr
                  exact back1 () rfl (ResV.tmp (v := .bool (false)) rfl) rfl Ents.nil Take.nil
                · have H := cdF h62 H
                  refine tSkip ?_
                  refine nT (?_)
                  refine Tr.seq ?_
                  refine Tr.olen Has.here.there.there fun hn => ?_; rw [hn]
                  refine Tr.olen Has.here.there.there.there fun hn => ?_; rw [hn]
                  refine Tr.olen Has.here.there.there.there.there fun hn => ?_; rw [hn]
                  refine Tr.olen Has.here.there.there.there.there.there fun hn => ?_; rw [hn]
                  refine Tr.olen Has.here.there.there.there.there.there.there fun hn => ?_; rw [hn]
                  refine Tr.olen Has.here.there.there.there.there.there.there.there fun hn => ?_; rw [hn]
                  refine Tr.olen Has.here.there.there.there.there.there.there.there.there fun hn => ?_; rw [hn]
                  refine Tr.olen Has.here.there.there.there.there.there.there.there.there.there fun hn => ?_; rw [hn]
                  refine tNwS [(13, .int .i64 (r56.1)), (10, .pointer (some ⟨g28, 0, none⟩)), (7, .bool (r17.2)), (6, .pointer (some ⟨g20, 0, none⟩)), (3, .pointer (some ⟨g4, 0, none⟩)), (2, .pointer (some ⟨g3, 0, none⟩))] 2 [0, 2, 1, 3, 4, 5, 6, 7, 8, 9, 10] [1, 3, 4, 9] [⟨8, [], fun g => .pointer (some ⟨g, 0, none⟩), fun g => box g 26 [.slice none 0 0, .slice none 0 0]⟩] Try.mixed (by kernel_rfl) (by decide) (show List.Nodup [8] by decide) ⟨rfl, rfl, rfl, rfl, rfl, rfl, trivial⟩ rfl (okCons (FreeA.Ok.of rfl (by decide) (by kernel_rfl) fun c fs os => e_alloc ty26) okNil) ?_
                  refine w_q (v := .agg #[.slice x_v0.1.1 v0.1.length x_v0.1.2, .slice x_v0.2.1 v0.2.length x_v0.2.2]) rfl (by decide) rfl rfl rfl (fun F => (q_ldbA ty49 rfl (Has.here.there.there.there.there.there.there.there.there.there.there.there.there.there.there.there.there.there.there.there.there.there.app F) rfl)) ?_
                  refine w_q (v := .agg #[.slice x_v1.1.1 v1.1.length x_v1.1.2, .slice x_v1.2.1 v1.2.length x_v1.2.2]) rfl (by decide) rfl rfl rfl (fun F => (q_ldbA ty49 rfl (Has.here.there.there.there.there.there.there.there.there.there.there.there.there.there.there.there.there.there.there.there.there.app F) rfl)) ?_
                  refine w_ed rfl (by decide) rfl (Rdy.cons (.inr (.inr trivial)) Rdy.nil) rfl (n_callB (vs := [.agg #[.slice x_v0.1.1 v0.1.length x_v0.1.2, .slice x_v0.2.1 v0.2.length x_v0.2.2]]) (c_laws_toPart v0 x_v0 h12) (fun _ => (Solo.tree (Solo.tree Solo.nil))) rfl (EntsB.cons (Ent.b Ent.z.s.s) (EntsB.cons (Ent.b (Ent.dimm Ent.z.s)) EntsB.nil))) ?_
                  rintro _ _ _ ⟨x63, rfl, rfl, rfl⟩
                  refine ⟨(PdOk.q rfl rfl (fun F => (q_ldbA ty49 rfl (Has.here.there.there.there.there.there.there.there.there.there.there.there.there.there.there.there.there.there.there.there.there.there.there.app F) rfl)) (PdOk.anc (by kernel_rfl) PdOk.nil)), ?_⟩
                  refine w_ed rfl (by decide) rfl (Rdy.cons (.inr (.inr trivial)) Rdy.nil) rfl (n_callB (vs := [.agg #[.slice x_v1.1.1 v1.1.length x_v1.1.2, .slice x_v1.2.1 v1.2.length x_v1.2.2]]) (c_laws_toPart v1 x_v1 h15) (fun _ => (Solo.tree (Solo.tree Solo.nil))) rfl (EntsB.cons (Ent.b Ent.z.s.s.s.s) (EntsB.cons (Ent.b (Ent.dimm Ent.z)) EntsB.nil))) ?_
                  rintro _ _ _ ⟨x64, rfl, rfl, rfl⟩
                  refine ⟨(PdOk.anc (by kernel_rfl) (PdOk.anc (by kernel_rfl) PdOk.nil)), ?_⟩
                  refine w_ed rfl (by decide) rfl (Rdy.cons (.inr (.inr trivial)) Rdy.nil) rfl (n_callB (vs := [.agg #[.slice x63.1.1 r11.1.length x63.1.2, .slice x63.2.1 r11.2.length x63.2.2], .agg #[.slice x64.1.1 r14.1.length x64.1.2, .slice x64.2.1 r14.2.length x64.2.2]]) (c_impl_PartMerge r11 x63 r14 x64 h26) (fun _ => (Solo.tree (Solo.tree Solo.nil))) rfl (EntsB.cons (EntB.tree Has.here.there.there) (EntsB.cons (EntB.tree Has.here.there.there.there) (EntsB.cons (EntB.tree Has.here) (EntsB.cons (EntB.tree Has.here.there) EntsB.nil))))) ?_
                  rintro _ _ _ ⟨x65, rfl, rfl, rfl⟩
                  refine ⟨(PdOk.anc (by kernel_rfl) (PdOk.anc (by kernel_rfl) PdOk.nil)), ?_⟩
                  refine w_pu (v := .tuple #[.agg #[.slice x65.1.1.1 r25.1.1.length x65.1.1.2, .slice x65.1.2.1 r25.1.2.length x65.1.2.2], .bool (r25.2)]) rfl (by decide) rfl rfl rfl (p_move rfl) ?_
                  refine w_pu (v := .agg #[.slice x65.1.1.1 r25.1.1.length x65.1.1.2, .slice x65.1.2.1 r25.1.2.length x65.1.2.2]) rfl (by decide) rfl rfl rfl (p_extract rfl rfl) ?_
                  refine w_pu (v := .bool (r25.2)) rfl (by decide) rfl rfl rfl (p_extract rfl rfl) ?_
                  refine w_fr (z := ⟨8, [], fun g => .pointer (some ⟨g, 0, none⟩), fun g => box g 26 [.slice none 0 0, .slice none 0 0]⟩) (.head _) rfl rfl (by decide) (Rdy.cons (.inl rfl) Rdy.nil) trivial ?_; intro g66
                  refine w_en rfl rfl (Rdy.cons (.inl rfl) Rdy.nil) rfl (n_store (v := .agg #[.slice x65.1.1.1 r25.1.1.length x65.1.1.2, .slice x65.1.2.1 r25.1.2.length x65.1.2.2]) (cs' := [.slice x65.1.1.1 r25.1.1.length x65.1.1.2, .slice x65.1.2.1 r25.1.2.length x65.1.2.2]) ty26 rfl rfl Upd.here rfl (by simp [Value.cells, Value.oneCell']) (Nat.le_of_ble_eq_true rfl) rfl) ?_
                  rintro _ _ _ ⟨rfl, rfl, rfl⟩
                  refine ⟨(PdOk.anc (by kernel_rfl) (PdOk.anc (by kernel_rfl) PdOk.nil)), ?_⟩
                  refine w_pu (v := .bool (r25.2)) rfl (by decide) rfl rfl rfl (p_assign rfl) ?_
                  refine w_nil ?_
                  show At _ _ _ _ _ _
                  refine nT (?_)
                  refine Tr.seq ?_
                  refine Tr.olen Has.here.there.there.there.there.there.there.there.there.there fun hn => ?_; rw [hn]
                  refine Tr.olen Has.here.there.there.there.there.there.there.there.there.there.there fun hn => ?_; rw [hn]
                  refine Tr.olen Has.here.there.there.there.there.there.there.there.there.there.there.there fun hn => ?_; rw [hn]
                  refine Tr.olen Has.here.there.there.there.there.there.there.there.there.there.there.there.there fun hn => ?_; rw [hn]
                  refine Tr.olen Has.here.there.there.there.there.there.there.there.there.there.there.there.there.there fun hn => ?_; rw [hn]
                  refine Tr.olen Has.here.there.there.there.there.there.there.there.there.there.there.there.there.there.there fun hn => ?_; rw [hn]
                  refine Tr.olen Has.here.there.there.there.there.there.there.there.there.there.there.there.there.there.there.there fun hn => ?_; rw [hn]
                  refine Tr.olen Has.here.there.there.there.there.there.there.there.there.there.there.there.there.there.there.there.there fun hn => ?_; rw [hn]
                  obtain ⟨b67, j68, H⟩ := bd.of H
                  refine tMid1 [(110, .bool (b67)), (13, .int .i64 (r56.1)), (10, .pointer (some ⟨g28, 0, none⟩))] ?_ ?_
                  · refine tLinT [(16, .bool (r25.2)), (15, .pointer (some ⟨g66, 0, none⟩)), (13, .int .i64 (r56.1)), (10, .pointer (some ⟨g28, 0, none⟩)), (7, .bool (r17.2)), (6, .pointer (some ⟨g20, 0, none⟩))] ⟨rfl, rfl, rfl, rfl, rfl, rfl, trivial⟩ ?_
                    refine Lin.q (v := .agg #[.slice x65.1.1.1 r25.1.1.length x65.1.1.2, .slice x65.1.2.1 r25.1.2.length x65.1.2.2]) (by decide) (q_ldbA ty26 rfl Has.here rfl) ?_
                    refine Lin.q (v := .agg #[.slice x19.1.1.1 r17.1.1.length x19.1.1.2, .slice x19.1.2.1 r17.1.2.length x19.1.2.2]) (by decide) (q_ldbA ty26 rfl Has.here.there.there.there.there.there.there.there.there.there.there.there.there.there.there.there.there.there.there.there.there rfl) ?_
                    obtain ⟨r69, h70, j68⟩ := bd.of j68
                    refine Lin.q (v := .bool (r69)) (by decide) (q_call (vs := [.agg #[.slice x65.1.1.1 r25.1.1.length x65.1.1.2, .slice x65.1.2.1 r25.1.2.length x65.1.2.2], .agg #[.slice x19.1.1.1 r17.1.1.length x19.1.1.2, .slice x19.1.2.1 r17.1.2.length x19.1.2.2]]) (c_laws_eqPart r25.1 x65.1 r17.1 x19.1 h70) rfl (EntsB.cons (EntB.tree Has.here.there) (EntsB.cons (EntB.tree Has.here.there.there) (EntsB.cons (EntB.tree Has.here.there.there.there.there.there.there.there.there.there.there.there.there.there.there.there.there.there.there.there.there.there) (EntsB.cons (EntB.tree Has.here.there.there.there.there.there.there.there.there.there.there.there.there.there.there.there.there.there.there.there.there.there.there) EntsB.nil))))) ?_
                    refine Lin.q (v := .bool (!r69)) (by decide) (Pu.qo (p_not rfl)) ?_
                    rcases Bool.eq_false_or_eq_true (!r69) with h71 | h71
                    · have j68 := cdT h71 j68
                      refine Lin.q (v := .bool (true)) (by decide) (Qo.eqv (v := .bool (!r69)) (Pu.qo (p_move rfl)) (congrArg Value.bool h71)) ?_
                      refine Lin.skip (by decide) rfl ?_
                      refine Lin.skip (by decide) rfl ?_
                      refine Lin.skip (by decide) rfl ?_
                      refine Lin.q (v := .bool (true)) (by decide) (Pu.qo (p_pickT rfl rfl)) ?_
                      have j68 := Option.some.inj j68; subst j68
                      show At _ _ _ _ _ _
                      exact n1 ⟨rfl, rfl, rfl, trivial⟩
                    · have j68 := cdF h71 j68
                      refine Lin.q (v := .bool (false)) (by decide) (Qo.eqv (v := .bool (!r69)) (Pu.qo (p_move rfl)) (congrArg Value.bool h71)) ?_
                      refine Lin.g (v := .bool (r25.2)) (by decide) rfl (Pu.qo (p_move rfl)) ?_
                      refine Lin.g (v := .bool (r17.2)) (by decide) rfl (Pu.qo (p_move rfl)) ?_
                      refine Lin.g (v := .bool (!decide (r25.2 = r17.2))) (by decide) rfl (Pu.qo (p_bneq Try.underlying4 rfl rfl)) ?_
                      refine Lin.q (v := .bool (!decide (r25.2 = r17.2))) (by decide) (Pu.qo (p_pickF rfl rfl)) ?_
                      have j68 := Option.some.inj j68; subst j68
                      show At _ _ _ _ _ _
                      exact n1 ⟨rfl, rfl, rfl, trivial⟩
                  refine Tr.cond (b := b67) rfl (fun h72 => ?_) (fun h72 => ?_)
                  · have H := cdT h72 H
                    refine Tr.seq ?_
                    refine Tr.olen Has.here.there.there.there.there.there.there.there.there.there fun hn => ?_; rw [hn]
                    refine Tr.olen Has.here.there.there.there.there.there.there.there.there.there.there fun hn => ?_; rw [hn]
                    refine Tr.olen Has.here.there.there.there.there.there.there.there.there.there.there.there fun hn => ?_; rw [hn]
                    refine Tr.olen Has.here.there.there.there.there.there.there.there.there.there.there.there.there fun hn => ?_; rw [hn]
                    refine Tr.olen Has.here.there.there.there.there.there.there.there.there.there.there.there.there.there fun hn => ?_; rw [hn]
                    refine Tr.olen Has.here.there.there.there.there.there.there.there.there.there.there.there.there.there.there fun hn => ?_; rw [hn]
                    refine Tr.olen Has.here.there.there.there.there.there.there.there.there.there.there.there.there.there.there.there fun hn => ?_; rw [hn]
                    refine Tr.olen Has.here.there.there.there.there.there.there.there.there.there.there.there.there.there.there.there.there fun hn => ?_; rw [hn]
                    refine Tr.region ?_
                    refine Rg.q (v := .bool (false)) (Pu.qo (p_assign rfl)) (by decide) ?_
                    refine Rg.nl ?_
                    refine nT (?_)
                    refine Tr.olen Has.here.there.there.there.there.there.there.there.there.there fun hn => ?_; rw [hn]
                    refine Tr.olen Has.here.there.there.there.there.there.there.there.there.there.there fun hn => ?_; rw [hn]
                    refine Tr.olen Has.here.there.there.there.there.there.there.there.there.there.there.there fun hn => ?_; rw [hn]
                    refine Tr.olen Has.here.there.there.there.there.there.there.there.there.there.there.there.there fun hn => ?_; rw [hn]
                    refine Tr.olen Has.here.there.there.there.there.there.there.there.there.there.there.there.there.there fun hn => ?_; rw [hn]
                    refine Tr.olen Has.here.there.there.there.there.there.there.there.there.there.there.there.there.there.there fun hn => ?_; rw [hn]
                    refine Tr.olen Has.here.there.there.there.there.there.there.there.there.there.there.there.there.there.there.there fun hn => ?_; rw [hn]
                    refine Tr.olen Has.here.there.there.there.there.there.there.there.there.there.there.there.there.there.there.there.there fun hn => ?_; rw [hn]
                    refine tRet ?_
                    refine rT (?_)
                    refine At.olen Has.here.there.there.there.there.there.there.there.there.there fun hn => ?_; rw [hn]
                    refine At.olen Has.here.there.there.there.there.there.there.there.there.there.there fun hn => ?_; rw [hn]
                    refine At.olen Has.here.there.there.there.there.there.there.there.there.there.there.there fun hn => ?_; rw [hn]
                    refine At.olen Has.here.there.there.there.there.there.there.there.there.there.there.there.there fun hn => ?_; rw [hn]
                    refine At.olen Has.here.there.there.there.there.there.there.there.there.there.there.there.there.there fun hn => ?_; rw [hn]
                    refine At.olen Has.here.there.there.there.there.there.there.there.there.there.there.there.there.there.there fun hn => ?_; rw [hn]
                    refine At.olen Has.here.there.there.there.there.there.there.there.there.there.there.there.there.there.there.there fun hn => ?_; rw [hn]
                    refine At.olen Has.here.there.there.there.there.there.there.there.there.there.there.there.there.there.there.there.there fun hn => ?_; rw [hn]
                    have hr := Option.some.inj H; subst hr
                    exact back1 () rfl (ResV.tmp (v := .bool (false)) rfl) rfl Ents.nil Take.nil
                  · have H := cdF h72 H
                    refine tSkip ?_
                    refine nT (?_)
                    refine Tr.seq ?_
                    refine Tr.olen Has.here.there.there.there.there.there.there.there.there.there fun hn => ?_; rw [hn]
                    refine Tr.olen Has.here.there.there.there.there.there.there.there.there.there.there fun hn => ?_; rw [hn]
                    refine Tr.olen Has.here.there.there.there.there.there.there.there.there.there.there.there fun hn => ?_; rw [hn]
                    refine Tr.olen Has.here.there.there.there.there.there.there.there.there.there.there.there.there fun hn => ?_; rw [hn]
                    refine Tr.olen Has.here.there.there.there.there.there.there.there.there.there.there.there.there.there fun hn => ?_; rw [hn]
                    refine Tr.olen Has.here.there.there.there.there.there.there.there.there.there.there.there.there.there.there fun hn => ?_; rw [hn]
                    refine Tr.olen Has.here.there.there.there.there.there.there.there.there.there.there.there.there.there.there.there fun hn => ?_; rw [hn]
                    refine Tr.olen Has.here.there.there.there.there.there.there.there.there.there.there.there.there.there.there.there.there fun hn => ?_; rw [hn]
                    refine Tr.region ?_
                    refine Rg.q (v := .int .i64 (1)) (Pu.qo (p_assign rfl)) (by decide) ?_
                    refine Rg.nl ?_
                    refine nT (?_)
                    refine Tr.seq ?_
                    refine Tr.olen Has.here.there.there.there.there.there.there.there.there.there fun hn => ?_; rw [hn]
                    refine Tr.olen Has.here.there.there.there.there.there.there.there.there.there.there fun hn => ?_; rw [hn]
                    refine Tr.olen Has.here.there.there.there.there.there.there.there.there.there.there.there fun hn => ?_; rw [hn]
                    refine Tr.olen Has.here.there.there.there.there.there.there.there.there.there.there.there.there fun hn => ?_; rw [hn]
                    refine Tr.olen Has.here.there.there.there.there.there.there.there.there.there.there.there.there.there fun hn => ?_; rw [hn]
                    refine Tr.olen Has.here.there.there.there.there.there.there.there.there.there.there.there.there.there.there fun hn => ?_; rw [hn]
                    refine Tr.olen Has.here.there.there.there.there.there.there.there.there.there.there.there.there.there.there.there fun hn => ?_; rw [hn]
                    refine Tr.olen Has.here.there.there.there.there.there.there.there.there.there.there.there.there.there.there.there.there fun hn => ?_; rw [hn]
                    refine Tr.region ?_
                    refine Rg.q (v := .agg #[.slice x27.1.1.1 r56.2.1.length x27.1.1.2, .slice x27.1.2.1 r56.2.2.length x27.1.2.2]) (q_ldbA ty26 rfl Has.here.there.there.there.there.there.there.there.there.there.there.there.there.there.there.there.there.there rfl) (by decide) ?_
                    refine Rg.q (v := .int .i64 (1)) (Pu.qo (p_move rfl)) (by decide) ?_
                    refine Rg.q (v := .int .i64 (r59)) (q_call (vs := [.agg #[.slice x27.1.1.1 r56.2.1.length x27.1.1.2, .slice x27.1.2.1 r56.2.2.length x27.1.2.2], .int .i64 (1)]) (c_laws_heldPart r56.2 x27.1 1 h60) rfl (EntsB.cons (EntB.tree Has.here.there.there.there.there.there.there.there) (EntsB.cons (EntB.tree Has.here.there.there.there.there.there.there.there.there) EntsB.nil))) (by decide) ?_
                    refine Rg.q (v := .int .i64 (r59)) (Pu.qo (p_assign rfl)) (by decide) ?_
                    refine Rg.nl ?_
                    refine nT (?_)
                    refine Tr.seq ?_
                    refine Tr.seq ?_
                    refine Tr.olen Has.here.there.there.there.there.there.there.there.there.there fun hn => ?_; rw [hn]
                    refine Tr.olen Has.here.there.there.there.there.there.there.there.there.there.there fun hn => ?_; rw [hn]
                    refine Tr.olen Has.here.there.there.there.there.there.there.there.there.there.there.there fun hn => ?_; rw [hn]
                    refine Tr.olen Has.here.there.there.there.there.there.there.there.there.there.there.there.there fun hn => ?_; rw [hn]
                    refine Tr.olen Has.here.there.there.there.there.there.there.there.there.there.there.there.there.there fun hn => ?_; rw [hn]
                    refine Tr.olen Has.here.there.there.there.there.there.there.there.there.there.there.there.there.there.there fun hn => ?_; rw [hn]
                    refine Tr.olen Has.here.there.there.there.there.there.there.there.there.there.there.there.there.there.there.there fun hn => ?_; rw [hn]
                    refine Tr.olen Has.here.there.there.there.there.there.there.there.there.there.there.there.there.there.there.there.there fun hn => ?_; rw [hn]
                    refine Tr.region ?_
                    refine Rg.q (v := .int .i64 (r59)) (Pu.qo (p_move rfl)) (by decide) ?_
                    refine Rg.q (v := .bool (decide (r59 < 0))) (Pu.qo (p_lss rfl rfl)) (by decide) ?_
                    refine Rg.nl ?_
                    refine nT (?_)
                    refine Tr.cond (b := decide (r59 < 0)) rfl (fun h73 => ?_) (fun h73 => ?_)
                    · have H := cdT h73 H
                      refine Tr.seq ?_
                      refine Tr.olen Has.here.there.there.there.there.there.there.there.there.there fun hn => ?_; rw [hn]
                      refine Tr.olen Has.here.there.there.there.there.there.there.there.there.there.there fun hn => ?_; rw [hn]
                      refine Tr.olen Has.here.there.there.there.there.there.there.there.there.there.there.there fun hn => ?_; rw [hn]
                      refine Tr.olen Has.here.there.there.there.there.there.there.there.there.there.there.there.there fun hn => ?_; rw [hn]
                      refine Tr.olen Has.here.there.there.there.there.there.there.there.there.there.there.there.there.there fun hn => ?_; rw [hn]
                      refine Tr.olen Has.here.there.there.there.there.there.there.there.there.there.there.there.there.there.there fun hn => ?_; rw [hn]
                      refine Tr.olen Has.here.there.there.there.there.there.there.there.there.there.there.there.there.there.there.there fun hn => ?_; rw [hn]
                      refine Tr.olen Has.here.there.there.there.there.there.there.there.there.there.there.there.there.there.there.there.there fun hn => ?_; rw [hn]
                      refine Tr.region ?_
                      refine Rg.q (v := .bool (false)) (Pu.qo (p_assign rfl)) (by decide) ?_
                      refine Rg.nl ?_
                      refine nT (?_)
                      refine Tr.olen Has.here.there.there.there.there.there.there.there.there.there fun hn => ?_; rw [hn]
                      refine Tr.olen Has.here.there.there.there.there.there.there.there.there.there.there fun hn => ?_; rw [hn]
                      refine Tr.olen Has.here.there.there.there.there.there.there.there.there.there.there.there fun hn => ?_; rw [hn]
                      refine Tr.olen Has.here.there.there.there.there.there.there.there.there.there.there.there.there fun hn => ?_; rw [hn]
                      refine Tr.olen Has.here.there.there.there.there.there.there.there.there.there.there.there.there.there fun hn => ?_; rw [hn]
                      refine Tr.olen Has.here.there.there.there.there.there.there.there.there.there.there.there.there.there.there fun hn => ?_; rw [hn]
                      refine Tr.olen Has.here.there.there.there.there.there.there.there.there.there.there.there.there.there.there.there fun hn => ?_; rw [hn]
                      refine Tr.olen Has.here.there.there.there.there.there.there.there.there.there.there.there.there.there.there.there.there fun hn => ?_; rw [hn]
                      refine tRet ?_
                      refine rT (?_)
                      refine At.olen Has.here.there.there.there.there.there.there.there.there.there fun hn => ?_; rw [hn]
                      refine At.olen Has.here.there.there.there.there.there.there.there.there.there.there fun hn => ?_; rw [hn]
                      refine At.olen Has.here.there.there.there.there.there.there.there.there.there.there.there fun hn => ?_; rw [hn]
                      refine At.olen Has.here.there.there.there.there.there.there.there.there.there.there.there.there fun hn => ?_; rw [hn]
                      refine At.olen Has.here.there.there.there.there.there.there.there.there.there.there.there.there.there fun hn => ?_; rw [hn]
                      refine At.olen Has.here.there.there.there.there.there.there.there.there.there.there.there.there.there.there fun hn => ?_; rw [hn]
                      refine At.olen Has.here.there.there.there.there.there.there.there.there.there.there.there.there.there.there.there fun hn => ?_; rw [hn]
                      refine At.olen Has.here.there.there.there.there.there.there.there.there.there.there.there.there.there.there.there.there fun hn => ?_; rw [hn]
                      have hr := Option.some.inj H; subst hr
                      exact back1 () rfl (ResV.tmp (v := .bool (false)) rfl) rfl Ents.nil Take.nil
                    · have H := cdF h73 H
                      refine tSkip ?_
                      refine nT (?_)
                      refine Tr.seq ?_
                      refine Tr.seq ?_
                      refine Tr.olen Has.here.there.there.there.there.there.there.there.there.there fun hn => ?_; rw [hn]
                      refine Tr.olen Has.here.there.there.there.there.there.there.there.there.there.there fun hn => ?_; rw [hn]
                      refine Tr.olen Has.here.there.there.there.there.there.there.there.there.there.there.there fun hn => ?_; rw [hn]
                      refine Tr.olen Has.here.there.there.there.there.there.there.there.there.there.there.there.there fun hn => ?_; rw [hn]
                      refine Tr.olen Has.here.there.there.there.there.there.there.there.there.there.there.there.there.there fun hn => ?_; rw [hn]
                      refine Tr.olen Has.here.there.there.there.there.there.there.there.there.there.there.there.there.there.there fun hn => ?_; rw [hn]
                      refine Tr.olen Has.here.there.there.there.there.there.there.there.there.there.there.there.there.there.there.there fun hn => ?_; rw [hn]
                      refine Tr.olen Has.here.there.there.there.there.there.there.there.there.there.there.there.there.there.there.there.there fun hn => ?_; rw [hn]
                      refine Tr.region ?_
                      refine Rg.q (v := .int .i64 (r59)) (Pu.qo (p_move rfl)) (by decide) ?_
                      refine Rg.q (v := .int .i64 (r56.1)) (Pu.qo (p_move rfl)) (by decide) ?_
                      refine Rg.q (v := .bool (!decide (r59 = r56.1))) (Pu.qo (p_neq rfl rfl)) (by decide) ?_
                      refine Rg.nl ?_
                      refine nT (?_)
                      refine Tr.cond (b := !decide (r59 = r56.1)) rfl (fun h74 => ?_) (fun h74 => ?_)
                      · have H := cdT h74 H
                        refine Tr.seq ?_
                        refine Tr.olen Has.here.there.there.there.there.there.there.there.there.there fun hn => ?_; rw [hn]
                        refine Tr.olen Has.here.there.there.there.there.there.there.there.there.there.there fun hn => ?_; rw [hn]
                        refine Tr.olen Has.here.there.there.there.there.there.there.there.there.there.there.there fun hn => ?_; rw [hn]
                        refine Tr.olen Has.here.there.there.there.there.there.there.there.there.there.there.there.there fun hn => ?_; rw [hn]
                        refine Tr.olen Has.here.there.there.there.there.there.there.there.there.there.there.there.there.there fun hn => ?_; rw [hn]
                        refine Tr.olen Has.here.there.there.there.there.there.there.there.there.there.there.there.there.there.there fun hn => ?_; rw [hn]
                        refine Tr.olen Has.here.there.there.there.there.there.there.there.there.there.there.there.there.there.there.there fun hn => ?_; rw [hn]
                        refine Tr.olen Has.here.there.there.there.there.there.there.there.there.there.there.there.there.there.there.there.there fun hn => ?_; rw [hn]
                        refine Tr.region ?_
                        refine Rg.q (v := .bool (false)) (Pu.qo (p_assign rfl)) (by decide) ?_
                        refine Rg.nl ?_
                        refine nT (?_)
                        refine Tr.olen Has.here.there.there.there.there.there.there.there.there.there fun hn => ?_; rw [hn]
                        refine Tr.olen Has.here.there.there.there.there.there.there.there.there.there.there fun hn => ?_; rw [hn]
                        refine Tr.olen Has.here.there.there.there.there.there.there.there.there.there.there.there fun hn => ?_; rw [hn]
                        refine Tr.olen Has.here.there.there.there.there.there.there.there.there.there.there.there.there fun hn => ?_; rw [hn]
                        refine Tr.olen Has.here.there.there.there.there.there.there.there.there.there.there.there.there.there fun hn => ?_; rw [hn]
                        refine Tr.olen Has.here.there.there.there.there.there.there.there.there.there.there.there.there.there.there fun hn => ?_; rw [hn]
                        refine Tr.olen Has.here.there.there.there.there.there.there.there.there.there.there.there.there.there.there.there fun hn => ?_; rw [hn]
                        refine Tr.olen Has.here.there.there.there.there.there.there.there.there.there.there.there.there.there.there.there.there fun hn => ?_; rw [hn]
                        refine tRet ?_
                        refine rT (?_)
                        refine At.olen Has.here.there.there.there.there.there.there.there.there.there fun hn => ?_; rw [hn]
                        refine At.olen Has.here.there.there.there.there.there.there.there.there.there.there fun hn => ?_; rw [hn]
                        refine At.olen Has.here.there.there.there.there.there.there.there.there.there.there.there fun hn => ?_; rw [hn]
                        refine At.olen Has.here.there.there.there.there.there.there.there.there.there.there.there.there fun hn => ?_; rw [hn]
                        refine At.olen Has.here.there.there.there.there.there.there.there.there.there.there.there.there.there fun hn => ?_; rw [hn]
                        refine At.olen Has.here.there.there.there.there.there.there.there.there.there.there.there.there.there.there fun hn => ?_; rw [hn]
                        refine At.olen Has.here.there.there.there.there.there.there.there.there.there.there.there.there.there.there.there fun hn => ?_; rw [hn]
                        refine At.olen Has.here.there.there.there.there.there.there.there.there.there.there.there.there.there.there.there.there fun hn => ?_; rw [hn]
                        have hr := Option.some.inj H; subst hr
                        exact back1 () rfl (ResV.tmp (v := .bool (false)) rfl) rfl Ents.nil Take.nil
                      · have H := cdF h74 H
                        refine tSkip ?_
                        refine nT (?_)
                        refine Tr.seq ?_
                        refine Tr.olen Has.here.there.there.there.there.there.there.there.there.there fun hn => ?_; rw [hn]
                        refine Tr.olen Has.here.there.there.there.there.there.there.there.there.there.there fun hn => ?_; rw [hn]
                        refine Tr.olen Has.here.there.there.there.there.there.there.there.there.there.there.there fun hn => ?_; rw [hn]
                        refine Tr.olen Has.here.there.there.there.there.there.there.there.there.there.there.there.there fun hn => ?_; rw [hn]
                        refine Tr.olen Has.here.there.there.there.there.there.there.there.there.there.there.there.there.there fun hn => ?_; rw [hn]
                        refine Tr.olen Has.here.there.there.there.there.there.there.there.there.there.there.there.there.there.there fun hn => ?_; rw [hn]
                        refine Tr.olen Has.here.there.there.there.there.there.there.there.there.there.there.there.there.there.there.there fun hn => ?_; rw [hn]
                        refine Tr.olen Has.here.there.there.there.there.there.there.there.there.there.there.there.there.there.there.there.there fun hn => ?_; rw [hn]
                        refine Tr.region ?_
                        refine Rg.q (v := .bool (true)) (Pu.qo (p_assign rfl)) (by decide) ?_
                        refine Rg.nl ?_
                        refine nT (?_)
                        refine Tr.olen Has.here.there.there.there.there.there.there.there.there.there fun hn => ?_; rw [hn]
                        refine Tr.olen Has.here.there.there.there.there.there.there.there.there.there.there fun hn => ?_; rw [hn]
                        refine Tr.olen Has.here.there.there.there.there.there.there.there.there.there.there.there fun hn => ?_; rw [hn]
                        refine Tr.olen Has.here.there.there.there.there.there.there.there.there.there.there.there.there fun hn => ?_; rw [hn]
                        refine Tr.olen Has.here.there.there.there.there.there.there.there.there.there.there.there.there.there fun hn => ?_; rw [hn]
                        refine Tr.olen Has.here.there.there.there.there.there.there.there.there.there.there.there.there.there.there fun hn => ?_; rw [hn]
                        refine Tr.olen Has.here.there.there.there.there.there.there.there.there.there.there.there.there.there.there.there fun hn => ?_; rw [hn]
                        refine Tr.olen Has.here.there.there.there.there.there.there.there.there.there.there.there.there.there.there.there.there fun hn => ?_; rw [hn]
                        refine tRet ?_
                        refine At.olen Has.here.there.there.there.there.there.there.there.there.there fun hn => ?_; rw [hn]
                        refine At.olen Has.here.there.there.there.there.there.there.there.there.there.there fun hn => ?_; rw [hn]
                        refine At.olen Has.here.there.there.there.there.there.there.there.there.there.there.there fun hn => ?_; rw [hn]
                        refine At.olen Has.here.there.there.there.there.there.there.there.there.there.there.there.there fun hn => ?_; rw [hn]
                        refine At.olen Has.here.there.there.there.there.there.there.there.there.there.there.there.there.there fun hn => ?_; rw [hn]
                        refine At.olen Has.here.there.there.there.there.there.there.there.there.there.there.there.there.there.there fun hn => ?_; rw [hn]
                        refine At.olen Has.here.there.there.there.there.there.there.there.there.there.there.there.there.there.there.there fun hn => ?_; rw [hn]
                        refine At.olen Has.here.there.there.there.there.there.there.there.there.there.there.there.there.there.there.there.there fun hn => ?_; rw [hn]
                        have hr := Option.some.inj H; subst hr
                        exact back1 () rfl (ResV.tmp (v := .bool (true)) rfl) rfl Ents.nil Take.nil
theorem s_IntS (a : (List Int)) (left : Int) (h0 : 0 ≤ left) (h1 : left ≤ 1048576) (ok : Dp.ok a) : p_laws_szIntS a left = some (cut left (Wt.w a)) := by
  have hm : a.length ≤ 9223372036854775807 := ok.1
  unfold p_laws_szIntS
  have hw : Wt.w a = a.length := by show a.length + sumN a.length (fun i => Wt.w (nth a i)) = _; rw [sumN_zero (f := fun i => Wt.w (nth a i)) fun i _ => rfl]; rfl
  rw [hw]; exact sz_strl (by unfold I64; omega)
theorem s_RowS (a : (List Row)) (left : Int) (h0 : 0 ≤ left) (h1 : left ≤ 1048576) (ok : Dp.ok a) : p_laws_szRowS a left = some (cut left (Wt.w a)) := by
  have hm : a.length ≤ 9223372036854775807 := ok.1
  unfold p_laws_szRowS
  have hw : Wt.w a = a.length := by show a.length + sumN a.length (fun i => Wt.w (nth a i)) = _; rw [sumN_zero (f := fun i => Wt.w (nth a i)) fun i _ => rfl]; rfl
  rw [hw]; exact sz_strl (by unfold I64; omega)
theorem s_RowSS (a : (List (List Row))) (left : Int) (h0 : 0 ≤ left) (h1 : left ≤ 1048576) (ok : Dp.ok a) : p_laws_szRowSS a left = some (cut left (Wt.w a)) := by
  have hm : a.length ≤ 9223372036854775807 := ok.1
  unfold p_laws_szRowSS
  refine sz_str (w2 := sumN a.length fun i => Wt.w (nth a i)) (by unfold I64; omega) fun hc => ?_
  rw [cut_lt] at hc; rw [← cut_pos hc]
  exact sz_loop (l := a) (by omega) (by omega) (fun k hk m m0 m1 => by
    unfold p_laws_szRowSS_b0
    simp only [dlt hk, cond_true, gd.yes (ixN hk), Int.toNat_natCast, s_RowS (nth a k) m m0 m1 (ok.2 k hk), bd_some, gd.yes (i64S hk hm)]
    by_cases hc : cut m (Wt.w (nth a k)) < 0 <;> simp [hc]) (fun m => by unfold p_laws_szRowSS_b0; simp)
theorem s_Part (a : Part) (left : Int) (h0 : 0 ≤ left) (h1 : left ≤ 1048576) (ok : Dp.ok a) : p_laws_szPart a left = some (cut left (Wt.w a)) := by
  have hw : Wt.w a = Wt.w a.1 + (Wt.w a.2) := by
    simp only [Wt.w]
    first | done | omega
  rw [hw]; unfold p_laws_szPart
  refine sz_step (s_IntS a.1 left h0 h1 ok.1) fun c0 => ?_
  exact sz_last (s_RowSS a.2 (cut left (Wt.w a.1)) (cut_nn c0) (cut_rng h1) ok.2)
theorem t_IntS (a : (List Int)) (ok : Dp.ok a) (hw : Wt.w a ≤ 1048576) : p_laws_toIntS a = some a := by
  have hm : a.length ≤ 1048576 := Nat.le_trans wL_le hw
  unfold p_laws_toIntS
  rw [gd.yes (by unfold many; omega)]
  simp only [Int.toNat_natCast]
  rw [to_loop (l := a) (by simp) (fun k hk r hr => by
    unfold p_laws_toIntS_b0
    have hk2 : k < r.length := by omega
    simp only [dlt hk, cond_true, gd.yes (ixN hk), gd.yes (ixN hk2), Int.toNat_natCast, bd_some, gd.yes (i64S hk (by omega))]
    first | done | rfl) (fun r => by unfold p_laws_toIntS_b0; simp)]
  rfl
theorem t_Row (a : Row) (ok : Dp.ok a) (hw : Wt.w a ≤ 1048576) : p_laws_toRow a = some a := by
  unfold p_laws_toRow
  rfl
theorem t_RowS (a : (List Row)) (ok : Dp.ok a) (hw : Wt.w a ≤ 1048576) : p_laws_toRowS a = some a := by
  have hm : a.length ≤ 1048576 := Nat.le_trans wL_le hw
  unfold p_laws_toRowS
  rw [gd.yes (by unfold many; omega)]
  simp only [Int.toNat_natCast]
  rw [to_loop (l := a) (by simp) (fun k hk r hr => by
    unfold p_laws_toRowS_b0
    have hk2 : k < r.length := by omega
    simp only [dlt hk, cond_true, gd.yes (ixN hk), gd.yes (ixN hk2), Int.toNat_natCast, t_Row (nth a k) (ok.2 k hk) (Nat.le_trans (wL_el hk) hw), bd_some, gd.yes (i64S hk (by omega))]
    first | done | rfl) (fun r => by unfold p_laws_toRowS_b0; simp)]
  rfl
theorem t_RowSS (a : (List (List Row))) (ok : Dp.ok a) (hw : Wt.w a ≤ 1048576) : p_laws_toRowSS a = some a := by
  have hm : a.length ≤ 1048576 := Nat.le_trans wL_le hw
  unfold p_laws_toRowSS
  rw [gd.yes (by unfold many; omega)]
  simp only [Int.toNat_natCast]
  rw [to_loop (l := a) (by simp) (fun k hk r hr => by
    unfold p_laws_toRowSS_b0
    have hk2 : k < r.length := by omega
    simp only [dlt hk, cond_true, gd.yes (ixN hk), gd.yes (ixN hk2), Int.toNat_natCast, t_RowS (nth a k) (ok.2 k hk) (Nat.le_trans (wL_el hk) hw), bd_some, gd.yes (i64S hk (by omega))]
    first | done | rfl) (fun r => by unfold p_laws_toRowSS_b0; simp)]
  rfl
theorem t_Part (a : Part) (ok : Dp.ok a) (hw : Wt.w a ≤ 1048576) : p_laws_toPart a = some a := by
  unfold p_laws_toPart
  simp only [t_IntS a.1 ok.1 (by simp only [Wt.w] at hw ⊢; omega), t_RowSS a.2 ok.2 (by simp only [Wt.w] at hw ⊢; omega), bd_some]
theorem q_IntS (a b : (List Int)) (ha : Dp.ok a) (hb : Dp.ok b) : p_laws_eqIntS a b = some (decide (a = b)) := by
  have hm : a.length ≤ 9223372036854775807 := ha.1
  unfold p_laws_eqIntS
  by_cases hl : a.length = b.length
  · have hl2 : (a.length : Int) = (b.length : Int) := by omega
    simp only [hl2, decide_true, Bool.not_true, cond_false]
    refine eq_loop hl (fun k hk => ?_) ?_
    · have hk2 : k < b.length := by omega
      unfold p_laws_eqIntS_b0
      simp only [dlt hk, cond_true, gd.yes (ixN hk), gd.yes (ixN hk2), Int.toNat_natCast, bd_some, gd.yes (i64S hk hm)]
      by_cases h : nth a k = nth b k <;> simp [h]
    · unfold p_laws_eqIntS_b0; simp
  · have h2 : ¬ (a.length : Int) = (b.length : Int) := by omega
    have h3 : a ≠ b := fun e => hl (by rw [e])
    simp [h2, h3]
theorem q_Row (a b : Row) (ha : Dp.ok a) (hb : Dp.ok b) : p_laws_eqRow a b = some (decide (a = b)) := by
  have he : a = b ↔ a.1 = b.1 ∧ a.2 = b.2 := by
    constructor
    · rintro rfl; simp
    · rintro ⟨h0, h1⟩; exact Prod.ext h0 (h1)
  unfold p_laws_eqRow
  simp only [bd_some, he]
  by_cases h0 : a.1 = b.1
  · by_cases h1 : a.2 = b.2
    · simp [h0, h1]
    · simp [h0, h1]
  · simp [h0]
theorem q_RowS (a b : (List Row)) (ha : Dp.ok a) (hb : Dp.ok b) : p_laws_eqRowS a b = some (decide (a = b)) := by
  have hm : a.length ≤ 9223372036854775807 := ha.1
  unfold p_laws_eqRowS
  by_cases hl : a.length = b.length
  · have hl2 : (a.length : Int) = (b.length : Int) := by omega
    simp only [hl2, decide_true, Bool.not_true, cond_false]
    refine eq_loop hl (fun k hk => ?_) ?_
    · have hk2 : k < b.length := by omega
      unfold p_laws_eqRowS_b0
      simp only [dlt hk, cond_true, gd.yes (ixN hk), gd.yes (ixN hk2), Int.toNat_natCast, q_Row (nth a k) (nth b k) (ha.2 k hk) (hb.2 k hk2), bd_some, gd.yes (i64S hk hm)]
      by_cases h : nth a k = nth b k <;> simp [h]
    · unfold p_laws_eqRowS_b0; simp
  · have h2 : ¬ (a.length : Int) = (b.length : Int) := by omega
    have h3 : a ≠ b := fun e => hl (by rw [e])
    simp [h2, h3]
theorem q_RowSS (a b : (List (List Row))) (ha : Dp.ok a) (hb : Dp.ok b) : p_laws_eqRowSS a b = some (decide (a = b)) := by
  have hm : a.length ≤ 9223372036854775807 := ha.1
  unfold p_laws_eqRowSS
  by_cases hl : a.length = b.length
  · have hl2 : (a.length : Int) = (b.length : Int) := by omega
    simp only [hl2, decide_true, Bool.not_true, cond_false]
    refine eq_loop hl (fun k hk => ?_) ?_
    · have hk2 : k < b.length := by omega
      unfold p_laws_eqRowSS_b0
      simp only [dlt hk, cond_true, gd.yes (ixN hk), gd.yes (ixN hk2), Int.toNat_natCast, q_RowS (nth a k) (nth b k) (ha.2 k hk) (hb.2 k hk2), bd_some, gd.yes (i64S hk hm)]
      by_cases h : nth a k = nth b k <;> simp [h]
    · unfold p_laws_eqRowSS_b0; simp
  · have h2 : ¬ (a.length : Int) = (b.length : Int) := by omega
    have h3 : a ≠ b := fun e => hl (by rw [e])
    simp [h2, h3]
theorem q_Part (a b : Part) (ha : Dp.ok a) (hb : Dp.ok b) : p_laws_eqPart a b = some (decide (a = b)) := by
  have he : a = b ↔ a.1 = b.1 ∧ a.2 = b.2 := by
    constructor
    · rintro rfl; simp
    · rintro ⟨h0, h1⟩; exact Prod.ext h0 (h1)
  unfold p_laws_eqPart
  simp only [q_IntS a.1 b.1 ha.1 hb.1, q_RowSS a.2 b.2 ha.2 hb.2, bd_some, he]
  by_cases h0 : a.1 = b.1
  · by_cases h1 : a.2 = b.2
    · simp [h0, h1]
    · simp [h0, h1]
  · simp [h0]
theorem m_IntS (a : (List Int)) (k : Int) (h0 : 0 ≤ k) (hB : k + (Ct.ct a : Nat) ≤ 1152921504606846976) (ok : Dp.ok a) : MkR p_laws_markIntS p_laws_heldIntS a k := by
  have hm : a.length ≤ 9223372036854775807 := ok.1
  obtain ⟨k1, r, e1, e2, e3, e4, e5⟩ := mark_loop (l := a) (B := 1152921504606846976) (bm := p_laws_markIntS_b0 a) (bh := fun r => p_laws_heldIntS_b0 r) (fun i hi r hr hn k h0 hB => by
    have hi2 : i < r.length := by omega
    have hc : Ct.ct (nth a i) = 1 := rfl
    have g1 : I64 (k + 1) := i64B (by omega) (by omega)
    refine ⟨k, k + 1, ?_, by omega, by omega, fun r' hr' hu => ?_⟩
    · unfold p_laws_markIntS_b0
      simp only [dlt hi, cond_true, Int.toNat_natCast, List.length_set, gd.yes (ixN hi2), nth_set_eq hi2, List.set_set, hn, gd.yes g1, bd_some, gd.yes (i64S hi hm)]
      first | done | rfl
    · have hi3 : i < r'.length := by omega
      unfold p_laws_heldIntS_b0
      simp [hi3, gd.yes (ixN hi3), hu, gd.yes g1, gd.yes (i64S hi hm)])
    (fun r k hr => by unfold p_laws_markIntS_b0; simp) (fun r k hr => by unfold p_laws_heldIntS_b0; simp [hr]) h0 hB
  refine ⟨k1, r, ?_, e3, e4, ?_⟩
  · unfold p_laws_markIntS; rw [e1]; rfl
  · unfold p_laws_heldIntS; rw [e5]; rfl
theorem m_RowS (a : (List Row)) (k : Int) (h0 : 0 ≤ k) (hB : k + (Ct.ct a : Nat) ≤ 1152921504606846976) (ok : Dp.ok a) : MkR p_laws_markRowS p_laws_heldRowS a k := by
  have hm : a.length ≤ 9223372036854775807 := ok.1
  obtain ⟨k1, r, e1, e2, e3, e4, e5⟩ := mark_loop (l := a) (B := 1152921504606846976) (bm := p_laws_markRowS_b0 a) (bh := fun r => p_laws_heldRowS_b0 r) (fun i hi r hr hn k h0 hB => by
    have hi2 : i < r.length := by omega
    have hc : Ct.ct (nth a i) = 1 + (1) := rfl
    have g1 : I64 (k + 1) := i64B (by omega) (by omega)
    have g2 : I64 ((k + 1) + 1) := i64B (by omega) (by omega)
    refine ⟨(k, k + 1), (k + 1) + 1, ?_, by omega, by omega, fun r' hr' hu => ?_⟩
    · unfold p_laws_markRowS_b0
      simp only [dlt hi, cond_true, Int.toNat_natCast, List.length_set, gd.yes (ixN hi2), nth_set_eq hi2, List.set_set, hn, gd.yes g1, gd.yes g2, bd_some, gd.yes (i64S hi hm)]
      first | done | rfl
    · have hi3 : i < r'.length := by omega
      unfold p_laws_heldRowS_b0
      simp [hi3, gd.yes (ixN hi3), hu, gd.yes g1, gd.yes g2, gd.yes (i64S hi hm)])
    (fun r k hr => by unfold p_laws_markRowS_b0; simp) (fun r k hr => by unfold p_laws_heldRowS_b0; simp [hr]) h0 hB
  refine ⟨k1, r, ?_, e3, e4, ?_⟩
  · unfold p_laws_markRowS; rw [e1]; rfl
  · unfold p_laws_heldRowS; rw [e5]; rfl
theorem m_RowSS (a : (List (List Row))) (k : Int) (h0 : 0 ≤ k) (hB : k + (Ct.ct a : Nat) ≤ 1152921504606846976) (ok : Dp.ok a) : MkR p_laws_markRowSS p_laws_heldRowSS a k := by
  have hm : a.length ≤ 9223372036854775807 := ok.1
  obtain ⟨k1, r, e1, e2, e3, e4, e5⟩ := mark_loop (l := a) (B := 1152921504606846976) (bm := p_laws_markRowSS_b0 a) (bh := fun r => p_laws_heldRowSS_b0 r) (fun i hi r hr hn k h0 hB => by
    have hi2 : i < r.length := by omega
    have hc : Ct.ct (nth a i) = Ct.ct (nth a i) := rfl
    obtain ⟨c1, s1, x1, y1, z1, w1⟩ := m_RowS (nth a i) (k) (by omega) (by omega) (ok.2 i hi)
    have q1 : ¬ c1 < 0 := by omega
    refine ⟨s1, c1, ?_, by omega, by omega, fun r' hr' hu => ?_⟩
    · unfold p_laws_markRowSS_b0
      simp only [dlt hi, cond_true, Int.toNat_natCast, List.length_set, gd.yes (ixN hi2), nth_set_eq hi2, List.set_set, hn, x1, bd_some, gd.yes (i64S hi hm)]
      first | done | rfl
    · have hi3 : i < r'.length := by omega
      unfold p_laws_heldRowSS_b0
      simp [hi3, gd.yes (ixN hi3), hu, w1, q1, gd.yes (i64S hi hm)])
    (fun r k hr => by unfold p_laws_markRowSS_b0; simp) (fun r k hr => by unfold p_laws_heldRowSS_b0; simp [hr]) h0 hB
  refine ⟨k1, r, ?_, e3, e4, ?_⟩
  · unfold p_laws_markRowSS; rw [e1]; rfl
  · unfold p_laws_heldRowSS; rw [e5]; rfl
theorem m_Part (a : Part) (k : Int) (h0 : 0 ≤ k) (hB : k + (Ct.ct a : Nat) ≤ 1152921504606846976) (ok : Dp.ok a) : MkR p_laws_markPart p_laws_heldPart a k := by
  have hc : Ct.ct a = Ct.ct a.1 + (Ct.ct a.2) := rfl
  obtain ⟨k1, r1, e1, l1, u1, f1⟩ := m_IntS a.1 k (by omega) (by omega) ok.1
  have q1 : ¬ k1 < 0 := by omega
  obtain ⟨k2, r2, e2, l2, u2, f2⟩ := m_RowSS a.2 k1 (by omega) (by omega) ok.2
  have q2 : ¬ k2 < 0 := by omega
  refine ⟨k2, (r1, r2), ?_, by omega, by omega, ?_⟩
  · unfold p_laws_markPart; simp only [e1, e2, bd_some]
  · unfold p_laws_heldPart; simp [f1, q1, f2, q2]
def inn (lo n hi : Int) : Bool := decide (lo ≤ n) && decide (n ≤ hi)
theorem e_impl_within (n lo hi : Int) : p_impl_within n lo hi = some (inn lo n hi) := by
  unfold p_impl_within inn; cases decide (lo ≤ n) <;> rfl
theorem e_spec_l6In (n lo hi : Int) : p_spec_l6In n lo hi = some (inn lo n hi) := by
  unfold p_spec_l6In inn; cases decide (lo ≤ n) <;> rfl
def rowOk (r : Row) : Bool := inn 0 r.1 99 && inn (-99) r.2 99
theorem e_impl_rowOk (r : Row) : p_impl_rowOk r = some (rowOk r) := by
  unfold p_impl_rowOk rowOk; simp only [e_impl_within, bd_some]; cases inn 0 r.1 99 <;> rfl
theorem e_spec_l2Row (r : Row) : p_spec_l2Row r = some (rowOk r) := by
  unfold p_spec_l2Row rowOk; simp only [e_spec_l6In, bd_some]; cases inn 0 r.1 99 <;> rfl
def rowBad (b : List Row) (k : Nat) : Bool := !rowOk (nth b k) || (decide (0 < k) && decide ((nth b k).1 ≤ (nth b (k - 1)).1))
def blockOk (b : List Row) : Bool := allN b.length (rowBad b) && decide ((b.length : Int) ≤ 24)
theorem e_impl_BlockOk (b : List Row) (hb : b.length ≤ maxLen) : p_impl_BlockOk b = some (blockOk b) := by
  have hb' : b.length ≤ 9223372036854775807 := hb
  have hr : ∀ k, k < b.length → p_impl_BlockOk_b0 b (k : Int) = some (if rowBad b k then .inr (.inr false) else .inl ((k + 1 : Nat) : Int)) := fun k hk => by
    unfold p_impl_BlockOk_b0 rowBad
    simp only [dlt hk, cond_true, gd.yes (ixN hk), e_impl_rowOk, bd_some, Int.toNat_natCast, gd.yes (i64S hk hb')]
    cases h1 : rowOk (nth b k) with
    | false => simp
    | true =>
      simp only [Bool.not_true, cond_false, Bool.false_or]
      by_cases h0 : 0 < k
      · have h0' : (0 : Int) < k := by omega
        have e1 : (k : Int) - 1 = ((k - 1 : Nat) : Int) := by omega
        have hi : I64 ((k - 1 : Nat) : Int) := by unfold I64; omega
        simp only [h0, h0', decide_true, cond_true, e1, gd.yes hi, gd.yes (ixN (show k - 1 < b.length by omega)), Int.toNat_natCast, bd_some, Bool.true_and]
        cases decide ((nth b k).1 ≤ (nth b (k - 1)).1) <;> simp
      · have h0' : ¬ (0 : Int) < k := by omega
        simp [h0]
  unfold p_impl_BlockOk blockOk
  rcases lp_scan (body := p_impl_BlockOk_b0 b) (fun k => (k : Int)) b.length (rowBad b) (.inl ()) (fun _ => .inr false) (fun k hk _ h => by simp [hr k hk, h]) (fun k hk _ h => by simp [hr k hk, h]) (fun _ => by unfold p_impl_BlockOk_b0; simp) with ⟨h1, h2⟩ | ⟨h1, k, _, _, _, h2⟩
  · rw [show (lp (p_impl_BlockOk_b0 b) 0) = _ from h2, h1]; simp [sw]
  · rw [show (lp (p_impl_BlockOk_b0 b) 0) = _ from h2, h1]; simp [sw]
theorem e_spec_BlockOk (b : List Row) (hb : b.length ≤ maxLen) : p_spec_BlockOk b = some (blockOk b) := by
  have hb' : b.length ≤ 9223372036854775807 := hb
  have hr : ∀ k, k < b.length → p_spec_BlockOk_b0 b (k : Int) = some (if rowBad b k then .inr (.inr false) else .inl ((k + 1 : Nat) : Int)) := fun k hk => by
    unfold p_spec_BlockOk_b0 rowBad
    simp only [dlt hk, cond_true, gd.yes (ixN hk), e_spec_l2Row, bd_some, Int.toNat_natCast, gd.yes (i64S hk hb')]
    cases h1 : rowOk (nth b k) with
    | false => simp
    | true =>
      simp only [Bool.not_true, cond_false, Bool.false_or]
      by_cases h0 : 0 < k
      · have h0' : (0 : Int) < k := by omega
        have e1 : (k : Int) - 1 = ((k - 1 : Nat) : Int) := by omega
        have hi : I64 ((k - 1 : Nat) : Int) := by unfold I64; omega
        simp only [h0, h0', decide_true, cond_true, e1, gd.yes hi, gd.yes (ixN (show k - 1 < b.length by omega)), Int.toNat_natCast, bd_some, Bool.true_and]
        cases decide ((nth b k).1 ≤ (nth b (k - 1)).1) <;> simp
      · simp [h0]
  unfold p_spec_BlockOk blockOk
  rcases lp_scan (body := p_spec_BlockOk_b0 b) (fun k => (k : Int)) b.length (rowBad b) (.inl ()) (fun _ => .inr false) (fun k hk _ h => by simp [hr k hk, h]) (fun k hk _ h => by simp [hr k hk, h]) (fun _ => by unfold p_spec_BlockOk_b0; simp) with ⟨h1, h2⟩ | ⟨h1, k, _, _, _, h2⟩
  · rw [show (lp (p_spec_BlockOk_b0 b) 0) = _ from h2, h1]; simp [sw]
  · rw [show (lp (p_spec_BlockOk_b0 b) 0) = _ from h2, h1]; simp [sw]
def partBad (p : Part) (k : Nat) : Bool := ((!inn 1 (nth p.1 k) 6 || (decide (0 < k) && decide (nth p.1 k ≤ nth p.1 (k - 1)))) || !blockOk (nth p.2 k)) || decide ((nth p.2 k).length = 0)
def partOk (p : Part) : Bool := decide (p.1.length = p.2.length) && allN p.1.length (partBad p)
theorem e_impl_PartOk (p : Part) (hp : Dp.ok p) : p_impl_PartOk p = some (partOk p) := by
  obtain ⟨⟨hp1, _⟩, _, hp2⟩ := hp
  have hp1 : p.1.length ≤ 9223372036854775807 := hp1
  unfold p_impl_PartOk partOk
  by_cases hl : p.1.length = p.2.length
  · have hr : ∀ k, k < p.1.length → p_impl_PartOk_b0 p (k : Int) = some (if partBad p k then .inr (.inr false) else .inl ((k + 1 : Nat) : Int)) := fun k hk => by
      have hk2 : k < p.2.length := by omega
      unfold p_impl_PartOk_b0 partBad
      simp only [dlt hk, cond_true, gd.yes (ixN hk), gd.yes (ixN hk2), e_impl_within, e_impl_BlockOk _ (hp2 k hk2).1, bd_some, Int.toNat_natCast, gd.yes (i64S hk hp1)]
      cases h1 : inn 1 (nth p.1 k) 6 with
      | false => simp
      | true =>
        by_cases h0 : 0 < k
        · have h0' : (0 : Int) < k := by omega
          have e1 : (k : Int) - 1 = ((k - 1 : Nat) : Int) := by omega
          have hi : I64 ((k - 1 : Nat) : Int) := by unfold I64; omega
          simp only [h0, h0', decide_true, cond_true, e1, gd.yes hi, gd.yes (ixN (show k - 1 < p.1.length by omega)), Int.toNat_natCast, bd_some, Bool.true_and, Bool.not_true, cond_false, Bool.false_or]
          cases decide (nth p.1 k ≤ nth p.1 (k - 1)) <;> cases blockOk (nth p.2 k) <;> cases h9 : decide ((nth p.2 k).length = 0) <;> simp_all
        · simp only [h0, Bool.not_true, cond_false, Bool.false_or, decide_false, Bool.false_and]
          cases blockOk (nth p.2 k) <;> cases h9 : decide ((nth p.2 k).length = 0) <;> simp_all
    rcases lp_scan (body := p_impl_PartOk_b0 p) (fun k => (k : Int)) p.1.length (partBad p) (.inl ()) (fun _ => .inr false) (fun k hk _ h => by simp [hr k hk, h]) (fun k hk _ h => by simp [hr k hk, h]) (fun _ => by unfold p_impl_PartOk_b0; simp) with ⟨h1, h2⟩ | ⟨h1, k, _, _, _, h2⟩
    · rw [show (lp (p_impl_PartOk_b0 p) 0) = _ from h2, h1]; simp [sw, hl]
    · rw [show (lp (p_impl_PartOk_b0 p) 0) = _ from h2, h1]; simp [sw, hl]
  · have : ¬ (p.1.length : Int) = (p.2.length : Int) := by omega
    simp [this, hl]
theorem e_spec_PartOk (p : Part) (hp : Dp.ok p) : p_spec_PartOk p = some (partOk p) := by
  obtain ⟨⟨hp1, _⟩, _, hp2⟩ := hp
  have hp1 : p.1.length ≤ 9223372036854775807 := hp1
  unfold p_spec_PartOk partOk
  by_cases hl : p.1.length = p.2.length
  · have hr : ∀ k, k < p.1.length → p_spec_PartOk_b0 p (k : Int) = some (if partBad p k then .inr (.inr false) else .inl ((k + 1 : Nat) : Int)) := fun k hk => by
      have hk2 : k < p.2.length := by omega
      unfold p_spec_PartOk_b0 partBad
      simp only [dlt hk, cond_true, gd.yes (ixN hk), gd.yes (ixN hk2), e_spec_l6In, e_spec_BlockOk _ (hp2 k hk2).1, bd_some, Int.toNat_natCast, gd.yes (i64S hk hp1)]
      cases h1 : inn 1 (nth p.1 k) 6 with
      | false => simp
      | true =>
        by_cases h0 : 0 < k
        · have h0' : (0 : Int) < k := by omega
          have e1 : (k : Int) - 1 = ((k - 1 : Nat) : Int) := by omega
          have hi : I64 ((k - 1 : Nat) : Int) := by unfold I64; omega
          simp only [h0, h0', decide_true, cond_true, e1, gd.yes hi, gd.yes (ixN (show k - 1 < p.1.length by omega)), Int.toNat_natCast, bd_some, Bool.true_and, Bool.not_true, cond_false, Bool.false_or]
          cases decide (nth p.1 k ≤ nth p.1 (k - 1)) <;> cases blockOk (nth p.2 k) <;> cases h9 : decide ((nth p.2 k).length = 0) <;> simp_all
        · simp only [h0, Bool.not_true, cond_false, Bool.false_or, decide_false, Bool.false_and]
          cases blockOk (nth p.2 k) <;> cases h9 : decide ((nth p.2 k).length = 0) <;> simp_all
    rcases lp_scan (body := p_spec_PartOk_b0 p) (fun k => (k : Int)) p.1.length (partBad p) (.inl ()) (fun _ => .inr false) (fun k hk _ h => by simp [hr k hk, h]) (fun k hk _ h => by simp [hr k hk, h]) (fun _ => by unfold p_spec_PartOk_b0; simp) with ⟨h1, h2⟩ | ⟨h1, k, _, _, _, h2⟩
    · rw [show (lp (p_spec_PartOk_b0 p) 0) = _ from h2, h1]; simp [sw, hl]
    · rw [show (lp (p_spec_PartOk_b0 p) 0) = _ from h2, h1]; simp [sw, hl]
  · have : ¬ (p.1.length : Int) = (p.2.length : Int) := by omega
    simp [this, hl]
/-- the first place of id, or -1 -/
def place (l : List Int) (id : Int) : Int := match (List.range l.length).find? (fun i => decide (nth l i = id)) with | some i => i | none => -1
theorem place_no {l : List Int} {id : Int} (h : allN l.length (fun i => decide (nth l i = id)) = true) : place l id = -1 := by
  unfold place
  rw [List.find?_eq_none.2]
  intro i hi
  have := allN_iff.1 h i (by simpa using hi)
  simpa using this
theorem place_yes {l : List Int} {id : Int} {k : Nat} (hk : k < l.length) (h : decide (nth l k = id) = true) (h2 : ∀ i, i < k → decide (nth l i = id) = false) : place l id = k := by
  unfold place
  have : (List.range l.length).find? (fun i => decide (nth l i = id)) = some k := by
    rw [List.find?_range_eq_some]
    exact ⟨h, by simpa using hk, fun i hi => by simpa using h2 i hi⟩
  rw [this]
theorem e_Index (l : List Int) (id : Int) (ok : l.length ≤ 9223372036854775807) : p_slices_Index_int_int l id = some (place l id) := by
  unfold p_slices_Index_int_int
  rcases lp_scan (body := p_slices_Index_int_int_b0 l id) (fun k => (k : Int)) l.length (fun i => decide (nth l i = id)) (.inl ()) (fun k => .inr (k : Int)) (fun k hk _ h => by
      have h' : ¬ id = nth l k := fun e => by simp [e] at h
      unfold p_slices_Index_int_int_b0; simp [hk, gd.yes (ixN hk), h', gd.yes (i64S hk ok)]) (fun k hk _ h => by
      have h' : id = nth l k := by simp at h; exact h.symm
      unfold p_slices_Index_int_int_b0; simp [hk, gd.yes (ixN hk), h']) (fun _ => by unfold p_slices_Index_int_int_b0; simp) with ⟨h1, h2⟩ | ⟨h1, k, hk, hb, hn, h2⟩
  · rw [show (lp (p_slices_Index_int_int_b0 l id) 0) = _ from h2, place_no h1]; rfl
  · rw [show (lp (p_slices_Index_int_int_b0 l id) 0) = _ from h2, place_yes hk hb hn]; rfl
theorem place_lt {l : List Int} {id : Int} : place l id < 0 ∨ ∃ k, k < l.length ∧ place l id = (k : Int) := by
  cases ha : allN l.length (fun i => decide (nth l i = id)) with
  | true => exact .inl (by rw [place_no ha]; decide)
  | false =>
    obtain ⟨k, hk, h1, h2⟩ := first_bad ha
    exact .inr ⟨k, hk, place_yes hk h1 h2⟩
/-- the rows of series id -/
def rowsOf (p : Part) (id : Int) : List Row := if place p.1 id < 0 then [] else nth p.2 (place p.1 id).toNat
theorem partOk_len' {p : Part} (h : partOk p = true) : p.1.length = p.2.length := by
  unfold partOk at h; simp at h; exact h.1
theorem e_l12Of (p : Part) (id : Int) (ok : Dp.ok p) (hl : p.1.length = p.2.length) : p_spec_l12Of p id = some (rowsOf p id) := by
  have hm : p.1.length ≤ 9223372036854775807 := ok.1.1
  unfold p_spec_l12Of rowsOf
  rcases lp_scan (body := p_spec_l12Of_b0 p id) (fun k => (k : Int)) p.1.length (fun i => decide (nth p.1 i = id)) (.inl ()) (fun k => .inr (nth p.2 k)) (fun k hk _ h => by
      have h' : ¬ nth p.1 k = id := by simpa using h
      unfold p_spec_l12Of_b0; simp [hk, gd.yes (ixN hk), h', gd.yes (i64S hk hm)]) (fun k hk _ h => by
      have h' : nth p.1 k = id := by simpa using h
      have hk2 : k < p.2.length := by omega
      unfold p_spec_l12Of_b0; simp [hk, gd.yes (ixN hk), h', gd.yes (ixN hk2)]) (fun _ => by unfold p_spec_l12Of_b0; simp) with ⟨h1, h2⟩ | ⟨h1, k, hk, hb, hn, h2⟩
  · rw [show (lp (p_spec_l12Of_b0 p id) 0) = _ from h2, place_no h1]; rfl
  · rw [show (lp (p_spec_l12Of_b0 p id) 0) = _ from h2, place_yes hk hb hn]
    have : ¬ (k : Int) < 0 := by omega
    simp [sw, this]
def partOf (p : Part) (id : Int) : List Row := if partOk p then rowsOf p id else []
theorem e_impl_PartOf (p : Part) (id : Int) (ok : Dp.ok p) (hw : Wt.w p ≤ 1048576) : p_impl_PartOf p id = some (partOf p id) := by
  unfold p_impl_PartOf partOf
  rw [e_Index p.1 id ok.1.1, bd_some, e_impl_PartOk p ok, bd_some]
  cases h : partOk p with
  | false => rfl
  | true =>
    have hl := partOk_len' h
    rcases place_lt (l := p.1) (id := id) with hp | ⟨k, hk, hp⟩
    · simp [hp, rowsOf]
    · have h0 : ¬ (k : Int) < 0 := by omega
      have hk2 : k < p.2.length := by omega
      have hr : room (nth p.2 k).length := by
        have : (nth p.2 k).length ≤ 1048576 := Nat.le_trans wL_le (Nat.le_trans (wL_el hk2) (Nat.le_trans wP_2 hw))
        unfold room; omega
      simp [hp, rowsOf, h0, gd.yes (ixN hk2), gd.yes hr]
theorem ok_rows (l : List Row) (h : l.length ≤ 1048576) : Dp.ok l := ⟨Nat.le_trans h (by decide), fun _ _ => ⟨trivial, trivial⟩⟩
/-- a row laid in, as the reference does it: whatever the order -/
def l2 (r : Row) : Bool → List Row → List Row
  | put, [] => if put then [] else [r]
  | put, x :: t => (if !put && decide (r.1 ≤ x.1) then [r] else []) ++ ((if x.1 = r.1 then [] else [x]) ++ l2 r (put || decide (r.1 ≤ x.1)) t)
theorem drop_nth {α : Type} [Inhabited α] {l : List α} {k : Nat} (hk : k < l.length) : l.drop k = nth l k :: l.drop (k + 1) := by
  rw [nth_eq l k hk, List.drop_eq_getElem_cons hk]
theorem e_l2Put (b : List Row) (r : Row) (hb : b.length ≤ 1048576) : p_spec_l2Put b r = some (l2 r false b) := by
  unfold p_spec_l2Put
  obtain ⟨e, he, hs1, hs2⟩ := lp.rule (body := p_spec_l2Put_b0 b r) (fun σ => ∃ k : Nat, k ≤ b.length ∧ σ.2.2 = (k : Int) ∧ σ.1.length ≤ 2 * k ∧ σ.1 ++ l2 r σ.2.1 (b.drop k) = l2 r false b) (fun σ => b.length - σ.2.2.toNat)
    (fun e => e.1.length ≤ 2 * b.length ∧ e.1 ++ (if e.2 then [] else [r]) = l2 r false b) (fun σ hI => by
      obtain ⟨k, k1, k2, k3, k4⟩ := hI
      unfold p_spec_l2Put_b0
      rw [k2]
      by_cases hk : k < b.length
      · left
        rw [drop_nth hk] at k4
        have hi := i64S hk (by omega)
        have r1 : room (σ.1.length + 1) := by unfold room; omega
        have r2 : room ((σ.1 ++ [r]).length + 1) := by simp; unfold room; omega
        simp only [dlt hk, cond_true, gd.yes (ixN hk), Int.toNat_natCast, gd.yes hi, gd.yes r1, gd.yes r2]
        obtain ⟨o, put, i⟩ := σ
        simp only at k2 k3 k4 ⊢
        cases put with
        | true =>
          simp only [l2, Bool.not_true, Bool.false_and, Bool.false_eq_true, if_false, List.nil_append, Bool.true_or] at k4
          simp only [Bool.not_true, cond_false, bd_some]
          by_cases hx : (nth b k).1 = r.1
          · simp only [hx, if_true, List.nil_append] at k4
            exact ⟨(o, true, ((k + 1 : Nat) : Int)), by simp [hx], ⟨k + 1, hk, rfl, by simp only; omega, k4⟩, by simp only; omega⟩
          · simp only [hx, if_false] at k4
            exact ⟨(o ++ [nth b k], true, ((k + 1 : Nat) : Int)), by simp [hx], ⟨k + 1, hk, rfl, by simp; omega, by simpa using k4⟩, by simp only; omega⟩
        | false =>
          by_cases hle : r.1 ≤ (nth b k).1
          · simp only [l2, hle, decide_true, Bool.not_false, Bool.true_and, if_true, Bool.or_true] at k4
            by_cases hx : (nth b k).1 = r.1
            · simp only [hx, if_true, List.nil_append] at k4
              exact ⟨(o ++ [r], true, ((k + 1 : Nat) : Int)), by simp [hx], ⟨k + 1, hk, rfl, by simp; omega, by simpa using k4⟩, by simp only; omega⟩
            · simp only [hx, if_false] at k4
              exact ⟨(o ++ [r] ++ [nth b k], true, ((k + 1 : Nat) : Int)), by simp [hx, hle], ⟨k + 1, hk, rfl, by simp; omega, by simpa using k4⟩, by simp only; omega⟩
          · simp only [l2, hle, decide_false, Bool.not_false, Bool.and_false, Bool.false_eq_true, if_false, List.nil_append, Bool.or_false] at k4
            have hx : ¬ (nth b k).1 = r.1 := by omega
            simp only [hx, if_false] at k4
            exact ⟨(o ++ [nth b k], false, ((k + 1 : Nat) : Int)), by simp [hx, hle], ⟨k + 1, hk, rfl, by simp; omega, by simpa using k4⟩, by simp only; omega⟩
      · right
        have hk' : k = b.length := by omega
        subst hk'
        refine ⟨(σ.1, σ.2.1), by simp, k3, ?_⟩
        rw [List.drop_length] at k4
        simpa [l2] using k4) (s := (([] : List Row), false, (0 : Int))) ⟨0, Nat.zero_le _, rfl, by simp, by simp⟩
  rw [he, bd_some]
  have r1 : room (e.1.length + 1) := by unfold room; omega
  cases hp : e.2 with
  | true => simp [hp] at hs2; simp [hp, hs2]
  | false => simp [hp] at hs2; simp [hp, gd.yes r1, hs2]
/-- what is not empty, with its number -/
def mkP (i : Nat) : List (List Row) → Part
  | [] => ([], [])
  | b :: t => if 0 < b.length then (((i + 1 : Nat) : Int) :: (mkP (i + 1) t).1, b :: (mkP (i + 1) t).2) else mkP (i + 1) t
theorem mkP_len : ∀ (l : List (List Row)) (i : Nat), (mkP i l).1.length = (mkP i l).2.length ∧ (mkP i l).1.length ≤ l.length
  | [], i => by simp [mkP]
  | b :: t, i => by
    have := mkP_len t (i + 1)
    unfold mkP
    split <;> simp <;> omega
theorem mkP_mem : ∀ (l : List (List Row)) (i : Nat) (b : List Row), b ∈ (mkP i l).2 → b ∈ l
  | [], i, b, h => by simp [mkP] at h
  | c :: t, i, b, h => by
    unfold mkP at h
    split at h
    · rcases List.mem_cons.1 h with rfl | h
      · simp
      · exact List.mem_cons_of_mem _ (mkP_mem t (i + 1) b h)
    · exact List.mem_cons_of_mem _ (mkP_mem t (i + 1) b h)
theorem nth_mem {α : Type} [Inhabited α] {l : List α} {k : Nat} (h : k < l.length) : nth l k ∈ l := by rw [nth_eq l k h]; exact List.getElem_mem h
theorem e_l12Make (v : List (List Row)) (hv : v.length ≤ 1048576) (hb : ∀ b ∈ v, b.length ≤ 1048576) : p_spec_l12Make v = some (mkP 0 v) := by
  unfold p_spec_l12Make
  obtain ⟨e, he, hs⟩ := lp.rule (body := p_spec_l12Make_b0 v) (fun σ => ∃ k : Nat, k ≤ v.length ∧ σ.2.2 = (k : Int) ∧ σ.1.length ≤ k ∧ σ.2.1.length ≤ k ∧ σ.1 ++ (mkP k (v.drop k)).1 = (mkP 0 v).1 ∧ σ.2.1 ++ (mkP k (v.drop k)).2 = (mkP 0 v).2) (fun σ => v.length - σ.2.2.toNat)
    (fun e => e = mkP 0 v) (fun σ hI => by
      obtain ⟨k, k1, k2, k3, k4, k5, k6⟩ := hI
      unfold p_spec_l12Make_b0
      rw [k2]
      by_cases hk : k < v.length
      · left
        rw [drop_nth hk] at k5 k6
        have hi := i64S hk (by omega)
        have r1 : room (σ.1.length + 1) := by unfold room; omega
        have r2 : room (σ.2.1.length + 1) := by unfold room; omega
        have r3 : room (([] : List Row).length + (nth v k).length) := by have := hb _ (nth_mem hk); unfold room; simp; omega
        simp only [dlt hk, cond_true, gd.yes (ixN hk), Int.toNat_natCast, gd.yes hi, gd.yes r1, gd.yes r2, gd.yes r3]
        by_cases hz : 0 < (nth v k).length
        · have hz' : (0 : Int) < ((nth v k).length : Int) := by omega
          simp only [mkP, hz, if_true] at k5 k6
          simp only [hz', decide_true, cond_true]
          exact ⟨_, rfl, ⟨k + 1, hk, rfl, by simp; omega, by simp; omega, by simpa using k5, by simpa using k6⟩, by simp only; omega⟩
        · have hz' : ¬ (0 : Int) < ((nth v k).length : Int) := by omega
          simp only [mkP, hz, if_false] at k5 k6
          simp only [hz', decide_false, cond_false]
          exact ⟨_, rfl, ⟨k + 1, hk, rfl, by simp only; omega, by simp only; omega, k5, k6⟩, by simp only; omega⟩
      · right
        have hk' : k = v.length := by omega
        subst hk'
        rw [List.drop_length] at k5 k6
        refine ⟨(σ.1, σ.2.1), by simp, ?_⟩
        simp [mkP] at k5 k6
        rw [k5, k6]) (s := (([] : List Int), ([] : List (List Row)), (0 : Int))) ⟨0, Nat.zero_le _, rfl, Nat.le_refl _, Nat.le_refl _, by simp, by simp⟩
  rw [he, hs]; rfl
/-- a small part -/
def small (p : Part) : Prop := p.1.length ≤ 10 ∧ p.2.length ≤ 10 ∧ ∀ b ∈ p.2, b.length ≤ 2000
theorem small_ok {p : Part} (h : small p) : Dp.ok p := by
  obtain ⟨h1, h2, h3⟩ := h
  exact ⟨⟨Nat.le_trans h1 (by decide), fun _ _ => trivial⟩, ⟨Nat.le_trans h2 (by decide), fun i hi => ok_rows _ (Nat.le_trans (h3 _ (nth_mem hi)) (by decide))⟩⟩
theorem wRow {b : List Row} : Wt.w b = b.length := by show b.length + sumN b.length (fun i => Wt.w (nth b i)) = _; rw [sumN_zero (f := fun i => Wt.w (nth b i)) fun i _ => rfl]; rfl
theorem sumN_bound {n m : Nat} {f : Nat → Nat} (h : ∀ i, i < n → f i ≤ m) : sumN n f ≤ n * m := by
  induction n with
  | zero => simp [sumN]
  | succ n ih => have := ih fun i hi => h i (by omega); have := h n (by omega); simp only [sumN, Nat.add_mul]; omega
theorem small_w {p : Part} (h : small p) : Wt.w p ≤ 1048576 := by
  obtain ⟨h1, h2, h3⟩ := h
  have a1 : Wt.w p.1 = p.1.length := by show p.1.length + sumN p.1.length (fun i => Wt.w (nth p.1 i)) = _; rw [sumN_zero (f := fun i => Wt.w (nth p.1 i)) fun i _ => rfl]; rfl
  have a2 : sumN p.2.length (fun i => Wt.w (nth p.2 i)) ≤ p.2.length * 2000 := sumN_bound fun i hi => by rw [wRow]; exact h3 _ (nth_mem hi)
  have a3 : p.2.length * 2000 ≤ 10 * 2000 := Nat.mul_le_mul_right _ h2
  show Wt.w p.1 + (p.2.length + sumN p.2.length fun i => Wt.w (nth p.2 i)) ≤ _
  omega
/-- what a valid part is -/
theorem partOk_iff {p : Part} (h : partOk p = true) : p.1.length = p.2.length ∧ (∀ k, k < p.1.length → 1 ≤ nth p.1 k ∧ nth p.1 k ≤ 6) ∧ (∀ k, 0 < k → k < p.1.length → nth p.1 (k - 1) < nth p.1 k) ∧ (∀ k, k < p.2.length → 0 < (nth p.2 k).length ∧ blockOk (nth p.2 k) = true) := by
  unfold partOk at h
  simp only [Bool.and_eq_true, decide_eq_true_eq] at h
  obtain ⟨h1, h2⟩ := h
  have h2 := allN_iff.1 h2
  refine ⟨h1, fun k hk => ?_, fun k h0 hk => ?_, fun k hk => ?_⟩
  · have := h2 k hk; simp only [partBad, inn, Bool.or_eq_false_iff, Bool.not_eq_false', Bool.and_eq_true, decide_eq_true_eq] at this; exact this.1.1.1
  · have := h2 k hk; simp [partBad, h0] at this; exact this.1.1.2
  · have := h2 k (by omega); simp [partBad] at this; exact ⟨List.length_pos_iff.2 this.2, this.1.2⟩
/-- a row laid into a block, as the program does it -/
def ins (r : Row) : List Row → List Row
  | [] => [r]
  | x :: t => if x.1 < r.1 then x :: ins r t else if x.1 = r.1 then r :: t else r :: x :: t
theorem ins_len (r : Row) : ∀ l : List Row, l.length ≤ (ins r l).length ∧ (ins r l).length ≤ l.length + 1
  | [] => by simp [ins]
  | x :: t => by
    have := ins_len r t
    unfold ins
    split
    · simp; omega
    · split <;> simp
theorem ins_pre (r : Row) : ∀ (p s : List Row), (∀ x ∈ p, x.1 < r.1) → ins r (p ++ s) = p ++ ins r s
  | [], s, _ => rfl
  | x :: p, s, h => by
    have hx := h x (by simp)
    rw [List.cons_append, ins, if_pos hx, ins_pre r p s fun y hy => h y (by simp [hy]), List.cons_append]
/-- times ascend -/
def Asc (l : List Row) : Prop := l.Pairwise fun x y => x.1 < y.1
end Go.Proofs.Ytephlhldhdopaaa
