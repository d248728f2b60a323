/- The walks: each function of the program that these laws reach computes what its plain function tells. Conditions: none. -/
import Derived.Test.YtfcdncblogldnaaW1
namespace Go.Proofs.Ytfcdncblogldnaa
open Go Go.Sx
noncomputable def p_laws_markRowSS_b0 (v0 : (List (List Row))) (σ5 : (List (List Row)) × Int × Int) : Option (((List (List Row)) × Int × Int) ⊕ (Int × (List (List Row)))) := cond (decide (σ5.2.2 < (v0.length : Int))) (gd (ix σ5.2.2 σ5.1.length) <| bd (p_laws_markRowS (nth σ5.1 σ5.2.2.toNat) σ5.2.1) fun r16 => gd (I64 (σ5.2.2 + 1)) <| some (.inl ((σ5.1.set σ5.2.2.toNat r16.2), r16.1, σ5.2.2 + 1))) (some (.inr (σ5.2.1, σ5.1)))
noncomputable def p_laws_markRowSS (v0 : (List (List Row))) (v1 : Int) : Option (Int × (List (List Row))) := bd (lp (p_laws_markRowSS_b0 v0) (v0, v1, 0)) fun x1 => some (x1.1, x1.2)
theorem c_laws_markRowSS {r : Int × (List (List Row))} (v0 : (List (List Row))) (x_v0 : Option Addr × Nat) (v1 : Int) (H : p_laws_markRowSS v0 v1 = some r) : Fn' Try.prog 54 #[.slice x_v0.1 v0.length x_v0.2, .int .i64 (v1)] [] [tree (.slice x_v0.1 v0.length x_v0.2) v0] (ι := Unit) (fun x => .int .i64 (r.1)) (fun _ => []) (fun x => [tree (.slice x_v0.1 v0.length x_v0.2) r.2]) := by
  refine calls_of (args := [_, _]) Try.func54 rfl (by kernel_rfl) Try.ntmps54 (by simp) fun c => ?_
  unfold p_laws_markRowSS at H
  refine Tr.seq ?_
  refine Tr.region ?_
  refine Rg.q (v := .int .i64 (0)) (Pu.qo (p_assign rfl)) (by decide) ?_
  refine Rg.nl ?_
  refine nT (?_)
  refine Tr.seq ?_
  refine Tr.seq ?_
  refine Tr.region ?_
  refine Rg.q (v := .int .i64 (0)) (Pu.qo (p_assign rfl)) (by decide) ?_
  refine Rg.nl ?_
  refine nT (?_)
  obtain ⟨x1, hx2, H⟩ := bd.of H
  obtain ⟨n3, hx2⟩ := lp.of hx2
  refine tMidNC (ι := Unit) (fun ψ => [(1, .int .i64 (x1.1))]) (fun ψ => [tree (.slice x_v0.1 v0.length x_v0.2) x1.2]) ?_ ?_
  · refine Tr.block ?_
    refine tLoopC (ι := { q : Nat × ((List (List Row)) × Int × Int) × Unit // itr (p_laws_markRowSS_b0 v0) q.1 q.2.1 = some x1 }) (fun ζ => [(0, .slice x_v0.1 v0.length x_v0.2), (1, .int .i64 (ζ.1.2.1.2.1)), (5, .int .i64 (ζ.1.2.1.2.2))]) (fun ζ => [tree (.slice x_v0.1 v0.length x_v0.2) ζ.1.2.1.1]) (fun ζ => ζ.1.1) ⟨(n3, (v0, v1, 0), ()), hx2⟩ ⟨rfl, rfl, rfl, trivial⟩ (.cons Del.here .nil) ?_
    rintro ⟨⟨m4, σ5, z6⟩, hk11⟩
    obtain ⟨m12, t8, e, H1, hi9, hb10⟩ := itr.of (n := m4) (s := σ5) hk11
    subst e; unfold p_laws_markRowSS_b0 at H1
    show Tr _ _ _ _ _ [(0, .slice x_v0.1 v0.length x_v0.2), (1, .int .i64 (σ5.2.1)), (5, .int .i64 (σ5.2.2))] _ [tree (.slice x_v0.1 v0.length x_v0.2) σ5.1]
    refine Tr.seq ?_
    refine Tr.seq ?_
    refine Tr.region ?_
    refine Rg.q (v := .int .i64 (σ5.2.2)) (Pu.qo (p_move rfl)) (by decide) ?_
    refine Rg.q (v := .slice x_v0.1 v0.length x_v0.2) (Pu.qo (p_move rfl)) (by decide) ?_
    refine Rg.q (v := .int .i64 ((v0.length : Int))) (Pu.qo (p_len 29 Try.underlying24 rfl)) (by decide) ?_
    refine Rg.q (v := .bool (decide (σ5.2.2 < (v0.length : Int)))) (Pu.qo (p_lss rfl rfl)) (by decide) ?_
    refine Rg.nl ?_
    refine nT (?_)
    refine Tr.cond (b := decide (σ5.2.2 < (v0.length : Int))) rfl (fun h13 => ?_) (fun h13 => ?_)
    · have H1 := cdT h13 H1
      refine tSkip ?_
      refine nT (?_)
      refine Tr.seq ?_
      refine Tr.block ?_
      obtain ⟨h14, H1⟩ := gd.of H1
      refine Tr.zoom (k := σ5.2.2.toNat) h14.lt (.cons Del.here .nil) fun x15 => ?_
      show Tr _ _ _ _ _ _ _ (hole (.slice x_v0.1 v0.length x_v0.2) σ5.1 σ5.2.2.toNat [.slice x15.1 ((nth σ5.1 σ5.2.2.toNat).length) x15.2] :: tree (.slice x15.1 ((nth σ5.1 σ5.2.2.toNat).length) x15.2) (nth σ5.1 σ5.2.2.toNat) :: _)
      refine Tr.region ?_
      refine Rg.q (v := .slice x_v0.1 v0.length x_v0.2) (Pu.qo (p_move rfl)) (by decide) ?_
      refine Rg.q (v := .int .i64 (σ5.2.2)) (Pu.qo (p_move rfl)) (by decide) ?_
      refine Rg.q (v := elp x_v0.1 (σ5.2.2.toNat * Enc.sz (List Row) + 0)) (q_ixH (k := σ5.2.2.toNat) Try.underlying24 ty29 rfl rfl h14 rfl Has.here) (by decide) ?_
      refine Rg.q (v := .slice x15.1 ((nth σ5.1 σ5.2.2.toNat).length) x15.2) (q_ldH (i := σ5.2.2.toNat) (j := 0) ty29 rfl Has.here rfl) (by decide) ?_
      refine Rg.q (v := .int .i64 (σ5.2.1)) (Pu.qo (p_move rfl)) (by decide) ?_
      obtain ⟨r16, h17, H1⟩ := bd.of H1
      refine Rg.ed (e_callM (vs := [.slice x15.1 ((nth σ5.1 σ5.2.2.toNat).length) x15.2, .int .i64 (σ5.2.1)]) (c_laws_markRowS (nth σ5.1 σ5.2.2.toNat) x15 σ5.2.1 h17) (Solo.tree Solo.nil) (fun _ => (Solo.tree Solo.nil)) rfl (.cons Del.here.there .nil) EntsB.nil) rfl (by decide) ?_
      rintro _ _ _ ⟨u18, rfl, rfl, rfl⟩
      refine Rg.q (v := .int .i64 (r16.1)) (Pu.qo (p_assign rfl)) (by decide) ?_
      refine Rg.nl ?_
      refine nB (nT (?_))
      refine Tr.olen Has.here fun hn => ?_; rw [hn]
      refine Tr.region ?_
      refine Rg.q (v := .int .i64 (σ5.2.2)) (Pu.qo (p_move rfl)) (by decide) ?_
      obtain ⟨h19, H1⟩ := gd.of H1
      refine Rg.q (v := .int .i64 (σ5.2.2 + 1)) (Pu.qo (p_add rfl rfl h19)) (by decide) ?_
      refine Rg.q (v := .int .i64 (σ5.2.2 + 1)) (Pu.qo (p_assign rfl)) (by decide) ?_
      refine Rg.nl ?_
      refine At.unzoom r16.2 x15 rfl (.cons Del.here.there (.cons Del.here .nil)) ?_
      exact nLC ⟨(m12, ((σ5.1.set σ5.2.2.toNat r16.2), r16.1, σ5.2.2 + 1), ()), hi9 _ (Option.some.inj H1).symm⟩ (Nat.lt_succ_self _) ⟨rfl, rfl, rfl, trivial⟩ Ents.refl (.cons Del.here .nil)
    · have H1 := cdF h13 H1
      refine tExit (xT (xT (xE (?_))))
      have hx := hb10 _ (Option.some.inj H1).symm; subst hx
      exact nMC () ⟨rfl, trivial⟩ Ents.refl (.cons Del.here .nil)
  · intro y7
    show At _ _ [(1, .int .i64 (x1.1))] _ [tree (.slice x_v0.1 v0.length x_v0.2) x1.2] _
    refine nT (?_)
    refine Tr.seq ?_
    refine Tr.region ?_
    refine Rg.q (v := .int .i64 (x1.1)) (Pu.qo (p_move rfl)) (by decide) ?_
    refine Rg.q (v := .int .i64 (x1.1)) (Pu.qo (p_assign rfl)) (by decide) ?_
    refine Rg.nl ?_
    refine nT (?_)
    refine tRet ?_
    have hr := Option.some.inj H; subst hr
    exact back1 () rfl (ResV.tmp (v := .int .i64 (x1.1)) rfl) rfl Ents.nil (.cons Del.here .nil)
noncomputable def p_laws_markPart (v0 : Part) (v1 : Int) : Option (Int × Part) := bd (p_laws_markIntS v0.1 v1) fun r2 => bd (p_laws_markRowSS v0.2 r2.1) fun r5 => some (r5.1, (r2.2, r5.2))
theorem c_laws_markPart {r : Int × Part} (v0 : Part) (x_v0 : (Option Addr × Nat) × (Option Addr × Nat)) (v1 : Int) (H : p_laws_markPart v0 v1 = some r) : Fn' Try.prog 25 #[.agg #[.slice x_v0.1.1 v0.1.length x_v0.1.2, .slice x_v0.2.1 v0.2.length x_v0.2.2], .int .i64 (v1)] [] [tree (.slice x_v0.1.1 v0.1.length x_v0.1.2) v0.1, tree (.slice x_v0.2.1 v0.2.length x_v0.2.2) v0.2] (ι := Unit) (fun x => .int .i64 (r.1)) (fun _ => []) (fun x => [tree (.slice x_v0.1.1 v0.1.length x_v0.1.2) r.2.1, tree (.slice x_v0.2.1 v0.2.length x_v0.2.2) r.2.2]) := by
  refine calls_of (args := [_, _]) Try.func25 rfl (by kernel_rfl) Try.ntmps25 (by simp) fun c => ?_
  unfold p_laws_markPart at H
  refine Tr.seq ?_
  refine Tr.region ?_
  refine Rg.ed (e_box (t := 26) (v := .agg #[.slice x_v0.1.1 v0.1.length x_v0.1.2, .slice x_v0.2.1 v0.2.length x_v0.2.2]) rfl) rfl (by decide) ?_
  rintro _ _ _ ⟨g1, rfl, rfl, rfl⟩
  refine Rg.q (v := .int .i64 (0)) (Pu.qo (p_assign rfl)) (by decide) ?_
  refine Rg.nl ?_
  refine nT (?_)
  refine Tr.seq ?_
  refine Tr.region ?_
  refine Rg.q (v := .pointer (some ⟨g1, 0, none⟩)) (Pu.qo (p_fabE fa26_0 rfl rfl)) (by decide) ?_
  refine Rg.q (v := .slice x_v0.1.1 v0.1.length x_v0.1.2) (q_ldb ty23 rfl Has.here rfl) (by decide) ?_
  refine Rg.q (v := .int .i64 (v1)) (Pu.qo (p_move rfl)) (by decide) ?_
  obtain ⟨r2, h3, H⟩ := bd.of H
  refine Rg.ed (e_callM (vs := [.slice x_v0.1.1 v0.1.length x_v0.1.2, .int .i64 (v1)]) (c_laws_markIntS v0.1 x_v0.1 v1 h3) (Solo.tree Solo.nil) (fun _ => (Solo.tree Solo.nil)) rfl (.cons Del.here.there .nil) EntsB.nil) rfl (by decide) ?_
  rintro _ _ _ ⟨u4, rfl, rfl, rfl⟩
  refine Rg.q (v := .int .i64 (r2.1)) (Pu.qo (p_assign rfl)) (by decide) ?_
  refine Rg.nl ?_
  refine nT (?_)
  refine Tr.seq ?_
  refine Tr.region ?_
  refine Rg.q (v := .pointer (some ⟨g1, 1, none⟩)) (Pu.qo (p_fabE fa26_1 rfl rfl)) (by decide) ?_
  refine Rg.q (v := .slice x_v0.2.1 v0.2.length x_v0.2.2) (q_ldb ty24 rfl Has.here.there rfl) (by decide) ?_
  refine Rg.q (v := .int .i64 (r2.1)) (Pu.qo (p_move rfl)) (by decide) ?_
  obtain ⟨r5, h6, H⟩ := bd.of H
  refine Rg.ed (e_callM (vs := [.slice x_v0.2.1 v0.2.length x_v0.2.2, .int .i64 (r2.1)]) (c_laws_markRowSS v0.2 x_v0.2 r2.1 h6) (Solo.tree Solo.nil) (fun _ => (Solo.tree Solo.nil)) rfl (.cons Del.here.there.there .nil) EntsB.nil) rfl (by decide) ?_
  rintro _ _ _ ⟨u7, rfl, rfl, rfl⟩
  refine Rg.q (v := .int .i64 (r5.1)) (Pu.qo (p_assign rfl)) (by decide) ?_
  refine Rg.nl ?_
  refine nT (?_)
  refine Tr.seq ?_
  refine Tr.region ?_
  refine Rg.q (v := .int .i64 (r5.1)) (Pu.qo (p_move rfl)) (by decide) ?_
  refine Rg.q (v := .int .i64 (r5.1)) (Pu.qo (p_assign rfl)) (by decide) ?_
  refine Rg.nl ?_
  refine nT (?_)
  refine tRet ?_
  have hr := Option.some.inj H; subst hr
  exact back1 () rfl (ResV.tmp (v := .int .i64 (r5.1)) rfl) rfl Ents.nil (.cons Del.here.there (.cons Del.here .nil))
noncomputable def p_laws_heldRowS_b0 (v0 : (List Row)) (σ5 : Int × Int) : Option ((Int × Int) ⊕ (Int ⊕ Int)) := cond (decide (σ5.2 < (v0.length : Int))) (gd (ix σ5.2 v0.length) <| cond (!decide (((nth v0 σ5.2.toNat).1) = σ5.1)) (some (.inr (.inr (-1)))) (gd (I64 (σ5.1 + 1)) <| cond (!decide (((nth v0 σ5.2.toNat).2) = (σ5.1 + 1))) (some (.inr (.inr (-1)))) (gd (I64 ((σ5.1 + 1) + 1)) <| gd (I64 (σ5.2 + 1)) <| some (.inl ((σ5.1 + 1) + 1, σ5.2 + 1))))) (some (.inr (.inl σ5.1)))
noncomputable def p_laws_heldRowS (v0 : (List Row)) (v1 : Int) : Option (Int) := bd (lp (p_laws_heldRowS_b0 v0) (v1, 0)) <| sw (fun e20 => some e20) (fun q => some q)
theorem c_laws_heldRowS {r : Int} (v0 : (List Row)) (x_v0 : Option Addr × Nat) (v1 : Int) (H : p_laws_heldRowS v0 v1 = some r) : Fn' Try.prog 27 #[.slice x_v0.1 v0.length x_v0.2, .int .i64 (v1)] [imm (.slice x_v0.1 v0.length x_v0.2) v0] [] (ι := Unit) (fun x => .int .i64 (r)) (fun _ => []) (fun x => []) := by
  refine calls_of (args := [_, _]) Try.func27 rfl (by kernel_rfl) Try.ntmps27 (by simp) fun c => ?_
  unfold p_laws_heldRowS at H
  refine Tr.seq ?_
  refine Tr.region ?_
  refine Rg.q (v := .int .i64 (0)) (Pu.qo (p_assign rfl)) (by decide) ?_
  refine Rg.nl ?_
  refine nT (?_)
  refine Tr.seq ?_
  refine Tr.seq ?_
  refine Tr.region ?_
  refine Rg.q (v := .int .i64 (0)) (Pu.qo (p_assign rfl)) (by decide) ?_
  refine Rg.nl ?_
  refine nT (?_)
  obtain ⟨x1, hx2, H⟩ := bd.of H
  obtain ⟨n3, hx2⟩ := lp.of hx2
  refine tMidNC (ι := { q : (Int) × Unit // x1 = .inl q.1 }) (fun ψ => [(1, .int .i64 (ψ.1.1))]) (fun ψ => []) ?_ ?_
  · refine Tr.block ?_
    refine tLoopC (ι := { q : Nat × (Int × Int) × Unit // itr (p_laws_heldRowS_b0 v0) q.1 q.2.1 = some x1 }) (fun ζ => [(0, .slice x_v0.1 v0.length x_v0.2), (1, .int .i64 (ζ.1.2.1.1)), (5, .int .i64 (ζ.1.2.1.2))]) (fun ζ => []) (fun ζ => ζ.1.1) ⟨(n3, (v1, 0), ()), hx2⟩ ⟨rfl, rfl, rfl, trivial⟩ Take.nil ?_
    rintro ⟨⟨m4, σ5, z6⟩, hk11⟩
    obtain ⟨m12, t8, e, H1, hi9, hb10⟩ := itr.of (n := m4) (s := σ5) hk11
    subst e; unfold p_laws_heldRowS_b0 at H1
    show Tr _ _ _ _ _ [(0, .slice x_v0.1 v0.length x_v0.2), (1, .int .i64 (σ5.1)), (5, .int .i64 (σ5.2))] _ []
    refine Tr.seq ?_
    refine Tr.seq ?_
    refine Tr.region ?_
    refine Rg.q (v := .int .i64 (σ5.2)) (Pu.qo (p_move rfl)) (by decide) ?_
    refine Rg.q (v := .slice x_v0.1 v0.length x_v0.2) (Pu.qo (p_move rfl)) (by decide) ?_
    refine Rg.q (v := .int .i64 ((v0.length : Int))) (Pu.qo (p_len 68 Try.underlying29 rfl)) (by decide) ?_
    refine Rg.q (v := .bool (decide (σ5.2 < (v0.length : Int)))) (Pu.qo (p_lss rfl rfl)) (by decide) ?_
    refine Rg.nl ?_
    refine nT (?_)
    refine Tr.cond (b := decide (σ5.2 < (v0.length : Int))) rfl (fun h13 => ?_) (fun h13 => ?_)
    · have H1 := cdT h13 H1
      refine tSkip ?_
      refine nT (?_)
      refine Tr.seq ?_
      refine Tr.block ?_
      refine Tr.seq ?_
      refine Tr.seq ?_
      refine Tr.region ?_
      refine Rg.q (v := .slice x_v0.1 v0.length x_v0.2) (Pu.qo (p_move rfl)) (by decide) ?_
      refine Rg.q (v := .int .i64 (σ5.2)) (Pu.qo (p_move rfl)) (by decide) ?_
      obtain ⟨h14, H1⟩ := gd.of H1
      refine Rg.q (v := elp x_v0.1 (σ5.2.toNat * Enc.sz Row + 0)) (q_ixg (l := v0) (E := fun i => Flat.enc (nth v0 i)) (oa := x_v0.1) Try.underlying29 ty68 rfl rfl h14 rfl (EntB.flat (Ent.b Ent.z))) (by decide) ?_
      refine Rg.q (v := elp x_v0.1 (σ5.2.toNat * Enc.sz Row + 0)) (q_faeE (l := v0) (E := fun i => Flat.enc (nth v0 i)) (oa := x_v0.1) (j := 0) σ5.2.toNat fa68_0 rfl (EntB.flat (Ent.b Ent.z)) h14.lt rfl) (by decide) ?_
      refine Rg.q (v := .int .i64 ((nth v0 σ5.2.toNat).1)) (q_lde (l := v0) (E := fun i => Flat.enc (nth v0 i)) (oa := x_v0.1) (i := σ5.2.toNat) (j := 0) ty3 rfl (EntB.flat (Ent.b Ent.z)) h14.lt rfl) (by decide) ?_
      refine Rg.q (v := .int .i64 (σ5.1)) (Pu.qo (p_move rfl)) (by decide) ?_
      refine Rg.q (v := .bool (!decide (((nth v0 σ5.2.toNat).1) = σ5.1))) (Pu.qo (p_neq rfl rfl)) (by decide) ?_
      refine Rg.nl ?_
      refine nT (?_)
      refine Tr.cond (b := !decide (((nth v0 σ5.2.toNat).1) = σ5.1)) rfl (fun h15 => ?_) (fun h15 => ?_)
      · have H1 := cdT h15 H1
        refine Tr.seq ?_
        refine Tr.region ?_
        refine Rg.q (v := .int .i64 (-1)) (Pu.qo (p_assign rfl)) (by decide) ?_
        refine Rg.nl ?_
        refine nT (?_)
        refine tRet ?_
        refine rT (rB (rT (rT (rB (rT (rT (?_)))))))
        have hx := hb10 _ (Option.some.inj H1).symm; subst hx
        replace H := sw.r H
        have hr := Option.some.inj H; subst hr
        exact back1 () rfl (ResV.tmp (v := .int .i64 (-1)) rfl) rfl Ents.nil Take.nil
      · have H1 := cdF h15 H1
        refine tSkip ?_
        refine nT (?_)
        refine Tr.seq ?_
        refine Tr.region ?_
        refine Rg.q (v := .int .i64 (σ5.1)) (Pu.qo (p_move rfl)) (by decide) ?_
        obtain ⟨h16, H1⟩ := gd.of H1
        refine Rg.q (v := .int .i64 (σ5.1 + 1)) (Pu.qo (p_add rfl rfl h16)) (by decide) ?_
        refine Rg.q (v := .int .i64 (σ5.1 + 1)) (Pu.qo (p_assign rfl)) (by decide) ?_
        refine Rg.nl ?_
        refine nT (?_)
        refine Tr.seq ?_
        refine Tr.seq ?_
        refine Tr.region ?_
        refine Rg.q (v := .slice x_v0.1 v0.length x_v0.2) (Pu.qo (p_move rfl)) (by decide) ?_
        refine Rg.q (v := .int .i64 (σ5.2)) (Pu.qo (p_move rfl)) (by decide) ?_
        refine Rg.q (v := elp x_v0.1 (σ5.2.toNat * Enc.sz Row + 0)) (q_ixg (l := v0) (E := fun i => Flat.enc (nth v0 i)) (oa := x_v0.1) Try.underlying29 ty68 rfl rfl h14 rfl (EntB.flat (Ent.b Ent.z))) (by decide) ?_
        refine Rg.q (v := elp x_v0.1 (σ5.2.toNat * Enc.sz Row + 1)) (q_faeE (l := v0) (E := fun i => Flat.enc (nth v0 i)) (oa := x_v0.1) (j := 0) σ5.2.toNat fa68_1 rfl (EntB.flat (Ent.b Ent.z)) h14.lt rfl) (by decide) ?_
        refine Rg.q (v := .int .i64 ((nth v0 σ5.2.toNat).2)) (q_lde (l := v0) (E := fun i => Flat.enc (nth v0 i)) (oa := x_v0.1) (i := σ5.2.toNat) (j := 1) ty3 rfl (EntB.flat (Ent.b Ent.z)) h14.lt rfl) (by decide) ?_
        refine Rg.q (v := .int .i64 (σ5.1 + 1)) (Pu.qo (p_move rfl)) (by decide) ?_
        refine Rg.q (v := .bool (!decide (((nth v0 σ5.2.toNat).2) = (σ5.1 + 1)))) (Pu.qo (p_neq rfl rfl)) (by decide) ?_
        refine Rg.nl ?_
        refine nT (?_)
        refine Tr.cond (b := !decide (((nth v0 σ5.2.toNat).2) = (σ5.1 + 1))) rfl (fun h17 => ?_) (fun h17 => ?_)
        · have H1 := cdT h17 H1
          refine Tr.seq ?_
          refine Tr.region ?_
          refine Rg.q (v := .int .i64 (-1)) (Pu.qo (p_assign rfl)) (by decide) ?_
          refine Rg.nl ?_
          refine nT (?_)
          refine tRet ?_
          refine rT (rB (rT (rT (rB (rT (rT (?_)))))))
          have hx := hb10 _ (Option.some.inj H1).symm; subst hx
          replace H := sw.r H
          have hr := Option.some.inj H; subst hr
          exact back1 () rfl (ResV.tmp (v := .int .i64 (-1)) rfl) rfl Ents.nil Take.nil
        · have H1 := cdF h17 H1
          refine tSkip ?_
          refine nT (?_)
          refine Tr.region ?_
          refine Rg.q (v := .int .i64 (σ5.1 + 1)) (Pu.qo (p_move rfl)) (by decide) ?_
          obtain ⟨h18, H1⟩ := gd.of H1
          refine Rg.q (v := .int .i64 ((σ5.1 + 1) + 1)) (Pu.qo (p_add rfl rfl h18)) (by decide) ?_
          refine Rg.q (v := .int .i64 ((σ5.1 + 1) + 1)) (Pu.qo (p_assign rfl)) (by decide) ?_
          refine Rg.nl ?_
          refine nB (nT (?_))
          refine Tr.region ?_
          refine Rg.q (v := .int .i64 (σ5.2)) (Pu.qo (p_move rfl)) (by decide) ?_
          obtain ⟨h19, H1⟩ := gd.of H1
          refine Rg.q (v := .int .i64 (σ5.2 + 1)) (Pu.qo (p_add rfl rfl h19)) (by decide) ?_
          refine Rg.q (v := .int .i64 (σ5.2 + 1)) (Pu.qo (p_assign rfl)) (by decide) ?_
          refine Rg.nl ?_
          exact nLC ⟨(m12, ((σ5.1 + 1) + 1, σ5.2 + 1), ()), hi9 _ (Option.some.inj H1).symm⟩ (Nat.lt_succ_self _) ⟨rfl, rfl, rfl, trivial⟩ Ents.refl Take.nil
    · have H1 := cdF h13 H1
      refine tExit (xT (xT (xE (?_))))
      exact nMC ⟨(σ5.1, ()), (hb10 _ (Option.some.inj H1).symm).symm⟩ ⟨rfl, trivial⟩ Ents.refl Take.nil
  · rintro ⟨⟨e20, y7⟩, hx⟩; subst hx; replace H := sw.l H
    show At _ _ [(1, .int .i64 (e20))] _ [] _
    refine nT (?_)
    refine Tr.seq ?_
    refine Tr.region ?_
    refine Rg.q (v := .int .i64 (e20)) (Pu.qo (p_move rfl)) (by decide) ?_
    refine Rg.q (v := .int .i64 (e20)) (Pu.qo (p_assign rfl)) (by decide) ?_
    refine Rg.nl ?_
    refine nT (?_)
    refine tRet ?_
    have hr := Option.some.inj H; subst hr
    exact back1 () rfl (ResV.tmp (v := .int .i64 (e20)) rfl) rfl Ents.nil Take.nil
noncomputable def p_laws_FnExactPartOf (v0 : Part) (v1 : Int) : Option (Bool) := bd (p_laws_szPart v0 1048576) fun r3 => cond (decide (r3 < 0)) (some true) (bd (p_laws_toPart v0) fun r6 => bd (p_spec_PartOf r6 v1) fun r9 => bd (p_impl_PartOf r6 v1) fun r14 => bd (p_laws_eqRowS r14 r9) fun r17 => cond (!r17) (some false) (bd (p_laws_eqPart r6 r6) fun r21 => cond (!r21) (some false) (bd (p_laws_markPart r6 1) fun r24 => bd (cond (decide (r24.1 < 0)) (some (true)) (some (!r17))) fun b27 => cond (b27) (some false) (bd (p_laws_markRowS r14 1) fun r31 => bd (p_laws_heldRowS r31.2 1) fun r34 => cond (decide (r34 < 0)) (some false) (cond (!decide (r34 = r31.1)) (some false) (cond (!r17) (some false) (cond (decide (r34 < 0)) (some false) (cond (!decide (r34 = r31.1)) (some false) (some true)))))))))
theorem c_laws_FnExactPartOf {r : Bool} (v0 : Part) (x_v0 : (Option Addr × Nat) × (Option Addr × Nat)) (v1 : Int) (H : p_laws_FnExactPartOf v0 v1 = some r) : Fn' Try.prog 7 #[.agg #[.slice x_v0.1.1 v0.1.length x_v0.1.2, .slice x_v0.2.1 v0.2.length x_v0.2.2], .int .i64 (v1)] [imm (.slice x_v0.1.1 v0.1.length x_v0.1.2) v0.1, imm (.slice x_v0.2.1 v0.2.length x_v0.2.2) v0.2] [] (ι := Unit) (fun x => .bool (r)) (fun _ => []) (fun x => []) := by
  refine calls_of (args := [_, _]) Try.func7 rfl (by kernel_rfl) Try.ntmps7 (by simp) fun c => ?_
  unfold p_laws_FnExactPartOf at H
  refine Tr.openD Ent.z.s fun X1 => ?_
  refine Tr.seq ?_
  refine Tr.region ?_
  refine Rg.ed (e_box (t := 34) (v := .agg #[.slice x_v0.1.1 v0.1.length x_v0.1.2, .slice x_v0.2.1 v0.2.length x_v0.2.2]) rfl) rfl (by decide) ?_
  rintro _ _ _ ⟨g2, rfl, rfl, rfl⟩
  refine Rg.q (v := .bool (false)) (Pu.qo (p_assign rfl)) (by decide) ?_
  refine Rg.nl ?_
  refine nT (?_)
  refine Tr.seq ?_
  refine Tr.region ?_
  refine Rg.q (v := .int .i64 (1048576)) (Pu.qo (p_assign rfl)) (by decide) ?_
  refine Rg.nl ?_
  refine nT (?_)
  refine Tr.seq ?_
  refine Tr.region ?_
  refine Rg.q (v := .agg #[.slice x_v0.1.1 v0.1.length x_v0.1.2, .slice x_v0.2.1 v0.2.length x_v0.2.2]) (q_ldbA ty34 rfl Has.here rfl) (by decide) ?_
  refine Rg.q (v := .int .i64 (1048576)) (Pu.qo (p_move rfl)) (by decide) ?_
  obtain ⟨r3, h4, H⟩ := bd.of H
  refine Rg.q (v := .int .i64 (r3)) (q_call (vs := [.agg #[.slice x_v0.1.1 v0.1.length x_v0.1.2, .slice x_v0.2.1 v0.2.length x_v0.2.2], .int .i64 (1048576)]) (c_laws_szPart v0 x_v0 1048576 h4) rfl (EntsB.cons (Ent.b Ent.z.s) (EntsB.cons (Ent.b (Ent.dimm Ent.z)) EntsB.nil))) (by decide) ?_
  refine Rg.q (v := .int .i64 (r3)) (Pu.qo (p_assign rfl)) (by decide) ?_
  refine Rg.nl ?_
  refine nT (?_)
  refine Tr.seq ?_
  refine Tr.seq ?_
  refine Tr.region ?_
  refine Rg.q (v := .int .i64 (r3)) (Pu.qo (p_move rfl)) (by decide) ?_
  refine Rg.q (v := .bool (decide (r3 < 0))) (Pu.qo (p_lss rfl rfl)) (by decide) ?_
  refine Rg.nl ?_
  refine nT (?_)
  refine Tr.cond (b := decide (r3 < 0)) rfl (fun h5 => ?_) (fun h5 => ?_)
  · have H := cdT h5 H
    refine Tr.seq ?_
    refine Tr.region ?_
    refine Rg.q (v := .bool (true)) (Pu.qo (p_assign rfl)) (by decide) ?_
    refine Rg.nl ?_
    refine nT (?_)
    refine tRet ?_
    refine rT (?_)
    have hr := Option.some.inj H; subst hr
    exact back1 () rfl (ResV.tmp (v := .bool (true)) rfl) rfl Ents.nil Take.nil
  · have H := cdF h5 H
    refine tSkip ?_
    refine nT (?_)
    refine Tr.seq ?_
    refine Tr.region ?_
    refine Rg.q (v := .agg #[.slice x_v0.1.1 v0.1.length x_v0.1.2, .slice x_v0.2.1 v0.2.length x_v0.2.2]) (q_ldbA ty34 rfl Has.here rfl) (by decide) ?_
    obtain ⟨r6, h7, H⟩ := bd.of H
    refine Rg.ed (e_callB (vs := [.agg #[.slice x_v0.1.1 v0.1.length x_v0.1.2, .slice x_v0.2.1 v0.2.length x_v0.2.2]]) (c_laws_toPart v0 x_v0 h7) (fun _ => (Solo.tree (Solo.tree Solo.nil))) rfl (EntsB.cons (Ent.b Ent.z.s) (EntsB.cons (Ent.b (Ent.dimm Ent.z)) EntsB.nil))) rfl (by decide) ?_
    rintro _ _ _ ⟨x8, rfl, rfl, rfl⟩
    refine Rg.q (v := .int .i64 (v1)) (Pu.qo (p_move rfl)) (by decide) ?_
    obtain ⟨r9, h10, H⟩ := bd.of H
    refine Rg.ed (e_callB (vs := [.agg #[.slice x8.1.1 r6.1.length x8.1.2, .slice x8.2.1 r6.2.length x8.2.2], .int .i64 (v1)]) (c_spec_PartOf r6 x8 v1 h10) (fun _ => (Solo.tree Solo.nil)) rfl (EntsB.cons (EntB.tree Has.here) (EntsB.cons (EntB.tree Has.here.there) EntsB.nil))) rfl (by decide) ?_
    rintro _ _ _ ⟨x11, rfl, rfl, rfl⟩
    refine Rg.q (v := .slice x11.1 r9.length x11.2) (Pu.qo (p_assign rfl)) (by decide) ?_
    refine Rg.nl ?_
    refine nT (?_)
    refine Tr.seq ?_
    refine Tr.region ?_
    refine Rg.q (v := .agg #[.slice x_v0.1.1 v0.1.length x_v0.1.2, .slice x_v0.2.1 v0.2.length x_v0.2.2]) (q_ldbA ty34 rfl Has.here.there.there.there rfl) (by decide) ?_
    refine Rg.ed (e_callB (vs := [.agg #[.slice x_v0.1.1 v0.1.length x_v0.1.2, .slice x_v0.2.1 v0.2.length x_v0.2.2]]) (c_laws_toPart v0 x_v0 h7) (fun _ => (Solo.tree (Solo.tree Solo.nil))) rfl (EntsB.cons (Ent.b Ent.z.s) (EntsB.cons (Ent.b (Ent.dimm Ent.z)) EntsB.nil))) rfl (by decide) ?_
    rintro _ _ _ ⟨x12, rfl, rfl, rfl⟩
    refine Rg.ed (e_alloc ty26) rfl (by decide) ?_
    rintro _ _ _ ⟨g13, rfl, rfl, rfl⟩
    refine Rg.en (e_store (v := .agg #[.slice x12.1.1 r6.1.length x12.1.2, .slice x12.2.1 r6.2.length x12.2.2]) (cs' := [.slice x12.1.1 r6.1.length x12.1.2, .slice x12.2.1 r6.2.length x12.2.2]) ty26 rfl rfl Upd.here rfl (by simp [Value.cells, Value.oneCell']) (Nat.le_of_ble_eq_true rfl) rfl) rfl ?_
    rintro _ _ _ ⟨rfl, rfl, rfl⟩
    refine Rg.nl ?_
    refine nT (?_)
    refine Tr.seq ?_
    refine Tr.region ?_
    refine Rg.q (v := .agg #[.slice x12.1.1 r6.1.length x12.1.2, .slice x12.2.1 r6.2.length x12.2.2]) (q_ldbA ty26 rfl Has.here rfl) (by decide) ?_
    refine Rg.q (v := .int .i64 (v1)) (Pu.qo (p_move rfl)) (by decide) ?_
    obtain ⟨r14, h15, H⟩ := bd.of H
    refine Rg.ed (e_callB (vs := [.agg #[.slice x12.1.1 r6.1.length x12.1.2, .slice x12.2.1 r6.2.length x12.2.2], .int .i64 (v1)]) (c_impl_PartOf r6 x12 v1 h15) (fun _ => (Solo.tree Solo.nil)) rfl (EntsB.cons (EntB.tree Has.here.there) (EntsB.cons (EntB.tree Has.here.there.there) EntsB.nil))) rfl (by decide) ?_
    rintro _ _ _ ⟨x16, rfl, rfl, rfl⟩
    refine Rg.q (v := .slice x16.1 r14.length x16.2) (Pu.qo (p_assign rfl)) (by decide) ?_
    refine Rg.nl ?_
    refine nT (?_)
    refine Tr.seq ?_
    refine Tr.seq ?_
    refine Tr.region ?_
    refine Rg.q (v := .slice x16.1 r14.length x16.2) (Pu.qo (p_move rfl)) (by decide) ?_
    refine Rg.q (v := .slice x11.1 r9.length x11.2) (Pu.qo (p_move rfl)) (by decide) ?_
    obtain ⟨r17, h18, H⟩ := bd.of H
    refine Rg.q (v := .bool (r17)) (q_call (vs := [.slice x16.1 r14.length x16.2, .slice x11.1 r9.length x11.2]) (c_laws_eqRowS r14 x16 r9 x11 h18) rfl (EntsB.cons (EntB.tree Has.here) (EntsB.cons (EntB.tree Has.here.there.there.there.there) EntsB.nil))) (by decide) ?_
    refine Rg.q (v := .bool (!r17)) (Pu.qo (p_not rfl)) (by decide) ?_
    refine Rg.nl ?_
    refine nT (?_)
    refine Tr.cond (b := !r17) rfl (fun h19 => ?_) (fun h19 => ?_)
    · have H := cdT h19 H
      refine Tr.seq ?_
      refine Tr.region ?_
      refine Rg.q (v := .bool (false)) (Pu.qo (p_assign rfl)) (by decide) ?_
      refine Rg.nl ?_
      refine nT (?_)
      refine tRet ?_
      refine rT (?_)
      have hr := Option.some.inj H; subst hr
      exact back1 () rfl (ResV.tmp (v := .bool (false)) rfl) rfl Ents.nil Take.nil
    · have H := cdF h19 H
      refine tSkip ?_
      refine nT (?_)
      refine Tr.seq ?_
      refine Tr.seq ?_
      refine tNwS [(8, .slice x16.1 r14.length x16.2), (7, .pointer (some ⟨g13, 0, none⟩)), (6, .slice x11.1 r9.length x11.2), (2, .pointer (some ⟨g2, 0, none⟩)), (1, .int .i64 (v1))] 2 [0, 1, 2, 3, 4] [2] [] Try.mixed (by kernel_rfl) (by decide) List.nodup_nil ⟨rfl, rfl, rfl, rfl, rfl, trivial⟩ rfl okNil ?_
      refine w_q (v := .agg #[.slice x12.1.1 r6.1.length x12.1.2, .slice x12.2.1 r6.2.length x12.2.2]) rfl (by decide) rfl rfl rfl (fun F => (q_ldbA ty26 rfl (Has.here.there.app F) rfl)) ?_
      refine w_q (v := .agg #[.slice x_v0.1.1 v0.1.length x_v0.1.2, .slice x_v0.2.1 v0.2.length x_v0.2.2]) rfl (by decide) rfl rfl rfl (fun F => (q_ldbA ty34 rfl (Has.here.there.there.there.there.there.there.there.app F) rfl)) ?_
      refine w_ed rfl (by decide) rfl Rdy.nil rfl (n_callB (vs := [.agg #[.slice x_v0.1.1 v0.1.length x_v0.1.2, .slice x_v0.2.1 v0.2.length x_v0.2.2]]) (c_laws_toPart v0 x_v0 h7) (fun _ => (Solo.tree (Solo.tree Solo.nil))) rfl (EntsB.cons (Ent.b Ent.z.s) (EntsB.cons (Ent.b (Ent.dimm Ent.z)) EntsB.nil))) ?_
      rintro _ _ _ ⟨x20, rfl, rfl, rfl⟩
      refine ⟨(PdOk.anc (by kernel_rfl) (PdOk.q rfl rfl (fun F => (q_ldbA ty26 rfl (Has.here.there.there.there.app F) rfl)) PdOk.nil)), ?_⟩
      obtain ⟨r21, h22, H⟩ := bd.of H
      refine w_q (v := .bool (r21)) rfl (by decide) rfl rfl rfl (fun F => (q_call (vs := [.agg #[.slice x12.1.1 r6.1.length x12.1.2, .slice x12.2.1 r6.2.length x12.2.2], .agg #[.slice x20.1.1 r6.1.length x20.1.2, .slice x20.2.1 r6.2.length x20.2.2]]) (c_laws_eqPart r6 x12 r6 x20 h22) rfl (EntsB.cons (EntB.tree (Has.here.there.there.there.there.app F)) (EntsB.cons (EntB.tree (Has.here.there.there.there.there.there.app F)) (EntsB.cons (EntB.tree (Has.here.app F)) (EntsB.cons (EntB.tree (Has.here.there.app F)) EntsB.nil)))))) ?_
      refine w_pu (v := .bool (!r21)) rfl (by decide) rfl rfl rfl (p_not rfl) ?_
      refine w_nil ?_
      show At _ _ _ _ _ _
      refine nT (?_)
      refine Tr.cond (b := !r21) rfl (fun h23 => ?_) (fun h23 => ?_)
      · have H := cdT h23 H
        refine Tr.seq ?_
        refine Tr.region ?_
        refine Rg.q (v := .bool (false)) (Pu.qo (p_assign rfl)) (by decide) ?_
        refine Rg.nl ?_
        refine nT (?_)
        refine tRet ?_
        refine rT (?_)
        have hr := Option.some.inj H; subst hr
        exact back1 () rfl (ResV.tmp (v := .bool (false)) rfl) rfl Ents.nil Take.nil
      · have H := cdF h23 H
        refine tSkip ?_
        refine nT (?_)
        refine Tr.seq ?_
        refine Tr.region ?_
        refine Rg.q (v := .int .i64 (1)) (Pu.qo (p_assign rfl)) (by decide) ?_
        refine Rg.nl ?_
        refine nT (?_)
        refine Tr.seq ?_
        refine Tr.region ?_
        refine Rg.q (v := .agg #[.slice x12.1.1 r6.1.length x12.1.2, .slice x12.2.1 r6.2.length x12.2.2]) (q_ldbA ty26 rfl Has.here.there.there.there rfl) (by decide) ?_
        refine Rg.q (v := .int .i64 (1)) (Pu.qo (p_move rfl)) (by decide) ?_
        obtain ⟨r24, h25, H⟩ := bd.of H
        refine Rg.ed (e_callM (vs := [.agg #[.slice x12.1.1 r6.1.length x12.1.2, .slice x12.2.1 r6.2.length x12.2.2], .int .i64 (1)]) (c_laws_markPart r6 x12 1 h25) (Solo.tree (Solo.tree Solo.nil)) (fun _ => (Solo.tree (Solo.tree Solo.nil))) rfl (.cons Del.here.there.there.there.there (.cons Del.here.there.there.there.there .nil)) EntsB.nil) rfl (by decide) ?_
        rintro _ _ _ ⟨u26, rfl, rfl, rfl⟩
        refine Rg.q (v := .int .i64 (r24.1)) (Pu.qo (p_assign rfl)) (by decide) ?_
        refine Rg.nl ?_
        refine nT (?_)
        refine Tr.seq ?_
        refine Tr.olen Has.here fun hn => ?_; rw [hn]
        refine Tr.olen Has.here.there fun hn => ?_; rw [hn]
        refine Tr.olen Has.here.there.there fun hn => ?_; rw [hn]
        refine Tr.olen Has.here.there.there.there fun hn => ?_; rw [hn]
        obtain ⟨b27, j28, H⟩ := bd.of H
        refine tMid1 [(46, .bool (b27)), (8, .slice x16.1 r14.length x16.2), (6, .slice x11.1 r9.length x11.2), (2, .pointer (some ⟨g2, 0, none⟩)), (1, .int .i64 (v1))] ?_ ?_
        · refine tLinS [(9, .int .i64 (r24.1)), (8, .slice x16.1 r14.length x16.2), (6, .slice x11.1 r9.length x11.2), (2, .pointer (some ⟨g2, 0, none⟩)), (1, .int .i64 (v1))] Try.mixed (.inl rfl) ⟨rfl, rfl, rfl, rfl, rfl, trivial⟩ rfl ?_
          refine Lin.q (v := .int .i64 (r24.1)) (by decide) (Pu.qo (p_move rfl)) ?_
          refine Lin.q (v := .bool (decide (r24.1 < 0))) (by decide) (Pu.qo (p_lss rfl rfl)) ?_
          rcases Bool.eq_false_or_eq_true (decide (r24.1 < 0)) with h29 | h29
          · have j28 := cdT h29 j28
            refine Lin.q (v := .bool (true)) (by decide) (Qo.eqv (v := .bool (decide (r24.1 < 0))) (Pu.qo (p_move rfl)) (congrArg Value.bool h29)) ?_
            refine Lin.skip (by decide) rfl ?_
            refine Lin.skip (by decide) rfl ?_
            refine Lin.skip (by decide) rfl ?_
            refine Lin.skip (by decide) rfl ?_
            refine Lin.q (v := .bool (true)) (by decide) (Pu.qo (p_pickT rfl rfl)) ?_
            have j28 := Option.some.inj j28; subst j28
            show At _ _ _ _ _ _
            exact n1 ⟨rfl, rfl, rfl, rfl, rfl, trivial⟩
          · have j28 := cdF h29 j28
            refine Lin.q (v := .bool (false)) (by decide) (Qo.eqv (v := .bool (decide (r24.1 < 0))) (Pu.qo (p_move rfl)) (congrArg Value.bool h29)) ?_
            refine Lin.g (v := .slice x16.1 r14.length x16.2) (by decide) rfl (Pu.qo (p_move rfl)) ?_
            refine Lin.g (v := .slice x11.1 r9.length x11.2) (by decide) rfl (Pu.qo (p_move rfl)) ?_
            refine Lin.g (v := .bool (r17)) (by decide) rfl (q_call (vs := [.slice x16.1 r14.length x16.2, .slice x11.1 r9.length x11.2]) (c_laws_eqRowS r14 x16 r9 x11 h18) rfl (EntsB.cons (EntB.tree Has.here.there.there.there.there) (EntsB.cons (EntB.tree Has.here.there.there.there.there.there.there) EntsB.nil))) ?_
            refine Lin.g (v := .bool (!r17)) (by decide) rfl (Pu.qo (p_not rfl)) ?_
            refine Lin.q (v := .bool (!r17)) (by decide) (Pu.qo (p_pickF rfl rfl)) ?_
            have j28 := Option.some.inj j28; subst j28
            show At _ _ _ _ _ _
            exact n1 ⟨rfl, rfl, rfl, rfl, rfl, trivial⟩
        refine Tr.cond (b := b27) rfl (fun h30 => ?_) (fun h30 => ?_)
        · have H := cdT h30 H
          refine Tr.seq ?_
          refine Tr.olen Has.here fun hn => ?_; rw [hn]
          refine Tr.olen Has.here.there fun hn => ?_; rw [hn]
          refine Tr.olen Has.here.there.there fun hn => ?_; rw [hn]
          refine Tr.olen Has.here.there.there.there fun hn => ?_; rw [hn]
          refine Tr.region ?_
          refine Rg.q (v := .bool (false)) (Pu.qo (p_assign rfl)) (by decide) ?_
          refine Rg.nl ?_
          refine nT (?_)
          refine Tr.olen Has.here fun hn => ?_; rw [hn]
          refine Tr.olen Has.here.there fun hn => ?_; rw [hn]
          refine Tr.olen Has.here.there.there fun hn => ?_; rw [hn]
          refine Tr.olen Has.here.there.there.there fun hn => ?_; rw [hn]
          refine tRet ?_
          refine rT (?_)
          refine At.olen Has.here fun hn => ?_; rw [hn]
          refine At.olen Has.here.there fun hn => ?_; rw [hn]
          refine At.olen Has.here.there.there fun hn => ?_; rw [hn]
          refine At.olen Has.here.there.there.there fun hn => ?_; rw [hn]
          have hr := Option.some.inj H; subst hr
          exact back1 () rfl (ResV.tmp (v := .bool (false)) rfl) rfl Ents.nil Take.nil
        · have H := cdF h30 H
          refine tSkip ?_
          refine nT (?_)
          refine Tr.seq ?_
          refine Tr.olen Has.here fun hn => ?_; rw [hn]
          refine Tr.olen Has.here.there fun hn => ?_; rw [hn]
          refine Tr.olen Has.here.there.there fun hn => ?_; rw [hn]
          refine Tr.olen Has.here.there.there.there fun hn => ?_; rw [hn]
          refine Tr.region ?_
          refine Rg.q (v := .int .i64 (1)) (Pu.qo (p_assign rfl)) (by decide) ?_
          refine Rg.nl ?_
          refine nT (?_)
          refine Tr.seq ?_
          refine Tr.olen Has.here fun hn => ?_; rw [hn]
          refine Tr.olen Has.here.there fun hn => ?_; rw [hn]
          refine Tr.olen Has.here.there.there fun hn => ?_; rw [hn]
          refine Tr.olen Has.here.there.there.there fun hn => ?_; rw [hn]
          refine Tr.region ?_
          refine Rg.q (v := .slice x16.1 r14.length x16.2) (Pu.qo (p_move rfl)) (by decide) ?_
          refine Rg.q (v := .int .i64 (1)) (Pu.qo (p_move rfl)) (by decide) ?_
          obtain ⟨r31, h32, H⟩ := bd.of H
          refine Rg.ed (e_callM (vs := [.slice x16.1 r14.length x16.2, .int .i64 (1)]) (c_laws_markRowS r14 x16 1 h32) (Solo.tree Solo.nil) (fun _ => (Solo.tree Solo.nil)) rfl (.cons Del.here.there.there.there.there .nil) EntsB.nil) rfl (by decide) ?_
          rintro _ _ _ ⟨u33, rfl, rfl, rfl⟩
          refine Rg.q (v := .int .i64 (r31.1)) (Pu.qo (p_assign rfl)) (by decide) ?_
          refine Rg.nl ?_
          refine nT (?_)
          refine Tr.seq ?_
          refine Tr.olen Has.here fun hn => ?_; rw [hn]
          refine Tr.olen Has.here.there fun hn => ?_; rw [hn]
          refine Tr.olen Has.here.there.there fun hn => ?_; rw [hn]
          refine Tr.olen Has.here.there.there.there fun hn => ?_; rw [hn]
          refine Tr.olen Has.here.there.there.there.there fun hn => ?_; rw [hn]
          refine Tr.region ?_
          refine Rg.q (v := .int .i64 (1)) (Pu.qo (p_assign rfl)) (by decide) ?_
          refine Rg.nl ?_
          refine nT (?_)
          refine Tr.seq ?_
          refine Tr.olen Has.here.there fun hn => ?_; rw [hn]
          refine Tr.olen Has.here.there.there fun hn => ?_; rw [hn]
          refine Tr.olen Has.here.there.there.there fun hn => ?_; rw [hn]
          refine Tr.olen Has.here.there.there.there.there fun hn => ?_; rw [hn]
          refine Tr.region ?_
          refine Rg.q (v := .slice x16.1 r31.2.length x16.2) (Pu.qo (p_move rfl)) (by decide) ?_
          refine Rg.q (v := .int .i64 (1)) (Pu.qo (p_move rfl)) (by decide) ?_
          obtain ⟨r34, h35, H⟩ := bd.of H
          refine Rg.q (v := .int .i64 (r34)) (q_call (vs := [.slice x16.1 r31.2.length x16.2, .int .i64 (1)]) (c_laws_heldRowS r31.2 x16 1 h35) rfl (EntsB.cons (EntB.tree Has.here) EntsB.nil)) (by decide) ?_
          refine Rg.q (v := .int .i64 (r34)) (Pu.qo (p_assign rfl)) (by decide) ?_
          refine Rg.nl ?_
          refine nT (?_)
          refine Tr.seq ?_
          refine Tr.seq ?_
          refine Tr.olen Has.here.there fun hn => ?_; rw [hn]
          refine Tr.olen Has.here.there.there fun hn => ?_; rw [hn]
          refine Tr.olen Has.here.there.there.there fun hn => ?_; rw [hn]
          refine Tr.olen Has.here.there.there.there.there fun hn => ?_; rw [hn]
          refine Tr.region ?_
          refine Rg.q (v := .int .i64 (r34)) (Pu.qo (p_move rfl)) (by decide) ?_
          refine Rg.q (v := .bool (decide (r34 < 0))) (Pu.qo (p_lss rfl rfl)) (by decide) ?_
          refine Rg.nl ?_
          refine nT (?_)
          refine Tr.cond (b := decide (r34 < 0)) rfl (fun h36 => ?_) (fun h36 => ?_)
          · have H := cdT h36 H
            refine Tr.seq ?_
            refine Tr.olen Has.here.there fun hn => ?_; rw [hn]
            refine Tr.olen Has.here.there.there fun hn => ?_; rw [hn]
            refine Tr.olen Has.here.there.there.there fun hn => ?_; rw [hn]
            refine Tr.olen Has.here.there.there.there.there fun hn => ?_; rw [hn]
            refine Tr.region ?_
            refine Rg.q (v := .bool (false)) (Pu.qo (p_assign rfl)) (by decide) ?_
            refine Rg.nl ?_
            refine nT (?_)
            refine Tr.olen Has.here.there fun hn => ?_; rw [hn]
            refine Tr.olen Has.here.there.there fun hn => ?_; rw [hn]
            refine Tr.olen Has.here.there.there.there fun hn => ?_; rw [hn]
            refine Tr.olen Has.here.there.there.there.there fun hn => ?_; rw [hn]
            refine tRet ?_
            refine rT (?_)
            refine At.olen Has.here.there fun hn => ?_; rw [hn]
            refine At.olen Has.here.there.there fun hn => ?_; rw [hn]
            refine At.olen Has.here.there.there.there fun hn => ?_; rw [hn]
            refine At.olen Has.here.there.there.there.there fun hn => ?_; rw [hn]
            have hr := Option.some.inj H; subst hr
            exact back1 () rfl (ResV.tmp (v := .bool (false)) rfl) rfl Ents.nil Take.nil
          · have H := cdF h36 H
            refine tSkip ?_
            refine nT (?_)
            refine Tr.seq ?_
            refine Tr.seq ?_
            refine Tr.olen Has.here.there fun hn => ?_; rw [hn]
            refine Tr.olen Has.here.there.there fun hn => ?_; rw [hn]
            refine Tr.olen Has.here.there.there.there fun hn => ?_; rw [hn]
            refine Tr.olen Has.here.there.there.there.there fun hn => ?_; rw [hn]
            refine Tr.region ?_
            refine Rg.q (v := .int .i64 (r34)) (Pu.qo (p_move rfl)) (by decide) ?_
            refine Rg.q (v := .int .i64 (r31.1)) (Pu.qo (p_move rfl)) (by decide) ?_
            refine Rg.q (v := .bool (!decide (r34 = r31.1))) (Pu.qo (p_neq rfl rfl)) (by decide) ?_
            refine Rg.nl ?_
            refine nT (?_)
            refine Tr.cond (b := !decide (r34 = r31.1)) rfl (fun h37 => ?_) (fun h37 => ?_)
            · have H := cdT h37 H
              refine Tr.seq ?_
              refine Tr.olen Has.here.there fun hn => ?_; rw [hn]
              refine Tr.olen Has.here.there.there fun hn => ?_; rw [hn]
              refine Tr.olen Has.here.there.there.there fun hn => ?_; rw [hn]
              refine Tr.olen Has.here.there.there.there.there fun hn => ?_; rw [hn]
              refine Tr.region ?_
              refine Rg.q (v := .bool (false)) (Pu.qo (p_assign rfl)) (by decide) ?_
              refine Rg.nl ?_
              refine nT (?_)
              refine Tr.olen Has.here.there fun hn => ?_; rw [hn]
              refine Tr.olen Has.here.there.there fun hn => ?_; rw [hn]
              refine Tr.olen Has.here.there.there.there fun hn => ?_; rw [hn]
              refine Tr.olen Has.here.there.there.there.there fun hn => ?_; rw [hn]
              refine tRet ?_
              refine rT (?_)
              refine At.olen Has.here.there fun hn => ?_; rw [hn]
              refine At.olen Has.here.there.there fun hn => ?_; rw [hn]
              refine At.olen Has.here.there.there.there fun hn => ?_; rw [hn]
              refine At.olen Has.here.there.there.there.there fun hn => ?_; rw [hn]
              have hr := Option.some.inj H; subst hr
              exact back1 () rfl (ResV.tmp (v := .bool (false)) rfl) rfl Ents.nil Take.nil
            · have H := cdF h37 H
              refine tSkip ?_
              refine nT (?_)
              refine Tr.seq ?_
              refine Tr.olen Has.here.there fun hn => ?_; rw [hn]
              refine Tr.olen Has.here.there.there fun hn => ?_; rw [hn]
              refine Tr.olen Has.here.there.there.there fun hn => ?_; rw [hn]
              refine Tr.olen Has.here.there.there.there.there fun hn => ?_; rw [hn]
              refine Tr.region ?_
              refine Rg.q (v := .agg #[.slice x_v0.1.1 v0.1.length x_v0.1.2, .slice x_v0.2.1 v0.2.length x_v0.2.2]) (q_ldbA ty34 rfl Has.here.there.there.there.there.there.there.there.there.there rfl) (by decide) ?_
              refine Rg.ed (e_callB (vs := [.agg #[.slice x_v0.1.1 v0.1.length x_v0.1.2, .slice x_v0.2.1 v0.2.length x_v0.2.2]]) (c_laws_toPart v0 x_v0 h7) (fun _ => (Solo.tree (Solo.tree Solo.nil))) rfl (EntsB.cons (Ent.b Ent.z.s) (EntsB.cons (Ent.b (Ent.dimm Ent.z)) EntsB.nil))) rfl (by decide) ?_
              rintro _ _ _ ⟨x38, rfl, rfl, rfl⟩
              refine Rg.q (v := .int .i64 (v1)) (Pu.qo (p_move rfl)) (by decide) ?_
              refine Rg.ed (e_callB (vs := [.agg #[.slice x38.1.1 r6.1.length x38.1.2, .slice x38.2.1 r6.2.length x38.2.2], .int .i64 (v1)]) (c_impl_PartOf r6 x38 v1 h15) (fun _ => (Solo.tree Solo.nil)) rfl (EntsB.cons (EntB.tree Has.here) (EntsB.cons (EntB.tree Has.here.there) EntsB.nil))) rfl (by decide) ?_
              rintro _ _ _ ⟨x39, rfl, rfl, rfl⟩
              refine Rg.q (v := .slice x39.1 r14.length x39.2) (Pu.qo (p_assign rfl)) (by decide) ?_
              refine Rg.nl ?_
              refine nT (?_)
              refine Tr.seq ?_
              refine Tr.seq ?_
              refine Tr.olen Has.here.there.there.there.there fun hn => ?_; rw [hn]
              refine Tr.olen Has.here.there.there.there.there.there fun hn => ?_; rw [hn]
              refine Tr.olen Has.here.there.there.there.there.there.there fun hn => ?_; rw [hn]
              refine Tr.olen Has.here.there.there.there.there.there.there.there fun hn => ?_; rw [hn]
              refine Tr.region ?_
              refine Rg.q (v := .slice x39.1 r14.length x39.2) (Pu.qo (p_move rfl)) (by decide) ?_
              refine Rg.q (v := .slice x11.1 r9.length x11.2) (Pu.qo (p_move rfl)) (by decide) ?_
              refine Rg.q (v := .bool (r17)) (q_call (vs := [.slice x39.1 r14.length x39.2, .slice x11.1 r9.length x11.2]) (c_laws_eqRowS r14 x39 r9 x11 h18) rfl (EntsB.cons (EntB.tree Has.here) (EntsB.cons (EntB.tree Has.here.there.there.there.there.there.there.there.there.there) EntsB.nil))) (by decide) ?_
              refine Rg.q (v := .bool (!r17)) (Pu.qo (p_not rfl)) (by decide) ?_
              refine Rg.nl ?_
              refine nT (?_)
              refine Tr.cond (b := !r17) rfl (fun h40 => ?_) (fun h40 => ?_)
              · have H := cdT h40 H
                refine Tr.seq ?_
                refine Tr.olen Has.here.there.there.there.there fun hn => ?_; rw [hn]
                refine Tr.olen Has.here.there.there.there.there.there fun hn => ?_; rw [hn]
                refine Tr.olen Has.here.there.there.there.there.there.there fun hn => ?_; rw [hn]
                refine Tr.olen Has.here.there.there.there.there.there.there.there fun hn => ?_; rw [hn]
                refine Tr.region ?_
                refine Rg.q (v := .bool (false)) (Pu.qo (p_assign rfl)) (by decide) ?_
                refine Rg.nl ?_
                refine nT (?_)
                refine Tr.olen Has.here.there.there.there.there fun hn => ?_; rw [hn]
                refine Tr.olen Has.here.there.there.there.there.there fun hn => ?_; rw [hn]
                refine Tr.olen Has.here.there.there.there.there.there.there fun hn => ?_; rw [hn]
                refine Tr.olen Has.here.there.there.there.there.there.there.there fun hn => ?_; rw [hn]
                refine tRet ?_
                refine rT (?_)
                refine At.olen Has.here.there.there.there.there fun hn => ?_; rw [hn]
                refine At.olen Has.here.there.there.there.there.there fun hn => ?_; rw [hn]
                refine At.olen Has.here.there.there.there.there.there.there fun hn => ?_; rw [hn]
                refine At.olen Has.here.there.there.there.there.there.there.there fun hn => ?_; rw [hn]
                have hr := Option.some.inj H; subst hr
                exact back1 () rfl (ResV.tmp (v := .bool (false)) rfl) rfl Ents.nil Take.nil
              · have H := cdF h40 H
                refine tSkip ?_
                refine nT (?_)
                refine Tr.seq ?_
                refine Tr.olen Has.here.there.there.there.there fun hn => ?_; rw [hn]
                refine Tr.olen Has.here.there.there.there.there.there fun hn => ?_; rw [hn]
                refine Tr.olen Has.here.there.there.there.there.there.there fun hn => ?_; rw [hn]
                refine Tr.olen Has.here.there.there.there.there.there.there.there fun hn => ?_; rw [hn]
                refine Tr.region ?_
                refine Rg.q (v := .int .i64 (1)) (Pu.qo (p_assign rfl)) (by decide) ?_
                refine Rg.nl ?_
                refine nT (?_)
                refine Tr.seq ?_
                refine Tr.olen Has.here.there.there.there.there fun hn => ?_; rw [hn]
                refine Tr.olen Has.here.there.there.there.there.there fun hn => ?_; rw [hn]
                refine Tr.olen Has.here.there.there.there.there.there.there fun hn => ?_; rw [hn]
                refine Tr.olen Has.here.there.there.there.there.there.there.there fun hn => ?_; rw [hn]
                refine Tr.region ?_
                refine Rg.q (v := .slice x16.1 r31.2.length x16.2) (Pu.qo (p_move rfl)) (by decide) ?_
                refine Rg.q (v := .int .i64 (1)) (Pu.qo (p_move rfl)) (by decide) ?_
                refine Rg.q (v := .int .i64 (r34)) (q_call (vs := [.slice x16.1 r31.2.length x16.2, .int .i64 (1)]) (c_laws_heldRowS r31.2 x16 1 h35) rfl (EntsB.cons (EntB.tree Has.here.there.there.there) EntsB.nil)) (by decide) ?_
                refine Rg.q (v := .int .i64 (r34)) (Pu.qo (p_assign rfl)) (by decide) ?_
                refine Rg.nl ?_
                refine nT (?_)
                refine Tr.seq ?_
                refine Tr.seq ?_
                refine Tr.olen Has.here.there.there.there.there fun hn => ?_; rw [hn]
                refine Tr.olen Has.here.there.there.there.there.there fun hn => ?_; rw [hn]
                refine Tr.olen Has.here.there.there.there.there.there.there fun hn => ?_; rw [hn]
                refine Tr.olen Has.here.there.there.there.there.there.there.there fun hn => ?_; rw [hn]
                refine Tr.region ?_
                refine Rg.q (v := .int .i64 (r34)) (Pu.qo (p_move rfl)) (by decide) ?_
                refine Rg.q (v := .bool (decide (r34 < 0))) (Pu.qo (p_lss rfl rfl)) (by decide) ?_
                refine Rg.nl ?_
                refine nT (?_)
                refine Tr.cond (b := decide (r34 < 0)) rfl (fun h41 => ?_) (fun h41 => ?_)
                · have H := cdT h41 H
                  refine Tr.seq ?_
                  refine Tr.olen Has.here.there.there.there.there fun hn => ?_; rw [hn]
                  refine Tr.olen Has.here.there.there.there.there.there fun hn => ?_; rw [hn]
                  refine Tr.olen Has.here.there.there.there.there.there.there fun hn => ?_; rw [hn]
                  refine Tr.olen Has.here.there.there.there.there.there.there.there fun hn => ?_; rw [hn]
                  refine Tr.region ?_
                  refine Rg.q (v := .bool (false)) (Pu.qo (p_assign rfl)) (by decide) ?_
                  refine Rg.nl ?_
                  refine nT (?_)
                  refine Tr.olen Has.here.there.there.there.there fun hn => ?_; rw [hn]
                  refine Tr.olen Has.here.there.there.there.there.there fun hn => ?_; rw [hn]
                  refine Tr.olen Has.here.there.there.there.there.there.there fun hn => ?_; rw [hn]
                  refine Tr.olen Has.here.there.there.there.there.there.there.there fun hn => ?_; rw [hn]
                  refine tRet ?_
                  refine rT (?_)
                  refine At.olen Has.here.there.there.there.there fun hn => ?_; rw [hn]
                  refine At.olen Has.here.there.there.there.there.there fun hn => ?_; rw [hn]
                  refine At.olen Has.here.there.there.there.there.there.there fun hn => ?_; rw [hn]
                  refine At.olen Has.here.there.there.there.there.there.there.there fun hn => ?_; rw [hn]
                  have hr := Option.some.inj H; subst hr
                  exact back1 () rfl (ResV.tmp (v := .bool (false)) rfl) rfl Ents.nil Take.nil
                · have H := cdF h41 H
                  refine tSkip ?_
                  refine nT (?_)
                  refine Tr.seq ?_
                  refine Tr.seq ?_
                  refine Tr.olen Has.here.there.there.there.there fun hn => ?_; rw [hn]
                  refine Tr.olen Has.here.there.there.there.there.there fun hn => ?_; rw [hn]
                  refine Tr.olen Has.here.there.there.there.there.there.there fun hn => ?_; rw [hn]
                  refine Tr.olen Has.here.there.there.there.there.there.there.there fun hn => ?_; rw [hn]
                  refine Tr.region ?_
                  refine Rg.q (v := .int .i64 (r34)) (Pu.qo (p_move rfl)) (by decide) ?_
                  refine Rg.q (v := .int .i64 (r31.1)) (Pu.qo (p_move rfl)) (by decide) ?_
                  refine Rg.q (v := .bool (!decide (r34 = r31.1))) (Pu.qo (p_neq rfl rfl)) (by decide) ?_
                  refine Rg.nl ?_
                  refine nT (?_)
                  refine Tr.cond (b := !decide (r34 = r31.1)) rfl (fun h42 => ?_) (fun h42 => ?_)
                  · have H := cdT h42 H
                    refine Tr.seq ?_
                    refine Tr.olen Has.here.there.there.there.there fun hn => ?_; rw [hn]
                    refine Tr.olen Has.here.there.there.there.there.there fun hn => ?_; rw [hn]
                    refine Tr.olen Has.here.there.there.there.there.there.there fun hn => ?_; rw [hn]
                    refine Tr.olen Has.here.there.there.there.there.there.there.there fun hn => ?_; rw [hn]
                    refine Tr.region ?_
                    refine Rg.q (v := .bool (false)) (Pu.qo (p_assign rfl)) (by decide) ?_
                    refine Rg.nl ?_
                    refine nT (?_)
                    refine Tr.olen Has.here.there.there.there.there fun hn => ?_; rw [hn]
                    refine Tr.olen Has.here.there.there.there.there.there fun hn => ?_; rw [hn]
                    refine Tr.olen Has.here.there.there.there.there.there.there fun hn => ?_; rw [hn]
                    refine Tr.olen Has.here.there.there.there.there.there.there.there fun hn => ?_; rw [hn]
                    refine tRet ?_
                    refine rT (?_)
                    refine At.olen Has.here.there.there.there.there fun hn => ?_; rw [hn]
                    refine At.olen Has.here.there.there.there.there.there fun hn => ?_; rw [hn]
                    refine At.olen Has.here.there.there.there.there.there.there fun hn => ?_; rw [hn]
                    refine At.olen Has.here.there.there.there.there.there.there.there fun hn => ?_; rw [hn]
                    have hr := Option.some.inj H; subst hr
                    exact back1 () rfl (ResV.tmp (v := .bool (false)) rfl) rfl Ents.nil Take.nil
                  · have H := cdF h42 H
                    refine tSkip ?_
                    refine nT (?_)
                    refine Tr.seq ?_
                    refine Tr.olen Has.here.there.there.there.there fun hn => ?_; rw [hn]
                    refine Tr.olen Has.here.there.there.there.there.there fun hn => ?_; rw [hn]
                    refine Tr.olen Has.here.there.there.there.there.there.there fun hn => ?_; rw [hn]
                    refine Tr.olen Has.here.there.there.there.there.there.there.there fun hn => ?_; rw [hn]
                    refine Tr.region ?_
                    refine Rg.q (v := .bool (true)) (Pu.qo (p_assign rfl)) (by decide) ?_
                    refine Rg.nl ?_
                    refine nT (?_)
                    refine Tr.olen Has.here.there.there.there.there fun hn => ?_; rw [hn]
                    refine Tr.olen Has.here.there.there.there.there.there fun hn => ?_; rw [hn]
                    refine Tr.olen Has.here.there.there.there.there.there.there fun hn => ?_; rw [hn]
                    refine Tr.olen Has.here.there.there.there.there.there.there.there fun hn => ?_; rw [hn]
                    refine tRet ?_
                    refine At.olen Has.here.there.there.there.there fun hn => ?_; rw [hn]
                    refine At.olen Has.here.there.there.there.there.there fun hn => ?_; rw [hn]
                    refine At.olen Has.here.there.there.there.there.there.there fun hn => ?_; rw [hn]
                    refine At.olen Has.here.there.there.there.there.there.there.there fun hn => ?_; rw [hn]
                    have hr := Option.some.inj H; subst hr
                    exact back1 () rfl (ResV.tmp (v := .bool (true)) rfl) rfl Ents.nil Take.nil
noncomputable def p_laws_heldIntS_b0 (v0 : (List Int)) (σ5 : Int × Int) : Option ((Int × Int) ⊕ (Int ⊕ Int)) := cond (decide (σ5.2 < (v0.length : Int))) (gd (ix σ5.2 v0.length) <| cond (!decide ((nth v0 σ5.2.toNat) = σ5.1)) (some (.inr (.inr (-1)))) (gd (I64 (σ5.1 + 1)) <| gd (I64 (σ5.2 + 1)) <| some (.inl (σ5.1 + 1, σ5.2 + 1)))) (some (.inr (.inl σ5.1)))
noncomputable def p_laws_heldIntS (v0 : (List Int)) (v1 : Int) : Option (Int) := bd (lp (p_laws_heldIntS_b0 v0) (v1, 0)) <| sw (fun e18 => some e18) (fun q => some q)
theorem c_laws_heldIntS {r : Int} (v0 : (List Int)) (x_v0 : Option Addr × Nat) (v1 : Int) (H : p_laws_heldIntS v0 v1 = some r) : Fn' Try.prog 60 #[.slice x_v0.1 v0.length x_v0.2, .int .i64 (v1)] [imm (.slice x_v0.1 v0.length x_v0.2) v0] [] (ι := Unit) (fun x => .int .i64 (r)) (fun _ => []) (fun x => []) := by
  refine calls_of (args := [_, _]) Try.func60 rfl (by kernel_rfl) Try.ntmps60 (by simp) fun c => ?_
  unfold p_laws_heldIntS at H
  refine Tr.seq ?_
  refine Tr.region ?_
  refine Rg.q (v := .int .i64 (0)) (Pu.qo (p_assign rfl)) (by decide) ?_
  refine Rg.nl ?_
  refine nT (?_)
  refine Tr.seq ?_
  refine Tr.seq ?_
  refine Tr.region ?_
  refine Rg.q (v := .int .i64 (0)) (Pu.qo (p_assign rfl)) (by decide) ?_
  refine Rg.nl ?_
  refine nT (?_)
  obtain ⟨x1, hx2, H⟩ := bd.of H
  obtain ⟨n3, hx2⟩ := lp.of hx2
  refine tMidNC (ι := { q : (Int) × Unit // x1 = .inl q.1 }) (fun ψ => [(1, .int .i64 (ψ.1.1))]) (fun ψ => []) ?_ ?_
  · refine Tr.block ?_
    refine tLoopC (ι := { q : Nat × (Int × Int) × Unit // itr (p_laws_heldIntS_b0 v0) q.1 q.2.1 = some x1 }) (fun ζ => [(0, .slice x_v0.1 v0.length x_v0.2), (1, .int .i64 (ζ.1.2.1.1)), (5, .int .i64 (ζ.1.2.1.2))]) (fun ζ => []) (fun ζ => ζ.1.1) ⟨(n3, (v1, 0), ()), hx2⟩ ⟨rfl, rfl, rfl, trivial⟩ Take.nil ?_
    rintro ⟨⟨m4, σ5, z6⟩, hk11⟩
    obtain ⟨m12, t8, e, H1, hi9, hb10⟩ := itr.of (n := m4) (s := σ5) hk11
    subst e; unfold p_laws_heldIntS_b0 at H1
    show Tr _ _ _ _ _ [(0, .slice x_v0.1 v0.length x_v0.2), (1, .int .i64 (σ5.1)), (5, .int .i64 (σ5.2))] _ []
    refine Tr.seq ?_
    refine Tr.seq ?_
    refine Tr.region ?_
    refine Rg.q (v := .int .i64 (σ5.2)) (Pu.qo (p_move rfl)) (by decide) ?_
    refine Rg.q (v := .slice x_v0.1 v0.length x_v0.2) (Pu.qo (p_move rfl)) (by decide) ?_
    refine Rg.q (v := .int .i64 ((v0.length : Int))) (Pu.qo (p_len 3 Try.underlying23 rfl)) (by decide) ?_
    refine Rg.q (v := .bool (decide (σ5.2 < (v0.length : Int)))) (Pu.qo (p_lss rfl rfl)) (by decide) ?_
    refine Rg.nl ?_
    refine nT (?_)
    refine Tr.cond (b := decide (σ5.2 < (v0.length : Int))) rfl (fun h13 => ?_) (fun h13 => ?_)
    · have H1 := cdT h13 H1
      refine tSkip ?_
      refine nT (?_)
      refine Tr.seq ?_
      refine Tr.block ?_
      refine Tr.seq ?_
      refine Tr.seq ?_
      refine Tr.region ?_
      refine Rg.q (v := .slice x_v0.1 v0.length x_v0.2) (Pu.qo (p_move rfl)) (by decide) ?_
      refine Rg.q (v := .int .i64 (σ5.2)) (Pu.qo (p_move rfl)) (by decide) ?_
      obtain ⟨h14, H1⟩ := gd.of H1
      refine Rg.q (v := elp x_v0.1 (σ5.2.toNat * Enc.sz Int + 0)) (q_ixg (l := v0) (E := fun i => Flat.enc (nth v0 i)) (oa := x_v0.1) Try.underlying23 ty3 rfl rfl h14 rfl (EntB.flat (Ent.b Ent.z))) (by decide) ?_
      refine Rg.q (v := .int .i64 (nth v0 σ5.2.toNat)) (q_lde (l := v0) (E := fun i => Flat.enc (nth v0 i)) (oa := x_v0.1) (i := σ5.2.toNat) (j := 0) ty3 rfl (EntB.flat (Ent.b Ent.z)) h14.lt rfl) (by decide) ?_
      refine Rg.q (v := .int .i64 (σ5.1)) (Pu.qo (p_move rfl)) (by decide) ?_
      refine Rg.q (v := .bool (!decide ((nth v0 σ5.2.toNat) = σ5.1))) (Pu.qo (p_neq rfl rfl)) (by decide) ?_
      refine Rg.nl ?_
      refine nT (?_)
      refine Tr.cond (b := !decide ((nth v0 σ5.2.toNat) = σ5.1)) rfl (fun h15 => ?_) (fun h15 => ?_)
      · have H1 := cdT h15 H1
        refine Tr.seq ?_
        refine Tr.region ?_
        refine Rg.q (v := .int .i64 (-1)) (Pu.qo (p_assign rfl)) (by decide) ?_
        refine Rg.nl ?_
        refine nT (?_)
        refine tRet ?_
        refine rT (rB (rT (rT (rB (rT (rT (?_)))))))
        have hx := hb10 _ (Option.some.inj H1).symm; subst hx
        replace H := sw.r H
        have hr := Option.some.inj H; subst hr
        exact back1 () rfl (ResV.tmp (v := .int .i64 (-1)) rfl) rfl Ents.nil Take.nil
      · have H1 := cdF h15 H1
        refine tSkip ?_
        refine nT (?_)
        refine Tr.region ?_
        refine Rg.q (v := .int .i64 (σ5.1)) (Pu.qo (p_move rfl)) (by decide) ?_
        obtain ⟨h16, H1⟩ := gd.of H1
        refine Rg.q (v := .int .i64 (σ5.1 + 1)) (Pu.qo (p_add rfl rfl h16)) (by decide) ?_
        refine Rg.q (v := .int .i64 (σ5.1 + 1)) (Pu.qo (p_assign rfl)) (by decide) ?_
        refine Rg.nl ?_
        refine nB (nT (?_))
        refine Tr.region ?_
        refine Rg.q (v := .int .i64 (σ5.2)) (Pu.qo (p_move rfl)) (by decide) ?_
        obtain ⟨h17, H1⟩ := gd.of H1
        refine Rg.q (v := .int .i64 (σ5.2 + 1)) (Pu.qo (p_add rfl rfl h17)) (by decide) ?_
        refine Rg.q (v := .int .i64 (σ5.2 + 1)) (Pu.qo (p_assign rfl)) (by decide) ?_
        refine Rg.nl ?_
        exact nLC ⟨(m12, (σ5.1 + 1, σ5.2 + 1), ()), hi9 _ (Option.some.inj H1).symm⟩ (Nat.lt_succ_self _) ⟨rfl, rfl, rfl, trivial⟩ Ents.refl Take.nil
    · have H1 := cdF h13 H1
      refine tExit (xT (xT (xE (?_))))
      exact nMC ⟨(σ5.1, ()), (hb10 _ (Option.some.inj H1).symm).symm⟩ ⟨rfl, trivial⟩ Ents.refl Take.nil
  · rintro ⟨⟨e18, y7⟩, hx⟩; subst hx; replace H := sw.l H
    show At _ _ [(1, .int .i64 (e18))] _ [] _
    refine nT (?_)
    refine Tr.seq ?_
    refine Tr.region ?_
    refine Rg.q (v := .int .i64 (e18)) (Pu.qo (p_move rfl)) (by decide) ?_
    refine Rg.q (v := .int .i64 (e18)) (Pu.qo (p_assign rfl)) (by decide) ?_
    refine Rg.nl ?_
    refine nT (?_)
    refine tRet ?_
    have hr := Option.some.inj H; subst hr
    exact back1 () rfl (ResV.tmp (v := .int .i64 (e18)) rfl) rfl Ents.nil Take.nil
noncomputable def p_laws_heldRowSS_b0 (v0 : (List (List Row))) (σ6 : Int × Int) : Option ((Int × Int) ⊕ (Int ⊕ Int)) := cond (decide (σ6.2 < (v0.length : Int))) (gd (ix σ6.2 v0.length) <| bd (p_laws_heldRowS (nth v0 σ6.2.toNat) σ6.1) fun r16 => cond (decide (r16 < 0)) (some (.inr (.inr (-1)))) (gd (I64 (σ6.2 + 1)) <| some (.inl (r16, σ6.2 + 1)))) (some (.inr (.inl σ6.1)))
noncomputable def p_laws_heldRowSS (v0 : (List (List Row))) (v1 : Int) : Option (Int) := bd (lp (p_laws_heldRowSS_b0 v0) (v1, 0)) <| sw (fun e20 => some e20) (fun q => some q)
theorem c_laws_heldRowSS {r : Int} (v0 : (List (List Row))) (x_v0 : Option Addr × Nat) (v1 : Int) (H : p_laws_heldRowSS v0 v1 = some r) : Fn' Try.prog 72 #[.slice x_v0.1 v0.length x_v0.2, .int .i64 (v1)] [imm (.slice x_v0.1 v0.length x_v0.2) v0] [] (ι := Unit) (fun x => .int .i64 (r)) (fun _ => []) (fun x => []) := by
  refine calls_of (args := [_, _]) Try.func72 rfl (by kernel_rfl) Try.ntmps72 (by simp) fun c => ?_
  unfold p_laws_heldRowSS at H
  refine Tr.openD Ent.z fun X1 => ?_
  refine Tr.seq ?_
  refine Tr.region ?_
  refine Rg.q (v := .int .i64 (0)) (Pu.qo (p_assign rfl)) (by decide) ?_
  refine Rg.nl ?_
  refine nT (?_)
  refine Tr.seq ?_
  refine Tr.seq ?_
  refine Tr.region ?_
  refine Rg.q (v := .int .i64 (0)) (Pu.qo (p_assign rfl)) (by decide) ?_
  refine Rg.nl ?_
  refine nT (?_)
  obtain ⟨x2, hx3, H⟩ := bd.of H
  obtain ⟨n4, hx3⟩ := lp.of hx3
  refine tMidNC (ι := { q : (Int) × Unit // x2 = .inl q.1 }) (fun ψ => [(1, .int .i64 (ψ.1.1))]) (fun ψ => []) ?_ ?_
  · refine Tr.block ?_
    refine tLoopC (ι := { q : Nat × (Int × Int) × Unit // itr (p_laws_heldRowSS_b0 v0) q.1 q.2.1 = some x2 }) (fun ζ => [(0, .slice x_v0.1 v0.length x_v0.2), (1, .int .i64 (ζ.1.2.1.1)), (5, .int .i64 (ζ.1.2.1.2))]) (fun ζ => []) (fun ζ => ζ.1.1) ⟨(n4, (v1, 0), ()), hx3⟩ ⟨rfl, rfl, rfl, trivial⟩ Take.nil ?_
    rintro ⟨⟨m5, σ6, z7⟩, hk12⟩
    obtain ⟨m13, t9, e, H1, hi10, hb11⟩ := itr.of (n := m5) (s := σ6) hk12
    subst e; unfold p_laws_heldRowSS_b0 at H1
    show Tr _ _ _ _ _ [(0, .slice x_v0.1 v0.length x_v0.2), (1, .int .i64 (σ6.1)), (5, .int .i64 (σ6.2))] _ []
    refine Tr.seq ?_
    refine Tr.seq ?_
    refine Tr.region ?_
    refine Rg.q (v := .int .i64 (σ6.2)) (Pu.qo (p_move rfl)) (by decide) ?_
    refine Rg.q (v := .slice x_v0.1 v0.length x_v0.2) (Pu.qo (p_move rfl)) (by decide) ?_
    refine Rg.q (v := .int .i64 ((v0.length : Int))) (Pu.qo (p_len 29 Try.underlying24 rfl)) (by decide) ?_
    refine Rg.q (v := .bool (decide (σ6.2 < (v0.length : Int)))) (Pu.qo (p_lss rfl rfl)) (by decide) ?_
    refine Rg.nl ?_
    refine nT (?_)
    refine Tr.cond (b := decide (σ6.2 < (v0.length : Int))) rfl (fun h14 => ?_) (fun h14 => ?_)
    · have H1 := cdT h14 H1
      refine tSkip ?_
      refine nT (?_)
      refine Tr.seq ?_
      refine Tr.block ?_
      refine Tr.seq ?_
      refine Tr.region ?_
      refine Rg.q (v := .slice x_v0.1 v0.length x_v0.2) (Pu.qo (p_move rfl)) (by decide) ?_
      refine Rg.q (v := .int .i64 (σ6.2)) (Pu.qo (p_move rfl)) (by decide) ?_
      obtain ⟨h15, H1⟩ := gd.of H1
      refine Rg.q (v := elp x_v0.1 (σ6.2.toNat * Enc.sz (List Row) + 0)) (q_ixg (l := v0) (E := fun i => Dp.denc (nth v0 i) (X1 i)) (oa := x_v0.1) Try.underlying24 ty29 rfl rfl h15 rfl (Ent.b (Ent.darr Ent.z))) (by decide) ?_
      refine Rg.q (v := .slice ((X1 σ6.2.toNat).1) ((nth v0 σ6.2.toNat).length) ((X1 σ6.2.toNat).2.1)) (q_lde (l := v0) (E := fun i => Dp.denc (nth v0 i) (X1 i)) (oa := x_v0.1) (i := σ6.2.toNat) (j := 0) ty29 rfl (Ent.b (Ent.darr Ent.z)) h15.lt rfl) (by decide) ?_
      refine Rg.q (v := .int .i64 (σ6.1)) (Pu.qo (p_move rfl)) (by decide) ?_
      obtain ⟨r16, h17, H1⟩ := bd.of H1
      refine Rg.q (v := .int .i64 (r16)) (q_call (vs := [.slice ((X1 σ6.2.toNat).1) ((nth v0 σ6.2.toNat).length) ((X1 σ6.2.toNat).2.1), .int .i64 (σ6.1)]) (c_laws_heldRowS (nth v0 σ6.2.toNat) ((X1 σ6.2.toNat).1, (X1 σ6.2.toNat).2.1) σ6.1 h17) rfl (EntsB.cons (Ent.b (Ent.dimm (Ent.del Ent.z h15.lt))) EntsB.nil)) (by decide) ?_
      refine Rg.q (v := .int .i64 (r16)) (Pu.qo (p_assign rfl)) (by decide) ?_
      refine Rg.nl ?_
      refine nT (?_)
      refine Tr.seq ?_
      refine Tr.region ?_
      refine Rg.q (v := .int .i64 (r16)) (Pu.qo (p_move rfl)) (by decide) ?_
      refine Rg.q (v := .bool (decide (r16 < 0))) (Pu.qo (p_lss rfl rfl)) (by decide) ?_
      refine Rg.nl ?_
      refine nT (?_)
      refine Tr.cond (b := decide (r16 < 0)) rfl (fun h18 => ?_) (fun h18 => ?_)
      · have H1 := cdT h18 H1
        refine Tr.seq ?_
        refine Tr.region ?_
        refine Rg.q (v := .int .i64 (-1)) (Pu.qo (p_assign rfl)) (by decide) ?_
        refine Rg.nl ?_
        refine nT (?_)
        refine tRet ?_
        refine rB (rT (rT (rB (rT (rT (?_))))))
        have hx := hb11 _ (Option.some.inj H1).symm; subst hx
        replace H := sw.r H
        have hr := Option.some.inj H; subst hr
        exact back1 () rfl (ResV.tmp (v := .int .i64 (-1)) rfl) rfl Ents.nil Take.nil
      · have H1 := cdF h18 H1
        refine tSkip ?_
        refine nB (nT (?_))
        refine Tr.region ?_
        refine Rg.q (v := .int .i64 (σ6.2)) (Pu.qo (p_move rfl)) (by decide) ?_
        obtain ⟨h19, H1⟩ := gd.of H1
        refine Rg.q (v := .int .i64 (σ6.2 + 1)) (Pu.qo (p_add rfl rfl h19)) (by decide) ?_
        refine Rg.q (v := .int .i64 (σ6.2 + 1)) (Pu.qo (p_assign rfl)) (by decide) ?_
        refine Rg.nl ?_
        exact nLC ⟨(m13, (r16, σ6.2 + 1), ()), hi10 _ (Option.some.inj H1).symm⟩ (Nat.lt_succ_self _) ⟨rfl, rfl, rfl, trivial⟩ Ents.refl Take.nil
    · have H1 := cdF h14 H1
      refine tExit (xT (xT (xE (?_))))
      exact nMC ⟨(σ6.1, ()), (hb11 _ (Option.some.inj H1).symm).symm⟩ ⟨rfl, trivial⟩ Ents.refl Take.nil
  · rintro ⟨⟨e20, y8⟩, hx⟩; subst hx; replace H := sw.l H
    show At _ _ [(1, .int .i64 (e20))] _ [] _
    refine nT (?_)
    refine Tr.seq ?_
    refine Tr.region ?_
    refine Rg.q (v := .int .i64 (e20)) (Pu.qo (p_move rfl)) (by decide) ?_
    refine Rg.q (v := .int .i64 (e20)) (Pu.qo (p_assign rfl)) (by decide) ?_
    refine Rg.nl ?_
    refine nT (?_)
    refine tRet ?_
    have hr := Option.some.inj H; subst hr
    exact back1 () rfl (ResV.tmp (v := .int .i64 (e20)) rfl) rfl Ents.nil Take.nil
def p_spec_DiskNew : Option (Disk) := some (([] : List File), ([] : List Int), ([] : List (List Tag)), 1)
theorem c_spec_DiskNew {r : Disk}  (H : p_spec_DiskNew = some r) : Fn' Try.prog 28 #[] [] [] (ι := (Option Addr × Nat) × (Option Addr × Nat) × (Option Addr × Nat) × Unit) (fun x => .agg #[.slice x.1.1 r.1.length x.1.2, .slice x.2.1.1 r.2.1.length x.2.1.2, .slice x.2.2.1.1 r.2.2.1.length x.2.2.1.2, .int .i64 (r.2.2.2)]) (fun _ => []) (fun x => [tree (.slice x.1.1 r.1.length x.1.2) r.1, tree (.slice x.2.1.1 r.2.1.length x.2.1.2) r.2.1, tree (.slice x.2.2.1.1 r.2.2.1.length x.2.2.1.2) r.2.2.1]) := by
  refine calls_of (args := []) Try.func28 rfl (by kernel_rfl) Try.ntmps28 (by simp) fun c => ?_
  unfold p_spec_DiskNew at H
  refine Tr.seq ?_
  refine Tr.region ?_
  refine Rg.ed (e_alloc ty52) rfl (by decide) ?_
  rintro _ _ _ ⟨g1, rfl, rfl, rfl⟩
  refine Rg.nl ?_
  refine nT (?_)
  refine Tr.seq ?_
  refine Tr.region ?_
  refine Rg.ed (e_lit0 File Try.underlying49 ty94) rfl (by decide) ?_
  rintro _ _ _ ⟨a2, c3, rfl, rfl, rfl⟩
  refine Rg.ed (e_lit0 Int Try.underlying23 ty3) rfl (by decide) ?_
  rintro _ _ _ ⟨a4, c5, rfl, rfl, rfl⟩
  refine Rg.ed (e_lit0 (List Tag) Try.underlying50 ty96) rfl (by decide) ?_
  rintro _ _ _ ⟨a6, c7, rfl, rfl, rfl⟩
  refine Rg.q (v := .agg #[.slice a2 (([] : List File).length) c3, .slice a4 (([] : List Int).length) c5, .slice a6 (([] : List (List Tag)).length) c7, .int .i64 (1)]) (Pu.qo (p_buildS (vs := [(0, .slice a2 (([] : List File).length) c3), (1, .slice a4 (([] : List Int).length) c5), (2, .slice a6 (([] : List (List Tag)).length) c7), (3, .int .i64 (1))]) (cs := #[.slice a2 (([] : List File).length) c3, .slice a4 (([] : List Int).length) c5, .slice a6 (([] : List (List Tag)).length) c7, .int .i64 (1)]) ty52 pl52 rfl rfl)) (by decide) ?_
  refine Rg.en (e_store (v := .agg #[.slice a2 (([] : List File).length) c3, .slice a4 (([] : List Int).length) c5, .slice a6 (([] : List (List Tag)).length) c7, .int .i64 (1)]) (cs' := [.slice a2 (([] : List File).length) c3, .slice a4 (([] : List Int).length) c5, .slice a6 (([] : List (List Tag)).length) c7, .int .i64 (1)]) ty52 rfl rfl Upd.here.there.there.there rfl (by simp [Value.cells, Value.oneCell']) (Nat.le_of_ble_eq_true rfl) rfl) rfl ?_
  rintro _ _ _ ⟨rfl, rfl, rfl⟩
  refine Rg.nl ?_
  refine nT (?_)
  refine tRet ?_
  have hr := Option.some.inj H; subst hr
  exact back1 ((a2, c3), (a4, c5), (a6, c7), ()) rfl (ResV.agg ty52 rfl Has.here.there.there.there rfl) rfl Ents.nil (.cons Del.here.there.there (.cons Del.here.there (.cons Del.here .nil)))
def p_impl_DiskNew : Option (Disk) := some (([] : List File), ([] : List Int), ([] : List (List Tag)), 1)
theorem c_impl_DiskNew {r : Disk}  (H : p_impl_DiskNew = some r) : Fn' Try.prog 29 #[] [] [] (ι := (Option Addr × Nat) × (Option Addr × Nat) × (Option Addr × Nat) × Unit) (fun x => .agg #[.slice x.1.1 r.1.length x.1.2, .slice x.2.1.1 r.2.1.length x.2.1.2, .slice x.2.2.1.1 r.2.2.1.length x.2.2.1.2, .int .i64 (r.2.2.2)]) (fun _ => []) (fun x => [tree (.slice x.1.1 r.1.length x.1.2) r.1, tree (.slice x.2.1.1 r.2.1.length x.2.1.2) r.2.1, tree (.slice x.2.2.1.1 r.2.2.1.length x.2.2.1.2) r.2.2.1]) := by
  refine calls_of (args := []) Try.func29 rfl (by kernel_rfl) Try.ntmps29 (by simp) fun c => ?_
  unfold p_impl_DiskNew at H
  refine Tr.seq ?_
  refine Tr.region ?_
  refine Rg.ed (e_alloc ty52) rfl (by decide) ?_
  rintro _ _ _ ⟨g1, rfl, rfl, rfl⟩
  refine Rg.nl ?_
  refine nT (?_)
  refine Tr.seq ?_
  refine Tr.region ?_
  refine Rg.ed (e_lit0 File Try.underlying49 ty94) rfl (by decide) ?_
  rintro _ _ _ ⟨a2, c3, rfl, rfl, rfl⟩
  refine Rg.ed (e_lit0 Int Try.underlying23 ty3) rfl (by decide) ?_
  rintro _ _ _ ⟨a4, c5, rfl, rfl, rfl⟩
  refine Rg.ed (e_lit0 (List Tag) Try.underlying50 ty96) rfl (by decide) ?_
  rintro _ _ _ ⟨a6, c7, rfl, rfl, rfl⟩
  refine Rg.q (v := .agg #[.slice a2 (([] : List File).length) c3, .slice a4 (([] : List Int).length) c5, .slice a6 (([] : List (List Tag)).length) c7, .int .i64 (1)]) (Pu.qo (p_buildS (vs := [(0, .slice a2 (([] : List File).length) c3), (1, .slice a4 (([] : List Int).length) c5), (2, .slice a6 (([] : List (List Tag)).length) c7), (3, .int .i64 (1))]) (cs := #[.slice a2 (([] : List File).length) c3, .slice a4 (([] : List Int).length) c5, .slice a6 (([] : List (List Tag)).length) c7, .int .i64 (1)]) ty52 pl52 rfl rfl)) (by decide) ?_
  refine Rg.en (e_store (v := .agg #[.slice a2 (([] : List File).length) c3, .slice a4 (([] : List Int).length) c5, .slice a6 (([] : List (List Tag)).length) c7, .int .i64 (1)]) (cs' := [.slice a2 (([] : List File).length) c3, .slice a4 (([] : List Int).length) c5, .slice a6 (([] : List (List Tag)).length) c7, .int .i64 (1)]) ty52 rfl rfl Upd.here.there.there.there rfl (by simp [Value.cells, Value.oneCell']) (Nat.le_of_ble_eq_true rfl) rfl) rfl ?_
  rintro _ _ _ ⟨rfl, rfl, rfl⟩
  refine Rg.nl ?_
  refine nT (?_)
  refine tRet ?_
  have hr := Option.some.inj H; subst hr
  exact back1 ((a2, c3), (a4, c5), (a6, c7), ()) rfl (ResV.agg ty52 rfl Has.here.there.there.there rfl) rfl Ents.nil (.cons Del.here.there.there (.cons Del.here.there (.cons Del.here .nil)))
noncomputable def p_laws_eqFile (v0 : File) (v1 : File) : Option (Bool) := cond (!decide (v0.1 = v1.1)) (some false) (bd (p_laws_eqPart v0.2 v1.2) fun r6 => cond (!r6) (some false) (some true))
theorem c_laws_eqFile {r : Bool} (v0 : File) (x_v0 : Unit × ((Option Addr × Nat) × (Option Addr × Nat))) (v1 : File) (x_v1 : Unit × ((Option Addr × Nat) × (Option Addr × Nat))) (H : p_laws_eqFile v0 v1 = some r) : Fn' Try.prog 69 #[.agg #[.int .i64 (v0.1), .slice x_v0.2.1.1 v0.2.1.length x_v0.2.1.2, .slice x_v0.2.2.1 v0.2.2.length x_v0.2.2.2], .agg #[.int .i64 (v1.1), .slice x_v1.2.1.1 v1.2.1.length x_v1.2.1.2, .slice x_v1.2.2.1 v1.2.2.length x_v1.2.2.2]] [imm (.slice x_v0.2.1.1 v0.2.1.length x_v0.2.1.2) v0.2.1, imm (.slice x_v0.2.2.1 v0.2.2.length x_v0.2.2.2) v0.2.2, imm (.slice x_v1.2.1.1 v1.2.1.length x_v1.2.1.2) v1.2.1, imm (.slice x_v1.2.2.1 v1.2.2.length x_v1.2.2.2) v1.2.2] [] (ι := Unit) (fun x => .bool (r)) (fun _ => []) (fun x => []) := by
  refine calls_of (args := [_, _]) Try.func69 rfl (by kernel_rfl) Try.ntmps69 (by simp) fun c => ?_
  unfold p_laws_eqFile at H
  refine Tr.openD Ent.z.s fun X1 => ?_
  refine Tr.openD Ent.z.s.s.s.s fun X2 => ?_
  refine Tr.seq ?_
  refine Tr.region ?_
  refine Rg.ed (e_box (t := 94) (v := .agg #[.int .i64 (v0.1), .slice x_v0.2.1.1 v0.2.1.length x_v0.2.1.2, .slice x_v0.2.2.1 v0.2.2.length x_v0.2.2.2]) rfl) rfl (by decide) ?_
  rintro _ _ _ ⟨g3, rfl, rfl, rfl⟩
  refine Rg.ed (e_box (t := 94) (v := .agg #[.int .i64 (v1.1), .slice x_v1.2.1.1 v1.2.1.length x_v1.2.1.2, .slice x_v1.2.2.1 v1.2.2.length x_v1.2.2.2]) rfl) rfl (by decide) ?_
  rintro _ _ _ ⟨g4, rfl, rfl, rfl⟩
  refine Rg.q (v := .bool (false)) (Pu.qo (p_assign rfl)) (by decide) ?_
  refine Rg.nl ?_
  refine nT (?_)
  refine Tr.seq ?_
  refine Tr.seq ?_
  refine Tr.region ?_
  refine Rg.q (v := .pointer (some ⟨g3, 0, none⟩)) (Pu.qo (p_fabE fa94_0 rfl rfl)) (by decide) ?_
  refine Rg.q (v := .int .i64 (v0.1)) (q_ldb ty3 rfl Has.here.there rfl) (by decide) ?_
  refine Rg.q (v := .pointer (some ⟨g4, 0, none⟩)) (Pu.qo (p_fabE fa94_0 rfl rfl)) (by decide) ?_
  refine Rg.q (v := .int .i64 (v1.1)) (q_ldb ty3 rfl Has.here rfl) (by decide) ?_
  refine Rg.q (v := .bool (!decide (v0.1 = v1.1))) (Pu.qo (p_neq rfl rfl)) (by decide) ?_
  refine Rg.nl ?_
  refine nT (?_)
  refine Tr.cond (b := !decide (v0.1 = v1.1)) rfl (fun h5 => ?_) (fun h5 => ?_)
  · have H := cdT h5 H
    refine Tr.seq ?_
    refine Tr.region ?_
    refine Rg.q (v := .bool (false)) (Pu.qo (p_assign rfl)) (by decide) ?_
    refine Rg.nl ?_
    refine nT (?_)
    refine tRet ?_
    refine rT (?_)
    have hr := Option.some.inj H; subst hr
    exact back1 () rfl (ResV.tmp (v := .bool (false)) rfl) rfl Ents.nil Take.nil
  · have H := cdF h5 H
    refine tSkip ?_
    refine nT (?_)
    refine Tr.seq ?_
    refine Tr.seq ?_
    refine Tr.region ?_
    refine Rg.q (v := .pointer (some ⟨g3, 1, none⟩)) (Pu.qo (p_fabE fa94_1 rfl rfl)) (by decide) ?_
    refine Rg.q (v := .agg #[.slice x_v0.2.1.1 v0.2.1.length x_v0.2.1.2, .slice x_v0.2.2.1 v0.2.2.length x_v0.2.2.2]) (q_ldbP [.slice x_v0.2.1.1 v0.2.1.length x_v0.2.1.2, .slice x_v0.2.2.1 v0.2.2.length x_v0.2.2.2] ty26 rfl Has.here.there rfl rfl) (by decide) ?_
    refine Rg.q (v := .pointer (some ⟨g4, 1, none⟩)) (Pu.qo (p_fabE fa94_1 rfl rfl)) (by decide) ?_
    refine Rg.q (v := .agg #[.slice x_v1.2.1.1 v1.2.1.length x_v1.2.1.2, .slice x_v1.2.2.1 v1.2.2.length x_v1.2.2.2]) (q_ldbP [.slice x_v1.2.1.1 v1.2.1.length x_v1.2.1.2, .slice x_v1.2.2.1 v1.2.2.length x_v1.2.2.2] ty26 rfl Has.here rfl rfl) (by decide) ?_
    obtain ⟨r6, h7, H⟩ := bd.of H
    refine Rg.q (v := .bool (r6)) (q_call (vs := [.agg #[.slice x_v0.2.1.1 v0.2.1.length x_v0.2.1.2, .slice x_v0.2.2.1 v0.2.2.length x_v0.2.2.2], .agg #[.slice x_v1.2.1.1 v1.2.1.length x_v1.2.1.2, .slice x_v1.2.2.1 v1.2.2.length x_v1.2.2.2]]) (c_laws_eqPart v0.2 x_v0.2 v1.2 x_v1.2 h7) rfl (EntsB.cons (Ent.b Ent.z.s.s) (EntsB.cons (Ent.b (Ent.dimm Ent.z.s)) (EntsB.cons (Ent.b Ent.z.s.s.s.s) (EntsB.cons (Ent.b (Ent.dimm Ent.z)) EntsB.nil))))) (by decide) ?_
    refine Rg.q (v := .bool (!r6)) (Pu.qo (p_not rfl)) (by decide) ?_
    refine Rg.nl ?_
    refine nT (?_)
    refine Tr.cond (b := !r6) rfl (fun h8 => ?_) (fun h8 => ?_)
    · have H := cdT h8 H
      refine Tr.seq ?_
      refine Tr.region ?_
      refine Rg.q (v := .bool (false)) (Pu.qo (p_assign rfl)) (by decide) ?_
      refine Rg.nl ?_
      refine nT (?_)
      refine tRet ?_
      refine rT (?_)
      have hr := Option.some.inj H; subst hr
      exact back1 () rfl (ResV.tmp (v := .bool (false)) rfl) rfl Ents.nil Take.nil
    · have H := cdF h8 H
      refine tSkip ?_
      refine nT (?_)
      refine Tr.seq ?_
      refine Tr.region ?_
      refine Rg.q (v := .bool (true)) (Pu.qo (p_assign rfl)) (by decide) ?_
      refine Rg.nl ?_
      refine nT (?_)
      refine tRet ?_
      have hr := Option.some.inj H; subst hr
      exact back1 () rfl (ResV.tmp (v := .bool (true)) rfl) rfl Ents.nil Take.nil
noncomputable def p_laws_eqFileS_b0 (v0 : (List File)) (v1 : (List File)) (σ8 : Int) : Option ((Int) ⊕ (Unit ⊕ Bool)) := cond (decide (σ8 < (v0.length : Int))) (gd (ix σ8 v0.length) <| gd (ix σ8 v1.length) <| bd (p_laws_eqFile (nth v0 σ8.toNat) (nth v1 σ8.toNat)) fun r19 => cond (!r19) (some (.inr (.inr false))) (gd (I64 (σ8 + 1)) <| some (.inl (σ8 + 1)))) (some (.inr (.inl ())))
noncomputable def p_laws_eqFileS (v0 : (List File)) (v1 : (List File)) : Option (Bool) := cond (!decide ((v0.length : Int) = (v1.length : Int))) (some false) (bd (lp (p_laws_eqFileS_b0 v0 v1) 0) <| sw (fun e23 => some true) (fun q => some q))
theorem c_laws_eqFileS {r : Bool} (v0 : (List File)) (x_v0 : Option Addr × Nat) (v1 : (List File)) (x_v1 : Option Addr × Nat) (H : p_laws_eqFileS v0 v1 = some r) : Fn' Try.prog 55 #[.slice x_v0.1 v0.length x_v0.2, .slice x_v1.1 v1.length x_v1.2] [imm (.slice x_v0.1 v0.length x_v0.2) v0, imm (.slice x_v1.1 v1.length x_v1.2) v1] [] (ι := Unit) (fun x => .bool (r)) (fun _ => []) (fun x => []) := by
  refine calls_of (args := [_, _]) Try.func55 rfl (by kernel_rfl) Try.ntmps55 (by simp) fun c => ?_
  unfold p_laws_eqFileS at H
  refine Tr.openD Ent.z fun X1 => ?_
  refine Tr.openD Ent.z.s.s fun X2 => ?_
  refine Tr.seq ?_
  refine Tr.region ?_
  refine Rg.q (v := .bool (false)) (Pu.qo (p_assign rfl)) (by decide) ?_
  refine Rg.nl ?_
  refine nT (?_)
  refine Tr.seq ?_
  refine Tr.seq ?_
  refine Tr.region ?_
  refine Rg.q (v := .slice x_v0.1 v0.length x_v0.2) (Pu.qo (p_move rfl)) (by decide) ?_
  refine Rg.q (v := .int .i64 ((v0.length : Int))) (Pu.qo (p_len 94 Try.underlying49 rfl)) (by decide) ?_
  refine Rg.q (v := .slice x_v1.1 v1.length x_v1.2) (Pu.qo (p_move rfl)) (by decide) ?_
  refine Rg.q (v := .int .i64 ((v1.length : Int))) (Pu.qo (p_len 94 Try.underlying49 rfl)) (by decide) ?_
  refine Rg.q (v := .bool (!decide ((v0.length : Int) = (v1.length : Int)))) (Pu.qo (p_neq rfl rfl)) (by decide) ?_
  refine Rg.nl ?_
  refine nT (?_)
  refine Tr.cond (b := !decide ((v0.length : Int) = (v1.length : Int))) rfl (fun h3 => ?_) (fun h3 => ?_)
  · have H := cdT h3 H
    refine Tr.seq ?_
    refine Tr.region ?_
    refine Rg.q (v := .bool (false)) (Pu.qo (p_assign rfl)) (by decide) ?_
    refine Rg.nl ?_
    refine nT (?_)
    refine tRet ?_
    refine rT (?_)
    have hr := Option.some.inj H; subst hr
    exact back1 () rfl (ResV.tmp (v := .bool (false)) rfl) rfl Ents.nil Take.nil
  · have H := cdF h3 H
    refine tSkip ?_
    refine nT (?_)
    refine Tr.seq ?_
    refine Tr.seq ?_
    refine Tr.region ?_
    refine Rg.q (v := .int .i64 (0)) (Pu.qo (p_assign rfl)) (by decide) ?_
    refine Rg.nl ?_
    refine nT (?_)
    obtain ⟨x4, hx5, H⟩ := bd.of H
    obtain ⟨n6, hx5⟩ := lp.of hx5
    refine tMidNC (ι := { q : (Unit) × Unit // x4 = .inl q.1 }) (fun ψ => []) (fun ψ => []) ?_ ?_
    · refine Tr.block ?_
      refine tLoopC (ι := { q : Nat × (Int) × Unit // itr (p_laws_eqFileS_b0 v0 v1) q.1 q.2.1 = some x4 }) (fun ζ => [(0, .slice x_v0.1 v0.length x_v0.2), (1, .slice x_v1.1 v1.length x_v1.2), (5, .int .i64 (ζ.1.2.1))]) (fun ζ => []) (fun ζ => ζ.1.1) ⟨(n6, 0, ()), hx5⟩ ⟨rfl, rfl, rfl, trivial⟩ Take.nil ?_
      rintro ⟨⟨m7, σ8, z9⟩, hk14⟩
      obtain ⟨m15, t11, e, H1, hi12, hb13⟩ := itr.of (n := m7) (s := σ8) hk14
      subst e; unfold p_laws_eqFileS_b0 at H1
      show Tr _ _ _ _ _ [(0, .slice x_v0.1 v0.length x_v0.2), (1, .slice x_v1.1 v1.length x_v1.2), (5, .int .i64 (σ8))] _ []
      refine Tr.seq ?_
      refine Tr.seq ?_
      refine Tr.region ?_
      refine Rg.q (v := .int .i64 (σ8)) (Pu.qo (p_move rfl)) (by decide) ?_
      refine Rg.q (v := .slice x_v0.1 v0.length x_v0.2) (Pu.qo (p_move rfl)) (by decide) ?_
      refine Rg.q (v := .int .i64 ((v0.length : Int))) (Pu.qo (p_len 94 Try.underlying49 rfl)) (by decide) ?_
      refine Rg.q (v := .bool (decide (σ8 < (v0.length : Int)))) (Pu.qo (p_lss rfl rfl)) (by decide) ?_
      refine Rg.nl ?_
      refine nT (?_)
      refine Tr.cond (b := decide (σ8 < (v0.length : Int))) rfl (fun h16 => ?_) (fun h16 => ?_)
      · have H1 := cdT h16 H1
        refine tSkip ?_
        refine nT (?_)
        refine Tr.seq ?_
        refine Tr.block ?_
        refine Tr.seq ?_
        refine tLinS [(0, .slice x_v0.1 v0.length x_v0.2), (1, .slice x_v1.1 v1.length x_v1.2), (5, .int .i64 (σ8))] Try.mixed (.inr (by kernel_rfl)) ⟨rfl, rfl, rfl, trivial⟩ rfl ?_
        refine Lin.q (v := .slice x_v0.1 v0.length x_v0.2) (by decide) (Pu.qo (p_move rfl)) ?_
        refine Lin.q (v := .int .i64 (σ8)) (by decide) (Pu.qo (p_move rfl)) ?_
        obtain ⟨h17, H1⟩ := gd.of H1
        refine Lin.q (v := elp x_v0.1 (σ8.toNat * Enc.sz File + 0)) (by decide) (q_ixg (l := v0) (E := fun i => Dp.denc (nth v0 i) (X1 i)) (oa := x_v0.1) Try.underlying49 ty94 rfl rfl h17 rfl (Ent.b (Ent.darr Ent.z.s))) ?_
        refine Lin.q (v := .agg #[.int .i64 ((nth v0 σ8.toNat).1), .slice ((((X1 σ8.toNat).2).1).1) ((((nth v0 σ8.toNat).2).1).length) ((((X1 σ8.toNat).2).1).2.1), .slice ((((X1 σ8.toNat).2).2).1) ((((nth v0 σ8.toNat).2).2).length) ((((X1 σ8.toNat).2).2).2.1)]) (by decide) (q_ldeA (l := v0) (E := fun i => Dp.denc (nth v0 i) (X1 i)) (oa := x_v0.1) (i := σ8.toNat) ty94 rfl (Ent.b (Ent.darr Ent.z.s)) h17.lt) ?_
        refine Lin.q (v := .slice x_v1.1 v1.length x_v1.2) (by decide) (Pu.qo (p_move rfl)) ?_
        refine Lin.q (v := .int .i64 (σ8)) (by decide) (Pu.qo (p_move rfl)) ?_
        obtain ⟨h18, H1⟩ := gd.of H1
        refine Lin.q (v := elp x_v1.1 (σ8.toNat * Enc.sz File + 0)) (by decide) (q_ixg (l := v1) (E := fun i => Dp.denc (nth v1 i) (X2 i)) (oa := x_v1.1) Try.underlying49 ty94 rfl rfl h18 rfl (Ent.b (Ent.darr Ent.z))) ?_
        refine Lin.q (v := .agg #[.int .i64 ((nth v1 σ8.toNat).1), .slice ((((X2 σ8.toNat).2).1).1) ((((nth v1 σ8.toNat).2).1).length) ((((X2 σ8.toNat).2).1).2.1), .slice ((((X2 σ8.toNat).2).2).1) ((((nth v1 σ8.toNat).2).2).length) ((((X2 σ8.toNat).2).2).2.1)]) (by decide) (q_ldeA (l := v1) (E := fun i => Dp.denc (nth v1 i) (X2 i)) (oa := x_v1.1) (i := σ8.toNat) ty94 rfl (Ent.b (Ent.darr Ent.z)) h18.lt) ?_
        obtain ⟨r19, h20, H1⟩ := bd.of H1
        refine Lin.q (v := .bool (r19)) (by decide) (q_call (vs := [.agg #[.int .i64 ((nth v0 σ8.toNat).1), .slice ((((X1 σ8.toNat).2).1).1) ((((nth v0 σ8.toNat).2).1).length) ((((X1 σ8.toNat).2).1).2.1), .slice ((((X1 σ8.toNat).2).2).1) ((((nth v0 σ8.toNat).2).2).length) ((((X1 σ8.toNat).2).2).2.1)], .agg #[.int .i64 ((nth v1 σ8.toNat).1), .slice ((((X2 σ8.toNat).2).1).1) ((((nth v1 σ8.toNat).2).1).length) ((((X2 σ8.toNat).2).1).2.1), .slice ((((X2 σ8.toNat).2).2).1) ((((nth v1 σ8.toNat).2).2).length) ((((X2 σ8.toNat).2).2).2.1)]]) (c_laws_eqFile (nth v0 σ8.toNat) ((), (((((X1 σ8.toNat).2).1).1, (((X1 σ8.toNat).2).1).2.1), ((((X1 σ8.toNat).2).2).1, (((X1 σ8.toNat).2).2).2.1))) (nth v1 σ8.toNat) ((), (((((X2 σ8.toNat).2).1).1, (((X2 σ8.toNat).2).1).2.1), ((((X2 σ8.toNat).2).2).1, (((X2 σ8.toNat).2).2).2.1))) h20) rfl (EntsB.cons (Ent.b (Ent.dimm (Ent.dfst (Ent.dsnd (Ent.del Ent.z.s h17.lt))))) (EntsB.cons (Ent.b (Ent.dimm (Ent.dsnd (Ent.dsnd (Ent.del Ent.z.s h17.lt))))) (EntsB.cons (Ent.b (Ent.dimm (Ent.dfst (Ent.dsnd (Ent.del Ent.z h18.lt))))) (EntsB.cons (Ent.b (Ent.dimm (Ent.dsnd (Ent.dsnd (Ent.del Ent.z h18.lt))))) EntsB.nil))))) ?_
        refine Lin.q (v := .bool (!r19)) (by decide) (Pu.qo (p_not rfl)) ?_
        show At _ _ _ _ _ _
        refine nT (?_)
        refine Tr.cond (b := !r19) rfl (fun h21 => ?_) (fun h21 => ?_)
        · have H1 := cdT h21 H1
          refine Tr.seq ?_
          refine Tr.region ?_
          refine Rg.q (v := .bool (false)) (Pu.qo (p_assign rfl)) (by decide) ?_
          refine Rg.nl ?_
          refine nT (?_)
          refine tRet ?_
          refine rB (rT (rT (rB (rT (rT (?_))))))
          have hx := hb13 _ (Option.some.inj H1).symm; subst hx
          replace H := sw.r H
          have hr := Option.some.inj H; subst hr
          exact back1 () rfl (ResV.tmp (v := .bool (false)) rfl) rfl Ents.nil Take.nil
        · have H1 := cdF h21 H1
          refine tSkip ?_
          refine nB (nT (?_))
          refine Tr.region ?_
          refine Rg.q (v := .int .i64 (σ8)) (Pu.qo (p_move rfl)) (by decide) ?_
          obtain ⟨h22, H1⟩ := gd.of H1
          refine Rg.q (v := .int .i64 (σ8 + 1)) (Pu.qo (p_add rfl rfl h22)) (by decide) ?_
          refine Rg.q (v := .int .i64 (σ8 + 1)) (Pu.qo (p_assign rfl)) (by decide) ?_
          refine Rg.nl ?_
          exact nLC ⟨(m15, σ8 + 1, ()), hi12 _ (Option.some.inj H1).symm⟩ (Nat.lt_succ_self _) ⟨rfl, rfl, rfl, trivial⟩ Ents.refl Take.nil
      · have H1 := cdF h16 H1
        refine tExit (xT (xT (xE (?_))))
        exact nMC ⟨((), ()), (hb13 _ (Option.some.inj H1).symm).symm⟩ trivial Ents.refl Take.nil
    · rintro ⟨⟨e23, y10⟩, hx⟩; subst hx; replace H := sw.l H
      show At _ _ [] _ [] _
      refine nT (?_)
      refine Tr.seq ?_
      refine Tr.region ?_
      refine Rg.q (v := .bool (true)) (Pu.qo (p_assign rfl)) (by decide) ?_
      refine Rg.nl ?_
      refine nT (?_)
      refine tRet ?_
      have hr := Option.some.inj H; subst hr
      exact back1 () rfl (ResV.tmp (v := .bool (true)) rfl) rfl Ents.nil Take.nil
def p_laws_eqTag (v0 : Tag) (v1 : Tag) : Option (Bool) := cond (!decide (v0.1 = v1.1)) (some false) (cond (!decide (v0.2 = v1.2)) (some false) (some true))
theorem c_laws_eqTag {r : Bool} (v0 : Tag) (v1 : Tag) (H : p_laws_eqTag v0 v1 = some r) : Fn' Try.prog 76 #[.agg #[.string (v0.1), .string (v0.2)], .agg #[.string (v1.1), .string (v1.2)]] [] [] (ι := Unit) (fun x => .bool (r)) (fun _ => []) (fun x => []) := by
  refine calls_of (args := [_, _]) Try.func76 rfl (by kernel_rfl) Try.ntmps76 (by simp) fun c => ?_
  unfold p_laws_eqTag at H
  refine Tr.seq ?_
  refine Tr.region ?_
  refine Rg.ed (e_box (t := 102) (v := .agg #[.string (v0.1), .string (v0.2)]) rfl) rfl (by decide) ?_
  rintro _ _ _ ⟨g1, rfl, rfl, rfl⟩
  refine Rg.ed (e_box (t := 102) (v := .agg #[.string (v1.1), .string (v1.2)]) rfl) rfl (by decide) ?_
  rintro _ _ _ ⟨g2, rfl, rfl, rfl⟩
  refine Rg.q (v := .bool (false)) (Pu.qo (p_assign rfl)) (by decide) ?_
  refine Rg.nl ?_
  refine nT (?_)
  refine Tr.seq ?_
  refine Tr.seq ?_
  refine Tr.region ?_
  refine Rg.q (v := .pointer (some ⟨g1, 0, none⟩)) (Pu.qo (p_fabE fa102_0 rfl rfl)) (by decide) ?_
  refine Rg.q (v := .string (v0.1)) (q_ldb ty9 rfl Has.here.there rfl) (by decide) ?_
  refine Rg.q (v := .pointer (some ⟨g2, 0, none⟩)) (Pu.qo (p_fabE fa102_0 rfl rfl)) (by decide) ?_
  refine Rg.q (v := .string (v1.1)) (q_ldb ty9 rfl Has.here rfl) (by decide) ?_
  refine Rg.q (v := .bool (!decide (v0.1 = v1.1))) (Pu.qo (p_sneq rfl rfl)) (by decide) ?_
  refine Rg.nl ?_
  refine nT (?_)
  refine Tr.cond (b := !decide (v0.1 = v1.1)) rfl (fun h3 => ?_) (fun h3 => ?_)
  · have H := cdT h3 H
    refine Tr.seq ?_
    refine Tr.region ?_
    refine Rg.q (v := .bool (false)) (Pu.qo (p_assign rfl)) (by decide) ?_
    refine Rg.nl ?_
    refine nT (?_)
    refine tRet ?_
    refine rT (?_)
    have hr := Option.some.inj H; subst hr
    exact back1 () rfl (ResV.tmp (v := .bool (false)) rfl) rfl Ents.nil Take.nil
  · have H := cdF h3 H
    refine tSkip ?_
    refine nT (?_)
    refine Tr.seq ?_
    refine Tr.seq ?_
    refine Tr.region ?_
    refine Rg.q (v := .pointer (some ⟨g1, 1, none⟩)) (Pu.qo (p_fabE fa102_1 rfl rfl)) (by decide) ?_
    refine Rg.q (v := .string (v0.2)) (q_ldb ty9 rfl Has.here.there rfl) (by decide) ?_
    refine Rg.q (v := .pointer (some ⟨g2, 1, none⟩)) (Pu.qo (p_fabE fa102_1 rfl rfl)) (by decide) ?_
    refine Rg.q (v := .string (v1.2)) (q_ldb ty9 rfl Has.here rfl) (by decide) ?_
    refine Rg.q (v := .bool (!decide (v0.2 = v1.2))) (Pu.qo (p_sneq rfl rfl)) (by decide) ?_
    refine Rg.nl ?_
    refine nT (?_)
    refine Tr.cond (b := !decide (v0.2 = v1.2)) rfl (fun h4 => ?_) (fun h4 => ?_)
    · have H := cdT h4 H
      refine Tr.seq ?_
      refine Tr.region ?_
      refine Rg.q (v := .bool (false)) (Pu.qo (p_assign rfl)) (by decide) ?_
      refine Rg.nl ?_
      refine nT (?_)
      refine tRet ?_
      refine rT (?_)
      have hr := Option.some.inj H; subst hr
      exact back1 () rfl (ResV.tmp (v := .bool (false)) rfl) rfl Ents.nil Take.nil
    · have H := cdF h4 H
      refine tSkip ?_
      refine nT (?_)
      refine Tr.seq ?_
      refine Tr.region ?_
      refine Rg.q (v := .bool (true)) (Pu.qo (p_assign rfl)) (by decide) ?_
      refine Rg.nl ?_
      refine nT (?_)
      refine tRet ?_
      have hr := Option.some.inj H; subst hr
      exact back1 () rfl (ResV.tmp (v := .bool (true)) rfl) rfl Ents.nil Take.nil
noncomputable def p_laws_eqTagS_b0 (v0 : (List Tag)) (v1 : (List Tag)) (σ6 : Int) : Option ((Int) ⊕ (Unit ⊕ Bool)) := cond (decide (σ6 < (v0.length : Int))) (gd (ix σ6 v0.length) <| gd (ix σ6 v1.length) <| bd (p_laws_eqTag (nth v0 σ6.toNat) (nth v1 σ6.toNat)) fun r17 => cond (!r17) (some (.inr (.inr false))) (gd (I64 (σ6 + 1)) <| some (.inl (σ6 + 1)))) (some (.inr (.inl ())))
noncomputable def p_laws_eqTagS (v0 : (List Tag)) (v1 : (List Tag)) : Option (Bool) := cond (!decide ((v0.length : Int) = (v1.length : Int))) (some false) (bd (lp (p_laws_eqTagS_b0 v0 v1) 0) <| sw (fun e21 => some true) (fun q => some q))
theorem c_laws_eqTagS {r : Bool} (v0 : (List Tag)) (x_v0 : Option Addr × Nat) (v1 : (List Tag)) (x_v1 : Option Addr × Nat) (H : p_laws_eqTagS v0 v1 = some r) : Fn' Try.prog 70 #[.slice x_v0.1 v0.length x_v0.2, .slice x_v1.1 v1.length x_v1.2] [imm (.slice x_v0.1 v0.length x_v0.2) v0, imm (.slice x_v1.1 v1.length x_v1.2) v1] [] (ι := Unit) (fun x => .bool (r)) (fun _ => []) (fun x => []) := by
  refine calls_of (args := [_, _]) Try.func70 rfl (by kernel_rfl) Try.ntmps70 (by simp) fun c => ?_
  unfold p_laws_eqTagS at H
  refine Tr.seq ?_
  refine Tr.region ?_
  refine Rg.q (v := .bool (false)) (Pu.qo (p_assign rfl)) (by decide) ?_
  refine Rg.nl ?_
  refine nT (?_)
  refine Tr.seq ?_
  refine Tr.seq ?_
  refine Tr.region ?_
  refine Rg.q (v := .slice x_v0.1 v0.length x_v0.2) (Pu.qo (p_move rfl)) (by decide) ?_
  refine Rg.q (v := .int .i64 ((v0.length : Int))) (Pu.qo (p_len 102 Try.underlying96 rfl)) (by decide) ?_
  refine Rg.q (v := .slice x_v1.1 v1.length x_v1.2) (Pu.qo (p_move rfl)) (by decide) ?_
  refine Rg.q (v := .int .i64 ((v1.length : Int))) (Pu.qo (p_len 102 Try.underlying96 rfl)) (by decide) ?_
  refine Rg.q (v := .bool (!decide ((v0.length : Int) = (v1.length : Int)))) (Pu.qo (p_neq rfl rfl)) (by decide) ?_
  refine Rg.nl ?_
  refine nT (?_)
  refine Tr.cond (b := !decide ((v0.length : Int) = (v1.length : Int))) rfl (fun h1 => ?_) (fun h1 => ?_)
  · have H := cdT h1 H
    refine Tr.seq ?_
    refine Tr.region ?_
    refine Rg.q (v := .bool (false)) (Pu.qo (p_assign rfl)) (by decide) ?_
    refine Rg.nl ?_
    refine nT (?_)
    refine tRet ?_
    refine rT (?_)
    have hr := Option.some.inj H; subst hr
    exact back1 () rfl (ResV.tmp (v := .bool (false)) rfl) rfl Ents.nil Take.nil
  · have H := cdF h1 H
    refine tSkip ?_
    refine nT (?_)
    refine Tr.seq ?_
    refine Tr.seq ?_
    refine Tr.region ?_
    refine Rg.q (v := .int .i64 (0)) (Pu.qo (p_assign rfl)) (by decide) ?_
    refine Rg.nl ?_
    refine nT (?_)
    obtain ⟨x2, hx3, H⟩ := bd.of H
    obtain ⟨n4, hx3⟩ := lp.of hx3
    refine tMidNC (ι := { q : (Unit) × Unit // x2 = .inl q.1 }) (fun ψ => []) (fun ψ => []) ?_ ?_
    · refine Tr.block ?_
      refine tLoopC (ι := { q : Nat × (Int) × Unit // itr (p_laws_eqTagS_b0 v0 v1) q.1 q.2.1 = some x2 }) (fun ζ => [(0, .slice x_v0.1 v0.length x_v0.2), (1, .slice x_v1.1 v1.length x_v1.2), (5, .int .i64 (ζ.1.2.1))]) (fun ζ => []) (fun ζ => ζ.1.1) ⟨(n4, 0, ()), hx3⟩ ⟨rfl, rfl, rfl, trivial⟩ Take.nil ?_
      rintro ⟨⟨m5, σ6, z7⟩, hk12⟩
      obtain ⟨m13, t9, e, H1, hi10, hb11⟩ := itr.of (n := m5) (s := σ6) hk12
      subst e; unfold p_laws_eqTagS_b0 at H1
      show Tr _ _ _ _ _ [(0, .slice x_v0.1 v0.length x_v0.2), (1, .slice x_v1.1 v1.length x_v1.2), (5, .int .i64 (σ6))] _ []
      refine Tr.seq ?_
      refine Tr.seq ?_
      refine Tr.region ?_
      refine Rg.q (v := .int .i64 (σ6)) (Pu.qo (p_move rfl)) (by decide) ?_
      refine Rg.q (v := .slice x_v0.1 v0.length x_v0.2) (Pu.qo (p_move rfl)) (by decide) ?_
      refine Rg.q (v := .int .i64 ((v0.length : Int))) (Pu.qo (p_len 102 Try.underlying96 rfl)) (by decide) ?_
      refine Rg.q (v := .bool (decide (σ6 < (v0.length : Int)))) (Pu.qo (p_lss rfl rfl)) (by decide) ?_
      refine Rg.nl ?_
      refine nT (?_)
      refine Tr.cond (b := decide (σ6 < (v0.length : Int))) rfl (fun h14 => ?_) (fun h14 => ?_)
      · have H1 := cdT h14 H1
        refine tSkip ?_
        refine nT (?_)
        refine Tr.seq ?_
        refine Tr.block ?_
        refine Tr.seq ?_
        refine tLinS [(0, .slice x_v0.1 v0.length x_v0.2), (1, .slice x_v1.1 v1.length x_v1.2), (5, .int .i64 (σ6))] Try.mixed (.inr (by kernel_rfl)) ⟨rfl, rfl, rfl, trivial⟩ rfl ?_
        refine Lin.q (v := .slice x_v0.1 v0.length x_v0.2) (by decide) (Pu.qo (p_move rfl)) ?_
        refine Lin.q (v := .int .i64 (σ6)) (by decide) (Pu.qo (p_move rfl)) ?_
        obtain ⟨h15, H1⟩ := gd.of H1
        refine Lin.q (v := elp x_v0.1 (σ6.toNat * Enc.sz Tag + 0)) (by decide) (q_ixg (l := v0) (E := fun i => Flat.enc (nth v0 i)) (oa := x_v0.1) Try.underlying96 ty102 rfl rfl h15 rfl (EntB.flat (Ent.b Ent.z))) ?_
        refine Lin.q (v := .agg #[.string ((nth v0 σ6.toNat).1), .string ((nth v0 σ6.toNat).2)]) (by decide) (q_ldeA (l := v0) (E := fun i => Flat.enc (nth v0 i)) (oa := x_v0.1) (i := σ6.toNat) ty102 rfl (EntB.flat (Ent.b Ent.z)) h15.lt) ?_
        refine Lin.q (v := .slice x_v1.1 v1.length x_v1.2) (by decide) (Pu.qo (p_move rfl)) ?_
        refine Lin.q (v := .int .i64 (σ6)) (by decide) (Pu.qo (p_move rfl)) ?_
        obtain ⟨h16, H1⟩ := gd.of H1
        refine Lin.q (v := elp x_v1.1 (σ6.toNat * Enc.sz Tag + 0)) (by decide) (q_ixg (l := v1) (E := fun i => Flat.enc (nth v1 i)) (oa := x_v1.1) Try.underlying96 ty102 rfl rfl h16 rfl (EntB.flat (Ent.b Ent.z.s))) ?_
        refine Lin.q (v := .agg #[.string ((nth v1 σ6.toNat).1), .string ((nth v1 σ6.toNat).2)]) (by decide) (q_ldeA (l := v1) (E := fun i => Flat.enc (nth v1 i)) (oa := x_v1.1) (i := σ6.toNat) ty102 rfl (EntB.flat (Ent.b Ent.z.s)) h16.lt) ?_
        obtain ⟨r17, h18, H1⟩ := bd.of H1
        refine Lin.q (v := .bool (r17)) (by decide) (q_call (vs := [.agg #[.string ((nth v0 σ6.toNat).1), .string ((nth v0 σ6.toNat).2)], .agg #[.string ((nth v1 σ6.toNat).1), .string ((nth v1 σ6.toNat).2)]]) (c_laws_eqTag (nth v0 σ6.toNat) (nth v1 σ6.toNat) h18) rfl EntsB.nil) ?_
        refine Lin.q (v := .bool (!r17)) (by decide) (Pu.qo (p_not rfl)) ?_
        show At _ _ _ _ _ _
        refine nT (?_)
        refine Tr.cond (b := !r17) rfl (fun h19 => ?_) (fun h19 => ?_)
        · have H1 := cdT h19 H1
          refine Tr.seq ?_
          refine Tr.region ?_
          refine Rg.q (v := .bool (false)) (Pu.qo (p_assign rfl)) (by decide) ?_
          refine Rg.nl ?_
          refine nT (?_)
          refine tRet ?_
          refine rB (rT (rT (rB (rT (rT (?_))))))
          have hx := hb11 _ (Option.some.inj H1).symm; subst hx
          replace H := sw.r H
          have hr := Option.some.inj H; subst hr
          exact back1 () rfl (ResV.tmp (v := .bool (false)) rfl) rfl Ents.nil Take.nil
        · have H1 := cdF h19 H1
          refine tSkip ?_
          refine nB (nT (?_))
          refine Tr.region ?_
          refine Rg.q (v := .int .i64 (σ6)) (Pu.qo (p_move rfl)) (by decide) ?_
          obtain ⟨h20, H1⟩ := gd.of H1
          refine Rg.q (v := .int .i64 (σ6 + 1)) (Pu.qo (p_add rfl rfl h20)) (by decide) ?_
          refine Rg.q (v := .int .i64 (σ6 + 1)) (Pu.qo (p_assign rfl)) (by decide) ?_
          refine Rg.nl ?_
          exact nLC ⟨(m13, σ6 + 1, ()), hi10 _ (Option.some.inj H1).symm⟩ (Nat.lt_succ_self _) ⟨rfl, rfl, rfl, trivial⟩ Ents.refl Take.nil
      · have H1 := cdF h14 H1
        refine tExit (xT (xT (xE (?_))))
        exact nMC ⟨((), ()), (hb11 _ (Option.some.inj H1).symm).symm⟩ trivial Ents.refl Take.nil
    · rintro ⟨⟨e21, y8⟩, hx⟩; subst hx; replace H := sw.l H
      show At _ _ [] _ [] _
      refine nT (?_)
      refine Tr.seq ?_
      refine Tr.region ?_
      refine Rg.q (v := .bool (true)) (Pu.qo (p_assign rfl)) (by decide) ?_
      refine Rg.nl ?_
      refine nT (?_)
      refine tRet ?_
      have hr := Option.some.inj H; subst hr
      exact back1 () rfl (ResV.tmp (v := .bool (true)) rfl) rfl Ents.nil Take.nil
noncomputable def p_laws_eqTagSS_b0 (v0 : (List (List Tag))) (v1 : (List (List Tag))) (σ8 : Int) : Option ((Int) ⊕ (Unit ⊕ Bool)) := cond (decide (σ8 < (v0.length : Int))) (gd (ix σ8 v0.length) <| gd (ix σ8 v1.length) <| bd (p_laws_eqTagS (nth v0 σ8.toNat) (nth v1 σ8.toNat)) fun r19 => cond (!r19) (some (.inr (.inr false))) (gd (I64 (σ8 + 1)) <| some (.inl (σ8 + 1)))) (some (.inr (.inl ())))
noncomputable def p_laws_eqTagSS (v0 : (List (List Tag))) (v1 : (List (List Tag))) : Option (Bool) := cond (!decide ((v0.length : Int) = (v1.length : Int))) (some false) (bd (lp (p_laws_eqTagSS_b0 v0 v1) 0) <| sw (fun e23 => some true) (fun q => some q))
theorem c_laws_eqTagSS {r : Bool} (v0 : (List (List Tag))) (x_v0 : Option Addr × Nat) (v1 : (List (List Tag))) (x_v1 : Option Addr × Nat) (H : p_laws_eqTagSS v0 v1 = some r) : Fn' Try.prog 56 #[.slice x_v0.1 v0.length x_v0.2, .slice x_v1.1 v1.length x_v1.2] [imm (.slice x_v0.1 v0.length x_v0.2) v0, imm (.slice x_v1.1 v1.length x_v1.2) v1] [] (ι := Unit) (fun x => .bool (r)) (fun _ => []) (fun x => []) := by
  refine calls_of (args := [_, _]) Try.func56 rfl (by kernel_rfl) Try.ntmps56 (by simp) fun c => ?_
  unfold p_laws_eqTagSS at H
  refine Tr.openD Ent.z fun X1 => ?_
  refine Tr.openD Ent.z.s.s fun X2 => ?_
  refine Tr.seq ?_
  refine Tr.region ?_
  refine Rg.q (v := .bool (false)) (Pu.qo (p_assign rfl)) (by decide) ?_
  refine Rg.nl ?_
  refine nT (?_)
  refine Tr.seq ?_
  refine Tr.seq ?_
  refine Tr.region ?_
  refine Rg.q (v := .slice x_v0.1 v0.length x_v0.2) (Pu.qo (p_move rfl)) (by decide) ?_
  refine Rg.q (v := .int .i64 ((v0.length : Int))) (Pu.qo (p_len 96 Try.underlying50 rfl)) (by decide) ?_
  refine Rg.q (v := .slice x_v1.1 v1.length x_v1.2) (Pu.qo (p_move rfl)) (by decide) ?_
  refine Rg.q (v := .int .i64 ((v1.length : Int))) (Pu.qo (p_len 96 Try.underlying50 rfl)) (by decide) ?_
  refine Rg.q (v := .bool (!decide ((v0.length : Int) = (v1.length : Int)))) (Pu.qo (p_neq rfl rfl)) (by decide) ?_
  refine Rg.nl ?_
  refine nT (?_)
  refine Tr.cond (b := !decide ((v0.length : Int) = (v1.length : Int))) rfl (fun h3 => ?_) (fun h3 => ?_)
  · have H := cdT h3 H
    refine Tr.seq ?_
    refine Tr.region ?_
    refine Rg.q (v := .bool (false)) (Pu.qo (p_assign rfl)) (by decide) ?_
    refine Rg.nl ?_
    refine nT (?_)
    refine tRet ?_
    refine rT (?_)
    have hr := Option.some.inj H; subst hr
    exact back1 () rfl (ResV.tmp (v := .bool (false)) rfl) rfl Ents.nil Take.nil
  · have H := cdF h3 H
    refine tSkip ?_
    refine nT (?_)
    refine Tr.seq ?_
    refine Tr.seq ?_
    refine Tr.region ?_
    refine Rg.q (v := .int .i64 (0)) (Pu.qo (p_assign rfl)) (by decide) ?_
    refine Rg.nl ?_
    refine nT (?_)
    obtain ⟨x4, hx5, H⟩ := bd.of H
    obtain ⟨n6, hx5⟩ := lp.of hx5
    refine tMidNC (ι := { q : (Unit) × Unit // x4 = .inl q.1 }) (fun ψ => []) (fun ψ => []) ?_ ?_
    · refine Tr.block ?_
      refine tLoopC (ι := { q : Nat × (Int) × Unit // itr (p_laws_eqTagSS_b0 v0 v1) q.1 q.2.1 = some x4 }) (fun ζ => [(0, .slice x_v0.1 v0.length x_v0.2), (1, .slice x_v1.1 v1.length x_v1.2), (5, .int .i64 (ζ.1.2.1))]) (fun ζ => []) (fun ζ => ζ.1.1) ⟨(n6, 0, ()), hx5⟩ ⟨rfl, rfl, rfl, trivial⟩ Take.nil ?_
      rintro ⟨⟨m7, σ8, z9⟩, hk14⟩
      obtain ⟨m15, t11, e, H1, hi12, hb13⟩ := itr.of (n := m7) (s := σ8) hk14
      subst e; unfold p_laws_eqTagSS_b0 at H1
      show Tr _ _ _ _ _ [(0, .slice x_v0.1 v0.length x_v0.2), (1, .slice x_v1.1 v1.length x_v1.2), (5, .int .i64 (σ8))] _ []
      refine Tr.seq ?_
      refine Tr.seq ?_
      refine Tr.region ?_
      refine Rg.q (v := .int .i64 (σ8)) (Pu.qo (p_move rfl)) (by decide) ?_
      refine Rg.q (v := .slice x_v0.1 v0.length x_v0.2) (Pu.qo (p_move rfl)) (by decide) ?_
      refine Rg.q (v := .int .i64 ((v0.length : Int))) (Pu.qo (p_len 96 Try.underlying50 rfl)) (by decide) ?_
      refine Rg.q (v := .bool (decide (σ8 < (v0.length : Int)))) (Pu.qo (p_lss rfl rfl)) (by decide) ?_
      refine Rg.nl ?_
      refine nT (?_)
      refine Tr.cond (b := decide (σ8 < (v0.length : Int))) rfl (fun h16 => ?_) (fun h16 => ?_)
      · have H1 := cdT h16 H1
        refine tSkip ?_
        refine nT (?_)
        refine Tr.seq ?_
        refine Tr.block ?_
        refine Tr.seq ?_
        refine tLinS [(0, .slice x_v0.1 v0.length x_v0.2), (1, .slice x_v1.1 v1.length x_v1.2), (5, .int .i64 (σ8))] Try.mixed (.inr (by kernel_rfl)) ⟨rfl, rfl, rfl, trivial⟩ rfl ?_
        refine Lin.q (v := .slice x_v0.1 v0.length x_v0.2) (by decide) (Pu.qo (p_move rfl)) ?_
        refine Lin.q (v := .int .i64 (σ8)) (by decide) (Pu.qo (p_move rfl)) ?_
        obtain ⟨h17, H1⟩ := gd.of H1
        refine Lin.q (v := elp x_v0.1 (σ8.toNat * Enc.sz (List Tag) + 0)) (by decide) (q_ixg (l := v0) (E := fun i => Dp.denc (nth v0 i) (X1 i)) (oa := x_v0.1) Try.underlying50 ty96 rfl rfl h17 rfl (Ent.b (Ent.darr Ent.z.s))) ?_
        refine Lin.q (v := .slice ((X1 σ8.toNat).1) ((nth v0 σ8.toNat).length) ((X1 σ8.toNat).2.1)) (by decide) (q_lde (l := v0) (E := fun i => Dp.denc (nth v0 i) (X1 i)) (oa := x_v0.1) (i := σ8.toNat) (j := 0) ty96 rfl (Ent.b (Ent.darr Ent.z.s)) h17.lt rfl) ?_
        refine Lin.q (v := .slice x_v1.1 v1.length x_v1.2) (by decide) (Pu.qo (p_move rfl)) ?_
        refine Lin.q (v := .int .i64 (σ8)) (by decide) (Pu.qo (p_move rfl)) ?_
        obtain ⟨h18, H1⟩ := gd.of H1
        refine Lin.q (v := elp x_v1.1 (σ8.toNat * Enc.sz (List Tag) + 0)) (by decide) (q_ixg (l := v1) (E := fun i => Dp.denc (nth v1 i) (X2 i)) (oa := x_v1.1) Try.underlying50 ty96 rfl rfl h18 rfl (Ent.b (Ent.darr Ent.z))) ?_
        refine Lin.q (v := .slice ((X2 σ8.toNat).1) ((nth v1 σ8.toNat).length) ((X2 σ8.toNat).2.1)) (by decide) (q_lde (l := v1) (E := fun i => Dp.denc (nth v1 i) (X2 i)) (oa := x_v1.1) (i := σ8.toNat) (j := 0) ty96 rfl (Ent.b (Ent.darr Ent.z)) h18.lt rfl) ?_
        obtain ⟨r19, h20, H1⟩ := bd.of H1
        refine Lin.q (v := .bool (r19)) (by decide) (q_call (vs := [.slice ((X1 σ8.toNat).1) ((nth v0 σ8.toNat).length) ((X1 σ8.toNat).2.1), .slice ((X2 σ8.toNat).1) ((nth v1 σ8.toNat).length) ((X2 σ8.toNat).2.1)]) (c_laws_eqTagS (nth v0 σ8.toNat) ((X1 σ8.toNat).1, (X1 σ8.toNat).2.1) (nth v1 σ8.toNat) ((X2 σ8.toNat).1, (X2 σ8.toNat).2.1) h20) rfl (EntsB.cons (Ent.b (Ent.dimm (Ent.del Ent.z.s h17.lt))) (EntsB.cons (Ent.b (Ent.dimm (Ent.del Ent.z h18.lt))) EntsB.nil))) ?_
        refine Lin.q (v := .bool (!r19)) (by decide) (Pu.qo (p_not rfl)) ?_
        show At _ _ _ _ _ _
        refine nT (?_)
        refine Tr.cond (b := !r19) rfl (fun h21 => ?_) (fun h21 => ?_)
        · have H1 := cdT h21 H1
          refine Tr.seq ?_
          refine Tr.region ?_
          refine Rg.q (v := .bool (false)) (Pu.qo (p_assign rfl)) (by decide) ?_
          refine Rg.nl ?_
          refine nT (?_)
          refine tRet ?_
          refine rB (rT (rT (rB (rT (rT (?_))))))
          have hx := hb13 _ (Option.some.inj H1).symm; subst hx
          replace H := sw.r H
          have hr := Option.some.inj H; subst hr
          exact back1 () rfl (ResV.tmp (v := .bool (false)) rfl) rfl Ents.nil Take.nil
        · have H1 := cdF h21 H1
          refine tSkip ?_
          refine nB (nT (?_))
          refine Tr.region ?_
          refine Rg.q (v := .int .i64 (σ8)) (Pu.qo (p_move rfl)) (by decide) ?_
          obtain ⟨h22, H1⟩ := gd.of H1
          refine Rg.q (v := .int .i64 (σ8 + 1)) (Pu.qo (p_add rfl rfl h22)) (by decide) ?_
          refine Rg.q (v := .int .i64 (σ8 + 1)) (Pu.qo (p_assign rfl)) (by decide) ?_
          refine Rg.nl ?_
          exact nLC ⟨(m15, σ8 + 1, ()), hi12 _ (Option.some.inj H1).symm⟩ (Nat.lt_succ_self _) ⟨rfl, rfl, rfl, trivial⟩ Ents.refl Take.nil
      · have H1 := cdF h16 H1
        refine tExit (xT (xT (xE (?_))))
        exact nMC ⟨((), ()), (hb13 _ (Option.some.inj H1).symm).symm⟩ trivial Ents.refl Take.nil
    · rintro ⟨⟨e23, y10⟩, hx⟩; subst hx; replace H := sw.l H
      show At _ _ [] _ [] _
      refine nT (?_)
      refine Tr.seq ?_
      refine Tr.region ?_
      refine Rg.q (v := .bool (true)) (Pu.qo (p_assign rfl)) (by decide) ?_
      refine Rg.nl ?_
      refine nT (?_)
      refine tRet ?_
      have hr := Option.some.inj H; subst hr
      exact back1 () rfl (ResV.tmp (v := .bool (true)) rfl) rfl Ents.nil Take.nil
noncomputable def p_laws_eqDisk (v0 : Disk) (v1 : Disk) : Option (Bool) := bd (p_laws_eqFileS v0.1 v1.1) fun r7 => cond (!r7) (some false) (bd (p_laws_eqIntS v0.2.1 v1.2.1) fun r10 => cond (!r10) (some false) (bd (p_laws_eqTagSS v0.2.2.1 v1.2.2.1) fun r13 => cond (!r13) (some false) (cond (!decide (v0.2.2.2 = v1.2.2.2)) (some false) (some true))))
theorem c_laws_eqDisk {r : Bool} (v0 : Disk) (x_v0 : (Option Addr × Nat) × (Option Addr × Nat) × (Option Addr × Nat) × Unit) (v1 : Disk) (x_v1 : (Option Addr × Nat) × (Option Addr × Nat) × (Option Addr × Nat) × Unit) (H : p_laws_eqDisk v0 v1 = some r) : Fn' Try.prog 30 #[.agg #[.slice x_v0.1.1 v0.1.length x_v0.1.2, .slice x_v0.2.1.1 v0.2.1.length x_v0.2.1.2, .slice x_v0.2.2.1.1 v0.2.2.1.length x_v0.2.2.1.2, .int .i64 (v0.2.2.2)], .agg #[.slice x_v1.1.1 v1.1.length x_v1.1.2, .slice x_v1.2.1.1 v1.2.1.length x_v1.2.1.2, .slice x_v1.2.2.1.1 v1.2.2.1.length x_v1.2.2.1.2, .int .i64 (v1.2.2.2)]] [imm (.slice x_v0.1.1 v0.1.length x_v0.1.2) v0.1, imm (.slice x_v0.2.1.1 v0.2.1.length x_v0.2.1.2) v0.2.1, imm (.slice x_v0.2.2.1.1 v0.2.2.1.length x_v0.2.2.1.2) v0.2.2.1, imm (.slice x_v1.1.1 v1.1.length x_v1.1.2) v1.1, imm (.slice x_v1.2.1.1 v1.2.1.length x_v1.2.1.2) v1.2.1, imm (.slice x_v1.2.2.1.1 v1.2.2.1.length x_v1.2.2.1.2) v1.2.2.1] [] (ι := Unit) (fun x => .bool (r)) (fun _ => []) (fun x => []) := by
  refine calls_of (args := [_, _]) Try.func30 rfl (by kernel_rfl) Try.ntmps30 (by simp) fun c => ?_
  unfold p_laws_eqDisk at H
  refine Tr.openD Ent.z fun X1 => ?_
  refine Tr.openD Ent.z.s.s.s fun X2 => ?_
  refine Tr.openD Ent.z.s.s.s.s.s fun X3 => ?_
  refine Tr.openD Ent.z.s.s.s.s.s.s.s.s fun X4 => ?_
  refine Tr.seq ?_
  refine Tr.region ?_
  refine Rg.ed (e_box (t := 52) (v := .agg #[.slice x_v0.1.1 v0.1.length x_v0.1.2, .slice x_v0.2.1.1 v0.2.1.length x_v0.2.1.2, .slice x_v0.2.2.1.1 v0.2.2.1.length x_v0.2.2.1.2, .int .i64 (v0.2.2.2)]) rfl) rfl (by decide) ?_
  rintro _ _ _ ⟨g5, rfl, rfl, rfl⟩
  refine Rg.ed (e_box (t := 52) (v := .agg #[.slice x_v1.1.1 v1.1.length x_v1.1.2, .slice x_v1.2.1.1 v1.2.1.length x_v1.2.1.2, .slice x_v1.2.2.1.1 v1.2.2.1.length x_v1.2.2.1.2, .int .i64 (v1.2.2.2)]) rfl) rfl (by decide) ?_
  rintro _ _ _ ⟨g6, rfl, rfl, rfl⟩
  refine Rg.q (v := .bool (false)) (Pu.qo (p_assign rfl)) (by decide) ?_
  refine Rg.nl ?_
  refine nT (?_)
  refine Tr.seq ?_
  refine Tr.seq ?_
  refine Tr.region ?_
  refine Rg.q (v := .pointer (some ⟨g5, 0, none⟩)) (Pu.qo (p_fabE fa52_0 rfl rfl)) (by decide) ?_
  refine Rg.q (v := .slice x_v0.1.1 v0.1.length x_v0.1.2) (q_ldb ty49 rfl Has.here.there rfl) (by decide) ?_
  refine Rg.q (v := .pointer (some ⟨g6, 0, none⟩)) (Pu.qo (p_fabE fa52_0 rfl rfl)) (by decide) ?_
  refine Rg.q (v := .slice x_v1.1.1 v1.1.length x_v1.1.2) (q_ldb ty49 rfl Has.here rfl) (by decide) ?_
  obtain ⟨r7, h8, H⟩ := bd.of H
  refine Rg.q (v := .bool (r7)) (q_call (vs := [.slice x_v0.1.1 v0.1.length x_v0.1.2, .slice x_v1.1.1 v1.1.length x_v1.1.2]) (c_laws_eqFileS v0.1 x_v0.1 v1.1 x_v1.1 h8) rfl (EntsB.cons (Ent.b (Ent.dimm Ent.z.s.s.s)) (EntsB.cons (Ent.b (Ent.dimm Ent.z.s)) EntsB.nil))) (by decide) ?_
  refine Rg.q (v := .bool (!r7)) (Pu.qo (p_not rfl)) (by decide) ?_
  refine Rg.nl ?_
  refine nT (?_)
  refine Tr.cond (b := !r7) rfl (fun h9 => ?_) (fun h9 => ?_)
  · have H := cdT h9 H
    refine Tr.seq ?_
    refine Tr.region ?_
    refine Rg.q (v := .bool (false)) (Pu.qo (p_assign rfl)) (by decide) ?_
    refine Rg.nl ?_
    refine nT (?_)
    refine tRet ?_
    refine rT (?_)
    have hr := Option.some.inj H; subst hr
    exact back1 () rfl (ResV.tmp (v := .bool (false)) rfl) rfl Ents.nil Take.nil
  · have H := cdF h9 H
    refine tSkip ?_
    refine nT (?_)
    refine Tr.seq ?_
    refine Tr.seq ?_
    refine Tr.region ?_
    refine Rg.q (v := .pointer (some ⟨g5, 1, none⟩)) (Pu.qo (p_fabE fa52_1 rfl rfl)) (by decide) ?_
    refine Rg.q (v := .slice x_v0.2.1.1 v0.2.1.length x_v0.2.1.2) (q_ldb ty23 rfl Has.here.there rfl) (by decide) ?_
    refine Rg.q (v := .pointer (some ⟨g6, 1, none⟩)) (Pu.qo (p_fabE fa52_1 rfl rfl)) (by decide) ?_
    refine Rg.q (v := .slice x_v1.2.1.1 v1.2.1.length x_v1.2.1.2) (q_ldb ty23 rfl Has.here rfl) (by decide) ?_
    obtain ⟨r10, h11, H⟩ := bd.of H
    refine Rg.q (v := .bool (r10)) (q_call (vs := [.slice x_v0.2.1.1 v0.2.1.length x_v0.2.1.2, .slice x_v1.2.1.1 v1.2.1.length x_v1.2.1.2]) (c_laws_eqIntS v0.2.1 x_v0.2.1 v1.2.1 x_v1.2.1 h11) rfl (EntsB.cons (Ent.b Ent.z.s.s.s.s.s) (EntsB.cons (Ent.b Ent.z.s.s.s.s.s.s.s.s) EntsB.nil))) (by decide) ?_
    refine Rg.q (v := .bool (!r10)) (Pu.qo (p_not rfl)) (by decide) ?_
    refine Rg.nl ?_
    refine nT (?_)
    refine Tr.cond (b := !r10) rfl (fun h12 => ?_) (fun h12 => ?_)
    · have H := cdT h12 H
      refine Tr.seq ?_
      refine Tr.region ?_
      refine Rg.q (v := .bool (false)) (Pu.qo (p_assign rfl)) (by decide) ?_
      refine Rg.nl ?_
      refine nT (?_)
      refine tRet ?_
      refine rT (?_)
      have hr := Option.some.inj H; subst hr
      exact back1 () rfl (ResV.tmp (v := .bool (false)) rfl) rfl Ents.nil Take.nil
    · have H := cdF h12 H
      refine tSkip ?_
      refine nT (?_)
      refine Tr.seq ?_
      refine Tr.seq ?_
      refine Tr.region ?_
      refine Rg.q (v := .pointer (some ⟨g5, 2, none⟩)) (Pu.qo (p_fabE fa52_2 rfl rfl)) (by decide) ?_
      refine Rg.q (v := .slice x_v0.2.2.1.1 v0.2.2.1.length x_v0.2.2.1.2) (q_ldb ty50 rfl Has.here.there rfl) (by decide) ?_
      refine Rg.q (v := .pointer (some ⟨g6, 2, none⟩)) (Pu.qo (p_fabE fa52_2 rfl rfl)) (by decide) ?_
      refine Rg.q (v := .slice x_v1.2.2.1.1 v1.2.2.1.length x_v1.2.2.1.2) (q_ldb ty50 rfl Has.here rfl) (by decide) ?_
      obtain ⟨r13, h14, H⟩ := bd.of H
      refine Rg.q (v := .bool (r13)) (q_call (vs := [.slice x_v0.2.2.1.1 v0.2.2.1.length x_v0.2.2.1.2, .slice x_v1.2.2.1.1 v1.2.2.1.length x_v1.2.2.1.2]) (c_laws_eqTagSS v0.2.2.1 x_v0.2.2.1 v1.2.2.1 x_v1.2.2.1 h14) rfl (EntsB.cons (Ent.b (Ent.dimm Ent.z.s.s)) (EntsB.cons (Ent.b (Ent.dimm Ent.z)) EntsB.nil))) (by decide) ?_
      refine Rg.q (v := .bool (!r13)) (Pu.qo (p_not rfl)) (by decide) ?_
      refine Rg.nl ?_
      refine nT (?_)
      refine Tr.cond (b := !r13) rfl (fun h15 => ?_) (fun h15 => ?_)
      · have H := cdT h15 H
        refine Tr.seq ?_
        refine Tr.region ?_
        refine Rg.q (v := .bool (false)) (Pu.qo (p_assign rfl)) (by decide) ?_
        refine Rg.nl ?_
        refine nT (?_)
        refine tRet ?_
        refine rT (?_)
        have hr := Option.some.inj H; subst hr
        exact back1 () rfl (ResV.tmp (v := .bool (false)) rfl) rfl Ents.nil Take.nil
      · have H := cdF h15 H
        refine tSkip ?_
        refine nT (?_)
        refine Tr.seq ?_
        refine Tr.seq ?_
        refine Tr.region ?_
        refine Rg.q (v := .pointer (some ⟨g5, 3, none⟩)) (Pu.qo (p_fabE fa52_3 rfl rfl)) (by decide) ?_
        refine Rg.q (v := .int .i64 (v0.2.2.2)) (q_ldb ty3 rfl Has.here.there rfl) (by decide) ?_
        refine Rg.q (v := .pointer (some ⟨g6, 3, none⟩)) (Pu.qo (p_fabE fa52_3 rfl rfl)) (by decide) ?_
        refine Rg.q (v := .int .i64 (v1.2.2.2)) (q_ldb ty3 rfl Has.here rfl) (by decide) ?_
        refine Rg.q (v := .bool (!decide (v0.2.2.2 = v1.2.2.2))) (Pu.qo (p_neq rfl rfl)) (by decide) ?_
        refine Rg.nl ?_
        refine nT (?_)
        refine Tr.cond (b := !decide (v0.2.2.2 = v1.2.2.2)) rfl (fun h16 => ?_) (fun h16 => ?_)
        · have H := cdT h16 H
          refine Tr.seq ?_
          refine Tr.region ?_
          refine Rg.q (v := .bool (false)) (Pu.qo (p_assign rfl)) (by decide) ?_
          refine Rg.nl ?_
          refine nT (?_)
          refine tRet ?_
          refine rT (?_)
          have hr := Option.some.inj H; subst hr
          exact back1 () rfl (ResV.tmp (v := .bool (false)) rfl) rfl Ents.nil Take.nil
        · have H := cdF h16 H
          refine tSkip ?_
          refine nT (?_)
          refine Tr.seq ?_
          refine Tr.region ?_
          refine Rg.q (v := .bool (true)) (Pu.qo (p_assign rfl)) (by decide) ?_
          refine Rg.nl ?_
          refine nT (?_)
          refine tRet ?_
          have hr := Option.some.inj H; subst hr
          exact back1 () rfl (ResV.tmp (v := .bool (true)) rfl) rfl Ents.nil Take.nil
noncomputable def p_laws_markFileS_b0 (v0 : (List File)) (σ5 : (List File) × Int × Int) : Option (((List File) × Int × Int) ⊕ (Int × (List File))) := cond (decide (σ5.2.2 < (v0.length : Int))) (gd (ix σ5.2.2 σ5.1.length) <| gd (I64 (σ5.2.1 + 1)) <| bd (p_laws_markIntS (((nth σ5.1 σ5.2.2.toNat).2).1) (σ5.2.1 + 1)) fun r17 => bd (p_laws_markRowSS (((nth σ5.1 σ5.2.2.toNat).2).2) r17.1) fun r20 => gd (I64 (σ5.2.2 + 1)) <| some (.inl ((σ5.1.set σ5.2.2.toNat (σ5.2.1, (r17.2, r20.2))), r20.1, σ5.2.2 + 1))) (some (.inr (σ5.2.1, σ5.1)))
noncomputable def p_laws_markFileS (v0 : (List File)) (v1 : Int) : Option (Int × (List File)) := bd (lp (p_laws_markFileS_b0 v0) (v0, v1, 0)) fun x1 => some (x1.1, x1.2)
theorem c_laws_markFileS {r : Int × (List File)} (v0 : (List File)) (x_v0 : Option Addr × Nat) (v1 : Int) (H : p_laws_markFileS v0 v1 = some r) : Fn' Try.prog 57 #[.slice x_v0.1 v0.length x_v0.2, .int .i64 (v1)] [] [tree (.slice x_v0.1 v0.length x_v0.2) v0] (ι := Unit) (fun x => .int .i64 (r.1)) (fun _ => []) (fun x => [tree (.slice x_v0.1 v0.length x_v0.2) r.2]) := by
  refine calls_of (args := [_, _]) Try.func57 rfl (by kernel_rfl) Try.ntmps57 (by simp) fun c => ?_
  unfold p_laws_markFileS at H
  refine Tr.seq ?_
  refine Tr.region ?_
  refine Rg.q (v := .int .i64 (0)) (Pu.qo (p_assign rfl)) (by decide) ?_
  refine Rg.nl ?_
  refine nT (?_)
  refine Tr.seq ?_
  refine Tr.seq ?_
  refine Tr.region ?_
  refine Rg.q (v := .int .i64 (0)) (Pu.qo (p_assign rfl)) (by decide) ?_
  refine Rg.nl ?_
  refine nT (?_)
  obtain ⟨x1, hx2, H⟩ := bd.of H
  obtain ⟨n3, hx2⟩ := lp.of hx2
  refine tMidNC (ι := Unit) (fun ψ => [(1, .int .i64 (x1.1))]) (fun ψ => [tree (.slice x_v0.1 v0.length x_v0.2) x1.2]) ?_ ?_
  · refine Tr.block ?_
    refine tLoopC (ι := { q : Nat × ((List File) × Int × Int) × Unit // itr (p_laws_markFileS_b0 v0) q.1 q.2.1 = some x1 }) (fun ζ => [(0, .slice x_v0.1 v0.length x_v0.2), (1, .int .i64 (ζ.1.2.1.2.1)), (5, .int .i64 (ζ.1.2.1.2.2))]) (fun ζ => [tree (.slice x_v0.1 v0.length x_v0.2) ζ.1.2.1.1]) (fun ζ => ζ.1.1) ⟨(n3, (v0, v1, 0), ()), hx2⟩ ⟨rfl, rfl, rfl, trivial⟩ (.cons Del.here .nil) ?_
    rintro ⟨⟨m4, σ5, z6⟩, hk11⟩
    obtain ⟨m12, t8, e, H1, hi9, hb10⟩ := itr.of (n := m4) (s := σ5) hk11
    subst e; unfold p_laws_markFileS_b0 at H1
    show Tr _ _ _ _ _ [(0, .slice x_v0.1 v0.length x_v0.2), (1, .int .i64 (σ5.2.1)), (5, .int .i64 (σ5.2.2))] _ [tree (.slice x_v0.1 v0.length x_v0.2) σ5.1]
    refine Tr.seq ?_
    refine Tr.seq ?_
    refine Tr.region ?_
    refine Rg.q (v := .int .i64 (σ5.2.2)) (Pu.qo (p_move rfl)) (by decide) ?_
    refine Rg.q (v := .slice x_v0.1 v0.length x_v0.2) (Pu.qo (p_move rfl)) (by decide) ?_
    refine Rg.q (v := .int .i64 ((v0.length : Int))) (Pu.qo (p_len 94 Try.underlying49 rfl)) (by decide) ?_
    refine Rg.q (v := .bool (decide (σ5.2.2 < (v0.length : Int)))) (Pu.qo (p_lss rfl rfl)) (by decide) ?_
    refine Rg.nl ?_
    refine nT (?_)
    refine Tr.cond (b := decide (σ5.2.2 < (v0.length : Int))) rfl (fun h13 => ?_) (fun h13 => ?_)
    · have H1 := cdT h13 H1
      refine tSkip ?_
      refine nT (?_)
      refine Tr.seq ?_
      refine Tr.block ?_
      refine Tr.seq ?_
      obtain ⟨h14, H1⟩ := gd.of H1
      refine Tr.zoom (k := σ5.2.2.toNat) h14.lt (.cons Del.here .nil) fun x15 => ?_
      show Tr _ _ _ _ _ _ _ (hole (.slice x_v0.1 v0.length x_v0.2) σ5.1 σ5.2.2.toNat [.int .i64 ((nth σ5.1 σ5.2.2.toNat).1), .slice x15.2.1.1 ((((nth σ5.1 σ5.2.2.toNat).2).1).length) x15.2.1.2, .slice x15.2.2.1 ((((nth σ5.1 σ5.2.2.toNat).2).2).length) x15.2.2.2] :: tree (.slice x15.2.1.1 ((((nth σ5.1 σ5.2.2.toNat).2).1).length) x15.2.1.2) (((nth σ5.1 σ5.2.2.toNat).2).1) :: tree (.slice x15.2.2.1 ((((nth σ5.1 σ5.2.2.toNat).2).2).length) x15.2.2.2) (((nth σ5.1 σ5.2.2.toNat).2).2) :: _)
      refine Tr.region ?_
      refine Rg.q (v := .slice x_v0.1 v0.length x_v0.2) (Pu.qo (p_move rfl)) (by decide) ?_
      refine Rg.q (v := .int .i64 (σ5.2.2)) (Pu.qo (p_move rfl)) (by decide) ?_
      refine Rg.q (v := .int .i64 (σ5.2.1)) (Pu.qo (p_move rfl)) (by decide) ?_
      refine Rg.q (v := elp x_v0.1 (σ5.2.2.toNat * Enc.sz File + 0)) (q_ixH (k := σ5.2.2.toNat) Try.underlying49 ty94 rfl rfl h14 rfl Has.here) (by decide) ?_
      refine Rg.q (v := elp x_v0.1 (σ5.2.2.toNat * Enc.sz File + 0)) (q_faH (j := 0) (i := σ5.2.2.toNat) fa94_0 rfl Has.here rfl) (by decide) ?_
      refine Rg.en (e_stH (v := .int .i64 (σ5.2.1)) (i := σ5.2.2.toNat) (j := 0) (cs' := [.int .i64 (σ5.2.1), .slice x15.2.1.1 ((((nth σ5.1 σ5.2.2.toNat).2).1).length) x15.2.1.2, .slice x15.2.2.1 ((((nth σ5.1 σ5.2.2.toNat).2).2).length) x15.2.2.2]) ty3 rfl rfl (.cons Del.here .nil) rfl (by simp [Value.cells, Value.oneCell']) (Nat.le_of_ble_eq_true rfl) rfl rfl) rfl ?_
      rintro _ _ _ ⟨rfl, rfl, rfl⟩
      refine Rg.nl ?_
      refine nT (?_)
      refine Tr.seq ?_
      refine Tr.region ?_
      refine Rg.q (v := .int .i64 (σ5.2.1)) (Pu.qo (p_move rfl)) (by decide) ?_
      obtain ⟨h16, H1⟩ := gd.of H1
      refine Rg.q (v := .int .i64 (σ5.2.1 + 1)) (Pu.qo (p_add rfl rfl h16)) (by decide) ?_
      refine Rg.q (v := .int .i64 (σ5.2.1 + 1)) (Pu.qo (p_assign rfl)) (by decide) ?_
      refine Rg.nl ?_
      refine nT (?_)
      refine Tr.seq ?_
      refine Tr.region ?_
      refine Rg.q (v := .slice x_v0.1 v0.length x_v0.2) (Pu.qo (p_move rfl)) (by decide) ?_
      refine Rg.q (v := .int .i64 (σ5.2.2)) (Pu.qo (p_move rfl)) (by decide) ?_
      refine Rg.q (v := elp x_v0.1 (σ5.2.2.toNat * Enc.sz File + 0)) (q_ixH (k := σ5.2.2.toNat) Try.underlying49 ty94 rfl rfl h14 rfl Has.here) (by decide) ?_
      refine Rg.q (v := elp x_v0.1 (σ5.2.2.toNat * Enc.sz File + 1)) (q_faH (j := 0) (i := σ5.2.2.toNat) fa94_1 rfl Has.here rfl) (by decide) ?_
      refine Rg.q (v := elp x_v0.1 (σ5.2.2.toNat * Enc.sz File + 1)) (q_faH (j := 1) (i := σ5.2.2.toNat) fa26_0 rfl Has.here rfl) (by decide) ?_
      refine Rg.q (v := .slice x15.2.1.1 ((((nth σ5.1 σ5.2.2.toNat).2).1).length) x15.2.1.2) (q_ldH (i := σ5.2.2.toNat) (j := 1) ty23 rfl Has.here rfl) (by decide) ?_
      refine Rg.q (v := .int .i64 (σ5.2.1 + 1)) (Pu.qo (p_move rfl)) (by decide) ?_
      obtain ⟨r17, h18, H1⟩ := bd.of H1
      refine Rg.ed (e_callM (vs := [.slice x15.2.1.1 ((((nth σ5.1 σ5.2.2.toNat).2).1).length) x15.2.1.2, .int .i64 (σ5.2.1 + 1)]) (c_laws_markIntS (((nth σ5.1 σ5.2.2.toNat).2).1) x15.2.1 (σ5.2.1 + 1) h18) (Solo.tree Solo.nil) (fun _ => (Solo.tree Solo.nil)) rfl (.cons Del.here.there .nil) EntsB.nil) rfl (by decide) ?_
      rintro _ _ _ ⟨u19, rfl, rfl, rfl⟩
      refine Rg.q (v := .int .i64 (r17.1)) (Pu.qo (p_assign rfl)) (by decide) ?_
      refine Rg.nl ?_
      refine nT (?_)
      refine Tr.olen Has.here fun hn => ?_; rw [hn]
      refine Tr.region ?_
      refine Rg.q (v := .slice x_v0.1 v0.length x_v0.2) (Pu.qo (p_move rfl)) (by decide) ?_
      refine Rg.q (v := .int .i64 (σ5.2.2)) (Pu.qo (p_move rfl)) (by decide) ?_
      refine Rg.q (v := elp x_v0.1 (σ5.2.2.toNat * Enc.sz File + 0)) (q_ixH (k := σ5.2.2.toNat) Try.underlying49 ty94 rfl rfl h14 rfl Has.here.there) (by decide) ?_
      refine Rg.q (v := elp x_v0.1 (σ5.2.2.toNat * Enc.sz File + 1)) (q_faH (j := 0) (i := σ5.2.2.toNat) fa94_1 rfl Has.here.there rfl) (by decide) ?_
      refine Rg.q (v := elp x_v0.1 (σ5.2.2.toNat * Enc.sz File + 2)) (q_faH (j := 1) (i := σ5.2.2.toNat) fa26_1 rfl Has.here.there rfl) (by decide) ?_
      refine Rg.q (v := .slice x15.2.2.1 ((((nth σ5.1 σ5.2.2.toNat).2).2).length) x15.2.2.2) (q_ldH (i := σ5.2.2.toNat) (j := 2) ty24 rfl Has.here.there rfl) (by decide) ?_
      refine Rg.q (v := .int .i64 (r17.1)) (Pu.qo (p_move rfl)) (by decide) ?_
      obtain ⟨r20, h21, H1⟩ := bd.of H1
      refine Rg.ed (e_callM (vs := [.slice x15.2.2.1 ((((nth σ5.1 σ5.2.2.toNat).2).2).length) x15.2.2.2, .int .i64 (r17.1)]) (c_laws_markRowSS (((nth σ5.1 σ5.2.2.toNat).2).2) x15.2.2 r17.1 h21) (Solo.tree Solo.nil) (fun _ => (Solo.tree Solo.nil)) rfl (.cons Del.here.there.there .nil) EntsB.nil) rfl (by decide) ?_
      rintro _ _ _ ⟨u22, rfl, rfl, rfl⟩
      refine Rg.q (v := .int .i64 (r20.1)) (Pu.qo (p_assign rfl)) (by decide) ?_
      refine Rg.nl ?_
      refine nB (nT (?_))
      refine Tr.olen Has.here fun hn => ?_; rw [hn]
      refine Tr.region ?_
      refine Rg.q (v := .int .i64 (σ5.2.2)) (Pu.qo (p_move rfl)) (by decide) ?_
      obtain ⟨h23, H1⟩ := gd.of H1
      refine Rg.q (v := .int .i64 (σ5.2.2 + 1)) (Pu.qo (p_add rfl rfl h23)) (by decide) ?_
      refine Rg.q (v := .int .i64 (σ5.2.2 + 1)) (Pu.qo (p_assign rfl)) (by decide) ?_
      refine Rg.nl ?_
      refine At.unzoom (σ5.2.1, (r17.2, r20.2)) ((), x15.2) rfl (.cons Del.here.there.there (.cons Del.here.there (.cons Del.here .nil))) ?_
      exact nLC ⟨(m12, ((σ5.1.set σ5.2.2.toNat (σ5.2.1, (r17.2, r20.2))), r20.1, σ5.2.2 + 1), ()), hi9 _ (Option.some.inj H1).symm⟩ (Nat.lt_succ_self _) ⟨rfl, rfl, rfl, trivial⟩ Ents.refl (.cons Del.here .nil)
    · have H1 := cdF h13 H1
      refine tExit (xT (xT (xE (?_))))
      have hx := hb10 _ (Option.some.inj H1).symm; subst hx
      exact nMC () ⟨rfl, trivial⟩ Ents.refl (.cons Del.here .nil)
  · intro y7
    show At _ _ [(1, .int .i64 (x1.1))] _ [tree (.slice x_v0.1 v0.length x_v0.2) x1.2] _
    refine nT (?_)
    refine Tr.seq ?_
    refine Tr.region ?_
    refine Rg.q (v := .int .i64 (x1.1)) (Pu.qo (p_move rfl)) (by decide) ?_
    refine Rg.q (v := .int .i64 (x1.1)) (Pu.qo (p_assign rfl)) (by decide) ?_
    refine Rg.nl ?_
    refine nT (?_)
    refine tRet ?_
    have hr := Option.some.inj H; subst hr
    exact back1 () rfl (ResV.tmp (v := .int .i64 (x1.1)) rfl) rfl Ents.nil (.cons Del.here .nil)
noncomputable def p_laws_markText_b0 (σ6 : Int × ByteArray) : Option ((Int × ByteArray) ⊕ (ByteArray)) := cond (decide (0 < σ6.1)) (gd (I64 (σ6.1.tmod 10)) <| gd (I64 (48 + (σ6.1.tmod 10))) <| gd (room ((s2 [b8 (48 + (σ6.1.tmod 10))]).size + σ6.2.size)) <| gd (I64 (σ6.1.tdiv 10)) <| some (.inl (σ6.1.tdiv 10, (s2 [b8 (48 + (σ6.1.tmod 10))]) ++ σ6.2))) (some (.inr σ6.2))
noncomputable def p_laws_markText (v0 : Int) : Option (ByteArray) := cond (decide (v0 ≤ 0)) (some (⟨#[109, 48]⟩ : ByteArray)) (bd (lp (p_laws_markText_b0) (v0, (⟨#[]⟩ : ByteArray))) fun x2 => gd (room ((⟨#[109]⟩ : ByteArray).size + x2.size)) <| some ((⟨#[109]⟩ : ByteArray) ++ x2))
theorem c_laws_markText {r : ByteArray} (v0 : Int) (H : p_laws_markText v0 = some r) : Fn' Try.prog 77 #[.int .i64 (v0)] [] [] (ι := Unit) (fun x => .string (r)) (fun _ => []) (fun x => []) := by
  refine calls_of (args := [_]) Try.func77 rfl (by kernel_rfl) Try.ntmps77 (by simp) fun c => ?_
  unfold p_laws_markText at H
  refine Tr.seq ?_
  refine Tr.region ?_
  refine Rg.q (v := .string ((⟨#[]⟩ : ByteArray))) (Pu.qo (p_assign rfl)) (by decide) ?_
  refine Rg.nl ?_
  refine nT (?_)
  refine Tr.seq ?_
  refine Tr.seq ?_
  refine Tr.region ?_
  refine Rg.q (v := .int .i64 (v0)) (Pu.qo (p_move rfl)) (by decide) ?_
  refine Rg.q (v := .bool (decide (v0 ≤ 0))) (Pu.qo (p_leq rfl rfl)) (by decide) ?_
  refine Rg.nl ?_
  refine nT (?_)
  refine Tr.cond (b := decide (v0 ≤ 0)) rfl (fun h1 => ?_) (fun h1 => ?_)
  · have H := cdT h1 H
    refine Tr.seq ?_
    refine Tr.region ?_
    refine Rg.q (v := .string ((⟨#[109, 48]⟩ : ByteArray))) (Pu.qo (p_assign rfl)) (by decide) ?_
    refine Rg.nl ?_
    refine nT (?_)
    refine tRet ?_
    refine rT (?_)
    have hr := Option.some.inj H; subst hr
    exact back1 () rfl (ResV.tmp (v := .string ((⟨#[109, 48]⟩ : ByteArray))) rfl) rfl Ents.nil Take.nil
  · have H := cdF h1 H
    refine tSkip ?_
    refine nT (?_)
    refine Tr.seq ?_
    refine Tr.region ?_
    refine Rg.q (v := .string ((⟨#[]⟩ : ByteArray))) (Pu.qo (p_assign rfl)) (by decide) ?_
    refine Rg.nl ?_
    refine nT (?_)
    obtain ⟨x2, hx3, H⟩ := bd.of H
    obtain ⟨n4, hx3⟩ := lp.of hx3
    refine tMidC (ι := Unit) (fun ψ => [(3, .string (x2))]) (fun ψ => []) ?_ ?_
    · refine Tr.block ?_
      refine tLoopC (ι := { q : Nat × (Int × ByteArray) × Unit // itr (p_laws_markText_b0) q.1 q.2.1 = some x2 }) (fun ζ => [(0, .int .i64 (ζ.1.2.1.1)), (3, .string (ζ.1.2.1.2))]) (fun ζ => []) (fun ζ => ζ.1.1) ⟨(n4, (v0, (⟨#[]⟩ : ByteArray)), ()), hx3⟩ ⟨rfl, rfl, trivial⟩ Take.nil ?_
      rintro ⟨⟨m5, σ6, z7⟩, hk12⟩
      obtain ⟨m13, t9, e, H1, hi10, hb11⟩ := itr.of (n := m5) (s := σ6) hk12
      subst e; unfold p_laws_markText_b0 at H1
      show Tr _ _ _ _ _ [(0, .int .i64 (σ6.1)), (3, .string (σ6.2))] _ []
      refine Tr.seq ?_
      refine Tr.seq ?_
      refine Tr.region ?_
      refine Rg.q (v := .int .i64 (σ6.1)) (Pu.qo (p_move rfl)) (by decide) ?_
      refine Rg.q (v := .bool (decide (0 < σ6.1))) (Pu.qo (p_gtr rfl rfl)) (by decide) ?_
      refine Rg.nl ?_
      refine nT (?_)
      refine Tr.cond (b := decide (0 < σ6.1)) rfl (fun h14 => ?_) (fun h14 => ?_)
      · have H1 := cdT h14 H1
        refine tSkip ?_
        refine nT (?_)
        refine Tr.block ?_
        refine Tr.seq ?_
        refine Tr.region ?_
        refine Rg.q (v := .int .i64 (σ6.1)) (Pu.qo (p_move rfl)) (by decide) ?_
        obtain ⟨h15, H1⟩ := gd.of H1
        refine Rg.q (v := .int .i64 (σ6.1.tmod 10)) (Pu.qo (p_rem rfl rfl (by decide) h15)) (by decide) ?_
        obtain ⟨h16, H1⟩ := gd.of H1
        refine Rg.q (v := .int .i64 (48 + (σ6.1.tmod 10))) (Pu.qo (p_add rfl rfl h16)) (by decide) ?_
        refine Rg.q (v := .int .u8 ((b8 (48 + (σ6.1.tmod 10))).toNat : Int)) (Pu.qo (p_b8 Try.underlying3 Try.underlying5 rfl)) (by decide) ?_
        refine Rg.ed (e_lit (vs := [(0, .int .u8 ((b8 (48 + (σ6.1.tmod 10))).toNat : Int))]) [.int .u8 ((b8 (48 + (σ6.1.tmod 10))).toNat : Int)] Try.underlying22 ty5 rfl (by decide) (by decide) (by kernel_rfl)) rfl (by decide) ?_
        rintro _ _ _ ⟨g17, rfl, rfl, rfl⟩
        refine Rg.q (v := .string (s2 [b8 (48 + (σ6.1.tmod 10))])) (q_b2sL [b8 (48 + (σ6.1.tmod 10))] Try.underlying22 Try.underlying5 Try.underlying9 rfl Has.here rfl) (by decide) ?_
        refine Rg.q (v := .string (σ6.2)) (Pu.qo (p_move rfl)) (by decide) ?_
        obtain ⟨h18, H1⟩ := gd.of H1
        refine Rg.q (v := .string ((s2 [b8 (48 + (σ6.1.tmod 10))]) ++ σ6.2)) (Pu.qo (p_cat rfl rfl h18)) (by decide) ?_
        refine Rg.q (v := .string ((s2 [b8 (48 + (σ6.1.tmod 10))]) ++ σ6.2)) (Pu.qo (p_assign rfl)) (by decide) ?_
        refine Rg.nl ?_
        refine nT (?_)
        refine Tr.region ?_
        refine Rg.q (v := .int .i64 (σ6.1)) (Pu.qo (p_move rfl)) (by decide) ?_
        obtain ⟨h19, H1⟩ := gd.of H1
        refine Rg.q (v := .int .i64 (σ6.1.tdiv 10)) (Pu.qo (p_quo rfl rfl (by decide) h19)) (by decide) ?_
        refine Rg.q (v := .int .i64 (σ6.1.tdiv 10)) (Pu.qo (p_assign rfl)) (by decide) ?_
        refine Rg.nl ?_
        exact nB (nLC ⟨(m13, (σ6.1.tdiv 10, (s2 [b8 (48 + (σ6.1.tmod 10))]) ++ σ6.2), ()), hi10 _ (Option.some.inj H1).symm⟩ (Nat.lt_succ_self _) ⟨rfl, rfl, trivial⟩ Ents.refl Take.nil)
      · have H1 := cdF h14 H1
        refine tExit (xT (xT (xE (?_))))
        have hx := hb11 _ (Option.some.inj H1).symm; subst hx
        exact nMC () ⟨rfl, trivial⟩ Ents.refl Take.nil
    · intro y8
      show Tr _ _ _ _ _ [(3, .string (x2))] _ []
      refine Tr.seq ?_
      refine Tr.region ?_
      refine Rg.q (v := .string (x2)) (Pu.qo (p_move rfl)) (by decide) ?_
      obtain ⟨h20, H⟩ := gd.of H
      refine Rg.q (v := .string ((⟨#[109]⟩ : ByteArray) ++ x2)) (Pu.qo (p_cat rfl rfl h20)) (by decide) ?_
      refine Rg.q (v := .string ((⟨#[109]⟩ : ByteArray) ++ x2)) (Pu.qo (p_assign rfl)) (by decide) ?_
      refine Rg.nl ?_
      refine nT (?_)
      refine tRet ?_
      have hr := Option.some.inj H; subst hr
      exact back1 () rfl (ResV.tmp (v := .string ((⟨#[109]⟩ : ByteArray) ++ x2)) rfl) rfl Ents.nil Take.nil
noncomputable def p_laws_markTagS_b0 (v0 : (List Tag)) (σ5 : (List Tag) × Int × Int) : Option (((List Tag) × Int × Int) ⊕ (Int × (List Tag))) := cond (decide (σ5.2.2 < (v0.length : Int))) (gd (ix σ5.2.2 σ5.1.length) <| bd (p_laws_markText σ5.2.1) fun r16 => gd (I64 (σ5.2.1 + 1)) <| bd (p_laws_markText (σ5.2.1 + 1)) fun r19 => gd (I64 ((σ5.2.1 + 1) + 1)) <| gd (I64 (σ5.2.2 + 1)) <| some (.inl ((σ5.1.set σ5.2.2.toNat (r16, r19)), (σ5.2.1 + 1) + 1, σ5.2.2 + 1))) (some (.inr (σ5.2.1, σ5.1)))
noncomputable def p_laws_markTagS (v0 : (List Tag)) (v1 : Int) : Option (Int × (List Tag)) := bd (lp (p_laws_markTagS_b0 v0) (v0, v1, 0)) fun x1 => some (x1.1, x1.2)
theorem c_laws_markTagS {r : Int × (List Tag)} (v0 : (List Tag)) (x_v0 : Option Addr × Nat) (v1 : Int) (H : p_laws_markTagS v0 v1 = some r) : Fn' Try.prog 71 #[.slice x_v0.1 v0.length x_v0.2, .int .i64 (v1)] [] [tree (.slice x_v0.1 v0.length x_v0.2) v0] (ι := Unit) (fun x => .int .i64 (r.1)) (fun _ => []) (fun x => [tree (.slice x_v0.1 v0.length x_v0.2) r.2]) := by
  refine calls_of (args := [_, _]) Try.func71 rfl (by kernel_rfl) Try.ntmps71 (by simp) fun c => ?_
  unfold p_laws_markTagS at H
  refine Tr.seq ?_
  refine Tr.region ?_
  refine Rg.q (v := .int .i64 (0)) (Pu.qo (p_assign rfl)) (by decide) ?_
  refine Rg.nl ?_
  refine nT (?_)
  refine Tr.seq ?_
  refine Tr.seq ?_
  refine Tr.region ?_
  refine Rg.q (v := .int .i64 (0)) (Pu.qo (p_assign rfl)) (by decide) ?_
  refine Rg.nl ?_
  refine nT (?_)
  obtain ⟨x1, hx2, H⟩ := bd.of H
  obtain ⟨n3, hx2⟩ := lp.of hx2
  refine tMidNC (ι := Unit) (fun ψ => [(1, .int .i64 (x1.1))]) (fun ψ => [tree (.slice x_v0.1 v0.length x_v0.2) x1.2]) ?_ ?_
  · refine Tr.block ?_
    refine tLoopC (ι := { q : Nat × ((List Tag) × Int × Int) × Unit // itr (p_laws_markTagS_b0 v0) q.1 q.2.1 = some x1 }) (fun ζ => [(0, .slice x_v0.1 v0.length x_v0.2), (1, .int .i64 (ζ.1.2.1.2.1)), (5, .int .i64 (ζ.1.2.1.2.2))]) (fun ζ => [tree (.slice x_v0.1 v0.length x_v0.2) ζ.1.2.1.1]) (fun ζ => ζ.1.1) ⟨(n3, (v0, v1, 0), ()), hx2⟩ ⟨rfl, rfl, rfl, trivial⟩ (.cons Del.here .nil) ?_
    rintro ⟨⟨m4, σ5, z6⟩, hk11⟩
    obtain ⟨m12, t8, e, H1, hi9, hb10⟩ := itr.of (n := m4) (s := σ5) hk11
    subst e; unfold p_laws_markTagS_b0 at H1
    show Tr _ _ _ _ _ [(0, .slice x_v0.1 v0.length x_v0.2), (1, .int .i64 (σ5.2.1)), (5, .int .i64 (σ5.2.2))] _ [tree (.slice x_v0.1 v0.length x_v0.2) σ5.1]
    refine Tr.seq ?_
    refine Tr.seq ?_
    refine Tr.region ?_
    refine Rg.q (v := .int .i64 (σ5.2.2)) (Pu.qo (p_move rfl)) (by decide) ?_
    refine Rg.q (v := .slice x_v0.1 v0.length x_v0.2) (Pu.qo (p_move rfl)) (by decide) ?_
    refine Rg.q (v := .int .i64 ((v0.length : Int))) (Pu.qo (p_len 102 Try.underlying96 rfl)) (by decide) ?_
    refine Rg.q (v := .bool (decide (σ5.2.2 < (v0.length : Int)))) (Pu.qo (p_lss rfl rfl)) (by decide) ?_
    refine Rg.nl ?_
    refine nT (?_)
    refine Tr.cond (b := decide (σ5.2.2 < (v0.length : Int))) rfl (fun h13 => ?_) (fun h13 => ?_)
    · have H1 := cdT h13 H1
      refine tSkip ?_
      refine nT (?_)
      refine Tr.seq ?_
      refine Tr.block ?_
      refine Tr.seq ?_
      obtain ⟨h14, H1⟩ := gd.of H1
      refine Tr.zoom (k := σ5.2.2.toNat) h14.lt (.cons Del.here .nil) fun x15 => ?_
      show Tr _ _ _ _ _ _ _ (hole (.slice x_v0.1 v0.length x_v0.2) σ5.1 σ5.2.2.toNat [.string ((nth σ5.1 σ5.2.2.toNat).1), .string ((nth σ5.1 σ5.2.2.toNat).2)] :: _)
      refine Tr.region ?_
      refine Rg.q (v := .slice x_v0.1 v0.length x_v0.2) (Pu.qo (p_move rfl)) (by decide) ?_
      refine Rg.q (v := .int .i64 (σ5.2.2)) (Pu.qo (p_move rfl)) (by decide) ?_
      refine Rg.q (v := .int .i64 (σ5.2.1)) (Pu.qo (p_move rfl)) (by decide) ?_
      obtain ⟨r16, h17, H1⟩ := bd.of H1
      refine Rg.q (v := .string (r16)) (q_call (vs := [.int .i64 (σ5.2.1)]) (c_laws_markText σ5.2.1 h17) rfl EntsB.nil) (by decide) ?_
      refine Rg.q (v := elp x_v0.1 (σ5.2.2.toNat * Enc.sz Tag + 0)) (q_ixH (k := σ5.2.2.toNat) Try.underlying96 ty102 rfl rfl h14 rfl Has.here) (by decide) ?_
      refine Rg.q (v := elp x_v0.1 (σ5.2.2.toNat * Enc.sz Tag + 0)) (q_faH (j := 0) (i := σ5.2.2.toNat) fa102_0 rfl Has.here rfl) (by decide) ?_
      refine Rg.en (e_stH (v := .string (r16)) (i := σ5.2.2.toNat) (j := 0) (cs' := [.string (r16), .string ((nth σ5.1 σ5.2.2.toNat).2)]) ty9 rfl rfl (.cons Del.here .nil) rfl (by simp [Value.cells, Value.oneCell']) (Nat.le_of_ble_eq_true rfl) rfl rfl) rfl ?_
      rintro _ _ _ ⟨rfl, rfl, rfl⟩
      refine Rg.nl ?_
      refine nT (?_)
      refine Tr.seq ?_
      refine Tr.region ?_
      refine Rg.q (v := .int .i64 (σ5.2.1)) (Pu.qo (p_move rfl)) (by decide) ?_
      obtain ⟨h18, H1⟩ := gd.of H1
      refine Rg.q (v := .int .i64 (σ5.2.1 + 1)) (Pu.qo (p_add rfl rfl h18)) (by decide) ?_
      refine Rg.q (v := .int .i64 (σ5.2.1 + 1)) (Pu.qo (p_assign rfl)) (by decide) ?_
      refine Rg.nl ?_
      refine nT (?_)
      refine Tr.seq ?_
      refine Tr.region ?_
      refine Rg.q (v := .slice x_v0.1 v0.length x_v0.2) (Pu.qo (p_move rfl)) (by decide) ?_
      refine Rg.q (v := .int .i64 (σ5.2.2)) (Pu.qo (p_move rfl)) (by decide) ?_
      refine Rg.q (v := .int .i64 (σ5.2.1 + 1)) (Pu.qo (p_move rfl)) (by decide) ?_
      obtain ⟨r19, h20, H1⟩ := bd.of H1
      refine Rg.q (v := .string (r19)) (q_call (vs := [.int .i64 (σ5.2.1 + 1)]) (c_laws_markText (σ5.2.1 + 1) h20) rfl EntsB.nil) (by decide) ?_
      refine Rg.q (v := elp x_v0.1 (σ5.2.2.toNat * Enc.sz Tag + 0)) (q_ixH (k := σ5.2.2.toNat) Try.underlying96 ty102 rfl rfl h14 rfl Has.here) (by decide) ?_
      refine Rg.q (v := elp x_v0.1 (σ5.2.2.toNat * Enc.sz Tag + 1)) (q_faH (j := 0) (i := σ5.2.2.toNat) fa102_1 rfl Has.here rfl) (by decide) ?_
      refine Rg.en (e_stH (v := .string (r19)) (i := σ5.2.2.toNat) (j := 1) (cs' := [.string (r16), .string (r19)]) ty9 rfl rfl (.cons Del.here .nil) rfl (by simp [Value.cells, Value.oneCell']) (Nat.le_of_ble_eq_true rfl) rfl rfl) rfl ?_
      rintro _ _ _ ⟨rfl, rfl, rfl⟩
      refine Rg.nl ?_
      refine nT (?_)
      refine Tr.region ?_
      refine Rg.q (v := .int .i64 (σ5.2.1 + 1)) (Pu.qo (p_move rfl)) (by decide) ?_
      obtain ⟨h21, H1⟩ := gd.of H1
      refine Rg.q (v := .int .i64 ((σ5.2.1 + 1) + 1)) (Pu.qo (p_add rfl rfl h21)) (by decide) ?_
      refine Rg.q (v := .int .i64 ((σ5.2.1 + 1) + 1)) (Pu.qo (p_assign rfl)) (by decide) ?_
      refine Rg.nl ?_
      refine nB (nT (?_))
      refine Tr.region ?_
      refine Rg.q (v := .int .i64 (σ5.2.2)) (Pu.qo (p_move rfl)) (by decide) ?_
      obtain ⟨h22, H1⟩ := gd.of H1
      refine Rg.q (v := .int .i64 (σ5.2.2 + 1)) (Pu.qo (p_add rfl rfl h22)) (by decide) ?_
      refine Rg.q (v := .int .i64 (σ5.2.2 + 1)) (Pu.qo (p_assign rfl)) (by decide) ?_
      refine Rg.nl ?_
      refine At.unzoom (r16, r19) ((), ()) rfl (.cons Del.here .nil) ?_
      exact nLC ⟨(m12, ((σ5.1.set σ5.2.2.toNat (r16, r19)), (σ5.2.1 + 1) + 1, σ5.2.2 + 1), ()), hi9 _ (Option.some.inj H1).symm⟩ (Nat.lt_succ_self _) ⟨rfl, rfl, rfl, trivial⟩ Ents.refl (.cons Del.here .nil)
    · have H1 := cdF h13 H1
      refine tExit (xT (xT (xE (?_))))
      have hx := hb10 _ (Option.some.inj H1).symm; subst hx
      exact nMC () ⟨rfl, trivial⟩ Ents.refl (.cons Del.here .nil)
  · intro y7
    show At _ _ [(1, .int .i64 (x1.1))] _ [tree (.slice x_v0.1 v0.length x_v0.2) x1.2] _
    refine nT (?_)
    refine Tr.seq ?_
    refine Tr.region ?_
    refine Rg.q (v := .int .i64 (x1.1)) (Pu.qo (p_move rfl)) (by decide) ?_
    refine Rg.q (v := .int .i64 (x1.1)) (Pu.qo (p_assign rfl)) (by decide) ?_
    refine Rg.nl ?_
    refine nT (?_)
    refine tRet ?_
    have hr := Option.some.inj H; subst hr
    exact back1 () rfl (ResV.tmp (v := .int .i64 (x1.1)) rfl) rfl Ents.nil (.cons Del.here .nil)
noncomputable def p_laws_markTagSS_b0 (v0 : (List (List Tag))) (σ5 : (List (List Tag)) × Int × Int) : Option (((List (List Tag)) × Int × Int) ⊕ (Int × (List (List Tag)))) := cond (decide (σ5.2.2 < (v0.length : Int))) (gd (ix σ5.2.2 σ5.1.length) <| bd (p_laws_markTagS (nth σ5.1 σ5.2.2.toNat) σ5.2.1) fun r16 => gd (I64 (σ5.2.2 + 1)) <| some (.inl ((σ5.1.set σ5.2.2.toNat r16.2), r16.1, σ5.2.2 + 1))) (some (.inr (σ5.2.1, σ5.1)))
noncomputable def p_laws_markTagSS (v0 : (List (List Tag))) (v1 : Int) : Option (Int × (List (List Tag))) := bd (lp (p_laws_markTagSS_b0 v0) (v0, v1, 0)) fun x1 => some (x1.1, x1.2)
theorem c_laws_markTagSS {r : Int × (List (List Tag))} (v0 : (List (List Tag))) (x_v0 : Option Addr × Nat) (v1 : Int) (H : p_laws_markTagSS v0 v1 = some r) : Fn' Try.prog 58 #[.slice x_v0.1 v0.length x_v0.2, .int .i64 (v1)] [] [tree (.slice x_v0.1 v0.length x_v0.2) v0] (ι := Unit) (fun x => .int .i64 (r.1)) (fun _ => []) (fun x => [tree (.slice x_v0.1 v0.length x_v0.2) r.2]) := by
  refine calls_of (args := [_, _]) Try.func58 rfl (by kernel_rfl) Try.ntmps58 (by simp) fun c => ?_
  unfold p_laws_markTagSS at H
  refine Tr.seq ?_
  refine Tr.region ?_
  refine Rg.q (v := .int .i64 (0)) (Pu.qo (p_assign rfl)) (by decide) ?_
  refine Rg.nl ?_
  refine nT (?_)
  refine Tr.seq ?_
  refine Tr.seq ?_
  refine Tr.region ?_
  refine Rg.q (v := .int .i64 (0)) (Pu.qo (p_assign rfl)) (by decide) ?_
  refine Rg.nl ?_
  refine nT (?_)
  obtain ⟨x1, hx2, H⟩ := bd.of H
  obtain ⟨n3, hx2⟩ := lp.of hx2
  refine tMidNC (ι := Unit) (fun ψ => [(1, .int .i64 (x1.1))]) (fun ψ => [tree (.slice x_v0.1 v0.length x_v0.2) x1.2]) ?_ ?_
  · refine Tr.block ?_
    refine tLoopC (ι := { q : Nat × ((List (List Tag)) × Int × Int) × Unit // itr (p_laws_markTagSS_b0 v0) q.1 q.2.1 = some x1 }) (fun ζ => [(0, .slice x_v0.1 v0.length x_v0.2), (1, .int .i64 (ζ.1.2.1.2.1)), (5, .int .i64 (ζ.1.2.1.2.2))]) (fun ζ => [tree (.slice x_v0.1 v0.length x_v0.2) ζ.1.2.1.1]) (fun ζ => ζ.1.1) ⟨(n3, (v0, v1, 0), ()), hx2⟩ ⟨rfl, rfl, rfl, trivial⟩ (.cons Del.here .nil) ?_
    rintro ⟨⟨m4, σ5, z6⟩, hk11⟩
    obtain ⟨m12, t8, e, H1, hi9, hb10⟩ := itr.of (n := m4) (s := σ5) hk11
    subst e; unfold p_laws_markTagSS_b0 at H1
    show Tr _ _ _ _ _ [(0, .slice x_v0.1 v0.length x_v0.2), (1, .int .i64 (σ5.2.1)), (5, .int .i64 (σ5.2.2))] _ [tree (.slice x_v0.1 v0.length x_v0.2) σ5.1]
    refine Tr.seq ?_
    refine Tr.seq ?_
    refine Tr.region ?_
    refine Rg.q (v := .int .i64 (σ5.2.2)) (Pu.qo (p_move rfl)) (by decide) ?_
    refine Rg.q (v := .slice x_v0.1 v0.length x_v0.2) (Pu.qo (p_move rfl)) (by decide) ?_
    refine Rg.q (v := .int .i64 ((v0.length : Int))) (Pu.qo (p_len 96 Try.underlying50 rfl)) (by decide) ?_
    refine Rg.q (v := .bool (decide (σ5.2.2 < (v0.length : Int)))) (Pu.qo (p_lss rfl rfl)) (by decide) ?_
    refine Rg.nl ?_
    refine nT (?_)
    refine Tr.cond (b := decide (σ5.2.2 < (v0.length : Int))) rfl (fun h13 => ?_) (fun h13 => ?_)
    · have H1 := cdT h13 H1
      refine tSkip ?_
      refine nT (?_)
      refine Tr.seq ?_
      refine Tr.block ?_
      obtain ⟨h14, H1⟩ := gd.of H1
      refine Tr.zoom (k := σ5.2.2.toNat) h14.lt (.cons Del.here .nil) fun x15 => ?_
      show Tr _ _ _ _ _ _ _ (hole (.slice x_v0.1 v0.length x_v0.2) σ5.1 σ5.2.2.toNat [.slice x15.1 ((nth σ5.1 σ5.2.2.toNat).length) x15.2] :: tree (.slice x15.1 ((nth σ5.1 σ5.2.2.toNat).length) x15.2) (nth σ5.1 σ5.2.2.toNat) :: _)
      refine Tr.region ?_
      refine Rg.q (v := .slice x_v0.1 v0.length x_v0.2) (Pu.qo (p_move rfl)) (by decide) ?_
      refine Rg.q (v := .int .i64 (σ5.2.2)) (Pu.qo (p_move rfl)) (by decide) ?_
      refine Rg.q (v := elp x_v0.1 (σ5.2.2.toNat * Enc.sz (List Tag) + 0)) (q_ixH (k := σ5.2.2.toNat) Try.underlying50 ty96 rfl rfl h14 rfl Has.here) (by decide) ?_
      refine Rg.q (v := .slice x15.1 ((nth σ5.1 σ5.2.2.toNat).length) x15.2) (q_ldH (i := σ5.2.2.toNat) (j := 0) ty96 rfl Has.here rfl) (by decide) ?_
      refine Rg.q (v := .int .i64 (σ5.2.1)) (Pu.qo (p_move rfl)) (by decide) ?_
      obtain ⟨r16, h17, H1⟩ := bd.of H1
      refine Rg.ed (e_callM (vs := [.slice x15.1 ((nth σ5.1 σ5.2.2.toNat).length) x15.2, .int .i64 (σ5.2.1)]) (c_laws_markTagS (nth σ5.1 σ5.2.2.toNat) x15 σ5.2.1 h17) (Solo.tree Solo.nil) (fun _ => (Solo.tree Solo.nil)) rfl (.cons Del.here.there .nil) EntsB.nil) rfl (by decide) ?_
      rintro _ _ _ ⟨u18, rfl, rfl, rfl⟩
      refine Rg.q (v := .int .i64 (r16.1)) (Pu.qo (p_assign rfl)) (by decide) ?_
      refine Rg.nl ?_
      refine nB (nT (?_))
      refine Tr.olen Has.here fun hn => ?_; rw [hn]
      refine Tr.region ?_
      refine Rg.q (v := .int .i64 (σ5.2.2)) (Pu.qo (p_move rfl)) (by decide) ?_
      obtain ⟨h19, H1⟩ := gd.of H1
      refine Rg.q (v := .int .i64 (σ5.2.2 + 1)) (Pu.qo (p_add rfl rfl h19)) (by decide) ?_
      refine Rg.q (v := .int .i64 (σ5.2.2 + 1)) (Pu.qo (p_assign rfl)) (by decide) ?_
      refine Rg.nl ?_
      refine At.unzoom r16.2 x15 rfl (.cons Del.here.there (.cons Del.here .nil)) ?_
      exact nLC ⟨(m12, ((σ5.1.set σ5.2.2.toNat r16.2), r16.1, σ5.2.2 + 1), ()), hi9 _ (Option.some.inj H1).symm⟩ (Nat.lt_succ_self _) ⟨rfl, rfl, rfl, trivial⟩ Ents.refl (.cons Del.here .nil)
    · have H1 := cdF h13 H1
      refine tExit (xT (xT (xE (?_))))
      have hx := hb10 _ (Option.some.inj H1).symm; subst hx
      exact nMC () ⟨rfl, trivial⟩ Ents.refl (.cons Del.here .nil)
  · intro y7
    show At _ _ [(1, .int .i64 (x1.1))] _ [tree (.slice x_v0.1 v0.length x_v0.2) x1.2] _
    refine nT (?_)
    refine Tr.seq ?_
    refine Tr.region ?_
    refine Rg.q (v := .int .i64 (x1.1)) (Pu.qo (p_move rfl)) (by decide) ?_
    refine Rg.q (v := .int .i64 (x1.1)) (Pu.qo (p_assign rfl)) (by decide) ?_
    refine Rg.nl ?_
    refine nT (?_)
    refine tRet ?_
    have hr := Option.some.inj H; subst hr
    exact back1 () rfl (ResV.tmp (v := .int .i64 (x1.1)) rfl) rfl Ents.nil (.cons Del.here .nil)
noncomputable def p_laws_markDisk (v0 : Disk) (v1 : Int) : Option (Int × Disk) := bd (p_laws_markFileS v0.1 v1) fun r2 => bd (p_laws_markIntS v0.2.1 r2.1) fun r5 => bd (p_laws_markTagSS v0.2.2.1 r5.1) fun r8 => some (r8.1, (r2.2, r5.2, r8.2, v0.2.2.2))
theorem c_laws_markDisk {r : Int × Disk} (v0 : Disk) (x_v0 : (Option Addr × Nat) × (Option Addr × Nat) × (Option Addr × Nat) × Unit) (v1 : Int) (H : p_laws_markDisk v0 v1 = some r) : Fn' Try.prog 31 #[.agg #[.slice x_v0.1.1 v0.1.length x_v0.1.2, .slice x_v0.2.1.1 v0.2.1.length x_v0.2.1.2, .slice x_v0.2.2.1.1 v0.2.2.1.length x_v0.2.2.1.2, .int .i64 (v0.2.2.2)], .int .i64 (v1)] [] [tree (.slice x_v0.1.1 v0.1.length x_v0.1.2) v0.1, tree (.slice x_v0.2.1.1 v0.2.1.length x_v0.2.1.2) v0.2.1, tree (.slice x_v0.2.2.1.1 v0.2.2.1.length x_v0.2.2.1.2) v0.2.2.1] (ι := Unit) (fun x => .int .i64 (r.1)) (fun _ => []) (fun x => [tree (.slice x_v0.1.1 v0.1.length x_v0.1.2) r.2.1, tree (.slice x_v0.2.1.1 v0.2.1.length x_v0.2.1.2) r.2.2.1, tree (.slice x_v0.2.2.1.1 v0.2.2.1.length x_v0.2.2.1.2) r.2.2.2.1]) := by
  refine calls_of (args := [_, _]) Try.func31 rfl (by kernel_rfl) Try.ntmps31 (by simp) fun c => ?_
  unfold p_laws_markDisk at H
  refine Tr.seq ?_
  refine Tr.region ?_
  refine Rg.ed (e_box (t := 52) (v := .agg #[.slice x_v0.1.1 v0.1.length x_v0.1.2, .slice x_v0.2.1.1 v0.2.1.length x_v0.2.1.2, .slice x_v0.2.2.1.1 v0.2.2.1.length x_v0.2.2.1.2, .int .i64 (v0.2.2.2)]) rfl) rfl (by decide) ?_
  rintro _ _ _ ⟨g1, rfl, rfl, rfl⟩
  refine Rg.q (v := .int .i64 (0)) (Pu.qo (p_assign rfl)) (by decide) ?_
  refine Rg.nl ?_
  refine nT (?_)
  refine Tr.seq ?_
  refine Tr.region ?_
  refine Rg.q (v := .pointer (some ⟨g1, 0, none⟩)) (Pu.qo (p_fabE fa52_0 rfl rfl)) (by decide) ?_
  refine Rg.q (v := .slice x_v0.1.1 v0.1.length x_v0.1.2) (q_ldb ty49 rfl Has.here rfl) (by decide) ?_
  refine Rg.q (v := .int .i64 (v1)) (Pu.qo (p_move rfl)) (by decide) ?_
  obtain ⟨r2, h3, H⟩ := bd.of H
  refine Rg.ed (e_callM (vs := [.slice x_v0.1.1 v0.1.length x_v0.1.2, .int .i64 (v1)]) (c_laws_markFileS v0.1 x_v0.1 v1 h3) (Solo.tree Solo.nil) (fun _ => (Solo.tree Solo.nil)) rfl (.cons Del.here.there .nil) EntsB.nil) rfl (by decide) ?_
  rintro _ _ _ ⟨u4, rfl, rfl, rfl⟩
  refine Rg.q (v := .int .i64 (r2.1)) (Pu.qo (p_assign rfl)) (by decide) ?_
  refine Rg.nl ?_
  refine nT (?_)
  refine Tr.seq ?_
  refine Tr.region ?_
  refine Rg.q (v := .pointer (some ⟨g1, 1, none⟩)) (Pu.qo (p_fabE fa52_1 rfl rfl)) (by decide) ?_
  refine Rg.q (v := .slice x_v0.2.1.1 v0.2.1.length x_v0.2.1.2) (q_ldb ty23 rfl Has.here.there rfl) (by decide) ?_
  refine Rg.q (v := .int .i64 (r2.1)) (Pu.qo (p_move rfl)) (by decide) ?_
  obtain ⟨r5, h6, H⟩ := bd.of H
  refine Rg.ed (e_callM (vs := [.slice x_v0.2.1.1 v0.2.1.length x_v0.2.1.2, .int .i64 (r2.1)]) (c_laws_markIntS v0.2.1 x_v0.2.1 r2.1 h6) (Solo.tree Solo.nil) (fun _ => (Solo.tree Solo.nil)) rfl (.cons Del.here.there.there .nil) EntsB.nil) rfl (by decide) ?_
  rintro _ _ _ ⟨u7, rfl, rfl, rfl⟩
  refine Rg.q (v := .int .i64 (r5.1)) (Pu.qo (p_assign rfl)) (by decide) ?_
  refine Rg.nl ?_
  refine nT (?_)
  refine Tr.seq ?_
  refine Tr.region ?_
  refine Rg.q (v := .pointer (some ⟨g1, 2, none⟩)) (Pu.qo (p_fabE fa52_2 rfl rfl)) (by decide) ?_
  refine Rg.q (v := .slice x_v0.2.2.1.1 v0.2.2.1.length x_v0.2.2.1.2) (q_ldb ty50 rfl Has.here.there.there rfl) (by decide) ?_
  refine Rg.q (v := .int .i64 (r5.1)) (Pu.qo (p_move rfl)) (by decide) ?_
  obtain ⟨r8, h9, H⟩ := bd.of H
  refine Rg.ed (e_callM (vs := [.slice x_v0.2.2.1.1 v0.2.2.1.length x_v0.2.2.1.2, .int .i64 (r5.1)]) (c_laws_markTagSS v0.2.2.1 x_v0.2.2.1 r5.1 h9) (Solo.tree Solo.nil) (fun _ => (Solo.tree Solo.nil)) rfl (.cons Del.here.there.there.there .nil) EntsB.nil) rfl (by decide) ?_
  rintro _ _ _ ⟨u10, rfl, rfl, rfl⟩
  refine Rg.q (v := .int .i64 (r8.1)) (Pu.qo (p_assign rfl)) (by decide) ?_
  refine Rg.nl ?_
  refine nT (?_)
  refine Tr.seq ?_
  refine Tr.region ?_
  refine Rg.q (v := .int .i64 (r8.1)) (Pu.qo (p_move rfl)) (by decide) ?_
  refine Rg.q (v := .int .i64 (r8.1)) (Pu.qo (p_assign rfl)) (by decide) ?_
  refine Rg.nl ?_
  refine nT (?_)
  refine tRet ?_
  have hr := Option.some.inj H; subst hr
  exact back1 () rfl (ResV.tmp (v := .int .i64 (r8.1)) rfl) rfl Ents.nil (.cons Del.here.there.there (.cons Del.here.there (.cons Del.here .nil)))
noncomputable def p_laws_heldFileS_b0 (v0 : (List File)) (σ6 : Int × Int) : Option ((Int × Int) ⊕ (Int ⊕ Int)) := cond (decide (σ6.2 < (v0.length : Int))) (gd (ix σ6.2 v0.length) <| cond (!decide (((nth v0 σ6.2.toNat).1) = σ6.1)) (some (.inr (.inr (-1)))) (gd (I64 (σ6.1 + 1)) <| bd (p_laws_heldIntS (((nth v0 σ6.2.toNat).2).1) (σ6.1 + 1)) fun r18 => cond (decide (r18 < 0)) (some (.inr (.inr (-1)))) (bd (p_laws_heldRowSS (((nth v0 σ6.2.toNat).2).2) r18) fun r21 => cond (decide (r21 < 0)) (some (.inr (.inr (-1)))) (gd (I64 (σ6.2 + 1)) <| some (.inl (r21, σ6.2 + 1)))))) (some (.inr (.inl σ6.1)))
noncomputable def p_laws_heldFileS (v0 : (List File)) (v1 : Int) : Option (Int) := bd (lp (p_laws_heldFileS_b0 v0) (v1, 0)) <| sw (fun e25 => some e25) (fun q => some q)
theorem c_laws_heldFileS {r : Int} (v0 : (List File)) (x_v0 : Option Addr × Nat) (v1 : Int) (H : p_laws_heldFileS v0 v1 = some r) : Fn' Try.prog 59 #[.slice x_v0.1 v0.length x_v0.2, .int .i64 (v1)] [imm (.slice x_v0.1 v0.length x_v0.2) v0] [] (ι := Unit) (fun x => .int .i64 (r)) (fun _ => []) (fun x => []) := by
  refine calls_of (args := [_, _]) Try.func59 rfl (by kernel_rfl) Try.ntmps59 (by simp) fun c => ?_
  unfold p_laws_heldFileS at H
  refine Tr.openD Ent.z fun X1 => ?_
  refine Tr.seq ?_
  refine Tr.region ?_
  refine Rg.q (v := .int .i64 (0)) (Pu.qo (p_assign rfl)) (by decide) ?_
  refine Rg.nl ?_
  refine nT (?_)
  refine Tr.seq ?_
  refine Tr.seq ?_
  refine Tr.region ?_
  refine Rg.q (v := .int .i64 (0)) (Pu.qo (p_assign rfl)) (by decide) ?_
  refine Rg.nl ?_
  refine nT (?_)
  obtain ⟨x2, hx3, H⟩ := bd.of H
  obtain ⟨n4, hx3⟩ := lp.of hx3
  refine tMidNC (ι := { q : (Int) × Unit // x2 = .inl q.1 }) (fun ψ => [(1, .int .i64 (ψ.1.1))]) (fun ψ => []) ?_ ?_
  · refine Tr.block ?_
    refine tLoopC (ι := { q : Nat × (Int × Int) × Unit // itr (p_laws_heldFileS_b0 v0) q.1 q.2.1 = some x2 }) (fun ζ => [(0, .slice x_v0.1 v0.length x_v0.2), (1, .int .i64 (ζ.1.2.1.1)), (5, .int .i64 (ζ.1.2.1.2))]) (fun ζ => []) (fun ζ => ζ.1.1) ⟨(n4, (v1, 0), ()), hx3⟩ ⟨rfl, rfl, rfl, trivial⟩ Take.nil ?_
    rintro ⟨⟨m5, σ6, z7⟩, hk12⟩
    obtain ⟨m13, t9, e, H1, hi10, hb11⟩ := itr.of (n := m5) (s := σ6) hk12
    subst e; unfold p_laws_heldFileS_b0 at H1
    show Tr _ _ _ _ _ [(0, .slice x_v0.1 v0.length x_v0.2), (1, .int .i64 (σ6.1)), (5, .int .i64 (σ6.2))] _ []
    refine Tr.seq ?_
    refine Tr.seq ?_
    refine Tr.region ?_
    refine Rg.q (v := .int .i64 (σ6.2)) (Pu.qo (p_move rfl)) (by decide) ?_
    refine Rg.q (v := .slice x_v0.1 v0.length x_v0.2) (Pu.qo (p_move rfl)) (by decide) ?_
    refine Rg.q (v := .int .i64 ((v0.length : Int))) (Pu.qo (p_len 94 Try.underlying49 rfl)) (by decide) ?_
    refine Rg.q (v := .bool (decide (σ6.2 < (v0.length : Int)))) (Pu.qo (p_lss rfl rfl)) (by decide) ?_
    refine Rg.nl ?_
    refine nT (?_)
    refine Tr.cond (b := decide (σ6.2 < (v0.length : Int))) rfl (fun h14 => ?_) (fun h14 => ?_)
    · have H1 := cdT h14 H1
      refine tSkip ?_
      refine nT (?_)
      refine Tr.seq ?_
      refine Tr.block ?_
      refine Tr.seq ?_
      refine Tr.seq ?_
      refine Tr.region ?_
      refine Rg.q (v := .slice x_v0.1 v0.length x_v0.2) (Pu.qo (p_move rfl)) (by decide) ?_
      refine Rg.q (v := .int .i64 (σ6.2)) (Pu.qo (p_move rfl)) (by decide) ?_
      obtain ⟨h15, H1⟩ := gd.of H1
      refine Rg.q (v := elp x_v0.1 (σ6.2.toNat * Enc.sz File + 0)) (q_ixg (l := v0) (E := fun i => Dp.denc (nth v0 i) (X1 i)) (oa := x_v0.1) Try.underlying49 ty94 rfl rfl h15 rfl (Ent.b (Ent.darr Ent.z))) (by decide) ?_
      refine Rg.q (v := elp x_v0.1 (σ6.2.toNat * Enc.sz File + 0)) (q_faeE (l := v0) (E := fun i => Dp.denc (nth v0 i) (X1 i)) (oa := x_v0.1) (j := 0) σ6.2.toNat fa94_0 rfl (Ent.b (Ent.darr Ent.z)) h15.lt rfl) (by decide) ?_
      refine Rg.q (v := .int .i64 ((nth v0 σ6.2.toNat).1)) (q_lde (l := v0) (E := fun i => Dp.denc (nth v0 i) (X1 i)) (oa := x_v0.1) (i := σ6.2.toNat) (j := 0) ty3 rfl (Ent.b (Ent.darr Ent.z)) h15.lt rfl) (by decide) ?_
      refine Rg.q (v := .int .i64 (σ6.1)) (Pu.qo (p_move rfl)) (by decide) ?_
      refine Rg.q (v := .bool (!decide (((nth v0 σ6.2.toNat).1) = σ6.1))) (Pu.qo (p_neq rfl rfl)) (by decide) ?_
      refine Rg.nl ?_
      refine nT (?_)
      refine Tr.cond (b := !decide (((nth v0 σ6.2.toNat).1) = σ6.1)) rfl (fun h16 => ?_) (fun h16 => ?_)
      · have H1 := cdT h16 H1
        refine Tr.seq ?_
        refine Tr.region ?_
        refine Rg.q (v := .int .i64 (-1)) (Pu.qo (p_assign rfl)) (by decide) ?_
        refine Rg.nl ?_
        refine nT (?_)
        refine tRet ?_
        refine rT (rB (rT (rT (rB (rT (rT (?_)))))))
        have hx := hb11 _ (Option.some.inj H1).symm; subst hx
        replace H := sw.r H
        have hr := Option.some.inj H; subst hr
        exact back1 () rfl (ResV.tmp (v := .int .i64 (-1)) rfl) rfl Ents.nil Take.nil
      · have H1 := cdF h16 H1
        refine tSkip ?_
        refine nT (?_)
        refine Tr.seq ?_
        refine Tr.region ?_
        refine Rg.q (v := .int .i64 (σ6.1)) (Pu.qo (p_move rfl)) (by decide) ?_
        obtain ⟨h17, H1⟩ := gd.of H1
        refine Rg.q (v := .int .i64 (σ6.1 + 1)) (Pu.qo (p_add rfl rfl h17)) (by decide) ?_
        refine Rg.q (v := .int .i64 (σ6.1 + 1)) (Pu.qo (p_assign rfl)) (by decide) ?_
        refine Rg.nl ?_
        refine nT (?_)
        refine Tr.seq ?_
        refine Tr.region ?_
        refine Rg.q (v := .slice x_v0.1 v0.length x_v0.2) (Pu.qo (p_move rfl)) (by decide) ?_
        refine Rg.q (v := .int .i64 (σ6.2)) (Pu.qo (p_move rfl)) (by decide) ?_
        refine Rg.q (v := elp x_v0.1 (σ6.2.toNat * Enc.sz File + 0)) (q_ixg (l := v0) (E := fun i => Dp.denc (nth v0 i) (X1 i)) (oa := x_v0.1) Try.underlying49 ty94 rfl rfl h15 rfl (Ent.b (Ent.darr Ent.z))) (by decide) ?_
        refine Rg.q (v := elp x_v0.1 (σ6.2.toNat * Enc.sz File + 1)) (q_faeE (l := v0) (E := fun i => Dp.denc (nth v0 i) (X1 i)) (oa := x_v0.1) (j := 0) σ6.2.toNat fa94_1 rfl (Ent.b (Ent.darr Ent.z)) h15.lt rfl) (by decide) ?_
        refine Rg.q (v := elp x_v0.1 (σ6.2.toNat * Enc.sz File + 1)) (q_faeE (l := v0) (E := fun i => Dp.denc (nth v0 i) (X1 i)) (oa := x_v0.1) (j := 1) σ6.2.toNat fa26_0 rfl (Ent.b (Ent.darr Ent.z)) h15.lt rfl) (by decide) ?_
        refine Rg.q (v := .slice ((((X1 σ6.2.toNat).2).1).1) ((((nth v0 σ6.2.toNat).2).1).length) ((((X1 σ6.2.toNat).2).1).2.1)) (q_lde (l := v0) (E := fun i => Dp.denc (nth v0 i) (X1 i)) (oa := x_v0.1) (i := σ6.2.toNat) (j := 1) ty23 rfl (Ent.b (Ent.darr Ent.z)) h15.lt rfl) (by decide) ?_
        refine Rg.q (v := .int .i64 (σ6.1 + 1)) (Pu.qo (p_move rfl)) (by decide) ?_
        obtain ⟨r18, h19, H1⟩ := bd.of H1
        refine Rg.q (v := .int .i64 (r18)) (q_call (vs := [.slice ((((X1 σ6.2.toNat).2).1).1) ((((nth v0 σ6.2.toNat).2).1).length) ((((X1 σ6.2.toNat).2).1).2.1), .int .i64 (σ6.1 + 1)]) (c_laws_heldIntS (((nth v0 σ6.2.toNat).2).1) ((((X1 σ6.2.toNat).2).1).1, (((X1 σ6.2.toNat).2).1).2.1) (σ6.1 + 1) h19) rfl (EntsB.cons (Ent.b (Ent.dimm (Ent.dfst (Ent.dsnd (Ent.del Ent.z h15.lt))))) EntsB.nil)) (by decide) ?_
        refine Rg.q (v := .int .i64 (r18)) (Pu.qo (p_assign rfl)) (by decide) ?_
        refine Rg.nl ?_
        refine nT (?_)
        refine Tr.seq ?_
        refine Tr.seq ?_
        refine Tr.region ?_
        refine Rg.q (v := .int .i64 (r18)) (Pu.qo (p_move rfl)) (by decide) ?_
        refine Rg.q (v := .bool (decide (r18 < 0))) (Pu.qo (p_lss rfl rfl)) (by decide) ?_
        refine Rg.nl ?_
        refine nT (?_)
        refine Tr.cond (b := decide (r18 < 0)) rfl (fun h20 => ?_) (fun h20 => ?_)
        · have H1 := cdT h20 H1
          refine Tr.seq ?_
          refine Tr.region ?_
          refine Rg.q (v := .int .i64 (-1)) (Pu.qo (p_assign rfl)) (by decide) ?_
          refine Rg.nl ?_
          refine nT (?_)
          refine tRet ?_
          refine rT (rB (rT (rT (rB (rT (rT (?_)))))))
          have hx := hb11 _ (Option.some.inj H1).symm; subst hx
          replace H := sw.r H
          have hr := Option.some.inj H; subst hr
          exact back1 () rfl (ResV.tmp (v := .int .i64 (-1)) rfl) rfl Ents.nil Take.nil
        · have H1 := cdF h20 H1
          refine tSkip ?_
          refine nT (?_)
          refine Tr.seq ?_
          refine Tr.region ?_
          refine Rg.q (v := .slice x_v0.1 v0.length x_v0.2) (Pu.qo (p_move rfl)) (by decide) ?_
          refine Rg.q (v := .int .i64 (σ6.2)) (Pu.qo (p_move rfl)) (by decide) ?_
          refine Rg.q (v := elp x_v0.1 (σ6.2.toNat * Enc.sz File + 0)) (q_ixg (l := v0) (E := fun i => Dp.denc (nth v0 i) (X1 i)) (oa := x_v0.1) Try.underlying49 ty94 rfl rfl h15 rfl (Ent.b (Ent.darr Ent.z))) (by decide) ?_
          refine Rg.q (v := elp x_v0.1 (σ6.2.toNat * Enc.sz File + 1)) (q_faeE (l := v0) (E := fun i => Dp.denc (nth v0 i) (X1 i)) (oa := x_v0.1) (j := 0) σ6.2.toNat fa94_1 rfl (Ent.b (Ent.darr Ent.z)) h15.lt rfl) (by decide) ?_
          refine Rg.q (v := elp x_v0.1 (σ6.2.toNat * Enc.sz File + 2)) (q_faeE (l := v0) (E := fun i => Dp.denc (nth v0 i) (X1 i)) (oa := x_v0.1) (j := 1) σ6.2.toNat fa26_1 rfl (Ent.b (Ent.darr Ent.z)) h15.lt rfl) (by decide) ?_
          refine Rg.q (v := .slice ((((X1 σ6.2.toNat).2).2).1) ((((nth v0 σ6.2.toNat).2).2).length) ((((X1 σ6.2.toNat).2).2).2.1)) (q_lde (l := v0) (E := fun i => Dp.denc (nth v0 i) (X1 i)) (oa := x_v0.1) (i := σ6.2.toNat) (j := 2) ty24 rfl (Ent.b (Ent.darr Ent.z)) h15.lt rfl) (by decide) ?_
          refine Rg.q (v := .int .i64 (r18)) (Pu.qo (p_move rfl)) (by decide) ?_
          obtain ⟨r21, h22, H1⟩ := bd.of H1
          refine Rg.q (v := .int .i64 (r21)) (q_call (vs := [.slice ((((X1 σ6.2.toNat).2).2).1) ((((nth v0 σ6.2.toNat).2).2).length) ((((X1 σ6.2.toNat).2).2).2.1), .int .i64 (r18)]) (c_laws_heldRowSS (((nth v0 σ6.2.toNat).2).2) ((((X1 σ6.2.toNat).2).2).1, (((X1 σ6.2.toNat).2).2).2.1) r18 h22) rfl (EntsB.cons (Ent.b (Ent.dimm (Ent.dsnd (Ent.dsnd (Ent.del Ent.z h15.lt))))) EntsB.nil)) (by decide) ?_
          refine Rg.q (v := .int .i64 (r21)) (Pu.qo (p_assign rfl)) (by decide) ?_
          refine Rg.nl ?_
          refine nT (?_)
          refine Tr.seq ?_
          refine Tr.region ?_
          refine Rg.q (v := .int .i64 (r21)) (Pu.qo (p_move rfl)) (by decide) ?_
          refine Rg.q (v := .bool (decide (r21 < 0))) (Pu.qo (p_lss rfl rfl)) (by decide) ?_
          refine Rg.nl ?_
          refine nT (?_)
          refine Tr.cond (b := decide (r21 < 0)) rfl (fun h23 => ?_) (fun h23 => ?_)
          · have H1 := cdT h23 H1
            refine Tr.seq ?_
            refine Tr.region ?_
            refine Rg.q (v := .int .i64 (-1)) (Pu.qo (p_assign rfl)) (by decide) ?_
            refine Rg.nl ?_
            refine nT (?_)
            refine tRet ?_
            refine rB (rT (rT (rB (rT (rT (?_))))))
            have hx := hb11 _ (Option.some.inj H1).symm; subst hx
            replace H := sw.r H
            have hr := Option.some.inj H; subst hr
            exact back1 () rfl (ResV.tmp (v := .int .i64 (-1)) rfl) rfl Ents.nil Take.nil
          · have H1 := cdF h23 H1
            refine tSkip ?_
            refine nB (nT (?_))
            refine Tr.region ?_
            refine Rg.q (v := .int .i64 (σ6.2)) (Pu.qo (p_move rfl)) (by decide) ?_
            obtain ⟨h24, H1⟩ := gd.of H1
            refine Rg.q (v := .int .i64 (σ6.2 + 1)) (Pu.qo (p_add rfl rfl h24)) (by decide) ?_
            refine Rg.q (v := .int .i64 (σ6.2 + 1)) (Pu.qo (p_assign rfl)) (by decide) ?_
            refine Rg.nl ?_
            exact nLC ⟨(m13, (r21, σ6.2 + 1), ()), hi10 _ (Option.some.inj H1).symm⟩ (Nat.lt_succ_self _) ⟨rfl, rfl, rfl, trivial⟩ Ents.refl Take.nil
    · have H1 := cdF h14 H1
      refine tExit (xT (xT (xE (?_))))
      exact nMC ⟨(σ6.1, ()), (hb11 _ (Option.some.inj H1).symm).symm⟩ ⟨rfl, trivial⟩ Ents.refl Take.nil
  · rintro ⟨⟨e25, y8⟩, hx⟩; subst hx; replace H := sw.l H
    show At _ _ [(1, .int .i64 (e25))] _ [] _
    refine nT (?_)
    refine Tr.seq ?_
    refine Tr.region ?_
    refine Rg.q (v := .int .i64 (e25)) (Pu.qo (p_move rfl)) (by decide) ?_
    refine Rg.q (v := .int .i64 (e25)) (Pu.qo (p_assign rfl)) (by decide) ?_
    refine Rg.nl ?_
    refine nT (?_)
    refine tRet ?_
    have hr := Option.some.inj H; subst hr
    exact back1 () rfl (ResV.tmp (v := .int .i64 (e25)) rfl) rfl Ents.nil Take.nil
noncomputable def p_laws_heldTagS_b0 (v0 : (List Tag)) (σ5 : Int × Int) : Option ((Int × Int) ⊕ (Int ⊕ Int)) := cond (decide (σ5.2 < (v0.length : Int))) (gd (ix σ5.2 v0.length) <| bd (p_laws_markText σ5.1) fun r15 => cond (!decide ((nth v0 σ5.2.toNat).1 = r15)) (some (.inr (.inr (-1)))) (gd (I64 (σ5.1 + 1)) <| bd (p_laws_markText (σ5.1 + 1)) fun r19 => cond (!decide ((nth v0 σ5.2.toNat).2 = r19)) (some (.inr (.inr (-1)))) (gd (I64 ((σ5.1 + 1) + 1)) <| gd (I64 (σ5.2 + 1)) <| some (.inl ((σ5.1 + 1) + 1, σ5.2 + 1))))) (some (.inr (.inl σ5.1)))
noncomputable def p_laws_heldTagS (v0 : (List Tag)) (v1 : Int) : Option (Int) := bd (lp (p_laws_heldTagS_b0 v0) (v1, 0)) <| sw (fun e24 => some e24) (fun q => some q)
theorem c_laws_heldTagS {r : Int} (v0 : (List Tag)) (x_v0 : Option Addr × Nat) (v1 : Int) (H : p_laws_heldTagS v0 v1 = some r) : Fn' Try.prog 73 #[.slice x_v0.1 v0.length x_v0.2, .int .i64 (v1)] [imm (.slice x_v0.1 v0.length x_v0.2) v0] [] (ι := Unit) (fun x => .int .i64 (r)) (fun _ => []) (fun x => []) := by
  refine calls_of (args := [_, _]) Try.func73 rfl (by kernel_rfl) Try.ntmps73 (by simp) fun c => ?_
  unfold p_laws_heldTagS at H
  refine Tr.seq ?_
  refine Tr.region ?_
  refine Rg.q (v := .int .i64 (0)) (Pu.qo (p_assign rfl)) (by decide) ?_
  refine Rg.nl ?_
  refine nT (?_)
  refine Tr.seq ?_
  refine Tr.seq ?_
  refine Tr.region ?_
  refine Rg.q (v := .int .i64 (0)) (Pu.qo (p_assign rfl)) (by decide) ?_
  refine Rg.nl ?_
  refine nT (?_)
  obtain ⟨x1, hx2, H⟩ := bd.of H
  obtain ⟨n3, hx2⟩ := lp.of hx2
  refine tMidNC (ι := { q : (Int) × Unit // x1 = .inl q.1 }) (fun ψ => [(1, .int .i64 (ψ.1.1))]) (fun ψ => []) ?_ ?_
  · refine Tr.block ?_
    refine tLoopC (ι := { q : Nat × (Int × Int) × Unit // itr (p_laws_heldTagS_b0 v0) q.1 q.2.1 = some x1 }) (fun ζ => [(0, .slice x_v0.1 v0.length x_v0.2), (1, .int .i64 (ζ.1.2.1.1)), (5, .int .i64 (ζ.1.2.1.2))]) (fun ζ => []) (fun ζ => ζ.1.1) ⟨(n3, (v1, 0), ()), hx2⟩ ⟨rfl, rfl, rfl, trivial⟩ Take.nil ?_
    rintro ⟨⟨m4, σ5, z6⟩, hk11⟩
    obtain ⟨m12, t8, e, H1, hi9, hb10⟩ := itr.of (n := m4) (s := σ5) hk11
    subst e; unfold p_laws_heldTagS_b0 at H1
    show Tr _ _ _ _ _ [(0, .slice x_v0.1 v0.length x_v0.2), (1, .int .i64 (σ5.1)), (5, .int .i64 (σ5.2))] _ []
    refine Tr.seq ?_
    refine Tr.seq ?_
    refine Tr.region ?_
    refine Rg.q (v := .int .i64 (σ5.2)) (Pu.qo (p_move rfl)) (by decide) ?_
    refine Rg.q (v := .slice x_v0.1 v0.length x_v0.2) (Pu.qo (p_move rfl)) (by decide) ?_
    refine Rg.q (v := .int .i64 ((v0.length : Int))) (Pu.qo (p_len 102 Try.underlying96 rfl)) (by decide) ?_
    refine Rg.q (v := .bool (decide (σ5.2 < (v0.length : Int)))) (Pu.qo (p_lss rfl rfl)) (by decide) ?_
    refine Rg.nl ?_
    refine nT (?_)
    refine Tr.cond (b := decide (σ5.2 < (v0.length : Int))) rfl (fun h13 => ?_) (fun h13 => ?_)
    · have H1 := cdT h13 H1
      refine tSkip ?_
      refine nT (?_)
      refine Tr.seq ?_
      refine Tr.block ?_
      refine Tr.seq ?_
      refine Tr.seq ?_
      refine tLinS [(0, .slice x_v0.1 v0.length x_v0.2), (1, .int .i64 (σ5.1)), (5, .int .i64 (σ5.2))] Try.mixed (.inr (by kernel_rfl)) ⟨rfl, rfl, rfl, trivial⟩ rfl ?_
      refine Lin.q (v := .slice x_v0.1 v0.length x_v0.2) (by decide) (Pu.qo (p_move rfl)) ?_
      refine Lin.q (v := .int .i64 (σ5.2)) (by decide) (Pu.qo (p_move rfl)) ?_
      obtain ⟨h14, H1⟩ := gd.of H1
      refine Lin.q (v := elp x_v0.1 (σ5.2.toNat * Enc.sz Tag + 0)) (by decide) (q_ixg (l := v0) (E := fun i => Flat.enc (nth v0 i)) (oa := x_v0.1) Try.underlying96 ty102 rfl rfl h14 rfl (EntB.flat (Ent.b Ent.z))) ?_
      refine Lin.q (v := elp x_v0.1 (σ5.2.toNat * Enc.sz Tag + 0)) (by decide) (q_faeE (l := v0) (E := fun i => Flat.enc (nth v0 i)) (oa := x_v0.1) (j := 0) σ5.2.toNat fa102_0 rfl (EntB.flat (Ent.b Ent.z)) h14.lt rfl) ?_
      refine Lin.q (v := .string ((nth v0 σ5.2.toNat).1)) (by decide) (q_lde (l := v0) (E := fun i => Flat.enc (nth v0 i)) (oa := x_v0.1) (i := σ5.2.toNat) (j := 0) ty9 rfl (EntB.flat (Ent.b Ent.z)) h14.lt rfl) ?_
      refine Lin.q (v := .int .i64 (σ5.1)) (by decide) (Pu.qo (p_move rfl)) ?_
      obtain ⟨r15, h16, H1⟩ := bd.of H1
      refine Lin.q (v := .string (r15)) (by decide) (q_call (vs := [.int .i64 (σ5.1)]) (c_laws_markText σ5.1 h16) rfl EntsB.nil) ?_
      refine Lin.q (v := .bool (!decide ((nth v0 σ5.2.toNat).1 = r15))) (by decide) (Pu.qo (p_sneq rfl rfl)) ?_
      show At _ _ _ _ _ _
      refine nT (?_)
      refine Tr.cond (b := !decide ((nth v0 σ5.2.toNat).1 = r15)) rfl (fun h17 => ?_) (fun h17 => ?_)
      · have H1 := cdT h17 H1
        refine Tr.seq ?_
        refine Tr.region ?_
        refine Rg.q (v := .int .i64 (-1)) (Pu.qo (p_assign rfl)) (by decide) ?_
        refine Rg.nl ?_
        refine nT (?_)
        refine tRet ?_
        refine rT (rB (rT (rT (rB (rT (rT (?_)))))))
        have hx := hb10 _ (Option.some.inj H1).symm; subst hx
        replace H := sw.r H
        have hr := Option.some.inj H; subst hr
        exact back1 () rfl (ResV.tmp (v := .int .i64 (-1)) rfl) rfl Ents.nil Take.nil
      · have H1 := cdF h17 H1
        refine tSkip ?_
        refine nT (?_)
        refine Tr.seq ?_
        refine Tr.region ?_
        refine Rg.q (v := .int .i64 (σ5.1)) (Pu.qo (p_move rfl)) (by decide) ?_
        obtain ⟨h18, H1⟩ := gd.of H1
        refine Rg.q (v := .int .i64 (σ5.1 + 1)) (Pu.qo (p_add rfl rfl h18)) (by decide) ?_
        refine Rg.q (v := .int .i64 (σ5.1 + 1)) (Pu.qo (p_assign rfl)) (by decide) ?_
        refine Rg.nl ?_
        refine nT (?_)
        refine Tr.seq ?_
        refine Tr.seq ?_
        refine tLinS [(1, .int .i64 (σ5.1 + 1)), (0, .slice x_v0.1 v0.length x_v0.2), (5, .int .i64 (σ5.2))] Try.mixed (.inr (by kernel_rfl)) ⟨rfl, rfl, rfl, trivial⟩ rfl ?_
        refine Lin.q (v := .slice x_v0.1 v0.length x_v0.2) (by decide) (Pu.qo (p_move rfl)) ?_
        refine Lin.q (v := .int .i64 (σ5.2)) (by decide) (Pu.qo (p_move rfl)) ?_
        refine Lin.q (v := elp x_v0.1 (σ5.2.toNat * Enc.sz Tag + 0)) (by decide) (q_ixg (l := v0) (E := fun i => Flat.enc (nth v0 i)) (oa := x_v0.1) Try.underlying96 ty102 rfl rfl h14 rfl (EntB.flat (Ent.b Ent.z))) ?_
        refine Lin.q (v := elp x_v0.1 (σ5.2.toNat * Enc.sz Tag + 1)) (by decide) (q_faeE (l := v0) (E := fun i => Flat.enc (nth v0 i)) (oa := x_v0.1) (j := 0) σ5.2.toNat fa102_1 rfl (EntB.flat (Ent.b Ent.z)) h14.lt rfl) ?_
        refine Lin.q (v := .string ((nth v0 σ5.2.toNat).2)) (by decide) (q_lde (l := v0) (E := fun i => Flat.enc (nth v0 i)) (oa := x_v0.1) (i := σ5.2.toNat) (j := 1) ty9 rfl (EntB.flat (Ent.b Ent.z)) h14.lt rfl) ?_
        refine Lin.q (v := .int .i64 (σ5.1 + 1)) (by decide) (Pu.qo (p_move rfl)) ?_
        obtain ⟨r19, h20, H1⟩ := bd.of H1
        refine Lin.q (v := .string (r19)) (by decide) (q_call (vs := [.int .i64 (σ5.1 + 1)]) (c_laws_markText (σ5.1 + 1) h20) rfl EntsB.nil) ?_
        refine Lin.q (v := .bool (!decide ((nth v0 σ5.2.toNat).2 = r19))) (by decide) (Pu.qo (p_sneq rfl rfl)) ?_
        show At _ _ _ _ _ _
        refine nT (?_)
        refine Tr.cond (b := !decide ((nth v0 σ5.2.toNat).2 = r19)) rfl (fun h21 => ?_) (fun h21 => ?_)
        · have H1 := cdT h21 H1
          refine Tr.seq ?_
          refine Tr.region ?_
          refine Rg.q (v := .int .i64 (-1)) (Pu.qo (p_assign rfl)) (by decide) ?_
          refine Rg.nl ?_
          refine nT (?_)
          refine tRet ?_
          refine rT (rB (rT (rT (rB (rT (rT (?_)))))))
          have hx := hb10 _ (Option.some.inj H1).symm; subst hx
          replace H := sw.r H
          have hr := Option.some.inj H; subst hr
          exact back1 () rfl (ResV.tmp (v := .int .i64 (-1)) rfl) rfl Ents.nil Take.nil
        · have H1 := cdF h21 H1
          refine tSkip ?_
          refine nT (?_)
          refine Tr.region ?_
          refine Rg.q (v := .int .i64 (σ5.1 + 1)) (Pu.qo (p_move rfl)) (by decide) ?_
          obtain ⟨h22, H1⟩ := gd.of H1
          refine Rg.q (v := .int .i64 ((σ5.1 + 1) + 1)) (Pu.qo (p_add rfl rfl h22)) (by decide) ?_
          refine Rg.q (v := .int .i64 ((σ5.1 + 1) + 1)) (Pu.qo (p_assign rfl)) (by decide) ?_
          refine Rg.nl ?_
          refine nB (nT (?_))
          refine Tr.region ?_
          refine Rg.q (v := .int .i64 (σ5.2)) (Pu.qo (p_move rfl)) (by decide) ?_
          obtain ⟨h23, H1⟩ := gd.of H1
          refine Rg.q (v := .int .i64 (σ5.2 + 1)) (Pu.qo (p_add rfl rfl h23)) (by decide) ?_
          refine Rg.q (v := .int .i64 (σ5.2 + 1)) (Pu.qo (p_assign rfl)) (by decide) ?_
          refine Rg.nl ?_
          exact nLC ⟨(m12, ((σ5.1 + 1) + 1, σ5.2 + 1), ()), hi9 _ (Option.some.inj H1).symm⟩ (Nat.lt_succ_self _) ⟨rfl, rfl, rfl, trivial⟩ Ents.refl Take.nil
    · have H1 := cdF h13 H1
      refine tExit (xT (xT (xE (?_))))
      exact nMC ⟨(σ5.1, ()), (hb10 _ (Option.some.inj H1).symm).symm⟩ ⟨rfl, trivial⟩ Ents.refl Take.nil
  · rintro ⟨⟨e24, y7⟩, hx⟩; subst hx; replace H := sw.l H
    show At _ _ [(1, .int .i64 (e24))] _ [] _
    refine nT (?_)
    refine Tr.seq ?_
    refine Tr.region ?_
    refine Rg.q (v := .int .i64 (e24)) (Pu.qo (p_move rfl)) (by decide) ?_
    refine Rg.q (v := .int .i64 (e24)) (Pu.qo (p_assign rfl)) (by decide) ?_
    refine Rg.nl ?_
    refine nT (?_)
    refine tRet ?_
    have hr := Option.some.inj H; subst hr
    exact back1 () rfl (ResV.tmp (v := .int .i64 (e24)) rfl) rfl Ents.nil Take.nil
noncomputable def p_laws_heldTagSS_b0 (v0 : (List (List Tag))) (σ6 : Int × Int) : Option ((Int × Int) ⊕ (Int ⊕ Int)) := cond (decide (σ6.2 < (v0.length : Int))) (gd (ix σ6.2 v0.length) <| bd (p_laws_heldTagS (nth v0 σ6.2.toNat) σ6.1) fun r16 => cond (decide (r16 < 0)) (some (.inr (.inr (-1)))) (gd (I64 (σ6.2 + 1)) <| some (.inl (r16, σ6.2 + 1)))) (some (.inr (.inl σ6.1)))
noncomputable def p_laws_heldTagSS (v0 : (List (List Tag))) (v1 : Int) : Option (Int) := bd (lp (p_laws_heldTagSS_b0 v0) (v1, 0)) <| sw (fun e20 => some e20) (fun q => some q)
theorem c_laws_heldTagSS {r : Int} (v0 : (List (List Tag))) (x_v0 : Option Addr × Nat) (v1 : Int) (H : p_laws_heldTagSS v0 v1 = some r) : Fn' Try.prog 61 #[.slice x_v0.1 v0.length x_v0.2, .int .i64 (v1)] [imm (.slice x_v0.1 v0.length x_v0.2) v0] [] (ι := Unit) (fun x => .int .i64 (r)) (fun _ => []) (fun x => []) := by
  refine calls_of (args := [_, _]) Try.func61 rfl (by kernel_rfl) Try.ntmps61 (by simp) fun c => ?_
  unfold p_laws_heldTagSS at H
  refine Tr.openD Ent.z fun X1 => ?_
  refine Tr.seq ?_
  refine Tr.region ?_
  refine Rg.q (v := .int .i64 (0)) (Pu.qo (p_assign rfl)) (by decide) ?_
  refine Rg.nl ?_
  refine nT (?_)
  refine Tr.seq ?_
  refine Tr.seq ?_
  refine Tr.region ?_
  refine Rg.q (v := .int .i64 (0)) (Pu.qo (p_assign rfl)) (by decide) ?_
  refine Rg.nl ?_
  refine nT (?_)
  obtain ⟨x2, hx3, H⟩ := bd.of H
  obtain ⟨n4, hx3⟩ := lp.of hx3
  refine tMidNC (ι := { q : (Int) × Unit // x2 = .inl q.1 }) (fun ψ => [(1, .int .i64 (ψ.1.1))]) (fun ψ => []) ?_ ?_
  · refine Tr.block ?_
    refine tLoopC (ι := { q : Nat × (Int × Int) × Unit // itr (p_laws_heldTagSS_b0 v0) q.1 q.2.1 = some x2 }) (fun ζ => [(0, .slice x_v0.1 v0.length x_v0.2), (1, .int .i64 (ζ.1.2.1.1)), (5, .int .i64 (ζ.1.2.1.2))]) (fun ζ => []) (fun ζ => ζ.1.1) ⟨(n4, (v1, 0), ()), hx3⟩ ⟨rfl, rfl, rfl, trivial⟩ Take.nil ?_
    rintro ⟨⟨m5, σ6, z7⟩, hk12⟩
    obtain ⟨m13, t9, e, H1, hi10, hb11⟩ := itr.of (n := m5) (s := σ6) hk12
    subst e; unfold p_laws_heldTagSS_b0 at H1
    show Tr _ _ _ _ _ [(0, .slice x_v0.1 v0.length x_v0.2), (1, .int .i64 (σ6.1)), (5, .int .i64 (σ6.2))] _ []
    refine Tr.seq ?_
    refine Tr.seq ?_
    refine Tr.region ?_
    refine Rg.q (v := .int .i64 (σ6.2)) (Pu.qo (p_move rfl)) (by decide) ?_
    refine Rg.q (v := .slice x_v0.1 v0.length x_v0.2) (Pu.qo (p_move rfl)) (by decide) ?_
    refine Rg.q (v := .int .i64 ((v0.length : Int))) (Pu.qo (p_len 96 Try.underlying50 rfl)) (by decide) ?_
    refine Rg.q (v := .bool (decide (σ6.2 < (v0.length : Int)))) (Pu.qo (p_lss rfl rfl)) (by decide) ?_
    refine Rg.nl ?_
    refine nT (?_)
    refine Tr.cond (b := decide (σ6.2 < (v0.length : Int))) rfl (fun h14 => ?_) (fun h14 => ?_)
    · have H1 := cdT h14 H1
      refine tSkip ?_
      refine nT (?_)
      refine Tr.seq ?_
      refine Tr.block ?_
      refine Tr.seq ?_
      refine Tr.region ?_
      refine Rg.q (v := .slice x_v0.1 v0.length x_v0.2) (Pu.qo (p_move rfl)) (by decide) ?_
      refine Rg.q (v := .int .i64 (σ6.2)) (Pu.qo (p_move rfl)) (by decide) ?_
      obtain ⟨h15, H1⟩ := gd.of H1
      refine Rg.q (v := elp x_v0.1 (σ6.2.toNat * Enc.sz (List Tag) + 0)) (q_ixg (l := v0) (E := fun i => Dp.denc (nth v0 i) (X1 i)) (oa := x_v0.1) Try.underlying50 ty96 rfl rfl h15 rfl (Ent.b (Ent.darr Ent.z))) (by decide) ?_
      refine Rg.q (v := .slice ((X1 σ6.2.toNat).1) ((nth v0 σ6.2.toNat).length) ((X1 σ6.2.toNat).2.1)) (q_lde (l := v0) (E := fun i => Dp.denc (nth v0 i) (X1 i)) (oa := x_v0.1) (i := σ6.2.toNat) (j := 0) ty96 rfl (Ent.b (Ent.darr Ent.z)) h15.lt rfl) (by decide) ?_
      refine Rg.q (v := .int .i64 (σ6.1)) (Pu.qo (p_move rfl)) (by decide) ?_
      obtain ⟨r16, h17, H1⟩ := bd.of H1
      refine Rg.q (v := .int .i64 (r16)) (q_call (vs := [.slice ((X1 σ6.2.toNat).1) ((nth v0 σ6.2.toNat).length) ((X1 σ6.2.toNat).2.1), .int .i64 (σ6.1)]) (c_laws_heldTagS (nth v0 σ6.2.toNat) ((X1 σ6.2.toNat).1, (X1 σ6.2.toNat).2.1) σ6.1 h17) rfl (EntsB.cons (Ent.b (Ent.dimm (Ent.del Ent.z h15.lt))) EntsB.nil)) (by decide) ?_
      refine Rg.q (v := .int .i64 (r16)) (Pu.qo (p_assign rfl)) (by decide) ?_
      refine Rg.nl ?_
      refine nT (?_)
      refine Tr.seq ?_
      refine Tr.region ?_
      refine Rg.q (v := .int .i64 (r16)) (Pu.qo (p_move rfl)) (by decide) ?_
      refine Rg.q (v := .bool (decide (r16 < 0))) (Pu.qo (p_lss rfl rfl)) (by decide) ?_
      refine Rg.nl ?_
      refine nT (?_)
      refine Tr.cond (b := decide (r16 < 0)) rfl (fun h18 => ?_) (fun h18 => ?_)
      · have H1 := cdT h18 H1
        refine Tr.seq ?_
        refine Tr.region ?_
        refine Rg.q (v := .int .i64 (-1)) (Pu.qo (p_assign rfl)) (by decide) ?_
        refine Rg.nl ?_
        refine nT (?_)
        refine tRet ?_
        refine rB (rT (rT (rB (rT (rT (?_))))))
        have hx := hb11 _ (Option.some.inj H1).symm; subst hx
        replace H := sw.r H
        have hr := Option.some.inj H; subst hr
        exact back1 () rfl (ResV.tmp (v := .int .i64 (-1)) rfl) rfl Ents.nil Take.nil
      · have H1 := cdF h18 H1
        refine tSkip ?_
        refine nB (nT (?_))
        refine Tr.region ?_
        refine Rg.q (v := .int .i64 (σ6.2)) (Pu.qo (p_move rfl)) (by decide) ?_
        obtain ⟨h19, H1⟩ := gd.of H1
        refine Rg.q (v := .int .i64 (σ6.2 + 1)) (Pu.qo (p_add rfl rfl h19)) (by decide) ?_
        refine Rg.q (v := .int .i64 (σ6.2 + 1)) (Pu.qo (p_assign rfl)) (by decide) ?_
        refine Rg.nl ?_
        exact nLC ⟨(m13, (r16, σ6.2 + 1), ()), hi10 _ (Option.some.inj H1).symm⟩ (Nat.lt_succ_self _) ⟨rfl, rfl, rfl, trivial⟩ Ents.refl Take.nil
    · have H1 := cdF h14 H1
      refine tExit (xT (xT (xE (?_))))
      exact nMC ⟨(σ6.1, ()), (hb11 _ (Option.some.inj H1).symm).symm⟩ ⟨rfl, trivial⟩ Ents.refl Take.nil
  · rintro ⟨⟨e20, y8⟩, hx⟩; subst hx; replace H := sw.l H
    show At _ _ [(1, .int .i64 (e20))] _ [] _
    refine nT (?_)
    refine Tr.seq ?_
    refine Tr.region ?_
    refine Rg.q (v := .int .i64 (e20)) (Pu.qo (p_move rfl)) (by decide) ?_
    refine Rg.q (v := .int .i64 (e20)) (Pu.qo (p_assign rfl)) (by decide) ?_
    refine Rg.nl ?_
    refine nT (?_)
    refine tRet ?_
    have hr := Option.some.inj H; subst hr
    exact back1 () rfl (ResV.tmp (v := .int .i64 (e20)) rfl) rfl Ents.nil Take.nil
noncomputable def p_laws_heldDisk (v0 : Disk) (v1 : Int) : Option (Int) := bd (p_laws_heldFileS v0.1 v1) fun r4 => cond (decide (r4 < 0)) (some (-1)) (bd (p_laws_heldIntS v0.2.1 r4) fun r7 => cond (decide (r7 < 0)) (some (-1)) (bd (p_laws_heldTagSS v0.2.2.1 r7) fun r10 => cond (decide (r10 < 0)) (some (-1)) (some r10)))
theorem c_laws_heldDisk {r : Int} (v0 : Disk) (x_v0 : (Option Addr × Nat) × (Option Addr × Nat) × (Option Addr × Nat) × Unit) (v1 : Int) (H : p_laws_heldDisk v0 v1 = some r) : Fn' Try.prog 32 #[.agg #[.slice x_v0.1.1 v0.1.length x_v0.1.2, .slice x_v0.2.1.1 v0.2.1.length x_v0.2.1.2, .slice x_v0.2.2.1.1 v0.2.2.1.length x_v0.2.2.1.2, .int .i64 (v0.2.2.2)], .int .i64 (v1)] [imm (.slice x_v0.1.1 v0.1.length x_v0.1.2) v0.1, imm (.slice x_v0.2.1.1 v0.2.1.length x_v0.2.1.2) v0.2.1, imm (.slice x_v0.2.2.1.1 v0.2.2.1.length x_v0.2.2.1.2) v0.2.2.1] [] (ι := Unit) (fun x => .int .i64 (r)) (fun _ => []) (fun x => []) := by
  refine calls_of (args := [_, _]) Try.func32 rfl (by kernel_rfl) Try.ntmps32 (by simp) fun c => ?_
  unfold p_laws_heldDisk at H
  refine Tr.openD Ent.z fun X1 => ?_
  refine Tr.openD Ent.z.s.s.s fun X2 => ?_
  refine Tr.seq ?_
  refine Tr.region ?_
  refine Rg.ed (e_box (t := 52) (v := .agg #[.slice x_v0.1.1 v0.1.length x_v0.1.2, .slice x_v0.2.1.1 v0.2.1.length x_v0.2.1.2, .slice x_v0.2.2.1.1 v0.2.2.1.length x_v0.2.2.1.2, .int .i64 (v0.2.2.2)]) rfl) rfl (by decide) ?_
  rintro _ _ _ ⟨g3, rfl, rfl, rfl⟩
  refine Rg.q (v := .int .i64 (0)) (Pu.qo (p_assign rfl)) (by decide) ?_
  refine Rg.nl ?_
  refine nT (?_)
  refine Tr.seq ?_
  refine Tr.region ?_
  refine Rg.q (v := .pointer (some ⟨g3, 0, none⟩)) (Pu.qo (p_fabE fa52_0 rfl rfl)) (by decide) ?_
  refine Rg.q (v := .slice x_v0.1.1 v0.1.length x_v0.1.2) (q_ldb ty49 rfl Has.here rfl) (by decide) ?_
  refine Rg.q (v := .int .i64 (v1)) (Pu.qo (p_move rfl)) (by decide) ?_
  obtain ⟨r4, h5, H⟩ := bd.of H
  refine Rg.q (v := .int .i64 (r4)) (q_call (vs := [.slice x_v0.1.1 v0.1.length x_v0.1.2, .int .i64 (v1)]) (c_laws_heldFileS v0.1 x_v0.1 v1 h5) rfl (EntsB.cons (Ent.b (Ent.dimm Ent.z.s)) EntsB.nil)) (by decide) ?_
  refine Rg.q (v := .int .i64 (r4)) (Pu.qo (p_assign rfl)) (by decide) ?_
  refine Rg.nl ?_
  refine nT (?_)
  refine Tr.seq ?_
  refine Tr.seq ?_
  refine Tr.region ?_
  refine Rg.q (v := .int .i64 (r4)) (Pu.qo (p_move rfl)) (by decide) ?_
  refine Rg.q (v := .bool (decide (r4 < 0))) (Pu.qo (p_lss rfl rfl)) (by decide) ?_
  refine Rg.nl ?_
  refine nT (?_)
  refine Tr.cond (b := decide (r4 < 0)) rfl (fun h6 => ?_) (fun h6 => ?_)
  · have H := cdT h6 H
    refine Tr.seq ?_
    refine Tr.region ?_
    refine Rg.q (v := .int .i64 (-1)) (Pu.qo (p_assign rfl)) (by decide) ?_
    refine Rg.nl ?_
    refine nT (?_)
    refine tRet ?_
    refine rT (?_)
    have hr := Option.some.inj H; subst hr
    exact back1 () rfl (ResV.tmp (v := .int .i64 (-1)) rfl) rfl Ents.nil Take.nil
  · have H := cdF h6 H
    refine tSkip ?_
    refine nT (?_)
    refine Tr.seq ?_
    refine Tr.region ?_
    refine Rg.q (v := .pointer (some ⟨g3, 1, none⟩)) (Pu.qo (p_fabE fa52_1 rfl rfl)) (by decide) ?_
    refine Rg.q (v := .slice x_v0.2.1.1 v0.2.1.length x_v0.2.1.2) (q_ldb ty23 rfl Has.here rfl) (by decide) ?_
    refine Rg.q (v := .int .i64 (r4)) (Pu.qo (p_move rfl)) (by decide) ?_
    obtain ⟨r7, h8, H⟩ := bd.of H
    refine Rg.q (v := .int .i64 (r7)) (q_call (vs := [.slice x_v0.2.1.1 v0.2.1.length x_v0.2.1.2, .int .i64 (r4)]) (c_laws_heldIntS v0.2.1 x_v0.2.1 r4 h8) rfl (EntsB.cons (Ent.b Ent.z.s.s.s) EntsB.nil)) (by decide) ?_
    refine Rg.q (v := .int .i64 (r7)) (Pu.qo (p_assign rfl)) (by decide) ?_
    refine Rg.nl ?_
    refine nT (?_)
    refine Tr.seq ?_
    refine Tr.seq ?_
    refine Tr.region ?_
    refine Rg.q (v := .int .i64 (r7)) (Pu.qo (p_move rfl)) (by decide) ?_
    refine Rg.q (v := .bool (decide (r7 < 0))) (Pu.qo (p_lss rfl rfl)) (by decide) ?_
    refine Rg.nl ?_
    refine nT (?_)
    refine Tr.cond (b := decide (r7 < 0)) rfl (fun h9 => ?_) (fun h9 => ?_)
    · have H := cdT h9 H
      refine Tr.seq ?_
      refine Tr.region ?_
      refine Rg.q (v := .int .i64 (-1)) (Pu.qo (p_assign rfl)) (by decide) ?_
      refine Rg.nl ?_
      refine nT (?_)
      refine tRet ?_
      refine rT (?_)
      have hr := Option.some.inj H; subst hr
      exact back1 () rfl (ResV.tmp (v := .int .i64 (-1)) rfl) rfl Ents.nil Take.nil
    · have H := cdF h9 H
      refine tSkip ?_
      refine nT (?_)
      refine Tr.seq ?_
      refine Tr.region ?_
      refine Rg.q (v := .pointer (some ⟨g3, 2, none⟩)) (Pu.qo (p_fabE fa52_2 rfl rfl)) (by decide) ?_
      refine Rg.q (v := .slice x_v0.2.2.1.1 v0.2.2.1.length x_v0.2.2.1.2) (q_ldb ty50 rfl Has.here rfl) (by decide) ?_
      refine Rg.q (v := .int .i64 (r7)) (Pu.qo (p_move rfl)) (by decide) ?_
      obtain ⟨r10, h11, H⟩ := bd.of H
      refine Rg.q (v := .int .i64 (r10)) (q_call (vs := [.slice x_v0.2.2.1.1 v0.2.2.1.length x_v0.2.2.1.2, .int .i64 (r7)]) (c_laws_heldTagSS v0.2.2.1 x_v0.2.2.1 r7 h11) rfl (EntsB.cons (Ent.b (Ent.dimm Ent.z)) EntsB.nil)) (by decide) ?_
      refine Rg.q (v := .int .i64 (r10)) (Pu.qo (p_assign rfl)) (by decide) ?_
      refine Rg.nl ?_
      refine nT (?_)
      refine Tr.seq ?_
      refine Tr.seq ?_
      refine Tr.region ?_
      refine Rg.q (v := .int .i64 (r10)) (Pu.qo (p_move rfl)) (by decide) ?_
      refine Rg.q (v := .bool (decide (r10 < 0))) (Pu.qo (p_lss rfl rfl)) (by decide) ?_
      refine Rg.nl ?_
      refine nT (?_)
      refine Tr.cond (b := decide (r10 < 0)) rfl (fun h12 => ?_) (fun h12 => ?_)
      · have H := cdT h12 H
        refine Tr.seq ?_
        refine Tr.region ?_
        refine Rg.q (v := .int .i64 (-1)) (Pu.qo (p_assign rfl)) (by decide) ?_
        refine Rg.nl ?_
        refine nT (?_)
        refine tRet ?_
        refine rT (?_)
        have hr := Option.some.inj H; subst hr
        exact back1 () rfl (ResV.tmp (v := .int .i64 (-1)) rfl) rfl Ents.nil Take.nil
      · have H := cdF h12 H
        refine tSkip ?_
        refine nT (?_)
        refine Tr.seq ?_
        refine Tr.region ?_
        refine Rg.q (v := .int .i64 (r10)) (Pu.qo (p_move rfl)) (by decide) ?_
        refine Rg.q (v := .int .i64 (r10)) (Pu.qo (p_assign rfl)) (by decide) ?_
        refine Rg.nl ?_
        refine nT (?_)
        refine tRet ?_
        have hr := Option.some.inj H; subst hr
        exact back1 () rfl (ResV.tmp (v := .int .i64 (r10)) rfl) rfl Ents.nil Take.nil
noncomputable def p_laws_FnExactDiskNew : Option (Bool) := bd (p_spec_DiskNew) fun r1 => bd (p_impl_DiskNew) fun r5 => bd (p_laws_eqDisk r5 r1) fun r9 => cond (!r9) (some false) (bd (p_laws_markDisk r5 1) fun r12 => bd (p_laws_heldDisk (r12.2.1, r12.2.2.1, r12.2.2.2.1, r5.2.2.2) 1) fun r15 => cond (decide (r15 < 0)) (some false) (cond (!decide (r15 = r12.1)) (some false) (cond (!r9) (some false) (cond (decide (r15 < 0)) (some false) (cond (!decide (r15 = r12.1)) (some false) (some true))))))
theorem c_laws_FnExactDiskNew {r : Bool}  (H : p_laws_FnExactDiskNew = some r) : Fn' Try.prog 8 #[] [] [] (ι := Unit) (fun x => .bool (r)) (fun _ => []) (fun x => []) := by
  refine calls_of (args := []) Try.func8 rfl (by kernel_rfl) Try.ntmps8 (by simp) fun c => ?_
  unfold p_laws_FnExactDiskNew at H
  refine Tr.seq ?_
  refine Tr.region ?_
  refine Rg.q (v := .bool (false)) (Pu.qo (p_assign rfl)) (by decide) ?_
  refine Rg.nl ?_
  refine nT (?_)
  refine Tr.seq ?_
  refine Tr.region ?_
  obtain ⟨r1, h2, H⟩ := bd.of H
  refine Rg.ed (e_callB (vs := []) (c_spec_DiskNew h2) (fun _ => (Solo.tree (Solo.tree (Solo.tree Solo.nil)))) rfl EntsB.nil) rfl (by decide) ?_
  rintro _ _ _ ⟨x3, rfl, rfl, rfl⟩
  refine Rg.ed (e_alloc ty52) rfl (by decide) ?_
  rintro _ _ _ ⟨g4, rfl, rfl, rfl⟩
  refine Rg.en (e_store (v := .agg #[.slice x3.1.1 r1.1.length x3.1.2, .slice x3.2.1.1 r1.2.1.length x3.2.1.2, .slice x3.2.2.1.1 r1.2.2.1.length x3.2.2.1.2, .int .i64 (r1.2.2.2)]) (cs' := [.slice x3.1.1 r1.1.length x3.1.2, .slice x3.2.1.1 r1.2.1.length x3.2.1.2, .slice x3.2.2.1.1 r1.2.2.1.length x3.2.2.1.2, .int .i64 (r1.2.2.2)]) ty52 rfl rfl Upd.here rfl (by simp [Value.cells, Value.oneCell']) (Nat.le_of_ble_eq_true rfl) rfl) rfl ?_
  rintro _ _ _ ⟨rfl, rfl, rfl⟩
  refine Rg.nl ?_
  refine nT (?_)
  refine Tr.seq ?_
  refine Tr.region ?_
  obtain ⟨r5, h6, H⟩ := bd.of H
  refine Rg.ed (e_callB (vs := []) (c_impl_DiskNew h6) (fun _ => (Solo.tree (Solo.tree (Solo.tree Solo.nil)))) rfl EntsB.nil) rfl (by decide) ?_
  rintro _ _ _ ⟨x7, rfl, rfl, rfl⟩
  refine Rg.ed (e_alloc ty52) rfl (by decide) ?_
  rintro _ _ _ ⟨g8, rfl, rfl, rfl⟩
  refine Rg.en (e_store (v := .agg #[.slice x7.1.1 r5.1.length x7.1.2, .slice x7.2.1.1 r5.2.1.length x7.2.1.2, .slice x7.2.2.1.1 r5.2.2.1.length x7.2.2.1.2, .int .i64 (r5.2.2.2)]) (cs' := [.slice x7.1.1 r5.1.length x7.1.2, .slice x7.2.1.1 r5.2.1.length x7.2.1.2, .slice x7.2.2.1.1 r5.2.2.1.length x7.2.2.1.2, .int .i64 (r5.2.2.2)]) ty52 rfl rfl Upd.here rfl (by simp [Value.cells, Value.oneCell']) (Nat.le_of_ble_eq_true rfl) rfl) rfl ?_
  rintro _ _ _ ⟨rfl, rfl, rfl⟩
  refine Rg.nl ?_
  refine nT (?_)
  refine Tr.seq ?_
  refine Tr.seq ?_
  refine Tr.region ?_
  refine Rg.q (v := .agg #[.slice x7.1.1 r5.1.length x7.1.2, .slice x7.2.1.1 r5.2.1.length x7.2.1.2, .slice x7.2.2.1.1 r5.2.2.1.length x7.2.2.1.2, .int .i64 (r5.2.2.2)]) (q_ldbA ty52 rfl Has.here rfl) (by decide) ?_
  refine Rg.q (v := .agg #[.slice x3.1.1 r1.1.length x3.1.2, .slice x3.2.1.1 r1.2.1.length x3.2.1.2, .slice x3.2.2.1.1 r1.2.2.1.length x3.2.2.1.2, .int .i64 (r1.2.2.2)]) (q_ldbA ty52 rfl Has.here.there.there.there.there rfl) (by decide) ?_
  obtain ⟨r9, h10, H⟩ := bd.of H
  refine Rg.q (v := .bool (r9)) (q_call (vs := [.agg #[.slice x7.1.1 r5.1.length x7.1.2, .slice x7.2.1.1 r5.2.1.length x7.2.1.2, .slice x7.2.2.1.1 r5.2.2.1.length x7.2.2.1.2, .int .i64 (r5.2.2.2)], .agg #[.slice x3.1.1 r1.1.length x3.1.2, .slice x3.2.1.1 r1.2.1.length x3.2.1.2, .slice x3.2.2.1.1 r1.2.2.1.length x3.2.2.1.2, .int .i64 (r1.2.2.2)]]) (c_laws_eqDisk r5 (x7.1, x7.2.1, x7.2.2.1, ()) r1 (x3.1, x3.2.1, x3.2.2.1, ()) h10) rfl (EntsB.cons (EntB.tree Has.here.there) (EntsB.cons (EntB.tree Has.here.there.there) (EntsB.cons (EntB.tree Has.here.there.there.there) (EntsB.cons (EntB.tree Has.here.there.there.there.there.there) (EntsB.cons (EntB.tree Has.here.there.there.there.there.there.there) (EntsB.cons (EntB.tree Has.here.there.there.there.there.there.there.there) EntsB.nil))))))) (by decide) ?_
  refine Rg.q (v := .bool (!r9)) (Pu.qo (p_not rfl)) (by decide) ?_
  refine Rg.nl ?_
  refine nT (?_)
  refine Tr.cond (b := !r9) rfl (fun h11 => ?_) (fun h11 => ?_)
  · have H := cdT h11 H
    refine Tr.seq ?_
    refine Tr.region ?_
    refine Rg.q (v := .bool (false)) (Pu.qo (p_assign rfl)) (by decide) ?_
    refine Rg.nl ?_
    refine nT (?_)
    refine tRet ?_
    refine rT (?_)
    have hr := Option.some.inj H; subst hr
    exact back1 () rfl (ResV.tmp (v := .bool (false)) rfl) rfl Ents.nil Take.nil
  · have H := cdF h11 H
    refine tSkip ?_
    refine nT (?_)
    refine Tr.seq ?_
    refine Tr.region ?_
    refine Rg.q (v := .int .i64 (1)) (Pu.qo (p_assign rfl)) (by decide) ?_
    refine Rg.nl ?_
    refine nT (?_)
    refine Tr.seq ?_
    refine Tr.region ?_
    refine Rg.q (v := .agg #[.slice x7.1.1 r5.1.length x7.1.2, .slice x7.2.1.1 r5.2.1.length x7.2.1.2, .slice x7.2.2.1.1 r5.2.2.1.length x7.2.2.1.2, .int .i64 (r5.2.2.2)]) (q_ldbA ty52 rfl Has.here rfl) (by decide) ?_
    refine Rg.q (v := .int .i64 (1)) (Pu.qo (p_move rfl)) (by decide) ?_
    obtain ⟨r12, h13, H⟩ := bd.of H
    refine Rg.ed (e_callM (vs := [.agg #[.slice x7.1.1 r5.1.length x7.1.2, .slice x7.2.1.1 r5.2.1.length x7.2.1.2, .slice x7.2.2.1.1 r5.2.2.1.length x7.2.2.1.2, .int .i64 (r5.2.2.2)], .int .i64 (1)]) (c_laws_markDisk r5 (x7.1, x7.2.1, x7.2.2.1, ()) 1 h13) (Solo.tree (Solo.tree (Solo.tree Solo.nil))) (fun _ => (Solo.tree (Solo.tree (Solo.tree Solo.nil)))) rfl (.cons Del.here.there (.cons Del.here.there (.cons Del.here.there .nil))) EntsB.nil) rfl (by decide) ?_
    rintro _ _ _ ⟨u14, rfl, rfl, rfl⟩
    refine Rg.q (v := .int .i64 (r12.1)) (Pu.qo (p_assign rfl)) (by decide) ?_
    refine Rg.nl ?_
    refine nT (?_)
    refine Tr.seq ?_
    refine Tr.olen Has.here fun hn => ?_; rw [hn]
    refine Tr.olen Has.here.there fun hn => ?_; rw [hn]
    refine Tr.olen Has.here.there.there fun hn => ?_; rw [hn]
    refine Tr.region ?_
    refine Rg.q (v := .int .i64 (1)) (Pu.qo (p_assign rfl)) (by decide) ?_
    refine Rg.nl ?_
    refine nT (?_)
    refine Tr.seq ?_
    refine Tr.region ?_
    refine Rg.q (v := .agg #[.slice x7.1.1 r12.2.1.length x7.1.2, .slice x7.2.1.1 r12.2.2.1.length x7.2.1.2, .slice x7.2.2.1.1 r12.2.2.2.1.length x7.2.2.1.2, .int .i64 (r5.2.2.2)]) (q_ldbA ty52 rfl Has.here.there.there.there rfl) (by decide) ?_
    refine Rg.q (v := .int .i64 (1)) (Pu.qo (p_move rfl)) (by decide) ?_
    obtain ⟨r15, h16, H⟩ := bd.of H
    refine Rg.q (v := .int .i64 (r15)) (q_call (vs := [.agg #[.slice x7.1.1 r12.2.1.length x7.1.2, .slice x7.2.1.1 r12.2.2.1.length x7.2.1.2, .slice x7.2.2.1.1 r12.2.2.2.1.length x7.2.2.1.2, .int .i64 (r5.2.2.2)], .int .i64 (1)]) (c_laws_heldDisk (r12.2.1, r12.2.2.1, r12.2.2.2.1, r5.2.2.2) (x7.1, x7.2.1, x7.2.2.1, ()) 1 h16) rfl (EntsB.cons (EntB.tree Has.here) (EntsB.cons (EntB.tree Has.here.there) (EntsB.cons (EntB.tree Has.here.there.there) EntsB.nil)))) (by decide) ?_
    refine Rg.q (v := .int .i64 (r15)) (Pu.qo (p_assign rfl)) (by decide) ?_
    refine Rg.nl ?_
    refine nT (?_)
    refine Tr.seq ?_
    refine Tr.seq ?_
    refine Tr.region ?_
    refine Rg.q (v := .int .i64 (r15)) (Pu.qo (p_move rfl)) (by decide) ?_
    refine Rg.q (v := .bool (decide (r15 < 0))) (Pu.qo (p_lss rfl rfl)) (by decide) ?_
    refine Rg.nl ?_
    refine nT (?_)
    refine Tr.cond (b := decide (r15 < 0)) rfl (fun h17 => ?_) (fun h17 => ?_)
    · have H := cdT h17 H
      refine Tr.seq ?_
      refine Tr.region ?_
      refine Rg.q (v := .bool (false)) (Pu.qo (p_assign rfl)) (by decide) ?_
      refine Rg.nl ?_
      refine nT (?_)
      refine tRet ?_
      refine rT (?_)
      have hr := Option.some.inj H; subst hr
      exact back1 () rfl (ResV.tmp (v := .bool (false)) rfl) rfl Ents.nil Take.nil
    · have H := cdF h17 H
      refine tSkip ?_
      refine nT (?_)
      refine Tr.seq ?_
      refine Tr.seq ?_
      refine Tr.region ?_
      refine Rg.q (v := .int .i64 (r15)) (Pu.qo (p_move rfl)) (by decide) ?_
      refine Rg.q (v := .int .i64 (r12.1)) (Pu.qo (p_move rfl)) (by decide) ?_
      refine Rg.q (v := .bool (!decide (r15 = r12.1))) (Pu.qo (p_neq rfl rfl)) (by decide) ?_
      refine Rg.nl ?_
      refine nT (?_)
      refine Tr.cond (b := !decide (r15 = r12.1)) rfl (fun h18 => ?_) (fun h18 => ?_)
      · have H := cdT h18 H
        refine Tr.seq ?_
        refine Tr.region ?_
        refine Rg.q (v := .bool (false)) (Pu.qo (p_assign rfl)) (by decide) ?_
        refine Rg.nl ?_
        refine nT (?_)
        refine tRet ?_
        refine rT (?_)
        have hr := Option.some.inj H; subst hr
        exact back1 () rfl (ResV.tmp (v := .bool (false)) rfl) rfl Ents.nil Take.nil
      · have H := cdF h18 H
        refine tSkip ?_
        refine nT (?_)
        refine Tr.seq ?_
        refine Tr.region ?_
        refine Rg.ed (e_callB (vs := []) (c_impl_DiskNew h6) (fun _ => (Solo.tree (Solo.tree (Solo.tree Solo.nil)))) rfl EntsB.nil) rfl (by decide) ?_
        rintro _ _ _ ⟨x19, rfl, rfl, rfl⟩
        refine Rg.ed (e_alloc ty52) rfl (by decide) ?_
        rintro _ _ _ ⟨g20, rfl, rfl, rfl⟩
        refine Rg.en (e_store (v := .agg #[.slice x19.1.1 r5.1.length x19.1.2, .slice x19.2.1.1 r5.2.1.length x19.2.1.2, .slice x19.2.2.1.1 r5.2.2.1.length x19.2.2.1.2, .int .i64 (r5.2.2.2)]) (cs' := [.slice x19.1.1 r5.1.length x19.1.2, .slice x19.2.1.1 r5.2.1.length x19.2.1.2, .slice x19.2.2.1.1 r5.2.2.1.length x19.2.2.1.2, .int .i64 (r5.2.2.2)]) ty52 rfl rfl Upd.here rfl (by simp [Value.cells, Value.oneCell']) (Nat.le_of_ble_eq_true rfl) rfl) rfl ?_
        rintro _ _ _ ⟨rfl, rfl, rfl⟩
        refine Rg.nl ?_
        refine nT (?_)
        refine Tr.seq ?_
        refine Tr.seq ?_
        refine Tr.region ?_
        refine Rg.q (v := .agg #[.slice x19.1.1 r5.1.length x19.1.2, .slice x19.2.1.1 r5.2.1.length x19.2.1.2, .slice x19.2.2.1.1 r5.2.2.1.length x19.2.2.1.2, .int .i64 (r5.2.2.2)]) (q_ldbA ty52 rfl Has.here rfl) (by decide) ?_
        refine Rg.q (v := .agg #[.slice x3.1.1 r1.1.length x3.1.2, .slice x3.2.1.1 r1.2.1.length x3.2.1.2, .slice x3.2.2.1.1 r1.2.2.1.length x3.2.2.1.2, .int .i64 (r1.2.2.2)]) (q_ldbA ty52 rfl Has.here.there.there.there.there.there.there.there.there rfl) (by decide) ?_
        refine Rg.q (v := .bool (r9)) (q_call (vs := [.agg #[.slice x19.1.1 r5.1.length x19.1.2, .slice x19.2.1.1 r5.2.1.length x19.2.1.2, .slice x19.2.2.1.1 r5.2.2.1.length x19.2.2.1.2, .int .i64 (r5.2.2.2)], .agg #[.slice x3.1.1 r1.1.length x3.1.2, .slice x3.2.1.1 r1.2.1.length x3.2.1.2, .slice x3.2.2.1.1 r1.2.2.1.length x3.2.2.1.2, .int .i64 (r1.2.2.2)]]) (c_laws_eqDisk r5 (x19.1, x19.2.1, x19.2.2.1, ()) r1 (x3.1, x3.2.1, x3.2.2.1, ()) h10) rfl (EntsB.cons (EntB.tree Has.here.there) (EntsB.cons (EntB.tree Has.here.there.there) (EntsB.cons (EntB.tree Has.here.there.there.there) (EntsB.cons (EntB.tree Has.here.there.there.there.there.there.there.there.there.there) (EntsB.cons (EntB.tree Has.here.there.there.there.there.there.there.there.there.there.there) (EntsB.cons (EntB.tree Has.here.there.there.there.there.there.there.there.there.there.there.there) EntsB.nil))))))) (by decide) ?_
        refine Rg.q (v := .bool (!r9)) (Pu.qo (p_not rfl)) (by decide) ?_
        refine Rg.nl ?_
        refine nT (?_)
        refine Tr.cond (b := !r9) rfl (fun h21 => ?_) (fun h21 => ?_)
        · have H := cdT h21 H
          refine Tr.seq ?_
          refine Tr.region ?_
          refine Rg.q (v := .bool (false)) (Pu.qo (p_assign rfl)) (by decide) ?_
          refine Rg.nl ?_
          refine nT (?_)
          refine tRet ?_
          refine rT (?_)
          have hr := Option.some.inj H; subst hr
          exact back1 () rfl (ResV.tmp (v := .bool (false)) rfl) rfl Ents.nil Take.nil
        · have H := cdF h21 H
          refine tSkip ?_
          refine nT (?_)
          refine Tr.seq ?_
          refine Tr.region ?_
          refine Rg.q (v := .int .i64 (1)) (Pu.qo (p_assign rfl)) (by decide) ?_
          refine Rg.nl ?_
          refine nT (?_)
          refine Tr.seq ?_
          refine Tr.region ?_
          refine Rg.q (v := .agg #[.slice x7.1.1 r12.2.1.length x7.1.2, .slice x7.2.1.1 r12.2.2.1.length x7.2.1.2, .slice x7.2.2.1.1 r12.2.2.2.1.length x7.2.2.1.2, .int .i64 (r5.2.2.2)]) (q_ldbA ty52 rfl Has.here.there.there.there.there.there.there.there rfl) (by decide) ?_
          refine Rg.q (v := .int .i64 (1)) (Pu.qo (p_move rfl)) (by decide) ?_
          refine Rg.q (v := .int .i64 (r15)) (q_call (vs := [.agg #[.slice x7.1.1 r12.2.1.length x7.1.2, .slice x7.2.1.1 r12.2.2.1.length x7.2.1.2, .slice x7.2.2.1.1 r12.2.2.2.1.length x7.2.2.1.2, .int .i64 (r5.2.2.2)], .int .i64 (1)]) (c_laws_heldDisk (r12.2.1, r12.2.2.1, r12.2.2.2.1, r5.2.2.2) (x7.1, x7.2.1, x7.2.2.1, ()) 1 h16) rfl (EntsB.cons (EntB.tree Has.here.there.there.there.there) (EntsB.cons (EntB.tree Has.here.there.there.there.there.there) (EntsB.cons (EntB.tree Has.here.there.there.there.there.there.there) EntsB.nil)))) (by decide) ?_
          refine Rg.q (v := .int .i64 (r15)) (Pu.qo (p_assign rfl)) (by decide) ?_
          refine Rg.nl ?_
          refine nT (?_)
          refine Tr.seq ?_
          refine Tr.seq ?_
          refine Tr.region ?_
          refine Rg.q (v := .int .i64 (r15)) (Pu.qo (p_move rfl)) (by decide) ?_
          refine Rg.q (v := .bool (decide (r15 < 0))) (Pu.qo (p_lss rfl rfl)) (by decide) ?_
          refine Rg.nl ?_
          refine nT (?_)
          refine Tr.cond (b := decide (r15 < 0)) rfl (fun h22 => ?_) (fun h22 => ?_)
          · have H := cdT h22 H
            refine Tr.seq ?_
            refine Tr.region ?_
            refine Rg.q (v := .bool (false)) (Pu.qo (p_assign rfl)) (by decide) ?_
            refine Rg.nl ?_
            refine nT (?_)
            refine tRet ?_
            refine rT (?_)
            have hr := Option.some.inj H; subst hr
            exact back1 () rfl (ResV.tmp (v := .bool (false)) rfl) rfl Ents.nil Take.nil
          · have H := cdF h22 H
            refine tSkip ?_
            refine nT (?_)
            refine Tr.seq ?_
            refine Tr.seq ?_
            refine Tr.region ?_
            refine Rg.q (v := .int .i64 (r15)) (Pu.qo (p_move rfl)) (by decide) ?_
            refine Rg.q (v := .int .i64 (r12.1)) (Pu.qo (p_move rfl)) (by decide) ?_
            refine Rg.q (v := .bool (!decide (r15 = r12.1))) (Pu.qo (p_neq rfl rfl)) (by decide) ?_
            refine Rg.nl ?_
            refine nT (?_)
            refine Tr.cond (b := !decide (r15 = r12.1)) rfl (fun h23 => ?_) (fun h23 => ?_)
            · have H := cdT h23 H
              refine Tr.seq ?_
              refine Tr.region ?_
              refine Rg.q (v := .bool (false)) (Pu.qo (p_assign rfl)) (by decide) ?_
              refine Rg.nl ?_
              refine nT (?_)
              refine tRet ?_
              refine rT (?_)
              have hr := Option.some.inj H; subst hr
              exact back1 () rfl (ResV.tmp (v := .bool (false)) rfl) rfl Ents.nil Take.nil
            · have H := cdF h23 H
              refine tSkip ?_
              refine nT (?_)
              refine Tr.seq ?_
              refine Tr.region ?_
              refine Rg.q (v := .bool (true)) (Pu.qo (p_assign rfl)) (by decide) ?_
              refine Rg.nl ?_
              refine nT (?_)
              refine tRet ?_
              have hr := Option.some.inj H; subst hr
              exact back1 () rfl (ResV.tmp (v := .bool (true)) rfl) rfl Ents.nil Take.nil
def p_spec_l6Open (v0 : (List UInt8)) : Option (L6Rd) := cond (decide (2000 < (v0.length : Int))) (gd (sl2 0 2000 v0.length) <| some (((v0.take 2000).drop 0), 0)) (some (v0, 0))
theorem c_spec_l6Open {r : L6Rd} (v0 : (List UInt8)) (x_v0 : Option Addr × Nat) (H : p_spec_l6Open v0 = some r) : Fn' Try.prog 36 #[.slice x_v0.1 v0.length x_v0.2] [imm (.slice x_v0.1 v0.length x_v0.2) v0] [] (ι := Nat × ((Option Addr × Nat) × Unit)) (fun x => .pointer (some ⟨x.1, 0, none⟩)) (fun x => [imm (.slice x.2.1.1 r.1.length x.2.1.2) r.1]) (fun x => [box x.1 85 [.slice x.2.1.1 r.1.length x.2.1.2, .int .i64 (r.2)]]) := by
  refine calls_of (args := [_]) Try.func36 rfl (by kernel_rfl) Try.ntmps36 (by simp) fun c => ?_
  unfold p_spec_l6Open at H
  refine Tr.seq ?_
  refine Tr.region ?_
  refine Rg.q (v := .pointer none) (Pu.qo (p_assign rfl)) (by decide) ?_
  refine Rg.nl ?_
  refine nT (?_)
  refine Tr.seq ?_
  refine Tr.seq ?_
  refine Tr.region ?_
  refine Rg.q (v := .slice x_v0.1 v0.length x_v0.2) (Pu.qo (p_move rfl)) (by decide) ?_
  refine Rg.q (v := .int .i64 ((v0.length : Int))) (Pu.qo (p_len 5 Try.underlying22 rfl)) (by decide) ?_
  refine Rg.q (v := .bool (decide (2000 < (v0.length : Int)))) (Pu.qo (p_gtr rfl rfl)) (by decide) ?_
  refine Rg.nl ?_
  refine nT (?_)
  refine Tr.cond (b := decide (2000 < (v0.length : Int))) rfl (fun h1 => ?_) (fun h1 => ?_)
  · have H := cdT h1 H
    refine Tr.region ?_
    refine Rg.q (v := .slice x_v0.1 v0.length x_v0.2) (Pu.qo (p_move rfl)) (by decide) ?_
    obtain ⟨h2, H⟩ := gd.of H
    refine Rg.q (v := .slice (subA x_v0.1 x_v0.2 0 (Enc.sz UInt8)) (((v0.take 2000).drop 0).length) (x_v0.2 - 0)) (q_slF (l := v0) (α := UInt8) 0 2000 Try.underlying22 ty5 rfl rfl (fun _ => rfl) rfl (fun h => nomatch h) h2 (Ent.b Ent.z)) (by decide) ?_
    refine Rg.q (v := .slice (subA x_v0.1 x_v0.2 0 (Enc.sz UInt8)) (((v0.take 2000).drop 0).length) (x_v0.2 - 0)) (Pu.qo (p_assign rfl)) (by decide) ?_
    refine Rg.nl ?_
    refine nT (?_)
    refine Tr.seq ?_
    refine Tr.region ?_
    refine Rg.q (v := .slice (subA x_v0.1 x_v0.2 0 (Enc.sz UInt8)) (((v0.take 2000).drop 0).length) (x_v0.2 - 0)) (Pu.qo (p_move rfl)) (by decide) ?_
    refine Rg.q (v := .agg #[.slice (subA x_v0.1 x_v0.2 0 (Enc.sz UInt8)) (((v0.take 2000).drop 0).length) (x_v0.2 - 0), .int .i64 (0)]) (Pu.qo (p_buildS (vs := [(0, .slice (subA x_v0.1 x_v0.2 0 (Enc.sz UInt8)) (((v0.take 2000).drop 0).length) (x_v0.2 - 0))]) (cs := #[.slice (subA x_v0.1 x_v0.2 0 (Enc.sz UInt8)) (((v0.take 2000).drop 0).length) (x_v0.2 - 0), .int .i64 (0)]) ty85 pl85 rfl rfl)) (by decide) ?_
    refine Rg.ed (e_box (t := 85) (v := .agg #[.slice (subA x_v0.1 x_v0.2 0 (Enc.sz UInt8)) (((v0.take 2000).drop 0).length) (x_v0.2 - 0), .int .i64 (0)]) rfl) rfl (by decide) ?_
    rintro _ _ _ ⟨g3, rfl, rfl, rfl⟩
    refine Rg.q (v := .pointer (some ⟨g3, 0, none⟩)) (Pu.qo (p_assign rfl)) (by decide) ?_
    refine Rg.nl ?_
    refine nT (?_)
    refine tRet ?_
    have hr := Option.some.inj H; subst hr
    exact back1 (g3, ((subA x_v0.1 x_v0.2 0 (Enc.sz UInt8), (x_v0.2 - 0)), ())) rfl (ResV.tmp (v := .pointer (some ⟨g3, 0, none⟩)) rfl) rfl (Ents.cons (Ent.sub Ent.z h2.le h2.lt) Ents.nil) (.cons Del.here .nil)
  · have H := cdF h1 H
    refine tSkip ?_
    refine nT (?_)
    refine Tr.seq ?_
    refine Tr.region ?_
    refine Rg.q (v := .slice x_v0.1 v0.length x_v0.2) (Pu.qo (p_move rfl)) (by decide) ?_
    refine Rg.q (v := .agg #[.slice x_v0.1 v0.length x_v0.2, .int .i64 (0)]) (Pu.qo (p_buildS (vs := [(0, .slice x_v0.1 v0.length x_v0.2)]) (cs := #[.slice x_v0.1 v0.length x_v0.2, .int .i64 (0)]) ty85 pl85 rfl rfl)) (by decide) ?_
    refine Rg.ed (e_box (t := 85) (v := .agg #[.slice x_v0.1 v0.length x_v0.2, .int .i64 (0)]) rfl) rfl (by decide) ?_
    rintro _ _ _ ⟨g4, rfl, rfl, rfl⟩
    refine Rg.q (v := .pointer (some ⟨g4, 0, none⟩)) (Pu.qo (p_assign rfl)) (by decide) ?_
    refine Rg.nl ?_
    refine nT (?_)
    refine tRet ?_
    have hr := Option.some.inj H; subst hr
    exact back1 (g4, (x_v0, ())) rfl (ResV.tmp (v := .pointer (some ⟨g4, 0, none⟩)) rfl) rfl (Ents.cons Ent.z Ents.nil) (.cons Del.here .nil)
def p_spec_l6Rd_pick (v0 : L6Rd) (v1 : Int) : Option (Int × Int) := gd (I64 (v0.2 + 1)) <| bd (cond (decide (v1 < 1)) (some (true)) (some (decide ((v0.1.length : Int) = 0)))) fun b2 => cond (b2) (some (0, v0.2 + 1)) (gd (I64 ((v0.2 + 1) - 1)) <| cond (decide (((v0.2 + 1) - 1) < (v0.1.length : Int))) (gd (ix ((v0.2 + 1) - 1) v0.1.length) <| gd (v1 ≠ 0) <| gd (I64 (((nth v0.1 (((v0.2 + 1) - 1).toNat)).toNat : Int).tmod v1)) <| some (((nth v0.1 (((v0.2 + 1) - 1).toNat)).toNat : Int).tmod v1, v0.2 + 1)) (gd ((v0.1.length : Int) ≠ 0) <| gd (I64 (((v0.2 + 1) - 1).tmod (v0.1.length : Int))) <| gd (ix (((v0.2 + 1) - 1).tmod (v0.1.length : Int)) v0.1.length) <| gd (I64 (((nth v0.1 ((((v0.2 + 1) - 1).tmod (v0.1.length : Int)).toNat)).toNat : Int) * 131)) <| gd (I64 (((v0.2 + 1) - 1) * 7)) <| gd (I64 ((((v0.2 + 1) - 1) * 7) + 3)) <| gd (I64 (((((v0.2 + 1) - 1) * 7) + 3).tmod (v0.1.length : Int))) <| gd (ix (((((v0.2 + 1) - 1) * 7) + 3).tmod (v0.1.length : Int)) v0.1.length) <| gd (I64 (((nth v0.1 ((((((v0.2 + 1) - 1) * 7) + 3).tmod (v0.1.length : Int)).toNat)).toNat : Int) * 1117)) <| gd (I64 ((((nth v0.1 ((((v0.2 + 1) - 1).tmod (v0.1.length : Int)).toNat)).toNat : Int) * 131) + (((nth v0.1 ((((((v0.2 + 1) - 1) * 7) + 3).tmod (v0.1.length : Int)).toNat)).toNat : Int) * 1117))) <| gd (I64 (((v0.2 + 1) - 1) * 29)) <| gd (I64 (((((nth v0.1 ((((v0.2 + 1) - 1).tmod (v0.1.length : Int)).toNat)).toNat : Int) * 131) + (((nth v0.1 ((((((v0.2 + 1) - 1) * 7) + 3).tmod (v0.1.length : Int)).toNat)).toNat : Int) * 1117)) + (((v0.2 + 1) - 1) * 29))) <| gd (I64 (((v0.2 + 1) - 1).tdiv (v0.1.length : Int))) <| gd (I64 ((((v0.2 + 1) - 1).tdiv (v0.1.length : Int)) * 53)) <| gd (I64 ((((((nth v0.1 ((((v0.2 + 1) - 1).tmod (v0.1.length : Int)).toNat)).toNat : Int) * 131) + (((nth v0.1 ((((((v0.2 + 1) - 1) * 7) + 3).tmod (v0.1.length : Int)).toNat)).toNat : Int) * 1117)) + (((v0.2 + 1) - 1) * 29)) + ((((v0.2 + 1) - 1).tdiv (v0.1.length : Int)) * 53))) <| gd (I64 (((((((nth v0.1 ((((v0.2 + 1) - 1).tmod (v0.1.length : Int)).toNat)).toNat : Int) * 131) + (((nth v0.1 ((((((v0.2 + 1) - 1) * 7) + 3).tmod (v0.1.length : Int)).toNat)).toNat : Int) * 1117)) + (((v0.2 + 1) - 1) * 29)) + ((((v0.2 + 1) - 1).tdiv (v0.1.length : Int)) * 53)).tdiv 64)) <| gd (nn ((((((nth v0.1 ((((v0.2 + 1) - 1).tmod (v0.1.length : Int)).toNat)).toNat : Int) * 131) + (((nth v0.1 ((((((v0.2 + 1) - 1) * 7) + 3).tmod (v0.1.length : Int)).toNat)).toNat : Int) * 1117)) + (((v0.2 + 1) - 1) * 29)) + ((((v0.2 + 1) - 1).tdiv (v0.1.length : Int)) * 53))) <| gd (nn (((((((nth v0.1 ((((v0.2 + 1) - 1).tmod (v0.1.length : Int)).toNat)).toNat : Int) * 131) + (((nth v0.1 ((((((v0.2 + 1) - 1) * 7) + 3).tmod (v0.1.length : Int)).toNat)).toNat : Int) * 1117)) + (((v0.2 + 1) - 1) * 29)) + ((((v0.2 + 1) - 1).tdiv (v0.1.length : Int)) * 53)).tdiv 64)) <| gd (v1 ≠ 0) <| gd (I64 ((xr ((((((nth v0.1 ((((v0.2 + 1) - 1).tmod (v0.1.length : Int)).toNat)).toNat : Int) * 131) + (((nth v0.1 ((((((v0.2 + 1) - 1) * 7) + 3).tmod (v0.1.length : Int)).toNat)).toNat : Int) * 1117)) + (((v0.2 + 1) - 1) * 29)) + ((((v0.2 + 1) - 1).tdiv (v0.1.length : Int)) * 53)) (((((((nth v0.1 ((((v0.2 + 1) - 1).tmod (v0.1.length : Int)).toNat)).toNat : Int) * 131) + (((nth v0.1 ((((((v0.2 + 1) - 1) * 7) + 3).tmod (v0.1.length : Int)).toNat)).toNat : Int) * 1117)) + (((v0.2 + 1) - 1) * 29)) + ((((v0.2 + 1) - 1).tdiv (v0.1.length : Int)) * 53)).tdiv 64)).tmod v1)) <| some ((xr ((((((nth v0.1 ((((v0.2 + 1) - 1).tmod (v0.1.length : Int)).toNat)).toNat : Int) * 131) + (((nth v0.1 ((((((v0.2 + 1) - 1) * 7) + 3).tmod (v0.1.length : Int)).toNat)).toNat : Int) * 1117)) + (((v0.2 + 1) - 1) * 29)) + ((((v0.2 + 1) - 1).tdiv (v0.1.length : Int)) * 53)) (((((((nth v0.1 ((((v0.2 + 1) - 1).tmod (v0.1.length : Int)).toNat)).toNat : Int) * 131) + (((nth v0.1 ((((((v0.2 + 1) - 1) * 7) + 3).tmod (v0.1.length : Int)).toNat)).toNat : Int) * 1117)) + (((v0.2 + 1) - 1) * 29)) + ((((v0.2 + 1) - 1).tdiv (v0.1.length : Int)) * 53)).tdiv 64)).tmod v1, v0.2 + 1)))
theorem c_spec_l6Rd_pick {r : Int × Int} (g_v0 : Nat) (v0 : L6Rd) (x_v0 : (Option Addr × Nat) × Unit) (v1 : Int) (H : p_spec_l6Rd_pick v0 v1 = some r) : Fn' Try.prog 38 #[.pointer (some ⟨g_v0, 0, none⟩), .int .i64 (v1)] [imm (.slice x_v0.1.1 v0.1.length x_v0.1.2) v0.1] [box g_v0 85 [.slice x_v0.1.1 v0.1.length x_v0.1.2, .int .i64 (v0.2)]] (ι := Unit) (fun x => .int .i64 (r.1)) (fun _ => []) (fun x => [box g_v0 85 [.slice x_v0.1.1 v0.1.length x_v0.1.2, .int .i64 (r.2)]]) := by
  refine calls_of (args := [_, _]) Try.func38 rfl (by kernel_rfl) Try.ntmps38 (by simp) fun c => ?_
  unfold p_spec_l6Rd_pick at H
  refine Tr.seq ?_
  refine Tr.region ?_
  refine Rg.q (v := .int .i64 (0)) (Pu.qo (p_assign rfl)) (by decide) ?_
  refine Rg.nl ?_
  refine nT (?_)
  refine Tr.seq ?_
  refine Tr.region ?_
  refine Rg.q (v := .pointer (some ⟨g_v0, 0, none⟩)) (Pu.qo (p_move rfl)) (by decide) ?_
  refine Rg.q (v := .pointer (some ⟨g_v0, 0, none⟩)) (Pu.qo (p_move rfl)) (by decide) ?_
  refine Rg.q (v := .pointer (some ⟨g_v0, 0, none⟩)) (Pu.qo (p_nil rfl)) (by decide) ?_
  refine Rg.q (v := .pointer (some ⟨g_v0, 1, none⟩)) (Pu.qo (p_fabE fa85_1 rfl rfl)) (by decide) ?_
  refine Rg.q (v := .int .i64 (v0.2)) (q_ldb ty3 rfl Has.here rfl) (by decide) ?_
  obtain ⟨h1, H⟩ := gd.of H
  refine Rg.q (v := .int .i64 (v0.2 + 1)) (Pu.qo (p_add rfl rfl h1)) (by decide) ?_
  refine Rg.q (v := .pointer (some ⟨g_v0, 0, none⟩)) (Pu.qo (p_nil rfl)) (by decide) ?_
  refine Rg.q (v := .pointer (some ⟨g_v0, 1, none⟩)) (Pu.qo (p_fabE fa85_1 rfl rfl)) (by decide) ?_
  refine Rg.en (e_store (v := .int .i64 (v0.2 + 1)) (cs' := [.slice x_v0.1.1 v0.1.length x_v0.1.2, .int .i64 (v0.2 + 1)]) ty3 rfl rfl Upd.here rfl (by simp [Value.cells, Value.oneCell']) (Nat.le_of_ble_eq_true rfl) rfl) rfl ?_
  rintro _ _ _ ⟨rfl, rfl, rfl⟩
  refine Rg.nl ?_
  refine nT (?_)
  refine Tr.seq ?_
  obtain ⟨b2, j3, H⟩ := bd.of H
  refine tMid1 [(24, .bool (b2)), (0, .pointer (some ⟨g_v0, 0, none⟩)), (1, .int .i64 (v1))] ?_ ?_
  · refine tLinS [(0, .pointer (some ⟨g_v0, 0, none⟩)), (1, .int .i64 (v1))] Try.mixed (.inl rfl) ⟨rfl, rfl, trivial⟩ rfl ?_
    refine Lin.q (v := .int .i64 (v1)) (by decide) (Pu.qo (p_move rfl)) ?_
    refine Lin.q (v := .bool (decide (v1 < 1))) (by decide) (Pu.qo (p_lss rfl rfl)) ?_
    rcases Bool.eq_false_or_eq_true (decide (v1 < 1)) with h4 | h4
    · have j3 := cdT h4 j3
      refine Lin.q (v := .bool (true)) (by decide) (Qo.eqv (v := .bool (decide (v1 < 1))) (Pu.qo (p_move rfl)) (congrArg Value.bool h4)) ?_
      refine Lin.skip (by decide) rfl ?_
      refine Lin.skip (by decide) rfl ?_
      refine Lin.skip (by decide) rfl ?_
      refine Lin.skip (by decide) rfl ?_
      refine Lin.skip (by decide) rfl ?_
      refine Lin.skip (by decide) rfl ?_
      refine Lin.q (v := .bool (true)) (by decide) (Pu.qo (p_pickT rfl rfl)) ?_
      have j3 := Option.some.inj j3; subst j3
      show At _ _ _ _ _ _
      exact n1 ⟨rfl, rfl, rfl, trivial⟩
    · have j3 := cdF h4 j3
      refine Lin.q (v := .bool (false)) (by decide) (Qo.eqv (v := .bool (decide (v1 < 1))) (Pu.qo (p_move rfl)) (congrArg Value.bool h4)) ?_
      refine Lin.g (v := .pointer (some ⟨g_v0, 0, none⟩)) (by decide) rfl (Pu.qo (p_move rfl)) ?_
      refine Lin.g (v := .pointer (some ⟨g_v0, 0, none⟩)) (by decide) rfl (Pu.qo (p_nil rfl)) ?_
      refine Lin.g (v := .pointer (some ⟨g_v0, 0, none⟩)) (by decide) rfl (Pu.qo (p_fabE fa85_0 rfl rfl)) ?_
      refine Lin.g (v := .slice x_v0.1.1 v0.1.length x_v0.1.2) (by decide) rfl (q_ldb ty22 rfl Has.here rfl) ?_
      refine Lin.g (v := .int .i64 ((v0.1.length : Int))) (by decide) rfl (Pu.qo (p_len 5 Try.underlying22 rfl)) ?_
      refine Lin.g (v := .bool (decide ((v0.1.length : Int) = 0))) (by decide) rfl (Pu.qo (p_eql rfl rfl)) ?_
      refine Lin.q (v := .bool (decide ((v0.1.length : Int) = 0))) (by decide) (Pu.qo (p_pickF rfl rfl)) ?_
      have j3 := Option.some.inj j3; subst j3
      show At _ _ _ _ _ _
      exact n1 ⟨rfl, rfl, rfl, trivial⟩
  refine Tr.cond (b := b2) rfl (fun h5 => ?_) (fun h5 => ?_)
  · have H := cdT h5 H
    refine Tr.seq ?_
    refine Tr.region ?_
    refine Rg.q (v := .int .i64 (0)) (Pu.qo (p_assign rfl)) (by decide) ?_
    refine Rg.nl ?_
    refine nT (?_)
    refine tRet ?_
    refine rT (?_)
    have hr := Option.some.inj H; subst hr
    exact back1 () rfl (ResV.tmp (v := .int .i64 (0)) rfl) rfl Ents.nil (.cons Del.here .nil)
  · have H := cdF h5 H
    refine tSkip ?_
    refine nT (?_)
    refine Tr.seq ?_
    refine Tr.region ?_
    refine Rg.q (v := .pointer (some ⟨g_v0, 0, none⟩)) (Pu.qo (p_move rfl)) (by decide) ?_
    refine Rg.q (v := .pointer (some ⟨g_v0, 0, none⟩)) (Pu.qo (p_nil rfl)) (by decide) ?_
    refine Rg.q (v := .pointer (some ⟨g_v0, 1, none⟩)) (Pu.qo (p_fabE fa85_1 rfl rfl)) (by decide) ?_
    refine Rg.q (v := .int .i64 (v0.2 + 1)) (q_ldb ty3 rfl Has.here rfl) (by decide) ?_
    obtain ⟨h6, H⟩ := gd.of H
    refine Rg.q (v := .int .i64 ((v0.2 + 1) - 1)) (Pu.qo (p_sub rfl rfl h6)) (by decide) ?_
    refine Rg.q (v := .int .i64 ((v0.2 + 1) - 1)) (Pu.qo (p_assign rfl)) (by decide) ?_
    refine Rg.nl ?_
    refine nT (?_)
    refine Tr.seq ?_
    refine Tr.seq ?_
    refine Tr.region ?_
    refine Rg.q (v := .int .i64 ((v0.2 + 1) - 1)) (Pu.qo (p_move rfl)) (by decide) ?_
    refine Rg.q (v := .pointer (some ⟨g_v0, 0, none⟩)) (Pu.qo (p_move rfl)) (by decide) ?_
    refine Rg.q (v := .pointer (some ⟨g_v0, 0, none⟩)) (Pu.qo (p_nil rfl)) (by decide) ?_
    refine Rg.q (v := .pointer (some ⟨g_v0, 0, none⟩)) (Pu.qo (p_fabE fa85_0 rfl rfl)) (by decide) ?_
    refine Rg.q (v := .slice x_v0.1.1 v0.1.length x_v0.1.2) (q_ldb ty22 rfl Has.here rfl) (by decide) ?_
    refine Rg.q (v := .int .i64 ((v0.1.length : Int))) (Pu.qo (p_len 5 Try.underlying22 rfl)) (by decide) ?_
    refine Rg.q (v := .bool (decide (((v0.2 + 1) - 1) < (v0.1.length : Int)))) (Pu.qo (p_lss rfl rfl)) (by decide) ?_
    refine Rg.nl ?_
    refine nT (?_)
    refine Tr.cond (b := decide (((v0.2 + 1) - 1) < (v0.1.length : Int))) rfl (fun h7 => ?_) (fun h7 => ?_)
    · have H := cdT h7 H
      refine Tr.seq ?_
      refine Tr.region ?_
      refine Rg.q (v := .pointer (some ⟨g_v0, 0, none⟩)) (Pu.qo (p_move rfl)) (by decide) ?_
      refine Rg.q (v := .pointer (some ⟨g_v0, 0, none⟩)) (Pu.qo (p_nil rfl)) (by decide) ?_
      refine Rg.q (v := .pointer (some ⟨g_v0, 0, none⟩)) (Pu.qo (p_fabE fa85_0 rfl rfl)) (by decide) ?_
      refine Rg.q (v := .slice x_v0.1.1 v0.1.length x_v0.1.2) (q_ldb ty22 rfl Has.here rfl) (by decide) ?_
      refine Rg.q (v := .int .i64 ((v0.2 + 1) - 1)) (Pu.qo (p_move rfl)) (by decide) ?_
      obtain ⟨h8, H⟩ := gd.of H
      refine Rg.q (v := elp x_v0.1.1 ((((v0.2 + 1) - 1).toNat) * Enc.sz UInt8 + 0)) (q_ixg (l := v0.1) (E := fun i => Flat.enc (nth v0.1 i)) (oa := x_v0.1.1) Try.underlying22 ty5 rfl rfl h8 rfl (EntB.flat (Ent.b Ent.z))) (by decide) ?_
      refine Rg.q (v := .int .u8 ((nth v0.1 (((v0.2 + 1) - 1).toNat)).toNat : Int)) (q_lde (l := v0.1) (E := fun i => Flat.enc (nth v0.1 i)) (oa := x_v0.1.1) (i := ((v0.2 + 1) - 1).toNat) (j := 0) ty5 rfl (EntB.flat (Ent.b Ent.z)) h8.lt rfl) (by decide) ?_
      refine Rg.q (v := .int .i64 (((nth v0.1 (((v0.2 + 1) - 1).toNat)).toNat : Int))) (Pu.qo (p_i8 Try.underlying5 Try.underlying3 rfl)) (by decide) ?_
      refine Rg.q (v := .int .i64 (v1)) (Pu.qo (p_move rfl)) (by decide) ?_
      obtain ⟨h9, H⟩ := gd.of H
      obtain ⟨h10, H⟩ := gd.of H
      refine Rg.q (v := .int .i64 (((nth v0.1 (((v0.2 + 1) - 1).toNat)).toNat : Int).tmod v1)) (Pu.qo (p_rem rfl rfl h9 h10)) (by decide) ?_
      refine Rg.q (v := .int .i64 (((nth v0.1 (((v0.2 + 1) - 1).toNat)).toNat : Int).tmod v1)) (Pu.qo (p_assign rfl)) (by decide) ?_
      refine Rg.nl ?_
      refine nT (?_)
      refine tRet ?_
      refine rT (?_)
      have hr := Option.some.inj H; subst hr
      exact back1 () rfl (ResV.tmp (v := .int .i64 (((nth v0.1 (((v0.2 + 1) - 1).toNat)).toNat : Int).tmod v1)) rfl) rfl Ents.nil (.cons Del.here .nil)
    · have H := cdF h7 H
      refine tSkip ?_
      refine nT (?_)
      refine Tr.seq ?_
      refine tLinS [(5, .int .i64 ((v0.2 + 1) - 1)), (0, .pointer (some ⟨g_v0, 0, none⟩)), (1, .int .i64 (v1))] Try.mixed (.inr (by kernel_rfl)) ⟨rfl, rfl, rfl, trivial⟩ rfl ?_
      refine Lin.q (v := .pointer (some ⟨g_v0, 0, none⟩)) (by decide) (Pu.qo (p_move rfl)) ?_
      refine Lin.q (v := .pointer (some ⟨g_v0, 0, none⟩)) (by decide) (Pu.qo (p_nil rfl)) ?_
      refine Lin.q (v := .pointer (some ⟨g_v0, 0, none⟩)) (by decide) (Pu.qo (p_fabE fa85_0 rfl rfl)) ?_
      refine Lin.q (v := .slice x_v0.1.1 v0.1.length x_v0.1.2) (by decide) (q_ldb ty22 rfl Has.here rfl) ?_
      refine Lin.q (v := .int .i64 ((v0.2 + 1) - 1)) (by decide) (Pu.qo (p_move rfl)) ?_
      refine Lin.q (v := .pointer (some ⟨g_v0, 0, none⟩)) (by decide) (Pu.qo (p_move rfl)) ?_
      refine Lin.q (v := .pointer (some ⟨g_v0, 0, none⟩)) (by decide) (Pu.qo (p_nil rfl)) ?_
      refine Lin.q (v := .pointer (some ⟨g_v0, 0, none⟩)) (by decide) (Pu.qo (p_fabE fa85_0 rfl rfl)) ?_
      refine Lin.q (v := .slice x_v0.1.1 v0.1.length x_v0.1.2) (by decide) (q_ldb ty22 rfl Has.here rfl) ?_
      refine Lin.q (v := .int .i64 ((v0.1.length : Int))) (by decide) (Pu.qo (p_len 5 Try.underlying22 rfl)) ?_
      obtain ⟨h11, H⟩ := gd.of H
      obtain ⟨h12, H⟩ := gd.of H
      refine Lin.q (v := .int .i64 (((v0.2 + 1) - 1).tmod (v0.1.length : Int))) (by decide) (Pu.qo (p_rem rfl rfl h11 h12)) ?_
      obtain ⟨h13, H⟩ := gd.of H
      refine Lin.q (v := elp x_v0.1.1 (((((v0.2 + 1) - 1).tmod (v0.1.length : Int)).toNat) * Enc.sz UInt8 + 0)) (by decide) (q_ixg (l := v0.1) (E := fun i => Flat.enc (nth v0.1 i)) (oa := x_v0.1.1) Try.underlying22 ty5 rfl rfl h13 rfl (EntB.flat (Ent.b Ent.z))) ?_
      refine Lin.q (v := .int .u8 ((nth v0.1 ((((v0.2 + 1) - 1).tmod (v0.1.length : Int)).toNat)).toNat : Int)) (by decide) (q_lde (l := v0.1) (E := fun i => Flat.enc (nth v0.1 i)) (oa := x_v0.1.1) (i := (((v0.2 + 1) - 1).tmod (v0.1.length : Int)).toNat) (j := 0) ty5 rfl (EntB.flat (Ent.b Ent.z)) h13.lt rfl) ?_
      refine Lin.q (v := .int .i64 (((nth v0.1 ((((v0.2 + 1) - 1).tmod (v0.1.length : Int)).toNat)).toNat : Int))) (by decide) (Pu.qo (p_i8 Try.underlying5 Try.underlying3 rfl)) ?_
      obtain ⟨h14, H⟩ := gd.of H
      refine Lin.q (v := .int .i64 (((nth v0.1 ((((v0.2 + 1) - 1).tmod (v0.1.length : Int)).toNat)).toNat : Int) * 131)) (by decide) (Pu.qo (p_mul rfl rfl h14)) ?_
      refine Lin.q (v := .pointer (some ⟨g_v0, 0, none⟩)) (by decide) (Pu.qo (p_move rfl)) ?_
      refine Lin.q (v := .pointer (some ⟨g_v0, 0, none⟩)) (by decide) (Pu.qo (p_nil rfl)) ?_
      refine Lin.q (v := .pointer (some ⟨g_v0, 0, none⟩)) (by decide) (Pu.qo (p_fabE fa85_0 rfl rfl)) ?_
      refine Lin.q (v := .slice x_v0.1.1 v0.1.length x_v0.1.2) (by decide) (q_ldb ty22 rfl Has.here rfl) ?_
      refine Lin.q (v := .int .i64 ((v0.2 + 1) - 1)) (by decide) (Pu.qo (p_move rfl)) ?_
      obtain ⟨h15, H⟩ := gd.of H
      refine Lin.q (v := .int .i64 (((v0.2 + 1) - 1) * 7)) (by decide) (Pu.qo (p_mul rfl rfl h15)) ?_
      obtain ⟨h16, H⟩ := gd.of H
      refine Lin.q (v := .int .i64 ((((v0.2 + 1) - 1) * 7) + 3)) (by decide) (Pu.qo (p_add rfl rfl h16)) ?_
      refine Lin.q (v := .pointer (some ⟨g_v0, 0, none⟩)) (by decide) (Pu.qo (p_move rfl)) ?_
      refine Lin.q (v := .pointer (some ⟨g_v0, 0, none⟩)) (by decide) (Pu.qo (p_nil rfl)) ?_
      refine Lin.q (v := .pointer (some ⟨g_v0, 0, none⟩)) (by decide) (Pu.qo (p_fabE fa85_0 rfl rfl)) ?_
      refine Lin.q (v := .slice x_v0.1.1 v0.1.length x_v0.1.2) (by decide) (q_ldb ty22 rfl Has.here rfl) ?_
      refine Lin.q (v := .int .i64 ((v0.1.length : Int))) (by decide) (Pu.qo (p_len 5 Try.underlying22 rfl)) ?_
      obtain ⟨h17, H⟩ := gd.of H
      refine Lin.q (v := .int .i64 (((((v0.2 + 1) - 1) * 7) + 3).tmod (v0.1.length : Int))) (by decide) (Pu.qo (p_rem rfl rfl h11 h17)) ?_
      obtain ⟨h18, H⟩ := gd.of H
      refine Lin.q (v := elp x_v0.1.1 (((((((v0.2 + 1) - 1) * 7) + 3).tmod (v0.1.length : Int)).toNat) * Enc.sz UInt8 + 0)) (by decide) (q_ixg (l := v0.1) (E := fun i => Flat.enc (nth v0.1 i)) (oa := x_v0.1.1) Try.underlying22 ty5 rfl rfl h18 rfl (EntB.flat (Ent.b Ent.z))) ?_
      refine Lin.q (v := .int .u8 ((nth v0.1 ((((((v0.2 + 1) - 1) * 7) + 3).tmod (v0.1.length : Int)).toNat)).toNat : Int)) (by decide) (q_lde (l := v0.1) (E := fun i => Flat.enc (nth v0.1 i)) (oa := x_v0.1.1) (i := (((((v0.2 + 1) - 1) * 7) + 3).tmod (v0.1.length : Int)).toNat) (j := 0) ty5 rfl (EntB.flat (Ent.b Ent.z)) h18.lt rfl) ?_
      refine Lin.q (v := .int .i64 (((nth v0.1 ((((((v0.2 + 1) - 1) * 7) + 3).tmod (v0.1.length : Int)).toNat)).toNat : Int))) (by decide) (Pu.qo (p_i8 Try.underlying5 Try.underlying3 rfl)) ?_
      obtain ⟨h19, H⟩ := gd.of H
      refine Lin.q (v := .int .i64 (((nth v0.1 ((((((v0.2 + 1) - 1) * 7) + 3).tmod (v0.1.length : Int)).toNat)).toNat : Int) * 1117)) (by decide) (Pu.qo (p_mul rfl rfl h19)) ?_
      obtain ⟨h20, H⟩ := gd.of H
      refine Lin.q (v := .int .i64 ((((nth v0.1 ((((v0.2 + 1) - 1).tmod (v0.1.length : Int)).toNat)).toNat : Int) * 131) + (((nth v0.1 ((((((v0.2 + 1) - 1) * 7) + 3).tmod (v0.1.length : Int)).toNat)).toNat : Int) * 1117))) (by decide) (Pu.qo (p_add rfl rfl h20)) ?_
      refine Lin.q (v := .int .i64 ((v0.2 + 1) - 1)) (by decide) (Pu.qo (p_move rfl)) ?_
      obtain ⟨h21, H⟩ := gd.of H
      refine Lin.q (v := .int .i64 (((v0.2 + 1) - 1) * 29)) (by decide) (Pu.qo (p_mul rfl rfl h21)) ?_
      obtain ⟨h22, H⟩ := gd.of H
      refine Lin.q (v := .int .i64 (((((nth v0.1 ((((v0.2 + 1) - 1).tmod (v0.1.length : Int)).toNat)).toNat : Int) * 131) + (((nth v0.1 ((((((v0.2 + 1) - 1) * 7) + 3).tmod (v0.1.length : Int)).toNat)).toNat : Int) * 1117)) + (((v0.2 + 1) - 1) * 29))) (by decide) (Pu.qo (p_add rfl rfl h22)) ?_
      refine Lin.q (v := .int .i64 ((v0.2 + 1) - 1)) (by decide) (Pu.qo (p_move rfl)) ?_
      refine Lin.q (v := .pointer (some ⟨g_v0, 0, none⟩)) (by decide) (Pu.qo (p_move rfl)) ?_
      refine Lin.q (v := .pointer (some ⟨g_v0, 0, none⟩)) (by decide) (Pu.qo (p_nil rfl)) ?_
      refine Lin.q (v := .pointer (some ⟨g_v0, 0, none⟩)) (by decide) (Pu.qo (p_fabE fa85_0 rfl rfl)) ?_
      refine Lin.q (v := .slice x_v0.1.1 v0.1.length x_v0.1.2) (by decide) (q_ldb ty22 rfl Has.here rfl) ?_
      refine Lin.q (v := .int .i64 ((v0.1.length : Int))) (by decide) (Pu.qo (p_len 5 Try.underlying22 rfl)) ?_
      obtain ⟨h23, H⟩ := gd.of H
      refine Lin.q (v := .int .i64 (((v0.2 + 1) - 1).tdiv (v0.1.length : Int))) (by decide) (Pu.qo (p_quo rfl rfl h11 h23)) ?_
      obtain ⟨h24, H⟩ := gd.of H
      refine Lin.q (v := .int .i64 ((((v0.2 + 1) - 1).tdiv (v0.1.length : Int)) * 53)) (by decide) (Pu.qo (p_mul rfl rfl h24)) ?_
      obtain ⟨h25, H⟩ := gd.of H
      refine Lin.q (v := .int .i64 ((((((nth v0.1 ((((v0.2 + 1) - 1).tmod (v0.1.length : Int)).toNat)).toNat : Int) * 131) + (((nth v0.1 ((((((v0.2 + 1) - 1) * 7) + 3).tmod (v0.1.length : Int)).toNat)).toNat : Int) * 1117)) + (((v0.2 + 1) - 1) * 29)) + ((((v0.2 + 1) - 1).tdiv (v0.1.length : Int)) * 53))) (by decide) (Pu.qo (p_add rfl rfl h25)) ?_
      refine Lin.q (v := .int .i64 ((((((nth v0.1 ((((v0.2 + 1) - 1).tmod (v0.1.length : Int)).toNat)).toNat : Int) * 131) + (((nth v0.1 ((((((v0.2 + 1) - 1) * 7) + 3).tmod (v0.1.length : Int)).toNat)).toNat : Int) * 1117)) + (((v0.2 + 1) - 1) * 29)) + ((((v0.2 + 1) - 1).tdiv (v0.1.length : Int)) * 53))) (by decide) (Pu.qo (p_assign rfl)) ?_
      show At _ _ _ _ _ _
      refine nT (?_)
      refine Tr.seq ?_
      refine Tr.region ?_
      refine Rg.q (v := .int .i64 ((((((nth v0.1 ((((v0.2 + 1) - 1).tmod (v0.1.length : Int)).toNat)).toNat : Int) * 131) + (((nth v0.1 ((((((v0.2 + 1) - 1) * 7) + 3).tmod (v0.1.length : Int)).toNat)).toNat : Int) * 1117)) + (((v0.2 + 1) - 1) * 29)) + ((((v0.2 + 1) - 1).tdiv (v0.1.length : Int)) * 53))) (Pu.qo (p_move rfl)) (by decide) ?_
      refine Rg.q (v := .int .i64 ((((((nth v0.1 ((((v0.2 + 1) - 1).tmod (v0.1.length : Int)).toNat)).toNat : Int) * 131) + (((nth v0.1 ((((((v0.2 + 1) - 1) * 7) + 3).tmod (v0.1.length : Int)).toNat)).toNat : Int) * 1117)) + (((v0.2 + 1) - 1) * 29)) + ((((v0.2 + 1) - 1).tdiv (v0.1.length : Int)) * 53))) (Pu.qo (p_move rfl)) (by decide) ?_
      obtain ⟨h26, H⟩ := gd.of H
      refine Rg.q (v := .int .i64 (((((((nth v0.1 ((((v0.2 + 1) - 1).tmod (v0.1.length : Int)).toNat)).toNat : Int) * 131) + (((nth v0.1 ((((((v0.2 + 1) - 1) * 7) + 3).tmod (v0.1.length : Int)).toNat)).toNat : Int) * 1117)) + (((v0.2 + 1) - 1) * 29)) + ((((v0.2 + 1) - 1).tdiv (v0.1.length : Int)) * 53)).tdiv 64)) (Pu.qo (p_quo rfl rfl (by decide) h26)) (by decide) ?_
      obtain ⟨h27, H⟩ := gd.of H
      obtain ⟨h28, H⟩ := gd.of H
      refine Rg.q (v := .int .i64 (xr ((((((nth v0.1 ((((v0.2 + 1) - 1).tmod (v0.1.length : Int)).toNat)).toNat : Int) * 131) + (((nth v0.1 ((((((v0.2 + 1) - 1) * 7) + 3).tmod (v0.1.length : Int)).toNat)).toNat : Int) * 1117)) + (((v0.2 + 1) - 1) * 29)) + ((((v0.2 + 1) - 1).tdiv (v0.1.length : Int)) * 53)) (((((((nth v0.1 ((((v0.2 + 1) - 1).tmod (v0.1.length : Int)).toNat)).toNat : Int) * 131) + (((nth v0.1 ((((((v0.2 + 1) - 1) * 7) + 3).tmod (v0.1.length : Int)).toNat)).toNat : Int) * 1117)) + (((v0.2 + 1) - 1) * 29)) + ((((v0.2 + 1) - 1).tdiv (v0.1.length : Int)) * 53)).tdiv 64))) (Pu.qo (p_xor rfl rfl h27 h28)) (by decide) ?_
      refine Rg.q (v := .int .i64 (xr ((((((nth v0.1 ((((v0.2 + 1) - 1).tmod (v0.1.length : Int)).toNat)).toNat : Int) * 131) + (((nth v0.1 ((((((v0.2 + 1) - 1) * 7) + 3).tmod (v0.1.length : Int)).toNat)).toNat : Int) * 1117)) + (((v0.2 + 1) - 1) * 29)) + ((((v0.2 + 1) - 1).tdiv (v0.1.length : Int)) * 53)) (((((((nth v0.1 ((((v0.2 + 1) - 1).tmod (v0.1.length : Int)).toNat)).toNat : Int) * 131) + (((nth v0.1 ((((((v0.2 + 1) - 1) * 7) + 3).tmod (v0.1.length : Int)).toNat)).toNat : Int) * 1117)) + (((v0.2 + 1) - 1) * 29)) + ((((v0.2 + 1) - 1).tdiv (v0.1.length : Int)) * 53)).tdiv 64))) (Pu.qo (p_assign rfl)) (by decide) ?_
      refine Rg.nl ?_
      refine nT (?_)
      refine Tr.seq ?_
      refine Tr.region ?_
      refine Rg.q (v := .int .i64 (xr ((((((nth v0.1 ((((v0.2 + 1) - 1).tmod (v0.1.length : Int)).toNat)).toNat : Int) * 131) + (((nth v0.1 ((((((v0.2 + 1) - 1) * 7) + 3).tmod (v0.1.length : Int)).toNat)).toNat : Int) * 1117)) + (((v0.2 + 1) - 1) * 29)) + ((((v0.2 + 1) - 1).tdiv (v0.1.length : Int)) * 53)) (((((((nth v0.1 ((((v0.2 + 1) - 1).tmod (v0.1.length : Int)).toNat)).toNat : Int) * 131) + (((nth v0.1 ((((((v0.2 + 1) - 1) * 7) + 3).tmod (v0.1.length : Int)).toNat)).toNat : Int) * 1117)) + (((v0.2 + 1) - 1) * 29)) + ((((v0.2 + 1) - 1).tdiv (v0.1.length : Int)) * 53)).tdiv 64))) (Pu.qo (p_move rfl)) (by decide) ?_
      refine Rg.q (v := .int .i64 (v1)) (Pu.qo (p_move rfl)) (by decide) ?_
      obtain ⟨h29, H⟩ := gd.of H
      obtain ⟨h30, H⟩ := gd.of H
      refine Rg.q (v := .int .i64 ((xr ((((((nth v0.1 ((((v0.2 + 1) - 1).tmod (v0.1.length : Int)).toNat)).toNat : Int) * 131) + (((nth v0.1 ((((((v0.2 + 1) - 1) * 7) + 3).tmod (v0.1.length : Int)).toNat)).toNat : Int) * 1117)) + (((v0.2 + 1) - 1) * 29)) + ((((v0.2 + 1) - 1).tdiv (v0.1.length : Int)) * 53)) (((((((nth v0.1 ((((v0.2 + 1) - 1).tmod (v0.1.length : Int)).toNat)).toNat : Int) * 131) + (((nth v0.1 ((((((v0.2 + 1) - 1) * 7) + 3).tmod (v0.1.length : Int)).toNat)).toNat : Int) * 1117)) + (((v0.2 + 1) - 1) * 29)) + ((((v0.2 + 1) - 1).tdiv (v0.1.length : Int)) * 53)).tdiv 64)).tmod v1)) (Pu.qo (p_rem rfl rfl h29 h30)) (by decide) ?_
      refine Rg.q (v := .int .i64 ((xr ((((((nth v0.1 ((((v0.2 + 1) - 1).tmod (v0.1.length : Int)).toNat)).toNat : Int) * 131) + (((nth v0.1 ((((((v0.2 + 1) - 1) * 7) + 3).tmod (v0.1.length : Int)).toNat)).toNat : Int) * 1117)) + (((v0.2 + 1) - 1) * 29)) + ((((v0.2 + 1) - 1).tdiv (v0.1.length : Int)) * 53)) (((((((nth v0.1 ((((v0.2 + 1) - 1).tmod (v0.1.length : Int)).toNat)).toNat : Int) * 131) + (((nth v0.1 ((((((v0.2 + 1) - 1) * 7) + 3).tmod (v0.1.length : Int)).toNat)).toNat : Int) * 1117)) + (((v0.2 + 1) - 1) * 29)) + ((((v0.2 + 1) - 1).tdiv (v0.1.length : Int)) * 53)).tdiv 64)).tmod v1)) (Pu.qo (p_assign rfl)) (by decide) ?_
      refine Rg.nl ?_
      refine nT (?_)
      refine tRet ?_
      have hr := Option.some.inj H; subst hr
      exact back1 () rfl (ResV.tmp (v := .int .i64 ((xr ((((((nth v0.1 ((((v0.2 + 1) - 1).tmod (v0.1.length : Int)).toNat)).toNat : Int) * 131) + (((nth v0.1 ((((((v0.2 + 1) - 1) * 7) + 3).tmod (v0.1.length : Int)).toNat)).toNat : Int) * 1117)) + (((v0.2 + 1) - 1) * 29)) + ((((v0.2 + 1) - 1).tdiv (v0.1.length : Int)) * 53)) (((((((nth v0.1 ((((v0.2 + 1) - 1).tmod (v0.1.length : Int)).toNat)).toNat : Int) * 131) + (((nth v0.1 ((((((v0.2 + 1) - 1) * 7) + 3).tmod (v0.1.length : Int)).toNat)).toNat : Int) * 1117)) + (((v0.2 + 1) - 1) * 29)) + ((((v0.2 + 1) - 1).tdiv (v0.1.length : Int)) * 53)).tdiv 64)).tmod v1)) rfl) rfl Ents.nil (.cons Del.here .nil)
def p_spec_l71Row (v0 : L6Rd) : Option (Row × Int) := bd (p_spec_l6Rd_pick v0 40) fun r2 => bd (p_spec_l6Rd_pick (v0.1, r2.2) 20) fun r5 => gd (I64 (r5.1 - 6)) <| bd (p_spec_l6Rd_pick (v0.1, r5.2) 40) fun r10 => cond (decide (r10.1 = 0)) (bd (p_spec_l6Rd_pick (v0.1, r10.2) 3) fun r16 => gd (ix r16.1 ([-1, 99, 100] : List Int).length) <| some (((nth ([-1, 99, 100] : List Int) r16.1.toNat), (r5.1 - 6)), r16.2)) (cond (decide (r10.1 = 1)) (bd (p_spec_l6Rd_pick (v0.1, r10.2) 3) fun r23 => gd (ix r23.1 ([-99, 99, 100] : List Int).length) <| some ((r2.1, (nth ([-99, 99, 100] : List Int) r23.1.toNat)), r23.2)) (some ((r2.1, (r5.1 - 6)), r10.2)))
theorem c_spec_l71Row {r : Row × Int} (g_v0 : Nat) (v0 : L6Rd) (x_v0 : (Option Addr × Nat) × Unit) (H : p_spec_l71Row v0 = some r) : Fn' Try.prog 64 #[.pointer (some ⟨g_v0, 0, none⟩)] [imm (.slice x_v0.1.1 v0.1.length x_v0.1.2) v0.1] [box g_v0 85 [.slice x_v0.1.1 v0.1.length x_v0.1.2, .int .i64 (v0.2)]] (ι := Unit) (fun x => .agg #[.int .i64 (r.1.1), .int .i64 (r.1.2)]) (fun _ => []) (fun x => [box g_v0 85 [.slice x_v0.1.1 v0.1.length x_v0.1.2, .int .i64 (r.2)]]) := by
  refine calls_of (args := [_]) Try.func64 rfl (by kernel_rfl) Try.ntmps64 (by simp) fun c => ?_
  unfold p_spec_l71Row at H
  refine Tr.seq ?_
  refine Tr.region ?_
  refine Rg.ed (e_alloc ty68) rfl (by decide) ?_
  rintro _ _ _ ⟨g1, rfl, rfl, rfl⟩
  refine Rg.nl ?_
  refine nT (?_)
  refine Tr.seq ?_
  refine Tr.region ?_
  refine Rg.q (v := .pointer (some ⟨g_v0, 0, none⟩)) (Pu.qo (p_move rfl)) (by decide) ?_
  obtain ⟨r2, h3, H⟩ := bd.of H
  refine Rg.ed (e_callM (vs := [.pointer (some ⟨g_v0, 0, none⟩), .int .i64 (40)]) (c_spec_l6Rd_pick g_v0 v0 (x_v0.1, ()) 40 h3) (Solo.box Solo.nil) (fun _ => (Solo.box Solo.nil)) rfl (.cons Del.here.there .nil) (EntsB.cons (Ent.b Ent.z) EntsB.nil)) rfl (by decide) ?_
  rintro _ _ _ ⟨u4, rfl, rfl, rfl⟩
  refine Rg.q (v := .pointer (some ⟨g_v0, 0, none⟩)) (Pu.qo (p_move rfl)) (by decide) ?_
  obtain ⟨r5, h6, H⟩ := bd.of H
  refine Rg.ed (e_callM (vs := [.pointer (some ⟨g_v0, 0, none⟩), .int .i64 (20)]) (c_spec_l6Rd_pick g_v0 (v0.1, r2.2) (x_v0.1, ()) 20 h6) (Solo.box Solo.nil) (fun _ => (Solo.box Solo.nil)) rfl (.cons Del.here .nil) (EntsB.cons (Ent.b Ent.z) EntsB.nil)) rfl (by decide) ?_
  rintro _ _ _ ⟨u7, rfl, rfl, rfl⟩
  obtain ⟨h8, H⟩ := gd.of H
  refine Rg.q (v := .int .i64 (r5.1 - 6)) (Pu.qo (p_sub rfl rfl h8)) (by decide) ?_
  refine Rg.q (v := .agg #[.int .i64 (r2.1), .int .i64 (r5.1 - 6)]) (Pu.qo (p_buildS (vs := [(0, .int .i64 (r2.1)), (1, .int .i64 (r5.1 - 6))]) (cs := #[.int .i64 (r2.1), .int .i64 (r5.1 - 6)]) ty68 pl68 rfl rfl)) (by decide) ?_
  refine Rg.ed (e_alloc ty68) rfl (by decide) ?_
  rintro _ _ _ ⟨g9, rfl, rfl, rfl⟩
  refine Rg.en (e_store (v := .agg #[.int .i64 (r2.1), .int .i64 (r5.1 - 6)]) (cs' := [.int .i64 (r2.1), .int .i64 (r5.1 - 6)]) ty68 rfl rfl Upd.here rfl (by simp [Value.cells, Value.oneCell']) (Nat.le_of_ble_eq_true rfl) rfl) rfl ?_
  rintro _ _ _ ⟨rfl, rfl, rfl⟩
  refine Rg.nl ?_
  refine nT (?_)
  refine Tr.seq ?_
  refine Tr.seq ?_
  refine Tr.region ?_
  refine Rg.q (v := .pointer (some ⟨g_v0, 0, none⟩)) (Pu.qo (p_move rfl)) (by decide) ?_
  obtain ⟨r10, h11, H⟩ := bd.of H
  refine Rg.ed (e_callM (vs := [.pointer (some ⟨g_v0, 0, none⟩), .int .i64 (40)]) (c_spec_l6Rd_pick g_v0 (v0.1, r5.2) (x_v0.1, ()) 40 h11) (Solo.box Solo.nil) (fun _ => (Solo.box Solo.nil)) rfl (.cons Del.here.there .nil) (EntsB.cons (Ent.b Ent.z) EntsB.nil)) rfl (by decide) ?_
  rintro _ _ _ ⟨u12, rfl, rfl, rfl⟩
  refine Rg.nl ?_
  refine nT (?_)
  refine Tr.block ?_
  refine Tr.seq ?_
  refine Tr.region ?_
  refine Rg.q (v := .bool (decide (r10.1 = 0))) (Pu.qo (p_eql rfl rfl)) (by decide) ?_
  refine Rg.q (v := .bool (decide (r10.1 = 0))) (Pu.qo (p_assign rfl)) (by decide) ?_
  refine Rg.nl ?_
  refine nT (?_)
  refine Tr.cond (b := decide (r10.1 = 0)) rfl (fun h13 => ?_) (fun h13 => ?_)
  · have H := cdT h13 H
    refine Tr.region ?_
    refine Rg.ed (e_litT (α := Int) (vs := [(0, .int .i64 (-1)), (1, .int .i64 (99)), (2, .int .i64 (100))]) [-1, 99, 100] rfl (fun _ => rfl) (fun _ _ => by repeat constructor) Try.underlying23 ty3 rfl (by decide) (by decide) (by kernel_rfl)) rfl (by decide) ?_
    rintro _ _ _ ⟨a14, c15, rfl, rfl, rfl⟩
    refine Rg.q (v := .pointer (some ⟨g_v0, 0, none⟩)) (Pu.qo (p_move rfl)) (by decide) ?_
    obtain ⟨r16, h17, H⟩ := bd.of H
    refine Rg.ed (e_callM (vs := [.pointer (some ⟨g_v0, 0, none⟩), .int .i64 (3)]) (c_spec_l6Rd_pick g_v0 (v0.1, r10.2) (x_v0.1, ()) 3 h17) (Solo.box Solo.nil) (fun _ => (Solo.box Solo.nil)) rfl (.cons Del.here.there .nil) (EntsB.cons (Ent.b Ent.z) EntsB.nil)) rfl (by decide) ?_
    rintro _ _ _ ⟨u18, rfl, rfl, rfl⟩
    obtain ⟨h19, H⟩ := gd.of H
    refine Rg.q (v := elp a14 (r16.1.toNat * Enc.sz Int + 0)) (q_ixO' Try.underlying23 ty3 rfl rfl h19 Has.here.there) (by decide) ?_
    refine Rg.q (v := .int .i64 (nth ([-1, 99, 100] : List Int) r16.1.toNat)) (q_lde (l := ([-1, 99, 100] : List Int)) (E := fun i => Flat.enc (nth ([-1, 99, 100] : List Int) i)) (oa := a14) (i := r16.1.toNat) (j := 0) ty3 rfl (EntB.flat (EntB.tree Has.here.there)) h19.lt rfl) (by decide) ?_
    refine Rg.q (v := .pointer (some ⟨g9, 0, none⟩)) (Pu.qo (p_fabE fa68_0 rfl rfl)) (by decide) ?_
    refine Rg.en (e_store (v := .int .i64 (nth ([-1, 99, 100] : List Int) r16.1.toNat)) (cs' := [.int .i64 (nth ([-1, 99, 100] : List Int) r16.1.toNat), .int .i64 (r5.1 - 6)]) ty3 rfl rfl Upd.here.there.there rfl (by simp [Value.cells, Value.oneCell']) (Nat.le_of_ble_eq_true rfl) rfl) rfl ?_
    rintro _ _ _ ⟨rfl, rfl, rfl⟩
    refine Rg.nl ?_
    refine nB (nT (?_))
    refine Tr.seq ?_
    refine Tr.region ?_
    refine Rg.q (v := .agg #[.int .i64 (nth ([-1, 99, 100] : List Int) r16.1.toNat), .int .i64 (r5.1 - 6)]) (q_ldbA ty68 rfl Has.here.there.there rfl) (by decide) ?_
    refine Rg.en (e_store (v := .agg #[.int .i64 (nth ([-1, 99, 100] : List Int) r16.1.toNat), .int .i64 (r5.1 - 6)]) (cs' := [.int .i64 (nth ([-1, 99, 100] : List Int) r16.1.toNat), .int .i64 (r5.1 - 6)]) ty68 rfl rfl Upd.here.there.there.there rfl (by simp [Value.cells, Value.oneCell']) (Nat.le_of_ble_eq_true rfl) rfl) rfl ?_
    rintro _ _ _ ⟨rfl, rfl, rfl⟩
    refine Rg.nl ?_
    refine nT (?_)
    refine tRet ?_
    have hr := Option.some.inj H; subst hr
    exact back1 () rfl (ResV.agg ty68 rfl Has.here.there.there.there rfl) rfl Ents.nil (.cons Del.here .nil)
  · have H := cdF h13 H
    refine Tr.seq ?_
    refine Tr.region ?_
    refine Rg.q (v := .bool (decide (r10.1 = 1))) (Pu.qo (p_eql rfl rfl)) (by decide) ?_
    refine Rg.q (v := .bool (decide (r10.1 = 1))) (Pu.qo (p_assign rfl)) (by decide) ?_
    refine Rg.nl ?_
    refine nT (?_)
    refine Tr.cond (b := decide (r10.1 = 1)) rfl (fun h20 => ?_) (fun h20 => ?_)
    · have H := cdT h20 H
      refine Tr.region ?_
      refine Rg.ed (e_litT (α := Int) (vs := [(0, .int .i64 (-99)), (1, .int .i64 (99)), (2, .int .i64 (100))]) [-99, 99, 100] rfl (fun _ => rfl) (fun _ _ => by repeat constructor) Try.underlying23 ty3 rfl (by decide) (by decide) (by kernel_rfl)) rfl (by decide) ?_
      rintro _ _ _ ⟨a21, c22, rfl, rfl, rfl⟩
      refine Rg.q (v := .pointer (some ⟨g_v0, 0, none⟩)) (Pu.qo (p_move rfl)) (by decide) ?_
      obtain ⟨r23, h24, H⟩ := bd.of H
      refine Rg.ed (e_callM (vs := [.pointer (some ⟨g_v0, 0, none⟩), .int .i64 (3)]) (c_spec_l6Rd_pick g_v0 (v0.1, r10.2) (x_v0.1, ()) 3 h24) (Solo.box Solo.nil) (fun _ => (Solo.box Solo.nil)) rfl (.cons Del.here.there .nil) (EntsB.cons (Ent.b Ent.z) EntsB.nil)) rfl (by decide) ?_
      rintro _ _ _ ⟨u25, rfl, rfl, rfl⟩
      obtain ⟨h26, H⟩ := gd.of H
      refine Rg.q (v := elp a21 (r23.1.toNat * Enc.sz Int + 0)) (q_ixO' Try.underlying23 ty3 rfl rfl h26 Has.here.there) (by decide) ?_
      refine Rg.q (v := .int .i64 (nth ([-99, 99, 100] : List Int) r23.1.toNat)) (q_lde (l := ([-99, 99, 100] : List Int)) (E := fun i => Flat.enc (nth ([-99, 99, 100] : List Int) i)) (oa := a21) (i := r23.1.toNat) (j := 0) ty3 rfl (EntB.flat (EntB.tree Has.here.there)) h26.lt rfl) (by decide) ?_
      refine Rg.q (v := .pointer (some ⟨g9, 1, none⟩)) (Pu.qo (p_fabE fa68_1 rfl rfl)) (by decide) ?_
      refine Rg.en (e_store (v := .int .i64 (nth ([-99, 99, 100] : List Int) r23.1.toNat)) (cs' := [.int .i64 (r2.1), .int .i64 (nth ([-99, 99, 100] : List Int) r23.1.toNat)]) ty3 rfl rfl Upd.here.there.there rfl (by simp [Value.cells, Value.oneCell']) (Nat.le_of_ble_eq_true rfl) rfl) rfl ?_
      rintro _ _ _ ⟨rfl, rfl, rfl⟩
      refine Rg.nl ?_
      refine nB (nT (?_))
      refine Tr.seq ?_
      refine Tr.region ?_
      refine Rg.q (v := .agg #[.int .i64 (r2.1), .int .i64 (nth ([-99, 99, 100] : List Int) r23.1.toNat)]) (q_ldbA ty68 rfl Has.here.there.there rfl) (by decide) ?_
      refine Rg.en (e_store (v := .agg #[.int .i64 (r2.1), .int .i64 (nth ([-99, 99, 100] : List Int) r23.1.toNat)]) (cs' := [.int .i64 (r2.1), .int .i64 (nth ([-99, 99, 100] : List Int) r23.1.toNat)]) ty68 rfl rfl Upd.here.there.there.there rfl (by simp [Value.cells, Value.oneCell']) (Nat.le_of_ble_eq_true rfl) rfl) rfl ?_
      rintro _ _ _ ⟨rfl, rfl, rfl⟩
      refine Rg.nl ?_
      refine nT (?_)
      refine tRet ?_
      have hr := Option.some.inj H; subst hr
      exact back1 () rfl (ResV.agg ty68 rfl Has.here.there.there.there rfl) rfl Ents.nil (.cons Del.here .nil)
    · have H := cdF h20 H
      refine tSkip ?_
      refine nB (nT (?_))
      refine Tr.seq ?_
      refine Tr.region ?_
      refine Rg.q (v := .agg #[.int .i64 (r2.1), .int .i64 (r5.1 - 6)]) (q_ldbA ty68 rfl Has.here.there rfl) (by decide) ?_
      refine Rg.en (e_store (v := .agg #[.int .i64 (r2.1), .int .i64 (r5.1 - 6)]) (cs' := [.int .i64 (r2.1), .int .i64 (r5.1 - 6)]) ty68 rfl rfl Upd.here.there.there rfl (by simp [Value.cells, Value.oneCell']) (Nat.le_of_ble_eq_true rfl) rfl) rfl ?_
      rintro _ _ _ ⟨rfl, rfl, rfl⟩
      refine Rg.nl ?_
      refine nT (?_)
      refine tRet ?_
      have hr := Option.some.inj H; subst hr
      exact back1 () rfl (ResV.agg ty68 rfl Has.here.there.there rfl) rfl Ents.nil (.cons Del.here .nil)

end Go.Proofs.Ytfcdncblogldnaa
