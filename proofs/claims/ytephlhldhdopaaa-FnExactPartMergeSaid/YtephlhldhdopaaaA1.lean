/- The walks and the plain laws, part 1: each function that the law reaches computes what its plain function tells, and what the plain functions answer. Conditions: lengths that memory can hold. -/
import Derived.Test.YtephlhldhdopaaaSxB
import Derived.Test.YtephlhldhdopaaaProg
namespace Go.Proofs.Ytephlhldhdopaaa
open Go Go.Sx
theorem Try.mixed : Try.prog.follows .mixedOrders = true := by kernel_rfl
abbrev Row := Int × Int
abbrev Part := (List Int) × (List (List Row))
instance : DecidableEq Row := inferInstanceAs (DecidableEq (Int × Int))
instance : DecidableEq Part := inferInstanceAs (DecidableEq ((List Int) × (List (List Row))))
theorem ty3 : TyI Try.prog 3 false 1 (.int .i64 0) 8 := ⟨by kernel_rfl, by kernel_rfl, rfl⟩
theorem ty23 : TyI Try.prog 23 false 1 (.slice none 0 0) 24 := ⟨by kernel_rfl, by kernel_rfl, rfl⟩
theorem ty24 : TyI Try.prog 24 false 1 (.slice none 0 0) 24 := ⟨by kernel_rfl, by kernel_rfl, rfl⟩
theorem ty26 : TyI Try.prog 26 true 2 (.agg #[.slice none 0 0, .slice none 0 0]) 48 := ⟨by kernel_rfl, by kernel_rfl, rfl⟩
theorem fa26_0 : FA Try.prog 26 0 0 := ⟨_, Try.underlying26, _, rfl, rfl, by obtain ⟨i, hi, _, hn, _⟩ := ty23.info'; exact ⟨i, hi, by rw [hn]; decide⟩⟩
theorem fa26_1 : FA Try.prog 26 1 1 := ⟨_, Try.underlying26, _, rfl, rfl, by obtain ⟨i, hi, _, hn, _⟩ := ty24.info'; exact ⟨i, hi, by rw [hn]; decide⟩⟩
theorem ty36 : TyI Try.prog 36 false 1 (.slice none 0 0) 24 := ⟨by kernel_rfl, by kernel_rfl, rfl⟩
theorem ty46 : TyI Try.prog 46 true 2 (.agg #[.int .i64 0, .int .i64 0]) 16 := ⟨by kernel_rfl, by kernel_rfl, rfl⟩
theorem fa46_0 : FA Try.prog 46 0 0 := ⟨_, Try.underlying46, _, rfl, rfl, by obtain ⟨i, hi, _, hn, _⟩ := ty3.info'; exact ⟨i, hi, by rw [hn]; decide⟩⟩
theorem fa46_1 : FA Try.prog 46 1 1 := ⟨_, Try.underlying46, _, rfl, rfl, by obtain ⟨i, hi, _, hn, _⟩ := ty3.info'; exact ⟨i, hi, by rw [hn]; decide⟩⟩
theorem ty47 : TyI Try.prog 47 false 1 (.slice none 0 0) 24 := ⟨by kernel_rfl, by kernel_rfl, rfl⟩
theorem ty49 : TyI Try.prog 49 true 2 (.agg #[.slice none 0 0, .slice none 0 0]) 48 := ⟨by kernel_rfl, by kernel_rfl, rfl⟩
theorem fa49_0 : FA Try.prog 49 0 0 := ⟨_, Try.underlying49, _, rfl, rfl, by obtain ⟨i, hi, _, hn, _⟩ := ty23.info'; exact ⟨i, hi, by rw [hn]; decide⟩⟩
theorem fa49_1 : FA Try.prog 49 1 1 := ⟨_, Try.underlying49, _, rfl, rfl, by obtain ⟨i, hi, _, hn, _⟩ := ty47.info'; exact ⟨i, hi, by rw [hn]; decide⟩⟩
theorem ty77 : TyI Try.prog 77 false 1 (.slice none 0 0) 24 := ⟨by kernel_rfl, by kernel_rfl, rfl⟩
theorem ty83 : TyI Try.prog 83 true 2 (.agg #[.int .i64 0, .int .i64 0]) 16 := ⟨by kernel_rfl, by kernel_rfl, rfl⟩
theorem fa83_0 : FA Try.prog 83 0 0 := ⟨_, Try.underlying83, _, rfl, rfl, by obtain ⟨i, hi, _, hn, _⟩ := ty3.info'; exact ⟨i, hi, by rw [hn]; decide⟩⟩
theorem fa83_1 : FA Try.prog 83 1 1 := ⟨_, Try.underlying83, _, rfl, rfl, by obtain ⟨i, hi, _, hn, _⟩ := ty3.info'; exact ⟨i, hi, by rw [hn]; decide⟩⟩
theorem pl26 : PL Try.prog 26 #[(0, 1), (1, 1)] := ⟨_, Try.underlying26, fun w => by simp [ty23.sizeOf w, ty24.sizeOf w]⟩
def p_spec_l6In (v0 : Int) (v1 : Int) (v2 : Int) : Option (Bool) := bd (cond (decide (v1 ≤ v0)) (some (decide (v0 ≤ v2))) (some (false))) fun b1 => some b1
theorem c_spec_l6In {r : Bool} (v0 : Int) (v1 : Int) (v2 : Int) (H : p_spec_l6In v0 v1 v2 = some r) : Fn' Try.prog 30 #[.int .i64 (v0), .int .i64 (v1), .int .i64 (v2)] [] [] (ι := Unit) (fun x => .bool (r)) (fun _ => []) (fun x => []) := by
  refine calls_of (args := [_, _, _]) Try.func30 rfl (by kernel_rfl) Try.ntmps30 (by simp) fun c => ?_
  unfold p_spec_l6In at H
  refine Tr.seq ?_
  refine Tr.region ?_
  refine Rg.q (v := .bool (false)) (Pu.qo (p_assign rfl)) (by decide) ?_
  refine Rg.nl ?_
  refine nT (?_)
  obtain ⟨b1, j2, H⟩ := bd.of H
  refine tMid1 [(6, .bool (b1))] ?_ ?_
  · refine tLinT [(0, .int .i64 (v0)), (1, .int .i64 (v1)), (2, .int .i64 (v2))] ⟨rfl, rfl, rfl, trivial⟩ ?_
    refine Lin.q (v := .int .i64 (v0)) (by decide) (Pu.qo (p_move rfl)) ?_
    refine Lin.q (v := .int .i64 (v1)) (by decide) (Pu.qo (p_move rfl)) ?_
    refine Lin.q (v := .bool (decide (v1 ≤ v0))) (by decide) (Pu.qo (p_geq rfl rfl)) ?_
    rcases Bool.eq_false_or_eq_true (decide (v1 ≤ v0)) with h3 | h3
    · have j2 := cdT h3 j2
      refine Lin.q (v := .bool (true)) (by decide) (Qo.eqv (v := .bool (decide (v1 ≤ v0))) (Pu.qo (p_move rfl)) (congrArg Value.bool h3)) ?_
      refine Lin.g (v := .int .i64 (v0)) (by decide) rfl (Pu.qo (p_move rfl)) ?_
      refine Lin.g (v := .int .i64 (v2)) (by decide) rfl (Pu.qo (p_move rfl)) ?_
      refine Lin.g (v := .bool (decide (v0 ≤ v2))) (by decide) rfl (Pu.qo (p_leq rfl rfl)) ?_
      refine Lin.q (v := .bool (decide (v0 ≤ v2))) (by decide) (Pu.qo (p_pickT rfl rfl)) ?_
      refine Lin.q (v := .bool (decide (v0 ≤ v2))) (by decide) (Pu.qo (p_assign rfl)) ?_
      have j2 := Option.some.inj j2; subst j2
      show At _ _ _ _ _ _
      exact n1 ⟨rfl, trivial⟩
    · have j2 := cdF h3 j2
      refine Lin.q (v := .bool (false)) (by decide) (Qo.eqv (v := .bool (decide (v1 ≤ v0))) (Pu.qo (p_move rfl)) (congrArg Value.bool h3)) ?_
      refine Lin.skip (by decide) rfl ?_
      refine Lin.skip (by decide) rfl ?_
      refine Lin.skip (by decide) rfl ?_
      refine Lin.q (v := .bool (false)) (by decide) (Pu.qo (p_pickF rfl rfl)) ?_
      refine Lin.q (v := .bool (false)) (by decide) (Pu.qo (p_assign rfl)) ?_
      have j2 := Option.some.inj j2; subst j2
      show At _ _ _ _ _ _
      exact n1 ⟨rfl, trivial⟩
  refine tRet ?_
  have hr := Option.some.inj H; subst hr
  exact back1 () rfl (ResV.tmp (v := .bool (b1)) rfl) rfl Ents.nil Take.nil
def p_spec_l2Row (v0 : Row) : Option (Bool) := bd (bd (p_spec_l6In v0.1 0 99) fun r4 => cond (r4) (bd (p_spec_l6In v0.2 (-99) 99) fun r7 => some (r7)) (some (false))) fun b2 => some b2
theorem c_spec_l2Row {r : Bool} (v0 : Row) (H : p_spec_l2Row v0 = some r) : Fn' Try.prog 51 #[.agg #[.int .i64 (v0.1), .int .i64 (v0.2)]] [] [] (ι := Unit) (fun x => .bool (r)) (fun _ => []) (fun x => []) := by
  refine calls_of (args := [_]) Try.func51 rfl (by kernel_rfl) Try.ntmps51 (by simp) fun c => ?_
  unfold p_spec_l2Row at H
  refine Tr.seq ?_
  refine Tr.region ?_
  refine Rg.ed (e_box (t := 46) (v := .agg #[.int .i64 (v0.1), .int .i64 (v0.2)]) rfl) rfl (by decide) ?_
  rintro _ _ _ ⟨g1, rfl, rfl, rfl⟩
  refine Rg.q (v := .bool (false)) (Pu.qo (p_assign rfl)) (by decide) ?_
  refine Rg.nl ?_
  refine nT (?_)
  obtain ⟨b2, j3, H⟩ := bd.of H
  refine tMid1 [(2, .bool (b2))] ?_ ?_
  · refine tLinT [(1, .pointer (some ⟨g1, 0, none⟩))] ⟨rfl, trivial⟩ ?_
    refine Lin.q (v := .pointer (some ⟨g1, 0, none⟩)) (by decide) (Pu.qo (p_fabE fa46_0 rfl rfl)) ?_
    refine Lin.q (v := .int .i64 (v0.1)) (by decide) (q_ldb ty3 rfl Has.here rfl) ?_
    obtain ⟨r4, h5, j3⟩ := bd.of j3
    refine Lin.q (v := .bool (r4)) (by decide) (q_call (vs := [.int .i64 (v0.1), .int .i64 (0), .int .i64 (99)]) (c_spec_l6In v0.1 0 99 h5) rfl EntsB.nil) ?_
    rcases Bool.eq_false_or_eq_true (r4) with h6 | h6
    · have j3 := cdT h6 j3
      refine Lin.q (v := .bool (true)) (by decide) (Qo.eqv (v := .bool (r4)) (Pu.qo (p_move rfl)) (congrArg Value.bool h6)) ?_
      refine Lin.g (v := .pointer (some ⟨g1, 1, none⟩)) (by decide) rfl (Pu.qo (p_fabE fa46_1 rfl rfl)) ?_
      refine Lin.g (v := .int .i64 (v0.2)) (by decide) rfl (q_ldb ty3 rfl Has.here rfl) ?_
      obtain ⟨r7, h8, j3⟩ := bd.of j3
      refine Lin.g (v := .bool (r7)) (by decide) rfl (q_call (vs := [.int .i64 (v0.2), .int .i64 (-99), .int .i64 (99)]) (c_spec_l6In v0.2 (-99) 99 h8) rfl EntsB.nil) ?_
      refine Lin.q (v := .bool (r7)) (by decide) (Pu.qo (p_pickT rfl rfl)) ?_
      refine Lin.q (v := .bool (r7)) (by decide) (Pu.qo (p_assign rfl)) ?_
      have j3 := Option.some.inj j3; subst j3
      show At _ _ _ _ _ _
      exact n1 ⟨rfl, trivial⟩
    · have j3 := cdF h6 j3
      refine Lin.q (v := .bool (false)) (by decide) (Qo.eqv (v := .bool (r4)) (Pu.qo (p_move rfl)) (congrArg Value.bool h6)) ?_
      refine Lin.skip (by decide) rfl ?_
      refine Lin.skip (by decide) rfl ?_
      refine Lin.skip (by decide) rfl ?_
      refine Lin.q (v := .bool (false)) (by decide) (Pu.qo (p_pickF rfl rfl)) ?_
      refine Lin.q (v := .bool (false)) (by decide) (Pu.qo (p_assign rfl)) ?_
      have j3 := Option.some.inj j3; subst j3
      show At _ _ _ _ _ _
      exact n1 ⟨rfl, trivial⟩
  refine tRet ?_
  have hr := Option.some.inj H; subst hr
  exact back1 () rfl (ResV.tmp (v := .bool (b2)) rfl) rfl Ents.nil Take.nil
noncomputable def p_spec_l2Put_b0 (v0 : (List Row)) (v1 : Row) (σ8 : (List Row) × Bool × Int) : Option (((List Row) × Bool × Int) ⊕ ((List Row) × Bool)) := cond (decide (σ8.2.2 < (v0.length : Int))) (bd (cond (!σ8.2.1) (gd (ix σ8.2.2 v0.length) <| some (decide (v1.1 ≤ ((nth v0 σ8.2.2.toNat).1)))) (some (false))) fun b17 => cond (b17) (gd (room (σ8.1.length + 1)) <| gd (ix σ8.2.2 v0.length) <| cond (!decide (((nth v0 σ8.2.2.toNat).1) = v1.1)) (gd (room ((σ8.1 ++ [v1]).length + 1)) <| gd (I64 (σ8.2.2 + 1)) <| some (.inl (((σ8.1 ++ [v1]) ++ [nth v0 σ8.2.2.toNat]), true, σ8.2.2 + 1))) (gd (I64 (σ8.2.2 + 1)) <| some (.inl ((σ8.1 ++ [v1]), true, σ8.2.2 + 1)))) (gd (ix σ8.2.2 v0.length) <| cond (!decide (((nth v0 σ8.2.2.toNat).1) = v1.1)) (gd (room (σ8.1.length + 1)) <| gd (I64 (σ8.2.2 + 1)) <| some (.inl ((σ8.1 ++ [nth v0 σ8.2.2.toNat]), σ8.2.1, σ8.2.2 + 1))) (gd (I64 (σ8.2.2 + 1)) <| some (.inl (σ8.1, σ8.2.1, σ8.2.2 + 1))))) (some (.inr (σ8.1, σ8.2.1)))
noncomputable def p_spec_l2Put (v0 : (List Row)) (v1 : Row) : Option ((List Row)) := bd (lp (p_spec_l2Put_b0 v0 v1) (([] : List Row), false, 0)) fun x4 => cond (!x4.2) (gd (room (x4.1.length + 1)) <| some (x4.1 ++ [v1])) (some x4.1)
theorem c_spec_l2Put {r : (List Row)} (v0 : (List Row)) (x_v0 : Option Addr × Nat) (v1 : Row) (H : p_spec_l2Put v0 v1 = some r) : Fn' Try.prog 62 #[.slice x_v0.1 v0.length x_v0.2, .agg #[.int .i64 (v1.1), .int .i64 (v1.2)]] [imm (.slice x_v0.1 v0.length x_v0.2) v0] [] (ι := Option Addr × Nat) (fun x => .slice x.1 r.length x.2) (fun _ => []) (fun x => [tree (.slice x.1 r.length x.2) r]) := by
  refine calls_of (args := [_, _]) Try.func62 rfl (by kernel_rfl) Try.ntmps62 (by simp) fun c => ?_
  unfold p_spec_l2Put at H
  refine Tr.seq ?_
  refine Tr.region ?_
  refine Rg.ed (e_box (t := 46) (v := .agg #[.int .i64 (v1.1), .int .i64 (v1.2)]) rfl) rfl (by decide) ?_
  rintro _ _ _ ⟨g1, rfl, rfl, rfl⟩
  refine Rg.q (v := .slice none 0 0) (Pu.qo (p_assign rfl)) (by decide) ?_
  refine Rg.nl ?_
  refine nT (?_)
  refine Tr.seq ?_
  refine Tr.region ?_
  refine Rg.ed (e_lit0 Row Try.underlying36 ty46) rfl (by decide) ?_
  rintro _ _ _ ⟨a2, c3, rfl, rfl, rfl⟩
  refine Rg.q (v := .slice a2 (([] : List Row).length) c3) (Pu.qo (p_assign rfl)) (by decide) ?_
  refine Rg.nl ?_
  refine nT (?_)
  refine Tr.seq ?_
  refine Tr.region ?_
  refine Rg.q (v := .bool (false)) (Pu.qo (p_assign rfl)) (by decide) ?_
  refine Rg.nl ?_
  refine nT (?_)
  refine Tr.seq ?_
  refine Tr.seq ?_
  refine Tr.region ?_
  refine Rg.q (v := .int .i64 (0)) (Pu.qo (p_assign rfl)) (by decide) ?_
  refine Rg.nl ?_
  refine nT (?_)
  obtain ⟨x4, hx5, H⟩ := bd.of H
  obtain ⟨n6, hx5⟩ := lp.of hx5
  refine tMidNC (ι := Option Addr × Nat) (fun ψ => [(3, .pointer (some ⟨g1, 0, none⟩)), (5, .slice ψ.1 x4.1.length ψ.2), (6, .bool (x4.2))]) (fun ψ => [box g1 46 [.int .i64 (v1.1), .int .i64 (v1.2)], tree (.slice ψ.1 x4.1.length ψ.2) x4.1]) ?_ ?_
  · refine Tr.block ?_
    refine tLoopC (ι := { q : Nat × ((List Row) × Bool × Int) × (Option Addr × Nat) // itr (p_spec_l2Put_b0 v0 v1) q.1 q.2.1 = some x4 }) (fun ζ => [(0, .slice x_v0.1 v0.length x_v0.2), (3, .pointer (some ⟨g1, 0, none⟩)), (5, .slice ζ.1.2.2.1 ζ.1.2.1.1.length ζ.1.2.2.2), (6, .bool (ζ.1.2.1.2.1)), (7, .int .i64 (ζ.1.2.1.2.2))]) (fun ζ => [box g1 46 [.int .i64 (v1.1), .int .i64 (v1.2)], tree (.slice ζ.1.2.2.1 ζ.1.2.1.1.length ζ.1.2.2.2) ζ.1.2.1.1]) (fun ζ => ζ.1.1) ⟨(n6, (([] : List Row), false, 0), (a2, c3)), hx5⟩ ⟨rfl, rfl, rfl, rfl, rfl, trivial⟩ (.cons Del.here.there (.cons Del.here .nil)) ?_
    rintro ⟨⟨m7, σ8, z9⟩, hk14⟩
    obtain ⟨m15, t11, e, H1, hi12, hb13⟩ := itr.of (n := m7) (s := σ8) hk14
    subst e; unfold p_spec_l2Put_b0 at H1
    show Tr _ _ _ _ _ [(0, .slice x_v0.1 v0.length x_v0.2), (3, .pointer (some ⟨g1, 0, none⟩)), (5, .slice z9.1 σ8.1.length z9.2), (6, .bool (σ8.2.1)), (7, .int .i64 (σ8.2.2))] _ [box g1 46 [.int .i64 (v1.1), .int .i64 (v1.2)], tree (.slice z9.1 σ8.1.length z9.2) σ8.1]
    refine Tr.seq ?_
    refine Tr.seq ?_
    refine Tr.region ?_
    refine Rg.q (v := .int .i64 (σ8.2.2)) (Pu.qo (p_move rfl)) (by decide) ?_
    refine Rg.q (v := .slice x_v0.1 v0.length x_v0.2) (Pu.qo (p_move rfl)) (by decide) ?_
    refine Rg.q (v := .int .i64 ((v0.length : Int))) (Pu.qo (p_len 46 Try.underlying36 rfl)) (by decide) ?_
    refine Rg.q (v := .bool (decide (σ8.2.2 < (v0.length : Int)))) (Pu.qo (p_lss rfl rfl)) (by decide) ?_
    refine Rg.nl ?_
    refine nT (?_)
    refine Tr.cond (b := decide (σ8.2.2 < (v0.length : Int))) rfl (fun h16 => ?_) (fun h16 => ?_)
    · have H1 := cdT h16 H1
      refine tSkip ?_
      refine nT (?_)
      refine Tr.seq ?_
      refine Tr.block ?_
      refine Tr.seq ?_
      obtain ⟨b17, j18, H1⟩ := bd.of H1
      refine tMid1 [(26, .bool (b17)), (0, .slice x_v0.1 v0.length x_v0.2), (3, .pointer (some ⟨g1, 0, none⟩)), (5, .slice z9.1 σ8.1.length z9.2), (6, .bool (σ8.2.1)), (7, .int .i64 (σ8.2.2))] ?_ ?_
      · refine tLinS [(0, .slice x_v0.1 v0.length x_v0.2), (3, .pointer (some ⟨g1, 0, none⟩)), (5, .slice z9.1 σ8.1.length z9.2), (6, .bool (σ8.2.1)), (7, .int .i64 (σ8.2.2))] Try.mixed (.inr (by kernel_rfl)) ⟨rfl, rfl, rfl, rfl, rfl, trivial⟩ rfl ?_
        refine Lin.q (v := .bool (σ8.2.1)) (by decide) (Pu.qo (p_move rfl)) ?_
        refine Lin.q (v := .bool (!σ8.2.1)) (by decide) (Pu.qo (p_not rfl)) ?_
        rcases Bool.eq_false_or_eq_true (!σ8.2.1) with h19 | h19
        · have j18 := cdT h19 j18
          refine Lin.q (v := .bool (true)) (by decide) (Qo.eqv (v := .bool (!σ8.2.1)) (Pu.qo (p_move rfl)) (congrArg Value.bool h19)) ?_
          refine Lin.g (v := .slice x_v0.1 v0.length x_v0.2) (by decide) rfl (Pu.qo (p_move rfl)) ?_
          refine Lin.g (v := .int .i64 (σ8.2.2)) (by decide) rfl (Pu.qo (p_move rfl)) ?_
          obtain ⟨h20, j18⟩ := gd.of j18
          refine Lin.g (v := elp x_v0.1 (σ8.2.2.toNat * Enc.sz Row + 0)) (by decide) rfl (q_ixg (l := v0) (E := fun i => Flat.enc (nth v0 i)) (oa := x_v0.1) Try.underlying36 ty46 rfl rfl h20 rfl (EntB.flat (Ent.b Ent.z))) ?_
          refine Lin.g (v := elp x_v0.1 (σ8.2.2.toNat * Enc.sz Row + 0)) (by decide) rfl (q_faeE (l := v0) (E := fun i => Flat.enc (nth v0 i)) (oa := x_v0.1) (j := 0) σ8.2.2.toNat fa46_0 rfl (EntB.flat (Ent.b Ent.z)) h20.lt rfl) ?_
          refine Lin.g (v := .int .i64 ((nth v0 σ8.2.2.toNat).1)) (by decide) rfl (q_lde (l := v0) (E := fun i => Flat.enc (nth v0 i)) (oa := x_v0.1) (i := σ8.2.2.toNat) (j := 0) ty3 rfl (EntB.flat (Ent.b Ent.z)) h20.lt rfl) ?_
          refine Lin.g (v := .pointer (some ⟨g1, 0, none⟩)) (by decide) rfl (Pu.qo (p_fabE fa46_0 rfl rfl)) ?_
          refine Lin.g (v := .int .i64 (v1.1)) (by decide) rfl (q_ldb ty3 rfl Has.here rfl) ?_
          refine Lin.g (v := .bool (decide (v1.1 ≤ ((nth v0 σ8.2.2.toNat).1)))) (by decide) rfl (Pu.qo (p_geq rfl rfl)) ?_
          refine Lin.q (v := .bool (decide (v1.1 ≤ ((nth v0 σ8.2.2.toNat).1)))) (by decide) (Pu.qo (p_pickT rfl rfl)) ?_
          have j18 := Option.some.inj j18; subst j18
          show At _ _ _ _ _ _
          exact n1 ⟨rfl, rfl, rfl, rfl, rfl, rfl, trivial⟩
        · have j18 := cdF h19 j18
          refine Lin.q (v := .bool (false)) (by decide) (Qo.eqv (v := .bool (!σ8.2.1)) (Pu.qo (p_move rfl)) (congrArg Value.bool h19)) ?_
          refine Lin.skip (by decide) rfl ?_
          refine Lin.skip (by decide) rfl ?_
          refine Lin.skip (by decide) rfl ?_
          refine Lin.skip (by decide) rfl ?_
          refine Lin.skip (by decide) rfl ?_
          refine Lin.skip (by decide) rfl ?_
          refine Lin.skip (by decide) rfl ?_
          refine Lin.skip (by decide) rfl ?_
          refine Lin.q (v := .bool (false)) (by decide) (Pu.qo (p_pickF rfl rfl)) ?_
          have j18 := Option.some.inj j18; subst j18
          show At _ _ _ _ _ _
          exact n1 ⟨rfl, rfl, rfl, rfl, rfl, rfl, trivial⟩
      refine Tr.cond (b := b17) rfl (fun h21 => ?_) (fun h21 => ?_)
      · have H1 := cdT h21 H1
        refine Tr.seq ?_
        refine Tr.region ?_
        refine Rg.q (v := .slice z9.1 σ8.1.length z9.2) (Pu.qo (p_move rfl)) (by decide) ?_
        refine Rg.q (v := .agg #[.int .i64 (v1.1), .int .i64 (v1.2)]) (q_ldbA ty46 rfl Has.here rfl) (by decide) ?_
        refine Rg.ed (e_lit (vs := [(0, .agg #[.int .i64 (v1.1), .int .i64 (v1.2)])]) [.int .i64 (v1.1), .int .i64 (v1.2)] Try.underlying36 ty46 rfl (by decide) (by decide) (by kernel_rfl)) rfl (by decide) ?_
        rintro _ _ _ ⟨g22, rfl, rfl, rfl⟩
        obtain ⟨h25, H1⟩ := gd.of H1
        refine Rg.ed (e_app1 (l := σ8.1) (α := Row) v1 ((), ()) Try.underlying36 ty46 rfl rfl (h25.b (by decide)) h25.x rfl (ShpT.wfa _) (.cons Del.here.there.there (.cons Del.here .nil))) rfl (by decide) ?_
        rintro _ _ _ ⟨a23, c24, rfl, rfl, rfl⟩
        refine Rg.q (v := .slice a23 ((σ8.1 ++ [v1]).length) c24) (Pu.qo (p_assign rfl)) (by decide) ?_
        refine Rg.nl ?_
        refine nT (?_)
        refine Tr.region ?_
        refine Rg.q (v := .bool (true)) (Pu.qo (p_assign rfl)) (by decide) ?_
        refine Rg.nl ?_
        refine nT (?_)
        refine Tr.seq ?_
        refine tLinS [(6, .bool (true)), (5, .slice a23 ((σ8.1 ++ [v1]).length) c24), (0, .slice x_v0.1 v0.length x_v0.2), (3, .pointer (some ⟨g1, 0, none⟩)), (7, .int .i64 (σ8.2.2))] Try.mixed (.inr (by kernel_rfl)) ⟨rfl, rfl, rfl, rfl, rfl, trivial⟩ rfl ?_
        refine Lin.q (v := .slice x_v0.1 v0.length x_v0.2) (by decide) (Pu.qo (p_move rfl)) ?_
        refine Lin.q (v := .int .i64 (σ8.2.2)) (by decide) (Pu.qo (p_move rfl)) ?_
        obtain ⟨h26, H1⟩ := gd.of H1
        refine Lin.q (v := elp x_v0.1 (σ8.2.2.toNat * Enc.sz Row + 0)) (by decide) (q_ixg (l := v0) (E := fun i => Flat.enc (nth v0 i)) (oa := x_v0.1) Try.underlying36 ty46 rfl rfl h26 rfl (EntB.flat (Ent.b Ent.z))) ?_
        refine Lin.q (v := elp x_v0.1 (σ8.2.2.toNat * Enc.sz Row + 0)) (by decide) (q_faeE (l := v0) (E := fun i => Flat.enc (nth v0 i)) (oa := x_v0.1) (j := 0) σ8.2.2.toNat fa46_0 rfl (EntB.flat (Ent.b Ent.z)) h26.lt rfl) ?_
        refine Lin.q (v := .int .i64 ((nth v0 σ8.2.2.toNat).1)) (by decide) (q_lde (l := v0) (E := fun i => Flat.enc (nth v0 i)) (oa := x_v0.1) (i := σ8.2.2.toNat) (j := 0) ty3 rfl (EntB.flat (Ent.b Ent.z)) h26.lt rfl) ?_
        refine Lin.q (v := .pointer (some ⟨g1, 0, none⟩)) (by decide) (Pu.qo (p_fabE fa46_0 rfl rfl)) ?_
        refine Lin.q (v := .int .i64 (v1.1)) (by decide) (q_ldb ty3 rfl Has.here.there rfl) ?_
        refine Lin.q (v := .bool (!decide (((nth v0 σ8.2.2.toNat).1) = v1.1))) (by decide) (Pu.qo (p_neq rfl rfl)) ?_
        show At _ _ _ _ _ _
        refine nT (?_)
        refine Tr.cond (b := !decide (((nth v0 σ8.2.2.toNat).1) = v1.1)) rfl (fun h27 => ?_) (fun h27 => ?_)
        · have H1 := cdT h27 H1
          refine Tr.region ?_
          refine Rg.q (v := .slice a23 ((σ8.1 ++ [v1]).length) c24) (Pu.qo (p_move rfl)) (by decide) ?_
          refine Rg.q (v := .slice x_v0.1 v0.length x_v0.2) (Pu.qo (p_move rfl)) (by decide) ?_
          refine Rg.q (v := .int .i64 (σ8.2.2)) (Pu.qo (p_move rfl)) (by decide) ?_
          refine Rg.q (v := elp x_v0.1 (σ8.2.2.toNat * Enc.sz Row + 0)) (q_ixg (l := v0) (E := fun i => Flat.enc (nth v0 i)) (oa := x_v0.1) Try.underlying36 ty46 rfl rfl h26 rfl (EntB.flat (Ent.b Ent.z))) (by decide) ?_
          refine Rg.q (v := .agg #[.int .i64 ((nth v0 σ8.2.2.toNat).1), .int .i64 ((nth v0 σ8.2.2.toNat).2)]) (q_ldeA (l := v0) (E := fun i => Flat.enc (nth v0 i)) (oa := x_v0.1) (i := σ8.2.2.toNat) ty46 rfl (EntB.flat (Ent.b Ent.z)) h26.lt) (by decide) ?_
          refine Rg.ed (e_lit (vs := [(0, .agg #[.int .i64 ((nth v0 σ8.2.2.toNat).1), .int .i64 ((nth v0 σ8.2.2.toNat).2)])]) [.int .i64 ((nth v0 σ8.2.2.toNat).1), .int .i64 ((nth v0 σ8.2.2.toNat).2)] Try.underlying36 ty46 rfl (by decide) (by decide) (by kernel_rfl)) rfl (by decide) ?_
          rintro _ _ _ ⟨g28, rfl, rfl, rfl⟩
          obtain ⟨h31, H1⟩ := gd.of H1
          refine Rg.ed (e_app1 (l := (σ8.1 ++ [v1])) (α := Row) (nth v0 σ8.2.2.toNat) ((), ()) Try.underlying36 ty46 rfl rfl (h31.b (by decide)) h31.x rfl (ShpT.wfa _) (.cons Del.here.there (.cons Del.here .nil))) rfl (by decide) ?_
          rintro _ _ _ ⟨a29, c30, rfl, rfl, rfl⟩
          refine Rg.q (v := .slice a29 (((σ8.1 ++ [v1]) ++ [nth v0 σ8.2.2.toNat]).length) c30) (Pu.qo (p_assign rfl)) (by decide) ?_
          refine Rg.nl ?_
          refine nB (nT (?_))
          refine Tr.region ?_
          refine Rg.q (v := .int .i64 (σ8.2.2)) (Pu.qo (p_move rfl)) (by decide) ?_
          obtain ⟨h32, H1⟩ := gd.of H1
          refine Rg.q (v := .int .i64 (σ8.2.2 + 1)) (Pu.qo (p_add rfl rfl h32)) (by decide) ?_
          refine Rg.q (v := .int .i64 (σ8.2.2 + 1)) (Pu.qo (p_assign rfl)) (by decide) ?_
          refine Rg.nl ?_
          exact nLC ⟨(m15, (((σ8.1 ++ [v1]) ++ [nth v0 σ8.2.2.toNat]), true, σ8.2.2 + 1), (a29, c30)), hi12 _ (Option.some.inj H1).symm⟩ (Nat.lt_succ_self _) ⟨rfl, rfl, rfl, rfl, rfl, trivial⟩ Ents.refl (.cons Del.here.there (.cons Del.here .nil))
        · have H1 := cdF h27 H1
          refine tSkip ?_
          refine nB (nT (?_))
          refine Tr.region ?_
          refine Rg.q (v := .int .i64 (σ8.2.2)) (Pu.qo (p_move rfl)) (by decide) ?_
          obtain ⟨h33, H1⟩ := gd.of H1
          refine Rg.q (v := .int .i64 (σ8.2.2 + 1)) (Pu.qo (p_add rfl rfl h33)) (by decide) ?_
          refine Rg.q (v := .int .i64 (σ8.2.2 + 1)) (Pu.qo (p_assign rfl)) (by decide) ?_
          refine Rg.nl ?_
          exact nLC ⟨(m15, ((σ8.1 ++ [v1]), true, σ8.2.2 + 1), (a23, c24)), hi12 _ (Option.some.inj H1).symm⟩ (Nat.lt_succ_self _) ⟨rfl, rfl, rfl, rfl, rfl, trivial⟩ Ents.refl (.cons Del.here.there (.cons Del.here .nil))
      · have H1 := cdF h21 H1
        refine tSkip ?_
        refine nT (?_)
        refine Tr.seq ?_
        refine tLinS [(0, .slice x_v0.1 v0.length x_v0.2), (3, .pointer (some ⟨g1, 0, none⟩)), (5, .slice z9.1 σ8.1.length z9.2), (6, .bool (σ8.2.1)), (7, .int .i64 (σ8.2.2))] Try.mixed (.inr (by kernel_rfl)) ⟨rfl, rfl, rfl, rfl, rfl, trivial⟩ rfl ?_
        refine Lin.q (v := .slice x_v0.1 v0.length x_v0.2) (by decide) (Pu.qo (p_move rfl)) ?_
        refine Lin.q (v := .int .i64 (σ8.2.2)) (by decide) (Pu.qo (p_move rfl)) ?_
        obtain ⟨h34, H1⟩ := gd.of H1
        refine Lin.q (v := elp x_v0.1 (σ8.2.2.toNat * Enc.sz Row + 0)) (by decide) (q_ixg (l := v0) (E := fun i => Flat.enc (nth v0 i)) (oa := x_v0.1) Try.underlying36 ty46 rfl rfl h34 rfl (EntB.flat (Ent.b Ent.z))) ?_
        refine Lin.q (v := elp x_v0.1 (σ8.2.2.toNat * Enc.sz Row + 0)) (by decide) (q_faeE (l := v0) (E := fun i => Flat.enc (nth v0 i)) (oa := x_v0.1) (j := 0) σ8.2.2.toNat fa46_0 rfl (EntB.flat (Ent.b Ent.z)) h34.lt rfl) ?_
        refine Lin.q (v := .int .i64 ((nth v0 σ8.2.2.toNat).1)) (by decide) (q_lde (l := v0) (E := fun i => Flat.enc (nth v0 i)) (oa := x_v0.1) (i := σ8.2.2.toNat) (j := 0) ty3 rfl (EntB.flat (Ent.b Ent.z)) h34.lt rfl) ?_
        refine Lin.q (v := .pointer (some ⟨g1, 0, none⟩)) (by decide) (Pu.qo (p_fabE fa46_0 rfl rfl)) ?_
        refine Lin.q (v := .int .i64 (v1.1)) (by decide) (q_ldb ty3 rfl Has.here rfl) ?_
        refine Lin.q (v := .bool (!decide (((nth v0 σ8.2.2.toNat).1) = v1.1))) (by decide) (Pu.qo (p_neq rfl rfl)) ?_
        show At _ _ _ _ _ _
        refine nT (?_)
        refine Tr.cond (b := !decide (((nth v0 σ8.2.2.toNat).1) = v1.1)) rfl (fun h35 => ?_) (fun h35 => ?_)
        · have H1 := cdT h35 H1
          refine Tr.region ?_
          refine Rg.q (v := .slice z9.1 σ8.1.length z9.2) (Pu.qo (p_move rfl)) (by decide) ?_
          refine Rg.q (v := .slice x_v0.1 v0.length x_v0.2) (Pu.qo (p_move rfl)) (by decide) ?_
          refine Rg.q (v := .int .i64 (σ8.2.2)) (Pu.qo (p_move rfl)) (by decide) ?_
          refine Rg.q (v := elp x_v0.1 (σ8.2.2.toNat * Enc.sz Row + 0)) (q_ixg (l := v0) (E := fun i => Flat.enc (nth v0 i)) (oa := x_v0.1) Try.underlying36 ty46 rfl rfl h34 rfl (EntB.flat (Ent.b Ent.z))) (by decide) ?_
          refine Rg.q (v := .agg #[.int .i64 ((nth v0 σ8.2.2.toNat).1), .int .i64 ((nth v0 σ8.2.2.toNat).2)]) (q_ldeA (l := v0) (E := fun i => Flat.enc (nth v0 i)) (oa := x_v0.1) (i := σ8.2.2.toNat) ty46 rfl (EntB.flat (Ent.b Ent.z)) h34.lt) (by decide) ?_
          refine Rg.ed (e_lit (vs := [(0, .agg #[.int .i64 ((nth v0 σ8.2.2.toNat).1), .int .i64 ((nth v0 σ8.2.2.toNat).2)])]) [.int .i64 ((nth v0 σ8.2.2.toNat).1), .int .i64 ((nth v0 σ8.2.2.toNat).2)] Try.underlying36 ty46 rfl (by decide) (by decide) (by kernel_rfl)) rfl (by decide) ?_
          rintro _ _ _ ⟨g36, rfl, rfl, rfl⟩
          obtain ⟨h39, H1⟩ := gd.of H1
          refine Rg.ed (e_app1 (l := σ8.1) (α := Row) (nth v0 σ8.2.2.toNat) ((), ()) Try.underlying36 ty46 rfl rfl (h39.b (by decide)) h39.x rfl (ShpT.wfa _) (.cons Del.here.there.there (.cons Del.here .nil))) rfl (by decide) ?_
          rintro _ _ _ ⟨a37, c38, rfl, rfl, rfl⟩
          refine Rg.q (v := .slice a37 ((σ8.1 ++ [nth v0 σ8.2.2.toNat]).length) c38) (Pu.qo (p_assign rfl)) (by decide) ?_
          refine Rg.nl ?_
          refine nB (nT (?_))
          refine Tr.region ?_
          refine Rg.q (v := .int .i64 (σ8.2.2)) (Pu.qo (p_move rfl)) (by decide) ?_
          obtain ⟨h40, H1⟩ := gd.of H1
          refine Rg.q (v := .int .i64 (σ8.2.2 + 1)) (Pu.qo (p_add rfl rfl h40)) (by decide) ?_
          refine Rg.q (v := .int .i64 (σ8.2.2 + 1)) (Pu.qo (p_assign rfl)) (by decide) ?_
          refine Rg.nl ?_
          exact nLC ⟨(m15, ((σ8.1 ++ [nth v0 σ8.2.2.toNat]), σ8.2.1, σ8.2.2 + 1), (a37, c38)), hi12 _ (Option.some.inj H1).symm⟩ (Nat.lt_succ_self _) ⟨rfl, rfl, rfl, rfl, rfl, trivial⟩ Ents.refl (.cons Del.here.there (.cons Del.here .nil))
        · have H1 := cdF h35 H1
          refine tSkip ?_
          refine nB (nT (?_))
          refine Tr.region ?_
          refine Rg.q (v := .int .i64 (σ8.2.2)) (Pu.qo (p_move rfl)) (by decide) ?_
          obtain ⟨h41, H1⟩ := gd.of H1
          refine Rg.q (v := .int .i64 (σ8.2.2 + 1)) (Pu.qo (p_add rfl rfl h41)) (by decide) ?_
          refine Rg.q (v := .int .i64 (σ8.2.2 + 1)) (Pu.qo (p_assign rfl)) (by decide) ?_
          refine Rg.nl ?_
          exact nLC ⟨(m15, (σ8.1, σ8.2.1, σ8.2.2 + 1), (z9.1, z9.2)), hi12 _ (Option.some.inj H1).symm⟩ (Nat.lt_succ_self _) ⟨rfl, rfl, rfl, rfl, rfl, trivial⟩ Ents.refl (.cons Del.here (.cons Del.here .nil))
    · have H1 := cdF h16 H1
      refine tExit (xT (xT (xE (?_))))
      have hx := hb13 _ (Option.some.inj H1).symm; subst hx
      exact nMC (z9.1, z9.2) ⟨rfl, rfl, rfl, trivial⟩ Ents.refl (.cons Del.here (.cons Del.here .nil))
  · intro y10
    show At _ _ [(3, .pointer (some ⟨g1, 0, none⟩)), (5, .slice y10.1 x4.1.length y10.2), (6, .bool (x4.2))] _ [box g1 46 [.int .i64 (v1.1), .int .i64 (v1.2)], tree (.slice y10.1 x4.1.length y10.2) x4.1] _
    refine nT (?_)
    refine Tr.seq ?_
    refine Tr.seq ?_
    refine Tr.region ?_
    refine Rg.q (v := .bool (x4.2)) (Pu.qo (p_move rfl)) (by decide) ?_
    refine Rg.q (v := .bool (!x4.2)) (Pu.qo (p_not rfl)) (by decide) ?_
    refine Rg.nl ?_
    refine nT (?_)
    refine Tr.cond (b := !x4.2) rfl (fun h42 => ?_) (fun h42 => ?_)
    · have H := cdT h42 H
      refine Tr.region ?_
      refine Rg.q (v := .slice y10.1 x4.1.length y10.2) (Pu.qo (p_move rfl)) (by decide) ?_
      refine Rg.q (v := .agg #[.int .i64 (v1.1), .int .i64 (v1.2)]) (q_ldbA ty46 rfl Has.here rfl) (by decide) ?_
      refine Rg.ed (e_lit (vs := [(0, .agg #[.int .i64 (v1.1), .int .i64 (v1.2)])]) [.int .i64 (v1.1), .int .i64 (v1.2)] Try.underlying36 ty46 rfl (by decide) (by decide) (by kernel_rfl)) rfl (by decide) ?_
      rintro _ _ _ ⟨g43, rfl, rfl, rfl⟩
      obtain ⟨h46, H⟩ := gd.of H
      refine Rg.ed (e_app1 (l := x4.1) (α := Row) v1 ((), ()) Try.underlying36 ty46 rfl rfl (h46.b (by decide)) h46.x rfl (ShpT.wfa _) (.cons Del.here.there.there (.cons Del.here .nil))) rfl (by decide) ?_
      rintro _ _ _ ⟨a44, c45, rfl, rfl, rfl⟩
      refine Rg.q (v := .slice a44 ((x4.1 ++ [v1]).length) c45) (Pu.qo (p_assign rfl)) (by decide) ?_
      refine Rg.nl ?_
      refine nT (?_)
      refine Tr.seq ?_
      refine Tr.region ?_
      refine Rg.q (v := .slice a44 ((x4.1 ++ [v1]).length) c45) (Pu.qo (p_move rfl)) (by decide) ?_
      refine Rg.q (v := .slice a44 ((x4.1 ++ [v1]).length) c45) (Pu.qo (p_assign rfl)) (by decide) ?_
      refine Rg.nl ?_
      refine nT (?_)
      refine tRet ?_
      have hr := Option.some.inj H; subst hr
      exact back1 (a44, c45) rfl (ResV.tmp (v := .slice a44 ((x4.1 ++ [v1]).length) c45) rfl) rfl Ents.nil (.cons Del.here .nil)
    · have H := cdF h42 H
      refine tSkip ?_
      refine nT (?_)
      refine Tr.seq ?_
      refine Tr.region ?_
      refine Rg.q (v := .slice y10.1 x4.1.length y10.2) (Pu.qo (p_move rfl)) (by decide) ?_
      refine Rg.q (v := .slice y10.1 x4.1.length y10.2) (Pu.qo (p_assign rfl)) (by decide) ?_
      refine Rg.nl ?_
      refine nT (?_)
      refine tRet ?_
      have hr := Option.some.inj H; subst hr
      exact back1 y10 rfl (ResV.tmp (v := .slice y10.1 x4.1.length y10.2) rfl) rfl Ents.nil (.cons Del.here.there .nil)
noncomputable def p_spec_l12Make_b0 (v0 : (List (List Row))) (σ12 : (List Int) × (List (List Row)) × Int) : Option (((List Int) × (List (List Row)) × Int) ⊕ ((List Int) × (List (List Row)))) := cond (decide (σ12.2.2 < (v0.length : Int))) (gd (ix σ12.2.2 v0.length) <| cond (decide (0 < ((nth v0 σ12.2.2.toNat).length : Int))) (gd (I64 (σ12.2.2 + 1)) <| gd (room (σ12.1.length + 1)) <| gd (room (([] : List Row).length + (nth v0 σ12.2.2.toNat).length)) <| gd (room (σ12.2.1.length + 1)) <| some (.inl ((σ12.1 ++ [σ12.2.2 + 1]), (σ12.2.1 ++ [([] : List Row) ++ (nth v0 σ12.2.2.toNat)]), σ12.2.2 + 1))) (gd (I64 (σ12.2.2 + 1)) <| some (.inl (σ12.1, σ12.2.1, σ12.2.2 + 1)))) (some (.inr (σ12.1, σ12.2.1)))
noncomputable def p_spec_l12Make (v0 : (List (List Row))) : Option (Part) := bd (lp (p_spec_l12Make_b0 v0) (([] : List Int), ([] : List (List Row)), 0)) fun x8 => some x8
theorem c_spec_l12Make {r : Part} (v0 : (List (List Row))) (x_v0 : Option Addr × Nat) (H : p_spec_l12Make v0 = some r) : Fn' Try.prog 50 #[.slice x_v0.1 v0.length x_v0.2] [imm (.slice x_v0.1 v0.length x_v0.2) v0] [] (ι := (Option Addr × Nat) × (Option Addr × Nat)) (fun x => .agg #[.slice x.1.1 r.1.length x.1.2, .slice x.2.1 r.2.length x.2.2]) (fun _ => []) (fun x => [tree (.slice x.1.1 r.1.length x.1.2) r.1, tree (.slice x.2.1 r.2.length x.2.2) r.2]) := by
  refine calls_of (args := [_]) Try.func50 rfl (by kernel_rfl) Try.ntmps50 (by simp) fun c => ?_
  unfold p_spec_l12Make at H
  refine Tr.openD Ent.z fun X1 => ?_
  refine Tr.seq ?_
  refine Tr.region ?_
  refine Rg.ed (e_alloc ty26) rfl (by decide) ?_
  rintro _ _ _ ⟨g2, rfl, rfl, rfl⟩
  refine Rg.nl ?_
  refine nT (?_)
  refine Tr.seq ?_
  refine Tr.region ?_
  refine Rg.ed (e_lit0 Int Try.underlying23 ty3) rfl (by decide) ?_
  rintro _ _ _ ⟨a3, c4, rfl, rfl, rfl⟩
  refine Rg.ed (e_lit0 (List Row) Try.underlying24 ty36) rfl (by decide) ?_
  rintro _ _ _ ⟨a5, c6, rfl, rfl, rfl⟩
  refine Rg.q (v := .agg #[.slice a3 (([] : List Int).length) c4, .slice a5 (([] : List (List Row)).length) c6]) (Pu.qo (p_buildS (vs := [(0, .slice a3 (([] : List Int).length) c4), (1, .slice a5 (([] : List (List Row)).length) c6)]) (cs := #[.slice a3 (([] : List Int).length) c4, .slice a5 (([] : List (List Row)).length) c6]) ty26 pl26 rfl rfl)) (by decide) ?_
  refine Rg.ed (e_alloc ty26) rfl (by decide) ?_
  rintro _ _ _ ⟨g7, rfl, rfl, rfl⟩
  refine Rg.en (e_store (v := .agg #[.slice a3 (([] : List Int).length) c4, .slice a5 (([] : List (List Row)).length) c6]) (cs' := [.slice a3 (([] : List Int).length) c4, .slice a5 (([] : List (List Row)).length) c6]) ty26 rfl rfl Upd.here rfl (by simp [Value.cells, Value.oneCell']) (Nat.le_of_ble_eq_true rfl) rfl) rfl ?_
  rintro _ _ _ ⟨rfl, rfl, rfl⟩
  refine Rg.nl ?_
  refine nT (?_)
  refine Tr.seq ?_
  refine Tr.seq ?_
  refine Tr.region ?_
  refine Rg.q (v := .int .i64 (0)) (Pu.qo (p_assign rfl)) (by decide) ?_
  refine Rg.nl ?_
  refine nT (?_)
  obtain ⟨x8, hx9, H⟩ := bd.of H
  obtain ⟨n10, hx9⟩ := lp.of hx9
  refine tMidNC (ι := (Option Addr × Nat) × (Option Addr × Nat)) (fun ψ => [(2, .pointer (some ⟨g2, 0, none⟩)), (3, .pointer (some ⟨g7, 0, none⟩))]) (fun ψ => [box g2 26 [.slice none 0 0, .slice none 0 0], tree (.slice ψ.1.1 x8.1.length ψ.1.2) x8.1, tree (.slice ψ.2.1 x8.2.length ψ.2.2) x8.2, box g7 26 [.slice ψ.1.1 x8.1.length ψ.1.2, .slice ψ.2.1 x8.2.length ψ.2.2]]) ?_ ?_
  · refine Tr.block ?_
    refine tLoopC (ι := { q : Nat × ((List Int) × (List (List Row)) × Int) × ((Option Addr × Nat) × (Option Addr × Nat)) // itr (p_spec_l12Make_b0 v0) q.1 q.2.1 = some x8 }) (fun ζ => [(0, .slice x_v0.1 v0.length x_v0.2), (2, .pointer (some ⟨g2, 0, none⟩)), (3, .pointer (some ⟨g7, 0, none⟩)), (4, .int .i64 (ζ.1.2.1.2.2))]) (fun ζ => [box g2 26 [.slice none 0 0, .slice none 0 0], tree (.slice ζ.1.2.2.1.1 ζ.1.2.1.1.length ζ.1.2.2.1.2) ζ.1.2.1.1, tree (.slice ζ.1.2.2.2.1 ζ.1.2.1.2.1.length ζ.1.2.2.2.2) ζ.1.2.1.2.1, box g7 26 [.slice ζ.1.2.2.1.1 ζ.1.2.1.1.length ζ.1.2.2.1.2, .slice ζ.1.2.2.2.1 ζ.1.2.1.2.1.length ζ.1.2.2.2.2]]) (fun ζ => ζ.1.1) ⟨(n10, (([] : List Int), ([] : List (List Row)), 0), ((a3, c4), (a5, c6))), hx9⟩ ⟨rfl, rfl, rfl, rfl, trivial⟩ (.cons Del.here.there.there.there (.cons Del.here.there.there (.cons Del.here.there (.cons Del.here .nil)))) ?_
    rintro ⟨⟨m11, σ12, z13⟩, hk18⟩
    obtain ⟨m19, t15, e, H1, hi16, hb17⟩ := itr.of (n := m11) (s := σ12) hk18
    subst e; unfold p_spec_l12Make_b0 at H1
    show Tr _ _ _ _ _ [(0, .slice x_v0.1 v0.length x_v0.2), (2, .pointer (some ⟨g2, 0, none⟩)), (3, .pointer (some ⟨g7, 0, none⟩)), (4, .int .i64 (σ12.2.2))] _ [box g2 26 [.slice none 0 0, .slice none 0 0], tree (.slice z13.1.1 σ12.1.length z13.1.2) σ12.1, tree (.slice z13.2.1 σ12.2.1.length z13.2.2) σ12.2.1, box g7 26 [.slice z13.1.1 σ12.1.length z13.1.2, .slice z13.2.1 σ12.2.1.length z13.2.2]]
    refine Tr.seq ?_
    refine Tr.seq ?_
    refine Tr.region ?_
    refine Rg.q (v := .int .i64 (σ12.2.2)) (Pu.qo (p_move rfl)) (by decide) ?_
    refine Rg.q (v := .slice x_v0.1 v0.length x_v0.2) (Pu.qo (p_move rfl)) (by decide) ?_
    refine Rg.q (v := .int .i64 ((v0.length : Int))) (Pu.qo (p_len 36 Try.underlying24 rfl)) (by decide) ?_
    refine Rg.q (v := .bool (decide (σ12.2.2 < (v0.length : Int)))) (Pu.qo (p_lss rfl rfl)) (by decide) ?_
    refine Rg.nl ?_
    refine nT (?_)
    refine Tr.cond (b := decide (σ12.2.2 < (v0.length : Int))) rfl (fun h20 => ?_) (fun h20 => ?_)
    · have H1 := cdT h20 H1
      refine tSkip ?_
      refine nT (?_)
      refine Tr.seq ?_
      refine Tr.block ?_
      refine Tr.seq ?_
      refine Tr.region ?_
      refine Rg.q (v := .slice x_v0.1 v0.length x_v0.2) (Pu.qo (p_move rfl)) (by decide) ?_
      refine Rg.q (v := .int .i64 (σ12.2.2)) (Pu.qo (p_move rfl)) (by decide) ?_
      obtain ⟨h21, H1⟩ := gd.of H1
      refine Rg.q (v := elp x_v0.1 (σ12.2.2.toNat * Enc.sz (List Row) + 0)) (q_ixg (l := v0) (E := fun i => Dp.denc (nth v0 i) (X1 i)) (oa := x_v0.1) Try.underlying24 ty36 rfl rfl h21 rfl (Ent.b (Ent.darr Ent.z))) (by decide) ?_
      refine Rg.q (v := .slice ((X1 σ12.2.2.toNat).1) ((nth v0 σ12.2.2.toNat).length) ((X1 σ12.2.2.toNat).2.1)) (q_lde (l := v0) (E := fun i => Dp.denc (nth v0 i) (X1 i)) (oa := x_v0.1) (i := σ12.2.2.toNat) (j := 0) ty36 rfl (Ent.b (Ent.darr Ent.z)) h21.lt rfl) (by decide) ?_
      refine Rg.q (v := .int .i64 (((nth v0 σ12.2.2.toNat).length : Int))) (Pu.qo (p_len 46 Try.underlying36 rfl)) (by decide) ?_
      refine Rg.q (v := .bool (decide (0 < ((nth v0 σ12.2.2.toNat).length : Int)))) (Pu.qo (p_gtr rfl rfl)) (by decide) ?_
      refine Rg.nl ?_
      refine nT (?_)
      refine Tr.cond (b := decide (0 < ((nth v0 σ12.2.2.toNat).length : Int))) rfl (fun h22 => ?_) (fun h22 => ?_)
      · have H1 := cdT h22 H1
        refine Tr.seq ?_
        refine Tr.region ?_
        refine Rg.q (v := .pointer (some ⟨g7, 0, none⟩)) (Pu.qo (p_fabE fa26_0 rfl rfl)) (by decide) ?_
        refine Rg.q (v := .slice z13.1.1 σ12.1.length z13.1.2) (q_ldb ty23 rfl Has.here.there.there.there rfl) (by decide) ?_
        refine Rg.q (v := .int .i64 (σ12.2.2)) (Pu.qo (p_move rfl)) (by decide) ?_
        obtain ⟨h23, H1⟩ := gd.of H1
        refine Rg.q (v := .int .i64 (σ12.2.2 + 1)) (Pu.qo (p_add rfl rfl h23)) (by decide) ?_
        refine Rg.ed (e_lit (vs := [(0, .int .i64 (σ12.2.2 + 1))]) [.int .i64 (σ12.2.2 + 1)] Try.underlying23 ty3 rfl (by decide) (by decide) (by kernel_rfl)) rfl (by decide) ?_
        rintro _ _ _ ⟨g24, rfl, rfl, rfl⟩
        obtain ⟨h27, H1⟩ := gd.of H1
        refine Rg.ed (e_app1 (l := σ12.1) (α := Int) (σ12.2.2 + 1) () Try.underlying23 ty3 rfl rfl (h27.b (by decide)) h27.x rfl (ShpT.wfa _) (.cons Del.here.there.there (.cons Del.here .nil))) rfl (by decide) ?_
        rintro _ _ _ ⟨a25, c26, rfl, rfl, rfl⟩
        refine Rg.q (v := .pointer (some ⟨g7, 0, none⟩)) (Pu.qo (p_fabE fa26_0 rfl rfl)) (by decide) ?_
        refine Rg.en (e_store (v := .slice a25 ((σ12.1 ++ [σ12.2.2 + 1]).length) c26) (cs' := [.slice a25 ((σ12.1 ++ [σ12.2.2 + 1]).length) c26, .slice z13.2.1 σ12.2.1.length z13.2.2]) ty23 rfl rfl Upd.here.there.there.there rfl (by simp [Value.cells, Value.oneCell']) (Nat.le_of_ble_eq_true rfl) rfl) rfl ?_
        rintro _ _ _ ⟨rfl, rfl, rfl⟩
        refine Rg.nl ?_
        refine nT (?_)
        refine tNwS [(0, .slice x_v0.1 v0.length x_v0.2), (2, .pointer (some ⟨g2, 0, none⟩)), (3, .pointer (some ⟨g7, 0, none⟩)), (4, .int .i64 (σ12.2.2))] 2 [0, 1, 3, 4, 5, 6, 2, 7, 8, 9, 10, 11] [2, 7, 8, 9, 11] [] Try.mixed (by kernel_rfl) (by decide) List.nodup_nil ⟨rfl, rfl, rfl, rfl, trivial⟩ rfl okNil ?_
        refine w_pu (v := .pointer (some ⟨g7, 1, none⟩)) rfl (by decide) rfl rfl rfl (p_fabE fa26_1 rfl rfl) ?_
        refine w_q (v := .slice z13.2.1 σ12.2.1.length z13.2.2) rfl (by decide) rfl rfl rfl (fun F => (q_ldb ty24 rfl (Has.here.there.there.there.app F) rfl)) ?_
        refine w_pu (v := .slice x_v0.1 v0.length x_v0.2) rfl (by decide) rfl rfl rfl (p_move rfl) ?_
        refine w_pu (v := .int .i64 (σ12.2.2)) rfl (by decide) rfl rfl rfl (p_move rfl) ?_
        refine w_q (v := elp x_v0.1 (σ12.2.2.toNat * Enc.sz (List Row) + 0)) rfl (by decide) rfl rfl rfl (fun F => (q_ixg (l := v0) (E := fun i => Dp.denc (nth v0 i) (X1 i)) (oa := x_v0.1) Try.underlying24 ty36 rfl rfl h21 rfl (Ent.b (Ent.darr Ent.z)))) ?_
        refine w_q (v := .slice ((X1 σ12.2.2.toNat).1) ((nth v0 σ12.2.2.toNat).length) ((X1 σ12.2.2.toNat).2.1)) rfl (by decide) rfl rfl rfl (fun F => (q_lde (l := v0) (E := fun i => Dp.denc (nth v0 i) (X1 i)) (oa := x_v0.1) (i := σ12.2.2.toNat) (j := 0) ty36 rfl (Ent.b (Ent.darr Ent.z)) h21.lt rfl)) ?_
        refine w_ed rfl (by decide) rfl Rdy.nil rfl (n_lit0 Row Try.underlying36 ty46) ?_
        rintro _ _ _ ⟨a28, c29, rfl, rfl, rfl⟩
        refine ⟨(PdOk.q rfl rfl (fun F => (q_lde (l := v0) (E := fun i => Dp.denc (nth v0 i) (X1 i)) (oa := x_v0.1) (i := σ12.2.2.toNat) (j := 0) ty36 rfl (Ent.b (Ent.darr Ent.z)) h21.lt rfl)) (PdOk.q rfl rfl (fun F => (q_ixg (l := v0) (E := fun i => Dp.denc (nth v0 i) (X1 i)) (oa := x_v0.1) Try.underlying24 ty36 rfl rfl h21 rfl (Ent.b (Ent.darr Ent.z)))) (PdOk.q rfl rfl (fun F => (q_ldb ty24 rfl (Has.here.there.there.there.there.app F) rfl)) PdOk.nil))), ?_⟩
        obtain ⟨h32, H1⟩ := gd.of H1
        refine w_ed rfl (by decide) rfl Rdy.nil rfl (n_appF (l := ([] : List Row)) (k := nth v0 σ12.2.2.toNat) (α := Row) Try.underlying36 ty46 rfl rfl (h32.b (by decide)) h32.x (.cons Del.here .nil) (Ent.b (Ent.dimm (Ent.del Ent.z h21.lt)))) ?_
        rintro _ _ _ ⟨a30, c31, rfl, rfl, rfl⟩
        refine ⟨(PdOk.anc (by kernel_rfl) (PdOk.anc (by kernel_rfl) (PdOk.q rfl rfl (fun F => (q_ldb ty24 rfl (Has.here.there.there.there.there.app F) rfl)) PdOk.nil))), ?_⟩
        refine w_ed rfl (by decide) rfl Rdy.nil rfl (n_lit (vs := [(0, .slice a30 ((([] : List Row) ++ (nth v0 σ12.2.2.toNat)).length) c31)]) [.slice a30 ((([] : List Row) ++ (nth v0 σ12.2.2.toNat)).length) c31] Try.underlying24 ty36 rfl (by decide) (by decide) (by kernel_rfl)) ?_
        rintro _ _ _ ⟨g33, rfl, rfl, rfl⟩
        refine ⟨(PdOk.anc (by kernel_rfl) (PdOk.q rfl rfl (fun F => (q_ixg (l := v0) (E := fun i => Dp.denc (nth v0 i) (X1 i)) (oa := x_v0.1) Try.underlying24 ty36 rfl rfl h21 rfl (Ent.b (Ent.darr Ent.z)))) (PdOk.q rfl rfl (fun F => (q_ldb ty24 rfl (Has.here.there.there.there.there.there.app F) rfl)) PdOk.nil))), ?_⟩
        obtain ⟨h36, H1⟩ := gd.of H1
        refine w_ed rfl (by decide) rfl Rdy.nil rfl (n_app1 (l := σ12.2.1) (α := (List Row)) (([] : List Row) ++ (nth v0 σ12.2.2.toNat)) (a30, c31) Try.underlying24 ty36 rfl rfl (h36.b (by decide)) h36.x rfl (ShpT.wfa _) (.cons Del.here.there.there.there.there (.cons Del.here (.cons Del.here .nil)))) ?_
        rintro _ _ _ ⟨a34, c35, rfl, rfl, rfl⟩
        refine ⟨(PdOk.anc (by kernel_rfl) (PdOk.q rfl rfl (fun F => (q_ixg (l := v0) (E := fun i => Dp.denc (nth v0 i) (X1 i)) (oa := x_v0.1) Try.underlying24 ty36 rfl rfl h21 rfl (Ent.b (Ent.darr Ent.z)))) (PdOk.anc (by kernel_rfl) PdOk.nil))), ?_⟩
        refine w_pu (v := .pointer (some ⟨g7, 1, none⟩)) rfl (by decide) rfl rfl rfl (p_fabE fa26_1 rfl rfl) ?_
        refine w_en rfl rfl Rdy.nil rfl (n_store (v := .slice a34 ((σ12.2.1 ++ [([] : List Row) ++ (nth v0 σ12.2.2.toNat)]).length) c35) (cs' := [.slice a25 ((σ12.1 ++ [σ12.2.2 + 1]).length) c26, .slice a34 ((σ12.2.1 ++ [([] : List Row) ++ (nth v0 σ12.2.2.toNat)]).length) c35]) ty24 rfl rfl Upd.here.there.there.there rfl (by simp [Value.cells, Value.oneCell']) (Nat.le_of_ble_eq_true rfl) rfl) ?_
        rintro _ _ _ ⟨rfl, rfl, rfl⟩
        refine ⟨(PdOk.anc (by kernel_rfl) (PdOk.anc (by kernel_rfl) (PdOk.anc (by kernel_rfl) PdOk.nil))), ?_⟩
        refine w_nil ?_
        show At _ _ _ _ _ _
        refine nB (nT (?_))
        refine Tr.region ?_
        refine Rg.q (v := .int .i64 (σ12.2.2)) (Pu.qo (p_move rfl)) (by decide) ?_
        refine Rg.q (v := .int .i64 (σ12.2.2 + 1)) (Pu.qo (p_add rfl rfl h23)) (by decide) ?_
        refine Rg.q (v := .int .i64 (σ12.2.2 + 1)) (Pu.qo (p_assign rfl)) (by decide) ?_
        refine Rg.nl ?_
        exact nLC ⟨(m19, ((σ12.1 ++ [σ12.2.2 + 1]), (σ12.2.1 ++ [([] : List Row) ++ (nth v0 σ12.2.2.toNat)]), σ12.2.2 + 1), ((a25, c26), (a34, c35))), hi16 _ (Option.some.inj H1).symm⟩ (Nat.lt_succ_self _) ⟨rfl, rfl, rfl, rfl, trivial⟩ Ents.refl (.cons Del.here.there.there (.cons Del.here.there (.cons Del.here (.cons Del.here .nil))))
      · have H1 := cdF h22 H1
        refine tSkip ?_
        refine nB (nT (?_))
        refine Tr.region ?_
        refine Rg.q (v := .int .i64 (σ12.2.2)) (Pu.qo (p_move rfl)) (by decide) ?_
        obtain ⟨h37, H1⟩ := gd.of H1
        refine Rg.q (v := .int .i64 (σ12.2.2 + 1)) (Pu.qo (p_add rfl rfl h37)) (by decide) ?_
        refine Rg.q (v := .int .i64 (σ12.2.2 + 1)) (Pu.qo (p_assign rfl)) (by decide) ?_
        refine Rg.nl ?_
        exact nLC ⟨(m19, (σ12.1, σ12.2.1, σ12.2.2 + 1), ((z13.1.1, z13.1.2), (z13.2.1, z13.2.2))), hi16 _ (Option.some.inj H1).symm⟩ (Nat.lt_succ_self _) ⟨rfl, rfl, rfl, rfl, trivial⟩ Ents.refl (.cons Del.here (.cons Del.here (.cons Del.here (.cons Del.here .nil))))
    · have H1 := cdF h20 H1
      refine tExit (xT (xT (xE (?_))))
      have hx := hb17 _ (Option.some.inj H1).symm; subst hx
      exact nMC ((z13.1.1, z13.1.2), (z13.2.1, z13.2.2)) ⟨rfl, rfl, trivial⟩ Ents.refl (.cons Del.here (.cons Del.here (.cons Del.here (.cons Del.here .nil))))
  · intro y14
    show At _ _ [(2, .pointer (some ⟨g2, 0, none⟩)), (3, .pointer (some ⟨g7, 0, none⟩))] _ [box g2 26 [.slice none 0 0, .slice none 0 0], tree (.slice y14.1.1 x8.1.length y14.1.2) x8.1, tree (.slice y14.2.1 x8.2.length y14.2.2) x8.2, box g7 26 [.slice y14.1.1 x8.1.length y14.1.2, .slice y14.2.1 x8.2.length y14.2.2]] _
    refine nT (?_)
    refine Tr.seq ?_
    refine Tr.region ?_
    refine Rg.q (v := .agg #[.slice y14.1.1 x8.1.length y14.1.2, .slice y14.2.1 x8.2.length y14.2.2]) (q_ldbA ty26 rfl Has.here.there.there.there rfl) (by decide) ?_
    refine Rg.en (e_store (v := .agg #[.slice y14.1.1 x8.1.length y14.1.2, .slice y14.2.1 x8.2.length y14.2.2]) (cs' := [.slice y14.1.1 x8.1.length y14.1.2, .slice y14.2.1 x8.2.length y14.2.2]) ty26 rfl rfl Upd.here rfl (by simp [Value.cells, Value.oneCell']) (Nat.le_of_ble_eq_true rfl) rfl) rfl ?_
    rintro _ _ _ ⟨rfl, rfl, rfl⟩
    refine Rg.nl ?_
    refine nT (?_)
    refine tRet ?_
    have hr := Option.some.inj H; subst hr
    exact back1 y14 rfl (ResV.agg ty26 rfl Has.here rfl) rfl Ents.nil (.cons Del.here.there (.cons Del.here.there .nil))
def p_impl_within (v0 : Int) (v1 : Int) (v2 : Int) : Option (Bool) := bd (cond (decide (v1 ≤ v0)) (some (decide (v0 ≤ v2))) (some (false))) fun b1 => some b1
theorem c_impl_within {r : Bool} (v0 : Int) (v1 : Int) (v2 : Int) (H : p_impl_within v0 v1 v2 = some r) : Fn' Try.prog 37 #[.int .i64 (v0), .int .i64 (v1), .int .i64 (v2)] [] [] (ι := Unit) (fun x => .bool (r)) (fun _ => []) (fun x => []) := by
  refine calls_of (args := [_, _, _]) Try.func37 rfl (by kernel_rfl) Try.ntmps37 (by simp) fun c => ?_
  unfold p_impl_within at H
  refine Tr.seq ?_
  refine Tr.region ?_
  refine Rg.q (v := .bool (false)) (Pu.qo (p_assign rfl)) (by decide) ?_
  refine Rg.nl ?_
  refine nT (?_)
  obtain ⟨b1, j2, H⟩ := bd.of H
  refine tMid1 [(6, .bool (b1))] ?_ ?_
  · refine tLinT [(0, .int .i64 (v0)), (1, .int .i64 (v1)), (2, .int .i64 (v2))] ⟨rfl, rfl, rfl, trivial⟩ ?_
    refine Lin.q (v := .int .i64 (v0)) (by decide) (Pu.qo (p_move rfl)) ?_
    refine Lin.q (v := .int .i64 (v1)) (by decide) (Pu.qo (p_move rfl)) ?_
    refine Lin.q (v := .bool (decide (v1 ≤ v0))) (by decide) (Pu.qo (p_geq rfl rfl)) ?_
    rcases Bool.eq_false_or_eq_true (decide (v1 ≤ v0)) with h3 | h3
    · have j2 := cdT h3 j2
      refine Lin.q (v := .bool (true)) (by decide) (Qo.eqv (v := .bool (decide (v1 ≤ v0))) (Pu.qo (p_move rfl)) (congrArg Value.bool h3)) ?_
      refine Lin.g (v := .int .i64 (v0)) (by decide) rfl (Pu.qo (p_move rfl)) ?_
      refine Lin.g (v := .int .i64 (v2)) (by decide) rfl (Pu.qo (p_move rfl)) ?_
      refine Lin.g (v := .bool (decide (v0 ≤ v2))) (by decide) rfl (Pu.qo (p_leq rfl rfl)) ?_
      refine Lin.q (v := .bool (decide (v0 ≤ v2))) (by decide) (Pu.qo (p_pickT rfl rfl)) ?_
      refine Lin.q (v := .bool (decide (v0 ≤ v2))) (by decide) (Pu.qo (p_assign rfl)) ?_
      have j2 := Option.some.inj j2; subst j2
      show At _ _ _ _ _ _
      exact n1 ⟨rfl, trivial⟩
    · have j2 := cdF h3 j2
      refine Lin.q (v := .bool (false)) (by decide) (Qo.eqv (v := .bool (decide (v1 ≤ v0))) (Pu.qo (p_move rfl)) (congrArg Value.bool h3)) ?_
      refine Lin.skip (by decide) rfl ?_
      refine Lin.skip (by decide) rfl ?_
      refine Lin.skip (by decide) rfl ?_
      refine Lin.q (v := .bool (false)) (by decide) (Pu.qo (p_pickF rfl rfl)) ?_
      refine Lin.q (v := .bool (false)) (by decide) (Pu.qo (p_assign rfl)) ?_
      have j2 := Option.some.inj j2; subst j2
      show At _ _ _ _ _ _
      exact n1 ⟨rfl, trivial⟩
  refine tRet ?_
  have hr := Option.some.inj H; subst hr
  exact back1 () rfl (ResV.tmp (v := .bool (b1)) rfl) rfl Ents.nil Take.nil
def p_impl_rowOk (v0 : Row) : Option (Bool) := bd (bd (p_impl_within v0.1 0 99) fun r4 => cond (r4) (bd (p_impl_within v0.2 (-99) 99) fun r7 => some (r7)) (some (false))) fun b2 => some b2
theorem c_impl_rowOk {r : Bool} (v0 : Row) (H : p_impl_rowOk v0 = some r) : Fn' Try.prog 54 #[.agg #[.int .i64 (v0.1), .int .i64 (v0.2)]] [] [] (ι := Unit) (fun x => .bool (r)) (fun _ => []) (fun x => []) := by
  refine calls_of (args := [_]) Try.func54 rfl (by kernel_rfl) Try.ntmps54 (by simp) fun c => ?_
  unfold p_impl_rowOk at H
  refine Tr.seq ?_
  refine Tr.region ?_
  refine Rg.ed (e_box (t := 46) (v := .agg #[.int .i64 (v0.1), .int .i64 (v0.2)]) rfl) rfl (by decide) ?_
  rintro _ _ _ ⟨g1, rfl, rfl, rfl⟩
  refine Rg.q (v := .bool (false)) (Pu.qo (p_assign rfl)) (by decide) ?_
  refine Rg.nl ?_
  refine nT (?_)
  obtain ⟨b2, j3, H⟩ := bd.of H
  refine tMid1 [(2, .bool (b2))] ?_ ?_
  · refine tLinT [(1, .pointer (some ⟨g1, 0, none⟩))] ⟨rfl, trivial⟩ ?_
    refine Lin.q (v := .pointer (some ⟨g1, 0, none⟩)) (by decide) (Pu.qo (p_fabE fa46_0 rfl rfl)) ?_
    refine Lin.q (v := .int .i64 (v0.1)) (by decide) (q_ldb ty3 rfl Has.here rfl) ?_
    obtain ⟨r4, h5, j3⟩ := bd.of j3
    refine Lin.q (v := .bool (r4)) (by decide) (q_call (vs := [.int .i64 (v0.1), .int .i64 (0), .int .i64 (99)]) (c_impl_within v0.1 0 99 h5) rfl EntsB.nil) ?_
    rcases Bool.eq_false_or_eq_true (r4) with h6 | h6
    · have j3 := cdT h6 j3
      refine Lin.q (v := .bool (true)) (by decide) (Qo.eqv (v := .bool (r4)) (Pu.qo (p_move rfl)) (congrArg Value.bool h6)) ?_
      refine Lin.g (v := .pointer (some ⟨g1, 1, none⟩)) (by decide) rfl (Pu.qo (p_fabE fa46_1 rfl rfl)) ?_
      refine Lin.g (v := .int .i64 (v0.2)) (by decide) rfl (q_ldb ty3 rfl Has.here rfl) ?_
      obtain ⟨r7, h8, j3⟩ := bd.of j3
      refine Lin.g (v := .bool (r7)) (by decide) rfl (q_call (vs := [.int .i64 (v0.2), .int .i64 (-99), .int .i64 (99)]) (c_impl_within v0.2 (-99) 99 h8) rfl EntsB.nil) ?_
      refine Lin.q (v := .bool (r7)) (by decide) (Pu.qo (p_pickT rfl rfl)) ?_
      refine Lin.q (v := .bool (r7)) (by decide) (Pu.qo (p_assign rfl)) ?_
      have j3 := Option.some.inj j3; subst j3
      show At _ _ _ _ _ _
      exact n1 ⟨rfl, trivial⟩
    · have j3 := cdF h6 j3
      refine Lin.q (v := .bool (false)) (by decide) (Qo.eqv (v := .bool (r4)) (Pu.qo (p_move rfl)) (congrArg Value.bool h6)) ?_
      refine Lin.skip (by decide) rfl ?_
      refine Lin.skip (by decide) rfl ?_
      refine Lin.skip (by decide) rfl ?_
      refine Lin.q (v := .bool (false)) (by decide) (Pu.qo (p_pickF rfl rfl)) ?_
      refine Lin.q (v := .bool (false)) (by decide) (Pu.qo (p_assign rfl)) ?_
      have j3 := Option.some.inj j3; subst j3
      show At _ _ _ _ _ _
      exact n1 ⟨rfl, trivial⟩
  refine tRet ?_
  have hr := Option.some.inj H; subst hr
  exact back1 () rfl (ResV.tmp (v := .bool (b2)) rfl) rfl Ents.nil Take.nil
noncomputable def p_impl_BlockOk_b0 (v0 : (List Row)) (σ5 : Int) : Option ((Int) ⊕ (Unit ⊕ Bool)) := cond (decide (σ5 < (v0.length : Int))) (gd (ix σ5 v0.length) <| bd (bd (p_impl_rowOk (nth v0 σ5.toNat)) fun r18 => cond (!r18) (some (true)) (cond (decide (0 < σ5)) (gd (I64 (σ5 - 1)) <| gd (ix (σ5 - 1) v0.length) <| some (decide (((nth v0 σ5.toNat).1) ≤ ((nth v0 ((σ5 - 1).toNat)).1)))) (some (false)))) fun b16 => cond (b16) (some (.inr (.inr false))) (gd (I64 (σ5 + 1)) <| some (.inl (σ5 + 1)))) (some (.inr (.inl ())))
noncomputable def p_impl_BlockOk (v0 : (List Row)) : Option (Bool) := bd (lp (p_impl_BlockOk_b0 v0) 0) <| sw (fun e26 => some (decide ((v0.length : Int) ≤ 24))) (fun q => some q)
theorem c_impl_BlockOk {r : Bool} (v0 : (List Row)) (x_v0 : Option Addr × Nat) (H : p_impl_BlockOk v0 = some r) : Fn' Try.prog 34 #[.slice x_v0.1 v0.length x_v0.2] [imm (.slice x_v0.1 v0.length x_v0.2) v0] [] (ι := Unit) (fun x => .bool (r)) (fun _ => []) (fun x => []) := by
  refine calls_of (args := [_]) Try.func34 rfl (by kernel_rfl) Try.ntmps34 (by simp) fun c => ?_
  unfold p_impl_BlockOk at H
  refine Tr.seq ?_
  refine Tr.region ?_
  refine Rg.q (v := .bool (false)) (Pu.qo (p_assign rfl)) (by decide) ?_
  refine Rg.nl ?_
  refine nT (?_)
  refine Tr.seq ?_
  refine Tr.seq ?_
  refine Tr.region ?_
  refine Rg.q (v := .slice x_v0.1 v0.length x_v0.2) (Pu.qo (p_move rfl)) (by decide) ?_
  refine Rg.q (v := .int .i64 ((v0.length : Int))) (Pu.qo (p_len 46 Try.underlying36 rfl)) (by decide) ?_
  refine Rg.q (v := .int .i64 (0)) (Pu.qo (p_move rfl)) (by decide) ?_
  refine Rg.nl ?_
  refine nT (?_)
  obtain ⟨x1, hx2, H⟩ := bd.of H
  obtain ⟨n3, hx2⟩ := lp.of hx2
  refine tMidNC (ι := { q : (Unit) × Unit // x1 = .inl q.1 }) (fun ψ => [(0, .slice x_v0.1 v0.length x_v0.2)]) (fun ψ => []) ?_ ?_
  · refine Tr.block ?_
    refine tLoopC (ι := { q : Nat × (Int) × Unit // itr (p_impl_BlockOk_b0 v0) q.1 q.2.1 = some x1 }) (fun ζ => [(0, .slice x_v0.1 v0.length x_v0.2), (5, .slice x_v0.1 v0.length x_v0.2), (6, .int .i64 ((v0.length : Int))), (7, .int .i64 (ζ.1.2.1))]) (fun ζ => []) (fun ζ => ζ.1.1) ⟨(n3, 0, ()), hx2⟩ ⟨rfl, rfl, rfl, rfl, trivial⟩ Take.nil ?_
    rintro ⟨⟨m4, σ5, z6⟩, hk11⟩
    obtain ⟨m12, t8, e, H1, hi9, hb10⟩ := itr.of (n := m4) (s := σ5) hk11
    subst e; unfold p_impl_BlockOk_b0 at H1
    show Tr _ _ _ _ _ [(0, .slice x_v0.1 v0.length x_v0.2), (5, .slice x_v0.1 v0.length x_v0.2), (6, .int .i64 ((v0.length : Int))), (7, .int .i64 (σ5))] _ []
    refine Tr.seq ?_
    refine Tr.region ?_
    refine Rg.q (v := .bool (decide (σ5 < (v0.length : Int)))) (Pu.qo (p_lss rfl rfl)) (by decide) ?_
    refine Rg.nl ?_
    refine nT (?_)
    refine Tr.seq ?_
    refine Tr.cond (b := decide (σ5 < (v0.length : Int))) rfl (fun h13 => ?_) (fun h13 => ?_)
    · have H1 := cdT h13 H1
      refine tSkip ?_
      refine nT (?_)
      refine Tr.seq ?_
      refine Tr.block ?_
      refine Tr.seq ?_
      refine Tr.region ?_
      refine Rg.q (v := .int .i64 (σ5)) (Pu.qo (p_move rfl)) (by decide) ?_
      obtain ⟨h14, H1⟩ := gd.of H1
      refine Rg.q (v := elp x_v0.1 (σ5.toNat * Enc.sz Row + 0)) (q_ixg (l := v0) (E := fun i => Flat.enc (nth v0 i)) (oa := x_v0.1) Try.underlying36 ty46 rfl rfl h14 rfl (EntB.flat (Ent.b Ent.z))) (by decide) ?_
      refine Rg.q (v := .agg #[.int .i64 ((nth v0 σ5.toNat).1), .int .i64 ((nth v0 σ5.toNat).2)]) (q_ldeA (l := v0) (E := fun i => Flat.enc (nth v0 i)) (oa := x_v0.1) (i := σ5.toNat) ty46 rfl (EntB.flat (Ent.b Ent.z)) h14.lt) (by decide) ?_
      refine Rg.ed (e_alloc ty46) rfl (by decide) ?_
      rintro _ _ _ ⟨g15, rfl, rfl, rfl⟩
      refine Rg.q (v := .int .i64 (σ5)) (Pu.qo (p_assign rfl)) (by decide) ?_
      refine Rg.en (e_store (v := .agg #[.int .i64 ((nth v0 σ5.toNat).1), .int .i64 ((nth v0 σ5.toNat).2)]) (cs' := [.int .i64 ((nth v0 σ5.toNat).1), .int .i64 ((nth v0 σ5.toNat).2)]) ty46 rfl rfl Upd.here rfl (by simp [Value.cells, Value.oneCell']) (Nat.le_of_ble_eq_true rfl) rfl) rfl ?_
      rintro _ _ _ ⟨rfl, rfl, rfl⟩
      refine Rg.nl ?_
      refine nT (?_)
      obtain ⟨b16, j17, H1⟩ := bd.of H1
      refine tMid1 [(29, .bool (b16)), (0, .slice x_v0.1 v0.length x_v0.2), (5, .slice x_v0.1 v0.length x_v0.2), (6, .int .i64 ((v0.length : Int))), (7, .int .i64 (σ5))] ?_ ?_
      · refine tLinS [(3, .int .i64 (σ5)), (4, .pointer (some ⟨g15, 0, none⟩)), (0, .slice x_v0.1 v0.length x_v0.2), (5, .slice x_v0.1 v0.length x_v0.2), (6, .int .i64 ((v0.length : Int))), (7, .int .i64 (σ5))] Try.mixed (.inr (by kernel_rfl)) ⟨rfl, rfl, rfl, rfl, rfl, rfl, trivial⟩ rfl ?_
        refine Lin.q (v := .agg #[.int .i64 ((nth v0 σ5.toNat).1), .int .i64 ((nth v0 σ5.toNat).2)]) (by decide) (q_ldbA ty46 rfl Has.here rfl) ?_
        obtain ⟨r18, h19, j17⟩ := bd.of j17
        refine Lin.q (v := .bool (r18)) (by decide) (q_call (vs := [.agg #[.int .i64 ((nth v0 σ5.toNat).1), .int .i64 ((nth v0 σ5.toNat).2)]]) (c_impl_rowOk (nth v0 σ5.toNat) h19) rfl EntsB.nil) ?_
        refine Lin.q (v := .bool (!r18)) (by decide) (Pu.qo (p_not rfl)) ?_
        rcases Bool.eq_false_or_eq_true (!r18) with h20 | h20
        · have j17 := cdT h20 j17
          refine Lin.q (v := .bool (true)) (by decide) (Qo.eqv (v := .bool (!r18)) (Pu.qo (p_move rfl)) (congrArg Value.bool h20)) ?_
          refine Lin.skip (by decide) rfl ?_
          refine Lin.skip (by decide) rfl ?_
          refine Lin.skip (by decide) rfl ?_
          refine Lin.skip (by decide) rfl ?_
          refine Lin.skip (by decide) rfl ?_
          refine Lin.skip (by decide) rfl ?_
          refine Lin.skip (by decide) rfl ?_
          refine Lin.skip (by decide) rfl ?_
          refine Lin.skip (by decide) rfl ?_
          refine Lin.skip (by decide) rfl ?_
          refine Lin.skip (by decide) rfl ?_
          refine Lin.skip (by decide) rfl ?_
          refine Lin.skip (by decide) rfl ?_
          refine Lin.q (v := .bool (true)) (by decide) (Pu.qo (p_pickT rfl rfl)) ?_
          have j17 := Option.some.inj j17; subst j17
          show At _ _ _ _ _ _
          exact n1 ⟨rfl, rfl, rfl, rfl, rfl, trivial⟩
        · have j17 := cdF h20 j17
          refine Lin.q (v := .bool (false)) (by decide) (Qo.eqv (v := .bool (!r18)) (Pu.qo (p_move rfl)) (congrArg Value.bool h20)) ?_
          refine Lin.g (v := .int .i64 (σ5)) (by decide) rfl (Pu.qo (p_move rfl)) ?_
          refine Lin.g (v := .bool (decide (0 < σ5))) (by decide) rfl (Pu.qo (p_gtr rfl rfl)) ?_
          rcases Bool.eq_false_or_eq_true (decide (0 < σ5)) with h21 | h21
          · have j17 := cdT h21 j17
            refine Lin.g (v := .bool (true)) (by decide) rfl (Qo.eqv (v := .bool (decide (0 < σ5))) (Pu.qo (p_move rfl)) (congrArg Value.bool h21)) ?_
            refine Lin.g (v := .slice x_v0.1 v0.length x_v0.2) (by decide) rfl (Pu.qo (p_move rfl)) ?_
            refine Lin.g (v := .int .i64 (σ5)) (by decide) rfl (Pu.qo (p_move rfl)) ?_
            obtain ⟨h22, j17⟩ := gd.of j17
            refine Lin.g (v := .int .i64 (σ5 - 1)) (by decide) rfl (Pu.qo (p_sub rfl rfl h22)) ?_
            obtain ⟨h23, j17⟩ := gd.of j17
            refine Lin.g (v := elp x_v0.1 (((σ5 - 1).toNat) * Enc.sz Row + 0)) (by decide) rfl (q_ixg (l := v0) (E := fun i => Flat.enc (nth v0 i)) (oa := x_v0.1) Try.underlying36 ty46 rfl rfl h23 rfl (EntB.flat (Ent.b Ent.z))) ?_
            refine Lin.g (v := elp x_v0.1 (((σ5 - 1).toNat) * Enc.sz Row + 0)) (by decide) rfl (q_faeE (l := v0) (E := fun i => Flat.enc (nth v0 i)) (oa := x_v0.1) (j := 0) ((σ5 - 1).toNat) fa46_0 rfl (EntB.flat (Ent.b Ent.z)) h23.lt rfl) ?_
            refine Lin.g (v := .int .i64 ((nth v0 ((σ5 - 1).toNat)).1)) (by decide) rfl (q_lde (l := v0) (E := fun i => Flat.enc (nth v0 i)) (oa := x_v0.1) (i := (σ5 - 1).toNat) (j := 0) ty3 rfl (EntB.flat (Ent.b Ent.z)) h23.lt rfl) ?_
            refine Lin.g (v := .pointer (some ⟨g15, 0, none⟩)) (by decide) rfl (Pu.qo (p_fabE fa46_0 rfl rfl)) ?_
            refine Lin.g (v := .int .i64 ((nth v0 σ5.toNat).1)) (by decide) rfl (q_ldb ty3 rfl Has.here rfl) ?_
            refine Lin.g (v := .bool (decide (((nth v0 σ5.toNat).1) ≤ ((nth v0 ((σ5 - 1).toNat)).1)))) (by decide) rfl (Pu.qo (p_geq rfl rfl)) ?_
            refine Lin.g (v := .bool (decide (((nth v0 σ5.toNat).1) ≤ ((nth v0 ((σ5 - 1).toNat)).1)))) (by decide) rfl (Pu.qo (p_pickT rfl rfl)) ?_
            refine Lin.q (v := .bool (decide (((nth v0 σ5.toNat).1) ≤ ((nth v0 ((σ5 - 1).toNat)).1)))) (by decide) (Pu.qo (p_pickF rfl rfl)) ?_
            have j17 := Option.some.inj j17; subst j17
            show At _ _ _ _ _ _
            exact n1 ⟨rfl, rfl, rfl, rfl, rfl, trivial⟩
          · have j17 := cdF h21 j17
            refine Lin.g (v := .bool (false)) (by decide) rfl (Qo.eqv (v := .bool (decide (0 < σ5))) (Pu.qo (p_move rfl)) (congrArg Value.bool h21)) ?_
            refine Lin.skip (by decide) rfl ?_
            refine Lin.skip (by decide) rfl ?_
            refine Lin.skip (by decide) rfl ?_
            refine Lin.skip (by decide) rfl ?_
            refine Lin.skip (by decide) rfl ?_
            refine Lin.skip (by decide) rfl ?_
            refine Lin.skip (by decide) rfl ?_
            refine Lin.skip (by decide) rfl ?_
            refine Lin.skip (by decide) rfl ?_
            refine Lin.g (v := .bool (false)) (by decide) rfl (Pu.qo (p_pickF rfl rfl)) ?_
            refine Lin.q (v := .bool (false)) (by decide) (Pu.qo (p_pickF rfl rfl)) ?_
            have j17 := Option.some.inj j17; subst j17
            show At _ _ _ _ _ _
            exact n1 ⟨rfl, rfl, rfl, rfl, rfl, trivial⟩
      refine Tr.cond (b := b16) rfl (fun h24 => ?_) (fun h24 => ?_)
      · have H1 := cdT h24 H1
        refine Tr.seq ?_
        refine Tr.region ?_
        refine Rg.q (v := .bool (false)) (Pu.qo (p_assign rfl)) (by decide) ?_
        refine Rg.nl ?_
        refine nT (?_)
        refine tRet ?_
        refine rB (rT (rT (rB (rT (rT (?_))))))
        have hx := hb10 _ (Option.some.inj H1).symm; subst hx
        replace H := sw.r H
        have hr := Option.some.inj H; subst hr
        exact back1 () rfl (ResV.tmp (v := .bool (false)) rfl) rfl Ents.nil Take.nil
      · have H1 := cdF h24 H1
        refine tSkip ?_
        refine nB (nT (?_))
        refine Tr.region ?_
        obtain ⟨h25, H1⟩ := gd.of H1
        refine Rg.q (v := .int .i64 (σ5 + 1)) (Pu.qo (p_add rfl rfl h25)) (by decide) ?_
        refine Rg.q (v := .int .i64 (σ5 + 1)) (Pu.qo (p_move rfl)) (by decide) ?_
        refine Rg.nl ?_
        exact nLC ⟨(m12, σ5 + 1, ()), hi9 _ (Option.some.inj H1).symm⟩ (Nat.lt_succ_self _) ⟨rfl, rfl, rfl, rfl, trivial⟩ Ents.refl Take.nil
    · have H1 := cdF h13 H1
      refine tExit (xT (xT (xE (?_))))
      exact nMC ⟨((), ()), (hb10 _ (Option.some.inj H1).symm).symm⟩ ⟨rfl, trivial⟩ Ents.refl Take.nil
  · rintro ⟨⟨e26, y7⟩, hx⟩; subst hx; replace H := sw.l H
    show At _ _ [(0, .slice x_v0.1 v0.length x_v0.2)] _ [] _
    refine nT (?_)
    refine Tr.seq ?_
    refine Tr.region ?_
    refine Rg.q (v := .slice x_v0.1 v0.length x_v0.2) (Pu.qo (p_move rfl)) (by decide) ?_
    refine Rg.q (v := .int .i64 ((v0.length : Int))) (Pu.qo (p_len 46 Try.underlying36 rfl)) (by decide) ?_
    refine Rg.q (v := .bool (decide ((v0.length : Int) ≤ 24))) (Pu.qo (p_leq rfl rfl)) (by decide) ?_
    refine Rg.q (v := .bool (decide ((v0.length : Int) ≤ 24))) (Pu.qo (p_assign rfl)) (by decide) ?_
    refine Rg.nl ?_
    refine nT (?_)
    refine tRet ?_
    have hr := Option.some.inj H; subst hr
    exact back1 () rfl (ResV.tmp (v := .bool (decide ((v0.length : Int) ≤ 24))) rfl) rfl Ents.nil Take.nil
noncomputable def p_impl_PartOk_b0 (v0 : Part) (σ8 : Int) : Option ((Int) ⊕ (Unit ⊕ Bool)) := cond (decide (σ8 < (v0.1.length : Int))) (gd (ix σ8 v0.1.length) <| bd (bd (p_impl_within (nth v0.1 σ8.toNat) 1 6) fun r20 => cond (!r20) (some (true)) (cond (decide (0 < σ8)) (gd (I64 (σ8 - 1)) <| gd (ix (σ8 - 1) v0.1.length) <| cond (decide ((nth v0.1 σ8.toNat) ≤ (nth v0.1 ((σ8 - 1).toNat)))) (some (true)) (gd (ix σ8 v0.2.length) <| bd (p_impl_BlockOk (nth v0.2 σ8.toNat)) fun r28 => cond (!r28) (some (true)) (some (decide (((nth v0.2 σ8.toNat).length : Int) = 0))))) (gd (ix σ8 v0.2.length) <| bd (p_impl_BlockOk (nth v0.2 σ8.toNat)) fun r32 => cond (!r32) (some (true)) (some (decide (((nth v0.2 σ8.toNat).length : Int) = 0)))))) fun b18 => cond (b18) (some (.inr (.inr false))) (gd (I64 (σ8 + 1)) <| some (.inl (σ8 + 1)))) (some (.inr (.inl ())))
noncomputable def p_impl_PartOk (v0 : Part) : Option (Bool) := cond (!decide ((v0.1.length : Int) = (v0.2.length : Int))) (some false) (bd (lp (p_impl_PartOk_b0 v0) 0) <| sw (fun e37 => some true) (fun q => some q))
theorem c_impl_PartOk {r : Bool} (v0 : Part) (x_v0 : (Option Addr × Nat) × (Option Addr × Nat)) (H : p_impl_PartOk v0 = some r) : Fn' Try.prog 20 #[.agg #[.slice x_v0.1.1 v0.1.length x_v0.1.2, .slice x_v0.2.1 v0.2.length x_v0.2.2]] [imm (.slice x_v0.1.1 v0.1.length x_v0.1.2) v0.1, imm (.slice x_v0.2.1 v0.2.length x_v0.2.2) v0.2] [] (ι := Unit) (fun x => .bool (r)) (fun _ => []) (fun x => []) := by
  refine calls_of (args := [_]) Try.func20 rfl (by kernel_rfl) Try.ntmps20 (by simp) fun c => ?_
  unfold p_impl_PartOk at H
  refine Tr.openD Ent.z.s fun X1 => ?_
  refine Tr.seq ?_
  refine Tr.region ?_
  refine Rg.ed (e_box (t := 26) (v := .agg #[.slice x_v0.1.1 v0.1.length x_v0.1.2, .slice x_v0.2.1 v0.2.length x_v0.2.2]) rfl) rfl (by decide) ?_
  rintro _ _ _ ⟨g2, rfl, rfl, rfl⟩
  refine Rg.q (v := .bool (false)) (Pu.qo (p_assign rfl)) (by decide) ?_
  refine Rg.nl ?_
  refine nT (?_)
  refine Tr.seq ?_
  refine Tr.seq ?_
  refine Tr.region ?_
  refine Rg.q (v := .pointer (some ⟨g2, 0, none⟩)) (Pu.qo (p_fabE fa26_0 rfl rfl)) (by decide) ?_
  refine Rg.q (v := .slice x_v0.1.1 v0.1.length x_v0.1.2) (q_ldb ty23 rfl Has.here rfl) (by decide) ?_
  refine Rg.q (v := .int .i64 ((v0.1.length : Int))) (Pu.qo (p_len 3 Try.underlying23 rfl)) (by decide) ?_
  refine Rg.q (v := .pointer (some ⟨g2, 1, none⟩)) (Pu.qo (p_fabE fa26_1 rfl rfl)) (by decide) ?_
  refine Rg.q (v := .slice x_v0.2.1 v0.2.length x_v0.2.2) (q_ldb ty24 rfl Has.here rfl) (by decide) ?_
  refine Rg.q (v := .int .i64 ((v0.2.length : Int))) (Pu.qo (p_len 36 Try.underlying24 rfl)) (by decide) ?_
  refine Rg.q (v := .bool (!decide ((v0.1.length : Int) = (v0.2.length : Int)))) (Pu.qo (p_neq rfl rfl)) (by decide) ?_
  refine Rg.nl ?_
  refine nT (?_)
  refine Tr.cond (b := !decide ((v0.1.length : Int) = (v0.2.length : Int))) rfl (fun h3 => ?_) (fun h3 => ?_)
  · have H := cdT h3 H
    refine Tr.seq ?_
    refine Tr.region ?_
    refine Rg.q (v := .bool (false)) (Pu.qo (p_assign rfl)) (by decide) ?_
    refine Rg.nl ?_
    refine nT (?_)
    refine tRet ?_
    refine rT (?_)
    have hr := Option.some.inj H; subst hr
    exact back1 () rfl (ResV.tmp (v := .bool (false)) rfl) rfl Ents.nil Take.nil
  · have H := cdF h3 H
    refine tSkip ?_
    refine nT (?_)
    refine Tr.seq ?_
    refine Tr.seq ?_
    refine Tr.region ?_
    refine Rg.q (v := .pointer (some ⟨g2, 0, none⟩)) (Pu.qo (p_fabE fa26_0 rfl rfl)) (by decide) ?_
    refine Rg.q (v := .slice x_v0.1.1 v0.1.length x_v0.1.2) (q_ldb ty23 rfl Has.here rfl) (by decide) ?_
    refine Rg.q (v := .int .i64 ((v0.1.length : Int))) (Pu.qo (p_len 3 Try.underlying23 rfl)) (by decide) ?_
    refine Rg.q (v := .int .i64 (0)) (Pu.qo (p_move rfl)) (by decide) ?_
    refine Rg.nl ?_
    refine nT (?_)
    obtain ⟨x4, hx5, H⟩ := bd.of H
    obtain ⟨n6, hx5⟩ := lp.of hx5
    refine tMidNC (ι := { q : (Unit) × Unit // x4 = .inl q.1 }) (fun ψ => []) (fun ψ => []) ?_ ?_
    · refine Tr.block ?_
      refine tLoopC (ι := { q : Nat × (Int) × Unit // itr (p_impl_PartOk_b0 v0) q.1 q.2.1 = some x4 }) (fun ζ => [(1, .pointer (some ⟨g2, 0, none⟩)), (13, .slice x_v0.1.1 v0.1.length x_v0.1.2), (14, .int .i64 ((v0.1.length : Int))), (15, .int .i64 (ζ.1.2.1))]) (fun ζ => [box g2 26 [.slice x_v0.1.1 v0.1.length x_v0.1.2, .slice x_v0.2.1 v0.2.length x_v0.2.2]]) (fun ζ => ζ.1.1) ⟨(n6, 0, ()), hx5⟩ ⟨rfl, rfl, rfl, rfl, trivial⟩ (.cons Del.here .nil) ?_
      rintro ⟨⟨m7, σ8, z9⟩, hk14⟩
      obtain ⟨m15, t11, e, H1, hi12, hb13⟩ := itr.of (n := m7) (s := σ8) hk14
      subst e; unfold p_impl_PartOk_b0 at H1
      show Tr _ _ _ _ _ [(1, .pointer (some ⟨g2, 0, none⟩)), (13, .slice x_v0.1.1 v0.1.length x_v0.1.2), (14, .int .i64 ((v0.1.length : Int))), (15, .int .i64 (σ8))] _ [box g2 26 [.slice x_v0.1.1 v0.1.length x_v0.1.2, .slice x_v0.2.1 v0.2.length x_v0.2.2]]
      refine Tr.seq ?_
      refine Tr.region ?_
      refine Rg.q (v := .bool (decide (σ8 < (v0.1.length : Int)))) (Pu.qo (p_lss rfl rfl)) (by decide) ?_
      refine Rg.nl ?_
      refine nT (?_)
      refine Tr.seq ?_
      refine Tr.cond (b := decide (σ8 < (v0.1.length : Int))) rfl (fun h16 => ?_) (fun h16 => ?_)
      · have H1 := cdT h16 H1
        refine tSkip ?_
        refine nT (?_)
        refine Tr.seq ?_
        refine Tr.block ?_
        refine Tr.seq ?_
        refine Tr.region ?_
        refine Rg.q (v := .int .i64 (σ8)) (Pu.qo (p_move rfl)) (by decide) ?_
        obtain ⟨h17, H1⟩ := gd.of H1
        refine Rg.q (v := elp x_v0.1.1 (σ8.toNat * Enc.sz Int + 0)) (q_ixg (l := v0.1) (E := fun i => Flat.enc (nth v0.1 i)) (oa := x_v0.1.1) Try.underlying23 ty3 rfl rfl h17 rfl (EntB.flat (Ent.b Ent.z.s))) (by decide) ?_
        refine Rg.q (v := .int .i64 (nth v0.1 σ8.toNat)) (q_lde (l := v0.1) (E := fun i => Flat.enc (nth v0.1 i)) (oa := x_v0.1.1) (i := σ8.toNat) (j := 0) ty3 rfl (EntB.flat (Ent.b Ent.z.s)) h17.lt rfl) (by decide) ?_
        refine Rg.q (v := .int .i64 (σ8)) (Pu.qo (p_assign rfl)) (by decide) ?_
        refine Rg.q (v := .int .i64 (nth v0.1 σ8.toNat)) (Pu.qo (p_assign rfl)) (by decide) ?_
        refine Rg.nl ?_
        refine nT (?_)
        obtain ⟨b18, j19, H1⟩ := bd.of H1
        refine tMid1 [(54, .bool (b18)), (1, .pointer (some ⟨g2, 0, none⟩)), (13, .slice x_v0.1.1 v0.1.length x_v0.1.2), (14, .int .i64 ((v0.1.length : Int))), (15, .int .i64 (σ8))] ?_ ?_
        · refine tLinT [(4, .int .i64 (nth v0.1 σ8.toNat)), (3, .int .i64 (σ8)), (1, .pointer (some ⟨g2, 0, none⟩)), (13, .slice x_v0.1.1 v0.1.length x_v0.1.2), (14, .int .i64 ((v0.1.length : Int))), (15, .int .i64 (σ8))] ⟨rfl, rfl, rfl, rfl, rfl, rfl, trivial⟩ ?_
          refine Lin.q (v := .int .i64 (nth v0.1 σ8.toNat)) (by decide) (Pu.qo (p_move rfl)) ?_
          obtain ⟨r20, h21, j19⟩ := bd.of j19
          refine Lin.q (v := .bool (r20)) (by decide) (q_call (vs := [.int .i64 (nth v0.1 σ8.toNat), .int .i64 (1), .int .i64 (6)]) (c_impl_within (nth v0.1 σ8.toNat) 1 6 h21) rfl EntsB.nil) ?_
          refine Lin.q (v := .bool (!r20)) (by decide) (Pu.qo (p_not rfl)) ?_
          rcases Bool.eq_false_or_eq_true (!r20) with h22 | h22
          · have j19 := cdT h22 j19
            refine Lin.q (v := .bool (true)) (by decide) (Qo.eqv (v := .bool (!r20)) (Pu.qo (p_move rfl)) (congrArg Value.bool h22)) ?_
            refine Lin.skip (by decide) rfl ?_
            refine Lin.skip (by decide) rfl ?_
            refine Lin.skip (by decide) rfl ?_
            refine Lin.skip (by decide) rfl ?_
            refine Lin.skip (by decide) rfl ?_
            refine Lin.skip (by decide) rfl ?_
            refine Lin.skip (by decide) rfl ?_
            refine Lin.skip (by decide) rfl ?_
            refine Lin.skip (by decide) rfl ?_
            refine Lin.skip (by decide) rfl ?_
            refine Lin.skip (by decide) rfl ?_
            refine Lin.skip (by decide) rfl ?_
            refine Lin.q (v := .bool (true)) (by decide) (Pu.qo (p_pickT rfl rfl)) ?_
            refine Lin.q (v := .bool (true)) (by decide) (Pu.qo (p_move rfl)) ?_
            refine Lin.skip (by decide) rfl ?_
            refine Lin.skip (by decide) rfl ?_
            refine Lin.skip (by decide) rfl ?_
            refine Lin.skip (by decide) rfl ?_
            refine Lin.skip (by decide) rfl ?_
            refine Lin.skip (by decide) rfl ?_
            refine Lin.skip (by decide) rfl ?_
            refine Lin.q (v := .bool (true)) (by decide) (Pu.qo (p_pickT rfl rfl)) ?_
            refine Lin.q (v := .bool (true)) (by decide) (Pu.qo (p_move rfl)) ?_
            refine Lin.skip (by decide) rfl ?_
            refine Lin.skip (by decide) rfl ?_
            refine Lin.skip (by decide) rfl ?_
            refine Lin.skip (by decide) rfl ?_
            refine Lin.skip (by decide) rfl ?_
            refine Lin.skip (by decide) rfl ?_
            refine Lin.skip (by decide) rfl ?_
            refine Lin.q (v := .bool (true)) (by decide) (Pu.qo (p_pickT rfl rfl)) ?_
            have j19 := Option.some.inj j19; subst j19
            show At _ _ _ _ _ _
            exact n1 ⟨rfl, rfl, rfl, rfl, rfl, trivial⟩
          · have j19 := cdF h22 j19
            refine Lin.q (v := .bool (false)) (by decide) (Qo.eqv (v := .bool (!r20)) (Pu.qo (p_move rfl)) (congrArg Value.bool h22)) ?_
            refine Lin.g (v := .int .i64 (σ8)) (by decide) rfl (Pu.qo (p_move rfl)) ?_
            refine Lin.g (v := .bool (decide (0 < σ8))) (by decide) rfl (Pu.qo (p_gtr rfl rfl)) ?_
            rcases Bool.eq_false_or_eq_true (decide (0 < σ8)) with h23 | h23
            · have j19 := cdT h23 j19
              refine Lin.g (v := .bool (true)) (by decide) rfl (Qo.eqv (v := .bool (decide (0 < σ8))) (Pu.qo (p_move rfl)) (congrArg Value.bool h23)) ?_
              refine Lin.g (v := .pointer (some ⟨g2, 0, none⟩)) (by decide) rfl (Pu.qo (p_fabE fa26_0 rfl rfl)) ?_
              refine Lin.g (v := .slice x_v0.1.1 v0.1.length x_v0.1.2) (by decide) rfl (q_ldb ty23 rfl Has.here rfl) ?_
              refine Lin.g (v := .int .i64 (σ8)) (by decide) rfl (Pu.qo (p_move rfl)) ?_
              obtain ⟨h24, j19⟩ := gd.of j19
              refine Lin.g (v := .int .i64 (σ8 - 1)) (by decide) rfl (Pu.qo (p_sub rfl rfl h24)) ?_
              obtain ⟨h25, j19⟩ := gd.of j19
              refine Lin.g (v := elp x_v0.1.1 (((σ8 - 1).toNat) * Enc.sz Int + 0)) (by decide) rfl (q_ixg (l := v0.1) (E := fun i => Flat.enc (nth v0.1 i)) (oa := x_v0.1.1) Try.underlying23 ty3 rfl rfl h25 rfl (EntB.flat (Ent.b Ent.z.s))) ?_
              refine Lin.g (v := .int .i64 (nth v0.1 ((σ8 - 1).toNat))) (by decide) rfl (q_lde (l := v0.1) (E := fun i => Flat.enc (nth v0.1 i)) (oa := x_v0.1.1) (i := (σ8 - 1).toNat) (j := 0) ty3 rfl (EntB.flat (Ent.b Ent.z.s)) h25.lt rfl) ?_
              refine Lin.g (v := .int .i64 (nth v0.1 σ8.toNat)) (by decide) rfl (Pu.qo (p_move rfl)) ?_
              refine Lin.g (v := .bool (decide ((nth v0.1 σ8.toNat) ≤ (nth v0.1 ((σ8 - 1).toNat))))) (by decide) rfl (Pu.qo (p_geq rfl rfl)) ?_
              refine Lin.g (v := .bool (decide ((nth v0.1 σ8.toNat) ≤ (nth v0.1 ((σ8 - 1).toNat))))) (by decide) rfl (Pu.qo (p_pickT rfl rfl)) ?_
              refine Lin.q (v := .bool (decide ((nth v0.1 σ8.toNat) ≤ (nth v0.1 ((σ8 - 1).toNat))))) (by decide) (Pu.qo (p_pickF rfl rfl)) ?_
              rcases Bool.eq_false_or_eq_true (decide ((nth v0.1 σ8.toNat) ≤ (nth v0.1 ((σ8 - 1).toNat)))) with h26 | h26
              · have j19 := cdT h26 j19
                refine Lin.q (v := .bool (true)) (by decide) (Qo.eqv (v := .bool (decide ((nth v0.1 σ8.toNat) ≤ (nth v0.1 ((σ8 - 1).toNat))))) (Pu.qo (p_move rfl)) (congrArg Value.bool h26)) ?_
                refine Lin.skip (by decide) rfl ?_
                refine Lin.skip (by decide) rfl ?_
                refine Lin.skip (by decide) rfl ?_
                refine Lin.skip (by decide) rfl ?_
                refine Lin.skip (by decide) rfl ?_
                refine Lin.skip (by decide) rfl ?_
                refine Lin.skip (by decide) rfl ?_
                refine Lin.q (v := .bool (true)) (by decide) (Pu.qo (p_pickT rfl rfl)) ?_
                refine Lin.q (v := .bool (true)) (by decide) (Pu.qo (p_move rfl)) ?_
                refine Lin.skip (by decide) rfl ?_
                refine Lin.skip (by decide) rfl ?_
                refine Lin.skip (by decide) rfl ?_
                refine Lin.skip (by decide) rfl ?_
                refine Lin.skip (by decide) rfl ?_
                refine Lin.skip (by decide) rfl ?_
                refine Lin.skip (by decide) rfl ?_
                refine Lin.q (v := .bool (true)) (by decide) (Pu.qo (p_pickT rfl rfl)) ?_
                have j19 := Option.some.inj j19; subst j19
                show At _ _ _ _ _ _
                exact n1 ⟨rfl, rfl, rfl, rfl, rfl, trivial⟩
              · have j19 := cdF h26 j19
                refine Lin.q (v := .bool (false)) (by decide) (Qo.eqv (v := .bool (decide ((nth v0.1 σ8.toNat) ≤ (nth v0.1 ((σ8 - 1).toNat))))) (Pu.qo (p_move rfl)) (congrArg Value.bool h26)) ?_
                refine Lin.g (v := .pointer (some ⟨g2, 1, none⟩)) (by decide) rfl (Pu.qo (p_fabE fa26_1 rfl rfl)) ?_
                refine Lin.g (v := .slice x_v0.2.1 v0.2.length x_v0.2.2) (by decide) rfl (q_ldb ty24 rfl Has.here rfl) ?_
                refine Lin.g (v := .int .i64 (σ8)) (by decide) rfl (Pu.qo (p_move rfl)) ?_
                obtain ⟨h27, j19⟩ := gd.of j19
                refine Lin.g (v := elp x_v0.2.1 (σ8.toNat * Enc.sz (List Row) + 0)) (by decide) rfl (q_ixg (l := v0.2) (E := fun i => Dp.denc (nth v0.2 i) (X1 i)) (oa := x_v0.2.1) Try.underlying24 ty36 rfl rfl h27 rfl (Ent.b (Ent.darr Ent.z))) ?_
                refine Lin.g (v := .slice ((X1 σ8.toNat).1) ((nth v0.2 σ8.toNat).length) ((X1 σ8.toNat).2.1)) (by decide) rfl (q_lde (l := v0.2) (E := fun i => Dp.denc (nth v0.2 i) (X1 i)) (oa := x_v0.2.1) (i := σ8.toNat) (j := 0) ty36 rfl (Ent.b (Ent.darr Ent.z)) h27.lt rfl) ?_
                obtain ⟨r28, h29, j19⟩ := bd.of j19
                refine Lin.g (v := .bool (r28)) (by decide) rfl (q_call (vs := [.slice ((X1 σ8.toNat).1) ((nth v0.2 σ8.toNat).length) ((X1 σ8.toNat).2.1)]) (c_impl_BlockOk (nth v0.2 σ8.toNat) ((X1 σ8.toNat).1, (X1 σ8.toNat).2.1) h29) rfl (EntsB.cons (Ent.b (Ent.dimm (Ent.del Ent.z h27.lt))) EntsB.nil)) ?_
                refine Lin.g (v := .bool (!r28)) (by decide) rfl (Pu.qo (p_not rfl)) ?_
                refine Lin.q (v := .bool (!r28)) (by decide) (Pu.qo (p_pickF rfl rfl)) ?_
                rcases Bool.eq_false_or_eq_true (!r28) with h30 | h30
                · have j19 := cdT h30 j19
                  refine Lin.q (v := .bool (true)) (by decide) (Qo.eqv (v := .bool (!r28)) (Pu.qo (p_move rfl)) (congrArg Value.bool h30)) ?_
                  refine Lin.skip (by decide) rfl ?_
                  refine Lin.skip (by decide) rfl ?_
                  refine Lin.skip (by decide) rfl ?_
                  refine Lin.skip (by decide) rfl ?_
                  refine Lin.skip (by decide) rfl ?_
                  refine Lin.skip (by decide) rfl ?_
                  refine Lin.skip (by decide) rfl ?_
                  refine Lin.q (v := .bool (true)) (by decide) (Pu.qo (p_pickT rfl rfl)) ?_
                  have j19 := Option.some.inj j19; subst j19
                  show At _ _ _ _ _ _
                  exact n1 ⟨rfl, rfl, rfl, rfl, rfl, trivial⟩
                · have j19 := cdF h30 j19
                  refine Lin.q (v := .bool (false)) (by decide) (Qo.eqv (v := .bool (!r28)) (Pu.qo (p_move rfl)) (congrArg Value.bool h30)) ?_
                  refine Lin.g (v := .pointer (some ⟨g2, 1, none⟩)) (by decide) rfl (Pu.qo (p_fabE fa26_1 rfl rfl)) ?_
                  refine Lin.g (v := .slice x_v0.2.1 v0.2.length x_v0.2.2) (by decide) rfl (q_ldb ty24 rfl Has.here rfl) ?_
                  refine Lin.g (v := .int .i64 (σ8)) (by decide) rfl (Pu.qo (p_move rfl)) ?_
                  refine Lin.g (v := elp x_v0.2.1 (σ8.toNat * Enc.sz (List Row) + 0)) (by decide) rfl (q_ixg (l := v0.2) (E := fun i => Dp.denc (nth v0.2 i) (X1 i)) (oa := x_v0.2.1) Try.underlying24 ty36 rfl rfl h27 rfl (Ent.b (Ent.darr Ent.z))) ?_
                  refine Lin.g (v := .slice ((X1 σ8.toNat).1) ((nth v0.2 σ8.toNat).length) ((X1 σ8.toNat).2.1)) (by decide) rfl (q_lde (l := v0.2) (E := fun i => Dp.denc (nth v0.2 i) (X1 i)) (oa := x_v0.2.1) (i := σ8.toNat) (j := 0) ty36 rfl (Ent.b (Ent.darr Ent.z)) h27.lt rfl) ?_
                  refine Lin.g (v := .int .i64 (((nth v0.2 σ8.toNat).length : Int))) (by decide) rfl (Pu.qo (p_len 46 Try.underlying36 rfl)) ?_
                  refine Lin.g (v := .bool (decide (((nth v0.2 σ8.toNat).length : Int) = 0))) (by decide) rfl (Pu.qo (p_eql rfl rfl)) ?_
                  refine Lin.q (v := .bool (decide (((nth v0.2 σ8.toNat).length : Int) = 0))) (by decide) (Pu.qo (p_pickF rfl rfl)) ?_
                  have j19 := Option.some.inj j19; subst j19
                  show At _ _ _ _ _ _
                  exact n1 ⟨rfl, rfl, rfl, rfl, rfl, trivial⟩
            · have j19 := cdF h23 j19
              refine Lin.g (v := .bool (false)) (by decide) rfl (Qo.eqv (v := .bool (decide (0 < σ8))) (Pu.qo (p_move rfl)) (congrArg Value.bool h23)) ?_
              refine Lin.skip (by decide) rfl ?_
              refine Lin.skip (by decide) rfl ?_
              refine Lin.skip (by decide) rfl ?_
              refine Lin.skip (by decide) rfl ?_
              refine Lin.skip (by decide) rfl ?_
              refine Lin.skip (by decide) rfl ?_
              refine Lin.skip (by decide) rfl ?_
              refine Lin.skip (by decide) rfl ?_
              refine Lin.g (v := .bool (false)) (by decide) rfl (Pu.qo (p_pickF rfl rfl)) ?_
              refine Lin.q (v := .bool (false)) (by decide) (Pu.qo (p_pickF rfl rfl)) ?_
              refine Lin.q (v := .bool (false)) (by decide) (Pu.qo (p_move rfl)) ?_
              refine Lin.g (v := .pointer (some ⟨g2, 1, none⟩)) (by decide) rfl (Pu.qo (p_fabE fa26_1 rfl rfl)) ?_
              refine Lin.g (v := .slice x_v0.2.1 v0.2.length x_v0.2.2) (by decide) rfl (q_ldb ty24 rfl Has.here rfl) ?_
              refine Lin.g (v := .int .i64 (σ8)) (by decide) rfl (Pu.qo (p_move rfl)) ?_
              obtain ⟨h31, j19⟩ := gd.of j19
              refine Lin.g (v := elp x_v0.2.1 (σ8.toNat * Enc.sz (List Row) + 0)) (by decide) rfl (q_ixg (l := v0.2) (E := fun i => Dp.denc (nth v0.2 i) (X1 i)) (oa := x_v0.2.1) Try.underlying24 ty36 rfl rfl h31 rfl (Ent.b (Ent.darr Ent.z))) ?_
              refine Lin.g (v := .slice ((X1 σ8.toNat).1) ((nth v0.2 σ8.toNat).length) ((X1 σ8.toNat).2.1)) (by decide) rfl (q_lde (l := v0.2) (E := fun i => Dp.denc (nth v0.2 i) (X1 i)) (oa := x_v0.2.1) (i := σ8.toNat) (j := 0) ty36 rfl (Ent.b (Ent.darr Ent.z)) h31.lt rfl) ?_
              obtain ⟨r32, h33, j19⟩ := bd.of j19
              refine Lin.g (v := .bool (r32)) (by decide) rfl (q_call (vs := [.slice ((X1 σ8.toNat).1) ((nth v0.2 σ8.toNat).length) ((X1 σ8.toNat).2.1)]) (c_impl_BlockOk (nth v0.2 σ8.toNat) ((X1 σ8.toNat).1, (X1 σ8.toNat).2.1) h33) rfl (EntsB.cons (Ent.b (Ent.dimm (Ent.del Ent.z h31.lt))) EntsB.nil)) ?_
              refine Lin.g (v := .bool (!r32)) (by decide) rfl (Pu.qo (p_not rfl)) ?_
              refine Lin.q (v := .bool (!r32)) (by decide) (Pu.qo (p_pickF rfl rfl)) ?_
              rcases Bool.eq_false_or_eq_true (!r32) with h34 | h34
              · have j19 := cdT h34 j19
                refine Lin.q (v := .bool (true)) (by decide) (Qo.eqv (v := .bool (!r32)) (Pu.qo (p_move rfl)) (congrArg Value.bool h34)) ?_
                refine Lin.skip (by decide) rfl ?_
                refine Lin.skip (by decide) rfl ?_
                refine Lin.skip (by decide) rfl ?_
                refine Lin.skip (by decide) rfl ?_
                refine Lin.skip (by decide) rfl ?_
                refine Lin.skip (by decide) rfl ?_
                refine Lin.skip (by decide) rfl ?_
                refine Lin.q (v := .bool (true)) (by decide) (Pu.qo (p_pickT rfl rfl)) ?_
                have j19 := Option.some.inj j19; subst j19
                show At _ _ _ _ _ _
                exact n1 ⟨rfl, rfl, rfl, rfl, rfl, trivial⟩
              · have j19 := cdF h34 j19
                refine Lin.q (v := .bool (false)) (by decide) (Qo.eqv (v := .bool (!r32)) (Pu.qo (p_move rfl)) (congrArg Value.bool h34)) ?_
                refine Lin.g (v := .pointer (some ⟨g2, 1, none⟩)) (by decide) rfl (Pu.qo (p_fabE fa26_1 rfl rfl)) ?_
                refine Lin.g (v := .slice x_v0.2.1 v0.2.length x_v0.2.2) (by decide) rfl (q_ldb ty24 rfl Has.here rfl) ?_
                refine Lin.g (v := .int .i64 (σ8)) (by decide) rfl (Pu.qo (p_move rfl)) ?_
                refine Lin.g (v := elp x_v0.2.1 (σ8.toNat * Enc.sz (List Row) + 0)) (by decide) rfl (q_ixg (l := v0.2) (E := fun i => Dp.denc (nth v0.2 i) (X1 i)) (oa := x_v0.2.1) Try.underlying24 ty36 rfl rfl h31 rfl (Ent.b (Ent.darr Ent.z))) ?_
                refine Lin.g (v := .slice ((X1 σ8.toNat).1) ((nth v0.2 σ8.toNat).length) ((X1 σ8.toNat).2.1)) (by decide) rfl (q_lde (l := v0.2) (E := fun i => Dp.denc (nth v0.2 i) (X1 i)) (oa := x_v0.2.1) (i := σ8.toNat) (j := 0) ty36 rfl (Ent.b (Ent.darr Ent.z)) h31.lt rfl) ?_
                refine Lin.g (v := .int .i64 (((nth v0.2 σ8.toNat).length : Int))) (by decide) rfl (Pu.qo (p_len 46 Try.underlying36 rfl)) ?_
                refine Lin.g (v := .bool (decide (((nth v0.2 σ8.toNat).length : Int) = 0))) (by decide) rfl (Pu.qo (p_eql rfl rfl)) ?_
                refine Lin.q (v := .bool (decide (((nth v0.2 σ8.toNat).length : Int) = 0))) (by decide) (Pu.qo (p_pickF rfl rfl)) ?_
                have j19 := Option.some.inj j19; subst j19
                show At _ _ _ _ _ _
                exact n1 ⟨rfl, rfl, rfl, rfl, rfl, trivial⟩
        refine Tr.cond (b := b18) rfl (fun h35 => ?_) (fun h35 => ?_)
        · have H1 := cdT h35 H1
          refine Tr.seq ?_
          refine Tr.region ?_
          refine Rg.q (v := .bool (false)) (Pu.qo (p_assign rfl)) (by decide) ?_
          refine Rg.nl ?_
          refine nT (?_)
          refine tRet ?_
          refine rB (rT (rT (rB (rT (rT (?_))))))
          have hx := hb13 _ (Option.some.inj H1).symm; subst hx
          replace H := sw.r H
          have hr := Option.some.inj H; subst hr
          exact back1 () rfl (ResV.tmp (v := .bool (false)) rfl) rfl Ents.nil Take.nil
        · have H1 := cdF h35 H1
          refine tSkip ?_
          refine nB (nT (?_))
          refine Tr.region ?_
          obtain ⟨h36, H1⟩ := gd.of H1
          refine Rg.q (v := .int .i64 (σ8 + 1)) (Pu.qo (p_add rfl rfl h36)) (by decide) ?_
          refine Rg.q (v := .int .i64 (σ8 + 1)) (Pu.qo (p_move rfl)) (by decide) ?_
          refine Rg.nl ?_
          exact nLC ⟨(m15, σ8 + 1, ()), hi12 _ (Option.some.inj H1).symm⟩ (Nat.lt_succ_self _) ⟨rfl, rfl, rfl, rfl, trivial⟩ Ents.refl (.cons Del.here .nil)
      · have H1 := cdF h16 H1
        refine tExit (xT (xT (xE (?_))))
        exact nMC ⟨((), ()), (hb13 _ (Option.some.inj H1).symm).symm⟩ trivial Ents.refl Take.nil
    · rintro ⟨⟨e37, y10⟩, hx⟩; subst hx; replace H := sw.l H
      show At _ _ [] _ [] _
      refine nT (?_)
      refine Tr.seq ?_
      refine Tr.region ?_
      refine Rg.q (v := .bool (true)) (Pu.qo (p_assign rfl)) (by decide) ?_
      refine Rg.nl ?_
      refine nT (?_)
      refine tRet ?_
      have hr := Option.some.inj H; subst hr
      exact back1 () rfl (ResV.tmp (v := .bool (true)) rfl) rfl Ents.nil Take.nil
noncomputable def p_spec_BlockOk_b0 (v0 : (List Row)) (σ5 : Int) : Option ((Int) ⊕ (Unit ⊕ Bool)) := cond (decide (σ5 < (v0.length : Int))) (bd (gd (ix σ5 v0.length) <| bd (p_spec_l2Row (nth v0 σ5.toNat)) fun r17 => cond (!r17) (some (true)) (cond (decide (0 < σ5)) (gd (I64 (σ5 - 1)) <| gd (ix (σ5 - 1) v0.length) <| some (decide (((nth v0 σ5.toNat).1) ≤ ((nth v0 ((σ5 - 1).toNat)).1)))) (some (false)))) fun b14 => cond (b14) (some (.inr (.inr false))) (gd (I64 (σ5 + 1)) <| some (.inl (σ5 + 1)))) (some (.inr (.inl ())))
noncomputable def p_spec_BlockOk (v0 : (List Row)) : Option (Bool) := bd (lp (p_spec_BlockOk_b0 v0) 0) <| sw (fun e25 => some (decide ((v0.length : Int) ≤ 24))) (fun q => some q)
theorem c_spec_BlockOk {r : Bool} (v0 : (List Row)) (x_v0 : Option Addr × Nat) (H : p_spec_BlockOk v0 = some r) : Fn' Try.prog 31 #[.slice x_v0.1 v0.length x_v0.2] [imm (.slice x_v0.1 v0.length x_v0.2) v0] [] (ι := Unit) (fun x => .bool (r)) (fun _ => []) (fun x => []) := by
  refine calls_of (args := [_]) Try.func31 rfl (by kernel_rfl) Try.ntmps31 (by simp) fun c => ?_
  unfold p_spec_BlockOk at H
  refine Tr.seq ?_
  refine Tr.region ?_
  refine Rg.q (v := .bool (false)) (Pu.qo (p_assign rfl)) (by decide) ?_
  refine Rg.nl ?_
  refine nT (?_)
  refine Tr.seq ?_
  refine Tr.seq ?_
  refine Tr.region ?_
  refine Rg.q (v := .int .i64 (0)) (Pu.qo (p_assign rfl)) (by decide) ?_
  refine Rg.nl ?_
  refine nT (?_)
  obtain ⟨x1, hx2, H⟩ := bd.of H
  obtain ⟨n3, hx2⟩ := lp.of hx2
  refine tMidNC (ι := { q : (Unit) × Unit // x1 = .inl q.1 }) (fun ψ => [(0, .slice x_v0.1 v0.length x_v0.2)]) (fun ψ => []) ?_ ?_
  · refine Tr.block ?_
    refine tLoopC (ι := { q : Nat × (Int) × Unit // itr (p_spec_BlockOk_b0 v0) q.1 q.2.1 = some x1 }) (fun ζ => [(0, .slice x_v0.1 v0.length x_v0.2), (3, .int .i64 (ζ.1.2.1))]) (fun ζ => []) (fun ζ => ζ.1.1) ⟨(n3, 0, ()), hx2⟩ ⟨rfl, rfl, trivial⟩ Take.nil ?_
    rintro ⟨⟨m4, σ5, z6⟩, hk11⟩
    obtain ⟨m12, t8, e, H1, hi9, hb10⟩ := itr.of (n := m4) (s := σ5) hk11
    subst e; unfold p_spec_BlockOk_b0 at H1
    show Tr _ _ _ _ _ [(0, .slice x_v0.1 v0.length x_v0.2), (3, .int .i64 (σ5))] _ []
    refine Tr.seq ?_
    refine Tr.seq ?_
    refine Tr.region ?_
    refine Rg.q (v := .int .i64 (σ5)) (Pu.qo (p_move rfl)) (by decide) ?_
    refine Rg.q (v := .slice x_v0.1 v0.length x_v0.2) (Pu.qo (p_move rfl)) (by decide) ?_
    refine Rg.q (v := .int .i64 ((v0.length : Int))) (Pu.qo (p_len 46 Try.underlying36 rfl)) (by decide) ?_
    refine Rg.q (v := .bool (decide (σ5 < (v0.length : Int)))) (Pu.qo (p_lss rfl rfl)) (by decide) ?_
    refine Rg.nl ?_
    refine nT (?_)
    refine Tr.cond (b := decide (σ5 < (v0.length : Int))) rfl (fun h13 => ?_) (fun h13 => ?_)
    · have H1 := cdT h13 H1
      refine tSkip ?_
      refine nT (?_)
      refine Tr.seq ?_
      refine Tr.block ?_
      obtain ⟨b14, j15, H1⟩ := bd.of H1
      refine tMid1 [(33, .bool (b14)), (0, .slice x_v0.1 v0.length x_v0.2), (3, .int .i64 (σ5))] ?_ ?_
      · refine tLinS [(0, .slice x_v0.1 v0.length x_v0.2), (3, .int .i64 (σ5))] Try.mixed (.inr (by kernel_rfl)) ⟨rfl, rfl, trivial⟩ rfl ?_
        refine Lin.q (v := .slice x_v0.1 v0.length x_v0.2) (by decide) (Pu.qo (p_move rfl)) ?_
        refine Lin.q (v := .int .i64 (σ5)) (by decide) (Pu.qo (p_move rfl)) ?_
        obtain ⟨h16, j15⟩ := gd.of j15
        refine Lin.q (v := elp x_v0.1 (σ5.toNat * Enc.sz Row + 0)) (by decide) (q_ixg (l := v0) (E := fun i => Flat.enc (nth v0 i)) (oa := x_v0.1) Try.underlying36 ty46 rfl rfl h16 rfl (EntB.flat (Ent.b Ent.z))) ?_
        refine Lin.q (v := .agg #[.int .i64 ((nth v0 σ5.toNat).1), .int .i64 ((nth v0 σ5.toNat).2)]) (by decide) (q_ldeA (l := v0) (E := fun i => Flat.enc (nth v0 i)) (oa := x_v0.1) (i := σ5.toNat) ty46 rfl (EntB.flat (Ent.b Ent.z)) h16.lt) ?_
        obtain ⟨r17, h18, j15⟩ := bd.of j15
        refine Lin.q (v := .bool (r17)) (by decide) (q_call (vs := [.agg #[.int .i64 ((nth v0 σ5.toNat).1), .int .i64 ((nth v0 σ5.toNat).2)]]) (c_spec_l2Row (nth v0 σ5.toNat) h18) rfl EntsB.nil) ?_
        refine Lin.q (v := .bool (!r17)) (by decide) (Pu.qo (p_not rfl)) ?_
        rcases Bool.eq_false_or_eq_true (!r17) with h19 | h19
        · have j15 := cdT h19 j15
          refine Lin.q (v := .bool (true)) (by decide) (Qo.eqv (v := .bool (!r17)) (Pu.qo (p_move rfl)) (congrArg Value.bool h19)) ?_
          refine Lin.skip (by decide) rfl ?_
          refine Lin.skip (by decide) rfl ?_
          refine Lin.skip (by decide) rfl ?_
          refine Lin.skip (by decide) rfl ?_
          refine Lin.skip (by decide) rfl ?_
          refine Lin.skip (by decide) rfl ?_
          refine Lin.skip (by decide) rfl ?_
          refine Lin.skip (by decide) rfl ?_
          refine Lin.skip (by decide) rfl ?_
          refine Lin.skip (by decide) rfl ?_
          refine Lin.skip (by decide) rfl ?_
          refine Lin.skip (by decide) rfl ?_
          refine Lin.skip (by decide) rfl ?_
          refine Lin.skip (by decide) rfl ?_
          refine Lin.skip (by decide) rfl ?_
          refine Lin.skip (by decide) rfl ?_
          refine Lin.q (v := .bool (true)) (by decide) (Pu.qo (p_pickT rfl rfl)) ?_
          have j15 := Option.some.inj j15; subst j15
          show At _ _ _ _ _ _
          exact n1 ⟨rfl, rfl, rfl, trivial⟩
        · have j15 := cdF h19 j15
          refine Lin.q (v := .bool (false)) (by decide) (Qo.eqv (v := .bool (!r17)) (Pu.qo (p_move rfl)) (congrArg Value.bool h19)) ?_
          refine Lin.g (v := .int .i64 (σ5)) (by decide) rfl (Pu.qo (p_move rfl)) ?_
          refine Lin.g (v := .bool (decide (0 < σ5))) (by decide) rfl (Pu.qo (p_gtr rfl rfl)) ?_
          rcases Bool.eq_false_or_eq_true (decide (0 < σ5)) with h20 | h20
          · have j15 := cdT h20 j15
            refine Lin.g (v := .bool (true)) (by decide) rfl (Qo.eqv (v := .bool (decide (0 < σ5))) (Pu.qo (p_move rfl)) (congrArg Value.bool h20)) ?_
            refine Lin.g (v := .slice x_v0.1 v0.length x_v0.2) (by decide) rfl (Pu.qo (p_move rfl)) ?_
            refine Lin.g (v := .int .i64 (σ5)) (by decide) rfl (Pu.qo (p_move rfl)) ?_
            obtain ⟨h21, j15⟩ := gd.of j15
            refine Lin.g (v := .int .i64 (σ5 - 1)) (by decide) rfl (Pu.qo (p_sub rfl rfl h21)) ?_
            obtain ⟨h22, j15⟩ := gd.of j15
            refine Lin.g (v := elp x_v0.1 (((σ5 - 1).toNat) * Enc.sz Row + 0)) (by decide) rfl (q_ixg (l := v0) (E := fun i => Flat.enc (nth v0 i)) (oa := x_v0.1) Try.underlying36 ty46 rfl rfl h22 rfl (EntB.flat (Ent.b Ent.z))) ?_
            refine Lin.g (v := elp x_v0.1 (((σ5 - 1).toNat) * Enc.sz Row + 0)) (by decide) rfl (q_faeE (l := v0) (E := fun i => Flat.enc (nth v0 i)) (oa := x_v0.1) (j := 0) ((σ5 - 1).toNat) fa46_0 rfl (EntB.flat (Ent.b Ent.z)) h22.lt rfl) ?_
            refine Lin.g (v := .int .i64 ((nth v0 ((σ5 - 1).toNat)).1)) (by decide) rfl (q_lde (l := v0) (E := fun i => Flat.enc (nth v0 i)) (oa := x_v0.1) (i := (σ5 - 1).toNat) (j := 0) ty3 rfl (EntB.flat (Ent.b Ent.z)) h22.lt rfl) ?_
            refine Lin.g (v := .slice x_v0.1 v0.length x_v0.2) (by decide) rfl (Pu.qo (p_move rfl)) ?_
            refine Lin.g (v := .int .i64 (σ5)) (by decide) rfl (Pu.qo (p_move rfl)) ?_
            refine Lin.g (v := elp x_v0.1 (σ5.toNat * Enc.sz Row + 0)) (by decide) rfl (q_ixg (l := v0) (E := fun i => Flat.enc (nth v0 i)) (oa := x_v0.1) Try.underlying36 ty46 rfl rfl h16 rfl (EntB.flat (Ent.b Ent.z))) ?_
            refine Lin.g (v := elp x_v0.1 (σ5.toNat * Enc.sz Row + 0)) (by decide) rfl (q_faeE (l := v0) (E := fun i => Flat.enc (nth v0 i)) (oa := x_v0.1) (j := 0) σ5.toNat fa46_0 rfl (EntB.flat (Ent.b Ent.z)) h16.lt rfl) ?_
            refine Lin.g (v := .int .i64 ((nth v0 σ5.toNat).1)) (by decide) rfl (q_lde (l := v0) (E := fun i => Flat.enc (nth v0 i)) (oa := x_v0.1) (i := σ5.toNat) (j := 0) ty3 rfl (EntB.flat (Ent.b Ent.z)) h16.lt rfl) ?_
            refine Lin.g (v := .bool (decide (((nth v0 σ5.toNat).1) ≤ ((nth v0 ((σ5 - 1).toNat)).1)))) (by decide) rfl (Pu.qo (p_geq rfl rfl)) ?_
            refine Lin.g (v := .bool (decide (((nth v0 σ5.toNat).1) ≤ ((nth v0 ((σ5 - 1).toNat)).1)))) (by decide) rfl (Pu.qo (p_pickT rfl rfl)) ?_
            refine Lin.q (v := .bool (decide (((nth v0 σ5.toNat).1) ≤ ((nth v0 ((σ5 - 1).toNat)).1)))) (by decide) (Pu.qo (p_pickF rfl rfl)) ?_
            have j15 := Option.some.inj j15; subst j15
            show At _ _ _ _ _ _
            exact n1 ⟨rfl, rfl, rfl, trivial⟩
          · have j15 := cdF h20 j15
            refine Lin.g (v := .bool (false)) (by decide) rfl (Qo.eqv (v := .bool (decide (0 < σ5))) (Pu.qo (p_move rfl)) (congrArg Value.bool h20)) ?_
            refine Lin.skip (by decide) rfl ?_
            refine Lin.skip (by decide) rfl ?_
            refine Lin.skip (by decide) rfl ?_
            refine Lin.skip (by decide) rfl ?_
            refine Lin.skip (by decide) rfl ?_
            refine Lin.skip (by decide) rfl ?_
            refine Lin.skip (by decide) rfl ?_
            refine Lin.skip (by decide) rfl ?_
            refine Lin.skip (by decide) rfl ?_
            refine Lin.skip (by decide) rfl ?_
            refine Lin.skip (by decide) rfl ?_
            refine Lin.skip (by decide) rfl ?_
            refine Lin.g (v := .bool (false)) (by decide) rfl (Pu.qo (p_pickF rfl rfl)) ?_
            refine Lin.q (v := .bool (false)) (by decide) (Pu.qo (p_pickF rfl rfl)) ?_
            have j15 := Option.some.inj j15; subst j15
            show At _ _ _ _ _ _
            exact n1 ⟨rfl, rfl, rfl, trivial⟩
      refine Tr.cond (b := b14) rfl (fun h23 => ?_) (fun h23 => ?_)
      · have H1 := cdT h23 H1
        refine Tr.seq ?_
        refine Tr.region ?_
        refine Rg.q (v := .bool (false)) (Pu.qo (p_assign rfl)) (by decide) ?_
        refine Rg.nl ?_
        refine nT (?_)
        refine tRet ?_
        refine rB (rT (rT (rB (rT (rT (?_))))))
        have hx := hb10 _ (Option.some.inj H1).symm; subst hx
        replace H := sw.r H
        have hr := Option.some.inj H; subst hr
        exact back1 () rfl (ResV.tmp (v := .bool (false)) rfl) rfl Ents.nil Take.nil
      · have H1 := cdF h23 H1
        refine tSkip ?_
        refine nB (nT (?_))
        refine Tr.region ?_
        refine Rg.q (v := .int .i64 (σ5)) (Pu.qo (p_move rfl)) (by decide) ?_
        obtain ⟨h24, H1⟩ := gd.of H1
        refine Rg.q (v := .int .i64 (σ5 + 1)) (Pu.qo (p_add rfl rfl h24)) (by decide) ?_
        refine Rg.q (v := .int .i64 (σ5 + 1)) (Pu.qo (p_assign rfl)) (by decide) ?_
        refine Rg.nl ?_
        exact nLC ⟨(m12, σ5 + 1, ()), hi9 _ (Option.some.inj H1).symm⟩ (Nat.lt_succ_self _) ⟨rfl, rfl, trivial⟩ Ents.refl Take.nil
    · have H1 := cdF h13 H1
      refine tExit (xT (xT (xE (?_))))
      exact nMC ⟨((), ()), (hb10 _ (Option.some.inj H1).symm).symm⟩ ⟨rfl, trivial⟩ Ents.refl Take.nil
  · rintro ⟨⟨e25, y7⟩, hx⟩; subst hx; replace H := sw.l H
    show At _ _ [(0, .slice x_v0.1 v0.length x_v0.2)] _ [] _
    refine nT (?_)
    refine Tr.seq ?_
    refine Tr.region ?_
    refine Rg.q (v := .slice x_v0.1 v0.length x_v0.2) (Pu.qo (p_move rfl)) (by decide) ?_
    refine Rg.q (v := .int .i64 ((v0.length : Int))) (Pu.qo (p_len 46 Try.underlying36 rfl)) (by decide) ?_
    refine Rg.q (v := .bool (decide ((v0.length : Int) ≤ 24))) (Pu.qo (p_leq rfl rfl)) (by decide) ?_
    refine Rg.q (v := .bool (decide ((v0.length : Int) ≤ 24))) (Pu.qo (p_assign rfl)) (by decide) ?_
    refine Rg.nl ?_
    refine nT (?_)
    refine tRet ?_
    have hr := Option.some.inj H; subst hr
    exact back1 () rfl (ResV.tmp (v := .bool (decide ((v0.length : Int) ≤ 24))) rfl) rfl Ents.nil Take.nil
noncomputable def p_spec_PartOk_b0 (v0 : Part) (σ8 : Int) : Option ((Int) ⊕ (Unit ⊕ Bool)) := cond (decide (σ8 < (v0.1.length : Int))) (bd (gd (ix σ8 v0.1.length) <| bd (p_spec_l6In (nth v0.1 σ8.toNat) 1 6) fun r20 => cond (!r20) (some (true)) (cond (decide (0 < σ8)) (gd (I64 (σ8 - 1)) <| gd (ix (σ8 - 1) v0.1.length) <| cond (decide ((nth v0.1 σ8.toNat) ≤ (nth v0.1 ((σ8 - 1).toNat)))) (some (true)) (gd (ix σ8 v0.2.length) <| cond (decide (((nth v0.2 σ8.toNat).length : Int) = 0)) (some (true)) (bd (p_spec_BlockOk (nth v0.2 σ8.toNat)) fun r29 => some (!r29)))) (gd (ix σ8 v0.2.length) <| cond (decide (((nth v0.2 σ8.toNat).length : Int) = 0)) (some (true)) (bd (p_spec_BlockOk (nth v0.2 σ8.toNat)) fun r33 => some (!r33))))) fun b17 => cond (b17) (some (.inr (.inr false))) (gd (I64 (σ8 + 1)) <| some (.inl (σ8 + 1)))) (some (.inr (.inl ())))
noncomputable def p_spec_PartOk (v0 : Part) : Option (Bool) := cond (!decide ((v0.1.length : Int) = (v0.2.length : Int))) (some false) (bd (lp (p_spec_PartOk_b0 v0) 0) <| sw (fun e37 => some true) (fun q => some q))
theorem c_spec_PartOk {r : Bool} (v0 : Part) (x_v0 : (Option Addr × Nat) × (Option Addr × Nat)) (H : p_spec_PartOk v0 = some r) : Fn' Try.prog 12 #[.agg #[.slice x_v0.1.1 v0.1.length x_v0.1.2, .slice x_v0.2.1 v0.2.length x_v0.2.2]] [imm (.slice x_v0.1.1 v0.1.length x_v0.1.2) v0.1, imm (.slice x_v0.2.1 v0.2.length x_v0.2.2) v0.2] [] (ι := Unit) (fun x => .bool (r)) (fun _ => []) (fun x => []) := by
  refine calls_of (args := [_]) Try.func12 rfl (by kernel_rfl) Try.ntmps12 (by simp) fun c => ?_
  unfold p_spec_PartOk at H
  refine Tr.openD Ent.z.s fun X1 => ?_
  refine Tr.seq ?_
  refine Tr.region ?_
  refine Rg.ed (e_box (t := 26) (v := .agg #[.slice x_v0.1.1 v0.1.length x_v0.1.2, .slice x_v0.2.1 v0.2.length x_v0.2.2]) rfl) rfl (by decide) ?_
  rintro _ _ _ ⟨g2, rfl, rfl, rfl⟩
  refine Rg.q (v := .bool (false)) (Pu.qo (p_assign rfl)) (by decide) ?_
  refine Rg.nl ?_
  refine nT (?_)
  refine Tr.seq ?_
  refine Tr.seq ?_
  refine Tr.region ?_
  refine Rg.q (v := .pointer (some ⟨g2, 0, none⟩)) (Pu.qo (p_fabE fa26_0 rfl rfl)) (by decide) ?_
  refine Rg.q (v := .slice x_v0.1.1 v0.1.length x_v0.1.2) (q_ldb ty23 rfl Has.here rfl) (by decide) ?_
  refine Rg.q (v := .int .i64 ((v0.1.length : Int))) (Pu.qo (p_len 3 Try.underlying23 rfl)) (by decide) ?_
  refine Rg.q (v := .pointer (some ⟨g2, 1, none⟩)) (Pu.qo (p_fabE fa26_1 rfl rfl)) (by decide) ?_
  refine Rg.q (v := .slice x_v0.2.1 v0.2.length x_v0.2.2) (q_ldb ty24 rfl Has.here rfl) (by decide) ?_
  refine Rg.q (v := .int .i64 ((v0.2.length : Int))) (Pu.qo (p_len 36 Try.underlying24 rfl)) (by decide) ?_
  refine Rg.q (v := .bool (!decide ((v0.1.length : Int) = (v0.2.length : Int)))) (Pu.qo (p_neq rfl rfl)) (by decide) ?_
  refine Rg.nl ?_
  refine nT (?_)
  refine Tr.cond (b := !decide ((v0.1.length : Int) = (v0.2.length : Int))) rfl (fun h3 => ?_) (fun h3 => ?_)
  · have H := cdT h3 H
    refine Tr.seq ?_
    refine Tr.region ?_
    refine Rg.q (v := .bool (false)) (Pu.qo (p_assign rfl)) (by decide) ?_
    refine Rg.nl ?_
    refine nT (?_)
    refine tRet ?_
    refine rT (?_)
    have hr := Option.some.inj H; subst hr
    exact back1 () rfl (ResV.tmp (v := .bool (false)) rfl) rfl Ents.nil Take.nil
  · have H := cdF h3 H
    refine tSkip ?_
    refine nT (?_)
    refine Tr.seq ?_
    refine Tr.seq ?_
    refine Tr.region ?_
    refine Rg.q (v := .int .i64 (0)) (Pu.qo (p_assign rfl)) (by decide) ?_
    refine Rg.nl ?_
    refine nT (?_)
    obtain ⟨x4, hx5, H⟩ := bd.of H
    obtain ⟨n6, hx5⟩ := lp.of hx5
    refine tMidNC (ι := { q : (Unit) × Unit // x4 = .inl q.1 }) (fun ψ => []) (fun ψ => []) ?_ ?_
    · refine Tr.block ?_
      refine tLoopC (ι := { q : Nat × (Int) × Unit // itr (p_spec_PartOk_b0 v0) q.1 q.2.1 = some x4 }) (fun ζ => [(1, .pointer (some ⟨g2, 0, none⟩)), (3, .int .i64 (ζ.1.2.1))]) (fun ζ => [box g2 26 [.slice x_v0.1.1 v0.1.length x_v0.1.2, .slice x_v0.2.1 v0.2.length x_v0.2.2]]) (fun ζ => ζ.1.1) ⟨(n6, 0, ()), hx5⟩ ⟨rfl, rfl, trivial⟩ (.cons Del.here .nil) ?_
      rintro ⟨⟨m7, σ8, z9⟩, hk14⟩
      obtain ⟨m15, t11, e, H1, hi12, hb13⟩ := itr.of (n := m7) (s := σ8) hk14
      subst e; unfold p_spec_PartOk_b0 at H1
      show Tr _ _ _ _ _ [(1, .pointer (some ⟨g2, 0, none⟩)), (3, .int .i64 (σ8))] _ [box g2 26 [.slice x_v0.1.1 v0.1.length x_v0.1.2, .slice x_v0.2.1 v0.2.length x_v0.2.2]]
      refine Tr.seq ?_
      refine Tr.seq ?_
      refine Tr.region ?_
      refine Rg.q (v := .int .i64 (σ8)) (Pu.qo (p_move rfl)) (by decide) ?_
      refine Rg.q (v := .pointer (some ⟨g2, 0, none⟩)) (Pu.qo (p_fabE fa26_0 rfl rfl)) (by decide) ?_
      refine Rg.q (v := .slice x_v0.1.1 v0.1.length x_v0.1.2) (q_ldb ty23 rfl Has.here rfl) (by decide) ?_
      refine Rg.q (v := .int .i64 ((v0.1.length : Int))) (Pu.qo (p_len 3 Try.underlying23 rfl)) (by decide) ?_
      refine Rg.q (v := .bool (decide (σ8 < (v0.1.length : Int)))) (Pu.qo (p_lss rfl rfl)) (by decide) ?_
      refine Rg.nl ?_
      refine nT (?_)
      refine Tr.cond (b := decide (σ8 < (v0.1.length : Int))) rfl (fun h16 => ?_) (fun h16 => ?_)
      · have H1 := cdT h16 H1
        refine tSkip ?_
        refine nT (?_)
        refine Tr.seq ?_
        refine Tr.block ?_
        obtain ⟨b17, j18, H1⟩ := bd.of H1
        refine tMid1 [(60, .bool (b17)), (1, .pointer (some ⟨g2, 0, none⟩)), (3, .int .i64 (σ8))] ?_ ?_
        · refine tLinS [(1, .pointer (some ⟨g2, 0, none⟩)), (3, .int .i64 (σ8))] Try.mixed (.inr (by kernel_rfl)) ⟨rfl, rfl, trivial⟩ rfl ?_
          refine Lin.q (v := .pointer (some ⟨g2, 0, none⟩)) (by decide) (Pu.qo (p_fabE fa26_0 rfl rfl)) ?_
          refine Lin.q (v := .slice x_v0.1.1 v0.1.length x_v0.1.2) (by decide) (q_ldb ty23 rfl Has.here rfl) ?_
          refine Lin.q (v := .int .i64 (σ8)) (by decide) (Pu.qo (p_move rfl)) ?_
          obtain ⟨h19, j18⟩ := gd.of j18
          refine Lin.q (v := elp x_v0.1.1 (σ8.toNat * Enc.sz Int + 0)) (by decide) (q_ixg (l := v0.1) (E := fun i => Flat.enc (nth v0.1 i)) (oa := x_v0.1.1) Try.underlying23 ty3 rfl rfl h19 rfl (EntB.flat (Ent.b Ent.z.s))) ?_
          refine Lin.q (v := .int .i64 (nth v0.1 σ8.toNat)) (by decide) (q_lde (l := v0.1) (E := fun i => Flat.enc (nth v0.1 i)) (oa := x_v0.1.1) (i := σ8.toNat) (j := 0) ty3 rfl (EntB.flat (Ent.b Ent.z.s)) h19.lt rfl) ?_
          obtain ⟨r20, h21, j18⟩ := bd.of j18
          refine Lin.q (v := .bool (r20)) (by decide) (q_call (vs := [.int .i64 (nth v0.1 σ8.toNat), .int .i64 (1), .int .i64 (6)]) (c_spec_l6In (nth v0.1 σ8.toNat) 1 6 h21) rfl EntsB.nil) ?_
          refine Lin.q (v := .bool (!r20)) (by decide) (Pu.qo (p_not rfl)) ?_
          rcases Bool.eq_false_or_eq_true (!r20) with h22 | h22
          · have j18 := cdT h22 j18
            refine Lin.q (v := .bool (true)) (by decide) (Qo.eqv (v := .bool (!r20)) (Pu.qo (p_move rfl)) (congrArg Value.bool h22)) ?_
            refine Lin.skip (by decide) rfl ?_
            refine Lin.skip (by decide) rfl ?_
            refine Lin.skip (by decide) rfl ?_
            refine Lin.skip (by decide) rfl ?_
            refine Lin.skip (by decide) rfl ?_
            refine Lin.skip (by decide) rfl ?_
            refine Lin.skip (by decide) rfl ?_
            refine Lin.skip (by decide) rfl ?_
            refine Lin.skip (by decide) rfl ?_
            refine Lin.skip (by decide) rfl ?_
            refine Lin.skip (by decide) rfl ?_
            refine Lin.skip (by decide) rfl ?_
            refine Lin.skip (by decide) rfl ?_
            refine Lin.skip (by decide) rfl ?_
            refine Lin.skip (by decide) rfl ?_
            refine Lin.skip (by decide) rfl ?_
            refine Lin.q (v := .bool (true)) (by decide) (Pu.qo (p_pickT rfl rfl)) ?_
            refine Lin.q (v := .bool (true)) (by decide) (Pu.qo (p_move rfl)) ?_
            refine Lin.skip (by decide) rfl ?_
            refine Lin.skip (by decide) rfl ?_
            refine Lin.skip (by decide) rfl ?_
            refine Lin.skip (by decide) rfl ?_
            refine Lin.skip (by decide) rfl ?_
            refine Lin.skip (by decide) rfl ?_
            refine Lin.skip (by decide) rfl ?_
            refine Lin.q (v := .bool (true)) (by decide) (Pu.qo (p_pickT rfl rfl)) ?_
            refine Lin.q (v := .bool (true)) (by decide) (Pu.qo (p_move rfl)) ?_
            refine Lin.skip (by decide) rfl ?_
            refine Lin.skip (by decide) rfl ?_
            refine Lin.skip (by decide) rfl ?_
            refine Lin.skip (by decide) rfl ?_
            refine Lin.skip (by decide) rfl ?_
            refine Lin.skip (by decide) rfl ?_
            refine Lin.skip (by decide) rfl ?_
            refine Lin.q (v := .bool (true)) (by decide) (Pu.qo (p_pickT rfl rfl)) ?_
            have j18 := Option.some.inj j18; subst j18
            show At _ _ _ _ _ _
            exact n1 ⟨rfl, rfl, rfl, trivial⟩
          · have j18 := cdF h22 j18
            refine Lin.q (v := .bool (false)) (by decide) (Qo.eqv (v := .bool (!r20)) (Pu.qo (p_move rfl)) (congrArg Value.bool h22)) ?_
            refine Lin.g (v := .int .i64 (σ8)) (by decide) rfl (Pu.qo (p_move rfl)) ?_
            refine Lin.g (v := .bool (decide (0 < σ8))) (by decide) rfl (Pu.qo (p_gtr rfl rfl)) ?_
            rcases Bool.eq_false_or_eq_true (decide (0 < σ8)) with h23 | h23
            · have j18 := cdT h23 j18
              refine Lin.g (v := .bool (true)) (by decide) rfl (Qo.eqv (v := .bool (decide (0 < σ8))) (Pu.qo (p_move rfl)) (congrArg Value.bool h23)) ?_
              refine Lin.g (v := .pointer (some ⟨g2, 0, none⟩)) (by decide) rfl (Pu.qo (p_fabE fa26_0 rfl rfl)) ?_
              refine Lin.g (v := .slice x_v0.1.1 v0.1.length x_v0.1.2) (by decide) rfl (q_ldb ty23 rfl Has.here rfl) ?_
              refine Lin.g (v := .int .i64 (σ8)) (by decide) rfl (Pu.qo (p_move rfl)) ?_
              obtain ⟨h24, j18⟩ := gd.of j18
              refine Lin.g (v := .int .i64 (σ8 - 1)) (by decide) rfl (Pu.qo (p_sub rfl rfl h24)) ?_
              obtain ⟨h25, j18⟩ := gd.of j18
              refine Lin.g (v := elp x_v0.1.1 (((σ8 - 1).toNat) * Enc.sz Int + 0)) (by decide) rfl (q_ixg (l := v0.1) (E := fun i => Flat.enc (nth v0.1 i)) (oa := x_v0.1.1) Try.underlying23 ty3 rfl rfl h25 rfl (EntB.flat (Ent.b Ent.z.s))) ?_
              refine Lin.g (v := .int .i64 (nth v0.1 ((σ8 - 1).toNat))) (by decide) rfl (q_lde (l := v0.1) (E := fun i => Flat.enc (nth v0.1 i)) (oa := x_v0.1.1) (i := (σ8 - 1).toNat) (j := 0) ty3 rfl (EntB.flat (Ent.b Ent.z.s)) h25.lt rfl) ?_
              refine Lin.g (v := .pointer (some ⟨g2, 0, none⟩)) (by decide) rfl (Pu.qo (p_fabE fa26_0 rfl rfl)) ?_
              refine Lin.g (v := .slice x_v0.1.1 v0.1.length x_v0.1.2) (by decide) rfl (q_ldb ty23 rfl Has.here rfl) ?_
              refine Lin.g (v := .int .i64 (σ8)) (by decide) rfl (Pu.qo (p_move rfl)) ?_
              refine Lin.g (v := elp x_v0.1.1 (σ8.toNat * Enc.sz Int + 0)) (by decide) rfl (q_ixg (l := v0.1) (E := fun i => Flat.enc (nth v0.1 i)) (oa := x_v0.1.1) Try.underlying23 ty3 rfl rfl h19 rfl (EntB.flat (Ent.b Ent.z.s))) ?_
              refine Lin.g (v := .int .i64 (nth v0.1 σ8.toNat)) (by decide) rfl (q_lde (l := v0.1) (E := fun i => Flat.enc (nth v0.1 i)) (oa := x_v0.1.1) (i := σ8.toNat) (j := 0) ty3 rfl (EntB.flat (Ent.b Ent.z.s)) h19.lt rfl) ?_
              refine Lin.g (v := .bool (decide ((nth v0.1 σ8.toNat) ≤ (nth v0.1 ((σ8 - 1).toNat))))) (by decide) rfl (Pu.qo (p_geq rfl rfl)) ?_
              refine Lin.g (v := .bool (decide ((nth v0.1 σ8.toNat) ≤ (nth v0.1 ((σ8 - 1).toNat))))) (by decide) rfl (Pu.qo (p_pickT rfl rfl)) ?_
              refine Lin.q (v := .bool (decide ((nth v0.1 σ8.toNat) ≤ (nth v0.1 ((σ8 - 1).toNat))))) (by decide) (Pu.qo (p_pickF rfl rfl)) ?_
              rcases Bool.eq_false_or_eq_true (decide ((nth v0.1 σ8.toNat) ≤ (nth v0.1 ((σ8 - 1).toNat)))) with h26 | h26
              · have j18 := cdT h26 j18
                refine Lin.q (v := .bool (true)) (by decide) (Qo.eqv (v := .bool (decide ((nth v0.1 σ8.toNat) ≤ (nth v0.1 ((σ8 - 1).toNat))))) (Pu.qo (p_move rfl)) (congrArg Value.bool h26)) ?_
                refine Lin.skip (by decide) rfl ?_
                refine Lin.skip (by decide) rfl ?_
                refine Lin.skip (by decide) rfl ?_
                refine Lin.skip (by decide) rfl ?_
                refine Lin.skip (by decide) rfl ?_
                refine Lin.skip (by decide) rfl ?_
                refine Lin.skip (by decide) rfl ?_
                refine Lin.q (v := .bool (true)) (by decide) (Pu.qo (p_pickT rfl rfl)) ?_
                refine Lin.q (v := .bool (true)) (by decide) (Pu.qo (p_move rfl)) ?_
                refine Lin.skip (by decide) rfl ?_
                refine Lin.skip (by decide) rfl ?_
                refine Lin.skip (by decide) rfl ?_
                refine Lin.skip (by decide) rfl ?_
                refine Lin.skip (by decide) rfl ?_
                refine Lin.skip (by decide) rfl ?_
                refine Lin.skip (by decide) rfl ?_
                refine Lin.q (v := .bool (true)) (by decide) (Pu.qo (p_pickT rfl rfl)) ?_
                have j18 := Option.some.inj j18; subst j18
                show At _ _ _ _ _ _
                exact n1 ⟨rfl, rfl, rfl, trivial⟩
              · have j18 := cdF h26 j18
                refine Lin.q (v := .bool (false)) (by decide) (Qo.eqv (v := .bool (decide ((nth v0.1 σ8.toNat) ≤ (nth v0.1 ((σ8 - 1).toNat))))) (Pu.qo (p_move rfl)) (congrArg Value.bool h26)) ?_
                refine Lin.g (v := .pointer (some ⟨g2, 1, none⟩)) (by decide) rfl (Pu.qo (p_fabE fa26_1 rfl rfl)) ?_
                refine Lin.g (v := .slice x_v0.2.1 v0.2.length x_v0.2.2) (by decide) rfl (q_ldb ty24 rfl Has.here rfl) ?_
                refine Lin.g (v := .int .i64 (σ8)) (by decide) rfl (Pu.qo (p_move rfl)) ?_
                obtain ⟨h27, j18⟩ := gd.of j18
                refine Lin.g (v := elp x_v0.2.1 (σ8.toNat * Enc.sz (List Row) + 0)) (by decide) rfl (q_ixg (l := v0.2) (E := fun i => Dp.denc (nth v0.2 i) (X1 i)) (oa := x_v0.2.1) Try.underlying24 ty36 rfl rfl h27 rfl (Ent.b (Ent.darr Ent.z))) ?_
                refine Lin.g (v := .slice ((X1 σ8.toNat).1) ((nth v0.2 σ8.toNat).length) ((X1 σ8.toNat).2.1)) (by decide) rfl (q_lde (l := v0.2) (E := fun i => Dp.denc (nth v0.2 i) (X1 i)) (oa := x_v0.2.1) (i := σ8.toNat) (j := 0) ty36 rfl (Ent.b (Ent.darr Ent.z)) h27.lt rfl) ?_
                refine Lin.g (v := .int .i64 (((nth v0.2 σ8.toNat).length : Int))) (by decide) rfl (Pu.qo (p_len 46 Try.underlying36 rfl)) ?_
                refine Lin.g (v := .bool (decide (((nth v0.2 σ8.toNat).length : Int) = 0))) (by decide) rfl (Pu.qo (p_eql rfl rfl)) ?_
                refine Lin.q (v := .bool (decide (((nth v0.2 σ8.toNat).length : Int) = 0))) (by decide) (Pu.qo (p_pickF rfl rfl)) ?_
                rcases Bool.eq_false_or_eq_true (decide (((nth v0.2 σ8.toNat).length : Int) = 0)) with h28 | h28
                · have j18 := cdT h28 j18
                  refine Lin.q (v := .bool (true)) (by decide) (Qo.eqv (v := .bool (decide (((nth v0.2 σ8.toNat).length : Int) = 0))) (Pu.qo (p_move rfl)) (congrArg Value.bool h28)) ?_
                  refine Lin.skip (by decide) rfl ?_
                  refine Lin.skip (by decide) rfl ?_
                  refine Lin.skip (by decide) rfl ?_
                  refine Lin.skip (by decide) rfl ?_
                  refine Lin.skip (by decide) rfl ?_
                  refine Lin.skip (by decide) rfl ?_
                  refine Lin.skip (by decide) rfl ?_
                  refine Lin.q (v := .bool (true)) (by decide) (Pu.qo (p_pickT rfl rfl)) ?_
                  have j18 := Option.some.inj j18; subst j18
                  show At _ _ _ _ _ _
                  exact n1 ⟨rfl, rfl, rfl, trivial⟩
                · have j18 := cdF h28 j18
                  refine Lin.q (v := .bool (false)) (by decide) (Qo.eqv (v := .bool (decide (((nth v0.2 σ8.toNat).length : Int) = 0))) (Pu.qo (p_move rfl)) (congrArg Value.bool h28)) ?_
                  refine Lin.g (v := .pointer (some ⟨g2, 1, none⟩)) (by decide) rfl (Pu.qo (p_fabE fa26_1 rfl rfl)) ?_
                  refine Lin.g (v := .slice x_v0.2.1 v0.2.length x_v0.2.2) (by decide) rfl (q_ldb ty24 rfl Has.here rfl) ?_
                  refine Lin.g (v := .int .i64 (σ8)) (by decide) rfl (Pu.qo (p_move rfl)) ?_
                  refine Lin.g (v := elp x_v0.2.1 (σ8.toNat * Enc.sz (List Row) + 0)) (by decide) rfl (q_ixg (l := v0.2) (E := fun i => Dp.denc (nth v0.2 i) (X1 i)) (oa := x_v0.2.1) Try.underlying24 ty36 rfl rfl h27 rfl (Ent.b (Ent.darr Ent.z))) ?_
                  refine Lin.g (v := .slice ((X1 σ8.toNat).1) ((nth v0.2 σ8.toNat).length) ((X1 σ8.toNat).2.1)) (by decide) rfl (q_lde (l := v0.2) (E := fun i => Dp.denc (nth v0.2 i) (X1 i)) (oa := x_v0.2.1) (i := σ8.toNat) (j := 0) ty36 rfl (Ent.b (Ent.darr Ent.z)) h27.lt rfl) ?_
                  obtain ⟨r29, h30, j18⟩ := bd.of j18
                  refine Lin.g (v := .bool (r29)) (by decide) rfl (q_call (vs := [.slice ((X1 σ8.toNat).1) ((nth v0.2 σ8.toNat).length) ((X1 σ8.toNat).2.1)]) (c_spec_BlockOk (nth v0.2 σ8.toNat) ((X1 σ8.toNat).1, (X1 σ8.toNat).2.1) h30) rfl (EntsB.cons (Ent.b (Ent.dimm (Ent.del Ent.z h27.lt))) EntsB.nil)) ?_
                  refine Lin.g (v := .bool (!r29)) (by decide) rfl (Pu.qo (p_not rfl)) ?_
                  refine Lin.q (v := .bool (!r29)) (by decide) (Pu.qo (p_pickF rfl rfl)) ?_
                  have j18 := Option.some.inj j18; subst j18
                  show At _ _ _ _ _ _
                  exact n1 ⟨rfl, rfl, rfl, trivial⟩
            · have j18 := cdF h23 j18
              refine Lin.g (v := .bool (false)) (by decide) rfl (Qo.eqv (v := .bool (decide (0 < σ8))) (Pu.qo (p_move rfl)) (congrArg Value.bool h23)) ?_
              refine Lin.skip (by decide) rfl ?_
              refine Lin.skip (by decide) rfl ?_
              refine Lin.skip (by decide) rfl ?_
              refine Lin.skip (by decide) rfl ?_
              refine Lin.skip (by decide) rfl ?_
              refine Lin.skip (by decide) rfl ?_
              refine Lin.skip (by decide) rfl ?_
              refine Lin.skip (by decide) rfl ?_
              refine Lin.skip (by decide) rfl ?_
              refine Lin.skip (by decide) rfl ?_
              refine Lin.skip (by decide) rfl ?_
              refine Lin.skip (by decide) rfl ?_
              refine Lin.g (v := .bool (false)) (by decide) rfl (Pu.qo (p_pickF rfl rfl)) ?_
              refine Lin.q (v := .bool (false)) (by decide) (Pu.qo (p_pickF rfl rfl)) ?_
              refine Lin.q (v := .bool (false)) (by decide) (Pu.qo (p_move rfl)) ?_
              refine Lin.g (v := .pointer (some ⟨g2, 1, none⟩)) (by decide) rfl (Pu.qo (p_fabE fa26_1 rfl rfl)) ?_
              refine Lin.g (v := .slice x_v0.2.1 v0.2.length x_v0.2.2) (by decide) rfl (q_ldb ty24 rfl Has.here rfl) ?_
              refine Lin.g (v := .int .i64 (σ8)) (by decide) rfl (Pu.qo (p_move rfl)) ?_
              obtain ⟨h31, j18⟩ := gd.of j18
              refine Lin.g (v := elp x_v0.2.1 (σ8.toNat * Enc.sz (List Row) + 0)) (by decide) rfl (q_ixg (l := v0.2) (E := fun i => Dp.denc (nth v0.2 i) (X1 i)) (oa := x_v0.2.1) Try.underlying24 ty36 rfl rfl h31 rfl (Ent.b (Ent.darr Ent.z))) ?_
              refine Lin.g (v := .slice ((X1 σ8.toNat).1) ((nth v0.2 σ8.toNat).length) ((X1 σ8.toNat).2.1)) (by decide) rfl (q_lde (l := v0.2) (E := fun i => Dp.denc (nth v0.2 i) (X1 i)) (oa := x_v0.2.1) (i := σ8.toNat) (j := 0) ty36 rfl (Ent.b (Ent.darr Ent.z)) h31.lt rfl) ?_
              refine Lin.g (v := .int .i64 (((nth v0.2 σ8.toNat).length : Int))) (by decide) rfl (Pu.qo (p_len 46 Try.underlying36 rfl)) ?_
              refine Lin.g (v := .bool (decide (((nth v0.2 σ8.toNat).length : Int) = 0))) (by decide) rfl (Pu.qo (p_eql rfl rfl)) ?_
              refine Lin.q (v := .bool (decide (((nth v0.2 σ8.toNat).length : Int) = 0))) (by decide) (Pu.qo (p_pickF rfl rfl)) ?_
              rcases Bool.eq_false_or_eq_true (decide (((nth v0.2 σ8.toNat).length : Int) = 0)) with h32 | h32
              · have j18 := cdT h32 j18
                refine Lin.q (v := .bool (true)) (by decide) (Qo.eqv (v := .bool (decide (((nth v0.2 σ8.toNat).length : Int) = 0))) (Pu.qo (p_move rfl)) (congrArg Value.bool h32)) ?_
                refine Lin.skip (by decide) rfl ?_
                refine Lin.skip (by decide) rfl ?_
                refine Lin.skip (by decide) rfl ?_
                refine Lin.skip (by decide) rfl ?_
                refine Lin.skip (by decide) rfl ?_
                refine Lin.skip (by decide) rfl ?_
                refine Lin.skip (by decide) rfl ?_
                refine Lin.q (v := .bool (true)) (by decide) (Pu.qo (p_pickT rfl rfl)) ?_
                have j18 := Option.some.inj j18; subst j18
                show At _ _ _ _ _ _
                exact n1 ⟨rfl, rfl, rfl, trivial⟩
              · have j18 := cdF h32 j18
                refine Lin.q (v := .bool (false)) (by decide) (Qo.eqv (v := .bool (decide (((nth v0.2 σ8.toNat).length : Int) = 0))) (Pu.qo (p_move rfl)) (congrArg Value.bool h32)) ?_
                refine Lin.g (v := .pointer (some ⟨g2, 1, none⟩)) (by decide) rfl (Pu.qo (p_fabE fa26_1 rfl rfl)) ?_
                refine Lin.g (v := .slice x_v0.2.1 v0.2.length x_v0.2.2) (by decide) rfl (q_ldb ty24 rfl Has.here rfl) ?_
                refine Lin.g (v := .int .i64 (σ8)) (by decide) rfl (Pu.qo (p_move rfl)) ?_
                refine Lin.g (v := elp x_v0.2.1 (σ8.toNat * Enc.sz (List Row) + 0)) (by decide) rfl (q_ixg (l := v0.2) (E := fun i => Dp.denc (nth v0.2 i) (X1 i)) (oa := x_v0.2.1) Try.underlying24 ty36 rfl rfl h31 rfl (Ent.b (Ent.darr Ent.z))) ?_
                refine Lin.g (v := .slice ((X1 σ8.toNat).1) ((nth v0.2 σ8.toNat).length) ((X1 σ8.toNat).2.1)) (by decide) rfl (q_lde (l := v0.2) (E := fun i => Dp.denc (nth v0.2 i) (X1 i)) (oa := x_v0.2.1) (i := σ8.toNat) (j := 0) ty36 rfl (Ent.b (Ent.darr Ent.z)) h31.lt rfl) ?_
                obtain ⟨r33, h34, j18⟩ := bd.of j18
                refine Lin.g (v := .bool (r33)) (by decide) rfl (q_call (vs := [.slice ((X1 σ8.toNat).1) ((nth v0.2 σ8.toNat).length) ((X1 σ8.toNat).2.1)]) (c_spec_BlockOk (nth v0.2 σ8.toNat) ((X1 σ8.toNat).1, (X1 σ8.toNat).2.1) h34) rfl (EntsB.cons (Ent.b (Ent.dimm (Ent.del Ent.z h31.lt))) EntsB.nil)) ?_
                refine Lin.g (v := .bool (!r33)) (by decide) rfl (Pu.qo (p_not rfl)) ?_
                refine Lin.q (v := .bool (!r33)) (by decide) (Pu.qo (p_pickF rfl rfl)) ?_
                have j18 := Option.some.inj j18; subst j18
                show At _ _ _ _ _ _
                exact n1 ⟨rfl, rfl, rfl, trivial⟩
        refine Tr.cond (b := b17) rfl (fun h35 => ?_) (fun h35 => ?_)
        · have H1 := cdT h35 H1
          refine Tr.seq ?_
          refine Tr.region ?_
          refine Rg.q (v := .bool (false)) (Pu.qo (p_assign rfl)) (by decide) ?_
          refine Rg.nl ?_
          refine nT (?_)
          refine tRet ?_
          refine rB (rT (rT (rB (rT (rT (?_))))))
          have hx := hb13 _ (Option.some.inj H1).symm; subst hx
          replace H := sw.r H
          have hr := Option.some.inj H; subst hr
          exact back1 () rfl (ResV.tmp (v := .bool (false)) rfl) rfl Ents.nil Take.nil
        · have H1 := cdF h35 H1
          refine tSkip ?_
          refine nB (nT (?_))
          refine Tr.region ?_
          refine Rg.q (v := .int .i64 (σ8)) (Pu.qo (p_move rfl)) (by decide) ?_
          obtain ⟨h36, H1⟩ := gd.of H1
          refine Rg.q (v := .int .i64 (σ8 + 1)) (Pu.qo (p_add rfl rfl h36)) (by decide) ?_
          refine Rg.q (v := .int .i64 (σ8 + 1)) (Pu.qo (p_assign rfl)) (by decide) ?_
          refine Rg.nl ?_
          exact nLC ⟨(m15, σ8 + 1, ()), hi12 _ (Option.some.inj H1).symm⟩ (Nat.lt_succ_self _) ⟨rfl, rfl, trivial⟩ Ents.refl (.cons Del.here .nil)
      · have H1 := cdF h16 H1
        refine tExit (xT (xT (xE (?_))))
        exact nMC ⟨((), ()), (hb13 _ (Option.some.inj H1).symm).symm⟩ trivial Ents.refl Take.nil
    · rintro ⟨⟨e37, y10⟩, hx⟩; subst hx; replace H := sw.l H
      show At _ _ [] _ [] _
      refine nT (?_)
      refine Tr.seq ?_
      refine Tr.region ?_
      refine Rg.q (v := .bool (true)) (Pu.qo (p_assign rfl)) (by decide) ?_
      refine Rg.nl ?_
      refine nT (?_)
      refine tRet ?_
      have hr := Option.some.inj H; subst hr
      exact back1 () rfl (ResV.tmp (v := .bool (true)) rfl) rfl Ents.nil Take.nil
noncomputable def p_slices_Index_int_int_b0 (v0 : (List Int)) (v1 : Int) (σ5 : Int) : Option ((Int) ⊕ (Unit ⊕ Int)) := cond (decide (σ5 < (v0.length : Int))) (gd (ix σ5 v0.length) <| cond (decide (v1 = (nth v0 σ5.toNat))) (some (.inr (.inr σ5))) (gd (I64 (σ5 + 1)) <| some (.inl (σ5 + 1)))) (some (.inr (.inl ())))
noncomputable def p_slices_Index_int_int (v0 : (List Int)) (v1 : Int) : Option (Int) := bd (lp (p_slices_Index_int_int_b0 v0 v1) 0) <| sw (fun e17 => some (-1)) (fun q => some q)
theorem c_slices_Index_int_int {r : Int} (v0 : (List Int)) (x_v0 : Option Addr × Nat) (v1 : Int) (H : p_slices_Index_int_int v0 v1 = some r) : Fn' Try.prog 36 #[.slice x_v0.1 v0.length x_v0.2, .int .i64 (v1)] [imm (.slice x_v0.1 v0.length x_v0.2) v0] [] (ι := Unit) (fun x => .int .i64 (r)) (fun _ => []) (fun x => []) := by
  refine calls_of (args := [_, _]) Try.func36 rfl (by kernel_rfl) Try.ntmps36 (by simp) fun c => ?_
  unfold p_slices_Index_int_int at H
  refine Tr.seq ?_
  refine Tr.region ?_
  refine Rg.q (v := .int .i64 (0)) (Pu.qo (p_assign rfl)) (by decide) ?_
  refine Rg.nl ?_
  refine nT (?_)
  refine Tr.seq ?_
  refine Tr.seq ?_
  refine Tr.region ?_
  refine Rg.q (v := .slice x_v0.1 v0.length x_v0.2) (Pu.qo (p_move rfl)) (by decide) ?_
  refine Rg.q (v := .int .i64 ((v0.length : Int))) (Pu.qo (p_len 3 Try.underlying23 rfl)) (by decide) ?_
  refine Rg.q (v := .int .i64 (0)) (Pu.qo (p_move rfl)) (by decide) ?_
  refine Rg.nl ?_
  refine nT (?_)
  obtain ⟨x1, hx2, H⟩ := bd.of H
  obtain ⟨n3, hx2⟩ := lp.of hx2
  refine tMidNC (ι := { q : (Unit) × Unit // x1 = .inl q.1 }) (fun ψ => []) (fun ψ => []) ?_ ?_
  · refine Tr.block ?_
    refine tLoopC (ι := { q : Nat × (Int) × Unit // itr (p_slices_Index_int_int_b0 v0 v1) q.1 q.2.1 = some x1 }) (fun ζ => [(0, .slice x_v0.1 v0.length x_v0.2), (1, .int .i64 (v1)), (7, .int .i64 ((v0.length : Int))), (8, .int .i64 (ζ.1.2.1))]) (fun ζ => []) (fun ζ => ζ.1.1) ⟨(n3, 0, ()), hx2⟩ ⟨rfl, rfl, rfl, rfl, trivial⟩ Take.nil ?_
    rintro ⟨⟨m4, σ5, z6⟩, hk11⟩
    obtain ⟨m12, t8, e, H1, hi9, hb10⟩ := itr.of (n := m4) (s := σ5) hk11
    subst e; unfold p_slices_Index_int_int_b0 at H1
    show Tr _ _ _ _ _ [(0, .slice x_v0.1 v0.length x_v0.2), (1, .int .i64 (v1)), (7, .int .i64 ((v0.length : Int))), (8, .int .i64 (σ5))] _ []
    refine Tr.seq ?_
    refine Tr.region ?_
    refine Rg.q (v := .bool (decide (σ5 < (v0.length : Int)))) (Pu.qo (p_lss rfl rfl)) (by decide) ?_
    refine Rg.nl ?_
    refine nT (?_)
    refine Tr.seq ?_
    refine Tr.cond (b := decide (σ5 < (v0.length : Int))) rfl (fun h13 => ?_) (fun h13 => ?_)
    · have H1 := cdT h13 H1
      refine tSkip ?_
      refine nT (?_)
      refine Tr.seq ?_
      refine Tr.block ?_
      refine Tr.seq ?_
      refine Tr.region ?_
      refine Rg.q (v := .int .i64 (σ5)) (Pu.qo (p_move rfl)) (by decide) ?_
      refine Rg.q (v := .int .i64 (σ5)) (Pu.qo (p_assign rfl)) (by decide) ?_
      refine Rg.nl ?_
      refine nT (?_)
      refine Tr.seq ?_
      refine Tr.region ?_
      refine Rg.q (v := .int .i64 (v1)) (Pu.qo (p_move rfl)) (by decide) ?_
      refine Rg.q (v := .slice x_v0.1 v0.length x_v0.2) (Pu.qo (p_move rfl)) (by decide) ?_
      refine Rg.q (v := .int .i64 (σ5)) (Pu.qo (p_move rfl)) (by decide) ?_
      obtain ⟨h14, H1⟩ := gd.of H1
      refine Rg.q (v := elp x_v0.1 (σ5.toNat * Enc.sz Int + 0)) (q_ixg (l := v0) (E := fun i => Flat.enc (nth v0 i)) (oa := x_v0.1) Try.underlying23 ty3 rfl rfl h14 rfl (EntB.flat (Ent.b Ent.z))) (by decide) ?_
      refine Rg.q (v := .int .i64 (nth v0 σ5.toNat)) (q_lde (l := v0) (E := fun i => Flat.enc (nth v0 i)) (oa := x_v0.1) (i := σ5.toNat) (j := 0) ty3 rfl (EntB.flat (Ent.b Ent.z)) h14.lt rfl) (by decide) ?_
      refine Rg.q (v := .bool (decide (v1 = (nth v0 σ5.toNat)))) (Pu.qo (p_eql rfl rfl)) (by decide) ?_
      refine Rg.nl ?_
      refine nT (?_)
      refine Tr.cond (b := decide (v1 = (nth v0 σ5.toNat))) rfl (fun h15 => ?_) (fun h15 => ?_)
      · have H1 := cdT h15 H1
        refine Tr.seq ?_
        refine Tr.region ?_
        refine Rg.q (v := .int .i64 (σ5)) (Pu.qo (p_move rfl)) (by decide) ?_
        refine Rg.q (v := .int .i64 (σ5)) (Pu.qo (p_assign rfl)) (by decide) ?_
        refine Rg.nl ?_
        refine nT (?_)
        refine tRet ?_
        refine rB (rT (rT (rB (rT (rT (?_))))))
        have hx := hb10 _ (Option.some.inj H1).symm; subst hx
        replace H := sw.r H
        have hr := Option.some.inj H; subst hr
        exact back1 () rfl (ResV.tmp (v := .int .i64 (σ5)) rfl) rfl Ents.nil Take.nil
      · have H1 := cdF h15 H1
        refine tSkip ?_
        refine nB (nT (?_))
        refine Tr.region ?_
        obtain ⟨h16, H1⟩ := gd.of H1
        refine Rg.q (v := .int .i64 (σ5 + 1)) (Pu.qo (p_add rfl rfl h16)) (by decide) ?_
        refine Rg.q (v := .int .i64 (σ5 + 1)) (Pu.qo (p_move rfl)) (by decide) ?_
        refine Rg.nl ?_
        exact nLC ⟨(m12, σ5 + 1, ()), hi9 _ (Option.some.inj H1).symm⟩ (Nat.lt_succ_self _) ⟨rfl, rfl, rfl, rfl, trivial⟩ Ents.refl Take.nil
    · have H1 := cdF h13 H1
      refine tExit (xT (xT (xE (?_))))
      exact nMC ⟨((), ()), (hb10 _ (Option.some.inj H1).symm).symm⟩ trivial Ents.refl Take.nil
  · rintro ⟨⟨e17, y7⟩, hx⟩; subst hx; replace H := sw.l H
    show At _ _ [] _ [] _
    refine nT (?_)
    refine Tr.seq ?_
    refine Tr.region ?_
    refine Rg.q (v := .int .i64 (-1)) (Pu.qo (p_assign rfl)) (by decide) ?_
    refine Rg.nl ?_
    refine nT (?_)
    refine tRet ?_
    have hr := Option.some.inj H; subst hr
    exact back1 () rfl (ResV.tmp (v := .int .i64 (-1)) rfl) rfl Ents.nil Take.nil
noncomputable def p_impl_PartOf (v0 : Part) (v1 : Int) : Option ((List Row)) := bd (p_slices_Index_int_int v0.1 v1) fun r3 => bd (bd (p_impl_PartOk v0) fun r7 => cond (!r7) (some (true)) (some (decide (r3 < 0)))) fun b5 => cond (b5) (some ([] : List Row)) (gd (ix r3 v0.2.length) <| gd (room (([] : List Row).length + (nth v0.2 r3.toNat).length)) <| some (([] : List Row) ++ (nth v0.2 r3.toNat)))
theorem c_impl_PartOf {r : (List Row)} (v0 : Part) (x_v0 : (Option Addr × Nat) × (Option Addr × Nat)) (v1 : Int) (H : p_impl_PartOf v0 v1 = some r) : Fn' Try.prog 18 #[.agg #[.slice x_v0.1.1 v0.1.length x_v0.1.2, .slice x_v0.2.1 v0.2.length x_v0.2.2], .int .i64 (v1)] [imm (.slice x_v0.1.1 v0.1.length x_v0.1.2) v0.1, imm (.slice x_v0.2.1 v0.2.length x_v0.2.2) v0.2] [] (ι := Option Addr × Nat) (fun x => .slice x.1 r.length x.2) (fun _ => []) (fun x => [tree (.slice x.1 r.length x.2) r]) := by
  refine calls_of (args := [_, _]) Try.func18 rfl (by kernel_rfl) Try.ntmps18 (by simp) fun c => ?_
  unfold p_impl_PartOf at H
  refine Tr.openD Ent.z.s fun X1 => ?_
  refine Tr.seq ?_
  refine Tr.region ?_
  refine Rg.ed (e_box (t := 26) (v := .agg #[.slice x_v0.1.1 v0.1.length x_v0.1.2, .slice x_v0.2.1 v0.2.length x_v0.2.2]) rfl) rfl (by decide) ?_
  rintro _ _ _ ⟨g2, rfl, rfl, rfl⟩
  refine Rg.q (v := .slice none 0 0) (Pu.qo (p_assign rfl)) (by decide) ?_
  refine Rg.nl ?_
  refine nT (?_)
  refine Tr.seq ?_
  refine Tr.region ?_
  refine Rg.q (v := .pointer (some ⟨g2, 0, none⟩)) (Pu.qo (p_fabE fa26_0 rfl rfl)) (by decide) ?_
  refine Rg.q (v := .slice x_v0.1.1 v0.1.length x_v0.1.2) (q_ldb ty23 rfl Has.here rfl) (by decide) ?_
  refine Rg.q (v := .int .i64 (v1)) (Pu.qo (p_move rfl)) (by decide) ?_
  obtain ⟨r3, h4, H⟩ := bd.of H
  refine Rg.q (v := .int .i64 (r3)) (q_call (vs := [.slice x_v0.1.1 v0.1.length x_v0.1.2, .int .i64 (v1)]) (c_slices_Index_int_int v0.1 x_v0.1 v1 h4) rfl (EntsB.cons (Ent.b Ent.z.s) EntsB.nil)) (by decide) ?_
  refine Rg.q (v := .int .i64 (r3)) (Pu.qo (p_assign rfl)) (by decide) ?_
  refine Rg.nl ?_
  refine nT (?_)
  refine Tr.seq ?_
  obtain ⟨b5, j6, H⟩ := bd.of H
  refine tMid1 [(16, .bool (b5)), (5, .int .i64 (r3)), (2, .pointer (some ⟨g2, 0, none⟩))] ?_ ?_
  · refine tLinT [(5, .int .i64 (r3)), (2, .pointer (some ⟨g2, 0, none⟩))] ⟨rfl, rfl, trivial⟩ ?_
    refine Lin.q (v := .agg #[.slice x_v0.1.1 v0.1.length x_v0.1.2, .slice x_v0.2.1 v0.2.length x_v0.2.2]) (by decide) (q_ldbA ty26 rfl Has.here rfl) ?_
    obtain ⟨r7, h8, j6⟩ := bd.of j6
    refine Lin.q (v := .bool (r7)) (by decide) (q_call (vs := [.agg #[.slice x_v0.1.1 v0.1.length x_v0.1.2, .slice x_v0.2.1 v0.2.length x_v0.2.2]]) (c_impl_PartOk v0 x_v0 h8) rfl (EntsB.cons (Ent.b Ent.z.s) (EntsB.cons (Ent.b (Ent.dimm Ent.z)) EntsB.nil))) ?_
    refine Lin.q (v := .bool (!r7)) (by decide) (Pu.qo (p_not rfl)) ?_
    rcases Bool.eq_false_or_eq_true (!r7) with h9 | h9
    · have j6 := cdT h9 j6
      refine Lin.q (v := .bool (true)) (by decide) (Qo.eqv (v := .bool (!r7)) (Pu.qo (p_move rfl)) (congrArg Value.bool h9)) ?_
      refine Lin.skip (by decide) rfl ?_
      refine Lin.skip (by decide) rfl ?_
      refine Lin.q (v := .bool (true)) (by decide) (Pu.qo (p_pickT rfl rfl)) ?_
      have j6 := Option.some.inj j6; subst j6
      show At _ _ _ _ _ _
      exact n1 ⟨rfl, rfl, rfl, trivial⟩
    · have j6 := cdF h9 j6
      refine Lin.q (v := .bool (false)) (by decide) (Qo.eqv (v := .bool (!r7)) (Pu.qo (p_move rfl)) (congrArg Value.bool h9)) ?_
      refine Lin.g (v := .int .i64 (r3)) (by decide) rfl (Pu.qo (p_move rfl)) ?_
      refine Lin.g (v := .bool (decide (r3 < 0))) (by decide) rfl (Pu.qo (p_lss rfl rfl)) ?_
      refine Lin.q (v := .bool (decide (r3 < 0))) (by decide) (Pu.qo (p_pickF rfl rfl)) ?_
      have j6 := Option.some.inj j6; subst j6
      show At _ _ _ _ _ _
      exact n1 ⟨rfl, rfl, rfl, trivial⟩
  refine Tr.cond (b := b5) rfl (fun h10 => ?_) (fun h10 => ?_)
  · have H := cdT h10 H
    refine Tr.seq ?_
    refine Tr.region ?_
    refine Rg.ed (e_lit0 Row Try.underlying36 ty46) rfl (by decide) ?_
    rintro _ _ _ ⟨a11, c12, rfl, rfl, rfl⟩
    refine Rg.q (v := .slice a11 (([] : List Row).length) c12) (Pu.qo (p_assign rfl)) (by decide) ?_
    refine Rg.nl ?_
    refine nT (?_)
    refine tRet ?_
    refine rT (?_)
    have hr := Option.some.inj H; subst hr
    exact back1 (a11, c12) rfl (ResV.tmp (v := .slice a11 (([] : List Row).length) c12) rfl) rfl Ents.nil (.cons Del.here .nil)
  · have H := cdF h10 H
    refine tSkip ?_
    refine nT (?_)
    refine Tr.seq ?_
    refine Tr.region ?_
    refine Rg.ed (e_lit0 Row Try.underlying36 ty46) rfl (by decide) ?_
    rintro _ _ _ ⟨a13, c14, rfl, rfl, rfl⟩
    refine Rg.q (v := .pointer (some ⟨g2, 1, none⟩)) (Pu.qo (p_fabE fa26_1 rfl rfl)) (by decide) ?_
    refine Rg.q (v := .slice x_v0.2.1 v0.2.length x_v0.2.2) (q_ldb ty24 rfl Has.here.there rfl) (by decide) ?_
    refine Rg.q (v := .int .i64 (r3)) (Pu.qo (p_move rfl)) (by decide) ?_
    obtain ⟨h15, H⟩ := gd.of H
    refine Rg.q (v := elp x_v0.2.1 (r3.toNat * Enc.sz (List Row) + 0)) (q_ixg (l := v0.2) (E := fun i => Dp.denc (nth v0.2 i) (X1 i)) (oa := x_v0.2.1) Try.underlying24 ty36 rfl rfl h15 rfl (Ent.b (Ent.darr Ent.z))) (by decide) ?_
    refine Rg.q (v := .slice ((X1 r3.toNat).1) ((nth v0.2 r3.toNat).length) ((X1 r3.toNat).2.1)) (q_lde (l := v0.2) (E := fun i => Dp.denc (nth v0.2 i) (X1 i)) (oa := x_v0.2.1) (i := r3.toNat) (j := 0) ty36 rfl (Ent.b (Ent.darr Ent.z)) h15.lt rfl) (by decide) ?_
    obtain ⟨h18, H⟩ := gd.of H
    refine Rg.ed (e_appF (l := ([] : List Row)) (k := nth v0.2 r3.toNat) (α := Row) Try.underlying36 ty46 rfl rfl (h18.b (by decide)) h18.x (.cons Del.here .nil) (Ent.b (Ent.dimm (Ent.del Ent.z h15.lt)))) rfl (by decide) ?_
    rintro _ _ _ ⟨a16, c17, rfl, rfl, rfl⟩
    refine Rg.q (v := .slice a16 ((([] : List Row) ++ (nth v0.2 r3.toNat)).length) c17) (Pu.qo (p_assign rfl)) (by decide) ?_
    refine Rg.nl ?_
    refine nT (?_)
    refine tRet ?_
    have hr := Option.some.inj H; subst hr
    exact back1 (a16, c17) rfl (ResV.tmp (v := .slice a16 ((([] : List Row) ++ (nth v0.2 r3.toNat)).length) c17) rfl) rfl Ents.nil (.cons Del.here .nil)
def p_slices_Insert_Row_Row (v0 : List Row) (v1 : Int) (v2 : List Row) : Option (List Row) := p_insert v0 v1 v2
theorem c_slices_Insert_Row_Row {r : (List Row)} (v0 : (List Row)) (x_v0 : Option Addr × Nat) (v1 : Int) (v2 : (List Row)) (x_v2 : Option Addr × Nat) (H : p_slices_Insert_Row_Row v0 v1 v2 = some r) : Fn' Try.prog 55 #[.slice x_v0.1 v0.length x_v0.2, .int .i64 (v1), .slice x_v2.1 v2.length x_v2.2] [] [tree (.slice x_v0.1 v0.length x_v0.2) v0, tree (.slice x_v2.1 v2.length x_v2.2) v2] (ι := Option Addr × Nat) (fun x => .slice x.1 r.length x.2) (fun _ => []) (fun x => [tree (.slice x.1 r.length x.2) r]) := by
  refine calls_of (args := [_, _, _]) Try.func55 rfl (by kernel_rfl) Try.ntmps55 (by simp) fun c => ?_
  unfold p_slices_Insert_Row_Row p_insert at H
  obtain ⟨h1, H⟩ := gd.of H; obtain ⟨h2, H⟩ := gd.of H; obtain ⟨h3, H⟩ := gd.of H
  obtain ⟨oa, cp⟩ := x_v0; obtain ⟨ob, cq⟩ := x_v2
  obtain ⟨i, rfl⟩ := Int.eq_ofNat_of_zero_le h1.1
  have hi : i ≤ v0.length := Int.ofNat_le.1 h1.2
  have hr : v0.take i ++ v2 ++ v0.drop i = r := Option.some.inj H
  subst hr
  have hrm : v0.length + v2.length ≤ 1073741824 := h2
  refine Tr.bnd Has.here fun _ b1 b2 => ?_
  refine Tr.seq ?_
  refine Tr.region ?_
  refine Rg.q (v := .slice none 0 0) (Pu.qo (p_assign rfl)) (by decide) ?_
  refine Rg.nl ?_
  refine nT ?_
  refine Tr.seq ?_
  refine Tr.region ?_
  refine Rg.q (v := .slice oa (v0.length) (cp)) (Pu.qo (p_move rfl)) (by decide) ?_
  refine Rg.q (v := .int .i64 (i : Int)) (Pu.qo (p_move rfl)) (by decide) ?_
  refine Rg.q (v := .slice (subA oa cp (i : Int).toNat (Enc.sz Row)) (v0.length - (i : Int).toNat) (cp - (i : Int).toNat)) (Pu.qo (p_slAny Try.underlying36 (show TyI _ _ _ (Enc.sz Row) _ _ from ty46) rfl rfl h1.1 h1.2 b1)) (by decide) ?_
  refine Rg.nl ?_
  refine nT ?_
  refine Tr.seq ?_
  refine Tr.region ?_
  refine Rg.q (v := .slice ob (v2.length) (cq)) (Pu.qo (p_move rfl)) (by decide) ?_
  refine Rg.q (v := .int .i64 (v2.length : Int)) (Pu.qo (p_len 46 Try.underlying36 rfl)) (by decide) ?_
  refine Rg.q (v := .int .i64 (v2.length : Int)) (Pu.qo (p_assign rfl)) (by decide) ?_
  refine Rg.nl ?_
  refine nT ?_
  refine Tr.seq ?_
  refine Tr.seq ?_
  refine Tr.region ?_
  refine Rg.q (v := .int .i64 (v2.length : Int)) (Pu.qo (p_move rfl)) (by decide) ?_
  refine Rg.q (v := .bool (decide ((v2.length : Int) = 0))) (Pu.qo (p_eql rfl rfl)) (by decide) ?_
  refine Rg.nl ?_
  refine nT ?_
  refine Tr.cond (b := decide ((v2.length : Int) = 0)) rfl (fun h => absurd (of_decide_eq_true h) (by omega)) (fun _ => ?_)
  refine tSkip ?_
  refine nT ?_
  refine Tr.seq ?_
  refine Tr.region ?_
  refine Rg.q (v := .slice oa (v0.length) (cp)) (Pu.qo (p_move rfl)) (by decide) ?_
  refine Rg.q (v := .int .i64 (v0.length : Int)) (Pu.qo (p_len 46 Try.underlying36 rfl)) (by decide) ?_
  refine Rg.q (v := .int .i64 (v0.length : Int)) (Pu.qo (p_assign rfl)) (by decide) ?_
  refine Rg.nl ?_
  refine nT ?_
  refine Tr.seq ?_
  refine Tr.seq ?_
  refine Tr.region ?_
  refine Rg.q (v := .int .i64 (i : Int)) (Pu.qo (p_move rfl)) (by decide) ?_
  refine Rg.q (v := .int .i64 (v0.length : Int)) (Pu.qo (p_move rfl)) (by decide) ?_
  refine Rg.q (v := .bool (decide ((i : Int) = (v0.length : Int)))) (Pu.qo (p_eql rfl rfl)) (by decide) ?_
  refine Rg.nl ?_
  refine nT ?_
  refine Tr.cond (b := decide ((i : Int) = (v0.length : Int))) rfl (fun h => ?_) (fun h => ?_)
  · have hin : i = v0.length := Int.ofNat_inj.1 (of_decide_eq_true h)
    subst hin
    refine Tr.seq ?_
    refine Tr.region ?_
    refine Rg.q (v := .slice oa (v0.length) (cp)) (Pu.qo (p_move rfl)) (by decide) ?_
    refine Rg.q (v := .slice ob (v2.length) (cq)) (Pu.qo (p_move rfl)) (by decide) ?_
    refine Rg.ed (e_appF (l := v0) (k := v2) (α := Row) Try.underlying36 ty46 rfl rfl (room.b h2 (by decide)) (room.x h2) (.cons Del.here .nil) (EntB.tree Has.here)) rfl (by decide) ?_
    rintro _ _ _ ⟨oa2, cp2, rfl, rfl, rfl⟩
    refine Rg.q (v := .slice oa2 ((v0 ++ v2).length) (cp2)) (Pu.qo (p_assign rfl)) (by decide) ?_
    refine Rg.nl ?_
    refine nT ?_
    refine tRet ?_
    have hE : v0.take v0.length ++ v2 ++ v0.drop v0.length = v0 ++ v2 := by rw [List.take_length, List.drop_length, List.append_nil]
    rw [hE]
    exact back1 (oa2, cp2) rfl (ResV.tmp (v := .slice oa2 ((v0 ++ v2).length) (cp2)) rfl) rfl Ents.nil (.cons Del.here .nil)
  have hne : i < v0.length := Nat.lt_of_le_of_ne hi fun e => absurd (e ▸ h) (by simp)
  refine tSkip ?_
  refine nT ?_
  refine Tr.seq ?_
  refine Tr.seq ?_
  refine Tr.region ?_
  refine Rg.q (v := .int .i64 (v0.length : Int)) (Pu.qo (p_move rfl)) (by decide) ?_
  refine Rg.q (v := .int .i64 (v2.length : Int)) (Pu.qo (p_move rfl)) (by decide) ?_
  refine Rg.q (v := .int .i64 ((v0.length : Int) + (v2.length : Int))) (Pu.qo (p_add rfl rfl (by unfold I64; omega))) (by decide) ?_
  refine Rg.q (v := .slice oa (v0.length) (cp)) (Pu.qo (p_move rfl)) (by decide) ?_
  refine Rg.q (v := .int .i64 (cp : Int)) (Pu.qo (p_cap 46 Try.underlying36 rfl)) (by decide) ?_
  refine Rg.q (v := .bool (decide ((cp : Int) < (v0.length : Int) + (v2.length : Int)))) (Pu.qo (p_gtr rfl rfl)) (by decide) ?_
  refine Rg.nl ?_
  refine nT ?_
  refine Tr.unT (.cons Del.here .nil) (by omega) fun g bt js e1 _ _ _ l1 l2 l3 => ?_
  subst e1
  have l2 : v0.length * Enc.sz Row + js.length = cp * Enc.sz Row := l2
  refine Tr.unT (.cons (Del.there Del.here) .nil) h3 fun g2 bt2 js2 e1 _ _ _ k1 k2 k3 => ?_
  subst e1
  have hA1 : ((v0.take i).flatMap Flat.enc).length = i * Enc.sz Row := by rw [flat_flen fun x hx => (l3 x (List.mem_of_mem_take hx)).2.1, List.length_take, Nat.min_eq_left hi]
  have hA2 : ((v0.drop i).flatMap Flat.enc).length = (v0.length - i) * Enc.sz Row := by rw [flat_flen fun x hx => (l3 x (List.mem_of_mem_drop hx)).2.1, List.length_drop]
  have hAA : v0.flatMap Flat.enc = (v0.take i).flatMap Flat.enc ++ (v0.drop i).flatMap Flat.enc := by rw [← List.flatMap_append, List.take_append_drop]
  have hall : ∀ x ∈ v0.take i ++ v2 ++ v0.drop i, Flat.wf x ∧ (Flat.enc x).length = Enc.sz Row := ins_all (fun x hx => ⟨(l3 x hx).1, (l3 x hx).2.1⟩) (fun x hx => ⟨(k3 x hx).1, (k3 x hx).2.1⟩)
  have hlen : (v0.take i ++ v2 ++ v0.drop i).length = v0.length + v2.length := by simp; omega
  have o1 : ∀ v ∈ (v0.drop i).flatMap Flat.enc, v.oneCell' = true := fun v hv => by obtain ⟨x, hx, hv⟩ := List.mem_flatMap.1 hv; exact (l3 x (List.mem_of_mem_drop hx)).2.2 v hv
  have o2 : ∀ v ∈ v2.flatMap Flat.enc, v.oneCell' = true := fun v hv => by obtain ⟨x, hx, hv⟩ := List.mem_flatMap.1 hv; exact (k3 x hx).2.2 v hv
  have q0 : i * Enc.sz Row + v2.length * Enc.sz Row = (i + v2.length) * Enc.sz Row := (Nat.add_mul _ _ _).symm
  have q1 : i * Enc.sz Row + (v0.length - i) * Enc.sz Row = v0.length * Enc.sz Row := by rw [← Nat.add_mul]; congr 1; omega
  have q2 : (v0.length + v2.length) * Enc.sz Row = v0.length * Enc.sz Row + v2.length * Enc.sz Row := Nat.add_mul _ _ _
  refine Tr.cond (b := decide ((cp : Int) < (v0.length : Int) + (v2.length : Int))) rfl (fun h => ?_) (fun h => ?_)
  · have h := of_decide_eq_true h
    refine Tr.seq ?_
    refine Tr.region ?_
    refine Rg.q (v := .slice (some ⟨g, 0, none⟩) (v0.length) (cp)) (Pu.qo (p_move rfl)) (by decide) ?_
    refine Rg.q (v := .int .i64 (i : Int)) (Pu.qo (p_move rfl)) (by decide) ?_
    refine Rg.q (v := .slice (some ⟨g, 0, none⟩) (i) (cp)) (Pu.qo (p_slHi i Try.underlying36 (show TyI _ _ _ (Enc.sz Row) _ _ from ty46) rfl rfl rfl (by omega))) (by decide) ?_
    refine Rg.q (v := .int .i64 (v0.length : Int)) (Pu.qo (p_move rfl)) (by decide) ?_
    refine Rg.q (v := .int .i64 (v2.length : Int)) (Pu.qo (p_move rfl)) (by decide) ?_
    refine Rg.q (v := .int .i64 ((v0.length : Int) + (v2.length : Int))) (Pu.qo (p_add rfl rfl (by unfold I64; omega))) (by decide) ?_
    refine Rg.q (v := .int .i64 (i : Int)) (Pu.qo (p_move rfl)) (by decide) ?_
    refine Rg.q (v := .int .i64 ((v0.length : Int) + (v2.length : Int) - (i : Int))) (Pu.qo (p_sub rfl rfl (by unfold I64; omega))) (by decide) ?_
    refine Rg.ed (e_appZ (k := v0.length + v2.length - i) (olds := (v0.take i).flatMap Flat.enc) Try.underlying36 Try.underlying3 (show TyI _ _ _ (Enc.sz Row) _ _ from ty46) (Enc.pos (α := Row)) rfl rfl (by omega) (Has.there Has.here) (by rw [hAA, List.append_assoc, ← hA1]; exact List.take_left.symm) hA1 (by omega) (by omega) (by rw [show i + (v0.length + v2.length - i) = v0.length + v2.length by omega]; exact room.b h2 (by decide)) (by omega)) rfl (by decide) ?_
    rintro _ _ _ ⟨g3, cp3, js3, rfl, m1, m2, m3, rfl, rfl⟩
    refine Rg.q (v := .slice (some ⟨g3, 0, none⟩) (i + (v0.length + v2.length - i)) (cp3)) (Pu.qo (p_assign rfl)) (by decide) ?_
    refine Rg.nl ?_
    refine nT ?_
    have hn3 : i + (v0.length + v2.length - i) = v0.length + v2.length := by omega
    have m4 := Nat.mul_le_mul_right (Enc.sz Row) m1
    rw [hn3] at m4
    refine Tr.seq ?_
    refine Tr.region ?_
    refine Rg.q (v := .slice (some ⟨g3, 0, none⟩) (i + (v0.length + v2.length - i)) (cp3)) (Pu.qo (p_move rfl)) (by decide) ?_
    refine Rg.q (v := .int .i64 (i : Int)) (Pu.qo (p_move rfl)) (by decide) ?_
    refine Rg.q (v := .slice (some ⟨g3, i * Enc.sz Row, none⟩) (i + (v0.length + v2.length - i) - i) (cp3 - i)) (Pu.qo (p_slLo i Try.underlying36 (show TyI _ _ _ (Enc.sz Row) _ _ from ty46) rfl rfl rfl (by omega) m1 (by omega))) (by decide) ?_
    refine Rg.q (v := .slice (some ⟨g2, 0, none⟩) (v2.length) (cq)) (Pu.qo (p_move rfl)) (by decide) ?_
    refine Rg.ed (e_cpB (m := v2.length) (ks := v2.flatMap Flat.enc) Try.underlying36 (show TyI _ _ _ (Enc.sz Row) _ _ from ty46) rfl rfl (Nat.min_eq_left (by omega)) (by rw [List.drop_zero, ← k1]; exact List.take_left.symm) k1 Upd.here (Has.there Has.here) (by rw [List.length_append, hA1]; omega) o2) rfl (by decide) ?_
    rintro _ _ _ ⟨rfl, rfl, rfl⟩
    refine Rg.nl ?_
    refine nT ?_
    refine Tr.seq ?_
    refine tNw 2 [0, 1, 2, 3, 4, 5, 6, 7, 8] [8] [] Try.mixed (by kernel_rfl) (by decide) List.nodup_nil okNil ?_
    refine w_pu (v := .slice (some ⟨g3, 0, none⟩) (i + (v0.length + v2.length - i)) (cp3)) rfl (by decide) rfl rfl rfl (p_move rfl) ?_
    refine w_pu (v := .int .i64 (i : Int)) rfl (by decide) rfl rfl rfl (p_move rfl) ?_
    refine w_pu (v := .int .i64 (v2.length : Int)) rfl (by decide) rfl rfl rfl (p_move rfl) ?_
    refine w_pu (v := .int .i64 ((i : Int) + (v2.length : Int))) rfl (by decide) rfl rfl rfl (p_add rfl rfl (by unfold I64; omega)) ?_
    refine w_pu (v := .slice (some ⟨g3, (i + v2.length) * Enc.sz Row, none⟩) (i + (v0.length + v2.length - i) - (i + v2.length)) (cp3 - (i + v2.length))) rfl (by decide) rfl rfl rfl (p_slLo (i + v2.length) Try.underlying36 (show TyI _ _ _ (Enc.sz Row) _ _ from ty46) rfl rfl rfl (by omega) m1 (by omega)) ?_
    refine w_pu (v := .slice (some ⟨g, 0, none⟩) (v0.length) (cp)) rfl (by decide) rfl rfl rfl (p_move rfl) ?_
    refine w_pu (v := .int .i64 (i : Int)) rfl (by decide) rfl rfl rfl (p_move rfl) ?_
    refine w_pu (v := .slice (some ⟨g, i * Enc.sz Row, none⟩) (v0.length - i) (cp - i)) rfl (by decide) rfl rfl rfl (p_slLo i Try.underlying36 (show TyI _ _ _ (Enc.sz Row) _ _ from ty46) rfl rfl rfl (by omega) b1 (by omega)) ?_
    refine w_ed rfl (by decide) rfl Rdy.nil rfl (n_cpB (m := v0.length - i) (ks := (v0.drop i).flatMap Flat.enc) Try.underlying36 (show TyI _ _ _ (Enc.sz Row) _ _ from ty46) rfl rfl (Nat.min_eq_left (by omega)) (by rw [hAA, List.append_assoc, ← hA1, List.drop_left, ← hA2]; exact List.take_left.symm) hA2 Upd.here (Has.there (Has.there Has.here)) (by rw [← q0, Nat.add_assoc]; exact hlenNew hA1 k1 (by omega)) o1) ?_
    rintro _ _ _ ⟨rfl, rfl, rfl⟩
    refine ⟨PdOk.nil, ?_⟩
    refine w_nil ?_
    refine nT ?_
    refine Tr.seq ?_
    refine Tr.region ?_
    refine Rg.q (v := .slice (some ⟨g3, 0, none⟩) (i + (v0.length + v2.length - i)) (cp3)) (Pu.qo (p_move rfl)) (by decide) ?_
    refine Rg.q (v := .slice (some ⟨g3, 0, none⟩) (i + (v0.length + v2.length - i)) (cp3)) (Pu.qo (p_assign rfl)) (by decide) ?_
    refine Rg.nl ?_
    refine nT ?_
    refine tRet ?_
    refine At.mkF (n := i + (v0.length + v2.length - i)) (v0.take i ++ v2 ++ v0.drop i) (js3.drop (v2.length * Enc.sz Row + (v0.length - i) * Enc.sz Row)) (.cons Del.here .nil) (by omega) (by rw [← q0, ins_new hA1 k1 hA2 (by omega), List.flatMap_append, List.flatMap_append]) (by omega) m2 (by rw [← q0, ins_new hA1 k1 hA2 (by omega)]; simp only [List.length_append, List.length_drop, hA1, k1, hA2]; omega) hall ?_
    exact back1 (some ⟨g3, 0, none⟩, cp3) rfl (ResV.tmp (v := .slice (some ⟨g3, 0, none⟩) (i + (v0.length + v2.length - i)) (cp3)) rfl) (by rw [hlen, hn3]) Ents.nil (.cons (by rw [hlen, hn3]; exact Del.here) .nil)
  have h := of_decide_eq_false h
  refine tSkip ?_
  refine nT ?_
  have p4 := Nat.mul_le_mul_right (Enc.sz Row) (show v0.length + v2.length ≤ cp by omega)
  refine Tr.seq ?_
  refine Tr.region ?_
  refine Rg.q (v := .slice (some ⟨g, 0, none⟩) (v0.length) (cp)) (Pu.qo (p_move rfl)) (by decide) ?_
  refine Rg.q (v := .int .i64 (v0.length : Int)) (Pu.qo (p_move rfl)) (by decide) ?_
  refine Rg.q (v := .int .i64 (v2.length : Int)) (Pu.qo (p_move rfl)) (by decide) ?_
  refine Rg.q (v := .int .i64 ((v0.length : Int) + (v2.length : Int))) (Pu.qo (p_add rfl rfl (by unfold I64; omega))) (by decide) ?_
  refine Rg.q (v := .slice (some ⟨g, 0, none⟩) (v0.length + v2.length) (cp)) (Pu.qo (p_slHi (v0.length + v2.length) Try.underlying36 (show TyI _ _ _ (Enc.sz Row) _ _ from ty46) rfl rfl (by omega) (by omega))) (by decide) ?_
  refine Rg.q (v := .slice (some ⟨g, 0, none⟩) (v0.length + v2.length) (cp)) (Pu.qo (p_assign rfl)) (by decide) ?_
  refine Rg.nl ?_
  refine nT ?_
  refine Tr.seq ?_
  refine Tr.seq ?_
  refine Tr.region ?_
  refine Rg.q (v := .slice (some ⟨g2, 0, none⟩) (v2.length) (cq)) (Pu.qo (p_move rfl)) (by decide) ?_
  refine Rg.q (v := .slice (some ⟨g, 0, none⟩) (v0.length + v2.length) (cp)) (Pu.qo (p_move rfl)) (by decide) ?_
  refine Rg.q (v := .int .i64 (i : Int)) (Pu.qo (p_move rfl)) (by decide) ?_
  refine Rg.q (v := .int .i64 (v2.length : Int)) (Pu.qo (p_move rfl)) (by decide) ?_
  refine Rg.q (v := .int .i64 ((i : Int) + (v2.length : Int))) (Pu.qo (p_add rfl rfl (by unfold I64; omega))) (by decide) ?_
  refine Rg.q (v := .slice (some ⟨g, (i + v2.length) * Enc.sz Row, none⟩) (v0.length + v2.length - (i + v2.length)) (cp - (i + v2.length))) (Pu.qo (p_slLo (i + v2.length) Try.underlying36 (show TyI _ _ _ (Enc.sz Row) _ _ from ty46) rfl rfl rfl (by omega) (by omega) (by omega))) (by decide) ?_
  refine Rg.q (v := .bool (false)) (q_ov (tR := 4) Try.func63 (by kernel_rfl) (by kernel_rfl) (by kernel_rfl) (by kernel_rfl) Try.underlying36 (show TyI _ _ _ (Enc.sz Row) _ _ from ty46) rfl rfl (.cons Del.here (.cons Del.here .nil)) (cells_ne (by rw [l1]; have := Nat.mul_le_mul_right (Enc.sz Row) (show 1 ≤ v0.length by omega); have := Enc.pos (α := Row); omega))) (by decide) ?_
  refine Rg.q (v := .bool (!false)) (Pu.qo (p_not rfl)) (by decide) ?_
  refine Rg.nl ?_
  refine nT ?_
  refine Tr.condT rfl ?_
  refine Tr.seq ?_
  refine tNw 2 [0, 1, 2, 3, 4, 5, 6, 7, 8] [8] [] Try.mixed (by kernel_rfl) (by decide) List.nodup_nil okNil ?_
  refine w_pu (v := .slice (some ⟨g, 0, none⟩) (v0.length + v2.length) (cp)) rfl (by decide) rfl rfl rfl (p_move rfl) ?_
  refine w_pu (v := .int .i64 (i : Int)) rfl (by decide) rfl rfl rfl (p_move rfl) ?_
  refine w_pu (v := .int .i64 (v2.length : Int)) rfl (by decide) rfl rfl rfl (p_move rfl) ?_
  refine w_pu (v := .int .i64 ((i : Int) + (v2.length : Int))) rfl (by decide) rfl rfl rfl (p_add rfl rfl (by unfold I64; omega)) ?_
  refine w_pu (v := .slice (some ⟨g, (i + v2.length) * Enc.sz Row, none⟩) (v0.length + v2.length - (i + v2.length)) (cp - (i + v2.length))) rfl (by decide) rfl rfl rfl (p_slLo (i + v2.length) Try.underlying36 (show TyI _ _ _ (Enc.sz Row) _ _ from ty46) rfl rfl rfl (by omega) (by omega) (by omega)) ?_
  refine w_pu (v := .slice (some ⟨g, 0, none⟩) (v0.length + v2.length) (cp)) rfl (by decide) rfl rfl rfl (p_move rfl) ?_
  refine w_pu (v := .int .i64 (i : Int)) rfl (by decide) rfl rfl rfl (p_move rfl) ?_
  refine w_pu (v := .slice (some ⟨g, i * Enc.sz Row, none⟩) (v0.length + v2.length - i) (cp - i)) rfl (by decide) rfl rfl rfl (p_slLo i Try.underlying36 (show TyI _ _ _ (Enc.sz Row) _ _ from ty46) rfl rfl rfl (by omega) (by omega) (by omega)) ?_
  refine w_ed rfl (by decide) rfl Rdy.nil rfl (n_cpB (m := v0.length - i) (ks := (v0.drop i).flatMap Flat.enc) Try.underlying36 (show TyI _ _ _ (Enc.sz Row) _ _ from ty46) rfl rfl (by show min _ _ = _; omega) (by rw [hAA, List.append_assoc, ← hA1, List.drop_left, ← hA2]; exact List.take_left.symm) hA2 (Upd.there Upd.here) (Has.there Has.here) (by rw [List.length_append, l1, ← q0]; omega) o1) ?_
  rintro _ _ _ ⟨rfl, rfl, rfl⟩
  refine ⟨PdOk.nil, ?_⟩
  refine w_nil ?_
  refine nT ?_
  refine Tr.seq ?_
  refine Tr.region ?_
  refine Rg.q (v := .slice (some ⟨g, 0, none⟩) (v0.length + v2.length) (cp)) (Pu.qo (p_move rfl)) (by decide) ?_
  refine Rg.q (v := .int .i64 (i : Int)) (Pu.qo (p_move rfl)) (by decide) ?_
  refine Rg.q (v := .slice (some ⟨g, i * Enc.sz Row, none⟩) (v0.length + v2.length - i) (cp - i)) (Pu.qo (p_slLo i Try.underlying36 (show TyI _ _ _ (Enc.sz Row) _ _ from ty46) rfl rfl rfl (by omega) (by omega) (by omega))) (by decide) ?_
  refine Rg.q (v := .slice (some ⟨g2, 0, none⟩) (v2.length) (cq)) (Pu.qo (p_move rfl)) (by decide) ?_
  refine Rg.ed (e_cpB (m := v2.length) (ks := v2.flatMap Flat.enc) Try.underlying36 (show TyI _ _ _ (Enc.sz Row) _ _ from ty46) rfl rfl (by show min _ _ = _; omega) (by rw [List.drop_zero, ← k1]; exact List.take_left.symm) k1 (Upd.there Upd.here) Has.here (by rw [← q0, hAA]; exact hlenHere hA1 hA2 k1 (by omega)) o2) rfl (by decide) ?_
  rintro _ _ _ ⟨rfl, rfl, rfl⟩
  refine Rg.nl ?_
  refine nT ?_
  refine Tr.seq ?_
  refine Tr.region ?_
  refine Rg.q (v := .slice (some ⟨g, 0, none⟩) (v0.length + v2.length) (cp)) (Pu.qo (p_move rfl)) (by decide) ?_
  refine Rg.q (v := .slice (some ⟨g, 0, none⟩) (v0.length + v2.length) (cp)) (Pu.qo (p_assign rfl)) (by decide) ?_
  refine Rg.nl ?_
  refine nT ?_
  refine tRet ?_
  have hX := ins_here (js := js) hA1 k1 hA2 (by omega)
  refine At.mkF (n := v0.length + v2.length) (v0.take i ++ v2 ++ v0.drop i) (((v0.take i).flatMap Flat.enc ++ (v0.drop i).flatMap Flat.enc ++ js).drop (i * Enc.sz Row + v2.length * Enc.sz Row + (v0.length - i) * Enc.sz Row)) (.cons (Del.there Del.here) .nil) (by omega) (by rw [← q0, hAA, hX, List.flatMap_append, List.flatMap_append]) (by omega) b2 (by rw [← q0, hAA, hX]; simp only [List.length_append, List.length_drop, hA1, k1, hA2]; omega) hall ?_
  exact back1 (some ⟨g, 0, none⟩, cp) rfl (ResV.tmp (v := .slice (some ⟨g, 0, none⟩) (v0.length + v2.length) (cp)) rfl) (by rw [hlen]) Ents.nil (.cons (by rw [hlen]; exact Del.here) .nil)
noncomputable def p_impl_put_b0 (v0 : (List Row)) (v1 : Row) (σ11 : Int) : Option ((Int) ⊕ (Int)) := bd (cond (decide (σ11 < ((([] : List Row) ++ v0).length : Int))) (gd (ix σ11 (([] : List Row) ++ v0).length) <| some (decide (((nth (([] : List Row) ++ v0) σ11.toNat).1) < v1.1))) (some (false))) fun b19 => cond (b19) (gd (I64 (σ11 + 1)) <| some (.inl (σ11 + 1))) (some (.inr σ11))
noncomputable def p_impl_put (v0 : (List Row)) (v1 : Row) : Option ((List Row)) := gd (room (([] : List Row).length + v0.length)) <| bd (lp (p_impl_put_b0 v0 v1) 0) fun x7 => bd (cond (decide (x7 < ((([] : List Row) ++ v0).length : Int))) (gd (ix x7 (([] : List Row) ++ v0).length) <| some (decide (((nth (([] : List Row) ++ v0) x7.toNat).1) = v1.1))) (some (false))) fun b25 => cond (b25) (gd (ix x7 (([] : List Row) ++ v0).length) <| some ((([] : List Row) ++ v0).set x7.toNat v1)) (bd (p_slices_Insert_Row_Row (([] : List Row) ++ v0) x7 ([v1] : List Row)) fun r35 => gd (room (([] : List Row).length + r35.length)) <| some (([] : List Row) ++ r35))
theorem c_impl_put {r : (List Row)} (v0 : (List Row)) (x_v0 : Option Addr × Nat) (v1 : Row) (H : p_impl_put v0 v1 = some r) : Fn' Try.prog 35 #[.slice x_v0.1 v0.length x_v0.2, .agg #[.int .i64 (v1.1), .int .i64 (v1.2)]] [imm (.slice x_v0.1 v0.length x_v0.2) v0] [] (ι := Option Addr × Nat) (fun x => .slice x.1 r.length x.2) (fun _ => []) (fun x => [tree (.slice x.1 r.length x.2) r]) := by
  refine calls_of (args := [_, _]) Try.func35 rfl (by kernel_rfl) Try.ntmps35 (by simp) fun c => ?_
  unfold p_impl_put at H
  refine Tr.seq ?_
  refine Tr.region ?_
  refine Rg.ed (e_box (t := 46) (v := .agg #[.int .i64 (v1.1), .int .i64 (v1.2)]) rfl) rfl (by decide) ?_
  rintro _ _ _ ⟨g1, rfl, rfl, rfl⟩
  refine Rg.q (v := .slice none 0 0) (Pu.qo (p_assign rfl)) (by decide) ?_
  refine Rg.nl ?_
  refine nT (?_)
  refine Tr.seq ?_
  refine Tr.region ?_
  refine Rg.ed (e_lit0 Row Try.underlying36 ty46) rfl (by decide) ?_
  rintro _ _ _ ⟨a2, c3, rfl, rfl, rfl⟩
  refine Rg.q (v := .slice x_v0.1 v0.length x_v0.2) (Pu.qo (p_move rfl)) (by decide) ?_
  obtain ⟨h6, H⟩ := gd.of H
  refine Rg.ed (e_appF (l := ([] : List Row)) (k := v0) (α := Row) Try.underlying36 ty46 rfl rfl (h6.b (by decide)) h6.x (.cons Del.here .nil) (Ent.b Ent.z)) rfl (by decide) ?_
  rintro _ _ _ ⟨a4, c5, rfl, rfl, rfl⟩
  refine Rg.q (v := .slice a4 ((([] : List Row) ++ v0).length) c5) (Pu.qo (p_assign rfl)) (by decide) ?_
  refine Rg.nl ?_
  refine nT (?_)
  refine Tr.seq ?_
  refine Tr.region ?_
  refine Rg.q (v := .int .i64 (0)) (Pu.qo (p_assign rfl)) (by decide) ?_
  refine Rg.nl ?_
  refine nT (?_)
  obtain ⟨x7, hx8, H⟩ := bd.of H
  obtain ⟨n9, hx8⟩ := lp.of hx8
  refine tMidC (ι := Unit) (fun ψ => [(3, .pointer (some ⟨g1, 0, none⟩)), (5, .slice a4 ((([] : List Row) ++ v0).length) c5), (6, .int .i64 (x7))]) (fun ψ => [box g1 46 [.int .i64 (v1.1), .int .i64 (v1.2)], tree (.slice a4 ((([] : List Row) ++ v0).length) c5) (([] : List Row) ++ v0)]) ?_ ?_
  · refine Tr.block ?_
    refine tLoopC (ι := { q : Nat × (Int) × Unit // itr (p_impl_put_b0 v0 v1) q.1 q.2.1 = some x7 }) (fun ζ => [(3, .pointer (some ⟨g1, 0, none⟩)), (5, .slice a4 ((([] : List Row) ++ v0).length) c5), (6, .int .i64 (ζ.1.2.1))]) (fun ζ => [box g1 46 [.int .i64 (v1.1), .int .i64 (v1.2)], tree (.slice a4 ((([] : List Row) ++ v0).length) c5) (([] : List Row) ++ v0)]) (fun ζ => ζ.1.1) ⟨(n9, 0, ()), hx8⟩ ⟨rfl, rfl, rfl, trivial⟩ (.cons Del.here.there (.cons Del.here .nil)) ?_
    rintro ⟨⟨m10, σ11, z12⟩, hk17⟩
    obtain ⟨m18, t14, e, H1, hi15, hb16⟩ := itr.of (n := m10) (s := σ11) hk17
    subst e; unfold p_impl_put_b0 at H1
    show Tr _ _ _ _ _ [(3, .pointer (some ⟨g1, 0, none⟩)), (5, .slice a4 ((([] : List Row) ++ v0).length) c5), (6, .int .i64 (σ11))] _ [box g1 46 [.int .i64 (v1.1), .int .i64 (v1.2)], tree (.slice a4 ((([] : List Row) ++ v0).length) c5) (([] : List Row) ++ v0)]
    refine Tr.seq ?_
    obtain ⟨b19, j20, H1⟩ := bd.of H1
    refine tMid1 [(23, .bool (b19)), (3, .pointer (some ⟨g1, 0, none⟩)), (5, .slice a4 ((([] : List Row) ++ v0).length) c5), (6, .int .i64 (σ11))] ?_ ?_
    · refine tLinS [(3, .pointer (some ⟨g1, 0, none⟩)), (5, .slice a4 ((([] : List Row) ++ v0).length) c5), (6, .int .i64 (σ11))] Try.mixed (.inr (by kernel_rfl)) ⟨rfl, rfl, rfl, trivial⟩ rfl ?_
      refine Lin.q (v := .int .i64 (σ11)) (by decide) (Pu.qo (p_move rfl)) ?_
      refine Lin.q (v := .slice a4 ((([] : List Row) ++ v0).length) c5) (by decide) (Pu.qo (p_move rfl)) ?_
      refine Lin.q (v := .int .i64 (((([] : List Row) ++ v0).length : Int))) (by decide) (Pu.qo (p_len 46 Try.underlying36 rfl)) ?_
      refine Lin.q (v := .bool (decide (σ11 < ((([] : List Row) ++ v0).length : Int)))) (by decide) (Pu.qo (p_lss rfl rfl)) ?_
      rcases Bool.eq_false_or_eq_true (decide (σ11 < ((([] : List Row) ++ v0).length : Int))) with h21 | h21
      · have j20 := cdT h21 j20
        refine Lin.q (v := .bool (true)) (by decide) (Qo.eqv (v := .bool (decide (σ11 < ((([] : List Row) ++ v0).length : Int)))) (Pu.qo (p_move rfl)) (congrArg Value.bool h21)) ?_
        refine Lin.g (v := .slice a4 ((([] : List Row) ++ v0).length) c5) (by decide) rfl (Pu.qo (p_move rfl)) ?_
        refine Lin.g (v := .int .i64 (σ11)) (by decide) rfl (Pu.qo (p_move rfl)) ?_
        obtain ⟨h22, j20⟩ := gd.of j20
        refine Lin.g (v := elp a4 (σ11.toNat * Enc.sz Row + 0)) (by decide) rfl (q_ixO' Try.underlying36 ty46 rfl rfl h22 Has.here.there) ?_
        refine Lin.g (v := elp a4 (σ11.toNat * Enc.sz Row + 0)) (by decide) rfl (q_faeE (l := (([] : List Row) ++ v0)) (E := fun i => Flat.enc (nth (([] : List Row) ++ v0) i)) (oa := a4) (j := 0) σ11.toNat fa46_0 rfl (EntB.flat (EntB.tree Has.here.there)) h22.lt rfl) ?_
        refine Lin.g (v := .int .i64 ((nth (([] : List Row) ++ v0) σ11.toNat).1)) (by decide) rfl (q_lde (l := (([] : List Row) ++ v0)) (E := fun i => Flat.enc (nth (([] : List Row) ++ v0) i)) (oa := a4) (i := σ11.toNat) (j := 0) ty3 rfl (EntB.flat (EntB.tree Has.here.there)) h22.lt rfl) ?_
        refine Lin.g (v := .pointer (some ⟨g1, 0, none⟩)) (by decide) rfl (Pu.qo (p_fabE fa46_0 rfl rfl)) ?_
        refine Lin.g (v := .int .i64 (v1.1)) (by decide) rfl (q_ldb ty3 rfl Has.here rfl) ?_
        refine Lin.g (v := .bool (decide (((nth (([] : List Row) ++ v0) σ11.toNat).1) < v1.1))) (by decide) rfl (Pu.qo (p_lss rfl rfl)) ?_
        refine Lin.q (v := .bool (decide (((nth (([] : List Row) ++ v0) σ11.toNat).1) < v1.1))) (by decide) (Pu.qo (p_pickT rfl rfl)) ?_
        have j20 := Option.some.inj j20; subst j20
        show At _ _ _ _ _ _
        exact n1 ⟨rfl, rfl, rfl, rfl, trivial⟩
      · have j20 := cdF h21 j20
        refine Lin.q (v := .bool (false)) (by decide) (Qo.eqv (v := .bool (decide (σ11 < ((([] : List Row) ++ v0).length : Int)))) (Pu.qo (p_move rfl)) (congrArg Value.bool h21)) ?_
        refine Lin.skip (by decide) rfl ?_
        refine Lin.skip (by decide) rfl ?_
        refine Lin.skip (by decide) rfl ?_
        refine Lin.skip (by decide) rfl ?_
        refine Lin.skip (by decide) rfl ?_
        refine Lin.skip (by decide) rfl ?_
        refine Lin.skip (by decide) rfl ?_
        refine Lin.skip (by decide) rfl ?_
        refine Lin.q (v := .bool (false)) (by decide) (Pu.qo (p_pickF rfl rfl)) ?_
        have j20 := Option.some.inj j20; subst j20
        show At _ _ _ _ _ _
        exact n1 ⟨rfl, rfl, rfl, rfl, trivial⟩
    refine Tr.cond (b := b19) rfl (fun h23 => ?_) (fun h23 => ?_)
    · have H1 := cdT h23 H1
      refine tSkip ?_
      refine nT (?_)
      refine Tr.block ?_
      refine Tr.region ?_
      refine Rg.q (v := .int .i64 (σ11)) (Pu.qo (p_move rfl)) (by decide) ?_
      obtain ⟨h24, H1⟩ := gd.of H1
      refine Rg.q (v := .int .i64 (σ11 + 1)) (Pu.qo (p_add rfl rfl h24)) (by decide) ?_
      refine Rg.q (v := .int .i64 (σ11 + 1)) (Pu.qo (p_assign rfl)) (by decide) ?_
      refine Rg.nl ?_
      exact nB (nLC ⟨(m18, σ11 + 1, ()), hi15 _ (Option.some.inj H1).symm⟩ (Nat.lt_succ_self _) ⟨rfl, rfl, rfl, trivial⟩ Ents.refl (.cons Del.here (.cons Del.here .nil)))
    · have H1 := cdF h23 H1
      refine tExit (xT (xT (xE (?_))))
      have hx := hb16 _ (Option.some.inj H1).symm; subst hx
      exact nMC () ⟨rfl, rfl, rfl, trivial⟩ Ents.refl (.cons Del.here (.cons Del.here .nil))
  · intro y13
    show Tr _ _ _ _ _ [(3, .pointer (some ⟨g1, 0, none⟩)), (5, .slice a4 ((([] : List Row) ++ v0).length) c5), (6, .int .i64 (x7))] _ [box g1 46 [.int .i64 (v1.1), .int .i64 (v1.2)], tree (.slice a4 ((([] : List Row) ++ v0).length) c5) (([] : List Row) ++ v0)]
    refine Tr.seq ?_
    obtain ⟨b25, j26, H⟩ := bd.of H
    refine tMid1 [(39, .bool (b25)), (3, .pointer (some ⟨g1, 0, none⟩)), (5, .slice a4 ((([] : List Row) ++ v0).length) c5), (6, .int .i64 (x7))] ?_ ?_
    · refine tLinS [(3, .pointer (some ⟨g1, 0, none⟩)), (5, .slice a4 ((([] : List Row) ++ v0).length) c5), (6, .int .i64 (x7))] Try.mixed (.inr (by kernel_rfl)) ⟨rfl, rfl, rfl, trivial⟩ rfl ?_
      refine Lin.q (v := .int .i64 (x7)) (by decide) (Pu.qo (p_move rfl)) ?_
      refine Lin.q (v := .slice a4 ((([] : List Row) ++ v0).length) c5) (by decide) (Pu.qo (p_move rfl)) ?_
      refine Lin.q (v := .int .i64 (((([] : List Row) ++ v0).length : Int))) (by decide) (Pu.qo (p_len 46 Try.underlying36 rfl)) ?_
      refine Lin.q (v := .bool (decide (x7 < ((([] : List Row) ++ v0).length : Int)))) (by decide) (Pu.qo (p_lss rfl rfl)) ?_
      rcases Bool.eq_false_or_eq_true (decide (x7 < ((([] : List Row) ++ v0).length : Int))) with h27 | h27
      · have j26 := cdT h27 j26
        refine Lin.q (v := .bool (true)) (by decide) (Qo.eqv (v := .bool (decide (x7 < ((([] : List Row) ++ v0).length : Int)))) (Pu.qo (p_move rfl)) (congrArg Value.bool h27)) ?_
        refine Lin.g (v := .slice a4 ((([] : List Row) ++ v0).length) c5) (by decide) rfl (Pu.qo (p_move rfl)) ?_
        refine Lin.g (v := .int .i64 (x7)) (by decide) rfl (Pu.qo (p_move rfl)) ?_
        obtain ⟨h28, j26⟩ := gd.of j26
        refine Lin.g (v := elp a4 (x7.toNat * Enc.sz Row + 0)) (by decide) rfl (q_ixO' Try.underlying36 ty46 rfl rfl h28 Has.here.there) ?_
        refine Lin.g (v := elp a4 (x7.toNat * Enc.sz Row + 0)) (by decide) rfl (q_faeE (l := (([] : List Row) ++ v0)) (E := fun i => Flat.enc (nth (([] : List Row) ++ v0) i)) (oa := a4) (j := 0) x7.toNat fa46_0 rfl (EntB.flat (EntB.tree Has.here.there)) h28.lt rfl) ?_
        refine Lin.g (v := .int .i64 ((nth (([] : List Row) ++ v0) x7.toNat).1)) (by decide) rfl (q_lde (l := (([] : List Row) ++ v0)) (E := fun i => Flat.enc (nth (([] : List Row) ++ v0) i)) (oa := a4) (i := x7.toNat) (j := 0) ty3 rfl (EntB.flat (EntB.tree Has.here.there)) h28.lt rfl) ?_
        refine Lin.g (v := .pointer (some ⟨g1, 0, none⟩)) (by decide) rfl (Pu.qo (p_fabE fa46_0 rfl rfl)) ?_
        refine Lin.g (v := .int .i64 (v1.1)) (by decide) rfl (q_ldb ty3 rfl Has.here rfl) ?_
        refine Lin.g (v := .bool (decide (((nth (([] : List Row) ++ v0) x7.toNat).1) = v1.1))) (by decide) rfl (Pu.qo (p_eql rfl rfl)) ?_
        refine Lin.q (v := .bool (decide (((nth (([] : List Row) ++ v0) x7.toNat).1) = v1.1))) (by decide) (Pu.qo (p_pickT rfl rfl)) ?_
        have j26 := Option.some.inj j26; subst j26
        show At _ _ _ _ _ _
        exact n1 ⟨rfl, rfl, rfl, rfl, trivial⟩
      · have j26 := cdF h27 j26
        refine Lin.q (v := .bool (false)) (by decide) (Qo.eqv (v := .bool (decide (x7 < ((([] : List Row) ++ v0).length : Int)))) (Pu.qo (p_move rfl)) (congrArg Value.bool h27)) ?_
        refine Lin.skip (by decide) rfl ?_
        refine Lin.skip (by decide) rfl ?_
        refine Lin.skip (by decide) rfl ?_
        refine Lin.skip (by decide) rfl ?_
        refine Lin.skip (by decide) rfl ?_
        refine Lin.skip (by decide) rfl ?_
        refine Lin.skip (by decide) rfl ?_
        refine Lin.skip (by decide) rfl ?_
        refine Lin.q (v := .bool (false)) (by decide) (Pu.qo (p_pickF rfl rfl)) ?_
        have j26 := Option.some.inj j26; subst j26
        show At _ _ _ _ _ _
        exact n1 ⟨rfl, rfl, rfl, rfl, trivial⟩
    refine Tr.cond (b := b25) rfl (fun h29 => ?_) (fun h29 => ?_)
    · have H := cdT h29 H
      refine Tr.seq ?_
      refine Tr.region ?_
      refine Rg.q (v := .slice a4 ((([] : List Row) ++ v0).length) c5) (Pu.qo (p_move rfl)) (by decide) ?_
      refine Rg.q (v := .int .i64 (x7)) (Pu.qo (p_move rfl)) (by decide) ?_
      refine Rg.q (v := .agg #[.int .i64 (v1.1), .int .i64 (v1.2)]) (q_ldbA ty46 rfl Has.here rfl) (by decide) ?_
      obtain ⟨h30, H⟩ := gd.of H
      refine Rg.q (v := elp a4 (x7.toNat * Enc.sz Row + 0)) (q_ixO' Try.underlying36 ty46 rfl rfl h30 Has.here.there) (by decide) ?_
      refine Rg.en (e_setT (l := (([] : List Row) ++ v0)) (α := Row) (oa := a4) x7.toNat v1 ((), ()) ty46 rfl rfl rfl h30.lt (ShpT.wfa _) (.cons Del.here.there .nil)) rfl ?_
      rintro _ _ _ ⟨rfl, rfl, rfl⟩
      refine Rg.nl ?_
      refine nT (?_)
      refine Tr.seq ?_
      refine Tr.olen Has.here fun hn => ?_; rw [hn]
      refine Tr.region ?_
      refine Rg.q (v := .slice a4 (((([] : List Row) ++ v0).set x7.toNat v1).length) c5) (Pu.qo (p_move rfl)) (by decide) ?_
      refine Rg.q (v := .slice a4 (((([] : List Row) ++ v0).set x7.toNat v1).length) c5) (Pu.qo (p_assign rfl)) (by decide) ?_
      refine Rg.nl ?_
      refine nT (?_)
      refine tRet ?_
      refine rT (?_)
      have hr := Option.some.inj H; subst hr
      exact back1 (a4, c5) rfl (ResV.tmp (v := .slice a4 (((([] : List Row) ++ v0).set x7.toNat v1).length) c5) rfl) rfl Ents.nil (.cons Del.here .nil)
    · have H := cdF h29 H
      refine tSkip ?_
      refine nT (?_)
      refine Tr.seq ?_
      refine Tr.region ?_
      refine Rg.ed (e_lit0 Row Try.underlying36 ty46) rfl (by decide) ?_
      rintro _ _ _ ⟨a31, c32, rfl, rfl, rfl⟩
      refine Rg.q (v := .slice a4 ((([] : List Row) ++ v0).length) c5) (Pu.qo (p_move rfl)) (by decide) ?_
      refine Rg.q (v := .int .i64 (x7)) (Pu.qo (p_move rfl)) (by decide) ?_
      refine Rg.q (v := .agg #[.int .i64 (v1.1), .int .i64 (v1.2)]) (q_ldbA ty46 rfl Has.here.there rfl) (by decide) ?_
      refine Rg.ed (e_litT (α := Row) (vs := [(0, .agg #[.int .i64 (v1.1), .int .i64 (v1.2)])]) [v1] rfl (fun _ => rfl) (fun _ _ => by repeat constructor) Try.underlying36 ty46 rfl (by decide) (by decide) (by kernel_rfl)) rfl (by decide) ?_
      rintro _ _ _ ⟨a33, c34, rfl, rfl, rfl⟩
      obtain ⟨r35, h36, H⟩ := bd.of H
      refine Rg.ed (e_callM (vs := [.slice a4 ((([] : List Row) ++ v0).length) c5, .int .i64 (x7), .slice a33 (([v1] : List Row).length) c34]) (c_slices_Insert_Row_Row (([] : List Row) ++ v0) (a4, c5) x7 ([v1] : List Row) (a33, c34) h36) (Solo.tree (Solo.tree Solo.nil)) (fun _ => (Solo.tree Solo.nil)) rfl (.cons Del.here.there.there.there (.cons Del.here .nil)) EntsB.nil) rfl (by decide) ?_
      rintro _ _ _ ⟨x37, rfl, rfl, rfl⟩
      obtain ⟨h40, H⟩ := gd.of H
      refine Rg.ed (e_appF (l := ([] : List Row)) (k := r35) (α := Row) Try.underlying36 ty46 rfl rfl (h40.b (by decide)) h40.x (.cons Del.here.there .nil) (EntB.tree Has.here)) rfl (by decide) ?_
      rintro _ _ _ ⟨a38, c39, rfl, rfl, rfl⟩
      refine Rg.q (v := .slice a38 ((([] : List Row) ++ r35).length) c39) (Pu.qo (p_assign rfl)) (by decide) ?_
      refine Rg.nl ?_
      refine nT (?_)
      refine tRet ?_
      have hr := Option.some.inj H; subst hr
      exact back1 (a38, c39) rfl (ResV.tmp (v := .slice a38 ((([] : List Row) ++ r35).length) c39) rfl) rfl Ents.nil (.cons Del.here .nil)
noncomputable def p_impl_BlockMerge_b0 (v1 : (List Row)) (σ20 : (List Row) × Int) : Option (((List Row) × Int) ⊕ ((List Row))) := cond (decide (σ20.2 < (v1.length : Int))) (gd (ix σ20.2 v1.length) <| bd (p_impl_put σ20.1 (nth v1 σ20.2.toNat)) fun r31 => gd (I64 (σ20.2 + 1)) <| some (.inl (r31, σ20.2 + 1))) (some (.inr σ20.1))
noncomputable def p_impl_BlockMerge (v0 : (List Row)) (v1 : (List Row)) : Option ((List Row) × Bool) := bd (bd (p_impl_BlockOk v0) fun r3 => cond (!r3) (some (true)) (bd (p_impl_BlockOk v1) fun r6 => some (!r6))) fun b1 => cond (b1) (some (([] : List Row), false)) (gd (room (([] : List Row).length + v0.length)) <| bd (lp (p_impl_BlockMerge_b0 v1) ((([] : List Row) ++ v0), 0)) fun x16 => cond (decide (24 < (x16.length : Int))) (some (([] : List Row), false)) (some (x16, true)))
theorem c_impl_BlockMerge {r : (List Row) × Bool} (v0 : (List Row)) (x_v0 : Option Addr × Nat) (v1 : (List Row)) (x_v1 : Option Addr × Nat) (H : p_impl_BlockMerge v0 v1 = some r) : Fn' Try.prog 17 #[.slice x_v0.1 v0.length x_v0.2, .slice x_v1.1 v1.length x_v1.2] [imm (.slice x_v0.1 v0.length x_v0.2) v0, imm (.slice x_v1.1 v1.length x_v1.2) v1] [] (ι := (Option Addr × Nat) × Unit) (fun x => .tuple #[.slice x.1.1 r.1.length x.1.2, .bool (r.2)]) (fun _ => []) (fun x => [tree (.slice x.1.1 r.1.length x.1.2) r.1]) := by
  refine calls_of (args := [_, _]) Try.func17 rfl (by kernel_rfl) Try.ntmps17 (by simp) fun c => ?_
  unfold p_impl_BlockMerge at H
  refine Tr.seq ?_
  refine Tr.region ?_
  refine Rg.q (v := .slice none 0 0) (Pu.qo (p_assign rfl)) (by decide) ?_
  refine Rg.q (v := .bool (false)) (Pu.qo (p_assign rfl)) (by decide) ?_
  refine Rg.nl ?_
  refine nT (?_)
  refine Tr.seq ?_
  obtain ⟨b1, j2, H⟩ := bd.of H
  refine tMid1 [(16, .bool (b1)), (0, .slice x_v0.1 v0.length x_v0.2), (1, .slice x_v1.1 v1.length x_v1.2)] ?_ ?_
  · refine tLinT [(0, .slice x_v0.1 v0.length x_v0.2), (1, .slice x_v1.1 v1.length x_v1.2)] ⟨rfl, rfl, trivial⟩ ?_
    refine Lin.q (v := .slice x_v0.1 v0.length x_v0.2) (by decide) (Pu.qo (p_move rfl)) ?_
    obtain ⟨r3, h4, j2⟩ := bd.of j2
    refine Lin.q (v := .bool (r3)) (by decide) (q_call (vs := [.slice x_v0.1 v0.length x_v0.2]) (c_impl_BlockOk v0 x_v0 h4) rfl (EntsB.cons (Ent.b Ent.z) EntsB.nil)) ?_
    refine Lin.q (v := .bool (!r3)) (by decide) (Pu.qo (p_not rfl)) ?_
    rcases Bool.eq_false_or_eq_true (!r3) with h5 | h5
    · have j2 := cdT h5 j2
      refine Lin.q (v := .bool (true)) (by decide) (Qo.eqv (v := .bool (!r3)) (Pu.qo (p_move rfl)) (congrArg Value.bool h5)) ?_
      refine Lin.skip (by decide) rfl ?_
      refine Lin.skip (by decide) rfl ?_
      refine Lin.skip (by decide) rfl ?_
      refine Lin.q (v := .bool (true)) (by decide) (Pu.qo (p_pickT rfl rfl)) ?_
      have j2 := Option.some.inj j2; subst j2
      show At _ _ _ _ _ _
      exact n1 ⟨rfl, rfl, rfl, trivial⟩
    · have j2 := cdF h5 j2
      refine Lin.q (v := .bool (false)) (by decide) (Qo.eqv (v := .bool (!r3)) (Pu.qo (p_move rfl)) (congrArg Value.bool h5)) ?_
      refine Lin.g (v := .slice x_v1.1 v1.length x_v1.2) (by decide) rfl (Pu.qo (p_move rfl)) ?_
      obtain ⟨r6, h7, j2⟩ := bd.of j2
      refine Lin.g (v := .bool (r6)) (by decide) rfl (q_call (vs := [.slice x_v1.1 v1.length x_v1.2]) (c_impl_BlockOk v1 x_v1 h7) rfl (EntsB.cons (Ent.b Ent.z.s) EntsB.nil)) ?_
      refine Lin.g (v := .bool (!r6)) (by decide) rfl (Pu.qo (p_not rfl)) ?_
      refine Lin.q (v := .bool (!r6)) (by decide) (Pu.qo (p_pickF rfl rfl)) ?_
      have j2 := Option.some.inj j2; subst j2
      show At _ _ _ _ _ _
      exact n1 ⟨rfl, rfl, rfl, trivial⟩
  refine Tr.cond (b := b1) rfl (fun h8 => ?_) (fun h8 => ?_)
  · have H := cdT h8 H
    refine Tr.seq ?_
    refine Tr.region ?_
    refine Rg.ed (e_lit0 Row Try.underlying36 ty46) rfl (by decide) ?_
    rintro _ _ _ ⟨a9, c10, rfl, rfl, rfl⟩
    refine Rg.q (v := .slice a9 (([] : List Row).length) c10) (Pu.qo (p_assign rfl)) (by decide) ?_
    refine Rg.q (v := .bool (false)) (Pu.qo (p_assign rfl)) (by decide) ?_
    refine Rg.nl ?_
    refine nT (?_)
    refine tRet ?_
    refine rT (?_)
    have hr := Option.some.inj H; subst hr
    exact back2 ((a9, c10), ()) rfl (ResV.tmp (v := .slice a9 (([] : List Row).length) c10) rfl) (ResV.tmp (v := .bool (false)) rfl) rfl Ents.nil (.cons Del.here .nil)
  · have H := cdF h8 H
    refine tSkip ?_
    refine nT (?_)
    refine Tr.seq ?_
    refine Tr.region ?_
    refine Rg.ed (e_lit0 Row Try.underlying36 ty46) rfl (by decide) ?_
    rintro _ _ _ ⟨a11, c12, rfl, rfl, rfl⟩
    refine Rg.q (v := .slice x_v0.1 v0.length x_v0.2) (Pu.qo (p_move rfl)) (by decide) ?_
    obtain ⟨h15, H⟩ := gd.of H
    refine Rg.ed (e_appF (l := ([] : List Row)) (k := v0) (α := Row) Try.underlying36 ty46 rfl rfl (h15.b (by decide)) h15.x (.cons Del.here .nil) (Ent.b Ent.z)) rfl (by decide) ?_
    rintro _ _ _ ⟨a13, c14, rfl, rfl, rfl⟩
    refine Rg.q (v := .slice a13 ((([] : List Row) ++ v0).length) c14) (Pu.qo (p_assign rfl)) (by decide) ?_
    refine Rg.nl ?_
    refine nT (?_)
    refine Tr.seq ?_
    refine Tr.seq ?_
    refine Tr.region ?_
    refine Rg.q (v := .slice x_v1.1 v1.length x_v1.2) (Pu.qo (p_move rfl)) (by decide) ?_
    refine Rg.q (v := .int .i64 ((v1.length : Int))) (Pu.qo (p_len 46 Try.underlying36 rfl)) (by decide) ?_
    refine Rg.q (v := .int .i64 (0)) (Pu.qo (p_move rfl)) (by decide) ?_
    refine Rg.nl ?_
    refine nT (?_)
    obtain ⟨x16, hx17, H⟩ := bd.of H
    obtain ⟨n18, hx17⟩ := lp.of hx17
    refine tMidNC (ι := Option Addr × Nat) (fun ψ => [(6, .slice ψ.1 x16.length ψ.2)]) (fun ψ => [tree (.slice ψ.1 x16.length ψ.2) x16]) ?_ ?_
    · refine Tr.block ?_
      refine tLoopC (ι := { q : Nat × ((List Row) × Int) × (Option Addr × Nat) // itr (p_impl_BlockMerge_b0 v1) q.1 q.2.1 = some x16 }) (fun ζ => [(6, .slice ζ.1.2.2.1 ζ.1.2.1.1.length ζ.1.2.2.2), (21, .slice x_v1.1 v1.length x_v1.2), (22, .int .i64 ((v1.length : Int))), (23, .int .i64 (ζ.1.2.1.2))]) (fun ζ => [tree (.slice ζ.1.2.2.1 ζ.1.2.1.1.length ζ.1.2.2.2) ζ.1.2.1.1]) (fun ζ => ζ.1.1) ⟨(n18, ((([] : List Row) ++ v0), 0), (a13, c14)), hx17⟩ ⟨rfl, rfl, rfl, rfl, trivial⟩ (.cons Del.here .nil) ?_
      rintro ⟨⟨m19, σ20, z21⟩, hk26⟩
      obtain ⟨m27, t23, e, H1, hi24, hb25⟩ := itr.of (n := m19) (s := σ20) hk26
      subst e; unfold p_impl_BlockMerge_b0 at H1
      show Tr _ _ _ _ _ [(6, .slice z21.1 σ20.1.length z21.2), (21, .slice x_v1.1 v1.length x_v1.2), (22, .int .i64 ((v1.length : Int))), (23, .int .i64 (σ20.2))] _ [tree (.slice z21.1 σ20.1.length z21.2) σ20.1]
      refine Tr.seq ?_
      refine Tr.region ?_
      refine Rg.q (v := .bool (decide (σ20.2 < (v1.length : Int)))) (Pu.qo (p_lss rfl rfl)) (by decide) ?_
      refine Rg.nl ?_
      refine nT (?_)
      refine Tr.seq ?_
      refine Tr.cond (b := decide (σ20.2 < (v1.length : Int))) rfl (fun h28 => ?_) (fun h28 => ?_)
      · have H1 := cdT h28 H1
        refine tSkip ?_
        refine nT (?_)
        refine Tr.seq ?_
        refine Tr.block ?_
        refine Tr.seq ?_
        refine Tr.region ?_
        obtain ⟨h29, H1⟩ := gd.of H1
        refine Rg.q (v := elp x_v1.1 (σ20.2.toNat * Enc.sz Row + 0)) (q_ixg (l := v1) (E := fun i => Flat.enc (nth v1 i)) (oa := x_v1.1) Try.underlying36 ty46 rfl rfl h29 rfl (EntB.flat (Ent.b Ent.z.s))) (by decide) ?_
        refine Rg.q (v := .agg #[.int .i64 ((nth v1 σ20.2.toNat).1), .int .i64 ((nth v1 σ20.2.toNat).2)]) (q_ldeA (l := v1) (E := fun i => Flat.enc (nth v1 i)) (oa := x_v1.1) (i := σ20.2.toNat) ty46 rfl (EntB.flat (Ent.b Ent.z.s)) h29.lt) (by decide) ?_
        refine Rg.ed (e_alloc ty46) rfl (by decide) ?_
        rintro _ _ _ ⟨g30, rfl, rfl, rfl⟩
        refine Rg.en (e_store (v := .agg #[.int .i64 ((nth v1 σ20.2.toNat).1), .int .i64 ((nth v1 σ20.2.toNat).2)]) (cs' := [.int .i64 ((nth v1 σ20.2.toNat).1), .int .i64 ((nth v1 σ20.2.toNat).2)]) ty46 rfl rfl Upd.here rfl (by simp [Value.cells, Value.oneCell']) (Nat.le_of_ble_eq_true rfl) rfl) rfl ?_
        rintro _ _ _ ⟨rfl, rfl, rfl⟩
        refine Rg.nl ?_
        refine nT (?_)
        refine Tr.region ?_
        refine Rg.q (v := .slice z21.1 σ20.1.length z21.2) (Pu.qo (p_move rfl)) (by decide) ?_
        refine Rg.q (v := .agg #[.int .i64 ((nth v1 σ20.2.toNat).1), .int .i64 ((nth v1 σ20.2.toNat).2)]) (q_ldbA ty46 rfl Has.here rfl) (by decide) ?_
        obtain ⟨r31, h32, H1⟩ := bd.of H1
        refine Rg.ed (e_callB (vs := [.slice z21.1 σ20.1.length z21.2, .agg #[.int .i64 ((nth v1 σ20.2.toNat).1), .int .i64 ((nth v1 σ20.2.toNat).2)]]) (c_impl_put σ20.1 z21 (nth v1 σ20.2.toNat) h32) (fun _ => (Solo.tree Solo.nil)) rfl (EntsB.cons (EntB.tree Has.here.there) EntsB.nil)) rfl (by decide) ?_
        rintro _ _ _ ⟨x33, rfl, rfl, rfl⟩
        refine Rg.q (v := .slice x33.1 r31.length x33.2) (Pu.qo (p_assign rfl)) (by decide) ?_
        refine Rg.nl ?_
        refine nB (nT (?_))
        refine Tr.region ?_
        obtain ⟨h34, H1⟩ := gd.of H1
        refine Rg.q (v := .int .i64 (σ20.2 + 1)) (Pu.qo (p_add rfl rfl h34)) (by decide) ?_
        refine Rg.q (v := .int .i64 (σ20.2 + 1)) (Pu.qo (p_move rfl)) (by decide) ?_
        refine Rg.nl ?_
        exact nLC ⟨(m27, (r31, σ20.2 + 1), (x33.1, x33.2)), hi24 _ (Option.some.inj H1).symm⟩ (Nat.lt_succ_self _) ⟨rfl, rfl, rfl, rfl, trivial⟩ Ents.refl (.cons Del.here .nil)
      · have H1 := cdF h28 H1
        refine tExit (xT (xT (xE (?_))))
        have hx := hb25 _ (Option.some.inj H1).symm; subst hx
        exact nMC (z21.1, z21.2) ⟨rfl, trivial⟩ Ents.refl (.cons Del.here .nil)
    · intro y22
      show At _ _ [(6, .slice y22.1 x16.length y22.2)] _ [tree (.slice y22.1 x16.length y22.2) x16] _
      refine nT (?_)
      refine Tr.seq ?_
      refine Tr.seq ?_
      refine Tr.region ?_
      refine Rg.q (v := .slice y22.1 x16.length y22.2) (Pu.qo (p_move rfl)) (by decide) ?_
      refine Rg.q (v := .int .i64 ((x16.length : Int))) (Pu.qo (p_len 46 Try.underlying36 rfl)) (by decide) ?_
      refine Rg.q (v := .bool (decide (24 < (x16.length : Int)))) (Pu.qo (p_gtr rfl rfl)) (by decide) ?_
      refine Rg.nl ?_
      refine nT (?_)
      refine Tr.cond (b := decide (24 < (x16.length : Int))) rfl (fun h35 => ?_) (fun h35 => ?_)
      · have H := cdT h35 H
        refine Tr.seq ?_
        refine Tr.region ?_
        refine Rg.ed (e_lit0 Row Try.underlying36 ty46) rfl (by decide) ?_
        rintro _ _ _ ⟨a36, c37, rfl, rfl, rfl⟩
        refine Rg.q (v := .slice a36 (([] : List Row).length) c37) (Pu.qo (p_assign rfl)) (by decide) ?_
        refine Rg.q (v := .bool (false)) (Pu.qo (p_assign rfl)) (by decide) ?_
        refine Rg.nl ?_
        refine nT (?_)
        refine tRet ?_
        refine rT (?_)
        have hr := Option.some.inj H; subst hr
        exact back2 ((a36, c37), ()) rfl (ResV.tmp (v := .slice a36 (([] : List Row).length) c37) rfl) (ResV.tmp (v := .bool (false)) rfl) rfl Ents.nil (.cons Del.here .nil)
      · have H := cdF h35 H
        refine tSkip ?_
        refine nT (?_)
        refine Tr.seq ?_
        refine Tr.region ?_
        refine Rg.q (v := .slice y22.1 x16.length y22.2) (Pu.qo (p_move rfl)) (by decide) ?_
        refine Rg.q (v := .slice y22.1 x16.length y22.2) (Pu.qo (p_assign rfl)) (by decide) ?_
        refine Rg.q (v := .bool (true)) (Pu.qo (p_assign rfl)) (by decide) ?_
        refine Rg.nl ?_
        refine nT (?_)
        refine tRet ?_
        have hr := Option.some.inj H; subst hr
        exact back2 (y22, ()) rfl (ResV.tmp (v := .slice y22.1 x16.length y22.2) rfl) (ResV.tmp (v := .bool (true)) rfl) rfl Ents.nil (.cons Del.here .nil)
noncomputable def p_impl_PartMerge_b0 (v0 : Part) (v1 : Part) (σ23 : (List Int) × (List (List Row)) × Int) : Option (((List Int) × (List (List Row)) × Int) ⊕ (((List Int) × (List (List Row))) ⊕ (Part × Bool))) := cond (decide (σ23.2.2 ≤ 6)) (bd (p_impl_PartOf v0 σ23.2.2) fun r32 => bd (p_impl_PartOf v1 σ23.2.2) fun r35 => bd (p_impl_BlockMerge r32 r35) fun r38 => cond (!r38.2) (some (.inr (.inr ((([]), ([])), false)))) (cond (decide (0 < (r38.1.length : Int))) (gd (room (σ23.1.length + 1)) <| gd (room (σ23.2.1.length + 1)) <| gd (I64 (σ23.2.2 + 1)) <| some (.inl ((σ23.1 ++ [σ23.2.2]), (σ23.2.1 ++ [r38.1]), σ23.2.2 + 1))) (gd (I64 (σ23.2.2 + 1)) <| some (.inl (σ23.1, σ23.2.1, σ23.2.2 + 1))))) (some (.inr (.inl (σ23.1, σ23.2.1))))
noncomputable def p_impl_PartMerge (v0 : Part) (v1 : Part) : Option (Part × Bool) := bd (bd (p_impl_PartOk v0) fun r8 => cond (!r8) (some (true)) (bd (p_impl_PartOk v1) fun r11 => some (!r11))) fun b6 => cond (b6) (some ((([]), ([])), false)) (bd (lp (p_impl_PartMerge_b0 v0 v1) (([] : List Int), ([] : List (List Row)), 1)) <| sw (fun e53 => some (e53, true)) (fun q => some q))
theorem c_impl_PartMerge {r : Part × Bool} (v0 : Part) (x_v0 : (Option Addr × Nat) × (Option Addr × Nat)) (v1 : Part) (x_v1 : (Option Addr × Nat) × (Option Addr × Nat)) (H : p_impl_PartMerge v0 v1 = some r) : Fn' Try.prog 14 #[.agg #[.slice x_v0.1.1 v0.1.length x_v0.1.2, .slice x_v0.2.1 v0.2.length x_v0.2.2], .agg #[.slice x_v1.1.1 v1.1.length x_v1.1.2, .slice x_v1.2.1 v1.2.length x_v1.2.2]] [imm (.slice x_v0.1.1 v0.1.length x_v0.1.2) v0.1, imm (.slice x_v0.2.1 v0.2.length x_v0.2.2) v0.2, imm (.slice x_v1.1.1 v1.1.length x_v1.1.2) v1.1, imm (.slice x_v1.2.1 v1.2.length x_v1.2.2) v1.2] [] (ι := ((Option Addr × Nat) × (Option Addr × Nat)) × Unit) (fun x => .tuple #[.agg #[.slice x.1.1.1 r.1.1.length x.1.1.2, .slice x.1.2.1 r.1.2.length x.1.2.2], .bool (r.2)]) (fun _ => []) (fun x => [tree (.slice x.1.1.1 r.1.1.length x.1.1.2) r.1.1, tree (.slice x.1.2.1 r.1.2.length x.1.2.2) r.1.2]) := by
  refine calls_of (args := [_, _]) Try.func14 rfl (by kernel_rfl) Try.ntmps14 (by simp) fun c => ?_
  unfold p_impl_PartMerge at H
  refine Tr.openD Ent.z.s fun X1 => ?_
  refine Tr.openD Ent.z.s.s.s.s fun X2 => ?_
  refine Tr.seq ?_
  refine Tr.region ?_
  refine Rg.ed (e_box (t := 26) (v := .agg #[.slice x_v0.1.1 v0.1.length x_v0.1.2, .slice x_v0.2.1 v0.2.length x_v0.2.2]) rfl) rfl (by decide) ?_
  rintro _ _ _ ⟨g3, rfl, rfl, rfl⟩
  refine Rg.ed (e_box (t := 26) (v := .agg #[.slice x_v1.1.1 v1.1.length x_v1.1.2, .slice x_v1.2.1 v1.2.length x_v1.2.2]) rfl) rfl (by decide) ?_
  rintro _ _ _ ⟨g4, rfl, rfl, rfl⟩
  refine Rg.ed (e_alloc ty26) rfl (by decide) ?_
  rintro _ _ _ ⟨g5, rfl, rfl, rfl⟩
  refine Rg.q (v := .bool (false)) (Pu.qo (p_assign rfl)) (by decide) ?_
  refine Rg.nl ?_
  refine nT (?_)
  refine Tr.seq ?_
  obtain ⟨b6, j7, H⟩ := bd.of H
  refine tMid1 [(17, .bool (b6)), (4, .pointer (some ⟨g5, 0, none⟩)), (3, .pointer (some ⟨g4, 0, none⟩)), (2, .pointer (some ⟨g3, 0, none⟩))] ?_ ?_
  · refine tLinT [(4, .pointer (some ⟨g5, 0, none⟩)), (3, .pointer (some ⟨g4, 0, none⟩)), (2, .pointer (some ⟨g3, 0, none⟩))] ⟨rfl, rfl, rfl, trivial⟩ ?_
    refine Lin.q (v := .agg #[.slice x_v0.1.1 v0.1.length x_v0.1.2, .slice x_v0.2.1 v0.2.length x_v0.2.2]) (by decide) (q_ldbA ty26 rfl Has.here.there.there rfl) ?_
    obtain ⟨r8, h9, j7⟩ := bd.of j7
    refine Lin.q (v := .bool (r8)) (by decide) (q_call (vs := [.agg #[.slice x_v0.1.1 v0.1.length x_v0.1.2, .slice x_v0.2.1 v0.2.length x_v0.2.2]]) (c_impl_PartOk v0 x_v0 h9) rfl (EntsB.cons (Ent.b Ent.z.s.s) (EntsB.cons (Ent.b (Ent.dimm Ent.z.s)) EntsB.nil))) ?_
    refine Lin.q (v := .bool (!r8)) (by decide) (Pu.qo (p_not rfl)) ?_
    rcases Bool.eq_false_or_eq_true (!r8) with h10 | h10
    · have j7 := cdT h10 j7
      refine Lin.q (v := .bool (true)) (by decide) (Qo.eqv (v := .bool (!r8)) (Pu.qo (p_move rfl)) (congrArg Value.bool h10)) ?_
      refine Lin.skip (by decide) rfl ?_
      refine Lin.skip (by decide) rfl ?_
      refine Lin.skip (by decide) rfl ?_
      refine Lin.q (v := .bool (true)) (by decide) (Pu.qo (p_pickT rfl rfl)) ?_
      have j7 := Option.some.inj j7; subst j7
      show At _ _ _ _ _ _
      exact n1 ⟨rfl, rfl, rfl, rfl, trivial⟩
    · have j7 := cdF h10 j7
      refine Lin.q (v := .bool (false)) (by decide) (Qo.eqv (v := .bool (!r8)) (Pu.qo (p_move rfl)) (congrArg Value.bool h10)) ?_
      refine Lin.g (v := .agg #[.slice x_v1.1.1 v1.1.length x_v1.1.2, .slice x_v1.2.1 v1.2.length x_v1.2.2]) (by decide) rfl (q_ldbA ty26 rfl Has.here.there rfl) ?_
      obtain ⟨r11, h12, j7⟩ := bd.of j7
      refine Lin.g (v := .bool (r11)) (by decide) rfl (q_call (vs := [.agg #[.slice x_v1.1.1 v1.1.length x_v1.1.2, .slice x_v1.2.1 v1.2.length x_v1.2.2]]) (c_impl_PartOk v1 x_v1 h12) rfl (EntsB.cons (Ent.b Ent.z.s.s.s.s) (EntsB.cons (Ent.b (Ent.dimm Ent.z)) EntsB.nil))) ?_
      refine Lin.g (v := .bool (!r11)) (by decide) rfl (Pu.qo (p_not rfl)) ?_
      refine Lin.q (v := .bool (!r11)) (by decide) (Pu.qo (p_pickF rfl rfl)) ?_
      have j7 := Option.some.inj j7; subst j7
      show At _ _ _ _ _ _
      exact n1 ⟨rfl, rfl, rfl, rfl, trivial⟩
  refine Tr.cond (b := b6) rfl (fun h13 => ?_) (fun h13 => ?_)
  · have H := cdT h13 H
    refine Tr.seq ?_
    refine Tr.nilT Int ?_
    refine Tr.nilT (List Row) ?_
    refine Tr.region ?_
    refine Rg.q (v := .agg #[.slice none 0 0, .slice none 0 0]) (Pu.qo (p_buildS (vs := []) (cs := #[.slice none 0 0, .slice none 0 0]) ty26 pl26 rfl rfl)) (by decide) ?_
    refine Rg.en (e_store (v := .agg #[.slice none 0 0, .slice none 0 0]) (cs' := [.slice none 0 0, .slice none 0 0]) ty26 rfl rfl Upd.here.there.there rfl (by simp [Value.cells, Value.oneCell']) (Nat.le_of_ble_eq_true rfl) rfl) rfl ?_
    rintro _ _ _ ⟨rfl, rfl, rfl⟩
    refine Rg.q (v := .bool (false)) (Pu.qo (p_assign rfl)) (by decide) ?_
    refine Rg.nl ?_
    refine nT (?_)
    refine tRet ?_
    refine rT (?_)
    have hr := Option.some.inj H; subst hr
    exact back2 (((none, 0), (none, 0)), ()) rfl (ResV.agg ty26 rfl Has.here.there.there rfl) (ResV.tmp (v := .bool (false)) rfl) rfl Ents.nil (.cons Del.here.there (.cons Del.here .nil))
  · have H := cdF h13 H
    refine tSkip ?_
    refine nT (?_)
    refine Tr.seq ?_
    refine Tr.region ?_
    refine Rg.ed (e_lit0 Int Try.underlying23 ty3) rfl (by decide) ?_
    rintro _ _ _ ⟨a14, c15, rfl, rfl, rfl⟩
    refine Rg.ed (e_lit0 (List Row) Try.underlying24 ty36) rfl (by decide) ?_
    rintro _ _ _ ⟨a16, c17, rfl, rfl, rfl⟩
    refine Rg.q (v := .agg #[.slice a14 (([] : List Int).length) c15, .slice a16 (([] : List (List Row)).length) c17]) (Pu.qo (p_buildS (vs := [(0, .slice a14 (([] : List Int).length) c15), (1, .slice a16 (([] : List (List Row)).length) c17)]) (cs := #[.slice a14 (([] : List Int).length) c15, .slice a16 (([] : List (List Row)).length) c17]) ty26 pl26 rfl rfl)) (by decide) ?_
    refine Rg.ed (e_alloc ty26) rfl (by decide) ?_
    rintro _ _ _ ⟨g18, rfl, rfl, rfl⟩
    refine Rg.en (e_store (v := .agg #[.slice a14 (([] : List Int).length) c15, .slice a16 (([] : List (List Row)).length) c17]) (cs' := [.slice a14 (([] : List Int).length) c15, .slice a16 (([] : List (List Row)).length) c17]) ty26 rfl rfl Upd.here rfl (by simp [Value.cells, Value.oneCell']) (Nat.le_of_ble_eq_true rfl) rfl) rfl ?_
    rintro _ _ _ ⟨rfl, rfl, rfl⟩
    refine Rg.nl ?_
    refine nT (?_)
    refine Tr.seq ?_
    refine Tr.seq ?_
    refine Tr.region ?_
    refine Rg.q (v := .int .i64 (1)) (Pu.qo (p_assign rfl)) (by decide) ?_
    refine Rg.nl ?_
    refine nT (?_)
    obtain ⟨x19, hx20, H⟩ := bd.of H
    obtain ⟨n21, hx20⟩ := lp.of hx20
    refine tMidNC (ι := { q : ((List Int) × (List (List Row))) × ((Option Addr × Nat) × (Option Addr × Nat)) // x19 = .inl q.1 }) (fun ψ => [(4, .pointer (some ⟨g5, 0, none⟩)), (6, .pointer (some ⟨g18, 0, none⟩))]) (fun ψ => [box g5 26 [.slice none 0 0, .slice none 0 0], tree (.slice ψ.1.2.1.1 ψ.1.1.1.length ψ.1.2.1.2) ψ.1.1.1, tree (.slice ψ.1.2.2.1 ψ.1.1.2.length ψ.1.2.2.2) ψ.1.1.2, box g18 26 [.slice ψ.1.2.1.1 ψ.1.1.1.length ψ.1.2.1.2, .slice ψ.1.2.2.1 ψ.1.1.2.length ψ.1.2.2.2]]) ?_ ?_
    · refine Tr.block ?_
      refine tLoopC (ι := { q : Nat × ((List Int) × (List (List Row)) × Int) × ((Option Addr × Nat) × (Option Addr × Nat)) // itr (p_impl_PartMerge_b0 v0 v1) q.1 q.2.1 = some x19 }) (fun ζ => [(2, .pointer (some ⟨g3, 0, none⟩)), (3, .pointer (some ⟨g4, 0, none⟩)), (4, .pointer (some ⟨g5, 0, none⟩)), (6, .pointer (some ⟨g18, 0, none⟩)), (7, .int .i64 (ζ.1.2.1.2.2))]) (fun ζ => [box g3 26 [.slice x_v0.1.1 v0.1.length x_v0.1.2, .slice x_v0.2.1 v0.2.length x_v0.2.2], box g4 26 [.slice x_v1.1.1 v1.1.length x_v1.1.2, .slice x_v1.2.1 v1.2.length x_v1.2.2], box g5 26 [.slice none 0 0, .slice none 0 0], tree (.slice ζ.1.2.2.1.1 ζ.1.2.1.1.length ζ.1.2.2.1.2) ζ.1.2.1.1, tree (.slice ζ.1.2.2.2.1 ζ.1.2.1.2.1.length ζ.1.2.2.2.2) ζ.1.2.1.2.1, box g18 26 [.slice ζ.1.2.2.1.1 ζ.1.2.1.1.length ζ.1.2.2.1.2, .slice ζ.1.2.2.2.1 ζ.1.2.1.2.1.length ζ.1.2.2.2.2]]) (fun ζ => ζ.1.1) ⟨(n21, (([] : List Int), ([] : List (List Row)), 1), ((a14, c15), (a16, c17))), hx20⟩ ⟨rfl, rfl, rfl, rfl, rfl, trivial⟩ (.cons Del.here.there.there.there.there.there (.cons Del.here.there.there.there.there (.cons Del.here.there.there.there (.cons Del.here.there.there (.cons Del.here.there (.cons Del.here .nil)))))) ?_
      rintro ⟨⟨m22, σ23, z24⟩, hk29⟩
      obtain ⟨m30, t26, e, H1, hi27, hb28⟩ := itr.of (n := m22) (s := σ23) hk29
      subst e; unfold p_impl_PartMerge_b0 at H1
      show Tr _ _ _ _ _ [(2, .pointer (some ⟨g3, 0, none⟩)), (3, .pointer (some ⟨g4, 0, none⟩)), (4, .pointer (some ⟨g5, 0, none⟩)), (6, .pointer (some ⟨g18, 0, none⟩)), (7, .int .i64 (σ23.2.2))] _ [box g3 26 [.slice x_v0.1.1 v0.1.length x_v0.1.2, .slice x_v0.2.1 v0.2.length x_v0.2.2], box g4 26 [.slice x_v1.1.1 v1.1.length x_v1.1.2, .slice x_v1.2.1 v1.2.length x_v1.2.2], box g5 26 [.slice none 0 0, .slice none 0 0], tree (.slice z24.1.1 σ23.1.length z24.1.2) σ23.1, tree (.slice z24.2.1 σ23.2.1.length z24.2.2) σ23.2.1, box g18 26 [.slice z24.1.1 σ23.1.length z24.1.2, .slice z24.2.1 σ23.2.1.length z24.2.2]]
      refine Tr.seq ?_
      refine Tr.seq ?_
      refine Tr.region ?_
      refine Rg.q (v := .int .i64 (σ23.2.2)) (Pu.qo (p_move rfl)) (by decide) ?_
      refine Rg.q (v := .bool (decide (σ23.2.2 ≤ 6))) (Pu.qo (p_leq rfl rfl)) (by decide) ?_
      refine Rg.nl ?_
      refine nT (?_)
      refine Tr.cond (b := decide (σ23.2.2 ≤ 6)) rfl (fun h31 => ?_) (fun h31 => ?_)
      · have H1 := cdT h31 H1
        refine tSkip ?_
        refine nT (?_)
        refine Tr.seq ?_
        refine Tr.block ?_
        refine Tr.seq ?_
        refine tNwS [(2, .pointer (some ⟨g3, 0, none⟩)), (3, .pointer (some ⟨g4, 0, none⟩)), (4, .pointer (some ⟨g5, 0, none⟩)), (6, .pointer (some ⟨g18, 0, none⟩)), (7, .int .i64 (σ23.2.2))] 2 [0, 1, 3, 4, 2, 5, 6, 7, 8, 9, 10, 11] [2, 5, 6] [] Try.mixed (by kernel_rfl) (by decide) List.nodup_nil ⟨rfl, rfl, rfl, rfl, rfl, trivial⟩ rfl okNil ?_
        refine w_q (v := .agg #[.slice x_v0.1.1 v0.1.length x_v0.1.2, .slice x_v0.2.1 v0.2.length x_v0.2.2]) rfl (by decide) rfl rfl rfl (fun F => (q_ldbA ty26 rfl (Has.here.app F) rfl)) ?_
        refine w_pu (v := .int .i64 (σ23.2.2)) rfl (by decide) rfl rfl rfl (p_move rfl) ?_
        refine w_q (v := .agg #[.slice x_v1.1.1 v1.1.length x_v1.1.2, .slice x_v1.2.1 v1.2.length x_v1.2.2]) rfl (by decide) rfl rfl rfl (fun F => (q_ldbA ty26 rfl (Has.here.there.app F) rfl)) ?_
        refine w_pu (v := .int .i64 (σ23.2.2)) rfl (by decide) rfl rfl rfl (p_move rfl) ?_
        obtain ⟨r32, h33, H1⟩ := bd.of H1
        refine w_ed rfl (by decide) rfl Rdy.nil rfl (n_callB (vs := [.agg #[.slice x_v0.1.1 v0.1.length x_v0.1.2, .slice x_v0.2.1 v0.2.length x_v0.2.2], .int .i64 (σ23.2.2)]) (c_impl_PartOf v0 x_v0 σ23.2.2 h33) (fun _ => (Solo.tree Solo.nil)) rfl (EntsB.cons (Ent.b Ent.z.s.s) (EntsB.cons (Ent.b (Ent.dimm Ent.z.s)) EntsB.nil))) ?_
        rintro _ _ _ ⟨x34, rfl, rfl, rfl⟩
        refine ⟨(PdOk.q rfl rfl (fun F => (q_ldbA ty26 rfl (Has.here.there.there.app F) rfl)) (PdOk.anc (by kernel_rfl) PdOk.nil)), ?_⟩
        obtain ⟨r35, h36, H1⟩ := bd.of H1
        refine w_ed rfl (by decide) rfl Rdy.nil rfl (n_callB (vs := [.agg #[.slice x_v1.1.1 v1.1.length x_v1.1.2, .slice x_v1.2.1 v1.2.length x_v1.2.2], .int .i64 (σ23.2.2)]) (c_impl_PartOf v1 x_v1 σ23.2.2 h36) (fun _ => (Solo.tree Solo.nil)) rfl (EntsB.cons (Ent.b Ent.z.s.s.s.s) (EntsB.cons (Ent.b (Ent.dimm Ent.z)) EntsB.nil))) ?_
        rintro _ _ _ ⟨x37, rfl, rfl, rfl⟩
        refine ⟨(PdOk.anc (by kernel_rfl) (PdOk.anc (by kernel_rfl) PdOk.nil)), ?_⟩
        obtain ⟨r38, h39, H1⟩ := bd.of H1
        refine w_ed rfl (by decide) rfl Rdy.nil rfl (n_callB (vs := [.slice x34.1 r32.length x34.2, .slice x37.1 r35.length x37.2]) (c_impl_BlockMerge r32 x34 r35 x37 h39) (fun _ => (Solo.tree Solo.nil)) rfl (EntsB.cons (EntB.tree Has.here.there) (EntsB.cons (EntB.tree Has.here) EntsB.nil))) ?_
        rintro _ _ _ ⟨x40, rfl, rfl, rfl⟩
        refine ⟨(PdOk.anc (by kernel_rfl) (PdOk.anc (by kernel_rfl) PdOk.nil)), ?_⟩
        refine w_pu (v := .tuple #[.slice x40.1.1 r38.1.length x40.1.2, .bool (r38.2)]) rfl (by decide) rfl rfl rfl (p_move rfl) ?_
        refine w_pu (v := .slice x40.1.1 r38.1.length x40.1.2) rfl (by decide) rfl rfl rfl (p_extract rfl rfl) ?_
        refine w_pu (v := .bool (r38.2)) rfl (by decide) rfl rfl rfl (p_extract rfl rfl) ?_
        refine w_pu (v := .slice x40.1.1 r38.1.length x40.1.2) rfl (by decide) rfl rfl rfl (p_assign rfl) ?_
        refine w_pu (v := .bool (r38.2)) rfl (by decide) rfl rfl rfl (p_assign rfl) ?_
        refine w_nil ?_
        show At _ _ _ _ _ _
        refine nT (?_)
        refine Tr.seq ?_
        refine Tr.seq ?_
        refine Tr.region ?_
        refine Rg.q (v := .bool (r38.2)) (Pu.qo (p_move rfl)) (by decide) ?_
        refine Rg.q (v := .bool (!r38.2)) (Pu.qo (p_not rfl)) (by decide) ?_
        refine Rg.nl ?_
        refine nT (?_)
        refine Tr.cond (b := !r38.2) rfl (fun h41 => ?_) (fun h41 => ?_)
        · have H1 := cdT h41 H1
          refine Tr.seq ?_
          refine Tr.nilT Int ?_
          refine Tr.nilT (List Row) ?_
          refine Tr.region ?_
          refine Rg.q (v := .agg #[.slice none 0 0, .slice none 0 0]) (Pu.qo (p_buildS (vs := []) (cs := #[.slice none 0 0, .slice none 0 0]) ty26 pl26 rfl rfl)) (by decide) ?_
          refine Rg.en (e_store (v := .agg #[.slice none 0 0, .slice none 0 0]) (cs' := [.slice none 0 0, .slice none 0 0]) ty26 rfl rfl Upd.here.there.there.there.there.there.there.there rfl (by simp [Value.cells, Value.oneCell']) (Nat.le_of_ble_eq_true rfl) rfl) rfl ?_
          rintro _ _ _ ⟨rfl, rfl, rfl⟩
          refine Rg.q (v := .bool (false)) (Pu.qo (p_assign rfl)) (by decide) ?_
          refine Rg.nl ?_
          refine nT (?_)
          refine tRet ?_
          refine rT (rB (rT (rT (rB (rT (rT (?_)))))))
          have hx := hb28 _ (Option.some.inj H1).symm; subst hx
          replace H := sw.r H
          have hr := Option.some.inj H; subst hr
          exact back2 (((none, 0), (none, 0)), ()) rfl (ResV.agg ty26 rfl Has.here.there.there.there.there.there.there.there rfl) (ResV.tmp (v := .bool (false)) rfl) rfl Ents.nil (.cons Del.here.there (.cons Del.here .nil))
        · have H1 := cdF h41 H1
          refine tSkip ?_
          refine nT (?_)
          refine Tr.seq ?_
          refine Tr.region ?_
          refine Rg.q (v := .slice x40.1.1 r38.1.length x40.1.2) (Pu.qo (p_move rfl)) (by decide) ?_
          refine Rg.q (v := .int .i64 ((r38.1.length : Int))) (Pu.qo (p_len 46 Try.underlying36 rfl)) (by decide) ?_
          refine Rg.q (v := .bool (decide (0 < (r38.1.length : Int)))) (Pu.qo (p_gtr rfl rfl)) (by decide) ?_
          refine Rg.nl ?_
          refine nT (?_)
          refine Tr.cond (b := decide (0 < (r38.1.length : Int))) rfl (fun h42 => ?_) (fun h42 => ?_)
          · have H1 := cdT h42 H1
            refine Tr.seq ?_
            refine Tr.region ?_
            refine Rg.q (v := .pointer (some ⟨g18, 0, none⟩)) (Pu.qo (p_fabE fa26_0 rfl rfl)) (by decide) ?_
            refine Rg.q (v := .slice z24.1.1 σ23.1.length z24.1.2) (q_ldb ty23 rfl Has.here.there.there.there.there.there.there.there.there rfl) (by decide) ?_
            refine Rg.q (v := .int .i64 (σ23.2.2)) (Pu.qo (p_move rfl)) (by decide) ?_
            refine Rg.ed (e_lit (vs := [(0, .int .i64 (σ23.2.2))]) [.int .i64 (σ23.2.2)] Try.underlying23 ty3 rfl (by decide) (by decide) (by kernel_rfl)) rfl (by decide) ?_
            rintro _ _ _ ⟨g43, rfl, rfl, rfl⟩
            obtain ⟨h46, H1⟩ := gd.of H1
            refine Rg.ed (e_app1 (l := σ23.1) (α := Int) σ23.2.2 () Try.underlying23 ty3 rfl rfl (h46.b (by decide)) h46.x rfl (ShpT.wfa _) (.cons Del.here.there.there.there.there.there.there.there (.cons Del.here .nil))) rfl (by decide) ?_
            rintro _ _ _ ⟨a44, c45, rfl, rfl, rfl⟩
            refine Rg.q (v := .pointer (some ⟨g18, 0, none⟩)) (Pu.qo (p_fabE fa26_0 rfl rfl)) (by decide) ?_
            refine Rg.en (e_store (v := .slice a44 ((σ23.1 ++ [σ23.2.2]).length) c45) (cs' := [.slice a44 ((σ23.1 ++ [σ23.2.2]).length) c45, .slice z24.2.1 σ23.2.1.length z24.2.2]) ty23 rfl rfl Upd.here.there.there.there.there.there.there.there.there rfl (by simp [Value.cells, Value.oneCell']) (Nat.le_of_ble_eq_true rfl) rfl) rfl ?_
            rintro _ _ _ ⟨rfl, rfl, rfl⟩
            refine Rg.nl ?_
            refine nT (?_)
            refine Tr.region ?_
            refine Rg.q (v := .pointer (some ⟨g18, 1, none⟩)) (Pu.qo (p_fabE fa26_1 rfl rfl)) (by decide) ?_
            refine Rg.q (v := .slice z24.2.1 σ23.2.1.length z24.2.2) (q_ldb ty24 rfl Has.here.there.there.there.there.there.there.there.there rfl) (by decide) ?_
            refine Rg.q (v := .slice x40.1.1 r38.1.length x40.1.2) (Pu.qo (p_move rfl)) (by decide) ?_
            refine Rg.ed (e_lit (vs := [(0, .slice x40.1.1 r38.1.length x40.1.2)]) [.slice x40.1.1 r38.1.length x40.1.2] Try.underlying24 ty36 rfl (by decide) (by decide) (by kernel_rfl)) rfl (by decide) ?_
            rintro _ _ _ ⟨g47, rfl, rfl, rfl⟩
            obtain ⟨h50, H1⟩ := gd.of H1
            refine Rg.ed (e_app1 (l := σ23.2.1) (α := (List Row)) r38.1 x40.1 Try.underlying24 ty36 rfl rfl (h50.b (by decide)) h50.x rfl (ShpT.wfa _) (.cons Del.here.there.there.there.there.there.there.there.there (.cons Del.here (.cons Del.here.there .nil)))) rfl (by decide) ?_
            rintro _ _ _ ⟨a48, c49, rfl, rfl, rfl⟩
            refine Rg.q (v := .pointer (some ⟨g18, 1, none⟩)) (Pu.qo (p_fabE fa26_1 rfl rfl)) (by decide) ?_
            refine Rg.en (e_store (v := .slice a48 ((σ23.2.1 ++ [r38.1]).length) c49) (cs' := [.slice a44 ((σ23.1 ++ [σ23.2.2]).length) c45, .slice a48 ((σ23.2.1 ++ [r38.1]).length) c49]) ty24 rfl rfl Upd.here.there.there.there.there.there.there.there rfl (by simp [Value.cells, Value.oneCell']) (Nat.le_of_ble_eq_true rfl) rfl) rfl ?_
            rintro _ _ _ ⟨rfl, rfl, rfl⟩
            refine Rg.nl ?_
            refine nB (nT (?_))
            refine Tr.region ?_
            refine Rg.q (v := .int .i64 (σ23.2.2)) (Pu.qo (p_move rfl)) (by decide) ?_
            obtain ⟨h51, H1⟩ := gd.of H1
            refine Rg.q (v := .int .i64 (σ23.2.2 + 1)) (Pu.qo (p_add rfl rfl h51)) (by decide) ?_
            refine Rg.q (v := .int .i64 (σ23.2.2 + 1)) (Pu.qo (p_assign rfl)) (by decide) ?_
            refine Rg.nl ?_
            exact nLC ⟨(m30, ((σ23.1 ++ [σ23.2.2]), (σ23.2.1 ++ [r38.1]), σ23.2.2 + 1), ((a44, c45), (a48, c49))), hi27 _ (Option.some.inj H1).symm⟩ (Nat.lt_succ_self _) ⟨rfl, rfl, rfl, rfl, rfl, trivial⟩ Ents.refl (.cons Del.here.there.there.there.there (.cons Del.here.there.there.there.there (.cons Del.here.there.there.there.there (.cons Del.here.there (.cons Del.here (.cons Del.here.there.there .nil))))))
          · have H1 := cdF h42 H1
            refine tSkip ?_
            refine nB (nT (?_))
            refine Tr.region ?_
            refine Rg.q (v := .int .i64 (σ23.2.2)) (Pu.qo (p_move rfl)) (by decide) ?_
            obtain ⟨h52, H1⟩ := gd.of H1
            refine Rg.q (v := .int .i64 (σ23.2.2 + 1)) (Pu.qo (p_add rfl rfl h52)) (by decide) ?_
            refine Rg.q (v := .int .i64 (σ23.2.2 + 1)) (Pu.qo (p_assign rfl)) (by decide) ?_
            refine Rg.nl ?_
            exact nLC ⟨(m30, (σ23.1, σ23.2.1, σ23.2.2 + 1), ((z24.1.1, z24.1.2), (z24.2.1, z24.2.2))), hi27 _ (Option.some.inj H1).symm⟩ (Nat.lt_succ_self _) ⟨rfl, rfl, rfl, rfl, rfl, trivial⟩ Ents.refl (.cons Del.here.there.there.there (.cons Del.here.there.there.there (.cons Del.here.there.there.there (.cons Del.here.there.there.there (.cons Del.here.there.there.there (.cons Del.here.there.there.there .nil))))))
      · have H1 := cdF h31 H1
        refine tExit (xT (xT (xE (?_))))
        exact nMC ⟨((σ23.1, σ23.2.1), ((z24.1.1, z24.1.2), (z24.2.1, z24.2.2))), (hb28 _ (Option.some.inj H1).symm).symm⟩ ⟨rfl, rfl, trivial⟩ Ents.refl (.cons Del.here.there.there (.cons Del.here.there.there (.cons Del.here.there.there (.cons Del.here.there.there .nil))))
    · rintro ⟨⟨e53, y25⟩, hx⟩; subst hx; replace H := sw.l H
      show At _ _ [(4, .pointer (some ⟨g5, 0, none⟩)), (6, .pointer (some ⟨g18, 0, none⟩))] _ [box g5 26 [.slice none 0 0, .slice none 0 0], tree (.slice y25.1.1 e53.1.length y25.1.2) e53.1, tree (.slice y25.2.1 e53.2.length y25.2.2) e53.2, box g18 26 [.slice y25.1.1 e53.1.length y25.1.2, .slice y25.2.1 e53.2.length y25.2.2]] _
      refine nT (?_)
      refine Tr.seq ?_
      refine Tr.region ?_
      refine Rg.q (v := .agg #[.slice y25.1.1 e53.1.length y25.1.2, .slice y25.2.1 e53.2.length y25.2.2]) (q_ldbA ty26 rfl Has.here.there.there.there rfl) (by decide) ?_
      refine Rg.en (e_store (v := .agg #[.slice y25.1.1 e53.1.length y25.1.2, .slice y25.2.1 e53.2.length y25.2.2]) (cs' := [.slice y25.1.1 e53.1.length y25.1.2, .slice y25.2.1 e53.2.length y25.2.2]) ty26 rfl rfl Upd.here rfl (by simp [Value.cells, Value.oneCell']) (Nat.le_of_ble_eq_true rfl) rfl) rfl ?_
      rintro _ _ _ ⟨rfl, rfl, rfl⟩
      refine Rg.q (v := .bool (true)) (Pu.qo (p_assign rfl)) (by decide) ?_
      refine Rg.nl ?_
      refine nT (?_)
      refine tRet ?_
      have hr := Option.some.inj H; subst hr
      exact back2 (y25, ()) rfl (ResV.agg ty26 rfl Has.here rfl) (ResV.tmp (v := .bool (true)) rfl) rfl Ents.nil (.cons Del.here.there (.cons Del.here.there .nil))
noncomputable def p_spec_l12Of_b0 (v0 : Part) (v1 : Int) (σ7 : Int) : Option ((Int) ⊕ (Unit ⊕ (List Row))) := cond (decide (σ7 < (v0.1.length : Int))) (gd (ix σ7 v0.1.length) <| cond (decide ((nth v0.1 σ7.toNat) = v1)) (gd (ix σ7 v0.2.length) <| some (.inr (.inr (nth v0.2 σ7.toNat)))) (gd (I64 (σ7 + 1)) <| some (.inl (σ7 + 1)))) (some (.inr (.inl ())))
noncomputable def p_spec_l12Of (v0 : Part) (v1 : Int) : Option ((List Row)) := bd (lp (p_spec_l12Of_b0 v0 v1) 0) <| sw (fun e20 => some ([] : List Row)) (fun q => some q)
theorem c_spec_l12Of {r : (List Row)} (v0 : Part) (x_v0 : (Option Addr × Nat) × (Option Addr × Nat)) (v1 : Int) (H : p_spec_l12Of v0 v1 = some r) : Fn' Try.prog 53 #[.agg #[.slice x_v0.1.1 v0.1.length x_v0.1.2, .slice x_v0.2.1 v0.2.length x_v0.2.2], .int .i64 (v1)] [imm (.slice x_v0.1.1 v0.1.length x_v0.1.2) v0.1, imm (.slice x_v0.2.1 v0.2.length x_v0.2.2) v0.2] [] (ι := Option Addr × Nat) (fun x => .slice x.1 r.length x.2) (fun x => [imm (.slice x.1 r.length x.2) r]) (fun x => []) := by
  refine calls_of (args := [_, _]) Try.func53 rfl (by kernel_rfl) Try.ntmps53 (by simp) fun c => ?_
  unfold p_spec_l12Of at H
  refine Tr.openD Ent.z.s fun X1 => ?_
  refine Tr.seq ?_
  refine Tr.region ?_
  refine Rg.ed (e_box (t := 26) (v := .agg #[.slice x_v0.1.1 v0.1.length x_v0.1.2, .slice x_v0.2.1 v0.2.length x_v0.2.2]) rfl) rfl (by decide) ?_
  rintro _ _ _ ⟨g2, rfl, rfl, rfl⟩
  refine Rg.q (v := .slice none 0 0) (Pu.qo (p_assign rfl)) (by decide) ?_
  refine Rg.nl ?_
  refine nT (?_)
  refine Tr.seq ?_
  refine Tr.seq ?_
  refine Tr.region ?_
  refine Rg.q (v := .int .i64 (0)) (Pu.qo (p_assign rfl)) (by decide) ?_
  refine Rg.nl ?_
  refine nT (?_)
  obtain ⟨x3, hx4, H⟩ := bd.of H
  obtain ⟨n5, hx4⟩ := lp.of hx4
  refine tMidNC (ι := { q : (Unit) × Unit // x3 = .inl q.1 }) (fun ψ => []) (fun ψ => []) ?_ ?_
  · refine Tr.block ?_
    refine tLoopC (ι := { q : Nat × (Int) × Unit // itr (p_spec_l12Of_b0 v0 v1) q.1 q.2.1 = some x3 }) (fun ζ => [(1, .int .i64 (v1)), (2, .pointer (some ⟨g2, 0, none⟩)), (5, .int .i64 (ζ.1.2.1))]) (fun ζ => [box g2 26 [.slice x_v0.1.1 v0.1.length x_v0.1.2, .slice x_v0.2.1 v0.2.length x_v0.2.2]]) (fun ζ => ζ.1.1) ⟨(n5, 0, ()), hx4⟩ ⟨rfl, rfl, rfl, trivial⟩ (.cons Del.here .nil) ?_
    rintro ⟨⟨m6, σ7, z8⟩, hk13⟩
    obtain ⟨m14, t10, e, H1, hi11, hb12⟩ := itr.of (n := m6) (s := σ7) hk13
    subst e; unfold p_spec_l12Of_b0 at H1
    show Tr _ _ _ _ _ [(1, .int .i64 (v1)), (2, .pointer (some ⟨g2, 0, none⟩)), (5, .int .i64 (σ7))] _ [box g2 26 [.slice x_v0.1.1 v0.1.length x_v0.1.2, .slice x_v0.2.1 v0.2.length x_v0.2.2]]
    refine Tr.seq ?_
    refine Tr.seq ?_
    refine Tr.region ?_
    refine Rg.q (v := .int .i64 (σ7)) (Pu.qo (p_move rfl)) (by decide) ?_
    refine Rg.q (v := .pointer (some ⟨g2, 0, none⟩)) (Pu.qo (p_fabE fa26_0 rfl rfl)) (by decide) ?_
    refine Rg.q (v := .slice x_v0.1.1 v0.1.length x_v0.1.2) (q_ldb ty23 rfl Has.here rfl) (by decide) ?_
    refine Rg.q (v := .int .i64 ((v0.1.length : Int))) (Pu.qo (p_len 3 Try.underlying23 rfl)) (by decide) ?_
    refine Rg.q (v := .bool (decide (σ7 < (v0.1.length : Int)))) (Pu.qo (p_lss rfl rfl)) (by decide) ?_
    refine Rg.nl ?_
    refine nT (?_)
    refine Tr.cond (b := decide (σ7 < (v0.1.length : Int))) rfl (fun h15 => ?_) (fun h15 => ?_)
    · have H1 := cdT h15 H1
      refine tSkip ?_
      refine nT (?_)
      refine Tr.seq ?_
      refine Tr.block ?_
      refine Tr.seq ?_
      refine Tr.region ?_
      refine Rg.q (v := .pointer (some ⟨g2, 0, none⟩)) (Pu.qo (p_fabE fa26_0 rfl rfl)) (by decide) ?_
      refine Rg.q (v := .slice x_v0.1.1 v0.1.length x_v0.1.2) (q_ldb ty23 rfl Has.here rfl) (by decide) ?_
      refine Rg.q (v := .int .i64 (σ7)) (Pu.qo (p_move rfl)) (by decide) ?_
      obtain ⟨h16, H1⟩ := gd.of H1
      refine Rg.q (v := elp x_v0.1.1 (σ7.toNat * Enc.sz Int + 0)) (q_ixg (l := v0.1) (E := fun i => Flat.enc (nth v0.1 i)) (oa := x_v0.1.1) Try.underlying23 ty3 rfl rfl h16 rfl (EntB.flat (Ent.b Ent.z.s))) (by decide) ?_
      refine Rg.q (v := .int .i64 (nth v0.1 σ7.toNat)) (q_lde (l := v0.1) (E := fun i => Flat.enc (nth v0.1 i)) (oa := x_v0.1.1) (i := σ7.toNat) (j := 0) ty3 rfl (EntB.flat (Ent.b Ent.z.s)) h16.lt rfl) (by decide) ?_
      refine Rg.q (v := .int .i64 (v1)) (Pu.qo (p_move rfl)) (by decide) ?_
      refine Rg.q (v := .bool (decide ((nth v0.1 σ7.toNat) = v1))) (Pu.qo (p_eql rfl rfl)) (by decide) ?_
      refine Rg.nl ?_
      refine nT (?_)
      refine Tr.cond (b := decide ((nth v0.1 σ7.toNat) = v1)) rfl (fun h17 => ?_) (fun h17 => ?_)
      · have H1 := cdT h17 H1
        refine Tr.seq ?_
        refine Tr.region ?_
        refine Rg.q (v := .pointer (some ⟨g2, 1, none⟩)) (Pu.qo (p_fabE fa26_1 rfl rfl)) (by decide) ?_
        refine Rg.q (v := .slice x_v0.2.1 v0.2.length x_v0.2.2) (q_ldb ty24 rfl Has.here rfl) (by decide) ?_
        refine Rg.q (v := .int .i64 (σ7)) (Pu.qo (p_move rfl)) (by decide) ?_
        obtain ⟨h18, H1⟩ := gd.of H1
        refine Rg.q (v := elp x_v0.2.1 (σ7.toNat * Enc.sz (List Row) + 0)) (q_ixg (l := v0.2) (E := fun i => Dp.denc (nth v0.2 i) (X1 i)) (oa := x_v0.2.1) Try.underlying24 ty36 rfl rfl h18 rfl (Ent.b (Ent.darr Ent.z))) (by decide) ?_
        refine Rg.q (v := .slice ((X1 σ7.toNat).1) ((nth v0.2 σ7.toNat).length) ((X1 σ7.toNat).2.1)) (q_lde (l := v0.2) (E := fun i => Dp.denc (nth v0.2 i) (X1 i)) (oa := x_v0.2.1) (i := σ7.toNat) (j := 0) ty36 rfl (Ent.b (Ent.darr Ent.z)) h18.lt rfl) (by decide) ?_
        refine Rg.q (v := .slice ((X1 σ7.toNat).1) ((nth v0.2 σ7.toNat).length) ((X1 σ7.toNat).2.1)) (Pu.qo (p_assign rfl)) (by decide) ?_
        refine Rg.nl ?_
        refine nT (?_)
        refine tRet ?_
        refine rB (rT (rT (rB (rT (rT (?_))))))
        have hx := hb12 _ (Option.some.inj H1).symm; subst hx
        replace H := sw.r H
        have hr := Option.some.inj H; subst hr
        exact back1 ((X1 σ7.toNat).1, (X1 σ7.toNat).2.1) rfl (ResV.tmp (v := .slice ((X1 σ7.toNat).1) ((nth v0.2 σ7.toNat).length) ((X1 σ7.toNat).2.1)) rfl) rfl (Ents.cons (Ent.dimm (Ent.del Ent.z h18.lt)) Ents.nil) Take.nil
      · have H1 := cdF h17 H1
        refine tSkip ?_
        refine nB (nT (?_))
        refine Tr.region ?_
        refine Rg.q (v := .int .i64 (σ7)) (Pu.qo (p_move rfl)) (by decide) ?_
        obtain ⟨h19, H1⟩ := gd.of H1
        refine Rg.q (v := .int .i64 (σ7 + 1)) (Pu.qo (p_add rfl rfl h19)) (by decide) ?_
        refine Rg.q (v := .int .i64 (σ7 + 1)) (Pu.qo (p_assign rfl)) (by decide) ?_
        refine Rg.nl ?_
        exact nLC ⟨(m14, σ7 + 1, ()), hi11 _ (Option.some.inj H1).symm⟩ (Nat.lt_succ_self _) ⟨rfl, rfl, rfl, trivial⟩ Ents.refl (.cons Del.here .nil)
    · have H1 := cdF h15 H1
      refine tExit (xT (xT (xE (?_))))
      exact nMC ⟨((), ()), (hb12 _ (Option.some.inj H1).symm).symm⟩ trivial Ents.refl Take.nil
  · rintro ⟨⟨e20, y9⟩, hx⟩; subst hx; replace H := sw.l H
    show At _ _ [] _ [] _
    refine nT (?_)
    refine Tr.seq ?_
    refine Tr.region ?_
    refine Rg.ed (e_lit0 Row Try.underlying36 ty46) rfl (by decide) ?_
    rintro _ _ _ ⟨a21, c22, rfl, rfl, rfl⟩
    refine Rg.q (v := .slice a21 (([] : List Row).length) c22) (Pu.qo (p_assign rfl)) (by decide) ?_
    refine Rg.nl ?_
    refine nT (?_)
    refine Tr.freeze (.cons Del.here .nil) ?_
    refine tRet ?_
    have hr := Option.some.inj H; subst hr
    exact back1 (a21, c22) rfl (ResV.tmp (v := .slice a21 (([] : List Row).length) c22) rfl) rfl (Ents.cons Ent.z Ents.nil) Take.nil
noncomputable def p_spec_l2Merge_b0 (v1 : (List Row)) (σ10 : (List Row) × Int) : Option (((List Row) × Int) ⊕ ((List Row))) := cond (decide (σ10.2 < (v1.length : Int))) (gd (ix σ10.2 v1.length) <| bd (p_spec_l2Put σ10.1 (nth v1 σ10.2.toNat)) fun r20 => gd (I64 (σ10.2 + 1)) <| some (.inl (r20, σ10.2 + 1))) (some (.inr σ10.1))
noncomputable def p_spec_l2Merge (v0 : (List Row)) (v1 : (List Row)) : Option ((List Row)) := gd (room (([] : List Row).length + v0.length)) <| bd (lp (p_spec_l2Merge_b0 v1) ((([] : List Row) ++ v0), 0)) fun x6 => some x6
theorem c_spec_l2Merge {r : (List Row)} (v0 : (List Row)) (x_v0 : Option Addr × Nat) (v1 : (List Row)) (x_v1 : Option Addr × Nat) (H : p_spec_l2Merge v0 v1 = some r) : Fn' Try.prog 52 #[.slice x_v0.1 v0.length x_v0.2, .slice x_v1.1 v1.length x_v1.2] [imm (.slice x_v0.1 v0.length x_v0.2) v0, imm (.slice x_v1.1 v1.length x_v1.2) v1] [] (ι := Option Addr × Nat) (fun x => .slice x.1 r.length x.2) (fun _ => []) (fun x => [tree (.slice x.1 r.length x.2) r]) := by
  refine calls_of (args := [_, _]) Try.func52 rfl (by kernel_rfl) Try.ntmps52 (by simp) fun c => ?_
  unfold p_spec_l2Merge at H
  refine Tr.seq ?_
  refine Tr.region ?_
  refine Rg.q (v := .slice none 0 0) (Pu.qo (p_assign rfl)) (by decide) ?_
  refine Rg.nl ?_
  refine nT (?_)
  refine Tr.seq ?_
  refine Tr.region ?_
  refine Rg.ed (e_lit0 Row Try.underlying36 ty46) rfl (by decide) ?_
  rintro _ _ _ ⟨a1, c2, rfl, rfl, rfl⟩
  refine Rg.q (v := .slice x_v0.1 v0.length x_v0.2) (Pu.qo (p_move rfl)) (by decide) ?_
  obtain ⟨h5, H⟩ := gd.of H
  refine Rg.ed (e_appF (l := ([] : List Row)) (k := v0) (α := Row) Try.underlying36 ty46 rfl rfl (h5.b (by decide)) h5.x (.cons Del.here .nil) (Ent.b Ent.z)) rfl (by decide) ?_
  rintro _ _ _ ⟨a3, c4, rfl, rfl, rfl⟩
  refine Rg.q (v := .slice a3 ((([] : List Row) ++ v0).length) c4) (Pu.qo (p_assign rfl)) (by decide) ?_
  refine Rg.nl ?_
  refine nT (?_)
  refine Tr.seq ?_
  refine Tr.seq ?_
  refine Tr.region ?_
  refine Rg.q (v := .int .i64 (0)) (Pu.qo (p_assign rfl)) (by decide) ?_
  refine Rg.nl ?_
  refine nT (?_)
  obtain ⟨x6, hx7, H⟩ := bd.of H
  obtain ⟨n8, hx7⟩ := lp.of hx7
  refine tMidNC (ι := Option Addr × Nat) (fun ψ => [(5, .slice ψ.1 x6.length ψ.2)]) (fun ψ => [tree (.slice ψ.1 x6.length ψ.2) x6]) ?_ ?_
  · refine Tr.block ?_
    refine tLoopC (ι := { q : Nat × ((List Row) × Int) × (Option Addr × Nat) // itr (p_spec_l2Merge_b0 v1) q.1 q.2.1 = some x6 }) (fun ζ => [(1, .slice x_v1.1 v1.length x_v1.2), (5, .slice ζ.1.2.2.1 ζ.1.2.1.1.length ζ.1.2.2.2), (6, .int .i64 (ζ.1.2.1.2))]) (fun ζ => [tree (.slice ζ.1.2.2.1 ζ.1.2.1.1.length ζ.1.2.2.2) ζ.1.2.1.1]) (fun ζ => ζ.1.1) ⟨(n8, ((([] : List Row) ++ v0), 0), (a3, c4)), hx7⟩ ⟨rfl, rfl, rfl, trivial⟩ (.cons Del.here .nil) ?_
    rintro ⟨⟨m9, σ10, z11⟩, hk16⟩
    obtain ⟨m17, t13, e, H1, hi14, hb15⟩ := itr.of (n := m9) (s := σ10) hk16
    subst e; unfold p_spec_l2Merge_b0 at H1
    show Tr _ _ _ _ _ [(1, .slice x_v1.1 v1.length x_v1.2), (5, .slice z11.1 σ10.1.length z11.2), (6, .int .i64 (σ10.2))] _ [tree (.slice z11.1 σ10.1.length z11.2) σ10.1]
    refine Tr.seq ?_
    refine Tr.seq ?_
    refine Tr.region ?_
    refine Rg.q (v := .int .i64 (σ10.2)) (Pu.qo (p_move rfl)) (by decide) ?_
    refine Rg.q (v := .slice x_v1.1 v1.length x_v1.2) (Pu.qo (p_move rfl)) (by decide) ?_
    refine Rg.q (v := .int .i64 ((v1.length : Int))) (Pu.qo (p_len 46 Try.underlying36 rfl)) (by decide) ?_
    refine Rg.q (v := .bool (decide (σ10.2 < (v1.length : Int)))) (Pu.qo (p_lss rfl rfl)) (by decide) ?_
    refine Rg.nl ?_
    refine nT (?_)
    refine Tr.cond (b := decide (σ10.2 < (v1.length : Int))) rfl (fun h18 => ?_) (fun h18 => ?_)
    · have H1 := cdT h18 H1
      refine tSkip ?_
      refine nT (?_)
      refine Tr.seq ?_
      refine Tr.block ?_
      refine Tr.region ?_
      refine Rg.q (v := .slice z11.1 σ10.1.length z11.2) (Pu.qo (p_move rfl)) (by decide) ?_
      refine Rg.q (v := .slice x_v1.1 v1.length x_v1.2) (Pu.qo (p_move rfl)) (by decide) ?_
      refine Rg.q (v := .int .i64 (σ10.2)) (Pu.qo (p_move rfl)) (by decide) ?_
      obtain ⟨h19, H1⟩ := gd.of H1
      refine Rg.q (v := elp x_v1.1 (σ10.2.toNat * Enc.sz Row + 0)) (q_ixg (l := v1) (E := fun i => Flat.enc (nth v1 i)) (oa := x_v1.1) Try.underlying36 ty46 rfl rfl h19 rfl (EntB.flat (Ent.b Ent.z.s))) (by decide) ?_
      refine Rg.q (v := .agg #[.int .i64 ((nth v1 σ10.2.toNat).1), .int .i64 ((nth v1 σ10.2.toNat).2)]) (q_ldeA (l := v1) (E := fun i => Flat.enc (nth v1 i)) (oa := x_v1.1) (i := σ10.2.toNat) ty46 rfl (EntB.flat (Ent.b Ent.z.s)) h19.lt) (by decide) ?_
      obtain ⟨r20, h21, H1⟩ := bd.of H1
      refine Rg.ed (e_callB (vs := [.slice z11.1 σ10.1.length z11.2, .agg #[.int .i64 ((nth v1 σ10.2.toNat).1), .int .i64 ((nth v1 σ10.2.toNat).2)]]) (c_spec_l2Put σ10.1 z11 (nth v1 σ10.2.toNat) h21) (fun _ => (Solo.tree Solo.nil)) rfl (EntsB.cons (EntB.tree Has.here) EntsB.nil)) rfl (by decide) ?_
      rintro _ _ _ ⟨x22, rfl, rfl, rfl⟩
      refine Rg.q (v := .slice x22.1 r20.length x22.2) (Pu.qo (p_assign rfl)) (by decide) ?_
      refine Rg.nl ?_
      refine nB (nT (?_))
      refine Tr.region ?_
      refine Rg.q (v := .int .i64 (σ10.2)) (Pu.qo (p_move rfl)) (by decide) ?_
      obtain ⟨h23, H1⟩ := gd.of H1
      refine Rg.q (v := .int .i64 (σ10.2 + 1)) (Pu.qo (p_add rfl rfl h23)) (by decide) ?_
      refine Rg.q (v := .int .i64 (σ10.2 + 1)) (Pu.qo (p_assign rfl)) (by decide) ?_
      refine Rg.nl ?_
      exact nLC ⟨(m17, (r20, σ10.2 + 1), (x22.1, x22.2)), hi14 _ (Option.some.inj H1).symm⟩ (Nat.lt_succ_self _) ⟨rfl, rfl, rfl, trivial⟩ Ents.refl (.cons Del.here .nil)
    · have H1 := cdF h18 H1
      refine tExit (xT (xT (xE (?_))))
      have hx := hb15 _ (Option.some.inj H1).symm; subst hx
      exact nMC (z11.1, z11.2) ⟨rfl, trivial⟩ Ents.refl (.cons Del.here .nil)
  · intro y12
    show At _ _ [(5, .slice y12.1 x6.length y12.2)] _ [tree (.slice y12.1 x6.length y12.2) x6] _
    refine nT (?_)
    refine Tr.seq ?_
    refine Tr.region ?_
    refine Rg.q (v := .slice y12.1 x6.length y12.2) (Pu.qo (p_move rfl)) (by decide) ?_
    refine Rg.q (v := .slice y12.1 x6.length y12.2) (Pu.qo (p_assign rfl)) (by decide) ?_
    refine Rg.nl ?_
    refine nT (?_)
    refine tRet ?_
    have hr := Option.some.inj H; subst hr
    exact back1 y12 rfl (ResV.tmp (v := .slice y12.1 x6.length y12.2) rfl) rfl Ents.nil (.cons Del.here .nil)
noncomputable def p_spec_l12Merge_b0 (v0 : Part) (v1 : Part) (σ12 : (List (List Row)) × Int) : Option (((List (List Row)) × Int) ⊕ ((List (List Row)))) := cond (decide (σ12.2 ≤ 6)) (bd (p_spec_l12Of v0 σ12.2) fun r21 => bd (p_spec_l12Of v1 σ12.2) fun r24 => bd (p_spec_l2Merge r21 r24) fun r27 => gd (room (σ12.1.length + 1)) <| gd (I64 (σ12.2 + 1)) <| some (.inl ((σ12.1 ++ [r27]), σ12.2 + 1))) (some (.inr σ12.1))
noncomputable def p_spec_l12Merge (v0 : Part) (v1 : Part) : Option (Part) := bd (lp (p_spec_l12Merge_b0 v0 v1) (([] : List (List Row)), 1)) fun x8 => bd (p_spec_l12Make x8) fun r35 => some r35
theorem c_spec_l12Merge {r : Part} (v0 : Part) (x_v0 : (Option Addr × Nat) × (Option Addr × Nat)) (v1 : Part) (x_v1 : (Option Addr × Nat) × (Option Addr × Nat)) (H : p_spec_l12Merge v0 v1 = some r) : Fn' Try.prog 32 #[.agg #[.slice x_v0.1.1 v0.1.length x_v0.1.2, .slice x_v0.2.1 v0.2.length x_v0.2.2], .agg #[.slice x_v1.1.1 v1.1.length x_v1.1.2, .slice x_v1.2.1 v1.2.length x_v1.2.2]] [imm (.slice x_v0.1.1 v0.1.length x_v0.1.2) v0.1, imm (.slice x_v0.2.1 v0.2.length x_v0.2.2) v0.2, imm (.slice x_v1.1.1 v1.1.length x_v1.1.2) v1.1, imm (.slice x_v1.2.1 v1.2.length x_v1.2.2) v1.2] [] (ι := (Option Addr × Nat) × (Option Addr × Nat)) (fun x => .agg #[.slice x.1.1 r.1.length x.1.2, .slice x.2.1 r.2.length x.2.2]) (fun _ => []) (fun x => [tree (.slice x.1.1 r.1.length x.1.2) r.1, tree (.slice x.2.1 r.2.length x.2.2) r.2]) := by
  refine calls_of (args := [_, _]) Try.func32 rfl (by kernel_rfl) Try.ntmps32 (by simp) fun c => ?_
  unfold p_spec_l12Merge at H
  refine Tr.openD Ent.z.s fun X1 => ?_
  refine Tr.openD Ent.z.s.s.s.s fun X2 => ?_
  refine Tr.seq ?_
  refine Tr.region ?_
  refine Rg.ed (e_box (t := 26) (v := .agg #[.slice x_v0.1.1 v0.1.length x_v0.1.2, .slice x_v0.2.1 v0.2.length x_v0.2.2]) rfl) rfl (by decide) ?_
  rintro _ _ _ ⟨g3, rfl, rfl, rfl⟩
  refine Rg.ed (e_box (t := 26) (v := .agg #[.slice x_v1.1.1 v1.1.length x_v1.1.2, .slice x_v1.2.1 v1.2.length x_v1.2.2]) rfl) rfl (by decide) ?_
  rintro _ _ _ ⟨g4, rfl, rfl, rfl⟩
  refine Rg.ed (e_alloc ty26) rfl (by decide) ?_
  rintro _ _ _ ⟨g5, rfl, rfl, rfl⟩
  refine Rg.nl ?_
  refine nT (?_)
  refine Tr.seq ?_
  refine Tr.region ?_
  refine Rg.ed (e_lit0 (List Row) Try.underlying24 ty36) rfl (by decide) ?_
  rintro _ _ _ ⟨a6, c7, rfl, rfl, rfl⟩
  refine Rg.q (v := .slice a6 (([] : List (List Row)).length) c7) (Pu.qo (p_assign rfl)) (by decide) ?_
  refine Rg.nl ?_
  refine nT (?_)
  refine Tr.seq ?_
  refine Tr.seq ?_
  refine Tr.region ?_
  refine Rg.q (v := .int .i64 (1)) (Pu.qo (p_assign rfl)) (by decide) ?_
  refine Rg.nl ?_
  refine nT (?_)
  obtain ⟨x8, hx9, H⟩ := bd.of H
  obtain ⟨n10, hx9⟩ := lp.of hx9
  refine tMidNC (ι := Option Addr × Nat) (fun ψ => [(4, .pointer (some ⟨g5, 0, none⟩)), (5, .slice ψ.1 x8.length ψ.2)]) (fun ψ => [box g5 26 [.slice none 0 0, .slice none 0 0], tree (.slice ψ.1 x8.length ψ.2) x8]) ?_ ?_
  · refine Tr.block ?_
    refine tLoopC (ι := { q : Nat × ((List (List Row)) × Int) × (Option Addr × Nat) // itr (p_spec_l12Merge_b0 v0 v1) q.1 q.2.1 = some x8 }) (fun ζ => [(2, .pointer (some ⟨g3, 0, none⟩)), (3, .pointer (some ⟨g4, 0, none⟩)), (4, .pointer (some ⟨g5, 0, none⟩)), (5, .slice ζ.1.2.2.1 ζ.1.2.1.1.length ζ.1.2.2.2), (6, .int .i64 (ζ.1.2.1.2))]) (fun ζ => [box g3 26 [.slice x_v0.1.1 v0.1.length x_v0.1.2, .slice x_v0.2.1 v0.2.length x_v0.2.2], box g4 26 [.slice x_v1.1.1 v1.1.length x_v1.1.2, .slice x_v1.2.1 v1.2.length x_v1.2.2], box g5 26 [.slice none 0 0, .slice none 0 0], tree (.slice ζ.1.2.2.1 ζ.1.2.1.1.length ζ.1.2.2.2) ζ.1.2.1.1]) (fun ζ => ζ.1.1) ⟨(n10, (([] : List (List Row)), 1), (a6, c7)), hx9⟩ ⟨rfl, rfl, rfl, rfl, rfl, trivial⟩ (.cons Del.here.there.there.there (.cons Del.here.there.there (.cons Del.here.there (.cons Del.here .nil)))) ?_
    rintro ⟨⟨m11, σ12, z13⟩, hk18⟩
    obtain ⟨m19, t15, e, H1, hi16, hb17⟩ := itr.of (n := m11) (s := σ12) hk18
    subst e; unfold p_spec_l12Merge_b0 at H1
    show Tr _ _ _ _ _ [(2, .pointer (some ⟨g3, 0, none⟩)), (3, .pointer (some ⟨g4, 0, none⟩)), (4, .pointer (some ⟨g5, 0, none⟩)), (5, .slice z13.1 σ12.1.length z13.2), (6, .int .i64 (σ12.2))] _ [box g3 26 [.slice x_v0.1.1 v0.1.length x_v0.1.2, .slice x_v0.2.1 v0.2.length x_v0.2.2], box g4 26 [.slice x_v1.1.1 v1.1.length x_v1.1.2, .slice x_v1.2.1 v1.2.length x_v1.2.2], box g5 26 [.slice none 0 0, .slice none 0 0], tree (.slice z13.1 σ12.1.length z13.2) σ12.1]
    refine Tr.seq ?_
    refine Tr.seq ?_
    refine Tr.region ?_
    refine Rg.q (v := .int .i64 (σ12.2)) (Pu.qo (p_move rfl)) (by decide) ?_
    refine Rg.q (v := .bool (decide (σ12.2 ≤ 6))) (Pu.qo (p_leq rfl rfl)) (by decide) ?_
    refine Rg.nl ?_
    refine nT (?_)
    refine Tr.cond (b := decide (σ12.2 ≤ 6)) rfl (fun h20 => ?_) (fun h20 => ?_)
    · have H1 := cdT h20 H1
      refine tSkip ?_
      refine nT (?_)
      refine Tr.seq ?_
      refine Tr.block ?_
      refine tNwL [(2, .pointer (some ⟨g3, 0, none⟩)), (3, .pointer (some ⟨g4, 0, none⟩)), (4, .pointer (some ⟨g5, 0, none⟩)), (5, .slice z13.1 σ12.1.length z13.2), (6, .int .i64 (σ12.2))] 2 [0, 1, 2, 4, 5, 3, 6, 7, 8, 9] [3, 6, 7, 8, 9] [] Try.mixed rfl (by kernel_rfl) (by kernel_rfl) (by decide) List.nodup_nil ⟨rfl, rfl, rfl, rfl, rfl, trivial⟩ rfl okNil ?_
      refine w_pu (v := .slice z13.1 σ12.1.length z13.2) rfl (by decide) rfl rfl rfl (p_move rfl) ?_
      refine w_q (v := .agg #[.slice x_v0.1.1 v0.1.length x_v0.1.2, .slice x_v0.2.1 v0.2.length x_v0.2.2]) rfl (by decide) rfl rfl rfl (fun F => (q_ldbA ty26 rfl (Has.here.app F) rfl)) ?_
      refine w_pu (v := .int .i64 (σ12.2)) rfl (by decide) rfl rfl rfl (p_move rfl) ?_
      refine w_q (v := .agg #[.slice x_v1.1.1 v1.1.length x_v1.1.2, .slice x_v1.2.1 v1.2.length x_v1.2.2]) rfl (by decide) rfl rfl rfl (fun F => (q_ldbA ty26 rfl (Has.here.there.app F) rfl)) ?_
      refine w_pu (v := .int .i64 (σ12.2)) rfl (by decide) rfl rfl rfl (p_move rfl) ?_
      obtain ⟨r21, h22, H1⟩ := bd.of H1
      refine w_ed rfl (by decide) rfl Rdy.nil rfl (n_call (vs := [.agg #[.slice x_v0.1.1 v0.1.length x_v0.1.2, .slice x_v0.2.1 v0.2.length x_v0.2.2], .int .i64 (σ12.2)]) (c_spec_l12Of v0 x_v0 σ12.2 h22) rfl (Ents.cons Ent.z.s.s (Ents.cons (Ent.dimm Ent.z.s) Ents.nil)) Take.nil) ?_
      rintro _ _ _ ⟨x23, rfl, rfl, rfl⟩
      refine ⟨(PdOk.q rfl rfl (fun F => (q_ldbA ty26 rfl (Has.here.there.app F) rfl)) (PdOk.anc (by kernel_rfl) PdOk.nil)), ?_⟩
      obtain ⟨r24, h25, H1⟩ := bd.of H1
      refine w_ed rfl (by decide) rfl Rdy.nil rfl (n_call (vs := [.agg #[.slice x_v1.1.1 v1.1.length x_v1.1.2, .slice x_v1.2.1 v1.2.length x_v1.2.2], .int .i64 (σ12.2)]) (c_spec_l12Of v1 x_v1 σ12.2 h25) rfl (Ents.cons Ent.z.s.s.s.s.s (Ents.cons (Ent.dimm Ent.z.s) Ents.nil)) Take.nil) ?_
      rintro _ _ _ ⟨x26, rfl, rfl, rfl⟩
      refine ⟨(PdOk.anc (by kernel_rfl) (PdOk.anc (by kernel_rfl) PdOk.nil)), ?_⟩
      obtain ⟨r27, h28, H1⟩ := bd.of H1
      refine w_ed rfl (by decide) rfl Rdy.nil rfl (n_callB (vs := [.slice x23.1 r21.length x23.2, .slice x26.1 r24.length x26.2]) (c_spec_l2Merge r21 x23 r24 x26 h28) (fun _ => (Solo.tree Solo.nil)) rfl (EntsB.cons (Ent.b Ent.z.s) (EntsB.cons (Ent.b Ent.z) EntsB.nil))) ?_
      rintro _ _ _ ⟨x29, rfl, rfl, rfl⟩
      refine ⟨(PdOk.anc (by kernel_rfl) (PdOk.anc (by kernel_rfl) PdOk.nil)), ?_⟩
      refine w_ed rfl (by decide) rfl Rdy.nil rfl (n_lit (vs := [(0, .slice x29.1 r27.length x29.2)]) [.slice x29.1 r27.length x29.2] Try.underlying24 ty36 rfl (by decide) (by decide) (by kernel_rfl)) ?_
      rintro _ _ _ ⟨g30, rfl, rfl, rfl⟩
      refine ⟨(PdOk.q rfl rfl (fun F => (q_ldbA ty26 rfl (Has.here.there.there.there.app F) rfl)) (PdOk.q rfl rfl (fun F => (q_ldbA ty26 rfl (Has.here.there.there.app F) rfl)) PdOk.nil)), ?_⟩
      obtain ⟨h33, H1⟩ := gd.of H1
      refine w_ed rfl (by decide) rfl Rdy.nil rfl (n_app1 (l := σ12.1) (α := (List Row)) r27 x29 Try.underlying24 ty36 rfl rfl (h33.b (by decide)) h33.x rfl (ShpT.wfa _) (.cons Del.here.there.there.there.there.there (.cons Del.here (.cons Del.here .nil)))) ?_
      rintro _ _ _ ⟨a31, c32, rfl, rfl, rfl⟩
      refine ⟨(PdOk.q rfl rfl (fun F => (q_ldbA ty26 rfl (Has.here.there.there.app F) rfl)) (PdOk.q rfl rfl (fun F => (q_ldbA ty26 rfl (Has.here.there.app F) rfl)) PdOk.nil)), ?_⟩
      refine w_nil ?_
      show Rg _ _ _ _ _ _ _ _ _
      refine Rg.q (v := .slice a31 ((σ12.1 ++ [r27]).length) c32) (Pu.qo (p_assign rfl)) (by decide) ?_
      refine Rg.nl ?_
      refine nB (nT (?_))
      refine Tr.region ?_
      refine Rg.q (v := .int .i64 (σ12.2)) (Pu.qo (p_move rfl)) (by decide) ?_
      obtain ⟨h34, H1⟩ := gd.of H1
      refine Rg.q (v := .int .i64 (σ12.2 + 1)) (Pu.qo (p_add rfl rfl h34)) (by decide) ?_
      refine Rg.q (v := .int .i64 (σ12.2 + 1)) (Pu.qo (p_assign rfl)) (by decide) ?_
      refine Rg.nl ?_
      exact nLC ⟨(m19, ((σ12.1 ++ [r27]), σ12.2 + 1), (a31, c32)), hi16 _ (Option.some.inj H1).symm⟩ (Nat.lt_succ_self _) ⟨rfl, rfl, rfl, rfl, rfl, trivial⟩ Ents.refl.s.s (.cons Del.here.there (.cons Del.here.there (.cons Del.here.there (.cons Del.here .nil))))
    · have H1 := cdF h20 H1
      refine tExit (xT (xT (xE (?_))))
      have hx := hb17 _ (Option.some.inj H1).symm; subst hx
      exact nMC (z13.1, z13.2) ⟨rfl, rfl, trivial⟩ Ents.refl (.cons Del.here.there.there (.cons Del.here.there.there .nil))
  · intro y14
    show At _ _ [(4, .pointer (some ⟨g5, 0, none⟩)), (5, .slice y14.1 x8.length y14.2)] _ [box g5 26 [.slice none 0 0, .slice none 0 0], tree (.slice y14.1 x8.length y14.2) x8] _
    refine nT (?_)
    refine Tr.seq ?_
    refine Tr.region ?_
    refine Rg.q (v := .slice y14.1 x8.length y14.2) (Pu.qo (p_move rfl)) (by decide) ?_
    obtain ⟨r35, h36, H⟩ := bd.of H
    refine Rg.ed (e_callB (vs := [.slice y14.1 x8.length y14.2]) (c_spec_l12Make x8 y14 h36) (fun _ => (Solo.tree (Solo.tree Solo.nil))) rfl (EntsB.cons (EntB.tree Has.here.there) EntsB.nil)) rfl (by decide) ?_
    rintro _ _ _ ⟨x37, rfl, rfl, rfl⟩
    refine Rg.en (e_store (v := .agg #[.slice x37.1.1 r35.1.length x37.1.2, .slice x37.2.1 r35.2.length x37.2.2]) (cs' := [.slice x37.1.1 r35.1.length x37.1.2, .slice x37.2.1 r35.2.length x37.2.2]) ty26 rfl rfl Upd.here.there.there rfl (by simp [Value.cells, Value.oneCell']) (Nat.le_of_ble_eq_true rfl) rfl) rfl ?_
    rintro _ _ _ ⟨rfl, rfl, rfl⟩
    refine Rg.nl ?_
    refine nT (?_)
    refine tRet ?_
    have hr := Option.some.inj H; subst hr
    exact back1 x37 rfl (ResV.agg ty26 rfl Has.here.there.there rfl) rfl Ents.nil (.cons Del.here (.cons Del.here .nil))
noncomputable def p_spec_PartMerge (v0 : Part) (v1 : Part) : Option (Part × Bool) := bd (bd (p_spec_PartOk v0) fun r8 => cond (!r8) (some (true)) (bd (p_spec_PartOk v1) fun r11 => some (!r11))) fun b6 => cond (b6) (some ((([]), ([])), false)) (bd (p_spec_l12Merge v0 v1) fun r14 => bd (p_spec_PartOk r14) fun r18 => cond (!r18) (some ((([]), ([])), false)) (some (r14, true)))
theorem c_spec_PartMerge {r : Part × Bool} (v0 : Part) (x_v0 : (Option Addr × Nat) × (Option Addr × Nat)) (v1 : Part) (x_v1 : (Option Addr × Nat) × (Option Addr × Nat)) (H : p_spec_PartMerge v0 v1 = some r) : Fn' Try.prog 15 #[.agg #[.slice x_v0.1.1 v0.1.length x_v0.1.2, .slice x_v0.2.1 v0.2.length x_v0.2.2], .agg #[.slice x_v1.1.1 v1.1.length x_v1.1.2, .slice x_v1.2.1 v1.2.length x_v1.2.2]] [imm (.slice x_v0.1.1 v0.1.length x_v0.1.2) v0.1, imm (.slice x_v0.2.1 v0.2.length x_v0.2.2) v0.2, imm (.slice x_v1.1.1 v1.1.length x_v1.1.2) v1.1, imm (.slice x_v1.2.1 v1.2.length x_v1.2.2) v1.2] [] (ι := ((Option Addr × Nat) × (Option Addr × Nat)) × Unit) (fun x => .tuple #[.agg #[.slice x.1.1.1 r.1.1.length x.1.1.2, .slice x.1.2.1 r.1.2.length x.1.2.2], .bool (r.2)]) (fun _ => []) (fun x => [tree (.slice x.1.1.1 r.1.1.length x.1.1.2) r.1.1, tree (.slice x.1.2.1 r.1.2.length x.1.2.2) r.1.2]) := by
  refine calls_of (args := [_, _]) Try.func15 rfl (by kernel_rfl) Try.ntmps15 (by simp) fun c => ?_
  unfold p_spec_PartMerge at H
  refine Tr.openD Ent.z.s fun X1 => ?_
  refine Tr.openD Ent.z.s.s.s.s fun X2 => ?_
  refine Tr.seq ?_
  refine Tr.region ?_
  refine Rg.ed (e_box (t := 26) (v := .agg #[.slice x_v0.1.1 v0.1.length x_v0.1.2, .slice x_v0.2.1 v0.2.length x_v0.2.2]) rfl) rfl (by decide) ?_
  rintro _ _ _ ⟨g3, rfl, rfl, rfl⟩
  refine Rg.ed (e_box (t := 26) (v := .agg #[.slice x_v1.1.1 v1.1.length x_v1.1.2, .slice x_v1.2.1 v1.2.length x_v1.2.2]) rfl) rfl (by decide) ?_
  rintro _ _ _ ⟨g4, rfl, rfl, rfl⟩
  refine Rg.ed (e_alloc ty26) rfl (by decide) ?_
  rintro _ _ _ ⟨g5, rfl, rfl, rfl⟩
  refine Rg.q (v := .bool (false)) (Pu.qo (p_assign rfl)) (by decide) ?_
  refine Rg.nl ?_
  refine nT (?_)
  refine Tr.seq ?_
  obtain ⟨b6, j7, H⟩ := bd.of H
  refine tMid1 [(14, .bool (b6)), (4, .pointer (some ⟨g5, 0, none⟩)), (3, .pointer (some ⟨g4, 0, none⟩)), (2, .pointer (some ⟨g3, 0, none⟩))] ?_ ?_
  · refine tLinT [(4, .pointer (some ⟨g5, 0, none⟩)), (3, .pointer (some ⟨g4, 0, none⟩)), (2, .pointer (some ⟨g3, 0, none⟩))] ⟨rfl, rfl, rfl, trivial⟩ ?_
    refine Lin.q (v := .agg #[.slice x_v0.1.1 v0.1.length x_v0.1.2, .slice x_v0.2.1 v0.2.length x_v0.2.2]) (by decide) (q_ldbA ty26 rfl Has.here.there.there rfl) ?_
    obtain ⟨r8, h9, j7⟩ := bd.of j7
    refine Lin.q (v := .bool (r8)) (by decide) (q_call (vs := [.agg #[.slice x_v0.1.1 v0.1.length x_v0.1.2, .slice x_v0.2.1 v0.2.length x_v0.2.2]]) (c_spec_PartOk v0 x_v0 h9) rfl (EntsB.cons (Ent.b Ent.z.s.s) (EntsB.cons (Ent.b (Ent.dimm Ent.z.s)) EntsB.nil))) ?_
    refine Lin.q (v := .bool (!r8)) (by decide) (Pu.qo (p_not rfl)) ?_
    rcases Bool.eq_false_or_eq_true (!r8) with h10 | h10
    · have j7 := cdT h10 j7
      refine Lin.q (v := .bool (true)) (by decide) (Qo.eqv (v := .bool (!r8)) (Pu.qo (p_move rfl)) (congrArg Value.bool h10)) ?_
      refine Lin.skip (by decide) rfl ?_
      refine Lin.skip (by decide) rfl ?_
      refine Lin.skip (by decide) rfl ?_
      refine Lin.q (v := .bool (true)) (by decide) (Pu.qo (p_pickT rfl rfl)) ?_
      have j7 := Option.some.inj j7; subst j7
      show At _ _ _ _ _ _
      exact n1 ⟨rfl, rfl, rfl, rfl, trivial⟩
    · have j7 := cdF h10 j7
      refine Lin.q (v := .bool (false)) (by decide) (Qo.eqv (v := .bool (!r8)) (Pu.qo (p_move rfl)) (congrArg Value.bool h10)) ?_
      refine Lin.g (v := .agg #[.slice x_v1.1.1 v1.1.length x_v1.1.2, .slice x_v1.2.1 v1.2.length x_v1.2.2]) (by decide) rfl (q_ldbA ty26 rfl Has.here.there rfl) ?_
      obtain ⟨r11, h12, j7⟩ := bd.of j7
      refine Lin.g (v := .bool (r11)) (by decide) rfl (q_call (vs := [.agg #[.slice x_v1.1.1 v1.1.length x_v1.1.2, .slice x_v1.2.1 v1.2.length x_v1.2.2]]) (c_spec_PartOk v1 x_v1 h12) rfl (EntsB.cons (Ent.b Ent.z.s.s.s.s) (EntsB.cons (Ent.b (Ent.dimm Ent.z)) EntsB.nil))) ?_
      refine Lin.g (v := .bool (!r11)) (by decide) rfl (Pu.qo (p_not rfl)) ?_
      refine Lin.q (v := .bool (!r11)) (by decide) (Pu.qo (p_pickF rfl rfl)) ?_
      have j7 := Option.some.inj j7; subst j7
      show At _ _ _ _ _ _
      exact n1 ⟨rfl, rfl, rfl, rfl, trivial⟩
  refine Tr.cond (b := b6) rfl (fun h13 => ?_) (fun h13 => ?_)
  · have H := cdT h13 H
    refine Tr.seq ?_
    refine Tr.nilT Int ?_
    refine Tr.nilT (List Row) ?_
    refine Tr.region ?_
    refine Rg.q (v := .agg #[.slice none 0 0, .slice none 0 0]) (Pu.qo (p_buildS (vs := []) (cs := #[.slice none 0 0, .slice none 0 0]) ty26 pl26 rfl rfl)) (by decide) ?_
    refine Rg.en (e_store (v := .agg #[.slice none 0 0, .slice none 0 0]) (cs' := [.slice none 0 0, .slice none 0 0]) ty26 rfl rfl Upd.here.there.there rfl (by simp [Value.cells, Value.oneCell']) (Nat.le_of_ble_eq_true rfl) rfl) rfl ?_
    rintro _ _ _ ⟨rfl, rfl, rfl⟩
    refine Rg.q (v := .bool (false)) (Pu.qo (p_assign rfl)) (by decide) ?_
    refine Rg.nl ?_
    refine nT (?_)
    refine tRet ?_
    refine rT (?_)
    have hr := Option.some.inj H; subst hr
    exact back2 (((none, 0), (none, 0)), ()) rfl (ResV.agg ty26 rfl Has.here.there.there rfl) (ResV.tmp (v := .bool (false)) rfl) rfl Ents.nil (.cons Del.here.there (.cons Del.here .nil))
  · have H := cdF h13 H
    refine tSkip ?_
    refine nT (?_)
    refine Tr.seq ?_
    refine Tr.region ?_
    refine Rg.q (v := .agg #[.slice x_v0.1.1 v0.1.length x_v0.1.2, .slice x_v0.2.1 v0.2.length x_v0.2.2]) (q_ldbA ty26 rfl Has.here.there.there rfl) (by decide) ?_
    refine Rg.q (v := .agg #[.slice x_v1.1.1 v1.1.length x_v1.1.2, .slice x_v1.2.1 v1.2.length x_v1.2.2]) (q_ldbA ty26 rfl Has.here.there rfl) (by decide) ?_
    obtain ⟨r14, h15, H⟩ := bd.of H
    refine Rg.ed (e_callB (vs := [.agg #[.slice x_v0.1.1 v0.1.length x_v0.1.2, .slice x_v0.2.1 v0.2.length x_v0.2.2], .agg #[.slice x_v1.1.1 v1.1.length x_v1.1.2, .slice x_v1.2.1 v1.2.length x_v1.2.2]]) (c_spec_l12Merge v0 x_v0 v1 x_v1 h15) (fun _ => (Solo.tree (Solo.tree Solo.nil))) rfl (EntsB.cons (Ent.b Ent.z.s.s) (EntsB.cons (Ent.b (Ent.dimm Ent.z.s)) (EntsB.cons (Ent.b Ent.z.s.s.s.s) (EntsB.cons (Ent.b (Ent.dimm Ent.z)) EntsB.nil))))) rfl (by decide) ?_
    rintro _ _ _ ⟨x16, rfl, rfl, rfl⟩
    refine Rg.ed (e_alloc ty26) rfl (by decide) ?_
    rintro _ _ _ ⟨g17, rfl, rfl, rfl⟩
    refine Rg.en (e_store (v := .agg #[.slice x16.1.1 r14.1.length x16.1.2, .slice x16.2.1 r14.2.length x16.2.2]) (cs' := [.slice x16.1.1 r14.1.length x16.1.2, .slice x16.2.1 r14.2.length x16.2.2]) ty26 rfl rfl Upd.here rfl (by simp [Value.cells, Value.oneCell']) (Nat.le_of_ble_eq_true rfl) rfl) rfl ?_
    rintro _ _ _ ⟨rfl, rfl, rfl⟩
    refine Rg.nl ?_
    refine nT (?_)
    refine Tr.seq ?_
    refine Tr.seq ?_
    refine Tr.region ?_
    refine Rg.q (v := .agg #[.slice x16.1.1 r14.1.length x16.1.2, .slice x16.2.1 r14.2.length x16.2.2]) (q_ldbA ty26 rfl Has.here rfl) (by decide) ?_
    obtain ⟨r18, h19, H⟩ := bd.of H
    refine Rg.q (v := .bool (r18)) (q_call (vs := [.agg #[.slice x16.1.1 r14.1.length x16.1.2, .slice x16.2.1 r14.2.length x16.2.2]]) (c_spec_PartOk r14 x16 h19) rfl (EntsB.cons (EntB.tree Has.here.there) (EntsB.cons (EntB.tree Has.here.there.there) EntsB.nil))) (by decide) ?_
    refine Rg.q (v := .bool (!r18)) (Pu.qo (p_not rfl)) (by decide) ?_
    refine Rg.nl ?_
    refine nT (?_)
    refine Tr.cond (b := !r18) rfl (fun h20 => ?_) (fun h20 => ?_)
    · have H := cdT h20 H
      refine Tr.seq ?_
      refine Tr.nilT Int ?_
      refine Tr.nilT (List Row) ?_
      refine Tr.region ?_
      refine Rg.q (v := .agg #[.slice none 0 0, .slice none 0 0]) (Pu.qo (p_buildS (vs := []) (cs := #[.slice none 0 0, .slice none 0 0]) ty26 pl26 rfl rfl)) (by decide) ?_
      refine Rg.en (e_store (v := .agg #[.slice none 0 0, .slice none 0 0]) (cs' := [.slice none 0 0, .slice none 0 0]) ty26 rfl rfl Upd.here.there.there.there.there.there rfl (by simp [Value.cells, Value.oneCell']) (Nat.le_of_ble_eq_true rfl) rfl) rfl ?_
      rintro _ _ _ ⟨rfl, rfl, rfl⟩
      refine Rg.q (v := .bool (false)) (Pu.qo (p_assign rfl)) (by decide) ?_
      refine Rg.nl ?_
      refine nT (?_)
      refine tRet ?_
      refine rT (?_)
      have hr := Option.some.inj H; subst hr
      exact back2 (((none, 0), (none, 0)), ()) rfl (ResV.agg ty26 rfl Has.here.there.there.there.there.there rfl) (ResV.tmp (v := .bool (false)) rfl) rfl Ents.nil (.cons Del.here.there (.cons Del.here .nil))
    · have H := cdF h20 H
      refine tSkip ?_
      refine nT (?_)
      refine Tr.seq ?_
      refine Tr.region ?_
      refine Rg.q (v := .agg #[.slice x16.1.1 r14.1.length x16.1.2, .slice x16.2.1 r14.2.length x16.2.2]) (q_ldbA ty26 rfl Has.here rfl) (by decide) ?_
      refine Rg.en (e_store (v := .agg #[.slice x16.1.1 r14.1.length x16.1.2, .slice x16.2.1 r14.2.length x16.2.2]) (cs' := [.slice x16.1.1 r14.1.length x16.1.2, .slice x16.2.1 r14.2.length x16.2.2]) ty26 rfl rfl Upd.here.there.there.there rfl (by simp [Value.cells, Value.oneCell']) (Nat.le_of_ble_eq_true rfl) rfl) rfl ?_
      rintro _ _ _ ⟨rfl, rfl, rfl⟩
      refine Rg.q (v := .bool (true)) (Pu.qo (p_assign rfl)) (by decide) ?_
      refine Rg.nl ?_
      refine nT (?_)
      refine tRet ?_
      have hr := Option.some.inj H; subst hr
      exact back2 (x16, ()) rfl (ResV.agg ty26 rfl Has.here.there.there.there rfl) (ResV.tmp (v := .bool (true)) rfl) rfl Ents.nil (.cons Del.here.there (.cons Del.here.there .nil))
def p_laws_szIntS (v0 : (List Int)) (v1 : Int) : Option (Int) := gd (I64 (v1 - (v0.length : Int))) <| cond (decide ((v1 - (v0.length : Int)) < 0)) (some (-1)) (some (v1 - (v0.length : Int)))
end Go.Proofs.Ytephlhldhdopaaa
