/- The walks: each function of the program that these laws reach computes what its plain function tells. Conditions: none. -/
import Derived.Test.YtfcdncblogldnaaSxB
import Derived.Test.YtfcdncblogldnaaProg
namespace Go.Proofs.Ytfcdncblogldnaa
open Go Go.Sx
theorem Try.mixed : Try.prog.follows .mixedOrders = true := by kernel_rfl
abbrev Row := Int × Int
abbrev Part := (List Int) × (List (List Row))
abbrev File := Int × Part
abbrev Tag := ByteArray × ByteArray
abbrev Disk := (List File) × (List Int) × (List (List Tag)) × Int
abbrev L6Rd := (List UInt8) × Int
instance : DecidableEq Row := inferInstanceAs (DecidableEq (Int × Int))
instance : DecidableEq Part := inferInstanceAs (DecidableEq ((List Int) × (List (List Row))))
instance : DecidableEq File := inferInstanceAs (DecidableEq (Int × Part))
instance : DecidableEq Tag := inferInstanceAs (DecidableEq (ByteArray × ByteArray))
instance : DecidableEq Disk := inferInstanceAs (DecidableEq ((List File) × (List Int) × (List (List Tag)) × Int))
instance : DecidableEq L6Rd := inferInstanceAs (DecidableEq ((List UInt8) × Int))
theorem ty3 : TyI Try.prog 3 false 1 (.int .i64 0) 8 := ⟨by kernel_rfl, by kernel_rfl, rfl⟩
theorem ty4 : TyI Try.prog 4 false 1 (.bool false) 1 := ⟨by kernel_rfl, by kernel_rfl, rfl⟩
theorem ty5 : TyI Try.prog 5 false 1 (.int .u8 0) 1 := ⟨by kernel_rfl, by kernel_rfl, rfl⟩
theorem ty9 : TyI Try.prog 9 false 1 (.string ⟨#[]⟩) 16 := ⟨by kernel_rfl, by kernel_rfl, rfl⟩
theorem ty22 : TyI Try.prog 22 false 1 (.slice none 0 0) 24 := ⟨by kernel_rfl, by kernel_rfl, rfl⟩
theorem ty23 : TyI Try.prog 23 false 1 (.slice none 0 0) 24 := ⟨by kernel_rfl, by kernel_rfl, rfl⟩
theorem ty24 : TyI Try.prog 24 false 1 (.slice none 0 0) 24 := ⟨by kernel_rfl, by kernel_rfl, rfl⟩
theorem ty26 : TyI Try.prog 26 true 2 (.agg #[.slice none 0 0, .slice none 0 0]) 48 := ⟨by kernel_rfl, by kernel_rfl, rfl⟩
theorem fa26_0 : FA Try.prog 26 0 0 := ⟨_, Try.underlying26, _, rfl, rfl, by obtain ⟨i, hi, _, hn, _⟩ := ty23.info'; exact ⟨i, hi, by rw [hn]; decide⟩⟩
theorem fa26_1 : FA Try.prog 26 1 1 := ⟨_, Try.underlying26, _, rfl, rfl, by obtain ⟨i, hi, _, hn, _⟩ := ty24.info'; exact ⟨i, hi, by rw [hn]; decide⟩⟩
theorem ty29 : TyI Try.prog 29 false 1 (.slice none 0 0) 24 := ⟨by kernel_rfl, by kernel_rfl, rfl⟩
theorem ty32 : TyI Try.prog 32 false 1 (.slice none 0 0) 24 := ⟨by kernel_rfl, by kernel_rfl, rfl⟩
theorem ty34 : TyI Try.prog 34 true 2 (.agg #[.slice none 0 0, .slice none 0 0]) 48 := ⟨by kernel_rfl, by kernel_rfl, rfl⟩
theorem fa34_0 : FA Try.prog 34 0 0 := ⟨_, Try.underlying34, _, rfl, rfl, by obtain ⟨i, hi, _, hn, _⟩ := ty23.info'; exact ⟨i, hi, by rw [hn]; decide⟩⟩
theorem fa34_1 : FA Try.prog 34 1 1 := ⟨_, Try.underlying34, _, rfl, rfl, by obtain ⟨i, hi, _, hn, _⟩ := ty32.info'; exact ⟨i, hi, by rw [hn]; decide⟩⟩
theorem ty49 : TyI Try.prog 49 false 1 (.slice none 0 0) 24 := ⟨by kernel_rfl, by kernel_rfl, rfl⟩
theorem ty50 : TyI Try.prog 50 false 1 (.slice none 0 0) 24 := ⟨by kernel_rfl, by kernel_rfl, rfl⟩
theorem ty52 : TyI Try.prog 52 true 4 (.agg #[.slice none 0 0, .slice none 0 0, .slice none 0 0, .int .i64 0]) 80 := ⟨by kernel_rfl, by kernel_rfl, rfl⟩
theorem fa52_0 : FA Try.prog 52 0 0 := ⟨_, Try.underlying52, _, rfl, rfl, by obtain ⟨i, hi, _, hn, _⟩ := ty49.info'; exact ⟨i, hi, by rw [hn]; decide⟩⟩
theorem fa52_1 : FA Try.prog 52 1 1 := ⟨_, Try.underlying52, _, rfl, rfl, by obtain ⟨i, hi, _, hn, _⟩ := ty23.info'; exact ⟨i, hi, by rw [hn]; decide⟩⟩
theorem fa52_2 : FA Try.prog 52 2 2 := ⟨_, Try.underlying52, _, rfl, rfl, by obtain ⟨i, hi, _, hn, _⟩ := ty50.info'; exact ⟨i, hi, by rw [hn]; decide⟩⟩
theorem fa52_3 : FA Try.prog 52 3 3 := ⟨_, Try.underlying52, _, rfl, rfl, by obtain ⟨i, hi, _, hn, _⟩ := ty3.info'; exact ⟨i, hi, by rw [hn]; decide⟩⟩
theorem ty68 : TyI Try.prog 68 true 2 (.agg #[.int .i64 0, .int .i64 0]) 16 := ⟨by kernel_rfl, by kernel_rfl, rfl⟩
theorem fa68_0 : FA Try.prog 68 0 0 := ⟨_, Try.underlying68, _, rfl, rfl, by obtain ⟨i, hi, _, hn, _⟩ := ty3.info'; exact ⟨i, hi, by rw [hn]; decide⟩⟩
theorem fa68_1 : FA Try.prog 68 1 1 := ⟨_, Try.underlying68, _, rfl, rfl, by obtain ⟨i, hi, _, hn, _⟩ := ty3.info'; exact ⟨i, hi, by rw [hn]; decide⟩⟩
theorem ty85 : TyI Try.prog 85 true 2 (.agg #[.slice none 0 0, .int .i64 0]) 32 := ⟨by kernel_rfl, by kernel_rfl, rfl⟩
theorem fa85_0 : FA Try.prog 85 0 0 := ⟨_, Try.underlying85, _, rfl, rfl, by obtain ⟨i, hi, _, hn, _⟩ := ty22.info'; exact ⟨i, hi, by rw [hn]; decide⟩⟩
theorem fa85_1 : FA Try.prog 85 1 1 := ⟨_, Try.underlying85, _, rfl, rfl, by obtain ⟨i, hi, _, hn, _⟩ := ty3.info'; exact ⟨i, hi, by rw [hn]; decide⟩⟩
theorem ty90 : TyI Try.prog 90 false 1 (.slice none 0 0) 24 := ⟨by kernel_rfl, by kernel_rfl, rfl⟩
theorem ty94 : TyI Try.prog 94 true 3 (.agg #[.int .i64 0, .slice none 0 0, .slice none 0 0]) 56 := ⟨by kernel_rfl, by kernel_rfl, rfl⟩
theorem fa94_0 : FA Try.prog 94 0 0 := ⟨_, Try.underlying94, _, rfl, rfl, by obtain ⟨i, hi, _, hn, _⟩ := ty3.info'; exact ⟨i, hi, by rw [hn]; decide⟩⟩
theorem fa94_1 : FA Try.prog 94 1 1 := ⟨_, Try.underlying94, _, rfl, rfl, by obtain ⟨i, hi, _, hn, _⟩ := ty26.info'; exact ⟨i, hi, by rw [hn]; decide⟩⟩
theorem ty96 : TyI Try.prog 96 false 1 (.slice none 0 0) 24 := ⟨by kernel_rfl, by kernel_rfl, rfl⟩
theorem ty99 : TyI Try.prog 99 true 2 (.agg #[.int .i64 0, .int .i64 0]) 16 := ⟨by kernel_rfl, by kernel_rfl, rfl⟩
theorem fa99_0 : FA Try.prog 99 0 0 := ⟨_, Try.underlying99, _, rfl, rfl, by obtain ⟨i, hi, _, hn, _⟩ := ty3.info'; exact ⟨i, hi, by rw [hn]; decide⟩⟩
theorem fa99_1 : FA Try.prog 99 1 1 := ⟨_, Try.underlying99, _, rfl, rfl, by obtain ⟨i, hi, _, hn, _⟩ := ty3.info'; exact ⟨i, hi, by rw [hn]; decide⟩⟩
theorem ty102 : TyI Try.prog 102 true 2 (.agg #[.string ⟨#[]⟩, .string ⟨#[]⟩]) 32 := ⟨by kernel_rfl, by kernel_rfl, rfl⟩
theorem fa102_0 : FA Try.prog 102 0 0 := ⟨_, Try.underlying102, _, rfl, rfl, by obtain ⟨i, hi, _, hn, _⟩ := ty9.info'; exact ⟨i, hi, by rw [hn]; decide⟩⟩
theorem fa102_1 : FA Try.prog 102 1 1 := ⟨_, Try.underlying102, _, rfl, rfl, by obtain ⟨i, hi, _, hn, _⟩ := ty9.info'; exact ⟨i, hi, by rw [hn]; decide⟩⟩
theorem pl26 : PL Try.prog 26 #[(0, 1), (1, 1)] := ⟨_, Try.underlying26, fun w => by simp [ty23.sizeOf w, ty24.sizeOf w]⟩
theorem pl52 : PL Try.prog 52 #[(0, 1), (1, 1), (2, 1), (3, 1)] := ⟨_, Try.underlying52, fun w => by simp [ty23.sizeOf w, ty3.sizeOf w, ty49.sizeOf w, ty50.sizeOf w]⟩
theorem pl68 : PL Try.prog 68 #[(0, 1), (1, 1)] := ⟨_, Try.underlying68, fun w => by simp [ty3.sizeOf w]⟩
theorem pl85 : PL Try.prog 85 #[(0, 1), (1, 1)] := ⟨_, Try.underlying85, fun w => by simp [ty22.sizeOf w, ty3.sizeOf w]⟩
theorem ae68 : AEq Try.prog 68 Row := ⟨by kernel_rfl, fun d a b w => by
  rw [run_equalIn_agg w (d + 2) 68 _ _ (by kernel_rfl) (by kernel_rfl)]
  simp only [Program.fieldsOf, Try.underlying68, Flat.enc, List.cons_append, List.nil_append]
  simp [Op.eqFields, part, ty3.isAgg, ty3.sizeOf, run_equalIn_int w (d + 1) 3 .i64 .i64 _ _ Try.underlying3]
  by_cases h0 : a.1 = b.1 <;> by_cases h1 : a.2 = b.2 <;> simp [h0, h1, Prod.ext_iff]⟩
def p_impl_within (v0 : Int) (v1 : Int) (v2 : Int) : Option (Bool) := bd (cond (decide (v1 ≤ v0)) (some (decide (v0 ≤ v2))) (some (false))) fun b1 => some b1
theorem c_impl_within {r : Bool} (v0 : Int) (v1 : Int) (v2 : Int) (H : p_impl_within v0 v1 v2 = some r) : Fn' Try.prog 40 #[.int .i64 (v0), .int .i64 (v1), .int .i64 (v2)] [] [] (ι := Unit) (fun x => .bool (r)) (fun _ => []) (fun x => []) := by
  refine calls_of (args := [_, _, _]) Try.func40 rfl (by kernel_rfl) Try.ntmps40 (by simp) fun c => ?_
  unfold p_impl_within at H
  refine Tr.seq ?_
  refine Tr.region ?_
  refine Rg.q (v := .bool (false)) (Pu.qo (p_assign rfl)) (by decide) ?_
  refine Rg.nl ?_
  refine nT (?_)
  obtain ⟨b1, j2, H⟩ := bd.of H
  refine tMid1 [(6, .bool (b1))] ?_ ?_
  · refine tLinS [(0, .int .i64 (v0)), (1, .int .i64 (v1)), (2, .int .i64 (v2))] Try.mixed (.inl rfl) ⟨rfl, rfl, rfl, trivial⟩ rfl ?_
    refine Lin.q (v := .int .i64 (v0)) (by decide) (Pu.qo (p_move rfl)) ?_
    refine Lin.q (v := .int .i64 (v1)) (by decide) (Pu.qo (p_move rfl)) ?_
    refine Lin.q (v := .bool (decide (v1 ≤ v0))) (by decide) (Pu.qo (p_geq rfl rfl)) ?_
    rcases Bool.eq_false_or_eq_true (decide (v1 ≤ v0)) with h3 | h3
    · have j2 := cdT h3 j2
      refine Lin.q (v := .bool (true)) (by decide) (Qo.eqv (v := .bool (decide (v1 ≤ v0))) (Pu.qo (p_move rfl)) (congrArg Value.bool h3)) ?_
      refine Lin.g (v := .int .i64 (v0)) (by decide) rfl (Pu.qo (p_move rfl)) ?_
      refine Lin.g (v := .int .i64 (v2)) (by decide) rfl (Pu.qo (p_move rfl)) ?_
      refine Lin.g (v := .bool (decide (v0 ≤ v2))) (by decide) rfl (Pu.qo (p_leq rfl rfl)) ?_
      refine Lin.q (v := .bool (decide (v0 ≤ v2))) (by decide) (Pu.qo (p_pickT rfl rfl)) ?_
      refine Lin.q (v := .bool (decide (v0 ≤ v2))) (by decide) (Pu.qo (p_assign rfl)) ?_
      have j2 := Option.some.inj j2; subst j2
      show At _ _ _ _ _ _
      exact n1 ⟨rfl, trivial⟩
    · have j2 := cdF h3 j2
      refine Lin.q (v := .bool (false)) (by decide) (Qo.eqv (v := .bool (decide (v1 ≤ v0))) (Pu.qo (p_move rfl)) (congrArg Value.bool h3)) ?_
      refine Lin.skip (by decide) rfl ?_
      refine Lin.skip (by decide) rfl ?_
      refine Lin.skip (by decide) rfl ?_
      refine Lin.q (v := .bool (false)) (by decide) (Pu.qo (p_pickF rfl rfl)) ?_
      refine Lin.q (v := .bool (false)) (by decide) (Pu.qo (p_assign rfl)) ?_
      have j2 := Option.some.inj j2; subst j2
      show At _ _ _ _ _ _
      exact n1 ⟨rfl, trivial⟩
  refine tRet ?_
  have hr := Option.some.inj H; subst hr
  exact back1 () rfl (ResV.tmp (v := .bool (b1)) rfl) rfl Ents.nil Take.nil
def p_impl_rowOk (v0 : Row) : Option (Bool) := bd (bd (p_impl_within v0.1 0 99) fun r4 => cond (r4) (bd (p_impl_within v0.2 (-99) 99) fun r7 => some (r7)) (some (false))) fun b2 => some b2
theorem c_impl_rowOk {r : Bool} (v0 : Row) (H : p_impl_rowOk v0 = some r) : Fn' Try.prog 43 #[.agg #[.int .i64 (v0.1), .int .i64 (v0.2)]] [] [] (ι := Unit) (fun x => .bool (r)) (fun _ => []) (fun x => []) := by
  refine calls_of (args := [_]) Try.func43 rfl (by kernel_rfl) Try.ntmps43 (by simp) fun c => ?_
  unfold p_impl_rowOk at H
  refine Tr.seq ?_
  refine Tr.region ?_
  refine Rg.ed (e_box (t := 68) (v := .agg #[.int .i64 (v0.1), .int .i64 (v0.2)]) rfl) rfl (by decide) ?_
  rintro _ _ _ ⟨g1, rfl, rfl, rfl⟩
  refine Rg.q (v := .bool (false)) (Pu.qo (p_assign rfl)) (by decide) ?_
  refine Rg.nl ?_
  refine nT (?_)
  obtain ⟨b2, j3, H⟩ := bd.of H
  refine tMid1 [(2, .bool (b2))] ?_ ?_
  · refine tLinS [(1, .pointer (some ⟨g1, 0, none⟩))] Try.mixed (.inl rfl) ⟨rfl, trivial⟩ rfl ?_
    refine Lin.q (v := .pointer (some ⟨g1, 0, none⟩)) (by decide) (Pu.qo (p_fabE fa68_0 rfl rfl)) ?_
    refine Lin.q (v := .int .i64 (v0.1)) (by decide) (q_ldb ty3 rfl Has.here rfl) ?_
    obtain ⟨r4, h5, j3⟩ := bd.of j3
    refine Lin.q (v := .bool (r4)) (by decide) (q_call (vs := [.int .i64 (v0.1), .int .i64 (0), .int .i64 (99)]) (c_impl_within v0.1 0 99 h5) rfl EntsB.nil) ?_
    rcases Bool.eq_false_or_eq_true (r4) with h6 | h6
    · have j3 := cdT h6 j3
      refine Lin.q (v := .bool (true)) (by decide) (Qo.eqv (v := .bool (r4)) (Pu.qo (p_move rfl)) (congrArg Value.bool h6)) ?_
      refine Lin.g (v := .pointer (some ⟨g1, 1, none⟩)) (by decide) rfl (Pu.qo (p_fabE fa68_1 rfl rfl)) ?_
      refine Lin.g (v := .int .i64 (v0.2)) (by decide) rfl (q_ldb ty3 rfl Has.here rfl) ?_
      obtain ⟨r7, h8, j3⟩ := bd.of j3
      refine Lin.g (v := .bool (r7)) (by decide) rfl (q_call (vs := [.int .i64 (v0.2), .int .i64 (-99), .int .i64 (99)]) (c_impl_within v0.2 (-99) 99 h8) rfl EntsB.nil) ?_
      refine Lin.q (v := .bool (r7)) (by decide) (Pu.qo (p_pickT rfl rfl)) ?_
      refine Lin.q (v := .bool (r7)) (by decide) (Pu.qo (p_assign rfl)) ?_
      have j3 := Option.some.inj j3; subst j3
      show At _ _ _ _ _ _
      exact n1 ⟨rfl, trivial⟩
    · have j3 := cdF h6 j3
      refine Lin.q (v := .bool (false)) (by decide) (Qo.eqv (v := .bool (r4)) (Pu.qo (p_move rfl)) (congrArg Value.bool h6)) ?_
      refine Lin.skip (by decide) rfl ?_
      refine Lin.skip (by decide) rfl ?_
      refine Lin.skip (by decide) rfl ?_
      refine Lin.q (v := .bool (false)) (by decide) (Pu.qo (p_pickF rfl rfl)) ?_
      refine Lin.q (v := .bool (false)) (by decide) (Pu.qo (p_assign rfl)) ?_
      have j3 := Option.some.inj j3; subst j3
      show At _ _ _ _ _ _
      exact n1 ⟨rfl, trivial⟩
  refine tRet ?_
  have hr := Option.some.inj H; subst hr
  exact back1 () rfl (ResV.tmp (v := .bool (b2)) rfl) rfl Ents.nil Take.nil
noncomputable def p_impl_BlockOk_b0 (v0 : (List Row)) (σ5 : Int) : Option ((Int) ⊕ (Unit ⊕ Bool)) := cond (decide (σ5 < (v0.length : Int))) (gd (ix σ5 v0.length) <| bd (bd (p_impl_rowOk (nth v0 σ5.toNat)) fun r18 => cond (!r18) (some (true)) (cond (decide (0 < σ5)) (gd (I64 (σ5 - 1)) <| gd (ix (σ5 - 1) v0.length) <| some (decide (((nth v0 σ5.toNat).1) ≤ ((nth v0 ((σ5 - 1).toNat)).1)))) (some (false)))) fun b16 => cond (b16) (some (.inr (.inr false))) (gd (I64 (σ5 + 1)) <| some (.inl (σ5 + 1)))) (some (.inr (.inl ())))
noncomputable def p_impl_BlockOk (v0 : (List Row)) : Option (Bool) := bd (lp (p_impl_BlockOk_b0 v0) 0) <| sw (fun e26 => some (decide ((v0.length : Int) ≤ 24))) (fun q => some q)
theorem c_impl_BlockOk {r : Bool} (v0 : (List Row)) (x_v0 : Option Addr × Nat) (H : p_impl_BlockOk v0 = some r) : Fn' Try.prog 13 #[.slice x_v0.1 v0.length x_v0.2] [imm (.slice x_v0.1 v0.length x_v0.2) v0] [] (ι := Unit) (fun x => .bool (r)) (fun _ => []) (fun x => []) := by
  refine calls_of (args := [_]) Try.func13 rfl (by kernel_rfl) Try.ntmps13 (by simp) fun c => ?_
  unfold p_impl_BlockOk at H
  refine Tr.seq ?_
  refine Tr.region ?_
  refine Rg.q (v := .bool (false)) (Pu.qo (p_assign rfl)) (by decide) ?_
  refine Rg.nl ?_
  refine nT (?_)
  refine Tr.seq ?_
  refine Tr.seq ?_
  refine Tr.region ?_
  refine Rg.q (v := .slice x_v0.1 v0.length x_v0.2) (Pu.qo (p_move rfl)) (by decide) ?_
  refine Rg.q (v := .int .i64 ((v0.length : Int))) (Pu.qo (p_len 68 Try.underlying29 rfl)) (by decide) ?_
  refine Rg.q (v := .int .i64 (0)) (Pu.qo (p_move rfl)) (by decide) ?_
  refine Rg.nl ?_
  refine nT (?_)
  obtain ⟨x1, hx2, H⟩ := bd.of H
  obtain ⟨n3, hx2⟩ := lp.of hx2
  refine tMidNC (ι := { q : (Unit) × Unit // x1 = .inl q.1 }) (fun ψ => [(0, .slice x_v0.1 v0.length x_v0.2)]) (fun ψ => []) ?_ ?_
  · refine Tr.block ?_
    refine tLoopC (ι := { q : Nat × (Int) × Unit // itr (p_impl_BlockOk_b0 v0) q.1 q.2.1 = some x1 }) (fun ζ => [(0, .slice x_v0.1 v0.length x_v0.2), (5, .slice x_v0.1 v0.length x_v0.2), (6, .int .i64 ((v0.length : Int))), (7, .int .i64 (ζ.1.2.1))]) (fun ζ => []) (fun ζ => ζ.1.1) ⟨(n3, 0, ()), hx2⟩ ⟨rfl, rfl, rfl, rfl, trivial⟩ Take.nil ?_
    rintro ⟨⟨m4, σ5, z6⟩, hk11⟩
    obtain ⟨m12, t8, e, H1, hi9, hb10⟩ := itr.of (n := m4) (s := σ5) hk11
    subst e; unfold p_impl_BlockOk_b0 at H1
    show Tr _ _ _ _ _ [(0, .slice x_v0.1 v0.length x_v0.2), (5, .slice x_v0.1 v0.length x_v0.2), (6, .int .i64 ((v0.length : Int))), (7, .int .i64 (σ5))] _ []
    refine Tr.seq ?_
    refine Tr.region ?_
    refine Rg.q (v := .bool (decide (σ5 < (v0.length : Int)))) (Pu.qo (p_lss rfl rfl)) (by decide) ?_
    refine Rg.nl ?_
    refine nT (?_)
    refine Tr.seq ?_
    refine Tr.cond (b := decide (σ5 < (v0.length : Int))) rfl (fun h13 => ?_) (fun h13 => ?_)
    · have H1 := cdT h13 H1
      refine tSkip ?_
      refine nT (?_)
      refine Tr.seq ?_
      refine Tr.block ?_
      refine Tr.seq ?_
      refine Tr.region ?_
      refine Rg.q (v := .int .i64 (σ5)) (Pu.qo (p_move rfl)) (by decide) ?_
      obtain ⟨h14, H1⟩ := gd.of H1
      refine Rg.q (v := elp x_v0.1 (σ5.toNat * Enc.sz Row + 0)) (q_ixg (l := v0) (E := fun i => Flat.enc (nth v0 i)) (oa := x_v0.1) Try.underlying29 ty68 rfl rfl h14 rfl (EntB.flat (Ent.b Ent.z))) (by decide) ?_
      refine Rg.q (v := .agg #[.int .i64 ((nth v0 σ5.toNat).1), .int .i64 ((nth v0 σ5.toNat).2)]) (q_ldeA (l := v0) (E := fun i => Flat.enc (nth v0 i)) (oa := x_v0.1) (i := σ5.toNat) ty68 rfl (EntB.flat (Ent.b Ent.z)) h14.lt) (by decide) ?_
      refine Rg.ed (e_alloc ty68) rfl (by decide) ?_
      rintro _ _ _ ⟨g15, rfl, rfl, rfl⟩
      refine Rg.q (v := .int .i64 (σ5)) (Pu.qo (p_assign rfl)) (by decide) ?_
      refine Rg.en (e_store (v := .agg #[.int .i64 ((nth v0 σ5.toNat).1), .int .i64 ((nth v0 σ5.toNat).2)]) (cs' := [.int .i64 ((nth v0 σ5.toNat).1), .int .i64 ((nth v0 σ5.toNat).2)]) ty68 rfl rfl Upd.here rfl (by simp [Value.cells, Value.oneCell']) (Nat.le_of_ble_eq_true rfl) rfl) rfl ?_
      rintro _ _ _ ⟨rfl, rfl, rfl⟩
      refine Rg.nl ?_
      refine nT (?_)
      obtain ⟨b16, j17, H1⟩ := bd.of H1
      refine tMid1 [(29, .bool (b16)), (0, .slice x_v0.1 v0.length x_v0.2), (5, .slice x_v0.1 v0.length x_v0.2), (6, .int .i64 ((v0.length : Int))), (7, .int .i64 (σ5))] ?_ ?_
      · refine tLinS [(3, .int .i64 (σ5)), (4, .pointer (some ⟨g15, 0, none⟩)), (0, .slice x_v0.1 v0.length x_v0.2), (5, .slice x_v0.1 v0.length x_v0.2), (6, .int .i64 ((v0.length : Int))), (7, .int .i64 (σ5))] Try.mixed (.inr (by kernel_rfl)) ⟨rfl, rfl, rfl, rfl, rfl, rfl, trivial⟩ rfl ?_
        refine Lin.q (v := .agg #[.int .i64 ((nth v0 σ5.toNat).1), .int .i64 ((nth v0 σ5.toNat).2)]) (by decide) (q_ldbA ty68 rfl Has.here rfl) ?_
        obtain ⟨r18, h19, j17⟩ := bd.of j17
        refine Lin.q (v := .bool (r18)) (by decide) (q_call (vs := [.agg #[.int .i64 ((nth v0 σ5.toNat).1), .int .i64 ((nth v0 σ5.toNat).2)]]) (c_impl_rowOk (nth v0 σ5.toNat) h19) rfl EntsB.nil) ?_
        refine Lin.q (v := .bool (!r18)) (by decide) (Pu.qo (p_not rfl)) ?_
        rcases Bool.eq_false_or_eq_true (!r18) with h20 | h20
        · have j17 := cdT h20 j17
          refine Lin.q (v := .bool (true)) (by decide) (Qo.eqv (v := .bool (!r18)) (Pu.qo (p_move rfl)) (congrArg Value.bool h20)) ?_
          refine Lin.skip (by decide) rfl ?_
          refine Lin.skip (by decide) rfl ?_
          refine Lin.skip (by decide) rfl ?_
          refine Lin.skip (by decide) rfl ?_
          refine Lin.skip (by decide) rfl ?_
          refine Lin.skip (by decide) rfl ?_
          refine Lin.skip (by decide) rfl ?_
          refine Lin.skip (by decide) rfl ?_
          refine Lin.skip (by decide) rfl ?_
          refine Lin.skip (by decide) rfl ?_
          refine Lin.skip (by decide) rfl ?_
          refine Lin.skip (by decide) rfl ?_
          refine Lin.skip (by decide) rfl ?_
          refine Lin.q (v := .bool (true)) (by decide) (Pu.qo (p_pickT rfl rfl)) ?_
          have j17 := Option.some.inj j17; subst j17
          show At _ _ _ _ _ _
          exact n1 ⟨rfl, rfl, rfl, rfl, rfl, trivial⟩
        · have j17 := cdF h20 j17
          refine Lin.q (v := .bool (false)) (by decide) (Qo.eqv (v := .bool (!r18)) (Pu.qo (p_move rfl)) (congrArg Value.bool h20)) ?_
          refine Lin.g (v := .int .i64 (σ5)) (by decide) rfl (Pu.qo (p_move rfl)) ?_
          refine Lin.g (v := .bool (decide (0 < σ5))) (by decide) rfl (Pu.qo (p_gtr rfl rfl)) ?_
          rcases Bool.eq_false_or_eq_true (decide (0 < σ5)) with h21 | h21
          · have j17 := cdT h21 j17
            refine Lin.g (v := .bool (true)) (by decide) rfl (Qo.eqv (v := .bool (decide (0 < σ5))) (Pu.qo (p_move rfl)) (congrArg Value.bool h21)) ?_
            refine Lin.g (v := .slice x_v0.1 v0.length x_v0.2) (by decide) rfl (Pu.qo (p_move rfl)) ?_
            refine Lin.g (v := .int .i64 (σ5)) (by decide) rfl (Pu.qo (p_move rfl)) ?_
            obtain ⟨h22, j17⟩ := gd.of j17
            refine Lin.g (v := .int .i64 (σ5 - 1)) (by decide) rfl (Pu.qo (p_sub rfl rfl h22)) ?_
            obtain ⟨h23, j17⟩ := gd.of j17
            refine Lin.g (v := elp x_v0.1 (((σ5 - 1).toNat) * Enc.sz Row + 0)) (by decide) rfl (q_ixg (l := v0) (E := fun i => Flat.enc (nth v0 i)) (oa := x_v0.1) Try.underlying29 ty68 rfl rfl h23 rfl (EntB.flat (Ent.b Ent.z))) ?_
            refine Lin.g (v := elp x_v0.1 (((σ5 - 1).toNat) * Enc.sz Row + 0)) (by decide) rfl (q_faeE (l := v0) (E := fun i => Flat.enc (nth v0 i)) (oa := x_v0.1) (j := 0) ((σ5 - 1).toNat) fa68_0 rfl (EntB.flat (Ent.b Ent.z)) h23.lt rfl) ?_
            refine Lin.g (v := .int .i64 ((nth v0 ((σ5 - 1).toNat)).1)) (by decide) rfl (q_lde (l := v0) (E := fun i => Flat.enc (nth v0 i)) (oa := x_v0.1) (i := (σ5 - 1).toNat) (j := 0) ty3 rfl (EntB.flat (Ent.b Ent.z)) h23.lt rfl) ?_
            refine Lin.g (v := .pointer (some ⟨g15, 0, none⟩)) (by decide) rfl (Pu.qo (p_fabE fa68_0 rfl rfl)) ?_
            refine Lin.g (v := .int .i64 ((nth v0 σ5.toNat).1)) (by decide) rfl (q_ldb ty3 rfl Has.here rfl) ?_
            refine Lin.g (v := .bool (decide (((nth v0 σ5.toNat).1) ≤ ((nth v0 ((σ5 - 1).toNat)).1)))) (by decide) rfl (Pu.qo (p_geq rfl rfl)) ?_
            refine Lin.g (v := .bool (decide (((nth v0 σ5.toNat).1) ≤ ((nth v0 ((σ5 - 1).toNat)).1)))) (by decide) rfl (Pu.qo (p_pickT rfl rfl)) ?_
            refine Lin.q (v := .bool (decide (((nth v0 σ5.toNat).1) ≤ ((nth v0 ((σ5 - 1).toNat)).1)))) (by decide) (Pu.qo (p_pickF rfl rfl)) ?_
            have j17 := Option.some.inj j17; subst j17
            show At _ _ _ _ _ _
            exact n1 ⟨rfl, rfl, rfl, rfl, rfl, trivial⟩
          · have j17 := cdF h21 j17
            refine Lin.g (v := .bool (false)) (by decide) rfl (Qo.eqv (v := .bool (decide (0 < σ5))) (Pu.qo (p_move rfl)) (congrArg Value.bool h21)) ?_
            refine Lin.skip (by decide) rfl ?_
            refine Lin.skip (by decide) rfl ?_
            refine Lin.skip (by decide) rfl ?_
            refine Lin.skip (by decide) rfl ?_
            refine Lin.skip (by decide) rfl ?_
            refine Lin.skip (by decide) rfl ?_
            refine Lin.skip (by decide) rfl ?_
            refine Lin.skip (by decide) rfl ?_
            refine Lin.skip (by decide) rfl ?_
            refine Lin.g (v := .bool (false)) (by decide) rfl (Pu.qo (p_pickF rfl rfl)) ?_
            refine Lin.q (v := .bool (false)) (by decide) (Pu.qo (p_pickF rfl rfl)) ?_
            have j17 := Option.some.inj j17; subst j17
            show At _ _ _ _ _ _
            exact n1 ⟨rfl, rfl, rfl, rfl, rfl, trivial⟩
      refine Tr.cond (b := b16) rfl (fun h24 => ?_) (fun h24 => ?_)
      · have H1 := cdT h24 H1
        refine Tr.seq ?_
        refine Tr.region ?_
        refine Rg.q (v := .bool (false)) (Pu.qo (p_assign rfl)) (by decide) ?_
        refine Rg.nl ?_
        refine nT (?_)
        refine tRet ?_
        refine rB (rT (rT (rB (rT (rT (?_))))))
        have hx := hb10 _ (Option.some.inj H1).symm; subst hx
        replace H := sw.r H
        have hr := Option.some.inj H; subst hr
        exact back1 () rfl (ResV.tmp (v := .bool (false)) rfl) rfl Ents.nil Take.nil
      · have H1 := cdF h24 H1
        refine tSkip ?_
        refine nB (nT (?_))
        refine Tr.region ?_
        obtain ⟨h25, H1⟩ := gd.of H1
        refine Rg.q (v := .int .i64 (σ5 + 1)) (Pu.qo (p_add rfl rfl h25)) (by decide) ?_
        refine Rg.q (v := .int .i64 (σ5 + 1)) (Pu.qo (p_move rfl)) (by decide) ?_
        refine Rg.nl ?_
        exact nLC ⟨(m12, σ5 + 1, ()), hi9 _ (Option.some.inj H1).symm⟩ (Nat.lt_succ_self _) ⟨rfl, rfl, rfl, rfl, trivial⟩ Ents.refl Take.nil
    · have H1 := cdF h13 H1
      refine tExit (xT (xT (xE (?_))))
      exact nMC ⟨((), ()), (hb10 _ (Option.some.inj H1).symm).symm⟩ ⟨rfl, trivial⟩ Ents.refl Take.nil
  · rintro ⟨⟨e26, y7⟩, hx⟩; subst hx; replace H := sw.l H
    show At _ _ [(0, .slice x_v0.1 v0.length x_v0.2)] _ [] _
    refine nT (?_)
    refine Tr.seq ?_
    refine Tr.region ?_
    refine Rg.q (v := .slice x_v0.1 v0.length x_v0.2) (Pu.qo (p_move rfl)) (by decide) ?_
    refine Rg.q (v := .int .i64 ((v0.length : Int))) (Pu.qo (p_len 68 Try.underlying29 rfl)) (by decide) ?_
    refine Rg.q (v := .bool (decide ((v0.length : Int) ≤ 24))) (Pu.qo (p_leq rfl rfl)) (by decide) ?_
    refine Rg.q (v := .bool (decide ((v0.length : Int) ≤ 24))) (Pu.qo (p_assign rfl)) (by decide) ?_
    refine Rg.nl ?_
    refine nT (?_)
    refine tRet ?_
    have hr := Option.some.inj H; subst hr
    exact back1 () rfl (ResV.tmp (v := .bool (decide ((v0.length : Int) ≤ 24))) rfl) rfl Ents.nil Take.nil
noncomputable def p_impl_PartOk_b0 (v0 : Part) (σ8 : Int) : Option ((Int) ⊕ (Unit ⊕ Bool)) := cond (decide (σ8 < (v0.1.length : Int))) (gd (ix σ8 v0.1.length) <| bd (bd (p_impl_within (nth v0.1 σ8.toNat) 1 6) fun r20 => cond (!r20) (some (true)) (cond (decide (0 < σ8)) (gd (I64 (σ8 - 1)) <| gd (ix (σ8 - 1) v0.1.length) <| cond (decide ((nth v0.1 σ8.toNat) ≤ (nth v0.1 ((σ8 - 1).toNat)))) (some (true)) (gd (ix σ8 v0.2.length) <| bd (p_impl_BlockOk (nth v0.2 σ8.toNat)) fun r28 => cond (!r28) (some (true)) (some (decide (((nth v0.2 σ8.toNat).length : Int) = 0))))) (gd (ix σ8 v0.2.length) <| bd (p_impl_BlockOk (nth v0.2 σ8.toNat)) fun r32 => cond (!r32) (some (true)) (some (decide (((nth v0.2 σ8.toNat).length : Int) = 0)))))) fun b18 => cond (b18) (some (.inr (.inr false))) (gd (I64 (σ8 + 1)) <| some (.inl (σ8 + 1)))) (some (.inr (.inl ())))
noncomputable def p_impl_PartOk (v0 : Part) : Option (Bool) := cond (!decide ((v0.1.length : Int) = (v0.2.length : Int))) (some false) (bd (lp (p_impl_PartOk_b0 v0) 0) <| sw (fun e37 => some true) (fun q => some q))
theorem c_impl_PartOk {r : Bool} (v0 : Part) (x_v0 : (Option Addr × Nat) × (Option Addr × Nat)) (H : p_impl_PartOk v0 = some r) : Fn' Try.prog 11 #[.agg #[.slice x_v0.1.1 v0.1.length x_v0.1.2, .slice x_v0.2.1 v0.2.length x_v0.2.2]] [imm (.slice x_v0.1.1 v0.1.length x_v0.1.2) v0.1, imm (.slice x_v0.2.1 v0.2.length x_v0.2.2) v0.2] [] (ι := Unit) (fun x => .bool (r)) (fun _ => []) (fun x => []) := by
  refine calls_of (args := [_]) Try.func11 rfl (by kernel_rfl) Try.ntmps11 (by simp) fun c => ?_
  unfold p_impl_PartOk at H
  refine Tr.openD Ent.z.s fun X1 => ?_
  refine Tr.seq ?_
  refine Tr.region ?_
  refine Rg.ed (e_box (t := 26) (v := .agg #[.slice x_v0.1.1 v0.1.length x_v0.1.2, .slice x_v0.2.1 v0.2.length x_v0.2.2]) rfl) rfl (by decide) ?_
  rintro _ _ _ ⟨g2, rfl, rfl, rfl⟩
  refine Rg.q (v := .bool (false)) (Pu.qo (p_assign rfl)) (by decide) ?_
  refine Rg.nl ?_
  refine nT (?_)
  refine Tr.seq ?_
  refine Tr.seq ?_
  refine Tr.region ?_
  refine Rg.q (v := .pointer (some ⟨g2, 0, none⟩)) (Pu.qo (p_fabE fa26_0 rfl rfl)) (by decide) ?_
  refine Rg.q (v := .slice x_v0.1.1 v0.1.length x_v0.1.2) (q_ldb ty23 rfl Has.here rfl) (by decide) ?_
  refine Rg.q (v := .int .i64 ((v0.1.length : Int))) (Pu.qo (p_len 3 Try.underlying23 rfl)) (by decide) ?_
  refine Rg.q (v := .pointer (some ⟨g2, 1, none⟩)) (Pu.qo (p_fabE fa26_1 rfl rfl)) (by decide) ?_
  refine Rg.q (v := .slice x_v0.2.1 v0.2.length x_v0.2.2) (q_ldb ty24 rfl Has.here rfl) (by decide) ?_
  refine Rg.q (v := .int .i64 ((v0.2.length : Int))) (Pu.qo (p_len 29 Try.underlying24 rfl)) (by decide) ?_
  refine Rg.q (v := .bool (!decide ((v0.1.length : Int) = (v0.2.length : Int)))) (Pu.qo (p_neq rfl rfl)) (by decide) ?_
  refine Rg.nl ?_
  refine nT (?_)
  refine Tr.cond (b := !decide ((v0.1.length : Int) = (v0.2.length : Int))) rfl (fun h3 => ?_) (fun h3 => ?_)
  · have H := cdT h3 H
    refine Tr.seq ?_
    refine Tr.region ?_
    refine Rg.q (v := .bool (false)) (Pu.qo (p_assign rfl)) (by decide) ?_
    refine Rg.nl ?_
    refine nT (?_)
    refine tRet ?_
    refine rT (?_)
    have hr := Option.some.inj H; subst hr
    exact back1 () rfl (ResV.tmp (v := .bool (false)) rfl) rfl Ents.nil Take.nil
  · have H := cdF h3 H
    refine tSkip ?_
    refine nT (?_)
    refine Tr.seq ?_
    refine Tr.seq ?_
    refine Tr.region ?_
    refine Rg.q (v := .pointer (some ⟨g2, 0, none⟩)) (Pu.qo (p_fabE fa26_0 rfl rfl)) (by decide) ?_
    refine Rg.q (v := .slice x_v0.1.1 v0.1.length x_v0.1.2) (q_ldb ty23 rfl Has.here rfl) (by decide) ?_
    refine Rg.q (v := .int .i64 ((v0.1.length : Int))) (Pu.qo (p_len 3 Try.underlying23 rfl)) (by decide) ?_
    refine Rg.q (v := .int .i64 (0)) (Pu.qo (p_move rfl)) (by decide) ?_
    refine Rg.nl ?_
    refine nT (?_)
    obtain ⟨x4, hx5, H⟩ := bd.of H
    obtain ⟨n6, hx5⟩ := lp.of hx5
    refine tMidNC (ι := { q : (Unit) × Unit // x4 = .inl q.1 }) (fun ψ => []) (fun ψ => []) ?_ ?_
    · refine Tr.block ?_
      refine tLoopC (ι := { q : Nat × (Int) × Unit // itr (p_impl_PartOk_b0 v0) q.1 q.2.1 = some x4 }) (fun ζ => [(1, .pointer (some ⟨g2, 0, none⟩)), (13, .slice x_v0.1.1 v0.1.length x_v0.1.2), (14, .int .i64 ((v0.1.length : Int))), (15, .int .i64 (ζ.1.2.1))]) (fun ζ => [box g2 26 [.slice x_v0.1.1 v0.1.length x_v0.1.2, .slice x_v0.2.1 v0.2.length x_v0.2.2]]) (fun ζ => ζ.1.1) ⟨(n6, 0, ()), hx5⟩ ⟨rfl, rfl, rfl, rfl, trivial⟩ (.cons Del.here .nil) ?_
      rintro ⟨⟨m7, σ8, z9⟩, hk14⟩
      obtain ⟨m15, t11, e, H1, hi12, hb13⟩ := itr.of (n := m7) (s := σ8) hk14
      subst e; unfold p_impl_PartOk_b0 at H1
      show Tr _ _ _ _ _ [(1, .pointer (some ⟨g2, 0, none⟩)), (13, .slice x_v0.1.1 v0.1.length x_v0.1.2), (14, .int .i64 ((v0.1.length : Int))), (15, .int .i64 (σ8))] _ [box g2 26 [.slice x_v0.1.1 v0.1.length x_v0.1.2, .slice x_v0.2.1 v0.2.length x_v0.2.2]]
      refine Tr.seq ?_
      refine Tr.region ?_
      refine Rg.q (v := .bool (decide (σ8 < (v0.1.length : Int)))) (Pu.qo (p_lss rfl rfl)) (by decide) ?_
      refine Rg.nl ?_
      refine nT (?_)
      refine Tr.seq ?_
      refine Tr.cond (b := decide (σ8 < (v0.1.length : Int))) rfl (fun h16 => ?_) (fun h16 => ?_)
      · have H1 := cdT h16 H1
        refine tSkip ?_
        refine nT (?_)
        refine Tr.seq ?_
        refine Tr.block ?_
        refine Tr.seq ?_
        refine Tr.region ?_
        refine Rg.q (v := .int .i64 (σ8)) (Pu.qo (p_move rfl)) (by decide) ?_
        obtain ⟨h17, H1⟩ := gd.of H1
        refine Rg.q (v := elp x_v0.1.1 (σ8.toNat * Enc.sz Int + 0)) (q_ixg (l := v0.1) (E := fun i => Flat.enc (nth v0.1 i)) (oa := x_v0.1.1) Try.underlying23 ty3 rfl rfl h17 rfl (EntB.flat (Ent.b Ent.z.s))) (by decide) ?_
        refine Rg.q (v := .int .i64 (nth v0.1 σ8.toNat)) (q_lde (l := v0.1) (E := fun i => Flat.enc (nth v0.1 i)) (oa := x_v0.1.1) (i := σ8.toNat) (j := 0) ty3 rfl (EntB.flat (Ent.b Ent.z.s)) h17.lt rfl) (by decide) ?_
        refine Rg.q (v := .int .i64 (σ8)) (Pu.qo (p_assign rfl)) (by decide) ?_
        refine Rg.q (v := .int .i64 (nth v0.1 σ8.toNat)) (Pu.qo (p_assign rfl)) (by decide) ?_
        refine Rg.nl ?_
        refine nT (?_)
        obtain ⟨b18, j19, H1⟩ := bd.of H1
        refine tMid1 [(54, .bool (b18)), (1, .pointer (some ⟨g2, 0, none⟩)), (13, .slice x_v0.1.1 v0.1.length x_v0.1.2), (14, .int .i64 ((v0.1.length : Int))), (15, .int .i64 (σ8))] ?_ ?_
        · refine tLinS [(4, .int .i64 (nth v0.1 σ8.toNat)), (3, .int .i64 (σ8)), (1, .pointer (some ⟨g2, 0, none⟩)), (13, .slice x_v0.1.1 v0.1.length x_v0.1.2), (14, .int .i64 ((v0.1.length : Int))), (15, .int .i64 (σ8))] Try.mixed (.inl rfl) ⟨rfl, rfl, rfl, rfl, rfl, rfl, trivial⟩ rfl ?_
          refine Lin.q (v := .int .i64 (nth v0.1 σ8.toNat)) (by decide) (Pu.qo (p_move rfl)) ?_
          obtain ⟨r20, h21, j19⟩ := bd.of j19
          refine Lin.q (v := .bool (r20)) (by decide) (q_call (vs := [.int .i64 (nth v0.1 σ8.toNat), .int .i64 (1), .int .i64 (6)]) (c_impl_within (nth v0.1 σ8.toNat) 1 6 h21) rfl EntsB.nil) ?_
          refine Lin.q (v := .bool (!r20)) (by decide) (Pu.qo (p_not rfl)) ?_
          rcases Bool.eq_false_or_eq_true (!r20) with h22 | h22
          · have j19 := cdT h22 j19
            refine Lin.q (v := .bool (true)) (by decide) (Qo.eqv (v := .bool (!r20)) (Pu.qo (p_move rfl)) (congrArg Value.bool h22)) ?_
            refine Lin.skip (by decide) rfl ?_
            refine Lin.skip (by decide) rfl ?_
            refine Lin.skip (by decide) rfl ?_
            refine Lin.skip (by decide) rfl ?_
            refine Lin.skip (by decide) rfl ?_
            refine Lin.skip (by decide) rfl ?_
            refine Lin.skip (by decide) rfl ?_
            refine Lin.skip (by decide) rfl ?_
            refine Lin.skip (by decide) rfl ?_
            refine Lin.skip (by decide) rfl ?_
            refine Lin.skip (by decide) rfl ?_
            refine Lin.skip (by decide) rfl ?_
            refine Lin.q (v := .bool (true)) (by decide) (Pu.qo (p_pickT rfl rfl)) ?_
            refine Lin.q (v := .bool (true)) (by decide) (Pu.qo (p_move rfl)) ?_
            refine Lin.skip (by decide) rfl ?_
            refine Lin.skip (by decide) rfl ?_
            refine Lin.skip (by decide) rfl ?_
            refine Lin.skip (by decide) rfl ?_
            refine Lin.skip (by decide) rfl ?_
            refine Lin.skip (by decide) rfl ?_
            refine Lin.skip (by decide) rfl ?_
            refine Lin.q (v := .bool (true)) (by decide) (Pu.qo (p_pickT rfl rfl)) ?_
            refine Lin.q (v := .bool (true)) (by decide) (Pu.qo (p_move rfl)) ?_
            refine Lin.skip (by decide) rfl ?_
            refine Lin.skip (by decide) rfl ?_
            refine Lin.skip (by decide) rfl ?_
            refine Lin.skip (by decide) rfl ?_
            refine Lin.skip (by decide) rfl ?_
            refine Lin.skip (by decide) rfl ?_
            refine Lin.skip (by decide) rfl ?_
            refine Lin.q (v := .bool (true)) (by decide) (Pu.qo (p_pickT rfl rfl)) ?_
            have j19 := Option.some.inj j19; subst j19
            show At _ _ _ _ _ _
            exact n1 ⟨rfl, rfl, rfl, rfl, rfl, trivial⟩
          · have j19 := cdF h22 j19
            refine Lin.q (v := .bool (false)) (by decide) (Qo.eqv (v := .bool (!r20)) (Pu.qo (p_move rfl)) (congrArg Value.bool h22)) ?_
            refine Lin.g (v := .int .i64 (σ8)) (by decide) rfl (Pu.qo (p_move rfl)) ?_
            refine Lin.g (v := .bool (decide (0 < σ8))) (by decide) rfl (Pu.qo (p_gtr rfl rfl)) ?_
            rcases Bool.eq_false_or_eq_true (decide (0 < σ8)) with h23 | h23
            · have j19 := cdT h23 j19
              refine Lin.g (v := .bool (true)) (by decide) rfl (Qo.eqv (v := .bool (decide (0 < σ8))) (Pu.qo (p_move rfl)) (congrArg Value.bool h23)) ?_
              refine Lin.g (v := .pointer (some ⟨g2, 0, none⟩)) (by decide) rfl (Pu.qo (p_fabE fa26_0 rfl rfl)) ?_
              refine Lin.g (v := .slice x_v0.1.1 v0.1.length x_v0.1.2) (by decide) rfl (q_ldb ty23 rfl Has.here rfl) ?_
              refine Lin.g (v := .int .i64 (σ8)) (by decide) rfl (Pu.qo (p_move rfl)) ?_
              obtain ⟨h24, j19⟩ := gd.of j19
              refine Lin.g (v := .int .i64 (σ8 - 1)) (by decide) rfl (Pu.qo (p_sub rfl rfl h24)) ?_
              obtain ⟨h25, j19⟩ := gd.of j19
              refine Lin.g (v := elp x_v0.1.1 (((σ8 - 1).toNat) * Enc.sz Int + 0)) (by decide) rfl (q_ixg (l := v0.1) (E := fun i => Flat.enc (nth v0.1 i)) (oa := x_v0.1.1) Try.underlying23 ty3 rfl rfl h25 rfl (EntB.flat (Ent.b Ent.z.s))) ?_
              refine Lin.g (v := .int .i64 (nth v0.1 ((σ8 - 1).toNat))) (by decide) rfl (q_lde (l := v0.1) (E := fun i => Flat.enc (nth v0.1 i)) (oa := x_v0.1.1) (i := (σ8 - 1).toNat) (j := 0) ty3 rfl (EntB.flat (Ent.b Ent.z.s)) h25.lt rfl) ?_
              refine Lin.g (v := .int .i64 (nth v0.1 σ8.toNat)) (by decide) rfl (Pu.qo (p_move rfl)) ?_
              refine Lin.g (v := .bool (decide ((nth v0.1 σ8.toNat) ≤ (nth v0.1 ((σ8 - 1).toNat))))) (by decide) rfl (Pu.qo (p_geq rfl rfl)) ?_
              refine Lin.g (v := .bool (decide ((nth v0.1 σ8.toNat) ≤ (nth v0.1 ((σ8 - 1).toNat))))) (by decide) rfl (Pu.qo (p_pickT rfl rfl)) ?_
              refine Lin.q (v := .bool (decide ((nth v0.1 σ8.toNat) ≤ (nth v0.1 ((σ8 - 1).toNat))))) (by decide) (Pu.qo (p_pickF rfl rfl)) ?_
              rcases Bool.eq_false_or_eq_true (decide ((nth v0.1 σ8.toNat) ≤ (nth v0.1 ((σ8 - 1).toNat)))) with h26 | h26
              · have j19 := cdT h26 j19
                refine Lin.q (v := .bool (true)) (by decide) (Qo.eqv (v := .bool (decide ((nth v0.1 σ8.toNat) ≤ (nth v0.1 ((σ8 - 1).toNat))))) (Pu.qo (p_move rfl)) (congrArg Value.bool h26)) ?_
                refine Lin.skip (by decide) rfl ?_
                refine Lin.skip (by decide) rfl ?_
                refine Lin.skip (by decide) rfl ?_
                refine Lin.skip (by decide) rfl ?_
                refine Lin.skip (by decide) rfl ?_
                refine Lin.skip (by decide) rfl ?_
                refine Lin.skip (by decide) rfl ?_
                refine Lin.q (v := .bool (true)) (by decide) (Pu.qo (p_pickT rfl rfl)) ?_
                refine Lin.q (v := .bool (true)) (by decide) (Pu.qo (p_move rfl)) ?_
                refine Lin.skip (by decide) rfl ?_
                refine Lin.skip (by decide) rfl ?_
                refine Lin.skip (by decide) rfl ?_
                refine Lin.skip (by decide) rfl ?_
                refine Lin.skip (by decide) rfl ?_
                refine Lin.skip (by decide) rfl ?_
                refine Lin.skip (by decide) rfl ?_
                refine Lin.q (v := .bool (true)) (by decide) (Pu.qo (p_pickT rfl rfl)) ?_
                have j19 := Option.some.inj j19; subst j19
                show At _ _ _ _ _ _
                exact n1 ⟨rfl, rfl, rfl, rfl, rfl, trivial⟩
              · have j19 := cdF h26 j19
                refine Lin.q (v := .bool (false)) (by decide) (Qo.eqv (v := .bool (decide ((nth v0.1 σ8.toNat) ≤ (nth v0.1 ((σ8 - 1).toNat))))) (Pu.qo (p_move rfl)) (congrArg Value.bool h26)) ?_
                refine Lin.g (v := .pointer (some ⟨g2, 1, none⟩)) (by decide) rfl (Pu.qo (p_fabE fa26_1 rfl rfl)) ?_
                refine Lin.g (v := .slice x_v0.2.1 v0.2.length x_v0.2.2) (by decide) rfl (q_ldb ty24 rfl Has.here rfl) ?_
                refine Lin.g (v := .int .i64 (σ8)) (by decide) rfl (Pu.qo (p_move rfl)) ?_
                obtain ⟨h27, j19⟩ := gd.of j19
                refine Lin.g (v := elp x_v0.2.1 (σ8.toNat * Enc.sz (List Row) + 0)) (by decide) rfl (q_ixg (l := v0.2) (E := fun i => Dp.denc (nth v0.2 i) (X1 i)) (oa := x_v0.2.1) Try.underlying24 ty29 rfl rfl h27 rfl (Ent.b (Ent.darr Ent.z))) ?_
                refine Lin.g (v := .slice ((X1 σ8.toNat).1) ((nth v0.2 σ8.toNat).length) ((X1 σ8.toNat).2.1)) (by decide) rfl (q_lde (l := v0.2) (E := fun i => Dp.denc (nth v0.2 i) (X1 i)) (oa := x_v0.2.1) (i := σ8.toNat) (j := 0) ty29 rfl (Ent.b (Ent.darr Ent.z)) h27.lt rfl) ?_
                obtain ⟨r28, h29, j19⟩ := bd.of j19
                refine Lin.g (v := .bool (r28)) (by decide) rfl (q_call (vs := [.slice ((X1 σ8.toNat).1) ((nth v0.2 σ8.toNat).length) ((X1 σ8.toNat).2.1)]) (c_impl_BlockOk (nth v0.2 σ8.toNat) ((X1 σ8.toNat).1, (X1 σ8.toNat).2.1) h29) rfl (EntsB.cons (Ent.b (Ent.dimm (Ent.del Ent.z h27.lt))) EntsB.nil)) ?_
                refine Lin.g (v := .bool (!r28)) (by decide) rfl (Pu.qo (p_not rfl)) ?_
                refine Lin.q (v := .bool (!r28)) (by decide) (Pu.qo (p_pickF rfl rfl)) ?_
                rcases Bool.eq_false_or_eq_true (!r28) with h30 | h30
                · have j19 := cdT h30 j19
                  refine Lin.q (v := .bool (true)) (by decide) (Qo.eqv (v := .bool (!r28)) (Pu.qo (p_move rfl)) (congrArg Value.bool h30)) ?_
                  refine Lin.skip (by decide) rfl ?_
                  refine Lin.skip (by decide) rfl ?_
                  refine Lin.skip (by decide) rfl ?_
                  refine Lin.skip (by decide) rfl ?_
                  refine Lin.skip (by decide) rfl ?_
                  refine Lin.skip (by decide) rfl ?_
                  refine Lin.skip (by decide) rfl ?_
                  refine Lin.q (v := .bool (true)) (by decide) (Pu.qo (p_pickT rfl rfl)) ?_
                  have j19 := Option.some.inj j19; subst j19
                  show At _ _ _ _ _ _
                  exact n1 ⟨rfl, rfl, rfl, rfl, rfl, trivial⟩
                · have j19 := cdF h30 j19
                  refine Lin.q (v := .bool (false)) (by decide) (Qo.eqv (v := .bool (!r28)) (Pu.qo (p_move rfl)) (congrArg Value.bool h30)) ?_
                  refine Lin.g (v := .pointer (some ⟨g2, 1, none⟩)) (by decide) rfl (Pu.qo (p_fabE fa26_1 rfl rfl)) ?_
                  refine Lin.g (v := .slice x_v0.2.1 v0.2.length x_v0.2.2) (by decide) rfl (q_ldb ty24 rfl Has.here rfl) ?_
                  refine Lin.g (v := .int .i64 (σ8)) (by decide) rfl (Pu.qo (p_move rfl)) ?_
                  refine Lin.g (v := elp x_v0.2.1 (σ8.toNat * Enc.sz (List Row) + 0)) (by decide) rfl (q_ixg (l := v0.2) (E := fun i => Dp.denc (nth v0.2 i) (X1 i)) (oa := x_v0.2.1) Try.underlying24 ty29 rfl rfl h27 rfl (Ent.b (Ent.darr Ent.z))) ?_
                  refine Lin.g (v := .slice ((X1 σ8.toNat).1) ((nth v0.2 σ8.toNat).length) ((X1 σ8.toNat).2.1)) (by decide) rfl (q_lde (l := v0.2) (E := fun i => Dp.denc (nth v0.2 i) (X1 i)) (oa := x_v0.2.1) (i := σ8.toNat) (j := 0) ty29 rfl (Ent.b (Ent.darr Ent.z)) h27.lt rfl) ?_
                  refine Lin.g (v := .int .i64 (((nth v0.2 σ8.toNat).length : Int))) (by decide) rfl (Pu.qo (p_len 68 Try.underlying29 rfl)) ?_
                  refine Lin.g (v := .bool (decide (((nth v0.2 σ8.toNat).length : Int) = 0))) (by decide) rfl (Pu.qo (p_eql rfl rfl)) ?_
                  refine Lin.q (v := .bool (decide (((nth v0.2 σ8.toNat).length : Int) = 0))) (by decide) (Pu.qo (p_pickF rfl rfl)) ?_
                  have j19 := Option.some.inj j19; subst j19
                  show At _ _ _ _ _ _
                  exact n1 ⟨rfl, rfl, rfl, rfl, rfl, trivial⟩
            · have j19 := cdF h23 j19
              refine Lin.g (v := .bool (false)) (by decide) rfl (Qo.eqv (v := .bool (decide (0 < σ8))) (Pu.qo (p_move rfl)) (congrArg Value.bool h23)) ?_
              refine Lin.skip (by decide) rfl ?_
              refine Lin.skip (by decide) rfl ?_
              refine Lin.skip (by decide) rfl ?_
              refine Lin.skip (by decide) rfl ?_
              refine Lin.skip (by decide) rfl ?_
              refine Lin.skip (by decide) rfl ?_
              refine Lin.skip (by decide) rfl ?_
              refine Lin.skip (by decide) rfl ?_
              refine Lin.g (v := .bool (false)) (by decide) rfl (Pu.qo (p_pickF rfl rfl)) ?_
              refine Lin.q (v := .bool (false)) (by decide) (Pu.qo (p_pickF rfl rfl)) ?_
              refine Lin.q (v := .bool (false)) (by decide) (Pu.qo (p_move rfl)) ?_
              refine Lin.g (v := .pointer (some ⟨g2, 1, none⟩)) (by decide) rfl (Pu.qo (p_fabE fa26_1 rfl rfl)) ?_
              refine Lin.g (v := .slice x_v0.2.1 v0.2.length x_v0.2.2) (by decide) rfl (q_ldb ty24 rfl Has.here rfl) ?_
              refine Lin.g (v := .int .i64 (σ8)) (by decide) rfl (Pu.qo (p_move rfl)) ?_
              obtain ⟨h31, j19⟩ := gd.of j19
              refine Lin.g (v := elp x_v0.2.1 (σ8.toNat * Enc.sz (List Row) + 0)) (by decide) rfl (q_ixg (l := v0.2) (E := fun i => Dp.denc (nth v0.2 i) (X1 i)) (oa := x_v0.2.1) Try.underlying24 ty29 rfl rfl h31 rfl (Ent.b (Ent.darr Ent.z))) ?_
              refine Lin.g (v := .slice ((X1 σ8.toNat).1) ((nth v0.2 σ8.toNat).length) ((X1 σ8.toNat).2.1)) (by decide) rfl (q_lde (l := v0.2) (E := fun i => Dp.denc (nth v0.2 i) (X1 i)) (oa := x_v0.2.1) (i := σ8.toNat) (j := 0) ty29 rfl (Ent.b (Ent.darr Ent.z)) h31.lt rfl) ?_
              obtain ⟨r32, h33, j19⟩ := bd.of j19
              refine Lin.g (v := .bool (r32)) (by decide) rfl (q_call (vs := [.slice ((X1 σ8.toNat).1) ((nth v0.2 σ8.toNat).length) ((X1 σ8.toNat).2.1)]) (c_impl_BlockOk (nth v0.2 σ8.toNat) ((X1 σ8.toNat).1, (X1 σ8.toNat).2.1) h33) rfl (EntsB.cons (Ent.b (Ent.dimm (Ent.del Ent.z h31.lt))) EntsB.nil)) ?_
              refine Lin.g (v := .bool (!r32)) (by decide) rfl (Pu.qo (p_not rfl)) ?_
              refine Lin.q (v := .bool (!r32)) (by decide) (Pu.qo (p_pickF rfl rfl)) ?_
              rcases Bool.eq_false_or_eq_true (!r32) with h34 | h34
              · have j19 := cdT h34 j19
                refine Lin.q (v := .bool (true)) (by decide) (Qo.eqv (v := .bool (!r32)) (Pu.qo (p_move rfl)) (congrArg Value.bool h34)) ?_
                refine Lin.skip (by decide) rfl ?_
                refine Lin.skip (by decide) rfl ?_
                refine Lin.skip (by decide) rfl ?_
                refine Lin.skip (by decide) rfl ?_
                refine Lin.skip (by decide) rfl ?_
                refine Lin.skip (by decide) rfl ?_
                refine Lin.skip (by decide) rfl ?_
                refine Lin.q (v := .bool (true)) (by decide) (Pu.qo (p_pickT rfl rfl)) ?_
                have j19 := Option.some.inj j19; subst j19
                show At _ _ _ _ _ _
                exact n1 ⟨rfl, rfl, rfl, rfl, rfl, trivial⟩
              · have j19 := cdF h34 j19
                refine Lin.q (v := .bool (false)) (by decide) (Qo.eqv (v := .bool (!r32)) (Pu.qo (p_move rfl)) (congrArg Value.bool h34)) ?_
                refine Lin.g (v := .pointer (some ⟨g2, 1, none⟩)) (by decide) rfl (Pu.qo (p_fabE fa26_1 rfl rfl)) ?_
                refine Lin.g (v := .slice x_v0.2.1 v0.2.length x_v0.2.2) (by decide) rfl (q_ldb ty24 rfl Has.here rfl) ?_
                refine Lin.g (v := .int .i64 (σ8)) (by decide) rfl (Pu.qo (p_move rfl)) ?_
                refine Lin.g (v := elp x_v0.2.1 (σ8.toNat * Enc.sz (List Row) + 0)) (by decide) rfl (q_ixg (l := v0.2) (E := fun i => Dp.denc (nth v0.2 i) (X1 i)) (oa := x_v0.2.1) Try.underlying24 ty29 rfl rfl h31 rfl (Ent.b (Ent.darr Ent.z))) ?_
                refine Lin.g (v := .slice ((X1 σ8.toNat).1) ((nth v0.2 σ8.toNat).length) ((X1 σ8.toNat).2.1)) (by decide) rfl (q_lde (l := v0.2) (E := fun i => Dp.denc (nth v0.2 i) (X1 i)) (oa := x_v0.2.1) (i := σ8.toNat) (j := 0) ty29 rfl (Ent.b (Ent.darr Ent.z)) h31.lt rfl) ?_
                refine Lin.g (v := .int .i64 (((nth v0.2 σ8.toNat).length : Int))) (by decide) rfl (Pu.qo (p_len 68 Try.underlying29 rfl)) ?_
                refine Lin.g (v := .bool (decide (((nth v0.2 σ8.toNat).length : Int) = 0))) (by decide) rfl (Pu.qo (p_eql rfl rfl)) ?_
                refine Lin.q (v := .bool (decide (((nth v0.2 σ8.toNat).length : Int) = 0))) (by decide) (Pu.qo (p_pickF rfl rfl)) ?_
                have j19 := Option.some.inj j19; subst j19
                show At _ _ _ _ _ _
                exact n1 ⟨rfl, rfl, rfl, rfl, rfl, trivial⟩
        refine Tr.cond (b := b18) rfl (fun h35 => ?_) (fun h35 => ?_)
        · have H1 := cdT h35 H1
          refine Tr.seq ?_
          refine Tr.region ?_
          refine Rg.q (v := .bool (false)) (Pu.qo (p_assign rfl)) (by decide) ?_
          refine Rg.nl ?_
          refine nT (?_)
          refine tRet ?_
          refine rB (rT (rT (rB (rT (rT (?_))))))
          have hx := hb13 _ (Option.some.inj H1).symm; subst hx
          replace H := sw.r H
          have hr := Option.some.inj H; subst hr
          exact back1 () rfl (ResV.tmp (v := .bool (false)) rfl) rfl Ents.nil Take.nil
        · have H1 := cdF h35 H1
          refine tSkip ?_
          refine nB (nT (?_))
          refine Tr.region ?_
          obtain ⟨h36, H1⟩ := gd.of H1
          refine Rg.q (v := .int .i64 (σ8 + 1)) (Pu.qo (p_add rfl rfl h36)) (by decide) ?_
          refine Rg.q (v := .int .i64 (σ8 + 1)) (Pu.qo (p_move rfl)) (by decide) ?_
          refine Rg.nl ?_
          exact nLC ⟨(m15, σ8 + 1, ()), hi12 _ (Option.some.inj H1).symm⟩ (Nat.lt_succ_self _) ⟨rfl, rfl, rfl, rfl, trivial⟩ Ents.refl (.cons Del.here .nil)
      · have H1 := cdF h16 H1
        refine tExit (xT (xT (xE (?_))))
        exact nMC ⟨((), ()), (hb13 _ (Option.some.inj H1).symm).symm⟩ trivial Ents.refl Take.nil
    · rintro ⟨⟨e37, y10⟩, hx⟩; subst hx; replace H := sw.l H
      show At _ _ [] _ [] _
      refine nT (?_)
      refine Tr.seq ?_
      refine Tr.region ?_
      refine Rg.q (v := .bool (true)) (Pu.qo (p_assign rfl)) (by decide) ?_
      refine Rg.nl ?_
      refine nT (?_)
      refine tRet ?_
      have hr := Option.some.inj H; subst hr
      exact back1 () rfl (ResV.tmp (v := .bool (true)) rfl) rfl Ents.nil Take.nil
def p_spec_l6In (v0 : Int) (v1 : Int) (v2 : Int) : Option (Bool) := bd (cond (decide (v1 ≤ v0)) (some (decide (v0 ≤ v2))) (some (false))) fun b1 => some b1
theorem c_spec_l6In {r : Bool} (v0 : Int) (v1 : Int) (v2 : Int) (H : p_spec_l6In v0 v1 v2 = some r) : Fn' Try.prog 41 #[.int .i64 (v0), .int .i64 (v1), .int .i64 (v2)] [] [] (ι := Unit) (fun x => .bool (r)) (fun _ => []) (fun x => []) := by
  refine calls_of (args := [_, _, _]) Try.func41 rfl (by kernel_rfl) Try.ntmps41 (by simp) fun c => ?_
  unfold p_spec_l6In at H
  refine Tr.seq ?_
  refine Tr.region ?_
  refine Rg.q (v := .bool (false)) (Pu.qo (p_assign rfl)) (by decide) ?_
  refine Rg.nl ?_
  refine nT (?_)
  obtain ⟨b1, j2, H⟩ := bd.of H
  refine tMid1 [(6, .bool (b1))] ?_ ?_
  · refine tLinS [(0, .int .i64 (v0)), (1, .int .i64 (v1)), (2, .int .i64 (v2))] Try.mixed (.inl rfl) ⟨rfl, rfl, rfl, trivial⟩ rfl ?_
    refine Lin.q (v := .int .i64 (v0)) (by decide) (Pu.qo (p_move rfl)) ?_
    refine Lin.q (v := .int .i64 (v1)) (by decide) (Pu.qo (p_move rfl)) ?_
    refine Lin.q (v := .bool (decide (v1 ≤ v0))) (by decide) (Pu.qo (p_geq rfl rfl)) ?_
    rcases Bool.eq_false_or_eq_true (decide (v1 ≤ v0)) with h3 | h3
    · have j2 := cdT h3 j2
      refine Lin.q (v := .bool (true)) (by decide) (Qo.eqv (v := .bool (decide (v1 ≤ v0))) (Pu.qo (p_move rfl)) (congrArg Value.bool h3)) ?_
      refine Lin.g (v := .int .i64 (v0)) (by decide) rfl (Pu.qo (p_move rfl)) ?_
      refine Lin.g (v := .int .i64 (v2)) (by decide) rfl (Pu.qo (p_move rfl)) ?_
      refine Lin.g (v := .bool (decide (v0 ≤ v2))) (by decide) rfl (Pu.qo (p_leq rfl rfl)) ?_
      refine Lin.q (v := .bool (decide (v0 ≤ v2))) (by decide) (Pu.qo (p_pickT rfl rfl)) ?_
      refine Lin.q (v := .bool (decide (v0 ≤ v2))) (by decide) (Pu.qo (p_assign rfl)) ?_
      have j2 := Option.some.inj j2; subst j2
      show At _ _ _ _ _ _
      exact n1 ⟨rfl, trivial⟩
    · have j2 := cdF h3 j2
      refine Lin.q (v := .bool (false)) (by decide) (Qo.eqv (v := .bool (decide (v1 ≤ v0))) (Pu.qo (p_move rfl)) (congrArg Value.bool h3)) ?_
      refine Lin.skip (by decide) rfl ?_
      refine Lin.skip (by decide) rfl ?_
      refine Lin.skip (by decide) rfl ?_
      refine Lin.q (v := .bool (false)) (by decide) (Pu.qo (p_pickF rfl rfl)) ?_
      refine Lin.q (v := .bool (false)) (by decide) (Pu.qo (p_assign rfl)) ?_
      have j2 := Option.some.inj j2; subst j2
      show At _ _ _ _ _ _
      exact n1 ⟨rfl, trivial⟩
  refine tRet ?_
  have hr := Option.some.inj H; subst hr
  exact back1 () rfl (ResV.tmp (v := .bool (b1)) rfl) rfl Ents.nil Take.nil
def p_spec_l2Row (v0 : Row) : Option (Bool) := bd (bd (p_spec_l6In v0.1 0 99) fun r4 => cond (r4) (bd (p_spec_l6In v0.2 (-99) 99) fun r7 => some (r7)) (some (false))) fun b2 => some b2
theorem c_spec_l2Row {r : Bool} (v0 : Row) (H : p_spec_l2Row v0 = some r) : Fn' Try.prog 65 #[.agg #[.int .i64 (v0.1), .int .i64 (v0.2)]] [] [] (ι := Unit) (fun x => .bool (r)) (fun _ => []) (fun x => []) := by
  refine calls_of (args := [_]) Try.func65 rfl (by kernel_rfl) Try.ntmps65 (by simp) fun c => ?_
  unfold p_spec_l2Row at H
  refine Tr.seq ?_
  refine Tr.region ?_
  refine Rg.ed (e_box (t := 68) (v := .agg #[.int .i64 (v0.1), .int .i64 (v0.2)]) rfl) rfl (by decide) ?_
  rintro _ _ _ ⟨g1, rfl, rfl, rfl⟩
  refine Rg.q (v := .bool (false)) (Pu.qo (p_assign rfl)) (by decide) ?_
  refine Rg.nl ?_
  refine nT (?_)
  obtain ⟨b2, j3, H⟩ := bd.of H
  refine tMid1 [(2, .bool (b2))] ?_ ?_
  · refine tLinS [(1, .pointer (some ⟨g1, 0, none⟩))] Try.mixed (.inl rfl) ⟨rfl, trivial⟩ rfl ?_
    refine Lin.q (v := .pointer (some ⟨g1, 0, none⟩)) (by decide) (Pu.qo (p_fabE fa68_0 rfl rfl)) ?_
    refine Lin.q (v := .int .i64 (v0.1)) (by decide) (q_ldb ty3 rfl Has.here rfl) ?_
    obtain ⟨r4, h5, j3⟩ := bd.of j3
    refine Lin.q (v := .bool (r4)) (by decide) (q_call (vs := [.int .i64 (v0.1), .int .i64 (0), .int .i64 (99)]) (c_spec_l6In v0.1 0 99 h5) rfl EntsB.nil) ?_
    rcases Bool.eq_false_or_eq_true (r4) with h6 | h6
    · have j3 := cdT h6 j3
      refine Lin.q (v := .bool (true)) (by decide) (Qo.eqv (v := .bool (r4)) (Pu.qo (p_move rfl)) (congrArg Value.bool h6)) ?_
      refine Lin.g (v := .pointer (some ⟨g1, 1, none⟩)) (by decide) rfl (Pu.qo (p_fabE fa68_1 rfl rfl)) ?_
      refine Lin.g (v := .int .i64 (v0.2)) (by decide) rfl (q_ldb ty3 rfl Has.here rfl) ?_
      obtain ⟨r7, h8, j3⟩ := bd.of j3
      refine Lin.g (v := .bool (r7)) (by decide) rfl (q_call (vs := [.int .i64 (v0.2), .int .i64 (-99), .int .i64 (99)]) (c_spec_l6In v0.2 (-99) 99 h8) rfl EntsB.nil) ?_
      refine Lin.q (v := .bool (r7)) (by decide) (Pu.qo (p_pickT rfl rfl)) ?_
      refine Lin.q (v := .bool (r7)) (by decide) (Pu.qo (p_assign rfl)) ?_
      have j3 := Option.some.inj j3; subst j3
      show At _ _ _ _ _ _
      exact n1 ⟨rfl, trivial⟩
    · have j3 := cdF h6 j3
      refine Lin.q (v := .bool (false)) (by decide) (Qo.eqv (v := .bool (r4)) (Pu.qo (p_move rfl)) (congrArg Value.bool h6)) ?_
      refine Lin.skip (by decide) rfl ?_
      refine Lin.skip (by decide) rfl ?_
      refine Lin.skip (by decide) rfl ?_
      refine Lin.q (v := .bool (false)) (by decide) (Pu.qo (p_pickF rfl rfl)) ?_
      refine Lin.q (v := .bool (false)) (by decide) (Pu.qo (p_assign rfl)) ?_
      have j3 := Option.some.inj j3; subst j3
      show At _ _ _ _ _ _
      exact n1 ⟨rfl, trivial⟩
  refine tRet ?_
  have hr := Option.some.inj H; subst hr
  exact back1 () rfl (ResV.tmp (v := .bool (b2)) rfl) rfl Ents.nil Take.nil
noncomputable def p_spec_BlockOk_b0 (v0 : (List Row)) (σ5 : Int) : Option ((Int) ⊕ (Unit ⊕ Bool)) := cond (decide (σ5 < (v0.length : Int))) (bd (gd (ix σ5 v0.length) <| bd (p_spec_l2Row (nth v0 σ5.toNat)) fun r17 => cond (!r17) (some (true)) (cond (decide (0 < σ5)) (gd (I64 (σ5 - 1)) <| gd (ix (σ5 - 1) v0.length) <| some (decide (((nth v0 σ5.toNat).1) ≤ ((nth v0 ((σ5 - 1).toNat)).1)))) (some (false)))) fun b14 => cond (b14) (some (.inr (.inr false))) (gd (I64 (σ5 + 1)) <| some (.inl (σ5 + 1)))) (some (.inr (.inl ())))
noncomputable def p_spec_BlockOk (v0 : (List Row)) : Option (Bool) := bd (lp (p_spec_BlockOk_b0 v0) 0) <| sw (fun e25 => some (decide ((v0.length : Int) ≤ 24))) (fun q => some q)
theorem c_spec_BlockOk {r : Bool} (v0 : (List Row)) (x_v0 : Option Addr × Nat) (H : p_spec_BlockOk v0 = some r) : Fn' Try.prog 42 #[.slice x_v0.1 v0.length x_v0.2] [imm (.slice x_v0.1 v0.length x_v0.2) v0] [] (ι := Unit) (fun x => .bool (r)) (fun _ => []) (fun x => []) := by
  refine calls_of (args := [_]) Try.func42 rfl (by kernel_rfl) Try.ntmps42 (by simp) fun c => ?_
  unfold p_spec_BlockOk at H
  refine Tr.seq ?_
  refine Tr.region ?_
  refine Rg.q (v := .bool (false)) (Pu.qo (p_assign rfl)) (by decide) ?_
  refine Rg.nl ?_
  refine nT (?_)
  refine Tr.seq ?_
  refine Tr.seq ?_
  refine Tr.region ?_
  refine Rg.q (v := .int .i64 (0)) (Pu.qo (p_assign rfl)) (by decide) ?_
  refine Rg.nl ?_
  refine nT (?_)
  obtain ⟨x1, hx2, H⟩ := bd.of H
  obtain ⟨n3, hx2⟩ := lp.of hx2
  refine tMidNC (ι := { q : (Unit) × Unit // x1 = .inl q.1 }) (fun ψ => [(0, .slice x_v0.1 v0.length x_v0.2)]) (fun ψ => []) ?_ ?_
  · refine Tr.block ?_
    refine tLoopC (ι := { q : Nat × (Int) × Unit // itr (p_spec_BlockOk_b0 v0) q.1 q.2.1 = some x1 }) (fun ζ => [(0, .slice x_v0.1 v0.length x_v0.2), (3, .int .i64 (ζ.1.2.1))]) (fun ζ => []) (fun ζ => ζ.1.1) ⟨(n3, 0, ()), hx2⟩ ⟨rfl, rfl, trivial⟩ Take.nil ?_
    rintro ⟨⟨m4, σ5, z6⟩, hk11⟩
    obtain ⟨m12, t8, e, H1, hi9, hb10⟩ := itr.of (n := m4) (s := σ5) hk11
    subst e; unfold p_spec_BlockOk_b0 at H1
    show Tr _ _ _ _ _ [(0, .slice x_v0.1 v0.length x_v0.2), (3, .int .i64 (σ5))] _ []
    refine Tr.seq ?_
    refine Tr.seq ?_
    refine Tr.region ?_
    refine Rg.q (v := .int .i64 (σ5)) (Pu.qo (p_move rfl)) (by decide) ?_
    refine Rg.q (v := .slice x_v0.1 v0.length x_v0.2) (Pu.qo (p_move rfl)) (by decide) ?_
    refine Rg.q (v := .int .i64 ((v0.length : Int))) (Pu.qo (p_len 68 Try.underlying29 rfl)) (by decide) ?_
    refine Rg.q (v := .bool (decide (σ5 < (v0.length : Int)))) (Pu.qo (p_lss rfl rfl)) (by decide) ?_
    refine Rg.nl ?_
    refine nT (?_)
    refine Tr.cond (b := decide (σ5 < (v0.length : Int))) rfl (fun h13 => ?_) (fun h13 => ?_)
    · have H1 := cdT h13 H1
      refine tSkip ?_
      refine nT (?_)
      refine Tr.seq ?_
      refine Tr.block ?_
      obtain ⟨b14, j15, H1⟩ := bd.of H1
      refine tMid1 [(33, .bool (b14)), (0, .slice x_v0.1 v0.length x_v0.2), (3, .int .i64 (σ5))] ?_ ?_
      · refine tLinS [(0, .slice x_v0.1 v0.length x_v0.2), (3, .int .i64 (σ5))] Try.mixed (.inr (by kernel_rfl)) ⟨rfl, rfl, trivial⟩ rfl ?_
        refine Lin.q (v := .slice x_v0.1 v0.length x_v0.2) (by decide) (Pu.qo (p_move rfl)) ?_
        refine Lin.q (v := .int .i64 (σ5)) (by decide) (Pu.qo (p_move rfl)) ?_
        obtain ⟨h16, j15⟩ := gd.of j15
        refine Lin.q (v := elp x_v0.1 (σ5.toNat * Enc.sz Row + 0)) (by decide) (q_ixg (l := v0) (E := fun i => Flat.enc (nth v0 i)) (oa := x_v0.1) Try.underlying29 ty68 rfl rfl h16 rfl (EntB.flat (Ent.b Ent.z))) ?_
        refine Lin.q (v := .agg #[.int .i64 ((nth v0 σ5.toNat).1), .int .i64 ((nth v0 σ5.toNat).2)]) (by decide) (q_ldeA (l := v0) (E := fun i => Flat.enc (nth v0 i)) (oa := x_v0.1) (i := σ5.toNat) ty68 rfl (EntB.flat (Ent.b Ent.z)) h16.lt) ?_
        obtain ⟨r17, h18, j15⟩ := bd.of j15
        refine Lin.q (v := .bool (r17)) (by decide) (q_call (vs := [.agg #[.int .i64 ((nth v0 σ5.toNat).1), .int .i64 ((nth v0 σ5.toNat).2)]]) (c_spec_l2Row (nth v0 σ5.toNat) h18) rfl EntsB.nil) ?_
        refine Lin.q (v := .bool (!r17)) (by decide) (Pu.qo (p_not rfl)) ?_
        rcases Bool.eq_false_or_eq_true (!r17) with h19 | h19
        · have j15 := cdT h19 j15
          refine Lin.q (v := .bool (true)) (by decide) (Qo.eqv (v := .bool (!r17)) (Pu.qo (p_move rfl)) (congrArg Value.bool h19)) ?_
          refine Lin.skip (by decide) rfl ?_
          refine Lin.skip (by decide) rfl ?_
          refine Lin.skip (by decide) rfl ?_
          refine Lin.skip (by decide) rfl ?_
          refine Lin.skip (by decide) rfl ?_
          refine Lin.skip (by decide) rfl ?_
          refine Lin.skip (by decide) rfl ?_
          refine Lin.skip (by decide) rfl ?_
          refine Lin.skip (by decide) rfl ?_
          refine Lin.skip (by decide) rfl ?_
          refine Lin.skip (by decide) rfl ?_
          refine Lin.skip (by decide) rfl ?_
          refine Lin.skip (by decide) rfl ?_
          refine Lin.skip (by decide) rfl ?_
          refine Lin.skip (by decide) rfl ?_
          refine Lin.skip (by decide) rfl ?_
          refine Lin.q (v := .bool (true)) (by decide) (Pu.qo (p_pickT rfl rfl)) ?_
          have j15 := Option.some.inj j15; subst j15
          show At _ _ _ _ _ _
          exact n1 ⟨rfl, rfl, rfl, trivial⟩
        · have j15 := cdF h19 j15
          refine Lin.q (v := .bool (false)) (by decide) (Qo.eqv (v := .bool (!r17)) (Pu.qo (p_move rfl)) (congrArg Value.bool h19)) ?_
          refine Lin.g (v := .int .i64 (σ5)) (by decide) rfl (Pu.qo (p_move rfl)) ?_
          refine Lin.g (v := .bool (decide (0 < σ5))) (by decide) rfl (Pu.qo (p_gtr rfl rfl)) ?_
          rcases Bool.eq_false_or_eq_true (decide (0 < σ5)) with h20 | h20
          · have j15 := cdT h20 j15
            refine Lin.g (v := .bool (true)) (by decide) rfl (Qo.eqv (v := .bool (decide (0 < σ5))) (Pu.qo (p_move rfl)) (congrArg Value.bool h20)) ?_
            refine Lin.g (v := .slice x_v0.1 v0.length x_v0.2) (by decide) rfl (Pu.qo (p_move rfl)) ?_
            refine Lin.g (v := .int .i64 (σ5)) (by decide) rfl (Pu.qo (p_move rfl)) ?_
            obtain ⟨h21, j15⟩ := gd.of j15
            refine Lin.g (v := .int .i64 (σ5 - 1)) (by decide) rfl (Pu.qo (p_sub rfl rfl h21)) ?_
            obtain ⟨h22, j15⟩ := gd.of j15
            refine Lin.g (v := elp x_v0.1 (((σ5 - 1).toNat) * Enc.sz Row + 0)) (by decide) rfl (q_ixg (l := v0) (E := fun i => Flat.enc (nth v0 i)) (oa := x_v0.1) Try.underlying29 ty68 rfl rfl h22 rfl (EntB.flat (Ent.b Ent.z))) ?_
            refine Lin.g (v := elp x_v0.1 (((σ5 - 1).toNat) * Enc.sz Row + 0)) (by decide) rfl (q_faeE (l := v0) (E := fun i => Flat.enc (nth v0 i)) (oa := x_v0.1) (j := 0) ((σ5 - 1).toNat) fa68_0 rfl (EntB.flat (Ent.b Ent.z)) h22.lt rfl) ?_
            refine Lin.g (v := .int .i64 ((nth v0 ((σ5 - 1).toNat)).1)) (by decide) rfl (q_lde (l := v0) (E := fun i => Flat.enc (nth v0 i)) (oa := x_v0.1) (i := (σ5 - 1).toNat) (j := 0) ty3 rfl (EntB.flat (Ent.b Ent.z)) h22.lt rfl) ?_
            refine Lin.g (v := .slice x_v0.1 v0.length x_v0.2) (by decide) rfl (Pu.qo (p_move rfl)) ?_
            refine Lin.g (v := .int .i64 (σ5)) (by decide) rfl (Pu.qo (p_move rfl)) ?_
            refine Lin.g (v := elp x_v0.1 (σ5.toNat * Enc.sz Row + 0)) (by decide) rfl (q_ixg (l := v0) (E := fun i => Flat.enc (nth v0 i)) (oa := x_v0.1) Try.underlying29 ty68 rfl rfl h16 rfl (EntB.flat (Ent.b Ent.z))) ?_
            refine Lin.g (v := elp x_v0.1 (σ5.toNat * Enc.sz Row + 0)) (by decide) rfl (q_faeE (l := v0) (E := fun i => Flat.enc (nth v0 i)) (oa := x_v0.1) (j := 0) σ5.toNat fa68_0 rfl (EntB.flat (Ent.b Ent.z)) h16.lt rfl) ?_
            refine Lin.g (v := .int .i64 ((nth v0 σ5.toNat).1)) (by decide) rfl (q_lde (l := v0) (E := fun i => Flat.enc (nth v0 i)) (oa := x_v0.1) (i := σ5.toNat) (j := 0) ty3 rfl (EntB.flat (Ent.b Ent.z)) h16.lt rfl) ?_
            refine Lin.g (v := .bool (decide (((nth v0 σ5.toNat).1) ≤ ((nth v0 ((σ5 - 1).toNat)).1)))) (by decide) rfl (Pu.qo (p_geq rfl rfl)) ?_
            refine Lin.g (v := .bool (decide (((nth v0 σ5.toNat).1) ≤ ((nth v0 ((σ5 - 1).toNat)).1)))) (by decide) rfl (Pu.qo (p_pickT rfl rfl)) ?_
            refine Lin.q (v := .bool (decide (((nth v0 σ5.toNat).1) ≤ ((nth v0 ((σ5 - 1).toNat)).1)))) (by decide) (Pu.qo (p_pickF rfl rfl)) ?_
            have j15 := Option.some.inj j15; subst j15
            show At _ _ _ _ _ _
            exact n1 ⟨rfl, rfl, rfl, trivial⟩
          · have j15 := cdF h20 j15
            refine Lin.g (v := .bool (false)) (by decide) rfl (Qo.eqv (v := .bool (decide (0 < σ5))) (Pu.qo (p_move rfl)) (congrArg Value.bool h20)) ?_
            refine Lin.skip (by decide) rfl ?_
            refine Lin.skip (by decide) rfl ?_
            refine Lin.skip (by decide) rfl ?_
            refine Lin.skip (by decide) rfl ?_
            refine Lin.skip (by decide) rfl ?_
            refine Lin.skip (by decide) rfl ?_
            refine Lin.skip (by decide) rfl ?_
            refine Lin.skip (by decide) rfl ?_
            refine Lin.skip (by decide) rfl ?_
            refine Lin.skip (by decide) rfl ?_
            refine Lin.skip (by decide) rfl ?_
            refine Lin.skip (by decide) rfl ?_
            refine Lin.g (v := .bool (false)) (by decide) rfl (Pu.qo (p_pickF rfl rfl)) ?_
            refine Lin.q (v := .bool (false)) (by decide) (Pu.qo (p_pickF rfl rfl)) ?_
            have j15 := Option.some.inj j15; subst j15
            show At _ _ _ _ _ _
            exact n1 ⟨rfl, rfl, rfl, trivial⟩
      refine Tr.cond (b := b14) rfl (fun h23 => ?_) (fun h23 => ?_)
      · have H1 := cdT h23 H1
        refine Tr.seq ?_
        refine Tr.region ?_
        refine Rg.q (v := .bool (false)) (Pu.qo (p_assign rfl)) (by decide) ?_
        refine Rg.nl ?_
        refine nT (?_)
        refine tRet ?_
        refine rB (rT (rT (rB (rT (rT (?_))))))
        have hx := hb10 _ (Option.some.inj H1).symm; subst hx
        replace H := sw.r H
        have hr := Option.some.inj H; subst hr
        exact back1 () rfl (ResV.tmp (v := .bool (false)) rfl) rfl Ents.nil Take.nil
      · have H1 := cdF h23 H1
        refine tSkip ?_
        refine nB (nT (?_))
        refine Tr.region ?_
        refine Rg.q (v := .int .i64 (σ5)) (Pu.qo (p_move rfl)) (by decide) ?_
        obtain ⟨h24, H1⟩ := gd.of H1
        refine Rg.q (v := .int .i64 (σ5 + 1)) (Pu.qo (p_add rfl rfl h24)) (by decide) ?_
        refine Rg.q (v := .int .i64 (σ5 + 1)) (Pu.qo (p_assign rfl)) (by decide) ?_
        refine Rg.nl ?_
        exact nLC ⟨(m12, σ5 + 1, ()), hi9 _ (Option.some.inj H1).symm⟩ (Nat.lt_succ_self _) ⟨rfl, rfl, trivial⟩ Ents.refl Take.nil
    · have H1 := cdF h13 H1
      refine tExit (xT (xT (xE (?_))))
      exact nMC ⟨((), ()), (hb10 _ (Option.some.inj H1).symm).symm⟩ ⟨rfl, trivial⟩ Ents.refl Take.nil
  · rintro ⟨⟨e25, y7⟩, hx⟩; subst hx; replace H := sw.l H
    show At _ _ [(0, .slice x_v0.1 v0.length x_v0.2)] _ [] _
    refine nT (?_)
    refine Tr.seq ?_
    refine Tr.region ?_
    refine Rg.q (v := .slice x_v0.1 v0.length x_v0.2) (Pu.qo (p_move rfl)) (by decide) ?_
    refine Rg.q (v := .int .i64 ((v0.length : Int))) (Pu.qo (p_len 68 Try.underlying29 rfl)) (by decide) ?_
    refine Rg.q (v := .bool (decide ((v0.length : Int) ≤ 24))) (Pu.qo (p_leq rfl rfl)) (by decide) ?_
    refine Rg.q (v := .bool (decide ((v0.length : Int) ≤ 24))) (Pu.qo (p_assign rfl)) (by decide) ?_
    refine Rg.nl ?_
    refine nT (?_)
    refine tRet ?_
    have hr := Option.some.inj H; subst hr
    exact back1 () rfl (ResV.tmp (v := .bool (decide ((v0.length : Int) ≤ 24))) rfl) rfl Ents.nil Take.nil
noncomputable def p_spec_PartOk_b0 (v0 : Part) (σ8 : Int) : Option ((Int) ⊕ (Unit ⊕ Bool)) := cond (decide (σ8 < (v0.1.length : Int))) (bd (gd (ix σ8 v0.1.length) <| bd (p_spec_l6In (nth v0.1 σ8.toNat) 1 6) fun r20 => cond (!r20) (some (true)) (cond (decide (0 < σ8)) (gd (I64 (σ8 - 1)) <| gd (ix (σ8 - 1) v0.1.length) <| cond (decide ((nth v0.1 σ8.toNat) ≤ (nth v0.1 ((σ8 - 1).toNat)))) (some (true)) (gd (ix σ8 v0.2.length) <| cond (decide (((nth v0.2 σ8.toNat).length : Int) = 0)) (some (true)) (bd (p_spec_BlockOk (nth v0.2 σ8.toNat)) fun r29 => some (!r29)))) (gd (ix σ8 v0.2.length) <| cond (decide (((nth v0.2 σ8.toNat).length : Int) = 0)) (some (true)) (bd (p_spec_BlockOk (nth v0.2 σ8.toNat)) fun r33 => some (!r33))))) fun b17 => cond (b17) (some (.inr (.inr false))) (gd (I64 (σ8 + 1)) <| some (.inl (σ8 + 1)))) (some (.inr (.inl ())))
noncomputable def p_spec_PartOk (v0 : Part) : Option (Bool) := cond (!decide ((v0.1.length : Int) = (v0.2.length : Int))) (some false) (bd (lp (p_spec_PartOk_b0 v0) 0) <| sw (fun e37 => some true) (fun q => some q))
theorem c_spec_PartOk {r : Bool} (v0 : Part) (x_v0 : (Option Addr × Nat) × (Option Addr × Nat)) (H : p_spec_PartOk v0 = some r) : Fn' Try.prog 12 #[.agg #[.slice x_v0.1.1 v0.1.length x_v0.1.2, .slice x_v0.2.1 v0.2.length x_v0.2.2]] [imm (.slice x_v0.1.1 v0.1.length x_v0.1.2) v0.1, imm (.slice x_v0.2.1 v0.2.length x_v0.2.2) v0.2] [] (ι := Unit) (fun x => .bool (r)) (fun _ => []) (fun x => []) := by
  refine calls_of (args := [_]) Try.func12 rfl (by kernel_rfl) Try.ntmps12 (by simp) fun c => ?_
  unfold p_spec_PartOk at H
  refine Tr.openD Ent.z.s fun X1 => ?_
  refine Tr.seq ?_
  refine Tr.region ?_
  refine Rg.ed (e_box (t := 26) (v := .agg #[.slice x_v0.1.1 v0.1.length x_v0.1.2, .slice x_v0.2.1 v0.2.length x_v0.2.2]) rfl) rfl (by decide) ?_
  rintro _ _ _ ⟨g2, rfl, rfl, rfl⟩
  refine Rg.q (v := .bool (false)) (Pu.qo (p_assign rfl)) (by decide) ?_
  refine Rg.nl ?_
  refine nT (?_)
  refine Tr.seq ?_
  refine Tr.seq ?_
  refine Tr.region ?_
  refine Rg.q (v := .pointer (some ⟨g2, 0, none⟩)) (Pu.qo (p_fabE fa26_0 rfl rfl)) (by decide) ?_
  refine Rg.q (v := .slice x_v0.1.1 v0.1.length x_v0.1.2) (q_ldb ty23 rfl Has.here rfl) (by decide) ?_
  refine Rg.q (v := .int .i64 ((v0.1.length : Int))) (Pu.qo (p_len 3 Try.underlying23 rfl)) (by decide) ?_
  refine Rg.q (v := .pointer (some ⟨g2, 1, none⟩)) (Pu.qo (p_fabE fa26_1 rfl rfl)) (by decide) ?_
  refine Rg.q (v := .slice x_v0.2.1 v0.2.length x_v0.2.2) (q_ldb ty24 rfl Has.here rfl) (by decide) ?_
  refine Rg.q (v := .int .i64 ((v0.2.length : Int))) (Pu.qo (p_len 29 Try.underlying24 rfl)) (by decide) ?_
  refine Rg.q (v := .bool (!decide ((v0.1.length : Int) = (v0.2.length : Int)))) (Pu.qo (p_neq rfl rfl)) (by decide) ?_
  refine Rg.nl ?_
  refine nT (?_)
  refine Tr.cond (b := !decide ((v0.1.length : Int) = (v0.2.length : Int))) rfl (fun h3 => ?_) (fun h3 => ?_)
  · have H := cdT h3 H
    refine Tr.seq ?_
    refine Tr.region ?_
    refine Rg.q (v := .bool (false)) (Pu.qo (p_assign rfl)) (by decide) ?_
    refine Rg.nl ?_
    refine nT (?_)
    refine tRet ?_
    refine rT (?_)
    have hr := Option.some.inj H; subst hr
    exact back1 () rfl (ResV.tmp (v := .bool (false)) rfl) rfl Ents.nil Take.nil
  · have H := cdF h3 H
    refine tSkip ?_
    refine nT (?_)
    refine Tr.seq ?_
    refine Tr.seq ?_
    refine Tr.region ?_
    refine Rg.q (v := .int .i64 (0)) (Pu.qo (p_assign rfl)) (by decide) ?_
    refine Rg.nl ?_
    refine nT (?_)
    obtain ⟨x4, hx5, H⟩ := bd.of H
    obtain ⟨n6, hx5⟩ := lp.of hx5
    refine tMidNC (ι := { q : (Unit) × Unit // x4 = .inl q.1 }) (fun ψ => []) (fun ψ => []) ?_ ?_
    · refine Tr.block ?_
      refine tLoopC (ι := { q : Nat × (Int) × Unit // itr (p_spec_PartOk_b0 v0) q.1 q.2.1 = some x4 }) (fun ζ => [(1, .pointer (some ⟨g2, 0, none⟩)), (3, .int .i64 (ζ.1.2.1))]) (fun ζ => [box g2 26 [.slice x_v0.1.1 v0.1.length x_v0.1.2, .slice x_v0.2.1 v0.2.length x_v0.2.2]]) (fun ζ => ζ.1.1) ⟨(n6, 0, ()), hx5⟩ ⟨rfl, rfl, trivial⟩ (.cons Del.here .nil) ?_
      rintro ⟨⟨m7, σ8, z9⟩, hk14⟩
      obtain ⟨m15, t11, e, H1, hi12, hb13⟩ := itr.of (n := m7) (s := σ8) hk14
      subst e; unfold p_spec_PartOk_b0 at H1
      show Tr _ _ _ _ _ [(1, .pointer (some ⟨g2, 0, none⟩)), (3, .int .i64 (σ8))] _ [box g2 26 [.slice x_v0.1.1 v0.1.length x_v0.1.2, .slice x_v0.2.1 v0.2.length x_v0.2.2]]
      refine Tr.seq ?_
      refine Tr.seq ?_
      refine Tr.region ?_
      refine Rg.q (v := .int .i64 (σ8)) (Pu.qo (p_move rfl)) (by decide) ?_
      refine Rg.q (v := .pointer (some ⟨g2, 0, none⟩)) (Pu.qo (p_fabE fa26_0 rfl rfl)) (by decide) ?_
      refine Rg.q (v := .slice x_v0.1.1 v0.1.length x_v0.1.2) (q_ldb ty23 rfl Has.here rfl) (by decide) ?_
      refine Rg.q (v := .int .i64 ((v0.1.length : Int))) (Pu.qo (p_len 3 Try.underlying23 rfl)) (by decide) ?_
      refine Rg.q (v := .bool (decide (σ8 < (v0.1.length : Int)))) (Pu.qo (p_lss rfl rfl)) (by decide) ?_
      refine Rg.nl ?_
      refine nT (?_)
      refine Tr.cond (b := decide (σ8 < (v0.1.length : Int))) rfl (fun h16 => ?_) (fun h16 => ?_)
      · have H1 := cdT h16 H1
        refine tSkip ?_
        refine nT (?_)
        refine Tr.seq ?_
        refine Tr.block ?_
        obtain ⟨b17, j18, H1⟩ := bd.of H1
        refine tMid1 [(60, .bool (b17)), (1, .pointer (some ⟨g2, 0, none⟩)), (3, .int .i64 (σ8))] ?_ ?_
        · refine tLinS [(1, .pointer (some ⟨g2, 0, none⟩)), (3, .int .i64 (σ8))] Try.mixed (.inr (by kernel_rfl)) ⟨rfl, rfl, trivial⟩ rfl ?_
          refine Lin.q (v := .pointer (some ⟨g2, 0, none⟩)) (by decide) (Pu.qo (p_fabE fa26_0 rfl rfl)) ?_
          refine Lin.q (v := .slice x_v0.1.1 v0.1.length x_v0.1.2) (by decide) (q_ldb ty23 rfl Has.here rfl) ?_
          refine Lin.q (v := .int .i64 (σ8)) (by decide) (Pu.qo (p_move rfl)) ?_
          obtain ⟨h19, j18⟩ := gd.of j18
          refine Lin.q (v := elp x_v0.1.1 (σ8.toNat * Enc.sz Int + 0)) (by decide) (q_ixg (l := v0.1) (E := fun i => Flat.enc (nth v0.1 i)) (oa := x_v0.1.1) Try.underlying23 ty3 rfl rfl h19 rfl (EntB.flat (Ent.b Ent.z.s))) ?_
          refine Lin.q (v := .int .i64 (nth v0.1 σ8.toNat)) (by decide) (q_lde (l := v0.1) (E := fun i => Flat.enc (nth v0.1 i)) (oa := x_v0.1.1) (i := σ8.toNat) (j := 0) ty3 rfl (EntB.flat (Ent.b Ent.z.s)) h19.lt rfl) ?_
          obtain ⟨r20, h21, j18⟩ := bd.of j18
          refine Lin.q (v := .bool (r20)) (by decide) (q_call (vs := [.int .i64 (nth v0.1 σ8.toNat), .int .i64 (1), .int .i64 (6)]) (c_spec_l6In (nth v0.1 σ8.toNat) 1 6 h21) rfl EntsB.nil) ?_
          refine Lin.q (v := .bool (!r20)) (by decide) (Pu.qo (p_not rfl)) ?_
          rcases Bool.eq_false_or_eq_true (!r20) with h22 | h22
          · have j18 := cdT h22 j18
            refine Lin.q (v := .bool (true)) (by decide) (Qo.eqv (v := .bool (!r20)) (Pu.qo (p_move rfl)) (congrArg Value.bool h22)) ?_
            refine Lin.skip (by decide) rfl ?_
            refine Lin.skip (by decide) rfl ?_
            refine Lin.skip (by decide) rfl ?_
            refine Lin.skip (by decide) rfl ?_
            refine Lin.skip (by decide) rfl ?_
            refine Lin.skip (by decide) rfl ?_
            refine Lin.skip (by decide) rfl ?_
            refine Lin.skip (by decide) rfl ?_
            refine Lin.skip (by decide) rfl ?_
            refine Lin.skip (by decide) rfl ?_
            refine Lin.skip (by decide) rfl ?_
            refine Lin.skip (by decide) rfl ?_
            refine Lin.skip (by decide) rfl ?_
            refine Lin.skip (by decide) rfl ?_
            refine Lin.skip (by decide) rfl ?_
            refine Lin.skip (by decide) rfl ?_
            refine Lin.q (v := .bool (true)) (by decide) (Pu.qo (p_pickT rfl rfl)) ?_
            refine Lin.q (v := .bool (true)) (by decide) (Pu.qo (p_move rfl)) ?_
            refine Lin.skip (by decide) rfl ?_
            refine Lin.skip (by decide) rfl ?_
            refine Lin.skip (by decide) rfl ?_
            refine Lin.skip (by decide) rfl ?_
            refine Lin.skip (by decide) rfl ?_
            refine Lin.skip (by decide) rfl ?_
            refine Lin.skip (by decide) rfl ?_
            refine Lin.q (v := .bool (true)) (by decide) (Pu.qo (p_pickT rfl rfl)) ?_
            refine Lin.q (v := .bool (true)) (by decide) (Pu.qo (p_move rfl)) ?_
            refine Lin.skip (by decide) rfl ?_
            refine Lin.skip (by decide) rfl ?_
            refine Lin.skip (by decide) rfl ?_
            refine Lin.skip (by decide) rfl ?_
            refine Lin.skip (by decide) rfl ?_
            refine Lin.skip (by decide) rfl ?_
            refine Lin.skip (by decide) rfl ?_
            refine Lin.q (v := .bool (true)) (by decide) (Pu.qo (p_pickT rfl rfl)) ?_
            have j18 := Option.some.inj j18; subst j18
            show At _ _ _ _ _ _
            exact n1 ⟨rfl, rfl, rfl, trivial⟩
          · have j18 := cdF h22 j18
            refine Lin.q (v := .bool (false)) (by decide) (Qo.eqv (v := .bool (!r20)) (Pu.qo (p_move rfl)) (congrArg Value.bool h22)) ?_
            refine Lin.g (v := .int .i64 (σ8)) (by decide) rfl (Pu.qo (p_move rfl)) ?_
            refine Lin.g (v := .bool (decide (0 < σ8))) (by decide) rfl (Pu.qo (p_gtr rfl rfl)) ?_
            rcases Bool.eq_false_or_eq_true (decide (0 < σ8)) with h23 | h23
            · have j18 := cdT h23 j18
              refine Lin.g (v := .bool (true)) (by decide) rfl (Qo.eqv (v := .bool (decide (0 < σ8))) (Pu.qo (p_move rfl)) (congrArg Value.bool h23)) ?_
              refine Lin.g (v := .pointer (some ⟨g2, 0, none⟩)) (by decide) rfl (Pu.qo (p_fabE fa26_0 rfl rfl)) ?_
              refine Lin.g (v := .slice x_v0.1.1 v0.1.length x_v0.1.2) (by decide) rfl (q_ldb ty23 rfl Has.here rfl) ?_
              refine Lin.g (v := .int .i64 (σ8)) (by decide) rfl (Pu.qo (p_move rfl)) ?_
              obtain ⟨h24, j18⟩ := gd.of j18
              refine Lin.g (v := .int .i64 (σ8 - 1)) (by decide) rfl (Pu.qo (p_sub rfl rfl h24)) ?_
              obtain ⟨h25, j18⟩ := gd.of j18
              refine Lin.g (v := elp x_v0.1.1 (((σ8 - 1).toNat) * Enc.sz Int + 0)) (by decide) rfl (q_ixg (l := v0.1) (E := fun i => Flat.enc (nth v0.1 i)) (oa := x_v0.1.1) Try.underlying23 ty3 rfl rfl h25 rfl (EntB.flat (Ent.b Ent.z.s))) ?_
              refine Lin.g (v := .int .i64 (nth v0.1 ((σ8 - 1).toNat))) (by decide) rfl (q_lde (l := v0.1) (E := fun i => Flat.enc (nth v0.1 i)) (oa := x_v0.1.1) (i := (σ8 - 1).toNat) (j := 0) ty3 rfl (EntB.flat (Ent.b Ent.z.s)) h25.lt rfl) ?_
              refine Lin.g (v := .pointer (some ⟨g2, 0, none⟩)) (by decide) rfl (Pu.qo (p_fabE fa26_0 rfl rfl)) ?_
              refine Lin.g (v := .slice x_v0.1.1 v0.1.length x_v0.1.2) (by decide) rfl (q_ldb ty23 rfl Has.here rfl) ?_
              refine Lin.g (v := .int .i64 (σ8)) (by decide) rfl (Pu.qo (p_move rfl)) ?_
              refine Lin.g (v := elp x_v0.1.1 (σ8.toNat * Enc.sz Int + 0)) (by decide) rfl (q_ixg (l := v0.1) (E := fun i => Flat.enc (nth v0.1 i)) (oa := x_v0.1.1) Try.underlying23 ty3 rfl rfl h19 rfl (EntB.flat (Ent.b Ent.z.s))) ?_
              refine Lin.g (v := .int .i64 (nth v0.1 σ8.toNat)) (by decide) rfl (q_lde (l := v0.1) (E := fun i => Flat.enc (nth v0.1 i)) (oa := x_v0.1.1) (i := σ8.toNat) (j := 0) ty3 rfl (EntB.flat (Ent.b Ent.z.s)) h19.lt rfl) ?_
              refine Lin.g (v := .bool (decide ((nth v0.1 σ8.toNat) ≤ (nth v0.1 ((σ8 - 1).toNat))))) (by decide) rfl (Pu.qo (p_geq rfl rfl)) ?_
              refine Lin.g (v := .bool (decide ((nth v0.1 σ8.toNat) ≤ (nth v0.1 ((σ8 - 1).toNat))))) (by decide) rfl (Pu.qo (p_pickT rfl rfl)) ?_
              refine Lin.q (v := .bool (decide ((nth v0.1 σ8.toNat) ≤ (nth v0.1 ((σ8 - 1).toNat))))) (by decide) (Pu.qo (p_pickF rfl rfl)) ?_
              rcases Bool.eq_false_or_eq_true (decide ((nth v0.1 σ8.toNat) ≤ (nth v0.1 ((σ8 - 1).toNat)))) with h26 | h26
              · have j18 := cdT h26 j18
                refine Lin.q (v := .bool (true)) (by decide) (Qo.eqv (v := .bool (decide ((nth v0.1 σ8.toNat) ≤ (nth v0.1 ((σ8 - 1).toNat))))) (Pu.qo (p_move rfl)) (congrArg Value.bool h26)) ?_
                refine Lin.skip (by decide) rfl ?_
                refine Lin.skip (by decide) rfl ?_
                refine Lin.skip (by decide) rfl ?_
                refine Lin.skip (by decide) rfl ?_
                refine Lin.skip (by decide) rfl ?_
                refine Lin.skip (by decide) rfl ?_
                refine Lin.skip (by decide) rfl ?_
                refine Lin.q (v := .bool (true)) (by decide) (Pu.qo (p_pickT rfl rfl)) ?_
                refine Lin.q (v := .bool (true)) (by decide) (Pu.qo (p_move rfl)) ?_
                refine Lin.skip (by decide) rfl ?_
                refine Lin.skip (by decide) rfl ?_
                refine Lin.skip (by decide) rfl ?_
                refine Lin.skip (by decide) rfl ?_
                refine Lin.skip (by decide) rfl ?_
                refine Lin.skip (by decide) rfl ?_
                refine Lin.skip (by decide) rfl ?_
                refine Lin.q (v := .bool (true)) (by decide) (Pu.qo (p_pickT rfl rfl)) ?_
                have j18 := Option.some.inj j18; subst j18
                show At _ _ _ _ _ _
                exact n1 ⟨rfl, rfl, rfl, trivial⟩
              · have j18 := cdF h26 j18
                refine Lin.q (v := .bool (false)) (by decide) (Qo.eqv (v := .bool (decide ((nth v0.1 σ8.toNat) ≤ (nth v0.1 ((σ8 - 1).toNat))))) (Pu.qo (p_move rfl)) (congrArg Value.bool h26)) ?_
                refine Lin.g (v := .pointer (some ⟨g2, 1, none⟩)) (by decide) rfl (Pu.qo (p_fabE fa26_1 rfl rfl)) ?_
                refine Lin.g (v := .slice x_v0.2.1 v0.2.length x_v0.2.2) (by decide) rfl (q_ldb ty24 rfl Has.here rfl) ?_
                refine Lin.g (v := .int .i64 (σ8)) (by decide) rfl (Pu.qo (p_move rfl)) ?_
                obtain ⟨h27, j18⟩ := gd.of j18
                refine Lin.g (v := elp x_v0.2.1 (σ8.toNat * Enc.sz (List Row) + 0)) (by decide) rfl (q_ixg (l := v0.2) (E := fun i => Dp.denc (nth v0.2 i) (X1 i)) (oa := x_v0.2.1) Try.underlying24 ty29 rfl rfl h27 rfl (Ent.b (Ent.darr Ent.z))) ?_
                refine Lin.g (v := .slice ((X1 σ8.toNat).1) ((nth v0.2 σ8.toNat).length) ((X1 σ8.toNat).2.1)) (by decide) rfl (q_lde (l := v0.2) (E := fun i => Dp.denc (nth v0.2 i) (X1 i)) (oa := x_v0.2.1) (i := σ8.toNat) (j := 0) ty29 rfl (Ent.b (Ent.darr Ent.z)) h27.lt rfl) ?_
                refine Lin.g (v := .int .i64 (((nth v0.2 σ8.toNat).length : Int))) (by decide) rfl (Pu.qo (p_len 68 Try.underlying29 rfl)) ?_
                refine Lin.g (v := .bool (decide (((nth v0.2 σ8.toNat).length : Int) = 0))) (by decide) rfl (Pu.qo (p_eql rfl rfl)) ?_
                refine Lin.q (v := .bool (decide (((nth v0.2 σ8.toNat).length : Int) = 0))) (by decide) (Pu.qo (p_pickF rfl rfl)) ?_
                rcases Bool.eq_false_or_eq_true (decide (((nth v0.2 σ8.toNat).length : Int) = 0)) with h28 | h28
                · have j18 := cdT h28 j18
                  refine Lin.q (v := .bool (true)) (by decide) (Qo.eqv (v := .bool (decide (((nth v0.2 σ8.toNat).length : Int) = 0))) (Pu.qo (p_move rfl)) (congrArg Value.bool h28)) ?_
                  refine Lin.skip (by decide) rfl ?_
                  refine Lin.skip (by decide) rfl ?_
                  refine Lin.skip (by decide) rfl ?_
                  refine Lin.skip (by decide) rfl ?_
                  refine Lin.skip (by decide) rfl ?_
                  refine Lin.skip (by decide) rfl ?_
                  refine Lin.skip (by decide) rfl ?_
                  refine Lin.q (v := .bool (true)) (by decide) (Pu.qo (p_pickT rfl rfl)) ?_
                  have j18 := Option.some.inj j18; subst j18
                  show At _ _ _ _ _ _
                  exact n1 ⟨rfl, rfl, rfl, trivial⟩
                · have j18 := cdF h28 j18
                  refine Lin.q (v := .bool (false)) (by decide) (Qo.eqv (v := .bool (decide (((nth v0.2 σ8.toNat).length : Int) = 0))) (Pu.qo (p_move rfl)) (congrArg Value.bool h28)) ?_
                  refine Lin.g (v := .pointer (some ⟨g2, 1, none⟩)) (by decide) rfl (Pu.qo (p_fabE fa26_1 rfl rfl)) ?_
                  refine Lin.g (v := .slice x_v0.2.1 v0.2.length x_v0.2.2) (by decide) rfl (q_ldb ty24 rfl Has.here rfl) ?_
                  refine Lin.g (v := .int .i64 (σ8)) (by decide) rfl (Pu.qo (p_move rfl)) ?_
                  refine Lin.g (v := elp x_v0.2.1 (σ8.toNat * Enc.sz (List Row) + 0)) (by decide) rfl (q_ixg (l := v0.2) (E := fun i => Dp.denc (nth v0.2 i) (X1 i)) (oa := x_v0.2.1) Try.underlying24 ty29 rfl rfl h27 rfl (Ent.b (Ent.darr Ent.z))) ?_
                  refine Lin.g (v := .slice ((X1 σ8.toNat).1) ((nth v0.2 σ8.toNat).length) ((X1 σ8.toNat).2.1)) (by decide) rfl (q_lde (l := v0.2) (E := fun i => Dp.denc (nth v0.2 i) (X1 i)) (oa := x_v0.2.1) (i := σ8.toNat) (j := 0) ty29 rfl (Ent.b (Ent.darr Ent.z)) h27.lt rfl) ?_
                  obtain ⟨r29, h30, j18⟩ := bd.of j18
                  refine Lin.g (v := .bool (r29)) (by decide) rfl (q_call (vs := [.slice ((X1 σ8.toNat).1) ((nth v0.2 σ8.toNat).length) ((X1 σ8.toNat).2.1)]) (c_spec_BlockOk (nth v0.2 σ8.toNat) ((X1 σ8.toNat).1, (X1 σ8.toNat).2.1) h30) rfl (EntsB.cons (Ent.b (Ent.dimm (Ent.del Ent.z h27.lt))) EntsB.nil)) ?_
                  refine Lin.g (v := .bool (!r29)) (by decide) rfl (Pu.qo (p_not rfl)) ?_
                  refine Lin.q (v := .bool (!r29)) (by decide) (Pu.qo (p_pickF rfl rfl)) ?_
                  have j18 := Option.some.inj j18; subst j18
                  show At _ _ _ _ _ _
                  exact n1 ⟨rfl, rfl, rfl, trivial⟩
            · have j18 := cdF h23 j18
              refine Lin.g (v := .bool (false)) (by decide) rfl (Qo.eqv (v := .bool (decide (0 < σ8))) (Pu.qo (p_move rfl)) (congrArg Value.bool h23)) ?_
              refine Lin.skip (by decide) rfl ?_
              refine Lin.skip (by decide) rfl ?_
              refine Lin.skip (by decide) rfl ?_
              refine Lin.skip (by decide) rfl ?_
              refine Lin.skip (by decide) rfl ?_
              refine Lin.skip (by decide) rfl ?_
              refine Lin.skip (by decide) rfl ?_
              refine Lin.skip (by decide) rfl ?_
              refine Lin.skip (by decide) rfl ?_
              refine Lin.skip (by decide) rfl ?_
              refine Lin.skip (by decide) rfl ?_
              refine Lin.skip (by decide) rfl ?_
              refine Lin.g (v := .bool (false)) (by decide) rfl (Pu.qo (p_pickF rfl rfl)) ?_
              refine Lin.q (v := .bool (false)) (by decide) (Pu.qo (p_pickF rfl rfl)) ?_
              refine Lin.q (v := .bool (false)) (by decide) (Pu.qo (p_move rfl)) ?_
              refine Lin.g (v := .pointer (some ⟨g2, 1, none⟩)) (by decide) rfl (Pu.qo (p_fabE fa26_1 rfl rfl)) ?_
              refine Lin.g (v := .slice x_v0.2.1 v0.2.length x_v0.2.2) (by decide) rfl (q_ldb ty24 rfl Has.here rfl) ?_
              refine Lin.g (v := .int .i64 (σ8)) (by decide) rfl (Pu.qo (p_move rfl)) ?_
              obtain ⟨h31, j18⟩ := gd.of j18
              refine Lin.g (v := elp x_v0.2.1 (σ8.toNat * Enc.sz (List Row) + 0)) (by decide) rfl (q_ixg (l := v0.2) (E := fun i => Dp.denc (nth v0.2 i) (X1 i)) (oa := x_v0.2.1) Try.underlying24 ty29 rfl rfl h31 rfl (Ent.b (Ent.darr Ent.z))) ?_
              refine Lin.g (v := .slice ((X1 σ8.toNat).1) ((nth v0.2 σ8.toNat).length) ((X1 σ8.toNat).2.1)) (by decide) rfl (q_lde (l := v0.2) (E := fun i => Dp.denc (nth v0.2 i) (X1 i)) (oa := x_v0.2.1) (i := σ8.toNat) (j := 0) ty29 rfl (Ent.b (Ent.darr Ent.z)) h31.lt rfl) ?_
              refine Lin.g (v := .int .i64 (((nth v0.2 σ8.toNat).length : Int))) (by decide) rfl (Pu.qo (p_len 68 Try.underlying29 rfl)) ?_
              refine Lin.g (v := .bool (decide (((nth v0.2 σ8.toNat).length : Int) = 0))) (by decide) rfl (Pu.qo (p_eql rfl rfl)) ?_
              refine Lin.q (v := .bool (decide (((nth v0.2 σ8.toNat).length : Int) = 0))) (by decide) (Pu.qo (p_pickF rfl rfl)) ?_
              rcases Bool.eq_false_or_eq_true (decide (((nth v0.2 σ8.toNat).length : Int) = 0)) with h32 | h32
              · have j18 := cdT h32 j18
                refine Lin.q (v := .bool (true)) (by decide) (Qo.eqv (v := .bool (decide (((nth v0.2 σ8.toNat).length : Int) = 0))) (Pu.qo (p_move rfl)) (congrArg Value.bool h32)) ?_
                refine Lin.skip (by decide) rfl ?_
                refine Lin.skip (by decide) rfl ?_
                refine Lin.skip (by decide) rfl ?_
                refine Lin.skip (by decide) rfl ?_
                refine Lin.skip (by decide) rfl ?_
                refine Lin.skip (by decide) rfl ?_
                refine Lin.skip (by decide) rfl ?_
                refine Lin.q (v := .bool (true)) (by decide) (Pu.qo (p_pickT rfl rfl)) ?_
                have j18 := Option.some.inj j18; subst j18
                show At _ _ _ _ _ _
                exact n1 ⟨rfl, rfl, rfl, trivial⟩
              · have j18 := cdF h32 j18
                refine Lin.q (v := .bool (false)) (by decide) (Qo.eqv (v := .bool (decide (((nth v0.2 σ8.toNat).length : Int) = 0))) (Pu.qo (p_move rfl)) (congrArg Value.bool h32)) ?_
                refine Lin.g (v := .pointer (some ⟨g2, 1, none⟩)) (by decide) rfl (Pu.qo (p_fabE fa26_1 rfl rfl)) ?_
                refine Lin.g (v := .slice x_v0.2.1 v0.2.length x_v0.2.2) (by decide) rfl (q_ldb ty24 rfl Has.here rfl) ?_
                refine Lin.g (v := .int .i64 (σ8)) (by decide) rfl (Pu.qo (p_move rfl)) ?_
                refine Lin.g (v := elp x_v0.2.1 (σ8.toNat * Enc.sz (List Row) + 0)) (by decide) rfl (q_ixg (l := v0.2) (E := fun i => Dp.denc (nth v0.2 i) (X1 i)) (oa := x_v0.2.1) Try.underlying24 ty29 rfl rfl h31 rfl (Ent.b (Ent.darr Ent.z))) ?_
                refine Lin.g (v := .slice ((X1 σ8.toNat).1) ((nth v0.2 σ8.toNat).length) ((X1 σ8.toNat).2.1)) (by decide) rfl (q_lde (l := v0.2) (E := fun i => Dp.denc (nth v0.2 i) (X1 i)) (oa := x_v0.2.1) (i := σ8.toNat) (j := 0) ty29 rfl (Ent.b (Ent.darr Ent.z)) h31.lt rfl) ?_
                obtain ⟨r33, h34, j18⟩ := bd.of j18
                refine Lin.g (v := .bool (r33)) (by decide) rfl (q_call (vs := [.slice ((X1 σ8.toNat).1) ((nth v0.2 σ8.toNat).length) ((X1 σ8.toNat).2.1)]) (c_spec_BlockOk (nth v0.2 σ8.toNat) ((X1 σ8.toNat).1, (X1 σ8.toNat).2.1) h34) rfl (EntsB.cons (Ent.b (Ent.dimm (Ent.del Ent.z h31.lt))) EntsB.nil)) ?_
                refine Lin.g (v := .bool (!r33)) (by decide) rfl (Pu.qo (p_not rfl)) ?_
                refine Lin.q (v := .bool (!r33)) (by decide) (Pu.qo (p_pickF rfl rfl)) ?_
                have j18 := Option.some.inj j18; subst j18
                show At _ _ _ _ _ _
                exact n1 ⟨rfl, rfl, rfl, trivial⟩
        refine Tr.cond (b := b17) rfl (fun h35 => ?_) (fun h35 => ?_)
        · have H1 := cdT h35 H1
          refine Tr.seq ?_
          refine Tr.region ?_
          refine Rg.q (v := .bool (false)) (Pu.qo (p_assign rfl)) (by decide) ?_
          refine Rg.nl ?_
          refine nT (?_)
          refine tRet ?_
          refine rB (rT (rT (rB (rT (rT (?_))))))
          have hx := hb13 _ (Option.some.inj H1).symm; subst hx
          replace H := sw.r H
          have hr := Option.some.inj H; subst hr
          exact back1 () rfl (ResV.tmp (v := .bool (false)) rfl) rfl Ents.nil Take.nil
        · have H1 := cdF h35 H1
          refine tSkip ?_
          refine nB (nT (?_))
          refine Tr.region ?_
          refine Rg.q (v := .int .i64 (σ8)) (Pu.qo (p_move rfl)) (by decide) ?_
          obtain ⟨h36, H1⟩ := gd.of H1
          refine Rg.q (v := .int .i64 (σ8 + 1)) (Pu.qo (p_add rfl rfl h36)) (by decide) ?_
          refine Rg.q (v := .int .i64 (σ8 + 1)) (Pu.qo (p_assign rfl)) (by decide) ?_
          refine Rg.nl ?_
          exact nLC ⟨(m15, σ8 + 1, ()), hi12 _ (Option.some.inj H1).symm⟩ (Nat.lt_succ_self _) ⟨rfl, rfl, trivial⟩ Ents.refl (.cons Del.here .nil)
      · have H1 := cdF h16 H1
        refine tExit (xT (xT (xE (?_))))
        exact nMC ⟨((), ()), (hb13 _ (Option.some.inj H1).symm).symm⟩ trivial Ents.refl Take.nil
    · rintro ⟨⟨e37, y10⟩, hx⟩; subst hx; replace H := sw.l H
      show At _ _ [] _ [] _
      refine nT (?_)
      refine Tr.seq ?_
      refine Tr.region ?_
      refine Rg.q (v := .bool (true)) (Pu.qo (p_assign rfl)) (by decide) ?_
      refine Rg.nl ?_
      refine nT (?_)
      refine tRet ?_
      have hr := Option.some.inj H; subst hr
      exact back1 () rfl (ResV.tmp (v := .bool (true)) rfl) rfl Ents.nil Take.nil
def p_laws_szIntS (v0 : (List Int)) (v1 : Int) : Option (Int) := gd (I64 (v1 - (v0.length : Int))) <| cond (decide ((v1 - (v0.length : Int)) < 0)) (some (-1)) (some (v1 - (v0.length : Int)))
theorem c_laws_szIntS {r : Int} (v0 : (List Int)) (x_v0 : Option Addr × Nat) (v1 : Int) (H : p_laws_szIntS v0 v1 = some r) : Fn' Try.prog 44 #[.slice x_v0.1 v0.length x_v0.2, .int .i64 (v1)] [imm (.slice x_v0.1 v0.length x_v0.2) v0] [] (ι := Unit) (fun x => .int .i64 (r)) (fun _ => []) (fun x => []) := by
  refine calls_of (args := [_, _]) Try.func44 rfl (by kernel_rfl) Try.ntmps44 (by simp) fun c => ?_
  unfold p_laws_szIntS at H
  refine Tr.seq ?_
  refine Tr.region ?_
  refine Rg.q (v := .int .i64 (0)) (Pu.qo (p_assign rfl)) (by decide) ?_
  refine Rg.nl ?_
  refine nT (?_)
  refine Tr.seq ?_
  refine Tr.region ?_
  refine Rg.q (v := .int .i64 (v1)) (Pu.qo (p_move rfl)) (by decide) ?_
  refine Rg.q (v := .slice x_v0.1 v0.length x_v0.2) (Pu.qo (p_move rfl)) (by decide) ?_
  refine Rg.q (v := .int .i64 ((v0.length : Int))) (Pu.qo (p_len 3 Try.underlying23 rfl)) (by decide) ?_
  obtain ⟨h1, H⟩ := gd.of H
  refine Rg.q (v := .int .i64 (v1 - (v0.length : Int))) (Pu.qo (p_sub rfl rfl h1)) (by decide) ?_
  refine Rg.q (v := .int .i64 (v1 - (v0.length : Int))) (Pu.qo (p_assign rfl)) (by decide) ?_
  refine Rg.nl ?_
  refine nT (?_)
  refine Tr.seq ?_
  refine Tr.seq ?_
  refine Tr.region ?_
  refine Rg.q (v := .int .i64 (v1 - (v0.length : Int))) (Pu.qo (p_move rfl)) (by decide) ?_
  refine Rg.q (v := .bool (decide ((v1 - (v0.length : Int)) < 0))) (Pu.qo (p_lss rfl rfl)) (by decide) ?_
  refine Rg.nl ?_
  refine nT (?_)
  refine Tr.cond (b := decide ((v1 - (v0.length : Int)) < 0)) rfl (fun h2 => ?_) (fun h2 => ?_)
  · have H := cdT h2 H
    refine Tr.seq ?_
    refine Tr.region ?_
    refine Rg.q (v := .int .i64 (-1)) (Pu.qo (p_assign rfl)) (by decide) ?_
    refine Rg.nl ?_
    refine nT (?_)
    refine tRet ?_
    refine rT (?_)
    have hr := Option.some.inj H; subst hr
    exact back1 () rfl (ResV.tmp (v := .int .i64 (-1)) rfl) rfl Ents.nil Take.nil
  · have H := cdF h2 H
    refine tSkip ?_
    refine nT (?_)
    refine Tr.seq ?_
    refine Tr.region ?_
    refine Rg.q (v := .int .i64 (v1 - (v0.length : Int))) (Pu.qo (p_move rfl)) (by decide) ?_
    refine Rg.q (v := .int .i64 (v1 - (v0.length : Int))) (Pu.qo (p_assign rfl)) (by decide) ?_
    refine Rg.nl ?_
    refine nT (?_)
    refine tRet ?_
    have hr := Option.some.inj H; subst hr
    exact back1 () rfl (ResV.tmp (v := .int .i64 (v1 - (v0.length : Int))) rfl) rfl Ents.nil Take.nil
def p_laws_szRowS (v0 : (List Row)) (v1 : Int) : Option (Int) := gd (I64 (v1 - (v0.length : Int))) <| cond (decide ((v1 - (v0.length : Int)) < 0)) (some (-1)) (some (v1 - (v0.length : Int)))
theorem c_laws_szRowS {r : Int} (v0 : (List Row)) (x_v0 : Option Addr × Nat) (v1 : Int) (H : p_laws_szRowS v0 v1 = some r) : Fn' Try.prog 67 #[.slice x_v0.1 v0.length x_v0.2, .int .i64 (v1)] [imm (.slice x_v0.1 v0.length x_v0.2) v0] [] (ι := Unit) (fun x => .int .i64 (r)) (fun _ => []) (fun x => []) := by
  refine calls_of (args := [_, _]) Try.func67 rfl (by kernel_rfl) Try.ntmps67 (by simp) fun c => ?_
  unfold p_laws_szRowS at H
  refine Tr.seq ?_
  refine Tr.region ?_
  refine Rg.q (v := .int .i64 (0)) (Pu.qo (p_assign rfl)) (by decide) ?_
  refine Rg.nl ?_
  refine nT (?_)
  refine Tr.seq ?_
  refine Tr.region ?_
  refine Rg.q (v := .int .i64 (v1)) (Pu.qo (p_move rfl)) (by decide) ?_
  refine Rg.q (v := .slice x_v0.1 v0.length x_v0.2) (Pu.qo (p_move rfl)) (by decide) ?_
  refine Rg.q (v := .int .i64 ((v0.length : Int))) (Pu.qo (p_len 99 Try.underlying90 rfl)) (by decide) ?_
  obtain ⟨h1, H⟩ := gd.of H
  refine Rg.q (v := .int .i64 (v1 - (v0.length : Int))) (Pu.qo (p_sub rfl rfl h1)) (by decide) ?_
  refine Rg.q (v := .int .i64 (v1 - (v0.length : Int))) (Pu.qo (p_assign rfl)) (by decide) ?_
  refine Rg.nl ?_
  refine nT (?_)
  refine Tr.seq ?_
  refine Tr.seq ?_
  refine Tr.region ?_
  refine Rg.q (v := .int .i64 (v1 - (v0.length : Int))) (Pu.qo (p_move rfl)) (by decide) ?_
  refine Rg.q (v := .bool (decide ((v1 - (v0.length : Int)) < 0))) (Pu.qo (p_lss rfl rfl)) (by decide) ?_
  refine Rg.nl ?_
  refine nT (?_)
  refine Tr.cond (b := decide ((v1 - (v0.length : Int)) < 0)) rfl (fun h2 => ?_) (fun h2 => ?_)
  · have H := cdT h2 H
    refine Tr.seq ?_
    refine Tr.region ?_
    refine Rg.q (v := .int .i64 (-1)) (Pu.qo (p_assign rfl)) (by decide) ?_
    refine Rg.nl ?_
    refine nT (?_)
    refine tRet ?_
    refine rT (?_)
    have hr := Option.some.inj H; subst hr
    exact back1 () rfl (ResV.tmp (v := .int .i64 (-1)) rfl) rfl Ents.nil Take.nil
  · have H := cdF h2 H
    refine tSkip ?_
    refine nT (?_)
    refine Tr.seq ?_
    refine Tr.region ?_
    refine Rg.q (v := .int .i64 (v1 - (v0.length : Int))) (Pu.qo (p_move rfl)) (by decide) ?_
    refine Rg.q (v := .int .i64 (v1 - (v0.length : Int))) (Pu.qo (p_assign rfl)) (by decide) ?_
    refine Rg.nl ?_
    refine nT (?_)
    refine tRet ?_
    have hr := Option.some.inj H; subst hr
    exact back1 () rfl (ResV.tmp (v := .int .i64 (v1 - (v0.length : Int))) rfl) rfl Ents.nil Take.nil
noncomputable def p_laws_szRowSS_b0 (v0 : (List (List Row))) (σ8 : Int × Int) : Option ((Int × Int) ⊕ (Int ⊕ Int)) := cond (decide (σ8.2 < (v0.length : Int))) (gd (ix σ8.2 v0.length) <| bd (p_laws_szRowS (nth v0 σ8.2.toNat) σ8.1) fun r18 => cond (decide (r18 < 0)) (some (.inr (.inr (-1)))) (gd (I64 (σ8.2 + 1)) <| some (.inl (r18, σ8.2 + 1)))) (some (.inr (.inl σ8.1)))
noncomputable def p_laws_szRowSS (v0 : (List (List Row))) (v1 : Int) : Option (Int) := gd (I64 (v1 - (v0.length : Int))) <| cond (decide ((v1 - (v0.length : Int)) < 0)) (some (-1)) (bd (lp (p_laws_szRowSS_b0 v0) (v1 - (v0.length : Int), 0)) <| sw (fun e22 => some e22) (fun q => some q))
theorem c_laws_szRowSS {r : Int} (v0 : (List (List Row))) (x_v0 : Option Addr × Nat) (v1 : Int) (H : p_laws_szRowSS v0 v1 = some r) : Fn' Try.prog 45 #[.slice x_v0.1 v0.length x_v0.2, .int .i64 (v1)] [imm (.slice x_v0.1 v0.length x_v0.2) v0] [] (ι := Unit) (fun x => .int .i64 (r)) (fun _ => []) (fun x => []) := by
  refine calls_of (args := [_, _]) Try.func45 rfl (by kernel_rfl) Try.ntmps45 (by simp) fun c => ?_
  unfold p_laws_szRowSS at H
  refine Tr.openD Ent.z fun X1 => ?_
  refine Tr.seq ?_
  refine Tr.region ?_
  refine Rg.q (v := .int .i64 (0)) (Pu.qo (p_assign rfl)) (by decide) ?_
  refine Rg.nl ?_
  refine nT (?_)
  refine Tr.seq ?_
  refine Tr.region ?_
  refine Rg.q (v := .int .i64 (v1)) (Pu.qo (p_move rfl)) (by decide) ?_
  refine Rg.q (v := .slice x_v0.1 v0.length x_v0.2) (Pu.qo (p_move rfl)) (by decide) ?_
  refine Rg.q (v := .int .i64 ((v0.length : Int))) (Pu.qo (p_len 90 Try.underlying32 rfl)) (by decide) ?_
  obtain ⟨h2, H⟩ := gd.of H
  refine Rg.q (v := .int .i64 (v1 - (v0.length : Int))) (Pu.qo (p_sub rfl rfl h2)) (by decide) ?_
  refine Rg.q (v := .int .i64 (v1 - (v0.length : Int))) (Pu.qo (p_assign rfl)) (by decide) ?_
  refine Rg.nl ?_
  refine nT (?_)
  refine Tr.seq ?_
  refine Tr.seq ?_
  refine Tr.region ?_
  refine Rg.q (v := .int .i64 (v1 - (v0.length : Int))) (Pu.qo (p_move rfl)) (by decide) ?_
  refine Rg.q (v := .bool (decide ((v1 - (v0.length : Int)) < 0))) (Pu.qo (p_lss rfl rfl)) (by decide) ?_
  refine Rg.nl ?_
  refine nT (?_)
  refine Tr.cond (b := decide ((v1 - (v0.length : Int)) < 0)) rfl (fun h3 => ?_) (fun h3 => ?_)
  · have H := cdT h3 H
    refine Tr.seq ?_
    refine Tr.region ?_
    refine Rg.q (v := .int .i64 (-1)) (Pu.qo (p_assign rfl)) (by decide) ?_
    refine Rg.nl ?_
    refine nT (?_)
    refine tRet ?_
    refine rT (?_)
    have hr := Option.some.inj H; subst hr
    exact back1 () rfl (ResV.tmp (v := .int .i64 (-1)) rfl) rfl Ents.nil Take.nil
  · have H := cdF h3 H
    refine tSkip ?_
    refine nT (?_)
    refine Tr.seq ?_
    refine Tr.seq ?_
    refine Tr.region ?_
    refine Rg.q (v := .int .i64 (0)) (Pu.qo (p_assign rfl)) (by decide) ?_
    refine Rg.nl ?_
    refine nT (?_)
    obtain ⟨x4, hx5, H⟩ := bd.of H
    obtain ⟨n6, hx5⟩ := lp.of hx5
    refine tMidNC (ι := { q : (Int) × Unit // x4 = .inl q.1 }) (fun ψ => [(1, .int .i64 (ψ.1.1))]) (fun ψ => []) ?_ ?_
    · refine Tr.block ?_
      refine tLoopC (ι := { q : Nat × (Int × Int) × Unit // itr (p_laws_szRowSS_b0 v0) q.1 q.2.1 = some x4 }) (fun ζ => [(0, .slice x_v0.1 v0.length x_v0.2), (1, .int .i64 (ζ.1.2.1.1)), (5, .int .i64 (ζ.1.2.1.2))]) (fun ζ => []) (fun ζ => ζ.1.1) ⟨(n6, (v1 - (v0.length : Int), 0), ()), hx5⟩ ⟨rfl, rfl, rfl, trivial⟩ Take.nil ?_
      rintro ⟨⟨m7, σ8, z9⟩, hk14⟩
      obtain ⟨m15, t11, e, H1, hi12, hb13⟩ := itr.of (n := m7) (s := σ8) hk14
      subst e; unfold p_laws_szRowSS_b0 at H1
      show Tr _ _ _ _ _ [(0, .slice x_v0.1 v0.length x_v0.2), (1, .int .i64 (σ8.1)), (5, .int .i64 (σ8.2))] _ []
      refine Tr.seq ?_
      refine Tr.seq ?_
      refine Tr.region ?_
      refine Rg.q (v := .int .i64 (σ8.2)) (Pu.qo (p_move rfl)) (by decide) ?_
      refine Rg.q (v := .slice x_v0.1 v0.length x_v0.2) (Pu.qo (p_move rfl)) (by decide) ?_
      refine Rg.q (v := .int .i64 ((v0.length : Int))) (Pu.qo (p_len 90 Try.underlying32 rfl)) (by decide) ?_
      refine Rg.q (v := .bool (decide (σ8.2 < (v0.length : Int)))) (Pu.qo (p_lss rfl rfl)) (by decide) ?_
      refine Rg.nl ?_
      refine nT (?_)
      refine Tr.cond (b := decide (σ8.2 < (v0.length : Int))) rfl (fun h16 => ?_) (fun h16 => ?_)
      · have H1 := cdT h16 H1
        refine tSkip ?_
        refine nT (?_)
        refine Tr.seq ?_
        refine Tr.block ?_
        refine Tr.seq ?_
        refine Tr.region ?_
        refine Rg.q (v := .slice x_v0.1 v0.length x_v0.2) (Pu.qo (p_move rfl)) (by decide) ?_
        refine Rg.q (v := .int .i64 (σ8.2)) (Pu.qo (p_move rfl)) (by decide) ?_
        obtain ⟨h17, H1⟩ := gd.of H1
        refine Rg.q (v := elp x_v0.1 (σ8.2.toNat * Enc.sz (List Row) + 0)) (q_ixg (l := v0) (E := fun i => Dp.denc (nth v0 i) (X1 i)) (oa := x_v0.1) Try.underlying32 ty90 rfl rfl h17 rfl (Ent.b (Ent.darr Ent.z))) (by decide) ?_
        refine Rg.q (v := .slice ((X1 σ8.2.toNat).1) ((nth v0 σ8.2.toNat).length) ((X1 σ8.2.toNat).2.1)) (q_lde (l := v0) (E := fun i => Dp.denc (nth v0 i) (X1 i)) (oa := x_v0.1) (i := σ8.2.toNat) (j := 0) ty90 rfl (Ent.b (Ent.darr Ent.z)) h17.lt rfl) (by decide) ?_
        refine Rg.q (v := .int .i64 (σ8.1)) (Pu.qo (p_move rfl)) (by decide) ?_
        obtain ⟨r18, h19, H1⟩ := bd.of H1
        refine Rg.q (v := .int .i64 (r18)) (q_call (vs := [.slice ((X1 σ8.2.toNat).1) ((nth v0 σ8.2.toNat).length) ((X1 σ8.2.toNat).2.1), .int .i64 (σ8.1)]) (c_laws_szRowS (nth v0 σ8.2.toNat) ((X1 σ8.2.toNat).1, (X1 σ8.2.toNat).2.1) σ8.1 h19) rfl (EntsB.cons (Ent.b (Ent.dimm (Ent.del Ent.z h17.lt))) EntsB.nil)) (by decide) ?_
        refine Rg.q (v := .int .i64 (r18)) (Pu.qo (p_assign rfl)) (by decide) ?_
        refine Rg.nl ?_
        refine nT (?_)
        refine Tr.seq ?_
        refine Tr.region ?_
        refine Rg.q (v := .int .i64 (r18)) (Pu.qo (p_move rfl)) (by decide) ?_
        refine Rg.q (v := .bool (decide (r18 < 0))) (Pu.qo (p_lss rfl rfl)) (by decide) ?_
        refine Rg.nl ?_
        refine nT (?_)
        refine Tr.cond (b := decide (r18 < 0)) rfl (fun h20 => ?_) (fun h20 => ?_)
        · have H1 := cdT h20 H1
          refine Tr.seq ?_
          refine Tr.region ?_
          refine Rg.q (v := .int .i64 (-1)) (Pu.qo (p_assign rfl)) (by decide) ?_
          refine Rg.nl ?_
          refine nT (?_)
          refine tRet ?_
          refine rB (rT (rT (rB (rT (rT (?_))))))
          have hx := hb13 _ (Option.some.inj H1).symm; subst hx
          replace H := sw.r H
          have hr := Option.some.inj H; subst hr
          exact back1 () rfl (ResV.tmp (v := .int .i64 (-1)) rfl) rfl Ents.nil Take.nil
        · have H1 := cdF h20 H1
          refine tSkip ?_
          refine nB (nT (?_))
          refine Tr.region ?_
          refine Rg.q (v := .int .i64 (σ8.2)) (Pu.qo (p_move rfl)) (by decide) ?_
          obtain ⟨h21, H1⟩ := gd.of H1
          refine Rg.q (v := .int .i64 (σ8.2 + 1)) (Pu.qo (p_add rfl rfl h21)) (by decide) ?_
          refine Rg.q (v := .int .i64 (σ8.2 + 1)) (Pu.qo (p_assign rfl)) (by decide) ?_
          refine Rg.nl ?_
          exact nLC ⟨(m15, (r18, σ8.2 + 1), ()), hi12 _ (Option.some.inj H1).symm⟩ (Nat.lt_succ_self _) ⟨rfl, rfl, rfl, trivial⟩ Ents.refl Take.nil
      · have H1 := cdF h16 H1
        refine tExit (xT (xT (xE (?_))))
        exact nMC ⟨(σ8.1, ()), (hb13 _ (Option.some.inj H1).symm).symm⟩ ⟨rfl, trivial⟩ Ents.refl Take.nil
    · rintro ⟨⟨e22, y10⟩, hx⟩; subst hx; replace H := sw.l H
      show At _ _ [(1, .int .i64 (e22))] _ [] _
      refine nT (?_)
      refine Tr.seq ?_
      refine Tr.region ?_
      refine Rg.q (v := .int .i64 (e22)) (Pu.qo (p_move rfl)) (by decide) ?_
      refine Rg.q (v := .int .i64 (e22)) (Pu.qo (p_assign rfl)) (by decide) ?_
      refine Rg.nl ?_
      refine nT (?_)
      refine tRet ?_
      have hr := Option.some.inj H; subst hr
      exact back1 () rfl (ResV.tmp (v := .int .i64 (e22)) rfl) rfl Ents.nil Take.nil
noncomputable def p_laws_szPart (v0 : Part) (v1 : Int) : Option (Int) := bd (p_laws_szIntS v0.1 v1) fun r3 => cond (decide (r3 < 0)) (some (-1)) (bd (p_laws_szRowSS v0.2 r3) fun r6 => cond (decide (r6 < 0)) (some (-1)) (some r6))
theorem c_laws_szPart {r : Int} (v0 : Part) (x_v0 : (Option Addr × Nat) × (Option Addr × Nat)) (v1 : Int) (H : p_laws_szPart v0 v1 = some r) : Fn' Try.prog 14 #[.agg #[.slice x_v0.1.1 v0.1.length x_v0.1.2, .slice x_v0.2.1 v0.2.length x_v0.2.2], .int .i64 (v1)] [imm (.slice x_v0.1.1 v0.1.length x_v0.1.2) v0.1, imm (.slice x_v0.2.1 v0.2.length x_v0.2.2) v0.2] [] (ι := Unit) (fun x => .int .i64 (r)) (fun _ => []) (fun x => []) := by
  refine calls_of (args := [_, _]) Try.func14 rfl (by kernel_rfl) Try.ntmps14 (by simp) fun c => ?_
  unfold p_laws_szPart at H
  refine Tr.openD Ent.z.s fun X1 => ?_
  refine Tr.seq ?_
  refine Tr.region ?_
  refine Rg.ed (e_box (t := 34) (v := .agg #[.slice x_v0.1.1 v0.1.length x_v0.1.2, .slice x_v0.2.1 v0.2.length x_v0.2.2]) rfl) rfl (by decide) ?_
  rintro _ _ _ ⟨g2, rfl, rfl, rfl⟩
  refine Rg.q (v := .int .i64 (0)) (Pu.qo (p_assign rfl)) (by decide) ?_
  refine Rg.nl ?_
  refine nT (?_)
  refine Tr.seq ?_
  refine Tr.region ?_
  refine Rg.q (v := .pointer (some ⟨g2, 0, none⟩)) (Pu.qo (p_fabE fa34_0 rfl rfl)) (by decide) ?_
  refine Rg.q (v := .slice x_v0.1.1 v0.1.length x_v0.1.2) (q_ldb ty23 rfl Has.here rfl) (by decide) ?_
  refine Rg.q (v := .int .i64 (v1)) (Pu.qo (p_move rfl)) (by decide) ?_
  obtain ⟨r3, h4, H⟩ := bd.of H
  refine Rg.q (v := .int .i64 (r3)) (q_call (vs := [.slice x_v0.1.1 v0.1.length x_v0.1.2, .int .i64 (v1)]) (c_laws_szIntS v0.1 x_v0.1 v1 h4) rfl (EntsB.cons (Ent.b Ent.z.s) EntsB.nil)) (by decide) ?_
  refine Rg.q (v := .int .i64 (r3)) (Pu.qo (p_assign rfl)) (by decide) ?_
  refine Rg.nl ?_
  refine nT (?_)
  refine Tr.seq ?_
  refine Tr.seq ?_
  refine Tr.region ?_
  refine Rg.q (v := .int .i64 (r3)) (Pu.qo (p_move rfl)) (by decide) ?_
  refine Rg.q (v := .bool (decide (r3 < 0))) (Pu.qo (p_lss rfl rfl)) (by decide) ?_
  refine Rg.nl ?_
  refine nT (?_)
  refine Tr.cond (b := decide (r3 < 0)) rfl (fun h5 => ?_) (fun h5 => ?_)
  · have H := cdT h5 H
    refine Tr.seq ?_
    refine Tr.region ?_
    refine Rg.q (v := .int .i64 (-1)) (Pu.qo (p_assign rfl)) (by decide) ?_
    refine Rg.nl ?_
    refine nT (?_)
    refine tRet ?_
    refine rT (?_)
    have hr := Option.some.inj H; subst hr
    exact back1 () rfl (ResV.tmp (v := .int .i64 (-1)) rfl) rfl Ents.nil Take.nil
  · have H := cdF h5 H
    refine tSkip ?_
    refine nT (?_)
    refine Tr.seq ?_
    refine Tr.region ?_
    refine Rg.q (v := .pointer (some ⟨g2, 1, none⟩)) (Pu.qo (p_fabE fa34_1 rfl rfl)) (by decide) ?_
    refine Rg.q (v := .slice x_v0.2.1 v0.2.length x_v0.2.2) (q_ldb ty32 rfl Has.here rfl) (by decide) ?_
    refine Rg.q (v := .int .i64 (r3)) (Pu.qo (p_move rfl)) (by decide) ?_
    obtain ⟨r6, h7, H⟩ := bd.of H
    refine Rg.q (v := .int .i64 (r6)) (q_call (vs := [.slice x_v0.2.1 v0.2.length x_v0.2.2, .int .i64 (r3)]) (c_laws_szRowSS v0.2 x_v0.2 r3 h7) rfl (EntsB.cons (Ent.b (Ent.dimm Ent.z)) EntsB.nil)) (by decide) ?_
    refine Rg.q (v := .int .i64 (r6)) (Pu.qo (p_assign rfl)) (by decide) ?_
    refine Rg.nl ?_
    refine nT (?_)
    refine Tr.seq ?_
    refine Tr.seq ?_
    refine Tr.region ?_
    refine Rg.q (v := .int .i64 (r6)) (Pu.qo (p_move rfl)) (by decide) ?_
    refine Rg.q (v := .bool (decide (r6 < 0))) (Pu.qo (p_lss rfl rfl)) (by decide) ?_
    refine Rg.nl ?_
    refine nT (?_)
    refine Tr.cond (b := decide (r6 < 0)) rfl (fun h8 => ?_) (fun h8 => ?_)
    · have H := cdT h8 H
      refine Tr.seq ?_
      refine Tr.region ?_
      refine Rg.q (v := .int .i64 (-1)) (Pu.qo (p_assign rfl)) (by decide) ?_
      refine Rg.nl ?_
      refine nT (?_)
      refine tRet ?_
      refine rT (?_)
      have hr := Option.some.inj H; subst hr
      exact back1 () rfl (ResV.tmp (v := .int .i64 (-1)) rfl) rfl Ents.nil Take.nil
    · have H := cdF h8 H
      refine tSkip ?_
      refine nT (?_)
      refine Tr.seq ?_
      refine Tr.region ?_
      refine Rg.q (v := .int .i64 (r6)) (Pu.qo (p_move rfl)) (by decide) ?_
      refine Rg.q (v := .int .i64 (r6)) (Pu.qo (p_assign rfl)) (by decide) ?_
      refine Rg.nl ?_
      refine nT (?_)
      refine tRet ?_
      have hr := Option.some.inj H; subst hr
      exact back1 () rfl (ResV.tmp (v := .int .i64 (r6)) rfl) rfl Ents.nil Take.nil
noncomputable def p_laws_eqIntS_b0 (v0 : (List Int)) (v1 : (List Int)) (σ6 : Int) : Option ((Int) ⊕ (Unit ⊕ Bool)) := cond (decide (σ6 < (v0.length : Int))) (gd (ix σ6 v0.length) <| gd (ix σ6 v1.length) <| cond (!decide ((nth v0 σ6.toNat) = (nth v1 σ6.toNat))) (some (.inr (.inr false))) (gd (I64 (σ6 + 1)) <| some (.inl (σ6 + 1)))) (some (.inr (.inl ())))
noncomputable def p_laws_eqIntS (v0 : (List Int)) (v1 : (List Int)) : Option (Bool) := cond (!decide ((v0.length : Int) = (v1.length : Int))) (some false) (bd (lp (p_laws_eqIntS_b0 v0 v1) 0) <| sw (fun e19 => some true) (fun q => some q))
theorem c_laws_eqIntS {r : Bool} (v0 : (List Int)) (x_v0 : Option Addr × Nat) (v1 : (List Int)) (x_v1 : Option Addr × Nat) (H : p_laws_eqIntS v0 v1 = some r) : Fn' Try.prog 48 #[.slice x_v0.1 v0.length x_v0.2, .slice x_v1.1 v1.length x_v1.2] [imm (.slice x_v0.1 v0.length x_v0.2) v0, imm (.slice x_v1.1 v1.length x_v1.2) v1] [] (ι := Unit) (fun x => .bool (r)) (fun _ => []) (fun x => []) := by
  refine calls_of (args := [_, _]) Try.func48 rfl (by kernel_rfl) Try.ntmps48 (by simp) fun c => ?_
  unfold p_laws_eqIntS at H
  refine Tr.seq ?_
  refine Tr.region ?_
  refine Rg.q (v := .bool (false)) (Pu.qo (p_assign rfl)) (by decide) ?_
  refine Rg.nl ?_
  refine nT (?_)
  refine Tr.seq ?_
  refine Tr.seq ?_
  refine Tr.region ?_
  refine Rg.q (v := .slice x_v0.1 v0.length x_v0.2) (Pu.qo (p_move rfl)) (by decide) ?_
  refine Rg.q (v := .int .i64 ((v0.length : Int))) (Pu.qo (p_len 3 Try.underlying23 rfl)) (by decide) ?_
  refine Rg.q (v := .slice x_v1.1 v1.length x_v1.2) (Pu.qo (p_move rfl)) (by decide) ?_
  refine Rg.q (v := .int .i64 ((v1.length : Int))) (Pu.qo (p_len 3 Try.underlying23 rfl)) (by decide) ?_
  refine Rg.q (v := .bool (!decide ((v0.length : Int) = (v1.length : Int)))) (Pu.qo (p_neq rfl rfl)) (by decide) ?_
  refine Rg.nl ?_
  refine nT (?_)
  refine Tr.cond (b := !decide ((v0.length : Int) = (v1.length : Int))) rfl (fun h1 => ?_) (fun h1 => ?_)
  · have H := cdT h1 H
    refine Tr.seq ?_
    refine Tr.region ?_
    refine Rg.q (v := .bool (false)) (Pu.qo (p_assign rfl)) (by decide) ?_
    refine Rg.nl ?_
    refine nT (?_)
    refine tRet ?_
    refine rT (?_)
    have hr := Option.some.inj H; subst hr
    exact back1 () rfl (ResV.tmp (v := .bool (false)) rfl) rfl Ents.nil Take.nil
  · have H := cdF h1 H
    refine tSkip ?_
    refine nT (?_)
    refine Tr.seq ?_
    refine Tr.seq ?_
    refine Tr.region ?_
    refine Rg.q (v := .int .i64 (0)) (Pu.qo (p_assign rfl)) (by decide) ?_
    refine Rg.nl ?_
    refine nT (?_)
    obtain ⟨x2, hx3, H⟩ := bd.of H
    obtain ⟨n4, hx3⟩ := lp.of hx3
    refine tMidNC (ι := { q : (Unit) × Unit // x2 = .inl q.1 }) (fun ψ => []) (fun ψ => []) ?_ ?_
    · refine Tr.block ?_
      refine tLoopC (ι := { q : Nat × (Int) × Unit // itr (p_laws_eqIntS_b0 v0 v1) q.1 q.2.1 = some x2 }) (fun ζ => [(0, .slice x_v0.1 v0.length x_v0.2), (1, .slice x_v1.1 v1.length x_v1.2), (5, .int .i64 (ζ.1.2.1))]) (fun ζ => []) (fun ζ => ζ.1.1) ⟨(n4, 0, ()), hx3⟩ ⟨rfl, rfl, rfl, trivial⟩ Take.nil ?_
      rintro ⟨⟨m5, σ6, z7⟩, hk12⟩
      obtain ⟨m13, t9, e, H1, hi10, hb11⟩ := itr.of (n := m5) (s := σ6) hk12
      subst e; unfold p_laws_eqIntS_b0 at H1
      show Tr _ _ _ _ _ [(0, .slice x_v0.1 v0.length x_v0.2), (1, .slice x_v1.1 v1.length x_v1.2), (5, .int .i64 (σ6))] _ []
      refine Tr.seq ?_
      refine Tr.seq ?_
      refine Tr.region ?_
      refine Rg.q (v := .int .i64 (σ6)) (Pu.qo (p_move rfl)) (by decide) ?_
      refine Rg.q (v := .slice x_v0.1 v0.length x_v0.2) (Pu.qo (p_move rfl)) (by decide) ?_
      refine Rg.q (v := .int .i64 ((v0.length : Int))) (Pu.qo (p_len 3 Try.underlying23 rfl)) (by decide) ?_
      refine Rg.q (v := .bool (decide (σ6 < (v0.length : Int)))) (Pu.qo (p_lss rfl rfl)) (by decide) ?_
      refine Rg.nl ?_
      refine nT (?_)
      refine Tr.cond (b := decide (σ6 < (v0.length : Int))) rfl (fun h14 => ?_) (fun h14 => ?_)
      · have H1 := cdT h14 H1
        refine tSkip ?_
        refine nT (?_)
        refine Tr.seq ?_
        refine Tr.block ?_
        refine Tr.seq ?_
        refine tLinS [(0, .slice x_v0.1 v0.length x_v0.2), (1, .slice x_v1.1 v1.length x_v1.2), (5, .int .i64 (σ6))] Try.mixed (.inr (by kernel_rfl)) ⟨rfl, rfl, rfl, trivial⟩ rfl ?_
        refine Lin.q (v := .slice x_v0.1 v0.length x_v0.2) (by decide) (Pu.qo (p_move rfl)) ?_
        refine Lin.q (v := .int .i64 (σ6)) (by decide) (Pu.qo (p_move rfl)) ?_
        obtain ⟨h15, H1⟩ := gd.of H1
        refine Lin.q (v := elp x_v0.1 (σ6.toNat * Enc.sz Int + 0)) (by decide) (q_ixg (l := v0) (E := fun i => Flat.enc (nth v0 i)) (oa := x_v0.1) Try.underlying23 ty3 rfl rfl h15 rfl (EntB.flat (Ent.b Ent.z))) ?_
        refine Lin.q (v := .int .i64 (nth v0 σ6.toNat)) (by decide) (q_lde (l := v0) (E := fun i => Flat.enc (nth v0 i)) (oa := x_v0.1) (i := σ6.toNat) (j := 0) ty3 rfl (EntB.flat (Ent.b Ent.z)) h15.lt rfl) ?_
        refine Lin.q (v := .slice x_v1.1 v1.length x_v1.2) (by decide) (Pu.qo (p_move rfl)) ?_
        refine Lin.q (v := .int .i64 (σ6)) (by decide) (Pu.qo (p_move rfl)) ?_
        obtain ⟨h16, H1⟩ := gd.of H1
        refine Lin.q (v := elp x_v1.1 (σ6.toNat * Enc.sz Int + 0)) (by decide) (q_ixg (l := v1) (E := fun i => Flat.enc (nth v1 i)) (oa := x_v1.1) Try.underlying23 ty3 rfl rfl h16 rfl (EntB.flat (Ent.b Ent.z.s))) ?_
        refine Lin.q (v := .int .i64 (nth v1 σ6.toNat)) (by decide) (q_lde (l := v1) (E := fun i => Flat.enc (nth v1 i)) (oa := x_v1.1) (i := σ6.toNat) (j := 0) ty3 rfl (EntB.flat (Ent.b Ent.z.s)) h16.lt rfl) ?_
        refine Lin.q (v := .bool (!decide ((nth v0 σ6.toNat) = (nth v1 σ6.toNat)))) (by decide) (Pu.qo (p_neq rfl rfl)) ?_
        show At _ _ _ _ _ _
        refine nT (?_)
        refine Tr.cond (b := !decide ((nth v0 σ6.toNat) = (nth v1 σ6.toNat))) rfl (fun h17 => ?_) (fun h17 => ?_)
        · have H1 := cdT h17 H1
          refine Tr.seq ?_
          refine Tr.region ?_
          refine Rg.q (v := .bool (false)) (Pu.qo (p_assign rfl)) (by decide) ?_
          refine Rg.nl ?_
          refine nT (?_)
          refine tRet ?_
          refine rB (rT (rT (rB (rT (rT (?_))))))
          have hx := hb11 _ (Option.some.inj H1).symm; subst hx
          replace H := sw.r H
          have hr := Option.some.inj H; subst hr
          exact back1 () rfl (ResV.tmp (v := .bool (false)) rfl) rfl Ents.nil Take.nil
        · have H1 := cdF h17 H1
          refine tSkip ?_
          refine nB (nT (?_))
          refine Tr.region ?_
          refine Rg.q (v := .int .i64 (σ6)) (Pu.qo (p_move rfl)) (by decide) ?_
          obtain ⟨h18, H1⟩ := gd.of H1
          refine Rg.q (v := .int .i64 (σ6 + 1)) (Pu.qo (p_add rfl rfl h18)) (by decide) ?_
          refine Rg.q (v := .int .i64 (σ6 + 1)) (Pu.qo (p_assign rfl)) (by decide) ?_
          refine Rg.nl ?_
          exact nLC ⟨(m13, σ6 + 1, ()), hi10 _ (Option.some.inj H1).symm⟩ (Nat.lt_succ_self _) ⟨rfl, rfl, rfl, trivial⟩ Ents.refl Take.nil
      · have H1 := cdF h14 H1
        refine tExit (xT (xT (xE (?_))))
        exact nMC ⟨((), ()), (hb11 _ (Option.some.inj H1).symm).symm⟩ trivial Ents.refl Take.nil
    · rintro ⟨⟨e19, y8⟩, hx⟩; subst hx; replace H := sw.l H
      show At _ _ [] _ [] _
      refine nT (?_)
      refine Tr.seq ?_
      refine Tr.region ?_
      refine Rg.q (v := .bool (true)) (Pu.qo (p_assign rfl)) (by decide) ?_
      refine Rg.nl ?_
      refine nT (?_)
      refine tRet ?_
      have hr := Option.some.inj H; subst hr
      exact back1 () rfl (ResV.tmp (v := .bool (true)) rfl) rfl Ents.nil Take.nil
def p_laws_eqRow (v0 : Row) (v1 : Row) : Option (Bool) := cond (!decide (v0.1 = v1.1)) (some false) (cond (!decide (v0.2 = v1.2)) (some false) (some true))
theorem c_laws_eqRow {r : Bool} (v0 : Row) (v1 : Row) (H : p_laws_eqRow v0 v1 = some r) : Fn' Try.prog 52 #[.agg #[.int .i64 (v0.1), .int .i64 (v0.2)], .agg #[.int .i64 (v1.1), .int .i64 (v1.2)]] [] [] (ι := Unit) (fun x => .bool (r)) (fun _ => []) (fun x => []) := by
  refine calls_of (args := [_, _]) Try.func52 rfl (by kernel_rfl) Try.ntmps52 (by simp) fun c => ?_
  unfold p_laws_eqRow at H
  refine Tr.seq ?_
  refine Tr.region ?_
  refine Rg.ed (e_box (t := 68) (v := .agg #[.int .i64 (v0.1), .int .i64 (v0.2)]) rfl) rfl (by decide) ?_
  rintro _ _ _ ⟨g1, rfl, rfl, rfl⟩
  refine Rg.ed (e_box (t := 68) (v := .agg #[.int .i64 (v1.1), .int .i64 (v1.2)]) rfl) rfl (by decide) ?_
  rintro _ _ _ ⟨g2, rfl, rfl, rfl⟩
  refine Rg.q (v := .bool (false)) (Pu.qo (p_assign rfl)) (by decide) ?_
  refine Rg.nl ?_
  refine nT (?_)
  refine Tr.seq ?_
  refine Tr.seq ?_
  refine Tr.region ?_
  refine Rg.q (v := .pointer (some ⟨g1, 0, none⟩)) (Pu.qo (p_fabE fa68_0 rfl rfl)) (by decide) ?_
  refine Rg.q (v := .int .i64 (v0.1)) (q_ldb ty3 rfl Has.here.there rfl) (by decide) ?_
  refine Rg.q (v := .pointer (some ⟨g2, 0, none⟩)) (Pu.qo (p_fabE fa68_0 rfl rfl)) (by decide) ?_
  refine Rg.q (v := .int .i64 (v1.1)) (q_ldb ty3 rfl Has.here rfl) (by decide) ?_
  refine Rg.q (v := .bool (!decide (v0.1 = v1.1))) (Pu.qo (p_neq rfl rfl)) (by decide) ?_
  refine Rg.nl ?_
  refine nT (?_)
  refine Tr.cond (b := !decide (v0.1 = v1.1)) rfl (fun h3 => ?_) (fun h3 => ?_)
  · have H := cdT h3 H
    refine Tr.seq ?_
    refine Tr.region ?_
    refine Rg.q (v := .bool (false)) (Pu.qo (p_assign rfl)) (by decide) ?_
    refine Rg.nl ?_
    refine nT (?_)
    refine tRet ?_
    refine rT (?_)
    have hr := Option.some.inj H; subst hr
    exact back1 () rfl (ResV.tmp (v := .bool (false)) rfl) rfl Ents.nil Take.nil
  · have H := cdF h3 H
    refine tSkip ?_
    refine nT (?_)
    refine Tr.seq ?_
    refine Tr.seq ?_
    refine Tr.region ?_
    refine Rg.q (v := .pointer (some ⟨g1, 1, none⟩)) (Pu.qo (p_fabE fa68_1 rfl rfl)) (by decide) ?_
    refine Rg.q (v := .int .i64 (v0.2)) (q_ldb ty3 rfl Has.here.there rfl) (by decide) ?_
    refine Rg.q (v := .pointer (some ⟨g2, 1, none⟩)) (Pu.qo (p_fabE fa68_1 rfl rfl)) (by decide) ?_
    refine Rg.q (v := .int .i64 (v1.2)) (q_ldb ty3 rfl Has.here rfl) (by decide) ?_
    refine Rg.q (v := .bool (!decide (v0.2 = v1.2))) (Pu.qo (p_neq rfl rfl)) (by decide) ?_
    refine Rg.nl ?_
    refine nT (?_)
    refine Tr.cond (b := !decide (v0.2 = v1.2)) rfl (fun h4 => ?_) (fun h4 => ?_)
    · have H := cdT h4 H
      refine Tr.seq ?_
      refine Tr.region ?_
      refine Rg.q (v := .bool (false)) (Pu.qo (p_assign rfl)) (by decide) ?_
      refine Rg.nl ?_
      refine nT (?_)
      refine tRet ?_
      refine rT (?_)
      have hr := Option.some.inj H; subst hr
      exact back1 () rfl (ResV.tmp (v := .bool (false)) rfl) rfl Ents.nil Take.nil
    · have H := cdF h4 H
      refine tSkip ?_
      refine nT (?_)
      refine Tr.seq ?_
      refine Tr.region ?_
      refine Rg.q (v := .bool (true)) (Pu.qo (p_assign rfl)) (by decide) ?_
      refine Rg.nl ?_
      refine nT (?_)
      refine tRet ?_
      have hr := Option.some.inj H; subst hr
      exact back1 () rfl (ResV.tmp (v := .bool (true)) rfl) rfl Ents.nil Take.nil
noncomputable def p_laws_eqRowS_b0 (v0 : (List Row)) (v1 : (List Row)) (σ6 : Int) : Option ((Int) ⊕ (Unit ⊕ Bool)) := cond (decide (σ6 < (v0.length : Int))) (gd (ix σ6 v0.length) <| gd (ix σ6 v1.length) <| bd (p_laws_eqRow (nth v0 σ6.toNat) (nth v1 σ6.toNat)) fun r17 => cond (!r17) (some (.inr (.inr false))) (gd (I64 (σ6 + 1)) <| some (.inl (σ6 + 1)))) (some (.inr (.inl ())))
noncomputable def p_laws_eqRowS (v0 : (List Row)) (v1 : (List Row)) : Option (Bool) := cond (!decide ((v0.length : Int) = (v1.length : Int))) (some false) (bd (lp (p_laws_eqRowS_b0 v0 v1) 0) <| sw (fun e21 => some true) (fun q => some q))
theorem c_laws_eqRowS {r : Bool} (v0 : (List Row)) (x_v0 : Option Addr × Nat) (v1 : (List Row)) (x_v1 : Option Addr × Nat) (H : p_laws_eqRowS v0 v1 = some r) : Fn' Try.prog 24 #[.slice x_v0.1 v0.length x_v0.2, .slice x_v1.1 v1.length x_v1.2] [imm (.slice x_v0.1 v0.length x_v0.2) v0, imm (.slice x_v1.1 v1.length x_v1.2) v1] [] (ι := Unit) (fun x => .bool (r)) (fun _ => []) (fun x => []) := by
  refine calls_of (args := [_, _]) Try.func24 rfl (by kernel_rfl) Try.ntmps24 (by simp) fun c => ?_
  unfold p_laws_eqRowS at H
  refine Tr.seq ?_
  refine Tr.region ?_
  refine Rg.q (v := .bool (false)) (Pu.qo (p_assign rfl)) (by decide) ?_
  refine Rg.nl ?_
  refine nT (?_)
  refine Tr.seq ?_
  refine Tr.seq ?_
  refine Tr.region ?_
  refine Rg.q (v := .slice x_v0.1 v0.length x_v0.2) (Pu.qo (p_move rfl)) (by decide) ?_
  refine Rg.q (v := .int .i64 ((v0.length : Int))) (Pu.qo (p_len 68 Try.underlying29 rfl)) (by decide) ?_
  refine Rg.q (v := .slice x_v1.1 v1.length x_v1.2) (Pu.qo (p_move rfl)) (by decide) ?_
  refine Rg.q (v := .int .i64 ((v1.length : Int))) (Pu.qo (p_len 68 Try.underlying29 rfl)) (by decide) ?_
  refine Rg.q (v := .bool (!decide ((v0.length : Int) = (v1.length : Int)))) (Pu.qo (p_neq rfl rfl)) (by decide) ?_
  refine Rg.nl ?_
  refine nT (?_)
  refine Tr.cond (b := !decide ((v0.length : Int) = (v1.length : Int))) rfl (fun h1 => ?_) (fun h1 => ?_)
  · have H := cdT h1 H
    refine Tr.seq ?_
    refine Tr.region ?_
    refine Rg.q (v := .bool (false)) (Pu.qo (p_assign rfl)) (by decide) ?_
    refine Rg.nl ?_
    refine nT (?_)
    refine tRet ?_
    refine rT (?_)
    have hr := Option.some.inj H; subst hr
    exact back1 () rfl (ResV.tmp (v := .bool (false)) rfl) rfl Ents.nil Take.nil
  · have H := cdF h1 H
    refine tSkip ?_
    refine nT (?_)
    refine Tr.seq ?_
    refine Tr.seq ?_
    refine Tr.region ?_
    refine Rg.q (v := .int .i64 (0)) (Pu.qo (p_assign rfl)) (by decide) ?_
    refine Rg.nl ?_
    refine nT (?_)
    obtain ⟨x2, hx3, H⟩ := bd.of H
    obtain ⟨n4, hx3⟩ := lp.of hx3
    refine tMidNC (ι := { q : (Unit) × Unit // x2 = .inl q.1 }) (fun ψ => []) (fun ψ => []) ?_ ?_
    · refine Tr.block ?_
      refine tLoopC (ι := { q : Nat × (Int) × Unit // itr (p_laws_eqRowS_b0 v0 v1) q.1 q.2.1 = some x2 }) (fun ζ => [(0, .slice x_v0.1 v0.length x_v0.2), (1, .slice x_v1.1 v1.length x_v1.2), (5, .int .i64 (ζ.1.2.1))]) (fun ζ => []) (fun ζ => ζ.1.1) ⟨(n4, 0, ()), hx3⟩ ⟨rfl, rfl, rfl, trivial⟩ Take.nil ?_
      rintro ⟨⟨m5, σ6, z7⟩, hk12⟩
      obtain ⟨m13, t9, e, H1, hi10, hb11⟩ := itr.of (n := m5) (s := σ6) hk12
      subst e; unfold p_laws_eqRowS_b0 at H1
      show Tr _ _ _ _ _ [(0, .slice x_v0.1 v0.length x_v0.2), (1, .slice x_v1.1 v1.length x_v1.2), (5, .int .i64 (σ6))] _ []
      refine Tr.seq ?_
      refine Tr.seq ?_
      refine Tr.region ?_
      refine Rg.q (v := .int .i64 (σ6)) (Pu.qo (p_move rfl)) (by decide) ?_
      refine Rg.q (v := .slice x_v0.1 v0.length x_v0.2) (Pu.qo (p_move rfl)) (by decide) ?_
      refine Rg.q (v := .int .i64 ((v0.length : Int))) (Pu.qo (p_len 68 Try.underlying29 rfl)) (by decide) ?_
      refine Rg.q (v := .bool (decide (σ6 < (v0.length : Int)))) (Pu.qo (p_lss rfl rfl)) (by decide) ?_
      refine Rg.nl ?_
      refine nT (?_)
      refine Tr.cond (b := decide (σ6 < (v0.length : Int))) rfl (fun h14 => ?_) (fun h14 => ?_)
      · have H1 := cdT h14 H1
        refine tSkip ?_
        refine nT (?_)
        refine Tr.seq ?_
        refine Tr.block ?_
        refine Tr.seq ?_
        refine tLinS [(0, .slice x_v0.1 v0.length x_v0.2), (1, .slice x_v1.1 v1.length x_v1.2), (5, .int .i64 (σ6))] Try.mixed (.inr (by kernel_rfl)) ⟨rfl, rfl, rfl, trivial⟩ rfl ?_
        refine Lin.q (v := .slice x_v0.1 v0.length x_v0.2) (by decide) (Pu.qo (p_move rfl)) ?_
        refine Lin.q (v := .int .i64 (σ6)) (by decide) (Pu.qo (p_move rfl)) ?_
        obtain ⟨h15, H1⟩ := gd.of H1
        refine Lin.q (v := elp x_v0.1 (σ6.toNat * Enc.sz Row + 0)) (by decide) (q_ixg (l := v0) (E := fun i => Flat.enc (nth v0 i)) (oa := x_v0.1) Try.underlying29 ty68 rfl rfl h15 rfl (EntB.flat (Ent.b Ent.z))) ?_
        refine Lin.q (v := .agg #[.int .i64 ((nth v0 σ6.toNat).1), .int .i64 ((nth v0 σ6.toNat).2)]) (by decide) (q_ldeA (l := v0) (E := fun i => Flat.enc (nth v0 i)) (oa := x_v0.1) (i := σ6.toNat) ty68 rfl (EntB.flat (Ent.b Ent.z)) h15.lt) ?_
        refine Lin.q (v := .slice x_v1.1 v1.length x_v1.2) (by decide) (Pu.qo (p_move rfl)) ?_
        refine Lin.q (v := .int .i64 (σ6)) (by decide) (Pu.qo (p_move rfl)) ?_
        obtain ⟨h16, H1⟩ := gd.of H1
        refine Lin.q (v := elp x_v1.1 (σ6.toNat * Enc.sz Row + 0)) (by decide) (q_ixg (l := v1) (E := fun i => Flat.enc (nth v1 i)) (oa := x_v1.1) Try.underlying29 ty68 rfl rfl h16 rfl (EntB.flat (Ent.b Ent.z.s))) ?_
        refine Lin.q (v := .agg #[.int .i64 ((nth v1 σ6.toNat).1), .int .i64 ((nth v1 σ6.toNat).2)]) (by decide) (q_ldeA (l := v1) (E := fun i => Flat.enc (nth v1 i)) (oa := x_v1.1) (i := σ6.toNat) ty68 rfl (EntB.flat (Ent.b Ent.z.s)) h16.lt) ?_
        obtain ⟨r17, h18, H1⟩ := bd.of H1
        refine Lin.q (v := .bool (r17)) (by decide) (q_call (vs := [.agg #[.int .i64 ((nth v0 σ6.toNat).1), .int .i64 ((nth v0 σ6.toNat).2)], .agg #[.int .i64 ((nth v1 σ6.toNat).1), .int .i64 ((nth v1 σ6.toNat).2)]]) (c_laws_eqRow (nth v0 σ6.toNat) (nth v1 σ6.toNat) h18) rfl EntsB.nil) ?_
        refine Lin.q (v := .bool (!r17)) (by decide) (Pu.qo (p_not rfl)) ?_
        show At _ _ _ _ _ _
        refine nT (?_)
        refine Tr.cond (b := !r17) rfl (fun h19 => ?_) (fun h19 => ?_)
        · have H1 := cdT h19 H1
          refine Tr.seq ?_
          refine Tr.region ?_
          refine Rg.q (v := .bool (false)) (Pu.qo (p_assign rfl)) (by decide) ?_
          refine Rg.nl ?_
          refine nT (?_)
          refine tRet ?_
          refine rB (rT (rT (rB (rT (rT (?_))))))
          have hx := hb11 _ (Option.some.inj H1).symm; subst hx
          replace H := sw.r H
          have hr := Option.some.inj H; subst hr
          exact back1 () rfl (ResV.tmp (v := .bool (false)) rfl) rfl Ents.nil Take.nil
        · have H1 := cdF h19 H1
          refine tSkip ?_
          refine nB (nT (?_))
          refine Tr.region ?_
          refine Rg.q (v := .int .i64 (σ6)) (Pu.qo (p_move rfl)) (by decide) ?_
          obtain ⟨h20, H1⟩ := gd.of H1
          refine Rg.q (v := .int .i64 (σ6 + 1)) (Pu.qo (p_add rfl rfl h20)) (by decide) ?_
          refine Rg.q (v := .int .i64 (σ6 + 1)) (Pu.qo (p_assign rfl)) (by decide) ?_
          refine Rg.nl ?_
          exact nLC ⟨(m13, σ6 + 1, ()), hi10 _ (Option.some.inj H1).symm⟩ (Nat.lt_succ_self _) ⟨rfl, rfl, rfl, trivial⟩ Ents.refl Take.nil
      · have H1 := cdF h14 H1
        refine tExit (xT (xT (xE (?_))))
        exact nMC ⟨((), ()), (hb11 _ (Option.some.inj H1).symm).symm⟩ trivial Ents.refl Take.nil
    · rintro ⟨⟨e21, y8⟩, hx⟩; subst hx; replace H := sw.l H
      show At _ _ [] _ [] _
      refine nT (?_)
      refine Tr.seq ?_
      refine Tr.region ?_
      refine Rg.q (v := .bool (true)) (Pu.qo (p_assign rfl)) (by decide) ?_
      refine Rg.nl ?_
      refine nT (?_)
      refine tRet ?_
      have hr := Option.some.inj H; subst hr
      exact back1 () rfl (ResV.tmp (v := .bool (true)) rfl) rfl Ents.nil Take.nil
noncomputable def p_laws_eqRowSS_b0 (v0 : (List (List Row))) (v1 : (List (List Row))) (σ8 : Int) : Option ((Int) ⊕ (Unit ⊕ Bool)) := cond (decide (σ8 < (v0.length : Int))) (gd (ix σ8 v0.length) <| gd (ix σ8 v1.length) <| bd (p_laws_eqRowS (nth v0 σ8.toNat) (nth v1 σ8.toNat)) fun r19 => cond (!r19) (some (.inr (.inr false))) (gd (I64 (σ8 + 1)) <| some (.inl (σ8 + 1)))) (some (.inr (.inl ())))
noncomputable def p_laws_eqRowSS (v0 : (List (List Row))) (v1 : (List (List Row))) : Option (Bool) := cond (!decide ((v0.length : Int) = (v1.length : Int))) (some false) (bd (lp (p_laws_eqRowSS_b0 v0 v1) 0) <| sw (fun e23 => some true) (fun q => some q))
theorem c_laws_eqRowSS {r : Bool} (v0 : (List (List Row))) (x_v0 : Option Addr × Nat) (v1 : (List (List Row))) (x_v1 : Option Addr × Nat) (H : p_laws_eqRowSS v0 v1 = some r) : Fn' Try.prog 49 #[.slice x_v0.1 v0.length x_v0.2, .slice x_v1.1 v1.length x_v1.2] [imm (.slice x_v0.1 v0.length x_v0.2) v0, imm (.slice x_v1.1 v1.length x_v1.2) v1] [] (ι := Unit) (fun x => .bool (r)) (fun _ => []) (fun x => []) := by
  refine calls_of (args := [_, _]) Try.func49 rfl (by kernel_rfl) Try.ntmps49 (by simp) fun c => ?_
  unfold p_laws_eqRowSS at H
  refine Tr.openD Ent.z fun X1 => ?_
  refine Tr.openD Ent.z.s.s fun X2 => ?_
  refine Tr.seq ?_
  refine Tr.region ?_
  refine Rg.q (v := .bool (false)) (Pu.qo (p_assign rfl)) (by decide) ?_
  refine Rg.nl ?_
  refine nT (?_)
  refine Tr.seq ?_
  refine Tr.seq ?_
  refine Tr.region ?_
  refine Rg.q (v := .slice x_v0.1 v0.length x_v0.2) (Pu.qo (p_move rfl)) (by decide) ?_
  refine Rg.q (v := .int .i64 ((v0.length : Int))) (Pu.qo (p_len 29 Try.underlying24 rfl)) (by decide) ?_
  refine Rg.q (v := .slice x_v1.1 v1.length x_v1.2) (Pu.qo (p_move rfl)) (by decide) ?_
  refine Rg.q (v := .int .i64 ((v1.length : Int))) (Pu.qo (p_len 29 Try.underlying24 rfl)) (by decide) ?_
  refine Rg.q (v := .bool (!decide ((v0.length : Int) = (v1.length : Int)))) (Pu.qo (p_neq rfl rfl)) (by decide) ?_
  refine Rg.nl ?_
  refine nT (?_)
  refine Tr.cond (b := !decide ((v0.length : Int) = (v1.length : Int))) rfl (fun h3 => ?_) (fun h3 => ?_)
  · have H := cdT h3 H
    refine Tr.seq ?_
    refine Tr.region ?_
    refine Rg.q (v := .bool (false)) (Pu.qo (p_assign rfl)) (by decide) ?_
    refine Rg.nl ?_
    refine nT (?_)
    refine tRet ?_
    refine rT (?_)
    have hr := Option.some.inj H; subst hr
    exact back1 () rfl (ResV.tmp (v := .bool (false)) rfl) rfl Ents.nil Take.nil
  · have H := cdF h3 H
    refine tSkip ?_
    refine nT (?_)
    refine Tr.seq ?_
    refine Tr.seq ?_
    refine Tr.region ?_
    refine Rg.q (v := .int .i64 (0)) (Pu.qo (p_assign rfl)) (by decide) ?_
    refine Rg.nl ?_
    refine nT (?_)
    obtain ⟨x4, hx5, H⟩ := bd.of H
    obtain ⟨n6, hx5⟩ := lp.of hx5
    refine tMidNC (ι := { q : (Unit) × Unit // x4 = .inl q.1 }) (fun ψ => []) (fun ψ => []) ?_ ?_
    · refine Tr.block ?_
      refine tLoopC (ι := { q : Nat × (Int) × Unit // itr (p_laws_eqRowSS_b0 v0 v1) q.1 q.2.1 = some x4 }) (fun ζ => [(0, .slice x_v0.1 v0.length x_v0.2), (1, .slice x_v1.1 v1.length x_v1.2), (5, .int .i64 (ζ.1.2.1))]) (fun ζ => []) (fun ζ => ζ.1.1) ⟨(n6, 0, ()), hx5⟩ ⟨rfl, rfl, rfl, trivial⟩ Take.nil ?_
      rintro ⟨⟨m7, σ8, z9⟩, hk14⟩
      obtain ⟨m15, t11, e, H1, hi12, hb13⟩ := itr.of (n := m7) (s := σ8) hk14
      subst e; unfold p_laws_eqRowSS_b0 at H1
      show Tr _ _ _ _ _ [(0, .slice x_v0.1 v0.length x_v0.2), (1, .slice x_v1.1 v1.length x_v1.2), (5, .int .i64 (σ8))] _ []
      refine Tr.seq ?_
      refine Tr.seq ?_
      refine Tr.region ?_
      refine Rg.q (v := .int .i64 (σ8)) (Pu.qo (p_move rfl)) (by decide) ?_
      refine Rg.q (v := .slice x_v0.1 v0.length x_v0.2) (Pu.qo (p_move rfl)) (by decide) ?_
      refine Rg.q (v := .int .i64 ((v0.length : Int))) (Pu.qo (p_len 29 Try.underlying24 rfl)) (by decide) ?_
      refine Rg.q (v := .bool (decide (σ8 < (v0.length : Int)))) (Pu.qo (p_lss rfl rfl)) (by decide) ?_
      refine Rg.nl ?_
      refine nT (?_)
      refine Tr.cond (b := decide (σ8 < (v0.length : Int))) rfl (fun h16 => ?_) (fun h16 => ?_)
      · have H1 := cdT h16 H1
        refine tSkip ?_
        refine nT (?_)
        refine Tr.seq ?_
        refine Tr.block ?_
        refine Tr.seq ?_
        refine tLinS [(0, .slice x_v0.1 v0.length x_v0.2), (1, .slice x_v1.1 v1.length x_v1.2), (5, .int .i64 (σ8))] Try.mixed (.inr (by kernel_rfl)) ⟨rfl, rfl, rfl, trivial⟩ rfl ?_
        refine Lin.q (v := .slice x_v0.1 v0.length x_v0.2) (by decide) (Pu.qo (p_move rfl)) ?_
        refine Lin.q (v := .int .i64 (σ8)) (by decide) (Pu.qo (p_move rfl)) ?_
        obtain ⟨h17, H1⟩ := gd.of H1
        refine Lin.q (v := elp x_v0.1 (σ8.toNat * Enc.sz (List Row) + 0)) (by decide) (q_ixg (l := v0) (E := fun i => Dp.denc (nth v0 i) (X1 i)) (oa := x_v0.1) Try.underlying24 ty29 rfl rfl h17 rfl (Ent.b (Ent.darr Ent.z.s))) ?_
        refine Lin.q (v := .slice ((X1 σ8.toNat).1) ((nth v0 σ8.toNat).length) ((X1 σ8.toNat).2.1)) (by decide) (q_lde (l := v0) (E := fun i => Dp.denc (nth v0 i) (X1 i)) (oa := x_v0.1) (i := σ8.toNat) (j := 0) ty29 rfl (Ent.b (Ent.darr Ent.z.s)) h17.lt rfl) ?_
        refine Lin.q (v := .slice x_v1.1 v1.length x_v1.2) (by decide) (Pu.qo (p_move rfl)) ?_
        refine Lin.q (v := .int .i64 (σ8)) (by decide) (Pu.qo (p_move rfl)) ?_
        obtain ⟨h18, H1⟩ := gd.of H1
        refine Lin.q (v := elp x_v1.1 (σ8.toNat * Enc.sz (List Row) + 0)) (by decide) (q_ixg (l := v1) (E := fun i => Dp.denc (nth v1 i) (X2 i)) (oa := x_v1.1) Try.underlying24 ty29 rfl rfl h18 rfl (Ent.b (Ent.darr Ent.z))) ?_
        refine Lin.q (v := .slice ((X2 σ8.toNat).1) ((nth v1 σ8.toNat).length) ((X2 σ8.toNat).2.1)) (by decide) (q_lde (l := v1) (E := fun i => Dp.denc (nth v1 i) (X2 i)) (oa := x_v1.1) (i := σ8.toNat) (j := 0) ty29 rfl (Ent.b (Ent.darr Ent.z)) h18.lt rfl) ?_
        obtain ⟨r19, h20, H1⟩ := bd.of H1
        refine Lin.q (v := .bool (r19)) (by decide) (q_call (vs := [.slice ((X1 σ8.toNat).1) ((nth v0 σ8.toNat).length) ((X1 σ8.toNat).2.1), .slice ((X2 σ8.toNat).1) ((nth v1 σ8.toNat).length) ((X2 σ8.toNat).2.1)]) (c_laws_eqRowS (nth v0 σ8.toNat) ((X1 σ8.toNat).1, (X1 σ8.toNat).2.1) (nth v1 σ8.toNat) ((X2 σ8.toNat).1, (X2 σ8.toNat).2.1) h20) rfl (EntsB.cons (Ent.b (Ent.dimm (Ent.del Ent.z.s h17.lt))) (EntsB.cons (Ent.b (Ent.dimm (Ent.del Ent.z h18.lt))) EntsB.nil))) ?_
        refine Lin.q (v := .bool (!r19)) (by decide) (Pu.qo (p_not rfl)) ?_
        show At _ _ _ _ _ _
        refine nT (?_)
        refine Tr.cond (b := !r19) rfl (fun h21 => ?_) (fun h21 => ?_)
        · have H1 := cdT h21 H1
          refine Tr.seq ?_
          refine Tr.region ?_
          refine Rg.q (v := .bool (false)) (Pu.qo (p_assign rfl)) (by decide) ?_
          refine Rg.nl ?_
          refine nT (?_)
          refine tRet ?_
          refine rB (rT (rT (rB (rT (rT (?_))))))
          have hx := hb13 _ (Option.some.inj H1).symm; subst hx
          replace H := sw.r H
          have hr := Option.some.inj H; subst hr
          exact back1 () rfl (ResV.tmp (v := .bool (false)) rfl) rfl Ents.nil Take.nil
        · have H1 := cdF h21 H1
          refine tSkip ?_
          refine nB (nT (?_))
          refine Tr.region ?_
          refine Rg.q (v := .int .i64 (σ8)) (Pu.qo (p_move rfl)) (by decide) ?_
          obtain ⟨h22, H1⟩ := gd.of H1
          refine Rg.q (v := .int .i64 (σ8 + 1)) (Pu.qo (p_add rfl rfl h22)) (by decide) ?_
          refine Rg.q (v := .int .i64 (σ8 + 1)) (Pu.qo (p_assign rfl)) (by decide) ?_
          refine Rg.nl ?_
          exact nLC ⟨(m15, σ8 + 1, ()), hi12 _ (Option.some.inj H1).symm⟩ (Nat.lt_succ_self _) ⟨rfl, rfl, rfl, trivial⟩ Ents.refl Take.nil
      · have H1 := cdF h16 H1
        refine tExit (xT (xT (xE (?_))))
        exact nMC ⟨((), ()), (hb13 _ (Option.some.inj H1).symm).symm⟩ trivial Ents.refl Take.nil
    · rintro ⟨⟨e23, y10⟩, hx⟩; subst hx; replace H := sw.l H
      show At _ _ [] _ [] _
      refine nT (?_)
      refine Tr.seq ?_
      refine Tr.region ?_
      refine Rg.q (v := .bool (true)) (Pu.qo (p_assign rfl)) (by decide) ?_
      refine Rg.nl ?_
      refine nT (?_)
      refine tRet ?_
      have hr := Option.some.inj H; subst hr
      exact back1 () rfl (ResV.tmp (v := .bool (true)) rfl) rfl Ents.nil Take.nil
noncomputable def p_laws_eqPart (v0 : Part) (v1 : Part) : Option (Bool) := bd (p_laws_eqIntS v0.1 v1.1) fun r5 => cond (!r5) (some false) (bd (p_laws_eqRowSS v0.2 v1.2) fun r8 => cond (!r8) (some false) (some true))
theorem c_laws_eqPart {r : Bool} (v0 : Part) (x_v0 : (Option Addr × Nat) × (Option Addr × Nat)) (v1 : Part) (x_v1 : (Option Addr × Nat) × (Option Addr × Nat)) (H : p_laws_eqPart v0 v1 = some r) : Fn' Try.prog 16 #[.agg #[.slice x_v0.1.1 v0.1.length x_v0.1.2, .slice x_v0.2.1 v0.2.length x_v0.2.2], .agg #[.slice x_v1.1.1 v1.1.length x_v1.1.2, .slice x_v1.2.1 v1.2.length x_v1.2.2]] [imm (.slice x_v0.1.1 v0.1.length x_v0.1.2) v0.1, imm (.slice x_v0.2.1 v0.2.length x_v0.2.2) v0.2, imm (.slice x_v1.1.1 v1.1.length x_v1.1.2) v1.1, imm (.slice x_v1.2.1 v1.2.length x_v1.2.2) v1.2] [] (ι := Unit) (fun x => .bool (r)) (fun _ => []) (fun x => []) := by
  refine calls_of (args := [_, _]) Try.func16 rfl (by kernel_rfl) Try.ntmps16 (by simp) fun c => ?_
  unfold p_laws_eqPart at H
  refine Tr.openD Ent.z.s fun X1 => ?_
  refine Tr.openD Ent.z.s.s.s.s fun X2 => ?_
  refine Tr.seq ?_
  refine Tr.region ?_
  refine Rg.ed (e_box (t := 26) (v := .agg #[.slice x_v0.1.1 v0.1.length x_v0.1.2, .slice x_v0.2.1 v0.2.length x_v0.2.2]) rfl) rfl (by decide) ?_
  rintro _ _ _ ⟨g3, rfl, rfl, rfl⟩
  refine Rg.ed (e_box (t := 26) (v := .agg #[.slice x_v1.1.1 v1.1.length x_v1.1.2, .slice x_v1.2.1 v1.2.length x_v1.2.2]) rfl) rfl (by decide) ?_
  rintro _ _ _ ⟨g4, rfl, rfl, rfl⟩
  refine Rg.q (v := .bool (false)) (Pu.qo (p_assign rfl)) (by decide) ?_
  refine Rg.nl ?_
  refine nT (?_)
  refine Tr.seq ?_
  refine Tr.seq ?_
  refine Tr.region ?_
  refine Rg.q (v := .pointer (some ⟨g3, 0, none⟩)) (Pu.qo (p_fabE fa26_0 rfl rfl)) (by decide) ?_
  refine Rg.q (v := .slice x_v0.1.1 v0.1.length x_v0.1.2) (q_ldb ty23 rfl Has.here.there rfl) (by decide) ?_
  refine Rg.q (v := .pointer (some ⟨g4, 0, none⟩)) (Pu.qo (p_fabE fa26_0 rfl rfl)) (by decide) ?_
  refine Rg.q (v := .slice x_v1.1.1 v1.1.length x_v1.1.2) (q_ldb ty23 rfl Has.here rfl) (by decide) ?_
  obtain ⟨r5, h6, H⟩ := bd.of H
  refine Rg.q (v := .bool (r5)) (q_call (vs := [.slice x_v0.1.1 v0.1.length x_v0.1.2, .slice x_v1.1.1 v1.1.length x_v1.1.2]) (c_laws_eqIntS v0.1 x_v0.1 v1.1 x_v1.1 h6) rfl (EntsB.cons (Ent.b Ent.z.s.s) (EntsB.cons (Ent.b Ent.z.s.s.s.s) EntsB.nil))) (by decide) ?_
  refine Rg.q (v := .bool (!r5)) (Pu.qo (p_not rfl)) (by decide) ?_
  refine Rg.nl ?_
  refine nT (?_)
  refine Tr.cond (b := !r5) rfl (fun h7 => ?_) (fun h7 => ?_)
  · have H := cdT h7 H
    refine Tr.seq ?_
    refine Tr.region ?_
    refine Rg.q (v := .bool (false)) (Pu.qo (p_assign rfl)) (by decide) ?_
    refine Rg.nl ?_
    refine nT (?_)
    refine tRet ?_
    refine rT (?_)
    have hr := Option.some.inj H; subst hr
    exact back1 () rfl (ResV.tmp (v := .bool (false)) rfl) rfl Ents.nil Take.nil
  · have H := cdF h7 H
    refine tSkip ?_
    refine nT (?_)
    refine Tr.seq ?_
    refine Tr.seq ?_
    refine Tr.region ?_
    refine Rg.q (v := .pointer (some ⟨g3, 1, none⟩)) (Pu.qo (p_fabE fa26_1 rfl rfl)) (by decide) ?_
    refine Rg.q (v := .slice x_v0.2.1 v0.2.length x_v0.2.2) (q_ldb ty24 rfl Has.here.there rfl) (by decide) ?_
    refine Rg.q (v := .pointer (some ⟨g4, 1, none⟩)) (Pu.qo (p_fabE fa26_1 rfl rfl)) (by decide) ?_
    refine Rg.q (v := .slice x_v1.2.1 v1.2.length x_v1.2.2) (q_ldb ty24 rfl Has.here rfl) (by decide) ?_
    obtain ⟨r8, h9, H⟩ := bd.of H
    refine Rg.q (v := .bool (r8)) (q_call (vs := [.slice x_v0.2.1 v0.2.length x_v0.2.2, .slice x_v1.2.1 v1.2.length x_v1.2.2]) (c_laws_eqRowSS v0.2 x_v0.2 v1.2 x_v1.2 h9) rfl (EntsB.cons (Ent.b (Ent.dimm Ent.z.s)) (EntsB.cons (Ent.b (Ent.dimm Ent.z)) EntsB.nil))) (by decide) ?_
    refine Rg.q (v := .bool (!r8)) (Pu.qo (p_not rfl)) (by decide) ?_
    refine Rg.nl ?_
    refine nT (?_)
    refine Tr.cond (b := !r8) rfl (fun h10 => ?_) (fun h10 => ?_)
    · have H := cdT h10 H
      refine Tr.seq ?_
      refine Tr.region ?_
      refine Rg.q (v := .bool (false)) (Pu.qo (p_assign rfl)) (by decide) ?_
      refine Rg.nl ?_
      refine nT (?_)
      refine tRet ?_
      refine rT (?_)
      have hr := Option.some.inj H; subst hr
      exact back1 () rfl (ResV.tmp (v := .bool (false)) rfl) rfl Ents.nil Take.nil
    · have H := cdF h10 H
      refine tSkip ?_
      refine nT (?_)
      refine Tr.seq ?_
      refine Tr.region ?_
      refine Rg.q (v := .bool (true)) (Pu.qo (p_assign rfl)) (by decide) ?_
      refine Rg.nl ?_
      refine nT (?_)
      refine tRet ?_
      have hr := Option.some.inj H; subst hr
      exact back1 () rfl (ResV.tmp (v := .bool (true)) rfl) rfl Ents.nil Take.nil
noncomputable def p_laws_toIntS_b0 (v0 : (List Int)) (σ8 : (List Int) × Int) : Option (((List Int) × Int) ⊕ ((List Int))) := cond (decide (σ8.2 < (v0.length : Int))) (gd (ix σ8.2 v0.length) <| gd (ix σ8.2 σ8.1.length) <| gd (I64 (σ8.2 + 1)) <| some (.inl ((σ8.1.set σ8.2.toNat (nth v0 σ8.2.toNat)), σ8.2 + 1))) (some (.inr σ8.1))
noncomputable def p_laws_toIntS (v0 : (List Int)) : Option ((List Int)) := gd (many (v0.length : Int)) <| bd (lp (p_laws_toIntS_b0 v0) ((List.replicate (v0.length : Int).toNat (Zr.z0 : Int)), 0)) fun x4 => some x4
theorem c_laws_toIntS {r : (List Int)} (v0 : (List Int)) (x_v0 : Option Addr × Nat) (H : p_laws_toIntS v0 = some r) : Fn' Try.prog 46 #[.slice x_v0.1 v0.length x_v0.2] [imm (.slice x_v0.1 v0.length x_v0.2) v0] [] (ι := Option Addr × Nat) (fun x => .slice x.1 r.length x.2) (fun _ => []) (fun x => [tree (.slice x.1 r.length x.2) r]) := by
  refine calls_of (args := [_]) Try.func46 rfl (by kernel_rfl) Try.ntmps46 (by simp) fun c => ?_
  unfold p_laws_toIntS at H
  refine Tr.seq ?_
  refine Tr.region ?_
  refine Rg.q (v := .slice none 0 0) (Pu.qo (p_assign rfl)) (by decide) ?_
  refine Rg.nl ?_
  refine nT (?_)
  refine Tr.seq ?_
  refine Tr.region ?_
  refine Rg.q (v := .slice x_v0.1 v0.length x_v0.2) (Pu.qo (p_move rfl)) (by decide) ?_
  refine Rg.q (v := .int .i64 ((v0.length : Int))) (Pu.qo (p_len 3 Try.underlying23 rfl)) (by decide) ?_
  obtain ⟨h3, H⟩ := gd.of H
  refine Rg.ed (e_makeR Int Try.underlying23 ty3 rfl rfl rfl h3 (by decide)) rfl (by decide) ?_
  rintro _ _ _ ⟨a1, c2, rfl, rfl, rfl⟩
  refine Rg.q (v := .slice a1 ((List.replicate (v0.length : Int).toNat (Zr.z0 : Int)).length) c2) (Pu.qo (p_assign rfl)) (by decide) ?_
  refine Rg.nl ?_
  refine nT (?_)
  refine Tr.seq ?_
  refine Tr.seq ?_
  refine Tr.region ?_
  refine Rg.q (v := .int .i64 (0)) (Pu.qo (p_assign rfl)) (by decide) ?_
  refine Rg.nl ?_
  refine nT (?_)
  obtain ⟨x4, hx5, H⟩ := bd.of H
  obtain ⟨n6, hx5⟩ := lp.of hx5
  refine tMidNC (ι := Unit) (fun ψ => [(3, .slice a1 x4.length c2)]) (fun ψ => [tree (.slice a1 x4.length c2) x4]) ?_ ?_
  · refine Tr.block ?_
    refine tLoopC (ι := { q : Nat × ((List Int) × Int) × Unit // itr (p_laws_toIntS_b0 v0) q.1 q.2.1 = some x4 }) (fun ζ => [(0, .slice x_v0.1 v0.length x_v0.2), (3, .slice a1 ζ.1.2.1.1.length c2), (4, .int .i64 (ζ.1.2.1.2))]) (fun ζ => [tree (.slice a1 ζ.1.2.1.1.length c2) ζ.1.2.1.1]) (fun ζ => ζ.1.1) ⟨(n6, ((List.replicate (v0.length : Int).toNat (Zr.z0 : Int)), 0), ()), hx5⟩ ⟨rfl, rfl, rfl, trivial⟩ (.cons Del.here .nil) ?_
    rintro ⟨⟨m7, σ8, z9⟩, hk14⟩
    obtain ⟨m15, t11, e, H1, hi12, hb13⟩ := itr.of (n := m7) (s := σ8) hk14
    subst e; unfold p_laws_toIntS_b0 at H1
    show Tr _ _ _ _ _ [(0, .slice x_v0.1 v0.length x_v0.2), (3, .slice a1 σ8.1.length c2), (4, .int .i64 (σ8.2))] _ [tree (.slice a1 σ8.1.length c2) σ8.1]
    refine Tr.seq ?_
    refine Tr.seq ?_
    refine Tr.region ?_
    refine Rg.q (v := .int .i64 (σ8.2)) (Pu.qo (p_move rfl)) (by decide) ?_
    refine Rg.q (v := .slice x_v0.1 v0.length x_v0.2) (Pu.qo (p_move rfl)) (by decide) ?_
    refine Rg.q (v := .int .i64 ((v0.length : Int))) (Pu.qo (p_len 3 Try.underlying23 rfl)) (by decide) ?_
    refine Rg.q (v := .bool (decide (σ8.2 < (v0.length : Int)))) (Pu.qo (p_lss rfl rfl)) (by decide) ?_
    refine Rg.nl ?_
    refine nT (?_)
    refine Tr.cond (b := decide (σ8.2 < (v0.length : Int))) rfl (fun h16 => ?_) (fun h16 => ?_)
    · have H1 := cdT h16 H1
      refine tSkip ?_
      refine nT (?_)
      refine Tr.seq ?_
      refine Tr.block ?_
      refine Tr.region ?_
      refine Rg.q (v := .slice a1 σ8.1.length c2) (Pu.qo (p_move rfl)) (by decide) ?_
      refine Rg.q (v := .int .i64 (σ8.2)) (Pu.qo (p_move rfl)) (by decide) ?_
      refine Rg.q (v := .slice x_v0.1 v0.length x_v0.2) (Pu.qo (p_move rfl)) (by decide) ?_
      refine Rg.q (v := .int .i64 (σ8.2)) (Pu.qo (p_move rfl)) (by decide) ?_
      obtain ⟨h17, H1⟩ := gd.of H1
      refine Rg.q (v := elp x_v0.1 (σ8.2.toNat * Enc.sz Int + 0)) (q_ixg (l := v0) (E := fun i => Flat.enc (nth v0 i)) (oa := x_v0.1) Try.underlying23 ty3 rfl rfl h17 rfl (EntB.flat (Ent.b Ent.z))) (by decide) ?_
      refine Rg.q (v := .int .i64 (nth v0 σ8.2.toNat)) (q_lde (l := v0) (E := fun i => Flat.enc (nth v0 i)) (oa := x_v0.1) (i := σ8.2.toNat) (j := 0) ty3 rfl (EntB.flat (Ent.b Ent.z)) h17.lt rfl) (by decide) ?_
      obtain ⟨h18, H1⟩ := gd.of H1
      refine Rg.q (v := elp a1 (σ8.2.toNat * Enc.sz Int + 0)) (q_ixO' Try.underlying23 ty3 rfl rfl h18 Has.here) (by decide) ?_
      refine Rg.en (e_setT (l := σ8.1) (α := Int) (oa := a1) σ8.2.toNat (nth v0 σ8.2.toNat) () ty3 rfl rfl rfl h18.lt (ShpT.wfa _) (.cons Del.here .nil)) rfl ?_
      rintro _ _ _ ⟨rfl, rfl, rfl⟩
      refine Rg.nl ?_
      refine nB (nT (?_))
      refine Tr.olen Has.here fun hn => ?_; rw [hn]
      refine Tr.region ?_
      refine Rg.q (v := .int .i64 (σ8.2)) (Pu.qo (p_move rfl)) (by decide) ?_
      obtain ⟨h19, H1⟩ := gd.of H1
      refine Rg.q (v := .int .i64 (σ8.2 + 1)) (Pu.qo (p_add rfl rfl h19)) (by decide) ?_
      refine Rg.q (v := .int .i64 (σ8.2 + 1)) (Pu.qo (p_assign rfl)) (by decide) ?_
      refine Rg.nl ?_
      exact nLC ⟨(m15, ((σ8.1.set σ8.2.toNat (nth v0 σ8.2.toNat)), σ8.2 + 1), ()), hi12 _ (Option.some.inj H1).symm⟩ (Nat.lt_succ_self _) ⟨rfl, rfl, rfl, trivial⟩ Ents.refl (.cons Del.here .nil)
    · have H1 := cdF h16 H1
      refine tExit (xT (xT (xE (?_))))
      have hx := hb13 _ (Option.some.inj H1).symm; subst hx
      exact nMC () ⟨rfl, trivial⟩ Ents.refl (.cons Del.here .nil)
  · intro y10
    show At _ _ [(3, .slice a1 x4.length c2)] _ [tree (.slice a1 x4.length c2) x4] _
    refine nT (?_)
    refine Tr.seq ?_
    refine Tr.region ?_
    refine Rg.q (v := .slice a1 x4.length c2) (Pu.qo (p_move rfl)) (by decide) ?_
    refine Rg.q (v := .slice a1 x4.length c2) (Pu.qo (p_assign rfl)) (by decide) ?_
    refine Rg.nl ?_
    refine nT (?_)
    refine tRet ?_
    have hr := Option.some.inj H; subst hr
    exact back1 (a1, c2) rfl (ResV.tmp (v := .slice a1 x4.length c2) rfl) rfl Ents.nil (.cons Del.here .nil)
def p_laws_toRow (v0 : Row) : Option (Row) := some v0
theorem c_laws_toRow {r : Row} (v0 : Row) (H : p_laws_toRow v0 = some r) : Fn' Try.prog 75 #[.agg #[.int .i64 (v0.1), .int .i64 (v0.2)]] [] [] (ι := Unit) (fun x => .agg #[.int .i64 (r.1), .int .i64 (r.2)]) (fun _ => []) (fun x => []) := by
  refine calls_of (args := [_]) Try.func75 rfl (by kernel_rfl) Try.ntmps75 (by simp) fun c => ?_
  unfold p_laws_toRow at H
  refine Tr.seq ?_
  refine Tr.region ?_
  refine Rg.ed (e_box (t := 99) (v := .agg #[.int .i64 (v0.1), .int .i64 (v0.2)]) rfl) rfl (by decide) ?_
  rintro _ _ _ ⟨g1, rfl, rfl, rfl⟩
  refine Rg.ed (e_alloc ty68) rfl (by decide) ?_
  rintro _ _ _ ⟨g2, rfl, rfl, rfl⟩
  refine Rg.nl ?_
  refine nT (?_)
  refine Tr.seq ?_
  refine Tr.region ?_
  refine Rg.ed (e_alloc ty68) rfl (by decide) ?_
  rintro _ _ _ ⟨g3, rfl, rfl, rfl⟩
  refine Rg.nl ?_
  refine nT (?_)
  refine Tr.seq ?_
  refine Tr.region ?_
  refine Rg.q (v := .pointer (some ⟨g1, 0, none⟩)) (Pu.qo (p_fabE fa99_0 rfl rfl)) (by decide) ?_
  refine Rg.q (v := .int .i64 (v0.1)) (q_ldb ty3 rfl Has.here.there.there rfl) (by decide) ?_
  refine Rg.q (v := .pointer (some ⟨g3, 0, none⟩)) (Pu.qo (p_fabE fa68_0 rfl rfl)) (by decide) ?_
  refine Rg.en (e_store (v := .int .i64 (v0.1)) (cs' := [.int .i64 (v0.1), .int .i64 (0)]) ty3 rfl rfl Upd.here rfl (by simp [Value.cells, Value.oneCell']) (Nat.le_of_ble_eq_true rfl) rfl) rfl ?_
  rintro _ _ _ ⟨rfl, rfl, rfl⟩
  refine Rg.nl ?_
  refine nT (?_)
  refine Tr.seq ?_
  refine Tr.region ?_
  refine Rg.q (v := .pointer (some ⟨g1, 1, none⟩)) (Pu.qo (p_fabE fa99_1 rfl rfl)) (by decide) ?_
  refine Rg.q (v := .int .i64 (v0.2)) (q_ldb ty3 rfl Has.here.there.there rfl) (by decide) ?_
  refine Rg.q (v := .pointer (some ⟨g3, 1, none⟩)) (Pu.qo (p_fabE fa68_1 rfl rfl)) (by decide) ?_
  refine Rg.en (e_store (v := .int .i64 (v0.2)) (cs' := [.int .i64 (v0.1), .int .i64 (v0.2)]) ty3 rfl rfl Upd.here rfl (by simp [Value.cells, Value.oneCell']) (Nat.le_of_ble_eq_true rfl) rfl) rfl ?_
  rintro _ _ _ ⟨rfl, rfl, rfl⟩
  refine Rg.nl ?_
  refine nT (?_)
  refine Tr.seq ?_
  refine Tr.region ?_
  refine Rg.q (v := .agg #[.int .i64 (v0.1), .int .i64 (v0.2)]) (q_ldbA ty68 rfl Has.here rfl) (by decide) ?_
  refine Rg.en (e_store (v := .agg #[.int .i64 (v0.1), .int .i64 (v0.2)]) (cs' := [.int .i64 (v0.1), .int .i64 (v0.2)]) ty68 rfl rfl Upd.here.there rfl (by simp [Value.cells, Value.oneCell']) (Nat.le_of_ble_eq_true rfl) rfl) rfl ?_
  rintro _ _ _ ⟨rfl, rfl, rfl⟩
  refine Rg.nl ?_
  refine nT (?_)
  refine tRet ?_
  have hr := Option.some.inj H; subst hr
  exact back1 () rfl (ResV.agg ty68 rfl Has.here.there rfl) rfl Ents.nil Take.nil
noncomputable def p_laws_toRowS_b0 (v0 : (List Row)) (σ8 : (List Row) × Int) : Option (((List Row) × Int) ⊕ ((List Row))) := cond (decide (σ8.2 < (v0.length : Int))) (gd (ix σ8.2 v0.length) <| bd (p_laws_toRow (nth v0 σ8.2.toNat)) fun r18 => gd (ix σ8.2 σ8.1.length) <| gd (I64 (σ8.2 + 1)) <| some (.inl ((σ8.1.set σ8.2.toNat r18), σ8.2 + 1))) (some (.inr σ8.1))
noncomputable def p_laws_toRowS (v0 : (List Row)) : Option ((List Row)) := gd (many (v0.length : Int)) <| bd (lp (p_laws_toRowS_b0 v0) ((List.replicate (v0.length : Int).toNat (Zr.z0 : Row)), 0)) fun x4 => some x4
theorem c_laws_toRowS {r : (List Row)} (v0 : (List Row)) (x_v0 : Option Addr × Nat) (H : p_laws_toRowS v0 = some r) : Fn' Try.prog 68 #[.slice x_v0.1 v0.length x_v0.2] [imm (.slice x_v0.1 v0.length x_v0.2) v0] [] (ι := Option Addr × Nat) (fun x => .slice x.1 r.length x.2) (fun _ => []) (fun x => [tree (.slice x.1 r.length x.2) r]) := by
  refine calls_of (args := [_]) Try.func68 rfl (by kernel_rfl) Try.ntmps68 (by simp) fun c => ?_
  unfold p_laws_toRowS at H
  refine Tr.seq ?_
  refine Tr.region ?_
  refine Rg.q (v := .slice none 0 0) (Pu.qo (p_assign rfl)) (by decide) ?_
  refine Rg.nl ?_
  refine nT (?_)
  refine Tr.seq ?_
  refine Tr.region ?_
  refine Rg.q (v := .slice x_v0.1 v0.length x_v0.2) (Pu.qo (p_move rfl)) (by decide) ?_
  refine Rg.q (v := .int .i64 ((v0.length : Int))) (Pu.qo (p_len 99 Try.underlying90 rfl)) (by decide) ?_
  obtain ⟨h3, H⟩ := gd.of H
  refine Rg.ed (e_makeR Row Try.underlying29 ty68 rfl rfl rfl h3 (by decide)) rfl (by decide) ?_
  rintro _ _ _ ⟨a1, c2, rfl, rfl, rfl⟩
  refine Rg.q (v := .slice a1 ((List.replicate (v0.length : Int).toNat (Zr.z0 : Row)).length) c2) (Pu.qo (p_assign rfl)) (by decide) ?_
  refine Rg.nl ?_
  refine nT (?_)
  refine Tr.seq ?_
  refine Tr.seq ?_
  refine Tr.region ?_
  refine Rg.q (v := .int .i64 (0)) (Pu.qo (p_assign rfl)) (by decide) ?_
  refine Rg.nl ?_
  refine nT (?_)
  obtain ⟨x4, hx5, H⟩ := bd.of H
  obtain ⟨n6, hx5⟩ := lp.of hx5
  refine tMidNC (ι := Unit) (fun ψ => [(3, .slice a1 x4.length c2)]) (fun ψ => [tree (.slice a1 x4.length c2) x4]) ?_ ?_
  · refine Tr.block ?_
    refine tLoopC (ι := { q : Nat × ((List Row) × Int) × Unit // itr (p_laws_toRowS_b0 v0) q.1 q.2.1 = some x4 }) (fun ζ => [(0, .slice x_v0.1 v0.length x_v0.2), (3, .slice a1 ζ.1.2.1.1.length c2), (4, .int .i64 (ζ.1.2.1.2))]) (fun ζ => [tree (.slice a1 ζ.1.2.1.1.length c2) ζ.1.2.1.1]) (fun ζ => ζ.1.1) ⟨(n6, ((List.replicate (v0.length : Int).toNat (Zr.z0 : Row)), 0), ()), hx5⟩ ⟨rfl, rfl, rfl, trivial⟩ (.cons Del.here .nil) ?_
    rintro ⟨⟨m7, σ8, z9⟩, hk14⟩
    obtain ⟨m15, t11, e, H1, hi12, hb13⟩ := itr.of (n := m7) (s := σ8) hk14
    subst e; unfold p_laws_toRowS_b0 at H1
    show Tr _ _ _ _ _ [(0, .slice x_v0.1 v0.length x_v0.2), (3, .slice a1 σ8.1.length c2), (4, .int .i64 (σ8.2))] _ [tree (.slice a1 σ8.1.length c2) σ8.1]
    refine Tr.seq ?_
    refine Tr.seq ?_
    refine Tr.region ?_
    refine Rg.q (v := .int .i64 (σ8.2)) (Pu.qo (p_move rfl)) (by decide) ?_
    refine Rg.q (v := .slice x_v0.1 v0.length x_v0.2) (Pu.qo (p_move rfl)) (by decide) ?_
    refine Rg.q (v := .int .i64 ((v0.length : Int))) (Pu.qo (p_len 99 Try.underlying90 rfl)) (by decide) ?_
    refine Rg.q (v := .bool (decide (σ8.2 < (v0.length : Int)))) (Pu.qo (p_lss rfl rfl)) (by decide) ?_
    refine Rg.nl ?_
    refine nT (?_)
    refine Tr.cond (b := decide (σ8.2 < (v0.length : Int))) rfl (fun h16 => ?_) (fun h16 => ?_)
    · have H1 := cdT h16 H1
      refine tSkip ?_
      refine nT (?_)
      refine Tr.seq ?_
      refine Tr.block ?_
      refine Tr.region ?_
      refine Rg.q (v := .slice a1 σ8.1.length c2) (Pu.qo (p_move rfl)) (by decide) ?_
      refine Rg.q (v := .int .i64 (σ8.2)) (Pu.qo (p_move rfl)) (by decide) ?_
      refine Rg.q (v := .slice x_v0.1 v0.length x_v0.2) (Pu.qo (p_move rfl)) (by decide) ?_
      refine Rg.q (v := .int .i64 (σ8.2)) (Pu.qo (p_move rfl)) (by decide) ?_
      obtain ⟨h17, H1⟩ := gd.of H1
      refine Rg.q (v := elp x_v0.1 (σ8.2.toNat * Enc.sz Row + 0)) (q_ixg (l := v0) (E := fun i => Flat.enc (nth v0 i)) (oa := x_v0.1) Try.underlying90 ty99 rfl rfl h17 rfl (EntB.flat (Ent.b Ent.z))) (by decide) ?_
      refine Rg.q (v := .agg #[.int .i64 ((nth v0 σ8.2.toNat).1), .int .i64 ((nth v0 σ8.2.toNat).2)]) (q_ldeA (l := v0) (E := fun i => Flat.enc (nth v0 i)) (oa := x_v0.1) (i := σ8.2.toNat) ty99 rfl (EntB.flat (Ent.b Ent.z)) h17.lt) (by decide) ?_
      obtain ⟨r18, h19, H1⟩ := bd.of H1
      refine Rg.q (v := .agg #[.int .i64 (r18.1), .int .i64 (r18.2)]) (q_call (vs := [.agg #[.int .i64 ((nth v0 σ8.2.toNat).1), .int .i64 ((nth v0 σ8.2.toNat).2)]]) (c_laws_toRow (nth v0 σ8.2.toNat) h19) rfl EntsB.nil) (by decide) ?_
      obtain ⟨h20, H1⟩ := gd.of H1
      refine Rg.q (v := elp a1 (σ8.2.toNat * Enc.sz Row + 0)) (q_ixO' Try.underlying29 ty68 rfl rfl h20 Has.here) (by decide) ?_
      refine Rg.en (e_setT (l := σ8.1) (α := Row) (oa := a1) σ8.2.toNat r18 ((), ()) ty68 rfl rfl rfl h20.lt (ShpT.wfa _) (.cons Del.here .nil)) rfl ?_
      rintro _ _ _ ⟨rfl, rfl, rfl⟩
      refine Rg.nl ?_
      refine nB (nT (?_))
      refine Tr.olen Has.here fun hn => ?_; rw [hn]
      refine Tr.region ?_
      refine Rg.q (v := .int .i64 (σ8.2)) (Pu.qo (p_move rfl)) (by decide) ?_
      obtain ⟨h21, H1⟩ := gd.of H1
      refine Rg.q (v := .int .i64 (σ8.2 + 1)) (Pu.qo (p_add rfl rfl h21)) (by decide) ?_
      refine Rg.q (v := .int .i64 (σ8.2 + 1)) (Pu.qo (p_assign rfl)) (by decide) ?_
      refine Rg.nl ?_
      exact nLC ⟨(m15, ((σ8.1.set σ8.2.toNat r18), σ8.2 + 1), ()), hi12 _ (Option.some.inj H1).symm⟩ (Nat.lt_succ_self _) ⟨rfl, rfl, rfl, trivial⟩ Ents.refl (.cons Del.here .nil)
    · have H1 := cdF h16 H1
      refine tExit (xT (xT (xE (?_))))
      have hx := hb13 _ (Option.some.inj H1).symm; subst hx
      exact nMC () ⟨rfl, trivial⟩ Ents.refl (.cons Del.here .nil)
  · intro y10
    show At _ _ [(3, .slice a1 x4.length c2)] _ [tree (.slice a1 x4.length c2) x4] _
    refine nT (?_)
    refine Tr.seq ?_
    refine Tr.region ?_
    refine Rg.q (v := .slice a1 x4.length c2) (Pu.qo (p_move rfl)) (by decide) ?_
    refine Rg.q (v := .slice a1 x4.length c2) (Pu.qo (p_assign rfl)) (by decide) ?_
    refine Rg.nl ?_
    refine nT (?_)
    refine tRet ?_
    have hr := Option.some.inj H; subst hr
    exact back1 (a1, c2) rfl (ResV.tmp (v := .slice a1 x4.length c2) rfl) rfl Ents.nil (.cons Del.here .nil)
noncomputable def p_laws_toRowSS_b0 (v0 : (List (List Row))) (σ9 : (List (List Row)) × Int) : Option (((List (List Row)) × Int) ⊕ ((List (List Row)))) := cond (decide (σ9.2 < (v0.length : Int))) (gd (ix σ9.2 v0.length) <| bd (p_laws_toRowS (nth v0 σ9.2.toNat)) fun r19 => gd (ix σ9.2 σ9.1.length) <| gd (I64 (σ9.2 + 1)) <| some (.inl ((σ9.1.set σ9.2.toNat r19), σ9.2 + 1))) (some (.inr σ9.1))
noncomputable def p_laws_toRowSS (v0 : (List (List Row))) : Option ((List (List Row))) := gd (many (v0.length : Int)) <| bd (lp (p_laws_toRowSS_b0 v0) ((List.replicate (v0.length : Int).toNat (Zr.z0 : (List Row))), 0)) fun x5 => some x5
theorem c_laws_toRowSS {r : (List (List Row))} (v0 : (List (List Row))) (x_v0 : Option Addr × Nat) (H : p_laws_toRowSS v0 = some r) : Fn' Try.prog 47 #[.slice x_v0.1 v0.length x_v0.2] [imm (.slice x_v0.1 v0.length x_v0.2) v0] [] (ι := Option Addr × Nat) (fun x => .slice x.1 r.length x.2) (fun _ => []) (fun x => [tree (.slice x.1 r.length x.2) r]) := by
  refine calls_of (args := [_]) Try.func47 rfl (by kernel_rfl) Try.ntmps47 (by simp) fun c => ?_
  unfold p_laws_toRowSS at H
  refine Tr.openD Ent.z fun X1 => ?_
  refine Tr.seq ?_
  refine Tr.region ?_
  refine Rg.q (v := .slice none 0 0) (Pu.qo (p_assign rfl)) (by decide) ?_
  refine Rg.nl ?_
  refine nT (?_)
  refine Tr.seq ?_
  refine Tr.region ?_
  refine Rg.q (v := .slice x_v0.1 v0.length x_v0.2) (Pu.qo (p_move rfl)) (by decide) ?_
  refine Rg.q (v := .int .i64 ((v0.length : Int))) (Pu.qo (p_len 90 Try.underlying32 rfl)) (by decide) ?_
  obtain ⟨h4, H⟩ := gd.of H
  refine Rg.ed (e_makeR (List Row) Try.underlying24 ty29 rfl rfl rfl h4 (by decide)) rfl (by decide) ?_
  rintro _ _ _ ⟨a2, c3, rfl, rfl, rfl⟩
  refine Rg.q (v := .slice a2 ((List.replicate (v0.length : Int).toNat (Zr.z0 : (List Row))).length) c3) (Pu.qo (p_assign rfl)) (by decide) ?_
  refine Rg.nl ?_
  refine nT (?_)
  refine Tr.seq ?_
  refine Tr.seq ?_
  refine Tr.region ?_
  refine Rg.q (v := .int .i64 (0)) (Pu.qo (p_assign rfl)) (by decide) ?_
  refine Rg.nl ?_
  refine nT (?_)
  obtain ⟨x5, hx6, H⟩ := bd.of H
  obtain ⟨n7, hx6⟩ := lp.of hx6
  refine tMidNC (ι := Unit) (fun ψ => [(3, .slice a2 x5.length c3)]) (fun ψ => [tree (.slice a2 x5.length c3) x5]) ?_ ?_
  · refine Tr.block ?_
    refine tLoopC (ι := { q : Nat × ((List (List Row)) × Int) × Unit // itr (p_laws_toRowSS_b0 v0) q.1 q.2.1 = some x5 }) (fun ζ => [(0, .slice x_v0.1 v0.length x_v0.2), (3, .slice a2 ζ.1.2.1.1.length c3), (4, .int .i64 (ζ.1.2.1.2))]) (fun ζ => [tree (.slice a2 ζ.1.2.1.1.length c3) ζ.1.2.1.1]) (fun ζ => ζ.1.1) ⟨(n7, ((List.replicate (v0.length : Int).toNat (Zr.z0 : (List Row))), 0), ()), hx6⟩ ⟨rfl, rfl, rfl, trivial⟩ (.cons Del.here .nil) ?_
    rintro ⟨⟨m8, σ9, z10⟩, hk15⟩
    obtain ⟨m16, t12, e, H1, hi13, hb14⟩ := itr.of (n := m8) (s := σ9) hk15
    subst e; unfold p_laws_toRowSS_b0 at H1
    show Tr _ _ _ _ _ [(0, .slice x_v0.1 v0.length x_v0.2), (3, .slice a2 σ9.1.length c3), (4, .int .i64 (σ9.2))] _ [tree (.slice a2 σ9.1.length c3) σ9.1]
    refine Tr.seq ?_
    refine Tr.seq ?_
    refine Tr.region ?_
    refine Rg.q (v := .int .i64 (σ9.2)) (Pu.qo (p_move rfl)) (by decide) ?_
    refine Rg.q (v := .slice x_v0.1 v0.length x_v0.2) (Pu.qo (p_move rfl)) (by decide) ?_
    refine Rg.q (v := .int .i64 ((v0.length : Int))) (Pu.qo (p_len 90 Try.underlying32 rfl)) (by decide) ?_
    refine Rg.q (v := .bool (decide (σ9.2 < (v0.length : Int)))) (Pu.qo (p_lss rfl rfl)) (by decide) ?_
    refine Rg.nl ?_
    refine nT (?_)
    refine Tr.cond (b := decide (σ9.2 < (v0.length : Int))) rfl (fun h17 => ?_) (fun h17 => ?_)
    · have H1 := cdT h17 H1
      refine tSkip ?_
      refine nT (?_)
      refine Tr.seq ?_
      refine Tr.block ?_
      refine Tr.region ?_
      refine Rg.q (v := .slice a2 σ9.1.length c3) (Pu.qo (p_move rfl)) (by decide) ?_
      refine Rg.q (v := .int .i64 (σ9.2)) (Pu.qo (p_move rfl)) (by decide) ?_
      refine Rg.q (v := .slice x_v0.1 v0.length x_v0.2) (Pu.qo (p_move rfl)) (by decide) ?_
      refine Rg.q (v := .int .i64 (σ9.2)) (Pu.qo (p_move rfl)) (by decide) ?_
      obtain ⟨h18, H1⟩ := gd.of H1
      refine Rg.q (v := elp x_v0.1 (σ9.2.toNat * Enc.sz (List Row) + 0)) (q_ixg (l := v0) (E := fun i => Dp.denc (nth v0 i) (X1 i)) (oa := x_v0.1) Try.underlying32 ty90 rfl rfl h18 rfl (Ent.b (Ent.darr Ent.z))) (by decide) ?_
      refine Rg.q (v := .slice ((X1 σ9.2.toNat).1) ((nth v0 σ9.2.toNat).length) ((X1 σ9.2.toNat).2.1)) (q_lde (l := v0) (E := fun i => Dp.denc (nth v0 i) (X1 i)) (oa := x_v0.1) (i := σ9.2.toNat) (j := 0) ty90 rfl (Ent.b (Ent.darr Ent.z)) h18.lt rfl) (by decide) ?_
      obtain ⟨r19, h20, H1⟩ := bd.of H1
      refine Rg.ed (e_callB (vs := [.slice ((X1 σ9.2.toNat).1) ((nth v0 σ9.2.toNat).length) ((X1 σ9.2.toNat).2.1)]) (c_laws_toRowS (nth v0 σ9.2.toNat) ((X1 σ9.2.toNat).1, (X1 σ9.2.toNat).2.1) h20) (fun _ => (Solo.tree Solo.nil)) rfl (EntsB.cons (Ent.b (Ent.dimm (Ent.del Ent.z h18.lt))) EntsB.nil)) rfl (by decide) ?_
      rintro _ _ _ ⟨x21, rfl, rfl, rfl⟩
      obtain ⟨h22, H1⟩ := gd.of H1
      refine Rg.q (v := elp a2 (σ9.2.toNat * Enc.sz (List Row) + 0)) (q_ixO' Try.underlying24 ty29 rfl rfl h22 Has.here.there) (by decide) ?_
      refine Rg.en (e_setT (l := σ9.1) (α := (List Row)) (oa := a2) σ9.2.toNat r19 x21 ty29 rfl rfl rfl h22.lt (ShpT.wfa _) (.cons Del.here.there (.cons Del.here .nil))) rfl ?_
      rintro _ _ _ ⟨rfl, rfl, rfl⟩
      refine Rg.nl ?_
      refine nB (nT (?_))
      refine Tr.olen Has.here fun hn => ?_; rw [hn]
      refine Tr.region ?_
      refine Rg.q (v := .int .i64 (σ9.2)) (Pu.qo (p_move rfl)) (by decide) ?_
      obtain ⟨h23, H1⟩ := gd.of H1
      refine Rg.q (v := .int .i64 (σ9.2 + 1)) (Pu.qo (p_add rfl rfl h23)) (by decide) ?_
      refine Rg.q (v := .int .i64 (σ9.2 + 1)) (Pu.qo (p_assign rfl)) (by decide) ?_
      refine Rg.nl ?_
      exact nLC ⟨(m16, ((σ9.1.set σ9.2.toNat r19), σ9.2 + 1), ()), hi13 _ (Option.some.inj H1).symm⟩ (Nat.lt_succ_self _) ⟨rfl, rfl, rfl, trivial⟩ Ents.refl (.cons Del.here .nil)
    · have H1 := cdF h17 H1
      refine tExit (xT (xT (xE (?_))))
      have hx := hb14 _ (Option.some.inj H1).symm; subst hx
      exact nMC () ⟨rfl, trivial⟩ Ents.refl (.cons Del.here .nil)
  · intro y11
    show At _ _ [(3, .slice a2 x5.length c3)] _ [tree (.slice a2 x5.length c3) x5] _
    refine nT (?_)
    refine Tr.seq ?_
    refine Tr.region ?_
    refine Rg.q (v := .slice a2 x5.length c3) (Pu.qo (p_move rfl)) (by decide) ?_
    refine Rg.q (v := .slice a2 x5.length c3) (Pu.qo (p_assign rfl)) (by decide) ?_
    refine Rg.nl ?_
    refine nT (?_)
    refine tRet ?_
    have hr := Option.some.inj H; subst hr
    exact back1 (a2, c3) rfl (ResV.tmp (v := .slice a2 x5.length c3) rfl) rfl Ents.nil (.cons Del.here .nil)
noncomputable def p_laws_toPart (v0 : Part) : Option (Part) := bd (p_laws_toIntS v0.1) fun r5 => bd (p_laws_toRowSS v0.2) fun r8 => some (r5, r8)
theorem c_laws_toPart {r : Part} (v0 : Part) (x_v0 : (Option Addr × Nat) × (Option Addr × Nat)) (H : p_laws_toPart v0 = some r) : Fn' Try.prog 15 #[.agg #[.slice x_v0.1.1 v0.1.length x_v0.1.2, .slice x_v0.2.1 v0.2.length x_v0.2.2]] [imm (.slice x_v0.1.1 v0.1.length x_v0.1.2) v0.1, imm (.slice x_v0.2.1 v0.2.length x_v0.2.2) v0.2] [] (ι := (Option Addr × Nat) × (Option Addr × Nat)) (fun x => .agg #[.slice x.1.1 r.1.length x.1.2, .slice x.2.1 r.2.length x.2.2]) (fun _ => []) (fun x => [tree (.slice x.1.1 r.1.length x.1.2) r.1, tree (.slice x.2.1 r.2.length x.2.2) r.2]) := by
  refine calls_of (args := [_]) Try.func15 rfl (by kernel_rfl) Try.ntmps15 (by simp) fun c => ?_
  unfold p_laws_toPart at H
  refine Tr.openD Ent.z.s fun X1 => ?_
  refine Tr.seq ?_
  refine Tr.region ?_
  refine Rg.ed (e_box (t := 34) (v := .agg #[.slice x_v0.1.1 v0.1.length x_v0.1.2, .slice x_v0.2.1 v0.2.length x_v0.2.2]) rfl) rfl (by decide) ?_
  rintro _ _ _ ⟨g2, rfl, rfl, rfl⟩
  refine Rg.ed (e_alloc ty26) rfl (by decide) ?_
  rintro _ _ _ ⟨g3, rfl, rfl, rfl⟩
  refine Rg.nl ?_
  refine nT (?_)
  refine Tr.seq ?_
  refine Tr.region ?_
  refine Rg.ed (e_alloc ty26) rfl (by decide) ?_
  rintro _ _ _ ⟨g4, rfl, rfl, rfl⟩
  refine Rg.nl ?_
  refine nT (?_)
  refine Tr.seq ?_
  refine Tr.region ?_
  refine Rg.q (v := .pointer (some ⟨g2, 0, none⟩)) (Pu.qo (p_fabE fa34_0 rfl rfl)) (by decide) ?_
  refine Rg.q (v := .slice x_v0.1.1 v0.1.length x_v0.1.2) (q_ldb ty23 rfl Has.here.there.there rfl) (by decide) ?_
  obtain ⟨r5, h6, H⟩ := bd.of H
  refine Rg.ed (e_callB (vs := [.slice x_v0.1.1 v0.1.length x_v0.1.2]) (c_laws_toIntS v0.1 x_v0.1 h6) (fun _ => (Solo.tree Solo.nil)) rfl (EntsB.cons (Ent.b Ent.z.s) EntsB.nil)) rfl (by decide) ?_
  rintro _ _ _ ⟨x7, rfl, rfl, rfl⟩
  refine Rg.q (v := .pointer (some ⟨g4, 0, none⟩)) (Pu.qo (p_fabE fa26_0 rfl rfl)) (by decide) ?_
  refine Rg.en (e_store (v := .slice x7.1 r5.length x7.2) (cs' := [.slice x7.1 r5.length x7.2, .slice none 0 0]) ty23 rfl rfl Upd.here.there rfl (by simp [Value.cells, Value.oneCell']) (Nat.le_of_ble_eq_true rfl) rfl) rfl ?_
  rintro _ _ _ ⟨rfl, rfl, rfl⟩
  refine Rg.nl ?_
  refine nT (?_)
  refine Tr.seq ?_
  refine Tr.region ?_
  refine Rg.q (v := .pointer (some ⟨g2, 1, none⟩)) (Pu.qo (p_fabE fa34_1 rfl rfl)) (by decide) ?_
  refine Rg.q (v := .slice x_v0.2.1 v0.2.length x_v0.2.2) (q_ldb ty32 rfl Has.here.there.there.there rfl) (by decide) ?_
  obtain ⟨r8, h9, H⟩ := bd.of H
  refine Rg.ed (e_callB (vs := [.slice x_v0.2.1 v0.2.length x_v0.2.2]) (c_laws_toRowSS v0.2 x_v0.2 h9) (fun _ => (Solo.tree Solo.nil)) rfl (EntsB.cons (Ent.b (Ent.dimm Ent.z)) EntsB.nil)) rfl (by decide) ?_
  rintro _ _ _ ⟨x10, rfl, rfl, rfl⟩
  refine Rg.q (v := .pointer (some ⟨g4, 1, none⟩)) (Pu.qo (p_fabE fa26_1 rfl rfl)) (by decide) ?_
  refine Rg.en (e_store (v := .slice x10.1 r8.length x10.2) (cs' := [.slice x7.1 r5.length x7.2, .slice x10.1 r8.length x10.2]) ty24 rfl rfl Upd.here.there.there rfl (by simp [Value.cells, Value.oneCell']) (Nat.le_of_ble_eq_true rfl) rfl) rfl ?_
  rintro _ _ _ ⟨rfl, rfl, rfl⟩
  refine Rg.nl ?_
  refine nT (?_)
  refine Tr.seq ?_
  refine Tr.region ?_
  refine Rg.q (v := .agg #[.slice x7.1 r5.length x7.2, .slice x10.1 r8.length x10.2]) (q_ldbA ty26 rfl Has.here.there.there rfl) (by decide) ?_
  refine Rg.en (e_store (v := .agg #[.slice x7.1 r5.length x7.2, .slice x10.1 r8.length x10.2]) (cs' := [.slice x7.1 r5.length x7.2, .slice x10.1 r8.length x10.2]) ty26 rfl rfl Upd.here.there.there.there rfl (by simp [Value.cells, Value.oneCell']) (Nat.le_of_ble_eq_true rfl) rfl) rfl ?_
  rintro _ _ _ ⟨rfl, rfl, rfl⟩
  refine Rg.nl ?_
  refine nT (?_)
  refine tRet ?_
  have hr := Option.some.inj H; subst hr
  exact back1 (x7, x10) rfl (ResV.agg ty26 rfl Has.here.there.there.there rfl) rfl Ents.nil (.cons Del.here.there (.cons Del.here .nil))
noncomputable def p_laws_FnExactPartOk (v0 : Part) : Option (Bool) := bd (p_laws_szPart v0 1048576) fun r3 => cond (decide (r3 < 0)) (some true) (bd (p_laws_toPart v0) fun r6 => bd (p_spec_PartOk r6) fun r9 => bd (p_impl_PartOk r6) fun r13 => cond (!decide (r13 = r9)) (some false) (bd (p_laws_eqPart r6 r6) fun r17 => cond (!r17) (some false) (some true)))
theorem c_laws_FnExactPartOk {r : Bool} (v0 : Part) (x_v0 : (Option Addr × Nat) × (Option Addr × Nat)) (H : p_laws_FnExactPartOk v0 = some r) : Fn' Try.prog 4 #[.agg #[.slice x_v0.1.1 v0.1.length x_v0.1.2, .slice x_v0.2.1 v0.2.length x_v0.2.2]] [imm (.slice x_v0.1.1 v0.1.length x_v0.1.2) v0.1, imm (.slice x_v0.2.1 v0.2.length x_v0.2.2) v0.2] [] (ι := Unit) (fun x => .bool (r)) (fun _ => []) (fun x => []) := by
  refine calls_of (args := [_]) Try.func4 rfl (by kernel_rfl) Try.ntmps4 (by simp) fun c => ?_
  unfold p_laws_FnExactPartOk at H
  refine Tr.openD Ent.z.s fun X1 => ?_
  refine Tr.seq ?_
  refine Tr.region ?_
  refine Rg.ed (e_box (t := 34) (v := .agg #[.slice x_v0.1.1 v0.1.length x_v0.1.2, .slice x_v0.2.1 v0.2.length x_v0.2.2]) rfl) rfl (by decide) ?_
  rintro _ _ _ ⟨g2, rfl, rfl, rfl⟩
  refine Rg.q (v := .bool (false)) (Pu.qo (p_assign rfl)) (by decide) ?_
  refine Rg.nl ?_
  refine nT (?_)
  refine Tr.seq ?_
  refine Tr.region ?_
  refine Rg.q (v := .int .i64 (1048576)) (Pu.qo (p_assign rfl)) (by decide) ?_
  refine Rg.nl ?_
  refine nT (?_)
  refine Tr.seq ?_
  refine Tr.region ?_
  refine Rg.q (v := .agg #[.slice x_v0.1.1 v0.1.length x_v0.1.2, .slice x_v0.2.1 v0.2.length x_v0.2.2]) (q_ldbA ty34 rfl Has.here rfl) (by decide) ?_
  refine Rg.q (v := .int .i64 (1048576)) (Pu.qo (p_move rfl)) (by decide) ?_
  obtain ⟨r3, h4, H⟩ := bd.of H
  refine Rg.q (v := .int .i64 (r3)) (q_call (vs := [.agg #[.slice x_v0.1.1 v0.1.length x_v0.1.2, .slice x_v0.2.1 v0.2.length x_v0.2.2], .int .i64 (1048576)]) (c_laws_szPart v0 x_v0 1048576 h4) rfl (EntsB.cons (Ent.b Ent.z.s) (EntsB.cons (Ent.b (Ent.dimm Ent.z)) EntsB.nil))) (by decide) ?_
  refine Rg.q (v := .int .i64 (r3)) (Pu.qo (p_assign rfl)) (by decide) ?_
  refine Rg.nl ?_
  refine nT (?_)
  refine Tr.seq ?_
  refine Tr.seq ?_
  refine Tr.region ?_
  refine Rg.q (v := .int .i64 (r3)) (Pu.qo (p_move rfl)) (by decide) ?_
  refine Rg.q (v := .bool (decide (r3 < 0))) (Pu.qo (p_lss rfl rfl)) (by decide) ?_
  refine Rg.nl ?_
  refine nT (?_)
  refine Tr.cond (b := decide (r3 < 0)) rfl (fun h5 => ?_) (fun h5 => ?_)
  · have H := cdT h5 H
    refine Tr.seq ?_
    refine Tr.region ?_
    refine Rg.q (v := .bool (true)) (Pu.qo (p_assign rfl)) (by decide) ?_
    refine Rg.nl ?_
    refine nT (?_)
    refine tRet ?_
    refine rT (?_)
    have hr := Option.some.inj H; subst hr
    exact back1 () rfl (ResV.tmp (v := .bool (true)) rfl) rfl Ents.nil Take.nil
  · have H := cdF h5 H
    refine tSkip ?_
    refine nT (?_)
    refine Tr.seq ?_
    refine Tr.region ?_
    refine Rg.q (v := .agg #[.slice x_v0.1.1 v0.1.length x_v0.1.2, .slice x_v0.2.1 v0.2.length x_v0.2.2]) (q_ldbA ty34 rfl Has.here rfl) (by decide) ?_
    obtain ⟨r6, h7, H⟩ := bd.of H
    refine Rg.ed (e_callB (vs := [.agg #[.slice x_v0.1.1 v0.1.length x_v0.1.2, .slice x_v0.2.1 v0.2.length x_v0.2.2]]) (c_laws_toPart v0 x_v0 h7) (fun _ => (Solo.tree (Solo.tree Solo.nil))) rfl (EntsB.cons (Ent.b Ent.z.s) (EntsB.cons (Ent.b (Ent.dimm Ent.z)) EntsB.nil))) rfl (by decide) ?_
    rintro _ _ _ ⟨x8, rfl, rfl, rfl⟩
    obtain ⟨r9, h10, H⟩ := bd.of H
    refine Rg.q (v := .bool (r9)) (q_call (vs := [.agg #[.slice x8.1.1 r6.1.length x8.1.2, .slice x8.2.1 r6.2.length x8.2.2]]) (c_spec_PartOk r6 x8 h10) rfl (EntsB.cons (EntB.tree Has.here) (EntsB.cons (EntB.tree Has.here.there) EntsB.nil))) (by decide) ?_
    refine Rg.q (v := .bool (r9)) (Pu.qo (p_assign rfl)) (by decide) ?_
    refine Rg.nl ?_
    refine nT (?_)
    refine Tr.seq ?_
    refine Tr.region ?_
    refine Rg.q (v := .agg #[.slice x_v0.1.1 v0.1.length x_v0.1.2, .slice x_v0.2.1 v0.2.length x_v0.2.2]) (q_ldbA ty34 rfl Has.here.there.there rfl) (by decide) ?_
    refine Rg.ed (e_callB (vs := [.agg #[.slice x_v0.1.1 v0.1.length x_v0.1.2, .slice x_v0.2.1 v0.2.length x_v0.2.2]]) (c_laws_toPart v0 x_v0 h7) (fun _ => (Solo.tree (Solo.tree Solo.nil))) rfl (EntsB.cons (Ent.b Ent.z.s) (EntsB.cons (Ent.b (Ent.dimm Ent.z)) EntsB.nil))) rfl (by decide) ?_
    rintro _ _ _ ⟨x11, rfl, rfl, rfl⟩
    refine Rg.ed (e_alloc ty26) rfl (by decide) ?_
    rintro _ _ _ ⟨g12, rfl, rfl, rfl⟩
    refine Rg.en (e_store (v := .agg #[.slice x11.1.1 r6.1.length x11.1.2, .slice x11.2.1 r6.2.length x11.2.2]) (cs' := [.slice x11.1.1 r6.1.length x11.1.2, .slice x11.2.1 r6.2.length x11.2.2]) ty26 rfl rfl Upd.here rfl (by simp [Value.cells, Value.oneCell']) (Nat.le_of_ble_eq_true rfl) rfl) rfl ?_
    rintro _ _ _ ⟨rfl, rfl, rfl⟩
    refine Rg.nl ?_
    refine nT (?_)
    refine Tr.seq ?_
    refine Tr.region ?_
    refine Rg.q (v := .agg #[.slice x11.1.1 r6.1.length x11.1.2, .slice x11.2.1 r6.2.length x11.2.2]) (q_ldbA ty26 rfl Has.here rfl) (by decide) ?_
    obtain ⟨r13, h14, H⟩ := bd.of H
    refine Rg.q (v := .bool (r13)) (q_call (vs := [.agg #[.slice x11.1.1 r6.1.length x11.1.2, .slice x11.2.1 r6.2.length x11.2.2]]) (c_impl_PartOk r6 x11 h14) rfl (EntsB.cons (EntB.tree Has.here.there) (EntsB.cons (EntB.tree Has.here.there.there) EntsB.nil))) (by decide) ?_
    refine Rg.q (v := .bool (r13)) (Pu.qo (p_assign rfl)) (by decide) ?_
    refine Rg.nl ?_
    refine nT (?_)
    refine Tr.seq ?_
    refine Tr.seq ?_
    refine Tr.region ?_
    refine Rg.q (v := .bool (r13)) (Pu.qo (p_move rfl)) (by decide) ?_
    refine Rg.q (v := .bool (r9)) (Pu.qo (p_move rfl)) (by decide) ?_
    refine Rg.q (v := .bool (!decide (r13 = r9))) (Pu.qo (p_bneq Try.underlying4 rfl rfl)) (by decide) ?_
    refine Rg.nl ?_
    refine nT (?_)
    refine Tr.cond (b := !decide (r13 = r9)) rfl (fun h15 => ?_) (fun h15 => ?_)
    · have H := cdT h15 H
      refine Tr.seq ?_
      refine Tr.region ?_
      refine Rg.q (v := .bool (false)) (Pu.qo (p_assign rfl)) (by decide) ?_
      refine Rg.nl ?_
      refine nT (?_)
      refine tRet ?_
      refine rT (?_)
      have hr := Option.some.inj H; subst hr
      exact back1 () rfl (ResV.tmp (v := .bool (false)) rfl) rfl Ents.nil Take.nil
    · have H := cdF h15 H
      refine tSkip ?_
      refine nT (?_)
      refine Tr.seq ?_
      refine Tr.seq ?_
      refine tNwS [(5, .pointer (some ⟨g12, 0, none⟩)), (1, .pointer (some ⟨g2, 0, none⟩))] 2 [0, 1, 2, 3, 4] [2] [] Try.mixed (by kernel_rfl) (by decide) List.nodup_nil ⟨rfl, rfl, trivial⟩ rfl okNil ?_
      refine w_q (v := .agg #[.slice x11.1.1 r6.1.length x11.1.2, .slice x11.2.1 r6.2.length x11.2.2]) rfl (by decide) rfl rfl rfl (fun F => (q_ldbA ty26 rfl (Has.here.app F) rfl)) ?_
      refine w_q (v := .agg #[.slice x_v0.1.1 v0.1.length x_v0.1.2, .slice x_v0.2.1 v0.2.length x_v0.2.2]) rfl (by decide) rfl rfl rfl (fun F => (q_ldbA ty34 rfl (Has.here.there.there.there.there.there.app F) rfl)) ?_
      refine w_ed rfl (by decide) rfl Rdy.nil rfl (n_callB (vs := [.agg #[.slice x_v0.1.1 v0.1.length x_v0.1.2, .slice x_v0.2.1 v0.2.length x_v0.2.2]]) (c_laws_toPart v0 x_v0 h7) (fun _ => (Solo.tree (Solo.tree Solo.nil))) rfl (EntsB.cons (Ent.b Ent.z.s) (EntsB.cons (Ent.b (Ent.dimm Ent.z)) EntsB.nil))) ?_
      rintro _ _ _ ⟨x16, rfl, rfl, rfl⟩
      refine ⟨(PdOk.anc (by kernel_rfl) (PdOk.q rfl rfl (fun F => (q_ldbA ty26 rfl (Has.here.there.there.app F) rfl)) PdOk.nil)), ?_⟩
      obtain ⟨r17, h18, H⟩ := bd.of H
      refine w_q (v := .bool (r17)) rfl (by decide) rfl rfl rfl (fun F => (q_call (vs := [.agg #[.slice x11.1.1 r6.1.length x11.1.2, .slice x11.2.1 r6.2.length x11.2.2], .agg #[.slice x16.1.1 r6.1.length x16.1.2, .slice x16.2.1 r6.2.length x16.2.2]]) (c_laws_eqPart r6 x11 r6 x16 h18) rfl (EntsB.cons (EntB.tree (Has.here.there.there.there.app F)) (EntsB.cons (EntB.tree (Has.here.there.there.there.there.app F)) (EntsB.cons (EntB.tree (Has.here.app F)) (EntsB.cons (EntB.tree (Has.here.there.app F)) EntsB.nil)))))) ?_
      refine w_pu (v := .bool (!r17)) rfl (by decide) rfl rfl rfl (p_not rfl) ?_
      refine w_nil ?_
      show At _ _ _ _ _ _
      refine nT (?_)
      refine Tr.cond (b := !r17) rfl (fun h19 => ?_) (fun h19 => ?_)
      · have H := cdT h19 H
        refine Tr.seq ?_
        refine Tr.region ?_
        refine Rg.q (v := .bool (false)) (Pu.qo (p_assign rfl)) (by decide) ?_
        refine Rg.nl ?_
        refine nT (?_)
        refine tRet ?_
        refine rT (?_)
        have hr := Option.some.inj H; subst hr
        exact back1 () rfl (ResV.tmp (v := .bool (false)) rfl) rfl Ents.nil Take.nil
      · have H := cdF h19 H
        refine tSkip ?_
        refine nT (?_)
        refine Tr.seq ?_
        refine Tr.region ?_
        refine Rg.q (v := .bool (true)) (Pu.qo (p_assign rfl)) (by decide) ?_
        refine Rg.nl ?_
        refine nT (?_)
        refine tRet ?_
        have hr := Option.some.inj H; subst hr
        exact back1 () rfl (ResV.tmp (v := .bool (true)) rfl) rfl Ents.nil Take.nil
noncomputable def p_spec_PartRows_b0 (v0 : Part) (σ10 : Int × Int) : Option ((Int × Int) ⊕ (Int)) := cond (decide (σ10.2 < (v0.2.length : Int))) (gd (ix σ10.2 v0.2.length) <| gd (I64 (σ10.1 + ((nth v0.2 σ10.2.toNat).length : Int))) <| gd (I64 (σ10.2 + 1)) <| some (.inl (σ10.1 + ((nth v0.2 σ10.2.toNat).length : Int), σ10.2 + 1))) (some (.inr σ10.1))
noncomputable def p_spec_PartRows (v0 : Part) : Option (Int) := bd (p_spec_PartOk v0) fun r3 => cond (!r3) (some (-1)) (bd (lp (p_spec_PartRows_b0 v0) (0, 0)) fun x6 => some x6)
theorem c_spec_PartRows {r : Int} (v0 : Part) (x_v0 : (Option Addr × Nat) × (Option Addr × Nat)) (H : p_spec_PartRows v0 = some r) : Fn' Try.prog 17 #[.agg #[.slice x_v0.1.1 v0.1.length x_v0.1.2, .slice x_v0.2.1 v0.2.length x_v0.2.2]] [imm (.slice x_v0.1.1 v0.1.length x_v0.1.2) v0.1, imm (.slice x_v0.2.1 v0.2.length x_v0.2.2) v0.2] [] (ι := Unit) (fun x => .int .i64 (r)) (fun _ => []) (fun x => []) := by
  refine calls_of (args := [_]) Try.func17 rfl (by kernel_rfl) Try.ntmps17 (by simp) fun c => ?_
  unfold p_spec_PartRows at H
  refine Tr.openD Ent.z.s fun X1 => ?_
  refine Tr.seq ?_
  refine Tr.region ?_
  refine Rg.ed (e_box (t := 26) (v := .agg #[.slice x_v0.1.1 v0.1.length x_v0.1.2, .slice x_v0.2.1 v0.2.length x_v0.2.2]) rfl) rfl (by decide) ?_
  rintro _ _ _ ⟨g2, rfl, rfl, rfl⟩
  refine Rg.q (v := .int .i64 (0)) (Pu.qo (p_assign rfl)) (by decide) ?_
  refine Rg.nl ?_
  refine nT (?_)
  refine Tr.seq ?_
  refine Tr.region ?_
  refine Rg.q (v := .int .i64 (0)) (Pu.qo (p_assign rfl)) (by decide) ?_
  refine Rg.nl ?_
  refine nT (?_)
  refine Tr.seq ?_
  refine Tr.seq ?_
  refine Tr.region ?_
  refine Rg.q (v := .agg #[.slice x_v0.1.1 v0.1.length x_v0.1.2, .slice x_v0.2.1 v0.2.length x_v0.2.2]) (q_ldbA ty26 rfl Has.here rfl) (by decide) ?_
  obtain ⟨r3, h4, H⟩ := bd.of H
  refine Rg.q (v := .bool (r3)) (q_call (vs := [.agg #[.slice x_v0.1.1 v0.1.length x_v0.1.2, .slice x_v0.2.1 v0.2.length x_v0.2.2]]) (c_spec_PartOk v0 x_v0 h4) rfl (EntsB.cons (Ent.b Ent.z.s) (EntsB.cons (Ent.b (Ent.dimm Ent.z)) EntsB.nil))) (by decide) ?_
  refine Rg.q (v := .bool (!r3)) (Pu.qo (p_not rfl)) (by decide) ?_
  refine Rg.nl ?_
  refine nT (?_)
  refine Tr.cond (b := !r3) rfl (fun h5 => ?_) (fun h5 => ?_)
  · have H := cdT h5 H
    refine Tr.seq ?_
    refine Tr.region ?_
    refine Rg.q (v := .int .i64 (-1)) (Pu.qo (p_assign rfl)) (by decide) ?_
    refine Rg.nl ?_
    refine nT (?_)
    refine tRet ?_
    refine rT (?_)
    have hr := Option.some.inj H; subst hr
    exact back1 () rfl (ResV.tmp (v := .int .i64 (-1)) rfl) rfl Ents.nil Take.nil
  · have H := cdF h5 H
    refine tSkip ?_
    refine nT (?_)
    refine Tr.seq ?_
    refine Tr.seq ?_
    refine Tr.region ?_
    refine Rg.q (v := .int .i64 (0)) (Pu.qo (p_assign rfl)) (by decide) ?_
    refine Rg.nl ?_
    refine nT (?_)
    obtain ⟨x6, hx7, H⟩ := bd.of H
    obtain ⟨n8, hx7⟩ := lp.of hx7
    refine tMidNC (ι := Unit) (fun ψ => [(3, .int .i64 (x6))]) (fun ψ => []) ?_ ?_
    · refine Tr.block ?_
      refine tLoopC (ι := { q : Nat × (Int × Int) × Unit // itr (p_spec_PartRows_b0 v0) q.1 q.2.1 = some x6 }) (fun ζ => [(1, .pointer (some ⟨g2, 0, none⟩)), (3, .int .i64 (ζ.1.2.1.1)), (4, .int .i64 (ζ.1.2.1.2))]) (fun ζ => [box g2 26 [.slice x_v0.1.1 v0.1.length x_v0.1.2, .slice x_v0.2.1 v0.2.length x_v0.2.2]]) (fun ζ => ζ.1.1) ⟨(n8, (0, 0), ()), hx7⟩ ⟨rfl, rfl, rfl, trivial⟩ (.cons Del.here .nil) ?_
      rintro ⟨⟨m9, σ10, z11⟩, hk16⟩
      obtain ⟨m17, t13, e, H1, hi14, hb15⟩ := itr.of (n := m9) (s := σ10) hk16
      subst e; unfold p_spec_PartRows_b0 at H1
      show Tr _ _ _ _ _ [(1, .pointer (some ⟨g2, 0, none⟩)), (3, .int .i64 (σ10.1)), (4, .int .i64 (σ10.2))] _ [box g2 26 [.slice x_v0.1.1 v0.1.length x_v0.1.2, .slice x_v0.2.1 v0.2.length x_v0.2.2]]
      refine Tr.seq ?_
      refine Tr.seq ?_
      refine Tr.region ?_
      refine Rg.q (v := .int .i64 (σ10.2)) (Pu.qo (p_move rfl)) (by decide) ?_
      refine Rg.q (v := .pointer (some ⟨g2, 1, none⟩)) (Pu.qo (p_fabE fa26_1 rfl rfl)) (by decide) ?_
      refine Rg.q (v := .slice x_v0.2.1 v0.2.length x_v0.2.2) (q_ldb ty24 rfl Has.here rfl) (by decide) ?_
      refine Rg.q (v := .int .i64 ((v0.2.length : Int))) (Pu.qo (p_len 29 Try.underlying24 rfl)) (by decide) ?_
      refine Rg.q (v := .bool (decide (σ10.2 < (v0.2.length : Int)))) (Pu.qo (p_lss rfl rfl)) (by decide) ?_
      refine Rg.nl ?_
      refine nT (?_)
      refine Tr.cond (b := decide (σ10.2 < (v0.2.length : Int))) rfl (fun h18 => ?_) (fun h18 => ?_)
      · have H1 := cdT h18 H1
        refine tSkip ?_
        refine nT (?_)
        refine Tr.seq ?_
        refine Tr.block ?_
        refine Tr.region ?_
        refine Rg.q (v := .int .i64 (σ10.1)) (Pu.qo (p_move rfl)) (by decide) ?_
        refine Rg.q (v := .pointer (some ⟨g2, 1, none⟩)) (Pu.qo (p_fabE fa26_1 rfl rfl)) (by decide) ?_
        refine Rg.q (v := .slice x_v0.2.1 v0.2.length x_v0.2.2) (q_ldb ty24 rfl Has.here rfl) (by decide) ?_
        refine Rg.q (v := .int .i64 (σ10.2)) (Pu.qo (p_move rfl)) (by decide) ?_
        obtain ⟨h19, H1⟩ := gd.of H1
        refine Rg.q (v := elp x_v0.2.1 (σ10.2.toNat * Enc.sz (List Row) + 0)) (q_ixg (l := v0.2) (E := fun i => Dp.denc (nth v0.2 i) (X1 i)) (oa := x_v0.2.1) Try.underlying24 ty29 rfl rfl h19 rfl (Ent.b (Ent.darr Ent.z))) (by decide) ?_
        refine Rg.q (v := .slice ((X1 σ10.2.toNat).1) ((nth v0.2 σ10.2.toNat).length) ((X1 σ10.2.toNat).2.1)) (q_lde (l := v0.2) (E := fun i => Dp.denc (nth v0.2 i) (X1 i)) (oa := x_v0.2.1) (i := σ10.2.toNat) (j := 0) ty29 rfl (Ent.b (Ent.darr Ent.z)) h19.lt rfl) (by decide) ?_
        refine Rg.q (v := .int .i64 (((nth v0.2 σ10.2.toNat).length : Int))) (Pu.qo (p_len 68 Try.underlying29 rfl)) (by decide) ?_
        obtain ⟨h20, H1⟩ := gd.of H1
        refine Rg.q (v := .int .i64 (σ10.1 + ((nth v0.2 σ10.2.toNat).length : Int))) (Pu.qo (p_add rfl rfl h20)) (by decide) ?_
        refine Rg.q (v := .int .i64 (σ10.1 + ((nth v0.2 σ10.2.toNat).length : Int))) (Pu.qo (p_assign rfl)) (by decide) ?_
        refine Rg.nl ?_
        refine nB (nT (?_))
        refine Tr.region ?_
        refine Rg.q (v := .int .i64 (σ10.2)) (Pu.qo (p_move rfl)) (by decide) ?_
        obtain ⟨h21, H1⟩ := gd.of H1
        refine Rg.q (v := .int .i64 (σ10.2 + 1)) (Pu.qo (p_add rfl rfl h21)) (by decide) ?_
        refine Rg.q (v := .int .i64 (σ10.2 + 1)) (Pu.qo (p_assign rfl)) (by decide) ?_
        refine Rg.nl ?_
        exact nLC ⟨(m17, (σ10.1 + ((nth v0.2 σ10.2.toNat).length : Int), σ10.2 + 1), ()), hi14 _ (Option.some.inj H1).symm⟩ (Nat.lt_succ_self _) ⟨rfl, rfl, rfl, trivial⟩ Ents.refl (.cons Del.here .nil)
      · have H1 := cdF h18 H1
        refine tExit (xT (xT (xE (?_))))
        have hx := hb15 _ (Option.some.inj H1).symm; subst hx
        exact nMC () ⟨rfl, trivial⟩ Ents.refl Take.nil
    · intro y12
      show At _ _ [(3, .int .i64 (x6))] _ [] _
      refine nT (?_)
      refine Tr.seq ?_
      refine Tr.region ?_
      refine Rg.q (v := .int .i64 (x6)) (Pu.qo (p_move rfl)) (by decide) ?_
      refine Rg.q (v := .int .i64 (x6)) (Pu.qo (p_assign rfl)) (by decide) ?_
      refine Rg.nl ?_
      refine nT (?_)
      refine tRet ?_
      have hr := Option.some.inj H; subst hr
      exact back1 () rfl (ResV.tmp (v := .int .i64 (x6)) rfl) rfl Ents.nil Take.nil
noncomputable def p_impl_PartRows_b0 (v0 : Part) (σ10 : Int × Int) : Option ((Int × Int) ⊕ (Int)) := cond (decide (σ10.2 < (v0.2.length : Int))) (gd (ix σ10.2 v0.2.length) <| gd (I64 (σ10.1 + ((nth v0.2 σ10.2.toNat).length : Int))) <| gd (I64 (σ10.2 + 1)) <| some (.inl (σ10.1 + ((nth v0.2 σ10.2.toNat).length : Int), σ10.2 + 1))) (some (.inr σ10.1))
noncomputable def p_impl_PartRows (v0 : Part) : Option (Int) := bd (p_impl_PartOk v0) fun r3 => cond (!r3) (some (-1)) (bd (lp (p_impl_PartRows_b0 v0) (0, 0)) fun x6 => some x6)
theorem c_impl_PartRows {r : Int} (v0 : Part) (x_v0 : (Option Addr × Nat) × (Option Addr × Nat)) (H : p_impl_PartRows v0 = some r) : Fn' Try.prog 18 #[.agg #[.slice x_v0.1.1 v0.1.length x_v0.1.2, .slice x_v0.2.1 v0.2.length x_v0.2.2]] [imm (.slice x_v0.1.1 v0.1.length x_v0.1.2) v0.1, imm (.slice x_v0.2.1 v0.2.length x_v0.2.2) v0.2] [] (ι := Unit) (fun x => .int .i64 (r)) (fun _ => []) (fun x => []) := by
  refine calls_of (args := [_]) Try.func18 rfl (by kernel_rfl) Try.ntmps18 (by simp) fun c => ?_
  unfold p_impl_PartRows at H
  refine Tr.openD Ent.z.s fun X1 => ?_
  refine Tr.seq ?_
  refine Tr.region ?_
  refine Rg.ed (e_box (t := 26) (v := .agg #[.slice x_v0.1.1 v0.1.length x_v0.1.2, .slice x_v0.2.1 v0.2.length x_v0.2.2]) rfl) rfl (by decide) ?_
  rintro _ _ _ ⟨g2, rfl, rfl, rfl⟩
  refine Rg.q (v := .int .i64 (0)) (Pu.qo (p_assign rfl)) (by decide) ?_
  refine Rg.nl ?_
  refine nT (?_)
  refine Tr.seq ?_
  refine Tr.seq ?_
  refine Tr.region ?_
  refine Rg.q (v := .agg #[.slice x_v0.1.1 v0.1.length x_v0.1.2, .slice x_v0.2.1 v0.2.length x_v0.2.2]) (q_ldbA ty26 rfl Has.here rfl) (by decide) ?_
  obtain ⟨r3, h4, H⟩ := bd.of H
  refine Rg.q (v := .bool (r3)) (q_call (vs := [.agg #[.slice x_v0.1.1 v0.1.length x_v0.1.2, .slice x_v0.2.1 v0.2.length x_v0.2.2]]) (c_impl_PartOk v0 x_v0 h4) rfl (EntsB.cons (Ent.b Ent.z.s) (EntsB.cons (Ent.b (Ent.dimm Ent.z)) EntsB.nil))) (by decide) ?_
  refine Rg.q (v := .bool (!r3)) (Pu.qo (p_not rfl)) (by decide) ?_
  refine Rg.nl ?_
  refine nT (?_)
  refine Tr.cond (b := !r3) rfl (fun h5 => ?_) (fun h5 => ?_)
  · have H := cdT h5 H
    refine Tr.seq ?_
    refine Tr.region ?_
    refine Rg.q (v := .int .i64 (-1)) (Pu.qo (p_assign rfl)) (by decide) ?_
    refine Rg.nl ?_
    refine nT (?_)
    refine tRet ?_
    refine rT (?_)
    have hr := Option.some.inj H; subst hr
    exact back1 () rfl (ResV.tmp (v := .int .i64 (-1)) rfl) rfl Ents.nil Take.nil
  · have H := cdF h5 H
    refine tSkip ?_
    refine nT (?_)
    refine Tr.seq ?_
    refine Tr.region ?_
    refine Rg.q (v := .int .i64 (0)) (Pu.qo (p_assign rfl)) (by decide) ?_
    refine Rg.nl ?_
    refine nT (?_)
    refine Tr.seq ?_
    refine Tr.seq ?_
    refine Tr.region ?_
    refine Rg.q (v := .pointer (some ⟨g2, 1, none⟩)) (Pu.qo (p_fabE fa26_1 rfl rfl)) (by decide) ?_
    refine Rg.q (v := .slice x_v0.2.1 v0.2.length x_v0.2.2) (q_ldb ty24 rfl Has.here rfl) (by decide) ?_
    refine Rg.q (v := .int .i64 ((v0.2.length : Int))) (Pu.qo (p_len 29 Try.underlying24 rfl)) (by decide) ?_
    refine Rg.q (v := .int .i64 (0)) (Pu.qo (p_move rfl)) (by decide) ?_
    refine Rg.nl ?_
    refine nT (?_)
    obtain ⟨x6, hx7, H⟩ := bd.of H
    obtain ⟨n8, hx7⟩ := lp.of hx7
    refine tMidNC (ι := Unit) (fun ψ => [(3, .int .i64 (x6))]) (fun ψ => []) ?_ ?_
    · refine Tr.block ?_
      refine tLoopC (ι := { q : Nat × (Int × Int) × Unit // itr (p_impl_PartRows_b0 v0) q.1 q.2.1 = some x6 }) (fun ζ => [(3, .int .i64 (ζ.1.2.1.1)), (10, .slice x_v0.2.1 v0.2.length x_v0.2.2), (11, .int .i64 ((v0.2.length : Int))), (12, .int .i64 (ζ.1.2.1.2))]) (fun ζ => []) (fun ζ => ζ.1.1) ⟨(n8, (0, 0), ()), hx7⟩ ⟨rfl, rfl, rfl, rfl, trivial⟩ Take.nil ?_
      rintro ⟨⟨m9, σ10, z11⟩, hk16⟩
      obtain ⟨m17, t13, e, H1, hi14, hb15⟩ := itr.of (n := m9) (s := σ10) hk16
      subst e; unfold p_impl_PartRows_b0 at H1
      show Tr _ _ _ _ _ [(3, .int .i64 (σ10.1)), (10, .slice x_v0.2.1 v0.2.length x_v0.2.2), (11, .int .i64 ((v0.2.length : Int))), (12, .int .i64 (σ10.2))] _ []
      refine Tr.seq ?_
      refine Tr.region ?_
      refine Rg.q (v := .bool (decide (σ10.2 < (v0.2.length : Int)))) (Pu.qo (p_lss rfl rfl)) (by decide) ?_
      refine Rg.nl ?_
      refine nT (?_)
      refine Tr.seq ?_
      refine Tr.cond (b := decide (σ10.2 < (v0.2.length : Int))) rfl (fun h18 => ?_) (fun h18 => ?_)
      · have H1 := cdT h18 H1
        refine tSkip ?_
        refine nT (?_)
        refine Tr.seq ?_
        refine Tr.block ?_
        refine Tr.seq ?_
        refine Tr.region ?_
        obtain ⟨h19, H1⟩ := gd.of H1
        refine Rg.q (v := elp x_v0.2.1 (σ10.2.toNat * Enc.sz (List Row) + 0)) (q_ixg (l := v0.2) (E := fun i => Dp.denc (nth v0.2 i) (X1 i)) (oa := x_v0.2.1) Try.underlying24 ty29 rfl rfl h19 rfl (Ent.b (Ent.darr Ent.z))) (by decide) ?_
        refine Rg.q (v := .slice ((X1 σ10.2.toNat).1) ((nth v0.2 σ10.2.toNat).length) ((X1 σ10.2.toNat).2.1)) (q_lde (l := v0.2) (E := fun i => Dp.denc (nth v0.2 i) (X1 i)) (oa := x_v0.2.1) (i := σ10.2.toNat) (j := 0) ty29 rfl (Ent.b (Ent.darr Ent.z)) h19.lt rfl) (by decide) ?_
        refine Rg.q (v := .slice ((X1 σ10.2.toNat).1) ((nth v0.2 σ10.2.toNat).length) ((X1 σ10.2.toNat).2.1)) (Pu.qo (p_assign rfl)) (by decide) ?_
        refine Rg.nl ?_
        refine nT (?_)
        refine Tr.region ?_
        refine Rg.q (v := .int .i64 (σ10.1)) (Pu.qo (p_move rfl)) (by decide) ?_
        refine Rg.q (v := .slice ((X1 σ10.2.toNat).1) ((nth v0.2 σ10.2.toNat).length) ((X1 σ10.2.toNat).2.1)) (Pu.qo (p_move rfl)) (by decide) ?_
        refine Rg.q (v := .int .i64 (((nth v0.2 σ10.2.toNat).length : Int))) (Pu.qo (p_len 68 Try.underlying29 rfl)) (by decide) ?_
        obtain ⟨h20, H1⟩ := gd.of H1
        refine Rg.q (v := .int .i64 (σ10.1 + ((nth v0.2 σ10.2.toNat).length : Int))) (Pu.qo (p_add rfl rfl h20)) (by decide) ?_
        refine Rg.q (v := .int .i64 (σ10.1 + ((nth v0.2 σ10.2.toNat).length : Int))) (Pu.qo (p_assign rfl)) (by decide) ?_
        refine Rg.nl ?_
        refine nB (nT (?_))
        refine Tr.region ?_
        obtain ⟨h21, H1⟩ := gd.of H1
        refine Rg.q (v := .int .i64 (σ10.2 + 1)) (Pu.qo (p_add rfl rfl h21)) (by decide) ?_
        refine Rg.q (v := .int .i64 (σ10.2 + 1)) (Pu.qo (p_move rfl)) (by decide) ?_
        refine Rg.nl ?_
        exact nLC ⟨(m17, (σ10.1 + ((nth v0.2 σ10.2.toNat).length : Int), σ10.2 + 1), ()), hi14 _ (Option.some.inj H1).symm⟩ (Nat.lt_succ_self _) ⟨rfl, rfl, rfl, rfl, trivial⟩ Ents.refl Take.nil
      · have H1 := cdF h18 H1
        refine tExit (xT (xT (xE (?_))))
        have hx := hb15 _ (Option.some.inj H1).symm; subst hx
        exact nMC () ⟨rfl, trivial⟩ Ents.refl Take.nil
    · intro y12
      show At _ _ [(3, .int .i64 (x6))] _ [] _
      refine nT (?_)
      refine Tr.seq ?_
      refine Tr.region ?_
      refine Rg.q (v := .int .i64 (x6)) (Pu.qo (p_move rfl)) (by decide) ?_
      refine Rg.q (v := .int .i64 (x6)) (Pu.qo (p_assign rfl)) (by decide) ?_
      refine Rg.nl ?_
      refine nT (?_)
      refine tRet ?_
      have hr := Option.some.inj H; subst hr
      exact back1 () rfl (ResV.tmp (v := .int .i64 (x6)) rfl) rfl Ents.nil Take.nil
noncomputable def p_laws_FnExactPartRows (v0 : Part) : Option (Bool) := bd (p_laws_szPart v0 1048576) fun r3 => cond (decide (r3 < 0)) (some true) (bd (p_laws_toPart v0) fun r6 => bd (p_spec_PartRows r6) fun r9 => bd (p_impl_PartRows r6) fun r13 => cond (!decide (r13 = r9)) (some false) (bd (p_laws_eqPart r6 r6) fun r17 => cond (!r17) (some false) (some true)))
theorem c_laws_FnExactPartRows {r : Bool} (v0 : Part) (x_v0 : (Option Addr × Nat) × (Option Addr × Nat)) (H : p_laws_FnExactPartRows v0 = some r) : Fn' Try.prog 5 #[.agg #[.slice x_v0.1.1 v0.1.length x_v0.1.2, .slice x_v0.2.1 v0.2.length x_v0.2.2]] [imm (.slice x_v0.1.1 v0.1.length x_v0.1.2) v0.1, imm (.slice x_v0.2.1 v0.2.length x_v0.2.2) v0.2] [] (ι := Unit) (fun x => .bool (r)) (fun _ => []) (fun x => []) := by
  refine calls_of (args := [_]) Try.func5 rfl (by kernel_rfl) Try.ntmps5 (by simp) fun c => ?_
  unfold p_laws_FnExactPartRows at H
  refine Tr.openD Ent.z.s fun X1 => ?_
  refine Tr.seq ?_
  refine Tr.region ?_
  refine Rg.ed (e_box (t := 34) (v := .agg #[.slice x_v0.1.1 v0.1.length x_v0.1.2, .slice x_v0.2.1 v0.2.length x_v0.2.2]) rfl) rfl (by decide) ?_
  rintro _ _ _ ⟨g2, rfl, rfl, rfl⟩
  refine Rg.q (v := .bool (false)) (Pu.qo (p_assign rfl)) (by decide) ?_
  refine Rg.nl ?_
  refine nT (?_)
  refine Tr.seq ?_
  refine Tr.region ?_
  refine Rg.q (v := .int .i64 (1048576)) (Pu.qo (p_assign rfl)) (by decide) ?_
  refine Rg.nl ?_
  refine nT (?_)
  refine Tr.seq ?_
  refine Tr.region ?_
  refine Rg.q (v := .agg #[.slice x_v0.1.1 v0.1.length x_v0.1.2, .slice x_v0.2.1 v0.2.length x_v0.2.2]) (q_ldbA ty34 rfl Has.here rfl) (by decide) ?_
  refine Rg.q (v := .int .i64 (1048576)) (Pu.qo (p_move rfl)) (by decide) ?_
  obtain ⟨r3, h4, H⟩ := bd.of H
  refine Rg.q (v := .int .i64 (r3)) (q_call (vs := [.agg #[.slice x_v0.1.1 v0.1.length x_v0.1.2, .slice x_v0.2.1 v0.2.length x_v0.2.2], .int .i64 (1048576)]) (c_laws_szPart v0 x_v0 1048576 h4) rfl (EntsB.cons (Ent.b Ent.z.s) (EntsB.cons (Ent.b (Ent.dimm Ent.z)) EntsB.nil))) (by decide) ?_
  refine Rg.q (v := .int .i64 (r3)) (Pu.qo (p_assign rfl)) (by decide) ?_
  refine Rg.nl ?_
  refine nT (?_)
  refine Tr.seq ?_
  refine Tr.seq ?_
  refine Tr.region ?_
  refine Rg.q (v := .int .i64 (r3)) (Pu.qo (p_move rfl)) (by decide) ?_
  refine Rg.q (v := .bool (decide (r3 < 0))) (Pu.qo (p_lss rfl rfl)) (by decide) ?_
  refine Rg.nl ?_
  refine nT (?_)
  refine Tr.cond (b := decide (r3 < 0)) rfl (fun h5 => ?_) (fun h5 => ?_)
  · have H := cdT h5 H
    refine Tr.seq ?_
    refine Tr.region ?_
    refine Rg.q (v := .bool (true)) (Pu.qo (p_assign rfl)) (by decide) ?_
    refine Rg.nl ?_
    refine nT (?_)
    refine tRet ?_
    refine rT (?_)
    have hr := Option.some.inj H; subst hr
    exact back1 () rfl (ResV.tmp (v := .bool (true)) rfl) rfl Ents.nil Take.nil
  · have H := cdF h5 H
    refine tSkip ?_
    refine nT (?_)
    refine Tr.seq ?_
    refine Tr.region ?_
    refine Rg.q (v := .agg #[.slice x_v0.1.1 v0.1.length x_v0.1.2, .slice x_v0.2.1 v0.2.length x_v0.2.2]) (q_ldbA ty34 rfl Has.here rfl) (by decide) ?_
    obtain ⟨r6, h7, H⟩ := bd.of H
    refine Rg.ed (e_callB (vs := [.agg #[.slice x_v0.1.1 v0.1.length x_v0.1.2, .slice x_v0.2.1 v0.2.length x_v0.2.2]]) (c_laws_toPart v0 x_v0 h7) (fun _ => (Solo.tree (Solo.tree Solo.nil))) rfl (EntsB.cons (Ent.b Ent.z.s) (EntsB.cons (Ent.b (Ent.dimm Ent.z)) EntsB.nil))) rfl (by decide) ?_
    rintro _ _ _ ⟨x8, rfl, rfl, rfl⟩
    obtain ⟨r9, h10, H⟩ := bd.of H
    refine Rg.q (v := .int .i64 (r9)) (q_call (vs := [.agg #[.slice x8.1.1 r6.1.length x8.1.2, .slice x8.2.1 r6.2.length x8.2.2]]) (c_spec_PartRows r6 x8 h10) rfl (EntsB.cons (EntB.tree Has.here) (EntsB.cons (EntB.tree Has.here.there) EntsB.nil))) (by decide) ?_
    refine Rg.q (v := .int .i64 (r9)) (Pu.qo (p_assign rfl)) (by decide) ?_
    refine Rg.nl ?_
    refine nT (?_)
    refine Tr.seq ?_
    refine Tr.region ?_
    refine Rg.q (v := .agg #[.slice x_v0.1.1 v0.1.length x_v0.1.2, .slice x_v0.2.1 v0.2.length x_v0.2.2]) (q_ldbA ty34 rfl Has.here.there.there rfl) (by decide) ?_
    refine Rg.ed (e_callB (vs := [.agg #[.slice x_v0.1.1 v0.1.length x_v0.1.2, .slice x_v0.2.1 v0.2.length x_v0.2.2]]) (c_laws_toPart v0 x_v0 h7) (fun _ => (Solo.tree (Solo.tree Solo.nil))) rfl (EntsB.cons (Ent.b Ent.z.s) (EntsB.cons (Ent.b (Ent.dimm Ent.z)) EntsB.nil))) rfl (by decide) ?_
    rintro _ _ _ ⟨x11, rfl, rfl, rfl⟩
    refine Rg.ed (e_alloc ty26) rfl (by decide) ?_
    rintro _ _ _ ⟨g12, rfl, rfl, rfl⟩
    refine Rg.en (e_store (v := .agg #[.slice x11.1.1 r6.1.length x11.1.2, .slice x11.2.1 r6.2.length x11.2.2]) (cs' := [.slice x11.1.1 r6.1.length x11.1.2, .slice x11.2.1 r6.2.length x11.2.2]) ty26 rfl rfl Upd.here rfl (by simp [Value.cells, Value.oneCell']) (Nat.le_of_ble_eq_true rfl) rfl) rfl ?_
    rintro _ _ _ ⟨rfl, rfl, rfl⟩
    refine Rg.nl ?_
    refine nT (?_)
    refine Tr.seq ?_
    refine Tr.region ?_
    refine Rg.q (v := .agg #[.slice x11.1.1 r6.1.length x11.1.2, .slice x11.2.1 r6.2.length x11.2.2]) (q_ldbA ty26 rfl Has.here rfl) (by decide) ?_
    obtain ⟨r13, h14, H⟩ := bd.of H
    refine Rg.q (v := .int .i64 (r13)) (q_call (vs := [.agg #[.slice x11.1.1 r6.1.length x11.1.2, .slice x11.2.1 r6.2.length x11.2.2]]) (c_impl_PartRows r6 x11 h14) rfl (EntsB.cons (EntB.tree Has.here.there) (EntsB.cons (EntB.tree Has.here.there.there) EntsB.nil))) (by decide) ?_
    refine Rg.q (v := .int .i64 (r13)) (Pu.qo (p_assign rfl)) (by decide) ?_
    refine Rg.nl ?_
    refine nT (?_)
    refine Tr.seq ?_
    refine Tr.seq ?_
    refine Tr.region ?_
    refine Rg.q (v := .int .i64 (r13)) (Pu.qo (p_move rfl)) (by decide) ?_
    refine Rg.q (v := .int .i64 (r9)) (Pu.qo (p_move rfl)) (by decide) ?_
    refine Rg.q (v := .bool (!decide (r13 = r9))) (Pu.qo (p_neq rfl rfl)) (by decide) ?_
    refine Rg.nl ?_
    refine nT (?_)
    refine Tr.cond (b := !decide (r13 = r9)) rfl (fun h15 => ?_) (fun h15 => ?_)
    · have H := cdT h15 H
      refine Tr.seq ?_
      refine Tr.region ?_
      refine Rg.q (v := .bool (false)) (Pu.qo (p_assign rfl)) (by decide) ?_
      refine Rg.nl ?_
      refine nT (?_)
      refine tRet ?_
      refine rT (?_)
      have hr := Option.some.inj H; subst hr
      exact back1 () rfl (ResV.tmp (v := .bool (false)) rfl) rfl Ents.nil Take.nil
    · have H := cdF h15 H
      refine tSkip ?_
      refine nT (?_)
      refine Tr.seq ?_
      refine Tr.seq ?_
      refine tNwS [(5, .pointer (some ⟨g12, 0, none⟩)), (1, .pointer (some ⟨g2, 0, none⟩))] 2 [0, 1, 2, 3, 4] [2] [] Try.mixed (by kernel_rfl) (by decide) List.nodup_nil ⟨rfl, rfl, trivial⟩ rfl okNil ?_
      refine w_q (v := .agg #[.slice x11.1.1 r6.1.length x11.1.2, .slice x11.2.1 r6.2.length x11.2.2]) rfl (by decide) rfl rfl rfl (fun F => (q_ldbA ty26 rfl (Has.here.app F) rfl)) ?_
      refine w_q (v := .agg #[.slice x_v0.1.1 v0.1.length x_v0.1.2, .slice x_v0.2.1 v0.2.length x_v0.2.2]) rfl (by decide) rfl rfl rfl (fun F => (q_ldbA ty34 rfl (Has.here.there.there.there.there.there.app F) rfl)) ?_
      refine w_ed rfl (by decide) rfl Rdy.nil rfl (n_callB (vs := [.agg #[.slice x_v0.1.1 v0.1.length x_v0.1.2, .slice x_v0.2.1 v0.2.length x_v0.2.2]]) (c_laws_toPart v0 x_v0 h7) (fun _ => (Solo.tree (Solo.tree Solo.nil))) rfl (EntsB.cons (Ent.b Ent.z.s) (EntsB.cons (Ent.b (Ent.dimm Ent.z)) EntsB.nil))) ?_
      rintro _ _ _ ⟨x16, rfl, rfl, rfl⟩
      refine ⟨(PdOk.anc (by kernel_rfl) (PdOk.q rfl rfl (fun F => (q_ldbA ty26 rfl (Has.here.there.there.app F) rfl)) PdOk.nil)), ?_⟩
      obtain ⟨r17, h18, H⟩ := bd.of H
      refine w_q (v := .bool (r17)) rfl (by decide) rfl rfl rfl (fun F => (q_call (vs := [.agg #[.slice x11.1.1 r6.1.length x11.1.2, .slice x11.2.1 r6.2.length x11.2.2], .agg #[.slice x16.1.1 r6.1.length x16.1.2, .slice x16.2.1 r6.2.length x16.2.2]]) (c_laws_eqPart r6 x11 r6 x16 h18) rfl (EntsB.cons (EntB.tree (Has.here.there.there.there.app F)) (EntsB.cons (EntB.tree (Has.here.there.there.there.there.app F)) (EntsB.cons (EntB.tree (Has.here.app F)) (EntsB.cons (EntB.tree (Has.here.there.app F)) EntsB.nil)))))) ?_
      refine w_pu (v := .bool (!r17)) rfl (by decide) rfl rfl rfl (p_not rfl) ?_
      refine w_nil ?_
      show At _ _ _ _ _ _
      refine nT (?_)
      refine Tr.cond (b := !r17) rfl (fun h19 => ?_) (fun h19 => ?_)
      · have H := cdT h19 H
        refine Tr.seq ?_
        refine Tr.region ?_
        refine Rg.q (v := .bool (false)) (Pu.qo (p_assign rfl)) (by decide) ?_
        refine Rg.nl ?_
        refine nT (?_)
        refine tRet ?_
        refine rT (?_)
        have hr := Option.some.inj H; subst hr
        exact back1 () rfl (ResV.tmp (v := .bool (false)) rfl) rfl Ents.nil Take.nil
      · have H := cdF h19 H
        refine tSkip ?_
        refine nT (?_)
        refine Tr.seq ?_
        refine Tr.region ?_
        refine Rg.q (v := .bool (true)) (Pu.qo (p_assign rfl)) (by decide) ?_
        refine Rg.nl ?_
        refine nT (?_)
        refine tRet ?_
        have hr := Option.some.inj H; subst hr
        exact back1 () rfl (ResV.tmp (v := .bool (true)) rfl) rfl Ents.nil Take.nil
noncomputable def p_spec_l12Of_b0 (v0 : Part) (v1 : Int) (σ7 : Int) : Option ((Int) ⊕ (Unit ⊕ (List Row))) := cond (decide (σ7 < (v0.1.length : Int))) (gd (ix σ7 v0.1.length) <| cond (decide ((nth v0.1 σ7.toNat) = v1)) (gd (ix σ7 v0.2.length) <| some (.inr (.inr (nth v0.2 σ7.toNat)))) (gd (I64 (σ7 + 1)) <| some (.inl (σ7 + 1)))) (some (.inr (.inl ())))
noncomputable def p_spec_l12Of (v0 : Part) (v1 : Int) : Option ((List Row)) := bd (lp (p_spec_l12Of_b0 v0 v1) 0) <| sw (fun e20 => some ([] : List Row)) (fun q => some q)
theorem c_spec_l12Of {r : (List Row)} (v0 : Part) (x_v0 : (Option Addr × Nat) × (Option Addr × Nat)) (v1 : Int) (H : p_spec_l12Of v0 v1 = some r) : Fn' Try.prog 51 #[.agg #[.slice x_v0.1.1 v0.1.length x_v0.1.2, .slice x_v0.2.1 v0.2.length x_v0.2.2], .int .i64 (v1)] [imm (.slice x_v0.1.1 v0.1.length x_v0.1.2) v0.1, imm (.slice x_v0.2.1 v0.2.length x_v0.2.2) v0.2] [] (ι := Option Addr × Nat) (fun x => .slice x.1 r.length x.2) (fun x => [imm (.slice x.1 r.length x.2) r]) (fun x => []) := by
  refine calls_of (args := [_, _]) Try.func51 rfl (by kernel_rfl) Try.ntmps51 (by simp) fun c => ?_
  unfold p_spec_l12Of at H
  refine Tr.openD Ent.z.s fun X1 => ?_
  refine Tr.seq ?_
  refine Tr.region ?_
  refine Rg.ed (e_box (t := 26) (v := .agg #[.slice x_v0.1.1 v0.1.length x_v0.1.2, .slice x_v0.2.1 v0.2.length x_v0.2.2]) rfl) rfl (by decide) ?_
  rintro _ _ _ ⟨g2, rfl, rfl, rfl⟩
  refine Rg.q (v := .slice none 0 0) (Pu.qo (p_assign rfl)) (by decide) ?_
  refine Rg.nl ?_
  refine nT (?_)
  refine Tr.seq ?_
  refine Tr.seq ?_
  refine Tr.region ?_
  refine Rg.q (v := .int .i64 (0)) (Pu.qo (p_assign rfl)) (by decide) ?_
  refine Rg.nl ?_
  refine nT (?_)
  obtain ⟨x3, hx4, H⟩ := bd.of H
  obtain ⟨n5, hx4⟩ := lp.of hx4
  refine tMidNC (ι := { q : (Unit) × Unit // x3 = .inl q.1 }) (fun ψ => []) (fun ψ => []) ?_ ?_
  · refine Tr.block ?_
    refine tLoopC (ι := { q : Nat × (Int) × Unit // itr (p_spec_l12Of_b0 v0 v1) q.1 q.2.1 = some x3 }) (fun ζ => [(1, .int .i64 (v1)), (2, .pointer (some ⟨g2, 0, none⟩)), (5, .int .i64 (ζ.1.2.1))]) (fun ζ => [box g2 26 [.slice x_v0.1.1 v0.1.length x_v0.1.2, .slice x_v0.2.1 v0.2.length x_v0.2.2]]) (fun ζ => ζ.1.1) ⟨(n5, 0, ()), hx4⟩ ⟨rfl, rfl, rfl, trivial⟩ (.cons Del.here .nil) ?_
    rintro ⟨⟨m6, σ7, z8⟩, hk13⟩
    obtain ⟨m14, t10, e, H1, hi11, hb12⟩ := itr.of (n := m6) (s := σ7) hk13
    subst e; unfold p_spec_l12Of_b0 at H1
    show Tr _ _ _ _ _ [(1, .int .i64 (v1)), (2, .pointer (some ⟨g2, 0, none⟩)), (5, .int .i64 (σ7))] _ [box g2 26 [.slice x_v0.1.1 v0.1.length x_v0.1.2, .slice x_v0.2.1 v0.2.length x_v0.2.2]]
    refine Tr.seq ?_
    refine Tr.seq ?_
    refine Tr.region ?_
    refine Rg.q (v := .int .i64 (σ7)) (Pu.qo (p_move rfl)) (by decide) ?_
    refine Rg.q (v := .pointer (some ⟨g2, 0, none⟩)) (Pu.qo (p_fabE fa26_0 rfl rfl)) (by decide) ?_
    refine Rg.q (v := .slice x_v0.1.1 v0.1.length x_v0.1.2) (q_ldb ty23 rfl Has.here rfl) (by decide) ?_
    refine Rg.q (v := .int .i64 ((v0.1.length : Int))) (Pu.qo (p_len 3 Try.underlying23 rfl)) (by decide) ?_
    refine Rg.q (v := .bool (decide (σ7 < (v0.1.length : Int)))) (Pu.qo (p_lss rfl rfl)) (by decide) ?_
    refine Rg.nl ?_
    refine nT (?_)
    refine Tr.cond (b := decide (σ7 < (v0.1.length : Int))) rfl (fun h15 => ?_) (fun h15 => ?_)
    · have H1 := cdT h15 H1
      refine tSkip ?_
      refine nT (?_)
      refine Tr.seq ?_
      refine Tr.block ?_
      refine Tr.seq ?_
      refine Tr.region ?_
      refine Rg.q (v := .pointer (some ⟨g2, 0, none⟩)) (Pu.qo (p_fabE fa26_0 rfl rfl)) (by decide) ?_
      refine Rg.q (v := .slice x_v0.1.1 v0.1.length x_v0.1.2) (q_ldb ty23 rfl Has.here rfl) (by decide) ?_
      refine Rg.q (v := .int .i64 (σ7)) (Pu.qo (p_move rfl)) (by decide) ?_
      obtain ⟨h16, H1⟩ := gd.of H1
      refine Rg.q (v := elp x_v0.1.1 (σ7.toNat * Enc.sz Int + 0)) (q_ixg (l := v0.1) (E := fun i => Flat.enc (nth v0.1 i)) (oa := x_v0.1.1) Try.underlying23 ty3 rfl rfl h16 rfl (EntB.flat (Ent.b Ent.z.s))) (by decide) ?_
      refine Rg.q (v := .int .i64 (nth v0.1 σ7.toNat)) (q_lde (l := v0.1) (E := fun i => Flat.enc (nth v0.1 i)) (oa := x_v0.1.1) (i := σ7.toNat) (j := 0) ty3 rfl (EntB.flat (Ent.b Ent.z.s)) h16.lt rfl) (by decide) ?_
      refine Rg.q (v := .int .i64 (v1)) (Pu.qo (p_move rfl)) (by decide) ?_
      refine Rg.q (v := .bool (decide ((nth v0.1 σ7.toNat) = v1))) (Pu.qo (p_eql rfl rfl)) (by decide) ?_
      refine Rg.nl ?_
      refine nT (?_)
      refine Tr.cond (b := decide ((nth v0.1 σ7.toNat) = v1)) rfl (fun h17 => ?_) (fun h17 => ?_)
      · have H1 := cdT h17 H1
        refine Tr.seq ?_
        refine Tr.region ?_
        refine Rg.q (v := .pointer (some ⟨g2, 1, none⟩)) (Pu.qo (p_fabE fa26_1 rfl rfl)) (by decide) ?_
        refine Rg.q (v := .slice x_v0.2.1 v0.2.length x_v0.2.2) (q_ldb ty24 rfl Has.here rfl) (by decide) ?_
        refine Rg.q (v := .int .i64 (σ7)) (Pu.qo (p_move rfl)) (by decide) ?_
        obtain ⟨h18, H1⟩ := gd.of H1
        refine Rg.q (v := elp x_v0.2.1 (σ7.toNat * Enc.sz (List Row) + 0)) (q_ixg (l := v0.2) (E := fun i => Dp.denc (nth v0.2 i) (X1 i)) (oa := x_v0.2.1) Try.underlying24 ty29 rfl rfl h18 rfl (Ent.b (Ent.darr Ent.z))) (by decide) ?_
        refine Rg.q (v := .slice ((X1 σ7.toNat).1) ((nth v0.2 σ7.toNat).length) ((X1 σ7.toNat).2.1)) (q_lde (l := v0.2) (E := fun i => Dp.denc (nth v0.2 i) (X1 i)) (oa := x_v0.2.1) (i := σ7.toNat) (j := 0) ty29 rfl (Ent.b (Ent.darr Ent.z)) h18.lt rfl) (by decide) ?_
        refine Rg.q (v := .slice ((X1 σ7.toNat).1) ((nth v0.2 σ7.toNat).length) ((X1 σ7.toNat).2.1)) (Pu.qo (p_assign rfl)) (by decide) ?_
        refine Rg.nl ?_
        refine nT (?_)
        refine tRet ?_
        refine rB (rT (rT (rB (rT (rT (?_))))))
        have hx := hb12 _ (Option.some.inj H1).symm; subst hx
        replace H := sw.r H
        have hr := Option.some.inj H; subst hr
        exact back1 ((X1 σ7.toNat).1, (X1 σ7.toNat).2.1) rfl (ResV.tmp (v := .slice ((X1 σ7.toNat).1) ((nth v0.2 σ7.toNat).length) ((X1 σ7.toNat).2.1)) rfl) rfl (Ents.cons (Ent.dimm (Ent.del Ent.z h18.lt)) Ents.nil) Take.nil
      · have H1 := cdF h17 H1
        refine tSkip ?_
        refine nB (nT (?_))
        refine Tr.region ?_
        refine Rg.q (v := .int .i64 (σ7)) (Pu.qo (p_move rfl)) (by decide) ?_
        obtain ⟨h19, H1⟩ := gd.of H1
        refine Rg.q (v := .int .i64 (σ7 + 1)) (Pu.qo (p_add rfl rfl h19)) (by decide) ?_
        refine Rg.q (v := .int .i64 (σ7 + 1)) (Pu.qo (p_assign rfl)) (by decide) ?_
        refine Rg.nl ?_
        exact nLC ⟨(m14, σ7 + 1, ()), hi11 _ (Option.some.inj H1).symm⟩ (Nat.lt_succ_self _) ⟨rfl, rfl, rfl, trivial⟩ Ents.refl (.cons Del.here .nil)
    · have H1 := cdF h15 H1
      refine tExit (xT (xT (xE (?_))))
      exact nMC ⟨((), ()), (hb12 _ (Option.some.inj H1).symm).symm⟩ trivial Ents.refl Take.nil
  · rintro ⟨⟨e20, y9⟩, hx⟩; subst hx; replace H := sw.l H
    show At _ _ [] _ [] _
    refine nT (?_)
    refine Tr.seq ?_
    refine Tr.region ?_
    refine Rg.ed (e_lit0 Row Try.underlying29 ty68) rfl (by decide) ?_
    rintro _ _ _ ⟨a21, c22, rfl, rfl, rfl⟩
    refine Rg.q (v := .slice a21 (([] : List Row).length) c22) (Pu.qo (p_assign rfl)) (by decide) ?_
    refine Rg.nl ?_
    refine nT (?_)
    refine Tr.freeze (.cons Del.here .nil) ?_
    refine tRet ?_
    have hr := Option.some.inj H; subst hr
    exact back1 (a21, c22) rfl (ResV.tmp (v := .slice a21 (([] : List Row).length) c22) rfl) rfl (Ents.cons Ent.z Ents.nil) Take.nil
noncomputable def p_spec_PartOf (v0 : Part) (v1 : Int) : Option ((List Row)) := bd (p_spec_PartOk v0) fun r3 => cond (!r3) (some ([] : List Row)) (bd (p_spec_l12Of v0 v1) fun r10 => gd (room (([] : List Row).length + r10.length)) <| some (([] : List Row) ++ r10))
theorem c_spec_PartOf {r : (List Row)} (v0 : Part) (x_v0 : (Option Addr × Nat) × (Option Addr × Nat)) (v1 : Int) (H : p_spec_PartOf v0 v1 = some r) : Fn' Try.prog 22 #[.agg #[.slice x_v0.1.1 v0.1.length x_v0.1.2, .slice x_v0.2.1 v0.2.length x_v0.2.2], .int .i64 (v1)] [imm (.slice x_v0.1.1 v0.1.length x_v0.1.2) v0.1, imm (.slice x_v0.2.1 v0.2.length x_v0.2.2) v0.2] [] (ι := Option Addr × Nat) (fun x => .slice x.1 r.length x.2) (fun _ => []) (fun x => [tree (.slice x.1 r.length x.2) r]) := by
  refine calls_of (args := [_, _]) Try.func22 rfl (by kernel_rfl) Try.ntmps22 (by simp) fun c => ?_
  unfold p_spec_PartOf at H
  refine Tr.openD Ent.z.s fun X1 => ?_
  refine Tr.seq ?_
  refine Tr.region ?_
  refine Rg.ed (e_box (t := 26) (v := .agg #[.slice x_v0.1.1 v0.1.length x_v0.1.2, .slice x_v0.2.1 v0.2.length x_v0.2.2]) rfl) rfl (by decide) ?_
  rintro _ _ _ ⟨g2, rfl, rfl, rfl⟩
  refine Rg.q (v := .slice none 0 0) (Pu.qo (p_assign rfl)) (by decide) ?_
  refine Rg.nl ?_
  refine nT (?_)
  refine Tr.seq ?_
  refine Tr.seq ?_
  refine Tr.region ?_
  refine Rg.q (v := .agg #[.slice x_v0.1.1 v0.1.length x_v0.1.2, .slice x_v0.2.1 v0.2.length x_v0.2.2]) (q_ldbA ty26 rfl Has.here rfl) (by decide) ?_
  obtain ⟨r3, h4, H⟩ := bd.of H
  refine Rg.q (v := .bool (r3)) (q_call (vs := [.agg #[.slice x_v0.1.1 v0.1.length x_v0.1.2, .slice x_v0.2.1 v0.2.length x_v0.2.2]]) (c_spec_PartOk v0 x_v0 h4) rfl (EntsB.cons (Ent.b Ent.z.s) (EntsB.cons (Ent.b (Ent.dimm Ent.z)) EntsB.nil))) (by decide) ?_
  refine Rg.q (v := .bool (!r3)) (Pu.qo (p_not rfl)) (by decide) ?_
  refine Rg.nl ?_
  refine nT (?_)
  refine Tr.cond (b := !r3) rfl (fun h5 => ?_) (fun h5 => ?_)
  · have H := cdT h5 H
    refine Tr.seq ?_
    refine Tr.region ?_
    refine Rg.ed (e_lit0 Row Try.underlying29 ty68) rfl (by decide) ?_
    rintro _ _ _ ⟨a6, c7, rfl, rfl, rfl⟩
    refine Rg.q (v := .slice a6 (([] : List Row).length) c7) (Pu.qo (p_assign rfl)) (by decide) ?_
    refine Rg.nl ?_
    refine nT (?_)
    refine tRet ?_
    refine rT (?_)
    have hr := Option.some.inj H; subst hr
    exact back1 (a6, c7) rfl (ResV.tmp (v := .slice a6 (([] : List Row).length) c7) rfl) rfl Ents.nil (.cons Del.here .nil)
  · have H := cdF h5 H
    refine tSkip ?_
    refine nT (?_)
    refine Tr.seq ?_
    refine Tr.region ?_
    refine Rg.ed (e_lit0 Row Try.underlying29 ty68) rfl (by decide) ?_
    rintro _ _ _ ⟨a8, c9, rfl, rfl, rfl⟩
    refine Rg.q (v := .agg #[.slice x_v0.1.1 v0.1.length x_v0.1.2, .slice x_v0.2.1 v0.2.length x_v0.2.2]) (q_ldbA ty26 rfl Has.here.there rfl) (by decide) ?_
    refine Rg.q (v := .int .i64 (v1)) (Pu.qo (p_move rfl)) (by decide) ?_
    obtain ⟨r10, h11, H⟩ := bd.of H
    refine Rg.ed (e_call (vs := [.agg #[.slice x_v0.1.1 v0.1.length x_v0.1.2, .slice x_v0.2.1 v0.2.length x_v0.2.2], .int .i64 (v1)]) (c_spec_l12Of v0 x_v0 v1 h11) rfl (Ents.cons Ent.z.s (Ents.cons (Ent.dimm Ent.z) Ents.nil)) Take.nil) rfl (by decide) ?_
    rintro _ _ _ ⟨x12, rfl, rfl, rfl⟩
    obtain ⟨h15, H⟩ := gd.of H
    refine Rg.ed (e_appF (l := ([] : List Row)) (k := r10) (α := Row) Try.underlying29 ty68 rfl rfl (h15.b (by decide)) h15.x (.cons Del.here .nil) (Ent.b Ent.z)) rfl (by decide) ?_
    rintro _ _ _ ⟨a13, c14, rfl, rfl, rfl⟩
    refine Rg.q (v := .slice a13 ((([] : List Row) ++ r10).length) c14) (Pu.qo (p_assign rfl)) (by decide) ?_
    refine Rg.nl ?_
    refine nT (?_)
    refine tRet ?_
    have hr := Option.some.inj H; subst hr
    exact back1 (a13, c14) rfl (ResV.tmp (v := .slice a13 ((([] : List Row) ++ r10).length) c14) rfl) rfl Ents.nil (.cons Del.here .nil)
noncomputable def p_slices_Index_int_int_b0 (v0 : (List Int)) (v1 : Int) (σ5 : Int) : Option ((Int) ⊕ (Unit ⊕ Int)) := cond (decide (σ5 < (v0.length : Int))) (gd (ix σ5 v0.length) <| cond (decide (v1 = (nth v0 σ5.toNat))) (some (.inr (.inr σ5))) (gd (I64 (σ5 + 1)) <| some (.inl (σ5 + 1)))) (some (.inr (.inl ())))
noncomputable def p_slices_Index_int_int (v0 : (List Int)) (v1 : Int) : Option (Int) := bd (lp (p_slices_Index_int_int_b0 v0 v1) 0) <| sw (fun e17 => some (-1)) (fun q => some q)
theorem c_slices_Index_int_int {r : Int} (v0 : (List Int)) (x_v0 : Option Addr × Nat) (v1 : Int) (H : p_slices_Index_int_int v0 v1 = some r) : Fn' Try.prog 50 #[.slice x_v0.1 v0.length x_v0.2, .int .i64 (v1)] [imm (.slice x_v0.1 v0.length x_v0.2) v0] [] (ι := Unit) (fun x => .int .i64 (r)) (fun _ => []) (fun x => []) := by
  refine calls_of (args := [_, _]) Try.func50 rfl (by kernel_rfl) Try.ntmps50 (by simp) fun c => ?_
  unfold p_slices_Index_int_int at H
  refine Tr.seq ?_
  refine Tr.region ?_
  refine Rg.q (v := .int .i64 (0)) (Pu.qo (p_assign rfl)) (by decide) ?_
  refine Rg.nl ?_
  refine nT (?_)
  refine Tr.seq ?_
  refine Tr.seq ?_
  refine Tr.region ?_
  refine Rg.q (v := .slice x_v0.1 v0.length x_v0.2) (Pu.qo (p_move rfl)) (by decide) ?_
  refine Rg.q (v := .int .i64 ((v0.length : Int))) (Pu.qo (p_len 3 Try.underlying23 rfl)) (by decide) ?_
  refine Rg.q (v := .int .i64 (0)) (Pu.qo (p_move rfl)) (by decide) ?_
  refine Rg.nl ?_
  refine nT (?_)
  obtain ⟨x1, hx2, H⟩ := bd.of H
  obtain ⟨n3, hx2⟩ := lp.of hx2
  refine tMidNC (ι := { q : (Unit) × Unit // x1 = .inl q.1 }) (fun ψ => []) (fun ψ => []) ?_ ?_
  · refine Tr.block ?_
    refine tLoopC (ι := { q : Nat × (Int) × Unit // itr (p_slices_Index_int_int_b0 v0 v1) q.1 q.2.1 = some x1 }) (fun ζ => [(0, .slice x_v0.1 v0.length x_v0.2), (1, .int .i64 (v1)), (7, .int .i64 ((v0.length : Int))), (8, .int .i64 (ζ.1.2.1))]) (fun ζ => []) (fun ζ => ζ.1.1) ⟨(n3, 0, ()), hx2⟩ ⟨rfl, rfl, rfl, rfl, trivial⟩ Take.nil ?_
    rintro ⟨⟨m4, σ5, z6⟩, hk11⟩
    obtain ⟨m12, t8, e, H1, hi9, hb10⟩ := itr.of (n := m4) (s := σ5) hk11
    subst e; unfold p_slices_Index_int_int_b0 at H1
    show Tr _ _ _ _ _ [(0, .slice x_v0.1 v0.length x_v0.2), (1, .int .i64 (v1)), (7, .int .i64 ((v0.length : Int))), (8, .int .i64 (σ5))] _ []
    refine Tr.seq ?_
    refine Tr.region ?_
    refine Rg.q (v := .bool (decide (σ5 < (v0.length : Int)))) (Pu.qo (p_lss rfl rfl)) (by decide) ?_
    refine Rg.nl ?_
    refine nT (?_)
    refine Tr.seq ?_
    refine Tr.cond (b := decide (σ5 < (v0.length : Int))) rfl (fun h13 => ?_) (fun h13 => ?_)
    · have H1 := cdT h13 H1
      refine tSkip ?_
      refine nT (?_)
      refine Tr.seq ?_
      refine Tr.block ?_
      refine Tr.seq ?_
      refine Tr.region ?_
      refine Rg.q (v := .int .i64 (σ5)) (Pu.qo (p_move rfl)) (by decide) ?_
      refine Rg.q (v := .int .i64 (σ5)) (Pu.qo (p_assign rfl)) (by decide) ?_
      refine Rg.nl ?_
      refine nT (?_)
      refine Tr.seq ?_
      refine Tr.region ?_
      refine Rg.q (v := .int .i64 (v1)) (Pu.qo (p_move rfl)) (by decide) ?_
      refine Rg.q (v := .slice x_v0.1 v0.length x_v0.2) (Pu.qo (p_move rfl)) (by decide) ?_
      refine Rg.q (v := .int .i64 (σ5)) (Pu.qo (p_move rfl)) (by decide) ?_
      obtain ⟨h14, H1⟩ := gd.of H1
      refine Rg.q (v := elp x_v0.1 (σ5.toNat * Enc.sz Int + 0)) (q_ixg (l := v0) (E := fun i => Flat.enc (nth v0 i)) (oa := x_v0.1) Try.underlying23 ty3 rfl rfl h14 rfl (EntB.flat (Ent.b Ent.z))) (by decide) ?_
      refine Rg.q (v := .int .i64 (nth v0 σ5.toNat)) (q_lde (l := v0) (E := fun i => Flat.enc (nth v0 i)) (oa := x_v0.1) (i := σ5.toNat) (j := 0) ty3 rfl (EntB.flat (Ent.b Ent.z)) h14.lt rfl) (by decide) ?_
      refine Rg.q (v := .bool (decide (v1 = (nth v0 σ5.toNat)))) (Pu.qo (p_eql rfl rfl)) (by decide) ?_
      refine Rg.nl ?_
      refine nT (?_)
      refine Tr.cond (b := decide (v1 = (nth v0 σ5.toNat))) rfl (fun h15 => ?_) (fun h15 => ?_)
      · have H1 := cdT h15 H1
        refine Tr.seq ?_
        refine Tr.region ?_
        refine Rg.q (v := .int .i64 (σ5)) (Pu.qo (p_move rfl)) (by decide) ?_
        refine Rg.q (v := .int .i64 (σ5)) (Pu.qo (p_assign rfl)) (by decide) ?_
        refine Rg.nl ?_
        refine nT (?_)
        refine tRet ?_
        refine rB (rT (rT (rB (rT (rT (?_))))))
        have hx := hb10 _ (Option.some.inj H1).symm; subst hx
        replace H := sw.r H
        have hr := Option.some.inj H; subst hr
        exact back1 () rfl (ResV.tmp (v := .int .i64 (σ5)) rfl) rfl Ents.nil Take.nil
      · have H1 := cdF h15 H1
        refine tSkip ?_
        refine nB (nT (?_))
        refine Tr.region ?_
        obtain ⟨h16, H1⟩ := gd.of H1
        refine Rg.q (v := .int .i64 (σ5 + 1)) (Pu.qo (p_add rfl rfl h16)) (by decide) ?_
        refine Rg.q (v := .int .i64 (σ5 + 1)) (Pu.qo (p_move rfl)) (by decide) ?_
        refine Rg.nl ?_
        exact nLC ⟨(m12, σ5 + 1, ()), hi9 _ (Option.some.inj H1).symm⟩ (Nat.lt_succ_self _) ⟨rfl, rfl, rfl, rfl, trivial⟩ Ents.refl Take.nil
    · have H1 := cdF h13 H1
      refine tExit (xT (xT (xE (?_))))
      exact nMC ⟨((), ()), (hb10 _ (Option.some.inj H1).symm).symm⟩ trivial Ents.refl Take.nil
  · rintro ⟨⟨e17, y7⟩, hx⟩; subst hx; replace H := sw.l H
    show At _ _ [] _ [] _
    refine nT (?_)
    refine Tr.seq ?_
    refine Tr.region ?_
    refine Rg.q (v := .int .i64 (-1)) (Pu.qo (p_assign rfl)) (by decide) ?_
    refine Rg.nl ?_
    refine nT (?_)
    refine tRet ?_
    have hr := Option.some.inj H; subst hr
    exact back1 () rfl (ResV.tmp (v := .int .i64 (-1)) rfl) rfl Ents.nil Take.nil
noncomputable def p_impl_PartOf (v0 : Part) (v1 : Int) : Option ((List Row)) := bd (p_slices_Index_int_int v0.1 v1) fun r3 => bd (bd (p_impl_PartOk v0) fun r7 => cond (!r7) (some (true)) (some (decide (r3 < 0)))) fun b5 => cond (b5) (some ([] : List Row)) (gd (ix r3 v0.2.length) <| gd (room (([] : List Row).length + (nth v0.2 r3.toNat).length)) <| some (([] : List Row) ++ (nth v0.2 r3.toNat)))
theorem c_impl_PartOf {r : (List Row)} (v0 : Part) (x_v0 : (Option Addr × Nat) × (Option Addr × Nat)) (v1 : Int) (H : p_impl_PartOf v0 v1 = some r) : Fn' Try.prog 20 #[.agg #[.slice x_v0.1.1 v0.1.length x_v0.1.2, .slice x_v0.2.1 v0.2.length x_v0.2.2], .int .i64 (v1)] [imm (.slice x_v0.1.1 v0.1.length x_v0.1.2) v0.1, imm (.slice x_v0.2.1 v0.2.length x_v0.2.2) v0.2] [] (ι := Option Addr × Nat) (fun x => .slice x.1 r.length x.2) (fun _ => []) (fun x => [tree (.slice x.1 r.length x.2) r]) := by
  refine calls_of (args := [_, _]) Try.func20 rfl (by kernel_rfl) Try.ntmps20 (by simp) fun c => ?_
  unfold p_impl_PartOf at H
  refine Tr.openD Ent.z.s fun X1 => ?_
  refine Tr.seq ?_
  refine Tr.region ?_
  refine Rg.ed (e_box (t := 26) (v := .agg #[.slice x_v0.1.1 v0.1.length x_v0.1.2, .slice x_v0.2.1 v0.2.length x_v0.2.2]) rfl) rfl (by decide) ?_
  rintro _ _ _ ⟨g2, rfl, rfl, rfl⟩
  refine Rg.q (v := .slice none 0 0) (Pu.qo (p_assign rfl)) (by decide) ?_
  refine Rg.nl ?_
  refine nT (?_)
  refine Tr.seq ?_
  refine Tr.region ?_
  refine Rg.q (v := .pointer (some ⟨g2, 0, none⟩)) (Pu.qo (p_fabE fa26_0 rfl rfl)) (by decide) ?_
  refine Rg.q (v := .slice x_v0.1.1 v0.1.length x_v0.1.2) (q_ldb ty23 rfl Has.here rfl) (by decide) ?_
  refine Rg.q (v := .int .i64 (v1)) (Pu.qo (p_move rfl)) (by decide) ?_
  obtain ⟨r3, h4, H⟩ := bd.of H
  refine Rg.q (v := .int .i64 (r3)) (q_call (vs := [.slice x_v0.1.1 v0.1.length x_v0.1.2, .int .i64 (v1)]) (c_slices_Index_int_int v0.1 x_v0.1 v1 h4) rfl (EntsB.cons (Ent.b Ent.z.s) EntsB.nil)) (by decide) ?_
  refine Rg.q (v := .int .i64 (r3)) (Pu.qo (p_assign rfl)) (by decide) ?_
  refine Rg.nl ?_
  refine nT (?_)
  refine Tr.seq ?_
  obtain ⟨b5, j6, H⟩ := bd.of H
  refine tMid1 [(16, .bool (b5)), (5, .int .i64 (r3)), (2, .pointer (some ⟨g2, 0, none⟩))] ?_ ?_
  · refine tLinS [(5, .int .i64 (r3)), (2, .pointer (some ⟨g2, 0, none⟩))] Try.mixed (.inl rfl) ⟨rfl, rfl, trivial⟩ rfl ?_
    refine Lin.q (v := .agg #[.slice x_v0.1.1 v0.1.length x_v0.1.2, .slice x_v0.2.1 v0.2.length x_v0.2.2]) (by decide) (q_ldbA ty26 rfl Has.here rfl) ?_
    obtain ⟨r7, h8, j6⟩ := bd.of j6
    refine Lin.q (v := .bool (r7)) (by decide) (q_call (vs := [.agg #[.slice x_v0.1.1 v0.1.length x_v0.1.2, .slice x_v0.2.1 v0.2.length x_v0.2.2]]) (c_impl_PartOk v0 x_v0 h8) rfl (EntsB.cons (Ent.b Ent.z.s) (EntsB.cons (Ent.b (Ent.dimm Ent.z)) EntsB.nil))) ?_
    refine Lin.q (v := .bool (!r7)) (by decide) (Pu.qo (p_not rfl)) ?_
    rcases Bool.eq_false_or_eq_true (!r7) with h9 | h9
    · have j6 := cdT h9 j6
      refine Lin.q (v := .bool (true)) (by decide) (Qo.eqv (v := .bool (!r7)) (Pu.qo (p_move rfl)) (congrArg Value.bool h9)) ?_
      refine Lin.skip (by decide) rfl ?_
      refine Lin.skip (by decide) rfl ?_
      refine Lin.q (v := .bool (true)) (by decide) (Pu.qo (p_pickT rfl rfl)) ?_
      have j6 := Option.some.inj j6; subst j6
      show At _ _ _ _ _ _
      exact n1 ⟨rfl, rfl, rfl, trivial⟩
    · have j6 := cdF h9 j6
      refine Lin.q (v := .bool (false)) (by decide) (Qo.eqv (v := .bool (!r7)) (Pu.qo (p_move rfl)) (congrArg Value.bool h9)) ?_
      refine Lin.g (v := .int .i64 (r3)) (by decide) rfl (Pu.qo (p_move rfl)) ?_
      refine Lin.g (v := .bool (decide (r3 < 0))) (by decide) rfl (Pu.qo (p_lss rfl rfl)) ?_
      refine Lin.q (v := .bool (decide (r3 < 0))) (by decide) (Pu.qo (p_pickF rfl rfl)) ?_
      have j6 := Option.some.inj j6; subst j6
      show At _ _ _ _ _ _
      exact n1 ⟨rfl, rfl, rfl, trivial⟩
  refine Tr.cond (b := b5) rfl (fun h10 => ?_) (fun h10 => ?_)
  · have H := cdT h10 H
    refine Tr.seq ?_
    refine Tr.region ?_
    refine Rg.ed (e_lit0 Row Try.underlying29 ty68) rfl (by decide) ?_
    rintro _ _ _ ⟨a11, c12, rfl, rfl, rfl⟩
    refine Rg.q (v := .slice a11 (([] : List Row).length) c12) (Pu.qo (p_assign rfl)) (by decide) ?_
    refine Rg.nl ?_
    refine nT (?_)
    refine tRet ?_
    refine rT (?_)
    have hr := Option.some.inj H; subst hr
    exact back1 (a11, c12) rfl (ResV.tmp (v := .slice a11 (([] : List Row).length) c12) rfl) rfl Ents.nil (.cons Del.here .nil)
  · have H := cdF h10 H
    refine tSkip ?_
    refine nT (?_)
    refine Tr.seq ?_
    refine Tr.region ?_
    refine Rg.ed (e_lit0 Row Try.underlying29 ty68) rfl (by decide) ?_
    rintro _ _ _ ⟨a13, c14, rfl, rfl, rfl⟩
    refine Rg.q (v := .pointer (some ⟨g2, 1, none⟩)) (Pu.qo (p_fabE fa26_1 rfl rfl)) (by decide) ?_
    refine Rg.q (v := .slice x_v0.2.1 v0.2.length x_v0.2.2) (q_ldb ty24 rfl Has.here.there rfl) (by decide) ?_
    refine Rg.q (v := .int .i64 (r3)) (Pu.qo (p_move rfl)) (by decide) ?_
    obtain ⟨h15, H⟩ := gd.of H
    refine Rg.q (v := elp x_v0.2.1 (r3.toNat * Enc.sz (List Row) + 0)) (q_ixg (l := v0.2) (E := fun i => Dp.denc (nth v0.2 i) (X1 i)) (oa := x_v0.2.1) Try.underlying24 ty29 rfl rfl h15 rfl (Ent.b (Ent.darr Ent.z))) (by decide) ?_
    refine Rg.q (v := .slice ((X1 r3.toNat).1) ((nth v0.2 r3.toNat).length) ((X1 r3.toNat).2.1)) (q_lde (l := v0.2) (E := fun i => Dp.denc (nth v0.2 i) (X1 i)) (oa := x_v0.2.1) (i := r3.toNat) (j := 0) ty29 rfl (Ent.b (Ent.darr Ent.z)) h15.lt rfl) (by decide) ?_
    obtain ⟨h18, H⟩ := gd.of H
    refine Rg.ed (e_appF (l := ([] : List Row)) (k := nth v0.2 r3.toNat) (α := Row) Try.underlying29 ty68 rfl rfl (h18.b (by decide)) h18.x (.cons Del.here .nil) (Ent.b (Ent.dimm (Ent.del Ent.z h15.lt)))) rfl (by decide) ?_
    rintro _ _ _ ⟨a16, c17, rfl, rfl, rfl⟩
    refine Rg.q (v := .slice a16 ((([] : List Row) ++ (nth v0.2 r3.toNat)).length) c17) (Pu.qo (p_assign rfl)) (by decide) ?_
    refine Rg.nl ?_
    refine nT (?_)
    refine tRet ?_
    have hr := Option.some.inj H; subst hr
    exact back1 (a16, c17) rfl (ResV.tmp (v := .slice a16 ((([] : List Row) ++ (nth v0.2 r3.toNat)).length) c17) rfl) rfl Ents.nil (.cons Del.here .nil)
noncomputable def p_laws_markIntS_b0 (v0 : (List Int)) (σ5 : (List Int) × Int × Int) : Option (((List Int) × Int × Int) ⊕ (Int × (List Int))) := cond (decide (σ5.2.2 < (v0.length : Int))) (gd (ix σ5.2.2 σ5.1.length) <| gd (I64 (σ5.2.1 + 1)) <| gd (I64 (σ5.2.2 + 1)) <| some (.inl ((σ5.1.set σ5.2.2.toNat σ5.2.1), σ5.2.1 + 1, σ5.2.2 + 1))) (some (.inr (σ5.2.1, σ5.1)))
noncomputable def p_laws_markIntS (v0 : (List Int)) (v1 : Int) : Option (Int × (List Int)) := bd (lp (p_laws_markIntS_b0 v0) (v0, v1, 0)) fun x1 => some (x1.1, x1.2)
theorem c_laws_markIntS {r : Int × (List Int)} (v0 : (List Int)) (x_v0 : Option Addr × Nat) (v1 : Int) (H : p_laws_markIntS v0 v1 = some r) : Fn' Try.prog 53 #[.slice x_v0.1 v0.length x_v0.2, .int .i64 (v1)] [] [tree (.slice x_v0.1 v0.length x_v0.2) v0] (ι := Unit) (fun x => .int .i64 (r.1)) (fun _ => []) (fun x => [tree (.slice x_v0.1 v0.length x_v0.2) r.2]) := by
  refine calls_of (args := [_, _]) Try.func53 rfl (by kernel_rfl) Try.ntmps53 (by simp) fun c => ?_
  unfold p_laws_markIntS at H
  refine Tr.seq ?_
  refine Tr.region ?_
  refine Rg.q (v := .int .i64 (0)) (Pu.qo (p_assign rfl)) (by decide) ?_
  refine Rg.nl ?_
  refine nT (?_)
  refine Tr.seq ?_
  refine Tr.seq ?_
  refine Tr.region ?_
  refine Rg.q (v := .int .i64 (0)) (Pu.qo (p_assign rfl)) (by decide) ?_
  refine Rg.nl ?_
  refine nT (?_)
  obtain ⟨x1, hx2, H⟩ := bd.of H
  obtain ⟨n3, hx2⟩ := lp.of hx2
  refine tMidNC (ι := Unit) (fun ψ => [(1, .int .i64 (x1.1))]) (fun ψ => [tree (.slice x_v0.1 v0.length x_v0.2) x1.2]) ?_ ?_
  · refine Tr.block ?_
    refine tLoopC (ι := { q : Nat × ((List Int) × Int × Int) × Unit // itr (p_laws_markIntS_b0 v0) q.1 q.2.1 = some x1 }) (fun ζ => [(0, .slice x_v0.1 v0.length x_v0.2), (1, .int .i64 (ζ.1.2.1.2.1)), (5, .int .i64 (ζ.1.2.1.2.2))]) (fun ζ => [tree (.slice x_v0.1 v0.length x_v0.2) ζ.1.2.1.1]) (fun ζ => ζ.1.1) ⟨(n3, (v0, v1, 0), ()), hx2⟩ ⟨rfl, rfl, rfl, trivial⟩ (.cons Del.here .nil) ?_
    rintro ⟨⟨m4, σ5, z6⟩, hk11⟩
    obtain ⟨m12, t8, e, H1, hi9, hb10⟩ := itr.of (n := m4) (s := σ5) hk11
    subst e; unfold p_laws_markIntS_b0 at H1
    show Tr _ _ _ _ _ [(0, .slice x_v0.1 v0.length x_v0.2), (1, .int .i64 (σ5.2.1)), (5, .int .i64 (σ5.2.2))] _ [tree (.slice x_v0.1 v0.length x_v0.2) σ5.1]
    refine Tr.seq ?_
    refine Tr.seq ?_
    refine Tr.region ?_
    refine Rg.q (v := .int .i64 (σ5.2.2)) (Pu.qo (p_move rfl)) (by decide) ?_
    refine Rg.q (v := .slice x_v0.1 v0.length x_v0.2) (Pu.qo (p_move rfl)) (by decide) ?_
    refine Rg.q (v := .int .i64 ((v0.length : Int))) (Pu.qo (p_len 3 Try.underlying23 rfl)) (by decide) ?_
    refine Rg.q (v := .bool (decide (σ5.2.2 < (v0.length : Int)))) (Pu.qo (p_lss rfl rfl)) (by decide) ?_
    refine Rg.nl ?_
    refine nT (?_)
    refine Tr.cond (b := decide (σ5.2.2 < (v0.length : Int))) rfl (fun h13 => ?_) (fun h13 => ?_)
    · have H1 := cdT h13 H1
      refine tSkip ?_
      refine nT (?_)
      refine Tr.seq ?_
      refine Tr.block ?_
      refine Tr.seq ?_
      refine Tr.region ?_
      refine Rg.q (v := .slice x_v0.1 v0.length x_v0.2) (Pu.qo (p_move rfl)) (by decide) ?_
      refine Rg.q (v := .int .i64 (σ5.2.2)) (Pu.qo (p_move rfl)) (by decide) ?_
      refine Rg.q (v := .int .i64 (σ5.2.1)) (Pu.qo (p_move rfl)) (by decide) ?_
      obtain ⟨h14, H1⟩ := gd.of H1
      refine Rg.q (v := elp x_v0.1 (σ5.2.2.toNat * Enc.sz Int + 0)) (q_ixO' Try.underlying23 ty3 rfl rfl h14 Has.here) (by decide) ?_
      refine Rg.en (e_setT (l := σ5.1) (α := Int) (oa := x_v0.1) σ5.2.2.toNat σ5.2.1 () ty3 rfl rfl rfl h14.lt (ShpT.wfa _) (.cons Del.here .nil)) rfl ?_
      rintro _ _ _ ⟨rfl, rfl, rfl⟩
      refine Rg.nl ?_
      refine nT (?_)
      refine Tr.region ?_
      refine Rg.q (v := .int .i64 (σ5.2.1)) (Pu.qo (p_move rfl)) (by decide) ?_
      obtain ⟨h15, H1⟩ := gd.of H1
      refine Rg.q (v := .int .i64 (σ5.2.1 + 1)) (Pu.qo (p_add rfl rfl h15)) (by decide) ?_
      refine Rg.q (v := .int .i64 (σ5.2.1 + 1)) (Pu.qo (p_assign rfl)) (by decide) ?_
      refine Rg.nl ?_
      refine nB (nT (?_))
      refine Tr.region ?_
      refine Rg.q (v := .int .i64 (σ5.2.2)) (Pu.qo (p_move rfl)) (by decide) ?_
      obtain ⟨h16, H1⟩ := gd.of H1
      refine Rg.q (v := .int .i64 (σ5.2.2 + 1)) (Pu.qo (p_add rfl rfl h16)) (by decide) ?_
      refine Rg.q (v := .int .i64 (σ5.2.2 + 1)) (Pu.qo (p_assign rfl)) (by decide) ?_
      refine Rg.nl ?_
      exact nLC ⟨(m12, ((σ5.1.set σ5.2.2.toNat σ5.2.1), σ5.2.1 + 1, σ5.2.2 + 1), ()), hi9 _ (Option.some.inj H1).symm⟩ (Nat.lt_succ_self _) ⟨rfl, rfl, rfl, trivial⟩ Ents.refl (.cons Del.here .nil)
    · have H1 := cdF h13 H1
      refine tExit (xT (xT (xE (?_))))
      have hx := hb10 _ (Option.some.inj H1).symm; subst hx
      exact nMC () ⟨rfl, trivial⟩ Ents.refl (.cons Del.here .nil)
  · intro y7
    show At _ _ [(1, .int .i64 (x1.1))] _ [tree (.slice x_v0.1 v0.length x_v0.2) x1.2] _
    refine nT (?_)
    refine Tr.seq ?_
    refine Tr.region ?_
    refine Rg.q (v := .int .i64 (x1.1)) (Pu.qo (p_move rfl)) (by decide) ?_
    refine Rg.q (v := .int .i64 (x1.1)) (Pu.qo (p_assign rfl)) (by decide) ?_
    refine Rg.nl ?_
    refine nT (?_)
    refine tRet ?_
    have hr := Option.some.inj H; subst hr
    exact back1 () rfl (ResV.tmp (v := .int .i64 (x1.1)) rfl) rfl Ents.nil (.cons Del.here .nil)
noncomputable def p_laws_markRowS_b0 (v0 : (List Row)) (σ5 : (List Row) × Int × Int) : Option (((List Row) × Int × Int) ⊕ (Int × (List Row))) := cond (decide (σ5.2.2 < (v0.length : Int))) (gd (ix σ5.2.2 σ5.1.length) <| gd (I64 (σ5.2.1 + 1)) <| gd (I64 ((σ5.2.1 + 1) + 1)) <| gd (I64 (σ5.2.2 + 1)) <| some (.inl ((σ5.1.set σ5.2.2.toNat (σ5.2.1, (σ5.2.1 + 1))), (σ5.2.1 + 1) + 1, σ5.2.2 + 1))) (some (.inr (σ5.2.1, σ5.1)))
noncomputable def p_laws_markRowS (v0 : (List Row)) (v1 : Int) : Option (Int × (List Row)) := bd (lp (p_laws_markRowS_b0 v0) (v0, v1, 0)) fun x1 => some (x1.1, x1.2)
theorem c_laws_markRowS {r : Int × (List Row)} (v0 : (List Row)) (x_v0 : Option Addr × Nat) (v1 : Int) (H : p_laws_markRowS v0 v1 = some r) : Fn' Try.prog 26 #[.slice x_v0.1 v0.length x_v0.2, .int .i64 (v1)] [] [tree (.slice x_v0.1 v0.length x_v0.2) v0] (ι := Unit) (fun x => .int .i64 (r.1)) (fun _ => []) (fun x => [tree (.slice x_v0.1 v0.length x_v0.2) r.2]) := by
  refine calls_of (args := [_, _]) Try.func26 rfl (by kernel_rfl) Try.ntmps26 (by simp) fun c => ?_
  unfold p_laws_markRowS at H
  refine Tr.seq ?_
  refine Tr.region ?_
  refine Rg.q (v := .int .i64 (0)) (Pu.qo (p_assign rfl)) (by decide) ?_
  refine Rg.nl ?_
  refine nT (?_)
  refine Tr.seq ?_
  refine Tr.seq ?_
  refine Tr.region ?_
  refine Rg.q (v := .int .i64 (0)) (Pu.qo (p_assign rfl)) (by decide) ?_
  refine Rg.nl ?_
  refine nT (?_)
  obtain ⟨x1, hx2, H⟩ := bd.of H
  obtain ⟨n3, hx2⟩ := lp.of hx2
  refine tMidNC (ι := Unit) (fun ψ => [(1, .int .i64 (x1.1))]) (fun ψ => [tree (.slice x_v0.1 v0.length x_v0.2) x1.2]) ?_ ?_
  · refine Tr.block ?_
    refine tLoopC (ι := { q : Nat × ((List Row) × Int × Int) × Unit // itr (p_laws_markRowS_b0 v0) q.1 q.2.1 = some x1 }) (fun ζ => [(0, .slice x_v0.1 v0.length x_v0.2), (1, .int .i64 (ζ.1.2.1.2.1)), (5, .int .i64 (ζ.1.2.1.2.2))]) (fun ζ => [tree (.slice x_v0.1 v0.length x_v0.2) ζ.1.2.1.1]) (fun ζ => ζ.1.1) ⟨(n3, (v0, v1, 0), ()), hx2⟩ ⟨rfl, rfl, rfl, trivial⟩ (.cons Del.here .nil) ?_
    rintro ⟨⟨m4, σ5, z6⟩, hk11⟩
    obtain ⟨m12, t8, e, H1, hi9, hb10⟩ := itr.of (n := m4) (s := σ5) hk11
    subst e; unfold p_laws_markRowS_b0 at H1
    show Tr _ _ _ _ _ [(0, .slice x_v0.1 v0.length x_v0.2), (1, .int .i64 (σ5.2.1)), (5, .int .i64 (σ5.2.2))] _ [tree (.slice x_v0.1 v0.length x_v0.2) σ5.1]
    refine Tr.seq ?_
    refine Tr.seq ?_
    refine Tr.region ?_
    refine Rg.q (v := .int .i64 (σ5.2.2)) (Pu.qo (p_move rfl)) (by decide) ?_
    refine Rg.q (v := .slice x_v0.1 v0.length x_v0.2) (Pu.qo (p_move rfl)) (by decide) ?_
    refine Rg.q (v := .int .i64 ((v0.length : Int))) (Pu.qo (p_len 68 Try.underlying29 rfl)) (by decide) ?_
    refine Rg.q (v := .bool (decide (σ5.2.2 < (v0.length : Int)))) (Pu.qo (p_lss rfl rfl)) (by decide) ?_
    refine Rg.nl ?_
    refine nT (?_)
    refine Tr.cond (b := decide (σ5.2.2 < (v0.length : Int))) rfl (fun h13 => ?_) (fun h13 => ?_)
    · have H1 := cdT h13 H1
      refine tSkip ?_
      refine nT (?_)
      refine Tr.seq ?_
      refine Tr.block ?_
      refine Tr.seq ?_
      obtain ⟨h14, H1⟩ := gd.of H1
      refine Tr.zoom (k := σ5.2.2.toNat) h14.lt (.cons Del.here .nil) fun x15 => ?_
      show Tr _ _ _ _ _ _ _ (hole (.slice x_v0.1 v0.length x_v0.2) σ5.1 σ5.2.2.toNat [.int .i64 ((nth σ5.1 σ5.2.2.toNat).1), .int .i64 ((nth σ5.1 σ5.2.2.toNat).2)] :: _)
      refine Tr.region ?_
      refine Rg.q (v := .slice x_v0.1 v0.length x_v0.2) (Pu.qo (p_move rfl)) (by decide) ?_
      refine Rg.q (v := .int .i64 (σ5.2.2)) (Pu.qo (p_move rfl)) (by decide) ?_
      refine Rg.q (v := .int .i64 (σ5.2.1)) (Pu.qo (p_move rfl)) (by decide) ?_
      refine Rg.q (v := elp x_v0.1 (σ5.2.2.toNat * Enc.sz Row + 0)) (q_ixH (k := σ5.2.2.toNat) Try.underlying29 ty68 rfl rfl h14 rfl Has.here) (by decide) ?_
      refine Rg.q (v := elp x_v0.1 (σ5.2.2.toNat * Enc.sz Row + 0)) (q_faH (j := 0) (i := σ5.2.2.toNat) fa68_0 rfl Has.here rfl) (by decide) ?_
      refine Rg.en (e_stH (v := .int .i64 (σ5.2.1)) (i := σ5.2.2.toNat) (j := 0) (cs' := [.int .i64 (σ5.2.1), .int .i64 ((nth σ5.1 σ5.2.2.toNat).2)]) ty3 rfl rfl (.cons Del.here .nil) rfl (by simp [Value.cells, Value.oneCell']) (Nat.le_of_ble_eq_true rfl) rfl rfl) rfl ?_
      rintro _ _ _ ⟨rfl, rfl, rfl⟩
      refine Rg.nl ?_
      refine nT (?_)
      refine Tr.seq ?_
      refine Tr.region ?_
      refine Rg.q (v := .int .i64 (σ5.2.1)) (Pu.qo (p_move rfl)) (by decide) ?_
      obtain ⟨h16, H1⟩ := gd.of H1
      refine Rg.q (v := .int .i64 (σ5.2.1 + 1)) (Pu.qo (p_add rfl rfl h16)) (by decide) ?_
      refine Rg.q (v := .int .i64 (σ5.2.1 + 1)) (Pu.qo (p_assign rfl)) (by decide) ?_
      refine Rg.nl ?_
      refine nT (?_)
      refine Tr.seq ?_
      refine Tr.region ?_
      refine Rg.q (v := .slice x_v0.1 v0.length x_v0.2) (Pu.qo (p_move rfl)) (by decide) ?_
      refine Rg.q (v := .int .i64 (σ5.2.2)) (Pu.qo (p_move rfl)) (by decide) ?_
      refine Rg.q (v := .int .i64 (σ5.2.1 + 1)) (Pu.qo (p_move rfl)) (by decide) ?_
      refine Rg.q (v := elp x_v0.1 (σ5.2.2.toNat * Enc.sz Row + 0)) (q_ixH (k := σ5.2.2.toNat) Try.underlying29 ty68 rfl rfl h14 rfl Has.here) (by decide) ?_
      refine Rg.q (v := elp x_v0.1 (σ5.2.2.toNat * Enc.sz Row + 1)) (q_faH (j := 0) (i := σ5.2.2.toNat) fa68_1 rfl Has.here rfl) (by decide) ?_
      refine Rg.en (e_stH (v := .int .i64 (σ5.2.1 + 1)) (i := σ5.2.2.toNat) (j := 1) (cs' := [.int .i64 (σ5.2.1), .int .i64 (σ5.2.1 + 1)]) ty3 rfl rfl (.cons Del.here .nil) rfl (by simp [Value.cells, Value.oneCell']) (Nat.le_of_ble_eq_true rfl) rfl rfl) rfl ?_
      rintro _ _ _ ⟨rfl, rfl, rfl⟩
      refine Rg.nl ?_
      refine nT (?_)
      refine Tr.region ?_
      refine Rg.q (v := .int .i64 (σ5.2.1 + 1)) (Pu.qo (p_move rfl)) (by decide) ?_
      obtain ⟨h17, H1⟩ := gd.of H1
      refine Rg.q (v := .int .i64 ((σ5.2.1 + 1) + 1)) (Pu.qo (p_add rfl rfl h17)) (by decide) ?_
      refine Rg.q (v := .int .i64 ((σ5.2.1 + 1) + 1)) (Pu.qo (p_assign rfl)) (by decide) ?_
      refine Rg.nl ?_
      refine nB (nT (?_))
      refine Tr.region ?_
      refine Rg.q (v := .int .i64 (σ5.2.2)) (Pu.qo (p_move rfl)) (by decide) ?_
      obtain ⟨h18, H1⟩ := gd.of H1
      refine Rg.q (v := .int .i64 (σ5.2.2 + 1)) (Pu.qo (p_add rfl rfl h18)) (by decide) ?_
      refine Rg.q (v := .int .i64 (σ5.2.2 + 1)) (Pu.qo (p_assign rfl)) (by decide) ?_
      refine Rg.nl ?_
      refine At.unzoom (σ5.2.1, (σ5.2.1 + 1)) ((), ()) rfl (.cons Del.here .nil) ?_
      exact nLC ⟨(m12, ((σ5.1.set σ5.2.2.toNat (σ5.2.1, (σ5.2.1 + 1))), (σ5.2.1 + 1) + 1, σ5.2.2 + 1), ()), hi9 _ (Option.some.inj H1).symm⟩ (Nat.lt_succ_self _) ⟨rfl, rfl, rfl, trivial⟩ Ents.refl (.cons Del.here .nil)
    · have H1 := cdF h13 H1
      refine tExit (xT (xT (xE (?_))))
      have hx := hb10 _ (Option.some.inj H1).symm; subst hx
      exact nMC () ⟨rfl, trivial⟩ Ents.refl (.cons Del.here .nil)
  · intro y7
    show At _ _ [(1, .int .i64 (x1.1))] _ [tree (.slice x_v0.1 v0.length x_v0.2) x1.2] _
    refine nT (?_)
    refine Tr.seq ?_
    refine Tr.region ?_
    refine Rg.q (v := .int .i64 (x1.1)) (Pu.qo (p_move rfl)) (by decide) ?_
    refine Rg.q (v := .int .i64 (x1.1)) (Pu.qo (p_assign rfl)) (by decide) ?_
    refine Rg.nl ?_
    refine nT (?_)
    refine tRet ?_
    have hr := Option.some.inj H; subst hr
    exact back1 () rfl (ResV.tmp (v := .int .i64 (x1.1)) rfl) rfl Ents.nil (.cons Del.here .nil)

end Go.Proofs.Ytfcdncblogldnaa
