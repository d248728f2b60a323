/- The walks and the plain laws, part 5: each function that the law reaches computes what its plain function tells, and what the plain functions answer. Conditions: lengths that memory can hold. -/
import Derived.Test.YtichamokohjneaaA4
namespace Go.Proofs.Ytichamokohjneaa
open Go Go.Sx
theorem c_laws_FnExactIndexAdd {r : Bool} (v0 : Index) (x_v0 : (Option Addr × Nat) × (Option Addr × Nat)) (v1 : (List Tag)) (x_v1 : Option Addr × Nat) (H : p_laws_FnExactIndexAdd v0 v1 = some r) : Fn' Try.prog 14 #[.agg #[.slice x_v0.1.1 v0.1.length x_v0.1.2, .slice x_v0.2.1 v0.2.length x_v0.2.2], .slice x_v1.1 v1.length x_v1.2] [imm (.slice x_v0.1.1 v0.1.length x_v0.1.2) v0.1, imm (.slice x_v0.2.1 v0.2.length x_v0.2.2) v0.2, imm (.slice x_v1.1 v1.length x_v1.2) v1] [] (ι := Unit) (fun _ => .bool (r)) (fun _ => []) (fun _ => []) := by
 refine calls_of (args := [_, _]) Try.func14 rfl (by kernel_rfl) Try.ntmps14 (by simp) fun c => ?_
 unfold p_laws_FnExactIndexAdd at H
 refine Tr.openD Ent.z fun X1 => ?_
 refine Tr.openD Ent.z.s.s fun X2 => ?_
 refine Tr.seq (Tr.region ?_)
 refine Rg.ed (e_box (t := 50) (v := .agg #[.slice x_v0.1.1 v0.1.length x_v0.1.2, .slice x_v0.2.1 v0.2.length x_v0.2.2]) rfl) rfl (by decide) ?_
 rintro _ _ _ ⟨g3, rfl, rfl, rfl⟩
 refine Rg.q (v := .bool (false)) (Pu.qo (p_assign rfl)) (by decide) (Rg.nl (nT ?_))
 refine Tr.seq (Tr.region ?_)
 refine Rg.q (v := .int .i64 (1048576)) (Pu.qo (p_assign rfl)) (by decide) (Rg.nl (nT ?_))
 refine Tr.seq (Tr.region ?_)
 refine Rg.q (v := .agg #[.slice x_v0.1.1 v0.1.length x_v0.1.2, .slice x_v0.2.1 v0.2.length x_v0.2.2]) (q_ldbA ty50 rfl Has.here rfl) (by decide) ?_
 refine Rg.q (v := .int .i64 (1048576)) (Pu.qo (p_move rfl)) (by decide) ?_
 obtain ⟨r4, h5, H⟩ := bd.of H
 refine Rg.q (v := .int .i64 (r4)) (q_call (vs := [.agg #[.slice x_v0.1.1 v0.1.length x_v0.1.2, .slice x_v0.2.1 v0.2.length x_v0.2.2], .int .i64 (1048576)]) (c_laws_szIndex v0 x_v0 1048576 h5) rfl (EntsB.cons (Ent.b (Ent.dimm Ent.z.s)) (EntsB.cons (Ent.b (Ent.dimm Ent.z)) EntsB.nil))) (by decide) ?_
 refine Rg.q (v := .int .i64 (r4)) (Pu.qo (p_assign rfl)) (by decide) (Rg.nl (nT ?_))
 refine Tr.seq (Tr.seq (Tr.region ?_))
 refine Rg.q (v := .int .i64 (r4)) (Pu.qo (p_move rfl)) (by decide) ?_
 refine Rg.q (v := .bool (decide (r4 < 0))) (Pu.qo (p_lss rfl rfl)) (by decide) (Rg.nl (nT ?_))
 refine Tr.cond (b := decide (r4 < 0)) rfl (fun h6 => ?_) (fun h6 => ?_)
 ·have H := cdT h6 H
  refine Tr.seq (Tr.region ?_)
  refine Rg.q (v := .bool (true)) (Pu.qo (p_assign rfl)) (by decide) (Rg.nl (nT ?_))
  refine tRet ?_
  refine rT (?_)
  have hr := Option.some.inj H; subst hr
  exact back1 () rfl (ResV.tmp (v := .bool (true)) rfl) rfl Ents.nil Take.nil
 ·have H := cdF h6 H
  refine tSkip ?_
  refine nT (?_)
  refine Tr.seq (Tr.region ?_)
  refine Rg.q (v := .slice x_v1.1 v1.length x_v1.2) (Pu.qo (p_move rfl)) (by decide) ?_
  refine Rg.q (v := .int .i64 (r4)) (Pu.qo (p_move rfl)) (by decide) ?_
  obtain ⟨r7, h8, H⟩ := bd.of H
  refine Rg.q (v := .int .i64 (r7)) (q_call (vs := [.slice x_v1.1 v1.length x_v1.2, .int .i64 (r4)]) (c_laws_szTagS v1 x_v1 r4 h8) rfl (EntsB.cons (Ent.b Ent.z.s.s.s.s) EntsB.nil)) (by decide) ?_
  refine Rg.q (v := .int .i64 (r7)) (Pu.qo (p_assign rfl)) (by decide) (Rg.nl (nT ?_))
  refine Tr.seq (Tr.seq (Tr.region ?_))
  refine Rg.q (v := .int .i64 (r7)) (Pu.qo (p_move rfl)) (by decide) ?_
  refine Rg.q (v := .bool (decide (r7 < 0))) (Pu.qo (p_lss rfl rfl)) (by decide) (Rg.nl (nT ?_))
  refine Tr.cond (b := decide (r7 < 0)) rfl (fun h9 => ?_) (fun h9 => ?_)
  ·have H := cdT h9 H
   refine Tr.seq (Tr.region ?_)
   refine Rg.q (v := .bool (true)) (Pu.qo (p_assign rfl)) (by decide) (Rg.nl (nT ?_))
   refine tRet ?_
   refine rT (?_)
   have hr := Option.some.inj H; subst hr
   exact back1 () rfl (ResV.tmp (v := .bool (true)) rfl) rfl Ents.nil Take.nil
  ·have H := cdF h9 H
   refine tSkip ?_
   refine nT (?_)
   refine Tr.seq (Tr.region ?_)
   refine Rg.q (v := .agg #[.slice x_v0.1.1 v0.1.length x_v0.1.2, .slice x_v0.2.1 v0.2.length x_v0.2.2]) (q_ldbA ty50 rfl Has.here rfl) (by decide) ?_
   obtain ⟨r10, h11, H⟩ := bd.of H
   refine Rg.ed (e_callB (vs := [.agg #[.slice x_v0.1.1 v0.1.length x_v0.1.2, .slice x_v0.2.1 v0.2.length x_v0.2.2]]) (c_laws_toIndex v0 x_v0 h11) (fun _ => (Solo.tree (Solo.tree Solo.nil))) rfl (EntsB.cons (Ent.b (Ent.dimm Ent.z.s)) (EntsB.cons (Ent.b (Ent.dimm Ent.z)) EntsB.nil))) rfl (by decide) ?_
   rintro _ _ _ ⟨x12, rfl, rfl, rfl⟩
   refine Rg.q (v := .slice x_v1.1 v1.length x_v1.2) (Pu.qo (p_move rfl)) (by decide) ?_
   obtain ⟨r13, h14, H⟩ := bd.of H
   refine Rg.ed (e_callB (vs := [.slice x_v1.1 v1.length x_v1.2]) (c_laws_toTagS v1 x_v1 h14) (fun _ => (Solo.tree Solo.nil)) rfl (EntsB.cons (Ent.b Ent.z.s.s.s.s) EntsB.nil)) rfl (by decide) ?_
   rintro _ _ _ ⟨x15, rfl, rfl, rfl⟩
   obtain ⟨r16, h17, H⟩ := bd.of H
   refine Rg.ed (e_callB (vs := [.agg #[.slice x12.1.1 r10.1.length x12.1.2, .slice x12.2.1 r10.2.length x12.2.2], .slice x15.1 r13.length x15.2]) (c_spec_IndexAdd r10 x12 r13 x15 h17) (fun _ => (Solo.tree (Solo.tree Solo.nil))) rfl (EntsB.cons (EntB.tree Has.here.there) (EntsB.cons (EntB.tree Has.here.there.there) (EntsB.cons (EntB.tree Has.here) EntsB.nil)))) rfl (by decide) ?_
   rintro _ _ _ ⟨x18, rfl, rfl, rfl⟩
   refine Rg.q (v := .tuple #[.agg #[.slice x18.1.1.1 r16.1.1.length x18.1.1.2, .slice x18.1.2.1 r16.1.2.length x18.1.2.2], .int .i64 (r16.2.1), .bool (r16.2.2)]) (Pu.qo (p_move rfl)) (by decide) ?_
   refine Rg.q (v := .agg #[.slice x18.1.1.1 r16.1.1.length x18.1.1.2, .slice x18.1.2.1 r16.1.2.length x18.1.2.2]) (Pu.qo (p_extract rfl rfl)) (by decide) ?_
   refine Rg.q (v := .int .i64 (r16.2.1)) (Pu.qo (p_extract rfl rfl)) (by decide) ?_
   refine Rg.q (v := .bool (r16.2.2)) (Pu.qo (p_extract rfl rfl)) (by decide) ?_
   refine Rg.ed (e_alloc ty26) rfl (by decide) ?_
   rintro _ _ _ ⟨g19, rfl, rfl, rfl⟩
   refine Rg.en (e_store (v := .agg #[.slice x18.1.1.1 r16.1.1.length x18.1.1.2, .slice x18.1.2.1 r16.1.2.length x18.1.2.2]) (cs' := [.slice x18.1.1.1 r16.1.1.length x18.1.1.2, .slice x18.1.2.1 r16.1.2.length x18.1.2.2]) ty26 rfl rfl Upd.here rfl (by simp [Value.cells, Value.oneCell']) (Nat.le_of_ble_eq_true rfl) rfl) rfl ?_
   rintro _ _ _ ⟨rfl, rfl, rfl⟩
   refine Rg.q (v := .int .i64 (r16.2.1)) (Pu.qo (p_assign rfl)) (by decide) ?_
   refine Rg.q (v := .bool (r16.2.2)) (Pu.qo (p_assign rfl)) (by decide) (Rg.nl (nT ?_))
   refine Tr.seq (Tr.region ?_)
   refine Rg.q (v := .agg #[.slice x_v0.1.1 v0.1.length x_v0.1.2, .slice x_v0.2.1 v0.2.length x_v0.2.2]) (q_ldbA ty50 rfl Has.here.there.there.there.there.there.there rfl) (by decide) ?_
   refine Rg.ed (e_callB (vs := [.agg #[.slice x_v0.1.1 v0.1.length x_v0.1.2, .slice x_v0.2.1 v0.2.length x_v0.2.2]]) (c_laws_toIndex v0 x_v0 h11) (fun _ => (Solo.tree (Solo.tree Solo.nil))) rfl (EntsB.cons (Ent.b (Ent.dimm Ent.z.s)) (EntsB.cons (Ent.b (Ent.dimm Ent.z)) EntsB.nil))) rfl (by decide) ?_
   rintro _ _ _ ⟨x20, rfl, rfl, rfl⟩
   refine Rg.ed (e_alloc ty26) rfl (by decide) ?_
   rintro _ _ _ ⟨g21, rfl, rfl, rfl⟩
   refine Rg.en (e_store (v := .agg #[.slice x20.1.1 r10.1.length x20.1.2, .slice x20.2.1 r10.2.length x20.2.2]) (cs' := [.slice x20.1.1 r10.1.length x20.1.2, .slice x20.2.1 r10.2.length x20.2.2]) ty26 rfl rfl Upd.here rfl (by simp [Value.cells, Value.oneCell']) (Nat.le_of_ble_eq_true rfl) rfl) rfl ?_
   rintro _ _ _ ⟨rfl, rfl, rfl⟩
   refine Rg.nl (nT ?_)
   refine Tr.seq (Tr.region ?_)
   refine Rg.q (v := .slice x_v1.1 v1.length x_v1.2) (Pu.qo (p_move rfl)) (by decide) ?_
   refine Rg.ed (e_callB (vs := [.slice x_v1.1 v1.length x_v1.2]) (c_laws_toTagS v1 x_v1 h14) (fun _ => (Solo.tree Solo.nil)) rfl (EntsB.cons (Ent.b Ent.z.s.s.s.s) EntsB.nil)) rfl (by decide) ?_
   rintro _ _ _ ⟨x22, rfl, rfl, rfl⟩
   refine Rg.q (v := .slice x22.1 r13.length x22.2) (Pu.qo (p_assign rfl)) (by decide) (Rg.nl (nT ?_))
   refine Tr.seq (Tr.region ?_)
   refine Rg.q (v := .agg #[.slice x20.1.1 r10.1.length x20.1.2, .slice x20.2.1 r10.2.length x20.2.2]) (q_ldbA ty26 rfl Has.here.there rfl) (by decide) ?_
   refine Rg.q (v := .slice x22.1 r13.length x22.2) (Pu.qo (p_move rfl)) (by decide) ?_
   obtain ⟨r23, h24, H⟩ := bd.of H
   refine Rg.ed (e_callB (vs := [.agg #[.slice x20.1.1 r10.1.length x20.1.2, .slice x20.2.1 r10.2.length x20.2.2], .slice x22.1 r13.length x22.2]) (c_impl_IndexAdd r10 x20 r13 x22 h24) (fun _ => (Solo.tree (Solo.tree Solo.nil))) rfl (EntsB.cons (EntB.tree Has.here.there.there) (EntsB.cons (EntB.tree Has.here.there.there.there) (EntsB.cons (EntB.tree Has.here) EntsB.nil)))) rfl (by decide) ?_
   rintro _ _ _ ⟨x25, rfl, rfl, rfl⟩
   refine Rg.q (v := .tuple #[.agg #[.slice x25.1.1.1 r23.1.1.length x25.1.1.2, .slice x25.1.2.1 r23.1.2.length x25.1.2.2], .int .i64 (r23.2.1), .bool (r23.2.2)]) (Pu.qo (p_move rfl)) (by decide) ?_
   refine Rg.q (v := .agg #[.slice x25.1.1.1 r23.1.1.length x25.1.1.2, .slice x25.1.2.1 r23.1.2.length x25.1.2.2]) (Pu.qo (p_extract rfl rfl)) (by decide) ?_
   refine Rg.q (v := .int .i64 (r23.2.1)) (Pu.qo (p_extract rfl rfl)) (by decide) ?_
   refine Rg.q (v := .bool (r23.2.2)) (Pu.qo (p_extract rfl rfl)) (by decide) ?_
   refine Rg.ed (e_alloc ty26) rfl (by decide) ?_
   rintro _ _ _ ⟨g26, rfl, rfl, rfl⟩
   refine Rg.en (e_store (v := .agg #[.slice x25.1.1.1 r23.1.1.length x25.1.1.2, .slice x25.1.2.1 r23.1.2.length x25.1.2.2]) (cs' := [.slice x25.1.1.1 r23.1.1.length x25.1.1.2, .slice x25.1.2.1 r23.1.2.length x25.1.2.2]) ty26 rfl rfl Upd.here rfl (by simp [Value.cells, Value.oneCell']) (Nat.le_of_ble_eq_true rfl) rfl) rfl ?_
   rintro _ _ _ ⟨rfl, rfl, rfl⟩
   refine Rg.q (v := .int .i64 (r23.2.1)) (Pu.qo (p_assign rfl)) (by decide) ?_
   refine Rg.q (v := .bool (r23.2.2)) (Pu.qo (p_assign rfl)) (by decide) (Rg.nl (nT ?_))
   refine Tr.seq ?_
   obtain ⟨b27, j28, H⟩ := bd.of H
   refine tMid1 [(63, .bool (b27)), (13, .bool (r23.2.2)), (12, .int .i64 (r23.2.1)), (11, .pointer (some ⟨g26, 0, none⟩)), (10, .slice x22.1 r13.length x22.2), (9, .pointer (some ⟨g21, 0, none⟩)), (8, .bool (r16.2.2)), (7, .int .i64 (r16.2.1)), (6, .pointer (some ⟨g19, 0, none⟩)), (2, .pointer (some ⟨g3, 0, none⟩)), (1, .slice x_v1.1 v1.length x_v1.2)] ?_ ?_
   ·refine tLinT [(13, .bool (r23.2.2)), (12, .int .i64 (r23.2.1)), (11, .pointer (some ⟨g26, 0, none⟩)), (10, .slice x22.1 r13.length x22.2), (9, .pointer (some ⟨g21, 0, none⟩)), (8, .bool (r16.2.2)), (7, .int .i64 (r16.2.1)), (6, .pointer (some ⟨g19, 0, none⟩)), (2, .pointer (some ⟨g3, 0, none⟩)), (1, .slice x_v1.1 v1.length x_v1.2)] ⟨rfl, rfl, rfl, rfl, rfl, rfl, rfl, rfl, rfl, rfl, trivial⟩ ?_
    refine Lin.q (v := .agg #[.slice x25.1.1.1 r23.1.1.length x25.1.1.2, .slice x25.1.2.1 r23.1.2.length x25.1.2.2]) (by decide) (q_ldbA ty26 rfl Has.here rfl) ?_
    refine Lin.q (v := .agg #[.slice x18.1.1.1 r16.1.1.length x18.1.1.2, .slice x18.1.2.1 r16.1.2.length x18.1.2.2]) (by decide) (q_ldbA ty26 rfl Has.here.there.there.there.there.there.there.there rfl) ?_
    obtain ⟨r29, h30, j28⟩ := bd.of j28
    refine Lin.q (v := .bool (r29)) (by decide) (q_call (vs := [.agg #[.slice x25.1.1.1 r23.1.1.length x25.1.1.2, .slice x25.1.2.1 r23.1.2.length x25.1.2.2], .agg #[.slice x18.1.1.1 r16.1.1.length x18.1.1.2, .slice x18.1.2.1 r16.1.2.length x18.1.2.2]]) (c_laws_eqIndex r23.1 x25.1 r16.1 x18.1 h30) rfl (EntsB.cons (EntB.tree Has.here.there) (EntsB.cons (EntB.tree Has.here.there.there) (EntsB.cons (EntB.tree Has.here.there.there.there.there.there.there.there.there) (EntsB.cons (EntB.tree Has.here.there.there.there.there.there.there.there.there.there) EntsB.nil))))) ?_
    refine Lin.q (v := .bool (!r29)) (by decide) (Pu.qo (p_not rfl)) ?_
    rcases Bool.eq_false_or_eq_true (!r29) with h31 | h31
    ·have j28 := cdT h31 j28
     refine Lin.q (v := .bool (true)) (by decide) (Qo.eqv (v := .bool (!r29)) (Pu.qo (p_move rfl)) (congrArg Value.bool h31)) ?_
     refine Lin.skip (by decide) rfl ?_
     refine Lin.skip (by decide) rfl ?_
     refine Lin.skip (by decide) rfl ?_
     refine Lin.q (v := .bool (true)) (by decide) (Pu.qo (p_pickT rfl rfl)) ?_
     refine Lin.q (v := .bool (true)) (by decide) (Pu.qo (p_move rfl)) ?_
     refine Lin.skip (by decide) rfl ?_
     refine Lin.skip (by decide) rfl ?_
     refine Lin.skip (by decide) rfl ?_
     refine Lin.q (v := .bool (true)) (by decide) (Pu.qo (p_pickT rfl rfl)) ?_
     have j28 := Option.some.inj j28; subst j28
     show At _ _ _ _ _ _
     exact n1 ⟨rfl, rfl, rfl, rfl, rfl, rfl, rfl, rfl, rfl, rfl, rfl, trivial⟩
    ·have j28 := cdF h31 j28
     refine Lin.q (v := .bool (false)) (by decide) (Qo.eqv (v := .bool (!r29)) (Pu.qo (p_move rfl)) (congrArg Value.bool h31)) ?_
     refine Lin.g (v := .int .i64 (r23.2.1)) (by decide) rfl (Pu.qo (p_move rfl)) ?_
     refine Lin.g (v := .int .i64 (r16.2.1)) (by decide) rfl (Pu.qo (p_move rfl)) ?_
     refine Lin.g (v := .bool (!decide (r23.2.1 = r16.2.1))) (by decide) rfl (Pu.qo (p_neq rfl rfl)) ?_
     refine Lin.q (v := .bool (!decide (r23.2.1 = r16.2.1))) (by decide) (Pu.qo (p_pickF rfl rfl)) ?_
     rcases Bool.eq_false_or_eq_true (!decide (r23.2.1 = r16.2.1)) with h32 | h32
     ·have j28 := cdT h32 j28
      refine Lin.q (v := .bool (true)) (by decide) (Qo.eqv (v := .bool (!decide (r23.2.1 = r16.2.1))) (Pu.qo (p_move rfl)) (congrArg Value.bool h32)) ?_
      refine Lin.skip (by decide) rfl ?_
      refine Lin.skip (by decide) rfl ?_
      refine Lin.skip (by decide) rfl ?_
      refine Lin.q (v := .bool (true)) (by decide) (Pu.qo (p_pickT rfl rfl)) ?_
      have j28 := Option.some.inj j28; subst j28
      show At _ _ _ _ _ _
      exact n1 ⟨rfl, rfl, rfl, rfl, rfl, rfl, rfl, rfl, rfl, rfl, rfl, trivial⟩
     ·have j28 := cdF h32 j28
      refine Lin.q (v := .bool (false)) (by decide) (Qo.eqv (v := .bool (!decide (r23.2.1 = r16.2.1))) (Pu.qo (p_move rfl)) (congrArg Value.bool h32)) ?_
      refine Lin.g (v := .bool (r23.2.2)) (by decide) rfl (Pu.qo (p_move rfl)) ?_
      refine Lin.g (v := .bool (r16.2.2)) (by decide) rfl (Pu.qo (p_move rfl)) ?_
      refine Lin.g (v := .bool (!decide (r23.2.2 = r16.2.2))) (by decide) rfl (Pu.qo (p_bneq Try.underlying4 rfl rfl)) ?_
      refine Lin.q (v := .bool (!decide (r23.2.2 = r16.2.2))) (by decide) (Pu.qo (p_pickF rfl rfl)) ?_
      have j28 := Option.some.inj j28; subst j28
      show At _ _ _ _ _ _
      exact n1 ⟨rfl, rfl, rfl, rfl, rfl, rfl, rfl, rfl, rfl, rfl, rfl, trivial⟩
   refine Tr.cond (b := b27) rfl (fun h33 => ?_) (fun h33 => ?_)
   ·have H := cdT h33 H
    refine Tr.seq (Tr.region ?_)
    refine Rg.q (v := .bool (false)) (Pu.qo (p_assign rfl)) (by decide) (Rg.nl (nT ?_))
    refine tRet ?_
    refine rT (?_)
    have hr := Option.some.inj H; subst hr
    exact back1 () rfl (ResV.tmp (v := .bool (false)) rfl) rfl Ents.nil Take.nil
   ·have H := cdF h33 H
    refine tSkip ?_
    refine nT (Tr.seq ?_)
    refine Tr.seq ?_
    refine tNwS [(13, .bool (r23.2.2)), (12, .int .i64 (r23.2.1)), (11, .pointer (some ⟨g26, 0, none⟩)), (10, .slice x22.1 r13.length x22.2), (9, .pointer (some ⟨g21, 0, none⟩)), (8, .bool (r16.2.2)), (7, .int .i64 (r16.2.1)), (6, .pointer (some ⟨g19, 0, none⟩)), (2, .pointer (some ⟨g3, 0, none⟩)), (1, .slice x_v1.1 v1.length x_v1.2)] 2 [0, 1, 2, 3, 4] [2] [] Try.mixed (by kernel_rfl) (by decide) List.nodup_nil ⟨rfl, rfl, rfl, rfl, rfl, rfl, rfl, rfl, rfl, rfl, trivial⟩ rfl okNil ?_
    refine w_q (v := .agg #[.slice x20.1.1 r10.1.length x20.1.2, .slice x20.2.1 r10.2.length x20.2.2]) rfl (by decide) rfl rfl rfl (fun F => (q_ldbA ty26 rfl (Has.here.there.there.there.there.app F) rfl)) ?_
    refine w_q (v := .agg #[.slice x_v0.1.1 v0.1.length x_v0.1.2, .slice x_v0.2.1 v0.2.length x_v0.2.2]) rfl (by decide) rfl rfl rfl (fun F => (q_ldbA ty50 rfl (Has.here.there.there.there.there.there.there.there.there.there.there.there.there.there.app F) rfl)) ?_
    refine w_ed rfl (by decide) rfl Rdy.nil rfl (n_callB (vs := [.agg #[.slice x_v0.1.1 v0.1.length x_v0.1.2, .slice x_v0.2.1 v0.2.length x_v0.2.2]]) (c_laws_toIndex v0 x_v0 h11) (fun _ => (Solo.tree (Solo.tree Solo.nil))) rfl (EntsB.cons (Ent.b (Ent.dimm Ent.z.s)) (EntsB.cons (Ent.b (Ent.dimm Ent.z)) EntsB.nil))) ?_
    rintro _ _ _ ⟨x34, rfl, rfl, rfl⟩
    refine ⟨(PdOk.anc (by kernel_rfl) (PdOk.q rfl rfl (fun F => (q_ldbA ty26 rfl (Has.here.there.there.there.there.there.there.app F) rfl)) PdOk.nil)), ?_⟩
    obtain ⟨r35, h36, H⟩ := bd.of H
    refine w_q (v := .bool (r35)) rfl (by decide) rfl rfl rfl (fun F => (q_call (vs := [.agg #[.slice x20.1.1 r10.1.length x20.1.2, .slice x20.2.1 r10.2.length x20.2.2], .agg #[.slice x34.1.1 r10.1.length x34.1.2, .slice x34.2.1 r10.2.length x34.2.2]]) (c_laws_eqIndex r10 x20 r10 x34 h36) rfl (EntsB.cons (EntB.tree (Has.here.there.there.there.there.there.there.there.app F)) (EntsB.cons (EntB.tree (Has.here.there.there.there.there.there.there.there.there.app F)) (EntsB.cons (EntB.tree (Has.here.app F)) (EntsB.cons (EntB.tree (Has.here.there.app F)) EntsB.nil)))))) ?_
    refine w_pu (v := .bool (!r35)) rfl (by decide) rfl rfl rfl (p_not rfl) ?_
    refine w_nil ?_
    show At _ _ _ _ _ _
    refine nT (?_)
    refine Tr.cond (b := !r35) rfl (fun h37 => ?_) (fun h37 => ?_)
    ·have H := cdT h37 H
     refine Tr.seq (Tr.region ?_)
     refine Rg.q (v := .bool (false)) (Pu.qo (p_assign rfl)) (by decide) (Rg.nl (nT ?_))
     refine tRet ?_
     refine rT (?_)
     have hr := Option.some.inj H; subst hr
     exact back1 () rfl (ResV.tmp (v := .bool (false)) rfl) rfl Ents.nil Take.nil
    ·have H := cdF h37 H
     refine tSkip ?_
     refine nT (?_)
     refine Tr.seq (Tr.seq (Tr.region ?_))
     refine Rg.q (v := .slice x22.1 r13.length x22.2) (Pu.qo (p_move rfl)) (by decide) ?_
     refine Rg.q (v := .slice x_v1.1 v1.length x_v1.2) (Pu.qo (p_move rfl)) (by decide) ?_
     refine Rg.ed (e_callB (vs := [.slice x_v1.1 v1.length x_v1.2]) (c_laws_toTagS v1 x_v1 h14) (fun _ => (Solo.tree Solo.nil)) rfl (EntsB.cons (Ent.b Ent.z.s.s.s.s) EntsB.nil)) rfl (by decide) ?_
     rintro _ _ _ ⟨x38, rfl, rfl, rfl⟩
     obtain ⟨r39, h40, H⟩ := bd.of H
     refine Rg.q (v := .bool (r39)) (q_call (vs := [.slice x22.1 r13.length x22.2, .slice x38.1 r13.length x38.2]) (c_laws_eqTagS r13 x22 r13 x38 h40) rfl (EntsB.cons (EntB.tree Has.here.there.there.there.there.there.there) (EntsB.cons (EntB.tree Has.here) EntsB.nil))) (by decide) ?_
     refine Rg.q (v := .bool (!r39)) (Pu.qo (p_not rfl)) (by decide) (Rg.nl (nT ?_))
     refine Tr.cond (b := !r39) rfl (fun h41 => ?_) (fun h41 => ?_)
     ·have H := cdT h41 H
      refine Tr.seq (Tr.region ?_)
      refine Rg.q (v := .bool (false)) (Pu.qo (p_assign rfl)) (by decide) (Rg.nl (nT ?_))
      refine tRet ?_
      refine rT (?_)
      have hr := Option.some.inj H; subst hr
      exact back1 () rfl (ResV.tmp (v := .bool (false)) rfl) rfl Ents.nil Take.nil
     ·have H := cdF h41 H
      refine tSkip ?_
      refine nT (?_)
      refine Tr.seq (Tr.region ?_)
      refine Rg.q (v := .int .i64 (1)) (Pu.qo (p_assign rfl)) (by decide) (Rg.nl (nT ?_))
      refine Tr.seq (Tr.region ?_)
      refine Rg.q (v := .agg #[.slice x20.1.1 r10.1.length x20.1.2, .slice x20.2.1 r10.2.length x20.2.2]) (q_ldbA ty26 rfl Has.here.there.there.there.there.there.there.there rfl) (by decide) ?_
      refine Rg.q (v := .int .i64 (1)) (Pu.qo (p_move rfl)) (by decide) ?_
      obtain ⟨r42, h43, H⟩ := bd.of H
      refine Rg.ed (e_callM (vs := [.agg #[.slice x20.1.1 r10.1.length x20.1.2, .slice x20.2.1 r10.2.length x20.2.2], .int .i64 (1)]) (c_laws_markIndex r10 x20 1 h43) (Solo.tree (Solo.tree Solo.nil)) (fun _ => (Solo.tree (Solo.tree Solo.nil))) rfl (.cons Del.here.there.there.there.there.there.there.there.there (.cons Del.here.there.there.there.there.there.there.there.there .nil)) EntsB.nil) rfl (by decide) ?_
      rintro _ _ _ ⟨u44, rfl, rfl, rfl⟩
      refine Rg.q (v := .int .i64 (r42.1)) (Pu.qo (p_assign rfl)) (by decide) (Rg.nl (nT ?_))
      refine Tr.seq ?_
      refine Tr.olen Has.here fun hn => ?_; rw [hn]
      refine Tr.olen Has.here.there fun hn => ?_; rw [hn]
      refine Tr.olen Has.here.there.there.there fun hn => ?_; rw [hn]
      refine Tr.olen Has.here.there.there.there.there fun hn => ?_; rw [hn]
      refine Tr.region ?_
      refine Rg.q (v := .slice x22.1 r13.length x22.2) (Pu.qo (p_move rfl)) (by decide) ?_
      refine Rg.q (v := .int .i64 (r42.1)) (Pu.qo (p_move rfl)) (by decide) ?_
      obtain ⟨r45, h46, H⟩ := bd.of H
      refine Rg.ed (e_callM (vs := [.slice x22.1 r13.length x22.2, .int .i64 (r42.1)]) (c_laws_markTagS r13 x22 r13.length rfl r42.1 h46) (Solo.tree Solo.nil) (fun _ => (Solo.tree Solo.nil)) rfl (.cons Del.here.there.there.there.there.there.there.there.there .nil) EntsB.nil) rfl (by decide) ?_
      rintro _ _ _ ⟨u47, rfl, rfl, rfl⟩
      refine Rg.q (v := .int .i64 (r45.1)) (Pu.qo (p_assign rfl)) (by decide) (Rg.nl (nT ?_))
      refine Tr.seq ?_
      refine Tr.olen Has.here fun hn => ?_; rw [hn]
      refine Tr.olen Has.here.there fun hn => ?_; rw [hn]
      refine Tr.olen Has.here.there.there fun hn => ?_; rw [hn]
      refine Tr.olen Has.here.there.there.there fun hn => ?_; rw [hn]
      refine Tr.olen Has.here.there.there.there.there fun hn => ?_; rw [hn]
      refine Tr.olen Has.here.there.there.there.there.there fun hn => ?_; rw [hn]
      obtain ⟨b48, j49, H⟩ := bd.of H
      refine tMid1 [(97, .bool (b48)), (11, .pointer (some ⟨g26, 0, none⟩)), (8, .bool (r16.2.2)), (7, .int .i64 (r16.2.1)), (6, .pointer (some ⟨g19, 0, none⟩)), (2, .pointer (some ⟨g3, 0, none⟩)), (1, .slice x_v1.1 v1.length x_v1.2)] ?_ ?_
      ·refine tLinT [(14, .int .i64 (r45.1)), (13, .bool (r23.2.2)), (12, .int .i64 (r23.2.1)), (11, .pointer (some ⟨g26, 0, none⟩)), (8, .bool (r16.2.2)), (7, .int .i64 (r16.2.1)), (6, .pointer (some ⟨g19, 0, none⟩)), (2, .pointer (some ⟨g3, 0, none⟩)), (1, .slice x_v1.1 v1.length x_v1.2)] ⟨rfl, rfl, rfl, rfl, rfl, rfl, rfl, rfl, rfl, trivial⟩ ?_
       refine Lin.q (v := .int .i64 (r45.1)) (by decide) (Pu.qo (p_move rfl)) ?_
       refine Lin.q (v := .bool (decide (r45.1 < 0))) (by decide) (Pu.qo (p_lss rfl rfl)) ?_
       rcases Bool.eq_false_or_eq_true (decide (r45.1 < 0)) with h50 | h50
       ·have j49 := cdT h50 j49
        refine Lin.q (v := .bool (true)) (by decide) (Qo.eqv (v := .bool (decide (r45.1 < 0))) (Pu.qo (p_move rfl)) (congrArg Value.bool h50)) ?_
        refine Lin.skip (by decide) rfl ?_
        refine Lin.skip (by decide) rfl ?_
        refine Lin.skip (by decide) rfl ?_
        refine Lin.skip (by decide) rfl ?_
        refine Lin.q (v := .bool (true)) (by decide) (Pu.qo (p_pickT rfl rfl)) ?_
        refine Lin.q (v := .bool (true)) (by decide) (Pu.qo (p_move rfl)) ?_
        refine Lin.skip (by decide) rfl ?_
        refine Lin.skip (by decide) rfl ?_
        refine Lin.skip (by decide) rfl ?_
        refine Lin.q (v := .bool (true)) (by decide) (Pu.qo (p_pickT rfl rfl)) ?_
        refine Lin.q (v := .bool (true)) (by decide) (Pu.qo (p_move rfl)) ?_
        refine Lin.skip (by decide) rfl ?_
        refine Lin.skip (by decide) rfl ?_
        refine Lin.skip (by decide) rfl ?_
        refine Lin.q (v := .bool (true)) (by decide) (Pu.qo (p_pickT rfl rfl)) ?_
        have j49 := Option.some.inj j49; subst j49
        show At _ _ _ _ _ _
        exact n1 ⟨rfl, rfl, rfl, rfl, rfl, rfl, rfl, trivial⟩
       ·have j49 := cdF h50 j49
        refine Lin.q (v := .bool (false)) (by decide) (Qo.eqv (v := .bool (decide (r45.1 < 0))) (Pu.qo (p_move rfl)) (congrArg Value.bool h50)) ?_
        refine Lin.g (v := .agg #[.slice x25.1.1.1 r23.1.1.length x25.1.1.2, .slice x25.1.2.1 r23.1.2.length x25.1.2.2]) (by decide) rfl (q_ldbA ty26 rfl Has.here.there.there.there.there.there.there rfl) ?_
        refine Lin.g (v := .agg #[.slice x18.1.1.1 r16.1.1.length x18.1.1.2, .slice x18.1.2.1 r16.1.2.length x18.1.2.2]) (by decide) rfl (q_ldbA ty26 rfl Has.here.there.there.there.there.there.there.there.there.there.there rfl) ?_
        obtain ⟨r51, h52, j49⟩ := bd.of j49
        refine Lin.g (v := .bool (r51)) (by decide) rfl (q_call (vs := [.agg #[.slice x25.1.1.1 r23.1.1.length x25.1.1.2, .slice x25.1.2.1 r23.1.2.length x25.1.2.2], .agg #[.slice x18.1.1.1 r16.1.1.length x18.1.1.2, .slice x18.1.2.1 r16.1.2.length x18.1.2.2]]) (c_laws_eqIndex r23.1 x25.1 r16.1 x18.1 h52) rfl (EntsB.cons (EntB.tree Has.here.there.there.there.there.there.there.there) (EntsB.cons (EntB.tree Has.here.there.there.there.there.there.there.there.there) (EntsB.cons (EntB.tree Has.here.there.there.there.there.there.there.there.there.there.there.there) (EntsB.cons (EntB.tree Has.here.there.there.there.there.there.there.there.there.there.there.there.there) EntsB.nil))))) ?_
        refine Lin.g (v := .bool (!r51)) (by decide) rfl (Pu.qo (p_not rfl)) ?_
        refine Lin.q (v := .bool (!r51)) (by decide) (Pu.qo (p_pickF rfl rfl)) ?_
        rcases Bool.eq_false_or_eq_true (!r51) with h53 | h53
        ·have j49 := cdT h53 j49
         refine Lin.q (v := .bool (true)) (by decide) (Qo.eqv (v := .bool (!r51)) (Pu.qo (p_move rfl)) (congrArg Value.bool h53)) ?_
         refine Lin.skip (by decide) rfl ?_
         refine Lin.skip (by decide) rfl ?_
         refine Lin.skip (by decide) rfl ?_
         refine Lin.q (v := .bool (true)) (by decide) (Pu.qo (p_pickT rfl rfl)) ?_
         refine Lin.q (v := .bool (true)) (by decide) (Pu.qo (p_move rfl)) ?_
         refine Lin.skip (by decide) rfl ?_
         refine Lin.skip (by decide) rfl ?_
         refine Lin.skip (by decide) rfl ?_
         refine Lin.q (v := .bool (true)) (by decide) (Pu.qo (p_pickT rfl rfl)) ?_
         have j49 := Option.some.inj j49; subst j49
         show At _ _ _ _ _ _
         exact n1 ⟨rfl, rfl, rfl, rfl, rfl, rfl, rfl, trivial⟩
        ·have j49 := cdF h53 j49
         refine Lin.q (v := .bool (false)) (by decide) (Qo.eqv (v := .bool (!r51)) (Pu.qo (p_move rfl)) (congrArg Value.bool h53)) ?_
         refine Lin.g (v := .int .i64 (r23.2.1)) (by decide) rfl (Pu.qo (p_move rfl)) ?_
         refine Lin.g (v := .int .i64 (r16.2.1)) (by decide) rfl (Pu.qo (p_move rfl)) ?_
         refine Lin.g (v := .bool (!decide (r23.2.1 = r16.2.1))) (by decide) rfl (Pu.qo (p_neq rfl rfl)) ?_
         refine Lin.q (v := .bool (!decide (r23.2.1 = r16.2.1))) (by decide) (Pu.qo (p_pickF rfl rfl)) ?_
         rcases Bool.eq_false_or_eq_true (!decide (r23.2.1 = r16.2.1)) with h54 | h54
         ·have j49 := cdT h54 j49
          refine Lin.q (v := .bool (true)) (by decide) (Qo.eqv (v := .bool (!decide (r23.2.1 = r16.2.1))) (Pu.qo (p_move rfl)) (congrArg Value.bool h54)) ?_
          refine Lin.skip (by decide) rfl ?_
          refine Lin.skip (by decide) rfl ?_
          refine Lin.skip (by decide) rfl ?_
          refine Lin.q (v := .bool (true)) (by decide) (Pu.qo (p_pickT rfl rfl)) ?_
          have j49 := Option.some.inj j49; subst j49
          show At _ _ _ _ _ _
          exact n1 ⟨rfl, rfl, rfl, rfl, rfl, rfl, rfl, trivial⟩
         ·have j49 := cdF h54 j49
          refine Lin.q (v := .bool (false)) (by decide) (Qo.eqv (v := .bool (!decide (r23.2.1 = r16.2.1))) (Pu.qo (p_move rfl)) (congrArg Value.bool h54)) ?_
          refine Lin.g (v := .bool (r23.2.2)) (by decide) rfl (Pu.qo (p_move rfl)) ?_
          refine Lin.g (v := .bool (r16.2.2)) (by decide) rfl (Pu.qo (p_move rfl)) ?_
          refine Lin.g (v := .bool (!decide (r23.2.2 = r16.2.2))) (by decide) rfl (Pu.qo (p_bneq Try.underlying4 rfl rfl)) ?_
          refine Lin.q (v := .bool (!decide (r23.2.2 = r16.2.2))) (by decide) (Pu.qo (p_pickF rfl rfl)) ?_
          have j49 := Option.some.inj j49; subst j49
          show At _ _ _ _ _ _
          exact n1 ⟨rfl, rfl, rfl, rfl, rfl, rfl, rfl, trivial⟩
      refine Tr.cond (b := b48) rfl (fun h55 => ?_) (fun h55 => ?_)
      ·have H := cdT h55 H
       refine Tr.seq ?_
       refine Tr.olen Has.here fun hn => ?_; rw [hn]
       refine Tr.olen Has.here.there fun hn => ?_; rw [hn]
       refine Tr.olen Has.here.there.there fun hn => ?_; rw [hn]
       refine Tr.olen Has.here.there.there.there fun hn => ?_; rw [hn]
       refine Tr.olen Has.here.there.there.there.there fun hn => ?_; rw [hn]
       refine Tr.olen Has.here.there.there.there.there.there fun hn => ?_; rw [hn]
       refine Tr.region ?_
       refine Rg.q (v := .bool (false)) (Pu.qo (p_assign rfl)) (by decide) (Rg.nl (nT ?_))
       refine Tr.olen Has.here fun hn => ?_; rw [hn]
       refine Tr.olen Has.here.there fun hn => ?_; rw [hn]
       refine Tr.olen Has.here.there.there fun hn => ?_; rw [hn]
       refine Tr.olen Has.here.there.there.there fun hn => ?_; rw [hn]
       refine Tr.olen Has.here.there.there.there.there fun hn => ?_; rw [hn]
       refine Tr.olen Has.here.there.there.there.there.there fun hn => ?_; rw [hn]
       refine tRet ?_
       refine rT (?_)
       refine At.olen Has.here fun hn => ?_; rw [hn]
       refine At.olen Has.here.there fun hn => ?_; rw [hn]
       refine At.olen Has.here.there.there fun hn => ?_; rw [hn]
       refine At.olen Has.here.there.there.there fun hn => ?_; rw [hn]
       refine At.olen Has.here.there.there.there.there fun hn => ?_; rw [hn]
       refine At.olen Has.here.there.there.there.there.there fun hn => ?_; rw [hn]
       have hr := Option.some.inj H; subst hr
       exact back1 () rfl (ResV.tmp (v := .bool (false)) rfl) rfl Ents.nil Take.nil
      ·have H := cdF h55 H
       refine tSkip ?_
       refine nT (Tr.seq ?_)
       refine Tr.olen Has.here fun hn => ?_; rw [hn]
       refine Tr.olen Has.here.there fun hn => ?_; rw [hn]
       refine Tr.olen Has.here.there.there fun hn => ?_; rw [hn]
       refine Tr.olen Has.here.there.there.there fun hn => ?_; rw [hn]
       refine Tr.olen Has.here.there.there.there.there fun hn => ?_; rw [hn]
       refine Tr.olen Has.here.there.there.there.there.there fun hn => ?_; rw [hn]
       refine Tr.region ?_
       refine Rg.q (v := .int .i64 (1)) (Pu.qo (p_assign rfl)) (by decide) (Rg.nl (nT ?_))
       refine Tr.seq ?_
       refine Tr.olen Has.here fun hn => ?_; rw [hn]
       refine Tr.olen Has.here.there fun hn => ?_; rw [hn]
       refine Tr.olen Has.here.there.there fun hn => ?_; rw [hn]
       refine Tr.olen Has.here.there.there.there fun hn => ?_; rw [hn]
       refine Tr.olen Has.here.there.there.there.there fun hn => ?_; rw [hn]
       refine Tr.olen Has.here.there.there.there.there.there fun hn => ?_; rw [hn]
       refine Tr.region ?_
       refine Rg.q (v := .agg #[.slice x25.1.1.1 r23.1.1.length x25.1.1.2, .slice x25.1.2.1 r23.1.2.length x25.1.2.2]) (q_ldbA ty26 rfl Has.here.there.there.there.there.there.there rfl) (by decide) ?_
       refine Rg.q (v := .int .i64 (1)) (Pu.qo (p_move rfl)) (by decide) ?_
       obtain ⟨r56, h57, H⟩ := bd.of H
       refine Rg.ed (e_callM (vs := [.agg #[.slice x25.1.1.1 r23.1.1.length x25.1.1.2, .slice x25.1.2.1 r23.1.2.length x25.1.2.2], .int .i64 (1)]) (c_laws_markIndex r23.1 x25.1 1 h57) (Solo.tree (Solo.tree Solo.nil)) (fun _ => (Solo.tree (Solo.tree Solo.nil))) rfl (.cons Del.here.there.there.there.there.there.there.there (.cons Del.here.there.there.there.there.there.there.there .nil)) EntsB.nil) rfl (by decide) ?_
       rintro _ _ _ ⟨u58, rfl, rfl, rfl⟩
       refine Rg.q (v := .int .i64 (r56.1)) (Pu.qo (p_assign rfl)) (by decide) (Rg.nl (nT ?_))
       refine Tr.seq ?_
       refine Tr.olen Has.here fun hn => ?_; rw [hn]
       refine Tr.olen Has.here.there fun hn => ?_; rw [hn]
       refine Tr.olen Has.here.there.there fun hn => ?_; rw [hn]
       refine Tr.olen Has.here.there.there.there fun hn => ?_; rw [hn]
       refine Tr.olen Has.here.there.there.there.there fun hn => ?_; rw [hn]
       refine Tr.olen Has.here.there.there.there.there.there fun hn => ?_; rw [hn]
       refine Tr.olen Has.here.there.there.there.there.there.there fun hn => ?_; rw [hn]
       refine Tr.olen Has.here.there.there.there.there.there.there.there fun hn => ?_; rw [hn]
       refine Tr.region ?_
       refine Rg.q (v := .int .i64 (1)) (Pu.qo (p_assign rfl)) (by decide) (Rg.nl (nT ?_))
       refine Tr.seq ?_
       refine Tr.olen Has.here.there.there fun hn => ?_; rw [hn]
       refine Tr.olen Has.here.there.there.there fun hn => ?_; rw [hn]
       refine Tr.olen Has.here.there.there.there.there fun hn => ?_; rw [hn]
       refine Tr.olen Has.here.there.there.there.there.there fun hn => ?_; rw [hn]
       refine Tr.olen Has.here.there.there.there.there.there.there fun hn => ?_; rw [hn]
       refine Tr.olen Has.here.there.there.there.there.there.there.there fun hn => ?_; rw [hn]
       refine Tr.region ?_
       refine Rg.q (v := .agg #[.slice x25.1.1.1 r56.2.1.length x25.1.1.2, .slice x25.1.2.1 r56.2.2.length x25.1.2.2]) (q_ldbA ty26 rfl Has.here.there.there.there.there.there.there.there.there rfl) (by decide) ?_
       refine Rg.q (v := .int .i64 (1)) (Pu.qo (p_move rfl)) (by decide) ?_
       obtain ⟨r59, h60, H⟩ := bd.of H
       refine Rg.q (v := .int .i64 (r59)) (q_call (vs := [.agg #[.slice x25.1.1.1 r56.2.1.length x25.1.1.2, .slice x25.1.2.1 r56.2.2.length x25.1.2.2], .int .i64 (1)]) (c_laws_heldIndex r56.2 x25.1 1 h60) rfl (EntsB.cons (EntB.tree Has.here) (EntsB.cons (EntB.tree Has.here.there) EntsB.nil))) (by decide) ?_
       refine Rg.q (v := .int .i64 (r59)) (Pu.qo (p_assign rfl)) (by decide) (Rg.nl (nT ?_))
       refine Tr.seq ?_
       refine Tr.seq ?_
       refine Tr.olen Has.here.there.there fun hn => ?_; rw [hn]
       refine Tr.olen Has.here.there.there.there fun hn => ?_; rw [hn]
       refine Tr.olen Has.here.there.there.there.there fun hn => ?_; rw [hn]
       refine Tr.olen Has.here.there.there.there.there.there fun hn => ?_; rw [hn]
       refine Tr.olen Has.here.there.there.there.there.there.there fun hn => ?_; rw [hn]
       refine Tr.olen Has.here.there.there.there.there.there.there.there fun hn => ?_; rw [hn]
       refine Tr.region ?_
       refine Rg.q (v := .int .i64 (r59)) (Pu.qo (p_move rfl)) (by decide) ?_
       refine Rg.q (v := .bool (decide (r59 < 0))) (Pu.qo (p_lss rfl rfl)) (by decide) (Rg.nl (nT ?_))
       refine Tr.cond (b := decide (r59 < 0)) rfl (fun h61 => ?_) (fun h61 => ?_)
       ·have H := cdT h61 H
        refine Tr.seq ?_
        refine Tr.olen Has.here.there.there fun hn => ?_; rw [hn]
        refine Tr.olen Has.here.there.there.there fun hn => ?_; rw [hn]
        refine Tr.olen Has.here.there.there.there.there fun hn => ?_; rw [hn]
        refine Tr.olen Has.here.there.there.there.there.there fun hn => ?_; rw [hn]
        refine Tr.olen Has.here.there.there.there.there.there.there fun hn => ?_; rw [hn]
        refine Tr.olen Has.here.there.there.there.there.there.there.there fun hn => ?_; rw [hn]
        refine Tr.region ?_
        refine Rg.q (v := .bool (false)) (Pu.qo (p_assign rfl)) (by decide) (Rg.nl (nT ?_))
        refine Tr.olen Has.here.there.there fun hn => ?_; rw [hn]
        refine Tr.olen Has.here.there.there.there fun hn => ?_; rw [hn]
        refine Tr.olen Has.here.there.there.there.there fun hn => ?_; rw [hn]
        refine Tr.olen Has.here.there.there.there.there.there fun hn => ?_; rw [hn]
        refine Tr.olen Has.here.there.there.there.there.there.there fun hn => ?_; rw [hn]
        refine Tr.olen Has.here.there.there.there.there.there.there.there fun hn => ?_; rw [hn]
        refine tRet ?_
        refine rT (?_)
        refine At.olen Has.here.there.there fun hn => ?_; rw [hn]
        refine At.olen Has.here.there.there.there fun hn => ?_; rw [hn]
        refine At.olen Has.here.there.there.there.there fun hn => ?_; rw [hn]
        refine At.olen Has.here.there.there.there.there.there fun hn => ?_; rw [hn]
        refine At.olen Has.here.there.there.there.there.there.there fun hn => ?_; rw [hn]
        refine At.olen Has.here.there.there.there.there.there.there.there fun hn => ?_; rw [hn]
        have hr := Option.some.inj H; subst hr
        exact back1 () rfl (ResV.tmp (v := .bool (false)) rfl) rfl Ents.nil Take.nil
       ·have H := cdF h61 H
        refine tSkip ?_
        refine nT (Tr.seq ?_)
        refine Tr.seq ?_
        refine Tr.olen Has.here.there.there fun hn => ?_; rw [hn]
        refine Tr.olen Has.here.there.there.there fun hn => ?_; rw [hn]
        refine Tr.olen Has.here.there.there.there.there fun hn => ?_; rw [hn]
        refine Tr.olen Has.here.there.there.there.there.there fun hn => ?_; rw [hn]
        refine Tr.olen Has.here.there.there.there.there.there.there fun hn => ?_; rw [hn]
        refine Tr.olen Has.here.there.there.there.there.there.there.there fun hn => ?_; rw [hn]
        refine Tr.region ?_
        refine Rg.q (v := .int .i64 (r59)) (Pu.qo (p_move rfl)) (by decide) ?_
        refine Rg.q (v := .int .i64 (r56.1)) (Pu.qo (p_move rfl)) (by decide) ?_
        refine Rg.q (v := .bool (!decide (r59 = r56.1))) (Pu.qo (p_neq rfl rfl)) (by decide) (Rg.nl (nT ?_))
        refine Tr.cond (b := !decide (r59 = r56.1)) rfl (fun h62 => ?_) (fun h62 => ?_)
        ·have H := cdT h62 H
         refine Tr.seq ?_
         refine Tr.olen Has.here.there.there fun hn => ?_; rw [hn]
         refine Tr.olen Has.here.there.there.there fun hn => ?_; rw [hn]
         refine Tr.olen Has.here.there.there.there.there fun hn => ?_; rw [hn]
         refine Tr.olen Has.here.there.there.there.there.there fun hn => ?_; rw [hn]
         refine Tr.olen Has.here.there.there.there.there.there.there fun hn => ?_; rw [hn]
         refine Tr.olen Has.here.there.there.there.there.there.there.there fun hn => ?_; rw [hn]
         refine Tr.region ?_
         refine Rg.q (v := .bool (false)) (Pu.qo (p_assign rfl)) (by decide) (Rg.nl (nT ?_))
         refine Tr.olen Has.here.there.there fun hn => ?_; rw [hn]
         refine Tr.olen Has.here.there.there.there fun hn => ?_; rw [hn]
         refine Tr.olen Has.here.there.there.there.there fun hn => ?_; rw [hn]
         refine Tr.olen Has.here.there.there.there.there.there fun hn => ?_; rw [hn]
         refine Tr.olen Has.here.there.there.there.there.there.there fun hn => ?_; rw [hn]
         refine Tr.olen Has.here.there.there.there.there.there.there.there fun hn => ?_; rw [hn]
         refine tRet ?_
         refine rT (?_)
         refine At.olen Has.here.there.there fun hn => ?_; rw [hn]
         refine At.olen Has.here.there.there.there fun hn => ?_; rw [hn]
         refine At.olen Has.here.there.there.there.there fun hn => ?_; rw [hn]
         refine At.olen Has.here.there.there.there.there.there fun hn => ?_; rw [hn]
         refine At.olen Has.here.there.there.there.there.there.there fun hn => ?_; rw [hn]
         refine At.olen Has.here.there.there.there.there.there.there.there fun hn => ?_; rw [hn]
         have hr := Option.some.inj H; subst hr
         exact back1 () rfl (ResV.tmp (v := .bool (false)) rfl) rfl Ents.nil Take.nil
        ·have H := cdF h62 H
         refine tSkip ?_
         refine nT (Tr.seq ?_)
         refine Tr.olen Has.here.there.there fun hn => ?_; rw [hn]
         refine Tr.olen Has.here.there.there.there fun hn => ?_; rw [hn]
         refine Tr.olen Has.here.there.there.there.there fun hn => ?_; rw [hn]
         refine Tr.olen Has.here.there.there.there.there.there fun hn => ?_; rw [hn]
         refine Tr.olen Has.here.there.there.there.there.there.there fun hn => ?_; rw [hn]
         refine Tr.olen Has.here.there.there.there.there.there.there.there fun hn => ?_; rw [hn]
         refine Tr.region ?_
         refine Rg.q (v := .agg #[.slice x_v0.1.1 v0.1.length x_v0.1.2, .slice x_v0.2.1 v0.2.length x_v0.2.2]) (q_ldbA ty50 rfl Has.here.there.there.there.there.there.there.there.there.there.there.there.there.there.there.there.there rfl) (by decide) ?_
         refine Rg.ed (e_callB (vs := [.agg #[.slice x_v0.1.1 v0.1.length x_v0.1.2, .slice x_v0.2.1 v0.2.length x_v0.2.2]]) (c_laws_toIndex v0 x_v0 h11) (fun _ => (Solo.tree (Solo.tree Solo.nil))) rfl (EntsB.cons (Ent.b (Ent.dimm Ent.z.s)) (EntsB.cons (Ent.b (Ent.dimm Ent.z)) EntsB.nil))) rfl (by decide) ?_
         rintro _ _ _ ⟨x63, rfl, rfl, rfl⟩
         refine Rg.q (v := .slice x_v1.1 v1.length x_v1.2) (Pu.qo (p_move rfl)) (by decide) ?_
         refine Rg.ed (e_callB (vs := [.slice x_v1.1 v1.length x_v1.2]) (c_laws_toTagS v1 x_v1 h14) (fun _ => (Solo.tree Solo.nil)) rfl (EntsB.cons (Ent.b Ent.z.s.s.s.s) EntsB.nil)) rfl (by decide) ?_
         rintro _ _ _ ⟨x64, rfl, rfl, rfl⟩
         refine Rg.ed (e_callB (vs := [.agg #[.slice x63.1.1 r10.1.length x63.1.2, .slice x63.2.1 r10.2.length x63.2.2], .slice x64.1 r13.length x64.2]) (c_impl_IndexAdd r10 x63 r13 x64 h24) (fun _ => (Solo.tree (Solo.tree Solo.nil))) rfl (EntsB.cons (EntB.tree Has.here.there) (EntsB.cons (EntB.tree Has.here.there.there) (EntsB.cons (EntB.tree Has.here) EntsB.nil)))) rfl (by decide) ?_
         rintro _ _ _ ⟨x65, rfl, rfl, rfl⟩
         refine Rg.q (v := .tuple #[.agg #[.slice x65.1.1.1 r23.1.1.length x65.1.1.2, .slice x65.1.2.1 r23.1.2.length x65.1.2.2], .int .i64 (r23.2.1), .bool (r23.2.2)]) (Pu.qo (p_move rfl)) (by decide) ?_
         refine Rg.q (v := .agg #[.slice x65.1.1.1 r23.1.1.length x65.1.1.2, .slice x65.1.2.1 r23.1.2.length x65.1.2.2]) (Pu.qo (p_extract rfl rfl)) (by decide) ?_
         refine Rg.q (v := .int .i64 (r23.2.1)) (Pu.qo (p_extract rfl rfl)) (by decide) ?_
         refine Rg.q (v := .bool (r23.2.2)) (Pu.qo (p_extract rfl rfl)) (by decide) ?_
         refine Rg.ed (e_alloc ty26) rfl (by decide) ?_
         rintro _ _ _ ⟨g66, rfl, rfl, rfl⟩
         refine Rg.en (e_store (v := .agg #[.slice x65.1.1.1 r23.1.1.length x65.1.1.2, .slice x65.1.2.1 r23.1.2.length x65.1.2.2]) (cs' := [.slice x65.1.1.1 r23.1.1.length x65.1.1.2, .slice x65.1.2.1 r23.1.2.length x65.1.2.2]) ty26 rfl rfl Upd.here rfl (by simp [Value.cells, Value.oneCell']) (Nat.le_of_ble_eq_true rfl) rfl) rfl ?_
         rintro _ _ _ ⟨rfl, rfl, rfl⟩
         refine Rg.q (v := .int .i64 (r23.2.1)) (Pu.qo (p_assign rfl)) (by decide) ?_
         refine Rg.q (v := .bool (r23.2.2)) (Pu.qo (p_assign rfl)) (by decide) (Rg.nl (nT ?_))
         refine Tr.seq ?_
         refine Tr.olen Has.here.there.there.there.there.there.there.there.there fun hn => ?_; rw [hn]
         refine Tr.olen Has.here.there.there.there.there.there.there.there.there.there fun hn => ?_; rw [hn]
         refine Tr.olen Has.here.there.there.there.there.there.there.there.there.there.there fun hn => ?_; rw [hn]
         refine Tr.olen Has.here.there.there.there.there.there.there.there.there.there.there.there fun hn => ?_; rw [hn]
         refine Tr.olen Has.here.there.there.there.there.there.there.there.there.there.there.there.there fun hn => ?_; rw [hn]
         refine Tr.olen Has.here.there.there.there.there.there.there.there.there.there.there.there.there.there fun hn => ?_; rw [hn]
         obtain ⟨b67, j68, H⟩ := bd.of H
         refine tMid1 [(131, .bool (b67)), (15, .int .i64 (r56.1)), (11, .pointer (some ⟨g26, 0, none⟩))] ?_ ?_
         ·refine tLinT [(19, .bool (r23.2.2)), (18, .int .i64 (r23.2.1)), (17, .pointer (some ⟨g66, 0, none⟩)), (15, .int .i64 (r56.1)), (11, .pointer (some ⟨g26, 0, none⟩)), (8, .bool (r16.2.2)), (7, .int .i64 (r16.2.1)), (6, .pointer (some ⟨g19, 0, none⟩))] ⟨rfl, rfl, rfl, rfl, rfl, rfl, rfl, rfl, trivial⟩ ?_
          refine Lin.q (v := .agg #[.slice x65.1.1.1 r23.1.1.length x65.1.1.2, .slice x65.1.2.1 r23.1.2.length x65.1.2.2]) (by decide) (q_ldbA ty26 rfl Has.here rfl) ?_
          refine Lin.q (v := .agg #[.slice x18.1.1.1 r16.1.1.length x18.1.1.2, .slice x18.1.2.1 r16.1.2.length x18.1.2.2]) (by decide) (q_ldbA ty26 rfl Has.here.there.there.there.there.there.there.there.there.there.there.there.there.there.there.there.there rfl) ?_
          obtain ⟨r69, h70, j68⟩ := bd.of j68
          refine Lin.q (v := .bool (r69)) (by decide) (q_call (vs := [.agg #[.slice x65.1.1.1 r23.1.1.length x65.1.1.2, .slice x65.1.2.1 r23.1.2.length x65.1.2.2], .agg #[.slice x18.1.1.1 r16.1.1.length x18.1.1.2, .slice x18.1.2.1 r16.1.2.length x18.1.2.2]]) (c_laws_eqIndex r23.1 x65.1 r16.1 x18.1 h70) rfl (EntsB.cons (EntB.tree Has.here.there) (EntsB.cons (EntB.tree Has.here.there.there) (EntsB.cons (EntB.tree Has.here.there.there.there.there.there.there.there.there.there.there.there.there.there.there.there.there.there) (EntsB.cons (EntB.tree Has.here.there.there.there.there.there.there.there.there.there.there.there.there.there.there.there.there.there.there) EntsB.nil))))) ?_
          refine Lin.q (v := .bool (!r69)) (by decide) (Pu.qo (p_not rfl)) ?_
          rcases Bool.eq_false_or_eq_true (!r69) with h71 | h71
          ·have j68 := cdT h71 j68
           refine Lin.q (v := .bool (true)) (by decide) (Qo.eqv (v := .bool (!r69)) (Pu.qo (p_move rfl)) (congrArg Value.bool h71)) ?_
           refine Lin.skip (by decide) rfl ?_
           refine Lin.skip (by decide) rfl ?_
           refine Lin.skip (by decide) rfl ?_
           refine Lin.q (v := .bool (true)) (by decide) (Pu.qo (p_pickT rfl rfl)) ?_
           refine Lin.q (v := .bool (true)) (by decide) (Pu.qo (p_move rfl)) ?_
           refine Lin.skip (by decide) rfl ?_
           refine Lin.skip (by decide) rfl ?_
           refine Lin.skip (by decide) rfl ?_
           refine Lin.q (v := .bool (true)) (by decide) (Pu.qo (p_pickT rfl rfl)) ?_
           have j68 := Option.some.inj j68; subst j68
           show At _ _ _ _ _ _
           exact n1 ⟨rfl, rfl, rfl, trivial⟩
          ·have j68 := cdF h71 j68
           refine Lin.q (v := .bool (false)) (by decide) (Qo.eqv (v := .bool (!r69)) (Pu.qo (p_move rfl)) (congrArg Value.bool h71)) ?_
           refine Lin.g (v := .int .i64 (r23.2.1)) (by decide) rfl (Pu.qo (p_move rfl)) ?_
           refine Lin.g (v := .int .i64 (r16.2.1)) (by decide) rfl (Pu.qo (p_move rfl)) ?_
           refine Lin.g (v := .bool (!decide (r23.2.1 = r16.2.1))) (by decide) rfl (Pu.qo (p_neq rfl rfl)) ?_
           refine Lin.q (v := .bool (!decide (r23.2.1 = r16.2.1))) (by decide) (Pu.qo (p_pickF rfl rfl)) ?_
           rcases Bool.eq_false_or_eq_true (!decide (r23.2.1 = r16.2.1)) with h72 | h72
           ·have j68 := cdT h72 j68
            refine Lin.q (v := .bool (true)) (by decide) (Qo.eqv (v := .bool (!decide (r23.2.1 = r16.2.1))) (Pu.qo (p_move rfl)) (congrArg Value.bool h72)) ?_
            refine Lin.skip (by decide) rfl ?_
            refine Lin.skip (by decide) rfl ?_
            refine Lin.skip (by decide) rfl ?_
            refine Lin.q (v := .bool (true)) (by decide) (Pu.qo (p_pickT rfl rfl)) ?_
            have j68 := Option.some.inj j68; subst j68
            show At _ _ _ _ _ _
            exact n1 ⟨rfl, rfl, rfl, trivial⟩
           ·have j68 := cdF h72 j68
            refine Lin.q (v := .bool (false)) (by decide) (Qo.eqv (v := .bool (!decide (r23.2.1 = r16.2.1))) (Pu.qo (p_move rfl)) (congrArg Value.bool h72)) ?_
            refine Lin.g (v := .bool (r23.2.2)) (by decide) rfl (Pu.qo (p_move rfl)) ?_
            refine Lin.g (v := .bool (r16.2.2)) (by decide) rfl (Pu.qo (p_move rfl)) ?_
            refine Lin.g (v := .bool (!decide (r23.2.2 = r16.2.2))) (by decide) rfl (Pu.qo (p_bneq Try.underlying4 rfl rfl)) ?_
            refine Lin.q (v := .bool (!decide (r23.2.2 = r16.2.2))) (by decide) (Pu.qo (p_pickF rfl rfl)) ?_
            have j68 := Option.some.inj j68; subst j68
            show At _ _ _ _ _ _
            exact n1 ⟨rfl, rfl, rfl, trivial⟩
         refine Tr.cond (b := b67) rfl (fun h73 => ?_) (fun h73 => ?_)
         ·have H := cdT h73 H
          refine Tr.seq ?_
          refine Tr.olen Has.here.there.there.there.there.there.there.there.there fun hn => ?_; rw [hn]
          refine Tr.olen Has.here.there.there.there.there.there.there.there.there.there fun hn => ?_; rw [hn]
          refine Tr.olen Has.here.there.there.there.there.there.there.there.there.there.there fun hn => ?_; rw [hn]
          refine Tr.olen Has.here.there.there.there.there.there.there.there.there.there.there.there fun hn => ?_; rw [hn]
          refine Tr.olen Has.here.there.there.there.there.there.there.there.there.there.there.there.there fun hn => ?_; rw [hn]
          refine Tr.olen Has.here.there.there.there.there.there.there.there.there.there.there.there.there.there fun hn => ?_; rw [hn]
          refine Tr.region ?_
          refine Rg.q (v := .bool (false)) (Pu.qo (p_assign rfl)) (by decide) (Rg.nl (nT ?_))
          refine Tr.olen Has.here.there.there.there.there.there.there.there.there fun hn => ?_; rw [hn]
          refine Tr.olen Has.here.there.there.there.there.there.there.there.there.there fun hn => ?_; rw [hn]
          refine Tr.olen Has.here.there.there.there.there.there.there.there.there.there.there fun hn => ?_; rw [hn]
          refine Tr.olen Has.here.there.there.there.there.there.there.there.there.there.there.there fun hn => ?_; rw [hn]
          refine Tr.olen Has.here.there.there.there.there.there.there.there.there.there.there.there.there fun hn => ?_; rw [hn]
          refine Tr.olen Has.here.there.there.there.there.there.there.there.there.there.there.there.there.there fun hn => ?_; rw [hn]
          refine tRet ?_
          refine rT (?_)
          refine At.olen Has.here.there.there.there.there.there.there.there.there fun hn => ?_; rw [hn]
          refine At.olen Has.here.there.there.there.there.there.there.there.there.there fun hn => ?_; rw [hn]
          refine At.olen Has.here.there.there.there.there.there.there.there.there.there.there fun hn => ?_; rw [hn]
          refine At.olen Has.here.there.there.there.there.there.there.there.there.there.there.there fun hn => ?_; rw [hn]
          refine At.olen Has.here.there.there.there.there.there.there.there.there.there.there.there.there fun hn => ?_; rw [hn]
          refine At.olen Has.here.there.there.there.there.there.there.there.there.there.there.there.there.there fun hn => ?_; rw [hn]
          have hr := Option.some.inj H; subst hr
          exact back1 () rfl (ResV.tmp (v := .bool (false)) rfl) rfl Ents.nil Take.nil
         ·have H := cdF h73 H
          refine tSkip ?_
          refine nT (Tr.seq ?_)
          refine Tr.olen Has.here.there.there.there.there.there.there.there.there fun hn => ?_; rw [hn]
          refine Tr.olen Has.here.there.there.there.there.there.there.there.there.there fun hn => ?_; rw [hn]
          refine Tr.olen Has.here.there.there.there.there.there.there.there.there.there.there fun hn => ?_; rw [hn]
          refine Tr.olen Has.here.there.there.there.there.there.there.there.there.there.there.there fun hn => ?_; rw [hn]
          refine Tr.olen Has.here.there.there.there.there.there.there.there.there.there.there.there.there fun hn => ?_; rw [hn]
          refine Tr.olen Has.here.there.there.there.there.there.there.there.there.there.there.there.there.there fun hn => ?_; rw [hn]
          refine Tr.region ?_
          refine Rg.q (v := .int .i64 (1)) (Pu.qo (p_assign rfl)) (by decide) (Rg.nl (nT ?_))
          refine Tr.seq ?_
          refine Tr.olen Has.here.there.there.there.there.there.there.there.there fun hn => ?_; rw [hn]
          refine Tr.olen Has.here.there.there.there.there.there.there.there.there.there fun hn => ?_; rw [hn]
          refine Tr.olen Has.here.there.there.there.there.there.there.there.there.there.there fun hn => ?_; rw [hn]
          refine Tr.olen Has.here.there.there.there.there.there.there.there.there.there.there.there fun hn => ?_; rw [hn]
          refine Tr.olen Has.here.there.there.there.there.there.there.there.there.there.there.there.there fun hn => ?_; rw [hn]
          refine Tr.olen Has.here.there.there.there.there.there.there.there.there.there.there.there.there.there fun hn => ?_; rw [hn]
          refine Tr.region ?_
          refine Rg.q (v := .agg #[.slice x25.1.1.1 r56.2.1.length x25.1.1.2, .slice x25.1.2.1 r56.2.2.length x25.1.2.2]) (q_ldbA ty26 rfl Has.here.there.there.there.there.there.there.there.there.there.there.there.there.there.there rfl) (by decide) ?_
          refine Rg.q (v := .int .i64 (1)) (Pu.qo (p_move rfl)) (by decide) ?_
          refine Rg.q (v := .int .i64 (r59)) (q_call (vs := [.agg #[.slice x25.1.1.1 r56.2.1.length x25.1.1.2, .slice x25.1.2.1 r56.2.2.length x25.1.2.2], .int .i64 (1)]) (c_laws_heldIndex r56.2 x25.1 1 h60) rfl (EntsB.cons (EntB.tree Has.here.there.there.there.there.there.there) (EntsB.cons (EntB.tree Has.here.there.there.there.there.there.there.there) EntsB.nil))) (by decide) ?_
          refine Rg.q (v := .int .i64 (r59)) (Pu.qo (p_assign rfl)) (by decide) (Rg.nl (nT ?_))
          refine Tr.seq ?_
          refine Tr.seq ?_
          refine Tr.olen Has.here.there.there.there.there.there.there.there.there fun hn => ?_; rw [hn]
          refine Tr.olen Has.here.there.there.there.there.there.there.there.there.there fun hn => ?_; rw [hn]
          refine Tr.olen Has.here.there.there.there.there.there.there.there.there.there.there fun hn => ?_; rw [hn]
          refine Tr.olen Has.here.there.there.there.there.there.there.there.there.there.there.there fun hn => ?_; rw [hn]
          refine Tr.olen Has.here.there.there.there.there.there.there.there.there.there.there.there.there fun hn => ?_; rw [hn]
          refine Tr.olen Has.here.there.there.there.there.there.there.there.there.there.there.there.there.there fun hn => ?_; rw [hn]
          refine Tr.region ?_
          refine Rg.q (v := .int .i64 (r59)) (Pu.qo (p_move rfl)) (by decide) ?_
          refine Rg.q (v := .bool (decide (r59 < 0))) (Pu.qo (p_lss rfl rfl)) (by decide) (Rg.nl (nT ?_))
          refine Tr.cond (b := decide (r59 < 0)) rfl (fun h74 => ?_) (fun h74 => ?_)
          ·have H := cdT h74 H
           refine Tr.seq ?_
           refine Tr.olen Has.here.there.there.there.there.there.there.there.there fun hn => ?_; rw [hn]
           refine Tr.olen Has.here.there.there.there.there.there.there.there.there.there fun hn => ?_; rw [hn]
           refine Tr.olen Has.here.there.there.there.there.there.there.there.there.there.there fun hn => ?_; rw [hn]
           refine Tr.olen Has.here.there.there.there.there.there.there.there.there.there.there.there fun hn => ?_; rw [hn]
           refine Tr.olen Has.here.there.there.there.there.there.there.there.there.there.there.there.there fun hn => ?_; rw [hn]
           refine Tr.olen Has.here.there.there.there.there.there.there.there.there.there.there.there.there.there fun hn => ?_; rw [hn]
           refine Tr.region ?_
           refine Rg.q (v := .bool (false)) (Pu.qo (p_assign rfl)) (by decide) (Rg.nl (nT ?_))
           refine Tr.olen Has.here.there.there.there.there.there.there.there.there fun hn => ?_; rw [hn]
           refine Tr.olen Has.here.there.there.there.there.there.there.there.there.there fun hn => ?_; rw [hn]
           refine Tr.olen Has.here.there.there.there.there.there.there.there.there.there.there fun hn => ?_; rw [hn]
           refine Tr.olen Has.here.there.there.there.there.there.there.there.there.there.there.there fun hn => ?_; rw [hn]
           refine Tr.olen Has.here.there.there.there.there.there.there.there.there.there.there.there.there fun hn => ?_; rw [hn]
           refine Tr.olen Has.here.there.there.there.there.there.there.there.there.there.there.there.there.there fun hn => ?_; rw [hn]
           refine tRet ?_
           refine rT (?_)
           refine At.olen Has.here.there.there.there.there.there.there.there.there fun hn => ?_; rw [hn]
           refine At.olen Has.here.there.there.there.there.there.there.there.there.there fun hn => ?_; rw [hn]
           refine At.olen Has.here.there.there.there.there.there.there.there.there.there.there fun hn => ?_; rw [hn]
           refine At.olen Has.here.there.there.there.there.there.there.there.there.there.there.there fun hn => ?_; rw [hn]
           refine At.olen Has.here.there.there.there.there.there.there.there.there.there.there.there.there fun hn => ?_; rw [hn]
           refine At.olen Has.here.there.there.there.there.there.there.there.there.there.there.there.there.there fun hn => ?_; rw [hn]
           have hr := Option.some.inj H; subst hr
           exact back1 () rfl (ResV.tmp (v := .bool (false)) rfl) rfl Ents.nil Take.nil
          ·have H := cdF h74 H
           refine tSkip ?_
           refine nT (Tr.seq ?_)
           refine Tr.seq ?_
           refine Tr.olen Has.here.there.there.there.there.there.there.there.there fun hn => ?_; rw [hn]
           refine Tr.olen Has.here.there.there.there.there.there.there.there.there.there fun hn => ?_; rw [hn]
           refine Tr.olen Has.here.there.there.there.there.there.there.there.there.there.there fun hn => ?_; rw [hn]
           refine Tr.olen Has.here.there.there.there.there.there.there.there.there.there.there.there fun hn => ?_; rw [hn]
           refine Tr.olen Has.here.there.there.there.there.there.there.there.there.there.there.there.there fun hn => ?_; rw [hn]
           refine Tr.olen Has.here.there.there.there.there.there.there.there.there.there.there.there.there.there fun hn => ?_; rw [hn]
           refine Tr.region ?_
           refine Rg.q (v := .int .i64 (r59)) (Pu.qo (p_move rfl)) (by decide) ?_
           refine Rg.q (v := .int .i64 (r56.1)) (Pu.qo (p_move rfl)) (by decide) ?_
           refine Rg.q (v := .bool (!decide (r59 = r56.1))) (Pu.qo (p_neq rfl rfl)) (by decide) (Rg.nl (nT ?_))
           refine Tr.cond (b := !decide (r59 = r56.1)) rfl (fun h75 => ?_) (fun h75 => ?_)
           ·have H := cdT h75 H
            refine Tr.seq ?_
            refine Tr.olen Has.here.there.there.there.there.there.there.there.there fun hn => ?_; rw [hn]
            refine Tr.olen Has.here.there.there.there.there.there.there.there.there.there fun hn => ?_; rw [hn]
            refine Tr.olen Has.here.there.there.there.there.there.there.there.there.there.there fun hn => ?_; rw [hn]
            refine Tr.olen Has.here.there.there.there.there.there.there.there.there.there.there.there fun hn => ?_; rw [hn]
            refine Tr.olen Has.here.there.there.there.there.there.there.there.there.there.there.there.there fun hn => ?_; rw [hn]
            refine Tr.olen Has.here.there.there.there.there.there.there.there.there.there.there.there.there.there fun hn => ?_; rw [hn]
            refine Tr.region ?_
            refine Rg.q (v := .bool (false)) (Pu.qo (p_assign rfl)) (by decide) (Rg.nl (nT ?_))
            refine Tr.olen Has.here.there.there.there.there.there.there.there.there fun hn => ?_; rw [hn]
            refine Tr.olen Has.here.there.there.there.there.there.there.there.there.there fun hn => ?_; rw [hn]
            refine Tr.olen Has.here.there.there.there.there.there.there.there.there.there.there fun hn => ?_; rw [hn]
            refine Tr.olen Has.here.there.there.there.there.there.there.there.there.there.there.there fun hn => ?_; rw [hn]
            refine Tr.olen Has.here.there.there.there.there.there.there.there.there.there.there.there.there fun hn => ?_; rw [hn]
            refine Tr.olen Has.here.there.there.there.there.there.there.there.there.there.there.there.there.there fun hn => ?_; rw [hn]
            refine tRet ?_
            refine rT (?_)
            refine At.olen Has.here.there.there.there.there.there.there.there.there fun hn => ?_; rw [hn]
            refine At.olen Has.here.there.there.there.there.there.there.there.there.there fun hn => ?_; rw [hn]
            refine At.olen Has.here.there.there.there.there.there.there.there.there.there.there fun hn => ?_; rw [hn]
            refine At.olen Has.here.there.there.there.there.there.there.there.there.there.there.there fun hn => ?_; rw [hn]
            refine At.olen Has.here.there.there.there.there.there.there.there.there.there.there.there.there fun hn => ?_; rw [hn]
            refine At.olen Has.here.there.there.there.there.there.there.there.there.there.there.there.there.there fun hn => ?_; rw [hn]
            have hr := Option.some.inj H; subst hr
            exact back1 () rfl (ResV.tmp (v := .bool (false)) rfl) rfl Ents.nil Take.nil
           ·have H := cdF h75 H
            refine tSkip ?_
            refine nT (Tr.seq ?_)
            refine Tr.olen Has.here.there.there.there.there.there.there.there.there fun hn => ?_; rw [hn]
            refine Tr.olen Has.here.there.there.there.there.there.there.there.there.there fun hn => ?_; rw [hn]
            refine Tr.olen Has.here.there.there.there.there.there.there.there.there.there.there fun hn => ?_; rw [hn]
            refine Tr.olen Has.here.there.there.there.there.there.there.there.there.there.there.there fun hn => ?_; rw [hn]
            refine Tr.olen Has.here.there.there.there.there.there.there.there.there.there.there.there.there fun hn => ?_; rw [hn]
            refine Tr.olen Has.here.there.there.there.there.there.there.there.there.there.there.there.there.there fun hn => ?_; rw [hn]
            refine Tr.region ?_
            refine Rg.q (v := .bool (true)) (Pu.qo (p_assign rfl)) (by decide) (Rg.nl (nT ?_))
            refine Tr.olen Has.here.there.there.there.there.there.there.there.there fun hn => ?_; rw [hn]
            refine Tr.olen Has.here.there.there.there.there.there.there.there.there.there fun hn => ?_; rw [hn]
            refine Tr.olen Has.here.there.there.there.there.there.there.there.there.there.there fun hn => ?_; rw [hn]
            refine Tr.olen Has.here.there.there.there.there.there.there.there.there.there.there.there fun hn => ?_; rw [hn]
            refine Tr.olen Has.here.there.there.there.there.there.there.there.there.there.there.there.there fun hn => ?_; rw [hn]
            refine Tr.olen Has.here.there.there.there.there.there.there.there.there.there.there.there.there.there fun hn => ?_; rw [hn]
            refine tRet ?_
            refine At.olen Has.here.there.there.there.there.there.there.there.there fun hn => ?_; rw [hn]
            refine At.olen Has.here.there.there.there.there.there.there.there.there.there fun hn => ?_; rw [hn]
            refine At.olen Has.here.there.there.there.there.there.there.there.there.there.there fun hn => ?_; rw [hn]
            refine At.olen Has.here.there.there.there.there.there.there.there.there.there.there.there fun hn => ?_; rw [hn]
            refine At.olen Has.here.there.there.there.there.there.there.there.there.there.there.there.there fun hn => ?_; rw [hn]
            refine At.olen Has.here.there.there.there.there.there.there.there.there.there.there.there.there.there fun hn => ?_; rw [hn]
            have hr := Option.some.inj H; subst hr
            exact back1 () rfl (ResV.tmp (v := .bool (true)) rfl) rfl Ents.nil Take.nil
theorem mt_total (k : Int) (h0 : 0 ≤ k) (hk : k ≤ 1152921504606846976) : ∃ t, p_laws_markText k = some t := by
  unfold p_laws_markText
  by_cases hz : k ≤ 0
  · simp [hz]
  · simp only [hz, decide_false, cond_false]
    obtain ⟨e, he, hs⟩ := lp.rule (body := p_laws_markText_b0) (fun σ => 0 ≤ σ.1 ∧ ∃ j, j ≤ 61 ∧ σ.2.size + j ≤ 61 ∧ σ.1 < (2 : Int) ^ j) (fun σ => σ.1.toNat) (fun e => e.size ≤ 61) (fun σ hI => by
      obtain ⟨i0, j, j1, j2, j3⟩ := hI
      unfold p_laws_markText_b0
      by_cases hp : 0 < σ.1
      · left
        have hj : 0 < j := by
          rcases Nat.eq_zero_or_pos j with rfl | h
          · simp at j3; omega
          · exact h
        have hpow : (2 : Int) ^ j = 2 * 2 ^ (j - 1) := by
          rw [show j = (j - 1) + 1 by omega, Int.pow_succ]; simp; omega
        have hbig : (2 : Int) ^ j ≤ 2 ^ 61 := by
          have : (2 : Nat) ^ j ≤ 2 ^ 61 := Nat.pow_le_pow_right (by decide) j1
          have h2 : ((2 ^ j : Nat) : Int) ≤ ((2 ^ 61 : Nat) : Int) := by omega
          simpa using h2
        have hm : 0 ≤ σ.1.tmod 10 ∧ σ.1.tmod 10 < 10 := by
          rw [Int.tmod_eq_emod_of_nonneg i0]; omega
        have hd : σ.1.tdiv 10 = σ.1 / 10 := Int.tdiv_eq_ediv_of_nonneg i0
        have g1 : I64 (σ.1.tmod 10) := by unfold I64; omega
        have g2 : I64 (48 + σ.1.tmod 10) := by unfold I64; omega
        have g3 : I64 (σ.1.tdiv 10) := by rw [hd]; unfold I64; omega
        have g4 : room ((s2 [b8 (48 + σ.1.tmod 10)]).size + σ.2.size) := by
          have : (s2 [b8 (48 + σ.1.tmod 10)]).size = 1 := rfl
          unfold room; omega
        refine ⟨(σ.1.tdiv 10, s2 [b8 (48 + σ.1.tmod 10)] ++ σ.2), by simp only [hp, decide_true, cond_true, gd.yes g1, gd.yes g2, gd.yes g3, gd.yes g4], ⟨by rw [hd]; show 0 ≤ σ.1 / 10; omega, j - 1, by omega, ?_, ?_⟩, ?_⟩
        · have : (s2 [b8 (48 + σ.1.tmod 10)] ++ σ.2).size = 1 + σ.2.size := by rw [ByteArray.size_append]; rfl
          show (s2 [b8 (48 + σ.1.tmod 10)] ++ σ.2).size + (j - 1) ≤ 61
          omega
        · show σ.1.tdiv 10 < _
          rw [hd]; omega
        · show (σ.1.tdiv 10).toNat < σ.1.toNat
          rw [hd]; omega
      · right
        exact ⟨σ.2, by simp [hp], by omega⟩) (s := (k, (⟨#[]⟩ : ByteArray))) ⟨h0, 61, Nat.le_refl _, Nat.le_refl _, by show k < _; omega⟩
    rw [he, bd_some]
    have : room ((⟨#[109]⟩ : ByteArray).size + e.size) := by
      have h1 : (⟨#[109]⟩ : ByteArray).size = 1 := rfl
      unfold room; omega
    rw [gd.yes this]
    exact ⟨_, rfl⟩
theorem s_Tag (a : Tag) (left : Int) (h0 : 0 ≤ left) (h1 : left ≤ 1048576) (_ : Dp.ok a) (so : So.so a) : p_laws_szTag a left = some (cut left (Wt.w a)) := by
  have hw : Wt.w a = Wt.w a.1 + (Wt.w a.2) := by
    simp only [Wt.w]
    first | done | omega
  rw [hw]; unfold p_laws_szTag
  have z0 : (a.1).size ≤ 9223372036854775807 := so.1
  have b0 : 0 ≤ left := h0; have d0 : left ≤ 1048576 := h1
  refine sz_str (by unfold I64; omega) fun c0 => ?_
  rw [show left - ((a.1).size : Int) = cut left (a.1).size from cut_pos (fun h => c0 (cut_lt.2 h))]
  have z1 : (a.2).size ≤ 9223372036854775807 := so.2
  have b1 : 0 ≤ cut left (a.1).size := (cut_nn c0); have d1 : cut left (a.1).size ≤ 1048576 := (cut_rng h1)
  exact sz_strl (by unfold I64; omega)
theorem s_TagS (a : (List Tag)) (left : Int) (h0 : 0 ≤ left) (h1 : left ≤ 1048576) (ok : Dp.ok a) (so : So.so a) : p_laws_szTagS a left = some (cut left (Wt.w a)) := by
  have hm : a.length ≤ 9223372036854775807 := ok.1
  unfold p_laws_szTagS
  refine sz_str (w2 := sumN a.length fun i => Wt.w (nth a i)) (by unfold I64; omega) fun hc => ?_
  rw [cut_lt] at hc; rw [← cut_pos hc]
  exact sz_loop (l := a) (by omega) (by omega) (fun k hk m m0 m1 => by
    unfold p_laws_szTagS_b0
    simp only [dlt hk, cond_true, gd.yes (ixN hk), Int.toNat_natCast, s_Tag (nth a k) m m0 m1 (ok.2 k hk) (so k hk), bd_some, gd.yes (i64S hk hm)]
    by_cases hc : cut m (Wt.w (nth a k)) < 0 <;> simp [hc]) (fun m => by unfold p_laws_szTagS_b0; simp)
theorem s_TagSS (a : (List (List Tag))) (left : Int) (h0 : 0 ≤ left) (h1 : left ≤ 1048576) (ok : Dp.ok a) (so : So.so a) : p_laws_szTagSS a left = some (cut left (Wt.w a)) := by
  have hm : a.length ≤ 9223372036854775807 := ok.1
  unfold p_laws_szTagSS
  refine sz_str (w2 := sumN a.length fun i => Wt.w (nth a i)) (by unfold I64; omega) fun hc => ?_
  rw [cut_lt] at hc; rw [← cut_pos hc]
  exact sz_loop (l := a) (by omega) (by omega) (fun k hk m m0 m1 => by
    unfold p_laws_szTagSS_b0
    simp only [dlt hk, cond_true, gd.yes (ixN hk), Int.toNat_natCast, s_TagS (nth a k) m m0 m1 (ok.2 k hk) (so k hk), bd_some, gd.yes (i64S hk hm)]
    by_cases hc : cut m (Wt.w (nth a k)) < 0 <;> simp [hc]) (fun m => by unfold p_laws_szTagSS_b0; simp)
theorem s_IntS (a : (List Int)) (left : Int) (h0 : 0 ≤ left) (h1 : left ≤ 1048576) (ok : Dp.ok a) : p_laws_szIntS a left = some (cut left (Wt.w a)) := by
  have hm : a.length ≤ 9223372036854775807 := ok.1
  unfold p_laws_szIntS
  have hw : Wt.w a = a.length := by show a.length + sumN a.length (fun i => Wt.w (nth a i)) = _; rw [sumN_zero (f := fun i => Wt.w (nth a i)) fun i _ => rfl]; rfl
  rw [hw]; exact sz_strl (by unfold I64; omega)
theorem s_Post (a : Post) (left : Int) (h0 : 0 ≤ left) (h1 : left ≤ 1048576) (ok : Dp.ok a) (so : So.so a) : p_laws_szPost a left = some (cut left (Wt.w a)) := by
  have hw : Wt.w a = Wt.w a.1 + (Wt.w a.2) := by
    simp only [Wt.w]
    first | done | omega
  rw [hw]; unfold p_laws_szPost
  refine sz_step (s_Tag a.1 left h0 h1 ok.1 so.1) fun c0 => ?_
  exact sz_last (s_IntS a.2 (cut left (Wt.w a.1)) (cut_nn c0) (cut_rng h1) ok.2)
theorem s_PostS (a : (List Post)) (left : Int) (h0 : 0 ≤ left) (h1 : left ≤ 1048576) (ok : Dp.ok a) (so : So.so a) : p_laws_szPostS a left = some (cut left (Wt.w a)) := by
  have hm : a.length ≤ 9223372036854775807 := ok.1
  unfold p_laws_szPostS
  refine sz_str (w2 := sumN a.length fun i => Wt.w (nth a i)) (by unfold I64; omega) fun hc => ?_
  rw [cut_lt] at hc; rw [← cut_pos hc]
  exact sz_loop (l := a) (by omega) (by omega) (fun k hk m m0 m1 => by
    unfold p_laws_szPostS_b0
    simp only [dlt hk, cond_true, gd.yes (ixN hk), Int.toNat_natCast, s_Post (nth a k) m m0 m1 (ok.2 k hk) (so k hk), bd_some, gd.yes (i64S hk hm)]
    by_cases hc : cut m (Wt.w (nth a k)) < 0 <;> simp [hc]) (fun m => by unfold p_laws_szPostS_b0; simp)
theorem s_Index (a : Index) (left : Int) (h0 : 0 ≤ left) (h1 : left ≤ 1048576) (ok : Dp.ok a) (so : So.so a) : p_laws_szIndex a left = some (cut left (Wt.w a)) := by
  have hw : Wt.w a = Wt.w a.1 + (Wt.w a.2) := by
    simp only [Wt.w]
    first | done | omega
  rw [hw]; unfold p_laws_szIndex
  refine sz_step (s_TagSS a.1 left h0 h1 ok.1 so.1) fun c0 => ?_
  exact sz_last (s_PostS a.2 (cut left (Wt.w a.1)) (cut_nn c0) (cut_rng h1) ok.2 so.2)
theorem t_Tag (a : Tag) (_ : Dp.ok a) (_ : Wt.w a ≤ 1048576) : p_laws_toTag a = some a := by
  unfold p_laws_toTag
  rfl
theorem t_TagS (a : (List Tag)) (ok : Dp.ok a) (hw : Wt.w a ≤ 1048576) : p_laws_toTagS a = some a := by
  have hm : a.length ≤ 1048576 := Nat.le_trans wL_le hw
  unfold p_laws_toTagS
  rw [gd.yes (by unfold many; omega)]
  simp only [Int.toNat_natCast]
  rw [to_loop (l := a) (by simp) (fun k hk r hr => by
    unfold p_laws_toTagS_b0
    have hk2 : k < r.length := by omega
    simp only [dlt hk, cond_true, gd.yes (ixN hk), gd.yes (ixN hk2), Int.toNat_natCast, t_Tag (nth a k) (ok.2 k hk) (Nat.le_trans (wL_el hk) hw), bd_some, gd.yes (i64S hk (by omega))]
    first | done | rfl) (fun r => by unfold p_laws_toTagS_b0; simp)]
  rfl
theorem t_TagSS (a : (List (List Tag))) (ok : Dp.ok a) (hw : Wt.w a ≤ 1048576) : p_laws_toTagSS a = some a := by
  have hm : a.length ≤ 1048576 := Nat.le_trans wL_le hw
  unfold p_laws_toTagSS
  rw [gd.yes (by unfold many; omega)]
  simp only [Int.toNat_natCast]
  rw [to_loop (l := a) (by simp) (fun k hk r hr => by
    unfold p_laws_toTagSS_b0
    have hk2 : k < r.length := by omega
    simp only [dlt hk, cond_true, gd.yes (ixN hk), gd.yes (ixN hk2), Int.toNat_natCast, t_TagS (nth a k) (ok.2 k hk) (Nat.le_trans (wL_el hk) hw), bd_some, gd.yes (i64S hk (by omega))]
    first | done | rfl) (fun r => by unfold p_laws_toTagSS_b0; simp)]
  rfl
theorem t_IntS (a : (List Int)) (_ : Dp.ok a) (hw : Wt.w a ≤ 1048576) : p_laws_toIntS a = some a := by
  have hm : a.length ≤ 1048576 := Nat.le_trans wL_le hw
  unfold p_laws_toIntS
  rw [gd.yes (by unfold many; omega)]
  simp only [Int.toNat_natCast]
  rw [to_loop (l := a) (by simp) (fun k hk r hr => by
    unfold p_laws_toIntS_b0
    have hk2 : k < r.length := by omega
    simp only [dlt hk, cond_true, gd.yes (ixN hk), gd.yes (ixN hk2), Int.toNat_natCast, gd.yes (i64S hk (by omega))]
    first | done | rfl) (fun r => by unfold p_laws_toIntS_b0; simp)]
  rfl
theorem t_Post (a : Post) (ok : Dp.ok a) (hw : Wt.w a ≤ 1048576) : p_laws_toPost a = some a := by
  unfold p_laws_toPost
  simp only [t_Tag a.1 ok.1 (by simp only [Wt.w] at hw ⊢; omega), t_IntS a.2 ok.2 (by simp only [Wt.w] at hw ⊢; omega), bd_some]
theorem t_PostS (a : (List Post)) (ok : Dp.ok a) (hw : Wt.w a ≤ 1048576) : p_laws_toPostS a = some a := by
  have hm : a.length ≤ 1048576 := Nat.le_trans wL_le hw
  unfold p_laws_toPostS
  rw [gd.yes (by unfold many; omega)]
  simp only [Int.toNat_natCast]
  rw [to_loop (l := a) (by simp) (fun k hk r hr => by
    unfold p_laws_toPostS_b0
    have hk2 : k < r.length := by omega
    simp only [dlt hk, cond_true, gd.yes (ixN hk), gd.yes (ixN hk2), Int.toNat_natCast, t_Post (nth a k) (ok.2 k hk) (Nat.le_trans (wL_el hk) hw), bd_some, gd.yes (i64S hk (by omega))]
    first | done | rfl) (fun r => by unfold p_laws_toPostS_b0; simp)]
  rfl
theorem t_Index (a : Index) (ok : Dp.ok a) (hw : Wt.w a ≤ 1048576) : p_laws_toIndex a = some a := by
  unfold p_laws_toIndex
  simp only [t_TagSS a.1 ok.1 (by simp only [Wt.w] at hw ⊢; omega), t_PostS a.2 ok.2 (by simp only [Wt.w] at hw ⊢; omega), bd_some]
theorem q_Tag (a b : Tag) (_ : Dp.ok a) (hb : Dp.ok b) : p_laws_eqTag a b = some (decide (a = b)) := by
  have he : a = b ↔ a.1 = b.1 ∧ a.2 = b.2 := by
    constructor
    · rintro rfl; simp
    · rintro ⟨h0, h1⟩; exact Prod.ext h0 (h1)
  unfold p_laws_eqTag
  simp only [he]
  by_cases h0 : a.1 = b.1
  · by_cases h1 : a.2 = b.2
    · simp [h0, h1]
    · simp [h0, h1]
  · simp [h0]
theorem q_TagS (a b : (List Tag)) (ha : Dp.ok a) (hb : Dp.ok b) : p_laws_eqTagS a b = some (decide (a = b)) := by
  have hm : a.length ≤ 9223372036854775807 := ha.1
  unfold p_laws_eqTagS
  by_cases hl : a.length = b.length
  · have hl2 : (a.length : Int) = (b.length : Int) := by omega
    simp only [hl2, decide_true, Bool.not_true, cond_false]
    refine eq_loop hl (fun k hk => ?_) ?_
    · have hk2 : k < b.length := by omega
      unfold p_laws_eqTagS_b0
      simp only [dlt hk, cond_true, gd.yes (ixN hk), gd.yes (ixN hk2), Int.toNat_natCast, q_Tag (nth a k) (nth b k) (ha.2 k hk) (hb.2 k hk2), bd_some, gd.yes (i64S hk hm)]
      by_cases h : nth a k = nth b k <;> simp [h]
    · unfold p_laws_eqTagS_b0; simp
  · have h2 : ¬ (a.length : Int) = (b.length : Int) := by omega
    have h3 : a ≠ b := fun e => hl (by rw [e])
    simp [h2, h3]
theorem q_TagSS (a b : (List (List Tag))) (ha : Dp.ok a) (hb : Dp.ok b) : p_laws_eqTagSS a b = some (decide (a = b)) := by
  have hm : a.length ≤ 9223372036854775807 := ha.1
  unfold p_laws_eqTagSS
  by_cases hl : a.length = b.length
  · have hl2 : (a.length : Int) = (b.length : Int) := by omega
    simp only [hl2, decide_true, Bool.not_true, cond_false]
    refine eq_loop hl (fun k hk => ?_) ?_
    · have hk2 : k < b.length := by omega
      unfold p_laws_eqTagSS_b0
      simp only [dlt hk, cond_true, gd.yes (ixN hk), gd.yes (ixN hk2), Int.toNat_natCast, q_TagS (nth a k) (nth b k) (ha.2 k hk) (hb.2 k hk2), bd_some, gd.yes (i64S hk hm)]
      by_cases h : nth a k = nth b k <;> simp [h]
    · unfold p_laws_eqTagSS_b0; simp
  · have h2 : ¬ (a.length : Int) = (b.length : Int) := by omega
    have h3 : a ≠ b := fun e => hl (by rw [e])
    simp [h2, h3]
theorem q_IntS (a b : (List Int)) (ha : Dp.ok a) (_ : Dp.ok b) : p_laws_eqIntS a b = some (decide (a = b)) := by
  have hm : a.length ≤ 9223372036854775807 := ha.1
  unfold p_laws_eqIntS
  by_cases hl : a.length = b.length
  · have hl2 : (a.length : Int) = (b.length : Int) := by omega
    simp only [hl2, decide_true, Bool.not_true, cond_false]
    refine eq_loop hl (fun k hk => ?_) ?_
    · have hk2 : k < b.length := by omega
      unfold p_laws_eqIntS_b0
      simp only [dlt hk, cond_true, gd.yes (ixN hk), gd.yes (ixN hk2), Int.toNat_natCast, gd.yes (i64S hk hm)]
      by_cases h : nth a k = nth b k <;> simp [h]
    · unfold p_laws_eqIntS_b0; simp
  · have h2 : ¬ (a.length : Int) = (b.length : Int) := by omega
    have h3 : a ≠ b := fun e => hl (by rw [e])
    simp [h2, h3]
theorem q_Post (a b : Post) (ha : Dp.ok a) (hb : Dp.ok b) : p_laws_eqPost a b = some (decide (a = b)) := by
  have he : a = b ↔ a.1 = b.1 ∧ a.2 = b.2 := by
    constructor
    · rintro rfl; simp
    · rintro ⟨h0, h1⟩; exact Prod.ext h0 (h1)
  unfold p_laws_eqPost
  simp only [q_Tag a.1 b.1 ha.1 hb.1, q_IntS a.2 b.2 ha.2 hb.2, bd_some, he]
  by_cases h0 : a.1 = b.1
  · by_cases h1 : a.2 = b.2
    · simp [h0, h1]
    · simp [h0, h1]
  · simp [h0]
theorem q_PostS (a b : (List Post)) (ha : Dp.ok a) (hb : Dp.ok b) : p_laws_eqPostS a b = some (decide (a = b)) := by
  have hm : a.length ≤ 9223372036854775807 := ha.1
  unfold p_laws_eqPostS
  by_cases hl : a.length = b.length
  · have hl2 : (a.length : Int) = (b.length : Int) := by omega
    simp only [hl2, decide_true, Bool.not_true, cond_false]
    refine eq_loop hl (fun k hk => ?_) ?_
    · have hk2 : k < b.length := by omega
      unfold p_laws_eqPostS_b0
      simp only [dlt hk, cond_true, gd.yes (ixN hk), gd.yes (ixN hk2), Int.toNat_natCast, q_Post (nth a k) (nth b k) (ha.2 k hk) (hb.2 k hk2), bd_some, gd.yes (i64S hk hm)]
      by_cases h : nth a k = nth b k <;> simp [h]
    · unfold p_laws_eqPostS_b0; simp
  · have h2 : ¬ (a.length : Int) = (b.length : Int) := by omega
    have h3 : a ≠ b := fun e => hl (by rw [e])
    simp [h2, h3]
theorem q_Index (a b : Index) (ha : Dp.ok a) (hb : Dp.ok b) : p_laws_eqIndex a b = some (decide (a = b)) := by
  have he : a = b ↔ a.1 = b.1 ∧ a.2 = b.2 := by
    constructor
    · rintro rfl; simp
    · rintro ⟨h0, h1⟩; exact Prod.ext h0 (h1)
  unfold p_laws_eqIndex
  simp only [q_TagSS a.1 b.1 ha.1 hb.1, q_PostS a.2 b.2 ha.2 hb.2, bd_some, he]
  by_cases h0 : a.1 = b.1
  · by_cases h1 : a.2 = b.2
    · simp [h0, h1]
    · simp [h0, h1]
  · simp [h0]
theorem m_TagS (a : (List Tag)) (k : Int) (h0 : 0 ≤ k) (hB : k + (Ct.ct a : Nat) ≤ 1152921504606846976) (ok : Dp.ok a) : MkR p_laws_markTagS p_laws_heldTagS a k := by
  have hm : a.length ≤ 9223372036854775807 := ok.1
  obtain ⟨k1, r, e1, e2, e3, e4, e5⟩ := mark_loop (l := a) (B := 1152921504606846976) (bm := p_laws_markTagS_b0 a) (bh := fun r => p_laws_heldTagS_b0 r) (fun i hi r hr hn k h0 hB => by
    have hi2 : i < r.length := by omega
    have hc : Ct.ct (nth a i) = 1 + (1) := rfl
    obtain ⟨t0, ht0⟩ := mt_total (k) (by omega) (by omega)
    have g1 : I64 (k + 1) := i64B (by omega) (by omega)
    obtain ⟨t1, ht1⟩ := mt_total (k + 1) (by omega) (by omega)
    have g2 : I64 ((k + 1) + 1) := i64B (by omega) (by omega)
    refine ⟨(t0, t1), (k + 1) + 1, ?_, by omega, by omega, fun r' hr' hu => ?_⟩
    · unfold p_laws_markTagS_b0
      simp only [dlt hi, cond_true, Int.toNat_natCast, gd.yes (ixN hi2), ht0, gd.yes g1, ht1, gd.yes g2, bd_some, gd.yes (i64S hi hm)]
      first | done | rfl
    · have hi3 : i < r'.length := by omega
      unfold p_laws_heldTagS_b0
      simp [hi3, gd.yes (ixN hi3), hu, ht0, gd.yes g1, ht1, gd.yes g2, gd.yes (i64S hi hm)])
    (fun r k hr => by unfold p_laws_markTagS_b0; simp) (fun r k hr => by unfold p_laws_heldTagS_b0; simp [hr]) h0 hB
  refine ⟨k1, r, ?_, e3, e4, ?_⟩
  · unfold p_laws_markTagS; rw [e1]; rfl
  · unfold p_laws_heldTagS; rw [e5]; rfl
theorem m_TagSS (a : (List (List Tag))) (k : Int) (h0 : 0 ≤ k) (hB : k + (Ct.ct a : Nat) ≤ 1152921504606846976) (ok : Dp.ok a) : MkR p_laws_markTagSS p_laws_heldTagSS a k := by
  have hm : a.length ≤ 9223372036854775807 := ok.1
  obtain ⟨k1, r, e1, e2, e3, e4, e5⟩ := mark_loop (l := a) (B := 1152921504606846976) (bm := p_laws_markTagSS_b0 a) (bh := fun r => p_laws_heldTagSS_b0 r) (fun i hi r hr hn k h0 hB => by
    have hi2 : i < r.length := by omega
    have hc : Ct.ct (nth a i) = Ct.ct (nth a i) := rfl
    obtain ⟨c1, s1, x1, y1, z1, w1⟩ := m_TagS (nth a i) (k) (by omega) (by omega) (ok.2 i hi)
    have q1 : ¬ c1 < 0 := by omega
    refine ⟨s1, c1, ?_, by omega, by omega, fun r' hr' hu => ?_⟩
    · unfold p_laws_markTagSS_b0
      simp only [dlt hi, cond_true, Int.toNat_natCast, gd.yes (ixN hi2), hn, x1, bd_some, gd.yes (i64S hi hm)]
      first | done | rfl
    · have hi3 : i < r'.length := by omega
      unfold p_laws_heldTagSS_b0
      simp [hi3, gd.yes (ixN hi3), hu, w1, q1, gd.yes (i64S hi hm)])
    (fun r k hr => by unfold p_laws_markTagSS_b0; simp) (fun r k hr => by unfold p_laws_heldTagSS_b0; simp [hr]) h0 hB
  refine ⟨k1, r, ?_, e3, e4, ?_⟩
  · unfold p_laws_markTagSS; rw [e1]; rfl
  · unfold p_laws_heldTagSS; rw [e5]; rfl
theorem m_IntS (a : (List Int)) (k : Int) (h0 : 0 ≤ k) (hB : k + (Ct.ct a : Nat) ≤ 1152921504606846976) (ok : Dp.ok a) : MkR p_laws_markIntS p_laws_heldIntS a k := by
  have hm : a.length ≤ 9223372036854775807 := ok.1
  obtain ⟨k1, r, e1, e2, e3, e4, e5⟩ := mark_loop (l := a) (B := 1152921504606846976) (bm := p_laws_markIntS_b0 a) (bh := fun r => p_laws_heldIntS_b0 r) (fun i hi r hr hn k h0 hB => by
    have hi2 : i < r.length := by omega
    have hc : Ct.ct (nth a i) = 1 := rfl
    have g1 : I64 (k + 1) := i64B (by omega) (by omega)
    refine ⟨k, k + 1, ?_, by omega, by omega, fun r' hr' hu => ?_⟩
    · unfold p_laws_markIntS_b0
      simp only [dlt hi, cond_true, Int.toNat_natCast, gd.yes (ixN hi2), gd.yes g1, gd.yes (i64S hi hm)]
      first | done | rfl
    · have hi3 : i < r'.length := by omega
      unfold p_laws_heldIntS_b0
      simp [hi3, gd.yes (ixN hi3), hu, gd.yes g1, gd.yes (i64S hi hm)])
    (fun r k hr => by unfold p_laws_markIntS_b0; simp) (fun r k hr => by unfold p_laws_heldIntS_b0; simp [hr]) h0 hB
  refine ⟨k1, r, ?_, e3, e4, ?_⟩
  · unfold p_laws_markIntS; rw [e1]; rfl
  · unfold p_laws_heldIntS; rw [e5]; rfl
theorem m_PostS (a : (List Post)) (k : Int) (h0 : 0 ≤ k) (hB : k + (Ct.ct a : Nat) ≤ 1152921504606846976) (ok : Dp.ok a) : MkR p_laws_markPostS p_laws_heldPostS a k := by
  have hm : a.length ≤ 9223372036854775807 := ok.1
  obtain ⟨k1, r, e1, e2, e3, e4, e5⟩ := mark_loop (l := a) (B := 1152921504606846976) (bm := p_laws_markPostS_b0 a) (bh := fun r => p_laws_heldPostS_b0 r) (fun i hi r hr hn k h0 hB => by
    have hi2 : i < r.length := by omega
    have hc : Ct.ct (nth a i) = (1 + (1)) + (Ct.ct ((nth a i).2)) := rfl
    obtain ⟨t0, ht0⟩ := mt_total (k) (by omega) (by omega)
    have g1 : I64 (k + 1) := i64B (by omega) (by omega)
    obtain ⟨t1, ht1⟩ := mt_total (k + 1) (by omega) (by omega)
    have g2 : I64 ((k + 1) + 1) := i64B (by omega) (by omega)
    obtain ⟨c1, s1, x1, y1, z1, w1⟩ := m_IntS ((nth a i).2) ((k + 1) + 1) (by omega) (by omega) (ok.2 i hi).2
    have q1 : ¬ c1 < 0 := by omega
    refine ⟨((t0, t1), s1), c1, ?_, by omega, by omega, fun r' hr' hu => ?_⟩
    · unfold p_laws_markPostS_b0
      simp only [dlt hi, cond_true, Int.toNat_natCast, gd.yes (ixN hi2), hn, ht0, gd.yes g1, ht1, gd.yes g2, x1, bd_some, gd.yes (i64S hi hm)]
      first | done | rfl
    · have hi3 : i < r'.length := by omega
      unfold p_laws_heldPostS_b0
      simp [hi3, gd.yes (ixN hi3), hu, ht0, gd.yes g1, ht1, gd.yes g2, w1, q1, gd.yes (i64S hi hm)])
    (fun r k hr => by unfold p_laws_markPostS_b0; simp) (fun r k hr => by unfold p_laws_heldPostS_b0; simp [hr]) h0 hB
  refine ⟨k1, r, ?_, e3, e4, ?_⟩
  · unfold p_laws_markPostS; rw [e1]; rfl
  · unfold p_laws_heldPostS; rw [e5]; rfl
theorem m_Index (a : Index) (k : Int) (h0 : 0 ≤ k) (hB : k + (Ct.ct a : Nat) ≤ 1152921504606846976) (ok : Dp.ok a) : MkR p_laws_markIndex p_laws_heldIndex a k := by
  have hc : Ct.ct a = Ct.ct a.1 + (Ct.ct a.2) := rfl
  obtain ⟨k1, r1, e1, l1, u1, f1⟩ := m_TagSS a.1 k (by omega) (by omega) ok.1
  have q1 : ¬ k1 < 0 := by omega
  obtain ⟨k2, r2, e2, l2, u2, f2⟩ := m_PostS a.2 k1 (by omega) (by omega) ok.2
  have q2 : ¬ k2 < 0 := by omega
  refine ⟨k2, (r1, r2), ?_, by omega, by omega, ?_⟩
  · unfold p_laws_markIndex; simp only [e1, e2, bd_some]
  · unfold p_laws_heldIndex; simp [f1, q1, f2, q2]
def inn (lo n hi : Int) : Bool := decide (lo ≤ n) && decide (n ≤ hi)
theorem e_impl_within (n lo hi : Int) : p_impl_within n lo hi = some (inn lo n hi) := by
  unfold p_impl_within inn; cases decide (lo ≤ n) <;> rfl
theorem e_spec_l6In (n lo hi : Int) : p_spec_l6In n lo hi = some (inn lo n hi) := by
  unfold p_spec_l6In inn; cases decide (lo ≤ n) <;> rfl
/-- a row laid in, as the reference does it: whatever the order -/
def l2 (r : Row) : Bool → List Row → List Row
  | put, [] => if put then [] else [r]
  | put, x :: t => (if !put && decide (r.1 ≤ x.1) then [r] else []) ++ ((if x.1 = r.1 then [] else [x]) ++ l2 r (put || decide (r.1 ≤ x.1)) t)
theorem nth_mem {α : Type} [Inhabited α] {l : List α} {k : Nat} (h : k < l.length) : nth l k ∈ l := by rw [nth_eq l k h]; exact List.getElem_mem h
/-- tags, names, filters -/
theorem ba_one {x : ByteArray} (h : x.size = 1) : x = ⟨#[sb x 0]⟩ := by
  have : x.data.size = 1 := h
  apply ByteArray.ext
  apply Array.ext
  · rw [this]; rfl
  · intro i h1 h2
    have hi : i = 0 := by omega
    subst hi
    simp [sb, this]
theorem sl_one (a b : UInt8) : sless ⟨#[a]⟩ ⟨#[b]⟩ = decide (a < b) := by
  rw [sless_lt]
  have e : ∀ c : UInt8, (⟨#[c]⟩ : ByteArray).toList = [c] := fun c => by simp [ByteArray.toList, ByteArray.toList.loop, ByteArray.size, ByteArray.get!]
  have h2 : ([a] < [b]) ↔ a < b := by rw [List.cons_lt_cons_iff]; simp
  rw [e, e]
  exact decide_eq_decide.2 h2
def tagB (t : Tag) : Bool := decide (t.1.size = 1) && (decide (t.2.size = 1) && (inn 97 ((sb t.1 0).toNat : Int) 100 && inn 112 ((sb t.2 0).toNat : Int) 122))
theorem e_spec_l3Tag (t : Tag) : p_spec_l3Tag t = some (tagB t) := by
  unfold p_spec_l3Tag tagB
  have c1 : decide ((t.1.size : Int) = 1) = decide (t.1.size = 1) := decide_eq_decide.2 (by omega)
  have c2 : decide ((t.2.size : Int) = 1) = decide (t.2.size = 1) := decide_eq_decide.2 (by omega)
  rw [c1, c2]
  by_cases h1 : t.1.size = 1
  · by_cases h2 : t.2.size = 1
    · simp only [h1, h2, decide_true, cond_true, gd.yes (show ix 0 1 by unfold ix; omega), e_spec_l6In, bd_some, Bool.true_and]
      cases inn 97 ((sb t.1 0).toNat : Int) 100 <;> simp
    · simp [h1, h2]
  · simp [h1]
theorem rng_one {x : ByteArray} (h : x.size = 1) (lo hi : UInt8) : (!sless x ⟨#[lo]⟩ && (sless x ⟨#[hi]⟩ || decide (x = ⟨#[hi]⟩))) = inn (lo.toNat : Int) ((sb x 0).toNat : Int) (hi.toNat : Int) := by
  have hx := ba_one h
  generalize sb x 0 = c at *
  subst hx
  rw [sl_one, sl_one]
  have e1 : (!decide (c < lo)) = decide ((lo.toNat : Int) ≤ (c.toNat : Int)) := by
    by_cases k : c < lo
    · have : c.toNat < lo.toNat := UInt8.lt_iff_toNat_lt.1 k
      simp [k]; omega
    · have : ¬ c.toNat < lo.toNat := fun q => k (UInt8.lt_iff_toNat_lt.2 q)
      simp [k]; omega
  have e2 : (decide (c < hi) || decide ((⟨#[c]⟩ : ByteArray) = ⟨#[hi]⟩)) = decide ((c.toNat : Int) ≤ (hi.toNat : Int)) := by
    by_cases k : c < hi
    · have : c.toNat < hi.toNat := UInt8.lt_iff_toNat_lt.1 k
      simp [k]; omega
    · have h3 : ¬ c.toNat < hi.toNat := fun q => k (UInt8.lt_iff_toNat_lt.2 q)
      by_cases e : c = hi
      · subst e; simp
      · have h4 : c.toNat ≠ hi.toNat := fun q => e (UInt8.toNat_inj.1 q)
        have h5 : (⟨#[c]⟩ : ByteArray) ≠ ⟨#[hi]⟩ := fun q => e (by
          have := congrArg (fun b : ByteArray => b.data.toList) q
          simpa using this)
        simp [k, h5]; omega
  rw [e1, e2]; rfl
theorem e_impl_tagOk (t : Tag) : p_impl_tagOk t = some (tagB t) := by
  unfold p_impl_tagOk tagB
  have c1 : decide ((t.1.size : Int) = 1) = decide (t.1.size = 1) := decide_eq_decide.2 (by omega)
  have c2 : decide ((t.2.size : Int) = 1) = decide (t.2.size = 1) := decide_eq_decide.2 (by omega)
  rw [c1, c2]
  by_cases h1 : t.1.size = 1
  · have r1 := rng_one h1 97 100
    rw [show ((97 : UInt8).toNat : Int) = 97 from rfl, show ((100 : UInt8).toNat : Int) = 100 from rfl] at r1
    rw [← r1]
    by_cases h2 : t.2.size = 1
    · have r2 := rng_one h2 112 122
      rw [show ((112 : UInt8).toNat : Int) = 112 from rfl, show ((122 : UInt8).toNat : Int) = 122 from rfl] at r2
      rw [← r2]
      simp only [h1, h2, decide_true, cond_true, Bool.true_and]
      cases (!sless t.1 ⟨#[97]⟩) <;> cases (sless t.1 ⟨#[100]⟩ || decide (t.1 = ⟨#[100]⟩)) <;> cases (!sless t.2 ⟨#[112]⟩) <;> rfl
    · simp only [h1, h2, decide_true, decide_false, cond_true, cond_false, Bool.true_and, Bool.false_and]
      cases (!sless t.1 ⟨#[97]⟩) <;> cases (sless t.1 ⟨#[100]⟩ || decide (t.1 = ⟨#[100]⟩)) <;> rfl
  · simp [h1]
def nameBad (n : List Tag) (k : Nat) : Bool := !tagB (nth n k) || (decide (0 < k) && !sless (nth n (k - 1)).1 (nth n k).1)
def nameOk (n : List Tag) : Bool := allN n.length (nameBad n) && inn 1 (n.length : Int) 3
theorem e_impl_NameOk (n : List Tag) (hn : n.length ≤ maxLen) : p_impl_NameOk n = some (nameOk n) := by
  have hn' : n.length ≤ 9223372036854775807 := hn
  have hr : ∀ k, k < n.length → p_impl_NameOk_b0 n (k : Int) = some (if nameBad n k then .inr (.inr false) else .inl ((k + 1 : Nat) : Int)) := fun k hk => by
    unfold p_impl_NameOk_b0 nameBad
    simp only [dlt hk, cond_true, gd.yes (ixN hk), e_impl_tagOk, bd_some, Int.toNat_natCast, gd.yes (i64S hk hn')]
    cases h1 : tagB (nth n k) with
    | false => simp
    | true =>
      simp only [Bool.not_true, cond_false, Bool.false_or]
      by_cases h0 : 0 < k
      · have h0' : (0 : Int) < k := by omega
        have e1 : (k : Int) - 1 = ((k - 1 : Nat) : Int) := by omega
        have hi : I64 ((k - 1 : Nat) : Int) := by unfold I64; omega
        simp only [h0, h0', decide_true, cond_true, e1, gd.yes hi, gd.yes (ixN (show k - 1 < n.length by omega)), Int.toNat_natCast, bd_some, Bool.true_and]
        cases sless (nth n (k - 1)).1 (nth n k).1 <;> simp
      · simp [h0]
  unfold p_impl_NameOk nameOk
  rcases lp_scan (body := p_impl_NameOk_b0 n) (fun k => (k : Int)) n.length (nameBad n) (.inl ()) (fun _ => .inr false) (fun k hk _ h => by simp [hr k hk, h]) (fun k hk _ h => by simp [hr k hk, h]) (fun _ => by unfold p_impl_NameOk_b0; simp) with ⟨h1, h2⟩ | ⟨h1, k, _, _, _, h2⟩
  · rw [show (lp (p_impl_NameOk_b0 n) 0) = _ from h2, h1]; simp [sw, e_impl_within]
  · rw [show (lp (p_impl_NameOk_b0 n) 0) = _ from h2, h1]; simp [sw]
theorem e_spec_NameOk (n : List Tag) (hn : n.length ≤ maxLen) : p_spec_NameOk n = some (nameOk n) := by
  have hn' : n.length ≤ 9223372036854775807 := hn
  have hr : ∀ k, k < n.length → p_spec_NameOk_b0 n (k : Int) = some (if nameBad n k then .inr (.inr false) else .inl ((k + 1 : Nat) : Int)) := fun k hk => by
    unfold p_spec_NameOk_b0 nameBad
    simp only [dlt hk, cond_true, gd.yes (ixN hk), e_spec_l3Tag, bd_some, Int.toNat_natCast, gd.yes (i64S hk hn')]
    cases h1 : tagB (nth n k) with
    | false => simp
    | true =>
      simp only [Bool.not_true, cond_false, Bool.false_or]
      by_cases h0 : 0 < k
      · have h0' : (0 : Int) < k := by omega
        have e1 : (k : Int) - 1 = ((k - 1 : Nat) : Int) := by omega
        have hi : I64 ((k - 1 : Nat) : Int) := by unfold I64; omega
        simp only [h0, h0', decide_true, cond_true, e1, gd.yes hi, gd.yes (ixN (show k - 1 < n.length by omega)), Int.toNat_natCast, bd_some, Bool.true_and]
        cases sless (nth n (k - 1)).1 (nth n k).1 <;> simp
      · simp [h0]
  unfold p_spec_NameOk nameOk
  rcases lp_scan (body := p_spec_NameOk_b0 n) (fun k => (k : Int)) n.length (nameBad n) (.inl ()) (fun _ => .inr false) (fun k hk _ h => by simp [hr k hk, h]) (fun k hk _ h => by simp [hr k hk, h]) (fun _ => by unfold p_spec_NameOk_b0; simp) with ⟨h1, h2⟩ | ⟨h1, k, _, _, _, h2⟩
  · rw [show (lp (p_spec_NameOk_b0 n) 0) = _ from h2, h1]; simp [sw, e_spec_l6In]
  · rw [show (lp (p_spec_NameOk_b0 n) 0) = _ from h2, h1]; simp [sw]
/-- a search from the front -/
theorem allN_mem {α : Type} [Inhabited α] {l : List α} {p : α → Bool} : allN l.length (fun k => p (nth l k)) = true ↔ ∀ x ∈ l, p x = false := by
  rw [allN_iff]
  constructor
  · intro h x hx
    obtain ⟨i, hi, rfl⟩ := List.mem_iff_getElem.1 hx
    have := h i hi
    rwa [nth_eq l i hi] at this
  · intro h i hi
    rw [nth_eq l i hi]
    exact h _ (List.getElem_mem hi)
def hasT (n : List Tag) (t : Tag) : Bool := n.any fun x => decide (x = t)
theorem hasT_iff {n : List Tag} {t : Tag} : hasT n t = true ↔ t ∈ n := by simp [hasT]
theorem hasT_no {n : List Tag} {t : Tag} (h : t ∉ n) : hasT n t = false := by
  cases hc : hasT n t with
  | false => rfl
  | true => exact absurd (hasT_iff.1 hc) h
theorem e_spec_l3Has (n : List Tag) (t : Tag) (hn : n.length ≤ maxLen) : p_spec_l3Has n t = some (hasT n t) := by
  have hn' : n.length ≤ 9223372036854775807 := hn
  have hr : ∀ k, k < n.length → p_spec_l3Has_b0 n t (k : Int) = some (if decide (nth n k = t) then .inr (.inr true) else .inl ((k + 1 : Nat) : Int)) := fun k hk => by
    unfold p_spec_l3Has_b0
    simp only [dlt hk, cond_true, gd.yes (ixN hk), Int.toNat_natCast, gd.yes (i64S hk hn')]
    by_cases h : nth n k = t <;> simp [h]
  unfold p_spec_l3Has
  rcases lp_scan (body := p_spec_l3Has_b0 n t) (fun k => (k : Int)) n.length (fun k => decide (nth n k = t)) (.inl ()) (fun _ => .inr true) (fun k hk _ h => by simp [hr k hk, of_decide_eq_false h]) (fun k hk _ h => by simp [hr k hk, of_decide_eq_true h]) (fun _ => by unfold p_spec_l3Has_b0; simp) with ⟨h1, h2⟩ | ⟨h1, k, hk, hb, _, h2⟩
  · rw [show (lp (p_spec_l3Has_b0 n t) 0) = _ from h2]
    have : t ∉ n := fun ht => by
      have := (allN_mem (l := n) (p := fun x => decide (x = t))).1 h1 t ht
      simp at this
    simp [sw, hasT_no this]
  · rw [show (lp (p_spec_l3Has_b0 n t) 0) = _ from h2]
    have : t ∈ n := (of_decide_eq_true hb) ▸ nth_mem hk
    simp [sw, hasT_iff.2 this]
/-- names copied, texts of names, the index of names -/
theorem e_impl_cloneNames (names : List (List Tag)) (h1 : names.length ≤ 4194304) (h2 : ∀ n ∈ names, n.length ≤ 4194304) : p_impl_cloneNames names = some names := by
  unfold p_impl_cloneNames
  rw [show (([] : List (List Tag)), (0 : Int)) = (names.take 0, ((0 : Nat) : Int)) from rfl, lp_for (fun k => (names.take k, (k : Int))) names.length names (fun k hk => by
    unfold p_impl_cloneNames_b0
    have hl := h2 _ (nth_mem hk)
    simp only [dlt hk, cond_true, gd.yes (ixN hk), Int.toNat_natCast, List.length_nil, List.nil_append, List.length_take]
    rw [gd.yes (by unfold room; omega), gd.yes (by unfold room; omega), gd.yes (by unfold I64; omega), take_succ_nth hk]
    rfl) (by unfold p_impl_cloneNames_b0; simp)]
  rfl
theorem e_spec_l11Names (names : List (List Tag)) (h1 : names.length ≤ 4194304) (h2 : ∀ n ∈ names, n.length ≤ 4194304) : p_spec_l11Names names = some names := by
  unfold p_spec_l11Names
  rw [show (([] : List (List Tag)), (0 : Int)) = (names.take 0, ((0 : Nat) : Int)) from rfl, lp_for (fun k => (names.take k, (k : Int))) names.length names (fun k hk => by
    unfold p_spec_l11Names_b0
    have hl := h2 _ (nth_mem hk)
    simp only [dlt hk, cond_true, gd.yes (ixN hk), Int.toNat_natCast, List.length_nil, List.nil_append, List.length_take]
    rw [gd.yes (by unfold room; omega), gd.yes (by unfold room; omega), gd.yes (by unfold I64; omega), take_succ_nth hk]
    rfl) (by unfold p_spec_l11Names_b0; simp)]
  rfl
/-- a posting more -/
def addT : List Post → Tag → Int → List Post
  | [], t, i => [(t, [i])]
  | p :: P, t, i => if p.1 = t then (p.1, p.2 ++ [i]) :: P else p :: addT P t i
def addN (P : List Post) (n : List Tag) (i : Int) : List Post := n.foldl (fun P t => addT P t i) P
def postsF (names : List (List Tag)) : Nat → List Post
  | 0 => []
  | m + 1 => addN (postsF names m) (nth names m) ((m : Int) + 1)
def indexP (names : List (List Tag)) : Index := (names, (postsF names names.length).mergeSort leP)
theorem addT_old (P : List Post) (t : Tag) (i : Int) (h : t ∈ P.map (·.1)) : (addT P t i).map (·.1) = P.map (·.1) := by
  induction P with
  | nil => cases h
  | cons p P ih =>
    unfold addT
    by_cases e : p.1 = t
    · simp [e]
    · rw [if_neg e, List.map_cons, List.map_cons, ih]
      rcases List.mem_cons.1 h with h | h
      · exact absurd h.symm e
      · exact h
theorem addT_new (P : List Post) (t : Tag) (i : Int) (h : t ∉ P.map (·.1)) : (addT P t i).map (·.1) = P.map (·.1) ++ [t] := by
  induction P with
  | nil => rfl
  | cons p P ih =>
    unfold addT
    have e : p.1 ≠ t := fun e => h (by rw [List.map_cons, e]; exact List.mem_cons_self ..)
    rw [if_neg e, List.map_cons, List.map_cons, ih (fun q => h (by rw [List.map_cons]; exact List.mem_cons_of_mem _ q))]
    rfl
theorem addT_nodup {P : List Post} (h : (P.map (·.1)).Nodup) (t : Tag) (i : Int) : ((addT P t i).map (·.1)).Nodup := by
  by_cases hm : t ∈ P.map (·.1)
  · rw [addT_old P t i hm]; exact h
  · rw [addT_new P t i hm, List.nodup_append]
    exact ⟨h, by simp, fun a ha b hb => by simp at hb; subst hb; exact fun e => hm (e ▸ ha)⟩
theorem addN_cons (P : List Post) (t : Tag) (n : List Tag) (i : Int) : addN P (t :: n) i = addN (addT P t i) n i := rfl
theorem postsF_succ (names : List (List Tag)) (m : Nat) : postsF names (m + 1) = addN (postsF names m) (nth names m) ((m : Int) + 1) := rfl
theorem addN_nodup (n : List Tag) (i : Int) : ∀ {P : List Post}, (P.map (·.1)).Nodup → ((addN P n i).map (·.1)).Nodup := by
  unfold addN
  induction n with
  | nil => intro P h; exact h
  | cons t n ih => intro P h; exact ih (addT_nodup h t i)
theorem postsF_nodup (names : List (List Tag)) : ∀ m, ((postsF names m).map (·.1)).Nodup
  | 0 => by simp [postsF]
  | m + 1 => addN_nodup _ _ (postsF_nodup names m)
/-- no more than so many -/
def bnd (P : List Post) (c : Nat) : Prop := P.length ≤ c ∧ ∀ p ∈ P, p.2.length ≤ c
theorem bnd_addT {P : List Post} {c : Nat} (h : bnd P c) (t : Tag) (i : Int) : bnd (addT P t i) (c + 1) := by
  obtain ⟨h1, h2⟩ := h
  have len : (addT P t i).length ≤ P.length + 1 := by
    clear h1 h2
    induction P with
    | nil => simp [addT]
    | cons p P ih => unfold addT; split <;> simp <;> omega
  refine ⟨by omega, ?_⟩
  clear len h1
  induction P with
  | nil => intro p hp; simp [addT] at hp; subst hp; simp
  | cons q P ih =>
    intro p hp
    unfold addT at hp
    split at hp
    · rcases List.mem_cons.1 hp with rfl | hp
      · have := h2 q (List.mem_cons_self ..)
        simp; omega
      · have := h2 p (List.mem_cons_of_mem _ hp); omega
    · rcases List.mem_cons.1 hp with rfl | hp
      · have := h2 p (List.mem_cons_self ..); omega
      · exact ih (fun r hr => h2 r (List.mem_cons_of_mem _ hr)) p hp
theorem addT_none {P : List Post} {t : Tag} (i : Int) (h : ∀ k, k < P.length → (nth P k).1 ≠ t) : addT P t i = P ++ [(t, [i])] := by
  induction P with
  | nil => rfl
  | cons p P ih =>
    have h0 : p.1 ≠ t := h 0 (by simp)
    unfold addT
    rw [if_neg h0, ih (fun k hk => h (k + 1) (by simp; omega))]; rfl
theorem addT_some {P : List Post} {t : Tag} (i : Int) : ∀ {k : Nat}, k < P.length → (nth P k).1 = t → (∀ j, j < k → (nth P j).1 ≠ t) → addT P t i = P.set k ((nth P k).1, (nth P k).2 ++ [i]) := by
  induction P with
  | nil => intro k hk; simp at hk
  | cons p P ih =>
    intro k hk he hn
    cases k with
    | zero =>
      have he : p.1 = t := he
      unfold addT; rw [if_pos he]; rfl
    | succ k =>
      have h0 : p.1 ≠ t := hn 0 (by omega)
      unfold addT
      rw [if_neg h0, ih (k := k) (by simpa using hk) he (fun j hj => hn (j + 1) (by omega))]
      rfl
theorem e_IndexFunc1 (P : List Post) (t : Tag) (hP : P.length ≤ 4194304) : (∃ k : Nat, k < P.length ∧ (nth P k).1 = t ∧ (∀ j, j < k → (nth P j).1 ≠ t) ∧ p_slices_IndexFunc_Post_Post_indexOf_1 P t = some (k : Int)) ∨ ((∀ k, k < P.length → (nth P k).1 ≠ t) ∧ p_slices_IndexFunc_Post_Post_indexOf_1 P t = some (-1)) := by
  have hr : ∀ k, k < P.length → p_slices_IndexFunc_Post_Post_indexOf_1_b0 P t (k : Int) = some (if decide ((nth P k).1 = t) then .inr (.inr (k : Int)) else .inl ((k + 1 : Nat) : Int)) := fun k hk => by
    unfold p_slices_IndexFunc_Post_Post_indexOf_1_b0 p_impl_indexOf_1
    simp only [dlt hk, cond_true, gd.yes (ixN hk), Int.toNat_natCast, bd_some, gd.yes (i64S hk (by omega))]
    by_cases h : (nth P k).1 = t <;> simp [h]
  unfold p_slices_IndexFunc_Post_Post_indexOf_1
  rcases lp_scan (body := p_slices_IndexFunc_Post_Post_indexOf_1_b0 P t) (fun k => (k : Int)) P.length (fun k => decide ((nth P k).1 = t)) (.inl ()) (fun k => .inr (k : Int)) (fun k hk _ h => by simp [hr k hk, of_decide_eq_false h]) (fun k hk _ h => by rw [hr k hk, if_pos h]) (fun _ => by unfold p_slices_IndexFunc_Post_Post_indexOf_1_b0; simp) with ⟨h1, h2⟩ | ⟨h1, k, hk, hb, hn, h2⟩
  · exact .inr ⟨fun k hk => of_decide_eq_false (allN_iff.1 h1 k hk), by rw [show (lp (p_slices_IndexFunc_Post_Post_indexOf_1_b0 P t) 0) = _ from h2]; rfl⟩
  · exact .inl ⟨k, hk, of_decide_eq_true hb, fun j hj => of_decide_eq_false (hn j hj), by rw [show (lp (p_slices_IndexFunc_Post_Post_indexOf_1_b0 P t) 0) = _ from h2]; rfl⟩
/-- the tags of a name -/
theorem e_tags (names : List (List Tag)) (Q : List Post) (m : Nat) (hm : m < 4194304) (c : Nat) (n : List Tag) (hn : n = nth names m) (hc : c + n.length ≤ 4194304) : ∀ (r j : Nat) (P : List Post), j + r = n.length → bnd P (c + j) →
    lp (p_impl_indexOf_b1 names (Q, (m : Int))) (P, (j : Int)) = some (addN P (n.drop j) ((m : Int) + 1)) ∧ bnd (addN P (n.drop j) ((m : Int) + 1)) (c + n.length)
  | 0, j, P, hj, hb => by
    have : n.drop j = [] := List.drop_eq_nil_of_le (by omega)
    rw [this]
    refine ⟨lp.stop ?_, by rw [show c + n.length = c + j by omega]; exact hb⟩
    unfold p_impl_indexOf_b1
    simp only [Int.toNat_natCast, ← hn]
    rw [decide_eq_false (show ¬ ((j : Int) < (n.length : Int)) by omega)]; rfl
  | r + 1, j, P, hj, hb => by
    have hjn : j < n.length := by omega
    have hd : n.drop j = nth n j :: n.drop (j + 1) := by rw [nth_eq n j hjn]; exact List.drop_eq_getElem_cons hjn
    have hP1 := hb.1
    have step : p_impl_indexOf_b1 names (Q, (m : Int)) (P, (j : Int)) = some (.inl (addT P (nth n j) ((m : Int) + 1), ((j + 1 : Nat) : Int))) := by
      unfold p_impl_indexOf_b1
      simp only [Int.toNat_natCast, ← hn, dlt hjn, cond_true, gd.yes (ixN hjn)]
      rcases e_IndexFunc1 P (nth n j) (by omega) with ⟨k, hk, he, hno, hf⟩ | ⟨hno, hf⟩
      · have hl := hb.2 _ (nth_mem hk)
        rw [hf]
        simp only [bd_some]
        rw [decide_eq_false (show ¬ ((k : Int) < 0) by omega)]
        rw [cond_false, gd.yes (ixN hk)]
        simp only [Int.toNat_natCast]
        rw [gd.yes (by unfold I64; omega), gd.yes (by unfold room; omega), gd.yes (by unfold I64; omega), addT_some _ hk he hno]
        rfl
      · rw [hf]
        simp only [bd_some]
        rw [decide_eq_true (show ((-1 : Int) < 0) by omega)]
        have e1 : nth (P ++ [(nth n j, ([] : List Int))]) P.length = (nth n j, []) := nth_append_new
        simp only [cond_true, e1, List.nil_append, List.length_nil]
        rw [gd.yes (by unfold room; omega), gd.yes (by unfold ix; simp; omega), gd.yes (by unfold I64; omega), gd.yes (by unfold room; omega), gd.yes (by unfold I64; omega), addT_none _ hno]
        simp
    rw [lp.step step, hd, addN_cons]
    exact e_tags names Q m hm c n hn hc r (j + 1) _ (by omega) (by rw [← Nat.add_assoc]; exact bnd_addT hb _ _)
theorem e_posts (names : List (List Tag)) (hN : names.length ≤ 4194304) (hs : sumN names.length (fun i => (nth names i).length) ≤ 4194304) : ∀ m, m ≤ names.length → bnd (postsF names m) (sumN m fun i => (nth names i).length) ∧ lp (p_impl_indexOf_b0 names) (([] : List Post), (0 : Int)) = lp (p_impl_indexOf_b0 names) (postsF names m, (m : Int))
  | 0, _ => ⟨⟨by simp [postsF], fun p hp => by simp [postsF] at hp⟩, rfl⟩
  | m + 1, hm => by
    obtain ⟨b, e⟩ := e_posts names hN hs m (by omega)
    have hmn : m < names.length := by omega
    have hle : sumN m (fun i => (nth names i).length) + (nth names m).length ≤ sumN names.length (fun i => (nth names i).length) := sumN_lt hmn
    obtain ⟨t1, t2⟩ := e_tags names (postsF names m) m (by omega) _ (nth names m) rfl (by omega) (nth names m).length 0 (postsF names m) (by omega) b
    rw [List.drop_zero] at t1 t2
    refine ⟨t2, ?_⟩
    rw [e, lp.step (s' := (postsF names (m + 1), ((m + 1 : Nat) : Int)))]
    rw [postsF_succ]
    unfold p_impl_indexOf_b0
    rw [show ((0 : Nat) : Int) = 0 from rfl] at t1
    rw [dlt hmn, cond_true, gd.yes (ixN hmn), bd.yes t1]
    rw [gd.yes (by unfold I64; omega), addI]
theorem e_indexOf (names : List (List Tag)) (hN : names.length ≤ 4194304) (hs : sumN names.length (fun i => (nth names i).length) ≤ 4194304) : p_impl_indexOf names = some (indexP names) := by
  have hn : ∀ n ∈ names, n.length ≤ 4194304 := fun n h => by
    obtain ⟨i, hi, rfl⟩ := List.mem_iff_getElem.1 h
    have := sumN_get (f := fun i => (nth names i).length) hi
    simp only [nth_eq names i hi] at this
    omega
  obtain ⟨b, e⟩ := e_posts names hN hs names.length (Nat.le_refl _)
  unfold p_impl_indexOf
  rw [e_impl_cloneNames names hN hn]
  simp only [bd_some]
  rw [e, lp.stop (e := postsF names names.length) (by
    unfold p_impl_indexOf_b0
    rw [decide_eq_false (show ¬ ((names.length : Int) < (names.length : Int)) by omega)]; rfl)]
  simp only [bd_some]
  have hl := b.1
  unfold p_slices_SortFunc_Post_Post_indexOf_2 sortP
  rw [gd.yes (show room (postsF names names.length).length by unfold room; omega), gd.yes (postsF_nodup names _)]
  rfl
/-- texts of names -/
def textK (n : List Tag) : Nat → ByteArray
  | 0 => ⟨#[]⟩
  | m + 1 => (((if 0 < m then textK n m ++ ⟨#[44]⟩ else textK n m) ++ (nth n m).1) ++ ⟨#[61]⟩) ++ (nth n m).2
def textN (n : List Tag) : ByteArray := textK n n.length
theorem textK_size (n : List Tag) : ∀ m, (textK n m).size ≤ 2 * m + sumN m fun i => (nth n i).1.size + (nth n i).2.size
  | 0 => Nat.zero_le _
  | m + 1 => by
    have ih := textK_size n m
    show ((((if 0 < m then textK n m ++ ⟨#[44]⟩ else textK n m) ++ (nth n m).1) ++ ⟨#[61]⟩) ++ (nth n m).2).size ≤ 2 * (m + 1) + (sumN m (fun i => (nth n i).1.size + (nth n i).2.size) + ((nth n m).1.size + (nth n m).2.size))
    have e1 : ((⟨#[61]⟩ : ByteArray)).size = 1 := rfl
    have e2 : ((⟨#[44]⟩ : ByteArray)).size = 1 := rfl
    split
    · simp only [ByteArray.size_append, e1, e2]; omega
    · simp only [ByteArray.size_append, e1]; omega
theorem textK_pos {n : List Tag} {m : Nat} (h : 0 < m) : textK n (m + 1) = (((textK n m ++ ⟨#[44]⟩) ++ (nth n m).1) ++ ⟨#[61]⟩) ++ (nth n m).2 := by
  show (((if 0 < m then textK n m ++ ⟨#[44]⟩ else textK n m) ++ (nth n m).1) ++ ⟨#[61]⟩) ++ (nth n m).2 = _
  rw [if_pos h]
theorem textK_neg {n : List Tag} {m : Nat} (h : ¬ 0 < m) : textK n (m + 1) = ((textK n m ++ (nth n m).1) ++ ⟨#[61]⟩) ++ (nth n m).2 := by
  show (((if 0 < m then textK n m ++ ⟨#[44]⟩ else textK n m) ++ (nth n m).1) ++ ⟨#[61]⟩) ++ (nth n m).2 = _
  rw [if_neg h]
theorem w_name (n : List Tag) : Wt.w n = n.length + sumN n.length fun i => (nth n i).1.size + (nth n i).2.size := rfl
theorem e_spec_l3Text (n : List Tag) (hw : Wt.w n ≤ 4194304) : p_spec_l3Text n = some (textN n) := by
  rw [w_name] at hw
  unfold p_spec_l3Text textN
  have e44 : ((⟨#[44]⟩ : ByteArray)).size = 1 := rfl
  have e61 : ((⟨#[61]⟩ : ByteArray)).size = 1 := rfl
  rw [show ((⟨#[]⟩ : ByteArray), (0 : Int)) = (textK n 0, ((0 : Nat) : Int)) from rfl, lp_for (fun k => (textK n k, (k : Int))) n.length (textK n n.length) (fun m hm => by
    have h1 := textK_size n m
    have h2 : (sumN m fun i => (nth n i).1.size + (nth n i).2.size) + ((nth n m).1.size + (nth n m).2.size) ≤ sumN n.length fun i => (nth n i).1.size + (nth n i).2.size := sumN_lt (f := fun i => (nth n i).1.size + (nth n i).2.size) hm
    unfold p_spec_l3Text_b0
    rw [dlt hm, cond_true]
    by_cases h0 : 0 < m
    · rw [decide_eq_true (show (0 : Int) < (m : Int) by omega), cond_true]
      rw [gd.yes (by simp only [room, e44]; omega), gd.yes (ixN hm), gd.yes (by simp only [room, ByteArray.size_append, e44, Int.toNat_natCast]; omega), gd.yes (by simp only [room, ByteArray.size_append, e44, e61, Int.toNat_natCast]; omega), gd.yes (by simp only [room, ByteArray.size_append, e44, e61, Int.toNat_natCast]; omega), gd.yes (by unfold I64; omega), addI]
      rw [textK_pos h0]
      rfl
    · rw [decide_eq_false (show ¬ (0 : Int) < (m : Int) by omega), cond_false]
      rw [gd.yes (ixN hm), gd.yes (by simp only [room, Int.toNat_natCast]; omega), gd.yes (by simp only [room, ByteArray.size_append, e61, Int.toNat_natCast]; omega), gd.yes (by simp only [room, ByteArray.size_append, e61, Int.toNat_natCast]; omega), gd.yes (by unfold I64; omega), addI]
      rw [textK_neg h0]
      rfl) (by unfold p_spec_l3Text_b0; rw [decide_eq_false (show ¬ ((n.length : Int) < (n.length : Int)) by omega)]; rfl)]
  rfl
/-- tags of one byte each -/
def oneB (t : Tag) : Prop := t.1.size = 1 ∧ t.2.size = 1
theorem tagB_one {t : Tag} (h : tagB t = true) : oneB t := by
  unfold tagB at h
  simp only [Bool.and_eq_true, decide_eq_true_eq] at h
  exact ⟨h.1, h.2.1⟩
theorem nameOk_tags {n : List Tag} (h : nameOk n = true) : ∀ t ∈ n, tagB t = true := by
  intro t ht
  unfold nameOk at h
  simp only [Bool.and_eq_true] at h
  obtain ⟨i, hi, rfl⟩ := List.mem_iff_getElem.1 ht
  have := allN_iff.1 h.1 i hi
  unfold nameBad at this
  simp only [Bool.or_eq_false_iff] at this
  rw [← nth_eq n i hi]
  simpa using this.1
theorem nameOk_len {n : List Tag} (h : nameOk n = true) : 1 ≤ n.length ∧ n.length ≤ 3 := by
  unfold nameOk inn at h
  simp only [Bool.and_eq_true, decide_eq_true_eq] at h
  omega
def kb (t : Tag) : UInt8 := sb t.1 0
def vb (t : Tag) : UInt8 := sb t.2 0
def bytesT : List Tag → List UInt8
  | [] => []
  | [t] => [kb t, 61, vb t]
  | t :: u :: r => kb t :: 61 :: vb t :: 44 :: bytesT (u :: r)
theorem bytesT_snoc (l : List Tag) (t : Tag) : bytesT (l ++ [t]) = if l = [] then [kb t, 61, vb t] else bytesT l ++ [44, kb t, 61, vb t] := by
  induction l with
  | nil => rfl
  | cons u l ih =>
    cases l with
    | nil => rfl
    | cons v l =>
      simp only [List.cons_append, bytesT] at ih ⊢
      rw [ih]
      simp
theorem one_bytes {x : ByteArray} (h : x.size = 1) : x.data.toList = [sb x 0] := by
  have := ba_one h
  generalize sb x 0 = c at *
  subst this; rfl
theorem textK_bytes (n : List Tag) (h1 : ∀ t ∈ n, oneB t) : ∀ m, m ≤ n.length → (textK n m).data.toList = bytesT (n.take m)
  | 0, _ => rfl
  | m + 1, hm => by
    have hmn : m < n.length := by omega
    have ih := textK_bytes n h1 m (by omega)
    obtain ⟨o1, o2⟩ := h1 _ (nth_mem hmn)
    rw [take_succ_nth hmn, bytesT_snoc]
    unfold textK
    have e1 := one_bytes o1
    have e2 := one_bytes o2
    by_cases h0 : 0 < m
    · have hne : n.take m ≠ [] := fun e => by have := congrArg List.length e; rw [List.length_take, List.length_nil] at this; omega
      rw [if_pos h0, if_neg hne]
      simp only [ByteArray.data_append, Array.toList_append, ih, e1, e2]
      simp [kb, vb]
    · have hm0 : m = 0 := by omega
      subst hm0
      simp only [ByteArray.data_append, Array.toList_append, e1, e2]
      simp [textK, kb, vb]
theorem tag_ext {t u : Tag} (h1 : oneB t) (h2 : oneB u) (hk : kb t = kb u) (hv : vb t = vb u) : t = u := by
  have a1 := ba_one h1.1
  have a2 := ba_one h1.2
  have b1 := ba_one h2.1
  have b2 := ba_one h2.2
  refine Prod.ext ?_ ?_
  · rw [a1, b1]; unfold kb at hk; rw [hk]
  · rw [a2, b2]; unfold vb at hv; rw [hv]
theorem bytesT_inj : ∀ {a b : List Tag}, (∀ t ∈ a, oneB t) → (∀ t ∈ b, oneB t) → bytesT a = bytesT b → a = b
  | [], [], _, _, _ => rfl
  | [], [t], _, _, h => by simp [bytesT] at h
  | [], t :: u :: r, _, _, h => by simp [bytesT] at h
  | [t], [], _, _, h => by simp [bytesT] at h
  | t :: u :: r, [], _, _, h => by simp [bytesT] at h
  | [t], [u], ha, hb, h => by
    simp only [bytesT, List.cons.injEq, and_true, true_and] at h
    rw [tag_ext (ha t (by simp)) (hb u (by simp)) h.1 h.2]
  | [t], u :: v :: r, _, _, h => by simp [bytesT] at h
  | t :: u :: r, [v], _, _, h => by simp [bytesT] at h
  | t :: u :: r, v :: w :: q, ha, hb, h => by
    simp only [bytesT, List.cons.injEq, true_and] at h
    rw [tag_ext (ha t (by simp)) (hb v (by simp)) h.1 h.2.1, bytesT_inj (a := u :: r) (b := w :: q) (fun x hx => ha x (List.mem_cons_of_mem _ hx)) (fun x hx => hb x (List.mem_cons_of_mem _ hx)) h.2.2]
theorem textN_inj {a b : List Tag} (ha : ∀ t ∈ a, oneB t) (hb : ∀ t ∈ b, oneB t) (h : textN a = textN b) : a = b := by
  have e1 := textK_bytes a ha a.length (Nat.le_refl _)
  have e2 := textK_bytes b hb b.length (Nat.le_refl _)
  rw [List.take_length] at e1 e2
  refine bytesT_inj ha hb ?_
  rw [← e1, ← e2]
  show (textN a).data.toList = (textN b).data.toList
  rw [h]
theorem text_eq {a b : List Tag} (ha : nameOk a = true) (hb : nameOk b = true) : decide (textN a = textN b) = decide (a = b) := by
  by_cases h : a = b
  · subst h; simp
  · have : textN a ≠ textN b := fun e => h (textN_inj (fun t ht => tagB_one (nameOk_tags ha t ht)) (fun t ht => tagB_one (nameOk_tags hb t ht)) e)
    simp [h, this]
/-- which names have a tag -/
def idsN (names : List (List Tag)) (t : Tag) : Nat → List Int
  | 0 => []
  | m + 1 => idsN names t m ++ (if hasT (nth names m) t then [(m : Int) + 1] else [])
theorem idsN_succ (names : List (List Tag)) (t : Tag) (m : Nat) : idsN names t (m + 1) = idsN names t m ++ (if hasT (nth names m) t then [(m : Int) + 1] else []) := rfl
theorem idsN_len (names : List (List Tag)) (t : Tag) : ∀ m, (idsN names t m).length ≤ m
  | 0 => Nat.le_refl _
  | m + 1 => by
    have := idsN_len names t m
    rw [idsN_succ]
    split <;> simp <;> omega
theorem e_spec_l11Ids (names : List (List Tag)) (t : Tag) (h1 : names.length ≤ 4194304) (h2 : ∀ n ∈ names, n.length ≤ 4194304) : p_spec_l11Ids names t = some (idsN names t names.length) := by
  unfold p_spec_l11Ids
  rw [show (([] : List Int), (0 : Int)) = (idsN names t 0, ((0 : Nat) : Int)) from rfl, lp_for (fun k => (idsN names t k, (k : Int))) names.length (idsN names t names.length) (fun m hm => by
    have hl := h2 _ (nth_mem hm)
    have hi := idsN_len names t m
    unfold p_spec_l11Ids_b0
    rw [dlt hm, cond_true, gd.yes (ixN hm)]
    simp only [Int.toNat_natCast]
    rw [bd.yes (e_spec_l3Has (nth names m) t (by unfold maxLen; omega))]
    cases hc : hasT (nth names m) t with
    | true =>
      rw [cond_true, gd.yes (by unfold I64; omega), gd.yes (by unfold room; omega), idsN_succ, if_pos hc, addI]
    | false =>
      rw [cond_false, gd.yes (by unfold I64; omega), addI, idsN_succ, if_neg (by rw [hc]; simp), List.append_nil]) (by
    unfold p_spec_l11Ids_b0; rw [decide_eq_false (show ¬ ((names.length : Int) < (names.length : Int)) by omega)]; rfl)]
  rfl
/-- the numbers that a tag has -/
def idsAt : List Post → Tag → List Int
  | [], _ => []
  | p :: P, t => if p.1 = t then p.2 else idsAt P t
theorem idsAt_addT (P : List Post) (t : Tag) (i : Int) (u : Tag) : idsAt (addT P t i) u = if u = t then idsAt P u ++ [i] else idsAt P u := by
  induction P with
  | nil =>
    unfold addT idsAt
    by_cases h : t = u
    · subst h; simp
    · have h' : ¬ u = t := fun e => h e.symm
      simp [h, h', idsAt]
  | cons p P ih =>
    unfold addT
    by_cases hp : p.1 = t
    · rw [if_pos hp]
      by_cases hu : u = t
      · subst hu; simp [idsAt, hp]
      · have : ¬ p.1 = u := fun e => hu (e ▸ hp)
        simp [idsAt, this, hu]
    · rw [if_neg hp]
      by_cases hu : p.1 = u
      · have : ¬ u = t := fun e => hp (hu.trans e)
        simp [idsAt, hu, this]
      · simp only [idsAt, if_neg hu, ih]
theorem idsAt_addN (n : List Tag) (i : Int) (u : Tag) : ∀ {P : List Post}, n.Nodup → idsAt (addN P n i) u = if hasT n u then idsAt P u ++ [i] else idsAt P u := by
  induction n with
  | nil => intro P _; rfl
  | cons t n ih =>
    intro P hn
    rw [List.nodup_cons] at hn
    rw [addN_cons, ih hn.2, idsAt_addT]
    have hc : hasT (t :: n) u = (decide (t = u) || hasT n u) := rfl
    rw [hc]
    by_cases h1 : u = t
    · subst h1
      rw [hasT_no hn.1]; simp
    · have h2 : ¬ t = u := fun e => h1 e.symm
      simp [h1, h2]
def dist (names : List (List Tag)) : Prop := ∀ n ∈ names, n.Nodup
theorem idsAt_posts {names : List (List Tag)} (hd : dist names) (u : Tag) : ∀ m, m ≤ names.length → idsAt (postsF names m) u = idsN names u m
  | 0, _ => rfl
  | m + 1, hm => by
    rw [postsF_succ, idsAt_addN _ _ _ (hd _ (nth_mem (show m < names.length by omega))), idsAt_posts hd u m (by omega)]
    rw [idsN_succ]
    cases h : hasT (nth names m) u with
    | true => simp
    | false => simp
theorem idsAt_mem {P : List Post} (hn : (P.map (·.1)).Nodup) {p : Post} (hp : p ∈ P) : idsAt P p.1 = p.2 := by
  induction P with
  | nil => cases hp
  | cons q P ih =>
    rw [List.map_cons, List.nodup_cons] at hn
    rcases List.mem_cons.1 hp with rfl | hp
    · simp [idsAt]
    · have : ¬ q.1 = p.1 := fun e => hn.1 (e ▸ List.mem_map_of_mem hp)
      simp only [idsAt, if_neg this]
      exact ih hn.2 hp
theorem idsAt_some {P : List Post} {t : Tag} (h : idsAt P t ≠ []) : ∃ p ∈ P, p.1 = t := by
  induction P with
  | nil => exact absurd rfl h
  | cons q P ih =>
    by_cases e : q.1 = t
    · exact ⟨q, List.mem_cons_self .., e⟩
    · simp only [idsAt, if_neg e] at h
      obtain ⟨p, hp, h1⟩ := ih h
      exact ⟨p, List.mem_cons_of_mem _ hp, h1⟩
theorem addT_ne {P : List Post} (h : ∀ p ∈ P, p.2 ≠ []) (t : Tag) (i : Int) : ∀ p ∈ addT P t i, p.2 ≠ [] := by
  induction P with
  | nil => intro p hp; simp [addT] at hp; subst hp; simp
  | cons q P ih =>
    intro p hp
    unfold addT at hp
    split at hp
    · rcases List.mem_cons.1 hp with rfl | hp
      · simp
      · exact h p (List.mem_cons_of_mem _ hp)
    · rcases List.mem_cons.1 hp with rfl | hp
      · exact h p (List.mem_cons_self ..)
      · exact ih (fun r hr => h r (List.mem_cons_of_mem _ hr)) p hp
theorem addN_ne (n : List Tag) (i : Int) : ∀ {P : List Post}, (∀ p ∈ P, p.2 ≠ []) → ∀ p ∈ addN P n i, p.2 ≠ [] := by
  induction n with
  | nil => intro P h; exact h
  | cons t n ih => intro P h; rw [addN_cons]; exact ih (addT_ne h t i)
theorem posts_ne (names : List (List Tag)) : ∀ m, ∀ p ∈ postsF names m, p.2 ≠ []
  | 0 => fun p hp => by cases hp
  | m + 1 => by rw [postsF_succ]; exact addN_ne _ _ (posts_ne names m)
/-- how many numbers in all -/
def sumL : List Post → Nat
  | [] => 0
  | p :: P => p.2.length + sumL P
theorem sumL_append (P Q : List Post) : sumL (P ++ Q) = sumL P + sumL Q := by
  induction P with
  | nil => simp [sumL]
  | cons p P ih => simp only [List.cons_append, sumL, ih]; omega
theorem sumL_perm {P Q : List Post} (h : P.Perm Q) : sumL P = sumL Q := by
  induction h with
  | nil => rfl
  | cons x _ ih => simp only [sumL, ih]
  | swap x y l => simp only [sumL]; omega
  | trans _ _ h1 h2 => exact h1.trans h2
theorem sumL_addT (P : List Post) (t : Tag) (i : Int) : sumL (addT P t i) = sumL P + 1 := by
  induction P with
  | nil => rfl
  | cons p P ih =>
    unfold addT
    split
    · simp only [sumL, List.length_append, List.length_cons, List.length_nil]; omega
    · simp only [sumL, ih]; omega
theorem sumL_addN (n : List Tag) (i : Int) : ∀ (P : List Post), sumL (addN P n i) = sumL P + n.length := by
  induction n with
  | nil => intro P; rfl
  | cons t n ih => intro P; rw [addN_cons, ih, sumL_addT, List.length_cons]; omega
theorem sumL_posts (names : List (List Tag)) : ∀ m, sumL (postsF names m) = sumN m fun i => (nth names i).length
  | 0 => rfl
  | m + 1 => by
    rw [postsF_succ, sumL_addN, sumL_posts names m]; rfl
/-- the postings of names: by tag, each with the numbers of those that have it -/
structure Canon (names : List (List Tag)) (C : List Post) : Prop where
  ord : C.Pairwise fun x y => ltTag x.1 y.1 = true
  ids : ∀ p ∈ C, p.2 = idsN names p.1 names.length ∧ p.2 ≠ []
  all : ∀ t, idsN names t names.length ≠ [] → ∃ p ∈ C, p.1 = t
theorem canon_posts {names : List (List Tag)} (hd : dist names) : Canon names (indexP names).2 := by
  have hn := postsF_nodup names names.length
  have hp := List.mergeSort_perm (postsF names names.length) leP
  have hs : ((postsF names names.length).mergeSort leP).Pairwise fun x y => leP x y = true := List.pairwise_mergeSort (fun a b c h1 h2 => by
    simp only [leP, Bool.not_eq_true'] at *; exact ltTag_nt h2 h1) (fun a b => by
    simp only [leP, Bool.or_eq_true, Bool.not_eq_true']
    cases h : ltTag b.1 a.1 with
    | false => exact .inl rfl
    | true => exact .inr (ltTag_asym h)) _
  have hn2 : (((postsF names names.length).mergeSort leP).map (·.1)).Nodup := (hp.map _).nodup_iff.2 hn
  refine ⟨?_, fun p hp' => ?_, fun t ht => ?_⟩
  · show ((postsF names names.length).mergeSort leP).Pairwise _
    have hne : ((postsF names names.length).mergeSort leP).Pairwise fun x y => x.1 ≠ y.1 := by
      unfold List.Nodup at hn2
      rwa [List.pairwise_map] at hn2
    refine (hs.and hne).imp ?_
    intro x y h
    have h1 := h.1
    simp only [leP, Bool.not_eq_true'] at h1
    cases hc : ltTag x.1 y.1 with
    | true => rfl
    | false => exact absurd (ltTag_anti hc h1) h.2
  · have hm : p ∈ postsF names names.length := hp.mem_iff.1 hp'
    exact ⟨by rw [← idsAt_posts hd p.1 _ (Nat.le_refl _), idsAt_mem hn hm], posts_ne names _ p hm⟩
  · rw [← idsAt_posts hd t _ (Nat.le_refl _)] at ht
    obtain ⟨p, h1, h2⟩ := idsAt_some ht
    exact ⟨p, hp.mem_iff.2 h1, h2⟩
theorem canon_eq {names : List (List Tag)} {C D : List Post} (hc : Canon names C) (hd : Canon names D) : C = D := by
  have nd : ∀ {E : List Post}, Canon names E → E.Nodup := fun h => h.ord.imp fun {a b} k e => by subst e; rw [ltTag_irr] at k; cases k
  have sub : ∀ {E F : List Post}, Canon names E → Canon names F → ∀ p ∈ E, p ∈ F := fun {E F} hE hF p hp => by
    obtain ⟨e1, e2⟩ := hE.ids p hp
    obtain ⟨q, hq, e3⟩ := hF.all p.1 (e1 ▸ e2)
    have e4 := (hF.ids q hq).1
    have : q = p := Prod.ext e3 (by rw [e4, e3, e1])
    rwa [← this]
  have hperm : C.Perm D := (List.perm_ext_iff_of_nodup (nd hc) (nd hd)).2 fun p => ⟨sub hc hd p, sub hd hc p⟩
  refine List.Perm.eq_of_pairwise (le := fun x y => ltTag x.1 y.1 = true) ?_ hc.ord hd.ord hperm
  intro a b _ _ h1 h2
  have := ltTag_asym h1
  rw [h2] at this; cases this
theorem sub_sum : ∀ {C A : List Post}, A.Nodup → (∀ p ∈ A, p ∈ C) → sumL A ≤ sumL C
  | [], A, _, h => by
    have : A = [] := List.eq_nil_iff_forall_not_mem.2 fun p hp => by cases h p hp
    rw [this]; exact Nat.le_refl _
  | c :: C, A, hn, h => by
    by_cases hc : c ∈ A
    · obtain ⟨A1, A2, rfl⟩ := List.append_of_mem hc
      have hn' := hn
      rw [List.nodup_append] at hn
      obtain ⟨n1, n2, n3⟩ := hn
      rw [List.nodup_cons] at n2
      have hnd : (A1 ++ A2).Nodup := by
        rw [List.nodup_append]
        exact ⟨n1, n2.2, fun a ha b hb => n3 a ha b (List.mem_cons_of_mem _ hb)⟩
      have ih := sub_sum (C := C) (A := A1 ++ A2) hnd (fun p hp => by
        have hpc : p ≠ c := fun e => by
          subst e
          rcases List.mem_append.1 hp with q | q
          · exact n3 p q p (List.mem_cons_self ..) rfl
          · exact n2.1 q
        have hp' : p ∈ A1 ++ c :: A2 := by
          rcases List.mem_append.1 hp with q | q
          · exact List.mem_append_left _ q
          · exact List.mem_append_right _ (List.mem_cons_of_mem _ q)
        rcases List.mem_cons.1 (h p hp') with e | q
        · exact absurd e hpc
        · exact q)
      rw [sumL_append] at ih ⊢
      simp only [sumL] at ih ⊢
      omega
    · have ih := sub_sum (C := C) (A := A) hn (fun p hp => by
        rcases List.mem_cons.1 (h p hp) with e | q
        · exact absurd (e ▸ hp) hc
        · exact q)
      simp only [sumL]; omega
/-- what is in order, told of names that there are, and as many in all: these are the postings -/
theorem canon_of_sum {names : List (List Tag)} {C P : List Post} (hc : Canon names C) (ord : P.Pairwise fun x y => ltTag x.1 y.1 = true) (ids : ∀ p ∈ P, p.2 = idsN names p.1 names.length ∧ p.2 ≠ []) (hs : sumL P = sumL C) : P = C := by
  have nd : P.Nodup := ord.imp fun {a b} k e => by subst e; rw [ltTag_irr] at k; cases k
  have sub : ∀ p ∈ P, p ∈ C := fun p hp => by
    obtain ⟨e1, e2⟩ := ids p hp
    obtain ⟨q, hq, e3⟩ := hc.all p.1 (e1 ▸ e2)
    have : q = p := Prod.ext e3 (by rw [(hc.ids q hq).1, e3, e1])
    rwa [← this]
  refine canon_eq ⟨ord, ids, fun t ht => ?_⟩ hc
  obtain ⟨c, h1, h2⟩ := hc.all t ht
  by_cases hm : c ∈ P
  · exact ⟨c, hm, h2⟩
  · have := sub_sum (C := C) (A := c :: P) (List.nodup_cons.2 ⟨hm, nd⟩) (fun p hp => by
      rcases List.mem_cons.1 hp with rfl | hp
      · exact h1
      · exact sub p hp)
    simp only [sumL] at this
    have h3 : 0 < c.2.length := List.length_pos_iff.2 (hc.ids c h1).2
    omega
theorem nameOk_nodup {n : List Tag} (h : nameOk n = true) : n.Nodup := by
  unfold nameOk at h
  simp only [Bool.and_eq_true] at h
  have hk : ∀ i, i < n.length → nameBad n i = false := allN_iff.1 h.1
  have step : ∀ i, i + 1 < n.length → sless (nth n i).1 (nth n (i + 1)).1 = true := fun i hi => by
    have := hk (i + 1) hi
    unfold nameBad at this
    simp only [Nat.zero_lt_succ, decide_true, Bool.true_and, Nat.add_sub_cancel, Bool.or_eq_false_iff, Bool.not_eq_false'] at this
    exact this.2
  have lt : ∀ d i, i + d + 1 < n.length → sless (nth n i).1 (nth n (i + d + 1)).1 = true := by
    intro d
    induction d with
    | zero => intro i hi; exact step i hi
    | succ d ih => intro i hi; exact sless_trans (ih i (by omega)) (step (i + d + 1) (by omega))
  unfold List.Nodup
  rw [List.pairwise_iff_getElem]
  intro i j hi hj hij e
  obtain ⟨d, rfl⟩ : ∃ d, j = i + d + 1 := ⟨j - i - 1, by omega⟩
  have := lt d i hj
  rw [nth_eq n i hi, nth_eq n _ hj, ← e, sless_irr] at this
  cases this
/-- when an index is one -/
theorem w_names {names : List (List Tag)} (hw : Wt.w names ≤ 4194304) : names.length ≤ 4194304 ∧ (∀ n ∈ names, n.length ≤ 4194304 ∧ Wt.w n ≤ 4194304) ∧ sumN names.length (fun i => (nth names i).length) ≤ 4194304 := by
  have e : Wt.w names = names.length + sumN names.length fun i => Wt.w (nth names i) := rfl
  rw [e] at hw
  refine ⟨by omega, fun n hn => ?_, ?_⟩
  · obtain ⟨i, hi, rfl⟩ := List.mem_iff_getElem.1 hn
    have h1 := sumN_get (f := fun i => Wt.w (nth names i)) hi
    simp only [nth_eq names i hi] at h1
    have h2 : names[i].length ≤ Wt.w names[i] := wL_le
    omega
  · have : sumN names.length (fun i => (nth names i).length) ≤ sumN names.length (fun i => Wt.w (nth names i)) := sumN_mono fun i _ => wL_le
    omega
theorem e_Equal_Tag (a b : List Tag) (ha : a.length ≤ 4194304) : p_slices_Equal_Tag_Tag a b = some (decide (a = b)) := by
  unfold p_slices_Equal_Tag_Tag
  by_cases hl : a.length = b.length
  · have hl2 : (a.length : Int) = (b.length : Int) := by omega
    rw [decide_eq_true hl2, Bool.not_true, cond_false]
    refine eq_loop hl (fun k hk => ?_) ?_
    · have hk2 : k < b.length := by omega
      unfold p_slices_Equal_Tag_Tag_b0
      simp only [dlt hk, cond_true, gd.yes (ixN hk), gd.yes (ixN hk2), Int.toNat_natCast, gd.yes (i64S hk (show a.length ≤ 9223372036854775807 by omega))]
      by_cases h : nth a k = nth b k <;> simp [h]
    · unfold p_slices_Equal_Tag_Tag_b0; simp
  · have h2 : ¬ (a.length : Int) = (b.length : Int) := by omega
    have h3 : a ≠ b := fun e => hl (by rw [e])
    simp [h2, h3]
theorem e_Equal_int (a b : List Int) (ha : a.length ≤ maxLen) : p_slices_Equal_int_int a b = some (decide (a = b)) := by
  have ha : a.length ≤ 9223372036854775807 := ha
  unfold p_slices_Equal_int_int
  by_cases hl : a.length = b.length
  · have hl2 : (a.length : Int) = (b.length : Int) := by omega
    rw [decide_eq_true hl2, Bool.not_true, cond_false]
    refine eq_loop hl (fun k hk => ?_) ?_
    · have hk2 : k < b.length := by omega
      unfold p_slices_Equal_int_int_b0
      simp only [dlt hk, cond_true, gd.yes (ixN hk), gd.yes (ixN hk2), Int.toNat_natCast, gd.yes (i64S hk ha)]
      by_cases h : nth a k = nth b k <;> simp [h]
    · unfold p_slices_Equal_int_int_b0; simp
  · have h2 : ¬ (a.length : Int) = (b.length : Int) := by omega
    have h3 : a ≠ b := fun e => hl (by rw [e])
    simp [h2, h3]
theorem e_spec_l11Same (a b : List Int) (ha : a.length ≤ maxLen) : p_spec_l11Same a b = some (decide (a = b)) := by
  have ha : a.length ≤ 9223372036854775807 := ha
  unfold p_spec_l11Same
  by_cases hl : a.length = b.length
  · have hl2 : (a.length : Int) = (b.length : Int) := by omega
    rw [decide_eq_true hl2, Bool.not_true, cond_false]
    refine eq_loop hl (fun k hk => ?_) ?_
    · have hk2 : k < b.length := by omega
      unfold p_spec_l11Same_b0
      simp only [dlt hk, cond_true, gd.yes (ixN hk), gd.yes (ixN hk2), Int.toNat_natCast, gd.yes (i64S hk ha)]
      by_cases h : nth a k = nth b k <;> simp [h]
    · unfold p_spec_l11Same_b0; simp
  · have h2 : ¬ (a.length : Int) = (b.length : Int) := by omega
    have h3 : a ≠ b := fun e => hl (by rw [e])
    simp [h2, h3]
theorem e_spec_l11Less (a b : Tag) : p_spec_l11Less a b = some (ltTag a b) := by
  unfold p_spec_l11Less ltTag
  cases sless a.1 b.1 with
  | true => rfl
  | false => by_cases h : a.1 = b.1 <;> simp [h]
theorem numberOf_none {q : Option (Unit ⊕ Int)} (h : q = some (.inl ())) : (bd (bd q <| sw (fun _ => some (-1 : Int)) fun q => some q) fun r3 => gd (I64 (r3 + 1)) <| some (r3 + 1)) = some 0 := by
  subst h
  have e : (bd (some (.inl ()) : Option (Unit ⊕ Int)) <| sw (fun _ => some (-1 : Int)) fun q => some q) = some (-1) := rfl
  rw [bd.yes e, gd.yes (by unfold I64; omega)]; rfl
theorem numberOf_some {q : Option (Unit ⊕ Int)} {k : Nat} (hk : k ≤ 4194304) (h : q = some (.inr (k : Int))) : (bd (bd q <| sw (fun _ => some (-1 : Int)) fun q => some q) fun r3 => gd (I64 (r3 + 1)) <| some (r3 + 1)) = some ((k : Int) + 1) := by
  subst h
  have e : (bd (some (.inr (k : Int)) : Option (Unit ⊕ Int)) <| sw (fun _ => some (-1 : Int)) fun q => some q) = some (k : Int) := rfl
  rw [bd.yes e, gd.yes (by unfold I64; omega)]
theorem e_numberOf (names : List (List Tag)) (n : List Tag) (h1 : names.length ≤ 4194304) (h2 : ∀ n ∈ names, n.length ≤ 4194304) :
    (∃ k : Nat, k < names.length ∧ nth names k = n ∧ (∀ j, j < k → nth names j ≠ n) ∧ p_impl_numberOf names n = some ((k : Int) + 1)) ∨ ((∀ k, k < names.length → nth names k ≠ n) ∧ p_impl_numberOf names n = some 0) := by
  have hr : ∀ k, k < names.length → p_slices_IndexFunc_Tag_Tag_numberOf_1_b0 names n (k : Int) = some (if decide (nth names k = n) then .inr (.inr (k : Int)) else .inl ((k + 1 : Nat) : Int)) := fun k hk => by
    unfold p_slices_IndexFunc_Tag_Tag_numberOf_1_b0 p_impl_numberOf_1
    rw [dlt hk, cond_true, gd.yes (ixN hk)]
    simp only [Int.toNat_natCast]
    rw [bd.yes (e_Equal_Tag _ n (h2 _ (nth_mem hk))), bd_some, gd.yes (i64S hk (show names.length ≤ 9223372036854775807 by omega)), addI]
    by_cases h : nth names k = n <;> simp [h]
  unfold p_impl_numberOf p_slices_IndexFunc_Tag_Tag_numberOf_1
  rcases lp_scan (body := p_slices_IndexFunc_Tag_Tag_numberOf_1_b0 names n) (fun k => (k : Int)) names.length (fun k => decide (nth names k = n)) (.inl ()) (fun k => .inr (k : Int)) (fun k hk _ h => by rw [hr k hk, h]; rfl) (fun k hk _ h => by rw [hr k hk, if_pos h]) (fun _ => by unfold p_slices_IndexFunc_Tag_Tag_numberOf_1_b0; simp) with ⟨h1, h2⟩ | ⟨h1, k, hk, hb, hn, h2⟩
  · refine .inr ⟨fun k hk => of_decide_eq_false (allN_iff.1 h1 k hk), ?_⟩
    exact numberOf_none h2
  · refine .inl ⟨k, hk, of_decide_eq_true hb, fun j hj => of_decide_eq_false (hn j hj), ?_⟩
    exact numberOf_some (by omega) h2
def nmBad (names : List (List Tag)) (k : Nat) : Bool := !nameOk (nth names k) || !allN k (fun j => decide (nth names j = nth names k))
def namesB (names : List (List Tag)) : Bool := allN names.length (nmBad names) && decide ((names.length : Int) ≤ 6)
theorem e_impl_namesOk (names : List (List Tag)) (hw : Wt.w names ≤ 4194304) : p_impl_namesOk names = some (namesB names) := by
  obtain ⟨h1, h2, _⟩ := w_names hw
  have hr : ∀ k, k < names.length → p_impl_namesOk_b0 names (k : Int) = some (if nmBad names k then .inr (.inr false) else .inl ((k + 1 : Nat) : Int)) := fun k hk => by
    have hl := (h2 _ (nth_mem hk)).1
    unfold p_impl_namesOk_b0 nmBad
    rw [dlt hk, cond_true, gd.yes (ixN hk)]
    simp only [Int.toNat_natCast]
    rw [e_impl_NameOk _ (by unfold maxLen; omega), bd_some]
    cases nameOk (nth names k) with
    | false => rfl
    | true =>
      rw [Bool.not_true, cond_false]
      rcases e_numberOf names (nth names k) h1 (fun n hn => (h2 n hn).1) with ⟨j, hj, e1, e2, e3⟩ | ⟨e2, e3⟩
      · rw [bd.yes e3, gd.yes (by unfold I64; omega), bd_some, gd.yes (by unfold I64; omega), addI]
        by_cases hjk : j = k
        · subst hjk
          have : allN j (fun i => decide (nth names i = nth names j)) = true := allN_iff.2 fun i hi => decide_eq_false (e2 i hi)
          rw [this]; simp
        · have hlt : j < k := by
            rcases Nat.lt_trichotomy j k with h | h | h
            · exact h
            · exact absurd h hjk
            · exact absurd rfl (e2 k h)
          have : allN k (fun i => decide (nth names i = nth names k)) = false := allN_no hlt (decide_eq_true e1)
          rw [this, decide_eq_false (show ¬ (((j + 1 : Nat) : Int) = (k : Int) + 1) by omega)]; simp
      · exact absurd rfl (e2 k hk)
  unfold p_impl_namesOk namesB
  rcases lp_scan (body := p_impl_namesOk_b0 names) (fun k => (k : Int)) names.length (nmBad names) (.inl ()) (fun _ => .inr false) (fun k hk _ h => by rw [hr k hk, h]; rfl) (fun k hk _ h => by rw [hr k hk, h]; rfl) (fun _ => by unfold p_impl_namesOk_b0; simp) with ⟨h1, h2⟩ | ⟨h1, k, _, _, _, h2⟩
  · rw [show (lp (p_impl_namesOk_b0 names) 0) = _ from h2, h1]; simp [sw]
  · rw [show (lp (p_impl_namesOk_b0 names) 0) = _ from h2, h1]; simp [sw]
theorem e_eqPost (p q : Post) (hp : p.2.length ≤ maxLen) : p_impl_IndexOk_1 p q = some (decide (p = q)) := by
  unfold p_impl_IndexOk_1
  by_cases h : p.1 = q.1
  · rw [decide_eq_true h, cond_true, bd.yes (e_Equal_int _ _ hp), bd_some]
    by_cases h2 : p.2 = q.2
    · have : p = q := Prod.ext h h2
      rw [decide_eq_true h2, decide_eq_true this]
    · have : p ≠ q := fun e => h2 (by rw [e])
      rw [decide_eq_false h2, decide_eq_false this]
  · have : p ≠ q := fun e => h (by rw [e])
    rw [decide_eq_false h, cond_false, bd_some, decide_eq_false this]
theorem e_EqualPosts (P Q : List Post) (hP : P.length ≤ maxLen) (hi : ∀ k, k < P.length → (nth P k).2.length ≤ maxLen) : p_slices_EqualFunc_Post_Post_Post_Post_IndexOk_1 P Q = some (decide (P = Q)) := by
  have hP' : P.length ≤ 9223372036854775807 := hP
  unfold p_slices_EqualFunc_Post_Post_Post_Post_IndexOk_1
  by_cases hl : P.length = Q.length
  · have hl2 : (P.length : Int) = (Q.length : Int) := by omega
    rw [decide_eq_true hl2, Bool.not_true, cond_false]
    refine eq_loop hl (fun k hk => ?_) ?_
    · have hk2 : k < Q.length := by omega
      unfold p_slices_EqualFunc_Post_Post_Post_Post_IndexOk_1_b0
      rw [dlt hk, cond_true, gd.yes (ixN hk), gd.yes (ixN hk2)]
      simp only [Int.toNat_natCast]
      rw [bd.yes (e_eqPost _ _ (hi k hk)), gd.yes (i64S hk hP'), addI]
      by_cases h : nth P k = nth Q k <;> simp [h]
    · unfold p_slices_EqualFunc_Post_Post_Post_Post_IndexOk_1_b0; simp
  · have h2 : ¬ (P.length : Int) = (Q.length : Int) := by omega
    have h3 : P ≠ Q := fun e => hl (by rw [e])
    simp [h2, h3]
def indexB (x : Index) : Bool := namesB x.1 && decide (x.2 = (indexP x.1).2)
/-- posts as they may be handed over -/
def postsW (P : List Post) : Prop := P.length ≤ 4194304 ∧ ∀ k, k < P.length → (nth P k).2.length ≤ 4194304
theorem e_impl_IndexOk (x : Index) (hw : Wt.w x.1 ≤ 4194304) (hp : postsW x.2) : p_impl_IndexOk x = some (indexB x) := by
  obtain ⟨h1, h2, h3⟩ := w_names hw
  unfold p_impl_IndexOk indexB
  rw [bd.yes (e_impl_namesOk x.1 hw)]
  cases namesB x.1 with
  | false => rfl
  | true =>
    have hp1 := hp.1
    rw [cond_true, bd.yes (e_indexOf x.1 h1 h3), bd.yes (e_EqualPosts x.2 _ (by unfold maxLen; omega) (fun k hk => by have := hp.2 k hk; unfold maxLen; omega)), Bool.true_and]
/-- the reference's way -/
def locBad (names : List (List Tag)) (P : List Post) (k : Nat) : Bool := decide ((nth P k).2.length = 0) || (!decide ((nth P k).2 = idsN names (nth P k).1 names.length) || (decide (0 < k) && !ltTag (nth P (k - 1)).1 (nth P k).1))
theorem nmBad_ok {names : List (List Tag)} {k : Nat} (h : nmBad names k = false) : nameOk (nth names k) = true := by
  unfold nmBad at h
  simp only [Bool.or_eq_false_iff, Bool.not_eq_false'] at h
  exact h.1
theorem e_spec_names (x : Index) (hw : Wt.w x.1 ≤ 4194304) : lp (p_spec_IndexOk_b0 x) (0, 0) = some (if allN x.1.length (nmBad x.1) then .inl ((sumN x.1.length fun i => (nth x.1 i).length : Nat) : Int) else .inr false) := by
  obtain ⟨h1, h2, h3⟩ := w_names hw
  have inner : ∀ k, k < x.1.length → (∀ i, i < k → nmBad x.1 i = false) → nameOk (nth x.1 k) = true → ∀ s : Int, lp (p_spec_IndexOk_b1 x (s, (k : Int))) 0 = some (if allN k (fun j => decide (nth x.1 j = nth x.1 k)) then .inl () else .inr false) := fun k hk hbs hok s => by
    have hr : ∀ j, j < k → p_spec_IndexOk_b1 x (s, (k : Int)) (j : Int) = some (if decide (nth x.1 j = nth x.1 k) then .inr (.inr false) else .inl ((j + 1 : Nat) : Int)) := fun j hj => by
      have hj2 : j < x.1.length := by omega
      unfold p_spec_IndexOk_b1
      rw [decide_eq_true (show ((j : Int) < (k : Int)) by omega), cond_true]
      simp only [Int.toNat_natCast]
      rw [bd.yes (e_spec_l3Text _ (h2 _ (nth_mem hk)).2), gd.yes (ixN hj2), bd.yes (e_spec_l3Text _ (h2 _ (nth_mem hj2)).2), text_eq hok (nmBad_ok (hbs j hj)), gd.yes (by unfold I64; omega), addI]
      by_cases h : nth x.1 j = nth x.1 k
      · rw [decide_eq_true h, decide_eq_true h.symm]; rfl
      · rw [decide_eq_false h, decide_eq_false (fun e => h e.symm)]; rfl
    rcases lp_scan (body := p_spec_IndexOk_b1 x (s, (k : Int))) (fun j => (j : Int)) k (fun j => decide (nth x.1 j = nth x.1 k)) (.inl ()) (fun _ => .inr false) (fun j hj _ h => by rw [hr j hj, h]; rfl) (fun j hj _ h => by rw [hr j hj, h]; rfl) (fun _ => by unfold p_spec_IndexOk_b1; rw [decide_eq_false (show ¬ ((k : Int) < (k : Int)) by omega)]; rfl) with ⟨h1, h2⟩ | ⟨h1, _, _, _, _, h2⟩
    · rw [show (lp (p_spec_IndexOk_b1 x (s, (k : Int))) 0) = _ from h2, h1]; rfl
    · rw [show (lp (p_spec_IndexOk_b1 x (s, (k : Int))) 0) = _ from h2, h1]; rfl
  have step : ∀ k, k < x.1.length → (∀ i, i < k → nmBad x.1 i = false) → p_spec_IndexOk_b0 x (((sumN k fun i => (nth x.1 i).length : Nat) : Int), (k : Int)) = some (if nmBad x.1 k then .inr (.inr false) else .inl (((sumN (k + 1) fun i => (nth x.1 i).length : Nat) : Int), ((k + 1 : Nat) : Int))) := fun k hk hbs => by
    have hl := (h2 _ (nth_mem hk)).1
    have hs : (sumN k fun i => (nth x.1 i).length) + (nth x.1 k).length ≤ sumN x.1.length fun i => (nth x.1 i).length := sumN_lt (f := fun i => (nth x.1 i).length) hk
    unfold p_spec_IndexOk_b0 nmBad
    rw [dlt hk, cond_true, gd.yes (ixN hk)]
    simp only [Int.toNat_natCast]
    rw [bd.yes (e_spec_NameOk _ (by unfold maxLen; omega))]
    cases hok : nameOk (nth x.1 k) with
    | false => rfl
    | true =>
      rw [Bool.not_true, cond_false, bd.yes (inner k hk hbs hok _)]
      cases allN k (fun j => decide (nth x.1 j = nth x.1 k)) with
      | false => rfl
      | true =>
        show gd (I64 _) (gd (I64 _) (some _)) = _
        rw [gd.yes (by unfold I64; omega), gd.yes (by unfold I64; omega), addI]
        have : ((sumN k fun i => (nth x.1 i).length : Nat) : Int) + ((nth x.1 k).length : Int) = ((sumN (k + 1) fun i => (nth x.1 i).length : Nat) : Int) := by
          show _ = ((((sumN k fun i => (nth x.1 i).length) + (nth x.1 k).length : Nat)) : Int)
          omega
        rw [this]; rfl
  rcases lp_scan (body := p_spec_IndexOk_b0 x) (fun k => (((sumN k fun i => (nth x.1 i).length : Nat) : Int), (k : Int))) x.1.length (nmBad x.1) (.inl ((sumN x.1.length fun i => (nth x.1 i).length : Nat) : Int)) (fun _ => .inr false) (fun k hk hb h => by rw [step k hk hb, h]; rfl) (fun k hk hb h => by rw [step k hk hb, h]; rfl) (fun _ => by unfold p_spec_IndexOk_b0; rw [decide_eq_false (show ¬ ((x.1.length : Int) < (x.1.length : Int)) by omega)]; rfl) with ⟨h1, h2⟩ | ⟨h1, _, _, _, _, h2⟩
  · rw [show (lp (p_spec_IndexOk_b0 x) (0, 0)) = _ from h2, h1]; rfl
  · rw [show (lp (p_spec_IndexOk_b0 x) (0, 0)) = _ from h2, h1]; rfl
theorem e_spec_posts (x : Index) (hw : Wt.w x.1 ≤ 4194304) (hp : postsW x.2) (n0 : Nat) (hn0 : n0 ≤ 4194304) : lp (p_spec_IndexOk_b2 x) ((n0 : Int), 0) = some (if allN x.2.length (locBad x.1 x.2) then .inl ((n0 : Int) - ((sumN x.2.length fun i => (nth x.2 i).2.length : Nat) : Int)) else .inr false) := by
  obtain ⟨h1, h2, h3⟩ := w_names hw
  obtain ⟨p1, p2⟩ := hp
  have hs : ∀ k, k ≤ x.2.length → (sumN k fun i => (nth x.2 i).2.length) ≤ k * 4194304 := by
    intro k
    induction k with
    | zero => intro _; exact Nat.le_refl _
    | succ k ih =>
      intro hk
      have := ih (by omega)
      have h4 := p2 k (by omega)
      show (sumN k fun i => (nth x.2 i).2.length) + (nth x.2 k).2.length ≤ _
      omega
  have step : ∀ k, k < x.2.length → p_spec_IndexOk_b2 x ((n0 : Int) - ((sumN k fun i => (nth x.2 i).2.length : Nat) : Int), (k : Int)) = some (if locBad x.1 x.2 k then .inr (.inr false) else .inl ((n0 : Int) - ((sumN (k + 1) fun i => (nth x.2 i).2.length : Nat) : Int), ((k + 1 : Nat) : Int))) := fun k hk => by
    have hl := p2 k hk
    have hsk := hs k (by omega)
    have hkk : k * 4194304 ≤ 4194304 * 4194304 := Nat.mul_le_mul_right _ (by omega)
    have es : ((n0 : Int) - ((sumN k fun i => (nth x.2 i).2.length : Nat) : Int)) - ((nth x.2 k).2.length : Int) = (n0 : Int) - ((sumN (k + 1) fun i => (nth x.2 i).2.length : Nat) : Int) := by
      show _ = (n0 : Int) - ((((sumN k fun i => (nth x.2 i).2.length) + (nth x.2 k).2.length : Nat)) : Int)
      omega
    have fin : (gd (I64 (((n0 : Int) - ((sumN k fun i => (nth x.2 i).2.length : Nat) : Int)) - ((nth x.2 k).2.length : Int))) <| gd (I64 ((k : Int) + 1)) <| (some (.inl (((n0 : Int) - ((sumN k fun i => (nth x.2 i).2.length : Nat) : Int)) - ((nth x.2 k).2.length : Int), (k : Int) + 1)) : Option ((Int × Int) ⊕ (Int ⊕ Bool)))) = some (.inl ((n0 : Int) - ((sumN (k + 1) fun i => (nth x.2 i).2.length : Nat) : Int), ((k + 1 : Nat) : Int))) := by
      rw [gd.yes (by unfold I64; omega), gd.yes (by unfold I64; omega), es, addI]
    unfold p_spec_IndexOk_b2 locBad
    rw [dlt hk, cond_true, gd.yes (ixN hk)]
    simp only [Int.toNat_natCast]
    by_cases hz : (nth x.2 k).2.length = 0
    · rw [decide_eq_true (show (((nth x.2 k).2.length : Int) = 0) by omega), decide_eq_true hz]; rfl
    · rw [decide_eq_false (show ¬ (((nth x.2 k).2.length : Int) = 0) by omega), decide_eq_false hz, cond_false, bd.yes (e_spec_l11Ids x.1 _ h1 (fun n hn => (h2 n hn).1)), bd.yes (e_spec_l11Same _ _ (by unfold maxLen; omega))]
      by_cases hi : (nth x.2 k).2 = idsN x.1 (nth x.2 k).1 x.1.length
      · rw [decide_eq_true hi, Bool.not_true, cond_false]
        by_cases h0 : 0 < k
        · have e1 : (k : Int) - 1 = ((k - 1 : Nat) : Int) := by omega
          rw [decide_eq_true (show (0 : Int) < (k : Int) by omega), cond_true, gd.yes (by unfold I64; omega), e1, gd.yes (ixN (show k - 1 < x.2.length by omega))]
          simp only [Int.toNat_natCast]
          rw [bd.yes (e_spec_l11Less _ _), decide_eq_true h0]
          cases ltTag (nth x.2 (k - 1)).1 (nth x.2 k).1 with
          | false => rfl
          | true => exact fin
        · rw [decide_eq_false (show ¬ (0 : Int) < (k : Int) by omega), cond_false, decide_eq_false h0]
          exact fin
      · rw [decide_eq_false hi]; rfl
  have e0 : ((n0 : Int), (0 : Int)) = ((n0 : Int) - ((sumN 0 fun i => (nth x.2 i).2.length : Nat) : Int), ((0 : Nat) : Int)) := by
    show _ = ((n0 : Int) - ((0 : Nat) : Int), ((0 : Nat) : Int)); simp
  rcases lp_scan (body := p_spec_IndexOk_b2 x) (fun k => ((n0 : Int) - ((sumN k fun i => (nth x.2 i).2.length : Nat) : Int), (k : Int))) x.2.length (locBad x.1 x.2) (.inl ((n0 : Int) - ((sumN x.2.length fun i => (nth x.2 i).2.length : Nat) : Int))) (fun _ => .inr false) (fun k hk hb h => by rw [step k hk, h]; rfl) (fun k hk hb h => by rw [step k hk, h]; rfl) (fun _ => by unfold p_spec_IndexOk_b2; rw [decide_eq_false (show ¬ ((x.2.length : Int) < (x.2.length : Int)) by omega)]; rfl) with ⟨h1, h2⟩ | ⟨h1, _, _, _, _, h2⟩
  · rw [e0, h2, h1]; rfl
  · rw [e0, h2, h1]; rfl
theorem sumL_N (P : List Post) : sumL P = sumN P.length fun i => (nth P i).2.length := by
  have : ∀ m, m ≤ P.length → sumL (P.take m) = sumN m fun i => (nth P i).2.length := by
    intro m
    induction m with
    | zero => intro _; rfl
    | succ m ih =>
      intro hm
      rw [take_succ_nth (by omega), sumL_append, ih (by omega)]
      show _ + ((nth P m).2.length + 0) = _
      rfl
  have h := this P.length (Nat.le_refl _)
  rwa [List.take_length] at h
theorem names_dist {names : List (List Tag)} (h : allN names.length (nmBad names) = true) : dist names := fun n hn => by
  obtain ⟨i, hi, rfl⟩ := List.mem_iff_getElem.1 hn
  rw [← nth_eq names i hi]
  exact nameOk_nodup (nmBad_ok (allN_iff.1 h i hi))
theorem e_spec_IndexOk (x : Index) (hw : Wt.w x.1 ≤ 4194304) (hp : postsW x.2) : p_spec_IndexOk x = some (indexB x) := by
  obtain ⟨h1, h2, h3⟩ := w_names hw
  unfold p_spec_IndexOk indexB namesB
  by_cases h6 : 6 < x.1.length
  · rw [decide_eq_true (show (6 : Int) < (x.1.length : Int) by omega), cond_true, decide_eq_false (show ¬ ((x.1.length : Int) ≤ 6) by omega), Bool.and_false, Bool.false_and]
  · rw [decide_eq_false (show ¬ (6 : Int) < (x.1.length : Int) by omega), cond_false, decide_eq_true (show ((x.1.length : Int) ≤ 6) by omega), Bool.and_true, bd.yes (e_spec_names x hw)]
    cases hall : allN x.1.length (nmBad x.1) with
    | false => rfl
    | true =>
      have hd := names_dist hall
      have hC := canon_posts hd
      show bd (lp (p_spec_IndexOk_b2 x) ((sumN x.1.length fun i => (nth x.1 i).length : Nat), 0)) _ = _
      rw [bd.yes (e_spec_posts x hw hp _ h3), Bool.true_and]
      have hsC : sumL (indexP x.1).2 = sumN x.1.length fun i => (nth x.1 i).length := by
        rw [← sumL_posts]
        exact sumL_perm (List.mergeSort_perm _ _)
      have hsP := sumL_N x.2
      cases hloc : allN x.2.length (locBad x.1 x.2) with
      | false =>
        have hne : x.2 ≠ (indexP x.1).2 := fun e => by
          have : allN x.2.length (locBad x.1 x.2) = true := allN_iff.2 fun k hk => by
            have hm : nth x.2 k ∈ (indexP x.1).2 := e ▸ nth_mem hk
            obtain ⟨i1, i2⟩ := hC.ids _ hm
            unfold locBad
            rw [decide_eq_false (fun h0 => i2 (List.eq_nil_of_length_eq_zero h0)), decide_eq_true i1]
            by_cases h0 : 0 < k
            · have ho := hC.ord
              rw [← e, List.pairwise_iff_getElem] at ho
              have := ho (k - 1) k (by omega) hk (by omega)
              rw [← nth_eq x.2 (k - 1) (by omega), ← nth_eq x.2 k hk] at this
              rw [this]; simp
            · rw [decide_eq_false h0]; rfl
          rw [hloc] at this; cases this
        rw [decide_eq_false hne]; rfl
      | true =>
        have hk := allN_iff.1 hloc
        have adj : ∀ i, i + 1 < x.2.length → ltTag (nth x.2 i).1 (nth x.2 (i + 1)).1 = true := fun i hi => by
          have := hk (i + 1) hi
          unfold locBad at this
          simp only [Nat.zero_lt_succ, decide_true, Bool.true_and, Nat.add_sub_cancel, Bool.or_eq_false_iff, Bool.not_eq_false'] at this
          exact this.2.2
        have lt : ∀ d i, i + d + 1 < x.2.length → ltTag (nth x.2 i).1 (nth x.2 (i + d + 1)).1 = true := by
          intro d
          induction d with
          | zero => intro i hi; exact adj i hi
          | succ d ih => intro i hi; exact ltTag_trans (ih i (by omega)) (adj (i + d + 1) (by omega))
        have ord : x.2.Pairwise fun a b => ltTag a.1 b.1 = true := by
          rw [List.pairwise_iff_getElem]
          intro i j hi hj hij
          obtain ⟨d, rfl⟩ : ∃ d, j = i + d + 1 := ⟨j - i - 1, by omega⟩
          have := lt d i hj
          rwa [nth_eq x.2 i hi, nth_eq x.2 _ hj] at this
        have ids : ∀ p ∈ x.2, p.2 = idsN x.1 p.1 x.1.length ∧ p.2 ≠ [] := fun p hp' => by
          obtain ⟨i, hi, rfl⟩ := List.mem_iff_getElem.1 hp'
          have := hk i hi
          unfold locBad at this
          simp only [Bool.or_eq_false_iff, decide_eq_false_iff_not, Bool.not_eq_false', decide_eq_true_eq] at this
          rw [nth_eq x.2 i hi] at this
          exact ⟨this.2.1, fun e => this.1 (by rw [e]; rfl)⟩
        show some (decide (((sumN x.1.length fun i => (nth x.1 i).length : Nat) : Int) - ((sumN x.2.length fun i => (nth x.2 i).2.length : Nat) : Int) = 0)) = _
        by_cases hE : x.2 = (indexP x.1).2
        · have : sumL x.2 = sumL (indexP x.1).2 := by rw [← hE]
          rw [decide_eq_true hE, decide_eq_true (by omega)]
        · have hne : sumL x.2 ≠ sumL (indexP x.1).2 := fun e => hE (canon_of_sum hC ord ids e)
          rw [decide_eq_false hE, decide_eq_false (by omega)]
theorem w_index {x : Index} (hw : Wt.w x ≤ 1048576) : Wt.w x.1 ≤ 4194304 ∧ postsW x.2 := by
  have e : Wt.w x = Wt.w x.1 + Wt.w x.2 := rfl
  have e2 : Wt.w x.2 = x.2.length + sumN x.2.length fun i => Wt.w (nth x.2 i) := rfl
  refine ⟨by omega, by omega, fun k hk => ?_⟩
  have h1 := sumN_get (f := fun i => Wt.w (nth x.2 i)) hk
  have h2 : Wt.w (nth x.2 k) = Wt.w (nth x.2 k).1 + Wt.w (nth x.2 k).2 := rfl
  have h3 : (nth x.2 k).2.length ≤ Wt.w (nth x.2 k).2 := wL_le
  have h4 : Wt.w (nth x.2 k) ≤ sumN x.2.length fun i => Wt.w (nth x.2 i) := h1
  omega
theorem okI {l : List Int} (h : l.length ≤ 4194304) : Dp.ok l := ⟨by unfold maxLen; omega, fun _ _ => trivial⟩
theorem wtI (l : List Int) : Wt.w l = l.length := by
  show l.length + sumN l.length (fun i => Wt.w (nth l i)) = _
  rw [sumN_zero (f := fun i => Wt.w (nth l i)) fun i _ => rfl]; rfl
theorem indexB_canon {x : Index} (h : indexB x = true) : Canon x.1 x.2 ∧ allN x.1.length (nmBad x.1) = true ∧ x.1.length ≤ 6 ∧ x.2 = (indexP x.1).2 := by
  unfold indexB namesB at h
  simp only [Bool.and_eq_true, decide_eq_true_eq] at h
  obtain ⟨⟨h1, h2⟩, h3⟩ := h
  exact ⟨by rw [h3]; exact canon_posts (names_dist h1), h1, by omega, h3⟩
def tg (i j : Nat) : Tag := (s1 (97 + (i : Int)), s1 (112 + (j : Int)))
def cell (names : List (List Tag)) (i j : Nat) : List Post := if 0 < (idsN names (tg i j) names.length).length then [(tg i j, idsN names (tg i j) names.length)] else []
def rowE (names : List (List Tag)) (i : Nat) : Nat → List Post
  | 0 => []
  | j + 1 => rowE names i j ++ cell names i j
def allE (names : List (List Tag)) : Nat → List Post
  | 0 => []
  | i + 1 => allE names i ++ rowE names i 11
theorem rowE_succ (names : List (List Tag)) (i j : Nat) : rowE names i (j + 1) = rowE names i j ++ cell names i j := rfl
theorem allE_succ (names : List (List Tag)) (i : Nat) : allE names (i + 1) = allE names i ++ rowE names i 11 := rfl
theorem cell_len (names : List (List Tag)) (i j : Nat) : (cell names i j).length ≤ 1 := by unfold cell; split <;> simp
theorem rowE_len (names : List (List Tag)) (i : Nat) : ∀ j, (rowE names i j).length ≤ j
  | 0 => Nat.le_refl _
  | j + 1 => by
    have := rowE_len names i j
    have := cell_len names i j
    rw [rowE_succ, List.length_append]; omega
theorem allE_len (names : List (List Tag)) : ∀ i, (allE names i).length ≤ 11 * i
  | 0 => Nat.le_refl _
  | i + 1 => by
    have := allE_len names i
    have := rowE_len names i 11
    rw [allE_succ, List.length_append]; omega
theorem cell_mem {names : List (List Tag)} {i j : Nat} {p : Post} (h : p ∈ cell names i j) : p = (tg i j, idsN names (tg i j) names.length) ∧ idsN names (tg i j) names.length ≠ [] := by
  unfold cell at h
  split at h
  next hp => exact ⟨List.mem_singleton.1 h, fun e => by rw [e] at hp; cases hp⟩
  next => cases h
theorem rowE_mem {names : List (List Tag)} {i : Nat} {p : Post} : ∀ {j}, p ∈ rowE names i j → ∃ k, k < j ∧ p ∈ cell names i k
  | 0, h => nomatch h
  | j + 1, h => by
    rcases List.mem_append.1 h with h | h
    · obtain ⟨k, hk, h⟩ := rowE_mem h
      exact ⟨k, by omega, h⟩
    · exact ⟨j, Nat.lt_succ_self _, h⟩
theorem allE_mem {names : List (List Tag)} {p : Post} : ∀ {i}, p ∈ allE names i → ∃ k j, k < i ∧ j < 11 ∧ p ∈ cell names k j
  | 0, h => nomatch h
  | i + 1, h => by
    rcases List.mem_append.1 h with h | h
    · obtain ⟨k, j, hk, hj, h⟩ := allE_mem h
      exact ⟨k, j, by omega, hj, h⟩
    · obtain ⟨j, hj, h⟩ := rowE_mem h
      exact ⟨i, j, Nat.lt_succ_self _, hj, h⟩
theorem rowE_in {names : List (List Tag)} {i k : Nat} {p : Post} (h : p ∈ cell names i k) : ∀ {j}, k < j → p ∈ rowE names i j
  | 0, hk => absurd hk (Nat.not_lt_zero _)
  | j + 1, hk => by
    rw [rowE_succ, List.mem_append]
    by_cases e : k = j
    · subst e; exact .inr h
    · exact .inl (rowE_in h (by omega))
theorem allE_in {names : List (List Tag)} {i j : Nat} {p : Post} (hj : j < 11) (h : p ∈ cell names i j) : ∀ {n}, i < n → p ∈ allE names n
  | 0, hk => absurd hk (Nat.not_lt_zero _)
  | n + 1, hk => by
    rw [allE_succ, List.mem_append]
    by_cases e : i = n
    · subst e; exact .inr (rowE_in h hj)
    · exact .inl (allE_in hj h (by omega))
theorem s1_lt {a b : Nat} (h : a < b) (hb : b < 128) : sless (s1 (a : Int)) (s1 (b : Int)) = true := by
  show sless ⟨#[UInt8.ofNat a]⟩ ⟨#[UInt8.ofNat b]⟩ = true
  rw [sl_one, decide_eq_true_eq, UInt8.lt_iff_toNat_lt]
  simp only [UInt8.toNat_ofNat']
  omega
theorem tg_lt {i j i' j' : Nat} (_ : i < 4) (_ : j < 11) (hi' : i' < 4) (hj' : j' < 11) (h : i < i' ∨ (i = i' ∧ j < j')) : ltTag (tg i j) (tg i' j') = true := by
  unfold ltTag tg
  rcases h with h | ⟨rfl, h⟩
  · have := s1_lt (show 97 + i < 97 + i' by omega) (by omega)
    rw [show ((97 + i : Nat) : Int) = 97 + (i : Int) by omega, show ((97 + i' : Nat) : Int) = 97 + (i' : Int) by omega] at this
    rw [this]; rfl
  · have := s1_lt (show 112 + j < 112 + j' by omega) (by omega)
    rw [show ((112 + j : Nat) : Int) = 112 + (j : Int) by omega, show ((112 + j' : Nat) : Int) = 112 + (j' : Int) by omega] at this
    rw [this]; simp
theorem rowE_ord {names : List (List Tag)} {i : Nat} (hi : i < 4) : ∀ {j}, j ≤ 11 → (rowE names i j).Pairwise fun x y => ltTag x.1 y.1 = true
  | 0, _ => List.Pairwise.nil
  | j + 1, hj => by
    rw [rowE_succ, List.pairwise_append]
    refine ⟨rowE_ord hi (by omega), ?_, fun p hp q hq => ?_⟩
    · unfold cell; split <;> simp
    · obtain ⟨k, hk, hp⟩ := rowE_mem hp
      rw [(cell_mem hp).1, (cell_mem hq).1]
      exact tg_lt hi (by omega) hi (by omega) (.inr ⟨rfl, hk⟩)
theorem allE_ord {names : List (List Tag)} : ∀ {i}, i ≤ 4 → (allE names i).Pairwise fun x y => ltTag x.1 y.1 = true
  | 0, _ => List.Pairwise.nil
  | i + 1, hi => by
    rw [allE_succ, List.pairwise_append]
    refine ⟨allE_ord (by omega), rowE_ord (by omega) (Nat.le_refl _), fun p hp q hq => ?_⟩
    obtain ⟨k, j, hk, hj, hp⟩ := allE_mem hp
    obtain ⟨j', hj', hq⟩ := rowE_mem hq
    rw [(cell_mem hp).1, (cell_mem hq).1]
    exact tg_lt (by omega) hj (by omega) hj' (.inl hk)
theorem tg_of {t : Tag} (h : tagB t = true) : ∃ i j, i < 4 ∧ j < 11 ∧ t = tg i j := by
  unfold tagB at h
  simp only [Bool.and_eq_true, decide_eq_true_eq, inn] at h
  obtain ⟨h1, h2, ⟨h3, h4⟩, h5, h6⟩ := h
  refine ⟨(sb t.1 0).toNat - 97, (sb t.2 0).toNat - 112, by omega, by omega, ?_⟩
  have e1 : t.1 = s1 (97 + (((sb t.1 0).toNat - 97 : Nat) : Int)) := by
    have : (97 + (((sb t.1 0).toNat - 97 : Nat) : Int)).toNat = (sb t.1 0).toNat := by omega
    unfold s1
    rw [this, UInt8.ofNat_toNat]
    exact ba_one h1
  have e2 : t.2 = s1 (112 + (((sb t.2 0).toNat - 112 : Nat) : Int)) := by
    have : (112 + (((sb t.2 0).toNat - 112 : Nat) : Int)).toNat = (sb t.2 0).toNat := by omega
    unfold s1
    rw [this, UInt8.ofNat_toNat]
    exact ba_one h2
  exact Prod.ext e1 e2
theorem idsN_name {names : List (List Tag)} {t : Tag} : ∀ {m}, idsN names t m ≠ [] → ∃ k, k < m ∧ t ∈ nth names k
  | 0, h => absurd rfl h
  | m + 1, h => by
    rw [idsN_succ] at h
    cases hc : hasT (nth names m) t with
    | true => exact ⟨m, Nat.lt_succ_self _, hasT_iff.1 hc⟩
    | false =>
      rw [if_neg (by rw [hc]; simp), List.append_nil] at h
      obtain ⟨k, hk, h⟩ := idsN_name h
      exact ⟨k, by omega, h⟩
def goodN (names : List (List Tag)) : Prop := ∀ k, k < names.length → nameOk (nth names k) = true
theorem goodN_dist {names : List (List Tag)} (h : goodN names) : dist names := fun n hn => by
  obtain ⟨i, hi, rfl⟩ := List.mem_iff_getElem.1 hn
  rw [← nth_eq names i hi]
  exact nameOk_nodup (h i hi)
theorem canon_all {names : List (List Tag)} (h : goodN names) : Canon names (allE names 4) := by
  refine ⟨allE_ord (Nat.le_refl _), fun p hp => ?_, fun t ht => ?_⟩
  · obtain ⟨i, j, _, _, hp⟩ := allE_mem hp
    obtain ⟨e1, e2⟩ := cell_mem hp
    rw [e1]; exact ⟨rfl, e2⟩
  · obtain ⟨k, hk, hm⟩ := idsN_name ht
    obtain ⟨i, j, hi, hj, rfl⟩ := tg_of (nameOk_tags (h k hk) t hm)
    refine ⟨(tg i j, idsN names (tg i j) names.length), allE_in hj ?_ hi, rfl⟩
    unfold cell
    rw [if_pos (List.length_pos_iff.2 ht)]
    exact List.mem_singleton.2 rfl
theorem e_rowE (names : List (List Tag)) (i : Nat) (hi : i < 4) (acc : List Post) (ha : acc.length ≤ 44) (h1 : names.length ≤ 4194304) (h2 : ∀ n ∈ names, n.length ≤ 4194304) : lp (p_spec_l11Of_b1 names (acc, 97 + (i : Int))) (acc, 112) = some (acc ++ rowE names i 11) := by
  have h0 : (acc, (112 : Int)) = (acc ++ rowE names i 0, (112 : Int) + ((0 : Nat) : Int)) := by rw [show rowE names i 0 = [] from rfl, List.append_nil]; rfl
  rw [h0, lp_for (body := p_spec_l11Of_b1 names (acc, 97 + (i : Int))) (fun j => (acc ++ rowE names i j, (112 : Int) + (j : Int))) 11 (acc ++ rowE names i 11) (fun j hj => by
    have hr := rowE_len names i j
    have ea : (112 : Int) + (j : Int) + 1 = 112 + ((j + 1 : Nat) : Int) := by omega
    unfold p_spec_l11Of_b1
    rw [decide_eq_true (show (112 : Int) + (j : Int) ≤ 122 by omega), cond_true, gd.yes (show asc (97 + (i : Int)) by unfold asc; omega), gd.yes (show asc (112 + (j : Int)) by unfold asc; omega), rowE_succ]
    show bd (p_spec_l11Ids names (tg i j)) _ = _
    rw [bd.yes (e_spec_l11Ids names (tg i j) h1 h2)]
    unfold cell
    by_cases hz : 0 < (idsN names (tg i j) names.length).length
    · rw [decide_eq_true (show (0 : Int) < ((idsN names (tg i j) names.length).length : Int) by omega), cond_true, if_pos hz, gd.yes (by rw [List.length_append]; unfold room; omega), gd.yes (by unfold I32; omega), List.append_assoc, ea]; rfl
    · rw [decide_eq_false (show ¬ (0 : Int) < ((idsN names (tg i j) names.length).length : Int) by omega), cond_false, if_neg hz, gd.yes (by unfold I32; omega), List.append_nil, ea]) (by
    unfold p_spec_l11Of_b1; rw [decide_eq_false (show ¬ ((112 : Int) + ((11 : Nat) : Int) ≤ 122) by omega)]; rfl)]
theorem e_spec_l11Of {names : List (List Tag)} (hg : goodN names) (h1 : names.length ≤ 4194304) (h2 : ∀ n ∈ names, n.length ≤ 4194304) : p_spec_l11Of names = some (indexP names) := by
  unfold p_spec_l11Of
  have h0 : (([] : List Post), (97 : Int)) = (allE names 0, (97 : Int) + ((0 : Nat) : Int)) := rfl
  rw [h0, bd.yes (lp_for (body := p_spec_l11Of_b0 names) (fun i => (allE names i, (97 : Int) + (i : Int))) 4 (allE names 4) (fun i hi => by
    have hl := allE_len names i
    unfold p_spec_l11Of_b0
    rw [decide_eq_true (show (97 : Int) + (i : Int) ≤ 100 by omega), cond_true, bd.yes (e_rowE names i hi _ (by omega) h1 h2), gd.yes (by unfold I32; omega), allE_succ, show (97 : Int) + (i : Int) + 1 = 97 + ((i + 1 : Nat) : Int) by omega]) (by
    unfold p_spec_l11Of_b0; rw [decide_eq_false (show ¬ ((97 : Int) + ((4 : Nat) : Int) ≤ 100) by omega)]; rfl)), bd.yes (e_spec_l11Names names h1 h2)]
  have : allE names 4 = (indexP names).2 := canon_eq (canon_all hg) (canon_posts (goodN_dist hg))
  rw [this]; rfl
/-- where a name stands -/
theorem e_l11At (x : Index) (n : List Tag) (hg : goodN x.1) (hn : nameOk n = true) (hw : Wt.w x.1 ≤ 4194304) (hwn : Wt.w n ≤ 4194304) :
    (∃ k : Nat, k < x.1.length ∧ nth x.1 k = n ∧ (∀ j, j < k → nth x.1 j ≠ n) ∧ p_spec_l11At x n = some ((k : Int) + 1)) ∨ ((∀ k, k < x.1.length → nth x.1 k ≠ n) ∧ p_spec_l11At x n = some 0) := by
  obtain ⟨h1, h2, h3⟩ := w_names hw
  have hr : ∀ k, k < x.1.length → p_spec_l11At_b0 x n (k : Int) = some (if decide (nth x.1 k = n) then .inr (.inr ((k + 1 : Nat) : Int)) else .inl ((k + 1 : Nat) : Int)) := fun k hk => by
    unfold p_spec_l11At_b0
    rw [dlt hk, cond_true, gd.yes (ixN hk)]
    simp only [Int.toNat_natCast]
    rw [bd.yes (e_spec_l3Text _ (h2 _ (nth_mem hk)).2), bd.yes (e_spec_l3Text n hwn), text_eq (hg k hk) hn, addI]
    cases decide (nth x.1 k = n) with
    | true => rw [cond_true, gd.yes (by unfold I64; omega)]; rfl
    | false => rw [cond_false, gd.yes (by unfold I64; omega)]; rfl
  unfold p_spec_l11At
  rcases lp_scan (body := p_spec_l11At_b0 x n) (fun k => (k : Int)) x.1.length (fun k => decide (nth x.1 k = n)) (.inl ()) (fun k => .inr ((k + 1 : Nat) : Int)) (fun k hk _ h => by rw [hr k hk, h]; rfl) (fun k hk _ h => by rw [hr k hk, if_pos h]) (fun _ => by unfold p_spec_l11At_b0; rw [decide_eq_false (show ¬ ((x.1.length : Int) < (x.1.length : Int)) by omega)]; rfl) with ⟨a1, a2⟩ | ⟨a1, k, hk, hb, hn, a2⟩
  · refine .inr ⟨fun k hk => of_decide_eq_false (allN_iff.1 a1 k hk), ?_⟩
    rw [show (lp (p_spec_l11At_b0 x n) 0) = _ from a2]; rfl
  · refine .inl ⟨k, hk, of_decide_eq_true hb, fun j hj => of_decide_eq_false (hn j hj), ?_⟩
    rw [show (lp (p_spec_l11At_b0 x n) 0) = _ from a2, addI]; rfl
/-- one name more -/
def numP (names : List (List Tag)) (n : List Tag) : Nat → Nat
  | 0 => 0
  | m + 1 => if numP names n m = 0 then (if nth names m = n then m + 1 else 0) else numP names n m
theorem numP_zero {names : List (List Tag)} {n : List Tag} : ∀ {m}, (∀ k, k < m → nth names k ≠ n) → numP names n m = 0
  | 0, _ => rfl
  | m + 1, h => by
    unfold numP
    rw [if_pos (numP_zero fun k hk => h k (by omega)), if_neg (h m (Nat.lt_succ_self _))]
theorem numP_at {names : List (List Tag)} {n : List Tag} {k : Nat} (h1 : nth names k = n) (h2 : ∀ j, j < k → nth names j ≠ n) : ∀ {m}, k < m → numP names n m = k + 1
  | 0, h => absurd h (Nat.not_lt_zero _)
  | m + 1, h => by
    unfold numP
    by_cases e : k = m
    · subst e
      rw [if_pos (numP_zero h2), if_pos h1]
    · have := numP_at h1 h2 (m := m) (by omega)
      rw [this, if_neg (by omega)]
def addP (x : Index) (n : List Tag) : Index × Int × Bool :=
  if indexB x && nameOk n then
    (if 0 < numP x.1 n x.1.length then (indexP x.1, (numP x.1 n x.1.length : Int), true)
     else if x.1.length = 6 then (indexP x.1, 0, false)
     else (indexP (x.1 ++ [n]), (x.1.length : Int) + 1, true))
  else (([], []), 0, false)
theorem good_of {x : Index} (h : indexB x = true) : goodN x.1 := fun k hk => nmBad_ok (allN_iff.1 (indexB_canon h).2.1 k hk)
theorem good_snoc {names : List (List Tag)} {n : List Tag} (h : goodN names) (hn : nameOk n = true) : goodN (names ++ [n]) := fun k hk => by
  rw [List.length_append, List.length_singleton] at hk
  by_cases e : k < names.length
  · rw [nth_eq _ _ (by rw [List.length_append]; omega), List.getElem_append_left e, ← nth_eq names k e]; exact h k e
  · have : k = names.length := by omega
    subst this
    rw [nth_eq _ _ (by simp)]; simpa using hn
theorem goodN_len {names : List (List Tag)} (h : goodN names) : ∀ n ∈ names, n.length ≤ 3 := fun n hn => by
  obtain ⟨i, hi, rfl⟩ := List.mem_iff_getElem.1 hn
  rw [← nth_eq names i hi]
  exact (nameOk_len (h i hi)).2
theorem goodN_sum {names : List (List Tag)} (h : goodN names) : sumN names.length (fun i => (nth names i).length) ≤ names.length * 3 := by
  have : ∀ m, m ≤ names.length → sumN m (fun i => (nth names i).length) ≤ m * 3 := by
    intro m
    induction m with
    | zero => intro _; exact Nat.le_refl _
    | succ m ih =>
      intro hm
      have h1 := ih (by omega)
      have h2 := (nameOk_len (h m (by omega))).2
      show sumN m (fun i => (nth names i).length) + (nth names m).length ≤ _
      omega
  exact this _ (Nat.le_refl _)
theorem e_indexOf' {names : List (List Tag)} (h : goodN names) (hl : names.length ≤ 7) : p_impl_indexOf names = some (indexP names) := by
  have := goodN_sum h
  exact e_indexOf names (by omega) (by omega)
theorem e_impl_IndexAdd (x : Index) (n : List Tag) (hw : Wt.w x.1 ≤ 4194304) (hp : postsW x.2) (hn : n.length ≤ 4194304) : p_impl_IndexAdd x n = some (addP x n) := by
  obtain ⟨h1, h2, h3⟩ := w_names hw
  unfold p_impl_IndexAdd addP
  rw [bd.yes (e_impl_IndexOk x hw hp)]
  cases h : indexB x with
  | false => rfl
  | true =>
    have hg := good_of h
    have h6 := (indexB_canon h).2.2.1
    rw [Bool.not_true, cond_false, bd.yes (e_impl_NameOk n (by unfold maxLen; omega)), bd_some]
    cases hok : nameOk n with
    | false => rfl
    | true =>
      rw [Bool.not_true, cond_false]
      show _ = some (if 0 < numP x.1 n x.1.length then (indexP x.1, (numP x.1 n x.1.length : Int), true) else if x.1.length = 6 then (indexP x.1, 0, false) else (indexP (x.1 ++ [n]), (x.1.length : Int) + 1, true))
      rcases e_numberOf x.1 n h1 (fun m hm => (h2 m hm).1) with ⟨k, hk, e1, e2, e3⟩ | ⟨e2, e3⟩
      · rw [bd.yes e3, numP_at e1 e2 hk, if_pos (Nat.succ_pos _), decide_eq_true (show (0 : Int) < (k : Int) + 1 by omega), cond_true, bd.yes (e_indexOf' hg (by omega)), addI]
      · rw [bd.yes e3, numP_zero e2, if_neg (Nat.lt_irrefl 0), decide_eq_false (Int.lt_irrefl 0), cond_false]
        by_cases e6 : x.1.length = 6
        · rw [decide_eq_true (show (x.1.length : Int) = 6 by omega), cond_true, bd.yes (e_indexOf' hg (by omega)), if_pos e6]
        · rw [decide_eq_false (show ¬ (x.1.length : Int) = 6 by omega), cond_false, gd.yes (by unfold I64; omega), bd.yes (e_impl_cloneNames x.1 h1 (fun m hm => (h2 m hm).1)), gd.yes (by unfold room; omega), bd.yes (e_indexOf' (good_snoc hg hok) (by rw [List.length_append, List.length_singleton]; omega)), if_neg e6]
theorem e_spec_IndexAdd (x : Index) (n : List Tag) (hw : Wt.w x.1 ≤ 4194304) (hp : postsW x.2) (hn : Wt.w n ≤ 4194304) : p_spec_IndexAdd x n = some (addP x n) := by
  obtain ⟨h1, h2, h3⟩ := w_names hw
  have hnl : n.length ≤ Wt.w n := wL_le
  unfold p_spec_IndexAdd addP
  rw [bd.yes (e_spec_IndexOk x hw hp)]
  cases h : indexB x with
  | false => rfl
  | true =>
    have hg := good_of h
    have h6 := (indexB_canon h).2.2.1
    rw [Bool.not_true, cond_false, bd.yes (e_spec_NameOk n (by unfold maxLen; omega)), bd_some]
    cases hok : nameOk n with
    | false => rfl
    | true =>
      rw [Bool.not_true, cond_false, bd.yes (e_spec_l11Of hg h1 (fun m hm => (h2 m hm).1))]
      show _ = some (if 0 < numP x.1 n x.1.length then (indexP x.1, (numP x.1 n x.1.length : Int), true) else if x.1.length = 6 then (indexP x.1, 0, false) else (indexP (x.1 ++ [n]), (x.1.length : Int) + 1, true))
      unfold p_spec_l11Add
      have ex : (indexP x.1).1 = x.1 := rfl
      rcases e_l11At (indexP x.1) n hg hok hw hn with ⟨k, hk, e1, e2, e3⟩ | ⟨e2, e3⟩
      · rw [ex] at hk e1 e2
        rw [bd.yes e3, numP_at e1 e2 hk, if_pos (Nat.succ_pos _), decide_eq_true (show (0 : Int) < (k : Int) + 1 by omega), cond_true, addI]; rfl
      · rw [ex] at e2
        rw [bd.yes e3, numP_zero e2, if_neg (Nat.lt_irrefl 0), decide_eq_false (Int.lt_irrefl 0), cond_false, bd.yes (e_spec_NameOk n (by unfold maxLen; omega)), hok, Bool.not_true, cond_false, bd_some, ex]
        by_cases e6 : x.1.length = 6
        · rw [decide_eq_true (show (6 : Int) ≤ (x.1.length : Int) by omega), cond_true, if_pos e6]; rfl
        · have hgs := good_snoc hg hok
          have hls : (x.1 ++ [n]).length ≤ 4194304 := by rw [List.length_append, List.length_singleton]; omega
          rw [decide_eq_false (show ¬ (6 : Int) ≤ (x.1.length : Int) by omega), cond_false, bd.yes (e_spec_l11Names x.1 h1 (fun m hm => (h2 m hm).1)), gd.yes (by rw [List.length_nil]; unfold room; omega), gd.yes (by unfold room; omega), List.nil_append, bd.yes (e_spec_l11Of hgs hls (fun m hm => by have := goodN_len hgs m hm; omega)), if_neg e6]
          have : ((indexP (x.1 ++ [n])).1.length : Int) = (x.1.length : Int) + 1 := by
            show ((x.1 ++ [n]).length : Int) = _
            rw [List.length_append, List.length_singleton]; omega
          rw [bd_some, this]
theorem sumN_c {f : Nat → Nat} {c : Nat} : ∀ {n}, (∀ i, i < n → f i ≤ c) → sumN n f ≤ n * c
  | 0, _ => Nat.zero_le _
  | n + 1, h => by
    have h1 := sumN_c (n := n) fun i hi => h i (by omega)
    have h2 := h n (Nat.lt_succ_self _)
    show sumN n f + f n ≤ _
    rw [Nat.add_mul]; omega
theorem sumL_ne {P : List Post} (h : ∀ p ∈ P, p.2 ≠ []) : P.length ≤ sumL P := by
  induction P with
  | nil => exact Nat.zero_le _
  | cons p P ih =>
    have h1 := ih fun q hq => h q (List.mem_cons_of_mem _ hq)
    have h2 := List.length_pos_iff.2 (h p (List.mem_cons_self ..))
    show P.length + 1 ≤ p.2.length + sumL P
    omega
theorem w_good {n : List Tag} (h : nameOk n = true) : Wt.w n ≤ 9 := by
  have hl := (nameOk_len h).2
  have := sumN_c (f := fun i => (nth n i).1.size + (nth n i).2.size) (c := 2) (n := n.length) fun i hi => by
    have := tagB_one (nameOk_tags h _ (nth_mem hi))
    show (nth n i).1.size + (nth n i).2.size ≤ 2
    rw [this.1, this.2]; exact Nat.le_refl _
  rw [w_name]; omega
theorem okTags (n : List Tag) (h : n.length ≤ 4194304) : Dp.ok n := ⟨by unfold maxLen; omega, fun _ _ => ⟨trivial, trivial⟩⟩
theorem good_index {names : List (List Tag)} (h : goodN names) (hl : names.length ≤ 7) : Dp.ok (indexP names) ∧ Wt.w (indexP names) ≤ 100000 := by
  have hC := canon_posts (goodN_dist h)
  have hs : sumL (indexP names).2 = sumN names.length fun i => (nth names i).length := by
    rw [← sumL_posts]
    exact sumL_perm (List.mergeSort_perm _ _)
  have hs2 := goodN_sum h
  have hle := sumL_ne fun p hp => (hC.ids p hp).2
  have hids : ∀ p ∈ (indexP names).2, p.2.length ≤ 7 := fun p hp => by
    have := idsN_len names p.1 names.length
    rw [(hC.ids p hp).1]; omega
  refine ⟨⟨⟨show names.length ≤ maxLen by unfold maxLen; omega, fun i hi => okTags _ (by have := goodN_len h _ (nth_mem (show i < names.length from hi)); show (nth names i).length ≤ _; omega)⟩, by unfold maxLen; omega, fun i hi => ⟨⟨trivial, trivial⟩, okI (by have := hids _ (nth_mem hi); omega)⟩⟩, ?_⟩
  have e : Wt.w (indexP names) = Wt.w names + Wt.w (indexP names).2 := rfl
  have e1 : Wt.w names = names.length + sumN names.length fun i => Wt.w (nth names i) := rfl
  have e2 : Wt.w (indexP names).2 = (indexP names).2.length + sumN (indexP names).2.length fun i => Wt.w (nth (indexP names).2 i) := rfl
  have b1 := sumN_c (f := fun i => Wt.w (nth names i)) (c := 9) (n := names.length) fun i hi => w_good (h i hi)
  have b2 := sumN_c (f := fun i => Wt.w (nth (indexP names).2 i)) (c := 9) (n := (indexP names).2.length) fun i hi => by
    have hm := nth_mem hi
    obtain ⟨i1, i2⟩ := hC.ids _ hm
    rw [i1] at i2
    obtain ⟨k, hk, ht⟩ := idsN_name i2
    have ho := tagB_one (nameOk_tags (h k hk) _ ht)
    have h7 := hids _ hm
    have ew : Wt.w (nth (indexP names).2 i) = ((nth (indexP names).2 i).1.1.size + (nth (indexP names).2 i).1.2.size) + Wt.w (nth (indexP names).2 i).2 := rfl
    show Wt.w (nth (indexP names).2 i) ≤ 9
    rw [ew, wtI, ho.1, ho.2]; omega
  omega
theorem addP_ok (x : Index) (n : List Tag) : Dp.ok (addP x n).1 ∧ Wt.w (addP x n).1 ≤ 100000 := by
  have z : Dp.ok (([], []) : Index) ∧ Wt.w (([], []) : Index) ≤ 100000 := ⟨⟨⟨Nat.zero_le _, fun i hi => absurd hi (Nat.not_lt_zero _)⟩, Nat.zero_le _, fun i hi => absurd hi (Nat.not_lt_zero _)⟩, by decide⟩
  unfold addP
  cases hi : indexB x with
  | false => exact z
  | true =>
    cases hn : nameOk n with
    | false => exact z
    | true =>
      have hg := good_of hi
      have h6 := (indexB_canon hi).2.2.1
      rw [Bool.true_and, if_pos rfl]
      split
      · exact good_index hg (by omega)
      · split
        · exact good_index hg (by omega)
        · exact good_index (good_snoc hg hn) (by rw [List.length_append, List.length_singleton]; omega)
theorem e_FnExactIndexAdd (x : Index) (n : List Tag) (ok : Dp.ok x) (okn : Dp.ok n) (so : So.so x) (son : So.so n) : p_laws_FnExactIndexAdd x n = some true := by
  unfold p_laws_FnExactIndexAdd
  rw [s_Index x 1048576 (by omega) (by omega) ok so, bd_some]
  by_cases hc : cut 1048576 (Wt.w x) < 0
  · simp [hc]
  · have hw := cut_w hc (by omega)
    obtain ⟨w1, w2⟩ := w_index hw
    rw [decide_eq_false hc, cond_false, s_TagS n (cut 1048576 (Wt.w x)) (cut_nn hc) (cut_rng (by omega)) okn son, bd_some]
    by_cases hd : cut (cut 1048576 (Wt.w x)) (Wt.w n) < 0
    · simp [hd]
    · have hwn := cut_w hd (cut_rng (by omega))
      have hln : n.length ≤ Wt.w n := wL_le
      rw [decide_eq_false hd, cond_false, bd.yes (t_Index x ok hw), bd.yes (t_TagS n okn hwn), bd.yes (e_spec_IndexAdd x n w1 w2 (by omega)), bd.yes (e_impl_IndexAdd x n w1 w2 (by omega))]
      obtain ⟨okr, hwr⟩ := addP_ok x n
      generalize addP x n = r at okr hwr
      have c1 := Ct.le x
      have c2 := Ct.le r.1
      have c3 := Ct.le n
      have n1 : Ct.m Index = 5 := rfl
      have n3 : Ct.m (List Tag) = 2 := rfl
      rw [n1] at c1 c2
      rw [n3] at c3
      obtain ⟨k1, r1, e1, l1, u1, _⟩ := m_Index x 1 (by omega) (by omega) ok
      obtain ⟨k2, r2, e2, l2, u2, f2⟩ := m_Index r.1 1 (by omega) (by omega) okr
      obtain ⟨k3, r3, e3, l3, u3, _⟩ := m_TagS n k1 (by omega) (by omega) okn
      have h1 : ¬ k1 < 0 := by omega
      have h2 : ¬ k2 < 0 := by omega
      have h3 : ¬ k3 < 0 := by omega
      simp [q_Index r.1 r.1 okr okr, q_Index x x ok ok, q_TagS n n okn okn, e1, e2, e3, f2, h2, h3]
end Go.Proofs.Ytichamokohjneaa
