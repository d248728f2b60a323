/- The walks and the plain laws, part 4: each function that the law reaches computes what its plain function tells, and what the plain functions answer. Conditions: lengths that memory can hold. -/
import Derived.Test.YtjaibcpidajdcaaGreatA3
namespace Go.Proofs.YtjaibcpidajdcaaGreat
open Go Go.Sx
theorem c_impl_StoreOk {r : Bool} (v0 : Store) (x_v0 : ((Option Addr × Nat) × (Option Addr × Nat)) × (Option Addr × Nat) × (Option Addr × Nat)) (H : p_impl_StoreOk v0 = some r) : Fn' Tryz.prog 11 #[.agg #[.slice x_v0.1.1.1 v0.1.1.length x_v0.1.1.2, .slice x_v0.1.2.1 v0.1.2.length x_v0.1.2.2, .slice x_v0.2.1.1 v0.2.1.length x_v0.2.1.2, .slice x_v0.2.2.1 v0.2.2.length x_v0.2.2.2]] [imm (.slice x_v0.1.1.1 v0.1.1.length x_v0.1.1.2) v0.1.1, imm (.slice x_v0.1.2.1 v0.1.2.length x_v0.1.2.2) v0.1.2, imm (.slice x_v0.2.1.1 v0.2.1.length x_v0.2.1.2) v0.2.1, imm (.slice x_v0.2.2.1 v0.2.2.length x_v0.2.2.2) v0.2.2] [] (ι := Unit) (fun _ => .bool (r)) (fun _ => []) (fun _ => []) := by
 refine calls_of (args := [_]) Tryz.func11 rfl (by kernel_rfl) Tryz.ntmps11 (by simp) fun c => ?_
 unfold p_impl_StoreOk at H
 refine Tr.openD Ent.z fun X1 => (Tr.openD Ent.z.s.s fun X2 => (Tr.openD Ent.z.s.s.s.s fun X3 => (Tr.seq (Tr.region (Rg.ef (e_box (t := 39) rfl) rfl ?_)))))
 rintro _ _ _ ⟨g4, rfl, rfl, rfl⟩
 refine Rg.a (v := .bool (false)) rfl (Rg.nl (nT (?_)))
 refine Tr.seq ?_
 obtain ⟨b5, j6, H⟩ := bd.of H
 refine tMid1 [(24, .bool (b5)), (1, .pointer (some ⟨g4, 0, none⟩))] ?_ ?_
 ·refine tLinT [(1, .pointer (some ⟨g4, 0, none⟩))] ⟨rfl, trivial⟩ (Lin.p (p_fabE fa39_0 rfl rfl) (Lin.o (v := .agg #[.slice x_v0.1.1.1 v0.1.1.length x_v0.1.1.2, .slice x_v0.1.2.1 v0.1.2.length x_v0.1.2.2]) (q_ldbP [.slice x_v0.1.1.1 v0.1.1.length x_v0.1.1.2, .slice x_v0.1.2.1 v0.1.2.length x_v0.1.2.2] ty35 rfl Has.here rfl rfl) ?_))
  obtain ⟨r7, h8, j6⟩ := bd.of j6
  refine Lin.o (q_call (c_impl_IndexOk v0.1 x_v0.1 h8) rfl (EntsB.cons (Ent.b (Ent.dimm Ent.z.s.s)) (EntsB.cons (Ent.b (Ent.dimm Ent.z.s)) EntsB.nil))) (Lin.p (p_not rfl) ?_)
  rcases Bool.eq_false_or_eq_true (!r7) with h9 | h9
  ·have j6 := cdT h9 j6
   refine Lin.e_ (p_move rfl) h9 ?_
   iterate 4 refine Lin.sk rfl ?_
   refine Lin.p (v := .bool (true)) (p_pickT rfl rfl) (Lin.m (v := .bool (true)) rfl ?_)
   iterate 4 refine Lin.sk rfl ?_
   refine Lin.p (v := .bool (true)) (p_pickT rfl rfl) ?_
   obtain rfl := si j6
   show At _ _ _ _ _ _
   exact n1 ⟨rfl, rfl, trivial⟩
  ·have j6 := cdF h9 j6
   refine Lin.e_ (p_move rfl) h9 (Lin.h rfl (p_fabE fa39_1 rfl rfl) (Lin.i rfl (q_ldb ty36 rfl Has.here rfl) (Lin.h rfl (p_len 72 Tryz.underlying36 rfl) (Lin.h rfl (p_gtr rfl rfl) (Lin.p (p_pickF rfl rfl) ?_)))))
   rcases Bool.eq_false_or_eq_true (decide (6 < (v0.2.1.length : Int))) with h10 | h10
   ·have j6 := cdT h10 j6
    refine Lin.e_ (p_move rfl) h10 ?_
    iterate 4 refine Lin.sk rfl ?_
    refine Lin.p (v := .bool (true)) (p_pickT rfl rfl) ?_
    obtain rfl := si j6
    show At _ _ _ _ _ _
    exact n1 ⟨rfl, rfl, trivial⟩
   ·have j6 := cdF h10 j6
    refine Lin.e_ (p_move rfl) h10 (Lin.h rfl (p_fabE fa39_2 rfl rfl) (Lin.i rfl (q_ldb ty37 rfl Has.here rfl) (Lin.h rfl (p_len 75 Tryz.underlying37 rfl) (Lin.h rfl (p_gtr rfl rfl) (Lin.p (p_pickF rfl rfl) ?_)))))
    obtain rfl := si j6
    show At _ _ _ _ _ _
    exact n1 ⟨rfl, rfl, trivial⟩
 refine Tr.cond (b := b5) rfl (fun h11 => ?_) (fun h11 => ?_)
 ·have H := cdT h11 H
  refine Tr.seq (Tr.region (Rg.a (v := .bool (false)) rfl (Rg.nl (nT (?_)))))
  refine tRet (rT (?_))
  obtain rfl := si H
  exact bk1 rfl rfl rfl rfl Take.nil
 ·have H := cdF h11 H
  refine tSkip (nT (?_))
  refine Tr.seq (Tr.region (Rg.p (p_fabE fa39_0 rfl rfl) (Rg.p (p_fabE fa35_0 rfl rfl) (Rg.o (q_ldb ty32 rfl Has.here rfl) (Rg.p (p_len 56 Tryz.underlying32 rfl) ?_)))))
  refine Rg.a rfl (Rg.nl (nT (?_)))
  refine Tr.seq (Tr.seq (Tr.region (Rg.p (p_fabE fa39_1 rfl rfl) (Rg.o (q_ldb ty36 rfl Has.here rfl) (Rg.p (p_len 72 Tryz.underlying36 rfl) ?_)))))
  refine Rg.m (v := .int .i64 (0)) rfl (Rg.nl (nT (?_)))
  obtain ⟨x12, hx13, H⟩ := bd.of H
  obtain ⟨n14, hx13⟩ := lp.of hx13
  refine tMidNC (ι := { q : (Unit) × Unit // x12 = .inl q.1 }) (fun ψ => [(1, .pointer (some ⟨g4, 0, none⟩)), (3, .int .i64 ((v0.1.1.length : Int)))]) (fun ψ => [box g4 39 [.slice x_v0.1.1.1 v0.1.1.length x_v0.1.1.2, .slice x_v0.1.2.1 v0.1.2.length x_v0.1.2.2, .slice x_v0.2.1.1 v0.2.1.length x_v0.2.1.2, .slice x_v0.2.2.1 v0.2.2.length x_v0.2.2.2]]) ?_ ?_
  ·refine Tr.block (tLoopC (ι := { q : Nat × (Int) × Unit // itr (p_impl_StoreOk_b0 v0) q.1 q.2.1 = some x12 }) (fun ζ => [(1, .pointer (some ⟨g4, 0, none⟩)), (3, .int .i64 ((v0.1.1.length : Int))), (30, .slice x_v0.2.1.1 v0.2.1.length x_v0.2.1.2), (31, .int .i64 ((v0.2.1.length : Int))), (32, .int .i64 (ζ.1.2.1))]) (fun ζ => [box g4 39 [.slice x_v0.1.1.1 v0.1.1.length x_v0.1.1.2, .slice x_v0.1.2.1 v0.1.2.length x_v0.1.2.2, .slice x_v0.2.1.1 v0.2.1.length x_v0.2.1.2, .slice x_v0.2.2.1 v0.2.2.length x_v0.2.2.2]]) (fun ζ => ζ.1.1) ⟨(n14, 0, ()), hx13⟩ ⟨rfl, rfl, rfl, rfl, rfl, trivial⟩ (.cons Del.here .nil) ?_)
   rintro ⟨⟨m15, Q16, z17⟩, hk22⟩
   obtain ⟨m23, t19, e, H1, hi20, hb21⟩ := itr.of (n := m15) (s := Q16) hk22
   subst e; unfold p_impl_StoreOk_b0 at H1
   show Tr _ _ _ _ _ [(1, .pointer (some ⟨g4, 0, none⟩)), (3, .int .i64 ((v0.1.1.length : Int))), (30, .slice x_v0.2.1.1 v0.2.1.length x_v0.2.1.2), (31, .int .i64 ((v0.2.1.length : Int))), (32, .int .i64 (Q16))] _ [box g4 39 [.slice x_v0.1.1.1 v0.1.1.length x_v0.1.1.2, .slice x_v0.1.2.1 v0.1.2.length x_v0.1.2.2, .slice x_v0.2.1.1 v0.2.1.length x_v0.2.1.2, .slice x_v0.2.2.1 v0.2.2.length x_v0.2.2.2]]
   refine Tr.seq (Tr.region (Rg.p (p_lss rfl rfl) (Rg.nl (nT (?_)))))
   refine Tr.seq (Tr.cond (b := decide (Q16 < (v0.2.1.length : Int))) rfl (fun h24 => ?_) (fun h24 => ?_))
   ·have H1 := cdT h24 H1
    refine tSkip (nT (?_))
    refine Tr.seq (Tr.block (Tr.seq (Tr.region ?_)))
    obtain ⟨h25, H1⟩ := gd.of H1
    refine Rg.o (q_ixg Tryz.underlying36 ty72 rfl rfl h25 rfl (Ent.b (Ent.darr Ent.z))) (Rg.o (v := .agg #[.slice (((X3 Q16.toNat).1).1) (((nth v0.2.1 Q16.toNat).1).length) (((X3 Q16.toNat).1).2.1), .slice (((X3 Q16.toNat).2).1) (((nth v0.2.1 Q16.toNat).2).length) (((X3 Q16.toNat).2).2.1)]) (q_ldeA (i := Q16.toNat) ty72 rfl (Ent.b (Ent.darr Ent.z)) h25.lt) (Rg.ef (e_alloc ty72) rfl ?_))
    rintro _ _ _ ⟨g26, rfl, rfl, rfl⟩
    refine Rg.en (e_store (cs' := [.slice (((X3 Q16.toNat).1).1) (((nth v0.2.1 Q16.toNat).1).length) (((X3 Q16.toNat).1).2.1), .slice (((X3 Q16.toNat).2).1) (((nth v0.2.1 Q16.toNat).2).length) (((X3 Q16.toNat).2).2.1)]) ty72 rfl rfl Upd.here rfl (one_of rfl) (Nat.le_of_ble_eq_true rfl) rfl) rfl ?_
    rintro _ _ _ ⟨rfl, rfl, rfl⟩
    refine Rg.nl (nT (?_))
    obtain ⟨b27, j28, H1⟩ := bd.of H1
    refine tMid1 [(51, .bool (b27)), (1, .pointer (some ⟨g4, 0, none⟩)), (3, .int .i64 ((v0.1.1.length : Int))), (30, .slice x_v0.2.1.1 v0.2.1.length x_v0.2.1.2), (31, .int .i64 ((v0.2.1.length : Int))), (32, .int .i64 (Q16))] ?_ ?_
    ·refine tLinT [(5, .pointer (some ⟨g26, 0, none⟩)), (1, .pointer (some ⟨g4, 0, none⟩)), (3, .int .i64 ((v0.1.1.length : Int))), (30, .slice x_v0.2.1.1 v0.2.1.length x_v0.2.1.2), (31, .int .i64 ((v0.2.1.length : Int))), (32, .int .i64 (Q16))] ⟨rfl, rfl, rfl, rfl, rfl, rfl, trivial⟩ (Lin.o (q_ldbA ty72 rfl Has.here rfl) ?_)
     obtain ⟨r29, h30, j28⟩ := bd.of j28
     refine Lin.o (q_call (c_impl_PartOk (nth v0.2.1 Q16.toNat) ((((X3 Q16.toNat).1).1, ((X3 Q16.toNat).1).2.1), (((X3 Q16.toNat).2).1, ((X3 Q16.toNat).2).2.1)) h30) rfl (EntsB.cons (Ent.b (Ent.dimm (Ent.dfst (Ent.del Ent.z h25.lt)))) (EntsB.cons (Ent.b (Ent.dimm (Ent.dsnd (Ent.del Ent.z h25.lt)))) EntsB.nil))) (Lin.p (p_not rfl) ?_)
     rcases Bool.eq_false_or_eq_true (!r29) with h31 | h31
     ·have j28 := cdT h31 j28
      refine Lin.e_ (p_move rfl) h31 ?_
      iterate 4 refine Lin.sk rfl ?_
      refine Lin.p (v := .bool (true)) (p_pickT rfl rfl) (Lin.m (v := .bool (true)) rfl ?_)
      iterate 5 refine Lin.sk rfl ?_
      refine Lin.p (v := .bool (true)) (p_pickT rfl rfl) ?_
      obtain rfl := si j28
      show At _ _ _ _ _ _
      exact n1 ⟨rfl, rfl, rfl, rfl, rfl, rfl, trivial⟩
     ·have j28 := cdF h31 j28
      refine Lin.e_ (p_move rfl) h31 (Lin.h rfl (p_fabE fa72_0 rfl rfl) (Lin.i rfl (q_ldb ty69 rfl Has.here rfl) (Lin.h rfl (p_len 3 Tryz.underlying69 rfl) (Lin.h rfl (p_eql rfl rfl) (Lin.p (p_pickF rfl rfl) ?_)))))
      rcases Bool.eq_false_or_eq_true (decide ((((nth v0.2.1 Q16.toNat).1).length : Int) = 0)) with h32 | h32
      ·have j28 := cdT h32 j28
       refine Lin.e_ (p_move rfl) h32 ?_
       iterate 5 refine Lin.sk rfl ?_
       refine Lin.p (v := .bool (true)) (p_pickT rfl rfl) ?_
       obtain rfl := si j28
       show At _ _ _ _ _ _
       exact n1 ⟨rfl, rfl, rfl, rfl, rfl, rfl, trivial⟩
      ·have j28 := cdF h32 j28
       refine Lin.e_ (p_move rfl) h32 (Lin.h rfl (p_fabE fa72_0 rfl rfl) (Lin.i rfl (q_ldb ty69 rfl Has.here rfl) ?_))
       obtain ⟨r33, h34, j28⟩ := bd.of j28
       refine Lin.i rfl (q_call (c_slices_Max_int_int ((nth v0.2.1 Q16.toNat).1) (((X3 Q16.toNat).1).1, ((X3 Q16.toNat).1).2.1) h34) rfl (EntsB.cons (Ent.b (Ent.dimm (Ent.dfst (Ent.del Ent.z h25.lt)))) EntsB.nil)) (Lin.h rfl (p_move rfl) (Lin.h rfl (p_gtr rfl rfl) (Lin.p (p_pickF rfl rfl) ?_)))
       obtain rfl := si j28
       show At _ _ _ _ _ _
       exact n1 ⟨rfl, rfl, rfl, rfl, rfl, rfl, trivial⟩
    refine Tr.cond (b := b27) rfl (fun h35 => ?_) (fun h35 => ?_)
    ·have H1 := cdT h35 H1
     refine Tr.seq (Tr.region (Rg.a (v := .bool (false)) rfl (Rg.nl (nT (?_)))))
     refine tRet (rB (rT (rT (rB (rT (rT (?_)))))))
     have hx := hb21 _ (Option.some.inj H1).symm; subst hx
     replace H := sw.r H
     obtain rfl := si H
     exact bk1 rfl rfl rfl rfl Take.nil
    ·have H1 := cdF h35 H1
     refine tSkip (nB (nT (?_)))
     refine Tr.region ?_
     obtain ⟨h36, H1⟩ := gd.of H1
     refine Rg.p (p_add rfl rfl h36) (Rg.m rfl (Rg.nl ?_))
     exact nLC ⟨(m23, Q16 + 1, ()), hi20 _ (Option.some.inj H1).symm⟩ (Nat.lt_succ_self _) ⟨rfl, rfl, rfl, rfl, rfl, trivial⟩ Ents.refl (.cons dl1 .nil)
   ·have H1 := cdF h24 H1
    refine tExit (xT (xT (xE (?_))))
    exact nMC ⟨((), ()), (hb21 _ (Option.some.inj H1).symm).symm⟩ ⟨rfl, rfl, trivial⟩ Ents.refl (.cons Del.here .nil)
  ·rintro ⟨⟨e37, y18⟩, hx⟩; subst hx; replace H := sw.l H
   show At _ _ [(1, .pointer (some ⟨g4, 0, none⟩)), (3, .int .i64 ((v0.1.1.length : Int)))] _ [box g4 39 [.slice x_v0.1.1.1 v0.1.1.length x_v0.1.1.2, .slice x_v0.1.2.1 v0.1.2.length x_v0.1.2.2, .slice x_v0.2.1.1 v0.2.1.length x_v0.2.1.2, .slice x_v0.2.2.1 v0.2.2.length x_v0.2.2.2]] _
   refine nT (?_)
   refine Tr.seq (Tr.seq (Tr.region (Rg.p (p_fabE fa39_2 rfl rfl) (Rg.o (q_ldb ty37 rfl Has.here rfl) (Rg.p (p_len 75 Tryz.underlying37 rfl) ?_)))))
   refine Rg.m (v := .int .i64 (0)) rfl (Rg.nl (nT (?_)))
   obtain ⟨x38, hx39, H⟩ := bd.of H
   obtain ⟨n40, hx39⟩ := lp.of hx39
   refine tMidNC (ι := { q : (Unit) × Unit // x38 = .inl q.1 }) (fun ψ => [(1, .pointer (some ⟨g4, 0, none⟩)), (3, .int .i64 ((v0.1.1.length : Int)))]) (fun ψ => [box g4 39 [.slice x_v0.1.1.1 v0.1.1.length x_v0.1.1.2, .slice x_v0.1.2.1 v0.1.2.length x_v0.1.2.2, .slice x_v0.2.1.1 v0.2.1.length x_v0.2.1.2, .slice x_v0.2.2.1 v0.2.2.length x_v0.2.2.2]]) ?_ ?_
   ·refine Tr.block (tLoopC (ι := { q : Nat × (Int) × Unit // itr (p_impl_StoreOk_b1 v0) q.1 q.2.1 = some x38 }) (fun ζ => [(1, .pointer (some ⟨g4, 0, none⟩)), (3, .int .i64 ((v0.1.1.length : Int))), (54, .slice x_v0.2.2.1 v0.2.2.length x_v0.2.2.2), (55, .int .i64 ((v0.2.2.length : Int))), (56, .int .i64 (ζ.1.2.1))]) (fun ζ => [box g4 39 [.slice x_v0.1.1.1 v0.1.1.length x_v0.1.1.2, .slice x_v0.1.2.1 v0.1.2.length x_v0.1.2.2, .slice x_v0.2.1.1 v0.2.1.length x_v0.2.1.2, .slice x_v0.2.2.1 v0.2.2.length x_v0.2.2.2]]) (fun ζ => ζ.1.1) ⟨(n40, 0, ()), hx39⟩ ⟨rfl, rfl, rfl, rfl, rfl, trivial⟩ (.cons Del.here .nil) ?_)
    rintro ⟨⟨m41, Q42, z43⟩, hk48⟩
    obtain ⟨m49, t45, e, H1, hi46, hb47⟩ := itr.of (n := m41) (s := Q42) hk48
    subst e; unfold p_impl_StoreOk_b1 at H1
    show Tr _ _ _ _ _ [(1, .pointer (some ⟨g4, 0, none⟩)), (3, .int .i64 ((v0.1.1.length : Int))), (54, .slice x_v0.2.2.1 v0.2.2.length x_v0.2.2.2), (55, .int .i64 ((v0.2.2.length : Int))), (56, .int .i64 (Q42))] _ [box g4 39 [.slice x_v0.1.1.1 v0.1.1.length x_v0.1.1.2, .slice x_v0.1.2.1 v0.1.2.length x_v0.1.2.2, .slice x_v0.2.1.1 v0.2.1.length x_v0.2.1.2, .slice x_v0.2.2.1 v0.2.2.length x_v0.2.2.2]]
    refine Tr.seq (Tr.region (Rg.p (p_lss rfl rfl) (Rg.nl (nT (?_)))))
    refine Tr.seq (Tr.cond (b := decide (Q42 < (v0.2.2.length : Int))) rfl (fun h50 => ?_) (fun h50 => ?_))
    ·have H1 := cdT h50 H1
     refine tSkip (nT (?_))
     refine Tr.seq (Tr.block (Tr.seq (Tr.region ?_)))
     obtain ⟨h51, H1⟩ := gd.of H1
     refine Rg.o (q_ixg Tryz.underlying37 ty75 rfl rfl h51 rfl (EntB.flat (Ent.b Ent.z.s.s.s.s.s.s))) (Rg.o (v := .agg #[.int .i64 ((nth v0.2.2 Q42.toNat).1), .int .i64 (((nth v0.2.2 Q42.toNat).2).1), .int .i64 (((nth v0.2.2 Q42.toNat).2).2)]) (q_ldeA (i := Q42.toNat) ty75 rfl (EntB.flat (Ent.b Ent.z.s.s.s.s.s.s)) h51.lt) (Rg.ef (e_alloc ty75) rfl ?_))
     rintro _ _ _ ⟨g52, rfl, rfl, rfl⟩
     refine Rg.en (e_store (cs' := [.int .i64 ((nth v0.2.2 Q42.toNat).1), .int .i64 (((nth v0.2.2 Q42.toNat).2).1), .int .i64 (((nth v0.2.2 Q42.toNat).2).2)]) ty75 rfl rfl Upd.here rfl (one_of rfl) (Nat.le_of_ble_eq_true rfl) rfl) rfl ?_
     rintro _ _ _ ⟨rfl, rfl, rfl⟩
     refine Rg.nl (nT (?_))
     obtain ⟨b53, j54, H1⟩ := bd.of H1
     refine tMid1 [(70, .bool (b53)), (1, .pointer (some ⟨g4, 0, none⟩)), (3, .int .i64 ((v0.1.1.length : Int))), (54, .slice x_v0.2.2.1 v0.2.2.length x_v0.2.2.2), (55, .int .i64 ((v0.2.2.length : Int))), (56, .int .i64 (Q42))] ?_ ?_
     ·refine tLinT [(7, .pointer (some ⟨g52, 0, none⟩)), (1, .pointer (some ⟨g4, 0, none⟩)), (3, .int .i64 ((v0.1.1.length : Int))), (54, .slice x_v0.2.2.1 v0.2.2.length x_v0.2.2.2), (55, .int .i64 ((v0.2.2.length : Int))), (56, .int .i64 (Q42))] ⟨rfl, rfl, rfl, rfl, rfl, rfl, trivial⟩ (Lin.p (p_fabE fa75_0 rfl rfl) (Lin.o (q_ldb ty3 rfl Has.here rfl) (Lin.m rfl ?_)))
      obtain ⟨r55, h56, j54⟩ := bd.of j54
      refine Lin.o (q_call (c_impl_within ((nth v0.2.2 Q42.toNat).1) 1 (v0.1.1.length : Int) h56) rfl EntsB.nil) (Lin.p (p_not rfl) ?_)
      rcases Bool.eq_false_or_eq_true (!r55) with h57 | h57
      ·have j54 := cdT h57 j54
       refine Lin.e_ (p_move rfl) h57 ?_
       iterate 4 refine Lin.sk rfl ?_
       refine Lin.p (v := .bool (true)) (p_pickT rfl rfl) ?_
       obtain rfl := si j54
       show At _ _ _ _ _ _
       exact n1 ⟨rfl, rfl, rfl, rfl, rfl, rfl, trivial⟩
      ·have j54 := cdF h57 j54
       refine Lin.e_ (p_move rfl) h57 (Lin.h rfl (p_fabE fa75_1 rfl rfl) (Lin.i (v := .agg #[.int .i64 (((nth v0.2.2 Q42.toNat).2).1), .int .i64 (((nth v0.2.2 Q42.toNat).2).2)]) rfl (q_ldbP [.int .i64 (((nth v0.2.2 Q42.toNat).2).1), .int .i64 (((nth v0.2.2 Q42.toNat).2).2)] ty58 rfl Has.here rfl rfl) ?_))
       obtain ⟨r58, h59, j54⟩ := bd.of j54
       refine Lin.i rfl (q_call (c_impl_rowOk ((nth v0.2.2 Q42.toNat).2) h59) rfl EntsB.nil) (Lin.h rfl (p_not rfl) (Lin.p (p_pickF rfl rfl) ?_))
       obtain rfl := si j54
       show At _ _ _ _ _ _
       exact n1 ⟨rfl, rfl, rfl, rfl, rfl, rfl, trivial⟩
     refine Tr.cond (b := b53) rfl (fun h60 => ?_) (fun h60 => ?_)
     ·have H1 := cdT h60 H1
      refine Tr.seq (Tr.region (Rg.a (v := .bool (false)) rfl (Rg.nl (nT (?_)))))
      refine tRet (rB (rT (rT (rB (rT (rT (?_)))))))
      have hx := hb47 _ (Option.some.inj H1).symm; subst hx
      replace H := sw.r H
      obtain rfl := si H
      exact bk1 rfl rfl rfl rfl Take.nil
     ·have H1 := cdF h60 H1
      refine tSkip (nB (nT (?_)))
      refine Tr.region ?_
      obtain ⟨h61, H1⟩ := gd.of H1
      refine Rg.p (p_add rfl rfl h61) (Rg.m rfl (Rg.nl ?_))
      exact nLC ⟨(m49, Q42 + 1, ()), hi46 _ (Option.some.inj H1).symm⟩ (Nat.lt_succ_self _) ⟨rfl, rfl, rfl, rfl, rfl, trivial⟩ Ents.refl (.cons dl1 .nil)
    ·have H1 := cdF h50 H1
     refine tExit (xT (xT (xE (?_))))
     exact nMC ⟨((), ()), (hb47 _ (Option.some.inj H1).symm).symm⟩ ⟨rfl, rfl, trivial⟩ Ents.refl (.cons Del.here .nil)
   ·rintro ⟨⟨e62, y44⟩, hx⟩; subst hx; replace H := sw.l H
    show At _ _ [(1, .pointer (some ⟨g4, 0, none⟩)), (3, .int .i64 ((v0.1.1.length : Int)))] _ [box g4 39 [.slice x_v0.1.1.1 v0.1.1.length x_v0.1.1.2, .slice x_v0.1.2.1 v0.1.2.length x_v0.1.2.2, .slice x_v0.2.1.1 v0.2.1.length x_v0.2.1.2, .slice x_v0.2.2.1 v0.2.2.length x_v0.2.2.2]] _
    refine nT (?_)
    refine Tr.seq (Tr.seq (Tr.region (Rg.a (v := .int .i64 (1)) rfl (Rg.nl (nT (?_))))))
    obtain ⟨x63, hx64, H⟩ := bd.of H
    obtain ⟨n65, hx64⟩ := lp.of hx64
    refine tMidNC (ι := { q : (Unit) × Unit // x63 = .inl q.1 }) (fun ψ => []) (fun ψ => []) ?_ ?_
    ·refine Tr.block (tLoopC (ι := { q : Nat × (Int) × Unit // itr (p_impl_StoreOk_b2 v0) q.1 q.2.1 = some x63 }) (fun ζ => [(1, .pointer (some ⟨g4, 0, none⟩)), (3, .int .i64 ((v0.1.1.length : Int))), (8, .int .i64 (ζ.1.2.1))]) (fun ζ => [box g4 39 [.slice x_v0.1.1.1 v0.1.1.length x_v0.1.1.2, .slice x_v0.1.2.1 v0.1.2.length x_v0.1.2.2, .slice x_v0.2.1.1 v0.2.1.length x_v0.2.1.2, .slice x_v0.2.2.1 v0.2.2.length x_v0.2.2.2]]) (fun ζ => ζ.1.1) ⟨(n65, 1, ()), hx64⟩ ⟨rfl, rfl, rfl, trivial⟩ (.cons Del.here .nil) ?_)
     rintro ⟨⟨m66, Q67, z68⟩, hk73⟩
     obtain ⟨m74, t70, e, H1, hi71, hb72⟩ := itr.of (n := m66) (s := Q67) hk73
     subst e; unfold p_impl_StoreOk_b2 at H1
     show Tr _ _ _ _ _ [(1, .pointer (some ⟨g4, 0, none⟩)), (3, .int .i64 ((v0.1.1.length : Int))), (8, .int .i64 (Q67))] _ [box g4 39 [.slice x_v0.1.1.1 v0.1.1.length x_v0.1.1.2, .slice x_v0.1.2.1 v0.1.2.length x_v0.1.2.2, .slice x_v0.2.1.1 v0.2.1.length x_v0.2.1.2, .slice x_v0.2.2.1 v0.2.2.length x_v0.2.2.2]]
     refine Tr.seq (Tr.seq (Tr.region (Rg.m rfl (Rg.m rfl (Rg.p (p_leq rfl rfl) ?_)))))
     refine Rg.nl (nT (?_))
     refine Tr.cond (b := decide (Q67 ≤ (v0.1.1.length : Int))) rfl (fun h75 => ?_) (fun h75 => ?_)
     ·have H1 := cdT h75 H1
      refine tSkip (nT (?_))
      refine Tr.seq (Tr.block (Tr.seq (Tr.region (Rg.o (q_ldbA ty39 rfl Has.here rfl) (Rg.m rfl ?_)))))
      obtain ⟨r76, h77, H1⟩ := bd.of H1
      refine Rg.ef (e_callB (c_impl_Store_rows v0 x_v0 Q67 h77) (fun _ => (Solo.tree Solo.nil)) rfl (EntsB.cons (Ent.b (Ent.dimm Ent.z.s.s)) (EntsB.cons (Ent.b (Ent.dimm Ent.z.s)) (EntsB.cons (Ent.b (Ent.dimm Ent.z)) (EntsB.cons (Ent.b Ent.z.s.s.s.s.s.s) EntsB.nil))))) rfl ?_
      rintro _ _ _ ⟨x78, rfl, rfl, rfl⟩
      refine Rg.p (p_len 58 Tryz.underlying43 rfl) (Rg.p (p_gtr rfl rfl) (Rg.nl (nT (?_))))
      refine Tr.cond (b := decide (24 < (r76.length : Int))) rfl (fun h79 => ?_) (fun h79 => ?_)
      ·have H1 := cdT h79 H1
       refine Tr.seq (Tr.region (Rg.a (v := .bool (false)) rfl (Rg.nl (nT (?_)))))
       refine tRet (rB (rT (rT (rB (rT (rT (?_)))))))
       have hx := hb72 _ (Option.some.inj H1).symm; subst hx
       replace H := sw.r H
       obtain rfl := si H
       exact bk1 rfl rfl rfl rfl Take.nil
      ·have H1 := cdF h79 H1
       refine tSkip (nB (nT (?_)))
       refine Tr.region (Rg.m rfl ?_)
       obtain ⟨h80, H1⟩ := gd.of H1
       refine Rg.p (p_add rfl rfl h80) (Rg.a rfl (Rg.nl ?_))
       exact nLC ⟨(m74, Q67 + 1, ()), hi71 _ (Option.some.inj H1).symm⟩ (Nat.lt_succ_self _) ⟨rfl, rfl, rfl, trivial⟩ Ents.refl (.cons dl1 .nil)
     ·have H1 := cdF h75 H1
      refine tExit (xT (xT (xE (?_))))
      exact nMC ⟨((), ()), (hb72 _ (Option.some.inj H1).symm).symm⟩ trivial Ents.refl Take.nil
    ·rintro ⟨⟨e81, y69⟩, hx⟩; subst hx; replace H := sw.l H
     show At _ _ [] _ [] _
     refine nT (?_)
     refine Tr.seq (Tr.region (Rg.a (v := .bool (true)) rfl (Rg.nl (nT (?_)))))
     refine tRet ?_
     obtain rfl := si H
     exact bk1 rfl rfl rfl rfl Take.nil
noncomputable def p_laws_eqTag (v0 : Tag) (v1 : Tag) : Option (Bool) := cond (!decide (v0.1 = v1.1)) (some false) (cond (!decide (v0.2 = v1.2)) (some false) (some true))
theorem c_laws_eqTag {r : Bool} (v0 : Tag) (v1 : Tag) (H : p_laws_eqTag v0 v1 = some r) : Fn' Tryz.prog 68 #[.agg #[.string (v0.1), .string (v0.2)], .agg #[.string (v1.1), .string (v1.2)]] [] [] (ι := Unit) (fun _ => .bool (r)) (fun _ => []) (fun _ => []) := by
 refine calls_of (args := [_, _]) Tryz.func68 rfl (by kernel_rfl) Tryz.ntmps68 (by simp) fun c => ?_
 unfold p_laws_eqTag at H
 refine Tr.seq (Tr.region (Rg.ef (e_box (t := 96) rfl) rfl ?_))
 rintro _ _ _ ⟨g1, rfl, rfl, rfl⟩
 refine Rg.ef (e_box (t := 96) rfl) rfl ?_
 rintro _ _ _ ⟨g2, rfl, rfl, rfl⟩
 refine Rg.a (v := .bool (false)) rfl (Rg.nl (nT (?_)))
 refine Tr.seq (Tr.seq (Tr.region (Rg.p (p_fabE fa96_0 rfl rfl) (Rg.o (q_ldb ty9 rfl hs1 rfl) (Rg.p (p_fabE fa96_0 rfl rfl) ?_)))))
 refine Rg.o (q_ldb ty9 rfl Has.here rfl) (Rg.p (p_sneq rfl rfl) (Rg.nl (nT (?_))))
 refine Tr.cond (b := !decide (v0.1 = v1.1)) rfl (fun h3 => ?_) (fun h3 => ?_)
 ·have H := cdT h3 H
  refine Tr.seq (Tr.region (Rg.a (v := .bool (false)) rfl (Rg.nl (nT (?_)))))
  refine tRet (rT (?_))
  obtain rfl := si H
  exact bk1 rfl rfl rfl rfl Take.nil
 ·have H := cdF h3 H
  refine tSkip (nT (?_))
  refine Tr.seq (Tr.seq (Tr.region (Rg.p (p_fabE fa96_1 rfl rfl) (Rg.o (q_ldb ty9 rfl hs1 rfl) (Rg.p (p_fabE fa96_1 rfl rfl) ?_)))))
  refine Rg.o (q_ldb ty9 rfl Has.here rfl) (Rg.p (p_sneq rfl rfl) (Rg.nl (nT (?_))))
  refine Tr.cond (b := !decide (v0.2 = v1.2)) rfl (fun h4 => ?_) (fun h4 => ?_)
  ·have H := cdT h4 H
   refine Tr.seq (Tr.region (Rg.a (v := .bool (false)) rfl (Rg.nl (nT (?_)))))
   refine tRet (rT (?_))
   obtain rfl := si H
   exact bk1 rfl rfl rfl rfl Take.nil
  ·have H := cdF h4 H
   refine tSkip (nT (?_))
   refine Tr.seq (Tr.region (Rg.a (v := .bool (true)) rfl (Rg.nl (nT (?_)))))
   refine tRet ?_
   obtain rfl := si H
   exact bk1 rfl rfl rfl rfl Take.nil
noncomputable def p_laws_eqTagS_b0 (v0 : (List Tag)) (v1 : (List Tag)) (Q6 : Int) : Option ((Int) ⊕ (Unit ⊕ Bool)) := cond (decide (Q6 < (v0.length : Int))) (gd (ix Q6 v0.length) <| gd (ix Q6 v1.length) <| bd (p_laws_eqTag (nth v0 Q6.toNat) (nth v1 Q6.toNat)) fun r17 => cond (!r17) (some (.inr (.inr false))) (gd (I64 (Q6 + 1)) <| some (.inl (Q6 + 1)))) (some (.inr (.inl ())))
noncomputable def p_laws_eqTagS (v0 : (List Tag)) (v1 : (List Tag)) : Option (Bool) := cond (!decide ((v0.length : Int) = (v1.length : Int))) (some false) (bd (lp (p_laws_eqTagS_b0 v0 v1) 0) <| sw (fun _ => some true) (fun q => some q))
theorem c_laws_eqTagS {r : Bool} (v0 : (List Tag)) (x_v0 : Option Addr × Nat) (v1 : (List Tag)) (x_v1 : Option Addr × Nat) (H : p_laws_eqTagS v0 v1 = some r) : Fn' Tryz.prog 27 #[.slice x_v0.1 v0.length x_v0.2, .slice x_v1.1 v1.length x_v1.2] [imm (.slice x_v0.1 v0.length x_v0.2) v0, imm (.slice x_v1.1 v1.length x_v1.2) v1] [] (ι := Unit) (fun _ => .bool (r)) (fun _ => []) (fun _ => []) := by
 refine calls_of (args := [_, _]) Tryz.func27 rfl (by kernel_rfl) Tryz.ntmps27 (by simp) fun c => ?_
 unfold p_laws_eqTagS at H
 refine Tr.seq (Tr.region (Rg.a (v := .bool (false)) rfl (Rg.nl (nT (?_)))))
 refine Tr.seq (Tr.seq (Tr.region (Rg.m rfl (Rg.p (p_len 96 Tryz.underlying56 rfl) (Rg.m rfl ?_)))))
 refine Rg.p (p_len 96 Tryz.underlying56 rfl) (Rg.p (p_neq rfl rfl) (Rg.nl (nT (?_))))
 refine Tr.cond (b := !decide ((v0.length : Int) = (v1.length : Int))) rfl (fun h1 => ?_) (fun h1 => ?_)
 ·have H := cdT h1 H
  refine Tr.seq (Tr.region (Rg.a (v := .bool (false)) rfl (Rg.nl (nT (?_)))))
  refine tRet (rT (?_))
  obtain rfl := si H
  exact bk1 rfl rfl rfl rfl Take.nil
 ·have H := cdF h1 H
  refine tSkip (nT (?_))
  refine Tr.seq (Tr.seq (Tr.region (Rg.a (v := .int .i64 (0)) rfl (Rg.nl (nT (?_))))))
  obtain ⟨x2, hx3, H⟩ := bd.of H
  obtain ⟨n4, hx3⟩ := lp.of hx3
  refine tMidNC (ι := { q : (Unit) × Unit // x2 = .inl q.1 }) (fun ψ => []) (fun ψ => []) ?_ ?_
  ·refine Tr.block (tLoopC (ι := { q : Nat × (Int) × Unit // itr (p_laws_eqTagS_b0 v0 v1) q.1 q.2.1 = some x2 }) (fun ζ => [(0, .slice x_v0.1 v0.length x_v0.2), (1, .slice x_v1.1 v1.length x_v1.2), (5, .int .i64 (ζ.1.2.1))]) (fun ζ => []) (fun ζ => ζ.1.1) ⟨(n4, 0, ()), hx3⟩ ⟨rfl, rfl, rfl, trivial⟩ Take.nil ?_)
   rintro ⟨⟨m5, Q6, z7⟩, hk12⟩
   obtain ⟨m13, t9, e, H1, hi10, hb11⟩ := itr.of (n := m5) (s := Q6) hk12
   subst e; unfold p_laws_eqTagS_b0 at H1
   show Tr _ _ _ _ _ [(0, .slice x_v0.1 v0.length x_v0.2), (1, .slice x_v1.1 v1.length x_v1.2), (5, .int .i64 (Q6))] _ []
   refine Tr.seq (Tr.seq (Tr.region (Rg.m rfl (Rg.m rfl (Rg.p (p_len 96 Tryz.underlying56 rfl) ?_)))))
   refine Rg.p (p_lss rfl rfl) (Rg.nl (nT (?_)))
   refine Tr.cond (b := decide (Q6 < (v0.length : Int))) rfl (fun h14 => ?_) (fun h14 => ?_)
   ·have H1 := cdT h14 H1
    refine tSkip (nT (?_))
    refine Tr.seq (Tr.block (Tr.seq (tLinS [(0, .slice x_v0.1 v0.length x_v0.2), (1, .slice x_v1.1 v1.length x_v1.2), (5, .int .i64 (Q6))] Tryz.mixed (.inr (by kernel_rfl)) ⟨rfl, rfl, rfl, trivial⟩ rfl (Lin.m rfl (Lin.m rfl ?_)))))
    obtain ⟨h15, H1⟩ := gd.of H1
    refine Lin.o (q_ixg Tryz.underlying56 ty96 rfl rfl h15 rfl (EntB.flat (Ent.b Ent.z))) (Lin.o (v := .agg #[.string ((nth v0 Q6.toNat).1), .string ((nth v0 Q6.toNat).2)]) (q_ldeA (i := Q6.toNat) ty96 rfl (EntB.flat (Ent.b Ent.z)) h15.lt) (Lin.m rfl (Lin.m rfl ?_)))
    obtain ⟨h16, H1⟩ := gd.of H1
    refine Lin.o (q_ixg Tryz.underlying56 ty96 rfl rfl h16 rfl (EntB.flat (Ent.b Ent.z.s))) (Lin.o (v := .agg #[.string ((nth v1 Q6.toNat).1), .string ((nth v1 Q6.toNat).2)]) (q_ldeA (i := Q6.toNat) ty96 rfl (EntB.flat (Ent.b Ent.z.s)) h16.lt) ?_)
    obtain ⟨r17, h18, H1⟩ := bd.of H1
    refine Lin.o (q_call (c_laws_eqTag (nth v0 Q6.toNat) (nth v1 Q6.toNat) h18) rfl EntsB.nil) (Lin.p (p_not rfl) ?_)
    show At _ _ _ _ _ _
    refine nT (?_)
    refine Tr.cond (b := !r17) rfl (fun h19 => ?_) (fun h19 => ?_)
    ·have H1 := cdT h19 H1
     refine Tr.seq (Tr.region (Rg.a (v := .bool (false)) rfl (Rg.nl (nT (?_)))))
     refine tRet (rB (rT (rT (rB (rT (rT (?_)))))))
     have hx := hb11 _ (Option.some.inj H1).symm; subst hx
     replace H := sw.r H
     obtain rfl := si H
     exact bk1 rfl rfl rfl rfl Take.nil
    ·have H1 := cdF h19 H1
     refine tSkip (nB (nT (?_)))
     refine Tr.region (Rg.m rfl ?_)
     obtain ⟨h20, H1⟩ := gd.of H1
     refine Rg.p (p_add rfl rfl h20) (Rg.a rfl (Rg.nl ?_))
     exact nLC ⟨(m13, Q6 + 1, ()), hi10 _ (Option.some.inj H1).symm⟩ (Nat.lt_succ_self _) ⟨rfl, rfl, rfl, trivial⟩ Ents.refl Take.nil
   ·have H1 := cdF h14 H1
    refine tExit (xT (xT (xE (?_))))
    exact nMC ⟨((), ()), (hb11 _ (Option.some.inj H1).symm).symm⟩ trivial Ents.refl Take.nil
  ·rintro ⟨⟨e21, y8⟩, hx⟩; subst hx; replace H := sw.l H
   show At _ _ [] _ [] _
   refine nT (?_)
   refine Tr.seq (Tr.region (Rg.a (v := .bool (true)) rfl (Rg.nl (nT (?_)))))
   refine tRet ?_
   obtain rfl := si H
   exact bk1 rfl rfl rfl rfl Take.nil
noncomputable def p_laws_eqTagSS_b0 (v0 : (List (List Tag))) (v1 : (List (List Tag))) (Q8 : Int) : Option ((Int) ⊕ (Unit ⊕ Bool)) := cond (decide (Q8 < (v0.length : Int))) (gd (ix Q8 v0.length) <| gd (ix Q8 v1.length) <| bd (p_laws_eqTagS (nth v0 Q8.toNat) (nth v1 Q8.toNat)) fun r19 => cond (!r19) (some (.inr (.inr false))) (gd (I64 (Q8 + 1)) <| some (.inl (Q8 + 1)))) (some (.inr (.inl ())))
noncomputable def p_laws_eqTagSS (v0 : (List (List Tag))) (v1 : (List (List Tag))) : Option (Bool) := cond (!decide ((v0.length : Int) = (v1.length : Int))) (some false) (bd (lp (p_laws_eqTagSS_b0 v0 v1) 0) <| sw (fun _ => some true) (fun q => some q))
theorem c_laws_eqTagSS {r : Bool} (v0 : (List (List Tag))) (x_v0 : Option Addr × Nat) (v1 : (List (List Tag))) (x_v1 : Option Addr × Nat) (H : p_laws_eqTagSS v0 v1 = some r) : Fn' Tryz.prog 96 #[.slice x_v0.1 v0.length x_v0.2, .slice x_v1.1 v1.length x_v1.2] [imm (.slice x_v0.1 v0.length x_v0.2) v0, imm (.slice x_v1.1 v1.length x_v1.2) v1] [] (ι := Unit) (fun _ => .bool (r)) (fun _ => []) (fun _ => []) := by
 refine calls_of (args := [_, _]) Tryz.func96 rfl (by kernel_rfl) Tryz.ntmps96 (by simp) fun c => ?_
 unfold p_laws_eqTagSS at H
 refine Tr.openD Ent.z fun X1 => (Tr.openD Ent.z.s.s fun X2 => (Tr.seq (Tr.region (Rg.a (v := .bool (false)) rfl (Rg.nl ?_)))))
 refine nT (?_)
 refine Tr.seq (Tr.seq (Tr.region (Rg.m rfl (Rg.p (p_len 56 Tryz.underlying32 rfl) (Rg.m rfl ?_)))))
 refine Rg.p (p_len 56 Tryz.underlying32 rfl) (Rg.p (p_neq rfl rfl) (Rg.nl (nT (?_))))
 refine Tr.cond (b := !decide ((v0.length : Int) = (v1.length : Int))) rfl (fun h3 => ?_) (fun h3 => ?_)
 ·have H := cdT h3 H
  refine Tr.seq (Tr.region (Rg.a (v := .bool (false)) rfl (Rg.nl (nT (?_)))))
  refine tRet (rT (?_))
  obtain rfl := si H
  exact bk1 rfl rfl rfl rfl Take.nil
 ·have H := cdF h3 H
  refine tSkip (nT (?_))
  refine Tr.seq (Tr.seq (Tr.region (Rg.a (v := .int .i64 (0)) rfl (Rg.nl (nT (?_))))))
  obtain ⟨x4, hx5, H⟩ := bd.of H
  obtain ⟨n6, hx5⟩ := lp.of hx5
  refine tMidNC (ι := { q : (Unit) × Unit // x4 = .inl q.1 }) (fun ψ => []) (fun ψ => []) ?_ ?_
  ·refine Tr.block (tLoopC (ι := { q : Nat × (Int) × Unit // itr (p_laws_eqTagSS_b0 v0 v1) q.1 q.2.1 = some x4 }) (fun ζ => [(0, .slice x_v0.1 v0.length x_v0.2), (1, .slice x_v1.1 v1.length x_v1.2), (5, .int .i64 (ζ.1.2.1))]) (fun ζ => []) (fun ζ => ζ.1.1) ⟨(n6, 0, ()), hx5⟩ ⟨rfl, rfl, rfl, trivial⟩ Take.nil ?_)
   rintro ⟨⟨m7, Q8, z9⟩, hk14⟩
   obtain ⟨m15, t11, e, H1, hi12, hb13⟩ := itr.of (n := m7) (s := Q8) hk14
   subst e; unfold p_laws_eqTagSS_b0 at H1
   show Tr _ _ _ _ _ [(0, .slice x_v0.1 v0.length x_v0.2), (1, .slice x_v1.1 v1.length x_v1.2), (5, .int .i64 (Q8))] _ []
   refine Tr.seq (Tr.seq (Tr.region (Rg.m rfl (Rg.m rfl (Rg.p (p_len 56 Tryz.underlying32 rfl) ?_)))))
   refine Rg.p (p_lss rfl rfl) (Rg.nl (nT (?_)))
   refine Tr.cond (b := decide (Q8 < (v0.length : Int))) rfl (fun h16 => ?_) (fun h16 => ?_)
   ·have H1 := cdT h16 H1
    refine tSkip (nT (?_))
    refine Tr.seq (Tr.block (Tr.seq (tLinS [(0, .slice x_v0.1 v0.length x_v0.2), (1, .slice x_v1.1 v1.length x_v1.2), (5, .int .i64 (Q8))] Tryz.mixed (.inr (by kernel_rfl)) ⟨rfl, rfl, rfl, trivial⟩ rfl (Lin.m rfl (Lin.m rfl ?_)))))
    obtain ⟨h17, H1⟩ := gd.of H1
    refine Lin.o (q_ixg Tryz.underlying32 ty56 rfl rfl h17 rfl (Ent.b (Ent.darr Ent.z.s))) (Lin.o (q_lde (i := Q8.toNat) (j := 0) ty56 rfl (Ent.b (Ent.darr Ent.z.s)) h17.lt rfl) (Lin.m rfl (Lin.m rfl ?_)))
    obtain ⟨h18, H1⟩ := gd.of H1
    refine Lin.o (q_ixg Tryz.underlying32 ty56 rfl rfl h18 rfl (Ent.b (Ent.darr Ent.z))) (Lin.o (q_lde (i := Q8.toNat) (j := 0) ty56 rfl (Ent.b (Ent.darr Ent.z)) h18.lt rfl) ?_)
    obtain ⟨r19, h20, H1⟩ := bd.of H1
    refine Lin.o (q_call (c_laws_eqTagS (nth v0 Q8.toNat) ((X1 Q8.toNat).1, (X1 Q8.toNat).2.1) (nth v1 Q8.toNat) ((X2 Q8.toNat).1, (X2 Q8.toNat).2.1) h20) rfl (EntsB.cons (Ent.b (Ent.dimm (Ent.del Ent.z.s h17.lt))) (EntsB.cons (Ent.b (Ent.dimm (Ent.del Ent.z h18.lt))) EntsB.nil))) (Lin.p (p_not rfl) ?_)
    show At _ _ _ _ _ _
    refine nT (?_)
    refine Tr.cond (b := !r19) rfl (fun h21 => ?_) (fun h21 => ?_)
    ·have H1 := cdT h21 H1
     refine Tr.seq (Tr.region (Rg.a (v := .bool (false)) rfl (Rg.nl (nT (?_)))))
     refine tRet (rB (rT (rT (rB (rT (rT (?_)))))))
     have hx := hb13 _ (Option.some.inj H1).symm; subst hx
     replace H := sw.r H
     obtain rfl := si H
     exact bk1 rfl rfl rfl rfl Take.nil
    ·have H1 := cdF h21 H1
     refine tSkip (nB (nT (?_)))
     refine Tr.region (Rg.m rfl ?_)
     obtain ⟨h22, H1⟩ := gd.of H1
     refine Rg.p (p_add rfl rfl h22) (Rg.a rfl (Rg.nl ?_))
     exact nLC ⟨(m15, Q8 + 1, ()), hi12 _ (Option.some.inj H1).symm⟩ (Nat.lt_succ_self _) ⟨rfl, rfl, rfl, trivial⟩ Ents.refl Take.nil
   ·have H1 := cdF h16 H1
    refine tExit (xT (xT (xE (?_))))
    exact nMC ⟨((), ()), (hb13 _ (Option.some.inj H1).symm).symm⟩ trivial Ents.refl Take.nil
  ·rintro ⟨⟨e23, y10⟩, hx⟩; subst hx; replace H := sw.l H
   show At _ _ [] _ [] _
   refine nT (?_)
   refine Tr.seq (Tr.region (Rg.a (v := .bool (true)) rfl (Rg.nl (nT (?_)))))
   refine tRet ?_
   obtain rfl := si H
   exact bk1 rfl rfl rfl rfl Take.nil
noncomputable def p_laws_eqIntS_b0 (v0 : (List Int)) (v1 : (List Int)) (Q6 : Int) : Option ((Int) ⊕ (Unit ⊕ Bool)) := cond (decide (Q6 < (v0.length : Int))) (gd (ix Q6 v0.length) <| gd (ix Q6 v1.length) <| cond (!decide ((nth v0 Q6.toNat) = (nth v1 Q6.toNat))) (some (.inr (.inr false))) (gd (I64 (Q6 + 1)) <| some (.inl (Q6 + 1)))) (some (.inr (.inl ())))
noncomputable def p_laws_eqIntS (v0 : (List Int)) (v1 : (List Int)) : Option (Bool) := cond (!decide ((v0.length : Int) = (v1.length : Int))) (some false) (bd (lp (p_laws_eqIntS_b0 v0 v1) 0) <| sw (fun _ => some true) (fun q => some q))
theorem c_laws_eqIntS {r : Bool} (v0 : (List Int)) (x_v0 : Option Addr × Nat) (v1 : (List Int)) (x_v1 : Option Addr × Nat) (H : p_laws_eqIntS v0 v1 = some r) : Fn' Tryz.prog 135 #[.slice x_v0.1 v0.length x_v0.2, .slice x_v1.1 v1.length x_v1.2] [imm (.slice x_v0.1 v0.length x_v0.2) v0, imm (.slice x_v1.1 v1.length x_v1.2) v1] [] (ι := Unit) (fun _ => .bool (r)) (fun _ => []) (fun _ => []) := by
 refine calls_of (args := [_, _]) Tryz.func135 rfl (by kernel_rfl) Tryz.ntmps135 (by simp) fun c => ?_
 unfold p_laws_eqIntS at H
 refine Tr.seq (Tr.region (Rg.a (v := .bool (false)) rfl (Rg.nl (nT (?_)))))
 refine Tr.seq (Tr.seq (Tr.region (Rg.m rfl (Rg.p (p_len 3 Tryz.underlying69 rfl) (Rg.m rfl ?_)))))
 refine Rg.p (p_len 3 Tryz.underlying69 rfl) (Rg.p (p_neq rfl rfl) (Rg.nl (nT (?_))))
 refine Tr.cond (b := !decide ((v0.length : Int) = (v1.length : Int))) rfl (fun h1 => ?_) (fun h1 => ?_)
 ·have H := cdT h1 H
  refine Tr.seq (Tr.region (Rg.a (v := .bool (false)) rfl (Rg.nl (nT (?_)))))
  refine tRet (rT (?_))
  obtain rfl := si H
  exact bk1 rfl rfl rfl rfl Take.nil
 ·have H := cdF h1 H
  refine tSkip (nT (?_))
  refine Tr.seq (Tr.seq (Tr.region (Rg.a (v := .int .i64 (0)) rfl (Rg.nl (nT (?_))))))
  obtain ⟨x2, hx3, H⟩ := bd.of H
  obtain ⟨n4, hx3⟩ := lp.of hx3
  refine tMidNC (ι := { q : (Unit) × Unit // x2 = .inl q.1 }) (fun ψ => []) (fun ψ => []) ?_ ?_
  ·refine Tr.block (tLoopC (ι := { q : Nat × (Int) × Unit // itr (p_laws_eqIntS_b0 v0 v1) q.1 q.2.1 = some x2 }) (fun ζ => [(0, .slice x_v0.1 v0.length x_v0.2), (1, .slice x_v1.1 v1.length x_v1.2), (5, .int .i64 (ζ.1.2.1))]) (fun ζ => []) (fun ζ => ζ.1.1) ⟨(n4, 0, ()), hx3⟩ ⟨rfl, rfl, rfl, trivial⟩ Take.nil ?_)
   rintro ⟨⟨m5, Q6, z7⟩, hk12⟩
   obtain ⟨m13, t9, e, H1, hi10, hb11⟩ := itr.of (n := m5) (s := Q6) hk12
   subst e; unfold p_laws_eqIntS_b0 at H1
   show Tr _ _ _ _ _ [(0, .slice x_v0.1 v0.length x_v0.2), (1, .slice x_v1.1 v1.length x_v1.2), (5, .int .i64 (Q6))] _ []
   refine Tr.seq (Tr.seq (Tr.region (Rg.m rfl (Rg.m rfl (Rg.p (p_len 3 Tryz.underlying69 rfl) ?_)))))
   refine Rg.p (p_lss rfl rfl) (Rg.nl (nT (?_)))
   refine Tr.cond (b := decide (Q6 < (v0.length : Int))) rfl (fun h14 => ?_) (fun h14 => ?_)
   ·have H1 := cdT h14 H1
    refine tSkip (nT (?_))
    refine Tr.seq (Tr.block (Tr.seq (tLinS [(0, .slice x_v0.1 v0.length x_v0.2), (1, .slice x_v1.1 v1.length x_v1.2), (5, .int .i64 (Q6))] Tryz.mixed (.inr (by kernel_rfl)) ⟨rfl, rfl, rfl, trivial⟩ rfl (Lin.m rfl (Lin.m rfl ?_)))))
    obtain ⟨h15, H1⟩ := gd.of H1
    refine Lin.o (q_ixg Tryz.underlying69 ty3 rfl rfl h15 rfl (EntB.flat (Ent.b Ent.z))) (Lin.o (q_lde (i := Q6.toNat) (j := 0) ty3 rfl (EntB.flat (Ent.b Ent.z)) h15.lt rfl) (Lin.m rfl (Lin.m rfl ?_)))
    obtain ⟨h16, H1⟩ := gd.of H1
    refine Lin.o (q_ixg Tryz.underlying69 ty3 rfl rfl h16 rfl (EntB.flat (Ent.b Ent.z.s))) (Lin.o (q_lde (i := Q6.toNat) (j := 0) ty3 rfl (EntB.flat (Ent.b Ent.z.s)) h16.lt rfl) (Lin.p (p_neq rfl rfl) ?_))
    show At _ _ _ _ _ _
    refine nT (?_)
    refine Tr.cond (b := !decide ((nth v0 Q6.toNat) = (nth v1 Q6.toNat))) rfl (fun h17 => ?_) (fun h17 => ?_)
    ·have H1 := cdT h17 H1
     refine Tr.seq (Tr.region (Rg.a (v := .bool (false)) rfl (Rg.nl (nT (?_)))))
     refine tRet (rB (rT (rT (rB (rT (rT (?_)))))))
     have hx := hb11 _ (Option.some.inj H1).symm; subst hx
     replace H := sw.r H
     obtain rfl := si H
     exact bk1 rfl rfl rfl rfl Take.nil
    ·have H1 := cdF h17 H1
     refine tSkip (nB (nT (?_)))
     refine Tr.region (Rg.m rfl ?_)
     obtain ⟨h18, H1⟩ := gd.of H1
     refine Rg.p (p_add rfl rfl h18) (Rg.a rfl (Rg.nl ?_))
     exact nLC ⟨(m13, Q6 + 1, ()), hi10 _ (Option.some.inj H1).symm⟩ (Nat.lt_succ_self _) ⟨rfl, rfl, rfl, trivial⟩ Ents.refl Take.nil
   ·have H1 := cdF h14 H1
    refine tExit (xT (xT (xE (?_))))
    exact nMC ⟨((), ()), (hb11 _ (Option.some.inj H1).symm).symm⟩ trivial Ents.refl Take.nil
  ·rintro ⟨⟨e19, y8⟩, hx⟩; subst hx; replace H := sw.l H
   show At _ _ [] _ [] _
   refine nT (?_)
   refine Tr.seq (Tr.region (Rg.a (v := .bool (true)) rfl (Rg.nl (nT (?_)))))
   refine tRet ?_
   obtain rfl := si H
   exact bk1 rfl rfl rfl rfl Take.nil
noncomputable def p_laws_eqPost (v0 : Post) (v1 : Post) : Option (Bool) := bd (p_laws_eqTag v0.1 v1.1) fun r3 => cond (!r3) (some false) (bd (p_laws_eqIntS v0.2 v1.2) fun r6 => cond (!r6) (some false) (some true))
theorem c_laws_eqPost {r : Bool} (v0 : Post) (x_v0 : (Unit × Unit) × (Option Addr × Nat)) (v1 : Post) (x_v1 : (Unit × Unit) × (Option Addr × Nat)) (H : p_laws_eqPost v0 v1 = some r) : Fn' Tryz.prog 134 #[.agg #[.string (v0.1.1), .string (v0.1.2), .slice x_v0.2.1 v0.2.length x_v0.2.2], .agg #[.string (v1.1.1), .string (v1.1.2), .slice x_v1.2.1 v1.2.length x_v1.2.2]] [imm (.slice x_v0.2.1 v0.2.length x_v0.2.2) v0.2, imm (.slice x_v1.2.1 v1.2.length x_v1.2.2) v1.2] [] (ι := Unit) (fun _ => .bool (r)) (fun _ => []) (fun _ => []) := by
 refine calls_of (args := [_, _]) Tryz.func134 rfl (by kernel_rfl) Tryz.ntmps134 (by simp) fun c => ?_
 unfold p_laws_eqPost at H
 refine Tr.seq (Tr.region (Rg.ef (e_box (t := 113) rfl) rfl ?_))
 rintro _ _ _ ⟨g1, rfl, rfl, rfl⟩
 refine Rg.ef (e_box (t := 113) rfl) rfl ?_
 rintro _ _ _ ⟨g2, rfl, rfl, rfl⟩
 refine Rg.a (v := .bool (false)) rfl (Rg.nl (nT (?_)))
 refine Tr.seq (Tr.seq (Tr.region (Rg.p (p_fabE fa113_0 rfl rfl) (Rg.o (v := .agg #[.string (v0.1.1), .string (v0.1.2)]) (q_ldbP [.string (v0.1.1), .string (v0.1.2)] ty96 rfl hs1 rfl rfl) (Rg.p (p_fabE fa113_0 rfl rfl) ?_)))))
 refine Rg.o (v := .agg #[.string (v1.1.1), .string (v1.1.2)]) (q_ldbP [.string (v1.1.1), .string (v1.1.2)] ty96 rfl Has.here rfl rfl) ?_
 obtain ⟨r3, h4, H⟩ := bd.of H
 refine Rg.o (q_call (c_laws_eqTag v0.1 v1.1 h4) rfl EntsB.nil) (Rg.p (p_not rfl) (Rg.nl (nT (?_))))
 refine Tr.cond (b := !r3) rfl (fun h5 => ?_) (fun h5 => ?_)
 ·have H := cdT h5 H
  refine Tr.seq (Tr.region (Rg.a (v := .bool (false)) rfl (Rg.nl (nT (?_)))))
  refine tRet (rT (?_))
  obtain rfl := si H
  exact bk1 rfl rfl rfl rfl Take.nil
 ·have H := cdF h5 H
  refine tSkip (nT (?_))
  refine Tr.seq (Tr.seq (Tr.region (Rg.p (p_fabE fa113_1 rfl rfl) (Rg.o (q_ldb ty69 rfl hs1 rfl) (Rg.p (p_fabE fa113_1 rfl rfl) ?_)))))
  refine Rg.o (q_ldb ty69 rfl Has.here rfl) ?_
  obtain ⟨r6, h7, H⟩ := bd.of H
  refine Rg.o (q_call (c_laws_eqIntS v0.2 x_v0.2 v1.2 x_v1.2 h7) rfl (EntsB.cons (Ent.b Ent.z) (EntsB.cons (Ent.b Ent.z.s) EntsB.nil))) (Rg.p (p_not rfl) (Rg.nl (nT (?_))))
  refine Tr.cond (b := !r6) rfl (fun h8 => ?_) (fun h8 => ?_)
  ·have H := cdT h8 H
   refine Tr.seq (Tr.region (Rg.a (v := .bool (false)) rfl (Rg.nl (nT (?_)))))
   refine tRet (rT (?_))
   obtain rfl := si H
   exact bk1 rfl rfl rfl rfl Take.nil
  ·have H := cdF h8 H
   refine tSkip (nT (?_))
   refine Tr.seq (Tr.region (Rg.a (v := .bool (true)) rfl (Rg.nl (nT (?_)))))
   refine tRet ?_
   obtain rfl := si H
   exact bk1 rfl rfl rfl rfl Take.nil
noncomputable def p_laws_eqPostS_b0 (v0 : (List Post)) (v1 : (List Post)) (Q8 : Int) : Option ((Int) ⊕ (Unit ⊕ Bool)) := cond (decide (Q8 < (v0.length : Int))) (gd (ix Q8 v0.length) <| gd (ix Q8 v1.length) <| bd (p_laws_eqPost (nth v0 Q8.toNat) (nth v1 Q8.toNat)) fun r19 => cond (!r19) (some (.inr (.inr false))) (gd (I64 (Q8 + 1)) <| some (.inl (Q8 + 1)))) (some (.inr (.inl ())))
noncomputable def p_laws_eqPostS (v0 : (List Post)) (v1 : (List Post)) : Option (Bool) := cond (!decide ((v0.length : Int) = (v1.length : Int))) (some false) (bd (lp (p_laws_eqPostS_b0 v0 v1) 0) <| sw (fun _ => some true) (fun q => some q))
theorem c_laws_eqPostS {r : Bool} (v0 : (List Post)) (x_v0 : Option Addr × Nat) (v1 : (List Post)) (x_v1 : Option Addr × Nat) (H : p_laws_eqPostS v0 v1 = some r) : Fn' Tryz.prog 97 #[.slice x_v0.1 v0.length x_v0.2, .slice x_v1.1 v1.length x_v1.2] [imm (.slice x_v0.1 v0.length x_v0.2) v0, imm (.slice x_v1.1 v1.length x_v1.2) v1] [] (ι := Unit) (fun _ => .bool (r)) (fun _ => []) (fun _ => []) := by
 refine calls_of (args := [_, _]) Tryz.func97 rfl (by kernel_rfl) Tryz.ntmps97 (by simp) fun c => ?_
 unfold p_laws_eqPostS at H
 refine Tr.openD Ent.z fun X1 => (Tr.openD Ent.z.s.s fun X2 => (Tr.seq (Tr.region (Rg.a (v := .bool (false)) rfl (Rg.nl ?_)))))
 refine nT (?_)
 refine Tr.seq (Tr.seq (Tr.region (Rg.m rfl (Rg.p (p_len 113 Tryz.underlying33 rfl) (Rg.m rfl ?_)))))
 refine Rg.p (p_len 113 Tryz.underlying33 rfl) (Rg.p (p_neq rfl rfl) (Rg.nl (nT (?_))))
 refine Tr.cond (b := !decide ((v0.length : Int) = (v1.length : Int))) rfl (fun h3 => ?_) (fun h3 => ?_)
 ·have H := cdT h3 H
  refine Tr.seq (Tr.region (Rg.a (v := .bool (false)) rfl (Rg.nl (nT (?_)))))
  refine tRet (rT (?_))
  obtain rfl := si H
  exact bk1 rfl rfl rfl rfl Take.nil
 ·have H := cdF h3 H
  refine tSkip (nT (?_))
  refine Tr.seq (Tr.seq (Tr.region (Rg.a (v := .int .i64 (0)) rfl (Rg.nl (nT (?_))))))
  obtain ⟨x4, hx5, H⟩ := bd.of H
  obtain ⟨n6, hx5⟩ := lp.of hx5
  refine tMidNC (ι := { q : (Unit) × Unit // x4 = .inl q.1 }) (fun ψ => []) (fun ψ => []) ?_ ?_
  ·refine Tr.block (tLoopC (ι := { q : Nat × (Int) × Unit // itr (p_laws_eqPostS_b0 v0 v1) q.1 q.2.1 = some x4 }) (fun ζ => [(0, .slice x_v0.1 v0.length x_v0.2), (1, .slice x_v1.1 v1.length x_v1.2), (5, .int .i64 (ζ.1.2.1))]) (fun ζ => []) (fun ζ => ζ.1.1) ⟨(n6, 0, ()), hx5⟩ ⟨rfl, rfl, rfl, trivial⟩ Take.nil ?_)
   rintro ⟨⟨m7, Q8, z9⟩, hk14⟩
   obtain ⟨m15, t11, e, H1, hi12, hb13⟩ := itr.of (n := m7) (s := Q8) hk14
   subst e; unfold p_laws_eqPostS_b0 at H1
   show Tr _ _ _ _ _ [(0, .slice x_v0.1 v0.length x_v0.2), (1, .slice x_v1.1 v1.length x_v1.2), (5, .int .i64 (Q8))] _ []
   refine Tr.seq (Tr.seq (Tr.region (Rg.m rfl (Rg.m rfl (Rg.p (p_len 113 Tryz.underlying33 rfl) ?_)))))
   refine Rg.p (p_lss rfl rfl) (Rg.nl (nT (?_)))
   refine Tr.cond (b := decide (Q8 < (v0.length : Int))) rfl (fun h16 => ?_) (fun h16 => ?_)
   ·have H1 := cdT h16 H1
    refine tSkip (nT (?_))
    refine Tr.seq (Tr.block (Tr.seq (tLinS [(0, .slice x_v0.1 v0.length x_v0.2), (1, .slice x_v1.1 v1.length x_v1.2), (5, .int .i64 (Q8))] Tryz.mixed (.inr (by kernel_rfl)) ⟨rfl, rfl, rfl, trivial⟩ rfl (Lin.m rfl (Lin.m rfl ?_)))))
    obtain ⟨h17, H1⟩ := gd.of H1
    refine Lin.o (q_ixg Tryz.underlying33 ty113 rfl rfl h17 rfl (Ent.b (Ent.darr Ent.z.s))) (Lin.o (v := .agg #[.string (((nth v0 Q8.toNat).1).1), .string (((nth v0 Q8.toNat).1).2), .slice (((X1 Q8.toNat).2).1) (((nth v0 Q8.toNat).2).length) (((X1 Q8.toNat).2).2.1)]) (q_ldeA (i := Q8.toNat) ty113 rfl (Ent.b (Ent.darr Ent.z.s)) h17.lt) (Lin.m rfl (Lin.m rfl ?_)))
    obtain ⟨h18, H1⟩ := gd.of H1
    refine Lin.o (q_ixg Tryz.underlying33 ty113 rfl rfl h18 rfl (Ent.b (Ent.darr Ent.z))) (Lin.o (v := .agg #[.string (((nth v1 Q8.toNat).1).1), .string (((nth v1 Q8.toNat).1).2), .slice (((X2 Q8.toNat).2).1) (((nth v1 Q8.toNat).2).length) (((X2 Q8.toNat).2).2.1)]) (q_ldeA (i := Q8.toNat) ty113 rfl (Ent.b (Ent.darr Ent.z)) h18.lt) ?_)
    obtain ⟨r19, h20, H1⟩ := bd.of H1
    refine Lin.o (q_call (c_laws_eqPost (nth v0 Q8.toNat) (((), ()), (((X1 Q8.toNat).2).1, ((X1 Q8.toNat).2).2.1)) (nth v1 Q8.toNat) (((), ()), (((X2 Q8.toNat).2).1, ((X2 Q8.toNat).2).2.1)) h20) rfl (EntsB.cons (Ent.b (Ent.dimm (Ent.dsnd (Ent.del Ent.z.s h17.lt)))) (EntsB.cons (Ent.b (Ent.dimm (Ent.dsnd (Ent.del Ent.z h18.lt)))) EntsB.nil))) (Lin.p (p_not rfl) ?_)
    show At _ _ _ _ _ _
    refine nT (?_)
    refine Tr.cond (b := !r19) rfl (fun h21 => ?_) (fun h21 => ?_)
    ·have H1 := cdT h21 H1
     refine Tr.seq (Tr.region (Rg.a (v := .bool (false)) rfl (Rg.nl (nT (?_)))))
     refine tRet (rB (rT (rT (rB (rT (rT (?_)))))))
     have hx := hb13 _ (Option.some.inj H1).symm; subst hx
     replace H := sw.r H
     obtain rfl := si H
     exact bk1 rfl rfl rfl rfl Take.nil
    ·have H1 := cdF h21 H1
     refine tSkip (nB (nT (?_)))
     refine Tr.region (Rg.m rfl ?_)
     obtain ⟨h22, H1⟩ := gd.of H1
     refine Rg.p (p_add rfl rfl h22) (Rg.a rfl (Rg.nl ?_))
     exact nLC ⟨(m15, Q8 + 1, ()), hi12 _ (Option.some.inj H1).symm⟩ (Nat.lt_succ_self _) ⟨rfl, rfl, rfl, trivial⟩ Ents.refl Take.nil
   ·have H1 := cdF h16 H1
    refine tExit (xT (xT (xE (?_))))
    exact nMC ⟨((), ()), (hb13 _ (Option.some.inj H1).symm).symm⟩ trivial Ents.refl Take.nil
  ·rintro ⟨⟨e23, y10⟩, hx⟩; subst hx; replace H := sw.l H
   show At _ _ [] _ [] _
   refine nT (?_)
   refine Tr.seq (Tr.region (Rg.a (v := .bool (true)) rfl (Rg.nl (nT (?_)))))
   refine tRet ?_
   obtain rfl := si H
   exact bk1 rfl rfl rfl rfl Take.nil
noncomputable def p_laws_eqIndex (v0 : Index) (v1 : Index) : Option (Bool) := bd (p_laws_eqTagSS v0.1 v1.1) fun r7 => cond (!r7) (some false) (bd (p_laws_eqPostS v0.2 v1.2) fun r10 => cond (!r10) (some false) (some true))
theorem c_laws_eqIndex {r : Bool} (v0 : Index) (x_v0 : (Option Addr × Nat) × (Option Addr × Nat)) (v1 : Index) (x_v1 : (Option Addr × Nat) × (Option Addr × Nat)) (H : p_laws_eqIndex v0 v1 = some r) : Fn' Tryz.prog 48 #[.agg #[.slice x_v0.1.1 v0.1.length x_v0.1.2, .slice x_v0.2.1 v0.2.length x_v0.2.2], .agg #[.slice x_v1.1.1 v1.1.length x_v1.1.2, .slice x_v1.2.1 v1.2.length x_v1.2.2]] [imm (.slice x_v0.1.1 v0.1.length x_v0.1.2) v0.1, imm (.slice x_v0.2.1 v0.2.length x_v0.2.2) v0.2, imm (.slice x_v1.1.1 v1.1.length x_v1.1.2) v1.1, imm (.slice x_v1.2.1 v1.2.length x_v1.2.2) v1.2] [] (ι := Unit) (fun _ => .bool (r)) (fun _ => []) (fun _ => []) := by
 refine calls_of (args := [_, _]) Tryz.func48 rfl (by kernel_rfl) Tryz.ntmps48 (by simp) fun c => ?_
 unfold p_laws_eqIndex at H
 refine Tr.openD Ent.z fun X1 => (Tr.openD Ent.z.s.s fun X2 => (Tr.openD Ent.z.s.s.s.s fun X3 => (Tr.openD Ent.z.s.s.s.s.s.s fun X4 => (Tr.seq (Tr.region ?_)))))
 refine Rg.ef (e_box (t := 35) rfl) rfl ?_
 rintro _ _ _ ⟨g5, rfl, rfl, rfl⟩
 refine Rg.ef (e_box (t := 35) rfl) rfl ?_
 rintro _ _ _ ⟨g6, rfl, rfl, rfl⟩
 refine Rg.a (v := .bool (false)) rfl (Rg.nl (nT (?_)))
 refine Tr.seq (Tr.seq (Tr.region (Rg.p (p_fabE fa35_0 rfl rfl) (Rg.o (q_ldb ty32 rfl hs1 rfl) (Rg.p (p_fabE fa35_0 rfl rfl) ?_)))))
 refine Rg.o (q_ldb ty32 rfl Has.here rfl) ?_
 obtain ⟨r7, h8, H⟩ := bd.of H
 refine Rg.o (q_call (c_laws_eqTagSS v0.1 x_v0.1 v1.1 x_v1.1 h8) rfl (EntsB.cons (Ent.b (Ent.dimm Ent.z.s.s.s)) (EntsB.cons (Ent.b (Ent.dimm Ent.z.s)) EntsB.nil))) (Rg.p (p_not rfl) (Rg.nl (nT (?_))))
 refine Tr.cond (b := !r7) rfl (fun h9 => ?_) (fun h9 => ?_)
 ·have H := cdT h9 H
  refine Tr.seq (Tr.region (Rg.a (v := .bool (false)) rfl (Rg.nl (nT (?_)))))
  refine tRet (rT (?_))
  obtain rfl := si H
  exact bk1 rfl rfl rfl rfl Take.nil
 ·have H := cdF h9 H
  refine tSkip (nT (?_))
  refine Tr.seq (Tr.seq (Tr.region (Rg.p (p_fabE fa35_1 rfl rfl) (Rg.o (q_ldb ty33 rfl hs1 rfl) (Rg.p (p_fabE fa35_1 rfl rfl) ?_)))))
  refine Rg.o (q_ldb ty33 rfl Has.here rfl) ?_
  obtain ⟨r10, h11, H⟩ := bd.of H
  refine Rg.o (q_call (c_laws_eqPostS v0.2 x_v0.2 v1.2 x_v1.2 h11) rfl (EntsB.cons (Ent.b (Ent.dimm Ent.z.s.s)) (EntsB.cons (Ent.b (Ent.dimm Ent.z)) EntsB.nil))) (Rg.p (p_not rfl) (Rg.nl (nT (?_))))
  refine Tr.cond (b := !r10) rfl (fun h12 => ?_) (fun h12 => ?_)
  ·have H := cdT h12 H
   refine Tr.seq (Tr.region (Rg.a (v := .bool (false)) rfl (Rg.nl (nT (?_)))))
   refine tRet (rT (?_))
   obtain rfl := si H
   exact bk1 rfl rfl rfl rfl Take.nil
  ·have H := cdF h12 H
   refine tSkip (nT (?_))
   refine Tr.seq (Tr.region (Rg.a (v := .bool (true)) rfl (Rg.nl (nT (?_)))))
   refine tRet ?_
   obtain rfl := si H
   exact bk1 rfl rfl rfl rfl Take.nil
noncomputable def p_laws_eqRow (v0 : Row) (v1 : Row) : Option (Bool) := cond (!decide (v0.1 = v1.1)) (some false) (cond (!decide (v0.2 = v1.2)) (some false) (some true))
theorem c_laws_eqRow {r : Bool} (v0 : Row) (v1 : Row) (H : p_laws_eqRow v0 v1 = some r) : Fn' Tryz.prog 51 #[.agg #[.int .i64 (v0.1), .int .i64 (v0.2)], .agg #[.int .i64 (v1.1), .int .i64 (v1.2)]] [] [] (ι := Unit) (fun _ => .bool (r)) (fun _ => []) (fun _ => []) := by
 refine calls_of (args := [_, _]) Tryz.func51 rfl (by kernel_rfl) Tryz.ntmps51 (by simp) fun c => ?_
 unfold p_laws_eqRow at H
 refine Tr.seq (Tr.region (Rg.ef (e_box (t := 58) rfl) rfl ?_))
 rintro _ _ _ ⟨g1, rfl, rfl, rfl⟩
 refine Rg.ef (e_box (t := 58) rfl) rfl ?_
 rintro _ _ _ ⟨g2, rfl, rfl, rfl⟩
 refine Rg.a (v := .bool (false)) rfl (Rg.nl (nT (?_)))
 refine Tr.seq (Tr.seq (Tr.region (Rg.p (p_fabE fa58_0 rfl rfl) (Rg.o (q_ldb ty3 rfl hs1 rfl) (Rg.p (p_fabE fa58_0 rfl rfl) ?_)))))
 refine Rg.o (q_ldb ty3 rfl Has.here rfl) (Rg.p (p_neq rfl rfl) (Rg.nl (nT (?_))))
 refine Tr.cond (b := !decide (v0.1 = v1.1)) rfl (fun h3 => ?_) (fun h3 => ?_)
 ·have H := cdT h3 H
  refine Tr.seq (Tr.region (Rg.a (v := .bool (false)) rfl (Rg.nl (nT (?_)))))
  refine tRet (rT (?_))
  obtain rfl := si H
  exact bk1 rfl rfl rfl rfl Take.nil
 ·have H := cdF h3 H
  refine tSkip (nT (?_))
  refine Tr.seq (Tr.seq (Tr.region (Rg.p (p_fabE fa58_1 rfl rfl) (Rg.o (q_ldb ty3 rfl hs1 rfl) (Rg.p (p_fabE fa58_1 rfl rfl) ?_)))))
  refine Rg.o (q_ldb ty3 rfl Has.here rfl) (Rg.p (p_neq rfl rfl) (Rg.nl (nT (?_))))
  refine Tr.cond (b := !decide (v0.2 = v1.2)) rfl (fun h4 => ?_) (fun h4 => ?_)
  ·have H := cdT h4 H
   refine Tr.seq (Tr.region (Rg.a (v := .bool (false)) rfl (Rg.nl (nT (?_)))))
   refine tRet (rT (?_))
   obtain rfl := si H
   exact bk1 rfl rfl rfl rfl Take.nil
  ·have H := cdF h4 H
   refine tSkip (nT (?_))
   refine Tr.seq (Tr.region (Rg.a (v := .bool (true)) rfl (Rg.nl (nT (?_)))))
   refine tRet ?_
   obtain rfl := si H
   exact bk1 rfl rfl rfl rfl Take.nil
noncomputable def p_laws_eqRowS_b0 (v0 : (List Row)) (v1 : (List Row)) (Q6 : Int) : Option ((Int) ⊕ (Unit ⊕ Bool)) := cond (decide (Q6 < (v0.length : Int))) (gd (ix Q6 v0.length) <| gd (ix Q6 v1.length) <| bd (p_laws_eqRow (nth v0 Q6.toNat) (nth v1 Q6.toNat)) fun r17 => cond (!r17) (some (.inr (.inr false))) (gd (I64 (Q6 + 1)) <| some (.inl (Q6 + 1)))) (some (.inr (.inl ())))
noncomputable def p_laws_eqRowS (v0 : (List Row)) (v1 : (List Row)) : Option (Bool) := cond (!decide ((v0.length : Int) = (v1.length : Int))) (some false) (bd (lp (p_laws_eqRowS_b0 v0 v1) 0) <| sw (fun _ => some true) (fun q => some q))
theorem c_laws_eqRowS {r : Bool} (v0 : (List Row)) (x_v0 : Option Addr × Nat) (v1 : (List Row)) (x_v1 : Option Addr × Nat) (H : p_laws_eqRowS v0 v1 = some r) : Fn' Tryz.prog 15 #[.slice x_v0.1 v0.length x_v0.2, .slice x_v1.1 v1.length x_v1.2] [imm (.slice x_v0.1 v0.length x_v0.2) v0, imm (.slice x_v1.1 v1.length x_v1.2) v1] [] (ι := Unit) (fun _ => .bool (r)) (fun _ => []) (fun _ => []) := by
 refine calls_of (args := [_, _]) Tryz.func15 rfl (by kernel_rfl) Tryz.ntmps15 (by simp) fun c => ?_
 unfold p_laws_eqRowS at H
 refine Tr.seq (Tr.region (Rg.a (v := .bool (false)) rfl (Rg.nl (nT (?_)))))
 refine Tr.seq (Tr.seq (Tr.region (Rg.m rfl (Rg.p (p_len 58 Tryz.underlying43 rfl) (Rg.m rfl ?_)))))
 refine Rg.p (p_len 58 Tryz.underlying43 rfl) (Rg.p (p_neq rfl rfl) (Rg.nl (nT (?_))))
 refine Tr.cond (b := !decide ((v0.length : Int) = (v1.length : Int))) rfl (fun h1 => ?_) (fun h1 => ?_)
 ·have H := cdT h1 H
  refine Tr.seq (Tr.region (Rg.a (v := .bool (false)) rfl (Rg.nl (nT (?_)))))
  refine tRet (rT (?_))
  obtain rfl := si H
  exact bk1 rfl rfl rfl rfl Take.nil
 ·have H := cdF h1 H
  refine tSkip (nT (?_))
  refine Tr.seq (Tr.seq (Tr.region (Rg.a (v := .int .i64 (0)) rfl (Rg.nl (nT (?_))))))
  obtain ⟨x2, hx3, H⟩ := bd.of H
  obtain ⟨n4, hx3⟩ := lp.of hx3
  refine tMidNC (ι := { q : (Unit) × Unit // x2 = .inl q.1 }) (fun ψ => []) (fun ψ => []) ?_ ?_
  ·refine Tr.block (tLoopC (ι := { q : Nat × (Int) × Unit // itr (p_laws_eqRowS_b0 v0 v1) q.1 q.2.1 = some x2 }) (fun ζ => [(0, .slice x_v0.1 v0.length x_v0.2), (1, .slice x_v1.1 v1.length x_v1.2), (5, .int .i64 (ζ.1.2.1))]) (fun ζ => []) (fun ζ => ζ.1.1) ⟨(n4, 0, ()), hx3⟩ ⟨rfl, rfl, rfl, trivial⟩ Take.nil ?_)
   rintro ⟨⟨m5, Q6, z7⟩, hk12⟩
   obtain ⟨m13, t9, e, H1, hi10, hb11⟩ := itr.of (n := m5) (s := Q6) hk12
   subst e; unfold p_laws_eqRowS_b0 at H1
   show Tr _ _ _ _ _ [(0, .slice x_v0.1 v0.length x_v0.2), (1, .slice x_v1.1 v1.length x_v1.2), (5, .int .i64 (Q6))] _ []
   refine Tr.seq (Tr.seq (Tr.region (Rg.m rfl (Rg.m rfl (Rg.p (p_len 58 Tryz.underlying43 rfl) ?_)))))
   refine Rg.p (p_lss rfl rfl) (Rg.nl (nT (?_)))
   refine Tr.cond (b := decide (Q6 < (v0.length : Int))) rfl (fun h14 => ?_) (fun h14 => ?_)
   ·have H1 := cdT h14 H1
    refine tSkip (nT (?_))
    refine Tr.seq (Tr.block (Tr.seq (tLinS [(0, .slice x_v0.1 v0.length x_v0.2), (1, .slice x_v1.1 v1.length x_v1.2), (5, .int .i64 (Q6))] Tryz.mixed (.inr (by kernel_rfl)) ⟨rfl, rfl, rfl, trivial⟩ rfl (Lin.m rfl (Lin.m rfl ?_)))))
    obtain ⟨h15, H1⟩ := gd.of H1
    refine Lin.o (q_ixg Tryz.underlying43 ty58 rfl rfl h15 rfl (EntB.flat (Ent.b Ent.z))) (Lin.o (v := .agg #[.int .i64 ((nth v0 Q6.toNat).1), .int .i64 ((nth v0 Q6.toNat).2)]) (q_ldeA (i := Q6.toNat) ty58 rfl (EntB.flat (Ent.b Ent.z)) h15.lt) (Lin.m rfl (Lin.m rfl ?_)))
    obtain ⟨h16, H1⟩ := gd.of H1
    refine Lin.o (q_ixg Tryz.underlying43 ty58 rfl rfl h16 rfl (EntB.flat (Ent.b Ent.z.s))) (Lin.o (v := .agg #[.int .i64 ((nth v1 Q6.toNat).1), .int .i64 ((nth v1 Q6.toNat).2)]) (q_ldeA (i := Q6.toNat) ty58 rfl (EntB.flat (Ent.b Ent.z.s)) h16.lt) ?_)
    obtain ⟨r17, h18, H1⟩ := bd.of H1
    refine Lin.o (q_call (c_laws_eqRow (nth v0 Q6.toNat) (nth v1 Q6.toNat) h18) rfl EntsB.nil) (Lin.p (p_not rfl) ?_)
    show At _ _ _ _ _ _
    refine nT (?_)
    refine Tr.cond (b := !r17) rfl (fun h19 => ?_) (fun h19 => ?_)
    ·have H1 := cdT h19 H1
     refine Tr.seq (Tr.region (Rg.a (v := .bool (false)) rfl (Rg.nl (nT (?_)))))
     refine tRet (rB (rT (rT (rB (rT (rT (?_)))))))
     have hx := hb11 _ (Option.some.inj H1).symm; subst hx
     replace H := sw.r H
     obtain rfl := si H
     exact bk1 rfl rfl rfl rfl Take.nil
    ·have H1 := cdF h19 H1
     refine tSkip (nB (nT (?_)))
     refine Tr.region (Rg.m rfl ?_)
     obtain ⟨h20, H1⟩ := gd.of H1
     refine Rg.p (p_add rfl rfl h20) (Rg.a rfl (Rg.nl ?_))
     exact nLC ⟨(m13, Q6 + 1, ()), hi10 _ (Option.some.inj H1).symm⟩ (Nat.lt_succ_self _) ⟨rfl, rfl, rfl, trivial⟩ Ents.refl Take.nil
   ·have H1 := cdF h14 H1
    refine tExit (xT (xT (xE (?_))))
    exact nMC ⟨((), ()), (hb11 _ (Option.some.inj H1).symm).symm⟩ trivial Ents.refl Take.nil
  ·rintro ⟨⟨e21, y8⟩, hx⟩; subst hx; replace H := sw.l H
   show At _ _ [] _ [] _
   refine nT (?_)
   refine Tr.seq (Tr.region (Rg.a (v := .bool (true)) rfl (Rg.nl (nT (?_)))))
   refine tRet ?_
   obtain rfl := si H
   exact bk1 rfl rfl rfl rfl Take.nil
noncomputable def p_laws_eqRowSS_b0 (v0 : (List (List Row))) (v1 : (List (List Row))) (Q8 : Int) : Option ((Int) ⊕ (Unit ⊕ Bool)) := cond (decide (Q8 < (v0.length : Int))) (gd (ix Q8 v0.length) <| gd (ix Q8 v1.length) <| bd (p_laws_eqRowS (nth v0 Q8.toNat) (nth v1 Q8.toNat)) fun r19 => cond (!r19) (some (.inr (.inr false))) (gd (I64 (Q8 + 1)) <| some (.inl (Q8 + 1)))) (some (.inr (.inl ())))
noncomputable def p_laws_eqRowSS (v0 : (List (List Row))) (v1 : (List (List Row))) : Option (Bool) := cond (!decide ((v0.length : Int) = (v1.length : Int))) (some false) (bd (lp (p_laws_eqRowSS_b0 v0 v1) 0) <| sw (fun _ => some true) (fun q => some q))
theorem c_laws_eqRowSS {r : Bool} (v0 : (List (List Row))) (x_v0 : Option Addr × Nat) (v1 : (List (List Row))) (x_v1 : Option Addr × Nat) (H : p_laws_eqRowSS v0 v1 = some r) : Fn' Tryz.prog 136 #[.slice x_v0.1 v0.length x_v0.2, .slice x_v1.1 v1.length x_v1.2] [imm (.slice x_v0.1 v0.length x_v0.2) v0, imm (.slice x_v1.1 v1.length x_v1.2) v1] [] (ι := Unit) (fun _ => .bool (r)) (fun _ => []) (fun _ => []) := by
 refine calls_of (args := [_, _]) Tryz.func136 rfl (by kernel_rfl) Tryz.ntmps136 (by simp) fun c => ?_
 unfold p_laws_eqRowSS at H
 refine Tr.openD Ent.z fun X1 => (Tr.openD Ent.z.s.s fun X2 => (Tr.seq (Tr.region (Rg.a (v := .bool (false)) rfl (Rg.nl ?_)))))
 refine nT (?_)
 refine Tr.seq (Tr.seq (Tr.region (Rg.m rfl (Rg.p (p_len 43 Tryz.underlying70 rfl) (Rg.m rfl ?_)))))
 refine Rg.p (p_len 43 Tryz.underlying70 rfl) (Rg.p (p_neq rfl rfl) (Rg.nl (nT (?_))))
 refine Tr.cond (b := !decide ((v0.length : Int) = (v1.length : Int))) rfl (fun h3 => ?_) (fun h3 => ?_)
 ·have H := cdT h3 H
  refine Tr.seq (Tr.region (Rg.a (v := .bool (false)) rfl (Rg.nl (nT (?_)))))
  refine tRet (rT (?_))
  obtain rfl := si H
  exact bk1 rfl rfl rfl rfl Take.nil
 ·have H := cdF h3 H
  refine tSkip (nT (?_))
  refine Tr.seq (Tr.seq (Tr.region (Rg.a (v := .int .i64 (0)) rfl (Rg.nl (nT (?_))))))
  obtain ⟨x4, hx5, H⟩ := bd.of H
  obtain ⟨n6, hx5⟩ := lp.of hx5
  refine tMidNC (ι := { q : (Unit) × Unit // x4 = .inl q.1 }) (fun ψ => []) (fun ψ => []) ?_ ?_
  ·refine Tr.block (tLoopC (ι := { q : Nat × (Int) × Unit // itr (p_laws_eqRowSS_b0 v0 v1) q.1 q.2.1 = some x4 }) (fun ζ => [(0, .slice x_v0.1 v0.length x_v0.2), (1, .slice x_v1.1 v1.length x_v1.2), (5, .int .i64 (ζ.1.2.1))]) (fun ζ => []) (fun ζ => ζ.1.1) ⟨(n6, 0, ()), hx5⟩ ⟨rfl, rfl, rfl, trivial⟩ Take.nil ?_)
   rintro ⟨⟨m7, Q8, z9⟩, hk14⟩
   obtain ⟨m15, t11, e, H1, hi12, hb13⟩ := itr.of (n := m7) (s := Q8) hk14
   subst e; unfold p_laws_eqRowSS_b0 at H1
   show Tr _ _ _ _ _ [(0, .slice x_v0.1 v0.length x_v0.2), (1, .slice x_v1.1 v1.length x_v1.2), (5, .int .i64 (Q8))] _ []
   refine Tr.seq (Tr.seq (Tr.region (Rg.m rfl (Rg.m rfl (Rg.p (p_len 43 Tryz.underlying70 rfl) ?_)))))
   refine Rg.p (p_lss rfl rfl) (Rg.nl (nT (?_)))
   refine Tr.cond (b := decide (Q8 < (v0.length : Int))) rfl (fun h16 => ?_) (fun h16 => ?_)
   ·have H1 := cdT h16 H1
    refine tSkip (nT (?_))
    refine Tr.seq (Tr.block (Tr.seq (tLinS [(0, .slice x_v0.1 v0.length x_v0.2), (1, .slice x_v1.1 v1.length x_v1.2), (5, .int .i64 (Q8))] Tryz.mixed (.inr (by kernel_rfl)) ⟨rfl, rfl, rfl, trivial⟩ rfl (Lin.m rfl (Lin.m rfl ?_)))))
    obtain ⟨h17, H1⟩ := gd.of H1
    refine Lin.o (q_ixg Tryz.underlying70 ty43 rfl rfl h17 rfl (Ent.b (Ent.darr Ent.z.s))) (Lin.o (q_lde (i := Q8.toNat) (j := 0) ty43 rfl (Ent.b (Ent.darr Ent.z.s)) h17.lt rfl) (Lin.m rfl (Lin.m rfl ?_)))
    obtain ⟨h18, H1⟩ := gd.of H1
    refine Lin.o (q_ixg Tryz.underlying70 ty43 rfl rfl h18 rfl (Ent.b (Ent.darr Ent.z))) (Lin.o (q_lde (i := Q8.toNat) (j := 0) ty43 rfl (Ent.b (Ent.darr Ent.z)) h18.lt rfl) ?_)
    obtain ⟨r19, h20, H1⟩ := bd.of H1
    refine Lin.o (q_call (c_laws_eqRowS (nth v0 Q8.toNat) ((X1 Q8.toNat).1, (X1 Q8.toNat).2.1) (nth v1 Q8.toNat) ((X2 Q8.toNat).1, (X2 Q8.toNat).2.1) h20) rfl (EntsB.cons (Ent.b (Ent.dimm (Ent.del Ent.z.s h17.lt))) (EntsB.cons (Ent.b (Ent.dimm (Ent.del Ent.z h18.lt))) EntsB.nil))) (Lin.p (p_not rfl) ?_)
    show At _ _ _ _ _ _
    refine nT (?_)
    refine Tr.cond (b := !r19) rfl (fun h21 => ?_) (fun h21 => ?_)
    ·have H1 := cdT h21 H1
     refine Tr.seq (Tr.region (Rg.a (v := .bool (false)) rfl (Rg.nl (nT (?_)))))
     refine tRet (rB (rT (rT (rB (rT (rT (?_)))))))
     have hx := hb13 _ (Option.some.inj H1).symm; subst hx
     replace H := sw.r H
     obtain rfl := si H
     exact bk1 rfl rfl rfl rfl Take.nil
    ·have H1 := cdF h21 H1
     refine tSkip (nB (nT (?_)))
     refine Tr.region (Rg.m rfl ?_)
     obtain ⟨h22, H1⟩ := gd.of H1
     refine Rg.p (p_add rfl rfl h22) (Rg.a rfl (Rg.nl ?_))
     exact nLC ⟨(m15, Q8 + 1, ()), hi12 _ (Option.some.inj H1).symm⟩ (Nat.lt_succ_self _) ⟨rfl, rfl, rfl, trivial⟩ Ents.refl Take.nil
   ·have H1 := cdF h16 H1
    refine tExit (xT (xT (xE (?_))))
    exact nMC ⟨((), ()), (hb13 _ (Option.some.inj H1).symm).symm⟩ trivial Ents.refl Take.nil
  ·rintro ⟨⟨e23, y10⟩, hx⟩; subst hx; replace H := sw.l H
   show At _ _ [] _ [] _
   refine nT (?_)
   refine Tr.seq (Tr.region (Rg.a (v := .bool (true)) rfl (Rg.nl (nT (?_)))))
   refine tRet ?_
   obtain rfl := si H
   exact bk1 rfl rfl rfl rfl Take.nil
noncomputable def p_laws_eqPart (v0 : Part) (v1 : Part) : Option (Bool) := bd (p_laws_eqIntS v0.1 v1.1) fun r5 => cond (!r5) (some false) (bd (p_laws_eqRowSS v0.2 v1.2) fun r8 => cond (!r8) (some false) (some true))
theorem c_laws_eqPart {r : Bool} (v0 : Part) (x_v0 : (Option Addr × Nat) × (Option Addr × Nat)) (v1 : Part) (x_v1 : (Option Addr × Nat) × (Option Addr × Nat)) (H : p_laws_eqPart v0 v1 = some r) : Fn' Tryz.prog 98 #[.agg #[.slice x_v0.1.1 v0.1.length x_v0.1.2, .slice x_v0.2.1 v0.2.length x_v0.2.2], .agg #[.slice x_v1.1.1 v1.1.length x_v1.1.2, .slice x_v1.2.1 v1.2.length x_v1.2.2]] [imm (.slice x_v0.1.1 v0.1.length x_v0.1.2) v0.1, imm (.slice x_v0.2.1 v0.2.length x_v0.2.2) v0.2, imm (.slice x_v1.1.1 v1.1.length x_v1.1.2) v1.1, imm (.slice x_v1.2.1 v1.2.length x_v1.2.2) v1.2] [] (ι := Unit) (fun _ => .bool (r)) (fun _ => []) (fun _ => []) := by
 refine calls_of (args := [_, _]) Tryz.func98 rfl (by kernel_rfl) Tryz.ntmps98 (by simp) fun c => ?_
 unfold p_laws_eqPart at H
 refine Tr.openD Ent.z.s fun X1 => (Tr.openD Ent.z.s.s.s.s fun X2 => (Tr.seq (Tr.region (Rg.ef (e_box (t := 72) rfl) rfl ?_))))
 rintro _ _ _ ⟨g3, rfl, rfl, rfl⟩
 refine Rg.ef (e_box (t := 72) rfl) rfl ?_
 rintro _ _ _ ⟨g4, rfl, rfl, rfl⟩
 refine Rg.a (v := .bool (false)) rfl (Rg.nl (nT (?_)))
 refine Tr.seq (Tr.seq (Tr.region (Rg.p (p_fabE fa72_0 rfl rfl) (Rg.o (q_ldb ty69 rfl hs1 rfl) (Rg.p (p_fabE fa72_0 rfl rfl) ?_)))))
 refine Rg.o (q_ldb ty69 rfl Has.here rfl) ?_
 obtain ⟨r5, h6, H⟩ := bd.of H
 refine Rg.o (q_call (c_laws_eqIntS v0.1 x_v0.1 v1.1 x_v1.1 h6) rfl (EntsB.cons (Ent.b Ent.z.s.s) (EntsB.cons (Ent.b Ent.z.s.s.s.s) EntsB.nil))) (Rg.p (p_not rfl) (Rg.nl (nT (?_))))
 refine Tr.cond (b := !r5) rfl (fun h7 => ?_) (fun h7 => ?_)
 ·have H := cdT h7 H
  refine Tr.seq (Tr.region (Rg.a (v := .bool (false)) rfl (Rg.nl (nT (?_)))))
  refine tRet (rT (?_))
  obtain rfl := si H
  exact bk1 rfl rfl rfl rfl Take.nil
 ·have H := cdF h7 H
  refine tSkip (nT (?_))
  refine Tr.seq (Tr.seq (Tr.region (Rg.p (p_fabE fa72_1 rfl rfl) (Rg.o (q_ldb ty70 rfl hs1 rfl) (Rg.p (p_fabE fa72_1 rfl rfl) ?_)))))
  refine Rg.o (q_ldb ty70 rfl Has.here rfl) ?_
  obtain ⟨r8, h9, H⟩ := bd.of H
  refine Rg.o (q_call (c_laws_eqRowSS v0.2 x_v0.2 v1.2 x_v1.2 h9) rfl (EntsB.cons (Ent.b (Ent.dimm Ent.z.s)) (EntsB.cons (Ent.b (Ent.dimm Ent.z)) EntsB.nil))) (Rg.p (p_not rfl) (Rg.nl (nT (?_))))
  refine Tr.cond (b := !r8) rfl (fun h10 => ?_) (fun h10 => ?_)
  ·have H := cdT h10 H
   refine Tr.seq (Tr.region (Rg.a (v := .bool (false)) rfl (Rg.nl (nT (?_)))))
   refine tRet (rT (?_))
   obtain rfl := si H
   exact bk1 rfl rfl rfl rfl Take.nil
  ·have H := cdF h10 H
   refine tSkip (nT (?_))
   refine Tr.seq (Tr.region (Rg.a (v := .bool (true)) rfl (Rg.nl (nT (?_)))))
   refine tRet ?_
   obtain rfl := si H
   exact bk1 rfl rfl rfl rfl Take.nil
noncomputable def p_laws_eqPartS_b0 (v0 : (List Part)) (v1 : (List Part)) (Q8 : Int) : Option ((Int) ⊕ (Unit ⊕ Bool)) := cond (decide (Q8 < (v0.length : Int))) (gd (ix Q8 v0.length) <| gd (ix Q8 v1.length) <| bd (p_laws_eqPart (nth v0 Q8.toNat) (nth v1 Q8.toNat)) fun r19 => cond (!r19) (some (.inr (.inr false))) (gd (I64 (Q8 + 1)) <| some (.inl (Q8 + 1)))) (some (.inr (.inl ())))
noncomputable def p_laws_eqPartS (v0 : (List Part)) (v1 : (List Part)) : Option (Bool) := cond (!decide ((v0.length : Int) = (v1.length : Int))) (some false) (bd (lp (p_laws_eqPartS_b0 v0 v1) 0) <| sw (fun _ => some true) (fun q => some q))
theorem c_laws_eqPartS {r : Bool} (v0 : (List Part)) (x_v0 : Option Addr × Nat) (v1 : (List Part)) (x_v1 : Option Addr × Nat) (H : p_laws_eqPartS v0 v1 = some r) : Fn' Tryz.prog 49 #[.slice x_v0.1 v0.length x_v0.2, .slice x_v1.1 v1.length x_v1.2] [imm (.slice x_v0.1 v0.length x_v0.2) v0, imm (.slice x_v1.1 v1.length x_v1.2) v1] [] (ι := Unit) (fun _ => .bool (r)) (fun _ => []) (fun _ => []) := by
 refine calls_of (args := [_, _]) Tryz.func49 rfl (by kernel_rfl) Tryz.ntmps49 (by simp) fun c => ?_
 unfold p_laws_eqPartS at H
 refine Tr.openD Ent.z fun X1 => (Tr.openD Ent.z.s.s fun X2 => (Tr.seq (Tr.region (Rg.a (v := .bool (false)) rfl (Rg.nl ?_)))))
 refine nT (?_)
 refine Tr.seq (Tr.seq (Tr.region (Rg.m rfl (Rg.p (p_len 72 Tryz.underlying36 rfl) (Rg.m rfl ?_)))))
 refine Rg.p (p_len 72 Tryz.underlying36 rfl) (Rg.p (p_neq rfl rfl) (Rg.nl (nT (?_))))
 refine Tr.cond (b := !decide ((v0.length : Int) = (v1.length : Int))) rfl (fun h3 => ?_) (fun h3 => ?_)
 ·have H := cdT h3 H
  refine Tr.seq (Tr.region (Rg.a (v := .bool (false)) rfl (Rg.nl (nT (?_)))))
  refine tRet (rT (?_))
  obtain rfl := si H
  exact bk1 rfl rfl rfl rfl Take.nil
 ·have H := cdF h3 H
  refine tSkip (nT (?_))
  refine Tr.seq (Tr.seq (Tr.region (Rg.a (v := .int .i64 (0)) rfl (Rg.nl (nT (?_))))))
  obtain ⟨x4, hx5, H⟩ := bd.of H
  obtain ⟨n6, hx5⟩ := lp.of hx5
  refine tMidNC (ι := { q : (Unit) × Unit // x4 = .inl q.1 }) (fun ψ => []) (fun ψ => []) ?_ ?_
  ·refine Tr.block (tLoopC (ι := { q : Nat × (Int) × Unit // itr (p_laws_eqPartS_b0 v0 v1) q.1 q.2.1 = some x4 }) (fun ζ => [(0, .slice x_v0.1 v0.length x_v0.2), (1, .slice x_v1.1 v1.length x_v1.2), (5, .int .i64 (ζ.1.2.1))]) (fun ζ => []) (fun ζ => ζ.1.1) ⟨(n6, 0, ()), hx5⟩ ⟨rfl, rfl, rfl, trivial⟩ Take.nil ?_)
   rintro ⟨⟨m7, Q8, z9⟩, hk14⟩
   obtain ⟨m15, t11, e, H1, hi12, hb13⟩ := itr.of (n := m7) (s := Q8) hk14
   subst e; unfold p_laws_eqPartS_b0 at H1
   show Tr _ _ _ _ _ [(0, .slice x_v0.1 v0.length x_v0.2), (1, .slice x_v1.1 v1.length x_v1.2), (5, .int .i64 (Q8))] _ []
   refine Tr.seq (Tr.seq (Tr.region (Rg.m rfl (Rg.m rfl (Rg.p (p_len 72 Tryz.underlying36 rfl) ?_)))))
   refine Rg.p (p_lss rfl rfl) (Rg.nl (nT (?_)))
   refine Tr.cond (b := decide (Q8 < (v0.length : Int))) rfl (fun h16 => ?_) (fun h16 => ?_)
   ·have H1 := cdT h16 H1
    refine tSkip (nT (?_))
    refine Tr.seq (Tr.block (Tr.seq (tLinS [(0, .slice x_v0.1 v0.length x_v0.2), (1, .slice x_v1.1 v1.length x_v1.2), (5, .int .i64 (Q8))] Tryz.mixed (.inr (by kernel_rfl)) ⟨rfl, rfl, rfl, trivial⟩ rfl (Lin.m rfl (Lin.m rfl ?_)))))
    obtain ⟨h17, H1⟩ := gd.of H1
    refine Lin.o (q_ixg Tryz.underlying36 ty72 rfl rfl h17 rfl (Ent.b (Ent.darr Ent.z.s))) (Lin.o (v := .agg #[.slice (((X1 Q8.toNat).1).1) (((nth v0 Q8.toNat).1).length) (((X1 Q8.toNat).1).2.1), .slice (((X1 Q8.toNat).2).1) (((nth v0 Q8.toNat).2).length) (((X1 Q8.toNat).2).2.1)]) (q_ldeA (i := Q8.toNat) ty72 rfl (Ent.b (Ent.darr Ent.z.s)) h17.lt) (Lin.m rfl (Lin.m rfl ?_)))
    obtain ⟨h18, H1⟩ := gd.of H1
    refine Lin.o (q_ixg Tryz.underlying36 ty72 rfl rfl h18 rfl (Ent.b (Ent.darr Ent.z))) (Lin.o (v := .agg #[.slice (((X2 Q8.toNat).1).1) (((nth v1 Q8.toNat).1).length) (((X2 Q8.toNat).1).2.1), .slice (((X2 Q8.toNat).2).1) (((nth v1 Q8.toNat).2).length) (((X2 Q8.toNat).2).2.1)]) (q_ldeA (i := Q8.toNat) ty72 rfl (Ent.b (Ent.darr Ent.z)) h18.lt) ?_)
    obtain ⟨r19, h20, H1⟩ := bd.of H1
    refine Lin.o (q_call (c_laws_eqPart (nth v0 Q8.toNat) ((((X1 Q8.toNat).1).1, ((X1 Q8.toNat).1).2.1), (((X1 Q8.toNat).2).1, ((X1 Q8.toNat).2).2.1)) (nth v1 Q8.toNat) ((((X2 Q8.toNat).1).1, ((X2 Q8.toNat).1).2.1), (((X2 Q8.toNat).2).1, ((X2 Q8.toNat).2).2.1)) h20) rfl (EntsB.cons (Ent.b (Ent.dimm (Ent.dfst (Ent.del Ent.z.s h17.lt)))) (EntsB.cons (Ent.b (Ent.dimm (Ent.dsnd (Ent.del Ent.z.s h17.lt)))) (EntsB.cons (Ent.b (Ent.dimm (Ent.dfst (Ent.del Ent.z h18.lt)))) (EntsB.cons (Ent.b (Ent.dimm (Ent.dsnd (Ent.del Ent.z h18.lt)))) EntsB.nil))))) (Lin.p (p_not rfl) ?_)
    show At _ _ _ _ _ _
    refine nT (?_)
    refine Tr.cond (b := !r19) rfl (fun h21 => ?_) (fun h21 => ?_)
    ·have H1 := cdT h21 H1
     refine Tr.seq (Tr.region (Rg.a (v := .bool (false)) rfl (Rg.nl (nT (?_)))))
     refine tRet (rB (rT (rT (rB (rT (rT (?_)))))))
     have hx := hb13 _ (Option.some.inj H1).symm; subst hx
     replace H := sw.r H
     obtain rfl := si H
     exact bk1 rfl rfl rfl rfl Take.nil
    ·have H1 := cdF h21 H1
     refine tSkip (nB (nT (?_)))
     refine Tr.region (Rg.m rfl ?_)
     obtain ⟨h22, H1⟩ := gd.of H1
     refine Rg.p (p_add rfl rfl h22) (Rg.a rfl (Rg.nl ?_))
     exact nLC ⟨(m15, Q8 + 1, ()), hi12 _ (Option.some.inj H1).symm⟩ (Nat.lt_succ_self _) ⟨rfl, rfl, rfl, trivial⟩ Ents.refl Take.nil
   ·have H1 := cdF h16 H1
    refine tExit (xT (xT (xE (?_))))
    exact nMC ⟨((), ()), (hb13 _ (Option.some.inj H1).symm).symm⟩ trivial Ents.refl Take.nil
  ·rintro ⟨⟨e23, y10⟩, hx⟩; subst hx; replace H := sw.l H
   show At _ _ [] _ [] _
   refine nT (?_)
   refine Tr.seq (Tr.region (Rg.a (v := .bool (true)) rfl (Rg.nl (nT (?_)))))
   refine tRet ?_
   obtain rfl := si H
   exact bk1 rfl rfl rfl rfl Take.nil
noncomputable def p_laws_eqSample (v0 : Sample) (v1 : Sample) : Option (Bool) := cond (!decide (v0.1 = v1.1)) (some false) (bd (p_laws_eqRow v0.2 v1.2) fun r4 => cond (!r4) (some false) (some true))
theorem c_laws_eqSample {r : Bool} (v0 : Sample) (v1 : Sample) (H : p_laws_eqSample v0 v1 = some r) : Fn' Tryz.prog 99 #[.agg #[.int .i64 (v0.1), .int .i64 (v0.2.1), .int .i64 (v0.2.2)], .agg #[.int .i64 (v1.1), .int .i64 (v1.2.1), .int .i64 (v1.2.2)]] [] [] (ι := Unit) (fun _ => .bool (r)) (fun _ => []) (fun _ => []) := by
 refine calls_of (args := [_, _]) Tryz.func99 rfl (by kernel_rfl) Tryz.ntmps99 (by simp) fun c => ?_
 unfold p_laws_eqSample at H
 refine Tr.seq (Tr.region (Rg.ef (e_box (t := 75) rfl) rfl ?_))
 rintro _ _ _ ⟨g1, rfl, rfl, rfl⟩
 refine Rg.ef (e_box (t := 75) rfl) rfl ?_
 rintro _ _ _ ⟨g2, rfl, rfl, rfl⟩
 refine Rg.a (v := .bool (false)) rfl (Rg.nl (nT (?_)))
 refine Tr.seq (Tr.seq (Tr.region (Rg.p (p_fabE fa75_0 rfl rfl) (Rg.o (q_ldb ty3 rfl hs1 rfl) (Rg.p (p_fabE fa75_0 rfl rfl) ?_)))))
 refine Rg.o (q_ldb ty3 rfl Has.here rfl) (Rg.p (p_neq rfl rfl) (Rg.nl (nT (?_))))
 refine Tr.cond (b := !decide (v0.1 = v1.1)) rfl (fun h3 => ?_) (fun h3 => ?_)
 ·have H := cdT h3 H
  refine Tr.seq (Tr.region (Rg.a (v := .bool (false)) rfl (Rg.nl (nT (?_)))))
  refine tRet (rT (?_))
  obtain rfl := si H
  exact bk1 rfl rfl rfl rfl Take.nil
 ·have H := cdF h3 H
  refine tSkip (nT (?_))
  refine Tr.seq (Tr.seq (Tr.region (Rg.p (p_fabE fa75_1 rfl rfl) (Rg.o (v := .agg #[.int .i64 (v0.2.1), .int .i64 (v0.2.2)]) (q_ldbP [.int .i64 (v0.2.1), .int .i64 (v0.2.2)] ty58 rfl hs1 rfl rfl) (Rg.p (p_fabE fa75_1 rfl rfl) ?_)))))
  refine Rg.o (v := .agg #[.int .i64 (v1.2.1), .int .i64 (v1.2.2)]) (q_ldbP [.int .i64 (v1.2.1), .int .i64 (v1.2.2)] ty58 rfl Has.here rfl rfl) ?_
  obtain ⟨r4, h5, H⟩ := bd.of H
  refine Rg.o (q_call (c_laws_eqRow v0.2 v1.2 h5) rfl EntsB.nil) (Rg.p (p_not rfl) (Rg.nl (nT (?_))))
  refine Tr.cond (b := !r4) rfl (fun h6 => ?_) (fun h6 => ?_)
  ·have H := cdT h6 H
   refine Tr.seq (Tr.region (Rg.a (v := .bool (false)) rfl (Rg.nl (nT (?_)))))
   refine tRet (rT (?_))
   obtain rfl := si H
   exact bk1 rfl rfl rfl rfl Take.nil
  ·have H := cdF h6 H
   refine tSkip (nT (?_))
   refine Tr.seq (Tr.region (Rg.a (v := .bool (true)) rfl (Rg.nl (nT (?_)))))
   refine tRet ?_
   obtain rfl := si H
   exact bk1 rfl rfl rfl rfl Take.nil
noncomputable def p_laws_eqSampleS_b0 (v0 : (List Sample)) (v1 : (List Sample)) (Q6 : Int) : Option ((Int) ⊕ (Unit ⊕ Bool)) := cond (decide (Q6 < (v0.length : Int))) (gd (ix Q6 v0.length) <| gd (ix Q6 v1.length) <| bd (p_laws_eqSample (nth v0 Q6.toNat) (nth v1 Q6.toNat)) fun r17 => cond (!r17) (some (.inr (.inr false))) (gd (I64 (Q6 + 1)) <| some (.inl (Q6 + 1)))) (some (.inr (.inl ())))
noncomputable def p_laws_eqSampleS (v0 : (List Sample)) (v1 : (List Sample)) : Option (Bool) := cond (!decide ((v0.length : Int) = (v1.length : Int))) (some false) (bd (lp (p_laws_eqSampleS_b0 v0 v1) 0) <| sw (fun _ => some true) (fun q => some q))
theorem c_laws_eqSampleS {r : Bool} (v0 : (List Sample)) (x_v0 : Option Addr × Nat) (v1 : (List Sample)) (x_v1 : Option Addr × Nat) (H : p_laws_eqSampleS v0 v1 = some r) : Fn' Tryz.prog 50 #[.slice x_v0.1 v0.length x_v0.2, .slice x_v1.1 v1.length x_v1.2] [imm (.slice x_v0.1 v0.length x_v0.2) v0, imm (.slice x_v1.1 v1.length x_v1.2) v1] [] (ι := Unit) (fun _ => .bool (r)) (fun _ => []) (fun _ => []) := by
 refine calls_of (args := [_, _]) Tryz.func50 rfl (by kernel_rfl) Tryz.ntmps50 (by simp) fun c => ?_
 unfold p_laws_eqSampleS at H
 refine Tr.seq (Tr.region (Rg.a (v := .bool (false)) rfl (Rg.nl (nT (?_)))))
 refine Tr.seq (Tr.seq (Tr.region (Rg.m rfl (Rg.p (p_len 75 Tryz.underlying37 rfl) (Rg.m rfl ?_)))))
 refine Rg.p (p_len 75 Tryz.underlying37 rfl) (Rg.p (p_neq rfl rfl) (Rg.nl (nT (?_))))
 refine Tr.cond (b := !decide ((v0.length : Int) = (v1.length : Int))) rfl (fun h1 => ?_) (fun h1 => ?_)
 ·have H := cdT h1 H
  refine Tr.seq (Tr.region (Rg.a (v := .bool (false)) rfl (Rg.nl (nT (?_)))))
  refine tRet (rT (?_))
  obtain rfl := si H
  exact bk1 rfl rfl rfl rfl Take.nil
 ·have H := cdF h1 H
  refine tSkip (nT (?_))
  refine Tr.seq (Tr.seq (Tr.region (Rg.a (v := .int .i64 (0)) rfl (Rg.nl (nT (?_))))))
  obtain ⟨x2, hx3, H⟩ := bd.of H
  obtain ⟨n4, hx3⟩ := lp.of hx3
  refine tMidNC (ι := { q : (Unit) × Unit // x2 = .inl q.1 }) (fun ψ => []) (fun ψ => []) ?_ ?_
  ·refine Tr.block (tLoopC (ι := { q : Nat × (Int) × Unit // itr (p_laws_eqSampleS_b0 v0 v1) q.1 q.2.1 = some x2 }) (fun ζ => [(0, .slice x_v0.1 v0.length x_v0.2), (1, .slice x_v1.1 v1.length x_v1.2), (5, .int .i64 (ζ.1.2.1))]) (fun ζ => []) (fun ζ => ζ.1.1) ⟨(n4, 0, ()), hx3⟩ ⟨rfl, rfl, rfl, trivial⟩ Take.nil ?_)
   rintro ⟨⟨m5, Q6, z7⟩, hk12⟩
   obtain ⟨m13, t9, e, H1, hi10, hb11⟩ := itr.of (n := m5) (s := Q6) hk12
   subst e; unfold p_laws_eqSampleS_b0 at H1
   show Tr _ _ _ _ _ [(0, .slice x_v0.1 v0.length x_v0.2), (1, .slice x_v1.1 v1.length x_v1.2), (5, .int .i64 (Q6))] _ []
   refine Tr.seq (Tr.seq (Tr.region (Rg.m rfl (Rg.m rfl (Rg.p (p_len 75 Tryz.underlying37 rfl) ?_)))))
   refine Rg.p (p_lss rfl rfl) (Rg.nl (nT (?_)))
   refine Tr.cond (b := decide (Q6 < (v0.length : Int))) rfl (fun h14 => ?_) (fun h14 => ?_)
   ·have H1 := cdT h14 H1
    refine tSkip (nT (?_))
    refine Tr.seq (Tr.block (Tr.seq (tLinS [(0, .slice x_v0.1 v0.length x_v0.2), (1, .slice x_v1.1 v1.length x_v1.2), (5, .int .i64 (Q6))] Tryz.mixed (.inr (by kernel_rfl)) ⟨rfl, rfl, rfl, trivial⟩ rfl (Lin.m rfl (Lin.m rfl ?_)))))
    obtain ⟨h15, H1⟩ := gd.of H1
    refine Lin.o (q_ixg Tryz.underlying37 ty75 rfl rfl h15 rfl (EntB.flat (Ent.b Ent.z))) (Lin.o (v := .agg #[.int .i64 ((nth v0 Q6.toNat).1), .int .i64 (((nth v0 Q6.toNat).2).1), .int .i64 (((nth v0 Q6.toNat).2).2)]) (q_ldeA (i := Q6.toNat) ty75 rfl (EntB.flat (Ent.b Ent.z)) h15.lt) (Lin.m rfl (Lin.m rfl ?_)))
    obtain ⟨h16, H1⟩ := gd.of H1
    refine Lin.o (q_ixg Tryz.underlying37 ty75 rfl rfl h16 rfl (EntB.flat (Ent.b Ent.z.s))) (Lin.o (v := .agg #[.int .i64 ((nth v1 Q6.toNat).1), .int .i64 (((nth v1 Q6.toNat).2).1), .int .i64 (((nth v1 Q6.toNat).2).2)]) (q_ldeA (i := Q6.toNat) ty75 rfl (EntB.flat (Ent.b Ent.z.s)) h16.lt) ?_)
    obtain ⟨r17, h18, H1⟩ := bd.of H1
    refine Lin.o (q_call (c_laws_eqSample (nth v0 Q6.toNat) (nth v1 Q6.toNat) h18) rfl EntsB.nil) (Lin.p (p_not rfl) ?_)
    show At _ _ _ _ _ _
    refine nT (?_)
    refine Tr.cond (b := !r17) rfl (fun h19 => ?_) (fun h19 => ?_)
    ·have H1 := cdT h19 H1
     refine Tr.seq (Tr.region (Rg.a (v := .bool (false)) rfl (Rg.nl (nT (?_)))))
     refine tRet (rB (rT (rT (rB (rT (rT (?_)))))))
     have hx := hb11 _ (Option.some.inj H1).symm; subst hx
     replace H := sw.r H
     obtain rfl := si H
     exact bk1 rfl rfl rfl rfl Take.nil
    ·have H1 := cdF h19 H1
     refine tSkip (nB (nT (?_)))
     refine Tr.region (Rg.m rfl ?_)
     obtain ⟨h20, H1⟩ := gd.of H1
     refine Rg.p (p_add rfl rfl h20) (Rg.a rfl (Rg.nl ?_))
     exact nLC ⟨(m13, Q6 + 1, ()), hi10 _ (Option.some.inj H1).symm⟩ (Nat.lt_succ_self _) ⟨rfl, rfl, rfl, trivial⟩ Ents.refl Take.nil
   ·have H1 := cdF h14 H1
    refine tExit (xT (xT (xE (?_))))
    exact nMC ⟨((), ()), (hb11 _ (Option.some.inj H1).symm).symm⟩ trivial Ents.refl Take.nil
  ·rintro ⟨⟨e21, y8⟩, hx⟩; subst hx; replace H := sw.l H
   show At _ _ [] _ [] _
   refine nT (?_)
   refine Tr.seq (Tr.region (Rg.a (v := .bool (true)) rfl (Rg.nl (nT (?_)))))
   refine tRet ?_
   obtain rfl := si H
   exact bk1 rfl rfl rfl rfl Take.nil
noncomputable def p_laws_eqStore (v0 : Store) (v1 : Store) : Option (Bool) := bd (p_laws_eqIndex v0.1 v1.1) fun r9 => cond (!r9) (some false) (bd (p_laws_eqPartS v0.2.1 v1.2.1) fun r12 => cond (!r12) (some false) (bd (p_laws_eqSampleS v0.2.2 v1.2.2) fun r15 => cond (!r15) (some false) (some true)))
theorem c_laws_eqStore {r : Bool} (v0 : Store) (x_v0 : ((Option Addr × Nat) × (Option Addr × Nat)) × (Option Addr × Nat) × (Option Addr × Nat)) (v1 : Store) (x_v1 : ((Option Addr × Nat) × (Option Addr × Nat)) × (Option Addr × Nat) × (Option Addr × Nat)) (H : p_laws_eqStore v0 v1 = some r) : Fn' Tryz.prog 12 #[.agg #[.slice x_v0.1.1.1 v0.1.1.length x_v0.1.1.2, .slice x_v0.1.2.1 v0.1.2.length x_v0.1.2.2, .slice x_v0.2.1.1 v0.2.1.length x_v0.2.1.2, .slice x_v0.2.2.1 v0.2.2.length x_v0.2.2.2], .agg #[.slice x_v1.1.1.1 v1.1.1.length x_v1.1.1.2, .slice x_v1.1.2.1 v1.1.2.length x_v1.1.2.2, .slice x_v1.2.1.1 v1.2.1.length x_v1.2.1.2, .slice x_v1.2.2.1 v1.2.2.length x_v1.2.2.2]] [imm (.slice x_v0.1.1.1 v0.1.1.length x_v0.1.1.2) v0.1.1, imm (.slice x_v0.1.2.1 v0.1.2.length x_v0.1.2.2) v0.1.2, imm (.slice x_v0.2.1.1 v0.2.1.length x_v0.2.1.2) v0.2.1, imm (.slice x_v0.2.2.1 v0.2.2.length x_v0.2.2.2) v0.2.2, imm (.slice x_v1.1.1.1 v1.1.1.length x_v1.1.1.2) v1.1.1, imm (.slice x_v1.1.2.1 v1.1.2.length x_v1.1.2.2) v1.1.2, imm (.slice x_v1.2.1.1 v1.2.1.length x_v1.2.1.2) v1.2.1, imm (.slice x_v1.2.2.1 v1.2.2.length x_v1.2.2.2) v1.2.2] [] (ι := Unit) (fun _ => .bool (r)) (fun _ => []) (fun _ => []) := by
 refine calls_of (args := [_, _]) Tryz.func12 rfl (by kernel_rfl) Tryz.ntmps12 (by simp) fun c => ?_
 unfold p_laws_eqStore at H
 refine Tr.openD Ent.z fun X1 => (Tr.openD Ent.z.s.s fun X2 => (Tr.openD Ent.z.s.s.s.s fun X3 => (Tr.openD Ent.z.s.s.s.s.s.s.s fun X4 => (Tr.openD Ent.z.s.s.s.s.s.s.s.s.s fun X5 => (Tr.openD Ent.z.s.s.s.s.s.s.s.s.s.s.s fun X6 => ?_)))))
 refine Tr.seq (Tr.region (Rg.ef (e_box (t := 39) rfl) rfl ?_))
 rintro _ _ _ ⟨g7, rfl, rfl, rfl⟩
 refine Rg.ef (e_box (t := 39) rfl) rfl ?_
 rintro _ _ _ ⟨g8, rfl, rfl, rfl⟩
 refine Rg.a (v := .bool (false)) rfl (Rg.nl (nT (?_)))
 refine Tr.seq (Tr.seq (Tr.region (Rg.p (p_fabE fa39_0 rfl rfl) (Rg.o (v := .agg #[.slice x_v0.1.1.1 v0.1.1.length x_v0.1.1.2, .slice x_v0.1.2.1 v0.1.2.length x_v0.1.2.2]) (q_ldbP [.slice x_v0.1.1.1 v0.1.1.length x_v0.1.1.2, .slice x_v0.1.2.1 v0.1.2.length x_v0.1.2.2] ty35 rfl hs1 rfl rfl) (Rg.p (p_fabE fa39_0 rfl rfl) ?_)))))
 refine Rg.o (v := .agg #[.slice x_v1.1.1.1 v1.1.1.length x_v1.1.1.2, .slice x_v1.1.2.1 v1.1.2.length x_v1.1.2.2]) (q_ldbP [.slice x_v1.1.1.1 v1.1.1.length x_v1.1.1.2, .slice x_v1.1.2.1 v1.1.2.length x_v1.1.2.2] ty35 rfl Has.here rfl rfl) ?_
 obtain ⟨r9, h10, H⟩ := bd.of H
 refine Rg.o (q_call (c_laws_eqIndex v0.1 x_v0.1 v1.1 x_v1.1 h10) rfl (EntsB.cons (Ent.b (Ent.dimm Ent.z.s.s.s.s.s)) (EntsB.cons (Ent.b (Ent.dimm Ent.z.s.s.s.s)) (EntsB.cons (Ent.b (Ent.dimm Ent.z.s.s)) (EntsB.cons (Ent.b (Ent.dimm Ent.z.s)) EntsB.nil))))) (Rg.p (p_not rfl) (Rg.nl (nT (?_))))
 refine Tr.cond (b := !r9) rfl (fun h11 => ?_) (fun h11 => ?_)
 ·have H := cdT h11 H
  refine Tr.seq (Tr.region (Rg.a (v := .bool (false)) rfl (Rg.nl (nT (?_)))))
  refine tRet (rT (?_))
  obtain rfl := si H
  exact bk1 rfl rfl rfl rfl Take.nil
 ·have H := cdF h11 H
  refine tSkip (nT (?_))
  refine Tr.seq (Tr.seq (Tr.region (Rg.p (p_fabE fa39_1 rfl rfl) (Rg.o (q_ldb ty36 rfl hs1 rfl) (Rg.p (p_fabE fa39_1 rfl rfl) ?_)))))
  refine Rg.o (q_ldb ty36 rfl Has.here rfl) ?_
  obtain ⟨r12, h13, H⟩ := bd.of H
  refine Rg.o (q_call (c_laws_eqPartS v0.2.1 x_v0.2.1 v1.2.1 x_v1.2.1 h13) rfl (EntsB.cons (Ent.b (Ent.dimm Ent.z.s.s.s)) (EntsB.cons (Ent.b (Ent.dimm Ent.z)) EntsB.nil))) (Rg.p (p_not rfl) (Rg.nl (nT (?_))))
  refine Tr.cond (b := !r12) rfl (fun h14 => ?_) (fun h14 => ?_)
  ·have H := cdT h14 H
   refine Tr.seq (Tr.region (Rg.a (v := .bool (false)) rfl (Rg.nl (nT (?_)))))
   refine tRet (rT (?_))
   obtain rfl := si H
   exact bk1 rfl rfl rfl rfl Take.nil
  ·have H := cdF h14 H
   refine tSkip (nT (?_))
   refine Tr.seq (Tr.seq (Tr.region (Rg.p (p_fabE fa39_2 rfl rfl) (Rg.o (q_ldb ty37 rfl hs1 rfl) (Rg.p (p_fabE fa39_2 rfl rfl) ?_)))))
   refine Rg.o (q_ldb ty37 rfl Has.here rfl) ?_
   obtain ⟨r15, h16, H⟩ := bd.of H
   refine Rg.o (q_call (c_laws_eqSampleS v0.2.2 x_v0.2.2 v1.2.2 x_v1.2.2 h16) rfl (EntsB.cons (Ent.b Ent.z.s.s.s.s.s.s.s.s.s) (EntsB.cons (Ent.b Ent.z.s.s.s.s.s.s.s.s.s.s.s.s.s) EntsB.nil))) (Rg.p (p_not rfl) (Rg.nl (nT (?_))))
   refine Tr.cond (b := !r15) rfl (fun h17 => ?_) (fun h17 => ?_)
   ·have H := cdT h17 H
    refine Tr.seq (Tr.region (Rg.a (v := .bool (false)) rfl (Rg.nl (nT (?_)))))
    refine tRet (rT (?_))
    obtain rfl := si H
    exact bk1 rfl rfl rfl rfl Take.nil
   ·have H := cdF h17 H
    refine tSkip (nT (?_))
    refine Tr.seq (Tr.region (Rg.a (v := .bool (true)) rfl (Rg.nl (nT (?_)))))
    refine tRet ?_
    obtain rfl := si H
    exact bk1 rfl rfl rfl rfl Take.nil
noncomputable def p_spec_StoreRows (v0 : Store) (v1 : Int) : Option ((List Row)) := bd (bd (p_spec_StoreOk v0) fun r7 => cond (!r7) (some (true)) (bd (p_spec_l6In v1 1 (v0.1.1.length : Int)) fun r10 => some (!r10))) fun b5 => cond (b5) (some ([] : List Row)) (bd (p_spec_l13Rows v0 v1) fun r15 => some r15)
theorem c_spec_StoreRows {r : (List Row)} (v0 : Store) (x_v0 : ((Option Addr × Nat) × (Option Addr × Nat)) × (Option Addr × Nat) × (Option Addr × Nat)) (v1 : Int) (H : p_spec_StoreRows v0 v1 = some r) : Fn' Tryz.prog 13 #[.agg #[.slice x_v0.1.1.1 v0.1.1.length x_v0.1.1.2, .slice x_v0.1.2.1 v0.1.2.length x_v0.1.2.2, .slice x_v0.2.1.1 v0.2.1.length x_v0.2.1.2, .slice x_v0.2.2.1 v0.2.2.length x_v0.2.2.2], .int .i64 (v1)] [imm (.slice x_v0.1.1.1 v0.1.1.length x_v0.1.1.2) v0.1.1, imm (.slice x_v0.1.2.1 v0.1.2.length x_v0.1.2.2) v0.1.2, imm (.slice x_v0.2.1.1 v0.2.1.length x_v0.2.1.2) v0.2.1, imm (.slice x_v0.2.2.1 v0.2.2.length x_v0.2.2.2) v0.2.2] [] (ι := Option Addr × Nat) (fun x => .slice x.1 r.length x.2) (fun x => [imm (.slice x.1 r.length x.2) r]) (fun _ => []) := by
 refine calls_of (args := [_, _]) Tryz.func13 rfl (by kernel_rfl) Tryz.ntmps13 (by simp) fun c => ?_
 unfold p_spec_StoreRows at H
 refine Tr.openD Ent.z fun X1 => (Tr.openD Ent.z.s.s fun X2 => (Tr.openD Ent.z.s.s.s.s fun X3 => (Tr.seq (Tr.region (Rg.ef (e_box (t := 39) rfl) rfl ?_)))))
 rintro _ _ _ ⟨g4, rfl, rfl, rfl⟩
 refine Rg.a (v := .slice none 0 0) rfl (Rg.nl (nT (?_)))
 refine Tr.seq ?_
 obtain ⟨b5, j6, H⟩ := bd.of H
 refine tMid1 [(16, .bool (b5)), (2, .pointer (some ⟨g4, 0, none⟩)), (1, .int .i64 (v1))] ?_ ?_
 ·refine tLinT [(2, .pointer (some ⟨g4, 0, none⟩)), (1, .int .i64 (v1))] ⟨rfl, rfl, trivial⟩ (Lin.o (q_ldbA ty39 rfl Has.here rfl) ?_)
  obtain ⟨r7, h8, j6⟩ := bd.of j6
  refine Lin.o (q_call (c_spec_StoreOk v0 x_v0 h8) rfl (EntsB.cons (Ent.b (Ent.dimm Ent.z.s.s)) (EntsB.cons (Ent.b (Ent.dimm Ent.z.s)) (EntsB.cons (Ent.b (Ent.dimm Ent.z)) (EntsB.cons (Ent.b Ent.z.s.s.s.s.s.s) EntsB.nil))))) (Lin.p (p_not rfl) ?_)
  rcases Bool.eq_false_or_eq_true (!r7) with h9 | h9
  ·have j6 := cdT h9 j6
   refine Lin.e_ (p_move rfl) h9 ?_
   iterate 7 refine Lin.sk rfl ?_
   refine Lin.p (v := .bool (true)) (p_pickT rfl rfl) ?_
   obtain rfl := si j6
   show At _ _ _ _ _ _
   exact n1 ⟨rfl, rfl, rfl, trivial⟩
  ·have j6 := cdF h9 j6
   refine Lin.e_ (p_move rfl) h9 (Lin.h rfl (p_move rfl) (Lin.h rfl (p_fabE fa39_0 rfl rfl) (Lin.h rfl (p_fabE fa35_0 rfl rfl) (Lin.i rfl (q_ldb ty32 rfl Has.here rfl) (Lin.h rfl (p_len 56 Tryz.underlying32 rfl) ?_)))))
   obtain ⟨r10, h11, j6⟩ := bd.of j6
   refine Lin.i rfl (q_call (c_spec_l6In v1 1 (v0.1.1.length : Int) h11) rfl EntsB.nil) (Lin.h rfl (p_not rfl) (Lin.p (p_pickF rfl rfl) ?_))
   obtain rfl := si j6
   show At _ _ _ _ _ _
   exact n1 ⟨rfl, rfl, rfl, trivial⟩
 refine Tr.cond (b := b5) rfl (fun h12 => ?_) (fun h12 => ?_)
 ·have H := cdT h12 H
  refine Tr.seq (Tr.region (Rg.ef (e_lit0 Row Tryz.underlying43 ty58) rfl ?_))
  rintro _ _ _ ⟨a13, c14, rfl, rfl, rfl⟩
  refine Rg.a rfl (Rg.nl (nT (?_)))
  refine Tr.freeze (.cons Del.here .nil) (tRet (rT (?_)))
  obtain rfl := si H
  exact back1 (a13, c14) rfl (ResV.tmp (v := .slice a13 (([] : List Row).length) c14) rfl) rfl (Ents.cons Ent.z Ents.nil) Take.nil
 ·have H := cdF h12 H
  refine tSkip (nT (?_))
  refine Tr.seq (Tr.region (Rg.o (q_ldbA ty39 rfl Has.here rfl) (Rg.m rfl ?_)))
  obtain ⟨r15, h16, H⟩ := bd.of H
  refine Rg.ef (e_callB (c_spec_l13Rows v0 x_v0 v1 h16) (fun _ => (Solo.tree Solo.nil)) rfl (EntsB.cons (Ent.b (Ent.dimm Ent.z.s.s)) (EntsB.cons (Ent.b (Ent.dimm Ent.z.s)) (EntsB.cons (Ent.b (Ent.dimm Ent.z)) (EntsB.cons (Ent.b Ent.z.s.s.s.s.s.s) EntsB.nil))))) rfl ?_
  rintro _ _ _ ⟨x17, rfl, rfl, rfl⟩
  refine Rg.a rfl (Rg.nl (nT (?_)))
  refine Tr.freeze (.cons Del.here .nil) (tRet ?_)
  obtain rfl := si H
  exact back1 x17 rfl (ResV.tmp (v := .slice x17.1 r15.length x17.2) rfl) rfl (Ents.cons Ent.z Ents.nil) Take.nil
noncomputable def p_impl_StoreRows (v0 : Store) (v1 : Int) : Option ((List Row)) := bd (bd (p_impl_StoreOk v0) fun r7 => cond (!r7) (some (true)) (bd (p_impl_within v1 1 (v0.1.1.length : Int)) fun r10 => some (!r10))) fun b5 => cond (b5) (some ([] : List Row)) (bd (p_impl_Store_rows v0 v1) fun r15 => some r15)
theorem c_impl_StoreRows {r : (List Row)} (v0 : Store) (x_v0 : ((Option Addr × Nat) × (Option Addr × Nat)) × (Option Addr × Nat) × (Option Addr × Nat)) (v1 : Int) (H : p_impl_StoreRows v0 v1 = some r) : Fn' Tryz.prog 14 #[.agg #[.slice x_v0.1.1.1 v0.1.1.length x_v0.1.1.2, .slice x_v0.1.2.1 v0.1.2.length x_v0.1.2.2, .slice x_v0.2.1.1 v0.2.1.length x_v0.2.1.2, .slice x_v0.2.2.1 v0.2.2.length x_v0.2.2.2], .int .i64 (v1)] [imm (.slice x_v0.1.1.1 v0.1.1.length x_v0.1.1.2) v0.1.1, imm (.slice x_v0.1.2.1 v0.1.2.length x_v0.1.2.2) v0.1.2, imm (.slice x_v0.2.1.1 v0.2.1.length x_v0.2.1.2) v0.2.1, imm (.slice x_v0.2.2.1 v0.2.2.length x_v0.2.2.2) v0.2.2] [] (ι := Option Addr × Nat) (fun x => .slice x.1 r.length x.2) (fun _ => []) (fun x => [tree (.slice x.1 r.length x.2) r]) := by
 refine calls_of (args := [_, _]) Tryz.func14 rfl (by kernel_rfl) Tryz.ntmps14 (by simp) fun c => ?_
 unfold p_impl_StoreRows at H
 refine Tr.openD Ent.z fun X1 => (Tr.openD Ent.z.s.s fun X2 => (Tr.openD Ent.z.s.s.s.s fun X3 => (Tr.seq (Tr.region (Rg.ef (e_box (t := 39) rfl) rfl ?_)))))
 rintro _ _ _ ⟨g4, rfl, rfl, rfl⟩
 refine Rg.a (v := .slice none 0 0) rfl (Rg.nl (nT (?_)))
 refine Tr.seq ?_
 obtain ⟨b5, j6, H⟩ := bd.of H
 refine tMid1 [(16, .bool (b5)), (2, .pointer (some ⟨g4, 0, none⟩)), (1, .int .i64 (v1))] ?_ ?_
 ·refine tLinT [(2, .pointer (some ⟨g4, 0, none⟩)), (1, .int .i64 (v1))] ⟨rfl, rfl, trivial⟩ (Lin.o (q_ldbA ty39 rfl Has.here rfl) ?_)
  obtain ⟨r7, h8, j6⟩ := bd.of j6
  refine Lin.o (q_call (c_impl_StoreOk v0 x_v0 h8) rfl (EntsB.cons (Ent.b (Ent.dimm Ent.z.s.s)) (EntsB.cons (Ent.b (Ent.dimm Ent.z.s)) (EntsB.cons (Ent.b (Ent.dimm Ent.z)) (EntsB.cons (Ent.b Ent.z.s.s.s.s.s.s) EntsB.nil))))) (Lin.p (p_not rfl) ?_)
  rcases Bool.eq_false_or_eq_true (!r7) with h9 | h9
  ·have j6 := cdT h9 j6
   refine Lin.e_ (p_move rfl) h9 ?_
   iterate 7 refine Lin.sk rfl ?_
   refine Lin.p (v := .bool (true)) (p_pickT rfl rfl) ?_
   obtain rfl := si j6
   show At _ _ _ _ _ _
   exact n1 ⟨rfl, rfl, rfl, trivial⟩
  ·have j6 := cdF h9 j6
   refine Lin.e_ (p_move rfl) h9 (Lin.h rfl (p_move rfl) (Lin.h rfl (p_fabE fa39_0 rfl rfl) (Lin.h rfl (p_fabE fa35_0 rfl rfl) (Lin.i rfl (q_ldb ty32 rfl Has.here rfl) (Lin.h rfl (p_len 56 Tryz.underlying32 rfl) ?_)))))
   obtain ⟨r10, h11, j6⟩ := bd.of j6
   refine Lin.i rfl (q_call (c_impl_within v1 1 (v0.1.1.length : Int) h11) rfl EntsB.nil) (Lin.h rfl (p_not rfl) (Lin.p (p_pickF rfl rfl) ?_))
   obtain rfl := si j6
   show At _ _ _ _ _ _
   exact n1 ⟨rfl, rfl, rfl, trivial⟩
 refine Tr.cond (b := b5) rfl (fun h12 => ?_) (fun h12 => ?_)
 ·have H := cdT h12 H
  refine Tr.seq (Tr.region (Rg.ef (e_lit0 Row Tryz.underlying43 ty58) rfl ?_))
  rintro _ _ _ ⟨a13, c14, rfl, rfl, rfl⟩
  refine Rg.a rfl (Rg.nl (nT (?_)))
  refine tRet (rT (?_))
  obtain rfl := si H
  exact back1 (a13, c14) rfl (ResV.tmp (v := .slice a13 (([] : List Row).length) c14) rfl) rfl Ents.nil (.cons Del.here .nil)
 ·have H := cdF h12 H
  refine tSkip (nT (?_))
  refine Tr.seq (Tr.region (Rg.o (q_ldbA ty39 rfl Has.here rfl) (Rg.m rfl ?_)))
  obtain ⟨r15, h16, H⟩ := bd.of H
  refine Rg.ef (e_callB (c_impl_Store_rows v0 x_v0 v1 h16) (fun _ => (Solo.tree Solo.nil)) rfl (EntsB.cons (Ent.b (Ent.dimm Ent.z.s.s)) (EntsB.cons (Ent.b (Ent.dimm Ent.z.s)) (EntsB.cons (Ent.b (Ent.dimm Ent.z)) (EntsB.cons (Ent.b Ent.z.s.s.s.s.s.s) EntsB.nil))))) rfl ?_
  rintro _ _ _ ⟨x17, rfl, rfl, rfl⟩
  refine Rg.a rfl (Rg.nl (nT (?_)))
  refine tRet ?_
  obtain rfl := si H
  exact back1 x17 rfl (ResV.tmp (v := .slice x17.1 r15.length x17.2) rfl) rfl Ents.nil (.cons Del.here .nil)
noncomputable def p_laws_markText_b0 (Q6 : Int × ByteArray) : Option ((Int × ByteArray) ⊕ (ByteArray)) := cond (decide (0 < Q6.1)) (gd (I64 (Q6.1.tmod 10)) <| gd (I64 (48 + (Q6.1.tmod 10))) <| gd (room ((s2 [b8 (48 + (Q6.1.tmod 10))]).size + Q6.2.size)) <| gd (I64 (Q6.1.tdiv 10)) <| some (.inl (Q6.1.tdiv 10, (s2 [b8 (48 + (Q6.1.tmod 10))]) ++ Q6.2))) (some (.inr Q6.2))
noncomputable def p_laws_markText (v0 : Int) : Option (ByteArray) := cond (decide (v0 ≤ 0)) (some (⟨#[109, 48]⟩ : ByteArray)) (bd (lp (p_laws_markText_b0) (v0, (⟨#[]⟩ : ByteArray))) fun x2 => gd (room ((⟨#[109]⟩ : ByteArray).size + x2.size)) <| some ((⟨#[109]⟩ : ByteArray) ++ x2))
theorem c_laws_markText {r : ByteArray} (v0 : Int) (H : p_laws_markText v0 = some r) : Fn' Tryz.prog 69 #[.int .i64 (v0)] [] [] (ι := Unit) (fun _ => .string (r)) (fun _ => []) (fun _ => []) := by
 refine calls_of (args := [_]) Tryz.func69 rfl (by kernel_rfl) Tryz.ntmps69 (by simp) fun c => ?_
 unfold p_laws_markText at H
 refine Tr.seq (Tr.region (Rg.a (v := .string ((⟨#[]⟩ : ByteArray))) rfl (Rg.nl (nT (?_)))))
 refine Tr.seq (Tr.seq (Tr.region (Rg.m rfl (Rg.p (p_leq rfl rfl) (Rg.nl ?_)))))
 refine nT (?_)
 refine Tr.cond (b := decide (v0 ≤ 0)) rfl (fun h1 => ?_) (fun h1 => ?_)
 ·have H := cdT h1 H
  refine Tr.seq (Tr.region (Rg.a (v := .string ((⟨#[109, 48]⟩ : ByteArray))) rfl (Rg.nl (nT (?_)))))
  refine tRet (rT (?_))
  obtain rfl := si H
  exact bk1 rfl rfl rfl rfl Take.nil
 ·have H := cdF h1 H
  refine tSkip (nT (?_))
  refine Tr.seq (Tr.region (Rg.a (v := .string ((⟨#[]⟩ : ByteArray))) rfl (Rg.nl (nT (?_)))))
  obtain ⟨x2, hx3, H⟩ := bd.of H
  obtain ⟨n4, hx3⟩ := lp.of hx3
  refine tMidC (ι := Unit) (fun ψ => [(3, .string (x2))]) (fun ψ => []) ?_ ?_
  ·refine Tr.block (tLoopC (ι := { q : Nat × (Int × ByteArray) × Unit // itr (p_laws_markText_b0) q.1 q.2.1 = some x2 }) (fun ζ => [(0, .int .i64 (ζ.1.2.1.1)), (3, .string (ζ.1.2.1.2))]) (fun ζ => []) (fun ζ => ζ.1.1) ⟨(n4, (v0, (⟨#[]⟩ : ByteArray)), ()), hx3⟩ ⟨rfl, rfl, trivial⟩ Take.nil ?_)
   rintro ⟨⟨m5, Q6, z7⟩, hk12⟩
   obtain ⟨m13, t9, e, H1, hi10, hb11⟩ := itr.of (n := m5) (s := Q6) hk12
   subst e; unfold p_laws_markText_b0 at H1
   show Tr _ _ _ _ _ [(0, .int .i64 (Q6.1)), (3, .string (Q6.2))] _ []
   refine Tr.seq (Tr.seq (Tr.region (Rg.m rfl (Rg.p (p_gtr rfl rfl) (Rg.nl ?_)))))
   refine nT (?_)
   refine Tr.cond (b := decide (0 < Q6.1)) rfl (fun h14 => ?_) (fun h14 => ?_)
   ·have H1 := cdT h14 H1
    refine tSkip (nT (?_))
    refine Tr.block (Tr.seq (Tr.region (Rg.m rfl ?_)))
    obtain ⟨h15, H1⟩ := gd.of H1
    refine Rg.p (p_rem rfl rfl (by decide) h15) ?_
    obtain ⟨h16, H1⟩ := gd.of H1
    refine Rg.p (p_add rfl rfl h16) (Rg.p (v := .int .u8 ((b8 (48 + (Q6.1.tmod 10))).toNat : Int)) (p_b8 Tryz.underlying3 Tryz.underlying5 rfl) (Rg.ef (e_lit (vs := [(0, .int .u8 ((b8 (48 + (Q6.1.tmod 10))).toNat : Int))]) [.int .u8 ((b8 (48 + (Q6.1.tmod 10))).toNat : Int)] Tryz.underlying143 ty5 rfl (by decide) (by decide) (by kernel_rfl)) rfl ?_))
    rintro _ _ _ ⟨g17, rfl, rfl, rfl⟩
    refine Rg.o (v := .string (s2 [b8 (48 + (Q6.1.tmod 10))])) (q_b2sL [b8 (48 + (Q6.1.tmod 10))] Tryz.underlying143 Tryz.underlying5 Tryz.underlying9 rfl Has.here rfl) (Rg.m rfl ?_)
    obtain ⟨h18, H1⟩ := gd.of H1
    refine Rg.p (p_cat rfl rfl h18) (Rg.a rfl (Rg.nl (nT (?_))))
    refine Tr.region (Rg.m rfl ?_)
    obtain ⟨h19, H1⟩ := gd.of H1
    refine Rg.p (p_quo rfl rfl (by decide) h19) (Rg.a rfl (Rg.nl ?_))
    exact nB (nLC ⟨(m13, (Q6.1.tdiv 10, (s2 [b8 (48 + (Q6.1.tmod 10))]) ++ Q6.2), ()), hi10 _ (Option.some.inj H1).symm⟩ (Nat.lt_succ_self _) ⟨rfl, rfl, trivial⟩ Ents.refl Take.nil)
   ·have H1 := cdF h14 H1
    refine tExit (xT (xT (xE (?_))))
    have hx := hb11 _ (Option.some.inj H1).symm; subst hx
    exact nMC () ⟨rfl, trivial⟩ Ents.refl Take.nil
  ·intro y8
   show Tr _ _ _ _ _ [(3, .string (x2))] _ []
   refine Tr.seq (Tr.region (Rg.m rfl ?_))
   obtain ⟨h20, H⟩ := gd.of H
   refine Rg.p (v := .string ((⟨#[109]⟩ : ByteArray) ++ x2)) (p_cat rfl rfl h20) (Rg.a (v := .string ((⟨#[109]⟩ : ByteArray) ++ x2)) rfl (Rg.nl (nT (?_))))
   refine tRet ?_
   obtain rfl := si H
   exact bk1 rfl rfl rfl rfl Take.nil
noncomputable def p_laws_markTagS_b0 (v0 : (List Tag)) (Q5 : (List Tag) × Int × Int) : Option (((List Tag) × Int × Int) ⊕ (Int × (List Tag))) := cond (decide (Q5.2.2 < (v0.length : Int))) (gd (ix Q5.2.2 Q5.1.length) <| bd (p_laws_markText Q5.2.1) fun r16 => gd (I64 (Q5.2.1 + 1)) <| bd (p_laws_markText (Q5.2.1 + 1)) fun r19 => gd (I64 ((Q5.2.1 + 1) + 1)) <| gd (I64 (Q5.2.2 + 1)) <| some (.inl ((Q5.1.set Q5.2.2.toNat (r16, r19)), (Q5.2.1 + 1) + 1, Q5.2.2 + 1))) (some (.inr (Q5.2.1, Q5.1)))
noncomputable def p_laws_markTagS (v0 : (List Tag)) (v1 : Int) : Option (Int × (List Tag)) := bd (lp (p_laws_markTagS_b0 v0) (v0, v1, 0)) fun x1 => some (x1.1, x1.2)
theorem c_laws_markTagS {r : Int × (List Tag)} (v0 : (List Tag)) (x_v0 : Option Addr × Nat) (n_v0 : Nat) (e_v0 : n_v0 = v0.length) (v1 : Int) (H : p_laws_markTagS v0 v1 = some r) : Fn' Tryz.prog 28 #[.slice x_v0.1 n_v0 x_v0.2, .int .i64 (v1)] [] [tree (.slice x_v0.1 n_v0 x_v0.2) v0] (ι := Unit) (fun _ => .int .i64 (r.1)) (fun _ => []) (fun _ => [tree (.slice x_v0.1 n_v0 x_v0.2) r.2]) := by
 subst e_v0
 refine calls_of (args := [_, _]) Tryz.func28 rfl (by kernel_rfl) Tryz.ntmps28 (by simp) fun c => ?_
 unfold p_laws_markTagS at H
 refine Tr.seq (Tr.region (Rg.a (v := .int .i64 (0)) rfl (Rg.nl (nT (?_)))))
 refine Tr.seq (Tr.seq (Tr.region (Rg.a (v := .int .i64 (0)) rfl (Rg.nl (nT (?_))))))
 obtain ⟨x1, hx2, H⟩ := bd.of H
 obtain ⟨n3, hx2⟩ := lp.of hx2
 refine tMidNC (ι := Unit) (fun ψ => [(1, .int .i64 (x1.1))]) (fun ψ => [tree (.slice x_v0.1 v0.length x_v0.2) x1.2]) ?_ ?_
 ·refine Tr.block (tLoopC (ι := { q : Nat × ((List Tag) × Int × Int) × Unit // itr (p_laws_markTagS_b0 v0) q.1 q.2.1 = some x1 }) (fun ζ => [(0, .slice x_v0.1 v0.length x_v0.2), (1, .int .i64 (ζ.1.2.1.2.1)), (5, .int .i64 (ζ.1.2.1.2.2))]) (fun ζ => [tree (.slice x_v0.1 v0.length x_v0.2) ζ.1.2.1.1]) (fun ζ => ζ.1.1) ⟨(n3, (v0, v1, 0), ()), hx2⟩ ⟨rfl, rfl, rfl, trivial⟩ (.cons Del.here .nil) ?_)
  rintro ⟨⟨m4, Q5, z6⟩, hk11⟩
  obtain ⟨m12, t8, e, H1, hi9, hb10⟩ := itr.of (n := m4) (s := Q5) hk11
  subst e; unfold p_laws_markTagS_b0 at H1
  show Tr _ _ _ _ _ [(0, .slice x_v0.1 v0.length x_v0.2), (1, .int .i64 (Q5.2.1)), (5, .int .i64 (Q5.2.2))] _ [tree (.slice x_v0.1 v0.length x_v0.2) Q5.1]
  refine Tr.seq (Tr.seq (Tr.region (Rg.m rfl (Rg.m rfl (Rg.p (p_len 96 Tryz.underlying56 rfl) ?_)))))
  refine Rg.p (p_lss rfl rfl) (Rg.nl (nT (?_)))
  refine Tr.cond (b := decide (Q5.2.2 < (v0.length : Int))) rfl (fun h13 => ?_) (fun h13 => ?_)
  ·have H1 := cdT h13 H1
   refine tSkip (nT (?_))
   refine Tr.seq (Tr.block (Tr.seq ?_))
   obtain ⟨h14, H1⟩ := gd.of H1
   refine Tr.zoom (k := Q5.2.2.toNat) h14.lt (.cons Del.here .nil) fun x15 => ?_
   show Tr _ _ _ _ _ _ _ (hole (.slice x_v0.1 v0.length x_v0.2) Q5.1 Q5.2.2.toNat [.string ((nth Q5.1 Q5.2.2.toNat).1), .string ((nth Q5.1 Q5.2.2.toNat).2)] :: _)
   refine Tr.region (Rg.m rfl (Rg.m rfl (Rg.m rfl ?_)))
   obtain ⟨r16, h17, H1⟩ := bd.of H1
   refine Rg.o (q_call (c_laws_markText Q5.2.1 h17) rfl EntsB.nil) (Rg.o (v := elp x_v0.1 (Q5.2.2.toNat * Enc.sz Tag + 0)) (q_ixH (k := Q5.2.2.toNat) Tryz.underlying56 ty96 rfl rfl h14 rfl Has.here) (Rg.o (v := elp x_v0.1 (Q5.2.2.toNat * Enc.sz Tag + 0)) (q_faH (j := 0) (i := Q5.2.2.toNat) fa96_0 rfl Has.here rfl) (Rg.en (e_stH (v := .string (r16)) (i := Q5.2.2.toNat) (j := 0) (cs' := [.string (r16), .string ((nth Q5.1 Q5.2.2.toNat).2)]) ty9 rfl rfl (.cons Del.here .nil) rfl (one_of rfl) (Nat.le_of_ble_eq_true rfl) rfl rfl) rfl ?_)))
   rintro _ _ _ ⟨rfl, rfl, rfl⟩
   refine Rg.nl (nT (?_))
   refine Tr.seq (Tr.region (Rg.m rfl ?_))
   obtain ⟨h18, H1⟩ := gd.of H1
   refine Rg.p (p_add rfl rfl h18) (Rg.a rfl (Rg.nl (nT (?_))))
   refine Tr.seq (Tr.region (Rg.m rfl (Rg.m rfl (Rg.m rfl ?_))))
   obtain ⟨r19, h20, H1⟩ := bd.of H1
   refine Rg.o (q_call (c_laws_markText (Q5.2.1 + 1) h20) rfl EntsB.nil) (Rg.o (v := elp x_v0.1 (Q5.2.2.toNat * Enc.sz Tag + 0)) (q_ixH (k := Q5.2.2.toNat) Tryz.underlying56 ty96 rfl rfl h14 rfl Has.here) (Rg.o (v := elp x_v0.1 (Q5.2.2.toNat * Enc.sz Tag + 1)) (q_faH (j := 0) (i := Q5.2.2.toNat) fa96_1 rfl Has.here rfl) (Rg.en (e_stH (v := .string (r19)) (i := Q5.2.2.toNat) (j := 1) (cs' := [.string (r16), .string (r19)]) ty9 rfl rfl (.cons Del.here .nil) rfl (one_of rfl) (Nat.le_of_ble_eq_true rfl) rfl rfl) rfl ?_)))
   rintro _ _ _ ⟨rfl, rfl, rfl⟩
   refine Rg.nl (nT (?_))
   refine Tr.region (Rg.m rfl ?_)
   obtain ⟨h21, H1⟩ := gd.of H1
   refine Rg.p (p_add rfl rfl h21) (Rg.a rfl (Rg.nl (nB (nT (?_)))))
   refine Tr.region (Rg.m rfl ?_)
   obtain ⟨h22, H1⟩ := gd.of H1
   refine Rg.p (p_add rfl rfl h22) (Rg.a rfl (Rg.nl (At.unzoom (r16, r19) ((), ()) rfl (.cons Del.here .nil) ?_)))
   exact nLC ⟨(m12, ((Q5.1.set Q5.2.2.toNat (r16, r19)), (Q5.2.1 + 1) + 1, Q5.2.2 + 1), ()), hi9 _ (Option.some.inj H1).symm⟩ (Nat.lt_succ_self _) ⟨rfl, rfl, rfl, trivial⟩ Ents.refl (.cons Del.here .nil)
  ·have H1 := cdF h13 H1
   refine tExit (xT (xT (xE (?_))))
   have hx := hb10 _ (Option.some.inj H1).symm; subst hx
   exact nMC () ⟨rfl, trivial⟩ Ents.refl (.cons Del.here .nil)
 ·intro y7
  show At _ _ [(1, .int .i64 (x1.1))] _ [tree (.slice x_v0.1 v0.length x_v0.2) x1.2] _
  refine nT (?_)
  refine Tr.seq (Tr.region (Rg.m rfl (Rg.a rfl (Rg.nl (nT (?_))))))
  refine tRet ?_
  obtain rfl := si H
  exact bk1 rfl rfl rfl rfl (.cons Del.here .nil)
noncomputable def p_laws_markTagSS_b0 (v0 : (List (List Tag))) (Q5 : (List (List Tag)) × Int × Int) : Option (((List (List Tag)) × Int × Int) ⊕ (Int × (List (List Tag)))) := cond (decide (Q5.2.2 < (v0.length : Int))) (gd (ix Q5.2.2 Q5.1.length) <| bd (p_laws_markTagS (nth Q5.1 Q5.2.2.toNat) Q5.2.1) fun r16 => gd (I64 (Q5.2.2 + 1)) <| some (.inl ((Q5.1.set Q5.2.2.toNat r16.2), r16.1, Q5.2.2 + 1))) (some (.inr (Q5.2.1, Q5.1)))
noncomputable def p_laws_markTagSS (v0 : (List (List Tag))) (v1 : Int) : Option (Int × (List (List Tag))) := bd (lp (p_laws_markTagSS_b0 v0) (v0, v1, 0)) fun x1 => some (x1.1, x1.2)
theorem c_laws_markTagSS {r : Int × (List (List Tag))} (v0 : (List (List Tag))) (x_v0 : Option Addr × Nat) (n_v0 : Nat) (e_v0 : n_v0 = v0.length) (v1 : Int) (H : p_laws_markTagSS v0 v1 = some r) : Fn' Tryz.prog 100 #[.slice x_v0.1 n_v0 x_v0.2, .int .i64 (v1)] [] [tree (.slice x_v0.1 n_v0 x_v0.2) v0] (ι := Unit) (fun _ => .int .i64 (r.1)) (fun _ => []) (fun _ => [tree (.slice x_v0.1 n_v0 x_v0.2) r.2]) := by
 subst e_v0
 refine calls_of (args := [_, _]) Tryz.func100 rfl (by kernel_rfl) Tryz.ntmps100 (by simp) fun c => ?_
 unfold p_laws_markTagSS at H
 refine Tr.seq (Tr.region (Rg.a (v := .int .i64 (0)) rfl (Rg.nl (nT (?_)))))
 refine Tr.seq (Tr.seq (Tr.region (Rg.a (v := .int .i64 (0)) rfl (Rg.nl (nT (?_))))))
 obtain ⟨x1, hx2, H⟩ := bd.of H
 obtain ⟨n3, hx2⟩ := lp.of hx2
 refine tMidNC (ι := Unit) (fun ψ => [(1, .int .i64 (x1.1))]) (fun ψ => [tree (.slice x_v0.1 v0.length x_v0.2) x1.2]) ?_ ?_
 ·refine Tr.block (tLoopC (ι := { q : Nat × ((List (List Tag)) × Int × Int) × Unit // itr (p_laws_markTagSS_b0 v0) q.1 q.2.1 = some x1 }) (fun ζ => [(0, .slice x_v0.1 v0.length x_v0.2), (1, .int .i64 (ζ.1.2.1.2.1)), (5, .int .i64 (ζ.1.2.1.2.2))]) (fun ζ => [tree (.slice x_v0.1 v0.length x_v0.2) ζ.1.2.1.1]) (fun ζ => ζ.1.1) ⟨(n3, (v0, v1, 0), ()), hx2⟩ ⟨rfl, rfl, rfl, trivial⟩ (.cons Del.here .nil) ?_)
  rintro ⟨⟨m4, Q5, z6⟩, hk11⟩
  obtain ⟨m12, t8, e, H1, hi9, hb10⟩ := itr.of (n := m4) (s := Q5) hk11
  subst e; unfold p_laws_markTagSS_b0 at H1
  show Tr _ _ _ _ _ [(0, .slice x_v0.1 v0.length x_v0.2), (1, .int .i64 (Q5.2.1)), (5, .int .i64 (Q5.2.2))] _ [tree (.slice x_v0.1 v0.length x_v0.2) Q5.1]
  refine Tr.seq (Tr.seq (Tr.region (Rg.m rfl (Rg.m rfl (Rg.p (p_len 56 Tryz.underlying32 rfl) ?_)))))
  refine Rg.p (p_lss rfl rfl) (Rg.nl (nT (?_)))
  refine Tr.cond (b := decide (Q5.2.2 < (v0.length : Int))) rfl (fun h13 => ?_) (fun h13 => ?_)
  ·have H1 := cdT h13 H1
   refine tSkip (nT (?_))
   refine Tr.seq (Tr.block ?_)
   obtain ⟨h14, H1⟩ := gd.of H1
   refine Tr.zoom (k := Q5.2.2.toNat) h14.lt (.cons Del.here .nil) fun x15 => ?_
   show Tr _ _ _ _ _ _ _ (hole (.slice x_v0.1 v0.length x_v0.2) Q5.1 Q5.2.2.toNat [.slice x15.1 ((nth Q5.1 Q5.2.2.toNat).length) x15.2] :: tree (.slice x15.1 ((nth Q5.1 Q5.2.2.toNat).length) x15.2) (nth Q5.1 Q5.2.2.toNat) :: _)
   refine Tr.region (Rg.m rfl (Rg.m rfl (Rg.o (v := elp x_v0.1 (Q5.2.2.toNat * Enc.sz (List Tag) + 0)) (q_ixH (k := Q5.2.2.toNat) Tryz.underlying32 ty56 rfl rfl h14 rfl Has.here) (Rg.o (v := .slice x15.1 ((nth Q5.1 Q5.2.2.toNat).length) x15.2) (q_ldH (i := Q5.2.2.toNat) (j := 0) ty56 rfl Has.here rfl) (Rg.m rfl ?_)))))
   obtain ⟨r16, h17, H1⟩ := bd.of H1
   refine Rg.ef (e_callM (c_laws_markTagS (nth Q5.1 Q5.2.2.toNat) x15 ((nth Q5.1 Q5.2.2.toNat).length) rfl Q5.2.1 h17) (Solo.tree Solo.nil) (fun _ => (Solo.tree Solo.nil)) rfl (.cons dl1 .nil) EntsB.nil) rfl ?_
   rintro _ _ _ ⟨u18, rfl, rfl, rfl⟩
   refine Rg.a rfl (Rg.nl (nB (nT (?_))))
   refine Tr.olen Has.here fun hn => ?_; rw [hn]
   refine Tr.region (Rg.m rfl ?_)
   obtain ⟨h19, H1⟩ := gd.of H1
   refine Rg.p (p_add rfl rfl h19) (Rg.a rfl (Rg.nl (At.unzoom r16.2 x15 rfl (.cons dl1 (.cons Del.here .nil)) ?_)))
   exact nLC ⟨(m12, ((Q5.1.set Q5.2.2.toNat r16.2), r16.1, Q5.2.2 + 1), ()), hi9 _ (Option.some.inj H1).symm⟩ (Nat.lt_succ_self _) ⟨rfl, rfl, rfl, trivial⟩ Ents.refl (.cons Del.here .nil)
  ·have H1 := cdF h13 H1
   refine tExit (xT (xT (xE (?_))))
   have hx := hb10 _ (Option.some.inj H1).symm; subst hx
   exact nMC () ⟨rfl, trivial⟩ Ents.refl (.cons Del.here .nil)
 ·intro y7
  show At _ _ [(1, .int .i64 (x1.1))] _ [tree (.slice x_v0.1 v0.length x_v0.2) x1.2] _
  refine nT (?_)
  refine Tr.seq (Tr.region (Rg.m rfl (Rg.a rfl (Rg.nl (nT (?_))))))
  refine tRet ?_
  obtain rfl := si H
  exact bk1 rfl rfl rfl rfl (.cons Del.here .nil)
noncomputable def p_laws_markIntS_b0 (v0 : (List Int)) (Q5 : (List Int) × Int × Int) : Option (((List Int) × Int × Int) ⊕ (Int × (List Int))) := cond (decide (Q5.2.2 < (v0.length : Int))) (gd (ix Q5.2.2 Q5.1.length) <| gd (I64 (Q5.2.1 + 1)) <| gd (I64 (Q5.2.2 + 1)) <| some (.inl ((Q5.1.set Q5.2.2.toNat Q5.2.1), Q5.2.1 + 1, Q5.2.2 + 1))) (some (.inr (Q5.2.1, Q5.1)))
noncomputable def p_laws_markIntS (v0 : (List Int)) (v1 : Int) : Option (Int × (List Int)) := bd (lp (p_laws_markIntS_b0 v0) (v0, v1, 0)) fun x1 => some (x1.1, x1.2)
theorem c_laws_markIntS {r : Int × (List Int)} (v0 : (List Int)) (x_v0 : Option Addr × Nat) (n_v0 : Nat) (e_v0 : n_v0 = v0.length) (v1 : Int) (H : p_laws_markIntS v0 v1 = some r) : Fn' Tryz.prog 102 #[.slice x_v0.1 n_v0 x_v0.2, .int .i64 (v1)] [] [tree (.slice x_v0.1 n_v0 x_v0.2) v0] (ι := Unit) (fun _ => .int .i64 (r.1)) (fun _ => []) (fun _ => [tree (.slice x_v0.1 n_v0 x_v0.2) r.2]) := by
 subst e_v0
 refine calls_of (args := [_, _]) Tryz.func102 rfl (by kernel_rfl) Tryz.ntmps102 (by simp) fun c => ?_
 unfold p_laws_markIntS at H
 refine Tr.seq (Tr.region (Rg.a (v := .int .i64 (0)) rfl (Rg.nl (nT (?_)))))
 refine Tr.seq (Tr.seq (Tr.region (Rg.a (v := .int .i64 (0)) rfl (Rg.nl (nT (?_))))))
 obtain ⟨x1, hx2, H⟩ := bd.of H
 obtain ⟨n3, hx2⟩ := lp.of hx2
 refine tMidNC (ι := Unit) (fun ψ => [(1, .int .i64 (x1.1))]) (fun ψ => [tree (.slice x_v0.1 v0.length x_v0.2) x1.2]) ?_ ?_
 ·refine Tr.block (tLoopC (ι := { q : Nat × ((List Int) × Int × Int) × Unit // itr (p_laws_markIntS_b0 v0) q.1 q.2.1 = some x1 }) (fun ζ => [(0, .slice x_v0.1 v0.length x_v0.2), (1, .int .i64 (ζ.1.2.1.2.1)), (5, .int .i64 (ζ.1.2.1.2.2))]) (fun ζ => [tree (.slice x_v0.1 v0.length x_v0.2) ζ.1.2.1.1]) (fun ζ => ζ.1.1) ⟨(n3, (v0, v1, 0), ()), hx2⟩ ⟨rfl, rfl, rfl, trivial⟩ (.cons Del.here .nil) ?_)
  rintro ⟨⟨m4, Q5, z6⟩, hk11⟩
  obtain ⟨m12, t8, e, H1, hi9, hb10⟩ := itr.of (n := m4) (s := Q5) hk11
  subst e; unfold p_laws_markIntS_b0 at H1
  show Tr _ _ _ _ _ [(0, .slice x_v0.1 v0.length x_v0.2), (1, .int .i64 (Q5.2.1)), (5, .int .i64 (Q5.2.2))] _ [tree (.slice x_v0.1 v0.length x_v0.2) Q5.1]
  refine Tr.seq (Tr.seq (Tr.region (Rg.m rfl (Rg.m rfl (Rg.p (p_len 3 Tryz.underlying69 rfl) ?_)))))
  refine Rg.p (p_lss rfl rfl) (Rg.nl (nT (?_)))
  refine Tr.cond (b := decide (Q5.2.2 < (v0.length : Int))) rfl (fun h13 => ?_) (fun h13 => ?_)
  ·have H1 := cdT h13 H1
   refine tSkip (nT (?_))
   refine Tr.seq (Tr.block (Tr.seq (Tr.region (Rg.m rfl (Rg.m rfl ?_)))))
   refine Rg.m rfl ?_
   obtain ⟨h14, H1⟩ := gd.of H1
   refine Rg.o (q_ixO' Tryz.underlying69 ty3 rfl rfl h14 Has.here) (Rg.en (e_setT (l := Q5.1) (α := Int) (oa := x_v0.1) Q5.2.2.toNat Q5.2.1 () ty3 rfl rfl rfl h14.lt (ShpT.wfa _) (.cons Del.here .nil)) rfl ?_)
   rintro _ _ _ ⟨rfl, rfl, rfl⟩
   refine Rg.nl (nT (?_))
   refine Tr.region (Rg.m rfl ?_)
   obtain ⟨h15, H1⟩ := gd.of H1
   refine Rg.p (p_add rfl rfl h15) (Rg.a rfl (Rg.nl (nB (nT (?_)))))
   refine Tr.region (Rg.m rfl ?_)
   obtain ⟨h16, H1⟩ := gd.of H1
   refine Rg.p (p_add rfl rfl h16) (Rg.a rfl (Rg.nl ?_))
   exact nLC ⟨(m12, ((Q5.1.set Q5.2.2.toNat Q5.2.1), Q5.2.1 + 1, Q5.2.2 + 1), ()), hi9 _ (Option.some.inj H1).symm⟩ (Nat.lt_succ_self _) ⟨rfl, rfl, rfl, trivial⟩ Ents.refl (.cons Del.here .nil)
  ·have H1 := cdF h13 H1
   refine tExit (xT (xT (xE (?_))))
   have hx := hb10 _ (Option.some.inj H1).symm; subst hx
   exact nMC () ⟨rfl, trivial⟩ Ents.refl (.cons Del.here .nil)
 ·intro y7
  show At _ _ [(1, .int .i64 (x1.1))] _ [tree (.slice x_v0.1 v0.length x_v0.2) x1.2] _
  refine nT (?_)
  refine Tr.seq (Tr.region (Rg.m rfl (Rg.a rfl (Rg.nl (nT (?_))))))
  refine tRet ?_
  obtain rfl := si H
  exact bk1 rfl rfl rfl rfl (.cons Del.here .nil)
noncomputable def p_laws_markPostS_b0 (v0 : (List Post)) (Q5 : (List Post) × Int × Int) : Option (((List Post) × Int × Int) ⊕ (Int × (List Post))) := cond (decide (Q5.2.2 < (v0.length : Int))) (gd (ix Q5.2.2 Q5.1.length) <| bd (p_laws_markText Q5.2.1) fun r16 => gd (I64 (Q5.2.1 + 1)) <| bd (p_laws_markText (Q5.2.1 + 1)) fun r19 => gd (I64 ((Q5.2.1 + 1) + 1)) <| bd (p_laws_markIntS ((nth Q5.1 Q5.2.2.toNat).2) ((Q5.2.1 + 1) + 1)) fun r22 => gd (I64 (Q5.2.2 + 1)) <| some (.inl ((Q5.1.set Q5.2.2.toNat ((r16, r19), r22.2)), r22.1, Q5.2.2 + 1))) (some (.inr (Q5.2.1, Q5.1)))
noncomputable def p_laws_markPostS (v0 : (List Post)) (v1 : Int) : Option (Int × (List Post)) := bd (lp (p_laws_markPostS_b0 v0) (v0, v1, 0)) fun x1 => some (x1.1, x1.2)
theorem c_laws_markPostS {r : Int × (List Post)} (v0 : (List Post)) (x_v0 : Option Addr × Nat) (n_v0 : Nat) (e_v0 : n_v0 = v0.length) (v1 : Int) (H : p_laws_markPostS v0 v1 = some r) : Fn' Tryz.prog 101 #[.slice x_v0.1 n_v0 x_v0.2, .int .i64 (v1)] [] [tree (.slice x_v0.1 n_v0 x_v0.2) v0] (ι := Unit) (fun _ => .int .i64 (r.1)) (fun _ => []) (fun _ => [tree (.slice x_v0.1 n_v0 x_v0.2) r.2]) := by
 subst e_v0
 refine calls_of (args := [_, _]) Tryz.func101 rfl (by kernel_rfl) Tryz.ntmps101 (by simp) fun c => ?_
 unfold p_laws_markPostS at H
 refine Tr.seq (Tr.region (Rg.a (v := .int .i64 (0)) rfl (Rg.nl (nT (?_)))))
 refine Tr.seq (Tr.seq (Tr.region (Rg.a (v := .int .i64 (0)) rfl (Rg.nl (nT (?_))))))
 obtain ⟨x1, hx2, H⟩ := bd.of H
 obtain ⟨n3, hx2⟩ := lp.of hx2
 refine tMidNC (ι := Unit) (fun ψ => [(1, .int .i64 (x1.1))]) (fun ψ => [tree (.slice x_v0.1 v0.length x_v0.2) x1.2]) ?_ ?_
 ·refine Tr.block (tLoopC (ι := { q : Nat × ((List Post) × Int × Int) × Unit // itr (p_laws_markPostS_b0 v0) q.1 q.2.1 = some x1 }) (fun ζ => [(0, .slice x_v0.1 v0.length x_v0.2), (1, .int .i64 (ζ.1.2.1.2.1)), (5, .int .i64 (ζ.1.2.1.2.2))]) (fun ζ => [tree (.slice x_v0.1 v0.length x_v0.2) ζ.1.2.1.1]) (fun ζ => ζ.1.1) ⟨(n3, (v0, v1, 0), ()), hx2⟩ ⟨rfl, rfl, rfl, trivial⟩ (.cons Del.here .nil) ?_)
  rintro ⟨⟨m4, Q5, z6⟩, hk11⟩
  obtain ⟨m12, t8, e, H1, hi9, hb10⟩ := itr.of (n := m4) (s := Q5) hk11
  subst e; unfold p_laws_markPostS_b0 at H1
  show Tr _ _ _ _ _ [(0, .slice x_v0.1 v0.length x_v0.2), (1, .int .i64 (Q5.2.1)), (5, .int .i64 (Q5.2.2))] _ [tree (.slice x_v0.1 v0.length x_v0.2) Q5.1]
  refine Tr.seq (Tr.seq (Tr.region (Rg.m rfl (Rg.m rfl (Rg.p (p_len 113 Tryz.underlying33 rfl) ?_)))))
  refine Rg.p (p_lss rfl rfl) (Rg.nl (nT (?_)))
  refine Tr.cond (b := decide (Q5.2.2 < (v0.length : Int))) rfl (fun h13 => ?_) (fun h13 => ?_)
  ·have H1 := cdT h13 H1
   refine tSkip (nT (?_))
   refine Tr.seq (Tr.block (Tr.seq ?_))
   obtain ⟨h14, H1⟩ := gd.of H1
   refine Tr.zoom (k := Q5.2.2.toNat) h14.lt (.cons Del.here .nil) fun x15 => ?_
   show Tr _ _ _ _ _ _ _ (hole (.slice x_v0.1 v0.length x_v0.2) Q5.1 Q5.2.2.toNat [.string (((nth Q5.1 Q5.2.2.toNat).1).1), .string (((nth Q5.1 Q5.2.2.toNat).1).2), .slice x15.2.1 (((nth Q5.1 Q5.2.2.toNat).2).length) x15.2.2] :: tree (.slice x15.2.1 (((nth Q5.1 Q5.2.2.toNat).2).length) x15.2.2) ((nth Q5.1 Q5.2.2.toNat).2) :: _)
   refine Tr.region (Rg.m rfl (Rg.m rfl (Rg.m rfl ?_)))
   obtain ⟨r16, h17, H1⟩ := bd.of H1
   refine Rg.o (q_call (c_laws_markText Q5.2.1 h17) rfl EntsB.nil) (Rg.o (v := elp x_v0.1 (Q5.2.2.toNat * Enc.sz Post + 0)) (q_ixH (k := Q5.2.2.toNat) Tryz.underlying33 ty113 rfl rfl h14 rfl Has.here) (Rg.o (v := elp x_v0.1 (Q5.2.2.toNat * Enc.sz Post + 0)) (q_faH (j := 0) (i := Q5.2.2.toNat) fa113_0 rfl Has.here rfl) (Rg.o (v := elp x_v0.1 (Q5.2.2.toNat * Enc.sz Post + 0)) (q_faH (j := 0) (i := Q5.2.2.toNat) fa96_0 rfl Has.here rfl) (Rg.en (e_stH (v := .string (r16)) (i := Q5.2.2.toNat) (j := 0) (cs' := [.string (r16), .string (((nth Q5.1 Q5.2.2.toNat).1).2), .slice x15.2.1 (((nth Q5.1 Q5.2.2.toNat).2).length) x15.2.2]) ty9 rfl rfl (.cons Del.here .nil) rfl (one_of rfl) (Nat.le_of_ble_eq_true rfl) rfl rfl) rfl ?_))))
   rintro _ _ _ ⟨rfl, rfl, rfl⟩
   refine Rg.nl (nT (?_))
   refine Tr.seq (Tr.region (Rg.m rfl ?_))
   obtain ⟨h18, H1⟩ := gd.of H1
   refine Rg.p (p_add rfl rfl h18) (Rg.a rfl (Rg.nl (nT (?_))))
   refine Tr.seq (Tr.region (Rg.m rfl (Rg.m rfl (Rg.m rfl ?_))))
   obtain ⟨r19, h20, H1⟩ := bd.of H1
   refine Rg.o (q_call (c_laws_markText (Q5.2.1 + 1) h20) rfl EntsB.nil) (Rg.o (v := elp x_v0.1 (Q5.2.2.toNat * Enc.sz Post + 0)) (q_ixH (k := Q5.2.2.toNat) Tryz.underlying33 ty113 rfl rfl h14 rfl Has.here) (Rg.o (v := elp x_v0.1 (Q5.2.2.toNat * Enc.sz Post + 0)) (q_faH (j := 0) (i := Q5.2.2.toNat) fa113_0 rfl Has.here rfl) (Rg.o (v := elp x_v0.1 (Q5.2.2.toNat * Enc.sz Post + 1)) (q_faH (j := 0) (i := Q5.2.2.toNat) fa96_1 rfl Has.here rfl) (Rg.en (e_stH (v := .string (r19)) (i := Q5.2.2.toNat) (j := 1) (cs' := [.string (r16), .string (r19), .slice x15.2.1 (((nth Q5.1 Q5.2.2.toNat).2).length) x15.2.2]) ty9 rfl rfl (.cons Del.here .nil) rfl (one_of rfl) (Nat.le_of_ble_eq_true rfl) rfl rfl) rfl ?_))))
   rintro _ _ _ ⟨rfl, rfl, rfl⟩
   refine Rg.nl (nT (?_))
   refine Tr.seq (Tr.region (Rg.m rfl ?_))
   obtain ⟨h21, H1⟩ := gd.of H1
   refine Rg.p (p_add rfl rfl h21) (Rg.a rfl (Rg.nl (nT (?_))))
   refine Tr.region (Rg.m rfl (Rg.m rfl (Rg.o (v := elp x_v0.1 (Q5.2.2.toNat * Enc.sz Post + 0)) (q_ixH (k := Q5.2.2.toNat) Tryz.underlying33 ty113 rfl rfl h14 rfl Has.here) (Rg.o (v := elp x_v0.1 (Q5.2.2.toNat * Enc.sz Post + 2)) (q_faH (j := 0) (i := Q5.2.2.toNat) fa113_1 rfl Has.here rfl) (Rg.o (v := .slice x15.2.1 (((nth Q5.1 Q5.2.2.toNat).2).length) x15.2.2) (q_ldH (i := Q5.2.2.toNat) (j := 2) ty69 rfl Has.here rfl) ?_)))))
   refine Rg.m rfl ?_
   obtain ⟨r22, h23, H1⟩ := bd.of H1
   refine Rg.ef (e_callM (c_laws_markIntS ((nth Q5.1 Q5.2.2.toNat).2) x15.2 (((nth Q5.1 Q5.2.2.toNat).2).length) rfl ((Q5.2.1 + 1) + 1) h23) (Solo.tree Solo.nil) (fun _ => (Solo.tree Solo.nil)) rfl (.cons dl1 .nil) EntsB.nil) rfl ?_
   rintro _ _ _ ⟨u24, rfl, rfl, rfl⟩
   refine Rg.a rfl (Rg.nl (nB (nT (?_))))
   refine Tr.olen Has.here fun hn => ?_; rw [hn]
   refine Tr.region (Rg.m rfl ?_)
   obtain ⟨h25, H1⟩ := gd.of H1
   refine Rg.p (p_add rfl rfl h25) (Rg.a rfl (Rg.nl (At.unzoom ((r16, r19), r22.2) (((), ()), x15.2) rfl (.cons dl1 (.cons Del.here .nil)) ?_)))
   exact nLC ⟨(m12, ((Q5.1.set Q5.2.2.toNat ((r16, r19), r22.2)), r22.1, Q5.2.2 + 1), ()), hi9 _ (Option.some.inj H1).symm⟩ (Nat.lt_succ_self _) ⟨rfl, rfl, rfl, trivial⟩ Ents.refl (.cons Del.here .nil)
  ·have H1 := cdF h13 H1
   refine tExit (xT (xT (xE (?_))))
   have hx := hb10 _ (Option.some.inj H1).symm; subst hx
   exact nMC () ⟨rfl, trivial⟩ Ents.refl (.cons Del.here .nil)
 ·intro y7
  show At _ _ [(1, .int .i64 (x1.1))] _ [tree (.slice x_v0.1 v0.length x_v0.2) x1.2] _
  refine nT (?_)
  refine Tr.seq (Tr.region (Rg.m rfl (Rg.a rfl (Rg.nl (nT (?_))))))
  refine tRet ?_
  obtain rfl := si H
  exact bk1 rfl rfl rfl rfl (.cons Del.here .nil)
noncomputable def p_laws_markIndex (v0 : Index) (v1 : Int) : Option (Int × Index) := bd (p_laws_markTagSS v0.1 v1) fun r2 => bd (p_laws_markPostS v0.2 r2.1) fun r5 => some (r5.1, (r2.2, r5.2))
theorem c_laws_markIndex {r : Int × Index} (v0 : Index) (x_v0 : (Option Addr × Nat) × (Option Addr × Nat)) (v1 : Int) (H : p_laws_markIndex v0 v1 = some r) : Fn' Tryz.prog 52 #[.agg #[.slice x_v0.1.1 v0.1.length x_v0.1.2, .slice x_v0.2.1 v0.2.length x_v0.2.2], .int .i64 (v1)] [] [tree (.slice x_v0.1.1 v0.1.length x_v0.1.2) v0.1, tree (.slice x_v0.2.1 v0.2.length x_v0.2.2) v0.2] (ι := Unit) (fun _ => .int .i64 (r.1)) (fun _ => []) (fun _ => [tree (.slice x_v0.1.1 v0.1.length x_v0.1.2) r.2.1, tree (.slice x_v0.2.1 v0.2.length x_v0.2.2) r.2.2]) := by
 refine calls_of (args := [_, _]) Tryz.func52 rfl (by kernel_rfl) Tryz.ntmps52 (by simp) fun c => ?_
 unfold p_laws_markIndex at H
 refine Tr.seq (Tr.region (Rg.ef (e_box (t := 35) rfl) rfl ?_))
 rintro _ _ _ ⟨g1, rfl, rfl, rfl⟩
 refine Rg.a (v := .int .i64 (0)) rfl (Rg.nl (nT (?_)))
 refine Tr.seq (Tr.region (Rg.p (p_fabE fa35_0 rfl rfl) (Rg.o (q_ldb ty32 rfl Has.here rfl) (Rg.m rfl ?_))))
 obtain ⟨r2, h3, H⟩ := bd.of H
 refine Rg.ef (e_callM (c_laws_markTagSS v0.1 x_v0.1 v0.1.length rfl v1 h3) (Solo.tree Solo.nil) (fun _ => (Solo.tree Solo.nil)) rfl (.cons dl1 .nil) EntsB.nil) rfl ?_
 rintro _ _ _ ⟨u4, rfl, rfl, rfl⟩
 refine Rg.a rfl (Rg.nl (nT (?_)))
 refine Tr.seq (Tr.region (Rg.p (p_fabE fa35_1 rfl rfl) (Rg.o (q_ldb ty33 rfl hs1 rfl) (Rg.m rfl ?_))))
 obtain ⟨r5, h6, H⟩ := bd.of H
 refine Rg.ef (e_callM (c_laws_markPostS v0.2 x_v0.2 v0.2.length rfl r2.1 h6) (Solo.tree Solo.nil) (fun _ => (Solo.tree Solo.nil)) rfl (.cons dl2 .nil) EntsB.nil) rfl ?_
 rintro _ _ _ ⟨u7, rfl, rfl, rfl⟩
 refine Rg.a rfl (Rg.nl (nT (?_)))
 refine Tr.seq (Tr.region (Rg.m rfl (Rg.a rfl (Rg.nl (nT (?_))))))
 refine tRet ?_
 obtain rfl := si H
 exact bk1 rfl rfl rfl rfl (.cons dl1 (.cons Del.here .nil))
noncomputable def p_laws_markRowS_b0 (v0 : (List Row)) (Q5 : (List Row) × Int × Int) : Option (((List Row) × Int × Int) ⊕ (Int × (List Row))) := cond (decide (Q5.2.2 < (v0.length : Int))) (gd (ix Q5.2.2 Q5.1.length) <| gd (I64 (Q5.2.1 + 1)) <| gd (I64 ((Q5.2.1 + 1) + 1)) <| gd (I64 (Q5.2.2 + 1)) <| some (.inl ((Q5.1.set Q5.2.2.toNat (Q5.2.1, (Q5.2.1 + 1))), (Q5.2.1 + 1) + 1, Q5.2.2 + 1))) (some (.inr (Q5.2.1, Q5.1)))
noncomputable def p_laws_markRowS (v0 : (List Row)) (v1 : Int) : Option (Int × (List Row)) := bd (lp (p_laws_markRowS_b0 v0) (v0, v1, 0)) fun x1 => some (x1.1, x1.2)
theorem c_laws_markRowS {r : Int × (List Row)} (v0 : (List Row)) (x_v0 : Option Addr × Nat) (n_v0 : Nat) (e_v0 : n_v0 = v0.length) (v1 : Int) (H : p_laws_markRowS v0 v1 = some r) : Fn' Tryz.prog 17 #[.slice x_v0.1 n_v0 x_v0.2, .int .i64 (v1)] [] [tree (.slice x_v0.1 n_v0 x_v0.2) v0] (ι := Unit) (fun _ => .int .i64 (r.1)) (fun _ => []) (fun _ => [tree (.slice x_v0.1 n_v0 x_v0.2) r.2]) := by
 subst e_v0
 refine calls_of (args := [_, _]) Tryz.func17 rfl (by kernel_rfl) Tryz.ntmps17 (by simp) fun c => ?_
 unfold p_laws_markRowS at H
 refine Tr.seq (Tr.region (Rg.a (v := .int .i64 (0)) rfl (Rg.nl (nT (?_)))))
 refine Tr.seq (Tr.seq (Tr.region (Rg.a (v := .int .i64 (0)) rfl (Rg.nl (nT (?_))))))
 obtain ⟨x1, hx2, H⟩ := bd.of H
 obtain ⟨n3, hx2⟩ := lp.of hx2
 refine tMidNC (ι := Unit) (fun ψ => [(1, .int .i64 (x1.1))]) (fun ψ => [tree (.slice x_v0.1 v0.length x_v0.2) x1.2]) ?_ ?_
 ·refine Tr.block (tLoopC (ι := { q : Nat × ((List Row) × Int × Int) × Unit // itr (p_laws_markRowS_b0 v0) q.1 q.2.1 = some x1 }) (fun ζ => [(0, .slice x_v0.1 v0.length x_v0.2), (1, .int .i64 (ζ.1.2.1.2.1)), (5, .int .i64 (ζ.1.2.1.2.2))]) (fun ζ => [tree (.slice x_v0.1 v0.length x_v0.2) ζ.1.2.1.1]) (fun ζ => ζ.1.1) ⟨(n3, (v0, v1, 0), ()), hx2⟩ ⟨rfl, rfl, rfl, trivial⟩ (.cons Del.here .nil) ?_)
  rintro ⟨⟨m4, Q5, z6⟩, hk11⟩
  obtain ⟨m12, t8, e, H1, hi9, hb10⟩ := itr.of (n := m4) (s := Q5) hk11
  subst e; unfold p_laws_markRowS_b0 at H1
  show Tr _ _ _ _ _ [(0, .slice x_v0.1 v0.length x_v0.2), (1, .int .i64 (Q5.2.1)), (5, .int .i64 (Q5.2.2))] _ [tree (.slice x_v0.1 v0.length x_v0.2) Q5.1]
  refine Tr.seq (Tr.seq (Tr.region (Rg.m rfl (Rg.m rfl (Rg.p (p_len 58 Tryz.underlying43 rfl) ?_)))))
  refine Rg.p (p_lss rfl rfl) (Rg.nl (nT (?_)))
  refine Tr.cond (b := decide (Q5.2.2 < (v0.length : Int))) rfl (fun h13 => ?_) (fun h13 => ?_)
  ·have H1 := cdT h13 H1
   refine tSkip (nT (?_))
   refine Tr.seq (Tr.block (Tr.seq ?_))
   obtain ⟨h14, H1⟩ := gd.of H1
   refine Tr.zoom (k := Q5.2.2.toNat) h14.lt (.cons Del.here .nil) fun x15 => ?_
   show Tr _ _ _ _ _ _ _ (hole (.slice x_v0.1 v0.length x_v0.2) Q5.1 Q5.2.2.toNat [.int .i64 ((nth Q5.1 Q5.2.2.toNat).1), .int .i64 ((nth Q5.1 Q5.2.2.toNat).2)] :: _)
   refine Tr.region (Rg.m rfl (Rg.m rfl (Rg.m rfl (Rg.o (v := elp x_v0.1 (Q5.2.2.toNat * Enc.sz Row + 0)) (q_ixH (k := Q5.2.2.toNat) Tryz.underlying43 ty58 rfl rfl h14 rfl Has.here) (Rg.o (v := elp x_v0.1 (Q5.2.2.toNat * Enc.sz Row + 0)) (q_faH (j := 0) (i := Q5.2.2.toNat) fa58_0 rfl Has.here rfl) ?_)))))
   refine Rg.en (e_stH (v := .int .i64 (Q5.2.1)) (i := Q5.2.2.toNat) (j := 0) (cs' := [.int .i64 (Q5.2.1), .int .i64 ((nth Q5.1 Q5.2.2.toNat).2)]) ty3 rfl rfl (.cons Del.here .nil) rfl (one_of rfl) (Nat.le_of_ble_eq_true rfl) rfl rfl) rfl ?_
   rintro _ _ _ ⟨rfl, rfl, rfl⟩
   refine Rg.nl (nT (?_))
   refine Tr.seq (Tr.region (Rg.m rfl ?_))
   obtain ⟨h16, H1⟩ := gd.of H1
   refine Rg.p (p_add rfl rfl h16) (Rg.a rfl (Rg.nl (nT (?_))))
   refine Tr.seq (Tr.region (Rg.m rfl (Rg.m rfl (Rg.m rfl (Rg.o (v := elp x_v0.1 (Q5.2.2.toNat * Enc.sz Row + 0)) (q_ixH (k := Q5.2.2.toNat) Tryz.underlying43 ty58 rfl rfl h14 rfl Has.here) ?_)))))
   refine Rg.o (v := elp x_v0.1 (Q5.2.2.toNat * Enc.sz Row + 1)) (q_faH (j := 0) (i := Q5.2.2.toNat) fa58_1 rfl Has.here rfl) (Rg.en (e_stH (v := .int .i64 (Q5.2.1 + 1)) (i := Q5.2.2.toNat) (j := 1) (cs' := [.int .i64 (Q5.2.1), .int .i64 (Q5.2.1 + 1)]) ty3 rfl rfl (.cons Del.here .nil) rfl (one_of rfl) (Nat.le_of_ble_eq_true rfl) rfl rfl) rfl ?_)
   rintro _ _ _ ⟨rfl, rfl, rfl⟩
   refine Rg.nl (nT (?_))
   refine Tr.region (Rg.m rfl ?_)
   obtain ⟨h17, H1⟩ := gd.of H1
   refine Rg.p (p_add rfl rfl h17) (Rg.a rfl (Rg.nl (nB (nT (?_)))))
   refine Tr.region (Rg.m rfl ?_)
   obtain ⟨h18, H1⟩ := gd.of H1
   refine Rg.p (p_add rfl rfl h18) (Rg.a rfl (Rg.nl (At.unzoom (Q5.2.1, (Q5.2.1 + 1)) ((), ()) rfl (.cons Del.here .nil) ?_)))
   exact nLC ⟨(m12, ((Q5.1.set Q5.2.2.toNat (Q5.2.1, (Q5.2.1 + 1))), (Q5.2.1 + 1) + 1, Q5.2.2 + 1), ()), hi9 _ (Option.some.inj H1).symm⟩ (Nat.lt_succ_self _) ⟨rfl, rfl, rfl, trivial⟩ Ents.refl (.cons Del.here .nil)
  ·have H1 := cdF h13 H1
   refine tExit (xT (xT (xE (?_))))
   have hx := hb10 _ (Option.some.inj H1).symm; subst hx
   exact nMC () ⟨rfl, trivial⟩ Ents.refl (.cons Del.here .nil)
 ·intro y7
  show At _ _ [(1, .int .i64 (x1.1))] _ [tree (.slice x_v0.1 v0.length x_v0.2) x1.2] _
  refine nT (?_)
  refine Tr.seq (Tr.region (Rg.m rfl (Rg.a rfl (Rg.nl (nT (?_))))))
  refine tRet ?_
  obtain rfl := si H
  exact bk1 rfl rfl rfl rfl (.cons Del.here .nil)
noncomputable def p_laws_markRowSS_b0 (v0 : (List (List Row))) (Q5 : (List (List Row)) × Int × Int) : Option (((List (List Row)) × Int × Int) ⊕ (Int × (List (List Row)))) := cond (decide (Q5.2.2 < (v0.length : Int))) (gd (ix Q5.2.2 Q5.1.length) <| bd (p_laws_markRowS (nth Q5.1 Q5.2.2.toNat) Q5.2.1) fun r16 => gd (I64 (Q5.2.2 + 1)) <| some (.inl ((Q5.1.set Q5.2.2.toNat r16.2), r16.1, Q5.2.2 + 1))) (some (.inr (Q5.2.1, Q5.1)))
noncomputable def p_laws_markRowSS (v0 : (List (List Row))) (v1 : Int) : Option (Int × (List (List Row))) := bd (lp (p_laws_markRowSS_b0 v0) (v0, v1, 0)) fun x1 => some (x1.1, x1.2)
theorem c_laws_markRowSS {r : Int × (List (List Row))} (v0 : (List (List Row))) (x_v0 : Option Addr × Nat) (n_v0 : Nat) (e_v0 : n_v0 = v0.length) (v1 : Int) (H : p_laws_markRowSS v0 v1 = some r) : Fn' Tryz.prog 103 #[.slice x_v0.1 n_v0 x_v0.2, .int .i64 (v1)] [] [tree (.slice x_v0.1 n_v0 x_v0.2) v0] (ι := Unit) (fun _ => .int .i64 (r.1)) (fun _ => []) (fun _ => [tree (.slice x_v0.1 n_v0 x_v0.2) r.2]) := by
 subst e_v0
 refine calls_of (args := [_, _]) Tryz.func103 rfl (by kernel_rfl) Tryz.ntmps103 (by simp) fun c => ?_
 unfold p_laws_markRowSS at H
 refine Tr.seq (Tr.region (Rg.a (v := .int .i64 (0)) rfl (Rg.nl (nT (?_)))))
 refine Tr.seq (Tr.seq (Tr.region (Rg.a (v := .int .i64 (0)) rfl (Rg.nl (nT (?_))))))
 obtain ⟨x1, hx2, H⟩ := bd.of H
 obtain ⟨n3, hx2⟩ := lp.of hx2
 refine tMidNC (ι := Unit) (fun ψ => [(1, .int .i64 (x1.1))]) (fun ψ => [tree (.slice x_v0.1 v0.length x_v0.2) x1.2]) ?_ ?_
 ·refine Tr.block (tLoopC (ι := { q : Nat × ((List (List Row)) × Int × Int) × Unit // itr (p_laws_markRowSS_b0 v0) q.1 q.2.1 = some x1 }) (fun ζ => [(0, .slice x_v0.1 v0.length x_v0.2), (1, .int .i64 (ζ.1.2.1.2.1)), (5, .int .i64 (ζ.1.2.1.2.2))]) (fun ζ => [tree (.slice x_v0.1 v0.length x_v0.2) ζ.1.2.1.1]) (fun ζ => ζ.1.1) ⟨(n3, (v0, v1, 0), ()), hx2⟩ ⟨rfl, rfl, rfl, trivial⟩ (.cons Del.here .nil) ?_)
  rintro ⟨⟨m4, Q5, z6⟩, hk11⟩
  obtain ⟨m12, t8, e, H1, hi9, hb10⟩ := itr.of (n := m4) (s := Q5) hk11
  subst e; unfold p_laws_markRowSS_b0 at H1
  show Tr _ _ _ _ _ [(0, .slice x_v0.1 v0.length x_v0.2), (1, .int .i64 (Q5.2.1)), (5, .int .i64 (Q5.2.2))] _ [tree (.slice x_v0.1 v0.length x_v0.2) Q5.1]
  refine Tr.seq (Tr.seq (Tr.region (Rg.m rfl (Rg.m rfl (Rg.p (p_len 43 Tryz.underlying70 rfl) ?_)))))
  refine Rg.p (p_lss rfl rfl) (Rg.nl (nT (?_)))
  refine Tr.cond (b := decide (Q5.2.2 < (v0.length : Int))) rfl (fun h13 => ?_) (fun h13 => ?_)
  ·have H1 := cdT h13 H1
   refine tSkip (nT (?_))
   refine Tr.seq (Tr.block ?_)
   obtain ⟨h14, H1⟩ := gd.of H1
   refine Tr.zoom (k := Q5.2.2.toNat) h14.lt (.cons Del.here .nil) fun x15 => ?_
   show Tr _ _ _ _ _ _ _ (hole (.slice x_v0.1 v0.length x_v0.2) Q5.1 Q5.2.2.toNat [.slice x15.1 ((nth Q5.1 Q5.2.2.toNat).length) x15.2] :: tree (.slice x15.1 ((nth Q5.1 Q5.2.2.toNat).length) x15.2) (nth Q5.1 Q5.2.2.toNat) :: _)
   refine Tr.region (Rg.m rfl (Rg.m rfl (Rg.o (v := elp x_v0.1 (Q5.2.2.toNat * Enc.sz (List Row) + 0)) (q_ixH (k := Q5.2.2.toNat) Tryz.underlying70 ty43 rfl rfl h14 rfl Has.here) (Rg.o (v := .slice x15.1 ((nth Q5.1 Q5.2.2.toNat).length) x15.2) (q_ldH (i := Q5.2.2.toNat) (j := 0) ty43 rfl Has.here rfl) (Rg.m rfl ?_)))))
   obtain ⟨r16, h17, H1⟩ := bd.of H1
   refine Rg.ef (e_callM (c_laws_markRowS (nth Q5.1 Q5.2.2.toNat) x15 ((nth Q5.1 Q5.2.2.toNat).length) rfl Q5.2.1 h17) (Solo.tree Solo.nil) (fun _ => (Solo.tree Solo.nil)) rfl (.cons dl1 .nil) EntsB.nil) rfl ?_
   rintro _ _ _ ⟨u18, rfl, rfl, rfl⟩
   refine Rg.a rfl (Rg.nl (nB (nT (?_))))
   refine Tr.olen Has.here fun hn => ?_; rw [hn]
   refine Tr.region (Rg.m rfl ?_)
   obtain ⟨h19, H1⟩ := gd.of H1
   refine Rg.p (p_add rfl rfl h19) (Rg.a rfl (Rg.nl (At.unzoom r16.2 x15 rfl (.cons dl1 (.cons Del.here .nil)) ?_)))
   exact nLC ⟨(m12, ((Q5.1.set Q5.2.2.toNat r16.2), r16.1, Q5.2.2 + 1), ()), hi9 _ (Option.some.inj H1).symm⟩ (Nat.lt_succ_self _) ⟨rfl, rfl, rfl, trivial⟩ Ents.refl (.cons Del.here .nil)
  ·have H1 := cdF h13 H1
   refine tExit (xT (xT (xE (?_))))
   have hx := hb10 _ (Option.some.inj H1).symm; subst hx
   exact nMC () ⟨rfl, trivial⟩ Ents.refl (.cons Del.here .nil)
 ·intro y7
  show At _ _ [(1, .int .i64 (x1.1))] _ [tree (.slice x_v0.1 v0.length x_v0.2) x1.2] _
  refine nT (?_)
  refine Tr.seq (Tr.region (Rg.m rfl (Rg.a rfl (Rg.nl (nT (?_))))))
  refine tRet ?_
  obtain rfl := si H
  exact bk1 rfl rfl rfl rfl (.cons Del.here .nil)
noncomputable def p_laws_markPartS_b0 (v0 : (List Part)) (Q5 : (List Part) × Int × Int) : Option (((List Part) × Int × Int) ⊕ (Int × (List Part))) := cond (decide (Q5.2.2 < (v0.length : Int))) (gd (ix Q5.2.2 Q5.1.length) <| bd (p_laws_markIntS ((nth Q5.1 Q5.2.2.toNat).1) Q5.2.1) fun r16 => bd (p_laws_markRowSS ((nth Q5.1 Q5.2.2.toNat).2) r16.1) fun r19 => gd (I64 (Q5.2.2 + 1)) <| some (.inl ((Q5.1.set Q5.2.2.toNat (r16.2, r19.2)), r19.1, Q5.2.2 + 1))) (some (.inr (Q5.2.1, Q5.1)))
noncomputable def p_laws_markPartS (v0 : (List Part)) (v1 : Int) : Option (Int × (List Part)) := bd (lp (p_laws_markPartS_b0 v0) (v0, v1, 0)) fun x1 => some (x1.1, x1.2)
theorem c_laws_markPartS {r : Int × (List Part)} (v0 : (List Part)) (x_v0 : Option Addr × Nat) (n_v0 : Nat) (e_v0 : n_v0 = v0.length) (v1 : Int) (H : p_laws_markPartS v0 v1 = some r) : Fn' Tryz.prog 53 #[.slice x_v0.1 n_v0 x_v0.2, .int .i64 (v1)] [] [tree (.slice x_v0.1 n_v0 x_v0.2) v0] (ι := Unit) (fun _ => .int .i64 (r.1)) (fun _ => []) (fun _ => [tree (.slice x_v0.1 n_v0 x_v0.2) r.2]) := by
 subst e_v0
 refine calls_of (args := [_, _]) Tryz.func53 rfl (by kernel_rfl) Tryz.ntmps53 (by simp) fun c => ?_
 unfold p_laws_markPartS at H
 refine Tr.seq (Tr.region (Rg.a (v := .int .i64 (0)) rfl (Rg.nl (nT (?_)))))
 refine Tr.seq (Tr.seq (Tr.region (Rg.a (v := .int .i64 (0)) rfl (Rg.nl (nT (?_))))))
 obtain ⟨x1, hx2, H⟩ := bd.of H
 obtain ⟨n3, hx2⟩ := lp.of hx2
 refine tMidNC (ι := Unit) (fun ψ => [(1, .int .i64 (x1.1))]) (fun ψ => [tree (.slice x_v0.1 v0.length x_v0.2) x1.2]) ?_ ?_
 ·refine Tr.block (tLoopC (ι := { q : Nat × ((List Part) × Int × Int) × Unit // itr (p_laws_markPartS_b0 v0) q.1 q.2.1 = some x1 }) (fun ζ => [(0, .slice x_v0.1 v0.length x_v0.2), (1, .int .i64 (ζ.1.2.1.2.1)), (5, .int .i64 (ζ.1.2.1.2.2))]) (fun ζ => [tree (.slice x_v0.1 v0.length x_v0.2) ζ.1.2.1.1]) (fun ζ => ζ.1.1) ⟨(n3, (v0, v1, 0), ()), hx2⟩ ⟨rfl, rfl, rfl, trivial⟩ (.cons Del.here .nil) ?_)
  rintro ⟨⟨m4, Q5, z6⟩, hk11⟩
  obtain ⟨m12, t8, e, H1, hi9, hb10⟩ := itr.of (n := m4) (s := Q5) hk11
  subst e; unfold p_laws_markPartS_b0 at H1
  show Tr _ _ _ _ _ [(0, .slice x_v0.1 v0.length x_v0.2), (1, .int .i64 (Q5.2.1)), (5, .int .i64 (Q5.2.2))] _ [tree (.slice x_v0.1 v0.length x_v0.2) Q5.1]
  refine Tr.seq (Tr.seq (Tr.region (Rg.m rfl (Rg.m rfl (Rg.p (p_len 72 Tryz.underlying36 rfl) ?_)))))
  refine Rg.p (p_lss rfl rfl) (Rg.nl (nT (?_)))
  refine Tr.cond (b := decide (Q5.2.2 < (v0.length : Int))) rfl (fun h13 => ?_) (fun h13 => ?_)
  ·have H1 := cdT h13 H1
   refine tSkip (nT (?_))
   refine Tr.seq (Tr.block (Tr.seq ?_))
   obtain ⟨h14, H1⟩ := gd.of H1
   refine Tr.zoom (k := Q5.2.2.toNat) h14.lt (.cons Del.here .nil) fun x15 => ?_
   show Tr _ _ _ _ _ _ _ (hole (.slice x_v0.1 v0.length x_v0.2) Q5.1 Q5.2.2.toNat [.slice x15.1.1 (((nth Q5.1 Q5.2.2.toNat).1).length) x15.1.2, .slice x15.2.1 (((nth Q5.1 Q5.2.2.toNat).2).length) x15.2.2] :: tree (.slice x15.1.1 (((nth Q5.1 Q5.2.2.toNat).1).length) x15.1.2) ((nth Q5.1 Q5.2.2.toNat).1) :: tree (.slice x15.2.1 (((nth Q5.1 Q5.2.2.toNat).2).length) x15.2.2) ((nth Q5.1 Q5.2.2.toNat).2) :: _)
   refine Tr.region (Rg.m rfl (Rg.m rfl (Rg.o (v := elp x_v0.1 (Q5.2.2.toNat * Enc.sz Part + 0)) (q_ixH (k := Q5.2.2.toNat) Tryz.underlying36 ty72 rfl rfl h14 rfl Has.here) (Rg.o (v := elp x_v0.1 (Q5.2.2.toNat * Enc.sz Part + 0)) (q_faH (j := 0) (i := Q5.2.2.toNat) fa72_0 rfl Has.here rfl) (Rg.o (v := .slice x15.1.1 (((nth Q5.1 Q5.2.2.toNat).1).length) x15.1.2) (q_ldH (i := Q5.2.2.toNat) (j := 0) ty69 rfl Has.here rfl) ?_)))))
   refine Rg.m rfl ?_
   obtain ⟨r16, h17, H1⟩ := bd.of H1
   refine Rg.ef (e_callM (c_laws_markIntS ((nth Q5.1 Q5.2.2.toNat).1) x15.1 (((nth Q5.1 Q5.2.2.toNat).1).length) rfl Q5.2.1 h17) (Solo.tree Solo.nil) (fun _ => (Solo.tree Solo.nil)) rfl (.cons dl1 .nil) EntsB.nil) rfl ?_
   rintro _ _ _ ⟨u18, rfl, rfl, rfl⟩
   refine Rg.a rfl (Rg.nl (nT (?_)))
   refine Tr.olen Has.here fun hn => ?_; rw [hn]
   refine Tr.region (Rg.m rfl (Rg.m rfl (Rg.o (v := elp x_v0.1 (Q5.2.2.toNat * Enc.sz Part + 0)) (q_ixH (k := Q5.2.2.toNat) Tryz.underlying36 ty72 rfl rfl h14 rfl hs1) (Rg.o (v := elp x_v0.1 (Q5.2.2.toNat * Enc.sz Part + 1)) (q_faH (j := 0) (i := Q5.2.2.toNat) fa72_1 rfl hs1 rfl) (Rg.o (v := .slice x15.2.1 (((nth Q5.1 Q5.2.2.toNat).2).length) x15.2.2) (q_ldH (i := Q5.2.2.toNat) (j := 1) ty70 rfl hs1 rfl) ?_)))))
   refine Rg.m rfl ?_
   obtain ⟨r19, h20, H1⟩ := bd.of H1
   refine Rg.ef (e_callM (c_laws_markRowSS ((nth Q5.1 Q5.2.2.toNat).2) x15.2 (((nth Q5.1 Q5.2.2.toNat).2).length) rfl r16.1 h20) (Solo.tree Solo.nil) (fun _ => (Solo.tree Solo.nil)) rfl (.cons dl2 .nil) EntsB.nil) rfl ?_
   rintro _ _ _ ⟨u21, rfl, rfl, rfl⟩
   refine Rg.a rfl (Rg.nl (nB (nT (?_))))
   refine Tr.olen Has.here fun hn => ?_; rw [hn]
   refine Tr.region (Rg.m rfl ?_)
   obtain ⟨h22, H1⟩ := gd.of H1
   refine Rg.p (p_add rfl rfl h22) (Rg.a rfl (Rg.nl (At.unzoom (r16.2, r19.2) x15 rfl (.cons dl2 (.cons dl1 (.cons Del.here .nil))) ?_)))
   exact nLC ⟨(m12, ((Q5.1.set Q5.2.2.toNat (r16.2, r19.2)), r19.1, Q5.2.2 + 1), ()), hi9 _ (Option.some.inj H1).symm⟩ (Nat.lt_succ_self _) ⟨rfl, rfl, rfl, trivial⟩ Ents.refl (.cons Del.here .nil)
  ·have H1 := cdF h13 H1
   refine tExit (xT (xT (xE (?_))))
   have hx := hb10 _ (Option.some.inj H1).symm; subst hx
   exact nMC () ⟨rfl, trivial⟩ Ents.refl (.cons Del.here .nil)
 ·intro y7
  show At _ _ [(1, .int .i64 (x1.1))] _ [tree (.slice x_v0.1 v0.length x_v0.2) x1.2] _
  refine nT (?_)
  refine Tr.seq (Tr.region (Rg.m rfl (Rg.a rfl (Rg.nl (nT (?_))))))
  refine tRet ?_
  obtain rfl := si H
  exact bk1 rfl rfl rfl rfl (.cons Del.here .nil)
noncomputable def p_laws_markSampleS_b0 (v0 : (List Sample)) (Q5 : (List Sample) × Int × Int) : Option (((List Sample) × Int × Int) ⊕ (Int × (List Sample))) := cond (decide (Q5.2.2 < (v0.length : Int))) (gd (ix Q5.2.2 Q5.1.length) <| gd (I64 (Q5.2.1 + 1)) <| gd (I64 ((Q5.2.1 + 1) + 1)) <| gd (I64 (((Q5.2.1 + 1) + 1) + 1)) <| gd (I64 (Q5.2.2 + 1)) <| some (.inl ((Q5.1.set Q5.2.2.toNat (Q5.2.1, ((Q5.2.1 + 1), ((Q5.2.1 + 1) + 1)))), ((Q5.2.1 + 1) + 1) + 1, Q5.2.2 + 1))) (some (.inr (Q5.2.1, Q5.1)))
noncomputable def p_laws_markSampleS (v0 : (List Sample)) (v1 : Int) : Option (Int × (List Sample)) := bd (lp (p_laws_markSampleS_b0 v0) (v0, v1, 0)) fun x1 => some (x1.1, x1.2)
theorem c_laws_markSampleS {r : Int × (List Sample)} (v0 : (List Sample)) (x_v0 : Option Addr × Nat) (n_v0 : Nat) (e_v0 : n_v0 = v0.length) (v1 : Int) (H : p_laws_markSampleS v0 v1 = some r) : Fn' Tryz.prog 54 #[.slice x_v0.1 n_v0 x_v0.2, .int .i64 (v1)] [] [tree (.slice x_v0.1 n_v0 x_v0.2) v0] (ι := Unit) (fun _ => .int .i64 (r.1)) (fun _ => []) (fun _ => [tree (.slice x_v0.1 n_v0 x_v0.2) r.2]) := by
 subst e_v0
 refine calls_of (args := [_, _]) Tryz.func54 rfl (by kernel_rfl) Tryz.ntmps54 (by simp) fun c => ?_
 unfold p_laws_markSampleS at H
 refine Tr.seq (Tr.region (Rg.a (v := .int .i64 (0)) rfl (Rg.nl (nT (?_)))))
 refine Tr.seq (Tr.seq (Tr.region (Rg.a (v := .int .i64 (0)) rfl (Rg.nl (nT (?_))))))
 obtain ⟨x1, hx2, H⟩ := bd.of H
 obtain ⟨n3, hx2⟩ := lp.of hx2
 refine tMidNC (ι := Unit) (fun ψ => [(1, .int .i64 (x1.1))]) (fun ψ => [tree (.slice x_v0.1 v0.length x_v0.2) x1.2]) ?_ ?_
 ·refine Tr.block (tLoopC (ι := { q : Nat × ((List Sample) × Int × Int) × Unit // itr (p_laws_markSampleS_b0 v0) q.1 q.2.1 = some x1 }) (fun ζ => [(0, .slice x_v0.1 v0.length x_v0.2), (1, .int .i64 (ζ.1.2.1.2.1)), (5, .int .i64 (ζ.1.2.1.2.2))]) (fun ζ => [tree (.slice x_v0.1 v0.length x_v0.2) ζ.1.2.1.1]) (fun ζ => ζ.1.1) ⟨(n3, (v0, v1, 0), ()), hx2⟩ ⟨rfl, rfl, rfl, trivial⟩ (.cons Del.here .nil) ?_)
  rintro ⟨⟨m4, Q5, z6⟩, hk11⟩
  obtain ⟨m12, t8, e, H1, hi9, hb10⟩ := itr.of (n := m4) (s := Q5) hk11
  subst e; unfold p_laws_markSampleS_b0 at H1
  show Tr _ _ _ _ _ [(0, .slice x_v0.1 v0.length x_v0.2), (1, .int .i64 (Q5.2.1)), (5, .int .i64 (Q5.2.2))] _ [tree (.slice x_v0.1 v0.length x_v0.2) Q5.1]
  refine Tr.seq (Tr.seq (Tr.region (Rg.m rfl (Rg.m rfl (Rg.p (p_len 75 Tryz.underlying37 rfl) ?_)))))
  refine Rg.p (p_lss rfl rfl) (Rg.nl (nT (?_)))
  refine Tr.cond (b := decide (Q5.2.2 < (v0.length : Int))) rfl (fun h13 => ?_) (fun h13 => ?_)
  ·have H1 := cdT h13 H1
   refine tSkip (nT (?_))
   refine Tr.seq (Tr.block (Tr.seq ?_))
   obtain ⟨h14, H1⟩ := gd.of H1
   refine Tr.zoom (k := Q5.2.2.toNat) h14.lt (.cons Del.here .nil) fun x15 => ?_
   show Tr _ _ _ _ _ _ _ (hole (.slice x_v0.1 v0.length x_v0.2) Q5.1 Q5.2.2.toNat [.int .i64 ((nth Q5.1 Q5.2.2.toNat).1), .int .i64 (((nth Q5.1 Q5.2.2.toNat).2).1), .int .i64 (((nth Q5.1 Q5.2.2.toNat).2).2)] :: _)
   refine Tr.region (Rg.m rfl (Rg.m rfl (Rg.m rfl (Rg.o (v := elp x_v0.1 (Q5.2.2.toNat * Enc.sz Sample + 0)) (q_ixH (k := Q5.2.2.toNat) Tryz.underlying37 ty75 rfl rfl h14 rfl Has.here) (Rg.o (v := elp x_v0.1 (Q5.2.2.toNat * Enc.sz Sample + 0)) (q_faH (j := 0) (i := Q5.2.2.toNat) fa75_0 rfl Has.here rfl) ?_)))))
   refine Rg.en (e_stH (v := .int .i64 (Q5.2.1)) (i := Q5.2.2.toNat) (j := 0) (cs' := [.int .i64 (Q5.2.1), .int .i64 (((nth Q5.1 Q5.2.2.toNat).2).1), .int .i64 (((nth Q5.1 Q5.2.2.toNat).2).2)]) ty3 rfl rfl (.cons Del.here .nil) rfl (one_of rfl) (Nat.le_of_ble_eq_true rfl) rfl rfl) rfl ?_
   rintro _ _ _ ⟨rfl, rfl, rfl⟩
   refine Rg.nl (nT (?_))
   refine Tr.seq (Tr.region (Rg.m rfl ?_))
   obtain ⟨h16, H1⟩ := gd.of H1
   refine Rg.p (p_add rfl rfl h16) (Rg.a rfl (Rg.nl (nT (?_))))
   refine Tr.seq (Tr.region (Rg.m rfl (Rg.m rfl (Rg.m rfl (Rg.o (v := elp x_v0.1 (Q5.2.2.toNat * Enc.sz Sample + 0)) (q_ixH (k := Q5.2.2.toNat) Tryz.underlying37 ty75 rfl rfl h14 rfl Has.here) ?_)))))
   refine Rg.o (v := elp x_v0.1 (Q5.2.2.toNat * Enc.sz Sample + 1)) (q_faH (j := 0) (i := Q5.2.2.toNat) fa75_1 rfl Has.here rfl) (Rg.o (v := elp x_v0.1 (Q5.2.2.toNat * Enc.sz Sample + 1)) (q_faH (j := 1) (i := Q5.2.2.toNat) fa58_0 rfl Has.here rfl) (Rg.en (e_stH (v := .int .i64 (Q5.2.1 + 1)) (i := Q5.2.2.toNat) (j := 1) (cs' := [.int .i64 (Q5.2.1), .int .i64 (Q5.2.1 + 1), .int .i64 (((nth Q5.1 Q5.2.2.toNat).2).2)]) ty3 rfl rfl (.cons Del.here .nil) rfl (one_of rfl) (Nat.le_of_ble_eq_true rfl) rfl rfl) rfl ?_))
   rintro _ _ _ ⟨rfl, rfl, rfl⟩
   refine Rg.nl (nT (?_))
   refine Tr.seq (Tr.region (Rg.m rfl ?_))
   obtain ⟨h17, H1⟩ := gd.of H1
   refine Rg.p (p_add rfl rfl h17) (Rg.a rfl (Rg.nl (nT (?_))))
   refine Tr.seq (Tr.region (Rg.m rfl (Rg.m rfl (Rg.m rfl (Rg.o (v := elp x_v0.1 (Q5.2.2.toNat * Enc.sz Sample + 0)) (q_ixH (k := Q5.2.2.toNat) Tryz.underlying37 ty75 rfl rfl h14 rfl Has.here) ?_)))))
   refine Rg.o (v := elp x_v0.1 (Q5.2.2.toNat * Enc.sz Sample + 1)) (q_faH (j := 0) (i := Q5.2.2.toNat) fa75_1 rfl Has.here rfl) (Rg.o (v := elp x_v0.1 (Q5.2.2.toNat * Enc.sz Sample + 2)) (q_faH (j := 1) (i := Q5.2.2.toNat) fa58_1 rfl Has.here rfl) (Rg.en (e_stH (v := .int .i64 ((Q5.2.1 + 1) + 1)) (i := Q5.2.2.toNat) (j := 2) (cs' := [.int .i64 (Q5.2.1), .int .i64 (Q5.2.1 + 1), .int .i64 ((Q5.2.1 + 1) + 1)]) ty3 rfl rfl (.cons Del.here .nil) rfl (one_of rfl) (Nat.le_of_ble_eq_true rfl) rfl rfl) rfl ?_))
   rintro _ _ _ ⟨rfl, rfl, rfl⟩
   refine Rg.nl (nT (?_))
   refine Tr.region (Rg.m rfl ?_)
   obtain ⟨h18, H1⟩ := gd.of H1
   refine Rg.p (p_add rfl rfl h18) (Rg.a rfl (Rg.nl (nB (nT (?_)))))
   refine Tr.region (Rg.m rfl ?_)
   obtain ⟨h19, H1⟩ := gd.of H1
   refine Rg.p (p_add rfl rfl h19) (Rg.a rfl (Rg.nl (At.unzoom (Q5.2.1, ((Q5.2.1 + 1), ((Q5.2.1 + 1) + 1))) ((), ((), ())) rfl (.cons Del.here .nil) ?_)))
   exact nLC ⟨(m12, ((Q5.1.set Q5.2.2.toNat (Q5.2.1, ((Q5.2.1 + 1), ((Q5.2.1 + 1) + 1)))), ((Q5.2.1 + 1) + 1) + 1, Q5.2.2 + 1), ()), hi9 _ (Option.some.inj H1).symm⟩ (Nat.lt_succ_self _) ⟨rfl, rfl, rfl, trivial⟩ Ents.refl (.cons Del.here .nil)
  ·have H1 := cdF h13 H1
   refine tExit (xT (xT (xE (?_))))
   have hx := hb10 _ (Option.some.inj H1).symm; subst hx
   exact nMC () ⟨rfl, trivial⟩ Ents.refl (.cons Del.here .nil)
 ·intro y7
  show At _ _ [(1, .int .i64 (x1.1))] _ [tree (.slice x_v0.1 v0.length x_v0.2) x1.2] _
  refine nT (?_)
  refine Tr.seq (Tr.region (Rg.m rfl (Rg.a rfl (Rg.nl (nT (?_))))))
  refine tRet ?_
  obtain rfl := si H
  exact bk1 rfl rfl rfl rfl (.cons Del.here .nil)
noncomputable def p_laws_markStore (v0 : Store) (v1 : Int) : Option (Int × Store) := bd (p_laws_markIndex v0.1 v1) fun r2 => bd (p_laws_markPartS v0.2.1 r2.1) fun r5 => bd (p_laws_markSampleS v0.2.2 r5.1) fun r8 => some (r8.1, (r2.2, r5.2, r8.2))
theorem c_laws_markStore {r : Int × Store} (v0 : Store) (x_v0 : ((Option Addr × Nat) × (Option Addr × Nat)) × (Option Addr × Nat) × (Option Addr × Nat)) (v1 : Int) (H : p_laws_markStore v0 v1 = some r) : Fn' Tryz.prog 16 #[.agg #[.slice x_v0.1.1.1 v0.1.1.length x_v0.1.1.2, .slice x_v0.1.2.1 v0.1.2.length x_v0.1.2.2, .slice x_v0.2.1.1 v0.2.1.length x_v0.2.1.2, .slice x_v0.2.2.1 v0.2.2.length x_v0.2.2.2], .int .i64 (v1)] [] [tree (.slice x_v0.1.1.1 v0.1.1.length x_v0.1.1.2) v0.1.1, tree (.slice x_v0.1.2.1 v0.1.2.length x_v0.1.2.2) v0.1.2, tree (.slice x_v0.2.1.1 v0.2.1.length x_v0.2.1.2) v0.2.1, tree (.slice x_v0.2.2.1 v0.2.2.length x_v0.2.2.2) v0.2.2] (ι := Unit) (fun _ => .int .i64 (r.1)) (fun _ => []) (fun _ => [tree (.slice x_v0.1.1.1 v0.1.1.length x_v0.1.1.2) r.2.1.1, tree (.slice x_v0.1.2.1 v0.1.2.length x_v0.1.2.2) r.2.1.2, tree (.slice x_v0.2.1.1 v0.2.1.length x_v0.2.1.2) r.2.2.1, tree (.slice x_v0.2.2.1 v0.2.2.length x_v0.2.2.2) r.2.2.2]) := by
 refine calls_of (args := [_, _]) Tryz.func16 rfl (by kernel_rfl) Tryz.ntmps16 (by simp) fun c => ?_
 unfold p_laws_markStore at H
 refine Tr.seq (Tr.region (Rg.ef (e_box (t := 39) rfl) rfl ?_))
 rintro _ _ _ ⟨g1, rfl, rfl, rfl⟩
 refine Rg.a (v := .int .i64 (0)) rfl (Rg.nl (nT (?_)))
 refine Tr.seq (Tr.region (Rg.p (p_fabE fa39_0 rfl rfl) (Rg.o (v := .agg #[.slice x_v0.1.1.1 v0.1.1.length x_v0.1.1.2, .slice x_v0.1.2.1 v0.1.2.length x_v0.1.2.2]) (q_ldbP [.slice x_v0.1.1.1 v0.1.1.length x_v0.1.1.2, .slice x_v0.1.2.1 v0.1.2.length x_v0.1.2.2] ty35 rfl Has.here rfl rfl) (Rg.m rfl ?_))))
 obtain ⟨r2, h3, H⟩ := bd.of H
 refine Rg.ef (e_callM (c_laws_markIndex v0.1 x_v0.1 v1 h3) (Solo.tree (Solo.tree Solo.nil)) (fun _ => (Solo.tree (Solo.tree Solo.nil))) rfl (.cons dl1 (.cons dl1 .nil)) EntsB.nil) rfl ?_
 rintro _ _ _ ⟨u4, rfl, rfl, rfl⟩
 refine Rg.a rfl (Rg.nl (nT (?_)))
 refine Tr.seq (Tr.region (Rg.p (p_fabE fa39_1 rfl rfl) (Rg.o (q_ldb ty36 rfl hs2 rfl) (Rg.m rfl ?_))))
 obtain ⟨r5, h6, H⟩ := bd.of H
 refine Rg.ef (e_callM (c_laws_markPartS v0.2.1 x_v0.2.1 v0.2.1.length rfl r2.1 h6) (Solo.tree Solo.nil) (fun _ => (Solo.tree Solo.nil)) rfl (.cons dl3 .nil) EntsB.nil) rfl ?_
 rintro _ _ _ ⟨u7, rfl, rfl, rfl⟩
 refine Rg.a rfl (Rg.nl (nT (?_)))
 refine Tr.seq (Tr.region (Rg.p (p_fabE fa39_2 rfl rfl) (Rg.o (q_ldb ty37 rfl hs3 rfl) (Rg.m rfl ?_))))
 obtain ⟨r8, h9, H⟩ := bd.of H
 refine Rg.ef (e_callM (c_laws_markSampleS v0.2.2 x_v0.2.2 v0.2.2.length rfl r5.1 h9) (Solo.tree Solo.nil) (fun _ => (Solo.tree Solo.nil)) rfl (.cons dl4 .nil) EntsB.nil) rfl ?_
 rintro _ _ _ ⟨u10, rfl, rfl, rfl⟩
 refine Rg.a rfl (Rg.nl (nT (?_)))
 refine Tr.seq (Tr.region (Rg.m rfl (Rg.a rfl (Rg.nl (nT (?_))))))
 refine tRet ?_
 obtain rfl := si H
 exact bk1 rfl rfl rfl rfl (.cons dl2 (.cons dl2 (.cons dl1 (.cons Del.here .nil))))
noncomputable def p_laws_heldRowS_b0 (v0 : (List Row)) (Q5 : Int × Int) : Option ((Int × Int) ⊕ (Int ⊕ Int)) := cond (decide (Q5.2 < (v0.length : Int))) (gd (ix Q5.2 v0.length) <| cond (!decide (((nth v0 Q5.2.toNat).1) = Q5.1)) (some (.inr (.inr (-1)))) (gd (I64 (Q5.1 + 1)) <| cond (!decide (((nth v0 Q5.2.toNat).2) = (Q5.1 + 1))) (some (.inr (.inr (-1)))) (gd (I64 ((Q5.1 + 1) + 1)) <| gd (I64 (Q5.2 + 1)) <| some (.inl ((Q5.1 + 1) + 1, Q5.2 + 1))))) (some (.inr (.inl Q5.1)))
noncomputable def p_laws_heldRowS (v0 : (List Row)) (v1 : Int) : Option (Int) := bd (lp (p_laws_heldRowS_b0 v0) (v1, 0)) <| sw (fun e20 => some e20) (fun q => some q)
theorem c_laws_heldRowS {r : Int} (v0 : (List Row)) (x_v0 : Option Addr × Nat) (v1 : Int) (H : p_laws_heldRowS v0 v1 = some r) : Fn' Tryz.prog 18 #[.slice x_v0.1 v0.length x_v0.2, .int .i64 (v1)] [imm (.slice x_v0.1 v0.length x_v0.2) v0] [] (ι := Unit) (fun _ => .int .i64 (r)) (fun _ => []) (fun _ => []) := by
 refine calls_of (args := [_, _]) Tryz.func18 rfl (by kernel_rfl) Tryz.ntmps18 (by simp) fun c => ?_
 unfold p_laws_heldRowS at H
 refine Tr.seq (Tr.region (Rg.a (v := .int .i64 (0)) rfl (Rg.nl (nT (?_)))))
 refine Tr.seq (Tr.seq (Tr.region (Rg.a (v := .int .i64 (0)) rfl (Rg.nl (nT (?_))))))
 obtain ⟨x1, hx2, H⟩ := bd.of H
 obtain ⟨n3, hx2⟩ := lp.of hx2
 refine tMidNC (ι := { q : (Int) × Unit // x1 = .inl q.1 }) (fun ψ => [(1, .int .i64 (ψ.1.1))]) (fun ψ => []) ?_ ?_
 ·refine Tr.block (tLoopC (ι := { q : Nat × (Int × Int) × Unit // itr (p_laws_heldRowS_b0 v0) q.1 q.2.1 = some x1 }) (fun ζ => [(0, .slice x_v0.1 v0.length x_v0.2), (1, .int .i64 (ζ.1.2.1.1)), (5, .int .i64 (ζ.1.2.1.2))]) (fun ζ => []) (fun ζ => ζ.1.1) ⟨(n3, (v1, 0), ()), hx2⟩ ⟨rfl, rfl, rfl, trivial⟩ Take.nil ?_)
  rintro ⟨⟨m4, Q5, z6⟩, hk11⟩
  obtain ⟨m12, t8, e, H1, hi9, hb10⟩ := itr.of (n := m4) (s := Q5) hk11
  subst e; unfold p_laws_heldRowS_b0 at H1
  show Tr _ _ _ _ _ [(0, .slice x_v0.1 v0.length x_v0.2), (1, .int .i64 (Q5.1)), (5, .int .i64 (Q5.2))] _ []
  refine Tr.seq (Tr.seq (Tr.region (Rg.m rfl (Rg.m rfl (Rg.p (p_len 58 Tryz.underlying43 rfl) ?_)))))
  refine Rg.p (p_lss rfl rfl) (Rg.nl (nT (?_)))
  refine Tr.cond (b := decide (Q5.2 < (v0.length : Int))) rfl (fun h13 => ?_) (fun h13 => ?_)
  ·have H1 := cdT h13 H1
   refine tSkip (nT (?_))
   refine Tr.seq (Tr.block (Tr.seq (Tr.seq (Tr.region (Rg.m rfl ?_)))))
   refine Rg.m rfl ?_
   obtain ⟨h14, H1⟩ := gd.of H1
   refine Rg.o (q_ixg Tryz.underlying43 ty58 rfl rfl h14 rfl (EntB.flat (Ent.b Ent.z))) (Rg.o (q_faeE (j := 0) Q5.2.toNat fa58_0 rfl (EntB.flat (Ent.b Ent.z)) h14.lt rfl) (Rg.o (q_lde (i := Q5.2.toNat) (j := 0) ty3 rfl (EntB.flat (Ent.b Ent.z)) h14.lt rfl) (Rg.m rfl (Rg.p (p_neq rfl rfl) (Rg.nl ?_)))))
   refine nT (?_)
   refine Tr.cond (b := !decide (((nth v0 Q5.2.toNat).1) = Q5.1)) rfl (fun h15 => ?_) (fun h15 => ?_)
   ·have H1 := cdT h15 H1
    refine Tr.seq (Tr.region (Rg.a (v := .int .i64 (-1)) rfl (Rg.nl (nT (?_)))))
    refine tRet (rT (rB (rT (rT (rB (rT (rT (?_))))))))
    have hx := hb10 _ (Option.some.inj H1).symm; subst hx
    replace H := sw.r H
    obtain rfl := si H
    exact bk1 rfl rfl rfl rfl Take.nil
   ·have H1 := cdF h15 H1
    refine tSkip (nT (?_))
    refine Tr.seq (Tr.region (Rg.m rfl ?_))
    obtain ⟨h16, H1⟩ := gd.of H1
    refine Rg.p (p_add rfl rfl h16) (Rg.a rfl (Rg.nl (nT (?_))))
    refine Tr.seq (Tr.seq (Tr.region (Rg.m rfl (Rg.m rfl (Rg.o (q_ixg Tryz.underlying43 ty58 rfl rfl h14 rfl (EntB.flat (Ent.b Ent.z))) ?_)))))
    refine Rg.o (q_faeE (j := 0) Q5.2.toNat fa58_1 rfl (EntB.flat (Ent.b Ent.z)) h14.lt rfl) (Rg.o (q_lde (i := Q5.2.toNat) (j := 1) ty3 rfl (EntB.flat (Ent.b Ent.z)) h14.lt rfl) (Rg.m rfl (Rg.p (p_neq rfl rfl) (Rg.nl (nT (?_))))))
    refine Tr.cond (b := !decide (((nth v0 Q5.2.toNat).2) = (Q5.1 + 1))) rfl (fun h17 => ?_) (fun h17 => ?_)
    ·have H1 := cdT h17 H1
     refine Tr.seq (Tr.region (Rg.a (v := .int .i64 (-1)) rfl (Rg.nl (nT (?_)))))
     refine tRet (rT (rB (rT (rT (rB (rT (rT (?_))))))))
     have hx := hb10 _ (Option.some.inj H1).symm; subst hx
     replace H := sw.r H
     obtain rfl := si H
     exact bk1 rfl rfl rfl rfl Take.nil
    ·have H1 := cdF h17 H1
     refine tSkip (nT (?_))
     refine Tr.region (Rg.m rfl ?_)
     obtain ⟨h18, H1⟩ := gd.of H1
     refine Rg.p (p_add rfl rfl h18) (Rg.a rfl (Rg.nl (nB (nT (?_)))))
     refine Tr.region (Rg.m rfl ?_)
     obtain ⟨h19, H1⟩ := gd.of H1
     refine Rg.p (p_add rfl rfl h19) (Rg.a rfl (Rg.nl ?_))
     exact nLC ⟨(m12, ((Q5.1 + 1) + 1, Q5.2 + 1), ()), hi9 _ (Option.some.inj H1).symm⟩ (Nat.lt_succ_self _) ⟨rfl, rfl, rfl, trivial⟩ Ents.refl Take.nil
  ·have H1 := cdF h13 H1
   refine tExit (xT (xT (xE (?_))))
   exact nMC ⟨(Q5.1, ()), (hb10 _ (Option.some.inj H1).symm).symm⟩ ⟨rfl, trivial⟩ Ents.refl Take.nil
 ·rintro ⟨⟨e20, y7⟩, hx⟩; subst hx; replace H := sw.l H
  show At _ _ [(1, .int .i64 (e20))] _ [] _
  refine nT (?_)
  refine Tr.seq (Tr.region (Rg.m rfl (Rg.a rfl (Rg.nl (nT (?_))))))
  refine tRet ?_
  obtain rfl := si H
  exact bk1 rfl rfl rfl rfl Take.nil
noncomputable def p_laws_FnExactStoreRows (v0 : Store) (v1 : Int) : Option (Bool) := bd (p_laws_szStore v0 1048576) fun r5 => cond (decide (r5 < 0)) (some true) (bd (p_laws_toStore v0) fun r8 => bd (p_spec_StoreRows r8 v1) fun r11 => bd (p_impl_StoreRows r8 v1) fun r16 => bd (p_laws_eqRowS r16 r11) fun r19 => cond (!r19) (some false) (bd (p_laws_eqStore r8 r8) fun r23 => cond (!r23) (some false) (bd (p_laws_markStore r8 1) fun r26 => bd (cond (decide (r26.1 < 0)) (some (true)) (some (!r19))) fun b29 => cond (b29) (some false) (bd (p_laws_markRowS r16 1) fun r33 => bd (p_laws_heldRowS r33.2 1) fun r36 => cond (decide (r36 < 0)) (some false) (cond (!decide (r36 = r33.1)) (some false) (cond (!r19) (some false) (cond (decide (r36 < 0)) (some false) (cond (!decide (r36 = r33.1)) (some false) (some true)))))))))
theorem c_laws_FnExactStoreRows {r : Bool} (v0 : Store) (x_v0 : ((Option Addr × Nat) × (Option Addr × Nat)) × (Option Addr × Nat) × (Option Addr × Nat)) (v1 : Int) (H : p_laws_FnExactStoreRows v0 v1 = some r) : Fn' Tryz.prog 4 #[.agg #[.slice x_v0.1.1.1 v0.1.1.length x_v0.1.1.2, .slice x_v0.1.2.1 v0.1.2.length x_v0.1.2.2, .slice x_v0.2.1.1 v0.2.1.length x_v0.2.1.2, .slice x_v0.2.2.1 v0.2.2.length x_v0.2.2.2], .int .i64 (v1)] [imm (.slice x_v0.1.1.1 v0.1.1.length x_v0.1.1.2) v0.1.1, imm (.slice x_v0.1.2.1 v0.1.2.length x_v0.1.2.2) v0.1.2, imm (.slice x_v0.2.1.1 v0.2.1.length x_v0.2.1.2) v0.2.1, imm (.slice x_v0.2.2.1 v0.2.2.length x_v0.2.2.2) v0.2.2] [] (ι := Unit) (fun _ => .bool (r)) (fun _ => []) (fun _ => []) := by
 refine calls_of (args := [_, _]) Tryz.func4 rfl (by kernel_rfl) Tryz.ntmps4 (by simp) fun c => ?_
 unfold p_laws_FnExactStoreRows at H
 refine Tr.openD Ent.z fun X1 => (Tr.openD Ent.z.s.s fun X2 => (Tr.openD Ent.z.s.s.s.s fun X3 => (Tr.seq (Tr.region (Rg.ef (e_box (t := 29) rfl) rfl ?_)))))
 rintro _ _ _ ⟨g4, rfl, rfl, rfl⟩
 refine Rg.a (v := .bool (false)) rfl (Rg.nl (nT (?_)))
 refine Tr.seq (Tr.region (Rg.a (v := .int .i64 (1048576)) rfl (Rg.nl (nT (?_)))))
 refine Tr.seq (Tr.region (Rg.o (q_ldbA ty29 rfl Has.here rfl) (Rg.m (v := .int .i64 (1048576)) rfl ?_)))
 obtain ⟨r5, h6, H⟩ := bd.of H
 refine Rg.o (q_call (c_laws_szStore v0 x_v0 1048576 h6) rfl (EntsB.cons (Ent.b (Ent.dimm Ent.z.s.s)) (EntsB.cons (Ent.b (Ent.dimm Ent.z.s)) (EntsB.cons (Ent.b (Ent.dimm Ent.z)) (EntsB.cons (Ent.b Ent.z.s.s.s.s.s.s) EntsB.nil))))) (Rg.a rfl (Rg.nl (nT (?_))))
 refine Tr.seq (Tr.seq (Tr.region (Rg.m rfl (Rg.p (p_lss rfl rfl) (Rg.nl ?_)))))
 refine nT (?_)
 refine Tr.cond (b := decide (r5 < 0)) rfl (fun h7 => ?_) (fun h7 => ?_)
 ·have H := cdT h7 H
  refine Tr.seq (Tr.region (Rg.a (v := .bool (true)) rfl (Rg.nl (nT (?_)))))
  refine tRet (rT (?_))
  obtain rfl := si H
  exact bk1 rfl rfl rfl rfl Take.nil
 ·have H := cdF h7 H
  refine tSkip (nT (?_))
  refine Tr.seq (Tr.region (Rg.o (q_ldbA ty29 rfl Has.here rfl) ?_))
  obtain ⟨r8, h9, H⟩ := bd.of H
  refine Rg.ef (e_call (Fn'.frz (Fn'.frz (Fn'.frz (Fn'.frz (c_laws_toStore v0 x_v0 h9))))) rfl (Ents.cons (Ent.dimm Ent.z.s.s) (Ents.cons (Ent.dimm Ent.z.s) (Ents.cons (Ent.dimm Ent.z) (Ents.cons Ent.z.s.s.s.s.s.s Ents.nil)))) Take.nil) rfl ?_
  rintro _ _ _ ⟨x10, rfl, rfl, rfl⟩
  refine Rg.m rfl ?_
  obtain ⟨r11, h12, H⟩ := bd.of H
  refine Rg.ef (e_call (c_spec_StoreRows r8 x10 v1 h12) rfl (Ents.cons Ent.z.s.s.s (Ents.cons Ent.z.s.s (Ents.cons Ent.z.s (Ents.cons Ent.z Ents.nil)))) Take.nil) rfl ?_
  rintro _ _ _ ⟨x13, rfl, rfl, rfl⟩
  refine Rg.a rfl (Rg.nl (nT (?_)))
  refine Tr.seq (Tr.region (Rg.o (q_ldbA ty29 rfl Has.here rfl) (Rg.ef (e_callB (c_laws_toStore v0 x_v0 h9) (fun _ => (Solo.tree (Solo.tree (Solo.tree (Solo.tree Solo.nil))))) rfl (EntsB.cons (Ent.b (Ent.dimm Ent.z.s.s.s.s.s.s.s)) (EntsB.cons (Ent.b (Ent.dimm Ent.z.s.s.s.s.s.s)) (EntsB.cons (Ent.b (Ent.dimm Ent.z.s.s.s.s.s)) (EntsB.cons (Ent.b Ent.z.s.s.s.s.s.s.s.s.s.s.s) EntsB.nil))))) rfl ?_)))
  rintro _ _ _ ⟨x14, rfl, rfl, rfl⟩
  refine Rg.ef (e_alloc ty39) rfl ?_
  rintro _ _ _ ⟨g15, rfl, rfl, rfl⟩
  refine Rg.en (e_store (cs' := [.slice x14.1.1.1 r8.1.1.length x14.1.1.2, .slice x14.1.2.1 r8.1.2.length x14.1.2.2, .slice x14.2.1.1 r8.2.1.length x14.2.1.2, .slice x14.2.2.1 r8.2.2.length x14.2.2.2]) ty39 rfl rfl Upd.here rfl (one_of rfl) (Nat.le_of_ble_eq_true rfl) rfl) rfl ?_
  rintro _ _ _ ⟨rfl, rfl, rfl⟩
  refine Rg.nl (nT (?_))
  refine Tr.seq (Tr.region (Rg.o (q_ldbA ty39 rfl Has.here rfl) (Rg.m rfl ?_)))
  obtain ⟨r16, h17, H⟩ := bd.of H
  refine Rg.ef (e_callB (c_impl_StoreRows r8 x14 v1 h17) (fun _ => (Solo.tree Solo.nil)) rfl (EntsB.cons (EntB.tree hs1) (EntsB.cons (EntB.tree hs2) (EntsB.cons (EntB.tree hs3) (EntsB.cons (EntB.tree hs4) EntsB.nil))))) rfl ?_
  rintro _ _ _ ⟨x18, rfl, rfl, rfl⟩
  refine Rg.a rfl (Rg.nl (nT (?_)))
  refine Tr.seq (Tr.seq (Tr.region (Rg.m rfl (Rg.m rfl ?_))))
  obtain ⟨r19, h20, H⟩ := bd.of H
  refine Rg.o (q_call (c_laws_eqRowS r16 x18 r11 x13 h20) rfl (EntsB.cons (EntB.tree Has.here) (EntsB.cons (Ent.b Ent.z) EntsB.nil))) (Rg.p (p_not rfl) (Rg.nl (nT (?_))))
  refine Tr.cond (b := !r19) rfl (fun h21 => ?_) (fun h21 => ?_)
  ·have H := cdT h21 H
   refine Tr.seq (Tr.region (Rg.a (v := .bool (false)) rfl (Rg.nl (nT (?_)))))
   refine tRet (rT (?_))
   obtain rfl := si H
   exact bk1 rfl rfl rfl rfl Take.nil
  ·have H := cdF h21 H
   refine tSkip (nT (?_))
   refine Tr.seq (Tr.seq (tNwS [(8, .slice x18.1 r16.length x18.2), (7, .pointer (some ⟨g15, 0, none⟩)), (6, .slice x13.1 r11.length x13.2), (2, .pointer (some ⟨g4, 0, none⟩)), (1, .int .i64 (v1))] 2 [0, 1, 2, 3, 4] [2] [] Tryz.mixed (by kernel_rfl) (by decide) List.nodup_nil ⟨rfl, rfl, rfl, rfl, rfl, trivial⟩ rfl okNil (w_o rfl (fun F => (q_ldbA ty39 rfl (hs1.app F) rfl)) (w_o rfl (fun F => (q_ldbA ty29 rfl ((hs5t hs1).app F) rfl)) (w_ed rfl (by decide) rfl Rdy.nil rfl (n_callB (c_laws_toStore v0 x_v0 h9) (fun _ => (Solo.tree (Solo.tree (Solo.tree (Solo.tree Solo.nil))))) rfl (EntsB.cons (Ent.b (Ent.dimm Ent.z.s.s.s.s.s.s.s)) (EntsB.cons (Ent.b (Ent.dimm Ent.z.s.s.s.s.s.s)) (EntsB.cons (Ent.b (Ent.dimm Ent.z.s.s.s.s.s)) (EntsB.cons (Ent.b Ent.z.s.s.s.s.s.s.s.s.s.s.s) EntsB.nil))))) ?_)))))
   rintro _ _ _ ⟨x22, rfl, rfl, rfl⟩
   refine ⟨(PdOk.anc (by kernel_rfl) (PdOk.q rfl rfl (fun F => (q_ldbA ty39 rfl (hs5.app F) rfl)) PdOk.nil)), ?_⟩
   obtain ⟨r23, h24, H⟩ := bd.of H
   refine w_o rfl (fun F => (q_call (c_laws_eqStore r8 x14 r8 x22 h24) rfl (EntsB.cons (EntB.tree ((hs5t hs1).app F)) (EntsB.cons (EntB.tree ((hs5t hs2).app F)) (EntsB.cons (EntB.tree ((hs5t hs3).app F)) (EntsB.cons (EntB.tree ((hs5t hs4).app F)) (EntsB.cons (EntB.tree (Has.here.app F)) (EntsB.cons (EntB.tree (hs1.app F)) (EntsB.cons (EntB.tree (hs2.app F)) (EntsB.cons (EntB.tree (hs3.app F)) EntsB.nil)))))))))) (w_p rfl (p_not rfl) (w_nil ?_))
   show At _ _ _ _ _ _
   refine nT (?_)
   refine Tr.cond (b := !r23) rfl (fun h25 => ?_) (fun h25 => ?_)
   ·have H := cdT h25 H
    refine Tr.seq (Tr.region (Rg.a (v := .bool (false)) rfl (Rg.nl (nT (?_)))))
    refine tRet (rT (?_))
    obtain rfl := si H
    exact bk1 rfl rfl rfl rfl Take.nil
   ·have H := cdF h25 H
    refine tSkip (nT (?_))
    refine Tr.seq (Tr.region (Rg.a (v := .int .i64 (1)) rfl (Rg.nl (nT (?_)))))
    refine Tr.seq (Tr.region (Rg.o (q_ldbA ty39 rfl hs5 rfl) (Rg.m (v := .int .i64 (1)) rfl ?_)))
    obtain ⟨r26, h27, H⟩ := bd.of H
    refine Rg.ef (e_callM (c_laws_markStore r8 x14 1 h27) (Solo.tree (Solo.tree (Solo.tree (Solo.tree Solo.nil)))) (fun _ => (Solo.tree (Solo.tree (Solo.tree (Solo.tree Solo.nil))))) rfl (.cons (dl5t dl1) (.cons (dl5t dl1) (.cons (dl5t dl1) (.cons (dl5t dl1) .nil)))) EntsB.nil) rfl ?_
    rintro _ _ _ ⟨u28, rfl, rfl, rfl⟩
    refine Rg.a rfl (Rg.nl (nT (?_)))
    refine Tr.seq ?_
    refine Tr.olen Has.here fun hn => ?_; rw [hn]
    refine Tr.olen hs1 fun hn => ?_; rw [hn]
    refine Tr.olen hs2 fun hn => ?_; rw [hn]
    refine Tr.olen hs3 fun hn => ?_; rw [hn]
    refine Tr.olen hs4 fun hn => ?_; rw [hn]
    refine Tr.olen hs5 fun hn => ?_; rw [hn]
    refine Tr.olen (hs5t hs1) fun hn => ?_; rw [hn]
    refine Tr.olen (hs5t hs2) fun hn => ?_; rw [hn]
    obtain ⟨b29, j30, H⟩ := bd.of H
    refine tMid1 [(46, .bool (b29)), (8, .slice x18.1 r16.length x18.2), (6, .slice x13.1 r11.length x13.2), (2, .pointer (some ⟨g4, 0, none⟩)), (1, .int .i64 (v1))] ?_ ?_
    ·refine tLinT [(9, .int .i64 (r26.1)), (8, .slice x18.1 r16.length x18.2), (6, .slice x13.1 r11.length x13.2), (2, .pointer (some ⟨g4, 0, none⟩)), (1, .int .i64 (v1))] ⟨rfl, rfl, rfl, rfl, rfl, trivial⟩ (Lin.m rfl (Lin.p (p_lss rfl rfl) ?_))
     rcases Bool.eq_false_or_eq_true (decide (r26.1 < 0)) with h31 | h31
     ·have j30 := cdT h31 j30
      refine Lin.e_ (p_move rfl) h31 ?_
      iterate 4 refine Lin.sk rfl ?_
      refine Lin.p (v := .bool (true)) (p_pickT rfl rfl) ?_
      obtain rfl := si j30
      show At _ _ _ _ _ _
      exact n1 ⟨rfl, rfl, rfl, rfl, rfl, trivial⟩
     ·have j30 := cdF h31 j30
      refine Lin.e_ (p_move rfl) h31 (Lin.h rfl (p_move rfl) (Lin.h rfl (p_move rfl) (Lin.i rfl (q_call (c_laws_eqRowS r16 x18 r11 x13 h20) rfl (EntsB.cons (EntB.tree (hs5t hs3)) (EntsB.cons (Ent.b Ent.z) EntsB.nil))) (Lin.h rfl (p_not rfl) (Lin.p (p_pickF rfl rfl) ?_)))))
      obtain rfl := si j30
      show At _ _ _ _ _ _
      exact n1 ⟨rfl, rfl, rfl, rfl, rfl, trivial⟩
    refine Tr.cond (b := b29) rfl (fun h32 => ?_) (fun h32 => ?_)
    ·have H := cdT h32 H
     refine Tr.seq ?_
     refine Tr.olen Has.here fun hn => ?_; rw [hn]
     refine Tr.olen hs1 fun hn => ?_; rw [hn]
     refine Tr.olen hs2 fun hn => ?_; rw [hn]
     refine Tr.olen hs3 fun hn => ?_; rw [hn]
     refine Tr.olen hs4 fun hn => ?_; rw [hn]
     refine Tr.olen hs5 fun hn => ?_; rw [hn]
     refine Tr.olen (hs5t hs1) fun hn => ?_; rw [hn]
     refine Tr.olen (hs5t hs2) fun hn => ?_; rw [hn]
     refine Tr.region (Rg.a (v := .bool (false)) rfl (Rg.nl (nT (?_))))
     refine Tr.olen Has.here fun hn => ?_; rw [hn]
     refine Tr.olen hs1 fun hn => ?_; rw [hn]
     refine Tr.olen hs2 fun hn => ?_; rw [hn]
     refine Tr.olen hs3 fun hn => ?_; rw [hn]
     refine Tr.olen hs4 fun hn => ?_; rw [hn]
     refine Tr.olen hs5 fun hn => ?_; rw [hn]
     refine Tr.olen (hs5t hs1) fun hn => ?_; rw [hn]
     refine Tr.olen (hs5t hs2) fun hn => ?_; rw [hn]
     refine tRet (rT (?_))
     refine At.olen Has.here fun hn => ?_; rw [hn]
     refine At.olen hs1 fun hn => ?_; rw [hn]
     refine At.olen hs2 fun hn => ?_; rw [hn]
     refine At.olen hs3 fun hn => ?_; rw [hn]
     refine At.olen hs4 fun hn => ?_; rw [hn]
     refine At.olen hs5 fun hn => ?_; rw [hn]
     refine At.olen (hs5t hs1) fun hn => ?_; rw [hn]
     refine At.olen (hs5t hs2) fun hn => ?_; rw [hn]
     obtain rfl := si H
     exact bk1 rfl rfl rfl rfl Take.nil
    ·have H := cdF h32 H
     refine tSkip (nT (?_))
     refine Tr.seq ?_
     refine Tr.olen Has.here fun hn => ?_; rw [hn]
     refine Tr.olen hs1 fun hn => ?_; rw [hn]
     refine Tr.olen hs2 fun hn => ?_; rw [hn]
     refine Tr.olen hs3 fun hn => ?_; rw [hn]
     refine Tr.olen hs4 fun hn => ?_; rw [hn]
     refine Tr.olen hs5 fun hn => ?_; rw [hn]
     refine Tr.olen (hs5t hs1) fun hn => ?_; rw [hn]
     refine Tr.olen (hs5t hs2) fun hn => ?_; rw [hn]
     refine Tr.region (Rg.a (v := .int .i64 (1)) rfl (Rg.nl (nT (?_))))
     refine Tr.seq ?_
     refine Tr.olen Has.here fun hn => ?_; rw [hn]
     refine Tr.olen hs1 fun hn => ?_; rw [hn]
     refine Tr.olen hs2 fun hn => ?_; rw [hn]
     refine Tr.olen hs3 fun hn => ?_; rw [hn]
     refine Tr.olen hs4 fun hn => ?_; rw [hn]
     refine Tr.olen hs5 fun hn => ?_; rw [hn]
     refine Tr.olen (hs5t hs1) fun hn => ?_; rw [hn]
     refine Tr.olen (hs5t hs2) fun hn => ?_; rw [hn]
     refine Tr.region (Rg.m rfl (Rg.m (v := .int .i64 (1)) rfl ?_))
     obtain ⟨r33, h34, H⟩ := bd.of H
     refine Rg.ef (e_callM (c_laws_markRowS r16 x18 r16.length rfl 1 h34) (Solo.tree Solo.nil) (fun _ => (Solo.tree Solo.nil)) rfl (.cons (dl5t dl3) .nil) EntsB.nil) rfl ?_
     rintro _ _ _ ⟨u35, rfl, rfl, rfl⟩
     refine Rg.a rfl (Rg.nl (nT (?_)))
     refine Tr.seq ?_
     refine Tr.olen Has.here fun hn => ?_; rw [hn]
     refine Tr.olen hs1 fun hn => ?_; rw [hn]
     refine Tr.olen hs2 fun hn => ?_; rw [hn]
     refine Tr.olen hs3 fun hn => ?_; rw [hn]
     refine Tr.olen hs4 fun hn => ?_; rw [hn]
     refine Tr.olen hs5 fun hn => ?_; rw [hn]
     refine Tr.olen (hs5t hs1) fun hn => ?_; rw [hn]
     refine Tr.olen (hs5t hs2) fun hn => ?_; rw [hn]
     refine Tr.olen (hs5t hs3) fun hn => ?_; rw [hn]
     refine Tr.region (Rg.a (v := .int .i64 (1)) rfl (Rg.nl (nT (?_))))
     refine Tr.seq ?_
     refine Tr.olen hs1 fun hn => ?_; rw [hn]
     refine Tr.olen hs2 fun hn => ?_; rw [hn]
     refine Tr.olen hs3 fun hn => ?_; rw [hn]
     refine Tr.olen hs4 fun hn => ?_; rw [hn]
     refine Tr.olen hs5 fun hn => ?_; rw [hn]
     refine Tr.olen (hs5t hs1) fun hn => ?_; rw [hn]
     refine Tr.olen (hs5t hs2) fun hn => ?_; rw [hn]
     refine Tr.olen (hs5t hs3) fun hn => ?_; rw [hn]
     refine Tr.region (Rg.m rfl (Rg.m (v := .int .i64 (1)) rfl ?_))
     obtain ⟨r36, h37, H⟩ := bd.of H
     refine Rg.o (q_call (c_laws_heldRowS r33.2 x18 1 h37) rfl (EntsB.cons (EntB.tree Has.here) EntsB.nil)) (Rg.a rfl (Rg.nl (nT (?_))))
     refine Tr.seq (Tr.seq ?_)
     refine Tr.olen hs1 fun hn => ?_; rw [hn]
     refine Tr.olen hs2 fun hn => ?_; rw [hn]
     refine Tr.olen hs3 fun hn => ?_; rw [hn]
     refine Tr.olen hs4 fun hn => ?_; rw [hn]
     refine Tr.olen hs5 fun hn => ?_; rw [hn]
     refine Tr.olen (hs5t hs1) fun hn => ?_; rw [hn]
     refine Tr.olen (hs5t hs2) fun hn => ?_; rw [hn]
     refine Tr.olen (hs5t hs3) fun hn => ?_; rw [hn]
     refine Tr.region (Rg.m rfl (Rg.p (p_lss rfl rfl) (Rg.nl (nT (?_)))))
     refine Tr.cond (b := decide (r36 < 0)) rfl (fun h38 => ?_) (fun h38 => ?_)
     ·have H := cdT h38 H
      refine Tr.seq ?_
      refine Tr.olen hs1 fun hn => ?_; rw [hn]
      refine Tr.olen hs2 fun hn => ?_; rw [hn]
      refine Tr.olen hs3 fun hn => ?_; rw [hn]
      refine Tr.olen hs4 fun hn => ?_; rw [hn]
      refine Tr.olen hs5 fun hn => ?_; rw [hn]
      refine Tr.olen (hs5t hs1) fun hn => ?_; rw [hn]
      refine Tr.olen (hs5t hs2) fun hn => ?_; rw [hn]
      refine Tr.olen (hs5t hs3) fun hn => ?_; rw [hn]
      refine Tr.region (Rg.a (v := .bool (false)) rfl (Rg.nl (nT (?_))))
      refine Tr.olen hs1 fun hn => ?_; rw [hn]
      refine Tr.olen hs2 fun hn => ?_; rw [hn]
      refine Tr.olen hs3 fun hn => ?_; rw [hn]
      refine Tr.olen hs4 fun hn => ?_; rw [hn]
      refine Tr.olen hs5 fun hn => ?_; rw [hn]
      refine Tr.olen (hs5t hs1) fun hn => ?_; rw [hn]
      refine Tr.olen (hs5t hs2) fun hn => ?_; rw [hn]
      refine Tr.olen (hs5t hs3) fun hn => ?_; rw [hn]
      refine tRet (rT (?_))
      refine At.olen hs1 fun hn => ?_; rw [hn]
      refine At.olen hs2 fun hn => ?_; rw [hn]
      refine At.olen hs3 fun hn => ?_; rw [hn]
      refine At.olen hs4 fun hn => ?_; rw [hn]
      refine At.olen hs5 fun hn => ?_; rw [hn]
      refine At.olen (hs5t hs1) fun hn => ?_; rw [hn]
      refine At.olen (hs5t hs2) fun hn => ?_; rw [hn]
      refine At.olen (hs5t hs3) fun hn => ?_; rw [hn]
      obtain rfl := si H
      exact bk1 rfl rfl rfl rfl Take.nil
     ·have H := cdF h38 H
      refine tSkip (nT (?_))
      refine Tr.seq (Tr.seq ?_)
      refine Tr.olen hs1 fun hn => ?_; rw [hn]
      refine Tr.olen hs2 fun hn => ?_; rw [hn]
      refine Tr.olen hs3 fun hn => ?_; rw [hn]
      refine Tr.olen hs4 fun hn => ?_; rw [hn]
      refine Tr.olen hs5 fun hn => ?_; rw [hn]
      refine Tr.olen (hs5t hs1) fun hn => ?_; rw [hn]
      refine Tr.olen (hs5t hs2) fun hn => ?_; rw [hn]
      refine Tr.olen (hs5t hs3) fun hn => ?_; rw [hn]
      refine Tr.region (Rg.m rfl (Rg.m rfl (Rg.p (p_neq rfl rfl) (Rg.nl (nT (?_))))))
      refine Tr.cond (b := !decide (r36 = r33.1)) rfl (fun h39 => ?_) (fun h39 => ?_)
      ·have H := cdT h39 H
       refine Tr.seq ?_
       refine Tr.olen hs1 fun hn => ?_; rw [hn]
       refine Tr.olen hs2 fun hn => ?_; rw [hn]
       refine Tr.olen hs3 fun hn => ?_; rw [hn]
       refine Tr.olen hs4 fun hn => ?_; rw [hn]
       refine Tr.olen hs5 fun hn => ?_; rw [hn]
       refine Tr.olen (hs5t hs1) fun hn => ?_; rw [hn]
       refine Tr.olen (hs5t hs2) fun hn => ?_; rw [hn]
       refine Tr.olen (hs5t hs3) fun hn => ?_; rw [hn]
       refine Tr.region (Rg.a (v := .bool (false)) rfl (Rg.nl (nT (?_))))
       refine Tr.olen hs1 fun hn => ?_; rw [hn]
       refine Tr.olen hs2 fun hn => ?_; rw [hn]
       refine Tr.olen hs3 fun hn => ?_; rw [hn]
       refine Tr.olen hs4 fun hn => ?_; rw [hn]
       refine Tr.olen hs5 fun hn => ?_; rw [hn]
       refine Tr.olen (hs5t hs1) fun hn => ?_; rw [hn]
       refine Tr.olen (hs5t hs2) fun hn => ?_; rw [hn]
       refine Tr.olen (hs5t hs3) fun hn => ?_; rw [hn]
       refine tRet (rT (?_))
       refine At.olen hs1 fun hn => ?_; rw [hn]
       refine At.olen hs2 fun hn => ?_; rw [hn]
       refine At.olen hs3 fun hn => ?_; rw [hn]
       refine At.olen hs4 fun hn => ?_; rw [hn]
       refine At.olen hs5 fun hn => ?_; rw [hn]
       refine At.olen (hs5t hs1) fun hn => ?_; rw [hn]
       refine At.olen (hs5t hs2) fun hn => ?_; rw [hn]
       refine At.olen (hs5t hs3) fun hn => ?_; rw [hn]
       obtain rfl := si H
       exact bk1 rfl rfl rfl rfl Take.nil
      ·have H := cdF h39 H
       refine tSkip (nT (?_))
       refine Tr.seq ?_
       refine Tr.olen hs1 fun hn => ?_; rw [hn]
       refine Tr.olen hs2 fun hn => ?_; rw [hn]
       refine Tr.olen hs3 fun hn => ?_; rw [hn]
       refine Tr.olen hs4 fun hn => ?_; rw [hn]
       refine Tr.olen hs5 fun hn => ?_; rw [hn]
       refine Tr.olen (hs5t hs1) fun hn => ?_; rw [hn]
       refine Tr.olen (hs5t hs2) fun hn => ?_; rw [hn]
       refine Tr.olen (hs5t hs3) fun hn => ?_; rw [hn]
       refine Tr.region (Rg.o (q_ldbA ty29 rfl (hs5t hs5) rfl) (Rg.ef (e_callB (c_laws_toStore v0 x_v0 h9) (fun _ => (Solo.tree (Solo.tree (Solo.tree (Solo.tree Solo.nil))))) rfl (EntsB.cons (Ent.b (Ent.dimm Ent.z.s.s.s.s.s.s.s)) (EntsB.cons (Ent.b (Ent.dimm Ent.z.s.s.s.s.s.s)) (EntsB.cons (Ent.b (Ent.dimm Ent.z.s.s.s.s.s)) (EntsB.cons (Ent.b Ent.z.s.s.s.s.s.s.s.s.s.s.s) EntsB.nil))))) rfl ?_))
       rintro _ _ _ ⟨x40, rfl, rfl, rfl⟩
       refine Rg.m rfl (Rg.ef (e_callB (c_impl_StoreRows r8 x40 v1 h17) (fun _ => (Solo.tree Solo.nil)) rfl (EntsB.cons (EntB.tree Has.here) (EntsB.cons (EntB.tree hs1) (EntsB.cons (EntB.tree hs2) (EntsB.cons (EntB.tree hs3) EntsB.nil))))) rfl ?_)
       rintro _ _ _ ⟨x41, rfl, rfl, rfl⟩
       refine Rg.a rfl (Rg.nl (nT (?_)))
       refine Tr.seq (Tr.seq ?_)
       refine Tr.olen (hs5t hs1) fun hn => ?_; rw [hn]
       refine Tr.olen (hs5t hs2) fun hn => ?_; rw [hn]
       refine Tr.olen (hs5t hs3) fun hn => ?_; rw [hn]
       refine Tr.olen (hs5t hs4) fun hn => ?_; rw [hn]
       refine Tr.olen (hs5t hs5) fun hn => ?_; rw [hn]
       refine Tr.olen (hs5t (hs5t hs1)) fun hn => ?_; rw [hn]
       refine Tr.olen (hs5t (hs5t hs2)) fun hn => ?_; rw [hn]
       refine Tr.olen (hs5t (hs5t hs3)) fun hn => ?_; rw [hn]
       refine Tr.region (Rg.m rfl (Rg.m rfl (Rg.o (q_call (c_laws_eqRowS r16 x41 r11 x13 h20) rfl (EntsB.cons (EntB.tree Has.here) (EntsB.cons (Ent.b Ent.z) EntsB.nil))) (Rg.p (p_not rfl) (Rg.nl ?_)))))
       refine nT (?_)
       refine Tr.cond (b := !r19) rfl (fun h42 => ?_) (fun h42 => ?_)
       ·have H := cdT h42 H
        refine Tr.seq ?_
        refine Tr.olen (hs5t hs1) fun hn => ?_; rw [hn]
        refine Tr.olen (hs5t hs2) fun hn => ?_; rw [hn]
        refine Tr.olen (hs5t hs3) fun hn => ?_; rw [hn]
        refine Tr.olen (hs5t hs4) fun hn => ?_; rw [hn]
        refine Tr.olen (hs5t hs5) fun hn => ?_; rw [hn]
        refine Tr.olen (hs5t (hs5t hs1)) fun hn => ?_; rw [hn]
        refine Tr.olen (hs5t (hs5t hs2)) fun hn => ?_; rw [hn]
        refine Tr.olen (hs5t (hs5t hs3)) fun hn => ?_; rw [hn]
        refine Tr.region (Rg.a (v := .bool (false)) rfl (Rg.nl (nT (?_))))
        refine Tr.olen (hs5t hs1) fun hn => ?_; rw [hn]
        refine Tr.olen (hs5t hs2) fun hn => ?_; rw [hn]
        refine Tr.olen (hs5t hs3) fun hn => ?_; rw [hn]
        refine Tr.olen (hs5t hs4) fun hn => ?_; rw [hn]
        refine Tr.olen (hs5t hs5) fun hn => ?_; rw [hn]
        refine Tr.olen (hs5t (hs5t hs1)) fun hn => ?_; rw [hn]
        refine Tr.olen (hs5t (hs5t hs2)) fun hn => ?_; rw [hn]
        refine Tr.olen (hs5t (hs5t hs3)) fun hn => ?_; rw [hn]
        refine tRet (rT (?_))
        refine At.olen (hs5t hs1) fun hn => ?_; rw [hn]
        refine At.olen (hs5t hs2) fun hn => ?_; rw [hn]
        refine At.olen (hs5t hs3) fun hn => ?_; rw [hn]
        refine At.olen (hs5t hs4) fun hn => ?_; rw [hn]
        refine At.olen (hs5t hs5) fun hn => ?_; rw [hn]
        refine At.olen (hs5t (hs5t hs1)) fun hn => ?_; rw [hn]
        refine At.olen (hs5t (hs5t hs2)) fun hn => ?_; rw [hn]
        refine At.olen (hs5t (hs5t hs3)) fun hn => ?_; rw [hn]
        obtain rfl := si H
        exact bk1 rfl rfl rfl rfl Take.nil
       ·have H := cdF h42 H
        refine tSkip (nT (?_))
        refine Tr.seq ?_
        refine Tr.olen (hs5t hs1) fun hn => ?_; rw [hn]
        refine Tr.olen (hs5t hs2) fun hn => ?_; rw [hn]
        refine Tr.olen (hs5t hs3) fun hn => ?_; rw [hn]
        refine Tr.olen (hs5t hs4) fun hn => ?_; rw [hn]
        refine Tr.olen (hs5t hs5) fun hn => ?_; rw [hn]
        refine Tr.olen (hs5t (hs5t hs1)) fun hn => ?_; rw [hn]
        refine Tr.olen (hs5t (hs5t hs2)) fun hn => ?_; rw [hn]
        refine Tr.olen (hs5t (hs5t hs3)) fun hn => ?_; rw [hn]
        refine Tr.region (Rg.a (v := .int .i64 (1)) rfl (Rg.nl (nT (?_))))
        refine Tr.seq ?_
        refine Tr.olen (hs5t hs1) fun hn => ?_; rw [hn]
        refine Tr.olen (hs5t hs2) fun hn => ?_; rw [hn]
        refine Tr.olen (hs5t hs3) fun hn => ?_; rw [hn]
        refine Tr.olen (hs5t hs4) fun hn => ?_; rw [hn]
        refine Tr.olen (hs5t hs5) fun hn => ?_; rw [hn]
        refine Tr.olen (hs5t (hs5t hs1)) fun hn => ?_; rw [hn]
        refine Tr.olen (hs5t (hs5t hs2)) fun hn => ?_; rw [hn]
        refine Tr.olen (hs5t (hs5t hs3)) fun hn => ?_; rw [hn]
        refine Tr.region (Rg.m rfl (Rg.m (v := .int .i64 (1)) rfl (Rg.o (q_call (c_laws_heldRowS r33.2 x18 1 h37) rfl (EntsB.cons (EntB.tree hs5) EntsB.nil)) (Rg.a rfl (Rg.nl ?_)))))
        refine nT (?_)
        refine Tr.seq (Tr.seq ?_)
        refine Tr.olen (hs5t hs1) fun hn => ?_; rw [hn]
        refine Tr.olen (hs5t hs2) fun hn => ?_; rw [hn]
        refine Tr.olen (hs5t hs3) fun hn => ?_; rw [hn]
        refine Tr.olen (hs5t hs4) fun hn => ?_; rw [hn]
        refine Tr.olen (hs5t hs5) fun hn => ?_; rw [hn]
        refine Tr.olen (hs5t (hs5t hs1)) fun hn => ?_; rw [hn]
        refine Tr.olen (hs5t (hs5t hs2)) fun hn => ?_; rw [hn]
        refine Tr.olen (hs5t (hs5t hs3)) fun hn => ?_; rw [hn]
        refine Tr.region (Rg.m rfl (Rg.p (p_lss rfl rfl) (Rg.nl (nT (?_)))))
        refine Tr.cond (b := decide (r36 < 0)) rfl (fun h43 => ?_) (fun h43 => ?_)
        ·have H := cdT h43 H
         refine Tr.seq ?_
         refine Tr.olen (hs5t hs1) fun hn => ?_; rw [hn]
         refine Tr.olen (hs5t hs2) fun hn => ?_; rw [hn]
         refine Tr.olen (hs5t hs3) fun hn => ?_; rw [hn]
         refine Tr.olen (hs5t hs4) fun hn => ?_; rw [hn]
         refine Tr.olen (hs5t hs5) fun hn => ?_; rw [hn]
         refine Tr.olen (hs5t (hs5t hs1)) fun hn => ?_; rw [hn]
         refine Tr.olen (hs5t (hs5t hs2)) fun hn => ?_; rw [hn]
         refine Tr.olen (hs5t (hs5t hs3)) fun hn => ?_; rw [hn]
         refine Tr.region (Rg.a (v := .bool (false)) rfl (Rg.nl (nT (?_))))
         refine Tr.olen (hs5t hs1) fun hn => ?_; rw [hn]
         refine Tr.olen (hs5t hs2) fun hn => ?_; rw [hn]
         refine Tr.olen (hs5t hs3) fun hn => ?_; rw [hn]
         refine Tr.olen (hs5t hs4) fun hn => ?_; rw [hn]
         refine Tr.olen (hs5t hs5) fun hn => ?_; rw [hn]
         refine Tr.olen (hs5t (hs5t hs1)) fun hn => ?_; rw [hn]
         refine Tr.olen (hs5t (hs5t hs2)) fun hn => ?_; rw [hn]
         refine Tr.olen (hs5t (hs5t hs3)) fun hn => ?_; rw [hn]
         refine tRet (rT (?_))
         refine At.olen (hs5t hs1) fun hn => ?_; rw [hn]
         refine At.olen (hs5t hs2) fun hn => ?_; rw [hn]
         refine At.olen (hs5t hs3) fun hn => ?_; rw [hn]
         refine At.olen (hs5t hs4) fun hn => ?_; rw [hn]
         refine At.olen (hs5t hs5) fun hn => ?_; rw [hn]
         refine At.olen (hs5t (hs5t hs1)) fun hn => ?_; rw [hn]
         refine At.olen (hs5t (hs5t hs2)) fun hn => ?_; rw [hn]
         refine At.olen (hs5t (hs5t hs3)) fun hn => ?_; rw [hn]
         obtain rfl := si H
         exact bk1 rfl rfl rfl rfl Take.nil
        ·have H := cdF h43 H
         refine tSkip (nT (?_))
         refine Tr.seq (Tr.seq ?_)
         refine Tr.olen (hs5t hs1) fun hn => ?_; rw [hn]
         refine Tr.olen (hs5t hs2) fun hn => ?_; rw [hn]
         refine Tr.olen (hs5t hs3) fun hn => ?_; rw [hn]
         refine Tr.olen (hs5t hs4) fun hn => ?_; rw [hn]
         refine Tr.olen (hs5t hs5) fun hn => ?_; rw [hn]
         refine Tr.olen (hs5t (hs5t hs1)) fun hn => ?_; rw [hn]
         refine Tr.olen (hs5t (hs5t hs2)) fun hn => ?_; rw [hn]
         refine Tr.olen (hs5t (hs5t hs3)) fun hn => ?_; rw [hn]
         refine Tr.region (Rg.m rfl (Rg.m rfl (Rg.p (p_neq rfl rfl) (Rg.nl (nT (?_))))))
         refine Tr.cond (b := !decide (r36 = r33.1)) rfl (fun h44 => ?_) (fun h44 => ?_)
         ·have H := cdT h44 H
          refine Tr.seq ?_
          refine Tr.olen (hs5t hs1) fun hn => ?_; rw [hn]
          refine Tr.olen (hs5t hs2) fun hn => ?_; rw [hn]
          refine Tr.olen (hs5t hs3) fun hn => ?_; rw [hn]
          refine Tr.olen (hs5t hs4) fun hn => ?_; rw [hn]
          refine Tr.olen (hs5t hs5) fun hn => ?_; rw [hn]
          refine Tr.olen (hs5t (hs5t hs1)) fun hn => ?_; rw [hn]
          refine Tr.olen (hs5t (hs5t hs2)) fun hn => ?_; rw [hn]
          refine Tr.olen (hs5t (hs5t hs3)) fun hn => ?_; rw [hn]
          refine Tr.region (Rg.a (v := .bool (false)) rfl (Rg.nl (nT (?_))))
          refine Tr.olen (hs5t hs1) fun hn => ?_; rw [hn]
          refine Tr.olen (hs5t hs2) fun hn => ?_; rw [hn]
          refine Tr.olen (hs5t hs3) fun hn => ?_; rw [hn]
          refine Tr.olen (hs5t hs4) fun hn => ?_; rw [hn]
          refine Tr.olen (hs5t hs5) fun hn => ?_; rw [hn]
          refine Tr.olen (hs5t (hs5t hs1)) fun hn => ?_; rw [hn]
          refine Tr.olen (hs5t (hs5t hs2)) fun hn => ?_; rw [hn]
          refine Tr.olen (hs5t (hs5t hs3)) fun hn => ?_; rw [hn]
          refine tRet (rT (?_))
          refine At.olen (hs5t hs1) fun hn => ?_; rw [hn]
          refine At.olen (hs5t hs2) fun hn => ?_; rw [hn]
          refine At.olen (hs5t hs3) fun hn => ?_; rw [hn]
          refine At.olen (hs5t hs4) fun hn => ?_; rw [hn]
          refine At.olen (hs5t hs5) fun hn => ?_; rw [hn]
          refine At.olen (hs5t (hs5t hs1)) fun hn => ?_; rw [hn]
          refine At.olen (hs5t (hs5t hs2)) fun hn => ?_; rw [hn]
          refine At.olen (hs5t (hs5t hs3)) fun hn => ?_; rw [hn]
          obtain rfl := si H
          exact bk1 rfl rfl rfl rfl Take.nil
         ·have H := cdF h44 H
          refine tSkip (nT (?_))
          refine Tr.seq ?_
          refine Tr.olen (hs5t hs1) fun hn => ?_; rw [hn]
          refine Tr.olen (hs5t hs2) fun hn => ?_; rw [hn]
          refine Tr.olen (hs5t hs3) fun hn => ?_; rw [hn]
          refine Tr.olen (hs5t hs4) fun hn => ?_; rw [hn]
          refine Tr.olen (hs5t hs5) fun hn => ?_; rw [hn]
          refine Tr.olen (hs5t (hs5t hs1)) fun hn => ?_; rw [hn]
          refine Tr.olen (hs5t (hs5t hs2)) fun hn => ?_; rw [hn]
          refine Tr.olen (hs5t (hs5t hs3)) fun hn => ?_; rw [hn]
          refine Tr.region (Rg.a (v := .bool (true)) rfl (Rg.nl (nT (?_))))
          refine Tr.olen (hs5t hs1) fun hn => ?_; rw [hn]
          refine Tr.olen (hs5t hs2) fun hn => ?_; rw [hn]
          refine Tr.olen (hs5t hs3) fun hn => ?_; rw [hn]
          refine Tr.olen (hs5t hs4) fun hn => ?_; rw [hn]
          refine Tr.olen (hs5t hs5) fun hn => ?_; rw [hn]
          refine Tr.olen (hs5t (hs5t hs1)) fun hn => ?_; rw [hn]
          refine Tr.olen (hs5t (hs5t hs2)) fun hn => ?_; rw [hn]
          refine Tr.olen (hs5t (hs5t hs3)) fun hn => ?_; rw [hn]
          refine tRet ?_
          refine At.olen (hs5t hs1) fun hn => ?_; rw [hn]
          refine At.olen (hs5t hs2) fun hn => ?_; rw [hn]
          refine At.olen (hs5t hs3) fun hn => ?_; rw [hn]
          refine At.olen (hs5t hs4) fun hn => ?_; rw [hn]
          refine At.olen (hs5t hs5) fun hn => ?_; rw [hn]
          refine At.olen (hs5t (hs5t hs1)) fun hn => ?_; rw [hn]
          refine At.olen (hs5t (hs5t hs2)) fun hn => ?_; rw [hn]
          refine At.olen (hs5t (hs5t hs3)) fun hn => ?_; rw [hn]
          obtain rfl := si H
          exact bk1 rfl rfl rfl rfl Take.nil
noncomputable def p_laws_heldTagS_b0 (v0 : (List Tag)) (Q5 : Int × Int) : Option ((Int × Int) ⊕ (Int ⊕ Int)) := cond (decide (Q5.2 < (v0.length : Int))) (gd (ix Q5.2 v0.length) <| bd (p_laws_markText Q5.1) fun r15 => cond (!decide ((nth v0 Q5.2.toNat).1 = r15)) (some (.inr (.inr (-1)))) (gd (I64 (Q5.1 + 1)) <| bd (p_laws_markText (Q5.1 + 1)) fun r19 => cond (!decide ((nth v0 Q5.2.toNat).2 = r19)) (some (.inr (.inr (-1)))) (gd (I64 ((Q5.1 + 1) + 1)) <| gd (I64 (Q5.2 + 1)) <| some (.inl ((Q5.1 + 1) + 1, Q5.2 + 1))))) (some (.inr (.inl Q5.1)))
noncomputable def p_laws_heldTagS (v0 : (List Tag)) (v1 : Int) : Option (Int) := bd (lp (p_laws_heldTagS_b0 v0) (v1, 0)) <| sw (fun e24 => some e24) (fun q => some q)
noncomputable def p_laws_heldTagSS_b0 (v0 : (List (List Tag))) (Q6 : Int × Int) : Option ((Int × Int) ⊕ (Int ⊕ Int)) := cond (decide (Q6.2 < (v0.length : Int))) (gd (ix Q6.2 v0.length) <| bd (p_laws_heldTagS (nth v0 Q6.2.toNat) Q6.1) fun r16 => cond (decide (r16 < 0)) (some (.inr (.inr (-1)))) (gd (I64 (Q6.2 + 1)) <| some (.inl (r16, Q6.2 + 1)))) (some (.inr (.inl Q6.1)))
noncomputable def p_laws_heldTagSS (v0 : (List (List Tag))) (v1 : Int) : Option (Int) := bd (lp (p_laws_heldTagSS_b0 v0) (v1, 0)) <| sw (fun e20 => some e20) (fun q => some q)
noncomputable def p_laws_heldIntS_b0 (v0 : (List Int)) (Q5 : Int × Int) : Option ((Int × Int) ⊕ (Int ⊕ Int)) := cond (decide (Q5.2 < (v0.length : Int))) (gd (ix Q5.2 v0.length) <| cond (!decide ((nth v0 Q5.2.toNat) = Q5.1)) (some (.inr (.inr (-1)))) (gd (I64 (Q5.1 + 1)) <| gd (I64 (Q5.2 + 1)) <| some (.inl (Q5.1 + 1, Q5.2 + 1)))) (some (.inr (.inl Q5.1)))
noncomputable def p_laws_heldIntS (v0 : (List Int)) (v1 : Int) : Option (Int) := bd (lp (p_laws_heldIntS_b0 v0) (v1, 0)) <| sw (fun e18 => some e18) (fun q => some q)
noncomputable def p_laws_heldPostS_b0 (v0 : (List Post)) (Q6 : Int × Int) : Option ((Int × Int) ⊕ (Int ⊕ Int)) := cond (decide (Q6.2 < (v0.length : Int))) (gd (ix Q6.2 v0.length) <| bd (p_laws_markText Q6.1) fun r16 => cond (!decide (((nth v0 Q6.2.toNat).1).1 = r16)) (some (.inr (.inr (-1)))) (gd (I64 (Q6.1 + 1)) <| bd (p_laws_markText (Q6.1 + 1)) fun r20 => cond (!decide (((nth v0 Q6.2.toNat).1).2 = r20)) (some (.inr (.inr (-1)))) (gd (I64 ((Q6.1 + 1) + 1)) <| bd (p_laws_heldIntS ((nth v0 Q6.2.toNat).2) ((Q6.1 + 1) + 1)) fun r24 => cond (decide (r24 < 0)) (some (.inr (.inr (-1)))) (gd (I64 (Q6.2 + 1)) <| some (.inl (r24, Q6.2 + 1)))))) (some (.inr (.inl Q6.1)))
noncomputable def p_laws_heldPostS (v0 : (List Post)) (v1 : Int) : Option (Int) := bd (lp (p_laws_heldPostS_b0 v0) (v1, 0)) <| sw (fun e28 => some e28) (fun q => some q)
noncomputable def p_laws_heldIndex (v0 : Index) (v1 : Int) : Option (Int) := bd (p_laws_heldTagSS v0.1 v1) fun r4 => cond (decide (r4 < 0)) (some (-1)) (bd (p_laws_heldPostS v0.2 r4) fun r7 => cond (decide (r7 < 0)) (some (-1)) (some r7))
noncomputable def p_laws_heldRowSS_b0 (v0 : (List (List Row))) (Q6 : Int × Int) : Option ((Int × Int) ⊕ (Int ⊕ Int)) := cond (decide (Q6.2 < (v0.length : Int))) (gd (ix Q6.2 v0.length) <| bd (p_laws_heldRowS (nth v0 Q6.2.toNat) Q6.1) fun r16 => cond (decide (r16 < 0)) (some (.inr (.inr (-1)))) (gd (I64 (Q6.2 + 1)) <| some (.inl (r16, Q6.2 + 1)))) (some (.inr (.inl Q6.1)))
noncomputable def p_laws_heldRowSS (v0 : (List (List Row))) (v1 : Int) : Option (Int) := bd (lp (p_laws_heldRowSS_b0 v0) (v1, 0)) <| sw (fun e20 => some e20) (fun q => some q)
noncomputable def p_laws_heldPartS_b0 (v0 : (List Part)) (Q6 : Int × Int) : Option ((Int × Int) ⊕ (Int ⊕ Int)) := cond (decide (Q6.2 < (v0.length : Int))) (gd (ix Q6.2 v0.length) <| bd (p_laws_heldIntS ((nth v0 Q6.2.toNat).1) Q6.1) fun r16 => cond (decide (r16 < 0)) (some (.inr (.inr (-1)))) (bd (p_laws_heldRowSS ((nth v0 Q6.2.toNat).2) r16) fun r19 => cond (decide (r19 < 0)) (some (.inr (.inr (-1)))) (gd (I64 (Q6.2 + 1)) <| some (.inl (r19, Q6.2 + 1))))) (some (.inr (.inl Q6.1)))
noncomputable def p_laws_heldPartS (v0 : (List Part)) (v1 : Int) : Option (Int) := bd (lp (p_laws_heldPartS_b0 v0) (v1, 0)) <| sw (fun e23 => some e23) (fun q => some q)
noncomputable def p_laws_heldSampleS_b0 (v0 : (List Sample)) (Q5 : Int × Int) : Option ((Int × Int) ⊕ (Int ⊕ Int)) := cond (decide (Q5.2 < (v0.length : Int))) (gd (ix Q5.2 v0.length) <| cond (!decide (((nth v0 Q5.2.toNat).1) = Q5.1)) (some (.inr (.inr (-1)))) (gd (I64 (Q5.1 + 1)) <| cond (!decide ((((nth v0 Q5.2.toNat).2).1) = (Q5.1 + 1))) (some (.inr (.inr (-1)))) (gd (I64 ((Q5.1 + 1) + 1)) <| cond (!decide ((((nth v0 Q5.2.toNat).2).2) = ((Q5.1 + 1) + 1))) (some (.inr (.inr (-1)))) (gd (I64 (((Q5.1 + 1) + 1) + 1)) <| gd (I64 (Q5.2 + 1)) <| some (.inl (((Q5.1 + 1) + 1) + 1, Q5.2 + 1)))))) (some (.inr (.inl Q5.1)))
noncomputable def p_laws_heldSampleS (v0 : (List Sample)) (v1 : Int) : Option (Int) := bd (lp (p_laws_heldSampleS_b0 v0) (v1, 0)) <| sw (fun e22 => some e22) (fun q => some q)
noncomputable def p_laws_heldStore (v0 : Store) (v1 : Int) : Option (Int) := bd (p_laws_heldIndex v0.1 v1) fun r5 => cond (decide (r5 < 0)) (some (-1)) (bd (p_laws_heldPartS v0.2.1 r5) fun r8 => cond (decide (r8 < 0)) (some (-1)) (bd (p_laws_heldSampleS v0.2.2 r8) fun r11 => cond (decide (r11 < 0)) (some (-1)) (some r11)))
theorem mt_total (k : Int) (h0 : 0 ≤ k) (hk : k ≤ 1152921504606846976) : ∃ t, p_laws_markText k = some t := by
 unfold p_laws_markText
 by_cases hz : k ≤ 0
 ·simp [hz]
 ·simp only [hz, decide_false, cond_false]
  obtain ⟨e, he, hs⟩ := lp.rule (body := p_laws_markText_b0) (fun σ => 0 ≤ σ.1 ∧ ∃ j, j ≤ 61 ∧ σ.2.size + j ≤ 61 ∧ σ.1 < (2 : Int) ^ j) (fun σ => σ.1.toNat) (fun e => e.size ≤ 61) (fun σ hI => by
   obtain ⟨i0, j, j1, j2, j3⟩ := hI
   unfold p_laws_markText_b0
   by_cases hp : 0 < σ.1
   ·left
    have hj : 0 < j := by
     rcases Nat.eq_zero_or_pos j with rfl | h
     ·simp at j3; omega
     ·exact h
    have hpow : (2 : Int) ^ j = 2 * 2 ^ (j - 1) := by
     rw [show j = (j - 1) + 1 by omega, Int.pow_succ]; simp; omega
    have hbig : (2 : Int) ^ j ≤ 2 ^ 61 := by
     have : (2 : Nat) ^ j ≤ 2 ^ 61 := Nat.pow_le_pow_right (by decide) j1
     have h2 : ((2 ^ j : Nat) : Int) ≤ ((2 ^ 61 : Nat) : Int) := by omega
     simpa using h2
    have hm : 0 ≤ σ.1.tmod 10 ∧ σ.1.tmod 10 < 10 := by
     rw [Int.tmod_eq_emod_of_nonneg i0]; omega
    have hd : σ.1.tdiv 10 = σ.1 / 10 := Int.tdiv_eq_ediv_of_nonneg i0
    have g1 : I64 (σ.1.tmod 10) := by unfold I64; omega
    have g2 : I64 (48 + σ.1.tmod 10) := by unfold I64; omega
    have g3 : I64 (σ.1.tdiv 10) := by rw [hd]; unfold I64; omega
    have g4 : room ((s2 [b8 (48 + σ.1.tmod 10)]).size + σ.2.size) := by
     have : (s2 [b8 (48 + σ.1.tmod 10)]).size = 1 := rfl
     unfold room; omega
    refine ⟨(σ.1.tdiv 10, s2 [b8 (48 + σ.1.tmod 10)] ++ σ.2), by simp only [hp, decide_true, cond_true, gd.yes g1, gd.yes g2, gd.yes g3, gd.yes g4], ⟨by rw [hd]; show 0 ≤ σ.1 / 10; omega, j - 1, by omega, ?_, ?_⟩, ?_⟩
    ·have : (s2 [b8 (48 + σ.1.tmod 10)] ++ σ.2).size = 1 + σ.2.size := by rw [ByteArray.size_append]; rfl
     show (s2 [b8 (48 + σ.1.tmod 10)] ++ σ.2).size + (j - 1) ≤ 61
     omega
    ·show σ.1.tdiv 10 < _
     rw [hd]; omega
    ·show (σ.1.tdiv 10).toNat < σ.1.toNat
     rw [hd]; omega
   ·right
    exact ⟨σ.2, by simp [hp], by omega⟩) (s := (k, (⟨#[]⟩ : ByteArray))) ⟨h0, 61, Nat.le_refl _, Nat.le_refl _, by show k < _; omega⟩
  rw [he, bd_some]
  have : room ((⟨#[109]⟩ : ByteArray).size + e.size) := by
   have h1 : (⟨#[109]⟩ : ByteArray).size = 1 := rfl
   unfold room; omega
  rw [gd.yes this]
  exact ⟨_, rfl⟩
theorem s_Tag (a : Tag) (left : Int) (h0 : 0 ≤ left) (h1 : left ≤ 1048576) (_ : Dp.ok a) (so : So.so a) : p_laws_szTag a left = some (cut left (Wt.w a)) := by
 have hw : Wt.w a = Wt.w a.1 + (Wt.w a.2) := by
  simp only [Wt.w]
  first | done | omega
 rw [hw]; unfold p_laws_szTag
 have z0 : (a.1).size ≤ 9223372036854775807 := so.1
 have b0 : 0 ≤ left := h0; have d0 : left ≤ 1048576 := h1
 refine sz_str (by unfold I64; omega) fun c0 => ?_
 rw [show left - ((a.1).size : Int) = cut left (a.1).size from cut_pos (fun h => c0 (cut_lt.2 h))]
 have z1 : (a.2).size ≤ 9223372036854775807 := so.2
 have b1 : 0 ≤ cut left (a.1).size := (cut_nn c0); have d1 : cut left (a.1).size ≤ 1048576 := (cut_rng h1)
 exact sz_strl (by unfold I64; omega)
theorem s_TagS (a : (List Tag)) (left : Int) (h0 : 0 ≤ left) (h1 : left ≤ 1048576) (ok : Dp.ok a) (so : So.so a) : p_laws_szTagS a left = some (cut left (Wt.w a)) := by
 have hm : a.length ≤ 9223372036854775807 := ok.1
 unfold p_laws_szTagS
 refine sz_str (w2 := sumN a.length fun i => Wt.w (nth a i)) (by unfold I64; omega) fun hc => ?_
 rw [cut_lt] at hc; rw [← cut_pos hc]
 exact sz_loop (l := a) (by omega) (by omega) (fun k hk m m0 m1 => by
  unfold p_laws_szTagS_b0
  simp only [dlt hk, cond_true, gd.yes (ixN hk), Int.toNat_natCast, s_Tag (nth a k) m m0 m1 (ok.2 k hk) (so k hk), bd_some, gd.yes (i64S hk hm)]
  by_cases hc : cut m (Wt.w (nth a k)) < 0 <;> simp [hc]) (fun m => by unfold p_laws_szTagS_b0; simp)
theorem s_TagSS (a : (List (List Tag))) (left : Int) (h0 : 0 ≤ left) (h1 : left ≤ 1048576) (ok : Dp.ok a) (so : So.so a) : p_laws_szTagSS a left = some (cut left (Wt.w a)) := by
 have hm : a.length ≤ 9223372036854775807 := ok.1
 unfold p_laws_szTagSS
 refine sz_str (w2 := sumN a.length fun i => Wt.w (nth a i)) (by unfold I64; omega) fun hc => ?_
 rw [cut_lt] at hc; rw [← cut_pos hc]
 exact sz_loop (l := a) (by omega) (by omega) (fun k hk m m0 m1 => by
  unfold p_laws_szTagSS_b0
  simp only [dlt hk, cond_true, gd.yes (ixN hk), Int.toNat_natCast, s_TagS (nth a k) m m0 m1 (ok.2 k hk) (so k hk), bd_some, gd.yes (i64S hk hm)]
  by_cases hc : cut m (Wt.w (nth a k)) < 0 <;> simp [hc]) (fun m => by unfold p_laws_szTagSS_b0; simp)
theorem s_IntS (a : (List Int)) (left : Int) (h0 : 0 ≤ left) (h1 : left ≤ 1048576) (ok : Dp.ok a) : p_laws_szIntS a left = some (cut left (Wt.w a)) := by
 have hm : a.length ≤ 9223372036854775807 := ok.1
 unfold p_laws_szIntS
 have hw : Wt.w a = a.length := by show a.length + sumN a.length (fun i => Wt.w (nth a i)) = _; rw [sumN_zero (f := fun i => Wt.w (nth a i)) fun i _ => rfl]; rfl
 rw [hw]; exact sz_strl (by unfold I64; omega)
theorem s_Post (a : Post) (left : Int) (h0 : 0 ≤ left) (h1 : left ≤ 1048576) (ok : Dp.ok a) (so : So.so a) : p_laws_szPost a left = some (cut left (Wt.w a)) := by
 have hw : Wt.w a = Wt.w a.1 + (Wt.w a.2) := by
  simp only [Wt.w]
  first | done | omega
 rw [hw]; unfold p_laws_szPost
 refine sz_step (s_Tag a.1 left h0 h1 ok.1 so.1) fun c0 => ?_
 exact sz_last (s_IntS a.2 (cut left (Wt.w a.1)) (cut_nn c0) (cut_rng h1) ok.2)
theorem s_PostS (a : (List Post)) (left : Int) (h0 : 0 ≤ left) (h1 : left ≤ 1048576) (ok : Dp.ok a) (so : So.so a) : p_laws_szPostS a left = some (cut left (Wt.w a)) := by
 have hm : a.length ≤ 9223372036854775807 := ok.1
 unfold p_laws_szPostS
 refine sz_str (w2 := sumN a.length fun i => Wt.w (nth a i)) (by unfold I64; omega) fun hc => ?_
 rw [cut_lt] at hc; rw [← cut_pos hc]
 exact sz_loop (l := a) (by omega) (by omega) (fun k hk m m0 m1 => by
  unfold p_laws_szPostS_b0
  simp only [dlt hk, cond_true, gd.yes (ixN hk), Int.toNat_natCast, s_Post (nth a k) m m0 m1 (ok.2 k hk) (so k hk), bd_some, gd.yes (i64S hk hm)]
  by_cases hc : cut m (Wt.w (nth a k)) < 0 <;> simp [hc]) (fun m => by unfold p_laws_szPostS_b0; simp)
theorem s_Index (a : Index) (left : Int) (h0 : 0 ≤ left) (h1 : left ≤ 1048576) (ok : Dp.ok a) (so : So.so a) : p_laws_szIndex a left = some (cut left (Wt.w a)) := by
 have hw : Wt.w a = Wt.w a.1 + (Wt.w a.2) := by
  simp only [Wt.w]
  first | done | omega
 rw [hw]; unfold p_laws_szIndex
 refine sz_step (s_TagSS a.1 left h0 h1 ok.1 so.1) fun c0 => ?_
 exact sz_last (s_PostS a.2 (cut left (Wt.w a.1)) (cut_nn c0) (cut_rng h1) ok.2 so.2)
theorem s_RowS (a : (List Row)) (left : Int) (h0 : 0 ≤ left) (h1 : left ≤ 1048576) (ok : Dp.ok a) : p_laws_szRowS a left = some (cut left (Wt.w a)) := by
 have hm : a.length ≤ 9223372036854775807 := ok.1
 unfold p_laws_szRowS
 have hw : Wt.w a = a.length := by show a.length + sumN a.length (fun i => Wt.w (nth a i)) = _; rw [sumN_zero (f := fun i => Wt.w (nth a i)) fun i _ => rfl]; rfl
 rw [hw]; exact sz_strl (by unfold I64; omega)
theorem s_RowSS (a : (List (List Row))) (left : Int) (h0 : 0 ≤ left) (h1 : left ≤ 1048576) (ok : Dp.ok a) : p_laws_szRowSS a left = some (cut left (Wt.w a)) := by
 have hm : a.length ≤ 9223372036854775807 := ok.1
 unfold p_laws_szRowSS
 refine sz_str (w2 := sumN a.length fun i => Wt.w (nth a i)) (by unfold I64; omega) fun hc => ?_
 rw [cut_lt] at hc; rw [← cut_pos hc]
 exact sz_loop (l := a) (by omega) (by omega) (fun k hk m m0 m1 => by
  unfold p_laws_szRowSS_b0
  simp only [dlt hk, cond_true, gd.yes (ixN hk), Int.toNat_natCast, s_RowS (nth a k) m m0 m1 (ok.2 k hk), bd_some, gd.yes (i64S hk hm)]
  by_cases hc : cut m (Wt.w (nth a k)) < 0 <;> simp [hc]) (fun m => by unfold p_laws_szRowSS_b0; simp)
theorem s_Part (a : Part) (left : Int) (h0 : 0 ≤ left) (h1 : left ≤ 1048576) (ok : Dp.ok a) : p_laws_szPart a left = some (cut left (Wt.w a)) := by
 have hw : Wt.w a = Wt.w a.1 + (Wt.w a.2) := by
  simp only [Wt.w]
  first | done | omega
 rw [hw]; unfold p_laws_szPart
 refine sz_step (s_IntS a.1 left h0 h1 ok.1) fun c0 => ?_
 exact sz_last (s_RowSS a.2 (cut left (Wt.w a.1)) (cut_nn c0) (cut_rng h1) ok.2)
theorem s_PartS (a : (List Part)) (left : Int) (h0 : 0 ≤ left) (h1 : left ≤ 1048576) (ok : Dp.ok a) : p_laws_szPartS a left = some (cut left (Wt.w a)) := by
 have hm : a.length ≤ 9223372036854775807 := ok.1
 unfold p_laws_szPartS
 refine sz_str (w2 := sumN a.length fun i => Wt.w (nth a i)) (by unfold I64; omega) fun hc => ?_
 rw [cut_lt] at hc; rw [← cut_pos hc]
 exact sz_loop (l := a) (by omega) (by omega) (fun k hk m m0 m1 => by
  unfold p_laws_szPartS_b0
  simp only [dlt hk, cond_true, gd.yes (ixN hk), Int.toNat_natCast, s_Part (nth a k) m m0 m1 (ok.2 k hk), bd_some, gd.yes (i64S hk hm)]
  by_cases hc : cut m (Wt.w (nth a k)) < 0 <;> simp [hc]) (fun m => by unfold p_laws_szPartS_b0; simp)
theorem s_SampleS (a : (List Sample)) (left : Int) (h0 : 0 ≤ left) (h1 : left ≤ 1048576) (ok : Dp.ok a) : p_laws_szSampleS a left = some (cut left (Wt.w a)) := by
 have hm : a.length ≤ 9223372036854775807 := ok.1
 unfold p_laws_szSampleS
 have hw : Wt.w a = a.length := by show a.length + sumN a.length (fun i => Wt.w (nth a i)) = _; rw [sumN_zero (f := fun i => Wt.w (nth a i)) fun i _ => rfl]; rfl
 rw [hw]; exact sz_strl (by unfold I64; omega)
theorem s_Store (a : Store) (left : Int) (h0 : 0 ≤ left) (h1 : left ≤ 1048576) (ok : Dp.ok a) (so : So.so a) : p_laws_szStore a left = some (cut left (Wt.w a)) := by
 have hw : Wt.w a = Wt.w a.1 + (Wt.w a.2.1 + (Wt.w a.2.2)) := by
  simp only [Wt.w]
  first | done | omega
 rw [hw]; unfold p_laws_szStore
 refine sz_step (s_Index a.1 left h0 h1 ok.1 so.1) fun c0 => ?_
 refine sz_step (s_PartS a.2.1 (cut left (Wt.w a.1)) (cut_nn c0) (cut_rng h1) ok.2.1) fun c1 => ?_
 exact sz_last (s_SampleS a.2.2 (cut (cut left (Wt.w a.1)) (Wt.w a.2.1)) (cut_nn c1) (cut_rng (cut_rng h1)) ok.2.2)
theorem t_Tag (a : Tag) (_ : Dp.ok a) (_ : Wt.w a ≤ 1048576) : p_laws_toTag a = some a := by
 unfold p_laws_toTag
 rfl
theorem t_TagS (a : (List Tag)) (ok : Dp.ok a) (hw : Wt.w a ≤ 1048576) : p_laws_toTagS a = some a := by
 have hm : a.length ≤ 1048576 := Nat.le_trans wL_le hw
 unfold p_laws_toTagS
 rw [gd.yes (by unfold many; omega)]
 simp only [Int.toNat_natCast]
 rw [to_loop (l := a) (by simp) (fun k hk r hr => by
  unfold p_laws_toTagS_b0
  have hk2 : k < r.length := by omega
  simp only [dlt hk, cond_true, gd.yes (ixN hk), gd.yes (ixN hk2), Int.toNat_natCast, t_Tag (nth a k) (ok.2 k hk) (Nat.le_trans (wL_el hk) hw), bd_some, gd.yes (i64S hk (by omega))]
  first | done | rfl) (fun r => by unfold p_laws_toTagS_b0; simp)]
 rfl
theorem t_TagSS (a : (List (List Tag))) (ok : Dp.ok a) (hw : Wt.w a ≤ 1048576) : p_laws_toTagSS a = some a := by
 have hm : a.length ≤ 1048576 := Nat.le_trans wL_le hw
 unfold p_laws_toTagSS
 rw [gd.yes (by unfold many; omega)]
 simp only [Int.toNat_natCast]
 rw [to_loop (l := a) (by simp) (fun k hk r hr => by
  unfold p_laws_toTagSS_b0
  have hk2 : k < r.length := by omega
  simp only [dlt hk, cond_true, gd.yes (ixN hk), gd.yes (ixN hk2), Int.toNat_natCast, t_TagS (nth a k) (ok.2 k hk) (Nat.le_trans (wL_el hk) hw), bd_some, gd.yes (i64S hk (by omega))]
  first | done | rfl) (fun r => by unfold p_laws_toTagSS_b0; simp)]
 rfl
theorem t_IntS (a : (List Int)) (_ : Dp.ok a) (hw : Wt.w a ≤ 1048576) : p_laws_toIntS a = some a := by
 have hm : a.length ≤ 1048576 := Nat.le_trans wL_le hw
 unfold p_laws_toIntS
 rw [gd.yes (by unfold many; omega)]
 simp only [Int.toNat_natCast]
 rw [to_loop (l := a) (by simp) (fun k hk r hr => by
  unfold p_laws_toIntS_b0
  have hk2 : k < r.length := by omega
  simp only [dlt hk, cond_true, gd.yes (ixN hk), gd.yes (ixN hk2), Int.toNat_natCast, gd.yes (i64S hk (by omega))]
  first | done | rfl) (fun r => by unfold p_laws_toIntS_b0; simp)]
 rfl
theorem t_Post (a : Post) (ok : Dp.ok a) (hw : Wt.w a ≤ 1048576) : p_laws_toPost a = some a := by
 unfold p_laws_toPost
 simp only [t_Tag a.1 ok.1 (by simp only [Wt.w] at hw ⊢; omega), t_IntS a.2 ok.2 (by simp only [Wt.w] at hw ⊢; omega), bd_some]
theorem t_PostS (a : (List Post)) (ok : Dp.ok a) (hw : Wt.w a ≤ 1048576) : p_laws_toPostS a = some a := by
 have hm : a.length ≤ 1048576 := Nat.le_trans wL_le hw
 unfold p_laws_toPostS
 rw [gd.yes (by unfold many; omega)]
 simp only [Int.toNat_natCast]
 rw [to_loop (l := a) (by simp) (fun k hk r hr => by
  unfold p_laws_toPostS_b0
  have hk2 : k < r.length := by omega
  simp only [dlt hk, cond_true, gd.yes (ixN hk), gd.yes (ixN hk2), Int.toNat_natCast, t_Post (nth a k) (ok.2 k hk) (Nat.le_trans (wL_el hk) hw), bd_some, gd.yes (i64S hk (by omega))]
  first | done | rfl) (fun r => by unfold p_laws_toPostS_b0; simp)]
 rfl
theorem t_Index (a : Index) (ok : Dp.ok a) (hw : Wt.w a ≤ 1048576) : p_laws_toIndex a = some a := by
 unfold p_laws_toIndex
 simp only [t_TagSS a.1 ok.1 (by simp only [Wt.w] at hw ⊢; omega), t_PostS a.2 ok.2 (by simp only [Wt.w] at hw ⊢; omega), bd_some]
theorem t_Row (a : Row) (_ : Dp.ok a) (_ : Wt.w a ≤ 1048576) : p_laws_toRow a = some a := by
 unfold p_laws_toRow
 rfl
theorem t_RowS (a : (List Row)) (ok : Dp.ok a) (hw : Wt.w a ≤ 1048576) : p_laws_toRowS a = some a := by
 have hm : a.length ≤ 1048576 := Nat.le_trans wL_le hw
 unfold p_laws_toRowS
 rw [gd.yes (by unfold many; omega)]
 simp only [Int.toNat_natCast]
 rw [to_loop (l := a) (by simp) (fun k hk r hr => by
  unfold p_laws_toRowS_b0
  have hk2 : k < r.length := by omega
  simp only [dlt hk, cond_true, gd.yes (ixN hk), gd.yes (ixN hk2), Int.toNat_natCast, t_Row (nth a k) (ok.2 k hk) (Nat.le_trans (wL_el hk) hw), bd_some, gd.yes (i64S hk (by omega))]
  first | done | rfl) (fun r => by unfold p_laws_toRowS_b0; simp)]
 rfl
theorem t_RowSS (a : (List (List Row))) (ok : Dp.ok a) (hw : Wt.w a ≤ 1048576) : p_laws_toRowSS a = some a := by
 have hm : a.length ≤ 1048576 := Nat.le_trans wL_le hw
 unfold p_laws_toRowSS
 rw [gd.yes (by unfold many; omega)]
 simp only [Int.toNat_natCast]
 rw [to_loop (l := a) (by simp) (fun k hk r hr => by
  unfold p_laws_toRowSS_b0
  have hk2 : k < r.length := by omega
  simp only [dlt hk, cond_true, gd.yes (ixN hk), gd.yes (ixN hk2), Int.toNat_natCast, t_RowS (nth a k) (ok.2 k hk) (Nat.le_trans (wL_el hk) hw), bd_some, gd.yes (i64S hk (by omega))]
  first | done | rfl) (fun r => by unfold p_laws_toRowSS_b0; simp)]
 rfl
theorem t_Part (a : Part) (ok : Dp.ok a) (hw : Wt.w a ≤ 1048576) : p_laws_toPart a = some a := by
 unfold p_laws_toPart
 simp only [t_IntS a.1 ok.1 (by simp only [Wt.w] at hw ⊢; omega), t_RowSS a.2 ok.2 (by simp only [Wt.w] at hw ⊢; omega), bd_some]
theorem t_PartS (a : (List Part)) (ok : Dp.ok a) (hw : Wt.w a ≤ 1048576) : p_laws_toPartS a = some a := by
 have hm : a.length ≤ 1048576 := Nat.le_trans wL_le hw
 unfold p_laws_toPartS
 rw [gd.yes (by unfold many; omega)]
 simp only [Int.toNat_natCast]
 rw [to_loop (l := a) (by simp) (fun k hk r hr => by
  unfold p_laws_toPartS_b0
  have hk2 : k < r.length := by omega
  simp only [dlt hk, cond_true, gd.yes (ixN hk), gd.yes (ixN hk2), Int.toNat_natCast, t_Part (nth a k) (ok.2 k hk) (Nat.le_trans (wL_el hk) hw), bd_some, gd.yes (i64S hk (by omega))]
  first | done | rfl) (fun r => by unfold p_laws_toPartS_b0; simp)]
 rfl
theorem t_Sample (a : Sample) (ok : Dp.ok a) (hw : Wt.w a ≤ 1048576) : p_laws_toSample a = some a := by
 unfold p_laws_toSample
 simp only [t_Row a.2 ok.2 (by simp only [Wt.w] at hw ⊢; omega), bd_some]
theorem t_SampleS (a : (List Sample)) (ok : Dp.ok a) (hw : Wt.w a ≤ 1048576) : p_laws_toSampleS a = some a := by
 have hm : a.length ≤ 1048576 := Nat.le_trans wL_le hw
 unfold p_laws_toSampleS
 rw [gd.yes (by unfold many; omega)]
 simp only [Int.toNat_natCast]
 rw [to_loop (l := a) (by simp) (fun k hk r hr => by
  unfold p_laws_toSampleS_b0
  have hk2 : k < r.length := by omega
  simp only [dlt hk, cond_true, gd.yes (ixN hk), gd.yes (ixN hk2), Int.toNat_natCast, t_Sample (nth a k) (ok.2 k hk) (Nat.le_trans (wL_el hk) hw), bd_some, gd.yes (i64S hk (by omega))]
  first | done | rfl) (fun r => by unfold p_laws_toSampleS_b0; simp)]
 rfl
theorem t_Store (a : Store) (ok : Dp.ok a) (hw : Wt.w a ≤ 1048576) : p_laws_toStore a = some a := by
 unfold p_laws_toStore
 simp only [t_Index a.1 ok.1 (by simp only [Wt.w] at hw ⊢; omega), t_PartS a.2.1 ok.2.1 (by simp only [Wt.w] at hw ⊢; omega), t_SampleS a.2.2 ok.2.2 (by simp only [Wt.w] at hw ⊢; omega), bd_some]
theorem q_Tag (a b : Tag) (_ : Dp.ok a) (hb : Dp.ok b) : p_laws_eqTag a b = some (decide (a = b)) := by
 have he : a = b ↔ a.1 = b.1 ∧ a.2 = b.2 := by
  constructor
  ·rintro rfl; simp
  ·rintro ⟨h0, h1⟩; exact Prod.ext h0 (h1)
 unfold p_laws_eqTag
 simp only [he]
 by_cases h0 : a.1 = b.1
 ·by_cases h1 : a.2 = b.2
  ·simp [h0, h1]
  ·simp [h0, h1]
 ·simp [h0]
theorem q_TagS (a b : (List Tag)) (ha : Dp.ok a) (hb : Dp.ok b) : p_laws_eqTagS a b = some (decide (a = b)) := by
 have hm : a.length ≤ 9223372036854775807 := ha.1
 unfold p_laws_eqTagS
 by_cases hl : a.length = b.length
 ·have hl2 : (a.length : Int) = (b.length : Int) := by omega
  simp only [hl2, decide_true, Bool.not_true, cond_false]
  refine eq_loop hl (fun k hk => ?_) ?_
  ·have hk2 : k < b.length := by omega
   unfold p_laws_eqTagS_b0
   simp only [dlt hk, cond_true, gd.yes (ixN hk), gd.yes (ixN hk2), Int.toNat_natCast, q_Tag (nth a k) (nth b k) (ha.2 k hk) (hb.2 k hk2), bd_some, gd.yes (i64S hk hm)]
   by_cases h : nth a k = nth b k <;> simp [h]
  ·unfold p_laws_eqTagS_b0; simp
 ·have h2 : ¬ (a.length : Int) = (b.length : Int) := by omega
  have h3 : a ≠ b := fun e => hl (by rw [e])
  simp [h2, h3]
theorem q_TagSS (a b : (List (List Tag))) (ha : Dp.ok a) (hb : Dp.ok b) : p_laws_eqTagSS a b = some (decide (a = b)) := by
 have hm : a.length ≤ 9223372036854775807 := ha.1
 unfold p_laws_eqTagSS
 by_cases hl : a.length = b.length
 ·have hl2 : (a.length : Int) = (b.length : Int) := by omega
  simp only [hl2, decide_true, Bool.not_true, cond_false]
  refine eq_loop hl (fun k hk => ?_) ?_
  ·have hk2 : k < b.length := by omega
   unfold p_laws_eqTagSS_b0
   simp only [dlt hk, cond_true, gd.yes (ixN hk), gd.yes (ixN hk2), Int.toNat_natCast, q_TagS (nth a k) (nth b k) (ha.2 k hk) (hb.2 k hk2), bd_some, gd.yes (i64S hk hm)]
   by_cases h : nth a k = nth b k <;> simp [h]
  ·unfold p_laws_eqTagSS_b0; simp
 ·have h2 : ¬ (a.length : Int) = (b.length : Int) := by omega
  have h3 : a ≠ b := fun e => hl (by rw [e])
  simp [h2, h3]
theorem q_IntS (a b : (List Int)) (ha : Dp.ok a) (_ : Dp.ok b) : p_laws_eqIntS a b = some (decide (a = b)) := by
 have hm : a.length ≤ 9223372036854775807 := ha.1
 unfold p_laws_eqIntS
 by_cases hl : a.length = b.length
 ·have hl2 : (a.length : Int) = (b.length : Int) := by omega
  simp only [hl2, decide_true, Bool.not_true, cond_false]
  refine eq_loop hl (fun k hk => ?_) ?_
  ·have hk2 : k < b.length := by omega
   unfold p_laws_eqIntS_b0
   simp only [dlt hk, cond_true, gd.yes (ixN hk), gd.yes (ixN hk2), Int.toNat_natCast, gd.yes (i64S hk hm)]
   by_cases h : nth a k = nth b k <;> simp [h]
  ·unfold p_laws_eqIntS_b0; simp
 ·have h2 : ¬ (a.length : Int) = (b.length : Int) := by omega
  have h3 : a ≠ b := fun e => hl (by rw [e])
  simp [h2, h3]
theorem q_Post (a b : Post) (ha : Dp.ok a) (hb : Dp.ok b) : p_laws_eqPost a b = some (decide (a = b)) := by
 have he : a = b ↔ a.1 = b.1 ∧ a.2 = b.2 := by
  constructor
  ·rintro rfl; simp
  ·rintro ⟨h0, h1⟩; exact Prod.ext h0 (h1)
 unfold p_laws_eqPost
 simp only [q_Tag a.1 b.1 ha.1 hb.1, q_IntS a.2 b.2 ha.2 hb.2, bd_some, he]
 by_cases h0 : a.1 = b.1
 ·by_cases h1 : a.2 = b.2
  ·simp [h0, h1]
  ·simp [h0, h1]
 ·simp [h0]
theorem q_PostS (a b : (List Post)) (ha : Dp.ok a) (hb : Dp.ok b) : p_laws_eqPostS a b = some (decide (a = b)) := by
 have hm : a.length ≤ 9223372036854775807 := ha.1
 unfold p_laws_eqPostS
 by_cases hl : a.length = b.length
 ·have hl2 : (a.length : Int) = (b.length : Int) := by omega
  simp only [hl2, decide_true, Bool.not_true, cond_false]
  refine eq_loop hl (fun k hk => ?_) ?_
  ·have hk2 : k < b.length := by omega
   unfold p_laws_eqPostS_b0
   simp only [dlt hk, cond_true, gd.yes (ixN hk), gd.yes (ixN hk2), Int.toNat_natCast, q_Post (nth a k) (nth b k) (ha.2 k hk) (hb.2 k hk2), bd_some, gd.yes (i64S hk hm)]
   by_cases h : nth a k = nth b k <;> simp [h]
  ·unfold p_laws_eqPostS_b0; simp
 ·have h2 : ¬ (a.length : Int) = (b.length : Int) := by omega
  have h3 : a ≠ b := fun e => hl (by rw [e])
  simp [h2, h3]
theorem q_Index (a b : Index) (ha : Dp.ok a) (hb : Dp.ok b) : p_laws_eqIndex a b = some (decide (a = b)) := by
 have he : a = b ↔ a.1 = b.1 ∧ a.2 = b.2 := by
  constructor
  ·rintro rfl; simp
  ·rintro ⟨h0, h1⟩; exact Prod.ext h0 (h1)
 unfold p_laws_eqIndex
 simp only [q_TagSS a.1 b.1 ha.1 hb.1, q_PostS a.2 b.2 ha.2 hb.2, bd_some, he]
 by_cases h0 : a.1 = b.1
 ·by_cases h1 : a.2 = b.2
  ·simp [h0, h1]
  ·simp [h0, h1]
 ·simp [h0]
theorem q_Row (a b : Row) (_ : Dp.ok a) (hb : Dp.ok b) : p_laws_eqRow a b = some (decide (a = b)) := by
 have he : a = b ↔ a.1 = b.1 ∧ a.2 = b.2 := by
  constructor
  ·rintro rfl; simp
  ·rintro ⟨h0, h1⟩; exact Prod.ext h0 (h1)
 unfold p_laws_eqRow
 simp only [he]
 by_cases h0 : a.1 = b.1
 ·by_cases h1 : a.2 = b.2
  ·simp [h0, h1]
  ·simp [h0, h1]
 ·simp [h0]
theorem q_RowS (a b : (List Row)) (ha : Dp.ok a) (hb : Dp.ok b) : p_laws_eqRowS a b = some (decide (a = b)) := by
 have hm : a.length ≤ 9223372036854775807 := ha.1
 unfold p_laws_eqRowS
 by_cases hl : a.length = b.length
 ·have hl2 : (a.length : Int) = (b.length : Int) := by omega
  simp only [hl2, decide_true, Bool.not_true, cond_false]
  refine eq_loop hl (fun k hk => ?_) ?_
  ·have hk2 : k < b.length := by omega
   unfold p_laws_eqRowS_b0
   simp only [dlt hk, cond_true, gd.yes (ixN hk), gd.yes (ixN hk2), Int.toNat_natCast, q_Row (nth a k) (nth b k) (ha.2 k hk) (hb.2 k hk2), bd_some, gd.yes (i64S hk hm)]
   by_cases h : nth a k = nth b k <;> simp [h]
  ·unfold p_laws_eqRowS_b0; simp
 ·have h2 : ¬ (a.length : Int) = (b.length : Int) := by omega
  have h3 : a ≠ b := fun e => hl (by rw [e])
  simp [h2, h3]
theorem q_RowSS (a b : (List (List Row))) (ha : Dp.ok a) (hb : Dp.ok b) : p_laws_eqRowSS a b = some (decide (a = b)) := by
 have hm : a.length ≤ 9223372036854775807 := ha.1
 unfold p_laws_eqRowSS
 by_cases hl : a.length = b.length
 ·have hl2 : (a.length : Int) = (b.length : Int) := by omega
  simp only [hl2, decide_true, Bool.not_true, cond_false]
  refine eq_loop hl (fun k hk => ?_) ?_
  ·have hk2 : k < b.length := by omega
   unfold p_laws_eqRowSS_b0
   simp only [dlt hk, cond_true, gd.yes (ixN hk), gd.yes (ixN hk2), Int.toNat_natCast, q_RowS (nth a k) (nth b k) (ha.2 k hk) (hb.2 k hk2), bd_some, gd.yes (i64S hk hm)]
   by_cases h : nth a k = nth b k <;> simp [h]
  ·unfold p_laws_eqRowSS_b0; simp
 ·have h2 : ¬ (a.length : Int) = (b.length : Int) := by omega
  have h3 : a ≠ b := fun e => hl (by rw [e])
  simp [h2, h3]
theorem q_Part (a b : Part) (ha : Dp.ok a) (hb : Dp.ok b) : p_laws_eqPart a b = some (decide (a = b)) := by
 have he : a = b ↔ a.1 = b.1 ∧ a.2 = b.2 := by
  constructor
  ·rintro rfl; simp
  ·rintro ⟨h0, h1⟩; exact Prod.ext h0 (h1)
 unfold p_laws_eqPart
 simp only [q_IntS a.1 b.1 ha.1 hb.1, q_RowSS a.2 b.2 ha.2 hb.2, bd_some, he]
 by_cases h0 : a.1 = b.1
 ·by_cases h1 : a.2 = b.2
  ·simp [h0, h1]
  ·simp [h0, h1]
 ·simp [h0]
theorem q_PartS (a b : (List Part)) (ha : Dp.ok a) (hb : Dp.ok b) : p_laws_eqPartS a b = some (decide (a = b)) := by
 have hm : a.length ≤ 9223372036854775807 := ha.1
 unfold p_laws_eqPartS
 by_cases hl : a.length = b.length
 ·have hl2 : (a.length : Int) = (b.length : Int) := by omega
  simp only [hl2, decide_true, Bool.not_true, cond_false]
  refine eq_loop hl (fun k hk => ?_) ?_
  ·have hk2 : k < b.length := by omega
   unfold p_laws_eqPartS_b0
   simp only [dlt hk, cond_true, gd.yes (ixN hk), gd.yes (ixN hk2), Int.toNat_natCast, q_Part (nth a k) (nth b k) (ha.2 k hk) (hb.2 k hk2), bd_some, gd.yes (i64S hk hm)]
   by_cases h : nth a k = nth b k <;> simp [h]
  ·unfold p_laws_eqPartS_b0; simp
 ·have h2 : ¬ (a.length : Int) = (b.length : Int) := by omega
  have h3 : a ≠ b := fun e => hl (by rw [e])
  simp [h2, h3]
theorem q_Sample (a b : Sample) (ha : Dp.ok a) (hb : Dp.ok b) : p_laws_eqSample a b = some (decide (a = b)) := by
 have he : a = b ↔ a.1 = b.1 ∧ a.2 = b.2 := by
  constructor
  ·rintro rfl; simp
  ·rintro ⟨h0, h1⟩; exact Prod.ext h0 (h1)
 unfold p_laws_eqSample
 simp only [q_Row a.2 b.2 ha.2 hb.2, bd_some, he]
 by_cases h0 : a.1 = b.1
 ·by_cases h1 : a.2 = b.2
  ·simp [h0, h1]
  ·simp [h0, h1]
 ·simp [h0]
theorem q_SampleS (a b : (List Sample)) (ha : Dp.ok a) (hb : Dp.ok b) : p_laws_eqSampleS a b = some (decide (a = b)) := by
 have hm : a.length ≤ 9223372036854775807 := ha.1
 unfold p_laws_eqSampleS
 by_cases hl : a.length = b.length
 ·have hl2 : (a.length : Int) = (b.length : Int) := by omega
  simp only [hl2, decide_true, Bool.not_true, cond_false]
  refine eq_loop hl (fun k hk => ?_) ?_
  ·have hk2 : k < b.length := by omega
   unfold p_laws_eqSampleS_b0
   simp only [dlt hk, cond_true, gd.yes (ixN hk), gd.yes (ixN hk2), Int.toNat_natCast, q_Sample (nth a k) (nth b k) (ha.2 k hk) (hb.2 k hk2), bd_some, gd.yes (i64S hk hm)]
   by_cases h : nth a k = nth b k <;> simp [h]
  ·unfold p_laws_eqSampleS_b0; simp
 ·have h2 : ¬ (a.length : Int) = (b.length : Int) := by omega
  have h3 : a ≠ b := fun e => hl (by rw [e])
  simp [h2, h3]
theorem q_Store (a b : Store) (ha : Dp.ok a) (hb : Dp.ok b) : p_laws_eqStore a b = some (decide (a = b)) := by
 have he : a = b ↔ a.1 = b.1 ∧ a.2.1 = b.2.1 ∧ a.2.2 = b.2.2 := by
  constructor
  ·rintro rfl; simp
  ·rintro ⟨h0, h1, h2⟩; exact Prod.ext h0 (Prod.ext h1 (h2))
 unfold p_laws_eqStore
 simp only [q_Index a.1 b.1 ha.1 hb.1, q_PartS a.2.1 b.2.1 ha.2.1 hb.2.1, q_SampleS a.2.2 b.2.2 ha.2.2 hb.2.2, bd_some, he]
 by_cases h0 : a.1 = b.1
 ·by_cases h1 : a.2.1 = b.2.1
  ·by_cases h2 : a.2.2 = b.2.2
   ·simp [h0, h1, h2]
   ·simp [h0, h1, h2]
  ·simp [h0, h1]
 ·simp [h0]
theorem m_TagS (a : (List Tag)) (k : Int) (h0 : 0 ≤ k) (hB : k + (Ct.ct a : Nat) ≤ 1152921504606846976) (ok : Dp.ok a) : MkR p_laws_markTagS p_laws_heldTagS a k := by
 have hm : a.length ≤ 9223372036854775807 := ok.1
 obtain ⟨k1, r, e1, e2, e3, e4, e5⟩ := mark_loop (l := a) (B := 1152921504606846976) (bm := p_laws_markTagS_b0 a) (bh := fun r => p_laws_heldTagS_b0 r) (fun i hi r hr hn k h0 hB => by
  have hi2 : i < r.length := by omega
  have hc : Ct.ct (nth a i) = 1 + (1) := rfl
  obtain ⟨t0, ht0⟩ := mt_total (k) (by omega) (by omega)
  have g1 : I64 (k + 1) := i64B (by omega) (by omega)
  obtain ⟨t1, ht1⟩ := mt_total (k + 1) (by omega) (by omega)
  have g2 : I64 ((k + 1) + 1) := i64B (by omega) (by omega)
  refine ⟨(t0, t1), (k + 1) + 1, ?_, by omega, by omega, fun r' hr' hu => ?_⟩
  ·unfold p_laws_markTagS_b0
   simp only [dlt hi, cond_true, Int.toNat_natCast, gd.yes (ixN hi2), ht0, gd.yes g1, ht1, gd.yes g2, bd_some, gd.yes (i64S hi hm)]
   first | done | rfl
  ·have hi3 : i < r'.length := by omega
   unfold p_laws_heldTagS_b0
   simp [hi3, gd.yes (ixN hi3), hu, ht0, gd.yes g1, ht1, gd.yes g2, gd.yes (i64S hi hm)])
  (fun r k hr => by unfold p_laws_markTagS_b0; simp) (fun r k hr => by unfold p_laws_heldTagS_b0; simp [hr]) h0 hB
 refine ⟨k1, r, ?_, e3, e4, ?_⟩
 ·unfold p_laws_markTagS; rw [e1]; rfl
 ·unfold p_laws_heldTagS; rw [e5]; rfl
theorem m_TagSS (a : (List (List Tag))) (k : Int) (h0 : 0 ≤ k) (hB : k + (Ct.ct a : Nat) ≤ 1152921504606846976) (ok : Dp.ok a) : MkR p_laws_markTagSS p_laws_heldTagSS a k := by
 have hm : a.length ≤ 9223372036854775807 := ok.1
 obtain ⟨k1, r, e1, e2, e3, e4, e5⟩ := mark_loop (l := a) (B := 1152921504606846976) (bm := p_laws_markTagSS_b0 a) (bh := fun r => p_laws_heldTagSS_b0 r) (fun i hi r hr hn k h0 hB => by
  have hi2 : i < r.length := by omega
  have hc : Ct.ct (nth a i) = Ct.ct (nth a i) := rfl
  obtain ⟨c1, s1, x1, y1, z1, w1⟩ := m_TagS (nth a i) (k) (by omega) (by omega) (ok.2 i hi)
  have q1 : ¬ c1 < 0 := by omega
  refine ⟨s1, c1, ?_, by omega, by omega, fun r' hr' hu => ?_⟩
  ·unfold p_laws_markTagSS_b0
   simp only [dlt hi, cond_true, Int.toNat_natCast, gd.yes (ixN hi2), hn, x1, bd_some, gd.yes (i64S hi hm)]
   first | done | rfl
  ·have hi3 : i < r'.length := by omega
   unfold p_laws_heldTagSS_b0
   simp [hi3, gd.yes (ixN hi3), hu, w1, q1, gd.yes (i64S hi hm)])
  (fun r k hr => by unfold p_laws_markTagSS_b0; simp) (fun r k hr => by unfold p_laws_heldTagSS_b0; simp [hr]) h0 hB
 refine ⟨k1, r, ?_, e3, e4, ?_⟩
 ·unfold p_laws_markTagSS; rw [e1]; rfl
 ·unfold p_laws_heldTagSS; rw [e5]; rfl
theorem m_IntS (a : (List Int)) (k : Int) (h0 : 0 ≤ k) (hB : k + (Ct.ct a : Nat) ≤ 1152921504606846976) (ok : Dp.ok a) : MkR p_laws_markIntS p_laws_heldIntS a k := by
 have hm : a.length ≤ 9223372036854775807 := ok.1
 obtain ⟨k1, r, e1, e2, e3, e4, e5⟩ := mark_loop (l := a) (B := 1152921504606846976) (bm := p_laws_markIntS_b0 a) (bh := fun r => p_laws_heldIntS_b0 r) (fun i hi r hr hn k h0 hB => by
  have hi2 : i < r.length := by omega
  have hc : Ct.ct (nth a i) = 1 := rfl
  have g1 : I64 (k + 1) := i64B (by omega) (by omega)
  refine ⟨k, k + 1, ?_, by omega, by omega, fun r' hr' hu => ?_⟩
  ·unfold p_laws_markIntS_b0
   simp only [dlt hi, cond_true, Int.toNat_natCast, gd.yes (ixN hi2), gd.yes g1, gd.yes (i64S hi hm)]
   first | done | rfl
  ·have hi3 : i < r'.length := by omega
   unfold p_laws_heldIntS_b0
   simp [hi3, gd.yes (ixN hi3), hu, gd.yes g1, gd.yes (i64S hi hm)])
  (fun r k hr => by unfold p_laws_markIntS_b0; simp) (fun r k hr => by unfold p_laws_heldIntS_b0; simp [hr]) h0 hB
 refine ⟨k1, r, ?_, e3, e4, ?_⟩
 ·unfold p_laws_markIntS; rw [e1]; rfl
 ·unfold p_laws_heldIntS; rw [e5]; rfl
theorem m_PostS (a : (List Post)) (k : Int) (h0 : 0 ≤ k) (hB : k + (Ct.ct a : Nat) ≤ 1152921504606846976) (ok : Dp.ok a) : MkR p_laws_markPostS p_laws_heldPostS a k := by
 have hm : a.length ≤ 9223372036854775807 := ok.1
 obtain ⟨k1, r, e1, e2, e3, e4, e5⟩ := mark_loop (l := a) (B := 1152921504606846976) (bm := p_laws_markPostS_b0 a) (bh := fun r => p_laws_heldPostS_b0 r) (fun i hi r hr hn k h0 hB => by
  have hi2 : i < r.length := by omega
  have hc : Ct.ct (nth a i) = (1 + (1)) + (Ct.ct ((nth a i).2)) := rfl
  obtain ⟨t0, ht0⟩ := mt_total (k) (by omega) (by omega)
  have g1 : I64 (k + 1) := i64B (by omega) (by omega)
  obtain ⟨t1, ht1⟩ := mt_total (k + 1) (by omega) (by omega)
  have g2 : I64 ((k + 1) + 1) := i64B (by omega) (by omega)
  obtain ⟨c1, s1, x1, y1, z1, w1⟩ := m_IntS ((nth a i).2) ((k + 1) + 1) (by omega) (by omega) (ok.2 i hi).2
  have q1 : ¬ c1 < 0 := by omega
  refine ⟨((t0, t1), s1), c1, ?_, by omega, by omega, fun r' hr' hu => ?_⟩
  ·unfold p_laws_markPostS_b0
   simp only [dlt hi, cond_true, Int.toNat_natCast, gd.yes (ixN hi2), hn, ht0, gd.yes g1, ht1, gd.yes g2, x1, bd_some, gd.yes (i64S hi hm)]
   first | done | rfl
  ·have hi3 : i < r'.length := by omega
   unfold p_laws_heldPostS_b0
   simp [hi3, gd.yes (ixN hi3), hu, ht0, gd.yes g1, ht1, gd.yes g2, w1, q1, gd.yes (i64S hi hm)])
  (fun r k hr => by unfold p_laws_markPostS_b0; simp) (fun r k hr => by unfold p_laws_heldPostS_b0; simp [hr]) h0 hB
 refine ⟨k1, r, ?_, e3, e4, ?_⟩
 ·unfold p_laws_markPostS; rw [e1]; rfl
 ·unfold p_laws_heldPostS; rw [e5]; rfl
theorem m_Index (a : Index) (k : Int) (h0 : 0 ≤ k) (hB : k + (Ct.ct a : Nat) ≤ 1152921504606846976) (ok : Dp.ok a) : MkR p_laws_markIndex p_laws_heldIndex a k := by
 have hc : Ct.ct a = Ct.ct a.1 + (Ct.ct a.2) := rfl
 obtain ⟨k1, r1, e1, l1, u1, f1⟩ := m_TagSS a.1 k (by omega) (by omega) ok.1
 have q1 : ¬ k1 < 0 := by omega
 obtain ⟨k2, r2, e2, l2, u2, f2⟩ := m_PostS a.2 k1 (by omega) (by omega) ok.2
 have q2 : ¬ k2 < 0 := by omega
 refine ⟨k2, (r1, r2), ?_, by omega, by omega, ?_⟩
 ·unfold p_laws_markIndex; simp only [e1, e2, bd_some]
 ·unfold p_laws_heldIndex; simp [f1, q1, f2, q2]
theorem m_RowS (a : (List Row)) (k : Int) (h0 : 0 ≤ k) (hB : k + (Ct.ct a : Nat) ≤ 1152921504606846976) (ok : Dp.ok a) : MkR p_laws_markRowS p_laws_heldRowS a k := by
 have hm : a.length ≤ 9223372036854775807 := ok.1
 obtain ⟨k1, r, e1, e2, e3, e4, e5⟩ := mark_loop (l := a) (B := 1152921504606846976) (bm := p_laws_markRowS_b0 a) (bh := fun r => p_laws_heldRowS_b0 r) (fun i hi r hr hn k h0 hB => by
  have hi2 : i < r.length := by omega
  have hc : Ct.ct (nth a i) = 1 + (1) := rfl
  have g1 : I64 (k + 1) := i64B (by omega) (by omega)
  have g2 : I64 ((k + 1) + 1) := i64B (by omega) (by omega)
  refine ⟨(k, k + 1), (k + 1) + 1, ?_, by omega, by omega, fun r' hr' hu => ?_⟩
  ·unfold p_laws_markRowS_b0
   simp only [dlt hi, cond_true, Int.toNat_natCast, gd.yes (ixN hi2), gd.yes g1, gd.yes g2, gd.yes (i64S hi hm)]
   first | done | rfl
  ·have hi3 : i < r'.length := by omega
   unfold p_laws_heldRowS_b0
   simp [hi3, gd.yes (ixN hi3), hu, gd.yes g1, gd.yes g2, gd.yes (i64S hi hm)])
  (fun r k hr => by unfold p_laws_markRowS_b0; simp) (fun r k hr => by unfold p_laws_heldRowS_b0; simp [hr]) h0 hB
 refine ⟨k1, r, ?_, e3, e4, ?_⟩
 ·unfold p_laws_markRowS; rw [e1]; rfl
 ·unfold p_laws_heldRowS; rw [e5]; rfl
theorem m_RowSS (a : (List (List Row))) (k : Int) (h0 : 0 ≤ k) (hB : k + (Ct.ct a : Nat) ≤ 1152921504606846976) (ok : Dp.ok a) : MkR p_laws_markRowSS p_laws_heldRowSS a k := by
 have hm : a.length ≤ 9223372036854775807 := ok.1
 obtain ⟨k1, r, e1, e2, e3, e4, e5⟩ := mark_loop (l := a) (B := 1152921504606846976) (bm := p_laws_markRowSS_b0 a) (bh := fun r => p_laws_heldRowSS_b0 r) (fun i hi r hr hn k h0 hB => by
  have hi2 : i < r.length := by omega
  have hc : Ct.ct (nth a i) = Ct.ct (nth a i) := rfl
  obtain ⟨c1, s1, x1, y1, z1, w1⟩ := m_RowS (nth a i) (k) (by omega) (by omega) (ok.2 i hi)
  have q1 : ¬ c1 < 0 := by omega
  refine ⟨s1, c1, ?_, by omega, by omega, fun r' hr' hu => ?_⟩
  ·unfold p_laws_markRowSS_b0
   simp only [dlt hi, cond_true, Int.toNat_natCast, gd.yes (ixN hi2), hn, x1, bd_some, gd.yes (i64S hi hm)]
   first | done | rfl
  ·have hi3 : i < r'.length := by omega
   unfold p_laws_heldRowSS_b0
   simp [hi3, gd.yes (ixN hi3), hu, w1, q1, gd.yes (i64S hi hm)])
  (fun r k hr => by unfold p_laws_markRowSS_b0; simp) (fun r k hr => by unfold p_laws_heldRowSS_b0; simp [hr]) h0 hB
 refine ⟨k1, r, ?_, e3, e4, ?_⟩
 ·unfold p_laws_markRowSS; rw [e1]; rfl
 ·unfold p_laws_heldRowSS; rw [e5]; rfl
theorem m_PartS (a : (List Part)) (k : Int) (h0 : 0 ≤ k) (hB : k + (Ct.ct a : Nat) ≤ 1152921504606846976) (ok : Dp.ok a) : MkR p_laws_markPartS p_laws_heldPartS a k := by
 have hm : a.length ≤ 9223372036854775807 := ok.1
 obtain ⟨k1, r, e1, e2, e3, e4, e5⟩ := mark_loop (l := a) (B := 1152921504606846976) (bm := p_laws_markPartS_b0 a) (bh := fun r => p_laws_heldPartS_b0 r) (fun i hi r hr hn k h0 hB => by
  have hi2 : i < r.length := by omega
  have hc : Ct.ct (nth a i) = (Ct.ct ((nth a i).1)) + (Ct.ct ((nth a i).2)) := rfl
  obtain ⟨c1, s1, x1, y1, z1, w1⟩ := m_IntS ((nth a i).1) (k) (by omega) (by omega) (ok.2 i hi).1
  have q1 : ¬ c1 < 0 := by omega
  obtain ⟨c2, s2, x2, y2, z2, w2⟩ := m_RowSS ((nth a i).2) (c1) (by omega) (by omega) (ok.2 i hi).2
  have q2 : ¬ c2 < 0 := by omega
  refine ⟨(s1, s2), c2, ?_, by omega, by omega, fun r' hr' hu => ?_⟩
  ·unfold p_laws_markPartS_b0
   simp only [dlt hi, cond_true, Int.toNat_natCast, gd.yes (ixN hi2), hn, x1, x2, bd_some, gd.yes (i64S hi hm)]
   first | done | rfl
  ·have hi3 : i < r'.length := by omega
   unfold p_laws_heldPartS_b0
   simp [hi3, gd.yes (ixN hi3), hu, w1, q1, w2, q2, gd.yes (i64S hi hm)])
  (fun r k hr => by unfold p_laws_markPartS_b0; simp) (fun r k hr => by unfold p_laws_heldPartS_b0; simp [hr]) h0 hB
 refine ⟨k1, r, ?_, e3, e4, ?_⟩
 ·unfold p_laws_markPartS; rw [e1]; rfl
 ·unfold p_laws_heldPartS; rw [e5]; rfl
theorem m_SampleS (a : (List Sample)) (k : Int) (h0 : 0 ≤ k) (hB : k + (Ct.ct a : Nat) ≤ 1152921504606846976) (ok : Dp.ok a) : MkR p_laws_markSampleS p_laws_heldSampleS a k := by
 have hm : a.length ≤ 9223372036854775807 := ok.1
 obtain ⟨k1, r, e1, e2, e3, e4, e5⟩ := mark_loop (l := a) (B := 1152921504606846976) (bm := p_laws_markSampleS_b0 a) (bh := fun r => p_laws_heldSampleS_b0 r) (fun i hi r hr hn k h0 hB => by
  have hi2 : i < r.length := by omega
  have hc : Ct.ct (nth a i) = 1 + (1 + (1)) := rfl
  have g1 : I64 (k + 1) := i64B (by omega) (by omega)
  have g2 : I64 ((k + 1) + 1) := i64B (by omega) (by omega)
  have g3 : I64 (((k + 1) + 1) + 1) := i64B (by omega) (by omega)
  refine ⟨(k, (k + 1, (k + 1) + 1)), ((k + 1) + 1) + 1, ?_, by omega, by omega, fun r' hr' hu => ?_⟩
  ·unfold p_laws_markSampleS_b0
   simp only [dlt hi, cond_true, Int.toNat_natCast, gd.yes (ixN hi2), gd.yes g1, gd.yes g2, gd.yes g3, gd.yes (i64S hi hm)]
   first | done | rfl
  ·have hi3 : i < r'.length := by omega
   unfold p_laws_heldSampleS_b0
   simp [hi3, gd.yes (ixN hi3), hu, gd.yes g1, gd.yes g2, gd.yes g3, gd.yes (i64S hi hm)])
  (fun r k hr => by unfold p_laws_markSampleS_b0; simp) (fun r k hr => by unfold p_laws_heldSampleS_b0; simp [hr]) h0 hB
 refine ⟨k1, r, ?_, e3, e4, ?_⟩
 ·unfold p_laws_markSampleS; rw [e1]; rfl
 ·unfold p_laws_heldSampleS; rw [e5]; rfl
theorem m_Store (a : Store) (k : Int) (h0 : 0 ≤ k) (hB : k + (Ct.ct a : Nat) ≤ 1152921504606846976) (ok : Dp.ok a) : MkR p_laws_markStore p_laws_heldStore a k := by
 have hc : Ct.ct a = Ct.ct a.1 + (Ct.ct a.2.1 + (Ct.ct a.2.2)) := rfl
 obtain ⟨k1, r1, e1, l1, u1, f1⟩ := m_Index a.1 k (by omega) (by omega) ok.1
 have q1 : ¬ k1 < 0 := by omega
 obtain ⟨k2, r2, e2, l2, u2, f2⟩ := m_PartS a.2.1 k1 (by omega) (by omega) ok.2.1
 have q2 : ¬ k2 < 0 := by omega
 obtain ⟨k3, r3, e3, l3, u3, f3⟩ := m_SampleS a.2.2 k2 (by omega) (by omega) ok.2.2
 have q3 : ¬ k3 < 0 := by omega
 refine ⟨k3, (r1, r2, r3), ?_, by omega, by omega, ?_⟩
 ·unfold p_laws_markStore; simp only [e1, e2, e3, bd_some]
 ·unfold p_laws_heldStore; simp [f1, q1, f2, q2, f3, q3]
def inn (lo n hi : Int) : Bool := decide (lo ≤ n) && decide (n ≤ hi)
theorem e_impl_within (n lo hi : Int) : p_impl_within n lo hi = some (inn lo n hi) := by
 unfold p_impl_within inn; cases decide (lo ≤ n) <;> rfl
theorem e_spec_l6In (n lo hi : Int) : p_spec_l6In n lo hi = some (inn lo n hi) := by
 unfold p_spec_l6In inn; cases decide (lo ≤ n) <;> rfl
def rowOk (r : Row) : Bool := inn 0 r.1 99 && inn (-99) r.2 99
theorem e_impl_rowOk (r : Row) : p_impl_rowOk r = some (rowOk r) := by
 unfold p_impl_rowOk rowOk; simp only [e_impl_within, bd_some]; cases inn 0 r.1 99 <;> rfl
theorem e_spec_l2Row (r : Row) : p_spec_l2Row r = some (rowOk r) := by
 unfold p_spec_l2Row rowOk; simp only [e_spec_l6In, bd_some]; cases inn 0 r.1 99 <;> rfl
def rowBad (b : List Row) (k : Nat) : Bool := !rowOk (nth b k) || (decide (0 < k) && decide ((nth b k).1 ≤ (nth b (k - 1)).1))
def blockOk (b : List Row) : Bool := allN b.length (rowBad b) && decide ((b.length : Int) ≤ 24)
theorem e_impl_BlockOk (b : List Row) (hb : b.length ≤ maxLen) : p_impl_BlockOk b = some (blockOk b) := by
 have hb' : b.length ≤ 9223372036854775807 := hb
 have hr : ∀ k, k < b.length → p_impl_BlockOk_b0 b (k : Int) = some (if rowBad b k then .inr (.inr false) else .inl ((k + 1 : Nat) : Int)) := fun k hk => by
  unfold p_impl_BlockOk_b0 rowBad
  simp only [dlt hk, cond_true, gd.yes (ixN hk), e_impl_rowOk, bd_some, Int.toNat_natCast, gd.yes (i64S hk hb')]
  cases h1 : rowOk (nth b k) with
  | false => simp
  | true =>
   simp only [Bool.not_true, cond_false, Bool.false_or]
   by_cases h0 : 0 < k
   ·have h0' : (0 : Int) < k := by omega
    have e1 : (k : Int) - 1 = ((k - 1 : Nat) : Int) := by omega
    have hi : I64 ((k - 1 : Nat) : Int) := by unfold I64; omega
    simp only [h0, h0', decide_true, cond_true, e1, gd.yes hi, gd.yes (ixN (show k - 1 < b.length by omega)), Int.toNat_natCast, bd_some, Bool.true_and]
    cases decide ((nth b k).1 ≤ (nth b (k - 1)).1) <;> simp
   ·have h0' : ¬ (0 : Int) < k := by omega
    simp [h0]
 unfold p_impl_BlockOk blockOk
 rcases lp_scan (body := p_impl_BlockOk_b0 b) (fun k => (k : Int)) b.length (rowBad b) (.inl ()) (fun _ => .inr false) (fun k hk _ h => by simp [hr k hk, h]) (fun k hk _ h => by simp [hr k hk, h]) (fun _ => by unfold p_impl_BlockOk_b0; simp) with ⟨h1, h2⟩ | ⟨h1, k, _, _, _, h2⟩
 ·rw [show (lp (p_impl_BlockOk_b0 b) 0) = _ from h2, h1]; simp [sw]
 ·rw [show (lp (p_impl_BlockOk_b0 b) 0) = _ from h2, h1]; simp [sw]
theorem e_spec_BlockOk (b : List Row) (hb : b.length ≤ maxLen) : p_spec_BlockOk b = some (blockOk b) := by
 have hb' : b.length ≤ 9223372036854775807 := hb
 have hr : ∀ k, k < b.length → p_spec_BlockOk_b0 b (k : Int) = some (if rowBad b k then .inr (.inr false) else .inl ((k + 1 : Nat) : Int)) := fun k hk => by
  unfold p_spec_BlockOk_b0 rowBad
  simp only [dlt hk, cond_true, gd.yes (ixN hk), e_spec_l2Row, bd_some, Int.toNat_natCast, gd.yes (i64S hk hb')]
  cases h1 : rowOk (nth b k) with
  | false => simp
  | true =>
   simp only [Bool.not_true, cond_false, Bool.false_or]
   by_cases h0 : 0 < k
   ·have h0' : (0 : Int) < k := by omega
    have e1 : (k : Int) - 1 = ((k - 1 : Nat) : Int) := by omega
    have hi : I64 ((k - 1 : Nat) : Int) := by unfold I64; omega
    simp only [h0, h0', decide_true, cond_true, e1, gd.yes hi, gd.yes (ixN (show k - 1 < b.length by omega)), Int.toNat_natCast, bd_some, Bool.true_and]
    cases decide ((nth b k).1 ≤ (nth b (k - 1)).1) <;> simp
   ·simp [h0]
 unfold p_spec_BlockOk blockOk
 rcases lp_scan (body := p_spec_BlockOk_b0 b) (fun k => (k : Int)) b.length (rowBad b) (.inl ()) (fun _ => .inr false) (fun k hk _ h => by simp [hr k hk, h]) (fun k hk _ h => by simp [hr k hk, h]) (fun _ => by unfold p_spec_BlockOk_b0; simp) with ⟨h1, h2⟩ | ⟨h1, k, _, _, _, h2⟩
 ·rw [show (lp (p_spec_BlockOk_b0 b) 0) = _ from h2, h1]; simp [sw]
 ·rw [show (lp (p_spec_BlockOk_b0 b) 0) = _ from h2, h1]; simp [sw]
def partBad (p : Part) (k : Nat) : Bool := ((!inn 1 (nth p.1 k) 6 || (decide (0 < k) && decide (nth p.1 k ≤ nth p.1 (k - 1)))) || !blockOk (nth p.2 k)) || decide ((nth p.2 k).length = 0)
def partOk (p : Part) : Bool := decide (p.1.length = p.2.length) && allN p.1.length (partBad p)
theorem e_impl_PartOk (p : Part) (hp : Dp.ok p) : p_impl_PartOk p = some (partOk p) := by
 obtain ⟨⟨hp1, _⟩, _, hp2⟩ := hp
 have hp1 : p.1.length ≤ 9223372036854775807 := hp1
 unfold p_impl_PartOk partOk
 by_cases hl : p.1.length = p.2.length
 ·have hr : ∀ k, k < p.1.length → p_impl_PartOk_b0 p (k : Int) = some (if partBad p k then .inr (.inr false) else .inl ((k + 1 : Nat) : Int)) := fun k hk => by
   have hk2 : k < p.2.length := by omega
   unfold p_impl_PartOk_b0 partBad
   simp only [dlt hk, cond_true, gd.yes (ixN hk), gd.yes (ixN hk2), e_impl_within, e_impl_BlockOk _ (hp2 k hk2).1, bd_some, Int.toNat_natCast, gd.yes (i64S hk hp1)]
   cases h1 : inn 1 (nth p.1 k) 6 with
   | false => simp
   | true =>
    by_cases h0 : 0 < k
    ·have h0' : (0 : Int) < k := by omega
     have e1 : (k : Int) - 1 = ((k - 1 : Nat) : Int) := by omega
     have hi : I64 ((k - 1 : Nat) : Int) := by unfold I64; omega
     simp only [h0, h0', decide_true, cond_true, e1, gd.yes hi, gd.yes (ixN (show k - 1 < p.1.length by omega)), Int.toNat_natCast, Bool.true_and, Bool.not_true, cond_false, Bool.false_or]
     cases decide (nth p.1 k ≤ nth p.1 (k - 1)) <;> cases blockOk (nth p.2 k) <;> cases h9 : decide ((nth p.2 k).length = 0) <;> simp_all
    ·simp only [h0, Bool.not_true, cond_false, Bool.false_or, decide_false, Bool.false_and]
     cases blockOk (nth p.2 k) <;> cases h9 : decide ((nth p.2 k).length = 0) <;> simp_all
  rcases lp_scan (body := p_impl_PartOk_b0 p) (fun k => (k : Int)) p.1.length (partBad p) (.inl ()) (fun _ => .inr false) (fun k hk _ h => by simp [hr k hk, h]) (fun k hk _ h => by simp [hr k hk, h]) (fun _ => by unfold p_impl_PartOk_b0; simp) with ⟨h1, h2⟩ | ⟨h1, k, _, _, _, h2⟩
  ·rw [show (lp (p_impl_PartOk_b0 p) 0) = _ from h2, h1]; simp [sw, hl]
  ·rw [show (lp (p_impl_PartOk_b0 p) 0) = _ from h2, h1]; simp [sw, hl]
 ·have : ¬ (p.1.length : Int) = (p.2.length : Int) := by omega
  simp [this, hl]
theorem e_spec_PartOk (p : Part) (hp : Dp.ok p) : p_spec_PartOk p = some (partOk p) := by
 obtain ⟨⟨hp1, _⟩, _, hp2⟩ := hp
 have hp1 : p.1.length ≤ 9223372036854775807 := hp1
 unfold p_spec_PartOk partOk
 by_cases hl : p.1.length = p.2.length
 ·have hr : ∀ k, k < p.1.length → p_spec_PartOk_b0 p (k : Int) = some (if partBad p k then .inr (.inr false) else .inl ((k + 1 : Nat) : Int)) := fun k hk => by
   have hk2 : k < p.2.length := by omega
   unfold p_spec_PartOk_b0 partBad
   simp only [dlt hk, cond_true, gd.yes (ixN hk), gd.yes (ixN hk2), e_spec_l6In, e_spec_BlockOk _ (hp2 k hk2).1, bd_some, Int.toNat_natCast, gd.yes (i64S hk hp1)]
   cases h1 : inn 1 (nth p.1 k) 6 with
   | false => simp
   | true =>
    by_cases h0 : 0 < k
    ·have h0' : (0 : Int) < k := by omega
     have e1 : (k : Int) - 1 = ((k - 1 : Nat) : Int) := by omega
     have hi : I64 ((k - 1 : Nat) : Int) := by unfold I64; omega
     simp only [h0, h0', decide_true, cond_true, e1, gd.yes hi, gd.yes (ixN (show k - 1 < p.1.length by omega)), Int.toNat_natCast, Bool.true_and, Bool.not_true, cond_false, Bool.false_or]
     cases decide (nth p.1 k ≤ nth p.1 (k - 1)) <;> cases blockOk (nth p.2 k) <;> cases h9 : decide ((nth p.2 k).length = 0) <;> simp_all
    ·simp only [h0, Bool.not_true, cond_false, Bool.false_or, decide_false, Bool.false_and]
     cases blockOk (nth p.2 k) <;> cases h9 : decide ((nth p.2 k).length = 0) <;> simp_all
  rcases lp_scan (body := p_spec_PartOk_b0 p) (fun k => (k : Int)) p.1.length (partBad p) (.inl ()) (fun _ => .inr false) (fun k hk _ h => by simp [hr k hk, h]) (fun k hk _ h => by simp [hr k hk, h]) (fun _ => by unfold p_spec_PartOk_b0; simp) with ⟨h1, h2⟩ | ⟨h1, k, _, _, _, h2⟩
  ·rw [show (lp (p_spec_PartOk_b0 p) 0) = _ from h2, h1]; simp [sw, hl]
  ·rw [show (lp (p_spec_PartOk_b0 p) 0) = _ from h2, h1]; simp [sw, hl]
 ·have : ¬ (p.1.length : Int) = (p.2.length : Int) := by omega
  simp [this, hl]
def place (l : List Int) (id : Int) : Int := match (List.range l.length).find? (fun i => decide (nth l i = id)) with | some i => i | none => -1
theorem place_no {l : List Int} {id : Int} (h : allN l.length (fun i => decide (nth l i = id)) = true) : place l id = -1 := by
 unfold place
 rw [List.find?_eq_none.2]
 intro i hi
 have := allN_iff.1 h i (by simpa using hi)
 simpa using this
theorem place_yes {l : List Int} {id : Int} {k : Nat} (hk : k < l.length) (h : decide (nth l k = id) = true) (h2 : ∀ i, i < k → decide (nth l i = id) = false) : place l id = k := by
 unfold place
 have : (List.range l.length).find? (fun i => decide (nth l i = id)) = some k := by
  rw [List.find?_range_eq_some]
  exact ⟨h, by simpa using hk, fun i hi => by simpa using h2 i hi⟩
 rw [this]
theorem e_Index (l : List Int) (id : Int) (ok : l.length ≤ 9223372036854775807) : p_slices_Index_int_int l id = some (place l id) := by
 unfold p_slices_Index_int_int
 rcases lp_scan (body := p_slices_Index_int_int_b0 l id) (fun k => (k : Int)) l.length (fun i => decide (nth l i = id)) (.inl ()) (fun k => .inr (k : Int)) (fun k hk _ h => by
   have h' : ¬ id = nth l k := fun e => by simp [e] at h
   unfold p_slices_Index_int_int_b0; simp [hk, gd.yes (ixN hk), h', gd.yes (i64S hk ok)]) (fun k hk _ h => by
   have h' : id = nth l k := by simp at h; exact h.symm
   unfold p_slices_Index_int_int_b0; simp [hk, gd.yes (ixN hk), h']) (fun _ => by unfold p_slices_Index_int_int_b0; simp) with ⟨h1, h2⟩ | ⟨h1, k, hk, hb, hn, h2⟩
 ·rw [show (lp (p_slices_Index_int_int_b0 l id) 0) = _ from h2, place_no h1]; rfl
 ·rw [show (lp (p_slices_Index_int_int_b0 l id) 0) = _ from h2, place_yes hk hb hn]; rfl
theorem place_lt {l : List Int} {id : Int} : place l id < 0 ∨ ∃ k, k < l.length ∧ place l id = (k : Int) := by
 cases ha : allN l.length (fun i => decide (nth l i = id)) with
 | true => exact .inl (by rw [place_no ha]; decide)
 | false =>
  obtain ⟨k, hk, h1, h2⟩ := first_bad ha
  exact .inr ⟨k, hk, place_yes hk h1 h2⟩
def rowsOf (p : Part) (id : Int) : List Row := if place p.1 id < 0 then [] else nth p.2 (place p.1 id).toNat
theorem partOk_len' {p : Part} (h : partOk p = true) : p.1.length = p.2.length := by
 unfold partOk at h; simp at h; exact h.1
theorem e_l12Of (p : Part) (id : Int) (ok : Dp.ok p) (hl : p.1.length = p.2.length) : p_spec_l12Of p id = some (rowsOf p id) := by
 have hm : p.1.length ≤ 9223372036854775807 := ok.1.1
 unfold p_spec_l12Of rowsOf
 rcases lp_scan (body := p_spec_l12Of_b0 p id) (fun k => (k : Int)) p.1.length (fun i => decide (nth p.1 i = id)) (.inl ()) (fun k => .inr (nth p.2 k)) (fun k hk _ h => by
   have h' : ¬ nth p.1 k = id := by simpa using h
   unfold p_spec_l12Of_b0; simp [hk, gd.yes (ixN hk), h', gd.yes (i64S hk hm)]) (fun k hk _ h => by
   have h' : nth p.1 k = id := by simpa using h
   have hk2 : k < p.2.length := by omega
   unfold p_spec_l12Of_b0; simp [hk, gd.yes (ixN hk), h', gd.yes (ixN hk2)]) (fun _ => by unfold p_spec_l12Of_b0; simp) with ⟨h1, h2⟩ | ⟨h1, k, hk, hb, hn, h2⟩
 ·rw [show (lp (p_spec_l12Of_b0 p id) 0) = _ from h2, place_no h1]; rfl
 ·rw [show (lp (p_spec_l12Of_b0 p id) 0) = _ from h2, place_yes hk hb hn]
  have : ¬ (k : Int) < 0 := by omega
  simp [sw, this]
def partOf (p : Part) (id : Int) : List Row := if partOk p then rowsOf p id else []
theorem e_impl_PartOf (p : Part) (id : Int) (ok : Dp.ok p) (hw : Wt.w p ≤ 1048576) : p_impl_PartOf p id = some (partOf p id) := by
 unfold p_impl_PartOf partOf
 rw [e_Index p.1 id ok.1.1, bd_some, e_impl_PartOk p ok, bd_some]
 cases h : partOk p with
 | false => rfl
 | true =>
  have hl := partOk_len' h
  rcases place_lt (l := p.1) (id := id) with hp | ⟨k, hk, hp⟩
  ·simp [hp, rowsOf]
  ·have h0 : ¬ (k : Int) < 0 := by omega
   have hk2 : k < p.2.length := by omega
   have hr : room (nth p.2 k).length := by
    have : (nth p.2 k).length ≤ 1048576 := Nat.le_trans wL_le (Nat.le_trans (wL_el hk2) (Nat.le_trans wP_2 hw))
    unfold room; omega
   simp [hp, rowsOf, h0, gd.yes (ixN hk2), gd.yes hr]
theorem ok_rows (l : List Row) (h : l.length ≤ 1048576) : Dp.ok l := ⟨Nat.le_trans h (by decide), fun _ _ => ⟨trivial, trivial⟩⟩
def l2 (r : Row) : Bool → List Row → List Row
 | put, [] => if put then [] else [r]
 | put, x :: t => (if !put && decide (r.1 ≤ x.1) then [r] else []) ++ ((if x.1 = r.1 then [] else [x]) ++ l2 r (put || decide (r.1 ≤ x.1)) t)
theorem drop_nth {α : Type} [Inhabited α] {l : List α} {k : Nat} (hk : k < l.length) : l.drop k = nth l k :: l.drop (k + 1) := by
 rw [nth_eq l k hk, List.drop_eq_getElem_cons hk]
theorem e_l2Put (b : List Row) (r : Row) (hb : b.length ≤ 1048576) : p_spec_l2Put b r = some (l2 r false b) := by
 unfold p_spec_l2Put
 obtain ⟨e, he, hs1, hs2⟩ := lp.rule (body := p_spec_l2Put_b0 b r) (fun σ => ∃ k : Nat, k ≤ b.length ∧ σ.2.2 = (k : Int) ∧ σ.1.length ≤ 2 * k ∧ σ.1 ++ l2 r σ.2.1 (b.drop k) = l2 r false b) (fun σ => b.length - σ.2.2.toNat)
  (fun e => e.1.length ≤ 2 * b.length ∧ e.1 ++ (if e.2 then [] else [r]) = l2 r false b) (fun σ hI => by
   obtain ⟨k, k1, k2, k3, k4⟩ := hI
   unfold p_spec_l2Put_b0
   rw [k2]
   by_cases hk : k < b.length
   ·left
    rw [drop_nth hk] at k4
    have hi := i64S hk (by omega)
    have r1 : room (σ.1.length + 1) := by unfold room; omega
    have r2 : room ((σ.1 ++ [r]).length + 1) := by simp; unfold room; omega
    simp only [dlt hk, cond_true, gd.yes (ixN hk), Int.toNat_natCast, gd.yes hi, gd.yes r1, gd.yes r2]
    obtain ⟨o, put, i⟩ := σ
    simp only at k2 k3 k4 ⊢
    cases put with
    | true =>
     simp only [l2, Bool.not_true, Bool.false_and, Bool.false_eq_true, if_false, List.nil_append, Bool.true_or] at k4
     simp only [Bool.not_true, cond_false, bd_some]
     by_cases hx : (nth b k).1 = r.1
     ·simp only [hx, if_true, List.nil_append] at k4
      exact ⟨(o, true, ((k + 1 : Nat) : Int)), by simp [hx], ⟨k + 1, hk, rfl, by simp only; omega, k4⟩, by simp only; omega⟩
     ·simp only [hx, if_false] at k4
      exact ⟨(o ++ [nth b k], true, ((k + 1 : Nat) : Int)), by simp [hx], ⟨k + 1, hk, rfl, by simp; omega, by simpa using k4⟩, by simp only; omega⟩
    | false =>
     by_cases hle : r.1 ≤ (nth b k).1
     ·simp only [l2, hle, decide_true, Bool.not_false, Bool.true_and, if_true, Bool.or_true] at k4
      by_cases hx : (nth b k).1 = r.1
      ·simp only [hx, if_true, List.nil_append] at k4
       exact ⟨(o ++ [r], true, ((k + 1 : Nat) : Int)), by simp [hx], ⟨k + 1, hk, rfl, by simp; omega, by simpa using k4⟩, by simp only; omega⟩
      ·simp only [hx, if_false] at k4
       exact ⟨(o ++ [r] ++ [nth b k], true, ((k + 1 : Nat) : Int)), by simp [hx, hle], ⟨k + 1, hk, rfl, by simp; omega, by simpa using k4⟩, by simp only; omega⟩
     ·simp only [l2, hle, decide_false, Bool.not_false, Bool.and_false, Bool.false_eq_true, if_false, List.nil_append, Bool.or_false] at k4
      have hx : ¬ (nth b k).1 = r.1 := by omega
      simp only [hx, if_false] at k4
      exact ⟨(o ++ [nth b k], false, ((k + 1 : Nat) : Int)), by simp [hx, hle], ⟨k + 1, hk, rfl, by simp; omega, by simpa using k4⟩, by simp only; omega⟩
   ·right
    have hk' : k = b.length := by omega
    subst hk'
    refine ⟨(σ.1, σ.2.1), by simp, k3, ?_⟩
    rw [List.drop_length] at k4
    simpa [l2] using k4) (s := (([] : List Row), false, (0 : Int))) ⟨0, Nat.zero_le _, rfl, by simp, by simp⟩
 rw [he, bd_some]
 have r1 : room (e.1.length + 1) := by unfold room; omega
 cases hp : e.2 with
 | true => simp [hp] at hs2; simp [hs2]
 | false => simp [hp] at hs2; simp [gd.yes r1, hs2]
theorem nth_mem {α : Type} [Inhabited α] {l : List α} {k : Nat} (h : k < l.length) : nth l k ∈ l := by rw [nth_eq l k h]; exact List.getElem_mem h
theorem wRow {b : List Row} : Wt.w b = b.length := by show b.length + sumN b.length (fun i => Wt.w (nth b i)) = _; rw [sumN_zero (f := fun i => Wt.w (nth b i)) fun i _ => rfl]; rfl
theorem partOk_iff {p : Part} (h : partOk p = true) : p.1.length = p.2.length ∧ (∀ k, k < p.1.length → 1 ≤ nth p.1 k ∧ nth p.1 k ≤ 6) ∧ (∀ k, 0 < k → k < p.1.length → nth p.1 (k - 1) < nth p.1 k) ∧ (∀ k, k < p.2.length → 0 < (nth p.2 k).length ∧ blockOk (nth p.2 k) = true) := by
 unfold partOk at h
 simp only [Bool.and_eq_true, decide_eq_true_eq] at h
 obtain ⟨h1, h2⟩ := h
 have h2 := allN_iff.1 h2
 refine ⟨h1, fun k hk => ?_, fun k h0 hk => ?_, fun k hk => ?_⟩
 ·have := h2 k hk; simp only [partBad, inn, Bool.or_eq_false_iff, Bool.not_eq_false', Bool.and_eq_true, decide_eq_true_eq] at this; exact this.1.1.1
 ·have := h2 k hk; simp [partBad, h0] at this; exact this.1.1.2
 ·have := h2 k (by omega); simp [partBad] at this; exact ⟨List.length_pos_iff.2 this.2, this.1.2⟩
theorem ids_mono {p : Part} (h : ∀ k, 0 < k → k < p.1.length → nth p.1 (k - 1) < nth p.1 k) : ∀ {j k : Nat}, j < k → k < p.1.length → nth p.1 j < nth p.1 k := by
 intro j k hjk hk
 induction k with
 | zero => omega
 | succ k ih =>
  have h1 := h (k + 1) (by omega) hk
  rw [show k + 1 - 1 = k by omega] at h1
  rcases Nat.lt_or_eq_of_le (Nat.le_of_lt_succ hjk) with h' | rfl
  ·have := ih h' (by omega); omega
  ·exact h1
def ins (r : Row) : List Row → List Row
 | [] => [r]
 | x :: t => if x.1 < r.1 then x :: ins r t else if x.1 = r.1 then r :: t else r :: x :: t
theorem ins_len (r : Row) : ∀ l : List Row, l.length ≤ (ins r l).length ∧ (ins r l).length ≤ l.length + 1
 | [] => by simp [ins]
 | x :: t => by
  have := ins_len r t
  unfold ins
  split
  ·simp; omega
  ·split <;> simp
theorem ins_pre (r : Row) : ∀ (p s : List Row), (∀ x ∈ p, x.1 < r.1) → ins r (p ++ s) = p ++ ins r s
 | [], s, _ => rfl
 | x :: p, s, h => by
  have hx := h x (by simp)
  rw [List.cons_append, ins, if_pos hx, ins_pre r p s fun y hy => h y (by simp [hy]), List.cons_append]
def Asc (l : List Row) : Prop := l.Pairwise fun x y => x.1 < y.1
end Go.Proofs.YtjaibcpidajdcaaGreat
