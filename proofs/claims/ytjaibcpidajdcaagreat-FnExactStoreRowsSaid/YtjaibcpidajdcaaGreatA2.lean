/- The walks and the plain laws, part 2: each function that the law reaches computes what its plain function tells, and what the plain functions answer. Conditions: lengths that memory can hold. -/
import Derived.Test.YtjaibcpidajdcaaGreatA1
namespace Go.Proofs.YtjaibcpidajdcaaGreat
open Go Go.Sx
theorem c_spec_StoreOk {r : Bool} (v0 : Store) (x_v0 : ((Option Addr × Nat) × (Option Addr × Nat)) × (Option Addr × Nat) × (Option Addr × Nat)) (H : p_spec_StoreOk v0 = some r) : Fn' Tryz.prog 9 #[.agg #[.slice x_v0.1.1.1 v0.1.1.length x_v0.1.1.2, .slice x_v0.1.2.1 v0.1.2.length x_v0.1.2.2, .slice x_v0.2.1.1 v0.2.1.length x_v0.2.1.2, .slice x_v0.2.2.1 v0.2.2.length x_v0.2.2.2]] [imm (.slice x_v0.1.1.1 v0.1.1.length x_v0.1.1.2) v0.1.1, imm (.slice x_v0.1.2.1 v0.1.2.length x_v0.1.2.2) v0.1.2, imm (.slice x_v0.2.1.1 v0.2.1.length x_v0.2.1.2) v0.2.1, imm (.slice x_v0.2.2.1 v0.2.2.length x_v0.2.2.2) v0.2.2] [] (ι := Unit) (fun _ => .bool (r)) (fun _ => []) (fun _ => []) := by
 refine calls_of (args := [_]) Tryz.func9 rfl (by kernel_rfl) Tryz.ntmps9 (by simp) fun c => ?_
 unfold p_spec_StoreOk at H
 refine Tr.openD Ent.z fun X1 => (Tr.openD Ent.z.s.s fun X2 => (Tr.openD Ent.z.s.s.s.s fun X3 => (Tr.seq (Tr.region (Rg.ef (e_box (t := 39) rfl) rfl ?_)))))
 rintro _ _ _ ⟨g4, rfl, rfl, rfl⟩
 refine Rg.a (v := .bool (false)) rfl (Rg.nl (nT (?_)))
 refine Tr.seq (Tr.region (Rg.p (p_fabE fa39_0 rfl rfl) (Rg.p (p_fabE fa35_0 rfl rfl) (Rg.o (q_ldb ty32 rfl Has.here rfl) (Rg.p (p_len 56 Tryz.underlying32 rfl) ?_)))))
 refine Rg.a rfl (Rg.nl (nT (?_)))
 refine Tr.seq ?_
 obtain ⟨b5, j6, H⟩ := bd.of H
 refine tMid1 [(26, .bool (b5)), (3, .int .i64 ((v0.1.1.length : Int))), (1, .pointer (some ⟨g4, 0, none⟩))] ?_ ?_
 ·refine tLinT [(3, .int .i64 ((v0.1.1.length : Int))), (1, .pointer (some ⟨g4, 0, none⟩))] ⟨rfl, rfl, trivial⟩ (Lin.p (p_fabE fa39_0 rfl rfl) (Lin.o (v := .agg #[.slice x_v0.1.1.1 v0.1.1.length x_v0.1.1.2, .slice x_v0.1.2.1 v0.1.2.length x_v0.1.2.2]) (q_ldbP [.slice x_v0.1.1.1 v0.1.1.length x_v0.1.1.2, .slice x_v0.1.2.1 v0.1.2.length x_v0.1.2.2] ty35 rfl Has.here rfl rfl) ?_))
  obtain ⟨r7, h8, j6⟩ := bd.of j6
  refine Lin.o (q_call (c_spec_IndexOk v0.1 x_v0.1 h8) rfl (EntsB.cons (Ent.b (Ent.dimm Ent.z.s.s)) (EntsB.cons (Ent.b (Ent.dimm Ent.z.s)) EntsB.nil))) (Lin.p (p_not rfl) ?_)
  rcases Bool.eq_false_or_eq_true (!r7) with h9 | h9
  ·have j6 := cdT h9 j6
   refine Lin.e_ (p_move rfl) h9 ?_
   iterate 4 refine Lin.sk rfl ?_
   refine Lin.p (v := .bool (true)) (p_pickT rfl rfl) (Lin.m (v := .bool (true)) rfl ?_)
   iterate 4 refine Lin.sk rfl ?_
   refine Lin.p (v := .bool (true)) (p_pickT rfl rfl) ?_
   obtain rfl := si j6
   show At _ _ _ _ _ _
   exact n1 ⟨rfl, rfl, rfl, trivial⟩
  ·have j6 := cdF h9 j6
   refine Lin.e_ (p_move rfl) h9 (Lin.h rfl (p_fabE fa39_1 rfl rfl) (Lin.i rfl (q_ldb ty36 rfl Has.here rfl) (Lin.h rfl (p_len 72 Tryz.underlying36 rfl) (Lin.h rfl (p_gtr rfl rfl) (Lin.p (p_pickF rfl rfl) ?_)))))
   rcases Bool.eq_false_or_eq_true (decide (6 < (v0.2.1.length : Int))) with h10 | h10
   ·have j6 := cdT h10 j6
    refine Lin.e_ (p_move rfl) h10 ?_
    iterate 4 refine Lin.sk rfl ?_
    refine Lin.p (v := .bool (true)) (p_pickT rfl rfl) ?_
    obtain rfl := si j6
    show At _ _ _ _ _ _
    exact n1 ⟨rfl, rfl, rfl, trivial⟩
   ·have j6 := cdF h10 j6
    refine Lin.e_ (p_move rfl) h10 (Lin.h rfl (p_fabE fa39_2 rfl rfl) (Lin.i rfl (q_ldb ty37 rfl Has.here rfl) (Lin.h rfl (p_len 75 Tryz.underlying37 rfl) (Lin.h rfl (p_gtr rfl rfl) (Lin.p (p_pickF rfl rfl) ?_)))))
    obtain rfl := si j6
    show At _ _ _ _ _ _
    exact n1 ⟨rfl, rfl, rfl, trivial⟩
 refine Tr.cond (b := b5) rfl (fun h11 => ?_) (fun h11 => ?_)
 ·have H := cdT h11 H
  refine Tr.seq (Tr.region (Rg.a (v := .bool (false)) rfl (Rg.nl (nT (?_)))))
  refine tRet (rT (?_))
  obtain rfl := si H
  exact bk1 rfl rfl rfl rfl Take.nil
 ·have H := cdF h11 H
  refine tSkip (nT (?_))
  refine Tr.seq (Tr.seq (Tr.region (Rg.a (v := .int .i64 (0)) rfl (Rg.nl (nT (?_))))))
  obtain ⟨x12, hx13, H⟩ := bd.of H
  obtain ⟨n14, hx13⟩ := lp.of hx13
  refine tMidNC (ι := { q : (Unit) × Unit // x12 = .inl q.1 }) (fun ψ => [(1, .pointer (some ⟨g4, 0, none⟩)), (3, .int .i64 ((v0.1.1.length : Int)))]) (fun ψ => [box g4 39 [.slice x_v0.1.1.1 v0.1.1.length x_v0.1.1.2, .slice x_v0.1.2.1 v0.1.2.length x_v0.1.2.2, .slice x_v0.2.1.1 v0.2.1.length x_v0.2.1.2, .slice x_v0.2.2.1 v0.2.2.length x_v0.2.2.2]]) ?_ ?_
  ·refine Tr.block (tLoopC (ι := { q : Nat × (Int) × Unit // itr (p_spec_StoreOk_b0 v0) q.1 q.2.1 = some x12 }) (fun ζ => [(1, .pointer (some ⟨g4, 0, none⟩)), (3, .int .i64 ((v0.1.1.length : Int))), (4, .int .i64 (ζ.1.2.1))]) (fun ζ => [box g4 39 [.slice x_v0.1.1.1 v0.1.1.length x_v0.1.1.2, .slice x_v0.1.2.1 v0.1.2.length x_v0.1.2.2, .slice x_v0.2.1.1 v0.2.1.length x_v0.2.1.2, .slice x_v0.2.2.1 v0.2.2.length x_v0.2.2.2]]) (fun ζ => ζ.1.1) ⟨(n14, 0, ()), hx13⟩ ⟨rfl, rfl, rfl, trivial⟩ (.cons Del.here .nil) ?_)
   rintro ⟨⟨m15, Q16, z17⟩, hk22⟩
   obtain ⟨m23, t19, e, H1, hi20, hb21⟩ := itr.of (n := m15) (s := Q16) hk22
   subst e; unfold p_spec_StoreOk_b0 at H1
   show Tr _ _ _ _ _ [(1, .pointer (some ⟨g4, 0, none⟩)), (3, .int .i64 ((v0.1.1.length : Int))), (4, .int .i64 (Q16))] _ [box g4 39 [.slice x_v0.1.1.1 v0.1.1.length x_v0.1.1.2, .slice x_v0.1.2.1 v0.1.2.length x_v0.1.2.2, .slice x_v0.2.1.1 v0.2.1.length x_v0.2.1.2, .slice x_v0.2.2.1 v0.2.2.length x_v0.2.2.2]]
   refine Tr.seq (Tr.seq (Tr.region (Rg.m rfl (Rg.p (p_fabE fa39_1 rfl rfl) (Rg.o (q_ldb ty36 rfl Has.here rfl) ?_)))))
   refine Rg.p (p_len 72 Tryz.underlying36 rfl) (Rg.p (p_lss rfl rfl) (Rg.nl (nT (?_))))
   refine Tr.cond (b := decide (Q16 < (v0.2.1.length : Int))) rfl (fun h24 => ?_) (fun h24 => ?_)
   ·have H1 := cdT h24 H1
    refine tSkip (nT (?_))
    refine Tr.seq (Tr.block (Tr.seq (Tr.region (Rg.p (p_fabE fa39_1 rfl rfl) (Rg.o (q_ldb ty36 rfl Has.here rfl) ?_)))))
    refine Rg.m rfl ?_
    obtain ⟨h25, H1⟩ := gd.of H1
    refine Rg.o (q_ixg Tryz.underlying36 ty72 rfl rfl h25 rfl (Ent.b (Ent.darr Ent.z))) (Rg.o (v := .agg #[.slice (((X3 Q16.toNat).1).1) (((nth v0.2.1 Q16.toNat).1).length) (((X3 Q16.toNat).1).2.1), .slice (((X3 Q16.toNat).2).1) (((nth v0.2.1 Q16.toNat).2).length) (((X3 Q16.toNat).2).2.1)]) (q_ldeA (i := Q16.toNat) ty72 rfl (Ent.b (Ent.darr Ent.z)) h25.lt) (Rg.m rfl ?_))
    obtain ⟨r26, h27, H1⟩ := bd.of H1
    refine Rg.o (q_call (c_spec_l13Part (nth v0.2.1 Q16.toNat) ((((X3 Q16.toNat).1).1, ((X3 Q16.toNat).1).2.1), (((X3 Q16.toNat).2).1, ((X3 Q16.toNat).2).2.1)) (v0.1.1.length : Int) h27) rfl (EntsB.cons (Ent.b (Ent.dimm (Ent.dfst (Ent.del Ent.z h25.lt)))) (EntsB.cons (Ent.b (Ent.dimm (Ent.dsnd (Ent.del Ent.z h25.lt)))) EntsB.nil))) (Rg.p (p_not rfl) (Rg.nl (nT (?_))))
    refine Tr.cond (b := !r26) rfl (fun h28 => ?_) (fun h28 => ?_)
    ·have H1 := cdT h28 H1
     refine Tr.seq (Tr.region (Rg.a (v := .bool (false)) rfl (Rg.nl (nT (?_)))))
     refine tRet (rB (rT (rT (rB (rT (rT (?_)))))))
     have hx := hb21 _ (Option.some.inj H1).symm; subst hx
     replace H := sw.r H
     obtain rfl := si H
     exact bk1 rfl rfl rfl rfl Take.nil
    ·have H1 := cdF h28 H1
     refine tSkip (nB (nT (?_)))
     refine Tr.region (Rg.m rfl ?_)
     obtain ⟨h29, H1⟩ := gd.of H1
     refine Rg.p (p_add rfl rfl h29) (Rg.a rfl (Rg.nl ?_))
     exact nLC ⟨(m23, Q16 + 1, ()), hi20 _ (Option.some.inj H1).symm⟩ (Nat.lt_succ_self _) ⟨rfl, rfl, rfl, trivial⟩ Ents.refl (.cons Del.here .nil)
   ·have H1 := cdF h24 H1
    refine tExit (xT (xT (xE (?_))))
    exact nMC ⟨((), ()), (hb21 _ (Option.some.inj H1).symm).symm⟩ ⟨rfl, rfl, trivial⟩ Ents.refl (.cons Del.here .nil)
  ·rintro ⟨⟨e30, y18⟩, hx⟩; subst hx; replace H := sw.l H
   show At _ _ [(1, .pointer (some ⟨g4, 0, none⟩)), (3, .int .i64 ((v0.1.1.length : Int)))] _ [box g4 39 [.slice x_v0.1.1.1 v0.1.1.length x_v0.1.1.2, .slice x_v0.1.2.1 v0.1.2.length x_v0.1.2.2, .slice x_v0.2.1.1 v0.2.1.length x_v0.2.1.2, .slice x_v0.2.2.1 v0.2.2.length x_v0.2.2.2]] _
   refine nT (?_)
   refine Tr.seq (Tr.seq (Tr.region (Rg.a (v := .int .i64 (0)) rfl (Rg.nl (nT (?_))))))
   obtain ⟨x31, hx32, H⟩ := bd.of H
   obtain ⟨n33, hx32⟩ := lp.of hx32
   refine tMidNC (ι := { q : (Unit) × Unit // x31 = .inl q.1 }) (fun ψ => [(1, .pointer (some ⟨g4, 0, none⟩)), (3, .int .i64 ((v0.1.1.length : Int)))]) (fun ψ => [box g4 39 [.slice x_v0.1.1.1 v0.1.1.length x_v0.1.1.2, .slice x_v0.1.2.1 v0.1.2.length x_v0.1.2.2, .slice x_v0.2.1.1 v0.2.1.length x_v0.2.1.2, .slice x_v0.2.2.1 v0.2.2.length x_v0.2.2.2]]) ?_ ?_
   ·refine Tr.block (tLoopC (ι := { q : Nat × (Int) × Unit // itr (p_spec_StoreOk_b1 v0) q.1 q.2.1 = some x31 }) (fun ζ => [(1, .pointer (some ⟨g4, 0, none⟩)), (3, .int .i64 ((v0.1.1.length : Int))), (5, .int .i64 (ζ.1.2.1))]) (fun ζ => [box g4 39 [.slice x_v0.1.1.1 v0.1.1.length x_v0.1.1.2, .slice x_v0.1.2.1 v0.1.2.length x_v0.1.2.2, .slice x_v0.2.1.1 v0.2.1.length x_v0.2.1.2, .slice x_v0.2.2.1 v0.2.2.length x_v0.2.2.2]]) (fun ζ => ζ.1.1) ⟨(n33, 0, ()), hx32⟩ ⟨rfl, rfl, rfl, trivial⟩ (.cons Del.here .nil) ?_)
    rintro ⟨⟨m34, Q35, z36⟩, hk41⟩
    obtain ⟨m42, t38, e, H1, hi39, hb40⟩ := itr.of (n := m34) (s := Q35) hk41
    subst e; unfold p_spec_StoreOk_b1 at H1
    show Tr _ _ _ _ _ [(1, .pointer (some ⟨g4, 0, none⟩)), (3, .int .i64 ((v0.1.1.length : Int))), (5, .int .i64 (Q35))] _ [box g4 39 [.slice x_v0.1.1.1 v0.1.1.length x_v0.1.1.2, .slice x_v0.1.2.1 v0.1.2.length x_v0.1.2.2, .slice x_v0.2.1.1 v0.2.1.length x_v0.2.1.2, .slice x_v0.2.2.1 v0.2.2.length x_v0.2.2.2]]
    refine Tr.seq (Tr.seq (Tr.region (Rg.m rfl (Rg.p (p_fabE fa39_2 rfl rfl) (Rg.o (q_ldb ty37 rfl Has.here rfl) ?_)))))
    refine Rg.p (p_len 75 Tryz.underlying37 rfl) (Rg.p (p_lss rfl rfl) (Rg.nl (nT (?_))))
    refine Tr.cond (b := decide (Q35 < (v0.2.2.length : Int))) rfl (fun h43 => ?_) (fun h43 => ?_)
    ·have H1 := cdT h43 H1
     refine tSkip (nT (?_))
     refine Tr.seq (Tr.block ?_)
     obtain ⟨b44, j45, H1⟩ := bd.of H1
     refine tMid1 [(67, .bool (b44)), (1, .pointer (some ⟨g4, 0, none⟩)), (3, .int .i64 ((v0.1.1.length : Int))), (5, .int .i64 (Q35))] ?_ ?_
     ·refine tLinT [(1, .pointer (some ⟨g4, 0, none⟩)), (3, .int .i64 ((v0.1.1.length : Int))), (5, .int .i64 (Q35))] ⟨rfl, rfl, rfl, trivial⟩ (Lin.p (p_fabE fa39_2 rfl rfl) (Lin.o (q_ldb ty37 rfl Has.here rfl) (Lin.m rfl ?_)))
      obtain ⟨h46, j45⟩ := gd.of j45
      refine Lin.o (q_ixg Tryz.underlying37 ty75 rfl rfl h46 rfl (EntB.flat (Ent.b Ent.z.s.s.s.s.s.s))) (Lin.o (q_faeE (j := 0) Q35.toNat fa75_0 rfl (EntB.flat (Ent.b Ent.z.s.s.s.s.s.s)) h46.lt rfl) (Lin.o (q_lde (i := Q35.toNat) (j := 0) ty3 rfl (EntB.flat (Ent.b Ent.z.s.s.s.s.s.s)) h46.lt rfl) (Lin.m rfl ?_)))
      obtain ⟨r47, h48, j45⟩ := bd.of j45
      refine Lin.o (q_call (c_spec_l6In ((nth v0.2.2 Q35.toNat).1) 1 (v0.1.1.length : Int) h48) rfl EntsB.nil) (Lin.p (p_not rfl) ?_)
      rcases Bool.eq_false_or_eq_true (!r47) with h49 | h49
      ·have j45 := cdT h49 j45
       refine Lin.e_ (p_move rfl) h49 ?_
       iterate 8 refine Lin.sk rfl ?_
       refine Lin.p (v := .bool (true)) (p_pickT rfl rfl) ?_
       obtain rfl := si j45
       show At _ _ _ _ _ _
       exact n1 ⟨rfl, rfl, rfl, rfl, trivial⟩
      ·have j45 := cdF h49 j45
       refine Lin.e_ (p_move rfl) h49 (Lin.h rfl (p_fabE fa39_2 rfl rfl) (Lin.i rfl (q_ldb ty37 rfl Has.here rfl) (Lin.h rfl (p_move rfl) (Lin.i rfl (q_ixg Tryz.underlying37 ty75 rfl rfl h46 rfl (EntB.flat (Ent.b Ent.z.s.s.s.s.s.s))) (Lin.i rfl (q_faeE (j := 0) Q35.toNat fa75_1 rfl (EntB.flat (Ent.b Ent.z.s.s.s.s.s.s)) h46.lt rfl) ?_)))))
       refine Lin.i (v := .agg #[.int .i64 (((nth v0.2.2 Q35.toNat).2).1), .int .i64 (((nth v0.2.2 Q35.toNat).2).2)]) rfl (q_ldeP [.int .i64 (((nth v0.2.2 Q35.toNat).2).1), .int .i64 (((nth v0.2.2 Q35.toNat).2).2)] (l := v0.2.2) (E := fun i => Flat.enc (nth v0.2.2 i)) (oa := x_v0.2.2.1) (i := Q35.toNat) (j := 1) ty58 rfl (EntB.flat (Ent.b Ent.z.s.s.s.s.s.s)) h46.lt rfl rfl) ?_
       obtain ⟨r50, h51, j45⟩ := bd.of j45
       refine Lin.i rfl (q_call (c_spec_l2Row ((nth v0.2.2 Q35.toNat).2) h51) rfl EntsB.nil) (Lin.h rfl (p_not rfl) (Lin.p (p_pickF rfl rfl) ?_))
       obtain rfl := si j45
       show At _ _ _ _ _ _
       exact n1 ⟨rfl, rfl, rfl, rfl, trivial⟩
     refine Tr.cond (b := b44) rfl (fun h52 => ?_) (fun h52 => ?_)
     ·have H1 := cdT h52 H1
      refine Tr.seq (Tr.region (Rg.a (v := .bool (false)) rfl (Rg.nl (nT (?_)))))
      refine tRet (rB (rT (rT (rB (rT (rT (?_)))))))
      have hx := hb40 _ (Option.some.inj H1).symm; subst hx
      replace H := sw.r H
      obtain rfl := si H
      exact bk1 rfl rfl rfl rfl Take.nil
     ·have H1 := cdF h52 H1
      refine tSkip (nB (nT (?_)))
      refine Tr.region (Rg.m rfl ?_)
      obtain ⟨h53, H1⟩ := gd.of H1
      refine Rg.p (p_add rfl rfl h53) (Rg.a rfl (Rg.nl ?_))
      exact nLC ⟨(m42, Q35 + 1, ()), hi39 _ (Option.some.inj H1).symm⟩ (Nat.lt_succ_self _) ⟨rfl, rfl, rfl, trivial⟩ Ents.refl (.cons Del.here .nil)
    ·have H1 := cdF h43 H1
     refine tExit (xT (xT (xE (?_))))
     exact nMC ⟨((), ()), (hb40 _ (Option.some.inj H1).symm).symm⟩ ⟨rfl, rfl, trivial⟩ Ents.refl (.cons Del.here .nil)
   ·rintro ⟨⟨e54, y37⟩, hx⟩; subst hx; replace H := sw.l H
    show At _ _ [(1, .pointer (some ⟨g4, 0, none⟩)), (3, .int .i64 ((v0.1.1.length : Int)))] _ [box g4 39 [.slice x_v0.1.1.1 v0.1.1.length x_v0.1.1.2, .slice x_v0.1.2.1 v0.1.2.length x_v0.1.2.2, .slice x_v0.2.1.1 v0.2.1.length x_v0.2.1.2, .slice x_v0.2.2.1 v0.2.2.length x_v0.2.2.2]] _
    refine nT (?_)
    refine Tr.seq (Tr.seq (Tr.region (Rg.a (v := .int .i64 (1)) rfl (Rg.nl (nT (?_))))))
    obtain ⟨x55, hx56, H⟩ := bd.of H
    obtain ⟨n57, hx56⟩ := lp.of hx56
    refine tMidNC (ι := { q : (Unit) × Unit // x55 = .inl q.1 }) (fun ψ => []) (fun ψ => []) ?_ ?_
    ·refine Tr.block (tLoopC (ι := { q : Nat × (Int) × Unit // itr (p_spec_StoreOk_b2 v0) q.1 q.2.1 = some x55 }) (fun ζ => [(1, .pointer (some ⟨g4, 0, none⟩)), (3, .int .i64 ((v0.1.1.length : Int))), (6, .int .i64 (ζ.1.2.1))]) (fun ζ => [box g4 39 [.slice x_v0.1.1.1 v0.1.1.length x_v0.1.1.2, .slice x_v0.1.2.1 v0.1.2.length x_v0.1.2.2, .slice x_v0.2.1.1 v0.2.1.length x_v0.2.1.2, .slice x_v0.2.2.1 v0.2.2.length x_v0.2.2.2]]) (fun ζ => ζ.1.1) ⟨(n57, 1, ()), hx56⟩ ⟨rfl, rfl, rfl, trivial⟩ (.cons Del.here .nil) ?_)
     rintro ⟨⟨m58, Q59, z60⟩, hk65⟩
     obtain ⟨m66, t62, e, H1, hi63, hb64⟩ := itr.of (n := m58) (s := Q59) hk65
     subst e; unfold p_spec_StoreOk_b2 at H1
     show Tr _ _ _ _ _ [(1, .pointer (some ⟨g4, 0, none⟩)), (3, .int .i64 ((v0.1.1.length : Int))), (6, .int .i64 (Q59))] _ [box g4 39 [.slice x_v0.1.1.1 v0.1.1.length x_v0.1.1.2, .slice x_v0.1.2.1 v0.1.2.length x_v0.1.2.2, .slice x_v0.2.1.1 v0.2.1.length x_v0.2.1.2, .slice x_v0.2.2.1 v0.2.2.length x_v0.2.2.2]]
     refine Tr.seq (Tr.seq (Tr.region (Rg.m rfl (Rg.m rfl (Rg.p (p_leq rfl rfl) ?_)))))
     refine Rg.nl (nT (?_))
     refine Tr.cond (b := decide (Q59 ≤ (v0.1.1.length : Int))) rfl (fun h67 => ?_) (fun h67 => ?_)
     ·have H1 := cdT h67 H1
      refine tSkip (nT (?_))
      refine Tr.seq (Tr.block (Tr.seq (Tr.region (Rg.o (q_ldbA ty39 rfl Has.here rfl) (Rg.m rfl ?_)))))
      obtain ⟨r68, h69, H1⟩ := bd.of H1
      refine Rg.ef (e_callB (c_spec_l13Rows v0 x_v0 Q59 h69) (fun _ => (Solo.tree Solo.nil)) rfl (EntsB.cons (Ent.b (Ent.dimm Ent.z.s.s)) (EntsB.cons (Ent.b (Ent.dimm Ent.z.s)) (EntsB.cons (Ent.b (Ent.dimm Ent.z)) (EntsB.cons (Ent.b Ent.z.s.s.s.s.s.s) EntsB.nil))))) rfl ?_
      rintro _ _ _ ⟨x70, rfl, rfl, rfl⟩
      refine Rg.p (p_len 58 Tryz.underlying43 rfl) (Rg.p (p_gtr rfl rfl) (Rg.nl (nT (?_))))
      refine Tr.cond (b := decide (24 < (r68.length : Int))) rfl (fun h71 => ?_) (fun h71 => ?_)
      ·have H1 := cdT h71 H1
       refine Tr.seq (Tr.region (Rg.a (v := .bool (false)) rfl (Rg.nl (nT (?_)))))
       refine tRet (rB (rT (rT (rB (rT (rT (?_)))))))
       have hx := hb64 _ (Option.some.inj H1).symm; subst hx
       replace H := sw.r H
       obtain rfl := si H
       exact bk1 rfl rfl rfl rfl Take.nil
      ·have H1 := cdF h71 H1
       refine tSkip (nB (nT (?_)))
       refine Tr.region (Rg.m rfl ?_)
       obtain ⟨h72, H1⟩ := gd.of H1
       refine Rg.p (p_add rfl rfl h72) (Rg.a rfl (Rg.nl ?_))
       exact nLC ⟨(m66, Q59 + 1, ()), hi63 _ (Option.some.inj H1).symm⟩ (Nat.lt_succ_self _) ⟨rfl, rfl, rfl, trivial⟩ Ents.refl (.cons dl1 .nil)
     ·have H1 := cdF h67 H1
      refine tExit (xT (xT (xE (?_))))
      exact nMC ⟨((), ()), (hb64 _ (Option.some.inj H1).symm).symm⟩ trivial Ents.refl Take.nil
    ·rintro ⟨⟨e73, y61⟩, hx⟩; subst hx; replace H := sw.l H
     show At _ _ [] _ [] _
     refine nT (?_)
     refine Tr.seq (Tr.region (Rg.a (v := .bool (true)) rfl (Rg.nl (nT (?_)))))
     refine tRet ?_
     obtain rfl := si H
     exact bk1 rfl rfl rfl rfl Take.nil
noncomputable def p_impl_tagOk (v0 : Tag) : Option (Bool) := bd (cond (decide ((v0.1.size : Int) = 1)) (cond (!sless v0.1 (⟨#[97]⟩ : ByteArray)) (cond ((sless v0.1 (⟨#[100]⟩ : ByteArray) || decide (v0.1 = (⟨#[100]⟩ : ByteArray)))) (cond (decide ((v0.2.size : Int) = 1)) (cond (!sless v0.2 (⟨#[112]⟩ : ByteArray)) (some ((sless v0.2 (⟨#[122]⟩ : ByteArray) || decide (v0.2 = (⟨#[122]⟩ : ByteArray))))) (some (false))) (some (false))) (some (false))) (some (false))) (some (false))) fun b2 => some b2
theorem c_impl_tagOk {r : Bool} (v0 : Tag) (H : p_impl_tagOk v0 = some r) : Fn' Tryz.prog 113 #[.agg #[.string (v0.1), .string (v0.2)]] [] [] (ι := Unit) (fun _ => .bool (r)) (fun _ => []) (fun _ => []) := by
 refine calls_of (args := [_]) Tryz.func113 rfl (by kernel_rfl) Tryz.ntmps113 (by simp) fun c => ?_
 unfold p_impl_tagOk at H
 refine Tr.seq (Tr.region (Rg.ef (e_box (t := 96) rfl) rfl ?_))
 rintro _ _ _ ⟨g1, rfl, rfl, rfl⟩
 refine Rg.a (v := .bool (false)) rfl (Rg.nl (nT (?_)))
 obtain ⟨b2, j3, H⟩ := bd.of H
 refine tMid1 [(2, .bool (b2))] ?_ ?_
 ·refine tLinT [(1, .pointer (some ⟨g1, 0, none⟩))] ⟨rfl, trivial⟩ (Lin.p (p_fabE fa96_0 rfl rfl) (Lin.o (q_ldb ty9 rfl Has.here rfl) (Lin.p (p_slen Tryz.underlying9 rfl) (Lin.p (p_eql rfl rfl) ?_))))
  rcases Bool.eq_false_or_eq_true (decide ((v0.1.size : Int) = 1)) with h4 | h4
  ·have j3 := cdT h4 j3
   refine Lin.e_ (p_move rfl) h4 (Lin.h rfl (p_fabE fa96_0 rfl rfl) (Lin.i rfl (q_ldb ty9 rfl Has.here rfl) (Lin.h rfl (p_sgeq rfl rfl) (Lin.p (p_pickT rfl rfl) ?_))))
   rcases Bool.eq_false_or_eq_true (!sless v0.1 (⟨#[97]⟩ : ByteArray)) with h5 | h5
   ·have j3 := cdT h5 j3
    refine Lin.e_ (p_move rfl) h5 (Lin.h rfl (p_fabE fa96_0 rfl rfl) (Lin.i rfl (q_ldb ty9 rfl Has.here rfl) (Lin.h rfl (p_sleq rfl rfl) (Lin.p (p_pickT rfl rfl) ?_))))
    rcases Bool.eq_false_or_eq_true ((sless v0.1 (⟨#[100]⟩ : ByteArray) || decide (v0.1 = (⟨#[100]⟩ : ByteArray)))) with h6 | h6
    ·have j3 := cdT h6 j3
     refine Lin.e_ (p_move rfl) h6 (Lin.h rfl (p_fabE fa96_1 rfl rfl) (Lin.i rfl (q_ldb ty9 rfl Has.here rfl) (Lin.h rfl (p_slen Tryz.underlying9 rfl) (Lin.h rfl (p_eql rfl rfl) (Lin.p (p_pickT rfl rfl) ?_)))))
     rcases Bool.eq_false_or_eq_true (decide ((v0.2.size : Int) = 1)) with h7 | h7
     ·have j3 := cdT h7 j3
      refine Lin.e_ (p_move rfl) h7 (Lin.h rfl (p_fabE fa96_1 rfl rfl) (Lin.i rfl (q_ldb ty9 rfl Has.here rfl) (Lin.h rfl (p_sgeq rfl rfl) (Lin.p (p_pickT rfl rfl) ?_))))
      rcases Bool.eq_false_or_eq_true (!sless v0.2 (⟨#[112]⟩ : ByteArray)) with h8 | h8
      ·have j3 := cdT h8 j3
       refine Lin.e_ (p_move rfl) h8 (Lin.h rfl (p_fabE fa96_1 rfl rfl) (Lin.i rfl (q_ldb ty9 rfl Has.here rfl) (Lin.h rfl (p_sleq rfl rfl) (Lin.p (p_pickT rfl rfl) (Lin.p (p_assign rfl) ?_)))))
       obtain rfl := si j3
       show At _ _ _ _ _ _
       exact n1 ⟨rfl, trivial⟩
      ·have j3 := cdF h8 j3
       refine Lin.e_ (p_move rfl) h8 ?_
       iterate 3 refine Lin.sk rfl ?_
       refine Lin.p (v := .bool (false)) (p_pickF rfl rfl) (Lin.p (v := .bool (false)) (p_assign rfl) ?_)
       obtain rfl := si j3
       show At _ _ _ _ _ _
       exact n1 ⟨rfl, trivial⟩
     ·have j3 := cdF h7 j3
      refine Lin.e_ (p_move rfl) h7 ?_
      iterate 3 refine Lin.sk rfl ?_
      refine Lin.p (v := .bool (false)) (p_pickF rfl rfl) (Lin.m (v := .bool (false)) rfl ?_)
      iterate 3 refine Lin.sk rfl ?_
      refine Lin.p (v := .bool (false)) (p_pickF rfl rfl) (Lin.p (v := .bool (false)) (p_assign rfl) ?_)
      obtain rfl := si j3
      show At _ _ _ _ _ _
      exact n1 ⟨rfl, trivial⟩
    ·have j3 := cdF h6 j3
     refine Lin.e_ (p_move rfl) h6 ?_
     iterate 4 refine Lin.sk rfl ?_
     refine Lin.p (v := .bool (false)) (p_pickF rfl rfl) (Lin.m (v := .bool (false)) rfl ?_)
     iterate 3 refine Lin.sk rfl ?_
     refine Lin.p (v := .bool (false)) (p_pickF rfl rfl) (Lin.m (v := .bool (false)) rfl ?_)
     iterate 3 refine Lin.sk rfl ?_
     refine Lin.p (v := .bool (false)) (p_pickF rfl rfl) (Lin.p (v := .bool (false)) (p_assign rfl) ?_)
     obtain rfl := si j3
     show At _ _ _ _ _ _
     exact n1 ⟨rfl, trivial⟩
   ·have j3 := cdF h5 j3
    refine Lin.e_ (p_move rfl) h5 ?_
    iterate 3 refine Lin.sk rfl ?_
    refine Lin.p (v := .bool (false)) (p_pickF rfl rfl) (Lin.m (v := .bool (false)) rfl ?_)
    iterate 4 refine Lin.sk rfl ?_
    refine Lin.p (v := .bool (false)) (p_pickF rfl rfl) (Lin.m (v := .bool (false)) rfl ?_)
    iterate 3 refine Lin.sk rfl ?_
    refine Lin.p (v := .bool (false)) (p_pickF rfl rfl) (Lin.m (v := .bool (false)) rfl ?_)
    iterate 3 refine Lin.sk rfl ?_
    refine Lin.p (v := .bool (false)) (p_pickF rfl rfl) (Lin.p (v := .bool (false)) (p_assign rfl) ?_)
    obtain rfl := si j3
    show At _ _ _ _ _ _
    exact n1 ⟨rfl, trivial⟩
  ·have j3 := cdF h4 j3
   refine Lin.e_ (p_move rfl) h4 ?_
   iterate 3 refine Lin.sk rfl ?_
   refine Lin.p (v := .bool (false)) (p_pickF rfl rfl) (Lin.m (v := .bool (false)) rfl ?_)
   iterate 3 refine Lin.sk rfl ?_
   refine Lin.p (v := .bool (false)) (p_pickF rfl rfl) (Lin.m (v := .bool (false)) rfl ?_)
   iterate 4 refine Lin.sk rfl ?_
   refine Lin.p (v := .bool (false)) (p_pickF rfl rfl) (Lin.m (v := .bool (false)) rfl ?_)
   iterate 3 refine Lin.sk rfl ?_
   refine Lin.p (v := .bool (false)) (p_pickF rfl rfl) (Lin.m (v := .bool (false)) rfl ?_)
   iterate 3 refine Lin.sk rfl ?_
   refine Lin.p (v := .bool (false)) (p_pickF rfl rfl) (Lin.p (v := .bool (false)) (p_assign rfl) ?_)
   obtain rfl := si j3
   show At _ _ _ _ _ _
   exact n1 ⟨rfl, trivial⟩
 refine tRet ?_
 obtain rfl := si H
 exact bk1 rfl rfl rfl rfl Take.nil
noncomputable def p_impl_within (v0 : Int) (v1 : Int) (v2 : Int) : Option (Bool) := bd (cond (decide (v1 ≤ v0)) (some (decide (v0 ≤ v2))) (some (false))) fun b1 => some b1
theorem c_impl_within {r : Bool} (v0 : Int) (v1 : Int) (v2 : Int) (H : p_impl_within v0 v1 v2 = some r) : Fn' Tryz.prog 45 #[.int .i64 (v0), .int .i64 (v1), .int .i64 (v2)] [] [] (ι := Unit) (fun _ => .bool (r)) (fun _ => []) (fun _ => []) := by
 refine calls_of (args := [_, _, _]) Tryz.func45 rfl (by kernel_rfl) Tryz.ntmps45 (by simp) fun c => ?_
 unfold p_impl_within at H
 refine Tr.seq (Tr.region (Rg.a (v := .bool (false)) rfl (Rg.nl (nT (?_)))))
 obtain ⟨b1, j2, H⟩ := bd.of H
 refine tMid1 [(6, .bool (b1))] ?_ ?_
 ·refine tLinT [(0, .int .i64 (v0)), (1, .int .i64 (v1)), (2, .int .i64 (v2))] ⟨rfl, rfl, rfl, trivial⟩ (Lin.m rfl (Lin.m rfl (Lin.p (p_geq rfl rfl) ?_)))
  rcases Bool.eq_false_or_eq_true (decide (v1 ≤ v0)) with h3 | h3
  ·have j2 := cdT h3 j2
   refine Lin.e_ (p_move rfl) h3 (Lin.h rfl (p_move rfl) (Lin.h rfl (p_move rfl) (Lin.h rfl (p_leq rfl rfl) (Lin.p (p_pickT rfl rfl) (Lin.p (p_assign rfl) ?_)))))
   obtain rfl := si j2
   show At _ _ _ _ _ _
   exact n1 ⟨rfl, trivial⟩
  ·have j2 := cdF h3 j2
   refine Lin.e_ (p_move rfl) h3 ?_
   iterate 3 refine Lin.sk rfl ?_
   refine Lin.p (v := .bool (false)) (p_pickF rfl rfl) (Lin.p (v := .bool (false)) (p_assign rfl) ?_)
   obtain rfl := si j2
   show At _ _ _ _ _ _
   exact n1 ⟨rfl, trivial⟩
 refine tRet ?_
 obtain rfl := si H
 exact bk1 rfl rfl rfl rfl Take.nil
noncomputable def p_impl_NameOk_b0 (v0 : (List Tag)) (Q5 : Int) : Option ((Int) ⊕ (Unit ⊕ Bool)) := cond (decide (Q5 < (v0.length : Int))) (gd (ix Q5 v0.length) <| bd (bd (p_impl_tagOk (nth v0 Q5.toNat)) fun r18 => cond (!r18) (some (true)) (cond (decide (0 < Q5)) (gd (I64 (Q5 - 1)) <| gd (ix (Q5 - 1) v0.length) <| some (!sless ((nth v0 ((Q5 - 1).toNat)).1) ((nth v0 Q5.toNat).1))) (some (false)))) fun b16 => cond (b16) (some (.inr (.inr false))) (gd (I64 (Q5 + 1)) <| some (.inl (Q5 + 1)))) (some (.inr (.inl ())))
noncomputable def p_impl_NameOk (v0 : (List Tag)) : Option (Bool) := bd (lp (p_impl_NameOk_b0 v0) 0) <| sw (fun _ => bd (p_impl_within (v0.length : Int) 1 3) fun r27 => some r27) (fun q => some q)
theorem c_impl_NameOk {r : Bool} (v0 : (List Tag)) (x_v0 : Option Addr × Nat) (H : p_impl_NameOk v0 = some r) : Fn' Tryz.prog 66 #[.slice x_v0.1 v0.length x_v0.2] [imm (.slice x_v0.1 v0.length x_v0.2) v0] [] (ι := Unit) (fun _ => .bool (r)) (fun _ => []) (fun _ => []) := by
 refine calls_of (args := [_]) Tryz.func66 rfl (by kernel_rfl) Tryz.ntmps66 (by simp) fun c => ?_
 unfold p_impl_NameOk at H
 refine Tr.seq (Tr.region (Rg.a (v := .bool (false)) rfl (Rg.nl (nT (?_)))))
 refine Tr.seq (Tr.seq (Tr.region (Rg.m rfl (Rg.p (p_len 96 Tryz.underlying56 rfl) (Rg.m (v := .int .i64 (0)) rfl ?_)))))
 refine Rg.nl (nT (?_))
 obtain ⟨x1, hx2, H⟩ := bd.of H
 obtain ⟨n3, hx2⟩ := lp.of hx2
 refine tMidNC (ι := { q : (Unit) × Unit // x1 = .inl q.1 }) (fun ψ => [(0, .slice x_v0.1 v0.length x_v0.2)]) (fun ψ => []) ?_ ?_
 ·refine Tr.block (tLoopC (ι := { q : Nat × (Int) × Unit // itr (p_impl_NameOk_b0 v0) q.1 q.2.1 = some x1 }) (fun ζ => [(0, .slice x_v0.1 v0.length x_v0.2), (5, .slice x_v0.1 v0.length x_v0.2), (6, .int .i64 ((v0.length : Int))), (7, .int .i64 (ζ.1.2.1))]) (fun ζ => []) (fun ζ => ζ.1.1) ⟨(n3, 0, ()), hx2⟩ ⟨rfl, rfl, rfl, rfl, trivial⟩ Take.nil ?_)
  rintro ⟨⟨m4, Q5, z6⟩, hk11⟩
  obtain ⟨m12, t8, e, H1, hi9, hb10⟩ := itr.of (n := m4) (s := Q5) hk11
  subst e; unfold p_impl_NameOk_b0 at H1
  show Tr _ _ _ _ _ [(0, .slice x_v0.1 v0.length x_v0.2), (5, .slice x_v0.1 v0.length x_v0.2), (6, .int .i64 ((v0.length : Int))), (7, .int .i64 (Q5))] _ []
  refine Tr.seq (Tr.region (Rg.p (p_lss rfl rfl) (Rg.nl (nT (?_)))))
  refine Tr.seq (Tr.cond (b := decide (Q5 < (v0.length : Int))) rfl (fun h13 => ?_) (fun h13 => ?_))
  ·have H1 := cdT h13 H1
   refine tSkip (nT (?_))
   refine Tr.seq (Tr.block (Tr.seq (Tr.region (Rg.m rfl ?_))))
   obtain ⟨h14, H1⟩ := gd.of H1
   refine Rg.o (q_ixg Tryz.underlying56 ty96 rfl rfl h14 rfl (EntB.flat (Ent.b Ent.z))) (Rg.o (v := .agg #[.string ((nth v0 Q5.toNat).1), .string ((nth v0 Q5.toNat).2)]) (q_ldeA (i := Q5.toNat) ty96 rfl (EntB.flat (Ent.b Ent.z)) h14.lt) (Rg.ef (e_alloc ty96) rfl ?_))
   rintro _ _ _ ⟨g15, rfl, rfl, rfl⟩
   refine Rg.a rfl (Rg.en (e_store (cs' := [.string ((nth v0 Q5.toNat).1), .string ((nth v0 Q5.toNat).2)]) ty96 rfl rfl Upd.here rfl (one_of rfl) (Nat.le_of_ble_eq_true rfl) rfl) rfl ?_)
   rintro _ _ _ ⟨rfl, rfl, rfl⟩
   refine Rg.nl (nT (?_))
   obtain ⟨b16, j17, H1⟩ := bd.of H1
   refine tMid1 [(29, .bool (b16)), (0, .slice x_v0.1 v0.length x_v0.2), (5, .slice x_v0.1 v0.length x_v0.2), (6, .int .i64 ((v0.length : Int))), (7, .int .i64 (Q5))] ?_ ?_
   ·refine tLinS [(3, .int .i64 (Q5)), (4, .pointer (some ⟨g15, 0, none⟩)), (0, .slice x_v0.1 v0.length x_v0.2), (5, .slice x_v0.1 v0.length x_v0.2), (6, .int .i64 ((v0.length : Int))), (7, .int .i64 (Q5))] Tryz.mixed (.inr (by kernel_rfl)) ⟨rfl, rfl, rfl, rfl, rfl, rfl, trivial⟩ rfl (Lin.o (q_ldbA ty96 rfl Has.here rfl) ?_)
    obtain ⟨r18, h19, j17⟩ := bd.of j17
    refine Lin.o (q_call (c_impl_tagOk (nth v0 Q5.toNat) h19) rfl EntsB.nil) (Lin.p (p_not rfl) ?_)
    rcases Bool.eq_false_or_eq_true (!r18) with h20 | h20
    ·have j17 := cdT h20 j17
     refine Lin.e_ (p_move rfl) h20 ?_
     iterate 13 refine Lin.sk rfl ?_
     refine Lin.p (v := .bool (true)) (p_pickT rfl rfl) ?_
     obtain rfl := si j17
     show At _ _ _ _ _ _
     exact n1 ⟨rfl, rfl, rfl, rfl, rfl, trivial⟩
    ·have j17 := cdF h20 j17
     refine Lin.e_ (p_move rfl) h20 (Lin.h rfl (p_move rfl) (Lin.h rfl (p_gtr rfl rfl) ?_))
     rcases Bool.eq_false_or_eq_true (decide (0 < Q5)) with h21 | h21
     ·have j17 := cdT h21 j17
      refine Lin.f_ rfl (p_move rfl) h21 (Lin.h rfl (p_move rfl) (Lin.h rfl (p_move rfl) ?_))
      obtain ⟨h22, j17⟩ := gd.of j17
      refine Lin.h rfl (p_sub rfl rfl h22) ?_
      obtain ⟨h23, j17⟩ := gd.of j17
      refine Lin.i rfl (q_ixg Tryz.underlying56 ty96 rfl rfl h23 rfl (EntB.flat (Ent.b Ent.z))) (Lin.i rfl (q_faeE (j := 0) ((Q5 - 1).toNat) fa96_0 rfl (EntB.flat (Ent.b Ent.z)) h23.lt rfl) (Lin.i rfl (q_lde (i := (Q5 - 1).toNat) (j := 0) ty9 rfl (EntB.flat (Ent.b Ent.z)) h23.lt rfl) (Lin.h rfl (p_fabE fa96_0 rfl rfl) (Lin.i rfl (q_ldb ty9 rfl Has.here rfl) (Lin.h rfl (p_sgeq rfl rfl) ?_)))))
      refine Lin.h rfl (p_pickT rfl rfl) (Lin.p (p_pickF rfl rfl) ?_)
      obtain rfl := si j17
      show At _ _ _ _ _ _
      exact n1 ⟨rfl, rfl, rfl, rfl, rfl, trivial⟩
     ·have j17 := cdF h21 j17
      refine Lin.f_ rfl (p_move rfl) h21 ?_
      iterate 9 refine Lin.sk rfl ?_
      refine Lin.h (v := .bool (false)) rfl (p_pickF rfl rfl) (Lin.p (v := .bool (false)) (p_pickF rfl rfl) ?_)
      obtain rfl := si j17
      show At _ _ _ _ _ _
      exact n1 ⟨rfl, rfl, rfl, rfl, rfl, trivial⟩
   refine Tr.cond (b := b16) rfl (fun h24 => ?_) (fun h24 => ?_)
   ·have H1 := cdT h24 H1
    refine Tr.seq (Tr.region (Rg.a (v := .bool (false)) rfl (Rg.nl (nT (?_)))))
    refine tRet (rB (rT (rT (rB (rT (rT (?_)))))))
    have hx := hb10 _ (Option.some.inj H1).symm; subst hx
    replace H := sw.r H
    obtain rfl := si H
    exact bk1 rfl rfl rfl rfl Take.nil
   ·have H1 := cdF h24 H1
    refine tSkip (nB (nT (?_)))
    refine Tr.region ?_
    obtain ⟨h25, H1⟩ := gd.of H1
    refine Rg.p (p_add rfl rfl h25) (Rg.m rfl (Rg.nl ?_))
    exact nLC ⟨(m12, Q5 + 1, ()), hi9 _ (Option.some.inj H1).symm⟩ (Nat.lt_succ_self _) ⟨rfl, rfl, rfl, rfl, trivial⟩ Ents.refl Take.nil
  ·have H1 := cdF h13 H1
   refine tExit (xT (xT (xE (?_))))
   exact nMC ⟨((), ()), (hb10 _ (Option.some.inj H1).symm).symm⟩ ⟨rfl, trivial⟩ Ents.refl Take.nil
 ·rintro ⟨⟨e26, y7⟩, hx⟩; subst hx; replace H := sw.l H
  show At _ _ [(0, .slice x_v0.1 v0.length x_v0.2)] _ [] _
  refine nT (?_)
  refine Tr.seq (Tr.region (Rg.m rfl (Rg.p (p_len 96 Tryz.underlying56 rfl) ?_)))
  obtain ⟨r27, h28, H⟩ := bd.of H
  refine Rg.o (q_call (c_impl_within (v0.length : Int) 1 3 h28) rfl EntsB.nil) (Rg.a rfl (Rg.nl (nT (?_))))
  refine tRet ?_
  obtain rfl := si H
  exact bk1 rfl rfl rfl rfl Take.nil
noncomputable def p_slices_Equal_Tag_Tag_b0 (v0 : (List Tag)) (v1 : (List Tag)) (Q6 : Int) : Option ((Int) ⊕ (Unit ⊕ Bool)) := cond (decide (Q6 < (v0.length : Int))) (gd (ix Q6 v0.length) <| gd (ix Q6 v1.length) <| cond (!decide (nth v0 Q6.toNat = nth v1 Q6.toNat)) (some (.inr (.inr false))) (gd (I64 (Q6 + 1)) <| some (.inl (Q6 + 1)))) (some (.inr (.inl ())))
noncomputable def p_slices_Equal_Tag_Tag (v0 : (List Tag)) (v1 : (List Tag)) : Option (Bool) := cond (!decide ((v0.length : Int) = (v1.length : Int))) (some false) (bd (lp (p_slices_Equal_Tag_Tag_b0 v0 v1) 0) <| sw (fun _ => some true) (fun q => some q))
theorem c_slices_Equal_Tag_Tag {r : Bool} (v0 : (List Tag)) (x_v0 : Option Addr × Nat) (v1 : (List Tag)) (x_v1 : Option Addr × Nat) (H : p_slices_Equal_Tag_Tag v0 v1 = some r) : Fn' Tryz.prog 144 #[.slice x_v0.1 v0.length x_v0.2, .slice x_v1.1 v1.length x_v1.2] [imm (.slice x_v0.1 v0.length x_v0.2) v0, imm (.slice x_v1.1 v1.length x_v1.2) v1] [] (ι := Unit) (fun _ => .bool (r)) (fun _ => []) (fun _ => []) := by
 refine calls_of (args := [_, _]) Tryz.func144 rfl (by kernel_rfl) Tryz.ntmps144 (by simp) fun c => ?_
 unfold p_slices_Equal_Tag_Tag at H
 refine Tr.seq (Tr.region (Rg.a (v := .bool (false)) rfl (Rg.nl (nT (?_)))))
 refine Tr.seq (Tr.seq (Tr.region (Rg.m rfl (Rg.p (p_len 96 Tryz.underlying56 rfl) (Rg.m rfl ?_)))))
 refine Rg.p (p_len 96 Tryz.underlying56 rfl) (Rg.p (p_neq rfl rfl) (Rg.nl (nT (?_))))
 refine Tr.cond (b := !decide ((v0.length : Int) = (v1.length : Int))) rfl (fun h1 => ?_) (fun h1 => ?_)
 ·have H := cdT h1 H
  refine Tr.seq (Tr.region (Rg.a (v := .bool (false)) rfl (Rg.nl (nT (?_)))))
  refine tRet (rT (?_))
  obtain rfl := si H
  exact bk1 rfl rfl rfl rfl Take.nil
 ·have H := cdF h1 H
  refine tSkip (nT (?_))
  refine Tr.seq (Tr.seq (Tr.region (Rg.m rfl (Rg.p (p_len 96 Tryz.underlying56 rfl) (Rg.m (v := .int .i64 (0)) rfl ?_)))))
  refine Rg.nl (nT (?_))
  obtain ⟨x2, hx3, H⟩ := bd.of H
  obtain ⟨n4, hx3⟩ := lp.of hx3
  refine tMidNC (ι := { q : (Unit) × Unit // x2 = .inl q.1 }) (fun ψ => []) (fun ψ => []) ?_ ?_
  ·refine Tr.block (tLoopC (ι := { q : Nat × (Int) × Unit // itr (p_slices_Equal_Tag_Tag_b0 v0 v1) q.1 q.2.1 = some x2 }) (fun ζ => [(0, .slice x_v0.1 v0.length x_v0.2), (1, .slice x_v1.1 v1.length x_v1.2), (12, .int .i64 ((v0.length : Int))), (13, .int .i64 (ζ.1.2.1))]) (fun ζ => []) (fun ζ => ζ.1.1) ⟨(n4, 0, ()), hx3⟩ ⟨rfl, rfl, rfl, rfl, trivial⟩ Take.nil ?_)
   rintro ⟨⟨m5, Q6, z7⟩, hk12⟩
   obtain ⟨m13, t9, e, H1, hi10, hb11⟩ := itr.of (n := m5) (s := Q6) hk12
   subst e; unfold p_slices_Equal_Tag_Tag_b0 at H1
   show Tr _ _ _ _ _ [(0, .slice x_v0.1 v0.length x_v0.2), (1, .slice x_v1.1 v1.length x_v1.2), (12, .int .i64 ((v0.length : Int))), (13, .int .i64 (Q6))] _ []
   refine Tr.seq (Tr.region (Rg.p (p_lss rfl rfl) (Rg.nl (nT (?_)))))
   refine Tr.seq (Tr.cond (b := decide (Q6 < (v0.length : Int))) rfl (fun h14 => ?_) (fun h14 => ?_))
   ·have H1 := cdT h14 H1
    refine tSkip (nT (?_))
    refine Tr.seq (Tr.block (Tr.seq (Tr.region (Rg.m rfl (Rg.a rfl ?_)))))
    refine Rg.nl (nT (?_))
    refine Tr.seq (tLinS [(5, .int .i64 (Q6)), (0, .slice x_v0.1 v0.length x_v0.2), (1, .slice x_v1.1 v1.length x_v1.2), (12, .int .i64 ((v0.length : Int))), (13, .int .i64 (Q6))] Tryz.mixed (.inr (by kernel_rfl)) ⟨rfl, rfl, rfl, rfl, rfl, trivial⟩ rfl (Lin.m rfl (Lin.m rfl ?_)))
    obtain ⟨h15, H1⟩ := gd.of H1
    refine Lin.o (q_ixg Tryz.underlying56 ty96 rfl rfl h15 rfl (EntB.flat (Ent.b Ent.z))) (Lin.o (v := .agg #[.string ((nth v0 Q6.toNat).1), .string ((nth v0 Q6.toNat).2)]) (q_ldeA (i := Q6.toNat) ty96 rfl (EntB.flat (Ent.b Ent.z)) h15.lt) (Lin.m rfl (Lin.m rfl ?_)))
    obtain ⟨h16, H1⟩ := gd.of H1
    refine Lin.o (q_ixg Tryz.underlying56 ty96 rfl rfl h16 rfl (EntB.flat (Ent.b Ent.z.s))) (Lin.o (v := .agg #[.string ((nth v1 Q6.toNat).1), .string ((nth v1 Q6.toNat).2)]) (q_ldeA (i := Q6.toNat) ty96 rfl (EntB.flat (Ent.b Ent.z.s)) h16.lt) (Lin.p (v := .bool (!decide (nth v0 Q6.toNat = nth v1 Q6.toNat))) (p_aneq (a := nth v0 Q6.toNat) (b := nth v1 Q6.toNat) ae96 rfl rfl rfl rfl) ?_))
    show At _ _ _ _ _ _
    refine nT (?_)
    refine Tr.cond (b := !decide (nth v0 Q6.toNat = nth v1 Q6.toNat)) rfl (fun h17 => ?_) (fun h17 => ?_)
    ·have H1 := cdT h17 H1
     refine Tr.seq (Tr.region (Rg.a (v := .bool (false)) rfl (Rg.nl (nT (?_)))))
     refine tRet (rB (rT (rT (rB (rT (rT (?_)))))))
     have hx := hb11 _ (Option.some.inj H1).symm; subst hx
     replace H := sw.r H
     obtain rfl := si H
     exact bk1 rfl rfl rfl rfl Take.nil
    ·have H1 := cdF h17 H1
     refine tSkip (nB (nT (?_)))
     refine Tr.region ?_
     obtain ⟨h18, H1⟩ := gd.of H1
     refine Rg.p (p_add rfl rfl h18) (Rg.m rfl (Rg.nl ?_))
     exact nLC ⟨(m13, Q6 + 1, ()), hi10 _ (Option.some.inj H1).symm⟩ (Nat.lt_succ_self _) ⟨rfl, rfl, rfl, rfl, trivial⟩ Ents.refl Take.nil
   ·have H1 := cdF h14 H1
    refine tExit (xT (xT (xE (?_))))
    exact nMC ⟨((), ()), (hb11 _ (Option.some.inj H1).symm).symm⟩ trivial Ents.refl Take.nil
  ·rintro ⟨⟨e19, y8⟩, hx⟩; subst hx; replace H := sw.l H
   show At _ _ [] _ [] _
   refine nT (?_)
   refine Tr.seq (Tr.region (Rg.a (v := .bool (true)) rfl (Rg.nl (nT (?_)))))
   refine tRet ?_
   obtain rfl := si H
   exact bk1 rfl rfl rfl rfl Take.nil
noncomputable def p_impl_numberOf_1 (v0 : (List Tag)) (k0 : (List Tag)) : Option (Bool) := bd (p_slices_Equal_Tag_Tag v0 k0) fun r1 => some r1
theorem c_impl_numberOf_1 {r : Bool} (v0 : (List Tag)) (x_v0 : Option Addr × Nat) (g_k0 : Nat) (k0 : (List Tag)) (x_k0 : Option Addr × Nat) (H : p_impl_numberOf_1 v0 k0 = some r) : Fn' Tryz.prog 143 #[.slice x_v0.1 v0.length x_v0.2, .pointer (some ⟨g_k0, 0, none⟩)] [imm (.slice x_v0.1 v0.length x_v0.2) v0, imm (.slice x_k0.1 k0.length x_k0.2) k0] [box g_k0 56 [.slice x_k0.1 k0.length x_k0.2]] (ι := Unit) (fun _ => .bool (r)) (fun _ => []) (fun _ => [box g_k0 56 [.slice x_k0.1 k0.length x_k0.2]]) := by
 refine calls_of (args := [_, _]) Tryz.func143 rfl (by kernel_rfl) Tryz.ntmps143 (by simp) fun c => ?_
 unfold p_impl_numberOf_1 at H
 refine Tr.seq (Tr.region (Rg.a (v := .bool (false)) rfl (Rg.nl (nT (?_)))))
 refine Tr.seq (Tr.region (Rg.m rfl (Rg.o (q_ldb ty56 rfl Has.here rfl) ?_)))
 obtain ⟨r1, h2, H⟩ := bd.of H
 refine Rg.o (q_call (c_slices_Equal_Tag_Tag v0 x_v0 k0 x_k0 h2) rfl (EntsB.cons (Ent.b Ent.z) (EntsB.cons (Ent.b Ent.z.s) EntsB.nil))) (Rg.a rfl (Rg.nl (nT (?_))))
 refine tRet ?_
 obtain rfl := si H
 exact bk1 rfl rfl rfl rfl (.cons Del.here .nil)
noncomputable def p_slices_IndexFunc_Tag_Tag_numberOf_1_b0 (v0 : (List (List Tag))) (v1_0 : (List Tag)) (Q6 : Int) : Option ((Int) ⊕ (Unit ⊕ Int)) := cond (decide (Q6 < (v0.length : Int))) (gd (ix Q6 v0.length) <| bd (p_impl_numberOf_1 (nth v0 Q6.toNat) v1_0) fun r16 => cond (r16) (some (.inr (.inr Q6))) (gd (I64 (Q6 + 1)) <| some (.inl (Q6 + 1)))) (some (.inr (.inl ())))
noncomputable def p_slices_IndexFunc_Tag_Tag_numberOf_1 (v0 : (List (List Tag))) (v1_0 : (List Tag)) : Option (Int) := bd (lp (p_slices_IndexFunc_Tag_Tag_numberOf_1_b0 v0 v1_0) 0) <| sw (fun _ => some (-1)) (fun q => some q)
theorem c_slices_IndexFunc_Tag_Tag_numberOf_1 {r : Int} (v0 : (List (List Tag))) (x_v0 : Option Addr × Nat) (g_v1_0 : Nat) (v1_0 : (List Tag)) (x_v1_0 : Option Addr × Nat) (H : p_slices_IndexFunc_Tag_Tag_numberOf_1 v0 v1_0 = some r) : Fn' Tryz.prog 142 #[.slice x_v0.1 v0.length x_v0.2, .func (.func 143) #[] #[.pointer (some ⟨g_v1_0, 0, none⟩)]] [imm (.slice x_v0.1 v0.length x_v0.2) v0, imm (.slice x_v1_0.1 v1_0.length x_v1_0.2) v1_0] [box g_v1_0 56 [.slice x_v1_0.1 v1_0.length x_v1_0.2]] (ι := Unit) (fun _ => .int .i64 (r)) (fun _ => []) (fun _ => [box g_v1_0 56 [.slice x_v1_0.1 v1_0.length x_v1_0.2]]) := by
 refine calls_of (args := [_, _]) Tryz.func142 rfl (by kernel_rfl) Tryz.ntmps142 (by simp) fun c => ?_
 unfold p_slices_IndexFunc_Tag_Tag_numberOf_1 at H
 refine Tr.openD Ent.z fun X1 => (Tr.seq (Tr.region (Rg.a (v := .int .i64 (0)) rfl (Rg.nl (nT (?_))))))
 refine Tr.seq (Tr.seq (Tr.region (Rg.m rfl (Rg.p (p_len 56 Tryz.underlying32 rfl) (Rg.m (v := .int .i64 (0)) rfl ?_)))))
 refine Rg.nl (nT (?_))
 obtain ⟨x2, hx3, H⟩ := bd.of H
 obtain ⟨n4, hx3⟩ := lp.of hx3
 refine tMidNC (ι := { q : (Unit) × Unit // x2 = .inl q.1 }) (fun ψ => []) (fun ψ => [box g_v1_0 56 [.slice x_v1_0.1 v1_0.length x_v1_0.2]]) ?_ ?_
 ·refine Tr.block (tLoopC (ι := { q : Nat × (Int) × Unit // itr (p_slices_IndexFunc_Tag_Tag_numberOf_1_b0 v0 v1_0) q.1 q.2.1 = some x2 }) (fun ζ => [(0, .slice x_v0.1 v0.length x_v0.2), (1, .func (.func 143) #[] #[.pointer (some ⟨g_v1_0, 0, none⟩)]), (7, .int .i64 ((v0.length : Int))), (8, .int .i64 (ζ.1.2.1))]) (fun ζ => [box g_v1_0 56 [.slice x_v1_0.1 v1_0.length x_v1_0.2]]) (fun ζ => ζ.1.1) ⟨(n4, 0, ()), hx3⟩ ⟨rfl, rfl, rfl, rfl, trivial⟩ (.cons Del.here .nil) ?_)
  rintro ⟨⟨m5, Q6, z7⟩, hk12⟩
  obtain ⟨m13, t9, e, H1, hi10, hb11⟩ := itr.of (n := m5) (s := Q6) hk12
  subst e; unfold p_slices_IndexFunc_Tag_Tag_numberOf_1_b0 at H1
  show Tr _ _ _ _ _ [(0, .slice x_v0.1 v0.length x_v0.2), (1, .func (.func 143) #[] #[.pointer (some ⟨g_v1_0, 0, none⟩)]), (7, .int .i64 ((v0.length : Int))), (8, .int .i64 (Q6))] _ [box g_v1_0 56 [.slice x_v1_0.1 v1_0.length x_v1_0.2]]
  refine Tr.seq (Tr.region (Rg.p (p_lss rfl rfl) (Rg.nl (nT (?_)))))
  refine Tr.seq (Tr.cond (b := decide (Q6 < (v0.length : Int))) rfl (fun h14 => ?_) (fun h14 => ?_))
  ·have H1 := cdT h14 H1
   refine tSkip (nT (?_))
   refine Tr.seq (Tr.block (Tr.seq (Tr.region (Rg.m rfl (Rg.a rfl ?_)))))
   refine Rg.nl (nT (?_))
   refine Tr.seq (Tr.region (Rg.m rfl (Rg.m rfl (Rg.m rfl ?_))))
   obtain ⟨h15, H1⟩ := gd.of H1
   refine Rg.o (q_ixg Tryz.underlying32 ty56 rfl rfl h15 rfl (Ent.b (Ent.darr Ent.z))) (Rg.o (q_lde (i := Q6.toNat) (j := 0) ty56 rfl (Ent.b (Ent.darr Ent.z)) h15.lt rfl) ?_)
   obtain ⟨r16, h17, H1⟩ := bd.of H1
   refine Rg.o (v := .bool (r16)) (Ex.dyn (caps := [.pointer (some ⟨g_v1_0, 0, none⟩)]) (vs := [.slice ((X1 Q6.toNat).1) ((nth v0 Q6.toNat).length) ((X1 Q6.toNat).2.1)]) rfl rfl (q_callC (c_impl_numberOf_1 (nth v0 Q6.toNat) ((X1 Q6.toNat).1, (X1 Q6.toNat).2.1) g_v1_0 v1_0 x_v1_0 h17) (Solo.box Solo.nil) rfl (.cons Del.here .nil) (EntsB.cons (Ent.b (Ent.dimm (Ent.del Ent.z h15.lt))) (EntsB.cons (Ent.b Ent.z.s.s) EntsB.nil)))) (Rg.nl (nT (?_)))
   refine Tr.cond (b := r16) rfl (fun h18 => ?_) (fun h18 => ?_)
   ·have H1 := cdT h18 H1
    refine Tr.seq (Tr.region (Rg.m rfl (Rg.a rfl (Rg.nl (nT (?_))))))
    refine tRet (rB (rT (rT (rB (rT (rT (?_)))))))
    have hx := hb11 _ (Option.some.inj H1).symm; subst hx
    replace H := sw.r H
    obtain rfl := si H
    exact bk1 rfl rfl rfl rfl (.cons Del.here .nil)
   ·have H1 := cdF h18 H1
    refine tSkip (nB (nT (?_)))
    refine Tr.region ?_
    obtain ⟨h19, H1⟩ := gd.of H1
    refine Rg.p (p_add rfl rfl h19) (Rg.m rfl (Rg.nl ?_))
    exact nLC ⟨(m13, Q6 + 1, ()), hi10 _ (Option.some.inj H1).symm⟩ (Nat.lt_succ_self _) ⟨rfl, rfl, rfl, rfl, trivial⟩ Ents.refl (.cons Del.here .nil)
  ·have H1 := cdF h14 H1
   refine tExit (xT (xT (xE (?_))))
   exact nMC ⟨((), ()), (hb11 _ (Option.some.inj H1).symm).symm⟩ trivial Ents.refl (.cons Del.here .nil)
 ·rintro ⟨⟨e20, y8⟩, hx⟩; subst hx; replace H := sw.l H
  show At _ _ [] _ [box g_v1_0 56 [.slice x_v1_0.1 v1_0.length x_v1_0.2]] _
  refine nT (?_)
  refine Tr.seq (Tr.region (Rg.a (v := .int .i64 (-1)) rfl (Rg.nl (nT (?_)))))
  refine tRet ?_
  obtain rfl := si H
  exact bk1 rfl rfl rfl rfl (.cons Del.here .nil)
noncomputable def p_impl_numberOf (v0 : (List (List Tag))) (v1 : (List Tag)) : Option (Int) := bd (p_slices_IndexFunc_Tag_Tag_numberOf_1 v0 v1) fun r3 => gd (I64 (r3 + 1)) <| some (r3 + 1)
theorem c_impl_numberOf {r : Int} (v0 : (List (List Tag))) (x_v0 : Option Addr × Nat) (v1 : (List Tag)) (x_v1 : Option Addr × Nat) (H : p_impl_numberOf v0 v1 = some r) : Fn' Tryz.prog 114 #[.slice x_v0.1 v0.length x_v0.2, .slice x_v1.1 v1.length x_v1.2] [imm (.slice x_v0.1 v0.length x_v0.2) v0, imm (.slice x_v1.1 v1.length x_v1.2) v1] [] (ι := Unit) (fun _ => .int .i64 (r)) (fun _ => []) (fun _ => []) := by
 refine calls_of (args := [_, _]) Tryz.func114 rfl (by kernel_rfl) Tryz.ntmps114 (by simp) fun c => ?_
 unfold p_impl_numberOf at H
 refine Tr.openD Ent.z fun X1 => (Tr.seq (Tr.region (Rg.ef (e_box (t := 56) rfl) rfl ?_)))
 rintro _ _ _ ⟨g2, rfl, rfl, rfl⟩
 refine Rg.a (v := .int .i64 (0)) rfl (Rg.nl (nT (?_)))
 refine Tr.seq (Tr.region (Rg.m rfl (Rg.p (v := .func (.func 143) #[] #[.pointer (some ⟨g2, 0, none⟩)]) (p_mkfunc (vs := [.pointer (some ⟨g2, 0, none⟩)]) rfl rfl) ?_)))
 obtain ⟨r3, h4, H⟩ := bd.of H
 refine Rg.o (q_callC (c_slices_IndexFunc_Tag_Tag_numberOf_1 v0 x_v0 g2 v1 x_v1 h4) (Solo.box Solo.nil) rfl (.cons Del.here .nil) (EntsB.cons (Ent.b (Ent.dimm Ent.z)) (EntsB.cons (Ent.b Ent.z.s.s) EntsB.nil))) ?_
 obtain ⟨h5, H⟩ := gd.of H
 refine Rg.p (p_add rfl rfl h5) (Rg.a rfl (Rg.nl (nT (?_))))
 refine tRet ?_
 obtain rfl := si H
 exact bk1 rfl rfl rfl rfl Take.nil
noncomputable def p_impl_namesOk_b0 (v0 : (List (List Tag))) (Q6 : Int) : Option ((Int) ⊕ (Unit ⊕ Bool)) := cond (decide (Q6 < (v0.length : Int))) (gd (ix Q6 v0.length) <| bd (bd (p_impl_NameOk (nth v0 Q6.toNat)) fun r18 => cond (!r18) (some (true)) (bd (p_impl_numberOf v0 (nth v0 Q6.toNat)) fun r21 => gd (I64 (Q6 + 1)) <| some (!decide (r21 = (Q6 + 1))))) fun b16 => cond (b16) (some (.inr (.inr false))) (gd (I64 (Q6 + 1)) <| some (.inl (Q6 + 1)))) (some (.inr (.inl ())))
noncomputable def p_impl_namesOk (v0 : (List (List Tag))) : Option (Bool) := bd (lp (p_impl_namesOk_b0 v0) 0) <| sw (fun _ => some (decide ((v0.length : Int) ≤ 6))) (fun q => some q)
theorem c_impl_namesOk {r : Bool} (v0 : (List (List Tag))) (x_v0 : Option Addr × Nat) (H : p_impl_namesOk v0 = some r) : Fn' Tryz.prog 88 #[.slice x_v0.1 v0.length x_v0.2] [imm (.slice x_v0.1 v0.length x_v0.2) v0] [] (ι := Unit) (fun _ => .bool (r)) (fun _ => []) (fun _ => []) := by
 refine calls_of (args := [_]) Tryz.func88 rfl (by kernel_rfl) Tryz.ntmps88 (by simp) fun c => ?_
 unfold p_impl_namesOk at H
 refine Tr.openD Ent.z fun X1 => (Tr.seq (Tr.region (Rg.a (v := .bool (false)) rfl (Rg.nl (nT (?_))))))
 refine Tr.seq (Tr.seq (Tr.region (Rg.m rfl (Rg.p (p_len 56 Tryz.underlying32 rfl) (Rg.m (v := .int .i64 (0)) rfl ?_)))))
 refine Rg.nl (nT (?_))
 obtain ⟨x2, hx3, H⟩ := bd.of H
 obtain ⟨n4, hx3⟩ := lp.of hx3
 refine tMidNC (ι := { q : (Unit) × Unit // x2 = .inl q.1 }) (fun ψ => [(0, .slice x_v0.1 v0.length x_v0.2)]) (fun ψ => []) ?_ ?_
 ·refine Tr.block (tLoopC (ι := { q : Nat × (Int) × Unit // itr (p_impl_namesOk_b0 v0) q.1 q.2.1 = some x2 }) (fun ζ => [(0, .slice x_v0.1 v0.length x_v0.2), (5, .slice x_v0.1 v0.length x_v0.2), (6, .int .i64 ((v0.length : Int))), (7, .int .i64 (ζ.1.2.1))]) (fun ζ => []) (fun ζ => ζ.1.1) ⟨(n4, 0, ()), hx3⟩ ⟨rfl, rfl, rfl, rfl, trivial⟩ Take.nil ?_)
  rintro ⟨⟨m5, Q6, z7⟩, hk12⟩
  obtain ⟨m13, t9, e, H1, hi10, hb11⟩ := itr.of (n := m5) (s := Q6) hk12
  subst e; unfold p_impl_namesOk_b0 at H1
  show Tr _ _ _ _ _ [(0, .slice x_v0.1 v0.length x_v0.2), (5, .slice x_v0.1 v0.length x_v0.2), (6, .int .i64 ((v0.length : Int))), (7, .int .i64 (Q6))] _ []
  refine Tr.seq (Tr.region (Rg.p (p_lss rfl rfl) (Rg.nl (nT (?_)))))
  refine Tr.seq (Tr.cond (b := decide (Q6 < (v0.length : Int))) rfl (fun h14 => ?_) (fun h14 => ?_))
  ·have H1 := cdT h14 H1
   refine tSkip (nT (?_))
   refine Tr.seq (Tr.block (Tr.seq (Tr.region (Rg.m rfl ?_))))
   obtain ⟨h15, H1⟩ := gd.of H1
   refine Rg.o (q_ixg Tryz.underlying32 ty56 rfl rfl h15 rfl (Ent.b (Ent.darr Ent.z))) (Rg.o (q_lde (i := Q6.toNat) (j := 0) ty56 rfl (Ent.b (Ent.darr Ent.z)) h15.lt rfl) (Rg.a rfl (Rg.a rfl (Rg.nl (nT (?_))))))
   obtain ⟨b16, j17, H1⟩ := bd.of H1
   refine tMid1 [(22, .bool (b16)), (0, .slice x_v0.1 v0.length x_v0.2), (5, .slice x_v0.1 v0.length x_v0.2), (6, .int .i64 ((v0.length : Int))), (7, .int .i64 (Q6))] ?_ ?_
   ·refine tLinT [(4, .slice ((X1 Q6.toNat).1) ((nth v0 Q6.toNat).length) ((X1 Q6.toNat).2.1)), (3, .int .i64 (Q6)), (0, .slice x_v0.1 v0.length x_v0.2), (5, .slice x_v0.1 v0.length x_v0.2), (6, .int .i64 ((v0.length : Int))), (7, .int .i64 (Q6))] ⟨rfl, rfl, rfl, rfl, rfl, rfl, trivial⟩ (Lin.m rfl ?_)
    obtain ⟨r18, h19, j17⟩ := bd.of j17
    refine Lin.o (q_call (c_impl_NameOk (nth v0 Q6.toNat) ((X1 Q6.toNat).1, (X1 Q6.toNat).2.1) h19) rfl (EntsB.cons (Ent.b (Ent.dimm (Ent.del Ent.z h15.lt))) EntsB.nil)) (Lin.p (p_not rfl) ?_)
    rcases Bool.eq_false_or_eq_true (!r18) with h20 | h20
    ·have j17 := cdT h20 j17
     refine Lin.e_ (p_move rfl) h20 ?_
     iterate 6 refine Lin.sk rfl ?_
     refine Lin.p (v := .bool (true)) (p_pickT rfl rfl) ?_
     obtain rfl := si j17
     show At _ _ _ _ _ _
     exact n1 ⟨rfl, rfl, rfl, rfl, rfl, trivial⟩
    ·have j17 := cdF h20 j17
     refine Lin.e_ (p_move rfl) h20 (Lin.h rfl (p_move rfl) (Lin.h rfl (p_move rfl) ?_))
     obtain ⟨r21, h22, j17⟩ := bd.of j17
     refine Lin.i rfl (q_call (c_impl_numberOf v0 x_v0 (nth v0 Q6.toNat) ((X1 Q6.toNat).1, (X1 Q6.toNat).2.1) h22) rfl (EntsB.cons (Ent.b (Ent.dimm Ent.z)) (EntsB.cons (Ent.b (Ent.dimm (Ent.del Ent.z h15.lt))) EntsB.nil))) (Lin.h rfl (p_move rfl) ?_)
     obtain ⟨h23, j17⟩ := gd.of j17
     refine Lin.h rfl (p_add rfl rfl h23) (Lin.h rfl (p_neq rfl rfl) (Lin.p (p_pickF rfl rfl) ?_))
     obtain rfl := si j17
     show At _ _ _ _ _ _
     exact n1 ⟨rfl, rfl, rfl, rfl, rfl, trivial⟩
   refine Tr.cond (b := b16) rfl (fun h24 => ?_) (fun h24 => ?_)
   ·have H1 := cdT h24 H1
    refine Tr.seq (Tr.region (Rg.a (v := .bool (false)) rfl (Rg.nl (nT (?_)))))
    refine tRet (rB (rT (rT (rB (rT (rT (?_)))))))
    have hx := hb11 _ (Option.some.inj H1).symm; subst hx
    replace H := sw.r H
    obtain rfl := si H
    exact bk1 rfl rfl rfl rfl Take.nil
   ·have H1 := cdF h24 H1
    refine tSkip (nB (nT (?_)))
    refine Tr.region ?_
    obtain ⟨h25, H1⟩ := gd.of H1
    refine Rg.p (p_add rfl rfl h25) (Rg.m rfl (Rg.nl ?_))
    exact nLC ⟨(m13, Q6 + 1, ()), hi10 _ (Option.some.inj H1).symm⟩ (Nat.lt_succ_self _) ⟨rfl, rfl, rfl, rfl, trivial⟩ Ents.refl Take.nil
  ·have H1 := cdF h14 H1
   refine tExit (xT (xT (xE (?_))))
   exact nMC ⟨((), ()), (hb11 _ (Option.some.inj H1).symm).symm⟩ ⟨rfl, trivial⟩ Ents.refl Take.nil
 ·rintro ⟨⟨e26, y8⟩, hx⟩; subst hx; replace H := sw.l H
  show At _ _ [(0, .slice x_v0.1 v0.length x_v0.2)] _ [] _
  refine nT (?_)
  refine Tr.seq (Tr.region (Rg.m rfl (Rg.p (p_len 56 Tryz.underlying32 rfl) (Rg.p (p_leq rfl rfl) (Rg.a rfl ?_)))))
  refine Rg.nl (nT (?_))
  refine tRet ?_
  obtain rfl := si H
  exact bk1 rfl rfl rfl rfl Take.nil
noncomputable def p_impl_cloneNames_b0 (v0 : (List (List Tag))) (Q8 : (List (List Tag)) × Int) : Option (((List (List Tag)) × Int) ⊕ ((List (List Tag)))) := cond (decide (Q8.2 < (v0.length : Int))) (gd (ix Q8.2 v0.length) <| gd (room (([] : List Tag).length + (nth v0 Q8.2.toNat).length)) <| gd (room (Q8.1.length + 1)) <| gd (I64 (Q8.2 + 1)) <| some (.inl ((Q8.1 ++ [([] : List Tag) ++ (nth v0 Q8.2.toNat)]), Q8.2 + 1))) (some (.inr Q8.1))
noncomputable def p_impl_cloneNames (v0 : (List (List Tag))) : Option ((List (List Tag))) := bd (lp (p_impl_cloneNames_b0 v0) (([] : List (List Tag)), 0)) fun x4 => some x4
theorem c_impl_cloneNames {r : (List (List Tag))} (v0 : (List (List Tag))) (x_v0 : Option Addr × Nat) (H : p_impl_cloneNames v0 = some r) : Fn' Tryz.prog 115 #[.slice x_v0.1 v0.length x_v0.2] [imm (.slice x_v0.1 v0.length x_v0.2) v0] [] (ι := Option Addr × Nat) (fun x => .slice x.1 r.length x.2) (fun _ => []) (fun x => [tree (.slice x.1 r.length x.2) r]) := by
 refine calls_of (args := [_]) Tryz.func115 rfl (by kernel_rfl) Tryz.ntmps115 (by simp) fun c => ?_
 unfold p_impl_cloneNames at H
 refine Tr.openD Ent.z fun X1 => (Tr.seq (Tr.region (Rg.a (v := .slice none 0 0) rfl (Rg.nl (nT (?_))))))
 refine Tr.seq (Tr.region (Rg.ef (e_lit0 (List Tag) Tryz.underlying32 ty56) rfl ?_))
 rintro _ _ _ ⟨a2, c3, rfl, rfl, rfl⟩
 refine Rg.a rfl (Rg.nl (nT (?_)))
 refine Tr.seq (Tr.seq (Tr.region (Rg.m rfl (Rg.p (p_len 56 Tryz.underlying32 rfl) (Rg.m (v := .int .i64 (0)) rfl ?_)))))
 refine Rg.nl (nT (?_))
 obtain ⟨x4, hx5, H⟩ := bd.of H
 obtain ⟨n6, hx5⟩ := lp.of hx5
 refine tMidNC (ι := Option Addr × Nat) (fun ψ => [(3, .slice ψ.1 x4.length ψ.2)]) (fun ψ => [tree (.slice ψ.1 x4.length ψ.2) x4]) ?_ ?_
 ·refine Tr.block (tLoopC (ι := { q : Nat × ((List (List Tag)) × Int) × (Option Addr × Nat) // itr (p_impl_cloneNames_b0 v0) q.1 q.2.1 = some x4 }) (fun ζ => [(3, .slice ζ.1.2.2.1 ζ.1.2.1.1.length ζ.1.2.2.2), (7, .slice x_v0.1 v0.length x_v0.2), (8, .int .i64 ((v0.length : Int))), (9, .int .i64 (ζ.1.2.1.2))]) (fun ζ => [tree (.slice ζ.1.2.2.1 ζ.1.2.1.1.length ζ.1.2.2.2) ζ.1.2.1.1]) (fun ζ => ζ.1.1) ⟨(n6, (([] : List (List Tag)), 0), (a2, c3)), hx5⟩ ⟨rfl, rfl, rfl, rfl, trivial⟩ (.cons Del.here .nil) ?_)
  rintro ⟨⟨m7, Q8, z9⟩, hk14⟩
  obtain ⟨m15, t11, e, H1, hi12, hb13⟩ := itr.of (n := m7) (s := Q8) hk14
  subst e; unfold p_impl_cloneNames_b0 at H1
  show Tr _ _ _ _ _ [(3, .slice z9.1 Q8.1.length z9.2), (7, .slice x_v0.1 v0.length x_v0.2), (8, .int .i64 ((v0.length : Int))), (9, .int .i64 (Q8.2))] _ [tree (.slice z9.1 Q8.1.length z9.2) Q8.1]
  refine Tr.seq (Tr.region (Rg.p (p_lss rfl rfl) (Rg.nl (nT (?_)))))
  refine Tr.seq (Tr.cond (b := decide (Q8.2 < (v0.length : Int))) rfl (fun h16 => ?_) (fun h16 => ?_))
  ·have H1 := cdT h16 H1
   refine tSkip (nT (?_))
   refine Tr.seq (Tr.block (Tr.seq (Tr.region ?_)))
   obtain ⟨h17, H1⟩ := gd.of H1
   refine Rg.o (q_ixg Tryz.underlying32 ty56 rfl rfl h17 rfl (Ent.b (Ent.darr Ent.z))) (Rg.o (q_lde (i := Q8.2.toNat) (j := 0) ty56 rfl (Ent.b (Ent.darr Ent.z)) h17.lt rfl) (Rg.a rfl (Rg.nl (nT (?_)))))
   refine Tr.region (Rg.m rfl (Rg.ef (e_lit0 Tag Tryz.underlying56 ty96) rfl ?_))
   rintro _ _ _ ⟨a18, c19, rfl, rfl, rfl⟩
   refine Rg.m rfl ?_
   obtain ⟨h22, H1⟩ := gd.of H1
   refine Rg.ef (e_appF (l := ([] : List Tag)) (k := nth v0 Q8.2.toNat) (α := Tag) Tryz.underlying56 ty96 rfl rfl (h22.b (by decide)) h22.x (.cons Del.here .nil) (Ent.b (Ent.dimm (Ent.del Ent.z h17.lt)))) rfl ?_
   rintro _ _ _ ⟨a20, c21, rfl, rfl, rfl⟩
   refine Rg.ef (e_lit (vs := [(0, .slice a20 ((([] : List Tag) ++ (nth v0 Q8.2.toNat)).length) c21)]) [.slice a20 ((([] : List Tag) ++ (nth v0 Q8.2.toNat)).length) c21] Tryz.underlying32 ty56 rfl (by decide) (by decide) (by kernel_rfl)) rfl ?_
   rintro _ _ _ ⟨g23, rfl, rfl, rfl⟩
   obtain ⟨h26, H1⟩ := gd.of H1
   refine Rg.ef (e_app1 (l := Q8.1) (α := (List Tag)) (([] : List Tag) ++ (nth v0 Q8.2.toNat)) (a20, c21) Tryz.underlying32 ty56 rfl rfl (h26.b (by decide)) h26.x rfl (ShpT.wfa _) (.cons dl2 (.cons Del.here (.cons Del.here .nil)))) rfl ?_
   rintro _ _ _ ⟨a24, c25, rfl, rfl, rfl⟩
   refine Rg.a rfl (Rg.nl (nB (nT (?_))))
   refine Tr.region ?_
   obtain ⟨h27, H1⟩ := gd.of H1
   refine Rg.p (p_add rfl rfl h27) (Rg.m rfl (Rg.nl ?_))
   exact nLC ⟨(m15, ((Q8.1 ++ [([] : List Tag) ++ (nth v0 Q8.2.toNat)]), Q8.2 + 1), (a24, c25)), hi12 _ (Option.some.inj H1).symm⟩ (Nat.lt_succ_self _) ⟨rfl, rfl, rfl, rfl, trivial⟩ Ents.refl (.cons Del.here .nil)
  ·have H1 := cdF h16 H1
   refine tExit (xT (xT (xE (?_))))
   have hx := hb13 _ (Option.some.inj H1).symm; subst hx
   exact nMC (z9.1, z9.2) ⟨rfl, trivial⟩ Ents.refl (.cons Del.here .nil)
 ·intro y10
  show At _ _ [(3, .slice y10.1 x4.length y10.2)] _ [tree (.slice y10.1 x4.length y10.2) x4] _
  refine nT (?_)
  refine Tr.seq (Tr.region (Rg.m rfl (Rg.a rfl (Rg.nl (nT (?_))))))
  refine tRet ?_
  obtain rfl := si H
  exact back1 y10 rfl (ResV.tmp (v := .slice y10.1 x4.length y10.2) rfl) rfl Ents.nil (.cons Del.here .nil)
noncomputable def p_impl_indexOf_1 (v0 : Post) (k0 : Tag) : Option (Bool) := some (decide (v0.1 = k0))
theorem c_impl_indexOf_1 {r : Bool} (v0 : Post) (x_v0 : (Unit × Unit) × (Option Addr × Nat)) (g_k0 : Nat) (k0 : Tag) (H : p_impl_indexOf_1 v0 k0 = some r) : Fn' Tryz.prog 127 #[.agg #[.string (v0.1.1), .string (v0.1.2), .slice x_v0.2.1 v0.2.length x_v0.2.2], .pointer (some ⟨g_k0, 0, none⟩)] [imm (.slice x_v0.2.1 v0.2.length x_v0.2.2) v0.2] [box g_k0 96 [.string (k0.1), .string (k0.2)]] (ι := Unit) (fun _ => .bool (r)) (fun _ => []) (fun _ => [box g_k0 96 [.string (k0.1), .string (k0.2)]]) := by
 refine calls_of (args := [_, _]) Tryz.func127 rfl (by kernel_rfl) Tryz.ntmps127 (by simp) fun c => ?_
 unfold p_impl_indexOf_1 at H
 refine Tr.seq (Tr.region (Rg.ef (e_box (t := 113) rfl) rfl ?_))
 rintro _ _ _ ⟨g1, rfl, rfl, rfl⟩
 refine Rg.a (v := .bool (false)) rfl (Rg.nl (nT (?_)))
 refine Tr.seq (Tr.region (Rg.p (p_fabE fa113_0 rfl rfl) (Rg.o (v := .agg #[.string (v0.1.1), .string (v0.1.2)]) (q_ldbP [.string (v0.1.1), .string (v0.1.2)] ty96 rfl Has.here rfl rfl) (Rg.o (q_ldbA ty96 rfl hs1 rfl) (Rg.p (v := .bool (decide (v0.1 = k0))) (p_aeql (a := v0.1) (b := k0) ae96 rfl rfl rfl rfl) ?_)))))
 refine Rg.a rfl (Rg.nl (nT (?_)))
 refine tRet ?_
 obtain rfl := si H
 exact bk1 rfl rfl rfl rfl (.cons dl1 .nil)
noncomputable def p_slices_IndexFunc_Post_Post_indexOf_1_b0 (v0 : (List Post)) (v1_0 : Tag) (Q6 : Int) : Option ((Int) ⊕ (Unit ⊕ Int)) := cond (decide (Q6 < (v0.length : Int))) (gd (ix Q6 v0.length) <| bd (p_impl_indexOf_1 (nth v0 Q6.toNat) v1_0) fun r16 => cond (r16) (some (.inr (.inr Q6))) (gd (I64 (Q6 + 1)) <| some (.inl (Q6 + 1)))) (some (.inr (.inl ())))
noncomputable def p_slices_IndexFunc_Post_Post_indexOf_1 (v0 : (List Post)) (v1_0 : Tag) : Option (Int) := bd (lp (p_slices_IndexFunc_Post_Post_indexOf_1_b0 v0 v1_0) 0) <| sw (fun _ => some (-1)) (fun q => some q)
theorem c_slices_IndexFunc_Post_Post_indexOf_1 {r : Int} (v0 : (List Post)) (x_v0 : Option Addr × Nat) (g_v1_0 : Nat) (v1_0 : Tag) (H : p_slices_IndexFunc_Post_Post_indexOf_1 v0 v1_0 = some r) : Fn' Tryz.prog 126 #[.slice x_v0.1 v0.length x_v0.2, .func (.func 127) #[] #[.pointer (some ⟨g_v1_0, 0, none⟩)]] [imm (.slice x_v0.1 v0.length x_v0.2) v0] [box g_v1_0 96 [.string (v1_0.1), .string (v1_0.2)]] (ι := Unit) (fun _ => .int .i64 (r)) (fun _ => []) (fun _ => [box g_v1_0 96 [.string (v1_0.1), .string (v1_0.2)]]) := by
 refine calls_of (args := [_, _]) Tryz.func126 rfl (by kernel_rfl) Tryz.ntmps126 (by simp) fun c => ?_
 unfold p_slices_IndexFunc_Post_Post_indexOf_1 at H
 refine Tr.openD Ent.z fun X1 => (Tr.seq (Tr.region (Rg.a (v := .int .i64 (0)) rfl (Rg.nl (nT (?_))))))
 refine Tr.seq (Tr.seq (Tr.region (Rg.m rfl (Rg.p (p_len 113 Tryz.underlying33 rfl) (Rg.m (v := .int .i64 (0)) rfl ?_)))))
 refine Rg.nl (nT (?_))
 obtain ⟨x2, hx3, H⟩ := bd.of H
 obtain ⟨n4, hx3⟩ := lp.of hx3
 refine tMidNC (ι := { q : (Unit) × Unit // x2 = .inl q.1 }) (fun ψ => []) (fun ψ => [box g_v1_0 96 [.string (v1_0.1), .string (v1_0.2)]]) ?_ ?_
 ·refine Tr.block (tLoopC (ι := { q : Nat × (Int) × Unit // itr (p_slices_IndexFunc_Post_Post_indexOf_1_b0 v0 v1_0) q.1 q.2.1 = some x2 }) (fun ζ => [(0, .slice x_v0.1 v0.length x_v0.2), (1, .func (.func 127) #[] #[.pointer (some ⟨g_v1_0, 0, none⟩)]), (7, .int .i64 ((v0.length : Int))), (8, .int .i64 (ζ.1.2.1))]) (fun ζ => [box g_v1_0 96 [.string (v1_0.1), .string (v1_0.2)]]) (fun ζ => ζ.1.1) ⟨(n4, 0, ()), hx3⟩ ⟨rfl, rfl, rfl, rfl, trivial⟩ (.cons Del.here .nil) ?_)
  rintro ⟨⟨m5, Q6, z7⟩, hk12⟩
  obtain ⟨m13, t9, e, H1, hi10, hb11⟩ := itr.of (n := m5) (s := Q6) hk12
  subst e; unfold p_slices_IndexFunc_Post_Post_indexOf_1_b0 at H1
  show Tr _ _ _ _ _ [(0, .slice x_v0.1 v0.length x_v0.2), (1, .func (.func 127) #[] #[.pointer (some ⟨g_v1_0, 0, none⟩)]), (7, .int .i64 ((v0.length : Int))), (8, .int .i64 (Q6))] _ [box g_v1_0 96 [.string (v1_0.1), .string (v1_0.2)]]
  refine Tr.seq (Tr.region (Rg.p (p_lss rfl rfl) (Rg.nl (nT (?_)))))
  refine Tr.seq (Tr.cond (b := decide (Q6 < (v0.length : Int))) rfl (fun h14 => ?_) (fun h14 => ?_))
  ·have H1 := cdT h14 H1
   refine tSkip (nT (?_))
   refine Tr.seq (Tr.block (Tr.seq (Tr.region (Rg.m rfl (Rg.a rfl ?_)))))
   refine Rg.nl (nT (?_))
   refine Tr.seq (Tr.region (Rg.m rfl (Rg.m rfl (Rg.m rfl ?_))))
   obtain ⟨h15, H1⟩ := gd.of H1
   refine Rg.o (q_ixg Tryz.underlying33 ty113 rfl rfl h15 rfl (Ent.b (Ent.darr Ent.z))) (Rg.o (v := .agg #[.string (((nth v0 Q6.toNat).1).1), .string (((nth v0 Q6.toNat).1).2), .slice (((X1 Q6.toNat).2).1) (((nth v0 Q6.toNat).2).length) (((X1 Q6.toNat).2).2.1)]) (q_ldeA (i := Q6.toNat) ty113 rfl (Ent.b (Ent.darr Ent.z)) h15.lt) ?_)
   obtain ⟨r16, h17, H1⟩ := bd.of H1
   refine Rg.o (v := .bool (r16)) (Ex.dyn (caps := [.pointer (some ⟨g_v1_0, 0, none⟩)]) (vs := [.agg #[.string (((nth v0 Q6.toNat).1).1), .string (((nth v0 Q6.toNat).1).2), .slice (((X1 Q6.toNat).2).1) (((nth v0 Q6.toNat).2).length) (((X1 Q6.toNat).2).2.1)]]) rfl rfl (q_callC (c_impl_indexOf_1 (nth v0 Q6.toNat) (((), ()), (((X1 Q6.toNat).2).1, ((X1 Q6.toNat).2).2.1)) g_v1_0 v1_0 h17) (Solo.box Solo.nil) rfl (.cons Del.here .nil) (EntsB.cons (Ent.b (Ent.dimm (Ent.dsnd (Ent.del Ent.z h15.lt)))) EntsB.nil))) (Rg.nl (nT (?_)))
   refine Tr.cond (b := r16) rfl (fun h18 => ?_) (fun h18 => ?_)
   ·have H1 := cdT h18 H1
    refine Tr.seq (Tr.region (Rg.m rfl (Rg.a rfl (Rg.nl (nT (?_))))))
    refine tRet (rB (rT (rT (rB (rT (rT (?_)))))))
    have hx := hb11 _ (Option.some.inj H1).symm; subst hx
    replace H := sw.r H
    obtain rfl := si H
    exact bk1 rfl rfl rfl rfl (.cons Del.here .nil)
   ·have H1 := cdF h18 H1
    refine tSkip (nB (nT (?_)))
    refine Tr.region ?_
    obtain ⟨h19, H1⟩ := gd.of H1
    refine Rg.p (p_add rfl rfl h19) (Rg.m rfl (Rg.nl ?_))
    exact nLC ⟨(m13, Q6 + 1, ()), hi10 _ (Option.some.inj H1).symm⟩ (Nat.lt_succ_self _) ⟨rfl, rfl, rfl, rfl, trivial⟩ Ents.refl (.cons Del.here .nil)
  ·have H1 := cdF h14 H1
   refine tExit (xT (xT (xE (?_))))
   exact nMC ⟨((), ()), (hb11 _ (Option.some.inj H1).symm).symm⟩ trivial Ents.refl (.cons Del.here .nil)
 ·rintro ⟨⟨e20, y8⟩, hx⟩; subst hx; replace H := sw.l H
  show At _ _ [] _ [box g_v1_0 96 [.string (v1_0.1), .string (v1_0.2)]] _
  refine nT (?_)
  refine Tr.seq (Tr.region (Rg.a (v := .int .i64 (-1)) rfl (Rg.nl (nT (?_)))))
  refine tRet ?_
  obtain rfl := si H
  exact bk1 rfl rfl rfl rfl (.cons Del.here .nil)
noncomputable def kstr_307d5e : ByteArray := (⟨((([0, 1, 2, 2, 3, 3, 3, 3, 4, 4, 4, 4, 4, 4, 4, 4, 5, 5, 5, 5, 5, 5, 5, 5, 5, 5, 5, 5, 5, 5, 5, 5, 6, 6, 6, 6, 6, 6, 6, 6, 6, 6, 6, 6, 6, 6, 6, 6, 6, 6, 6, 6, 6, 6, 6, 6, 6, 6, 6, 6, 6, 6, 6, 6] : List UInt8) ++ ([7, 7, 7, 7, 7, 7, 7, 7, 7, 7, 7, 7, 7, 7, 7, 7, 7, 7, 7, 7, 7, 7, 7, 7, 7, 7, 7, 7, 7, 7, 7, 7, 7, 7, 7, 7, 7, 7, 7, 7, 7, 7, 7, 7, 7, 7, 7, 7, 7, 7, 7, 7, 7, 7, 7, 7, 7, 7, 7, 7, 7, 7, 7, 7] : List UInt8)) ++ (([8, 8, 8, 8, 8, 8, 8, 8, 8, 8, 8, 8, 8, 8, 8, 8, 8, 8, 8, 8, 8, 8, 8, 8, 8, 8, 8, 8, 8, 8, 8, 8, 8, 8, 8, 8, 8, 8, 8, 8, 8, 8, 8, 8, 8, 8, 8, 8, 8, 8, 8, 8, 8, 8, 8, 8, 8, 8, 8, 8, 8, 8, 8, 8] : List UInt8) ++ ([8, 8, 8, 8, 8, 8, 8, 8, 8, 8, 8, 8, 8, 8, 8, 8, 8, 8, 8, 8, 8, 8, 8, 8, 8, 8, 8, 8, 8, 8, 8, 8, 8, 8, 8, 8, 8, 8, 8, 8, 8, 8, 8, 8, 8, 8, 8, 8, 8, 8, 8, 8, 8, 8, 8, 8, 8, 8, 8, 8, 8, 8, 8, 8] : List UInt8))).toArray⟩ : ByteArray)
noncomputable def p_math_bits_Len64 (v0 : UInt64) : Option (Int) := bd (cond (decide ((4294967296 : UInt64).toNat ≤ v0.toNat)) (some (wr v0 ((32 : UInt64).toNat : Int), 32)) (some (v0, 0))) fun x2 => bd (cond (decide ((65536 : UInt64).toNat ≤ x2.1.toNat)) (gd (I64 (x2.2 + 16)) <| some (wr x2.1 ((16 : UInt64).toNat : Int), x2.2 + 16)) (some (x2.1, x2.2))) fun x6 => bd (cond (decide ((256 : UInt64).toNat ≤ x6.1.toNat)) (gd (I64 (x6.2 + 8)) <| some (wr x6.1 ((8 : UInt64).toNat : Int), x6.2 + 8)) (some (x6.1, x6.2))) fun x11 => gd (ix ((b8 (x11.1.toNat : Int)).toNat : Int) kstr_307d5e.size) <| gd (I64 (x11.2 + ((sb kstr_307d5e (b8 (x11.1.toNat : Int)).toNat).toNat : Int))) <| some (x11.2 + ((sb kstr_307d5e (b8 (x11.1.toNat : Int)).toNat).toNat : Int))
theorem c_math_bits_Len64 {r : Int} (v0 : UInt64) (H : p_math_bits_Len64 v0 = some r) : Fn' Tryz.prog 161 #[.int .u64 (v0.toNat : Int)] [] [] (ι := Unit) (fun _ => .int .i64 (r)) (fun _ => []) (fun _ => []) := by
 refine calls_of (args := [_]) Tryz.func161 rfl (by kernel_rfl) Tryz.ntmps161 (by simp) fun c => ?_
 unfold p_math_bits_Len64 at H
 refine Tr.seq (Tr.region (Rg.a (v := .int .i64 (0)) rfl (Rg.nl (nT (?_)))))
 refine Tr.seq (Tr.seq (Tr.region (Rg.m rfl (Rg.p (v := .bool (decide ((4294967296 : UInt64).toNat ≤ v0.toNat))) (p_wgeq rfl rfl) (Rg.nl ?_)))))
 refine nT (?_)
 obtain ⟨x2, hx3, H⟩ := bd.of H
 refine tMidC0 (ι := Unit) (fun ψ => [(0, .int .u64 (x2.1.toNat : Int)), (2, .int .i64 (x2.2))]) (fun ψ => []) ?_ ?_
 ·refine Tr.cond (b := decide ((4294967296 : UInt64).toNat ≤ v0.toNat)) rfl (fun h1 => ?_) (fun h1 => ?_)
  ·replace hx3 := cdT h1 hx3
   refine Tr.seq (Tr.region (Rg.m rfl (Rg.p (v := .int .u64 ((wr v0 ((32 : UInt64).toNat : Int)).toNat : Int)) (p_wshr (k := ((32 : UInt64).toNat : Int)) rfl rfl (by decide)) (Rg.a rfl (Rg.nl ?_)))))
   refine nT (?_)
   refine Tr.region (Rg.a (v := .int .i64 (32)) rfl (Rg.nl ?_))
   replace hx3 := Option.some.inj hx3; subst hx3
   exact nMC () ⟨rfl, rfl, trivial⟩ Ents.refl Take.nil
  ·replace hx3 := cdF h1 hx3
   refine tSkip ?_
   replace hx3 := Option.some.inj hx3; subst hx3
   exact nMC () ⟨rfl, rfl, trivial⟩ Ents.refl Take.nil
 ·intro y4
  show Tr _ _ _ _ _ [(0, .int .u64 (x2.1.toNat : Int)), (2, .int .i64 (x2.2))] _ []
  refine Tr.seq (Tr.seq (Tr.region (Rg.m rfl (Rg.p (v := .bool (decide ((65536 : UInt64).toNat ≤ x2.1.toNat))) (p_wgeq rfl rfl) (Rg.nl ?_)))))
  refine nT (?_)
  obtain ⟨x6, hx7, H⟩ := bd.of H
  refine tMidC0 (ι := Unit) (fun ψ => [(0, .int .u64 (x6.1.toNat : Int)), (2, .int .i64 (x6.2))]) (fun ψ => []) ?_ ?_
  ·refine Tr.cond (b := decide ((65536 : UInt64).toNat ≤ x2.1.toNat)) rfl (fun h5 => ?_) (fun h5 => ?_)
   ·replace hx7 := cdT h5 hx7
    refine Tr.seq (Tr.region (Rg.m rfl (Rg.p (v := .int .u64 ((wr x2.1 ((16 : UInt64).toNat : Int)).toNat : Int)) (p_wshr (k := ((16 : UInt64).toNat : Int)) rfl rfl (by decide)) (Rg.a rfl (Rg.nl ?_)))))
    refine nT (?_)
    refine Tr.region (Rg.m rfl ?_)
    obtain ⟨h9, hx7⟩ := gd.of hx7
    refine Rg.p (p_add rfl rfl h9) (Rg.a rfl (Rg.nl ?_))
    replace hx7 := Option.some.inj hx7; subst hx7
    exact nMC () ⟨rfl, rfl, trivial⟩ Ents.refl Take.nil
   ·replace hx7 := cdF h5 hx7
    refine tSkip ?_
    replace hx7 := Option.some.inj hx7; subst hx7
    exact nMC () ⟨rfl, rfl, trivial⟩ Ents.refl Take.nil
  ·intro y8
   show Tr _ _ _ _ _ [(0, .int .u64 (x6.1.toNat : Int)), (2, .int .i64 (x6.2))] _ []
   refine Tr.seq (Tr.seq (Tr.region (Rg.m rfl (Rg.p (v := .bool (decide ((256 : UInt64).toNat ≤ x6.1.toNat))) (p_wgeq rfl rfl) (Rg.nl ?_)))))
   refine nT (?_)
   obtain ⟨x11, hx12, H⟩ := bd.of H
   refine tMidC0 (ι := Unit) (fun ψ => [(0, .int .u64 (x11.1.toNat : Int)), (2, .int .i64 (x11.2))]) (fun ψ => []) ?_ ?_
   ·refine Tr.cond (b := decide ((256 : UInt64).toNat ≤ x6.1.toNat)) rfl (fun h10 => ?_) (fun h10 => ?_)
    ·replace hx12 := cdT h10 hx12
     refine Tr.seq (Tr.region (Rg.m rfl (Rg.p (v := .int .u64 ((wr x6.1 ((8 : UInt64).toNat : Int)).toNat : Int)) (p_wshr (k := ((8 : UInt64).toNat : Int)) rfl rfl (by decide)) (Rg.a rfl (Rg.nl ?_)))))
     refine nT (?_)
     refine Tr.region (Rg.m rfl ?_)
     obtain ⟨h14, hx12⟩ := gd.of hx12
     refine Rg.p (p_add rfl rfl h14) (Rg.a rfl (Rg.nl ?_))
     replace hx12 := Option.some.inj hx12; subst hx12
     exact nMC () ⟨rfl, rfl, trivial⟩ Ents.refl Take.nil
    ·replace hx12 := cdF h10 hx12
     refine tSkip ?_
     replace hx12 := Option.some.inj hx12; subst hx12
     exact nMC () ⟨rfl, rfl, trivial⟩ Ents.refl Take.nil
   ·intro y13
    show Tr _ _ _ _ _ [(0, .int .u64 (x11.1.toNat : Int)), (2, .int .i64 (x11.2))] _ []
    refine Tr.seq (Tr.region (Rg.m rfl (Rg.m rfl (Rg.p (v := .int .u8 ((b8 (x11.1.toNat : Int)).toNat : Int)) (p_w8 Tryz.underlying186 Tryz.underlying5 rfl) ?_))))
    obtain ⟨h15, H⟩ := gd.of H
    refine Rg.p (v := .int .u8 ((sb kstr_307d5e (b8 (x11.1.toNat : Int)).toNat).toNat : Int)) (p_six8 Tryz.underlying9 rfl rfl h15) (Rg.p (p_i8 Tryz.underlying5 Tryz.underlying3 rfl) ?_)
    obtain ⟨h16, H⟩ := gd.of H
    refine Rg.p (p_add rfl rfl h16) (Rg.a rfl (Rg.nl (nT (?_))))
    refine tRet ?_
    obtain rfl := si H
    exact back1 () rfl (ResV.tmp (v := .int .i64 (x11.2 + ((sb kstr_307d5e (b8 (x11.1.toNat : Int)).toNat).toNat : Int))) rfl) rfl Ents.nil Take.nil
noncomputable def p_math_bits_Len (v0 : UInt64) : Option (Int) := bd (p_math_bits_Len64 v0) fun r1 => some r1
theorem c_math_bits_Len {r : Int} (v0 : UInt64) (H : p_math_bits_Len v0 = some r) : Fn' Tryz.prog 148 #[.int .u64 (v0.toNat : Int)] [] [] (ι := Unit) (fun _ => .int .i64 (r)) (fun _ => []) (fun _ => []) := by
 refine calls_of (args := [_]) Tryz.func148 rfl (by kernel_rfl) Tryz.ntmps148 (by simp) fun c => ?_
 unfold p_math_bits_Len at H
 refine Tr.seq (Tr.region (Rg.a (v := .int .i64 (0)) rfl (Rg.nl (nT (?_)))))
 refine Tr.seq (Tr.condF rfl (tSkip (nT (?_))))
 refine Tr.seq (Tr.region (Rg.m rfl ?_))
 obtain ⟨r1, h2, H⟩ := bd.of H
 refine Rg.o (q_call (c_math_bits_Len64 v0 h2) rfl EntsB.nil) (Rg.a rfl (Rg.nl (nT (?_))))
 refine tRet ?_
 obtain rfl := si H
 exact bk1 rfl rfl rfl rfl Take.nil
noncomputable def p_cmp_isNaN_string (v0 : ByteArray) : Option (Bool) := some (!decide (v0 = v0))
theorem c_cmp_isNaN_string {r : Bool} (v0 : ByteArray) (H : p_cmp_isNaN_string v0 = some r) : Fn' Tryz.prog 149 #[.string (v0)] [] [] (ι := Unit) (fun _ => .bool (r)) (fun _ => []) (fun _ => []) := by
 refine calls_of (args := [_]) Tryz.func149 rfl (by kernel_rfl) Tryz.ntmps149 (by simp) fun c => ?_
 unfold p_cmp_isNaN_string at H
 refine Tr.seq (Tr.region (Rg.a (v := .bool (false)) rfl (Rg.nl (nT (?_)))))
 refine Tr.seq (Tr.region (Rg.m rfl (Rg.m rfl (Rg.p (p_sneq rfl rfl) (Rg.a rfl ?_)))))
 refine Rg.nl (nT (?_))
 refine tRet ?_
 obtain rfl := si H
 exact bk1 rfl rfl rfl rfl Take.nil
noncomputable def p_cmp_Compare_string (v0 : ByteArray) (v1 : ByteArray) : Option (Int) := bd (p_cmp_isNaN_string v0) fun r1 => bd (p_cmp_isNaN_string v1) fun r3 => cond (r1) (cond (r3) (some 0) (some (-1))) (cond (r3) (some 1) (cond (sless v0 v1) (some (-1)) (cond (!(sless v0 v1 || decide (v0 = v1))) (some 1) (some 0))))
theorem c_cmp_Compare_string {r : Int} (v0 : ByteArray) (v1 : ByteArray) (H : p_cmp_Compare_string v0 v1 = some r) : Fn' Tryz.prog 131 #[.string (v0), .string (v1)] [] [] (ι := Unit) (fun _ => .int .i64 (r)) (fun _ => []) (fun _ => []) := by
 refine calls_of (args := [_, _]) Tryz.func131 rfl (by kernel_rfl) Tryz.ntmps131 (by simp) fun c => ?_
 unfold p_cmp_Compare_string at H
 refine Tr.seq (Tr.region (Rg.a (v := .int .i64 (0)) rfl (Rg.nl (nT (?_)))))
 refine Tr.seq (Tr.region (Rg.m rfl ?_))
 obtain ⟨r1, h2, H⟩ := bd.of H
 refine Rg.o (q_call (c_cmp_isNaN_string v0 h2) rfl EntsB.nil) (Rg.a rfl (Rg.nl (nT (?_))))
 refine Tr.seq (Tr.region (Rg.m rfl ?_))
 obtain ⟨r3, h4, H⟩ := bd.of H
 refine Rg.o (q_call (c_cmp_isNaN_string v1 h4) rfl EntsB.nil) (Rg.a rfl (Rg.nl (nT (?_))))
 refine Tr.seq (Tr.seq (Tr.region (Rg.m rfl (Rg.nl (nT (?_))))))
 refine Tr.cond (b := r1) rfl (fun h5 => ?_) (fun h5 => ?_)
 ·have H := cdT h5 H
  refine Tr.seq (Tr.seq (Tr.region (Rg.m rfl (Rg.nl (nT (?_))))))
  refine Tr.cond (b := r3) rfl (fun h6 => ?_) (fun h6 => ?_)
  ·have H := cdT h6 H
   refine Tr.seq (Tr.region (Rg.a (v := .int .i64 (0)) rfl (Rg.nl (nT (?_)))))
   refine tRet (rT (rT (?_)))
   obtain rfl := si H
   exact bk1 rfl rfl rfl rfl Take.nil
  ·have H := cdF h6 H
   refine tSkip (nT (?_))
   refine Tr.seq (Tr.region (Rg.a (v := .int .i64 (-1)) rfl (Rg.nl (nT (?_)))))
   refine tRet (rT (?_))
   obtain rfl := si H
   exact bk1 rfl rfl rfl rfl Take.nil
 ·have H := cdF h5 H
  refine tSkip (nT (?_))
  refine Tr.seq (Tr.seq (Tr.region (Rg.m rfl (Rg.nl (nT (?_))))))
  refine Tr.cond (b := r3) rfl (fun h7 => ?_) (fun h7 => ?_)
  ·have H := cdT h7 H
   refine Tr.seq (Tr.region (Rg.a (v := .int .i64 (1)) rfl (Rg.nl (nT (?_)))))
   refine tRet (rT (?_))
   obtain rfl := si H
   exact bk1 rfl rfl rfl rfl Take.nil
  ·have H := cdF h7 H
   refine tSkip (nT (?_))
   refine Tr.seq (Tr.seq (Tr.region (Rg.m rfl (Rg.m rfl (Rg.p (p_slss rfl rfl) ?_)))))
   refine Rg.nl (nT (?_))
   refine Tr.cond (b := sless v0 v1) rfl (fun h8 => ?_) (fun h8 => ?_)
   ·have H := cdT h8 H
    refine Tr.seq (Tr.region (Rg.a (v := .int .i64 (-1)) rfl (Rg.nl (nT (?_)))))
    refine tRet (rT (?_))
    obtain rfl := si H
    exact bk1 rfl rfl rfl rfl Take.nil
   ·have H := cdF h8 H
    refine tSkip (nT (?_))
    refine Tr.seq (Tr.seq (Tr.region (Rg.m rfl (Rg.m rfl (Rg.p (p_sgtr rfl rfl) ?_)))))
    refine Rg.nl (nT (?_))
    refine Tr.cond (b := !(sless v0 v1 || decide (v0 = v1))) rfl (fun h9 => ?_) (fun h9 => ?_)
    ·have H := cdT h9 H
     refine Tr.seq (Tr.region (Rg.a (v := .int .i64 (1)) rfl (Rg.nl (nT (?_)))))
     refine tRet (rT (?_))
     obtain rfl := si H
     exact bk1 rfl rfl rfl rfl Take.nil
    ·have H := cdF h9 H
     refine tSkip (nT (?_))
     refine Tr.seq (Tr.region (Rg.a (v := .int .i64 (0)) rfl (Rg.nl (nT (?_)))))
     refine tRet ?_
     obtain rfl := si H
     exact bk1 rfl rfl rfl rfl Take.nil
noncomputable def p_cmp_Or_int_b0 (v0 : (List Int)) (Q5 : Int) : Option ((Int) ⊕ (Unit ⊕ Int)) := cond (decide (Q5 < (v0.length : Int))) (gd (ix Q5 v0.length) <| cond (!decide ((nth v0 Q5.toNat) = 0)) (some (.inr (.inr (nth v0 Q5.toNat)))) (gd (I64 (Q5 + 1)) <| some (.inl (Q5 + 1)))) (some (.inr (.inl ())))
noncomputable def p_cmp_Or_int (v0 : (List Int)) : Option (Int) := bd (lp (p_cmp_Or_int_b0 v0) 0) <| sw (fun _ => some 0) (fun q => some q)
theorem c_cmp_Or_int {r : Int} (v0 : (List Int)) (x_v0 : Option Addr × Nat) (H : p_cmp_Or_int v0 = some r) : Fn' Tryz.prog 130 #[.slice x_v0.1 v0.length x_v0.2] [imm (.slice x_v0.1 v0.length x_v0.2) v0] [] (ι := Unit) (fun _ => .int .i64 (r)) (fun _ => []) (fun _ => []) := by
 refine calls_of (args := [_]) Tryz.func130 rfl (by kernel_rfl) Tryz.ntmps130 (by simp) fun c => ?_
 unfold p_cmp_Or_int at H
 refine Tr.seq (Tr.region (Rg.a (v := .int .i64 (0)) rfl (Rg.nl (nT (?_)))))
 refine Tr.seq (Tr.region (Rg.a (v := .int .i64 (0)) rfl (Rg.nl (nT (?_)))))
 refine Tr.seq (Tr.seq (Tr.region (Rg.m rfl (Rg.p (p_len 3 Tryz.underlying69 rfl) (Rg.m (v := .int .i64 (0)) rfl ?_)))))
 refine Rg.nl (nT (?_))
 obtain ⟨x1, hx2, H⟩ := bd.of H
 obtain ⟨n3, hx2⟩ := lp.of hx2
 refine tMidNC (ι := { q : (Unit) × Unit // x1 = .inl q.1 }) (fun ψ => [(3, .int .i64 (0))]) (fun ψ => []) ?_ ?_
 ·refine Tr.block (tLoopC (ι := { q : Nat × (Int) × Unit // itr (p_cmp_Or_int_b0 v0) q.1 q.2.1 = some x1 }) (fun ζ => [(3, .int .i64 (0)), (6, .slice x_v0.1 v0.length x_v0.2), (7, .int .i64 ((v0.length : Int))), (8, .int .i64 (ζ.1.2.1))]) (fun ζ => []) (fun ζ => ζ.1.1) ⟨(n3, 0, ()), hx2⟩ ⟨rfl, rfl, rfl, rfl, trivial⟩ Take.nil ?_)
  rintro ⟨⟨m4, Q5, z6⟩, hk11⟩
  obtain ⟨m12, t8, e, H1, hi9, hb10⟩ := itr.of (n := m4) (s := Q5) hk11
  subst e; unfold p_cmp_Or_int_b0 at H1
  show Tr _ _ _ _ _ [(3, .int .i64 (0)), (6, .slice x_v0.1 v0.length x_v0.2), (7, .int .i64 ((v0.length : Int))), (8, .int .i64 (Q5))] _ []
  refine Tr.seq (Tr.region (Rg.p (p_lss rfl rfl) (Rg.nl (nT (?_)))))
  refine Tr.seq (Tr.cond (b := decide (Q5 < (v0.length : Int))) rfl (fun h13 => ?_) (fun h13 => ?_))
  ·have H1 := cdT h13 H1
   refine tSkip (nT (?_))
   refine Tr.seq (Tr.block (Tr.seq (Tr.region ?_)))
   obtain ⟨h14, H1⟩ := gd.of H1
   refine Rg.o (q_ixg Tryz.underlying69 ty3 rfl rfl h14 rfl (EntB.flat (Ent.b Ent.z))) (Rg.o (q_lde (i := Q5.toNat) (j := 0) ty3 rfl (EntB.flat (Ent.b Ent.z)) h14.lt rfl) (Rg.a rfl (Rg.nl (nT (?_)))))
   refine Tr.seq (Tr.region (Rg.m rfl (Rg.m (v := .int .i64 (0)) rfl (Rg.p (p_neq rfl rfl) (Rg.nl ?_)))))
   refine nT (?_)
   refine Tr.cond (b := !decide ((nth v0 Q5.toNat) = 0)) rfl (fun h15 => ?_) (fun h15 => ?_)
   ·have H1 := cdT h15 H1
    refine Tr.seq (Tr.region (Rg.m rfl (Rg.a rfl (Rg.nl (nT (?_))))))
    refine tRet (rB (rT (rT (rB (rT (rT (?_)))))))
    have hx := hb10 _ (Option.some.inj H1).symm; subst hx
    replace H := sw.r H
    obtain rfl := si H
    exact bk1 rfl rfl rfl rfl Take.nil
   ·have H1 := cdF h15 H1
    refine tSkip (nB (nT (?_)))
    refine Tr.region ?_
    obtain ⟨h16, H1⟩ := gd.of H1
    refine Rg.p (p_add rfl rfl h16) (Rg.m rfl (Rg.nl ?_))
    exact nLC ⟨(m12, Q5 + 1, ()), hi9 _ (Option.some.inj H1).symm⟩ (Nat.lt_succ_self _) ⟨rfl, rfl, rfl, rfl, trivial⟩ Ents.refl Take.nil
  ·have H1 := cdF h13 H1
   refine tExit (xT (xT (xE (?_))))
   exact nMC ⟨((), ()), (hb10 _ (Option.some.inj H1).symm).symm⟩ ⟨rfl, trivial⟩ Ents.refl Take.nil
 ·rintro ⟨⟨e17, y7⟩, hx⟩; subst hx; replace H := sw.l H
  show At _ _ [(3, .int .i64 (0))] _ [] _
  refine nT (?_)
  refine Tr.seq (Tr.region (Rg.m (v := .int .i64 (0)) rfl (Rg.a (v := .int .i64 (0)) rfl (Rg.nl (nT (?_))))))
  refine tRet ?_
  obtain rfl := si H
  exact bk1 rfl rfl rfl rfl Take.nil
noncomputable def p_impl_indexOf_2 (v0 : PostH) (v1 : PostH) : Option (Int) := bd (p_cmp_Compare_string v0.1.1 v1.1.1) fun r3 => bd (p_cmp_Compare_string v0.1.2 v1.1.2) fun r5 => bd (p_cmp_Or_int ([r3, r5] : List Int)) fun r9 => some r9
theorem c_impl_indexOf_2 {r : Int} (v0 : PostH) (v1 : PostH) (H : p_impl_indexOf_2 v0 v1 = some r) : Fn' Tryz.prog 129 #[.agg #[.string (v0.1.1), .string (v0.1.2), v0.2.1], .agg #[.string (v1.1.1), .string (v1.1.2), v1.2.1]] [] [] (ι := Unit) (fun _ => .int .i64 (r)) (fun _ => []) (fun _ => []) := by
 refine calls_of (args := [_, _]) Tryz.func129 rfl (by kernel_rfl) Tryz.ntmps129 (by simp) fun c => ?_
 unfold p_impl_indexOf_2 at H
 refine Tr.seq (Tr.region (Rg.ef (e_box (t := 113) rfl) rfl ?_))
 rintro _ _ _ ⟨g1, rfl, rfl, rfl⟩
 refine Rg.ef (e_box (t := 113) rfl) rfl ?_
 rintro _ _ _ ⟨g2, rfl, rfl, rfl⟩
 refine Rg.a (v := .int .i64 (0)) rfl (Rg.nl (nT (?_)))
 refine Tr.seq (tNwS [(3, .pointer (some ⟨g2, 0, none⟩)), (2, .pointer (some ⟨g1, 0, none⟩))] 1 [0, 1, 2, 3, 4, 5, 6, 7, 8, 9, 10, 11, 12, 13, 14, 15, 16] [14] [] Tryz.mixed (by kernel_rfl) (by decide) List.nodup_nil ⟨rfl, rfl, trivial⟩ rfl okNil (w_p rfl (p_fabE fa113_0 rfl rfl) (w_p rfl (p_fabE fa96_0 rfl rfl) (w_o rfl (fun F => (q_ldb ty9 rfl (hs1.app F) rfl)) (w_p rfl (p_fabE fa113_0 rfl rfl) ?_)))))
 refine w_p rfl (p_fabE fa96_0 rfl rfl) ?_
 refine w_o rfl (fun F => (q_ldb ty9 rfl (Has.here.app F) rfl)) ?_
 obtain ⟨r3, h4, H⟩ := bd.of H
 refine w_o rfl (fun F => (q_call (c_cmp_Compare_string v0.1.1 v1.1.1 h4) rfl EntsB.nil)) (w_p rfl (p_fabE fa113_0 rfl rfl) (w_p rfl (p_fabE fa96_1 rfl rfl) (w_o rfl (fun F => (q_ldb ty9 rfl (hs1.app F) rfl)) (w_p rfl (p_fabE fa113_0 rfl rfl) (w_p rfl (p_fabE fa96_1 rfl rfl) ?_)))))
 refine w_o rfl (fun F => (q_ldb ty9 rfl (Has.here.app F) rfl)) ?_
 obtain ⟨r5, h6, H⟩ := bd.of H
 refine w_o rfl (fun F => (q_call (c_cmp_Compare_string v0.1.2 v1.1.2 h6) rfl EntsB.nil)) (w_ed rfl (by decide) rfl Rdy.nil rfl (n_litT (α := Int) (vs := [(0, .int .i64 (r3)), (1, .int .i64 (r5))]) [r3, r5] rfl (fun _ => rfl) (fun _ _ => by repeat constructor) Tryz.underlying69 ty3 rfl (by decide) (by decide) (by kernel_rfl)) ?_)
 rintro _ _ _ ⟨a7, c8, rfl, rfl, rfl⟩
 refine ⟨(PdOk.anc (by kernel_rfl) (PdOk.q rfl rfl (fun F => (q_ldb ty9 rfl (hs1.app F) rfl)) (PdOk.q rfl rfl (fun F => (q_ldb ty9 rfl (hs2.app F) rfl)) (PdOk.anc (by kernel_rfl) (PdOk.q rfl rfl (fun F => (q_ldb ty9 rfl (hs1.app F) rfl)) (PdOk.q rfl rfl (fun F => (q_ldb ty9 rfl (hs2.app F) rfl)) PdOk.nil)))))), ?_⟩
 obtain ⟨r9, h10, H⟩ := bd.of H
 refine w_o rfl (fun F => (q_call (c_cmp_Or_int ([r3, r5] : List Int) (a7, c8) h10) rfl (EntsB.cons (EntB.tree (Has.here.app F)) EntsB.nil))) (w_p rfl (p_assign rfl) (w_nil ?_))
 show At _ _ _ _ _ _
 refine nT (?_)
 refine tRet ?_
 obtain rfl := si H
 exact bk1 rfl rfl rfl rfl Take.nil
noncomputable def p_insertionSortH_b1 (v1 : Int) (Q20 : (List PostH) × Int) : Option (((List PostH) × Int) ⊕ ((List PostH))) := bd (cond (decide (v1 < Q20.2)) (gd (ix Q20.2 Q20.1.length) <| gd (I64 (Q20.2 - 1)) <| gd (ix (Q20.2 - 1) Q20.1.length) <| bd (p_impl_indexOf_2 (nth Q20.1 Q20.2.toNat) (nth Q20.1 ((Q20.2 - 1).toNat))) fun r35 => some (decide (r35 < 0))) (some (false))) fun b29 => cond (b29) (gd (I64 (Q20.2 - 1)) <| gd (ix (Q20.2 - 1) Q20.1.length) <| gd (ix Q20.2 Q20.1.length) <| gd (ix Q20.2 (Q20.1.set Q20.2.toNat (nth Q20.1 ((Q20.2 - 1).toNat))).length) <| gd (ix (Q20.2 - 1) (Q20.1.set Q20.2.toNat (nth Q20.1 ((Q20.2 - 1).toNat))).length) <| some (.inl (((Q20.1.set Q20.2.toNat (nth Q20.1 ((Q20.2 - 1).toNat))).set ((Q20.2 - 1).toNat) (nth Q20.1 Q20.2.toNat)), Q20.2 - 1))) (some (.inr Q20.1))
noncomputable def p_insertionSortH_b0 (v1 : Int) (v2 : Int) (Q6 : (List PostH) × Int) : Option (((List PostH) × Int) ⊕ ((List PostH))) := cond (decide (Q6.2 < v2)) (bd (lp (p_insertionSortH_b1 v1) (Q6.1, Q6.2)) fun x16 => gd (I64 (Q6.2 + 1)) <| some (.inl (x16, Q6.2 + 1))) (some (.inr Q6.1))
noncomputable def p_insertionSortH (v0 : (List PostH)) (v1 : Int) (v2 : Int) : Option ((List PostH)) := gd (I64 (v1 + 1)) <| bd (lp (p_insertionSortH_b0 v1 v2) (v0, v1 + 1)) fun x2 => some x2
theorem c_insertionSortH {r : (List PostH)} (v0 : (List PostH)) (x_v0 : Option Addr × Nat) (n_v0 : Nat) (e_v0 : n_v0 = v0.length) (v1 : Int) (v2 : Int) (H : p_insertionSortH v0 v1 v2 = some r) : Fn' Tryz.prog 152 #[.slice x_v0.1 n_v0 x_v0.2, .int .i64 (v1), .int .i64 (v2), .func (.func 129) #[] #[]] [] [tree (.slice x_v0.1 n_v0 x_v0.2) v0] (ι := Unit) (fun _ => .tuple #[]) (fun _ => []) (fun _ => [tree (.slice x_v0.1 n_v0 x_v0.2) r]) := by
 subst e_v0
 refine calls_of (args := [_, _, _, _]) Tryz.func152 rfl (by kernel_rfl) Tryz.ntmps152 (by simp) fun c => ?_
 unfold p_insertionSortH at H
 refine Tr.seq (Tr.region (Rg.m rfl ?_))
 obtain ⟨h1, H⟩ := gd.of H
 refine Rg.p (p_add rfl rfl h1) (Rg.a rfl (Rg.nl (nT (?_))))
 obtain ⟨x2, hx3, H⟩ := bd.of H
 obtain ⟨n4, hx3⟩ := lp.of hx3
 refine tMidNC (ι := Unit) (fun ψ => []) (fun ψ => [tree (.slice x_v0.1 v0.length x_v0.2) x2]) ?_ ?_
 ·refine Tr.block (tLoopC (ι := { q : Nat × ((List PostH) × Int) × Unit // itr (p_insertionSortH_b0 v1 v2) q.1 q.2.1 = some x2 }) (fun ζ => [(0, .slice x_v0.1 v0.length x_v0.2), (1, .int .i64 (v1)), (2, .int .i64 (v2)), (3, .func (.func 129) #[] #[]), (8, .int .i64 (ζ.1.2.1.2))]) (fun ζ => [tree (.slice x_v0.1 v0.length x_v0.2) ζ.1.2.1.1]) (fun ζ => ζ.1.1) ⟨(n4, (v0, v1 + 1), ()), hx3⟩ ⟨rfl, rfl, rfl, rfl, rfl, trivial⟩ (.cons Del.here .nil) ?_)
  rintro ⟨⟨m5, Q6, z7⟩, hk12⟩
  obtain ⟨m13, t9, e, H1, hi10, hb11⟩ := itr.of (n := m5) (s := Q6) hk12
  subst e; unfold p_insertionSortH_b0 at H1
  show Tr _ _ _ _ _ [(0, .slice x_v0.1 v0.length x_v0.2), (1, .int .i64 (v1)), (2, .int .i64 (v2)), (3, .func (.func 129) #[] #[]), (8, .int .i64 (Q6.2))] _ [tree (.slice x_v0.1 v0.length x_v0.2) Q6.1]
  refine Tr.seq (Tr.seq (Tr.olen Has.here fun hn14 => (Tr.region (Rg.m rfl (Rg.m rfl ?_)))))
  refine Rg.p (p_lss rfl rfl) (Rg.nl (nT (?_)))
  refine Tr.cond (b := decide (Q6.2 < v2)) rfl (fun h15 => ?_) (fun h15 => ?_)
  ·have H1 := cdT h15 H1
   refine tSkip (nT (?_))
   refine Tr.seq (Tr.block (Tr.seq (Tr.region (Rg.m rfl (Rg.a rfl ?_)))))
   refine Rg.nl (nT (?_))
   obtain ⟨x16, hx17, H1⟩ := bd.of H1
   obtain ⟨n18, hx17⟩ := lp.of hx17
   refine tMidNC (ι := Unit) (fun ψ => [(0, .slice x_v0.1 v0.length x_v0.2), (1, .int .i64 (v1)), (2, .int .i64 (v2)), (3, .func (.func 129) #[] #[]), (8, .int .i64 (Q6.2))]) (fun ψ => [tree (.slice x_v0.1 v0.length x_v0.2) x16]) ?_ ?_
   ·refine Tr.block (tLoopC (ι := { q : Nat × ((List PostH) × Int) × Unit // itr (p_insertionSortH_b1 v1) q.1 q.2.1 = some x16 }) (fun ζ => [(0, .slice x_v0.1 v0.length x_v0.2), (1, .int .i64 (v1)), (2, .int .i64 (v2)), (3, .func (.func 129) #[] #[]), (8, .int .i64 (Q6.2)), (9, .int .i64 (ζ.1.2.1.2))]) (fun ζ => [tree (.slice x_v0.1 v0.length x_v0.2) ζ.1.2.1.1]) (fun ζ => ζ.1.1) ⟨(n18, (Q6.1, Q6.2), ()), hx17⟩ ⟨rfl, rfl, rfl, rfl, rfl, rfl, trivial⟩ (.cons Del.here .nil) ?_)
    rintro ⟨⟨m19, Q20, z21⟩, hk26⟩
    obtain ⟨m27, t23, e, H2, hi24, hb25⟩ := itr.of (n := m19) (s := Q20) hk26
    subst e; unfold p_insertionSortH_b1 at H2
    show Tr _ _ _ _ _ [(0, .slice x_v0.1 v0.length x_v0.2), (1, .int .i64 (v1)), (2, .int .i64 (v2)), (3, .func (.func 129) #[] #[]), (8, .int .i64 (Q6.2)), (9, .int .i64 (Q20.2))] _ [tree (.slice x_v0.1 v0.length x_v0.2) Q20.1]
    refine Tr.seq (Tr.olen Has.here fun hn28 => ?_)
    obtain ⟨b29, j30, H2⟩ := bd.of H2
    refine tMid1 [(34, .bool (b29)), (0, .slice x_v0.1 v0.length x_v0.2), (1, .int .i64 (v1)), (2, .int .i64 (v2)), (3, .func (.func 129) #[] #[]), (8, .int .i64 (Q6.2)), (9, .int .i64 (Q20.2))] ?_ ?_
    ·refine tLinS [(0, .slice x_v0.1 v0.length x_v0.2), (1, .int .i64 (v1)), (2, .int .i64 (v2)), (3, .func (.func 129) #[] #[]), (8, .int .i64 (Q6.2)), (9, .int .i64 (Q20.2))] Tryz.mixed (.inr (by kernel_rfl)) ⟨rfl, rfl, rfl, rfl, rfl, rfl, trivial⟩ rfl (Lin.m rfl (Lin.m rfl (Lin.p (p_gtr rfl rfl) ?_)))
     rcases Bool.eq_false_or_eq_true (decide (v1 < Q20.2)) with h31 | h31
     ·have j30 := cdT h31 j30
      refine Lin.e_ (p_move rfl) h31 (Lin.h rfl (p_move rfl) (Lin.h rfl (p_move rfl) (Lin.h rfl (p_move rfl) ?_)))
      obtain ⟨h32, j30⟩ := gd.of j30
      refine Lin.i rfl (q_ixO' Tryz.underlying33 ty113 rfl rfl h32 Has.here) (Lin.i (v := .agg #[.string (((nth Q20.1 Q20.2.toNat).1).1), .string (((nth Q20.1 Q20.2.toNat).1).2), ((nth Q20.1 Q20.2.toNat).2).1]) rfl (q_ldeA (i := Q20.2.toNat) ty113 rfl (EntB.flat (EntB.tree Has.here)) h32.lt) (Lin.h rfl (p_move rfl) (Lin.h rfl (p_move rfl) ?_)))
      obtain ⟨h33, j30⟩ := gd.of j30
      refine Lin.h rfl (p_sub rfl rfl h33) ?_
      obtain ⟨h34, j30⟩ := gd.of j30
      refine Lin.i rfl (q_ixO' Tryz.underlying33 ty113 rfl rfl h34 Has.here) (Lin.i (v := .agg #[.string (((nth Q20.1 ((Q20.2 - 1).toNat)).1).1), .string (((nth Q20.1 ((Q20.2 - 1).toNat)).1).2), ((nth Q20.1 ((Q20.2 - 1).toNat)).2).1]) rfl (q_ldeA (i := (Q20.2 - 1).toNat) ty113 rfl (EntB.flat (EntB.tree Has.here)) h34.lt) ?_)
      obtain ⟨r35, h36, j30⟩ := bd.of j30
      refine Lin.i (v := .int .i64 (r35)) rfl (Ex.dyn (caps := []) (vs := [.agg #[.string (((nth Q20.1 Q20.2.toNat).1).1), .string (((nth Q20.1 Q20.2.toNat).1).2), ((nth Q20.1 Q20.2.toNat).2).1], .agg #[.string (((nth Q20.1 ((Q20.2 - 1).toNat)).1).1), .string (((nth Q20.1 ((Q20.2 - 1).toNat)).1).2), ((nth Q20.1 ((Q20.2 - 1).toNat)).2).1]]) rfl rfl (q_call (c_impl_indexOf_2 (nth Q20.1 Q20.2.toNat) (nth Q20.1 ((Q20.2 - 1).toNat)) h36) rfl EntsB.nil)) (Lin.h rfl (p_lss rfl rfl) (Lin.p (p_pickT rfl rfl) ?_))
      obtain rfl := si j30
      show At _ _ _ _ _ _
      exact n1 ⟨rfl, rfl, rfl, rfl, rfl, rfl, rfl, trivial⟩
     ·have j30 := cdF h31 j30
      refine Lin.e_ (p_move rfl) h31 ?_
      iterate 12 refine Lin.sk rfl ?_
      refine Lin.p (v := .bool (false)) (p_pickF rfl rfl) ?_
      obtain rfl := si j30
      show At _ _ _ _ _ _
      exact n1 ⟨rfl, rfl, rfl, rfl, rfl, rfl, rfl, trivial⟩
    refine Tr.cond (b := b29) rfl (fun h37 => ?_) (fun h37 => ?_)
    ·have H2 := cdT h37 H2
     refine tSkip (nT (?_))
     refine Tr.seq (Tr.block (tNwS [(0, .slice x_v0.1 v0.length x_v0.2), (1, .int .i64 (v1)), (2, .int .i64 (v2)), (3, .func (.func 129) #[] #[]), (8, .int .i64 (Q6.2)), (9, .int .i64 (Q20.2))] 1 [0, 1, 2, 3, 4, 5, 6, 7, 8, 9, 10, 11, 12, 13, 14, 15, 16, 17] [15, 17] [] Tryz.mixed (by kernel_rfl) (by decide) List.nodup_nil ⟨rfl, rfl, rfl, rfl, rfl, rfl, trivial⟩ rfl okNil (w_p rfl (p_move rfl) (w_p rfl (p_move rfl) (w_p rfl (p_move rfl) ?_)))))
     refine w_p rfl (p_move rfl) ?_
     obtain ⟨h38, H2⟩ := gd.of H2
     refine w_p rfl (p_sub rfl rfl h38) (w_p rfl (p_move rfl) (w_p rfl (p_move rfl) (w_p rfl (p_sub rfl rfl h38) ?_)))
     obtain ⟨h39, H2⟩ := gd.of H2
     refine w_o rfl (fun F => (q_ixO' Tryz.underlying33 ty113 rfl rfl h39 (Has.here.app F))) ?_
     refine w_o (v := .agg #[.string (((nth Q20.1 ((Q20.2 - 1).toNat)).1).1), .string (((nth Q20.1 ((Q20.2 - 1).toNat)).1).2), ((nth Q20.1 ((Q20.2 - 1).toNat)).2).1]) rfl (fun F => (q_ldeA (i := (Q20.2 - 1).toNat) ty113 rfl (EntB.flat (EntB.tree (Has.here.app F))) h39.lt)) (w_p rfl (p_move rfl) (w_p rfl (p_move rfl) ?_))
     obtain ⟨h40, H2⟩ := gd.of H2
     refine w_o rfl (fun F => (q_ixO' Tryz.underlying33 ty113 rfl rfl h40 (Has.here.app F))) ?_
     refine w_o (v := .agg #[.string (((nth Q20.1 Q20.2.toNat).1).1), .string (((nth Q20.1 Q20.2.toNat).1).2), ((nth Q20.1 Q20.2.toNat).2).1]) rfl (fun F => (q_ldeA (i := Q20.2.toNat) ty113 rfl (EntB.flat (EntB.tree (Has.here.app F))) h40.lt)) ?_
     refine w_o rfl (fun F => (q_ixO' Tryz.underlying33 ty113 rfl rfl h40 (Has.here.app F))) (w_en rfl rfl Rdy.nil rfl (n_setT (l := Q20.1) (α := PostH) (oa := x_v0.1) Q20.2.toNat (nth Q20.1 ((Q20.2 - 1).toNat)) (((), ()), ()) ty113 rfl rfl rfl h40.lt (ShpT.wfa _) (.cons Del.here .nil)) ?_)
     rintro _ _ _ ⟨rfl, rfl, rfl⟩
     obtain ⟨h41, H2⟩ := gd.of H2
     refine ⟨(PdOk.anc (by kernel_rfl) (PdOk.anc (by kernel_rfl) (PdOk.q rfl rfl (fun F => (q_ixO' Tryz.underlying33 ty113 rfl rfl h41 (Has.here.app F))) (PdOk.anc (by kernel_rfl) (PdOk.anc (by kernel_rfl) PdOk.nil))))), ?_⟩
     obtain ⟨h42, H2⟩ := gd.of H2
     refine w_o rfl (fun F => (q_ixO' Tryz.underlying33 ty113 rfl rfl h42 (Has.here.app F))) (w_en rfl rfl Rdy.nil rfl (n_setT (l := (Q20.1.set Q20.2.toNat (nth Q20.1 ((Q20.2 - 1).toNat)))) (α := PostH) (oa := x_v0.1) ((Q20.2 - 1).toNat) (nth Q20.1 Q20.2.toNat) (((), ()), ()) ty113 rfl rfl rfl h42.lt (ShpT.wfa _) (.cons Del.here .nil)) ?_)
     rintro _ _ _ ⟨rfl, rfl, rfl⟩
     refine ⟨(PdOk.anc (by kernel_rfl) (PdOk.anc (by kernel_rfl) (PdOk.anc (by kernel_rfl) (PdOk.anc (by kernel_rfl) (PdOk.anc (by kernel_rfl) (PdOk.anc (by kernel_rfl) PdOk.nil)))))), ?_⟩
     refine w_nil ?_
     show At _ _ _ _ _ _
     refine nB (nT (?_))
     refine Tr.olen Has.here fun hn43 => (Tr.region (Rg.m rfl (Rg.p (p_sub rfl rfl h38) (Rg.a rfl (Rg.nl ?_)))))
     exact nLC ⟨(m27, (((Q20.1.set Q20.2.toNat (nth Q20.1 ((Q20.2 - 1).toNat))).set ((Q20.2 - 1).toNat) (nth Q20.1 Q20.2.toNat)), Q20.2 - 1), ()), hi24 _ (Option.some.inj H2).symm⟩ (Nat.lt_succ_self _) ⟨rfl, rfl, rfl, rfl, rfl, rfl, trivial⟩ Ents.refl (.cons Del.here .nil)
    ·have H2 := cdF h37 H2
     refine tExit (xT (xT (xE (?_))))
     have hx := hb25 _ (Option.some.inj H2).symm; subst hx
     exact nMC () ⟨rfl, rfl, rfl, rfl, rfl, trivial⟩ Ents.refl (.cons Del.here .nil)
   ·intro y22
    show At _ _ [(0, .slice x_v0.1 v0.length x_v0.2), (1, .int .i64 (v1)), (2, .int .i64 (v2)), (3, .func (.func 129) #[] #[]), (8, .int .i64 (Q6.2))] _ [tree (.slice x_v0.1 v0.length x_v0.2) x16] _
    refine nB (nT (?_))
    refine Tr.olen Has.here fun hn44 => (Tr.region (Rg.m rfl ?_))
    obtain ⟨h45, H1⟩ := gd.of H1
    refine Rg.p (p_add rfl rfl h45) (Rg.a rfl (Rg.nl ?_))
    exact nLC ⟨(m13, (x16, Q6.2 + 1), ()), hi10 _ (Option.some.inj H1).symm⟩ (Nat.lt_succ_self _) ⟨rfl, rfl, rfl, rfl, rfl, trivial⟩ Ents.refl (.cons Del.here .nil)
  ·have H1 := cdF h15 H1
   refine tExit (xT (xT (xE (?_))))
   have hx := hb11 _ (Option.some.inj H1).symm; subst hx
   exact nMC () trivial Ents.refl (.cons Del.here .nil)
 ·intro y8
  show At _ _ [] _ [tree (.slice x_v0.1 v0.length x_v0.2) x2] _
  obtain rfl := si H
  exact back0n () rfl  rfl Ents.nil (.cons Del.here .nil)
noncomputable def p_siftDownH_b0 (v2 : Int) (v3 : Int) (Q5 : (List PostH) × Int) : Option (((List PostH) × Int) ⊕ ((List PostH) ⊕ (List PostH))) := gd (I64 (2 * Q5.2)) <| gd (I64 ((2 * Q5.2) + 1)) <| cond (decide (v2 ≤ ((2 * Q5.2) + 1))) (some (.inr (.inl Q5.1))) (bd (gd (I64 (((2 * Q5.2) + 1) + 1)) <| cond (decide ((((2 * Q5.2) + 1) + 1) < v2)) (gd (I64 (v3 + ((2 * Q5.2) + 1))) <| gd (ix (v3 + ((2 * Q5.2) + 1)) Q5.1.length) <| gd (I64 ((v3 + ((2 * Q5.2) + 1)) + 1)) <| gd (ix ((v3 + ((2 * Q5.2) + 1)) + 1) Q5.1.length) <| bd (p_impl_indexOf_2 (nth Q5.1 ((v3 + ((2 * Q5.2) + 1)).toNat)) (nth Q5.1 (((v3 + ((2 * Q5.2) + 1)) + 1).toNat))) fun r25 => some (decide (r25 < 0))) (some (false))) fun b17 => cond (b17) (gd (I64 (((2 * Q5.2) + 1) + 1)) <| gd (I64 (v3 + Q5.2)) <| gd (ix (v3 + Q5.2) Q5.1.length) <| gd (I64 (v3 + (((2 * Q5.2) + 1) + 1))) <| gd (ix (v3 + (((2 * Q5.2) + 1) + 1)) Q5.1.length) <| bd (p_impl_indexOf_2 (nth Q5.1 ((v3 + Q5.2).toNat)) (nth Q5.1 ((v3 + (((2 * Q5.2) + 1) + 1)).toNat))) fun r33 => cond (!(decide (r33 < 0))) (some (.inr (.inr Q5.1))) (gd (ix (v3 + Q5.2) (Q5.1.set ((v3 + Q5.2).toNat) (nth Q5.1 ((v3 + (((2 * Q5.2) + 1) + 1)).toNat))).length) <| gd (ix (v3 + (((2 * Q5.2) + 1) + 1)) (Q5.1.set ((v3 + Q5.2).toNat) (nth Q5.1 ((v3 + (((2 * Q5.2) + 1) + 1)).toNat))).length) <| some (.inl (((Q5.1.set ((v3 + Q5.2).toNat) (nth Q5.1 ((v3 + (((2 * Q5.2) + 1) + 1)).toNat))).set ((v3 + (((2 * Q5.2) + 1) + 1)).toNat) (nth Q5.1 ((v3 + Q5.2).toNat))), ((2 * Q5.2) + 1) + 1)))) (gd (I64 (v3 + Q5.2)) <| gd (ix (v3 + Q5.2) Q5.1.length) <| gd (I64 (v3 + ((2 * Q5.2) + 1))) <| gd (ix (v3 + ((2 * Q5.2) + 1)) Q5.1.length) <| bd (p_impl_indexOf_2 (nth Q5.1 ((v3 + Q5.2).toNat)) (nth Q5.1 ((v3 + ((2 * Q5.2) + 1)).toNat))) fun r43 => cond (!(decide (r43 < 0))) (some (.inr (.inr Q5.1))) (gd (ix (v3 + Q5.2) (Q5.1.set ((v3 + Q5.2).toNat) (nth Q5.1 ((v3 + ((2 * Q5.2) + 1)).toNat))).length) <| gd (ix (v3 + ((2 * Q5.2) + 1)) (Q5.1.set ((v3 + Q5.2).toNat) (nth Q5.1 ((v3 + ((2 * Q5.2) + 1)).toNat))).length) <| some (.inl (((Q5.1.set ((v3 + Q5.2).toNat) (nth Q5.1 ((v3 + ((2 * Q5.2) + 1)).toNat))).set ((v3 + ((2 * Q5.2) + 1)).toNat) (nth Q5.1 ((v3 + Q5.2).toNat))), (2 * Q5.2) + 1)))))
noncomputable def p_siftDownH (v0 : (List PostH)) (v1 : Int) (v2 : Int) (v3 : Int) : Option ((List PostH)) := bd (lp (p_siftDownH_b0 v2 v3) (v0, v1)) <| sw (fun e49 => some e49) (fun q => some q)
theorem c_siftDownH {r : (List PostH)} (v0 : (List PostH)) (x_v0 : Option Addr × Nat) (n_v0 : Nat) (e_v0 : n_v0 = v0.length) (v1 : Int) (v2 : Int) (v3 : Int) (H : p_siftDownH v0 v1 v2 v3 = some r) : Fn' Tryz.prog 163 #[.slice x_v0.1 n_v0 x_v0.2, .int .i64 (v1), .int .i64 (v2), .int .i64 (v3), .func (.func 129) #[] #[]] [] [tree (.slice x_v0.1 n_v0 x_v0.2) v0] (ι := Unit) (fun _ => .tuple #[]) (fun _ => []) (fun _ => [tree (.slice x_v0.1 n_v0 x_v0.2) r]) := by
 subst e_v0
 refine calls_of (args := [_, _, _, _, _]) Tryz.func163 rfl (by kernel_rfl) Tryz.ntmps163 (by simp) fun c => ?_
 unfold p_siftDownH at H
 refine Tr.seq (Tr.region (Rg.m rfl (Rg.a rfl (Rg.nl (nT (?_))))))
 obtain ⟨x1, hx2, H⟩ := bd.of H
 obtain ⟨n3, hx2⟩ := lp.of hx2
 refine tMidNC (ι := { q : ((List PostH)) × Unit // x1 = .inl q.1 }) (fun ψ => []) (fun ψ => [tree (.slice x_v0.1 v0.length x_v0.2) ψ.1.1]) ?_ ?_
 ·refine Tr.block (tLoopC (ι := { q : Nat × ((List PostH) × Int) × Unit // itr (p_siftDownH_b0 v2 v3) q.1 q.2.1 = some x1 }) (fun ζ => [(0, .slice x_v0.1 v0.length x_v0.2), (2, .int .i64 (v2)), (3, .int .i64 (v3)), (4, .func (.func 129) #[] #[]), (10, .int .i64 (ζ.1.2.1.2))]) (fun ζ => [tree (.slice x_v0.1 v0.length x_v0.2) ζ.1.2.1.1]) (fun ζ => ζ.1.1) ⟨(n3, (v0, v1), ()), hx2⟩ ⟨rfl, rfl, rfl, rfl, rfl, trivial⟩ (.cons Del.here .nil) ?_)
  rintro ⟨⟨m4, Q5, z6⟩, hk11⟩
  obtain ⟨m12, t8, e, H1, hi9, hb10⟩ := itr.of (n := m4) (s := Q5) hk11
  subst e; unfold p_siftDownH_b0 at H1
  show Tr _ _ _ _ _ [(0, .slice x_v0.1 v0.length x_v0.2), (2, .int .i64 (v2)), (3, .int .i64 (v3)), (4, .func (.func 129) #[] #[]), (10, .int .i64 (Q5.2))] _ [tree (.slice x_v0.1 v0.length x_v0.2) Q5.1]
  refine Tr.block (Tr.seq (Tr.olen Has.here fun hn13 => (Tr.region (Rg.m rfl ?_))))
  obtain ⟨h14, H1⟩ := gd.of H1
  refine Rg.p (p_mul rfl rfl h14) ?_
  obtain ⟨h15, H1⟩ := gd.of H1
  refine Rg.p (p_add rfl rfl h15) (Rg.a rfl (Rg.nl (nT (?_))))
  refine Tr.seq (Tr.seq (Tr.region (Rg.m rfl (Rg.m rfl (Rg.p (p_geq rfl rfl) ?_)))))
  refine Rg.nl (nT (?_))
  refine Tr.cond (b := decide (v2 ≤ ((2 * Q5.2) + 1))) rfl (fun h16 => ?_) (fun h16 => ?_)
  ·have H1 := cdT h16 H1
   refine tExit (xT (xB rfl (xT (xE (?_)))))
   exact nMC ⟨(Q5.1, ()), (hb10 _ (Option.some.inj H1).symm).symm⟩ trivial Ents.refl (.cons Del.here .nil)
  ·have H1 := cdF h16 H1
   refine tSkip (nT (?_))
   refine Tr.seq ?_
   obtain ⟨b17, j18, H1⟩ := bd.of H1
   refine tMid1 [(40, .bool (b17)), (11, .int .i64 ((2 * Q5.2) + 1)), (0, .slice x_v0.1 v0.length x_v0.2), (2, .int .i64 (v2)), (3, .int .i64 (v3)), (4, .func (.func 129) #[] #[]), (10, .int .i64 (Q5.2))] ?_ ?_
   ·refine tLinS [(11, .int .i64 ((2 * Q5.2) + 1)), (0, .slice x_v0.1 v0.length x_v0.2), (2, .int .i64 (v2)), (3, .int .i64 (v3)), (4, .func (.func 129) #[] #[]), (10, .int .i64 (Q5.2))] Tryz.mixed (.inr (by kernel_rfl)) ⟨rfl, rfl, rfl, rfl, rfl, rfl, trivial⟩ rfl (Lin.m rfl ?_)
    obtain ⟨h19, j18⟩ := gd.of j18
    refine Lin.p (p_add rfl rfl h19) (Lin.m rfl (Lin.p (p_lss rfl rfl) ?_))
    rcases Bool.eq_false_or_eq_true (decide ((((2 * Q5.2) + 1) + 1) < v2)) with h20 | h20
    ·have j18 := cdT h20 j18
     refine Lin.e_ (p_move rfl) h20 (Lin.h rfl (p_move rfl) (Lin.h rfl (p_move rfl) (Lin.h rfl (p_move rfl) (Lin.h rfl (p_move rfl) ?_))))
     obtain ⟨h21, j18⟩ := gd.of j18
     refine Lin.h rfl (p_add rfl rfl h21) ?_
     obtain ⟨h22, j18⟩ := gd.of j18
     refine Lin.i rfl (q_ixO' Tryz.underlying33 ty113 rfl rfl h22 Has.here) (Lin.i (v := .agg #[.string (((nth Q5.1 ((v3 + ((2 * Q5.2) + 1)).toNat)).1).1), .string (((nth Q5.1 ((v3 + ((2 * Q5.2) + 1)).toNat)).1).2), ((nth Q5.1 ((v3 + ((2 * Q5.2) + 1)).toNat)).2).1]) rfl (q_ldeA (i := (v3 + ((2 * Q5.2) + 1)).toNat) ty113 rfl (EntB.flat (EntB.tree Has.here)) h22.lt) (Lin.h rfl (p_move rfl) (Lin.h rfl (p_move rfl) (Lin.h rfl (p_move rfl) (Lin.h rfl (p_add rfl rfl h21) ?_)))))
     obtain ⟨h23, j18⟩ := gd.of j18
     refine Lin.h rfl (p_add rfl rfl h23) ?_
     obtain ⟨h24, j18⟩ := gd.of j18
     refine Lin.i rfl (q_ixO' Tryz.underlying33 ty113 rfl rfl h24 Has.here) (Lin.i (v := .agg #[.string (((nth Q5.1 (((v3 + ((2 * Q5.2) + 1)) + 1).toNat)).1).1), .string (((nth Q5.1 (((v3 + ((2 * Q5.2) + 1)) + 1).toNat)).1).2), ((nth Q5.1 (((v3 + ((2 * Q5.2) + 1)) + 1).toNat)).2).1]) rfl (q_ldeA (i := ((v3 + ((2 * Q5.2) + 1)) + 1).toNat) ty113 rfl (EntB.flat (EntB.tree Has.here)) h24.lt) ?_)
     obtain ⟨r25, h26, j18⟩ := bd.of j18
     refine Lin.i (v := .int .i64 (r25)) rfl (Ex.dyn (caps := []) (vs := [.agg #[.string (((nth Q5.1 ((v3 + ((2 * Q5.2) + 1)).toNat)).1).1), .string (((nth Q5.1 ((v3 + ((2 * Q5.2) + 1)).toNat)).1).2), ((nth Q5.1 ((v3 + ((2 * Q5.2) + 1)).toNat)).2).1], .agg #[.string (((nth Q5.1 (((v3 + ((2 * Q5.2) + 1)) + 1).toNat)).1).1), .string (((nth Q5.1 (((v3 + ((2 * Q5.2) + 1)) + 1).toNat)).1).2), ((nth Q5.1 (((v3 + ((2 * Q5.2) + 1)) + 1).toNat)).2).1]]) rfl rfl (q_call (c_impl_indexOf_2 (nth Q5.1 ((v3 + ((2 * Q5.2) + 1)).toNat)) (nth Q5.1 (((v3 + ((2 * Q5.2) + 1)) + 1).toNat)) h26) rfl EntsB.nil)) (Lin.h rfl (p_lss rfl rfl) (Lin.p (p_pickT rfl rfl) ?_))
     obtain rfl := si j18
     show At _ _ _ _ _ _
     exact n1 ⟨rfl, rfl, rfl, rfl, rfl, rfl, rfl, trivial⟩
    ·have j18 := cdF h20 j18
     refine Lin.e_ (p_move rfl) h20 ?_
     iterate 16 refine Lin.sk rfl ?_
     refine Lin.p (v := .bool (false)) (p_pickF rfl rfl) ?_
     obtain rfl := si j18
     show At _ _ _ _ _ _
     exact n1 ⟨rfl, rfl, rfl, rfl, rfl, rfl, rfl, trivial⟩
   refine Tr.cond (b := b17) rfl (fun h27 => ?_) (fun h27 => ?_)
   ·have H1 := cdT h27 H1
    refine Tr.region (Rg.m rfl ?_)
    obtain ⟨h28, H1⟩ := gd.of H1
    refine Rg.p (p_add rfl rfl h28) (Rg.a rfl (Rg.nl (nT (?_))))
    refine Tr.seq (Tr.seq (tLinS [(11, .int .i64 (((2 * Q5.2) + 1) + 1)), (0, .slice x_v0.1 v0.length x_v0.2), (2, .int .i64 (v2)), (3, .int .i64 (v3)), (4, .func (.func 129) #[] #[]), (10, .int .i64 (Q5.2))] Tryz.mixed (.inr (by kernel_rfl)) ⟨rfl, rfl, rfl, rfl, rfl, rfl, trivial⟩ rfl (Lin.m rfl (Lin.m rfl (Lin.m rfl ?_)))))
    refine Lin.m rfl ?_
    obtain ⟨h29, H1⟩ := gd.of H1
    refine Lin.p (p_add rfl rfl h29) ?_
    obtain ⟨h30, H1⟩ := gd.of H1
    refine Lin.o (q_ixO' Tryz.underlying33 ty113 rfl rfl h30 Has.here) (Lin.o (v := .agg #[.string (((nth Q5.1 ((v3 + Q5.2).toNat)).1).1), .string (((nth Q5.1 ((v3 + Q5.2).toNat)).1).2), ((nth Q5.1 ((v3 + Q5.2).toNat)).2).1]) (q_ldeA (i := (v3 + Q5.2).toNat) ty113 rfl (EntB.flat (EntB.tree Has.here)) h30.lt) (Lin.m rfl (Lin.m rfl (Lin.m rfl ?_))))
    obtain ⟨h31, H1⟩ := gd.of H1
    refine Lin.p (p_add rfl rfl h31) ?_
    obtain ⟨h32, H1⟩ := gd.of H1
    refine Lin.o (q_ixO' Tryz.underlying33 ty113 rfl rfl h32 Has.here) (Lin.o (v := .agg #[.string (((nth Q5.1 ((v3 + (((2 * Q5.2) + 1) + 1)).toNat)).1).1), .string (((nth Q5.1 ((v3 + (((2 * Q5.2) + 1) + 1)).toNat)).1).2), ((nth Q5.1 ((v3 + (((2 * Q5.2) + 1) + 1)).toNat)).2).1]) (q_ldeA (i := (v3 + (((2 * Q5.2) + 1) + 1)).toNat) ty113 rfl (EntB.flat (EntB.tree Has.here)) h32.lt) ?_)
    obtain ⟨r33, h34, H1⟩ := bd.of H1
    refine Lin.o (v := .int .i64 (r33)) (Ex.dyn (caps := []) (vs := [.agg #[.string (((nth Q5.1 ((v3 + Q5.2).toNat)).1).1), .string (((nth Q5.1 ((v3 + Q5.2).toNat)).1).2), ((nth Q5.1 ((v3 + Q5.2).toNat)).2).1], .agg #[.string (((nth Q5.1 ((v3 + (((2 * Q5.2) + 1) + 1)).toNat)).1).1), .string (((nth Q5.1 ((v3 + (((2 * Q5.2) + 1) + 1)).toNat)).1).2), ((nth Q5.1 ((v3 + (((2 * Q5.2) + 1) + 1)).toNat)).2).1]]) rfl rfl (q_call (c_impl_indexOf_2 (nth Q5.1 ((v3 + Q5.2).toNat)) (nth Q5.1 ((v3 + (((2 * Q5.2) + 1) + 1)).toNat)) h34) rfl EntsB.nil)) (Lin.p (p_lss rfl rfl) (Lin.p (p_not rfl) ?_))
    show At _ _ _ _ _ _
    refine nT (?_)
    refine Tr.cond (b := !(decide (r33 < 0))) rfl (fun h35 => ?_) (fun h35 => ?_)
    ·have H1 := cdT h35 H1
     refine tRet (rT (rB (rT (rB (rT (?_))))))
     have hx := hb10 _ (Option.some.inj H1).symm; subst hx
     replace H := sw.r H
     obtain rfl := si H
     exact back0 () rfl  rfl Ents.nil (.cons Del.here .nil)
    ·have H1 := cdF h35 H1
     refine tSkip (nT (?_))
     refine Tr.seq (tNwS [(11, .int .i64 (((2 * Q5.2) + 1) + 1)), (0, .slice x_v0.1 v0.length x_v0.2), (2, .int .i64 (v2)), (3, .int .i64 (v3)), (4, .func (.func 129) #[] #[]), (10, .int .i64 (Q5.2))] 1 [0, 1, 2, 3, 4, 5, 6, 7, 8, 9, 10, 11, 12, 13, 14, 15, 16, 17, 18, 19, 20, 21, 22, 23] [21, 23] [] Tryz.mixed (by kernel_rfl) (by decide) List.nodup_nil ⟨rfl, rfl, rfl, rfl, rfl, rfl, trivial⟩ rfl okNil (w_p rfl (p_move rfl) (w_p rfl (p_move rfl) (w_p rfl (p_move rfl) (w_p rfl (p_add rfl rfl h29) ?_)))))
     refine w_p rfl (p_move rfl) (w_p rfl (p_move rfl) (w_p rfl (p_move rfl) (w_p rfl (p_add rfl rfl h31) (w_p rfl (p_move rfl) (w_p rfl (p_move rfl) ?_)))))
     refine w_p rfl (p_move rfl) (w_p rfl (p_add rfl rfl h31) (w_o rfl (fun F => (q_ixO' Tryz.underlying33 ty113 rfl rfl h32 (Has.here.app F))) (w_o (v := .agg #[.string (((nth Q5.1 ((v3 + (((2 * Q5.2) + 1) + 1)).toNat)).1).1), .string (((nth Q5.1 ((v3 + (((2 * Q5.2) + 1) + 1)).toNat)).1).2), ((nth Q5.1 ((v3 + (((2 * Q5.2) + 1) + 1)).toNat)).2).1]) rfl (fun F => (q_ldeA (i := (v3 + (((2 * Q5.2) + 1) + 1)).toNat) ty113 rfl (EntB.flat (EntB.tree (Has.here.app F))) h32.lt)) (w_p rfl (p_move rfl) (w_p rfl (p_move rfl) ?_)))))
     refine w_p rfl (p_move rfl) (w_p rfl (p_add rfl rfl h29) (w_o rfl (fun F => (q_ixO' Tryz.underlying33 ty113 rfl rfl h30 (Has.here.app F))) (w_o (v := .agg #[.string (((nth Q5.1 ((v3 + Q5.2).toNat)).1).1), .string (((nth Q5.1 ((v3 + Q5.2).toNat)).1).2), ((nth Q5.1 ((v3 + Q5.2).toNat)).2).1]) rfl (fun F => (q_ldeA (i := (v3 + Q5.2).toNat) ty113 rfl (EntB.flat (EntB.tree (Has.here.app F))) h30.lt)) (w_o rfl (fun F => (q_ixO' Tryz.underlying33 ty113 rfl rfl h30 (Has.here.app F))) (w_en rfl rfl Rdy.nil rfl (n_setT (l := Q5.1) (α := PostH) (oa := x_v0.1) ((v3 + Q5.2).toNat) (nth Q5.1 ((v3 + (((2 * Q5.2) + 1) + 1)).toNat)) (((), ()), ()) ty113 rfl rfl rfl h30.lt (ShpT.wfa _) (.cons Del.here .nil)) ?_)))))
     rintro _ _ _ ⟨rfl, rfl, rfl⟩
     obtain ⟨h36, H1⟩ := gd.of H1
     refine ⟨(PdOk.anc (by kernel_rfl) (PdOk.anc (by kernel_rfl) (PdOk.q rfl rfl (fun F => (q_ixO' Tryz.underlying33 ty113 rfl rfl h36 (Has.here.app F))) (PdOk.anc (by kernel_rfl) (PdOk.anc (by kernel_rfl) PdOk.nil))))), ?_⟩
     obtain ⟨h37, H1⟩ := gd.of H1
     refine w_o rfl (fun F => (q_ixO' Tryz.underlying33 ty113 rfl rfl h37 (Has.here.app F))) (w_en rfl rfl Rdy.nil rfl (n_setT (l := (Q5.1.set ((v3 + Q5.2).toNat) (nth Q5.1 ((v3 + (((2 * Q5.2) + 1) + 1)).toNat)))) (α := PostH) (oa := x_v0.1) ((v3 + (((2 * Q5.2) + 1) + 1)).toNat) (nth Q5.1 ((v3 + Q5.2).toNat)) (((), ()), ()) ty113 rfl rfl rfl h37.lt (ShpT.wfa _) (.cons Del.here .nil)) ?_)
     rintro _ _ _ ⟨rfl, rfl, rfl⟩
     refine ⟨(PdOk.anc (by kernel_rfl) (PdOk.anc (by kernel_rfl) (PdOk.anc (by kernel_rfl) (PdOk.anc (by kernel_rfl) (PdOk.anc (by kernel_rfl) (PdOk.anc (by kernel_rfl) PdOk.nil)))))), ?_⟩
     refine w_nil ?_
     show At _ _ _ _ _ _
     refine nT (?_)
     refine Tr.olen Has.here fun hn38 => (Tr.region (Rg.m rfl (Rg.a rfl (Rg.nl ?_))))
     exact nB (nLC ⟨(m12, (((Q5.1.set ((v3 + Q5.2).toNat) (nth Q5.1 ((v3 + (((2 * Q5.2) + 1) + 1)).toNat))).set ((v3 + (((2 * Q5.2) + 1) + 1)).toNat) (nth Q5.1 ((v3 + Q5.2).toNat))), ((2 * Q5.2) + 1) + 1), ()), hi9 _ (Option.some.inj H1).symm⟩ (Nat.lt_succ_self _) ⟨rfl, rfl, rfl, rfl, rfl, trivial⟩ Ents.refl (.cons Del.here .nil))
   ·have H1 := cdF h27 H1
    refine tSkip (nT (?_))
    refine Tr.seq (Tr.seq (tLinS [(11, .int .i64 ((2 * Q5.2) + 1)), (0, .slice x_v0.1 v0.length x_v0.2), (2, .int .i64 (v2)), (3, .int .i64 (v3)), (4, .func (.func 129) #[] #[]), (10, .int .i64 (Q5.2))] Tryz.mixed (.inr (by kernel_rfl)) ⟨rfl, rfl, rfl, rfl, rfl, rfl, trivial⟩ rfl (Lin.m rfl (Lin.m rfl (Lin.m rfl ?_)))))
    refine Lin.m rfl ?_
    obtain ⟨h39, H1⟩ := gd.of H1
    refine Lin.p (p_add rfl rfl h39) ?_
    obtain ⟨h40, H1⟩ := gd.of H1
    refine Lin.o (q_ixO' Tryz.underlying33 ty113 rfl rfl h40 Has.here) (Lin.o (v := .agg #[.string (((nth Q5.1 ((v3 + Q5.2).toNat)).1).1), .string (((nth Q5.1 ((v3 + Q5.2).toNat)).1).2), ((nth Q5.1 ((v3 + Q5.2).toNat)).2).1]) (q_ldeA (i := (v3 + Q5.2).toNat) ty113 rfl (EntB.flat (EntB.tree Has.here)) h40.lt) (Lin.m rfl (Lin.m rfl (Lin.m rfl ?_))))
    obtain ⟨h41, H1⟩ := gd.of H1
    refine Lin.p (p_add rfl rfl h41) ?_
    obtain ⟨h42, H1⟩ := gd.of H1
    refine Lin.o (q_ixO' Tryz.underlying33 ty113 rfl rfl h42 Has.here) (Lin.o (v := .agg #[.string (((nth Q5.1 ((v3 + ((2 * Q5.2) + 1)).toNat)).1).1), .string (((nth Q5.1 ((v3 + ((2 * Q5.2) + 1)).toNat)).1).2), ((nth Q5.1 ((v3 + ((2 * Q5.2) + 1)).toNat)).2).1]) (q_ldeA (i := (v3 + ((2 * Q5.2) + 1)).toNat) ty113 rfl (EntB.flat (EntB.tree Has.here)) h42.lt) ?_)
    obtain ⟨r43, h44, H1⟩ := bd.of H1
    refine Lin.o (v := .int .i64 (r43)) (Ex.dyn (caps := []) (vs := [.agg #[.string (((nth Q5.1 ((v3 + Q5.2).toNat)).1).1), .string (((nth Q5.1 ((v3 + Q5.2).toNat)).1).2), ((nth Q5.1 ((v3 + Q5.2).toNat)).2).1], .agg #[.string (((nth Q5.1 ((v3 + ((2 * Q5.2) + 1)).toNat)).1).1), .string (((nth Q5.1 ((v3 + ((2 * Q5.2) + 1)).toNat)).1).2), ((nth Q5.1 ((v3 + ((2 * Q5.2) + 1)).toNat)).2).1]]) rfl rfl (q_call (c_impl_indexOf_2 (nth Q5.1 ((v3 + Q5.2).toNat)) (nth Q5.1 ((v3 + ((2 * Q5.2) + 1)).toNat)) h44) rfl EntsB.nil)) (Lin.p (p_lss rfl rfl) (Lin.p (p_not rfl) ?_))
    show At _ _ _ _ _ _
    refine nT (?_)
    refine Tr.cond (b := !(decide (r43 < 0))) rfl (fun h45 => ?_) (fun h45 => ?_)
    ·have H1 := cdT h45 H1
     refine tRet (rT (rB (rT (rB (rT (?_))))))
     have hx := hb10 _ (Option.some.inj H1).symm; subst hx
     replace H := sw.r H
     obtain rfl := si H
     exact back0 () rfl  rfl Ents.nil (.cons Del.here .nil)
    ·have H1 := cdF h45 H1
     refine tSkip (nT (?_))
     refine Tr.seq (tNwS [(11, .int .i64 ((2 * Q5.2) + 1)), (0, .slice x_v0.1 v0.length x_v0.2), (2, .int .i64 (v2)), (3, .int .i64 (v3)), (4, .func (.func 129) #[] #[]), (10, .int .i64 (Q5.2))] 1 [0, 1, 2, 3, 4, 5, 6, 7, 8, 9, 10, 11, 12, 13, 14, 15, 16, 17, 18, 19, 20, 21, 22, 23] [21, 23] [] Tryz.mixed (by kernel_rfl) (by decide) List.nodup_nil ⟨rfl, rfl, rfl, rfl, rfl, rfl, trivial⟩ rfl okNil (w_p rfl (p_move rfl) (w_p rfl (p_move rfl) (w_p rfl (p_move rfl) (w_p rfl (p_add rfl rfl h39) ?_)))))
     refine w_p rfl (p_move rfl) (w_p rfl (p_move rfl) (w_p rfl (p_move rfl) (w_p rfl (p_add rfl rfl h41) (w_p rfl (p_move rfl) (w_p rfl (p_move rfl) ?_)))))
     refine w_p rfl (p_move rfl) (w_p rfl (p_add rfl rfl h41) (w_o rfl (fun F => (q_ixO' Tryz.underlying33 ty113 rfl rfl h42 (Has.here.app F))) (w_o (v := .agg #[.string (((nth Q5.1 ((v3 + ((2 * Q5.2) + 1)).toNat)).1).1), .string (((nth Q5.1 ((v3 + ((2 * Q5.2) + 1)).toNat)).1).2), ((nth Q5.1 ((v3 + ((2 * Q5.2) + 1)).toNat)).2).1]) rfl (fun F => (q_ldeA (i := (v3 + ((2 * Q5.2) + 1)).toNat) ty113 rfl (EntB.flat (EntB.tree (Has.here.app F))) h42.lt)) (w_p rfl (p_move rfl) (w_p rfl (p_move rfl) ?_)))))
     refine w_p rfl (p_move rfl) (w_p rfl (p_add rfl rfl h39) (w_o rfl (fun F => (q_ixO' Tryz.underlying33 ty113 rfl rfl h40 (Has.here.app F))) (w_o (v := .agg #[.string (((nth Q5.1 ((v3 + Q5.2).toNat)).1).1), .string (((nth Q5.1 ((v3 + Q5.2).toNat)).1).2), ((nth Q5.1 ((v3 + Q5.2).toNat)).2).1]) rfl (fun F => (q_ldeA (i := (v3 + Q5.2).toNat) ty113 rfl (EntB.flat (EntB.tree (Has.here.app F))) h40.lt)) (w_o rfl (fun F => (q_ixO' Tryz.underlying33 ty113 rfl rfl h40 (Has.here.app F))) (w_en rfl rfl Rdy.nil rfl (n_setT (l := Q5.1) (α := PostH) (oa := x_v0.1) ((v3 + Q5.2).toNat) (nth Q5.1 ((v3 + ((2 * Q5.2) + 1)).toNat)) (((), ()), ()) ty113 rfl rfl rfl h40.lt (ShpT.wfa _) (.cons Del.here .nil)) ?_)))))
     rintro _ _ _ ⟨rfl, rfl, rfl⟩
     obtain ⟨h46, H1⟩ := gd.of H1
     refine ⟨(PdOk.anc (by kernel_rfl) (PdOk.anc (by kernel_rfl) (PdOk.q rfl rfl (fun F => (q_ixO' Tryz.underlying33 ty113 rfl rfl h46 (Has.here.app F))) (PdOk.anc (by kernel_rfl) (PdOk.anc (by kernel_rfl) PdOk.nil))))), ?_⟩
     obtain ⟨h47, H1⟩ := gd.of H1
     refine w_o rfl (fun F => (q_ixO' Tryz.underlying33 ty113 rfl rfl h47 (Has.here.app F))) (w_en rfl rfl Rdy.nil rfl (n_setT (l := (Q5.1.set ((v3 + Q5.2).toNat) (nth Q5.1 ((v3 + ((2 * Q5.2) + 1)).toNat)))) (α := PostH) (oa := x_v0.1) ((v3 + ((2 * Q5.2) + 1)).toNat) (nth Q5.1 ((v3 + Q5.2).toNat)) (((), ()), ()) ty113 rfl rfl rfl h47.lt (ShpT.wfa _) (.cons Del.here .nil)) ?_)
     rintro _ _ _ ⟨rfl, rfl, rfl⟩
     refine ⟨(PdOk.anc (by kernel_rfl) (PdOk.anc (by kernel_rfl) (PdOk.anc (by kernel_rfl) (PdOk.anc (by kernel_rfl) (PdOk.anc (by kernel_rfl) (PdOk.anc (by kernel_rfl) PdOk.nil)))))), ?_⟩
     refine w_nil ?_
     show At _ _ _ _ _ _
     refine nT (?_)
     refine Tr.olen Has.here fun hn48 => (Tr.region (Rg.m rfl (Rg.a rfl (Rg.nl ?_))))
     exact nB (nLC ⟨(m12, (((Q5.1.set ((v3 + Q5.2).toNat) (nth Q5.1 ((v3 + ((2 * Q5.2) + 1)).toNat))).set ((v3 + ((2 * Q5.2) + 1)).toNat) (nth Q5.1 ((v3 + Q5.2).toNat))), (2 * Q5.2) + 1), ()), hi9 _ (Option.some.inj H1).symm⟩ (Nat.lt_succ_self _) ⟨rfl, rfl, rfl, rfl, rfl, trivial⟩ Ents.refl (.cons Del.here .nil))
 ·rintro ⟨⟨e49, y7⟩, hx⟩; subst hx; replace H := sw.l H
  show At _ _ [] _ [tree (.slice x_v0.1 v0.length x_v0.2) e49] _
  obtain rfl := si H
  exact back0n () rfl  rfl Ents.nil (.cons Del.here .nil)
noncomputable def p_heapSortH_b0 (v1 : Int) (v2 : Int) (Q8 : (List PostH) × Int) : Option (((List PostH) × Int) ⊕ ((List PostH))) := cond (decide (0 ≤ Q8.2)) (bd (p_siftDownH Q8.1 Q8.2 (v2 - v1) v1) fun r18 => gd (I64 (Q8.2 - 1)) <| some (.inl (r18, Q8.2 - 1))) (some (.inr Q8.1))
noncomputable def p_heapSortH_b1 (v1 : Int) (Q28 : (List PostH) × Int) : Option (((List PostH) × Int) ⊕ ((List PostH))) := cond (decide (0 ≤ Q28.2)) (gd (I64 (v1 + Q28.2)) <| gd (ix (v1 + Q28.2) Q28.1.length) <| gd (ix v1 Q28.1.length) <| gd (ix v1 (Q28.1.set v1.toNat (nth Q28.1 ((v1 + Q28.2).toNat))).length) <| gd (ix (v1 + Q28.2) (Q28.1.set v1.toNat (nth Q28.1 ((v1 + Q28.2).toNat))).length) <| bd (p_siftDownH ((Q28.1.set v1.toNat (nth Q28.1 ((v1 + Q28.2).toNat))).set ((v1 + Q28.2).toNat) (nth Q28.1 v1.toNat)) 0 Q28.2 v1) fun r44 => gd (I64 (Q28.2 - 1)) <| some (.inl (r44, Q28.2 - 1))) (some (.inr Q28.1))
noncomputable def p_heapSortH (v0 : (List PostH)) (v1 : Int) (v2 : Int) : Option ((List PostH)) := gd (I64 (v2 - v1)) <| gd (I64 ((v2 - v1) - 1)) <| gd (I64 (((v2 - v1) - 1).tdiv 2)) <| bd (lp (p_heapSortH_b0 v1 v2) (v0, ((v2 - v1) - 1).tdiv 2)) fun x4 => bd (lp (p_heapSortH_b1 v1) (x4, (v2 - v1) - 1)) fun x24 => some x24
theorem c_heapSortH {r : (List PostH)} (v0 : (List PostH)) (x_v0 : Option Addr × Nat) (n_v0 : Nat) (e_v0 : n_v0 = v0.length) (v1 : Int) (v2 : Int) (H : p_heapSortH v0 v1 v2 = some r) : Fn' Tryz.prog 153 #[.slice x_v0.1 n_v0 x_v0.2, .int .i64 (v1), .int .i64 (v2), .func (.func 129) #[] #[]] [] [tree (.slice x_v0.1 n_v0 x_v0.2) v0] (ι := Unit) (fun _ => .tuple #[]) (fun _ => []) (fun _ => [tree (.slice x_v0.1 n_v0 x_v0.2) r]) := by
 subst e_v0
 refine calls_of (args := [_, _, _, _]) Tryz.func153 rfl (by kernel_rfl) Tryz.ntmps153 (by simp) fun c => ?_
 unfold p_heapSortH at H
 refine Tr.seq (Tr.region (Rg.m rfl (Rg.a rfl (Rg.nl (nT (?_))))))
 refine Tr.seq (Tr.region (Rg.a (v := .int .i64 (0)) rfl (Rg.nl (nT (?_)))))
 refine Tr.seq (Tr.region (Rg.m rfl (Rg.m rfl ?_)))
 obtain ⟨h1, H⟩ := gd.of H
 refine Rg.p (p_sub rfl rfl h1) (Rg.a rfl (Rg.nl (nT (?_))))
 refine Tr.seq (Tr.seq (Tr.region (Rg.m rfl ?_)))
 obtain ⟨h2, H⟩ := gd.of H
 refine Rg.p (p_sub rfl rfl h2) ?_
 obtain ⟨h3, H⟩ := gd.of H
 refine Rg.p (p_quo rfl rfl (by decide) h3) (Rg.a rfl (Rg.nl (nT (?_))))
 obtain ⟨x4, hx5, H⟩ := bd.of H
 obtain ⟨n6, hx5⟩ := lp.of hx5
 refine tMidNC (ι := Unit) (fun ψ => [(0, .slice x_v0.1 v0.length x_v0.2), (3, .func (.func 129) #[] #[]), (8, .int .i64 (v1)), (9, .int .i64 (0)), (10, .int .i64 (v2 - v1))]) (fun ψ => [tree (.slice x_v0.1 v0.length x_v0.2) x4]) ?_ ?_
 ·refine Tr.block (tLoopC (ι := { q : Nat × ((List PostH) × Int) × Unit // itr (p_heapSortH_b0 v1 v2) q.1 q.2.1 = some x4 }) (fun ζ => [(0, .slice x_v0.1 v0.length x_v0.2), (3, .func (.func 129) #[] #[]), (8, .int .i64 (v1)), (9, .int .i64 (0)), (10, .int .i64 (v2 - v1)), (11, .int .i64 (ζ.1.2.1.2))]) (fun ζ => [tree (.slice x_v0.1 v0.length x_v0.2) ζ.1.2.1.1]) (fun ζ => ζ.1.1) ⟨(n6, (v0, ((v2 - v1) - 1).tdiv 2), ()), hx5⟩ ⟨rfl, rfl, rfl, rfl, rfl, rfl, trivial⟩ (.cons Del.here .nil) ?_)
  rintro ⟨⟨m7, Q8, z9⟩, hk14⟩
  obtain ⟨m15, t11, e, H1, hi12, hb13⟩ := itr.of (n := m7) (s := Q8) hk14
  subst e; unfold p_heapSortH_b0 at H1
  show Tr _ _ _ _ _ [(0, .slice x_v0.1 v0.length x_v0.2), (3, .func (.func 129) #[] #[]), (8, .int .i64 (v1)), (9, .int .i64 (0)), (10, .int .i64 (v2 - v1)), (11, .int .i64 (Q8.2))] _ [tree (.slice x_v0.1 v0.length x_v0.2) Q8.1]
  refine Tr.seq (Tr.seq (Tr.olen Has.here fun hn16 => (Tr.region (Rg.m rfl (Rg.p (p_geq rfl rfl) ?_)))))
  refine Rg.nl (nT (?_))
  refine Tr.cond (b := decide (0 ≤ Q8.2)) rfl (fun h17 => ?_) (fun h17 => ?_)
  ·have H1 := cdT h17 H1
   refine tSkip (nT (?_))
   refine Tr.seq (Tr.block (Tr.region (Rg.m rfl (Rg.m rfl (Rg.m rfl ?_)))))
   refine Rg.m rfl (Rg.m rfl ?_)
   obtain ⟨r18, h19, H1⟩ := bd.of H1
   refine Rg.ef (e_callM (c_siftDownH Q8.1 x_v0 v0.length hn16 Q8.2 (v2 - v1) v1 h19) (Solo.tree Solo.nil) (fun _ => (Solo.tree Solo.nil)) rfl (.cons Del.here .nil) EntsB.nil) rfl ?_
   rintro _ _ _ ⟨u20, rfl, rfl, rfl⟩
   refine Rg.nl (nB (nT (?_)))
   refine Tr.olen Has.here fun hn21 => (Tr.region (Rg.m rfl ?_))
   obtain ⟨h22, H1⟩ := gd.of H1
   refine Rg.p (p_sub rfl rfl h22) (Rg.a rfl (Rg.nl ?_))
   exact nLC ⟨(m15, (r18, Q8.2 - 1), ()), hi12 _ (Option.some.inj H1).symm⟩ (Nat.lt_succ_self _) ⟨rfl, rfl, rfl, rfl, rfl, rfl, trivial⟩ Ents.refl (.cons Del.here .nil)
  ·have H1 := cdF h17 H1
   refine tExit (xT (xT (xE (?_))))
   have hx := hb13 _ (Option.some.inj H1).symm; subst hx
   exact nMC () ⟨rfl, rfl, rfl, rfl, rfl, trivial⟩ Ents.refl (.cons Del.here .nil)
 ·intro y10
  show At _ _ [(0, .slice x_v0.1 v0.length x_v0.2), (3, .func (.func 129) #[] #[]), (8, .int .i64 (v1)), (9, .int .i64 (0)), (10, .int .i64 (v2 - v1))] _ [tree (.slice x_v0.1 v0.length x_v0.2) x4] _
  refine nT (?_)
  refine Tr.seq (Tr.olen Has.here fun hn23 => (Tr.region (Rg.m rfl (Rg.p (p_sub rfl rfl h2) (Rg.a rfl ?_)))))
  refine Rg.nl (nT (?_))
  obtain ⟨x24, hx25, H⟩ := bd.of H
  obtain ⟨n26, hx25⟩ := lp.of hx25
  refine tMidNC (ι := Unit) (fun ψ => []) (fun ψ => [tree (.slice x_v0.1 v0.length x_v0.2) x24]) ?_ ?_
  ·refine Tr.block (tLoopC (ι := { q : Nat × ((List PostH) × Int) × Unit // itr (p_heapSortH_b1 v1) q.1 q.2.1 = some x24 }) (fun ζ => [(0, .slice x_v0.1 v0.length x_v0.2), (3, .func (.func 129) #[] #[]), (8, .int .i64 (v1)), (9, .int .i64 (0)), (12, .int .i64 (ζ.1.2.1.2))]) (fun ζ => [tree (.slice x_v0.1 v0.length x_v0.2) ζ.1.2.1.1]) (fun ζ => ζ.1.1) ⟨(n26, (x4, (v2 - v1) - 1), ()), hx25⟩ ⟨rfl, rfl, rfl, rfl, rfl, trivial⟩ (.cons Del.here .nil) ?_)
   rintro ⟨⟨m27, Q28, z29⟩, hk34⟩
   obtain ⟨m35, t31, e, H1, hi32, hb33⟩ := itr.of (n := m27) (s := Q28) hk34
   subst e; unfold p_heapSortH_b1 at H1
   show Tr _ _ _ _ _ [(0, .slice x_v0.1 v0.length x_v0.2), (3, .func (.func 129) #[] #[]), (8, .int .i64 (v1)), (9, .int .i64 (0)), (12, .int .i64 (Q28.2))] _ [tree (.slice x_v0.1 v0.length x_v0.2) Q28.1]
   refine Tr.seq (Tr.seq (Tr.olen Has.here fun hn36 => (Tr.region (Rg.m rfl (Rg.p (p_geq rfl rfl) ?_)))))
   refine Rg.nl (nT (?_))
   refine Tr.cond (b := decide (0 ≤ Q28.2)) rfl (fun h37 => ?_) (fun h37 => ?_)
   ·have H1 := cdT h37 H1
    refine tSkip (nT (?_))
    refine Tr.seq (Tr.block (Tr.seq (tNwS [(0, .slice x_v0.1 v0.length x_v0.2), (3, .func (.func 129) #[] #[]), (8, .int .i64 (v1)), (9, .int .i64 (0)), (12, .int .i64 (Q28.2))] 1 [0, 1, 2, 3, 4, 5, 6, 7, 8, 9, 10, 11, 12, 13, 14, 15, 16, 17, 18, 19] [17, 19] [] Tryz.mixed (by kernel_rfl) (by decide) List.nodup_nil ⟨rfl, rfl, rfl, rfl, rfl, trivial⟩ rfl okNil (w_p rfl (p_move rfl) (w_p rfl (p_move rfl) ?_)))))
    refine w_p rfl (p_move rfl) (w_p rfl (p_move rfl) (w_p rfl (p_move rfl) ?_))
    obtain ⟨h38, H1⟩ := gd.of H1
    refine w_p rfl (p_add rfl rfl h38) (w_p rfl (p_move rfl) (w_p rfl (p_move rfl) (w_p rfl (p_move rfl) (w_p rfl (p_add rfl rfl h38) ?_))))
    obtain ⟨h39, H1⟩ := gd.of H1
    refine w_o rfl (fun F => (q_ixO' Tryz.underlying33 ty113 rfl rfl h39 (Has.here.app F))) ?_
    refine w_o (v := .agg #[.string (((nth Q28.1 ((v1 + Q28.2).toNat)).1).1), .string (((nth Q28.1 ((v1 + Q28.2).toNat)).1).2), ((nth Q28.1 ((v1 + Q28.2).toNat)).2).1]) rfl (fun F => (q_ldeA (i := (v1 + Q28.2).toNat) ty113 rfl (EntB.flat (EntB.tree (Has.here.app F))) h39.lt)) (w_p rfl (p_move rfl) (w_p rfl (p_move rfl) ?_))
    obtain ⟨h40, H1⟩ := gd.of H1
    refine w_o rfl (fun F => (q_ixO' Tryz.underlying33 ty113 rfl rfl h40 (Has.here.app F))) ?_
    refine w_o (v := .agg #[.string (((nth Q28.1 v1.toNat).1).1), .string (((nth Q28.1 v1.toNat).1).2), ((nth Q28.1 v1.toNat).2).1]) rfl (fun F => (q_ldeA (i := v1.toNat) ty113 rfl (EntB.flat (EntB.tree (Has.here.app F))) h40.lt)) ?_
    refine w_o rfl (fun F => (q_ixO' Tryz.underlying33 ty113 rfl rfl h40 (Has.here.app F))) (w_en rfl rfl Rdy.nil rfl (n_setT (l := Q28.1) (α := PostH) (oa := x_v0.1) v1.toNat (nth Q28.1 ((v1 + Q28.2).toNat)) (((), ()), ()) ty113 rfl rfl rfl h40.lt (ShpT.wfa _) (.cons Del.here .nil)) ?_)
    rintro _ _ _ ⟨rfl, rfl, rfl⟩
    obtain ⟨h41, H1⟩ := gd.of H1
    refine ⟨(PdOk.anc (by kernel_rfl) (PdOk.anc (by kernel_rfl) (PdOk.q rfl rfl (fun F => (q_ixO' Tryz.underlying33 ty113 rfl rfl h41 (Has.here.app F))) (PdOk.anc (by kernel_rfl) (PdOk.anc (by kernel_rfl) PdOk.nil))))), ?_⟩
    obtain ⟨h42, H1⟩ := gd.of H1
    refine w_o rfl (fun F => (q_ixO' Tryz.underlying33 ty113 rfl rfl h42 (Has.here.app F))) (w_en rfl rfl Rdy.nil rfl (n_setT (l := (Q28.1.set v1.toNat (nth Q28.1 ((v1 + Q28.2).toNat)))) (α := PostH) (oa := x_v0.1) ((v1 + Q28.2).toNat) (nth Q28.1 v1.toNat) (((), ()), ()) ty113 rfl rfl rfl h42.lt (ShpT.wfa _) (.cons Del.here .nil)) ?_)
    rintro _ _ _ ⟨rfl, rfl, rfl⟩
    refine ⟨(PdOk.anc (by kernel_rfl) (PdOk.anc (by kernel_rfl) (PdOk.anc (by kernel_rfl) (PdOk.anc (by kernel_rfl) (PdOk.anc (by kernel_rfl) (PdOk.anc (by kernel_rfl) PdOk.nil)))))), ?_⟩
    refine w_nil ?_
    show At _ _ _ _ _ _
    refine nT (?_)
    refine Tr.olen Has.here fun hn43 => (Tr.region (Rg.m rfl (Rg.m (v := .int .i64 (0)) rfl (Rg.m rfl (Rg.m rfl ?_)))))
    refine Rg.m rfl ?_
    obtain ⟨r44, h45, H1⟩ := bd.of H1
    refine Rg.ef (e_callM (c_siftDownH ((Q28.1.set v1.toNat (nth Q28.1 ((v1 + Q28.2).toNat))).set ((v1 + Q28.2).toNat) (nth Q28.1 v1.toNat)) x_v0 v0.length hn43 0 Q28.2 v1 h45) (Solo.tree Solo.nil) (fun _ => (Solo.tree Solo.nil)) rfl (.cons Del.here .nil) EntsB.nil) rfl ?_
    rintro _ _ _ ⟨u46, rfl, rfl, rfl⟩
    refine Rg.nl (nB (nT (?_)))
    refine Tr.olen Has.here fun hn47 => (Tr.region (Rg.m rfl ?_))
    obtain ⟨h48, H1⟩ := gd.of H1
    refine Rg.p (p_sub rfl rfl h48) (Rg.a rfl (Rg.nl ?_))
    exact nLC ⟨(m35, (r44, Q28.2 - 1), ()), hi32 _ (Option.some.inj H1).symm⟩ (Nat.lt_succ_self _) ⟨rfl, rfl, rfl, rfl, rfl, trivial⟩ Ents.refl (.cons Del.here .nil)
   ·have H1 := cdF h37 H1
    refine tExit (xT (xT (xE (?_))))
    have hx := hb33 _ (Option.some.inj H1).symm; subst hx
    exact nMC () trivial Ents.refl (.cons Del.here .nil)
  ·intro y30
   show At _ _ [] _ [tree (.slice x_v0.1 v0.length x_v0.2) x24] _
   obtain rfl := si H
   exact back0n () rfl  rfl Ents.nil (.cons Del.here .nil)
noncomputable def p_order2H (v0 : (List PostH)) (v1 : Int) (v2 : Int) (v3 : Int) : Option (Int × Int × Int) := gd (ix v2 v0.length) <| gd (ix v1 v0.length) <| bd (p_impl_indexOf_2 (nth v0 v2.toNat) (nth v0 v1.toNat)) fun r3 => cond (decide (r3 < 0)) (gd (I64 (v3 + 1)) <| some (v2, v1, v3 + 1)) (some (v1, v2, v3))
theorem c_order2H {r : Int × Int × Int} (v0 : (List PostH)) (x_v0 : Option Addr × Nat) (v1 : Int) (v2 : Int) (g_v3 : Nat) (v3 : Int) (H : p_order2H v0 v1 v2 v3 = some r) : Fn' Tryz.prog 169 #[.slice x_v0.1 v0.length x_v0.2, .int .i64 (v1), .int .i64 (v2), .pointer (some ⟨g_v3, 0, none⟩), .func (.func 129) #[] #[]] [imm (.slice x_v0.1 v0.length x_v0.2) v0] [box g_v3 3 [.int .i64 (v3)]] (ι := Unit) (fun _ => .tuple #[.int .i64 (r.1), .int .i64 (r.2.1)]) (fun _ => []) (fun _ => [box g_v3 3 [.int .i64 (r.2.2)]]) := by
 refine calls_of (args := [_, _, _, _, _]) Tryz.func169 rfl (by kernel_rfl) Tryz.ntmps169 (by simp) fun c => ?_
 unfold p_order2H at H
 refine Tr.seq (Tr.region (Rg.a (v := .int .i64 (0)) rfl (Rg.a (v := .int .i64 (0)) rfl (Rg.nl (nT (?_))))))
 refine Tr.seq (Tr.seq (tLinS [(0, .slice x_v0.1 v0.length x_v0.2), (1, .int .i64 (v1)), (2, .int .i64 (v2)), (3, .pointer (some ⟨g_v3, 0, none⟩)), (4, .func (.func 129) #[] #[])] Tryz.mixed (.inr (by kernel_rfl)) ⟨rfl, rfl, rfl, rfl, rfl, trivial⟩ rfl (Lin.m rfl (Lin.m rfl (Lin.m rfl ?_)))))
 obtain ⟨h1, H⟩ := gd.of H
 refine Lin.o (q_ixg Tryz.underlying33 ty113 rfl rfl h1 rfl (EntB.flat (Ent.b Ent.z))) (Lin.o (v := .agg #[.string (((nth v0 v2.toNat).1).1), .string (((nth v0 v2.toNat).1).2), ((nth v0 v2.toNat).2).1]) (q_ldeA (i := v2.toNat) ty113 rfl (EntB.flat (Ent.b Ent.z)) h1.lt) (Lin.m rfl (Lin.m rfl ?_)))
 obtain ⟨h2, H⟩ := gd.of H
 refine Lin.o (q_ixg Tryz.underlying33 ty113 rfl rfl h2 rfl (EntB.flat (Ent.b Ent.z))) (Lin.o (v := .agg #[.string (((nth v0 v1.toNat).1).1), .string (((nth v0 v1.toNat).1).2), ((nth v0 v1.toNat).2).1]) (q_ldeA (i := v1.toNat) ty113 rfl (EntB.flat (Ent.b Ent.z)) h2.lt) ?_)
 obtain ⟨r3, h4, H⟩ := bd.of H
 refine Lin.o (v := .int .i64 (r3)) (Ex.dyn (caps := []) (vs := [.agg #[.string (((nth v0 v2.toNat).1).1), .string (((nth v0 v2.toNat).1).2), ((nth v0 v2.toNat).2).1], .agg #[.string (((nth v0 v1.toNat).1).1), .string (((nth v0 v1.toNat).1).2), ((nth v0 v1.toNat).2).1]]) rfl rfl (q_call (c_impl_indexOf_2 (nth v0 v2.toNat) (nth v0 v1.toNat) h4) rfl EntsB.nil)) (Lin.p (p_lss rfl rfl) ?_)
 show At _ _ _ _ _ _
 refine nT (?_)
 refine Tr.cond (b := decide (r3 < 0)) rfl (fun h5 => ?_) (fun h5 => ?_)
 ·have H := cdT h5 H
  refine Tr.seq (Tr.region (Rg.m rfl (Rg.p (p_nil rfl) (Rg.o (q_ldb ty3 rfl Has.here rfl) ?_))))
  obtain ⟨h6, H⟩ := gd.of H
  refine Rg.p (p_add rfl rfl h6) (Rg.p (p_nil rfl) (Rg.en (e_store (cs' := [.int .i64 (v3 + 1)]) ty3 rfl rfl Upd.here rfl (one_of rfl) (Nat.le_of_ble_eq_true rfl) rfl) rfl ?_))
  rintro _ _ _ ⟨rfl, rfl, rfl⟩
  refine Rg.nl (nT (?_))
  refine Tr.seq (Tr.region (Rg.m rfl (Rg.m rfl (Rg.a rfl (Rg.a rfl ?_)))))
  refine Rg.nl (nT (?_))
  refine tRet (rT (?_))
  obtain rfl := si H
  exact back2 () rfl (ResV.tmp (v := .int .i64 (v2)) rfl) (ResV.tmp (v := .int .i64 (v1)) rfl) rfl Ents.nil (.cons Del.here .nil)
 ·have H := cdF h5 H
  refine tSkip (nT (?_))
  refine Tr.seq (Tr.region (Rg.m rfl (Rg.m rfl (Rg.a rfl (Rg.a rfl ?_)))))
  refine Rg.nl (nT (?_))
  refine tRet ?_
  obtain rfl := si H
  exact back2 () rfl (ResV.tmp (v := .int .i64 (v1)) rfl) (ResV.tmp (v := .int .i64 (v2)) rfl) rfl Ents.nil (.cons Del.here .nil)
noncomputable def p_medianH (v0 : (List PostH)) (v1 : Int) (v2 : Int) (v3 : Int) (v4 : Int) : Option (Int × Int) := bd (p_order2H v0 v1 v2 v4) fun r1 => bd (p_order2H v0 r1.2.1 v3 r1.2.2) fun r4 => bd (p_order2H v0 r1.1 r4.1 r4.2.2) fun r7 => some (r7.2.1, r7.2.2)
theorem c_medianH {r : Int × Int} (v0 : (List PostH)) (x_v0 : Option Addr × Nat) (v1 : Int) (v2 : Int) (v3 : Int) (g_v4 : Nat) (v4 : Int) (H : p_medianH v0 v1 v2 v3 v4 = some r) : Fn' Tryz.prog 167 #[.slice x_v0.1 v0.length x_v0.2, .int .i64 (v1), .int .i64 (v2), .int .i64 (v3), .pointer (some ⟨g_v4, 0, none⟩), .func (.func 129) #[] #[]] [imm (.slice x_v0.1 v0.length x_v0.2) v0] [box g_v4 3 [.int .i64 (v4)]] (ι := Unit) (fun _ => .int .i64 (r.1)) (fun _ => []) (fun _ => [box g_v4 3 [.int .i64 (r.2)]]) := by
 refine calls_of (args := [_, _, _, _, _, _]) Tryz.func167 rfl (by kernel_rfl) Tryz.ntmps167 (by simp) fun c => ?_
 unfold p_medianH at H
 refine Tr.seq (Tr.region (Rg.a (v := .int .i64 (0)) rfl (Rg.nl (nT (?_)))))
 refine Tr.seq (Tr.region (Rg.m rfl (Rg.m rfl (Rg.m rfl (Rg.m rfl ?_)))))
 refine Rg.m rfl ?_
 obtain ⟨r1, h2, H⟩ := bd.of H
 refine Rg.ef (e_callM (c_order2H v0 x_v0 v1 v2 g_v4 v4 h2) (Solo.box Solo.nil) (fun _ => (Solo.box Solo.nil)) rfl (.cons Del.here .nil) (EntsB.cons (Ent.b Ent.z) EntsB.nil)) rfl ?_
 rintro _ _ _ ⟨u3, rfl, rfl, rfl⟩
 refine Rg.m rfl (Rg.p (p_extract rfl rfl) (Rg.p (p_extract rfl rfl) (Rg.a rfl (Rg.a rfl (Rg.nl ?_)))))
 refine nT (?_)
 refine Tr.seq (Tr.region (Rg.m rfl (Rg.m rfl (Rg.m rfl (Rg.m rfl ?_)))))
 refine Rg.m rfl ?_
 obtain ⟨r4, h5, H⟩ := bd.of H
 refine Rg.ef (e_callM (c_order2H v0 x_v0 r1.2.1 v3 g_v4 r1.2.2 h5) (Solo.box Solo.nil) (fun _ => (Solo.box Solo.nil)) rfl (.cons Del.here .nil) (EntsB.cons (Ent.b Ent.z) EntsB.nil)) rfl ?_
 rintro _ _ _ ⟨u6, rfl, rfl, rfl⟩
 refine Rg.m rfl (Rg.p (p_extract rfl rfl) (Rg.p (p_extract rfl rfl) (Rg.a rfl (Rg.a rfl (Rg.nl ?_)))))
 refine nT (?_)
 refine Tr.seq (Tr.region (Rg.m rfl (Rg.m rfl (Rg.m rfl (Rg.m rfl ?_)))))
 refine Rg.m rfl ?_
 obtain ⟨r7, h8, H⟩ := bd.of H
 refine Rg.ef (e_callM (c_order2H v0 x_v0 r1.1 r4.1 g_v4 r4.2.2 h8) (Solo.box Solo.nil) (fun _ => (Solo.box Solo.nil)) rfl (.cons Del.here .nil) (EntsB.cons (Ent.b Ent.z) EntsB.nil)) rfl ?_
 rintro _ _ _ ⟨u9, rfl, rfl, rfl⟩
 refine Rg.m rfl (Rg.p (p_extract rfl rfl) (Rg.p (p_extract rfl rfl) (Rg.a rfl (Rg.a rfl (Rg.nl ?_)))))
 refine nT (?_)
 refine Tr.seq (Tr.region (Rg.m rfl (Rg.a rfl (Rg.nl (nT (?_))))))
 refine tRet ?_
 obtain rfl := si H
 exact bk1 rfl rfl rfl rfl (.cons Del.here .nil)
noncomputable def p_medianAdjacentH (v0 : (List PostH)) (v1 : Int) (v2 : Int) : Option (Int × Int) := gd (I64 (v1 - 1)) <| gd (I64 (v1 + 1)) <| bd (p_medianH v0 (v1 - 1) v1 (v1 + 1) v2) fun r3 => some (r3.1, r3.2)
theorem c_medianAdjacentH {r : Int × Int} (v0 : (List PostH)) (x_v0 : Option Addr × Nat) (v1 : Int) (g_v2 : Nat) (v2 : Int) (H : p_medianAdjacentH v0 v1 v2 = some r) : Fn' Tryz.prog 166 #[.slice x_v0.1 v0.length x_v0.2, .int .i64 (v1), .pointer (some ⟨g_v2, 0, none⟩), .func (.func 129) #[] #[]] [imm (.slice x_v0.1 v0.length x_v0.2) v0] [box g_v2 3 [.int .i64 (v2)]] (ι := Unit) (fun _ => .int .i64 (r.1)) (fun _ => []) (fun _ => [box g_v2 3 [.int .i64 (r.2)]]) := by
 refine calls_of (args := [_, _, _, _]) Tryz.func166 rfl (by kernel_rfl) Tryz.ntmps166 (by simp) fun c => ?_
 unfold p_medianAdjacentH at H
 refine Tr.seq (Tr.region (Rg.a (v := .int .i64 (0)) rfl (Rg.nl (nT (?_)))))
 refine Tr.seq (Tr.region (Rg.m rfl (Rg.m rfl ?_)))
 obtain ⟨h1, H⟩ := gd.of H
 refine Rg.p (p_sub rfl rfl h1) (Rg.m rfl (Rg.m rfl ?_))
 obtain ⟨h2, H⟩ := gd.of H
 refine Rg.p (p_add rfl rfl h2) (Rg.m rfl (Rg.m rfl ?_))
 obtain ⟨r3, h4, H⟩ := bd.of H
 refine Rg.ef (e_callM (c_medianH v0 x_v0 (v1 - 1) v1 (v1 + 1) g_v2 v2 h4) (Solo.box Solo.nil) (fun _ => (Solo.box Solo.nil)) rfl (.cons Del.here .nil) (EntsB.cons (Ent.b Ent.z) EntsB.nil)) rfl ?_
 rintro _ _ _ ⟨u5, rfl, rfl, rfl⟩
 refine Rg.a rfl (Rg.nl (nT (?_)))
 refine tRet ?_
 obtain rfl := si H
 exact bk1 rfl rfl rfl rfl (.cons Del.here .nil)
noncomputable def p_choosePivotH (v0 : (List PostH)) (v1 : Int) (v2 : Int) : Option (Int × Int) := gd (I64 (v2 - v1)) <| gd (I64 ((v2 - v1).tdiv 4)) <| gd (I64 (((v2 - v1).tdiv 4) * 1)) <| gd (I64 (v1 + (((v2 - v1).tdiv 4) * 1))) <| gd (I64 (((v2 - v1).tdiv 4) * 2)) <| gd (I64 (v1 + (((v2 - v1).tdiv 4) * 2))) <| gd (I64 (((v2 - v1).tdiv 4) * 3)) <| gd (I64 (v1 + (((v2 - v1).tdiv 4) * 3))) <| bd (cond (decide (8 ≤ (v2 - v1))) (bd (cond (decide (50 ≤ (v2 - v1))) (bd (p_medianAdjacentH v0 (v1 + (((v2 - v1).tdiv 4) * 1)) 0) fun r18 => bd (p_medianAdjacentH v0 (v1 + (((v2 - v1).tdiv 4) * 2)) r18.2) fun r21 => bd (p_medianAdjacentH v0 (v1 + (((v2 - v1).tdiv 4) * 3)) r21.2) fun r24 => some (r24.2, r18.1, r21.1, r24.1)) (some (0, v1 + (((v2 - v1).tdiv 4) * 1), v1 + (((v2 - v1).tdiv 4) * 2), v1 + (((v2 - v1).tdiv 4) * 3)))) fun x15 => bd (p_medianH v0 x15.2.1 x15.2.2.1 x15.2.2.2 x15.1) fun r27 => some (r27.2, r27.1)) (some (0, v1 + (((v2 - v1).tdiv 4) * 2)))) fun x11 => cond (decide (x11.1 = 0)) (some (x11.2, 1)) (cond (decide (x11.1 = 12)) (some (x11.2, 2)) (some (x11.2, 0)))
theorem c_choosePivotH {r : Int × Int} (v0 : (List PostH)) (x_v0 : Option Addr × Nat) (n_v0 : Nat) (e_v0 : n_v0 = v0.length) (v1 : Int) (v2 : Int) (H : p_choosePivotH v0 v1 v2 = some r) : Fn' Tryz.prog 155 #[.slice x_v0.1 n_v0 x_v0.2, .int .i64 (v1), .int .i64 (v2), .func (.func 129) #[] #[]] [imm (.slice x_v0.1 n_v0 x_v0.2) v0] [] (ι := Unit) (fun _ => .tuple #[.int .i64 (r.1), .int .i64 (r.2)]) (fun _ => []) (fun _ => []) := by
 subst e_v0
 refine calls_of (args := [_, _, _, _]) Tryz.func155 rfl (by kernel_rfl) Tryz.ntmps155 (by simp) fun c => ?_
 unfold p_choosePivotH at H
 refine Tr.seq (Tr.region (Rg.a (v := .int .i64 (0)) rfl (Rg.a (v := .int .i64 (0)) rfl (Rg.nl (nT (?_))))))
 refine Tr.seq (Tr.region (Rg.m rfl (Rg.m rfl ?_)))
 obtain ⟨h1, H⟩ := gd.of H
 refine Rg.p (p_sub rfl rfl h1) (Rg.a rfl (Rg.nl (nT (?_))))
 refine Tr.seq (Tr.region (Rg.ef (e_alloc ty3) rfl ?_))
 rintro _ _ _ ⟨g2, rfl, rfl, rfl⟩
 refine Rg.nl (nT (?_))
 refine Tr.seq (Tr.region (Rg.m rfl (Rg.m rfl ?_)))
 obtain ⟨h3, H⟩ := gd.of H
 refine Rg.p (p_quo rfl rfl (by decide) h3) ?_
 obtain ⟨h4, H⟩ := gd.of H
 refine Rg.p (p_mul rfl rfl h4) ?_
 obtain ⟨h5, H⟩ := gd.of H
 refine Rg.p (p_add rfl rfl h5) (Rg.a rfl (Rg.nl (nT (?_))))
 refine Tr.seq (Tr.region (Rg.m rfl (Rg.m rfl (Rg.p (p_quo rfl rfl (by decide) h3) ?_))))
 obtain ⟨h6, H⟩ := gd.of H
 refine Rg.p (p_mul rfl rfl h6) ?_
 obtain ⟨h7, H⟩ := gd.of H
 refine Rg.p (p_add rfl rfl h7) (Rg.a rfl (Rg.nl (nT (?_))))
 refine Tr.seq (Tr.region (Rg.m rfl (Rg.m rfl (Rg.p (p_quo rfl rfl (by decide) h3) ?_))))
 obtain ⟨h8, H⟩ := gd.of H
 refine Rg.p (p_mul rfl rfl h8) ?_
 obtain ⟨h9, H⟩ := gd.of H
 refine Rg.p (p_add rfl rfl h9) (Rg.a rfl (Rg.nl (nT (?_))))
 refine Tr.seq (Tr.seq (Tr.region (Rg.m rfl (Rg.p (p_geq rfl rfl) (Rg.nl ?_)))))
 refine nT (?_)
 obtain ⟨x11, hx12, H⟩ := bd.of H
 refine tMidC0 (ι := Unit) (fun ψ => [(11, .pointer (some ⟨g2, 0, none⟩)), (13, .int .i64 (x11.2))]) (fun ψ => [box g2 3 [.int .i64 (x11.1)]]) ?_ ?_
 ·refine Tr.cond (b := decide (8 ≤ (v2 - v1))) rfl (fun h10 => ?_) (fun h10 => ?_)
  ·replace hx12 := cdT h10 hx12
   refine Tr.seq (Tr.seq (Tr.region (Rg.m rfl (Rg.p (p_geq rfl rfl) (Rg.nl ?_)))))
   refine nT (?_)
   obtain ⟨x15, hx16, hx12⟩ := bd.of hx12
   refine tMidC0 (ι := Unit) (fun ψ => [(0, .slice x_v0.1 v0.length x_v0.2), (3, .func (.func 129) #[] #[]), (11, .pointer (some ⟨g2, 0, none⟩)), (12, .int .i64 (x15.2.1)), (13, .int .i64 (x15.2.2.1)), (14, .int .i64 (x15.2.2.2))]) (fun ψ => [box g2 3 [.int .i64 (x15.1)]]) ?_ ?_
   ·refine Tr.cond (b := decide (50 ≤ (v2 - v1))) rfl (fun h14 => ?_) (fun h14 => ?_)
    ·replace hx16 := cdT h14 hx16
     refine Tr.seq (Tr.region (Rg.m rfl (Rg.m rfl (Rg.m rfl ?_))))
     obtain ⟨r18, h19, hx16⟩ := bd.of hx16
     refine Rg.ef (e_callM (c_medianAdjacentH v0 x_v0 (v1 + (((v2 - v1).tdiv 4) * 1)) g2 0 h19) (Solo.box Solo.nil) (fun _ => (Solo.box Solo.nil)) rfl (.cons Del.here .nil) (EntsB.cons (Ent.b Ent.z) EntsB.nil)) rfl ?_
     rintro _ _ _ ⟨u20, rfl, rfl, rfl⟩
     refine Rg.a rfl (Rg.nl (nT (?_)))
     refine Tr.seq (Tr.region (Rg.m rfl (Rg.m rfl (Rg.m rfl ?_))))
     obtain ⟨r21, h22, hx16⟩ := bd.of hx16
     refine Rg.ef (e_callM (c_medianAdjacentH v0 x_v0 (v1 + (((v2 - v1).tdiv 4) * 2)) g2 r18.2 h22) (Solo.box Solo.nil) (fun _ => (Solo.box Solo.nil)) rfl (.cons Del.here .nil) (EntsB.cons (Ent.b Ent.z) EntsB.nil)) rfl ?_
     rintro _ _ _ ⟨u23, rfl, rfl, rfl⟩
     refine Rg.a rfl (Rg.nl (nT (?_)))
     refine Tr.region (Rg.m rfl (Rg.m rfl (Rg.m rfl ?_)))
     obtain ⟨r24, h25, hx16⟩ := bd.of hx16
     refine Rg.ef (e_callM (c_medianAdjacentH v0 x_v0 (v1 + (((v2 - v1).tdiv 4) * 3)) g2 r21.2 h25) (Solo.box Solo.nil) (fun _ => (Solo.box Solo.nil)) rfl (.cons Del.here .nil) (EntsB.cons (Ent.b Ent.z) EntsB.nil)) rfl ?_
     rintro _ _ _ ⟨u26, rfl, rfl, rfl⟩
     refine Rg.a rfl (Rg.nl ?_)
     replace hx16 := Option.some.inj hx16; subst hx16
     exact nMC () ⟨rfl, rfl, rfl, rfl, rfl, rfl, trivial⟩ Ents.refl (.cons Del.here .nil)
    ·replace hx16 := cdF h14 hx16
     refine tSkip ?_
     replace hx16 := Option.some.inj hx16; subst hx16
     exact nMC () ⟨rfl, rfl, rfl, rfl, rfl, rfl, trivial⟩ Ents.refl (.cons Del.here .nil)
   ·intro y17
    show Tr _ _ _ _ _ [(0, .slice x_v0.1 v0.length x_v0.2), (3, .func (.func 129) #[] #[]), (11, .pointer (some ⟨g2, 0, none⟩)), (12, .int .i64 (x15.2.1)), (13, .int .i64 (x15.2.2.1)), (14, .int .i64 (x15.2.2.2))] _ [box g2 3 [.int .i64 (x15.1)]]
    refine Tr.region (Rg.m rfl (Rg.m rfl (Rg.m rfl (Rg.m rfl (Rg.m rfl ?_)))))
    obtain ⟨r27, h28, hx12⟩ := bd.of hx12
    refine Rg.ef (e_callM (c_medianH v0 x_v0 x15.2.1 x15.2.2.1 x15.2.2.2 g2 x15.1 h28) (Solo.box Solo.nil) (fun _ => (Solo.box Solo.nil)) rfl (.cons Del.here .nil) (EntsB.cons (Ent.b Ent.z) EntsB.nil)) rfl ?_
    rintro _ _ _ ⟨u29, rfl, rfl, rfl⟩
    refine Rg.a rfl (Rg.nl ?_)
    replace hx12 := Option.some.inj hx12; subst hx12
    exact nMC () ⟨rfl, rfl, trivial⟩ Ents.refl (.cons Del.here .nil)
  ·replace hx12 := cdF h10 hx12
   refine tSkip ?_
   replace hx12 := Option.some.inj hx12; subst hx12
   exact nMC () ⟨rfl, rfl, trivial⟩ Ents.refl (.cons Del.here .nil)
 ·intro y13
  show Tr _ _ _ _ _ [(11, .pointer (some ⟨g2, 0, none⟩)), (13, .int .i64 (x11.2))] _ [box g2 3 [.int .i64 (x11.1)]]
  refine Tr.seq (Tr.region (Rg.o (q_ldb ty3 rfl Has.here rfl) (Rg.nl (nT (?_)))))
  refine Tr.block (Tr.seq (Tr.region (Rg.p (p_eql rfl rfl) (Rg.a rfl (Rg.nl ?_)))))
  refine nT (?_)
  refine Tr.cond (b := decide (x11.1 = 0)) rfl (fun h30 => ?_) (fun h30 => ?_)
  ·have H := cdT h30 H
   refine Tr.seq (Tr.region (Rg.m rfl (Rg.a rfl (Rg.a (v := .int .i64 (1)) rfl (Rg.nl ?_)))))
   refine nT (?_)
   refine tRet (rB (?_))
   obtain rfl := si H
   exact back2 () rfl (ResV.tmp (v := .int .i64 (x11.2)) rfl) (ResV.tmp (v := .int .i64 (1)) rfl) rfl Ents.nil Take.nil
  ·have H := cdF h30 H
   refine Tr.seq (Tr.region (Rg.p (p_eql rfl rfl) (Rg.a rfl (Rg.nl (nT (?_))))))
   refine Tr.cond (b := decide (x11.1 = 12)) rfl (fun h31 => ?_) (fun h31 => ?_)
   ·have H := cdT h31 H
    refine Tr.seq (Tr.region (Rg.m rfl (Rg.a rfl (Rg.a (v := .int .i64 (2)) rfl (Rg.nl ?_)))))
    refine nT (?_)
    refine tRet (rB (?_))
    obtain rfl := si H
    exact back2 () rfl (ResV.tmp (v := .int .i64 (x11.2)) rfl) (ResV.tmp (v := .int .i64 (2)) rfl) rfl Ents.nil Take.nil
   ·have H := cdF h31 H
    refine Tr.seq (Tr.region (Rg.m rfl (Rg.a rfl (Rg.a (v := .int .i64 (0)) rfl (Rg.nl ?_)))))
    refine nT (?_)
    refine tRet (rB (?_))
    obtain rfl := si H
    exact back2 () rfl (ResV.tmp (v := .int .i64 (x11.2)) rfl) (ResV.tmp (v := .int .i64 (0)) rfl) rfl Ents.nil Take.nil
noncomputable def p_reverseRangeH_b0 (Q6 : (List PostH) × Int × Int) : Option (((List PostH) × Int × Int) ⊕ ((List PostH))) := cond (decide (Q6.2.1 < Q6.2.2)) (gd (ix Q6.2.2 Q6.1.length) <| gd (ix Q6.2.1 Q6.1.length) <| gd (ix Q6.2.1 (Q6.1.set Q6.2.1.toNat (nth Q6.1 Q6.2.2.toNat)).length) <| gd (ix Q6.2.2 (Q6.1.set Q6.2.1.toNat (nth Q6.1 Q6.2.2.toNat)).length) <| gd (I64 (Q6.2.1 + 1)) <| gd (I64 (Q6.2.2 - 1)) <| some (.inl (((Q6.1.set Q6.2.1.toNat (nth Q6.1 Q6.2.2.toNat)).set Q6.2.2.toNat (nth Q6.1 Q6.2.1.toNat)), Q6.2.1 + 1, Q6.2.2 - 1))) (some (.inr Q6.1))
noncomputable def p_reverseRangeH (v0 : (List PostH)) (v1 : Int) (v2 : Int) : Option ((List PostH)) := gd (I64 (v2 - 1)) <| bd (lp (p_reverseRangeH_b0) (v0, v1, v2 - 1)) fun x2 => some x2
theorem c_reverseRangeH {r : (List PostH)} (v0 : (List PostH)) (x_v0 : Option Addr × Nat) (n_v0 : Nat) (e_v0 : n_v0 = v0.length) (v1 : Int) (v2 : Int) (H : p_reverseRangeH v0 v1 v2 = some r) : Fn' Tryz.prog 156 #[.slice x_v0.1 n_v0 x_v0.2, .int .i64 (v1), .int .i64 (v2), .func (.func 129) #[] #[]] [] [tree (.slice x_v0.1 n_v0 x_v0.2) v0] (ι := Unit) (fun _ => .tuple #[]) (fun _ => []) (fun _ => [tree (.slice x_v0.1 n_v0 x_v0.2) r]) := by
 subst e_v0
 refine calls_of (args := [_, _, _, _]) Tryz.func156 rfl (by kernel_rfl) Tryz.ntmps156 (by simp) fun c => ?_
 unfold p_reverseRangeH at H
 refine Tr.seq (Tr.region (Rg.m rfl (Rg.a rfl (Rg.nl (nT (?_))))))
 refine Tr.seq (Tr.region (Rg.m rfl ?_))
 obtain ⟨h1, H⟩ := gd.of H
 refine Rg.p (p_sub rfl rfl h1) (Rg.a rfl (Rg.nl (nT (?_))))
 obtain ⟨x2, hx3, H⟩ := bd.of H
 obtain ⟨n4, hx3⟩ := lp.of hx3
 refine tMidNC (ι := Unit) (fun ψ => []) (fun ψ => [tree (.slice x_v0.1 v0.length x_v0.2) x2]) ?_ ?_
 ·refine Tr.block (tLoopC (ι := { q : Nat × ((List PostH) × Int × Int) × Unit // itr (p_reverseRangeH_b0) q.1 q.2.1 = some x2 }) (fun ζ => [(0, .slice x_v0.1 v0.length x_v0.2), (8, .int .i64 (ζ.1.2.1.2.1)), (9, .int .i64 (ζ.1.2.1.2.2))]) (fun ζ => [tree (.slice x_v0.1 v0.length x_v0.2) ζ.1.2.1.1]) (fun ζ => ζ.1.1) ⟨(n4, (v0, v1, v2 - 1), ()), hx3⟩ ⟨rfl, rfl, rfl, trivial⟩ (.cons Del.here .nil) ?_)
  rintro ⟨⟨m5, Q6, z7⟩, hk12⟩
  obtain ⟨m13, t9, e, H1, hi10, hb11⟩ := itr.of (n := m5) (s := Q6) hk12
  subst e; unfold p_reverseRangeH_b0 at H1
  show Tr _ _ _ _ _ [(0, .slice x_v0.1 v0.length x_v0.2), (8, .int .i64 (Q6.2.1)), (9, .int .i64 (Q6.2.2))] _ [tree (.slice x_v0.1 v0.length x_v0.2) Q6.1]
  refine Tr.seq (Tr.seq (Tr.olen Has.here fun hn14 => (Tr.region (Rg.m rfl (Rg.m rfl ?_)))))
  refine Rg.p (p_lss rfl rfl) (Rg.nl (nT (?_)))
  refine Tr.cond (b := decide (Q6.2.1 < Q6.2.2)) rfl (fun h15 => ?_) (fun h15 => ?_)
  ·have H1 := cdT h15 H1
   refine tSkip (nT (?_))
   refine Tr.block (Tr.seq (tNwS [(0, .slice x_v0.1 v0.length x_v0.2), (8, .int .i64 (Q6.2.1)), (9, .int .i64 (Q6.2.2))] 1 [0, 1, 2, 3, 4, 5, 6, 7, 8, 9, 10, 11, 12, 13, 14, 15] [13, 15] [] Tryz.mixed (by kernel_rfl) (by decide) List.nodup_nil ⟨rfl, rfl, rfl, trivial⟩ rfl okNil (w_p rfl (p_move rfl) (w_p rfl (p_move rfl) (w_p rfl (p_move rfl) ?_)))))
   refine w_p rfl (p_move rfl) (w_p rfl (p_move rfl) (w_p rfl (p_move rfl) ?_))
   obtain ⟨h16, H1⟩ := gd.of H1
   refine w_o rfl (fun F => (q_ixO' Tryz.underlying33 ty113 rfl rfl h16 (Has.here.app F))) ?_
   refine w_o (v := .agg #[.string (((nth Q6.1 Q6.2.2.toNat).1).1), .string (((nth Q6.1 Q6.2.2.toNat).1).2), ((nth Q6.1 Q6.2.2.toNat).2).1]) rfl (fun F => (q_ldeA (i := Q6.2.2.toNat) ty113 rfl (EntB.flat (EntB.tree (Has.here.app F))) h16.lt)) (w_p rfl (p_move rfl) (w_p rfl (p_move rfl) ?_))
   obtain ⟨h17, H1⟩ := gd.of H1
   refine w_o rfl (fun F => (q_ixO' Tryz.underlying33 ty113 rfl rfl h17 (Has.here.app F))) ?_
   refine w_o (v := .agg #[.string (((nth Q6.1 Q6.2.1.toNat).1).1), .string (((nth Q6.1 Q6.2.1.toNat).1).2), ((nth Q6.1 Q6.2.1.toNat).2).1]) rfl (fun F => (q_ldeA (i := Q6.2.1.toNat) ty113 rfl (EntB.flat (EntB.tree (Has.here.app F))) h17.lt)) ?_
   refine w_o rfl (fun F => (q_ixO' Tryz.underlying33 ty113 rfl rfl h17 (Has.here.app F))) (w_en rfl rfl Rdy.nil rfl (n_setT (l := Q6.1) (α := PostH) (oa := x_v0.1) Q6.2.1.toNat (nth Q6.1 Q6.2.2.toNat) (((), ()), ()) ty113 rfl rfl rfl h17.lt (ShpT.wfa _) (.cons Del.here .nil)) ?_)
   rintro _ _ _ ⟨rfl, rfl, rfl⟩
   obtain ⟨h18, H1⟩ := gd.of H1
   refine ⟨(PdOk.anc (by kernel_rfl) (PdOk.anc (by kernel_rfl) (PdOk.q rfl rfl (fun F => (q_ixO' Tryz.underlying33 ty113 rfl rfl h18 (Has.here.app F))) (PdOk.anc (by kernel_rfl) (PdOk.anc (by kernel_rfl) PdOk.nil))))), ?_⟩
   obtain ⟨h19, H1⟩ := gd.of H1
   refine w_o rfl (fun F => (q_ixO' Tryz.underlying33 ty113 rfl rfl h19 (Has.here.app F))) (w_en rfl rfl Rdy.nil rfl (n_setT (l := (Q6.1.set Q6.2.1.toNat (nth Q6.1 Q6.2.2.toNat))) (α := PostH) (oa := x_v0.1) Q6.2.2.toNat (nth Q6.1 Q6.2.1.toNat) (((), ()), ()) ty113 rfl rfl rfl h19.lt (ShpT.wfa _) (.cons Del.here .nil)) ?_)
   rintro _ _ _ ⟨rfl, rfl, rfl⟩
   refine ⟨(PdOk.anc (by kernel_rfl) (PdOk.anc (by kernel_rfl) (PdOk.anc (by kernel_rfl) (PdOk.anc (by kernel_rfl) (PdOk.anc (by kernel_rfl) (PdOk.anc (by kernel_rfl) PdOk.nil)))))), ?_⟩
   refine w_nil ?_
   show At _ _ _ _ _ _
   refine nT (?_)
   refine Tr.seq (Tr.olen Has.here fun hn20 => (Tr.region (Rg.m rfl ?_)))
   obtain ⟨h21, H1⟩ := gd.of H1
   refine Rg.p (p_add rfl rfl h21) (Rg.a rfl (Rg.nl (nT (?_))))
   refine Tr.region (Rg.m rfl ?_)
   obtain ⟨h22, H1⟩ := gd.of H1
   refine Rg.p (p_sub rfl rfl h22) (Rg.a rfl (Rg.nl ?_))
   exact nB (nLC ⟨(m13, (((Q6.1.set Q6.2.1.toNat (nth Q6.1 Q6.2.2.toNat)).set Q6.2.2.toNat (nth Q6.1 Q6.2.1.toNat)), Q6.2.1 + 1, Q6.2.2 - 1), ()), hi10 _ (Option.some.inj H1).symm⟩ (Nat.lt_succ_self _) ⟨rfl, rfl, rfl, trivial⟩ Ents.refl (.cons Del.here .nil))
  ·have H1 := cdF h15 H1
   refine tExit (xT (xT (xE (?_))))
   have hx := hb11 _ (Option.some.inj H1).symm; subst hx
   exact nMC () trivial Ents.refl (.cons Del.here .nil)
 ·intro y8
  show At _ _ [] _ [tree (.slice x_v0.1 v0.length x_v0.2) x2] _
  obtain rfl := si H
  exact back0n () rfl  rfl Ents.nil (.cons Del.here .nil)
noncomputable def p_partialInsertionSortH_b1 (v2 : Int) (Q6 : (List PostH) × Int × Int) (Q20 : Int) : Option ((Int) ⊕ (Int)) := bd (cond (decide (Q20 < v2)) (gd (ix Q20 Q6.1.length) <| gd (I64 (Q20 - 1)) <| gd (ix (Q20 - 1) Q6.1.length) <| bd (p_impl_indexOf_2 (nth Q6.1 Q20.toNat) (nth Q6.1 ((Q20 - 1).toNat))) fun r34 => some (!(decide (r34 < 0)))) (some (false))) fun b28 => cond (b28) (gd (I64 (Q20 + 1)) <| some (.inl (Q20 + 1))) (some (.inr Q20))
noncomputable def p_partialInsertionSortH_b2 (Q56 : (List PostH) × Int) : Option (((List PostH) × Int) ⊕ ((List PostH))) := cond (decide (1 ≤ Q56.2)) (gd (ix Q56.2 Q56.1.length) <| gd (I64 (Q56.2 - 1)) <| gd (ix (Q56.2 - 1) Q56.1.length) <| bd (p_impl_indexOf_2 (nth Q56.1 Q56.2.toNat) (nth Q56.1 ((Q56.2 - 1).toNat))) fun r69 => cond (!(decide (r69 < 0))) (some (.inr Q56.1)) (gd (ix Q56.2 (Q56.1.set Q56.2.toNat (nth Q56.1 ((Q56.2 - 1).toNat))).length) <| gd (ix (Q56.2 - 1) (Q56.1.set Q56.2.toNat (nth Q56.1 ((Q56.2 - 1).toNat))).length) <| some (.inl (((Q56.1.set Q56.2.toNat (nth Q56.1 ((Q56.2 - 1).toNat))).set ((Q56.2 - 1).toNat) (nth Q56.1 Q56.2.toNat)), Q56.2 - 1)))) (some (.inr Q56.1))
noncomputable def p_partialInsertionSortH_b3 (v2 : Int) (Q83 : (List PostH) × Int) : Option (((List PostH) × Int) ⊕ ((List PostH))) := cond (decide (Q83.2 < v2)) (gd (ix Q83.2 Q83.1.length) <| gd (I64 (Q83.2 - 1)) <| gd (ix (Q83.2 - 1) Q83.1.length) <| bd (p_impl_indexOf_2 (nth Q83.1 Q83.2.toNat) (nth Q83.1 ((Q83.2 - 1).toNat))) fun r96 => cond (!(decide (r96 < 0))) (some (.inr Q83.1)) (gd (ix Q83.2 (Q83.1.set Q83.2.toNat (nth Q83.1 ((Q83.2 - 1).toNat))).length) <| gd (ix (Q83.2 - 1) (Q83.1.set Q83.2.toNat (nth Q83.1 ((Q83.2 - 1).toNat))).length) <| gd (I64 (Q83.2 + 1)) <| some (.inl (((Q83.1.set Q83.2.toNat (nth Q83.1 ((Q83.2 - 1).toNat))).set ((Q83.2 - 1).toNat) (nth Q83.1 Q83.2.toNat)), Q83.2 + 1)))) (some (.inr Q83.1))
noncomputable def p_partialInsertionSortH_b0 (v1 : Int) (v2 : Int) (Q6 : (List PostH) × Int × Int) : Option (((List PostH) × Int × Int) ⊕ ((List PostH) ⊕ (Bool × (List PostH)))) := cond (decide (Q6.2.2 < 5)) (bd (lp (p_partialInsertionSortH_b1 v2 Q6) Q6.2.1) fun x16 => cond (decide (x16 = v2)) (some (.inr (.inr (true, Q6.1)))) (gd (I64 (v2 - v1)) <| cond (decide ((v2 - v1) < 50)) (some (.inr (.inr (false, Q6.1)))) (gd (I64 (x16 - 1)) <| gd (ix (x16 - 1) Q6.1.length) <| gd (ix x16 Q6.1.length) <| gd (ix x16 (Q6.1.set x16.toNat (nth Q6.1 ((x16 - 1).toNat))).length) <| gd (ix (x16 - 1) (Q6.1.set x16.toNat (nth Q6.1 ((x16 - 1).toNat))).length) <| gd (I64 (x16 - v1)) <| bd (cond (decide (2 ≤ (x16 - v1))) (bd (lp (p_partialInsertionSortH_b2) (((Q6.1.set x16.toNat (nth Q6.1 ((x16 - 1).toNat))).set ((x16 - 1).toNat) (nth Q6.1 x16.toNat)), x16 - 1)) fun x52 => some x52) (some ((Q6.1.set x16.toNat (nth Q6.1 ((x16 - 1).toNat))).set ((x16 - 1).toNat) (nth Q6.1 x16.toNat)))) fun x49 => gd (I64 (v2 - x16)) <| cond (decide (2 ≤ (v2 - x16))) (gd (I64 (x16 + 1)) <| bd (lp (p_partialInsertionSortH_b3 v2) (x49, x16 + 1)) fun x79 => gd (I64 (Q6.2.2 + 1)) <| some (.inl (x79, x16, Q6.2.2 + 1))) (gd (I64 (Q6.2.2 + 1)) <| some (.inl (x49, x16, Q6.2.2 + 1)))))) (some (.inr (.inl Q6.1)))
noncomputable def p_partialInsertionSortH (v0 : (List PostH)) (v1 : Int) (v2 : Int) : Option (Bool × (List PostH)) := gd (I64 (v1 + 1)) <| bd (lp (p_partialInsertionSortH_b0 v1 v2) (v0, v1 + 1, 0)) <| sw (fun e106 => some (false, e106)) (fun q => some q)
theorem c_partialInsertionSortH {r : Bool × (List PostH)} (v0 : (List PostH)) (x_v0 : Option Addr × Nat) (n_v0 : Nat) (e_v0 : n_v0 = v0.length) (v1 : Int) (v2 : Int) (H : p_partialInsertionSortH v0 v1 v2 = some r) : Fn' Tryz.prog 157 #[.slice x_v0.1 n_v0 x_v0.2, .int .i64 (v1), .int .i64 (v2), .func (.func 129) #[] #[]] [] [tree (.slice x_v0.1 n_v0 x_v0.2) v0] (ι := Unit) (fun _ => .bool (r.1)) (fun _ => []) (fun _ => [tree (.slice x_v0.1 n_v0 x_v0.2) r.2]) := by
 subst e_v0
 refine calls_of (args := [_, _, _, _]) Tryz.func157 rfl (by kernel_rfl) Tryz.ntmps157 (by simp) fun c => ?_
 unfold p_partialInsertionSortH at H
 refine Tr.seq (Tr.region (Rg.a (v := .bool (false)) rfl (Rg.nl (nT (?_)))))
 refine Tr.seq (Tr.region (Rg.m rfl ?_))
 obtain ⟨h1, H⟩ := gd.of H
 refine Rg.p (p_add rfl rfl h1) (Rg.a rfl (Rg.nl (nT (?_))))
 refine Tr.seq (Tr.seq (Tr.region (Rg.a (v := .int .i64 (0)) rfl (Rg.nl (nT (?_))))))
 obtain ⟨x2, hx3, H⟩ := bd.of H
 obtain ⟨n4, hx3⟩ := lp.of hx3
 refine tMidNC (ι := { q : ((List PostH)) × Unit // x2 = .inl q.1 }) (fun ψ => []) (fun ψ => [tree (.slice x_v0.1 v0.length x_v0.2) ψ.1.1]) ?_ ?_
 ·refine Tr.block (tLoopC (ι := { q : Nat × ((List PostH) × Int × Int) × Unit // itr (p_partialInsertionSortH_b0 v1 v2) q.1 q.2.1 = some x2 }) (fun ζ => [(0, .slice x_v0.1 v0.length x_v0.2), (1, .int .i64 (v1)), (2, .int .i64 (v2)), (3, .func (.func 129) #[] #[]), (9, .int .i64 (ζ.1.2.1.2.1)), (10, .int .i64 (ζ.1.2.1.2.2))]) (fun ζ => [tree (.slice x_v0.1 v0.length x_v0.2) ζ.1.2.1.1]) (fun ζ => ζ.1.1) ⟨(n4, (v0, v1 + 1, 0), ()), hx3⟩ ⟨rfl, rfl, rfl, rfl, rfl, rfl, trivial⟩ (.cons Del.here .nil) ?_)
  rintro ⟨⟨m5, Q6, z7⟩, hk12⟩
  obtain ⟨m13, t9, e, H1, hi10, hb11⟩ := itr.of (n := m5) (s := Q6) hk12
  subst e; unfold p_partialInsertionSortH_b0 at H1
  show Tr _ _ _ _ _ [(0, .slice x_v0.1 v0.length x_v0.2), (1, .int .i64 (v1)), (2, .int .i64 (v2)), (3, .func (.func 129) #[] #[]), (9, .int .i64 (Q6.2.1)), (10, .int .i64 (Q6.2.2))] _ [tree (.slice x_v0.1 v0.length x_v0.2) Q6.1]
  refine Tr.seq (Tr.seq (Tr.olen Has.here fun hn14 => (Tr.region (Rg.m rfl (Rg.p (p_lss rfl rfl) ?_)))))
  refine Rg.nl (nT (?_))
  refine Tr.cond (b := decide (Q6.2.2 < 5)) rfl (fun h15 => ?_) (fun h15 => ?_)
  ·have H1 := cdT h15 H1
   refine tSkip (nT (?_))
   refine Tr.seq (Tr.block ?_)
   obtain ⟨x16, hx17, H1⟩ := bd.of H1
   obtain ⟨n18, hx17⟩ := lp.of hx17
   refine tMidC (ι := Unit) (fun ψ => [(0, .slice x_v0.1 v0.length x_v0.2), (1, .int .i64 (v1)), (2, .int .i64 (v2)), (3, .func (.func 129) #[] #[]), (9, .int .i64 (x16)), (10, .int .i64 (Q6.2.2))]) (fun ψ => [tree (.slice x_v0.1 v0.length x_v0.2) Q6.1]) ?_ ?_
   ·refine Tr.block (tLoopC (ι := { q : Nat × (Int) × Unit // itr (p_partialInsertionSortH_b1 v2 Q6) q.1 q.2.1 = some x16 }) (fun ζ => [(0, .slice x_v0.1 v0.length x_v0.2), (1, .int .i64 (v1)), (2, .int .i64 (v2)), (3, .func (.func 129) #[] #[]), (9, .int .i64 (ζ.1.2.1)), (10, .int .i64 (Q6.2.2))]) (fun ζ => [tree (.slice x_v0.1 v0.length x_v0.2) Q6.1]) (fun ζ => ζ.1.1) ⟨(n18, Q6.2.1, ()), hx17⟩ ⟨rfl, rfl, rfl, rfl, rfl, rfl, trivial⟩ (.cons Del.here .nil) ?_)
    rintro ⟨⟨m19, Q20, z21⟩, hk26⟩
    obtain ⟨m27, t23, e, H2, hi24, hb25⟩ := itr.of (n := m19) (s := Q20) hk26
    subst e; unfold p_partialInsertionSortH_b1 at H2
    show Tr _ _ _ _ _ [(0, .slice x_v0.1 v0.length x_v0.2), (1, .int .i64 (v1)), (2, .int .i64 (v2)), (3, .func (.func 129) #[] #[]), (9, .int .i64 (Q20)), (10, .int .i64 (Q6.2.2))] _ [tree (.slice x_v0.1 v0.length x_v0.2) Q6.1]
    refine Tr.seq ?_
    obtain ⟨b28, j29, H2⟩ := bd.of H2
    refine tMid1 [(36, .bool (b28)), (0, .slice x_v0.1 v0.length x_v0.2), (1, .int .i64 (v1)), (2, .int .i64 (v2)), (3, .func (.func 129) #[] #[]), (9, .int .i64 (Q20)), (10, .int .i64 (Q6.2.2))] ?_ ?_
    ·refine tLinS [(0, .slice x_v0.1 v0.length x_v0.2), (1, .int .i64 (v1)), (2, .int .i64 (v2)), (3, .func (.func 129) #[] #[]), (9, .int .i64 (Q20)), (10, .int .i64 (Q6.2.2))] Tryz.mixed (.inr (by kernel_rfl)) ⟨rfl, rfl, rfl, rfl, rfl, rfl, trivial⟩ rfl (Lin.m rfl (Lin.m rfl (Lin.p (p_lss rfl rfl) ?_)))
     rcases Bool.eq_false_or_eq_true (decide (Q20 < v2)) with h30 | h30
     ·have j29 := cdT h30 j29
      refine Lin.e_ (p_move rfl) h30 (Lin.h rfl (p_move rfl) (Lin.h rfl (p_move rfl) (Lin.h rfl (p_move rfl) ?_)))
      obtain ⟨h31, j29⟩ := gd.of j29
      refine Lin.i rfl (q_ixO' Tryz.underlying33 ty113 rfl rfl h31 Has.here) (Lin.i (v := .agg #[.string (((nth Q6.1 Q20.toNat).1).1), .string (((nth Q6.1 Q20.toNat).1).2), ((nth Q6.1 Q20.toNat).2).1]) rfl (q_ldeA (i := Q20.toNat) ty113 rfl (EntB.flat (EntB.tree Has.here)) h31.lt) (Lin.h rfl (p_move rfl) (Lin.h rfl (p_move rfl) ?_)))
      obtain ⟨h32, j29⟩ := gd.of j29
      refine Lin.h rfl (p_sub rfl rfl h32) ?_
      obtain ⟨h33, j29⟩ := gd.of j29
      refine Lin.i rfl (q_ixO' Tryz.underlying33 ty113 rfl rfl h33 Has.here) (Lin.i (v := .agg #[.string (((nth Q6.1 ((Q20 - 1).toNat)).1).1), .string (((nth Q6.1 ((Q20 - 1).toNat)).1).2), ((nth Q6.1 ((Q20 - 1).toNat)).2).1]) rfl (q_ldeA (i := (Q20 - 1).toNat) ty113 rfl (EntB.flat (EntB.tree Has.here)) h33.lt) ?_)
      obtain ⟨r34, h35, j29⟩ := bd.of j29
      refine Lin.i (v := .int .i64 (r34)) rfl (Ex.dyn (caps := []) (vs := [.agg #[.string (((nth Q6.1 Q20.toNat).1).1), .string (((nth Q6.1 Q20.toNat).1).2), ((nth Q6.1 Q20.toNat).2).1], .agg #[.string (((nth Q6.1 ((Q20 - 1).toNat)).1).1), .string (((nth Q6.1 ((Q20 - 1).toNat)).1).2), ((nth Q6.1 ((Q20 - 1).toNat)).2).1]]) rfl rfl (q_call (c_impl_indexOf_2 (nth Q6.1 Q20.toNat) (nth Q6.1 ((Q20 - 1).toNat)) h35) rfl EntsB.nil)) (Lin.h rfl (p_lss rfl rfl) (Lin.h rfl (p_not rfl) (Lin.p (p_pickT rfl rfl) ?_)))
      obtain rfl := si j29
      show At _ _ _ _ _ _
      exact n1 ⟨rfl, rfl, rfl, rfl, rfl, rfl, rfl, trivial⟩
     ·have j29 := cdF h30 j29
      refine Lin.e_ (p_move rfl) h30 ?_
      iterate 13 refine Lin.sk rfl ?_
      refine Lin.p (v := .bool (false)) (p_pickF rfl rfl) ?_
      obtain rfl := si j29
      show At _ _ _ _ _ _
      exact n1 ⟨rfl, rfl, rfl, rfl, rfl, rfl, rfl, trivial⟩
    refine Tr.cond (b := b28) rfl (fun h36 => ?_) (fun h36 => ?_)
    ·have H2 := cdT h36 H2
     refine tSkip (nT (?_))
     refine Tr.block (Tr.region (Rg.m rfl ?_))
     obtain ⟨h37, H2⟩ := gd.of H2
     refine Rg.p (p_add rfl rfl h37) (Rg.a rfl (Rg.nl ?_))
     exact nB (nLC ⟨(m27, Q20 + 1, ()), hi24 _ (Option.some.inj H2).symm⟩ (Nat.lt_succ_self _) ⟨rfl, rfl, rfl, rfl, rfl, rfl, trivial⟩ Ents.refl (.cons Del.here .nil))
    ·have H2 := cdF h36 H2
     refine tExit (xT (xT (xE (?_))))
     have hx := hb25 _ (Option.some.inj H2).symm; subst hx
     exact nMC () ⟨rfl, rfl, rfl, rfl, rfl, rfl, trivial⟩ Ents.refl (.cons Del.here .nil)
   ·intro y22
    show Tr _ _ _ _ _ [(0, .slice x_v0.1 v0.length x_v0.2), (1, .int .i64 (v1)), (2, .int .i64 (v2)), (3, .func (.func 129) #[] #[]), (9, .int .i64 (x16)), (10, .int .i64 (Q6.2.2))] _ [tree (.slice x_v0.1 v0.length x_v0.2) Q6.1]
    refine Tr.seq (Tr.seq (Tr.region (Rg.m rfl (Rg.m rfl (Rg.p (p_eql rfl rfl) ?_)))))
    refine Rg.nl (nT (?_))
    refine Tr.cond (b := decide (x16 = v2)) rfl (fun h38 => ?_) (fun h38 => ?_)
    ·have H1 := cdT h38 H1
     refine Tr.seq (Tr.region (Rg.a (v := .bool (true)) rfl (Rg.nl (nT (?_)))))
     refine tRet (rT (rB (rT (rT (rB (rT (rT (?_))))))))
     have hx := hb11 _ (Option.some.inj H1).symm; subst hx
     replace H := sw.r H
     obtain rfl := si H
     exact bk1 rfl rfl rfl rfl (.cons Del.here .nil)
    ·have H1 := cdF h38 H1
     refine tSkip (nT (?_))
     refine Tr.seq (Tr.seq (Tr.region (Rg.m rfl (Rg.m rfl ?_))))
     obtain ⟨h39, H1⟩ := gd.of H1
     refine Rg.p (p_sub rfl rfl h39) (Rg.p (p_lss rfl rfl) (Rg.nl (nT (?_))))
     refine Tr.cond (b := decide ((v2 - v1) < 50)) rfl (fun h40 => ?_) (fun h40 => ?_)
     ·have H1 := cdT h40 H1
      refine Tr.seq (Tr.region (Rg.a (v := .bool (false)) rfl (Rg.nl (nT (?_)))))
      refine tRet (rT (rB (rT (rT (rB (rT (rT (?_))))))))
      have hx := hb11 _ (Option.some.inj H1).symm; subst hx
      replace H := sw.r H
      obtain rfl := si H
      exact bk1 rfl rfl rfl rfl (.cons Del.here .nil)
     ·have H1 := cdF h40 H1
      refine tSkip (nT (?_))
      refine Tr.seq (tNwS [(0, .slice x_v0.1 v0.length x_v0.2), (1, .int .i64 (v1)), (2, .int .i64 (v2)), (3, .func (.func 129) #[] #[]), (9, .int .i64 (x16)), (10, .int .i64 (Q6.2.2))] 1 [0, 1, 2, 3, 4, 5, 6, 7, 8, 9, 10, 11, 12, 13, 14, 15, 16, 17] [15, 17] [] Tryz.mixed (by kernel_rfl) (by decide) List.nodup_nil ⟨rfl, rfl, rfl, rfl, rfl, rfl, trivial⟩ rfl okNil (w_p rfl (p_move rfl) (w_p rfl (p_move rfl) (w_p rfl (p_move rfl) (w_p rfl (p_move rfl) ?_)))))
      obtain ⟨h41, H1⟩ := gd.of H1
      refine w_p rfl (p_sub rfl rfl h41) (w_p rfl (p_move rfl) (w_p rfl (p_move rfl) (w_p rfl (p_sub rfl rfl h41) ?_)))
      obtain ⟨h42, H1⟩ := gd.of H1
      refine w_o rfl (fun F => (q_ixO' Tryz.underlying33 ty113 rfl rfl h42 (Has.here.app F))) ?_
      refine w_o (v := .agg #[.string (((nth Q6.1 ((x16 - 1).toNat)).1).1), .string (((nth Q6.1 ((x16 - 1).toNat)).1).2), ((nth Q6.1 ((x16 - 1).toNat)).2).1]) rfl (fun F => (q_ldeA (i := (x16 - 1).toNat) ty113 rfl (EntB.flat (EntB.tree (Has.here.app F))) h42.lt)) (w_p rfl (p_move rfl) (w_p rfl (p_move rfl) ?_))
      obtain ⟨h43, H1⟩ := gd.of H1
      refine w_o rfl (fun F => (q_ixO' Tryz.underlying33 ty113 rfl rfl h43 (Has.here.app F))) ?_
      refine w_o (v := .agg #[.string (((nth Q6.1 x16.toNat).1).1), .string (((nth Q6.1 x16.toNat).1).2), ((nth Q6.1 x16.toNat).2).1]) rfl (fun F => (q_ldeA (i := x16.toNat) ty113 rfl (EntB.flat (EntB.tree (Has.here.app F))) h43.lt)) ?_
      refine w_o rfl (fun F => (q_ixO' Tryz.underlying33 ty113 rfl rfl h43 (Has.here.app F))) (w_en rfl rfl Rdy.nil rfl (n_setT (l := Q6.1) (α := PostH) (oa := x_v0.1) x16.toNat (nth Q6.1 ((x16 - 1).toNat)) (((), ()), ()) ty113 rfl rfl rfl h43.lt (ShpT.wfa _) (.cons Del.here .nil)) ?_)
      rintro _ _ _ ⟨rfl, rfl, rfl⟩
      obtain ⟨h44, H1⟩ := gd.of H1
      refine ⟨(PdOk.anc (by kernel_rfl) (PdOk.anc (by kernel_rfl) (PdOk.q rfl rfl (fun F => (q_ixO' Tryz.underlying33 ty113 rfl rfl h44 (Has.here.app F))) (PdOk.anc (by kernel_rfl) (PdOk.anc (by kernel_rfl) PdOk.nil))))), ?_⟩
      obtain ⟨h45, H1⟩ := gd.of H1
      refine w_o rfl (fun F => (q_ixO' Tryz.underlying33 ty113 rfl rfl h45 (Has.here.app F))) (w_en rfl rfl Rdy.nil rfl (n_setT (l := (Q6.1.set x16.toNat (nth Q6.1 ((x16 - 1).toNat)))) (α := PostH) (oa := x_v0.1) ((x16 - 1).toNat) (nth Q6.1 x16.toNat) (((), ()), ()) ty113 rfl rfl rfl h45.lt (ShpT.wfa _) (.cons Del.here .nil)) ?_)
      rintro _ _ _ ⟨rfl, rfl, rfl⟩
      refine ⟨(PdOk.anc (by kernel_rfl) (PdOk.anc (by kernel_rfl) (PdOk.anc (by kernel_rfl) (PdOk.anc (by kernel_rfl) (PdOk.anc (by kernel_rfl) (PdOk.anc (by kernel_rfl) PdOk.nil)))))), ?_⟩
      refine w_nil ?_
      show At _ _ _ _ _ _
      refine nT (?_)
      refine Tr.seq (Tr.seq (Tr.olen Has.here fun hn46 => (Tr.region (Rg.m rfl (Rg.m rfl ?_)))))
      obtain ⟨h47, H1⟩ := gd.of H1
      refine Rg.p (p_sub rfl rfl h47) (Rg.p (p_geq rfl rfl) (Rg.nl (nT (?_))))
      obtain ⟨x49, hx50, H1⟩ := bd.of H1
      refine tMidC0 (ι := Unit) (fun ψ => [(0, .slice x_v0.1 v0.length x_v0.2), (1, .int .i64 (v1)), (2, .int .i64 (v2)), (3, .func (.func 129) #[] #[]), (9, .int .i64 (x16)), (10, .int .i64 (Q6.2.2))]) (fun ψ => [tree (.slice x_v0.1 v0.length x_v0.2) x49]) ?_ ?_
      ·refine Tr.cond (b := decide (2 ≤ (x16 - v1))) rfl (fun h48 => ?_) (fun h48 => ?_)
       ·replace hx50 := cdT h48 hx50
        refine Tr.seq (Tr.region (Rg.m rfl (Rg.p (p_sub rfl rfl h41) (Rg.a rfl (Rg.nl ?_)))))
        refine nT (?_)
        obtain ⟨x52, hx53, hx50⟩ := bd.of hx50
        obtain ⟨n54, hx53⟩ := lp.of hx53
        refine tMidNC (ι := Unit) (fun ψ => [(0, .slice x_v0.1 v0.length x_v0.2), (1, .int .i64 (v1)), (2, .int .i64 (v2)), (3, .func (.func 129) #[] #[]), (9, .int .i64 (x16)), (10, .int .i64 (Q6.2.2))]) (fun ψ => [tree (.slice x_v0.1 v0.length x_v0.2) x52]) ?_ ?_
        ·refine Tr.block (tLoopC (ι := { q : Nat × ((List PostH) × Int) × Unit // itr (p_partialInsertionSortH_b2) q.1 q.2.1 = some x52 }) (fun ζ => [(0, .slice x_v0.1 v0.length x_v0.2), (1, .int .i64 (v1)), (2, .int .i64 (v2)), (3, .func (.func 129) #[] #[]), (9, .int .i64 (x16)), (10, .int .i64 (Q6.2.2)), (11, .int .i64 (ζ.1.2.1.2))]) (fun ζ => [tree (.slice x_v0.1 v0.length x_v0.2) ζ.1.2.1.1]) (fun ζ => ζ.1.1) ⟨(n54, (((Q6.1.set x16.toNat (nth Q6.1 ((x16 - 1).toNat))).set ((x16 - 1).toNat) (nth Q6.1 x16.toNat)), x16 - 1), ()), hx53⟩ ⟨rfl, rfl, rfl, rfl, rfl, rfl, rfl, trivial⟩ (.cons Del.here .nil) ?_)
         rintro ⟨⟨m55, Q56, z57⟩, hk62⟩
         obtain ⟨m63, t59, e, H2, hi60, hb61⟩ := itr.of (n := m55) (s := Q56) hk62
         subst e; unfold p_partialInsertionSortH_b2 at H2
         show Tr _ _ _ _ _ [(0, .slice x_v0.1 v0.length x_v0.2), (1, .int .i64 (v1)), (2, .int .i64 (v2)), (3, .func (.func 129) #[] #[]), (9, .int .i64 (x16)), (10, .int .i64 (Q6.2.2)), (11, .int .i64 (Q56.2))] _ [tree (.slice x_v0.1 v0.length x_v0.2) Q56.1]
         refine Tr.seq (Tr.seq (Tr.olen Has.here fun hn64 => (Tr.region (Rg.m rfl (Rg.p (p_geq rfl rfl) ?_)))))
         refine Rg.nl (nT (?_))
         refine Tr.cond (b := decide (1 ≤ Q56.2)) rfl (fun h65 => ?_) (fun h65 => ?_)
         ·have H2 := cdT h65 H2
          refine tSkip (nT (?_))
          refine Tr.seq (Tr.block (Tr.seq (Tr.seq (tLinS [(0, .slice x_v0.1 v0.length x_v0.2), (1, .int .i64 (v1)), (2, .int .i64 (v2)), (3, .func (.func 129) #[] #[]), (9, .int .i64 (x16)), (10, .int .i64 (Q6.2.2)), (11, .int .i64 (Q56.2))] Tryz.mixed (.inr (by kernel_rfl)) ⟨rfl, rfl, rfl, rfl, rfl, rfl, rfl, trivial⟩ rfl (Lin.m rfl ?_)))))
          refine Lin.m rfl (Lin.m rfl ?_)
          obtain ⟨h66, H2⟩ := gd.of H2
          refine Lin.o (q_ixO' Tryz.underlying33 ty113 rfl rfl h66 Has.here) (Lin.o (v := .agg #[.string (((nth Q56.1 Q56.2.toNat).1).1), .string (((nth Q56.1 Q56.2.toNat).1).2), ((nth Q56.1 Q56.2.toNat).2).1]) (q_ldeA (i := Q56.2.toNat) ty113 rfl (EntB.flat (EntB.tree Has.here)) h66.lt) (Lin.m rfl (Lin.m rfl ?_)))
          obtain ⟨h67, H2⟩ := gd.of H2
          refine Lin.p (p_sub rfl rfl h67) ?_
          obtain ⟨h68, H2⟩ := gd.of H2
          refine Lin.o (q_ixO' Tryz.underlying33 ty113 rfl rfl h68 Has.here) (Lin.o (v := .agg #[.string (((nth Q56.1 ((Q56.2 - 1).toNat)).1).1), .string (((nth Q56.1 ((Q56.2 - 1).toNat)).1).2), ((nth Q56.1 ((Q56.2 - 1).toNat)).2).1]) (q_ldeA (i := (Q56.2 - 1).toNat) ty113 rfl (EntB.flat (EntB.tree Has.here)) h68.lt) ?_)
          obtain ⟨r69, h70, H2⟩ := bd.of H2
          refine Lin.o (v := .int .i64 (r69)) (Ex.dyn (caps := []) (vs := [.agg #[.string (((nth Q56.1 Q56.2.toNat).1).1), .string (((nth Q56.1 Q56.2.toNat).1).2), ((nth Q56.1 Q56.2.toNat).2).1], .agg #[.string (((nth Q56.1 ((Q56.2 - 1).toNat)).1).1), .string (((nth Q56.1 ((Q56.2 - 1).toNat)).1).2), ((nth Q56.1 ((Q56.2 - 1).toNat)).2).1]]) rfl rfl (q_call (c_impl_indexOf_2 (nth Q56.1 Q56.2.toNat) (nth Q56.1 ((Q56.2 - 1).toNat)) h70) rfl EntsB.nil)) (Lin.p (p_lss rfl rfl) (Lin.p (p_not rfl) ?_))
          show At _ _ _ _ _ _
          refine nT (?_)
          refine Tr.cond (b := !(decide (r69 < 0))) rfl (fun h71 => ?_) (fun h71 => ?_)
          ·have H2 := cdT h71 H2
           refine tExit (xT (xB rfl (xT (xT (xE (?_))))))
           have hx := hb61 _ (Option.some.inj H2).symm; subst hx
           exact nMC () ⟨rfl, rfl, rfl, rfl, rfl, rfl, trivial⟩ Ents.refl (.cons Del.here .nil)
          ·have H2 := cdF h71 H2
           refine tSkip (nT (?_))
           refine tNwS [(0, .slice x_v0.1 v0.length x_v0.2), (1, .int .i64 (v1)), (2, .int .i64 (v2)), (3, .func (.func 129) #[] #[]), (9, .int .i64 (x16)), (10, .int .i64 (Q6.2.2)), (11, .int .i64 (Q56.2))] 1 [0, 1, 2, 3, 4, 5, 6, 7, 8, 9, 10, 11, 12, 13, 14, 15, 16, 17] [15, 17] [] Tryz.mixed (by kernel_rfl) (by decide) List.nodup_nil ⟨rfl, rfl, rfl, rfl, rfl, rfl, rfl, trivial⟩ rfl okNil (w_p rfl (p_move rfl) (w_p rfl (p_move rfl) (w_p rfl (p_move rfl) (w_p rfl (p_move rfl) (w_p rfl (p_sub rfl rfl h67) ?_)))))
           refine w_p rfl (p_move rfl) (w_p rfl (p_move rfl) (w_p rfl (p_sub rfl rfl h67) (w_o rfl (fun F => (q_ixO' Tryz.underlying33 ty113 rfl rfl h68 (Has.here.app F))) (w_o (v := .agg #[.string (((nth Q56.1 ((Q56.2 - 1).toNat)).1).1), .string (((nth Q56.1 ((Q56.2 - 1).toNat)).1).2), ((nth Q56.1 ((Q56.2 - 1).toNat)).2).1]) rfl (fun F => (q_ldeA (i := (Q56.2 - 1).toNat) ty113 rfl (EntB.flat (EntB.tree (Has.here.app F))) h68.lt)) (w_p rfl (p_move rfl) ?_)))))
           refine w_p rfl (p_move rfl) ?_
           refine w_o rfl (fun F => (q_ixO' Tryz.underlying33 ty113 rfl rfl h66 (Has.here.app F))) ?_
           refine w_o (v := .agg #[.string (((nth Q56.1 Q56.2.toNat).1).1), .string (((nth Q56.1 Q56.2.toNat).1).2), ((nth Q56.1 Q56.2.toNat).2).1]) rfl (fun F => (q_ldeA (i := Q56.2.toNat) ty113 rfl (EntB.flat (EntB.tree (Has.here.app F))) h66.lt)) ?_
           refine w_o rfl (fun F => (q_ixO' Tryz.underlying33 ty113 rfl rfl h66 (Has.here.app F))) (w_en rfl rfl Rdy.nil rfl (n_setT (l := Q56.1) (α := PostH) (oa := x_v0.1) Q56.2.toNat (nth Q56.1 ((Q56.2 - 1).toNat)) (((), ()), ()) ty113 rfl rfl rfl h66.lt (ShpT.wfa _) (.cons Del.here .nil)) ?_)
           rintro _ _ _ ⟨rfl, rfl, rfl⟩
           obtain ⟨h72, H2⟩ := gd.of H2
           refine ⟨(PdOk.anc (by kernel_rfl) (PdOk.anc (by kernel_rfl) (PdOk.q rfl rfl (fun F => (q_ixO' Tryz.underlying33 ty113 rfl rfl h72 (Has.here.app F))) (PdOk.anc (by kernel_rfl) (PdOk.anc (by kernel_rfl) PdOk.nil))))), ?_⟩
           obtain ⟨h73, H2⟩ := gd.of H2
           refine w_o rfl (fun F => (q_ixO' Tryz.underlying33 ty113 rfl rfl h73 (Has.here.app F))) (w_en rfl rfl Rdy.nil rfl (n_setT (l := (Q56.1.set Q56.2.toNat (nth Q56.1 ((Q56.2 - 1).toNat)))) (α := PostH) (oa := x_v0.1) ((Q56.2 - 1).toNat) (nth Q56.1 Q56.2.toNat) (((), ()), ()) ty113 rfl rfl rfl h73.lt (ShpT.wfa _) (.cons Del.here .nil)) ?_)
           rintro _ _ _ ⟨rfl, rfl, rfl⟩
           refine ⟨(PdOk.anc (by kernel_rfl) (PdOk.anc (by kernel_rfl) (PdOk.anc (by kernel_rfl) (PdOk.anc (by kernel_rfl) (PdOk.anc (by kernel_rfl) (PdOk.anc (by kernel_rfl) PdOk.nil)))))), ?_⟩
           refine w_nil ?_
           show At _ _ _ _ _ _
           refine nB (nT (?_))
           refine Tr.olen Has.here fun hn74 => (Tr.region (Rg.m rfl (Rg.p (p_sub rfl rfl h67) (Rg.a rfl (Rg.nl ?_)))))
           exact nLC ⟨(m63, (((Q56.1.set Q56.2.toNat (nth Q56.1 ((Q56.2 - 1).toNat))).set ((Q56.2 - 1).toNat) (nth Q56.1 Q56.2.toNat)), Q56.2 - 1), ()), hi60 _ (Option.some.inj H2).symm⟩ (Nat.lt_succ_self _) ⟨rfl, rfl, rfl, rfl, rfl, rfl, rfl, trivial⟩ Ents.refl (.cons Del.here .nil)
         ·have H2 := cdF h65 H2
          refine tExit (xT (xT (xE (?_))))
          have hx := hb61 _ (Option.some.inj H2).symm; subst hx
          exact nMC () ⟨rfl, rfl, rfl, rfl, rfl, rfl, trivial⟩ Ents.refl (.cons Del.here .nil)
        ·intro y58
         show At _ _ [(0, .slice x_v0.1 v0.length x_v0.2), (1, .int .i64 (v1)), (2, .int .i64 (v2)), (3, .func (.func 129) #[] #[]), (9, .int .i64 (x16)), (10, .int .i64 (Q6.2.2))] _ [tree (.slice x_v0.1 v0.length x_v0.2) x52] _
         replace hx50 := Option.some.inj hx50; subst hx50
         exact nMC () ⟨rfl, rfl, rfl, rfl, rfl, rfl, trivial⟩ Ents.refl (.cons Del.here .nil)
       ·replace hx50 := cdF h48 hx50
        refine tSkip ?_
        replace hx50 := Option.some.inj hx50; subst hx50
        exact nMC () ⟨rfl, rfl, rfl, rfl, rfl, rfl, trivial⟩ Ents.refl (.cons Del.here .nil)
      ·intro y51
       show Tr _ _ _ _ _ [(0, .slice x_v0.1 v0.length x_v0.2), (1, .int .i64 (v1)), (2, .int .i64 (v2)), (3, .func (.func 129) #[] #[]), (9, .int .i64 (x16)), (10, .int .i64 (Q6.2.2))] _ [tree (.slice x_v0.1 v0.length x_v0.2) x49]
       refine Tr.seq (Tr.olen Has.here fun hn75 => (Tr.region (Rg.m rfl (Rg.m rfl ?_))))
       obtain ⟨h76, H1⟩ := gd.of H1
       refine Rg.p (p_sub rfl rfl h76) (Rg.p (p_geq rfl rfl) (Rg.nl (nT (?_))))
       refine Tr.cond (b := decide (2 ≤ (v2 - x16))) rfl (fun h77 => ?_) (fun h77 => ?_)
       ·have H1 := cdT h77 H1
        refine Tr.seq (Tr.region (Rg.m rfl ?_))
        obtain ⟨h78, H1⟩ := gd.of H1
        refine Rg.p (p_add rfl rfl h78) (Rg.a rfl (Rg.nl (nT (?_))))
        obtain ⟨x79, hx80, H1⟩ := bd.of H1
        obtain ⟨n81, hx80⟩ := lp.of hx80
        refine tMidNC (ι := Unit) (fun ψ => [(0, .slice x_v0.1 v0.length x_v0.2), (1, .int .i64 (v1)), (2, .int .i64 (v2)), (3, .func (.func 129) #[] #[]), (9, .int .i64 (x16)), (10, .int .i64 (Q6.2.2))]) (fun ψ => [tree (.slice x_v0.1 v0.length x_v0.2) x79]) ?_ ?_
        ·refine Tr.block (tLoopC (ι := { q : Nat × ((List PostH) × Int) × Unit // itr (p_partialInsertionSortH_b3 v2) q.1 q.2.1 = some x79 }) (fun ζ => [(0, .slice x_v0.1 v0.length x_v0.2), (1, .int .i64 (v1)), (2, .int .i64 (v2)), (3, .func (.func 129) #[] #[]), (9, .int .i64 (x16)), (10, .int .i64 (Q6.2.2)), (12, .int .i64 (ζ.1.2.1.2))]) (fun ζ => [tree (.slice x_v0.1 v0.length x_v0.2) ζ.1.2.1.1]) (fun ζ => ζ.1.1) ⟨(n81, (x49, x16 + 1), ()), hx80⟩ ⟨rfl, rfl, rfl, rfl, rfl, rfl, rfl, trivial⟩ (.cons Del.here .nil) ?_)
         rintro ⟨⟨m82, Q83, z84⟩, hk89⟩
         obtain ⟨m90, t86, e, H2, hi87, hb88⟩ := itr.of (n := m82) (s := Q83) hk89
         subst e; unfold p_partialInsertionSortH_b3 at H2
         show Tr _ _ _ _ _ [(0, .slice x_v0.1 v0.length x_v0.2), (1, .int .i64 (v1)), (2, .int .i64 (v2)), (3, .func (.func 129) #[] #[]), (9, .int .i64 (x16)), (10, .int .i64 (Q6.2.2)), (12, .int .i64 (Q83.2))] _ [tree (.slice x_v0.1 v0.length x_v0.2) Q83.1]
         refine Tr.seq (Tr.seq (Tr.olen Has.here fun hn91 => (Tr.region (Rg.m rfl (Rg.m rfl ?_)))))
         refine Rg.p (p_lss rfl rfl) (Rg.nl (nT (?_)))
         refine Tr.cond (b := decide (Q83.2 < v2)) rfl (fun h92 => ?_) (fun h92 => ?_)
         ·have H2 := cdT h92 H2
          refine tSkip (nT (?_))
          refine Tr.seq (Tr.block (Tr.seq (Tr.seq (tLinS [(0, .slice x_v0.1 v0.length x_v0.2), (1, .int .i64 (v1)), (2, .int .i64 (v2)), (3, .func (.func 129) #[] #[]), (9, .int .i64 (x16)), (10, .int .i64 (Q6.2.2)), (12, .int .i64 (Q83.2))] Tryz.mixed (.inr (by kernel_rfl)) ⟨rfl, rfl, rfl, rfl, rfl, rfl, rfl, trivial⟩ rfl (Lin.m rfl ?_)))))
          refine Lin.m rfl (Lin.m rfl ?_)
          obtain ⟨h93, H2⟩ := gd.of H2
          refine Lin.o (q_ixO' Tryz.underlying33 ty113 rfl rfl h93 Has.here) (Lin.o (v := .agg #[.string (((nth Q83.1 Q83.2.toNat).1).1), .string (((nth Q83.1 Q83.2.toNat).1).2), ((nth Q83.1 Q83.2.toNat).2).1]) (q_ldeA (i := Q83.2.toNat) ty113 rfl (EntB.flat (EntB.tree Has.here)) h93.lt) (Lin.m rfl (Lin.m rfl ?_)))
          obtain ⟨h94, H2⟩ := gd.of H2
          refine Lin.p (p_sub rfl rfl h94) ?_
          obtain ⟨h95, H2⟩ := gd.of H2
          refine Lin.o (q_ixO' Tryz.underlying33 ty113 rfl rfl h95 Has.here) (Lin.o (v := .agg #[.string (((nth Q83.1 ((Q83.2 - 1).toNat)).1).1), .string (((nth Q83.1 ((Q83.2 - 1).toNat)).1).2), ((nth Q83.1 ((Q83.2 - 1).toNat)).2).1]) (q_ldeA (i := (Q83.2 - 1).toNat) ty113 rfl (EntB.flat (EntB.tree Has.here)) h95.lt) ?_)
          obtain ⟨r96, h97, H2⟩ := bd.of H2
          refine Lin.o (v := .int .i64 (r96)) (Ex.dyn (caps := []) (vs := [.agg #[.string (((nth Q83.1 Q83.2.toNat).1).1), .string (((nth Q83.1 Q83.2.toNat).1).2), ((nth Q83.1 Q83.2.toNat).2).1], .agg #[.string (((nth Q83.1 ((Q83.2 - 1).toNat)).1).1), .string (((nth Q83.1 ((Q83.2 - 1).toNat)).1).2), ((nth Q83.1 ((Q83.2 - 1).toNat)).2).1]]) rfl rfl (q_call (c_impl_indexOf_2 (nth Q83.1 Q83.2.toNat) (nth Q83.1 ((Q83.2 - 1).toNat)) h97) rfl EntsB.nil)) (Lin.p (p_lss rfl rfl) (Lin.p (p_not rfl) ?_))
          show At _ _ _ _ _ _
          refine nT (?_)
          refine Tr.cond (b := !(decide (r96 < 0))) rfl (fun h98 => ?_) (fun h98 => ?_)
          ·have H2 := cdT h98 H2
           refine tExit (xT (xB rfl (xT (xT (xE (?_))))))
           have hx := hb88 _ (Option.some.inj H2).symm; subst hx
           exact nMC () ⟨rfl, rfl, rfl, rfl, rfl, rfl, trivial⟩ Ents.refl (.cons Del.here .nil)
          ·have H2 := cdF h98 H2
           refine tSkip (nT (?_))
           refine tNwS [(0, .slice x_v0.1 v0.length x_v0.2), (1, .int .i64 (v1)), (2, .int .i64 (v2)), (3, .func (.func 129) #[] #[]), (9, .int .i64 (x16)), (10, .int .i64 (Q6.2.2)), (12, .int .i64 (Q83.2))] 1 [0, 1, 2, 3, 4, 5, 6, 7, 8, 9, 10, 11, 12, 13, 14, 15, 16, 17] [15, 17] [] Tryz.mixed (by kernel_rfl) (by decide) List.nodup_nil ⟨rfl, rfl, rfl, rfl, rfl, rfl, rfl, trivial⟩ rfl okNil (w_p rfl (p_move rfl) (w_p rfl (p_move rfl) (w_p rfl (p_move rfl) (w_p rfl (p_move rfl) (w_p rfl (p_sub rfl rfl h94) ?_)))))
           refine w_p rfl (p_move rfl) (w_p rfl (p_move rfl) (w_p rfl (p_sub rfl rfl h94) (w_o rfl (fun F => (q_ixO' Tryz.underlying33 ty113 rfl rfl h95 (Has.here.app F))) (w_o (v := .agg #[.string (((nth Q83.1 ((Q83.2 - 1).toNat)).1).1), .string (((nth Q83.1 ((Q83.2 - 1).toNat)).1).2), ((nth Q83.1 ((Q83.2 - 1).toNat)).2).1]) rfl (fun F => (q_ldeA (i := (Q83.2 - 1).toNat) ty113 rfl (EntB.flat (EntB.tree (Has.here.app F))) h95.lt)) (w_p rfl (p_move rfl) ?_)))))
           refine w_p rfl (p_move rfl) ?_
           refine w_o rfl (fun F => (q_ixO' Tryz.underlying33 ty113 rfl rfl h93 (Has.here.app F))) ?_
           refine w_o (v := .agg #[.string (((nth Q83.1 Q83.2.toNat).1).1), .string (((nth Q83.1 Q83.2.toNat).1).2), ((nth Q83.1 Q83.2.toNat).2).1]) rfl (fun F => (q_ldeA (i := Q83.2.toNat) ty113 rfl (EntB.flat (EntB.tree (Has.here.app F))) h93.lt)) ?_
           refine w_o rfl (fun F => (q_ixO' Tryz.underlying33 ty113 rfl rfl h93 (Has.here.app F))) (w_en rfl rfl Rdy.nil rfl (n_setT (l := Q83.1) (α := PostH) (oa := x_v0.1) Q83.2.toNat (nth Q83.1 ((Q83.2 - 1).toNat)) (((), ()), ()) ty113 rfl rfl rfl h93.lt (ShpT.wfa _) (.cons Del.here .nil)) ?_)
           rintro _ _ _ ⟨rfl, rfl, rfl⟩
           obtain ⟨h99, H2⟩ := gd.of H2
           refine ⟨(PdOk.anc (by kernel_rfl) (PdOk.anc (by kernel_rfl) (PdOk.q rfl rfl (fun F => (q_ixO' Tryz.underlying33 ty113 rfl rfl h99 (Has.here.app F))) (PdOk.anc (by kernel_rfl) (PdOk.anc (by kernel_rfl) PdOk.nil))))), ?_⟩
           obtain ⟨h100, H2⟩ := gd.of H2
           refine w_o rfl (fun F => (q_ixO' Tryz.underlying33 ty113 rfl rfl h100 (Has.here.app F))) (w_en rfl rfl Rdy.nil rfl (n_setT (l := (Q83.1.set Q83.2.toNat (nth Q83.1 ((Q83.2 - 1).toNat)))) (α := PostH) (oa := x_v0.1) ((Q83.2 - 1).toNat) (nth Q83.1 Q83.2.toNat) (((), ()), ()) ty113 rfl rfl rfl h100.lt (ShpT.wfa _) (.cons Del.here .nil)) ?_)
           rintro _ _ _ ⟨rfl, rfl, rfl⟩
           refine ⟨(PdOk.anc (by kernel_rfl) (PdOk.anc (by kernel_rfl) (PdOk.anc (by kernel_rfl) (PdOk.anc (by kernel_rfl) (PdOk.anc (by kernel_rfl) (PdOk.anc (by kernel_rfl) PdOk.nil)))))), ?_⟩
           refine w_nil ?_
           show At _ _ _ _ _ _
           refine nB (nT (?_))
           refine Tr.olen Has.here fun hn101 => (Tr.region (Rg.m rfl ?_))
           obtain ⟨h102, H2⟩ := gd.of H2
           refine Rg.p (p_add rfl rfl h102) (Rg.a rfl (Rg.nl ?_))
           exact nLC ⟨(m90, (((Q83.1.set Q83.2.toNat (nth Q83.1 ((Q83.2 - 1).toNat))).set ((Q83.2 - 1).toNat) (nth Q83.1 Q83.2.toNat)), Q83.2 + 1), ()), hi87 _ (Option.some.inj H2).symm⟩ (Nat.lt_succ_self _) ⟨rfl, rfl, rfl, rfl, rfl, rfl, rfl, trivial⟩ Ents.refl (.cons Del.here .nil)
         ·have H2 := cdF h92 H2
          refine tExit (xT (xT (xE (?_))))
          have hx := hb88 _ (Option.some.inj H2).symm; subst hx
          exact nMC () ⟨rfl, rfl, rfl, rfl, rfl, rfl, trivial⟩ Ents.refl (.cons Del.here .nil)
        ·intro y85
         show At _ _ [(0, .slice x_v0.1 v0.length x_v0.2), (1, .int .i64 (v1)), (2, .int .i64 (v2)), (3, .func (.func 129) #[] #[]), (9, .int .i64 (x16)), (10, .int .i64 (Q6.2.2))] _ [tree (.slice x_v0.1 v0.length x_v0.2) x79] _
         refine nB (nT (?_))
         refine Tr.olen Has.here fun hn103 => (Tr.region (Rg.m rfl ?_))
         obtain ⟨h104, H1⟩ := gd.of H1
         refine Rg.p (p_add rfl rfl h104) (Rg.a rfl (Rg.nl ?_))
         exact nLC ⟨(m13, (x79, x16, Q6.2.2 + 1), ()), hi10 _ (Option.some.inj H1).symm⟩ (Nat.lt_succ_self _) ⟨rfl, rfl, rfl, rfl, rfl, rfl, trivial⟩ Ents.refl (.cons Del.here .nil)
       ·have H1 := cdF h77 H1
        refine tSkip (nB (nT (?_)))
        refine Tr.region (Rg.m rfl ?_)
        obtain ⟨h105, H1⟩ := gd.of H1
        refine Rg.p (p_add rfl rfl h105) (Rg.a rfl (Rg.nl ?_))
        exact nLC ⟨(m13, (x49, x16, Q6.2.2 + 1), ()), hi10 _ (Option.some.inj H1).symm⟩ (Nat.lt_succ_self _) ⟨rfl, rfl, rfl, rfl, rfl, rfl, trivial⟩ Ents.refl (.cons Del.here .nil)
  ·have H1 := cdF h15 H1
   refine tExit (xT (xT (xE (?_))))
   exact nMC ⟨(Q6.1, ()), (hb11 _ (Option.some.inj H1).symm).symm⟩ trivial Ents.refl (.cons Del.here .nil)
 ·rintro ⟨⟨e106, y8⟩, hx⟩; subst hx; replace H := sw.l H
  show At _ _ [] _ [tree (.slice x_v0.1 v0.length x_v0.2) e106] _
  refine nT (?_)
  refine Tr.seq (Tr.olen Has.here fun hn107 => (Tr.region (Rg.a (v := .bool (false)) rfl (Rg.nl (nT (?_))))))
  refine tRet ?_
  obtain rfl := si H
  exact bk1 rfl rfl rfl rfl (.cons Del.here .nil)
noncomputable def p_partitionEqualH_b1 (v1 : Int) (Q12 : (List PostH) × Int × Int) (Q25 : Int) : Option ((Int) ⊕ (Int)) := bd (cond (decide (Q25 ≤ Q12.2.2)) (gd (ix v1 Q12.1.length) <| gd (ix Q25 Q12.1.length) <| bd (p_impl_indexOf_2 (nth Q12.1 v1.toNat) (nth Q12.1 Q25.toNat)) fun r38 => some (!(decide (r38 < 0)))) (some (false))) fun b33 => cond (b33) (gd (I64 (Q25 + 1)) <| some (.inl (Q25 + 1))) (some (.inr Q25))
noncomputable def p_partitionEqualH_b2 (v1 : Int) (Q12 : (List PostH) × Int × Int) (x21 : Int) (Q46 : Int) : Option ((Int) ⊕ (Int)) := bd (cond (decide (x21 ≤ Q46)) (gd (ix v1 Q12.1.length) <| gd (ix Q46 Q12.1.length) <| bd (p_impl_indexOf_2 (nth Q12.1 v1.toNat) (nth Q12.1 Q46.toNat)) fun r59 => some (decide (r59 < 0))) (some (false))) fun b54 => cond (b54) (gd (I64 (Q46 - 1)) <| some (.inl (Q46 - 1))) (some (.inr Q46))
noncomputable def p_partitionEqualH_b0 (v1 : Int) (Q12 : (List PostH) × Int × Int) : Option (((List PostH) × Int × Int) ⊕ (Int × (List PostH))) := bd (lp (p_partitionEqualH_b1 v1 Q12) Q12.2.1) fun x21 => bd (lp (p_partitionEqualH_b2 v1 Q12 x21) Q12.2.2) fun x42 => cond (decide (x42 < x21)) (some (.inr (x21, Q12.1))) (gd (ix x42 Q12.1.length) <| gd (ix x21 Q12.1.length) <| gd (ix x21 (Q12.1.set x21.toNat (nth Q12.1 x42.toNat)).length) <| gd (ix x42 (Q12.1.set x21.toNat (nth Q12.1 x42.toNat)).length) <| gd (I64 (x21 + 1)) <| gd (I64 (x42 - 1)) <| some (.inl (((Q12.1.set x21.toNat (nth Q12.1 x42.toNat)).set x42.toNat (nth Q12.1 x21.toNat)), x21 + 1, x42 - 1)))
noncomputable def p_partitionEqualH (v0 : (List PostH)) (v1 : Int) (v2 : Int) (v3 : Int) : Option (Int × (List PostH)) := gd (ix v3 v0.length) <| gd (ix v1 v0.length) <| gd (ix v1 (v0.set v1.toNat (nth v0 v3.toNat)).length) <| gd (ix v3 (v0.set v1.toNat (nth v0 v3.toNat)).length) <| gd (I64 (v1 + 1)) <| gd (I64 (v2 - 1)) <| bd (lp (p_partitionEqualH_b0 v1) (((v0.set v1.toNat (nth v0 v3.toNat)).set v3.toNat (nth v0 v1.toNat)), v1 + 1, v2 - 1)) fun x8 => some (x8.1, x8.2)
theorem c_partitionEqualH {r : Int × (List PostH)} (v0 : (List PostH)) (x_v0 : Option Addr × Nat) (n_v0 : Nat) (e_v0 : n_v0 = v0.length) (v1 : Int) (v2 : Int) (v3 : Int) (H : p_partitionEqualH v0 v1 v2 v3 = some r) : Fn' Tryz.prog 158 #[.slice x_v0.1 n_v0 x_v0.2, .int .i64 (v1), .int .i64 (v2), .int .i64 (v3), .func (.func 129) #[] #[]] [] [tree (.slice x_v0.1 n_v0 x_v0.2) v0] (ι := Unit) (fun _ => .int .i64 (r.1)) (fun _ => []) (fun _ => [tree (.slice x_v0.1 n_v0 x_v0.2) r.2]) := by
 subst e_v0
 refine calls_of (args := [_, _, _, _, _]) Tryz.func158 rfl (by kernel_rfl) Tryz.ntmps158 (by simp) fun c => ?_
 unfold p_partitionEqualH at H
 refine Tr.seq (Tr.region (Rg.a (v := .int .i64 (0)) rfl (Rg.nl (nT (?_)))))
 refine Tr.seq (tNwS [(0, .slice x_v0.1 v0.length x_v0.2), (1, .int .i64 (v1)), (2, .int .i64 (v2)), (3, .int .i64 (v3)), (4, .func (.func 129) #[] #[])] 1 [0, 1, 2, 3, 4, 5, 6, 7, 8, 9, 10, 11, 12, 13, 14, 15] [13, 15] [] Tryz.mixed (by kernel_rfl) (by decide) List.nodup_nil ⟨rfl, rfl, rfl, rfl, rfl, trivial⟩ rfl okNil (w_p rfl (p_move rfl) (w_p rfl (p_move rfl) (w_p rfl (p_move rfl) (w_p rfl (p_move rfl) ?_)))))
 refine w_p rfl (p_move rfl) (w_p rfl (p_move rfl) ?_)
 obtain ⟨h1, H⟩ := gd.of H
 refine w_o rfl (fun F => (q_ixO' Tryz.underlying33 ty113 rfl rfl h1 (Has.here.app F))) ?_
 refine w_o (v := .agg #[.string (((nth v0 v3.toNat).1).1), .string (((nth v0 v3.toNat).1).2), ((nth v0 v3.toNat).2).1]) rfl (fun F => (q_ldeA (i := v3.toNat) ty113 rfl (EntB.flat (EntB.tree (Has.here.app F))) h1.lt)) (w_p rfl (p_move rfl) (w_p rfl (p_move rfl) ?_))
 obtain ⟨h2, H⟩ := gd.of H
 refine w_o rfl (fun F => (q_ixO' Tryz.underlying33 ty113 rfl rfl h2 (Has.here.app F))) ?_
 refine w_o (v := .agg #[.string (((nth v0 v1.toNat).1).1), .string (((nth v0 v1.toNat).1).2), ((nth v0 v1.toNat).2).1]) rfl (fun F => (q_ldeA (i := v1.toNat) ty113 rfl (EntB.flat (EntB.tree (Has.here.app F))) h2.lt)) ?_
 refine w_o rfl (fun F => (q_ixO' Tryz.underlying33 ty113 rfl rfl h2 (Has.here.app F))) (w_en rfl rfl Rdy.nil rfl (n_setT (l := v0) (α := PostH) (oa := x_v0.1) v1.toNat (nth v0 v3.toNat) (((), ()), ()) ty113 rfl rfl rfl h2.lt (ShpT.wfa _) (.cons Del.here .nil)) ?_)
 rintro _ _ _ ⟨rfl, rfl, rfl⟩
 obtain ⟨h3, H⟩ := gd.of H
 refine ⟨(PdOk.anc (by kernel_rfl) (PdOk.anc (by kernel_rfl) (PdOk.q rfl rfl (fun F => (q_ixO' Tryz.underlying33 ty113 rfl rfl h3 (Has.here.app F))) (PdOk.anc (by kernel_rfl) (PdOk.anc (by kernel_rfl) PdOk.nil))))), ?_⟩
 obtain ⟨h4, H⟩ := gd.of H
 refine w_o rfl (fun F => (q_ixO' Tryz.underlying33 ty113 rfl rfl h4 (Has.here.app F))) (w_en rfl rfl Rdy.nil rfl (n_setT (l := (v0.set v1.toNat (nth v0 v3.toNat))) (α := PostH) (oa := x_v0.1) v3.toNat (nth v0 v1.toNat) (((), ()), ()) ty113 rfl rfl rfl h4.lt (ShpT.wfa _) (.cons Del.here .nil)) ?_)
 rintro _ _ _ ⟨rfl, rfl, rfl⟩
 refine ⟨(PdOk.anc (by kernel_rfl) (PdOk.anc (by kernel_rfl) (PdOk.anc (by kernel_rfl) (PdOk.anc (by kernel_rfl) (PdOk.anc (by kernel_rfl) (PdOk.anc (by kernel_rfl) PdOk.nil)))))), ?_⟩
 refine w_nil ?_
 show At _ _ _ _ _ _
 refine nT (?_)
 refine Tr.seq (Tr.olen Has.here fun hn5 => (Tr.region (Rg.m rfl ?_)))
 obtain ⟨h6, H⟩ := gd.of H
 refine Rg.p (p_add rfl rfl h6) (Rg.m rfl ?_)
 obtain ⟨h7, H⟩ := gd.of H
 refine Rg.p (p_sub rfl rfl h7) (Rg.a rfl (Rg.a rfl (Rg.nl (nT (?_)))))
 obtain ⟨x8, hx9, H⟩ := bd.of H
 obtain ⟨n10, hx9⟩ := lp.of hx9
 refine tMidC (ι := Unit) (fun ψ => [(11, .int .i64 (x8.1))]) (fun ψ => [tree (.slice x_v0.1 v0.length x_v0.2) x8.2]) ?_ ?_
 ·refine Tr.block (tLoopC (ι := { q : Nat × ((List PostH) × Int × Int) × Unit // itr (p_partitionEqualH_b0 v1) q.1 q.2.1 = some x8 }) (fun ζ => [(0, .slice x_v0.1 v0.length x_v0.2), (1, .int .i64 (v1)), (4, .func (.func 129) #[] #[]), (11, .int .i64 (ζ.1.2.1.2.1)), (12, .int .i64 (ζ.1.2.1.2.2))]) (fun ζ => [tree (.slice x_v0.1 v0.length x_v0.2) ζ.1.2.1.1]) (fun ζ => ζ.1.1) ⟨(n10, (((v0.set v1.toNat (nth v0 v3.toNat)).set v3.toNat (nth v0 v1.toNat)), v1 + 1, v2 - 1), ()), hx9⟩ ⟨rfl, rfl, rfl, rfl, rfl, trivial⟩ (.cons Del.here .nil) ?_)
  rintro ⟨⟨m11, Q12, z13⟩, hk18⟩
  obtain ⟨m19, t15, e, H1, hi16, hb17⟩ := itr.of (n := m11) (s := Q12) hk18
  subst e; unfold p_partitionEqualH_b0 at H1
  show Tr _ _ _ _ _ [(0, .slice x_v0.1 v0.length x_v0.2), (1, .int .i64 (v1)), (4, .func (.func 129) #[] #[]), (11, .int .i64 (Q12.2.1)), (12, .int .i64 (Q12.2.2))] _ [tree (.slice x_v0.1 v0.length x_v0.2) Q12.1]
  refine Tr.block (Tr.olen Has.here fun hn20 => ?_)
  obtain ⟨x21, hx22, H1⟩ := bd.of H1
  obtain ⟨n23, hx22⟩ := lp.of hx22
  refine tMidC (ι := Unit) (fun ψ => [(0, .slice x_v0.1 v0.length x_v0.2), (1, .int .i64 (v1)), (4, .func (.func 129) #[] #[]), (11, .int .i64 (x21)), (12, .int .i64 (Q12.2.2))]) (fun ψ => [tree (.slice x_v0.1 v0.length x_v0.2) Q12.1]) ?_ ?_
  ·refine Tr.block (tLoopC (ι := { q : Nat × (Int) × Unit // itr (p_partitionEqualH_b1 v1 Q12) q.1 q.2.1 = some x21 }) (fun ζ => [(0, .slice x_v0.1 v0.length x_v0.2), (1, .int .i64 (v1)), (4, .func (.func 129) #[] #[]), (11, .int .i64 (ζ.1.2.1)), (12, .int .i64 (Q12.2.2))]) (fun ζ => [tree (.slice x_v0.1 v0.length x_v0.2) Q12.1]) (fun ζ => ζ.1.1) ⟨(n23, Q12.2.1, ()), hx22⟩ ⟨rfl, rfl, rfl, rfl, rfl, trivial⟩ (.cons Del.here .nil) ?_)
   rintro ⟨⟨m24, Q25, z26⟩, hk31⟩
   obtain ⟨m32, t28, e, H2, hi29, hb30⟩ := itr.of (n := m24) (s := Q25) hk31
   subst e; unfold p_partitionEqualH_b1 at H2
   show Tr _ _ _ _ _ [(0, .slice x_v0.1 v0.length x_v0.2), (1, .int .i64 (v1)), (4, .func (.func 129) #[] #[]), (11, .int .i64 (Q25)), (12, .int .i64 (Q12.2.2))] _ [tree (.slice x_v0.1 v0.length x_v0.2) Q12.1]
   refine Tr.seq ?_
   obtain ⟨b33, j34, H2⟩ := bd.of H2
   refine tMid1 [(47, .bool (b33)), (0, .slice x_v0.1 v0.length x_v0.2), (1, .int .i64 (v1)), (4, .func (.func 129) #[] #[]), (11, .int .i64 (Q25)), (12, .int .i64 (Q12.2.2))] ?_ ?_
   ·refine tLinS [(0, .slice x_v0.1 v0.length x_v0.2), (1, .int .i64 (v1)), (4, .func (.func 129) #[] #[]), (11, .int .i64 (Q25)), (12, .int .i64 (Q12.2.2))] Tryz.mixed (.inr (by kernel_rfl)) ⟨rfl, rfl, rfl, rfl, rfl, trivial⟩ rfl (Lin.m rfl (Lin.m rfl (Lin.p (p_leq rfl rfl) ?_)))
    rcases Bool.eq_false_or_eq_true (decide (Q25 ≤ Q12.2.2)) with h35 | h35
    ·have j34 := cdT h35 j34
     refine Lin.e_ (p_move rfl) h35 (Lin.h rfl (p_move rfl) (Lin.h rfl (p_move rfl) (Lin.h rfl (p_move rfl) ?_)))
     obtain ⟨h36, j34⟩ := gd.of j34
     refine Lin.i rfl (q_ixO' Tryz.underlying33 ty113 rfl rfl h36 Has.here) (Lin.i (v := .agg #[.string (((nth Q12.1 v1.toNat).1).1), .string (((nth Q12.1 v1.toNat).1).2), ((nth Q12.1 v1.toNat).2).1]) rfl (q_ldeA (i := v1.toNat) ty113 rfl (EntB.flat (EntB.tree Has.here)) h36.lt) (Lin.h rfl (p_move rfl) (Lin.h rfl (p_move rfl) ?_)))
     obtain ⟨h37, j34⟩ := gd.of j34
     refine Lin.i rfl (q_ixO' Tryz.underlying33 ty113 rfl rfl h37 Has.here) (Lin.i (v := .agg #[.string (((nth Q12.1 Q25.toNat).1).1), .string (((nth Q12.1 Q25.toNat).1).2), ((nth Q12.1 Q25.toNat).2).1]) rfl (q_ldeA (i := Q25.toNat) ty113 rfl (EntB.flat (EntB.tree Has.here)) h37.lt) ?_)
     obtain ⟨r38, h39, j34⟩ := bd.of j34
     refine Lin.i (v := .int .i64 (r38)) rfl (Ex.dyn (caps := []) (vs := [.agg #[.string (((nth Q12.1 v1.toNat).1).1), .string (((nth Q12.1 v1.toNat).1).2), ((nth Q12.1 v1.toNat).2).1], .agg #[.string (((nth Q12.1 Q25.toNat).1).1), .string (((nth Q12.1 Q25.toNat).1).2), ((nth Q12.1 Q25.toNat).2).1]]) rfl rfl (q_call (c_impl_indexOf_2 (nth Q12.1 v1.toNat) (nth Q12.1 Q25.toNat) h39) rfl EntsB.nil)) (Lin.h rfl (p_lss rfl rfl) (Lin.h rfl (p_not rfl) (Lin.p (p_pickT rfl rfl) ?_)))
     obtain rfl := si j34
     show At _ _ _ _ _ _
     exact n1 ⟨rfl, rfl, rfl, rfl, rfl, rfl, trivial⟩
    ·have j34 := cdF h35 j34
     refine Lin.e_ (p_move rfl) h35 ?_
     iterate 12 refine Lin.sk rfl ?_
     refine Lin.p (v := .bool (false)) (p_pickF rfl rfl) ?_
     obtain rfl := si j34
     show At _ _ _ _ _ _
     exact n1 ⟨rfl, rfl, rfl, rfl, rfl, rfl, trivial⟩
   refine Tr.cond (b := b33) rfl (fun h40 => ?_) (fun h40 => ?_)
   ·have H2 := cdT h40 H2
    refine tSkip (nT (?_))
    refine Tr.block (Tr.region (Rg.m rfl ?_))
    obtain ⟨h41, H2⟩ := gd.of H2
    refine Rg.p (p_add rfl rfl h41) (Rg.a rfl (Rg.nl ?_))
    exact nB (nLC ⟨(m32, Q25 + 1, ()), hi29 _ (Option.some.inj H2).symm⟩ (Nat.lt_succ_self _) ⟨rfl, rfl, rfl, rfl, rfl, trivial⟩ Ents.refl (.cons Del.here .nil))
   ·have H2 := cdF h40 H2
    refine tExit (xT (xT (xE (?_))))
    have hx := hb30 _ (Option.some.inj H2).symm; subst hx
    exact nMC () ⟨rfl, rfl, rfl, rfl, rfl, trivial⟩ Ents.refl (.cons Del.here .nil)
  ·intro y27
   show Tr _ _ _ _ _ [(0, .slice x_v0.1 v0.length x_v0.2), (1, .int .i64 (v1)), (4, .func (.func 129) #[] #[]), (11, .int .i64 (x21)), (12, .int .i64 (Q12.2.2))] _ [tree (.slice x_v0.1 v0.length x_v0.2) Q12.1]
   obtain ⟨x42, hx43, H1⟩ := bd.of H1
   obtain ⟨n44, hx43⟩ := lp.of hx43
   refine tMidC (ι := Unit) (fun ψ => [(0, .slice x_v0.1 v0.length x_v0.2), (1, .int .i64 (v1)), (4, .func (.func 129) #[] #[]), (11, .int .i64 (x21)), (12, .int .i64 (x42))]) (fun ψ => [tree (.slice x_v0.1 v0.length x_v0.2) Q12.1]) ?_ ?_
   ·refine Tr.block (tLoopC (ι := { q : Nat × (Int) × Unit // itr (p_partitionEqualH_b2 v1 Q12 x21) q.1 q.2.1 = some x42 }) (fun ζ => [(0, .slice x_v0.1 v0.length x_v0.2), (1, .int .i64 (v1)), (4, .func (.func 129) #[] #[]), (11, .int .i64 (x21)), (12, .int .i64 (ζ.1.2.1))]) (fun ζ => [tree (.slice x_v0.1 v0.length x_v0.2) Q12.1]) (fun ζ => ζ.1.1) ⟨(n44, Q12.2.2, ()), hx43⟩ ⟨rfl, rfl, rfl, rfl, rfl, trivial⟩ (.cons Del.here .nil) ?_)
    rintro ⟨⟨m45, Q46, z47⟩, hk52⟩
    obtain ⟨m53, t49, e, H2, hi50, hb51⟩ := itr.of (n := m45) (s := Q46) hk52
    subst e; unfold p_partitionEqualH_b2 at H2
    show Tr _ _ _ _ _ [(0, .slice x_v0.1 v0.length x_v0.2), (1, .int .i64 (v1)), (4, .func (.func 129) #[] #[]), (11, .int .i64 (x21)), (12, .int .i64 (Q46))] _ [tree (.slice x_v0.1 v0.length x_v0.2) Q12.1]
    refine Tr.seq ?_
    obtain ⟨b54, j55, H2⟩ := bd.of H2
    refine tMid1 [(65, .bool (b54)), (0, .slice x_v0.1 v0.length x_v0.2), (1, .int .i64 (v1)), (4, .func (.func 129) #[] #[]), (11, .int .i64 (x21)), (12, .int .i64 (Q46))] ?_ ?_
    ·refine tLinS [(0, .slice x_v0.1 v0.length x_v0.2), (1, .int .i64 (v1)), (4, .func (.func 129) #[] #[]), (11, .int .i64 (x21)), (12, .int .i64 (Q46))] Tryz.mixed (.inr (by kernel_rfl)) ⟨rfl, rfl, rfl, rfl, rfl, trivial⟩ rfl (Lin.m rfl (Lin.m rfl (Lin.p (p_leq rfl rfl) ?_)))
     rcases Bool.eq_false_or_eq_true (decide (x21 ≤ Q46)) with h56 | h56
     ·have j55 := cdT h56 j55
      refine Lin.e_ (p_move rfl) h56 (Lin.h rfl (p_move rfl) (Lin.h rfl (p_move rfl) (Lin.h rfl (p_move rfl) ?_)))
      obtain ⟨h57, j55⟩ := gd.of j55
      refine Lin.i rfl (q_ixO' Tryz.underlying33 ty113 rfl rfl h57 Has.here) (Lin.i (v := .agg #[.string (((nth Q12.1 v1.toNat).1).1), .string (((nth Q12.1 v1.toNat).1).2), ((nth Q12.1 v1.toNat).2).1]) rfl (q_ldeA (i := v1.toNat) ty113 rfl (EntB.flat (EntB.tree Has.here)) h57.lt) (Lin.h rfl (p_move rfl) (Lin.h rfl (p_move rfl) ?_)))
      obtain ⟨h58, j55⟩ := gd.of j55
      refine Lin.i rfl (q_ixO' Tryz.underlying33 ty113 rfl rfl h58 Has.here) (Lin.i (v := .agg #[.string (((nth Q12.1 Q46.toNat).1).1), .string (((nth Q12.1 Q46.toNat).1).2), ((nth Q12.1 Q46.toNat).2).1]) rfl (q_ldeA (i := Q46.toNat) ty113 rfl (EntB.flat (EntB.tree Has.here)) h58.lt) ?_)
      obtain ⟨r59, h60, j55⟩ := bd.of j55
      refine Lin.i (v := .int .i64 (r59)) rfl (Ex.dyn (caps := []) (vs := [.agg #[.string (((nth Q12.1 v1.toNat).1).1), .string (((nth Q12.1 v1.toNat).1).2), ((nth Q12.1 v1.toNat).2).1], .agg #[.string (((nth Q12.1 Q46.toNat).1).1), .string (((nth Q12.1 Q46.toNat).1).2), ((nth Q12.1 Q46.toNat).2).1]]) rfl rfl (q_call (c_impl_indexOf_2 (nth Q12.1 v1.toNat) (nth Q12.1 Q46.toNat) h60) rfl EntsB.nil)) (Lin.h rfl (p_lss rfl rfl) (Lin.p (p_pickT rfl rfl) ?_))
      obtain rfl := si j55
      show At _ _ _ _ _ _
      exact n1 ⟨rfl, rfl, rfl, rfl, rfl, rfl, trivial⟩
     ·have j55 := cdF h56 j55
      refine Lin.e_ (p_move rfl) h56 ?_
      iterate 11 refine Lin.sk rfl ?_
      refine Lin.p (v := .bool (false)) (p_pickF rfl rfl) ?_
      obtain rfl := si j55
      show At _ _ _ _ _ _
      exact n1 ⟨rfl, rfl, rfl, rfl, rfl, rfl, trivial⟩
    refine Tr.cond (b := b54) rfl (fun h61 => ?_) (fun h61 => ?_)
    ·have H2 := cdT h61 H2
     refine tSkip (nT (?_))
     refine Tr.block (Tr.region (Rg.m rfl ?_))
     obtain ⟨h62, H2⟩ := gd.of H2
     refine Rg.p (p_sub rfl rfl h62) (Rg.a rfl (Rg.nl ?_))
     exact nB (nLC ⟨(m53, Q46 - 1, ()), hi50 _ (Option.some.inj H2).symm⟩ (Nat.lt_succ_self _) ⟨rfl, rfl, rfl, rfl, rfl, trivial⟩ Ents.refl (.cons Del.here .nil))
    ·have H2 := cdF h61 H2
     refine tExit (xT (xT (xE (?_))))
     have hx := hb51 _ (Option.some.inj H2).symm; subst hx
     exact nMC () ⟨rfl, rfl, rfl, rfl, rfl, trivial⟩ Ents.refl (.cons Del.here .nil)
   ·intro y48
    show Tr _ _ _ _ _ [(0, .slice x_v0.1 v0.length x_v0.2), (1, .int .i64 (v1)), (4, .func (.func 129) #[] #[]), (11, .int .i64 (x21)), (12, .int .i64 (x42))] _ [tree (.slice x_v0.1 v0.length x_v0.2) Q12.1]
    refine Tr.seq (Tr.seq (Tr.region (Rg.m rfl (Rg.m rfl (Rg.p (p_gtr rfl rfl) ?_)))))
    refine Rg.nl (nT (?_))
    refine Tr.cond (b := decide (x42 < x21)) rfl (fun h63 => ?_) (fun h63 => ?_)
    ·have H1 := cdT h63 H1
     refine tExit (xT (xB rfl (xT (xE (?_)))))
     have hx := hb17 _ (Option.some.inj H1).symm; subst hx
     exact nMC () ⟨rfl, trivial⟩ Ents.refl (.cons Del.here .nil)
    ·have H1 := cdF h63 H1
     refine tSkip (nT (?_))
     refine Tr.seq (tNwS [(0, .slice x_v0.1 v0.length x_v0.2), (1, .int .i64 (v1)), (4, .func (.func 129) #[] #[]), (11, .int .i64 (x21)), (12, .int .i64 (x42))] 1 [0, 1, 2, 3, 4, 5, 6, 7, 8, 9, 10, 11, 12, 13, 14, 15] [13, 15] [] Tryz.mixed (by kernel_rfl) (by decide) List.nodup_nil ⟨rfl, rfl, rfl, rfl, rfl, trivial⟩ rfl okNil (w_p rfl (p_move rfl) (w_p rfl (p_move rfl) (w_p rfl (p_move rfl) (w_p rfl (p_move rfl) ?_)))))
     refine w_p rfl (p_move rfl) (w_p rfl (p_move rfl) ?_)
     obtain ⟨h64, H1⟩ := gd.of H1
     refine w_o rfl (fun F => (q_ixO' Tryz.underlying33 ty113 rfl rfl h64 (Has.here.app F))) ?_
     refine w_o (v := .agg #[.string (((nth Q12.1 x42.toNat).1).1), .string (((nth Q12.1 x42.toNat).1).2), ((nth Q12.1 x42.toNat).2).1]) rfl (fun F => (q_ldeA (i := x42.toNat) ty113 rfl (EntB.flat (EntB.tree (Has.here.app F))) h64.lt)) (w_p rfl (p_move rfl) (w_p rfl (p_move rfl) ?_))
     obtain ⟨h65, H1⟩ := gd.of H1
     refine w_o rfl (fun F => (q_ixO' Tryz.underlying33 ty113 rfl rfl h65 (Has.here.app F))) ?_
     refine w_o (v := .agg #[.string (((nth Q12.1 x21.toNat).1).1), .string (((nth Q12.1 x21.toNat).1).2), ((nth Q12.1 x21.toNat).2).1]) rfl (fun F => (q_ldeA (i := x21.toNat) ty113 rfl (EntB.flat (EntB.tree (Has.here.app F))) h65.lt)) ?_
     refine w_o rfl (fun F => (q_ixO' Tryz.underlying33 ty113 rfl rfl h65 (Has.here.app F))) (w_en rfl rfl Rdy.nil rfl (n_setT (l := Q12.1) (α := PostH) (oa := x_v0.1) x21.toNat (nth Q12.1 x42.toNat) (((), ()), ()) ty113 rfl rfl rfl h65.lt (ShpT.wfa _) (.cons Del.here .nil)) ?_)
     rintro _ _ _ ⟨rfl, rfl, rfl⟩
     obtain ⟨h66, H1⟩ := gd.of H1
     refine ⟨(PdOk.anc (by kernel_rfl) (PdOk.anc (by kernel_rfl) (PdOk.q rfl rfl (fun F => (q_ixO' Tryz.underlying33 ty113 rfl rfl h66 (Has.here.app F))) (PdOk.anc (by kernel_rfl) (PdOk.anc (by kernel_rfl) PdOk.nil))))), ?_⟩
     obtain ⟨h67, H1⟩ := gd.of H1
     refine w_o rfl (fun F => (q_ixO' Tryz.underlying33 ty113 rfl rfl h67 (Has.here.app F))) (w_en rfl rfl Rdy.nil rfl (n_setT (l := (Q12.1.set x21.toNat (nth Q12.1 x42.toNat))) (α := PostH) (oa := x_v0.1) x42.toNat (nth Q12.1 x21.toNat) (((), ()), ()) ty113 rfl rfl rfl h67.lt (ShpT.wfa _) (.cons Del.here .nil)) ?_)
     rintro _ _ _ ⟨rfl, rfl, rfl⟩
     refine ⟨(PdOk.anc (by kernel_rfl) (PdOk.anc (by kernel_rfl) (PdOk.anc (by kernel_rfl) (PdOk.anc (by kernel_rfl) (PdOk.anc (by kernel_rfl) (PdOk.anc (by kernel_rfl) PdOk.nil)))))), ?_⟩
     refine w_nil ?_
     show At _ _ _ _ _ _
     refine nT (?_)
     refine Tr.seq (Tr.olen Has.here fun hn68 => (Tr.region (Rg.m rfl ?_)))
     obtain ⟨h69, H1⟩ := gd.of H1
     refine Rg.p (p_add rfl rfl h69) (Rg.a rfl (Rg.nl (nT (?_))))
     refine Tr.region (Rg.m rfl ?_)
     obtain ⟨h70, H1⟩ := gd.of H1
     refine Rg.p (p_sub rfl rfl h70) (Rg.a rfl (Rg.nl ?_))
     exact nB (nLC ⟨(m19, (((Q12.1.set x21.toNat (nth Q12.1 x42.toNat)).set x42.toNat (nth Q12.1 x21.toNat)), x21 + 1, x42 - 1), ()), hi16 _ (Option.some.inj H1).symm⟩ (Nat.lt_succ_self _) ⟨rfl, rfl, rfl, rfl, rfl, trivial⟩ Ents.refl (.cons Del.here .nil))
 ·intro y14
  show Tr _ _ _ _ _ [(11, .int .i64 (x8.1))] _ [tree (.slice x_v0.1 v0.length x_v0.2) x8.2]
  refine Tr.seq (Tr.olen Has.here fun hn71 => (Tr.region (Rg.m rfl (Rg.a rfl (Rg.nl ?_)))))
  refine nT (?_)
  refine tRet ?_
  obtain rfl := si H
  exact bk1 rfl rfl rfl rfl (.cons Del.here .nil)
noncomputable def p_partitionH_b0 (v0 : (List PostH)) (v1 : Int) (v2 : Int) (v3 : Int) (Q12 : Int) : Option ((Int) ⊕ (Int)) := bd (cond (decide (Q12 ≤ (v2 - 1))) (gd (ix Q12 ((v0.set v1.toNat (nth v0 v3.toNat)).set v3.toNat (nth v0 v1.toNat)).length) <| gd (ix v1 ((v0.set v1.toNat (nth v0 v3.toNat)).set v3.toNat (nth v0 v1.toNat)).length) <| bd (p_impl_indexOf_2 (nth ((v0.set v1.toNat (nth v0 v3.toNat)).set v3.toNat (nth v0 v1.toNat)) Q12.toNat) (nth ((v0.set v1.toNat (nth v0 v3.toNat)).set v3.toNat (nth v0 v1.toNat)) v1.toNat)) fun r25 => some (decide (r25 < 0))) (some (false))) fun b20 => cond (b20) (gd (I64 (Q12 + 1)) <| some (.inl (Q12 + 1))) (some (.inr Q12))
noncomputable def p_partitionH_b1 (v0 : (List PostH)) (v1 : Int) (v3 : Int) (x8 : Int) (Q33 : Int) : Option ((Int) ⊕ (Int)) := bd (cond (decide (x8 ≤ Q33)) (gd (ix Q33 ((v0.set v1.toNat (nth v0 v3.toNat)).set v3.toNat (nth v0 v1.toNat)).length) <| gd (ix v1 ((v0.set v1.toNat (nth v0 v3.toNat)).set v3.toNat (nth v0 v1.toNat)).length) <| bd (p_impl_indexOf_2 (nth ((v0.set v1.toNat (nth v0 v3.toNat)).set v3.toNat (nth v0 v1.toNat)) Q33.toNat) (nth ((v0.set v1.toNat (nth v0 v3.toNat)).set v3.toNat (nth v0 v1.toNat)) v1.toNat)) fun r46 => some (!(decide (r46 < 0)))) (some (false))) fun b41 => cond (b41) (gd (I64 (Q33 - 1)) <| some (.inl (Q33 - 1))) (some (.inr Q33))
noncomputable def p_partitionH_b3 (v1 : Int) (Q67 : (List PostH) × Int × Int) (Q80 : Int) : Option ((Int) ⊕ (Int)) := bd (cond (decide (Q80 ≤ Q67.2.2)) (gd (ix Q80 Q67.1.length) <| gd (ix v1 Q67.1.length) <| bd (p_impl_indexOf_2 (nth Q67.1 Q80.toNat) (nth Q67.1 v1.toNat)) fun r93 => some (decide (r93 < 0))) (some (false))) fun b88 => cond (b88) (gd (I64 (Q80 + 1)) <| some (.inl (Q80 + 1))) (some (.inr Q80))
noncomputable def p_partitionH_b4 (v1 : Int) (Q67 : (List PostH) × Int × Int) (x76 : Int) (Q101 : Int) : Option ((Int) ⊕ (Int)) := bd (cond (decide (x76 ≤ Q101)) (gd (ix Q101 Q67.1.length) <| gd (ix v1 Q67.1.length) <| bd (p_impl_indexOf_2 (nth Q67.1 Q101.toNat) (nth Q67.1 v1.toNat)) fun r114 => some (!(decide (r114 < 0)))) (some (false))) fun b109 => cond (b109) (gd (I64 (Q101 - 1)) <| some (.inl (Q101 - 1))) (some (.inr Q101))
noncomputable def p_partitionH_b2 (v1 : Int) (Q67 : (List PostH) × Int × Int) : Option (((List PostH) × Int × Int) ⊕ ((List PostH) × Int)) := bd (lp (p_partitionH_b3 v1 Q67) Q67.2.1) fun x76 => bd (lp (p_partitionH_b4 v1 Q67 x76) Q67.2.2) fun x97 => cond (decide (x97 < x76)) (some (.inr (Q67.1, x97))) (gd (ix x97 Q67.1.length) <| gd (ix x76 Q67.1.length) <| gd (ix x76 (Q67.1.set x76.toNat (nth Q67.1 x97.toNat)).length) <| gd (ix x97 (Q67.1.set x76.toNat (nth Q67.1 x97.toNat)).length) <| gd (I64 (x76 + 1)) <| gd (I64 (x97 - 1)) <| some (.inl (((Q67.1.set x76.toNat (nth Q67.1 x97.toNat)).set x97.toNat (nth Q67.1 x76.toNat)), x76 + 1, x97 - 1)))
noncomputable def p_partitionH (v0 : (List PostH)) (v1 : Int) (v2 : Int) (v3 : Int) : Option (Int × Bool × (List PostH)) := gd (ix v3 v0.length) <| gd (ix v1 v0.length) <| gd (ix v1 (v0.set v1.toNat (nth v0 v3.toNat)).length) <| gd (ix v3 (v0.set v1.toNat (nth v0 v3.toNat)).length) <| gd (I64 (v1 + 1)) <| gd (I64 (v2 - 1)) <| bd (lp (p_partitionH_b0 v0 v1 v2 v3) (v1 + 1)) fun x8 => bd (lp (p_partitionH_b1 v0 v1 v3 x8) (v2 - 1)) fun x29 => cond (decide (x29 < x8)) (gd (ix v1 ((v0.set v1.toNat (nth v0 v3.toNat)).set v3.toNat (nth v0 v1.toNat)).length) <| gd (ix x29 ((v0.set v1.toNat (nth v0 v3.toNat)).set v3.toNat (nth v0 v1.toNat)).length) <| gd (ix x29 (((v0.set v1.toNat (nth v0 v3.toNat)).set v3.toNat (nth v0 v1.toNat)).set x29.toNat (nth ((v0.set v1.toNat (nth v0 v3.toNat)).set v3.toNat (nth v0 v1.toNat)) v1.toNat)).length) <| gd (ix v1 (((v0.set v1.toNat (nth v0 v3.toNat)).set v3.toNat (nth v0 v1.toNat)).set x29.toNat (nth ((v0.set v1.toNat (nth v0 v3.toNat)).set v3.toNat (nth v0 v1.toNat)) v1.toNat)).length) <| some (x29, true, (((v0.set v1.toNat (nth v0 v3.toNat)).set v3.toNat (nth v0 v1.toNat)).set x29.toNat (nth ((v0.set v1.toNat (nth v0 v3.toNat)).set v3.toNat (nth v0 v1.toNat)) v1.toNat)).set v1.toNat (nth ((v0.set v1.toNat (nth v0 v3.toNat)).set v3.toNat (nth v0 v1.toNat)) x29.toNat))) (gd (ix x29 ((v0.set v1.toNat (nth v0 v3.toNat)).set v3.toNat (nth v0 v1.toNat)).length) <| gd (ix x8 ((v0.set v1.toNat (nth v0 v3.toNat)).set v3.toNat (nth v0 v1.toNat)).length) <| gd (ix x8 (((v0.set v1.toNat (nth v0 v3.toNat)).set v3.toNat (nth v0 v1.toNat)).set x8.toNat (nth ((v0.set v1.toNat (nth v0 v3.toNat)).set v3.toNat (nth v0 v1.toNat)) x29.toNat)).length) <| gd (ix x29 (((v0.set v1.toNat (nth v0 v3.toNat)).set v3.toNat (nth v0 v1.toNat)).set x8.toNat (nth ((v0.set v1.toNat (nth v0 v3.toNat)).set v3.toNat (nth v0 v1.toNat)) x29.toNat)).length) <| gd (I64 (x8 + 1)) <| gd (I64 (x29 - 1)) <| bd (lp (p_partitionH_b2 v1) (((((v0.set v1.toNat (nth v0 v3.toNat)).set v3.toNat (nth v0 v1.toNat)).set x8.toNat (nth ((v0.set v1.toNat (nth v0 v3.toNat)).set v3.toNat (nth v0 v1.toNat)) x29.toNat)).set x29.toNat (nth ((v0.set v1.toNat (nth v0 v3.toNat)).set v3.toNat (nth v0 v1.toNat)) x8.toNat)), x8 + 1, x29 - 1)) fun x63 => gd (ix v1 x63.1.length) <| gd (ix x63.2 x63.1.length) <| gd (ix x63.2 (x63.1.set x63.2.toNat (nth x63.1 v1.toNat)).length) <| gd (ix v1 (x63.1.set x63.2.toNat (nth x63.1 v1.toNat)).length) <| some (x63.2, false, (x63.1.set x63.2.toNat (nth x63.1 v1.toNat)).set v1.toNat (nth x63.1 x63.2.toNat)))
theorem c_partitionH {r : Int × Bool × (List PostH)} (v0 : (List PostH)) (x_v0 : Option Addr × Nat) (n_v0 : Nat) (e_v0 : n_v0 = v0.length) (v1 : Int) (v2 : Int) (v3 : Int) (H : p_partitionH v0 v1 v2 v3 = some r) : Fn' Tryz.prog 159 #[.slice x_v0.1 n_v0 x_v0.2, .int .i64 (v1), .int .i64 (v2), .int .i64 (v3), .func (.func 129) #[] #[]] [] [tree (.slice x_v0.1 n_v0 x_v0.2) v0] (ι := Unit) (fun _ => .tuple #[.int .i64 (r.1), .bool (r.2.1)]) (fun _ => []) (fun _ => [tree (.slice x_v0.1 n_v0 x_v0.2) r.2.2]) := by
 subst e_v0
 refine calls_of (args := [_, _, _, _, _]) Tryz.func159 rfl (by kernel_rfl) Tryz.ntmps159 (by simp) fun c => ?_
 unfold p_partitionH at H
 refine Tr.seq (Tr.region (Rg.a (v := .int .i64 (0)) rfl (Rg.a (v := .bool (false)) rfl (Rg.nl (nT (?_))))))
 refine Tr.seq (tNwS [(0, .slice x_v0.1 v0.length x_v0.2), (1, .int .i64 (v1)), (2, .int .i64 (v2)), (3, .int .i64 (v3)), (4, .func (.func 129) #[] #[])] 1 [0, 1, 2, 3, 4, 5, 6, 7, 8, 9, 10, 11, 12, 13, 14, 15] [13, 15] [] Tryz.mixed (by kernel_rfl) (by decide) List.nodup_nil ⟨rfl, rfl, rfl, rfl, rfl, trivial⟩ rfl okNil (w_p rfl (p_move rfl) (w_p rfl (p_move rfl) (w_p rfl (p_move rfl) (w_p rfl (p_move rfl) ?_)))))
 refine w_p rfl (p_move rfl) (w_p rfl (p_move rfl) ?_)
 obtain ⟨h1, H⟩ := gd.of H
 refine w_o rfl (fun F => (q_ixO' Tryz.underlying33 ty113 rfl rfl h1 (Has.here.app F))) ?_
 refine w_o (v := .agg #[.string (((nth v0 v3.toNat).1).1), .string (((nth v0 v3.toNat).1).2), ((nth v0 v3.toNat).2).1]) rfl (fun F => (q_ldeA (i := v3.toNat) ty113 rfl (EntB.flat (EntB.tree (Has.here.app F))) h1.lt)) (w_p rfl (p_move rfl) (w_p rfl (p_move rfl) ?_))
 obtain ⟨h2, H⟩ := gd.of H
 refine w_o rfl (fun F => (q_ixO' Tryz.underlying33 ty113 rfl rfl h2 (Has.here.app F))) ?_
 refine w_o (v := .agg #[.string (((nth v0 v1.toNat).1).1), .string (((nth v0 v1.toNat).1).2), ((nth v0 v1.toNat).2).1]) rfl (fun F => (q_ldeA (i := v1.toNat) ty113 rfl (EntB.flat (EntB.tree (Has.here.app F))) h2.lt)) ?_
 refine w_o rfl (fun F => (q_ixO' Tryz.underlying33 ty113 rfl rfl h2 (Has.here.app F))) (w_en rfl rfl Rdy.nil rfl (n_setT (l := v0) (α := PostH) (oa := x_v0.1) v1.toNat (nth v0 v3.toNat) (((), ()), ()) ty113 rfl rfl rfl h2.lt (ShpT.wfa _) (.cons Del.here .nil)) ?_)
 rintro _ _ _ ⟨rfl, rfl, rfl⟩
 obtain ⟨h3, H⟩ := gd.of H
 refine ⟨(PdOk.anc (by kernel_rfl) (PdOk.anc (by kernel_rfl) (PdOk.q rfl rfl (fun F => (q_ixO' Tryz.underlying33 ty113 rfl rfl h3 (Has.here.app F))) (PdOk.anc (by kernel_rfl) (PdOk.anc (by kernel_rfl) PdOk.nil))))), ?_⟩
 obtain ⟨h4, H⟩ := gd.of H
 refine w_o rfl (fun F => (q_ixO' Tryz.underlying33 ty113 rfl rfl h4 (Has.here.app F))) (w_en rfl rfl Rdy.nil rfl (n_setT (l := (v0.set v1.toNat (nth v0 v3.toNat))) (α := PostH) (oa := x_v0.1) v3.toNat (nth v0 v1.toNat) (((), ()), ()) ty113 rfl rfl rfl h4.lt (ShpT.wfa _) (.cons Del.here .nil)) ?_)
 rintro _ _ _ ⟨rfl, rfl, rfl⟩
 refine ⟨(PdOk.anc (by kernel_rfl) (PdOk.anc (by kernel_rfl) (PdOk.anc (by kernel_rfl) (PdOk.anc (by kernel_rfl) (PdOk.anc (by kernel_rfl) (PdOk.anc (by kernel_rfl) PdOk.nil)))))), ?_⟩
 refine w_nil ?_
 show At _ _ _ _ _ _
 refine nT (?_)
 refine Tr.seq (Tr.olen Has.here fun hn5 => (Tr.region (Rg.m rfl ?_)))
 obtain ⟨h6, H⟩ := gd.of H
 refine Rg.p (p_add rfl rfl h6) (Rg.m rfl ?_)
 obtain ⟨h7, H⟩ := gd.of H
 refine Rg.p (p_sub rfl rfl h7) (Rg.a rfl (Rg.a rfl (Rg.nl (nT (?_)))))
 obtain ⟨x8, hx9, H⟩ := bd.of H
 obtain ⟨n10, hx9⟩ := lp.of hx9
 refine tMidC (ι := Unit) (fun ψ => [(0, .slice x_v0.1 v0.length x_v0.2), (1, .int .i64 (v1)), (4, .func (.func 129) #[] #[]), (12, .int .i64 (x8)), (13, .int .i64 (v2 - 1))]) (fun ψ => [tree (.slice x_v0.1 v0.length x_v0.2) ((v0.set v1.toNat (nth v0 v3.toNat)).set v3.toNat (nth v0 v1.toNat))]) ?_ ?_
 ·refine Tr.block (tLoopC (ι := { q : Nat × (Int) × Unit // itr (p_partitionH_b0 v0 v1 v2 v3) q.1 q.2.1 = some x8 }) (fun ζ => [(0, .slice x_v0.1 v0.length x_v0.2), (1, .int .i64 (v1)), (4, .func (.func 129) #[] #[]), (12, .int .i64 (ζ.1.2.1)), (13, .int .i64 (v2 - 1))]) (fun ζ => [tree (.slice x_v0.1 v0.length x_v0.2) ((v0.set v1.toNat (nth v0 v3.toNat)).set v3.toNat (nth v0 v1.toNat))]) (fun ζ => ζ.1.1) ⟨(n10, v1 + 1, ()), hx9⟩ ⟨rfl, rfl, rfl, rfl, rfl, trivial⟩ (.cons Del.here .nil) ?_)
  rintro ⟨⟨m11, Q12, z13⟩, hk18⟩
  obtain ⟨m19, t15, e, H1, hi16, hb17⟩ := itr.of (n := m11) (s := Q12) hk18
  subst e; unfold p_partitionH_b0 at H1
  show Tr _ _ _ _ _ [(0, .slice x_v0.1 v0.length x_v0.2), (1, .int .i64 (v1)), (4, .func (.func 129) #[] #[]), (12, .int .i64 (Q12)), (13, .int .i64 (v2 - 1))] _ [tree (.slice x_v0.1 v0.length x_v0.2) ((v0.set v1.toNat (nth v0 v3.toNat)).set v3.toNat (nth v0 v1.toNat))]
  refine Tr.seq ?_
  obtain ⟨b20, j21, H1⟩ := bd.of H1
  refine tMid1 [(47, .bool (b20)), (0, .slice x_v0.1 v0.length x_v0.2), (1, .int .i64 (v1)), (4, .func (.func 129) #[] #[]), (12, .int .i64 (Q12)), (13, .int .i64 (v2 - 1))] ?_ ?_
  ·refine tLinS [(0, .slice x_v0.1 v0.length x_v0.2), (1, .int .i64 (v1)), (4, .func (.func 129) #[] #[]), (12, .int .i64 (Q12)), (13, .int .i64 (v2 - 1))] Tryz.mixed (.inr (by kernel_rfl)) ⟨rfl, rfl, rfl, rfl, rfl, trivial⟩ rfl (Lin.m rfl (Lin.m rfl (Lin.p (p_leq rfl rfl) ?_)))
   rcases Bool.eq_false_or_eq_true (decide (Q12 ≤ (v2 - 1))) with h22 | h22
   ·have j21 := cdT h22 j21
    refine Lin.e_ (p_move rfl) h22 (Lin.h rfl (p_move rfl) (Lin.h rfl (p_move rfl) (Lin.h rfl (p_move rfl) ?_)))
    obtain ⟨h23, j21⟩ := gd.of j21
    refine Lin.i rfl (q_ixO' Tryz.underlying33 ty113 rfl rfl h23 Has.here) (Lin.i (v := .agg #[.string (((nth ((v0.set v1.toNat (nth v0 v3.toNat)).set v3.toNat (nth v0 v1.toNat)) Q12.toNat).1).1), .string (((nth ((v0.set v1.toNat (nth v0 v3.toNat)).set v3.toNat (nth v0 v1.toNat)) Q12.toNat).1).2), ((nth ((v0.set v1.toNat (nth v0 v3.toNat)).set v3.toNat (nth v0 v1.toNat)) Q12.toNat).2).1]) rfl (q_ldeA (i := Q12.toNat) ty113 rfl (EntB.flat (EntB.tree Has.here)) h23.lt) (Lin.h rfl (p_move rfl) (Lin.h rfl (p_move rfl) ?_)))
    obtain ⟨h24, j21⟩ := gd.of j21
    refine Lin.i rfl (q_ixO' Tryz.underlying33 ty113 rfl rfl h24 Has.here) (Lin.i (v := .agg #[.string (((nth ((v0.set v1.toNat (nth v0 v3.toNat)).set v3.toNat (nth v0 v1.toNat)) v1.toNat).1).1), .string (((nth ((v0.set v1.toNat (nth v0 v3.toNat)).set v3.toNat (nth v0 v1.toNat)) v1.toNat).1).2), ((nth ((v0.set v1.toNat (nth v0 v3.toNat)).set v3.toNat (nth v0 v1.toNat)) v1.toNat).2).1]) rfl (q_ldeA (i := v1.toNat) ty113 rfl (EntB.flat (EntB.tree Has.here)) h24.lt) ?_)
    obtain ⟨r25, h26, j21⟩ := bd.of j21
    refine Lin.i (v := .int .i64 (r25)) rfl (Ex.dyn (caps := []) (vs := [.agg #[.string (((nth ((v0.set v1.toNat (nth v0 v3.toNat)).set v3.toNat (nth v0 v1.toNat)) Q12.toNat).1).1), .string (((nth ((v0.set v1.toNat (nth v0 v3.toNat)).set v3.toNat (nth v0 v1.toNat)) Q12.toNat).1).2), ((nth ((v0.set v1.toNat (nth v0 v3.toNat)).set v3.toNat (nth v0 v1.toNat)) Q12.toNat).2).1], .agg #[.string (((nth ((v0.set v1.toNat (nth v0 v3.toNat)).set v3.toNat (nth v0 v1.toNat)) v1.toNat).1).1), .string (((nth ((v0.set v1.toNat (nth v0 v3.toNat)).set v3.toNat (nth v0 v1.toNat)) v1.toNat).1).2), ((nth ((v0.set v1.toNat (nth v0 v3.toNat)).set v3.toNat (nth v0 v1.toNat)) v1.toNat).2).1]]) rfl rfl (q_call (c_impl_indexOf_2 (nth ((v0.set v1.toNat (nth v0 v3.toNat)).set v3.toNat (nth v0 v1.toNat)) Q12.toNat) (nth ((v0.set v1.toNat (nth v0 v3.toNat)).set v3.toNat (nth v0 v1.toNat)) v1.toNat) h26) rfl EntsB.nil)) (Lin.h rfl (p_lss rfl rfl) (Lin.p (p_pickT rfl rfl) ?_))
    obtain rfl := si j21
    show At _ _ _ _ _ _
    exact n1 ⟨rfl, rfl, rfl, rfl, rfl, rfl, trivial⟩
   ·have j21 := cdF h22 j21
    refine Lin.e_ (p_move rfl) h22 ?_
    iterate 11 refine Lin.sk rfl ?_
    refine Lin.p (v := .bool (false)) (p_pickF rfl rfl) ?_
    obtain rfl := si j21
    show At _ _ _ _ _ _
    exact n1 ⟨rfl, rfl, rfl, rfl, rfl, rfl, trivial⟩
  refine Tr.cond (b := b20) rfl (fun h27 => ?_) (fun h27 => ?_)
  ·have H1 := cdT h27 H1
   refine tSkip (nT (?_))
   refine Tr.block (Tr.region (Rg.m rfl ?_))
   obtain ⟨h28, H1⟩ := gd.of H1
   refine Rg.p (p_add rfl rfl h28) (Rg.a rfl (Rg.nl ?_))
   exact nB (nLC ⟨(m19, Q12 + 1, ()), hi16 _ (Option.some.inj H1).symm⟩ (Nat.lt_succ_self _) ⟨rfl, rfl, rfl, rfl, rfl, trivial⟩ Ents.refl (.cons Del.here .nil))
  ·have H1 := cdF h27 H1
   refine tExit (xT (xT (xE (?_))))
   have hx := hb17 _ (Option.some.inj H1).symm; subst hx
   exact nMC () ⟨rfl, rfl, rfl, rfl, rfl, trivial⟩ Ents.refl (.cons Del.here .nil)
 ·intro y14
  show Tr _ _ _ _ _ [(0, .slice x_v0.1 v0.length x_v0.2), (1, .int .i64 (v1)), (4, .func (.func 129) #[] #[]), (12, .int .i64 (x8)), (13, .int .i64 (v2 - 1))] _ [tree (.slice x_v0.1 v0.length x_v0.2) ((v0.set v1.toNat (nth v0 v3.toNat)).set v3.toNat (nth v0 v1.toNat))]
  obtain ⟨x29, hx30, H⟩ := bd.of H
  obtain ⟨n31, hx30⟩ := lp.of hx30
  refine tMidC (ι := Unit) (fun ψ => [(0, .slice x_v0.1 v0.length x_v0.2), (1, .int .i64 (v1)), (4, .func (.func 129) #[] #[]), (12, .int .i64 (x8)), (13, .int .i64 (x29))]) (fun ψ => [tree (.slice x_v0.1 v0.length x_v0.2) ((v0.set v1.toNat (nth v0 v3.toNat)).set v3.toNat (nth v0 v1.toNat))]) ?_ ?_
  ·refine Tr.block (tLoopC (ι := { q : Nat × (Int) × Unit // itr (p_partitionH_b1 v0 v1 v3 x8) q.1 q.2.1 = some x29 }) (fun ζ => [(0, .slice x_v0.1 v0.length x_v0.2), (1, .int .i64 (v1)), (4, .func (.func 129) #[] #[]), (12, .int .i64 (x8)), (13, .int .i64 (ζ.1.2.1))]) (fun ζ => [tree (.slice x_v0.1 v0.length x_v0.2) ((v0.set v1.toNat (nth v0 v3.toNat)).set v3.toNat (nth v0 v1.toNat))]) (fun ζ => ζ.1.1) ⟨(n31, v2 - 1, ()), hx30⟩ ⟨rfl, rfl, rfl, rfl, rfl, trivial⟩ (.cons Del.here .nil) ?_)
   rintro ⟨⟨m32, Q33, z34⟩, hk39⟩
   obtain ⟨m40, t36, e, H1, hi37, hb38⟩ := itr.of (n := m32) (s := Q33) hk39
   subst e; unfold p_partitionH_b1 at H1
   show Tr _ _ _ _ _ [(0, .slice x_v0.1 v0.length x_v0.2), (1, .int .i64 (v1)), (4, .func (.func 129) #[] #[]), (12, .int .i64 (x8)), (13, .int .i64 (Q33))] _ [tree (.slice x_v0.1 v0.length x_v0.2) ((v0.set v1.toNat (nth v0 v3.toNat)).set v3.toNat (nth v0 v1.toNat))]
   refine Tr.seq ?_
   obtain ⟨b41, j42, H1⟩ := bd.of H1
   refine tMid1 [(66, .bool (b41)), (0, .slice x_v0.1 v0.length x_v0.2), (1, .int .i64 (v1)), (4, .func (.func 129) #[] #[]), (12, .int .i64 (x8)), (13, .int .i64 (Q33))] ?_ ?_
   ·refine tLinS [(0, .slice x_v0.1 v0.length x_v0.2), (1, .int .i64 (v1)), (4, .func (.func 129) #[] #[]), (12, .int .i64 (x8)), (13, .int .i64 (Q33))] Tryz.mixed (.inr (by kernel_rfl)) ⟨rfl, rfl, rfl, rfl, rfl, trivial⟩ rfl (Lin.m rfl (Lin.m rfl (Lin.p (p_leq rfl rfl) ?_)))
    rcases Bool.eq_false_or_eq_true (decide (x8 ≤ Q33)) with h43 | h43
    ·have j42 := cdT h43 j42
     refine Lin.e_ (p_move rfl) h43 (Lin.h rfl (p_move rfl) (Lin.h rfl (p_move rfl) (Lin.h rfl (p_move rfl) ?_)))
     obtain ⟨h44, j42⟩ := gd.of j42
     refine Lin.i rfl (q_ixO' Tryz.underlying33 ty113 rfl rfl h44 Has.here) (Lin.i (v := .agg #[.string (((nth ((v0.set v1.toNat (nth v0 v3.toNat)).set v3.toNat (nth v0 v1.toNat)) Q33.toNat).1).1), .string (((nth ((v0.set v1.toNat (nth v0 v3.toNat)).set v3.toNat (nth v0 v1.toNat)) Q33.toNat).1).2), ((nth ((v0.set v1.toNat (nth v0 v3.toNat)).set v3.toNat (nth v0 v1.toNat)) Q33.toNat).2).1]) rfl (q_ldeA (i := Q33.toNat) ty113 rfl (EntB.flat (EntB.tree Has.here)) h44.lt) (Lin.h rfl (p_move rfl) (Lin.h rfl (p_move rfl) ?_)))
     obtain ⟨h45, j42⟩ := gd.of j42
     refine Lin.i rfl (q_ixO' Tryz.underlying33 ty113 rfl rfl h45 Has.here) (Lin.i (v := .agg #[.string (((nth ((v0.set v1.toNat (nth v0 v3.toNat)).set v3.toNat (nth v0 v1.toNat)) v1.toNat).1).1), .string (((nth ((v0.set v1.toNat (nth v0 v3.toNat)).set v3.toNat (nth v0 v1.toNat)) v1.toNat).1).2), ((nth ((v0.set v1.toNat (nth v0 v3.toNat)).set v3.toNat (nth v0 v1.toNat)) v1.toNat).2).1]) rfl (q_ldeA (i := v1.toNat) ty113 rfl (EntB.flat (EntB.tree Has.here)) h45.lt) ?_)
     obtain ⟨r46, h47, j42⟩ := bd.of j42
     refine Lin.i (v := .int .i64 (r46)) rfl (Ex.dyn (caps := []) (vs := [.agg #[.string (((nth ((v0.set v1.toNat (nth v0 v3.toNat)).set v3.toNat (nth v0 v1.toNat)) Q33.toNat).1).1), .string (((nth ((v0.set v1.toNat (nth v0 v3.toNat)).set v3.toNat (nth v0 v1.toNat)) Q33.toNat).1).2), ((nth ((v0.set v1.toNat (nth v0 v3.toNat)).set v3.toNat (nth v0 v1.toNat)) Q33.toNat).2).1], .agg #[.string (((nth ((v0.set v1.toNat (nth v0 v3.toNat)).set v3.toNat (nth v0 v1.toNat)) v1.toNat).1).1), .string (((nth ((v0.set v1.toNat (nth v0 v3.toNat)).set v3.toNat (nth v0 v1.toNat)) v1.toNat).1).2), ((nth ((v0.set v1.toNat (nth v0 v3.toNat)).set v3.toNat (nth v0 v1.toNat)) v1.toNat).2).1]]) rfl rfl (q_call (c_impl_indexOf_2 (nth ((v0.set v1.toNat (nth v0 v3.toNat)).set v3.toNat (nth v0 v1.toNat)) Q33.toNat) (nth ((v0.set v1.toNat (nth v0 v3.toNat)).set v3.toNat (nth v0 v1.toNat)) v1.toNat) h47) rfl EntsB.nil)) (Lin.h rfl (p_lss rfl rfl) (Lin.h rfl (p_not rfl) (Lin.p (p_pickT rfl rfl) ?_)))
     obtain rfl := si j42
     show At _ _ _ _ _ _
     exact n1 ⟨rfl, rfl, rfl, rfl, rfl, rfl, trivial⟩
    ·have j42 := cdF h43 j42
     refine Lin.e_ (p_move rfl) h43 ?_
     iterate 12 refine Lin.sk rfl ?_
     refine Lin.p (v := .bool (false)) (p_pickF rfl rfl) ?_
     obtain rfl := si j42
     show At _ _ _ _ _ _
     exact n1 ⟨rfl, rfl, rfl, rfl, rfl, rfl, trivial⟩
   refine Tr.cond (b := b41) rfl (fun h48 => ?_) (fun h48 => ?_)
   ·have H1 := cdT h48 H1
    refine tSkip (nT (?_))
    refine Tr.block (Tr.region (Rg.m rfl ?_))
    obtain ⟨h49, H1⟩ := gd.of H1
    refine Rg.p (p_sub rfl rfl h49) (Rg.a rfl (Rg.nl ?_))
    exact nB (nLC ⟨(m40, Q33 - 1, ()), hi37 _ (Option.some.inj H1).symm⟩ (Nat.lt_succ_self _) ⟨rfl, rfl, rfl, rfl, rfl, trivial⟩ Ents.refl (.cons Del.here .nil))
   ·have H1 := cdF h48 H1
    refine tExit (xT (xT (xE (?_))))
    have hx := hb38 _ (Option.some.inj H1).symm; subst hx
    exact nMC () ⟨rfl, rfl, rfl, rfl, rfl, trivial⟩ Ents.refl (.cons Del.here .nil)
  ·intro y35
   show Tr _ _ _ _ _ [(0, .slice x_v0.1 v0.length x_v0.2), (1, .int .i64 (v1)), (4, .func (.func 129) #[] #[]), (12, .int .i64 (x8)), (13, .int .i64 (x29))] _ [tree (.slice x_v0.1 v0.length x_v0.2) ((v0.set v1.toNat (nth v0 v3.toNat)).set v3.toNat (nth v0 v1.toNat))]
   refine Tr.seq (Tr.seq (Tr.region (Rg.m rfl (Rg.m rfl (Rg.p (p_gtr rfl rfl) ?_)))))
   refine Rg.nl (nT (?_))
   refine Tr.cond (b := decide (x29 < x8)) rfl (fun h50 => ?_) (fun h50 => ?_)
   ·have H := cdT h50 H
    refine Tr.seq (tNwS [(0, .slice x_v0.1 v0.length x_v0.2), (1, .int .i64 (v1)), (13, .int .i64 (x29))] 1 [0, 1, 2, 3, 4, 5, 6, 7, 8, 9, 10, 11, 12, 13, 14, 15] [13, 15] [] Tryz.mixed (by kernel_rfl) (by decide) List.nodup_nil ⟨rfl, rfl, rfl, trivial⟩ rfl okNil (w_p rfl (p_move rfl) (w_p rfl (p_move rfl) (w_p rfl (p_move rfl) (w_p rfl (p_move rfl) ?_)))))
    refine w_p rfl (p_move rfl) (w_p rfl (p_move rfl) ?_)
    obtain ⟨h51, H⟩ := gd.of H
    refine w_o rfl (fun F => (q_ixO' Tryz.underlying33 ty113 rfl rfl h51 (Has.here.app F))) ?_
    refine w_o (v := .agg #[.string (((nth ((v0.set v1.toNat (nth v0 v3.toNat)).set v3.toNat (nth v0 v1.toNat)) v1.toNat).1).1), .string (((nth ((v0.set v1.toNat (nth v0 v3.toNat)).set v3.toNat (nth v0 v1.toNat)) v1.toNat).1).2), ((nth ((v0.set v1.toNat (nth v0 v3.toNat)).set v3.toNat (nth v0 v1.toNat)) v1.toNat).2).1]) rfl (fun F => (q_ldeA (i := v1.toNat) ty113 rfl (EntB.flat (EntB.tree (Has.here.app F))) h51.lt)) (w_p rfl (p_move rfl) (w_p rfl (p_move rfl) ?_))
    obtain ⟨h52, H⟩ := gd.of H
    refine w_o rfl (fun F => (q_ixO' Tryz.underlying33 ty113 rfl rfl h52 (Has.here.app F))) ?_
    refine w_o (v := .agg #[.string (((nth ((v0.set v1.toNat (nth v0 v3.toNat)).set v3.toNat (nth v0 v1.toNat)) x29.toNat).1).1), .string (((nth ((v0.set v1.toNat (nth v0 v3.toNat)).set v3.toNat (nth v0 v1.toNat)) x29.toNat).1).2), ((nth ((v0.set v1.toNat (nth v0 v3.toNat)).set v3.toNat (nth v0 v1.toNat)) x29.toNat).2).1]) rfl (fun F => (q_ldeA (i := x29.toNat) ty113 rfl (EntB.flat (EntB.tree (Has.here.app F))) h52.lt)) ?_
    refine w_o rfl (fun F => (q_ixO' Tryz.underlying33 ty113 rfl rfl h52 (Has.here.app F))) (w_en rfl rfl Rdy.nil rfl (n_setT (l := ((v0.set v1.toNat (nth v0 v3.toNat)).set v3.toNat (nth v0 v1.toNat))) (α := PostH) (oa := x_v0.1) x29.toNat (nth ((v0.set v1.toNat (nth v0 v3.toNat)).set v3.toNat (nth v0 v1.toNat)) v1.toNat) (((), ()), ()) ty113 rfl rfl rfl h52.lt (ShpT.wfa _) (.cons Del.here .nil)) ?_)
    rintro _ _ _ ⟨rfl, rfl, rfl⟩
    obtain ⟨h53, H⟩ := gd.of H
    refine ⟨(PdOk.anc (by kernel_rfl) (PdOk.anc (by kernel_rfl) (PdOk.q rfl rfl (fun F => (q_ixO' Tryz.underlying33 ty113 rfl rfl h53 (Has.here.app F))) (PdOk.anc (by kernel_rfl) (PdOk.anc (by kernel_rfl) PdOk.nil))))), ?_⟩
    obtain ⟨h54, H⟩ := gd.of H
    refine w_o rfl (fun F => (q_ixO' Tryz.underlying33 ty113 rfl rfl h54 (Has.here.app F))) (w_en rfl rfl Rdy.nil rfl (n_setT (l := (((v0.set v1.toNat (nth v0 v3.toNat)).set v3.toNat (nth v0 v1.toNat)).set x29.toNat (nth ((v0.set v1.toNat (nth v0 v3.toNat)).set v3.toNat (nth v0 v1.toNat)) v1.toNat))) (α := PostH) (oa := x_v0.1) v1.toNat (nth ((v0.set v1.toNat (nth v0 v3.toNat)).set v3.toNat (nth v0 v1.toNat)) x29.toNat) (((), ()), ()) ty113 rfl rfl rfl h54.lt (ShpT.wfa _) (.cons Del.here .nil)) ?_)
    rintro _ _ _ ⟨rfl, rfl, rfl⟩
    refine ⟨(PdOk.anc (by kernel_rfl) (PdOk.anc (by kernel_rfl) (PdOk.anc (by kernel_rfl) (PdOk.anc (by kernel_rfl) (PdOk.anc (by kernel_rfl) (PdOk.anc (by kernel_rfl) PdOk.nil)))))), ?_⟩
    refine w_nil ?_
    show At _ _ _ _ _ _
    refine nT (?_)
    refine Tr.seq (Tr.olen Has.here fun hn55 => (Tr.region (Rg.m rfl (Rg.a rfl (Rg.a (v := .bool (true)) rfl ?_)))))
    refine Rg.nl (nT (?_))
    refine tRet (rT (?_))
    obtain rfl := si H
    exact back2 () rfl (ResV.tmp (v := .int .i64 (x29)) rfl) (ResV.tmp (v := .bool (true)) rfl) rfl Ents.nil (.cons Del.here .nil)
   ·have H := cdF h50 H
    refine tSkip (nT (?_))
    refine Tr.seq (tNwS [(0, .slice x_v0.1 v0.length x_v0.2), (1, .int .i64 (v1)), (4, .func (.func 129) #[] #[]), (12, .int .i64 (x8)), (13, .int .i64 (x29))] 1 [0, 1, 2, 3, 4, 5, 6, 7, 8, 9, 10, 11, 12, 13, 14, 15] [13, 15] [] Tryz.mixed (by kernel_rfl) (by decide) List.nodup_nil ⟨rfl, rfl, rfl, rfl, rfl, trivial⟩ rfl okNil (w_p rfl (p_move rfl) (w_p rfl (p_move rfl) (w_p rfl (p_move rfl) (w_p rfl (p_move rfl) ?_)))))
    refine w_p rfl (p_move rfl) (w_p rfl (p_move rfl) ?_)
    obtain ⟨h56, H⟩ := gd.of H
    refine w_o rfl (fun F => (q_ixO' Tryz.underlying33 ty113 rfl rfl h56 (Has.here.app F))) ?_
    refine w_o (v := .agg #[.string (((nth ((v0.set v1.toNat (nth v0 v3.toNat)).set v3.toNat (nth v0 v1.toNat)) x29.toNat).1).1), .string (((nth ((v0.set v1.toNat (nth v0 v3.toNat)).set v3.toNat (nth v0 v1.toNat)) x29.toNat).1).2), ((nth ((v0.set v1.toNat (nth v0 v3.toNat)).set v3.toNat (nth v0 v1.toNat)) x29.toNat).2).1]) rfl (fun F => (q_ldeA (i := x29.toNat) ty113 rfl (EntB.flat (EntB.tree (Has.here.app F))) h56.lt)) (w_p rfl (p_move rfl) (w_p rfl (p_move rfl) ?_))
    obtain ⟨h57, H⟩ := gd.of H
    refine w_o rfl (fun F => (q_ixO' Tryz.underlying33 ty113 rfl rfl h57 (Has.here.app F))) ?_
    refine w_o (v := .agg #[.string (((nth ((v0.set v1.toNat (nth v0 v3.toNat)).set v3.toNat (nth v0 v1.toNat)) x8.toNat).1).1), .string (((nth ((v0.set v1.toNat (nth v0 v3.toNat)).set v3.toNat (nth v0 v1.toNat)) x8.toNat).1).2), ((nth ((v0.set v1.toNat (nth v0 v3.toNat)).set v3.toNat (nth v0 v1.toNat)) x8.toNat).2).1]) rfl (fun F => (q_ldeA (i := x8.toNat) ty113 rfl (EntB.flat (EntB.tree (Has.here.app F))) h57.lt)) ?_
    refine w_o rfl (fun F => (q_ixO' Tryz.underlying33 ty113 rfl rfl h57 (Has.here.app F))) (w_en rfl rfl Rdy.nil rfl (n_setT (l := ((v0.set v1.toNat (nth v0 v3.toNat)).set v3.toNat (nth v0 v1.toNat))) (α := PostH) (oa := x_v0.1) x8.toNat (nth ((v0.set v1.toNat (nth v0 v3.toNat)).set v3.toNat (nth v0 v1.toNat)) x29.toNat) (((), ()), ()) ty113 rfl rfl rfl h57.lt (ShpT.wfa _) (.cons Del.here .nil)) ?_)
    rintro _ _ _ ⟨rfl, rfl, rfl⟩
    obtain ⟨h58, H⟩ := gd.of H
    refine ⟨(PdOk.anc (by kernel_rfl) (PdOk.anc (by kernel_rfl) (PdOk.q rfl rfl (fun F => (q_ixO' Tryz.underlying33 ty113 rfl rfl h58 (Has.here.app F))) (PdOk.anc (by kernel_rfl) (PdOk.anc (by kernel_rfl) PdOk.nil))))), ?_⟩
    obtain ⟨h59, H⟩ := gd.of H
    refine w_o rfl (fun F => (q_ixO' Tryz.underlying33 ty113 rfl rfl h59 (Has.here.app F))) (w_en rfl rfl Rdy.nil rfl (n_setT (l := (((v0.set v1.toNat (nth v0 v3.toNat)).set v3.toNat (nth v0 v1.toNat)).set x8.toNat (nth ((v0.set v1.toNat (nth v0 v3.toNat)).set v3.toNat (nth v0 v1.toNat)) x29.toNat))) (α := PostH) (oa := x_v0.1) x29.toNat (nth ((v0.set v1.toNat (nth v0 v3.toNat)).set v3.toNat (nth v0 v1.toNat)) x8.toNat) (((), ()), ()) ty113 rfl rfl rfl h59.lt (ShpT.wfa _) (.cons Del.here .nil)) ?_)
    rintro _ _ _ ⟨rfl, rfl, rfl⟩
    refine ⟨(PdOk.anc (by kernel_rfl) (PdOk.anc (by kernel_rfl) (PdOk.anc (by kernel_rfl) (PdOk.anc (by kernel_rfl) (PdOk.anc (by kernel_rfl) (PdOk.anc (by kernel_rfl) PdOk.nil)))))), ?_⟩
    refine w_nil ?_
    show At _ _ _ _ _ _
    refine nT (?_)
    refine Tr.seq (Tr.olen Has.here fun hn60 => (Tr.region (Rg.m rfl ?_)))
    obtain ⟨h61, H⟩ := gd.of H
    refine Rg.p (p_add rfl rfl h61) (Rg.a rfl (Rg.nl (nT (?_))))
    refine Tr.seq (Tr.region (Rg.m rfl ?_))
    obtain ⟨h62, H⟩ := gd.of H
    refine Rg.p (p_sub rfl rfl h62) (Rg.a rfl (Rg.nl (nT (?_))))
    obtain ⟨x63, hx64, H⟩ := bd.of H
    obtain ⟨n65, hx64⟩ := lp.of hx64
    refine tMidC (ι := Unit) (fun ψ => [(0, .slice x_v0.1 v0.length x_v0.2), (1, .int .i64 (v1)), (13, .int .i64 (x63.2))]) (fun ψ => [tree (.slice x_v0.1 v0.length x_v0.2) x63.1]) ?_ ?_
    ·refine Tr.block (tLoopC (ι := { q : Nat × ((List PostH) × Int × Int) × Unit // itr (p_partitionH_b2 v1) q.1 q.2.1 = some x63 }) (fun ζ => [(0, .slice x_v0.1 v0.length x_v0.2), (1, .int .i64 (v1)), (4, .func (.func 129) #[] #[]), (12, .int .i64 (ζ.1.2.1.2.1)), (13, .int .i64 (ζ.1.2.1.2.2))]) (fun ζ => [tree (.slice x_v0.1 v0.length x_v0.2) ζ.1.2.1.1]) (fun ζ => ζ.1.1) ⟨(n65, (((((v0.set v1.toNat (nth v0 v3.toNat)).set v3.toNat (nth v0 v1.toNat)).set x8.toNat (nth ((v0.set v1.toNat (nth v0 v3.toNat)).set v3.toNat (nth v0 v1.toNat)) x29.toNat)).set x29.toNat (nth ((v0.set v1.toNat (nth v0 v3.toNat)).set v3.toNat (nth v0 v1.toNat)) x8.toNat)), x8 + 1, x29 - 1), ()), hx64⟩ ⟨rfl, rfl, rfl, rfl, rfl, trivial⟩ (.cons Del.here .nil) ?_)
     rintro ⟨⟨m66, Q67, z68⟩, hk73⟩
     obtain ⟨m74, t70, e, H1, hi71, hb72⟩ := itr.of (n := m66) (s := Q67) hk73
     subst e; unfold p_partitionH_b2 at H1
     show Tr _ _ _ _ _ [(0, .slice x_v0.1 v0.length x_v0.2), (1, .int .i64 (v1)), (4, .func (.func 129) #[] #[]), (12, .int .i64 (Q67.2.1)), (13, .int .i64 (Q67.2.2))] _ [tree (.slice x_v0.1 v0.length x_v0.2) Q67.1]
     refine Tr.block (Tr.olen Has.here fun hn75 => ?_)
     obtain ⟨x76, hx77, H1⟩ := bd.of H1
     obtain ⟨n78, hx77⟩ := lp.of hx77
     refine tMidC (ι := Unit) (fun ψ => [(0, .slice x_v0.1 v0.length x_v0.2), (1, .int .i64 (v1)), (4, .func (.func 129) #[] #[]), (12, .int .i64 (x76)), (13, .int .i64 (Q67.2.2))]) (fun ψ => [tree (.slice x_v0.1 v0.length x_v0.2) Q67.1]) ?_ ?_
     ·refine Tr.block (tLoopC (ι := { q : Nat × (Int) × Unit // itr (p_partitionH_b3 v1 Q67) q.1 q.2.1 = some x76 }) (fun ζ => [(0, .slice x_v0.1 v0.length x_v0.2), (1, .int .i64 (v1)), (4, .func (.func 129) #[] #[]), (12, .int .i64 (ζ.1.2.1)), (13, .int .i64 (Q67.2.2))]) (fun ζ => [tree (.slice x_v0.1 v0.length x_v0.2) Q67.1]) (fun ζ => ζ.1.1) ⟨(n78, Q67.2.1, ()), hx77⟩ ⟨rfl, rfl, rfl, rfl, rfl, trivial⟩ (.cons Del.here .nil) ?_)
      rintro ⟨⟨m79, Q80, z81⟩, hk86⟩
      obtain ⟨m87, t83, e, H2, hi84, hb85⟩ := itr.of (n := m79) (s := Q80) hk86
      subst e; unfold p_partitionH_b3 at H2
      show Tr _ _ _ _ _ [(0, .slice x_v0.1 v0.length x_v0.2), (1, .int .i64 (v1)), (4, .func (.func 129) #[] #[]), (12, .int .i64 (Q80)), (13, .int .i64 (Q67.2.2))] _ [tree (.slice x_v0.1 v0.length x_v0.2) Q67.1]
      refine Tr.seq ?_
      obtain ⟨b88, j89, H2⟩ := bd.of H2
      refine tMid1 [(120, .bool (b88)), (0, .slice x_v0.1 v0.length x_v0.2), (1, .int .i64 (v1)), (4, .func (.func 129) #[] #[]), (12, .int .i64 (Q80)), (13, .int .i64 (Q67.2.2))] ?_ ?_
      ·refine tLinS [(0, .slice x_v0.1 v0.length x_v0.2), (1, .int .i64 (v1)), (4, .func (.func 129) #[] #[]), (12, .int .i64 (Q80)), (13, .int .i64 (Q67.2.2))] Tryz.mixed (.inr (by kernel_rfl)) ⟨rfl, rfl, rfl, rfl, rfl, trivial⟩ rfl (Lin.m rfl (Lin.m rfl (Lin.p (p_leq rfl rfl) ?_)))
       rcases Bool.eq_false_or_eq_true (decide (Q80 ≤ Q67.2.2)) with h90 | h90
       ·have j89 := cdT h90 j89
        refine Lin.e_ (p_move rfl) h90 (Lin.h rfl (p_move rfl) (Lin.h rfl (p_move rfl) (Lin.h rfl (p_move rfl) ?_)))
        obtain ⟨h91, j89⟩ := gd.of j89
        refine Lin.i rfl (q_ixO' Tryz.underlying33 ty113 rfl rfl h91 Has.here) (Lin.i (v := .agg #[.string (((nth Q67.1 Q80.toNat).1).1), .string (((nth Q67.1 Q80.toNat).1).2), ((nth Q67.1 Q80.toNat).2).1]) rfl (q_ldeA (i := Q80.toNat) ty113 rfl (EntB.flat (EntB.tree Has.here)) h91.lt) (Lin.h rfl (p_move rfl) (Lin.h rfl (p_move rfl) ?_)))
        obtain ⟨h92, j89⟩ := gd.of j89
        refine Lin.i rfl (q_ixO' Tryz.underlying33 ty113 rfl rfl h92 Has.here) (Lin.i (v := .agg #[.string (((nth Q67.1 v1.toNat).1).1), .string (((nth Q67.1 v1.toNat).1).2), ((nth Q67.1 v1.toNat).2).1]) rfl (q_ldeA (i := v1.toNat) ty113 rfl (EntB.flat (EntB.tree Has.here)) h92.lt) ?_)
        obtain ⟨r93, h94, j89⟩ := bd.of j89
        refine Lin.i (v := .int .i64 (r93)) rfl (Ex.dyn (caps := []) (vs := [.agg #[.string (((nth Q67.1 Q80.toNat).1).1), .string (((nth Q67.1 Q80.toNat).1).2), ((nth Q67.1 Q80.toNat).2).1], .agg #[.string (((nth Q67.1 v1.toNat).1).1), .string (((nth Q67.1 v1.toNat).1).2), ((nth Q67.1 v1.toNat).2).1]]) rfl rfl (q_call (c_impl_indexOf_2 (nth Q67.1 Q80.toNat) (nth Q67.1 v1.toNat) h94) rfl EntsB.nil)) (Lin.h rfl (p_lss rfl rfl) (Lin.p (p_pickT rfl rfl) ?_))
        obtain rfl := si j89
        show At _ _ _ _ _ _
        exact n1 ⟨rfl, rfl, rfl, rfl, rfl, rfl, trivial⟩
       ·have j89 := cdF h90 j89
        refine Lin.e_ (p_move rfl) h90 ?_
        iterate 11 refine Lin.sk rfl ?_
        refine Lin.p (v := .bool (false)) (p_pickF rfl rfl) ?_
        obtain rfl := si j89
        show At _ _ _ _ _ _
        exact n1 ⟨rfl, rfl, rfl, rfl, rfl, rfl, trivial⟩
      refine Tr.cond (b := b88) rfl (fun h95 => ?_) (fun h95 => ?_)
      ·have H2 := cdT h95 H2
       refine tSkip (nT (?_))
       refine Tr.block (Tr.region (Rg.m rfl ?_))
       obtain ⟨h96, H2⟩ := gd.of H2
       refine Rg.p (p_add rfl rfl h96) (Rg.a rfl (Rg.nl ?_))
       exact nB (nLC ⟨(m87, Q80 + 1, ()), hi84 _ (Option.some.inj H2).symm⟩ (Nat.lt_succ_self _) ⟨rfl, rfl, rfl, rfl, rfl, trivial⟩ Ents.refl (.cons Del.here .nil))
      ·have H2 := cdF h95 H2
       refine tExit (xT (xT (xE (?_))))
       have hx := hb85 _ (Option.some.inj H2).symm; subst hx
       exact nMC () ⟨rfl, rfl, rfl, rfl, rfl, trivial⟩ Ents.refl (.cons Del.here .nil)
     ·intro y82
      show Tr _ _ _ _ _ [(0, .slice x_v0.1 v0.length x_v0.2), (1, .int .i64 (v1)), (4, .func (.func 129) #[] #[]), (12, .int .i64 (x76)), (13, .int .i64 (Q67.2.2))] _ [tree (.slice x_v0.1 v0.length x_v0.2) Q67.1]
      obtain ⟨x97, hx98, H1⟩ := bd.of H1
      obtain ⟨n99, hx98⟩ := lp.of hx98
      refine tMidC (ι := Unit) (fun ψ => [(0, .slice x_v0.1 v0.length x_v0.2), (1, .int .i64 (v1)), (4, .func (.func 129) #[] #[]), (12, .int .i64 (x76)), (13, .int .i64 (x97))]) (fun ψ => [tree (.slice x_v0.1 v0.length x_v0.2) Q67.1]) ?_ ?_
      ·refine Tr.block (tLoopC (ι := { q : Nat × (Int) × Unit // itr (p_partitionH_b4 v1 Q67 x76) q.1 q.2.1 = some x97 }) (fun ζ => [(0, .slice x_v0.1 v0.length x_v0.2), (1, .int .i64 (v1)), (4, .func (.func 129) #[] #[]), (12, .int .i64 (x76)), (13, .int .i64 (ζ.1.2.1))]) (fun ζ => [tree (.slice x_v0.1 v0.length x_v0.2) Q67.1]) (fun ζ => ζ.1.1) ⟨(n99, Q67.2.2, ()), hx98⟩ ⟨rfl, rfl, rfl, rfl, rfl, trivial⟩ (.cons Del.here .nil) ?_)
       rintro ⟨⟨m100, Q101, z102⟩, hk107⟩
       obtain ⟨m108, t104, e, H2, hi105, hb106⟩ := itr.of (n := m100) (s := Q101) hk107
       subst e; unfold p_partitionH_b4 at H2
       show Tr _ _ _ _ _ [(0, .slice x_v0.1 v0.length x_v0.2), (1, .int .i64 (v1)), (4, .func (.func 129) #[] #[]), (12, .int .i64 (x76)), (13, .int .i64 (Q101))] _ [tree (.slice x_v0.1 v0.length x_v0.2) Q67.1]
       refine Tr.seq ?_
       obtain ⟨b109, j110, H2⟩ := bd.of H2
       refine tMid1 [(139, .bool (b109)), (0, .slice x_v0.1 v0.length x_v0.2), (1, .int .i64 (v1)), (4, .func (.func 129) #[] #[]), (12, .int .i64 (x76)), (13, .int .i64 (Q101))] ?_ ?_
       ·refine tLinS [(0, .slice x_v0.1 v0.length x_v0.2), (1, .int .i64 (v1)), (4, .func (.func 129) #[] #[]), (12, .int .i64 (x76)), (13, .int .i64 (Q101))] Tryz.mixed (.inr (by kernel_rfl)) ⟨rfl, rfl, rfl, rfl, rfl, trivial⟩ rfl (Lin.m rfl (Lin.m rfl (Lin.p (p_leq rfl rfl) ?_)))
        rcases Bool.eq_false_or_eq_true (decide (x76 ≤ Q101)) with h111 | h111
        ·have j110 := cdT h111 j110
         refine Lin.e_ (p_move rfl) h111 (Lin.h rfl (p_move rfl) (Lin.h rfl (p_move rfl) (Lin.h rfl (p_move rfl) ?_)))
         obtain ⟨h112, j110⟩ := gd.of j110
         refine Lin.i rfl (q_ixO' Tryz.underlying33 ty113 rfl rfl h112 Has.here) (Lin.i (v := .agg #[.string (((nth Q67.1 Q101.toNat).1).1), .string (((nth Q67.1 Q101.toNat).1).2), ((nth Q67.1 Q101.toNat).2).1]) rfl (q_ldeA (i := Q101.toNat) ty113 rfl (EntB.flat (EntB.tree Has.here)) h112.lt) (Lin.h rfl (p_move rfl) (Lin.h rfl (p_move rfl) ?_)))
         obtain ⟨h113, j110⟩ := gd.of j110
         refine Lin.i rfl (q_ixO' Tryz.underlying33 ty113 rfl rfl h113 Has.here) (Lin.i (v := .agg #[.string (((nth Q67.1 v1.toNat).1).1), .string (((nth Q67.1 v1.toNat).1).2), ((nth Q67.1 v1.toNat).2).1]) rfl (q_ldeA (i := v1.toNat) ty113 rfl (EntB.flat (EntB.tree Has.here)) h113.lt) ?_)
         obtain ⟨r114, h115, j110⟩ := bd.of j110
         refine Lin.i (v := .int .i64 (r114)) rfl (Ex.dyn (caps := []) (vs := [.agg #[.string (((nth Q67.1 Q101.toNat).1).1), .string (((nth Q67.1 Q101.toNat).1).2), ((nth Q67.1 Q101.toNat).2).1], .agg #[.string (((nth Q67.1 v1.toNat).1).1), .string (((nth Q67.1 v1.toNat).1).2), ((nth Q67.1 v1.toNat).2).1]]) rfl rfl (q_call (c_impl_indexOf_2 (nth Q67.1 Q101.toNat) (nth Q67.1 v1.toNat) h115) rfl EntsB.nil)) (Lin.h rfl (p_lss rfl rfl) (Lin.h rfl (p_not rfl) (Lin.p (p_pickT rfl rfl) ?_)))
         obtain rfl := si j110
         show At _ _ _ _ _ _
         exact n1 ⟨rfl, rfl, rfl, rfl, rfl, rfl, trivial⟩
        ·have j110 := cdF h111 j110
         refine Lin.e_ (p_move rfl) h111 ?_
         iterate 12 refine Lin.sk rfl ?_
         refine Lin.p (v := .bool (false)) (p_pickF rfl rfl) ?_
         obtain rfl := si j110
         show At _ _ _ _ _ _
         exact n1 ⟨rfl, rfl, rfl, rfl, rfl, rfl, trivial⟩
       refine Tr.cond (b := b109) rfl (fun h116 => ?_) (fun h116 => ?_)
       ·have H2 := cdT h116 H2
        refine tSkip (nT (?_))
        refine Tr.block (Tr.region (Rg.m rfl ?_))
        obtain ⟨h117, H2⟩ := gd.of H2
        refine Rg.p (p_sub rfl rfl h117) (Rg.a rfl (Rg.nl ?_))
        exact nB (nLC ⟨(m108, Q101 - 1, ()), hi105 _ (Option.some.inj H2).symm⟩ (Nat.lt_succ_self _) ⟨rfl, rfl, rfl, rfl, rfl, trivial⟩ Ents.refl (.cons Del.here .nil))
       ·have H2 := cdF h116 H2
        refine tExit (xT (xT (xE (?_))))
        have hx := hb106 _ (Option.some.inj H2).symm; subst hx
        exact nMC () ⟨rfl, rfl, rfl, rfl, rfl, trivial⟩ Ents.refl (.cons Del.here .nil)
      ·intro y103
       show Tr _ _ _ _ _ [(0, .slice x_v0.1 v0.length x_v0.2), (1, .int .i64 (v1)), (4, .func (.func 129) #[] #[]), (12, .int .i64 (x76)), (13, .int .i64 (x97))] _ [tree (.slice x_v0.1 v0.length x_v0.2) Q67.1]
       refine Tr.seq (Tr.seq (Tr.region (Rg.m rfl (Rg.m rfl (Rg.p (p_gtr rfl rfl) ?_)))))
       refine Rg.nl (nT (?_))
       refine Tr.cond (b := decide (x97 < x76)) rfl (fun h118 => ?_) (fun h118 => ?_)
       ·have H1 := cdT h118 H1
        refine tExit (xT (xB rfl (xT (xE (?_)))))
        have hx := hb72 _ (Option.some.inj H1).symm; subst hx
        exact nMC () ⟨rfl, rfl, rfl, trivial⟩ Ents.refl (.cons Del.here .nil)
       ·have H1 := cdF h118 H1
        refine tSkip (nT (?_))
        refine Tr.seq (tNwS [(0, .slice x_v0.1 v0.length x_v0.2), (1, .int .i64 (v1)), (4, .func (.func 129) #[] #[]), (12, .int .i64 (x76)), (13, .int .i64 (x97))] 1 [0, 1, 2, 3, 4, 5, 6, 7, 8, 9, 10, 11, 12, 13, 14, 15] [13, 15] [] Tryz.mixed (by kernel_rfl) (by decide) List.nodup_nil ⟨rfl, rfl, rfl, rfl, rfl, trivial⟩ rfl okNil (w_p rfl (p_move rfl) (w_p rfl (p_move rfl) (w_p rfl (p_move rfl) (w_p rfl (p_move rfl) ?_)))))
        refine w_p rfl (p_move rfl) (w_p rfl (p_move rfl) ?_)
        obtain ⟨h119, H1⟩ := gd.of H1
        refine w_o rfl (fun F => (q_ixO' Tryz.underlying33 ty113 rfl rfl h119 (Has.here.app F))) ?_
        refine w_o (v := .agg #[.string (((nth Q67.1 x97.toNat).1).1), .string (((nth Q67.1 x97.toNat).1).2), ((nth Q67.1 x97.toNat).2).1]) rfl (fun F => (q_ldeA (i := x97.toNat) ty113 rfl (EntB.flat (EntB.tree (Has.here.app F))) h119.lt)) (w_p rfl (p_move rfl) (w_p rfl (p_move rfl) ?_))
        obtain ⟨h120, H1⟩ := gd.of H1
        refine w_o rfl (fun F => (q_ixO' Tryz.underlying33 ty113 rfl rfl h120 (Has.here.app F))) ?_
        refine w_o (v := .agg #[.string (((nth Q67.1 x76.toNat).1).1), .string (((nth Q67.1 x76.toNat).1).2), ((nth Q67.1 x76.toNat).2).1]) rfl (fun F => (q_ldeA (i := x76.toNat) ty113 rfl (EntB.flat (EntB.tree (Has.here.app F))) h120.lt)) ?_
        refine w_o rfl (fun F => (q_ixO' Tryz.underlying33 ty113 rfl rfl h120 (Has.here.app F))) (w_en rfl rfl Rdy.nil rfl (n_setT (l := Q67.1) (α := PostH) (oa := x_v0.1) x76.toNat (nth Q67.1 x97.toNat) (((), ()), ()) ty113 rfl rfl rfl h120.lt (ShpT.wfa _) (.cons Del.here .nil)) ?_)
        rintro _ _ _ ⟨rfl, rfl, rfl⟩
        obtain ⟨h121, H1⟩ := gd.of H1
        refine ⟨(PdOk.anc (by kernel_rfl) (PdOk.anc (by kernel_rfl) (PdOk.q rfl rfl (fun F => (q_ixO' Tryz.underlying33 ty113 rfl rfl h121 (Has.here.app F))) (PdOk.anc (by kernel_rfl) (PdOk.anc (by kernel_rfl) PdOk.nil))))), ?_⟩
        obtain ⟨h122, H1⟩ := gd.of H1
        refine w_o rfl (fun F => (q_ixO' Tryz.underlying33 ty113 rfl rfl h122 (Has.here.app F))) (w_en rfl rfl Rdy.nil rfl (n_setT (l := (Q67.1.set x76.toNat (nth Q67.1 x97.toNat))) (α := PostH) (oa := x_v0.1) x97.toNat (nth Q67.1 x76.toNat) (((), ()), ()) ty113 rfl rfl rfl h122.lt (ShpT.wfa _) (.cons Del.here .nil)) ?_)
        rintro _ _ _ ⟨rfl, rfl, rfl⟩
        refine ⟨(PdOk.anc (by kernel_rfl) (PdOk.anc (by kernel_rfl) (PdOk.anc (by kernel_rfl) (PdOk.anc (by kernel_rfl) (PdOk.anc (by kernel_rfl) (PdOk.anc (by kernel_rfl) PdOk.nil)))))), ?_⟩
        refine w_nil ?_
        show At _ _ _ _ _ _
        refine nT (?_)
        refine Tr.seq (Tr.olen Has.here fun hn123 => (Tr.region (Rg.m rfl ?_)))
        obtain ⟨h124, H1⟩ := gd.of H1
        refine Rg.p (p_add rfl rfl h124) (Rg.a rfl (Rg.nl (nT (?_))))
        refine Tr.region (Rg.m rfl ?_)
        obtain ⟨h125, H1⟩ := gd.of H1
        refine Rg.p (p_sub rfl rfl h125) (Rg.a rfl (Rg.nl ?_))
        exact nB (nLC ⟨(m74, (((Q67.1.set x76.toNat (nth Q67.1 x97.toNat)).set x97.toNat (nth Q67.1 x76.toNat)), x76 + 1, x97 - 1), ()), hi71 _ (Option.some.inj H1).symm⟩ (Nat.lt_succ_self _) ⟨rfl, rfl, rfl, rfl, rfl, trivial⟩ Ents.refl (.cons Del.here .nil))
    ·intro y69
     show Tr _ _ _ _ _ [(0, .slice x_v0.1 v0.length x_v0.2), (1, .int .i64 (v1)), (13, .int .i64 (x63.2))] _ [tree (.slice x_v0.1 v0.length x_v0.2) x63.1]
     refine Tr.seq (Tr.olen Has.here fun hn126 => (tNwS [(0, .slice x_v0.1 v0.length x_v0.2), (1, .int .i64 (v1)), (13, .int .i64 (x63.2))] 1 [0, 1, 2, 3, 4, 5, 6, 7, 8, 9, 10, 11, 12, 13, 14, 15] [13, 15] [] Tryz.mixed (by kernel_rfl) (by decide) List.nodup_nil ⟨rfl, rfl, rfl, trivial⟩ rfl okNil (w_p rfl (p_move rfl) (w_p rfl (p_move rfl) (w_p rfl (p_move rfl) ?_)))))
     refine w_p rfl (p_move rfl) (w_p rfl (p_move rfl) (w_p rfl (p_move rfl) ?_))
     obtain ⟨h127, H⟩ := gd.of H
     refine w_o rfl (fun F => (q_ixO' Tryz.underlying33 ty113 rfl rfl h127 (Has.here.app F))) ?_
     refine w_o (v := .agg #[.string (((nth x63.1 v1.toNat).1).1), .string (((nth x63.1 v1.toNat).1).2), ((nth x63.1 v1.toNat).2).1]) rfl (fun F => (q_ldeA (i := v1.toNat) ty113 rfl (EntB.flat (EntB.tree (Has.here.app F))) h127.lt)) (w_p rfl (p_move rfl) (w_p rfl (p_move rfl) ?_))
     obtain ⟨h128, H⟩ := gd.of H
     refine w_o rfl (fun F => (q_ixO' Tryz.underlying33 ty113 rfl rfl h128 (Has.here.app F))) ?_
     refine w_o (v := .agg #[.string (((nth x63.1 x63.2.toNat).1).1), .string (((nth x63.1 x63.2.toNat).1).2), ((nth x63.1 x63.2.toNat).2).1]) rfl (fun F => (q_ldeA (i := x63.2.toNat) ty113 rfl (EntB.flat (EntB.tree (Has.here.app F))) h128.lt)) ?_
     refine w_o rfl (fun F => (q_ixO' Tryz.underlying33 ty113 rfl rfl h128 (Has.here.app F))) (w_en rfl rfl Rdy.nil rfl (n_setT (l := x63.1) (α := PostH) (oa := x_v0.1) x63.2.toNat (nth x63.1 v1.toNat) (((), ()), ()) ty113 rfl rfl rfl h128.lt (ShpT.wfa _) (.cons Del.here .nil)) ?_)
     rintro _ _ _ ⟨rfl, rfl, rfl⟩
     obtain ⟨h129, H⟩ := gd.of H
     refine ⟨(PdOk.anc (by kernel_rfl) (PdOk.anc (by kernel_rfl) (PdOk.q rfl rfl (fun F => (q_ixO' Tryz.underlying33 ty113 rfl rfl h129 (Has.here.app F))) (PdOk.anc (by kernel_rfl) (PdOk.anc (by kernel_rfl) PdOk.nil))))), ?_⟩
     obtain ⟨h130, H⟩ := gd.of H
     refine w_o rfl (fun F => (q_ixO' Tryz.underlying33 ty113 rfl rfl h130 (Has.here.app F))) (w_en rfl rfl Rdy.nil rfl (n_setT (l := (x63.1.set x63.2.toNat (nth x63.1 v1.toNat))) (α := PostH) (oa := x_v0.1) v1.toNat (nth x63.1 x63.2.toNat) (((), ()), ()) ty113 rfl rfl rfl h130.lt (ShpT.wfa _) (.cons Del.here .nil)) ?_)
     rintro _ _ _ ⟨rfl, rfl, rfl⟩
     refine ⟨(PdOk.anc (by kernel_rfl) (PdOk.anc (by kernel_rfl) (PdOk.anc (by kernel_rfl) (PdOk.anc (by kernel_rfl) (PdOk.anc (by kernel_rfl) (PdOk.anc (by kernel_rfl) PdOk.nil)))))), ?_⟩
     refine w_nil ?_
     show At _ _ _ _ _ _
     refine nT (?_)
     refine Tr.seq (Tr.olen Has.here fun hn131 => (Tr.region (Rg.m rfl (Rg.a rfl (Rg.a (v := .bool (false)) rfl ?_)))))
     refine Rg.nl (nT (?_))
     refine tRet ?_
     obtain rfl := si H
     exact back2 () rfl (ResV.tmp (v := .int .i64 (x63.2)) rfl) (ResV.tmp (v := .bool (false)) rfl) rfl Ents.nil (.cons Del.here .nil)
noncomputable def p_slices_nextPowerOfTwo (v0 : Int) : Option (UInt64) := bd (p_math_bits_Len (w64 v0)) fun r1 => gd (0 ≤ r1) <| some (wl (1 : UInt64) r1)
theorem c_slices_nextPowerOfTwo {r : UInt64} (v0 : Int) (H : p_slices_nextPowerOfTwo v0 = some r) : Fn' Tryz.prog 164 #[.int .i64 (v0)] [] [] (ι := Unit) (fun _ => .int .u64 (r.toNat : Int)) (fun _ => []) (fun _ => []) := by
 refine calls_of (args := [_]) Tryz.func164 rfl (by kernel_rfl) Tryz.ntmps164 (by simp) fun c => ?_
 unfold p_slices_nextPowerOfTwo at H
 refine Tr.seq (Tr.region (Rg.a rfl (Rg.nl (nT (?_)))))
 refine Tr.seq (Tr.region (Rg.m rfl (Rg.p (v := .int .u64 ((w64 v0).toNat : Int)) (p_iw Tryz.underlying3 Tryz.underlying172 rfl) ?_)))
 obtain ⟨r1, h2, H⟩ := bd.of H
 refine Rg.o (q_call (c_math_bits_Len (w64 v0) h2) rfl EntsB.nil) ?_
 obtain ⟨h3, H⟩ := gd.of H
 refine Rg.p (v := .int .u64 ((wl (1 : UInt64) r1).toNat : Int)) (p_wshl (k := r1) rfl rfl h3) (Rg.a rfl (Rg.nl (nT (?_))))
 refine tRet ?_
 obtain rfl := si H
 exact bk1 rfl rfl rfl rfl Take.nil
end Go.Proofs.YtjaibcpidajdcaaGreat
