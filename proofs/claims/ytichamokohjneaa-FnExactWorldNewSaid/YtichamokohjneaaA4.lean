/- The walks and the plain laws, part 4: each function that the law reaches computes what its plain function tells, and what the plain functions answer. Conditions: lengths that memory can hold. -/
import Derived.Test.YtichamokohjneaaA3
namespace Go.Proofs.Ytichamokohjneaa
open Go Go.Sx
theorem c_laws_eqFile {r : Bool} (v0 : File) (x_v0 : Unit × ((Option Addr × Nat) × (Option Addr × Nat))) (v1 : File) (x_v1 : Unit × ((Option Addr × Nat) × (Option Addr × Nat))) (H : p_laws_eqFile v0 v1 = some r) : Fn' Try.prog 149 #[.agg #[.int .i64 (v0.1), .slice x_v0.2.1.1 v0.2.1.length x_v0.2.1.2, .slice x_v0.2.2.1 v0.2.2.length x_v0.2.2.2], .agg #[.int .i64 (v1.1), .slice x_v1.2.1.1 v1.2.1.length x_v1.2.1.2, .slice x_v1.2.2.1 v1.2.2.length x_v1.2.2.2]] [imm (.slice x_v0.2.1.1 v0.2.1.length x_v0.2.1.2) v0.2.1, imm (.slice x_v0.2.2.1 v0.2.2.length x_v0.2.2.2) v0.2.2, imm (.slice x_v1.2.1.1 v1.2.1.length x_v1.2.1.2) v1.2.1, imm (.slice x_v1.2.2.1 v1.2.2.length x_v1.2.2.2) v1.2.2] [] (ι := Unit) (fun _ => .bool (r)) (fun _ => []) (fun _ => []) := by
 refine calls_of (args := [_, _]) Try.func149 rfl (by kernel_rfl) Try.ntmps149 (by simp) fun c => ?_
 unfold p_laws_eqFile at H
 refine Tr.openD Ent.z.s fun X1 => ?_
 refine Tr.openD Ent.z.s.s.s.s fun X2 => ?_
 refine Tr.seq (Tr.region ?_)
 refine Rg.ed (e_box (t := 174) (v := .agg #[.int .i64 (v0.1), .slice x_v0.2.1.1 v0.2.1.length x_v0.2.1.2, .slice x_v0.2.2.1 v0.2.2.length x_v0.2.2.2]) rfl) rfl (by decide) ?_
 rintro _ _ _ ⟨g3, rfl, rfl, rfl⟩
 refine Rg.ed (e_box (t := 174) (v := .agg #[.int .i64 (v1.1), .slice x_v1.2.1.1 v1.2.1.length x_v1.2.1.2, .slice x_v1.2.2.1 v1.2.2.length x_v1.2.2.2]) rfl) rfl (by decide) ?_
 rintro _ _ _ ⟨g4, rfl, rfl, rfl⟩
 refine Rg.q (v := .bool (false)) (Pu.qo (p_assign rfl)) (by decide) ?_
 refine Rg.nl (nT ?_)
 refine Tr.seq (Tr.seq (Tr.region ?_))
 refine Rg.q (v := .pointer (some ⟨g3, 0, none⟩)) (Pu.qo (p_fabE fa174_0 rfl rfl)) (by decide) ?_
 refine Rg.q (v := .int .i64 (v0.1)) (q_ldb ty3 rfl Has.here.there rfl) (by decide) ?_
 refine Rg.q (v := .pointer (some ⟨g4, 0, none⟩)) (Pu.qo (p_fabE fa174_0 rfl rfl)) (by decide) ?_
 refine Rg.q (v := .int .i64 (v1.1)) (q_ldb ty3 rfl Has.here rfl) (by decide) ?_
 refine Rg.q (v := .bool (!decide (v0.1 = v1.1))) (Pu.qo (p_neq rfl rfl)) (by decide) ?_
 refine Rg.nl (nT ?_)
 refine Tr.cond (b := !decide (v0.1 = v1.1)) rfl (fun h5 => ?_) (fun h5 => ?_)
 ·have H := cdT h5 H
  refine Tr.seq (Tr.region ?_)
  refine Rg.q (v := .bool (false)) (Pu.qo (p_assign rfl)) (by decide) ?_
  refine Rg.nl (nT ?_)
  refine tRet ?_
  refine rT (?_)
  have hr := Option.some.inj H; subst hr
  exact back1 () rfl (ResV.tmp (v := .bool (false)) rfl) rfl Ents.nil Take.nil
 ·have H := cdF h5 H
  refine tSkip ?_
  refine nT (?_)
  refine Tr.seq (Tr.seq (Tr.region ?_))
  refine Rg.q (v := .pointer (some ⟨g3, 1, none⟩)) (Pu.qo (p_fabE fa174_1 rfl rfl)) (by decide) ?_
  refine Rg.q (v := .agg #[.slice x_v0.2.1.1 v0.2.1.length x_v0.2.1.2, .slice x_v0.2.2.1 v0.2.2.length x_v0.2.2.2]) (q_ldbP [.slice x_v0.2.1.1 v0.2.1.length x_v0.2.1.2, .slice x_v0.2.2.1 v0.2.2.length x_v0.2.2.2] ty164 rfl Has.here.there rfl rfl) (by decide) ?_
  refine Rg.q (v := .pointer (some ⟨g4, 1, none⟩)) (Pu.qo (p_fabE fa174_1 rfl rfl)) (by decide) ?_
  refine Rg.q (v := .agg #[.slice x_v1.2.1.1 v1.2.1.length x_v1.2.1.2, .slice x_v1.2.2.1 v1.2.2.length x_v1.2.2.2]) (q_ldbP [.slice x_v1.2.1.1 v1.2.1.length x_v1.2.1.2, .slice x_v1.2.2.1 v1.2.2.length x_v1.2.2.2] ty164 rfl Has.here rfl rfl) (by decide) ?_
  obtain ⟨r6, h7, H⟩ := bd.of H
  refine Rg.q (v := .bool (r6)) (q_call (vs := [.agg #[.slice x_v0.2.1.1 v0.2.1.length x_v0.2.1.2, .slice x_v0.2.2.1 v0.2.2.length x_v0.2.2.2], .agg #[.slice x_v1.2.1.1 v1.2.1.length x_v1.2.1.2, .slice x_v1.2.2.1 v1.2.2.length x_v1.2.2.2]]) (c_laws_eqPart v0.2 x_v0.2 v1.2 x_v1.2 h7) rfl (EntsB.cons (Ent.b Ent.z.s.s) (EntsB.cons (Ent.b (Ent.dimm Ent.z.s)) (EntsB.cons (Ent.b Ent.z.s.s.s.s) (EntsB.cons (Ent.b (Ent.dimm Ent.z)) EntsB.nil))))) (by decide) ?_
  refine Rg.q (v := .bool (!r6)) (Pu.qo (p_not rfl)) (by decide) ?_
  refine Rg.nl (nT ?_)
  refine Tr.cond (b := !r6) rfl (fun h8 => ?_) (fun h8 => ?_)
  ·have H := cdT h8 H
   refine Tr.seq (Tr.region ?_)
   refine Rg.q (v := .bool (false)) (Pu.qo (p_assign rfl)) (by decide) ?_
   refine Rg.nl (nT ?_)
   refine tRet ?_
   refine rT (?_)
   have hr := Option.some.inj H; subst hr
   exact back1 () rfl (ResV.tmp (v := .bool (false)) rfl) rfl Ents.nil Take.nil
  ·have H := cdF h8 H
   refine tSkip ?_
   refine nT (?_)
   refine Tr.seq (Tr.region ?_)
   refine Rg.q (v := .bool (true)) (Pu.qo (p_assign rfl)) (by decide) ?_
   refine Rg.nl (nT ?_)
   refine tRet ?_
   have hr := Option.some.inj H; subst hr
   exact back1 () rfl (ResV.tmp (v := .bool (true)) rfl) rfl Ents.nil Take.nil
noncomputable def p_laws_eqFileS_b0 (v0 : (List File)) (v1 : (List File)) (Q8 : Int) : Option ((Int) ⊕ (Unit ⊕ Bool)) := cond (decide (Q8 < (v0.length : Int))) (gd (ix Q8 v0.length) <| gd (ix Q8 v1.length) <| bd (p_laws_eqFile (nth v0 Q8.toNat) (nth v1 Q8.toNat)) fun r19 => cond (!r19) (some (.inr (.inr false))) (gd (I64 (Q8 + 1)) <| some (.inl (Q8 + 1)))) (some (.inr (.inl ())))
noncomputable def p_laws_eqFileS (v0 : (List File)) (v1 : (List File)) : Option (Bool) := cond (!decide ((v0.length : Int) = (v1.length : Int))) (some false) (bd (lp (p_laws_eqFileS_b0 v0 v1) 0) <| sw (fun _ => some true) (fun q => some q))
theorem c_laws_eqFileS {r : Bool} (v0 : (List File)) (x_v0 : Option Addr × Nat) (v1 : (List File)) (x_v1 : Option Addr × Nat) (H : p_laws_eqFileS v0 v1 = some r) : Fn' Try.prog 134 #[.slice x_v0.1 v0.length x_v0.2, .slice x_v1.1 v1.length x_v1.2] [imm (.slice x_v0.1 v0.length x_v0.2) v0, imm (.slice x_v1.1 v1.length x_v1.2) v1] [] (ι := Unit) (fun _ => .bool (r)) (fun _ => []) (fun _ => []) := by
 refine calls_of (args := [_, _]) Try.func134 rfl (by kernel_rfl) Try.ntmps134 (by simp) fun c => ?_
 unfold p_laws_eqFileS at H
 refine Tr.openD Ent.z fun X1 => ?_
 refine Tr.openD Ent.z.s.s fun X2 => ?_
 refine Tr.seq (Tr.region ?_)
 refine Rg.q (v := .bool (false)) (Pu.qo (p_assign rfl)) (by decide) ?_
 refine Rg.nl (nT ?_)
 refine Tr.seq (Tr.seq (Tr.region ?_))
 refine Rg.q (v := .slice x_v0.1 v0.length x_v0.2) (Pu.qo (p_move rfl)) (by decide) ?_
 refine Rg.q (v := .int .i64 ((v0.length : Int))) (Pu.qo (p_len 174 Try.underlying79 rfl)) (by decide) ?_
 refine Rg.q (v := .slice x_v1.1 v1.length x_v1.2) (Pu.qo (p_move rfl)) (by decide) ?_
 refine Rg.q (v := .int .i64 ((v1.length : Int))) (Pu.qo (p_len 174 Try.underlying79 rfl)) (by decide) ?_
 refine Rg.q (v := .bool (!decide ((v0.length : Int) = (v1.length : Int)))) (Pu.qo (p_neq rfl rfl)) (by decide) ?_
 refine Rg.nl (nT ?_)
 refine Tr.cond (b := !decide ((v0.length : Int) = (v1.length : Int))) rfl (fun h3 => ?_) (fun h3 => ?_)
 ·have H := cdT h3 H
  refine Tr.seq (Tr.region ?_)
  refine Rg.q (v := .bool (false)) (Pu.qo (p_assign rfl)) (by decide) ?_
  refine Rg.nl (nT ?_)
  refine tRet ?_
  refine rT (?_)
  have hr := Option.some.inj H; subst hr
  exact back1 () rfl (ResV.tmp (v := .bool (false)) rfl) rfl Ents.nil Take.nil
 ·have H := cdF h3 H
  refine tSkip ?_
  refine nT (?_)
  refine Tr.seq (Tr.seq (Tr.region ?_))
  refine Rg.q (v := .int .i64 (0)) (Pu.qo (p_assign rfl)) (by decide) ?_
  refine Rg.nl (nT ?_)
  obtain ⟨x4, hx5, H⟩ := bd.of H
  obtain ⟨n6, hx5⟩ := lp.of hx5
  refine tMidNC (ι := { q : (Unit) × Unit // x4 = .inl q.1 }) (fun ψ => []) (fun ψ => []) ?_ ?_
  ·refine Tr.block ?_
   refine tLoopC (ι := { q : Nat × (Int) × Unit // itr (p_laws_eqFileS_b0 v0 v1) q.1 q.2.1 = some x4 }) (fun ζ => [(0, .slice x_v0.1 v0.length x_v0.2), (1, .slice x_v1.1 v1.length x_v1.2), (5, .int .i64 (ζ.1.2.1))]) (fun ζ => []) (fun ζ => ζ.1.1) ⟨(n6, 0, ()), hx5⟩ ⟨rfl, rfl, rfl, trivial⟩ Take.nil ?_
   rintro ⟨⟨m7, Q8, z9⟩, hk14⟩
   obtain ⟨m15, t11, e, H1, hi12, hb13⟩ := itr.of (n := m7) (s := Q8) hk14
   subst e; unfold p_laws_eqFileS_b0 at H1
   show Tr _ _ _ _ _ [(0, .slice x_v0.1 v0.length x_v0.2), (1, .slice x_v1.1 v1.length x_v1.2), (5, .int .i64 (Q8))] _ []
   refine Tr.seq (Tr.seq (Tr.region ?_))
   refine Rg.q (v := .int .i64 (Q8)) (Pu.qo (p_move rfl)) (by decide) ?_
   refine Rg.q (v := .slice x_v0.1 v0.length x_v0.2) (Pu.qo (p_move rfl)) (by decide) ?_
   refine Rg.q (v := .int .i64 ((v0.length : Int))) (Pu.qo (p_len 174 Try.underlying79 rfl)) (by decide) ?_
   refine Rg.q (v := .bool (decide (Q8 < (v0.length : Int)))) (Pu.qo (p_lss rfl rfl)) (by decide) ?_
   refine Rg.nl (nT ?_)
   refine Tr.cond (b := decide (Q8 < (v0.length : Int))) rfl (fun h16 => ?_) (fun h16 => ?_)
   ·have H1 := cdT h16 H1
    refine tSkip ?_
    refine nT (Tr.seq ?_)
    refine Tr.block ?_
    refine Tr.seq ?_
    refine tLinS [(0, .slice x_v0.1 v0.length x_v0.2), (1, .slice x_v1.1 v1.length x_v1.2), (5, .int .i64 (Q8))] Try.mixed (.inr (by kernel_rfl)) ⟨rfl, rfl, rfl, trivial⟩ rfl ?_
    refine Lin.q (v := .slice x_v0.1 v0.length x_v0.2) (by decide) (Pu.qo (p_move rfl)) ?_
    refine Lin.q (v := .int .i64 (Q8)) (by decide) (Pu.qo (p_move rfl)) ?_
    obtain ⟨h17, H1⟩ := gd.of H1
    refine Lin.q (v := elp x_v0.1 (Q8.toNat * Enc.sz File + 0)) (by decide) (q_ixg (l := v0) (E := fun i => Dp.denc (nth v0 i) (X1 i)) (oa := x_v0.1) Try.underlying79 ty174 rfl rfl h17 rfl (Ent.b (Ent.darr Ent.z.s))) ?_
    refine Lin.q (v := .agg #[.int .i64 ((nth v0 Q8.toNat).1), .slice ((((X1 Q8.toNat).2).1).1) ((((nth v0 Q8.toNat).2).1).length) ((((X1 Q8.toNat).2).1).2.1), .slice ((((X1 Q8.toNat).2).2).1) ((((nth v0 Q8.toNat).2).2).length) ((((X1 Q8.toNat).2).2).2.1)]) (by decide) (q_ldeA (l := v0) (E := fun i => Dp.denc (nth v0 i) (X1 i)) (oa := x_v0.1) (i := Q8.toNat) ty174 rfl (Ent.b (Ent.darr Ent.z.s)) h17.lt) ?_
    refine Lin.q (v := .slice x_v1.1 v1.length x_v1.2) (by decide) (Pu.qo (p_move rfl)) ?_
    refine Lin.q (v := .int .i64 (Q8)) (by decide) (Pu.qo (p_move rfl)) ?_
    obtain ⟨h18, H1⟩ := gd.of H1
    refine Lin.q (v := elp x_v1.1 (Q8.toNat * Enc.sz File + 0)) (by decide) (q_ixg (l := v1) (E := fun i => Dp.denc (nth v1 i) (X2 i)) (oa := x_v1.1) Try.underlying79 ty174 rfl rfl h18 rfl (Ent.b (Ent.darr Ent.z))) ?_
    refine Lin.q (v := .agg #[.int .i64 ((nth v1 Q8.toNat).1), .slice ((((X2 Q8.toNat).2).1).1) ((((nth v1 Q8.toNat).2).1).length) ((((X2 Q8.toNat).2).1).2.1), .slice ((((X2 Q8.toNat).2).2).1) ((((nth v1 Q8.toNat).2).2).length) ((((X2 Q8.toNat).2).2).2.1)]) (by decide) (q_ldeA (l := v1) (E := fun i => Dp.denc (nth v1 i) (X2 i)) (oa := x_v1.1) (i := Q8.toNat) ty174 rfl (Ent.b (Ent.darr Ent.z)) h18.lt) ?_
    obtain ⟨r19, h20, H1⟩ := bd.of H1
    refine Lin.q (v := .bool (r19)) (by decide) (q_call (vs := [.agg #[.int .i64 ((nth v0 Q8.toNat).1), .slice ((((X1 Q8.toNat).2).1).1) ((((nth v0 Q8.toNat).2).1).length) ((((X1 Q8.toNat).2).1).2.1), .slice ((((X1 Q8.toNat).2).2).1) ((((nth v0 Q8.toNat).2).2).length) ((((X1 Q8.toNat).2).2).2.1)], .agg #[.int .i64 ((nth v1 Q8.toNat).1), .slice ((((X2 Q8.toNat).2).1).1) ((((nth v1 Q8.toNat).2).1).length) ((((X2 Q8.toNat).2).1).2.1), .slice ((((X2 Q8.toNat).2).2).1) ((((nth v1 Q8.toNat).2).2).length) ((((X2 Q8.toNat).2).2).2.1)]]) (c_laws_eqFile (nth v0 Q8.toNat) ((), (((((X1 Q8.toNat).2).1).1, (((X1 Q8.toNat).2).1).2.1), ((((X1 Q8.toNat).2).2).1, (((X1 Q8.toNat).2).2).2.1))) (nth v1 Q8.toNat) ((), (((((X2 Q8.toNat).2).1).1, (((X2 Q8.toNat).2).1).2.1), ((((X2 Q8.toNat).2).2).1, (((X2 Q8.toNat).2).2).2.1))) h20) rfl (EntsB.cons (Ent.b (Ent.dimm (Ent.dfst (Ent.dsnd (Ent.del Ent.z.s h17.lt))))) (EntsB.cons (Ent.b (Ent.dimm (Ent.dsnd (Ent.dsnd (Ent.del Ent.z.s h17.lt))))) (EntsB.cons (Ent.b (Ent.dimm (Ent.dfst (Ent.dsnd (Ent.del Ent.z h18.lt))))) (EntsB.cons (Ent.b (Ent.dimm (Ent.dsnd (Ent.dsnd (Ent.del Ent.z h18.lt))))) EntsB.nil))))) ?_
    refine Lin.q (v := .bool (!r19)) (by decide) (Pu.qo (p_not rfl)) ?_
    show At _ _ _ _ _ _
    refine nT (?_)
    refine Tr.cond (b := !r19) rfl (fun h21 => ?_) (fun h21 => ?_)
    ·have H1 := cdT h21 H1
     refine Tr.seq (Tr.region ?_)
     refine Rg.q (v := .bool (false)) (Pu.qo (p_assign rfl)) (by decide) ?_
     refine Rg.nl (nT ?_)
     refine tRet ?_
     refine rB (rT (rT (rB (rT (rT (?_))))))
     have hx := hb13 _ (Option.some.inj H1).symm; subst hx
     replace H := sw.r H
     have hr := Option.some.inj H; subst hr
     exact back1 () rfl (ResV.tmp (v := .bool (false)) rfl) rfl Ents.nil Take.nil
    ·have H1 := cdF h21 H1
     refine tSkip ?_
     refine nB (nT (?_))
     refine Tr.region ?_
     refine Rg.q (v := .int .i64 (Q8)) (Pu.qo (p_move rfl)) (by decide) ?_
     obtain ⟨h22, H1⟩ := gd.of H1
     refine Rg.q (v := .int .i64 (Q8 + 1)) (Pu.qo (p_add rfl rfl h22)) (by decide) ?_
     refine Rg.q (v := .int .i64 (Q8 + 1)) (Pu.qo (p_assign rfl)) (by decide) ?_
     refine Rg.nl ?_
     exact nLC ⟨(m15, Q8 + 1, ()), hi12 _ (Option.some.inj H1).symm⟩ (Nat.lt_succ_self _) ⟨rfl, rfl, rfl, trivial⟩ Ents.refl Take.nil
   ·have H1 := cdF h16 H1
    refine tExit (xT (xT (xE (?_))))
    exact nMC ⟨((), ()), (hb13 _ (Option.some.inj H1).symm).symm⟩ trivial Ents.refl Take.nil
  ·rintro ⟨⟨e23, y10⟩, hx⟩; subst hx; replace H := sw.l H
   show At _ _ [] _ [] _
   refine nT (?_)
   refine Tr.seq (Tr.region ?_)
   refine Rg.q (v := .bool (true)) (Pu.qo (p_assign rfl)) (by decide) ?_
   refine Rg.nl (nT ?_)
   refine tRet ?_
   have hr := Option.some.inj H; subst hr
   exact back1 () rfl (ResV.tmp (v := .bool (true)) rfl) rfl Ents.nil Take.nil
noncomputable def p_laws_eqDisk (v0 : Disk) (v1 : Disk) : Option (Bool) := bd (p_laws_eqFileS v0.1 v1.1) fun r7 => cond (!r7) (some false) (bd (p_laws_eqIntS v0.2.1 v1.2.1) fun r10 => cond (!r10) (some false) (bd (p_laws_eqTagSS v0.2.2.1 v1.2.2.1) fun r13 => cond (!r13) (some false) (cond (!decide (v0.2.2.2 = v1.2.2.2)) (some false) (some true))))
theorem c_laws_eqDisk {r : Bool} (v0 : Disk) (x_v0 : (Option Addr × Nat) × (Option Addr × Nat) × (Option Addr × Nat) × Unit) (v1 : Disk) (x_v1 : (Option Addr × Nat) × (Option Addr × Nat) × (Option Addr × Nat) × Unit) (H : p_laws_eqDisk v0 v1 = some r) : Fn' Try.prog 101 #[.agg #[.slice x_v0.1.1 v0.1.length x_v0.1.2, .slice x_v0.2.1.1 v0.2.1.length x_v0.2.1.2, .slice x_v0.2.2.1.1 v0.2.2.1.length x_v0.2.2.1.2, .int .i64 (v0.2.2.2)], .agg #[.slice x_v1.1.1 v1.1.length x_v1.1.2, .slice x_v1.2.1.1 v1.2.1.length x_v1.2.1.2, .slice x_v1.2.2.1.1 v1.2.2.1.length x_v1.2.2.1.2, .int .i64 (v1.2.2.2)]] [imm (.slice x_v0.1.1 v0.1.length x_v0.1.2) v0.1, imm (.slice x_v0.2.1.1 v0.2.1.length x_v0.2.1.2) v0.2.1, imm (.slice x_v0.2.2.1.1 v0.2.2.1.length x_v0.2.2.1.2) v0.2.2.1, imm (.slice x_v1.1.1 v1.1.length x_v1.1.2) v1.1, imm (.slice x_v1.2.1.1 v1.2.1.length x_v1.2.1.2) v1.2.1, imm (.slice x_v1.2.2.1.1 v1.2.2.1.length x_v1.2.2.1.2) v1.2.2.1] [] (ι := Unit) (fun _ => .bool (r)) (fun _ => []) (fun _ => []) := by
 refine calls_of (args := [_, _]) Try.func101 rfl (by kernel_rfl) Try.ntmps101 (by simp) fun c => ?_
 unfold p_laws_eqDisk at H
 refine Tr.openD Ent.z fun X1 => ?_
 refine Tr.openD Ent.z.s.s.s fun X2 => ?_
 refine Tr.openD Ent.z.s.s.s.s.s fun X3 => ?_
 refine Tr.openD Ent.z.s.s.s.s.s.s.s.s fun X4 => ?_
 refine Tr.seq (Tr.region ?_)
 refine Rg.ed (e_box (t := 81) (v := .agg #[.slice x_v0.1.1 v0.1.length x_v0.1.2, .slice x_v0.2.1.1 v0.2.1.length x_v0.2.1.2, .slice x_v0.2.2.1.1 v0.2.2.1.length x_v0.2.2.1.2, .int .i64 (v0.2.2.2)]) rfl) rfl (by decide) ?_
 rintro _ _ _ ⟨g5, rfl, rfl, rfl⟩
 refine Rg.ed (e_box (t := 81) (v := .agg #[.slice x_v1.1.1 v1.1.length x_v1.1.2, .slice x_v1.2.1.1 v1.2.1.length x_v1.2.1.2, .slice x_v1.2.2.1.1 v1.2.2.1.length x_v1.2.2.1.2, .int .i64 (v1.2.2.2)]) rfl) rfl (by decide) ?_
 rintro _ _ _ ⟨g6, rfl, rfl, rfl⟩
 refine Rg.q (v := .bool (false)) (Pu.qo (p_assign rfl)) (by decide) ?_
 refine Rg.nl (nT ?_)
 refine Tr.seq (Tr.seq (Tr.region ?_))
 refine Rg.q (v := .pointer (some ⟨g5, 0, none⟩)) (Pu.qo (p_fabE fa81_0 rfl rfl)) (by decide) ?_
 refine Rg.q (v := .slice x_v0.1.1 v0.1.length x_v0.1.2) (q_ldb ty79 rfl Has.here.there rfl) (by decide) ?_
 refine Rg.q (v := .pointer (some ⟨g6, 0, none⟩)) (Pu.qo (p_fabE fa81_0 rfl rfl)) (by decide) ?_
 refine Rg.q (v := .slice x_v1.1.1 v1.1.length x_v1.1.2) (q_ldb ty79 rfl Has.here rfl) (by decide) ?_
 obtain ⟨r7, h8, H⟩ := bd.of H
 refine Rg.q (v := .bool (r7)) (q_call (vs := [.slice x_v0.1.1 v0.1.length x_v0.1.2, .slice x_v1.1.1 v1.1.length x_v1.1.2]) (c_laws_eqFileS v0.1 x_v0.1 v1.1 x_v1.1 h8) rfl (EntsB.cons (Ent.b (Ent.dimm Ent.z.s.s.s)) (EntsB.cons (Ent.b (Ent.dimm Ent.z.s)) EntsB.nil))) (by decide) ?_
 refine Rg.q (v := .bool (!r7)) (Pu.qo (p_not rfl)) (by decide) ?_
 refine Rg.nl (nT ?_)
 refine Tr.cond (b := !r7) rfl (fun h9 => ?_) (fun h9 => ?_)
 ·have H := cdT h9 H
  refine Tr.seq (Tr.region ?_)
  refine Rg.q (v := .bool (false)) (Pu.qo (p_assign rfl)) (by decide) ?_
  refine Rg.nl (nT ?_)
  refine tRet ?_
  refine rT (?_)
  have hr := Option.some.inj H; subst hr
  exact back1 () rfl (ResV.tmp (v := .bool (false)) rfl) rfl Ents.nil Take.nil
 ·have H := cdF h9 H
  refine tSkip ?_
  refine nT (?_)
  refine Tr.seq (Tr.seq (Tr.region ?_))
  refine Rg.q (v := .pointer (some ⟨g5, 1, none⟩)) (Pu.qo (p_fabE fa81_1 rfl rfl)) (by decide) ?_
  refine Rg.q (v := .slice x_v0.2.1.1 v0.2.1.length x_v0.2.1.2) (q_ldb ty31 rfl Has.here.there rfl) (by decide) ?_
  refine Rg.q (v := .pointer (some ⟨g6, 1, none⟩)) (Pu.qo (p_fabE fa81_1 rfl rfl)) (by decide) ?_
  refine Rg.q (v := .slice x_v1.2.1.1 v1.2.1.length x_v1.2.1.2) (q_ldb ty31 rfl Has.here rfl) (by decide) ?_
  obtain ⟨r10, h11, H⟩ := bd.of H
  refine Rg.q (v := .bool (r10)) (q_call (vs := [.slice x_v0.2.1.1 v0.2.1.length x_v0.2.1.2, .slice x_v1.2.1.1 v1.2.1.length x_v1.2.1.2]) (c_laws_eqIntS v0.2.1 x_v0.2.1 v1.2.1 x_v1.2.1 h11) rfl (EntsB.cons (Ent.b Ent.z.s.s.s.s.s) (EntsB.cons (Ent.b Ent.z.s.s.s.s.s.s.s.s) EntsB.nil))) (by decide) ?_
  refine Rg.q (v := .bool (!r10)) (Pu.qo (p_not rfl)) (by decide) ?_
  refine Rg.nl (nT ?_)
  refine Tr.cond (b := !r10) rfl (fun h12 => ?_) (fun h12 => ?_)
  ·have H := cdT h12 H
   refine Tr.seq (Tr.region ?_)
   refine Rg.q (v := .bool (false)) (Pu.qo (p_assign rfl)) (by decide) ?_
   refine Rg.nl (nT ?_)
   refine tRet ?_
   refine rT (?_)
   have hr := Option.some.inj H; subst hr
   exact back1 () rfl (ResV.tmp (v := .bool (false)) rfl) rfl Ents.nil Take.nil
  ·have H := cdF h12 H
   refine tSkip ?_
   refine nT (?_)
   refine Tr.seq (Tr.seq (Tr.region ?_))
   refine Rg.q (v := .pointer (some ⟨g5, 2, none⟩)) (Pu.qo (p_fabE fa81_2 rfl rfl)) (by decide) ?_
   refine Rg.q (v := .slice x_v0.2.2.1.1 v0.2.2.1.length x_v0.2.2.1.2) (q_ldb ty23 rfl Has.here.there rfl) (by decide) ?_
   refine Rg.q (v := .pointer (some ⟨g6, 2, none⟩)) (Pu.qo (p_fabE fa81_2 rfl rfl)) (by decide) ?_
   refine Rg.q (v := .slice x_v1.2.2.1.1 v1.2.2.1.length x_v1.2.2.1.2) (q_ldb ty23 rfl Has.here rfl) (by decide) ?_
   obtain ⟨r13, h14, H⟩ := bd.of H
   refine Rg.q (v := .bool (r13)) (q_call (vs := [.slice x_v0.2.2.1.1 v0.2.2.1.length x_v0.2.2.1.2, .slice x_v1.2.2.1.1 v1.2.2.1.length x_v1.2.2.1.2]) (c_laws_eqTagSS v0.2.2.1 x_v0.2.2.1 v1.2.2.1 x_v1.2.2.1 h14) rfl (EntsB.cons (Ent.b (Ent.dimm Ent.z.s.s)) (EntsB.cons (Ent.b (Ent.dimm Ent.z)) EntsB.nil))) (by decide) ?_
   refine Rg.q (v := .bool (!r13)) (Pu.qo (p_not rfl)) (by decide) ?_
   refine Rg.nl (nT ?_)
   refine Tr.cond (b := !r13) rfl (fun h15 => ?_) (fun h15 => ?_)
   ·have H := cdT h15 H
    refine Tr.seq (Tr.region ?_)
    refine Rg.q (v := .bool (false)) (Pu.qo (p_assign rfl)) (by decide) ?_
    refine Rg.nl (nT ?_)
    refine tRet ?_
    refine rT (?_)
    have hr := Option.some.inj H; subst hr
    exact back1 () rfl (ResV.tmp (v := .bool (false)) rfl) rfl Ents.nil Take.nil
   ·have H := cdF h15 H
    refine tSkip ?_
    refine nT (?_)
    refine Tr.seq (Tr.seq (Tr.region ?_))
    refine Rg.q (v := .pointer (some ⟨g5, 3, none⟩)) (Pu.qo (p_fabE fa81_3 rfl rfl)) (by decide) ?_
    refine Rg.q (v := .int .i64 (v0.2.2.2)) (q_ldb ty3 rfl Has.here.there rfl) (by decide) ?_
    refine Rg.q (v := .pointer (some ⟨g6, 3, none⟩)) (Pu.qo (p_fabE fa81_3 rfl rfl)) (by decide) ?_
    refine Rg.q (v := .int .i64 (v1.2.2.2)) (q_ldb ty3 rfl Has.here rfl) (by decide) ?_
    refine Rg.q (v := .bool (!decide (v0.2.2.2 = v1.2.2.2))) (Pu.qo (p_neq rfl rfl)) (by decide) ?_
    refine Rg.nl (nT ?_)
    refine Tr.cond (b := !decide (v0.2.2.2 = v1.2.2.2)) rfl (fun h16 => ?_) (fun h16 => ?_)
    ·have H := cdT h16 H
     refine Tr.seq (Tr.region ?_)
     refine Rg.q (v := .bool (false)) (Pu.qo (p_assign rfl)) (by decide) ?_
     refine Rg.nl (nT ?_)
     refine tRet ?_
     refine rT (?_)
     have hr := Option.some.inj H; subst hr
     exact back1 () rfl (ResV.tmp (v := .bool (false)) rfl) rfl Ents.nil Take.nil
    ·have H := cdF h16 H
     refine tSkip ?_
     refine nT (?_)
     refine Tr.seq (Tr.region ?_)
     refine Rg.q (v := .bool (true)) (Pu.qo (p_assign rfl)) (by decide) ?_
     refine Rg.nl (nT ?_)
     refine tRet ?_
     have hr := Option.some.inj H; subst hr
     exact back1 () rfl (ResV.tmp (v := .bool (true)) rfl) rfl Ents.nil Take.nil
noncomputable def p_laws_eqWorld (v0 : World) (v1 : World) : Option (Bool) := bd (p_laws_eqStore v0.1 v1.1) fun r13 => cond (!r13) (some false) (bd (p_laws_eqDisk v0.2 v1.2) fun r16 => cond (!r16) (some false) (some true))
theorem c_laws_eqWorld {r : Bool} (v0 : World) (x_v0 : (((Option Addr × Nat) × (Option Addr × Nat)) × (Option Addr × Nat) × (Option Addr × Nat)) × ((Option Addr × Nat) × (Option Addr × Nat) × (Option Addr × Nat) × Unit)) (v1 : World) (x_v1 : (((Option Addr × Nat) × (Option Addr × Nat)) × (Option Addr × Nat) × (Option Addr × Nat)) × ((Option Addr × Nat) × (Option Addr × Nat) × (Option Addr × Nat) × Unit)) (H : p_laws_eqWorld v0 v1 = some r) : Fn' Try.prog 52 #[.agg #[.slice x_v0.1.1.1.1 v0.1.1.1.length x_v0.1.1.1.2, .slice x_v0.1.1.2.1 v0.1.1.2.length x_v0.1.1.2.2, .slice x_v0.1.2.1.1 v0.1.2.1.length x_v0.1.2.1.2, .slice x_v0.1.2.2.1 v0.1.2.2.length x_v0.1.2.2.2, .slice x_v0.2.1.1 v0.2.1.length x_v0.2.1.2, .slice x_v0.2.2.1.1 v0.2.2.1.length x_v0.2.2.1.2, .slice x_v0.2.2.2.1.1 v0.2.2.2.1.length x_v0.2.2.2.1.2, .int .i64 (v0.2.2.2.2)], .agg #[.slice x_v1.1.1.1.1 v1.1.1.1.length x_v1.1.1.1.2, .slice x_v1.1.1.2.1 v1.1.1.2.length x_v1.1.1.2.2, .slice x_v1.1.2.1.1 v1.1.2.1.length x_v1.1.2.1.2, .slice x_v1.1.2.2.1 v1.1.2.2.length x_v1.1.2.2.2, .slice x_v1.2.1.1 v1.2.1.length x_v1.2.1.2, .slice x_v1.2.2.1.1 v1.2.2.1.length x_v1.2.2.1.2, .slice x_v1.2.2.2.1.1 v1.2.2.2.1.length x_v1.2.2.2.1.2, .int .i64 (v1.2.2.2.2)]] [imm (.slice x_v0.1.1.1.1 v0.1.1.1.length x_v0.1.1.1.2) v0.1.1.1, imm (.slice x_v0.1.1.2.1 v0.1.1.2.length x_v0.1.1.2.2) v0.1.1.2, imm (.slice x_v0.1.2.1.1 v0.1.2.1.length x_v0.1.2.1.2) v0.1.2.1, imm (.slice x_v0.1.2.2.1 v0.1.2.2.length x_v0.1.2.2.2) v0.1.2.2, imm (.slice x_v0.2.1.1 v0.2.1.length x_v0.2.1.2) v0.2.1, imm (.slice x_v0.2.2.1.1 v0.2.2.1.length x_v0.2.2.1.2) v0.2.2.1, imm (.slice x_v0.2.2.2.1.1 v0.2.2.2.1.length x_v0.2.2.2.1.2) v0.2.2.2.1, imm (.slice x_v1.1.1.1.1 v1.1.1.1.length x_v1.1.1.1.2) v1.1.1.1, imm (.slice x_v1.1.1.2.1 v1.1.1.2.length x_v1.1.1.2.2) v1.1.1.2, imm (.slice x_v1.1.2.1.1 v1.1.2.1.length x_v1.1.2.1.2) v1.1.2.1, imm (.slice x_v1.1.2.2.1 v1.1.2.2.length x_v1.1.2.2.2) v1.1.2.2, imm (.slice x_v1.2.1.1 v1.2.1.length x_v1.2.1.2) v1.2.1, imm (.slice x_v1.2.2.1.1 v1.2.2.1.length x_v1.2.2.1.2) v1.2.2.1, imm (.slice x_v1.2.2.2.1.1 v1.2.2.2.1.length x_v1.2.2.2.1.2) v1.2.2.2.1] [] (ι := Unit) (fun _ => .bool (r)) (fun _ => []) (fun _ => []) := by
 refine calls_of (args := [_, _]) Try.func52 rfl (by kernel_rfl) Try.ntmps52 (by simp) fun c => ?_
 unfold p_laws_eqWorld at H
 refine Tr.openD Ent.z fun X1 => ?_
 refine Tr.openD Ent.z.s.s fun X2 => ?_
 refine Tr.openD Ent.z.s.s.s.s fun X3 => ?_
 refine Tr.openD Ent.z.s.s.s.s.s.s.s fun X4 => ?_
 refine Tr.openD Ent.z.s.s.s.s.s.s.s.s.s.s fun X5 => ?_
 refine Tr.openD Ent.z.s.s.s.s.s.s.s.s.s.s.s.s fun X6 => ?_
 refine Tr.openD Ent.z.s.s.s.s.s.s.s.s.s.s.s.s.s.s fun X7 => ?_
 refine Tr.openD Ent.z.s.s.s.s.s.s.s.s.s.s.s.s.s.s.s.s fun X8 => ?_
 refine Tr.openD Ent.z.s.s.s.s.s.s.s.s.s.s.s.s.s.s.s.s.s.s.s fun X9 => ?_
 refine Tr.openD Ent.z.s.s.s.s.s.s.s.s.s.s.s.s.s.s.s.s.s.s.s.s.s.s fun X10 => ?_
 refine Tr.seq (Tr.region ?_)
 refine Rg.ed (e_box (t := 83) (v := .agg #[.slice x_v0.1.1.1.1 v0.1.1.1.length x_v0.1.1.1.2, .slice x_v0.1.1.2.1 v0.1.1.2.length x_v0.1.1.2.2, .slice x_v0.1.2.1.1 v0.1.2.1.length x_v0.1.2.1.2, .slice x_v0.1.2.2.1 v0.1.2.2.length x_v0.1.2.2.2, .slice x_v0.2.1.1 v0.2.1.length x_v0.2.1.2, .slice x_v0.2.2.1.1 v0.2.2.1.length x_v0.2.2.1.2, .slice x_v0.2.2.2.1.1 v0.2.2.2.1.length x_v0.2.2.2.1.2, .int .i64 (v0.2.2.2.2)]) rfl) rfl (by decide) ?_
 rintro _ _ _ ⟨g11, rfl, rfl, rfl⟩
 refine Rg.ed (e_box (t := 83) (v := .agg #[.slice x_v1.1.1.1.1 v1.1.1.1.length x_v1.1.1.1.2, .slice x_v1.1.1.2.1 v1.1.1.2.length x_v1.1.1.2.2, .slice x_v1.1.2.1.1 v1.1.2.1.length x_v1.1.2.1.2, .slice x_v1.1.2.2.1 v1.1.2.2.length x_v1.1.2.2.2, .slice x_v1.2.1.1 v1.2.1.length x_v1.2.1.2, .slice x_v1.2.2.1.1 v1.2.2.1.length x_v1.2.2.1.2, .slice x_v1.2.2.2.1.1 v1.2.2.2.1.length x_v1.2.2.2.1.2, .int .i64 (v1.2.2.2.2)]) rfl) rfl (by decide) ?_
 rintro _ _ _ ⟨g12, rfl, rfl, rfl⟩
 refine Rg.q (v := .bool (false)) (Pu.qo (p_assign rfl)) (by decide) ?_
 refine Rg.nl (nT ?_)
 refine Tr.seq (Tr.seq (Tr.region ?_))
 refine Rg.q (v := .pointer (some ⟨g11, 0, none⟩)) (Pu.qo (p_fabE fa83_0 rfl rfl)) (by decide) ?_
 refine Rg.q (v := .agg #[.slice x_v0.1.1.1.1 v0.1.1.1.length x_v0.1.1.1.2, .slice x_v0.1.1.2.1 v0.1.1.2.length x_v0.1.1.2.2, .slice x_v0.1.2.1.1 v0.1.2.1.length x_v0.1.2.1.2, .slice x_v0.1.2.2.1 v0.1.2.2.length x_v0.1.2.2.2]) (q_ldbP [.slice x_v0.1.1.1.1 v0.1.1.1.length x_v0.1.1.1.2, .slice x_v0.1.1.2.1 v0.1.1.2.length x_v0.1.1.2.2, .slice x_v0.1.2.1.1 v0.1.2.1.length x_v0.1.2.1.2, .slice x_v0.1.2.2.1 v0.1.2.2.length x_v0.1.2.2.2] ty78 rfl Has.here.there rfl rfl) (by decide) ?_
 refine Rg.q (v := .pointer (some ⟨g12, 0, none⟩)) (Pu.qo (p_fabE fa83_0 rfl rfl)) (by decide) ?_
 refine Rg.q (v := .agg #[.slice x_v1.1.1.1.1 v1.1.1.1.length x_v1.1.1.1.2, .slice x_v1.1.1.2.1 v1.1.1.2.length x_v1.1.1.2.2, .slice x_v1.1.2.1.1 v1.1.2.1.length x_v1.1.2.1.2, .slice x_v1.1.2.2.1 v1.1.2.2.length x_v1.1.2.2.2]) (q_ldbP [.slice x_v1.1.1.1.1 v1.1.1.1.length x_v1.1.1.1.2, .slice x_v1.1.1.2.1 v1.1.1.2.length x_v1.1.1.2.2, .slice x_v1.1.2.1.1 v1.1.2.1.length x_v1.1.2.1.2, .slice x_v1.1.2.2.1 v1.1.2.2.length x_v1.1.2.2.2] ty78 rfl Has.here rfl rfl) (by decide) ?_
 obtain ⟨r13, h14, H⟩ := bd.of H
 refine Rg.q (v := .bool (r13)) (q_call (vs := [.agg #[.slice x_v0.1.1.1.1 v0.1.1.1.length x_v0.1.1.1.2, .slice x_v0.1.1.2.1 v0.1.1.2.length x_v0.1.1.2.2, .slice x_v0.1.2.1.1 v0.1.2.1.length x_v0.1.2.1.2, .slice x_v0.1.2.2.1 v0.1.2.2.length x_v0.1.2.2.2], .agg #[.slice x_v1.1.1.1.1 v1.1.1.1.length x_v1.1.1.1.2, .slice x_v1.1.1.2.1 v1.1.1.2.length x_v1.1.1.2.2, .slice x_v1.1.2.1.1 v1.1.2.1.length x_v1.1.2.1.2, .slice x_v1.1.2.2.1 v1.1.2.2.length x_v1.1.2.2.2]]) (c_laws_eqStore v0.1 x_v0.1 v1.1 x_v1.1 h14) rfl (EntsB.cons (Ent.b (Ent.dimm Ent.z.s.s.s.s.s.s.s.s.s)) (EntsB.cons (Ent.b (Ent.dimm Ent.z.s.s.s.s.s.s.s.s)) (EntsB.cons (Ent.b (Ent.dimm Ent.z.s.s.s.s.s.s.s)) (EntsB.cons (Ent.b Ent.z.s.s.s.s.s.s.s.s.s.s.s.s.s) (EntsB.cons (Ent.b (Ent.dimm Ent.z.s.s.s.s)) (EntsB.cons (Ent.b (Ent.dimm Ent.z.s.s.s)) (EntsB.cons (Ent.b (Ent.dimm Ent.z.s.s)) (EntsB.cons (Ent.b Ent.z.s.s.s.s.s.s.s.s.s.s.s.s.s.s.s.s.s.s.s.s) EntsB.nil))))))))) (by decide) ?_
 refine Rg.q (v := .bool (!r13)) (Pu.qo (p_not rfl)) (by decide) ?_
 refine Rg.nl (nT ?_)
 refine Tr.cond (b := !r13) rfl (fun h15 => ?_) (fun h15 => ?_)
 ·have H := cdT h15 H
  refine Tr.seq (Tr.region ?_)
  refine Rg.q (v := .bool (false)) (Pu.qo (p_assign rfl)) (by decide) ?_
  refine Rg.nl (nT ?_)
  refine tRet ?_
  refine rT (?_)
  have hr := Option.some.inj H; subst hr
  exact back1 () rfl (ResV.tmp (v := .bool (false)) rfl) rfl Ents.nil Take.nil
 ·have H := cdF h15 H
  refine tSkip ?_
  refine nT (?_)
  refine Tr.seq (Tr.seq (Tr.region ?_))
  refine Rg.q (v := .pointer (some ⟨g11, 4, none⟩)) (Pu.qo (p_fabE fa83_1 rfl rfl)) (by decide) ?_
  refine Rg.q (v := .agg #[.slice x_v0.2.1.1 v0.2.1.length x_v0.2.1.2, .slice x_v0.2.2.1.1 v0.2.2.1.length x_v0.2.2.1.2, .slice x_v0.2.2.2.1.1 v0.2.2.2.1.length x_v0.2.2.2.1.2, .int .i64 (v0.2.2.2.2)]) (q_ldbP [.slice x_v0.2.1.1 v0.2.1.length x_v0.2.1.2, .slice x_v0.2.2.1.1 v0.2.2.1.length x_v0.2.2.1.2, .slice x_v0.2.2.2.1.1 v0.2.2.2.1.length x_v0.2.2.2.1.2, .int .i64 (v0.2.2.2.2)] ty81 rfl Has.here.there rfl rfl) (by decide) ?_
  refine Rg.q (v := .pointer (some ⟨g12, 4, none⟩)) (Pu.qo (p_fabE fa83_1 rfl rfl)) (by decide) ?_
  refine Rg.q (v := .agg #[.slice x_v1.2.1.1 v1.2.1.length x_v1.2.1.2, .slice x_v1.2.2.1.1 v1.2.2.1.length x_v1.2.2.1.2, .slice x_v1.2.2.2.1.1 v1.2.2.2.1.length x_v1.2.2.2.1.2, .int .i64 (v1.2.2.2.2)]) (q_ldbP [.slice x_v1.2.1.1 v1.2.1.length x_v1.2.1.2, .slice x_v1.2.2.1.1 v1.2.2.1.length x_v1.2.2.1.2, .slice x_v1.2.2.2.1.1 v1.2.2.2.1.length x_v1.2.2.2.1.2, .int .i64 (v1.2.2.2.2)] ty81 rfl Has.here rfl rfl) (by decide) ?_
  obtain ⟨r16, h17, H⟩ := bd.of H
  refine Rg.q (v := .bool (r16)) (q_call (vs := [.agg #[.slice x_v0.2.1.1 v0.2.1.length x_v0.2.1.2, .slice x_v0.2.2.1.1 v0.2.2.1.length x_v0.2.2.1.2, .slice x_v0.2.2.2.1.1 v0.2.2.2.1.length x_v0.2.2.2.1.2, .int .i64 (v0.2.2.2.2)], .agg #[.slice x_v1.2.1.1 v1.2.1.length x_v1.2.1.2, .slice x_v1.2.2.1.1 v1.2.2.1.length x_v1.2.2.1.2, .slice x_v1.2.2.2.1.1 v1.2.2.2.1.length x_v1.2.2.2.1.2, .int .i64 (v1.2.2.2.2)]]) (c_laws_eqDisk v0.2 (x_v0.2.1, x_v0.2.2.1, x_v0.2.2.2.1, ()) v1.2 (x_v1.2.1, x_v1.2.2.1, x_v1.2.2.2.1, ()) h17) rfl (EntsB.cons (Ent.b (Ent.dimm Ent.z.s.s.s.s.s.s)) (EntsB.cons (Ent.b Ent.z.s.s.s.s.s.s.s.s.s.s.s.s.s.s.s) (EntsB.cons (Ent.b (Ent.dimm Ent.z.s.s.s.s.s)) (EntsB.cons (Ent.b (Ent.dimm Ent.z.s)) (EntsB.cons (Ent.b Ent.z.s.s.s.s.s.s.s.s.s.s.s.s.s.s.s.s.s.s.s.s.s.s) (EntsB.cons (Ent.b (Ent.dimm Ent.z)) EntsB.nil))))))) (by decide) ?_
  refine Rg.q (v := .bool (!r16)) (Pu.qo (p_not rfl)) (by decide) ?_
  refine Rg.nl (nT ?_)
  refine Tr.cond (b := !r16) rfl (fun h18 => ?_) (fun h18 => ?_)
  ·have H := cdT h18 H
   refine Tr.seq (Tr.region ?_)
   refine Rg.q (v := .bool (false)) (Pu.qo (p_assign rfl)) (by decide) ?_
   refine Rg.nl (nT ?_)
   refine tRet ?_
   refine rT (?_)
   have hr := Option.some.inj H; subst hr
   exact back1 () rfl (ResV.tmp (v := .bool (false)) rfl) rfl Ents.nil Take.nil
  ·have H := cdF h18 H
   refine tSkip ?_
   refine nT (?_)
   refine Tr.seq (Tr.region ?_)
   refine Rg.q (v := .bool (true)) (Pu.qo (p_assign rfl)) (by decide) ?_
   refine Rg.nl (nT ?_)
   refine tRet ?_
   have hr := Option.some.inj H; subst hr
   exact back1 () rfl (ResV.tmp (v := .bool (true)) rfl) rfl Ents.nil Take.nil
noncomputable def p_laws_markRowS_b0 (v0 : (List Row)) (Q5 : (List Row) × Int × Int) : Option (((List Row) × Int × Int) ⊕ (Int × (List Row))) := cond (decide (Q5.2.2 < (v0.length : Int))) (gd (ix Q5.2.2 Q5.1.length) <| gd (I64 (Q5.2.1 + 1)) <| gd (I64 ((Q5.2.1 + 1) + 1)) <| gd (I64 (Q5.2.2 + 1)) <| some (.inl ((Q5.1.set Q5.2.2.toNat (Q5.2.1, (Q5.2.1 + 1))), (Q5.2.1 + 1) + 1, Q5.2.2 + 1))) (some (.inr (Q5.2.1, Q5.1)))
noncomputable def p_laws_markRowS (v0 : (List Row)) (v1 : Int) : Option (Int × (List Row)) := bd (lp (p_laws_markRowS_b0 v0) (v0, v1, 0)) fun x1 => some (x1.1, x1.2)
theorem c_laws_markRowS {r : Int × (List Row)} (v0 : (List Row)) (x_v0 : Option Addr × Nat) (n_v0 : Nat) (e_v0 : n_v0 = v0.length) (v1 : Int) (H : p_laws_markRowS v0 v1 = some r) : Fn' Try.prog 164 #[.slice x_v0.1 n_v0 x_v0.2, .int .i64 (v1)] [] [tree (.slice x_v0.1 n_v0 x_v0.2) v0] (ι := Unit) (fun _ => .int .i64 (r.1)) (fun _ => []) (fun _ => [tree (.slice x_v0.1 n_v0 x_v0.2) r.2]) := by
 subst e_v0
 refine calls_of (args := [_, _]) Try.func164 rfl (by kernel_rfl) Try.ntmps164 (by simp) fun c => ?_
 unfold p_laws_markRowS at H
 refine Tr.seq (Tr.region ?_)
 refine Rg.q (v := .int .i64 (0)) (Pu.qo (p_assign rfl)) (by decide) ?_
 refine Rg.nl (nT ?_)
 refine Tr.seq (Tr.seq (Tr.region ?_))
 refine Rg.q (v := .int .i64 (0)) (Pu.qo (p_assign rfl)) (by decide) ?_
 refine Rg.nl (nT ?_)
 obtain ⟨x1, hx2, H⟩ := bd.of H
 obtain ⟨n3, hx2⟩ := lp.of hx2
 refine tMidNC (ι := Unit) (fun ψ => [(1, .int .i64 (x1.1))]) (fun ψ => [tree (.slice x_v0.1 v0.length x_v0.2) x1.2]) ?_ ?_
 ·refine Tr.block ?_
  refine tLoopC (ι := { q : Nat × ((List Row) × Int × Int) × Unit // itr (p_laws_markRowS_b0 v0) q.1 q.2.1 = some x1 }) (fun ζ => [(0, .slice x_v0.1 v0.length x_v0.2), (1, .int .i64 (ζ.1.2.1.2.1)), (5, .int .i64 (ζ.1.2.1.2.2))]) (fun ζ => [tree (.slice x_v0.1 v0.length x_v0.2) ζ.1.2.1.1]) (fun ζ => ζ.1.1) ⟨(n3, (v0, v1, 0), ()), hx2⟩ ⟨rfl, rfl, rfl, trivial⟩ (.cons Del.here .nil) ?_
  rintro ⟨⟨m4, Q5, z6⟩, hk11⟩
  obtain ⟨m12, t8, e, H1, hi9, hb10⟩ := itr.of (n := m4) (s := Q5) hk11
  subst e; unfold p_laws_markRowS_b0 at H1
  show Tr _ _ _ _ _ [(0, .slice x_v0.1 v0.length x_v0.2), (1, .int .i64 (Q5.2.1)), (5, .int .i64 (Q5.2.2))] _ [tree (.slice x_v0.1 v0.length x_v0.2) Q5.1]
  refine Tr.seq (Tr.seq (Tr.region ?_))
  refine Rg.q (v := .int .i64 (Q5.2.2)) (Pu.qo (p_move rfl)) (by decide) ?_
  refine Rg.q (v := .slice x_v0.1 v0.length x_v0.2) (Pu.qo (p_move rfl)) (by decide) ?_
  refine Rg.q (v := .int .i64 ((v0.length : Int))) (Pu.qo (p_len 169 Try.underlying188 rfl)) (by decide) ?_
  refine Rg.q (v := .bool (decide (Q5.2.2 < (v0.length : Int)))) (Pu.qo (p_lss rfl rfl)) (by decide) ?_
  refine Rg.nl (nT ?_)
  refine Tr.cond (b := decide (Q5.2.2 < (v0.length : Int))) rfl (fun h13 => ?_) (fun h13 => ?_)
  ·have H1 := cdT h13 H1
   refine tSkip ?_
   refine nT (Tr.seq ?_)
   refine Tr.block ?_
   refine Tr.seq ?_
   obtain ⟨h14, H1⟩ := gd.of H1
   refine Tr.zoom (k := Q5.2.2.toNat) h14.lt (.cons Del.here .nil) fun x15 => ?_
   show Tr _ _ _ _ _ _ _ (hole (.slice x_v0.1 v0.length x_v0.2) Q5.1 Q5.2.2.toNat [.int .i64 ((nth Q5.1 Q5.2.2.toNat).1), .int .i64 ((nth Q5.1 Q5.2.2.toNat).2)] :: _)
   refine Tr.region ?_
   refine Rg.q (v := .slice x_v0.1 v0.length x_v0.2) (Pu.qo (p_move rfl)) (by decide) ?_
   refine Rg.q (v := .int .i64 (Q5.2.2)) (Pu.qo (p_move rfl)) (by decide) ?_
   refine Rg.q (v := .int .i64 (Q5.2.1)) (Pu.qo (p_move rfl)) (by decide) ?_
   refine Rg.q (v := elp x_v0.1 (Q5.2.2.toNat * Enc.sz Row + 0)) (q_ixH (k := Q5.2.2.toNat) Try.underlying188 ty169 rfl rfl h14 rfl Has.here) (by decide) ?_
   refine Rg.q (v := elp x_v0.1 (Q5.2.2.toNat * Enc.sz Row + 0)) (q_faH (j := 0) (i := Q5.2.2.toNat) fa169_0 rfl Has.here rfl) (by decide) ?_
   refine Rg.en (e_stH (v := .int .i64 (Q5.2.1)) (i := Q5.2.2.toNat) (j := 0) (cs' := [.int .i64 (Q5.2.1), .int .i64 ((nth Q5.1 Q5.2.2.toNat).2)]) ty3 rfl rfl (.cons Del.here .nil) rfl (by simp [Value.cells, Value.oneCell']) (Nat.le_of_ble_eq_true rfl) rfl rfl) rfl ?_
   rintro _ _ _ ⟨rfl, rfl, rfl⟩
   refine Rg.nl (nT ?_)
   refine Tr.seq (Tr.region ?_)
   refine Rg.q (v := .int .i64 (Q5.2.1)) (Pu.qo (p_move rfl)) (by decide) ?_
   obtain ⟨h16, H1⟩ := gd.of H1
   refine Rg.q (v := .int .i64 (Q5.2.1 + 1)) (Pu.qo (p_add rfl rfl h16)) (by decide) ?_
   refine Rg.q (v := .int .i64 (Q5.2.1 + 1)) (Pu.qo (p_assign rfl)) (by decide) ?_
   refine Rg.nl (nT ?_)
   refine Tr.seq (Tr.region ?_)
   refine Rg.q (v := .slice x_v0.1 v0.length x_v0.2) (Pu.qo (p_move rfl)) (by decide) ?_
   refine Rg.q (v := .int .i64 (Q5.2.2)) (Pu.qo (p_move rfl)) (by decide) ?_
   refine Rg.q (v := .int .i64 (Q5.2.1 + 1)) (Pu.qo (p_move rfl)) (by decide) ?_
   refine Rg.q (v := elp x_v0.1 (Q5.2.2.toNat * Enc.sz Row + 0)) (q_ixH (k := Q5.2.2.toNat) Try.underlying188 ty169 rfl rfl h14 rfl Has.here) (by decide) ?_
   refine Rg.q (v := elp x_v0.1 (Q5.2.2.toNat * Enc.sz Row + 1)) (q_faH (j := 0) (i := Q5.2.2.toNat) fa169_1 rfl Has.here rfl) (by decide) ?_
   refine Rg.en (e_stH (v := .int .i64 (Q5.2.1 + 1)) (i := Q5.2.2.toNat) (j := 1) (cs' := [.int .i64 (Q5.2.1), .int .i64 (Q5.2.1 + 1)]) ty3 rfl rfl (.cons Del.here .nil) rfl (by simp [Value.cells, Value.oneCell']) (Nat.le_of_ble_eq_true rfl) rfl rfl) rfl ?_
   rintro _ _ _ ⟨rfl, rfl, rfl⟩
   refine Rg.nl (nT ?_)
   refine Tr.region ?_
   refine Rg.q (v := .int .i64 (Q5.2.1 + 1)) (Pu.qo (p_move rfl)) (by decide) ?_
   obtain ⟨h17, H1⟩ := gd.of H1
   refine Rg.q (v := .int .i64 ((Q5.2.1 + 1) + 1)) (Pu.qo (p_add rfl rfl h17)) (by decide) ?_
   refine Rg.q (v := .int .i64 ((Q5.2.1 + 1) + 1)) (Pu.qo (p_assign rfl)) (by decide) ?_
   refine Rg.nl ?_
   refine nB (nT (?_))
   refine Tr.region ?_
   refine Rg.q (v := .int .i64 (Q5.2.2)) (Pu.qo (p_move rfl)) (by decide) ?_
   obtain ⟨h18, H1⟩ := gd.of H1
   refine Rg.q (v := .int .i64 (Q5.2.2 + 1)) (Pu.qo (p_add rfl rfl h18)) (by decide) ?_
   refine Rg.q (v := .int .i64 (Q5.2.2 + 1)) (Pu.qo (p_assign rfl)) (by decide) ?_
   refine Rg.nl ?_
   refine At.unzoom (Q5.2.1, (Q5.2.1 + 1)) ((), ()) rfl (.cons Del.here .nil) ?_
   exact nLC ⟨(m12, ((Q5.1.set Q5.2.2.toNat (Q5.2.1, (Q5.2.1 + 1))), (Q5.2.1 + 1) + 1, Q5.2.2 + 1), ()), hi9 _ (Option.some.inj H1).symm⟩ (Nat.lt_succ_self _) ⟨rfl, rfl, rfl, trivial⟩ Ents.refl (.cons Del.here .nil)
  ·have H1 := cdF h13 H1
   refine tExit (xT (xT (xE (?_))))
   have hx := hb10 _ (Option.some.inj H1).symm; subst hx
   exact nMC () ⟨rfl, trivial⟩ Ents.refl (.cons Del.here .nil)
 ·intro y7
  show At _ _ [(1, .int .i64 (x1.1))] _ [tree (.slice x_v0.1 v0.length x_v0.2) x1.2] _
  refine nT (?_)
  refine Tr.seq (Tr.region ?_)
  refine Rg.q (v := .int .i64 (x1.1)) (Pu.qo (p_move rfl)) (by decide) ?_
  refine Rg.q (v := .int .i64 (x1.1)) (Pu.qo (p_assign rfl)) (by decide) ?_
  refine Rg.nl (nT ?_)
  refine tRet ?_
  have hr := Option.some.inj H; subst hr
  exact back1 () rfl (ResV.tmp (v := .int .i64 (x1.1)) rfl) rfl Ents.nil (.cons Del.here .nil)
noncomputable def p_laws_markRowSS_b0 (v0 : (List (List Row))) (Q5 : (List (List Row)) × Int × Int) : Option (((List (List Row)) × Int × Int) ⊕ (Int × (List (List Row)))) := cond (decide (Q5.2.2 < (v0.length : Int))) (gd (ix Q5.2.2 Q5.1.length) <| bd (p_laws_markRowS (nth Q5.1 Q5.2.2.toNat) Q5.2.1) fun r16 => gd (I64 (Q5.2.2 + 1)) <| some (.inl ((Q5.1.set Q5.2.2.toNat r16.2), r16.1, Q5.2.2 + 1))) (some (.inr (Q5.2.1, Q5.1)))
noncomputable def p_laws_markRowSS (v0 : (List (List Row))) (v1 : Int) : Option (Int × (List (List Row))) := bd (lp (p_laws_markRowSS_b0 v0) (v0, v1, 0)) fun x1 => some (x1.1, x1.2)
theorem c_laws_markRowSS {r : Int × (List (List Row))} (v0 : (List (List Row))) (x_v0 : Option Addr × Nat) (n_v0 : Nat) (e_v0 : n_v0 = v0.length) (v1 : Int) (H : p_laws_markRowSS v0 v1 = some r) : Fn' Try.prog 150 #[.slice x_v0.1 n_v0 x_v0.2, .int .i64 (v1)] [] [tree (.slice x_v0.1 n_v0 x_v0.2) v0] (ι := Unit) (fun _ => .int .i64 (r.1)) (fun _ => []) (fun _ => [tree (.slice x_v0.1 n_v0 x_v0.2) r.2]) := by
 subst e_v0
 refine calls_of (args := [_, _]) Try.func150 rfl (by kernel_rfl) Try.ntmps150 (by simp) fun c => ?_
 unfold p_laws_markRowSS at H
 refine Tr.seq (Tr.region ?_)
 refine Rg.q (v := .int .i64 (0)) (Pu.qo (p_assign rfl)) (by decide) ?_
 refine Rg.nl (nT ?_)
 refine Tr.seq (Tr.seq (Tr.region ?_))
 refine Rg.q (v := .int .i64 (0)) (Pu.qo (p_assign rfl)) (by decide) ?_
 refine Rg.nl (nT ?_)
 obtain ⟨x1, hx2, H⟩ := bd.of H
 obtain ⟨n3, hx2⟩ := lp.of hx2
 refine tMidNC (ι := Unit) (fun ψ => [(1, .int .i64 (x1.1))]) (fun ψ => [tree (.slice x_v0.1 v0.length x_v0.2) x1.2]) ?_ ?_
 ·refine Tr.block ?_
  refine tLoopC (ι := { q : Nat × ((List (List Row)) × Int × Int) × Unit // itr (p_laws_markRowSS_b0 v0) q.1 q.2.1 = some x1 }) (fun ζ => [(0, .slice x_v0.1 v0.length x_v0.2), (1, .int .i64 (ζ.1.2.1.2.1)), (5, .int .i64 (ζ.1.2.1.2.2))]) (fun ζ => [tree (.slice x_v0.1 v0.length x_v0.2) ζ.1.2.1.1]) (fun ζ => ζ.1.1) ⟨(n3, (v0, v1, 0), ()), hx2⟩ ⟨rfl, rfl, rfl, trivial⟩ (.cons Del.here .nil) ?_
  rintro ⟨⟨m4, Q5, z6⟩, hk11⟩
  obtain ⟨m12, t8, e, H1, hi9, hb10⟩ := itr.of (n := m4) (s := Q5) hk11
  subst e; unfold p_laws_markRowSS_b0 at H1
  show Tr _ _ _ _ _ [(0, .slice x_v0.1 v0.length x_v0.2), (1, .int .i64 (Q5.2.1)), (5, .int .i64 (Q5.2.2))] _ [tree (.slice x_v0.1 v0.length x_v0.2) Q5.1]
  refine Tr.seq (Tr.seq (Tr.region ?_))
  refine Rg.q (v := .int .i64 (Q5.2.2)) (Pu.qo (p_move rfl)) (by decide) ?_
  refine Rg.q (v := .slice x_v0.1 v0.length x_v0.2) (Pu.qo (p_move rfl)) (by decide) ?_
  refine Rg.q (v := .int .i64 ((v0.length : Int))) (Pu.qo (p_len 188 Try.underlying162 rfl)) (by decide) ?_
  refine Rg.q (v := .bool (decide (Q5.2.2 < (v0.length : Int)))) (Pu.qo (p_lss rfl rfl)) (by decide) ?_
  refine Rg.nl (nT ?_)
  refine Tr.cond (b := decide (Q5.2.2 < (v0.length : Int))) rfl (fun h13 => ?_) (fun h13 => ?_)
  ·have H1 := cdT h13 H1
   refine tSkip ?_
   refine nT (Tr.seq ?_)
   refine Tr.block ?_
   obtain ⟨h14, H1⟩ := gd.of H1
   refine Tr.zoom (k := Q5.2.2.toNat) h14.lt (.cons Del.here .nil) fun x15 => ?_
   show Tr _ _ _ _ _ _ _ (hole (.slice x_v0.1 v0.length x_v0.2) Q5.1 Q5.2.2.toNat [.slice x15.1 ((nth Q5.1 Q5.2.2.toNat).length) x15.2] :: tree (.slice x15.1 ((nth Q5.1 Q5.2.2.toNat).length) x15.2) (nth Q5.1 Q5.2.2.toNat) :: _)
   refine Tr.region ?_
   refine Rg.q (v := .slice x_v0.1 v0.length x_v0.2) (Pu.qo (p_move rfl)) (by decide) ?_
   refine Rg.q (v := .int .i64 (Q5.2.2)) (Pu.qo (p_move rfl)) (by decide) ?_
   refine Rg.q (v := elp x_v0.1 (Q5.2.2.toNat * Enc.sz (List Row) + 0)) (q_ixH (k := Q5.2.2.toNat) Try.underlying162 ty188 rfl rfl h14 rfl Has.here) (by decide) ?_
   refine Rg.q (v := .slice x15.1 ((nth Q5.1 Q5.2.2.toNat).length) x15.2) (q_ldH (i := Q5.2.2.toNat) (j := 0) ty188 rfl Has.here rfl) (by decide) ?_
   refine Rg.q (v := .int .i64 (Q5.2.1)) (Pu.qo (p_move rfl)) (by decide) ?_
   obtain ⟨r16, h17, H1⟩ := bd.of H1
   refine Rg.ed (e_callM (vs := [.slice x15.1 ((nth Q5.1 Q5.2.2.toNat).length) x15.2, .int .i64 (Q5.2.1)]) (c_laws_markRowS (nth Q5.1 Q5.2.2.toNat) x15 ((nth Q5.1 Q5.2.2.toNat).length) rfl Q5.2.1 h17) (Solo.tree Solo.nil) (fun _ => (Solo.tree Solo.nil)) rfl (.cons Del.here.there .nil) EntsB.nil) rfl (by decide) ?_
   rintro _ _ _ ⟨u18, rfl, rfl, rfl⟩
   refine Rg.q (v := .int .i64 (r16.1)) (Pu.qo (p_assign rfl)) (by decide) ?_
   refine Rg.nl ?_
   refine nB (nT (?_))
   refine Tr.olen Has.here fun hn => ?_; rw [hn]
   refine Tr.region ?_
   refine Rg.q (v := .int .i64 (Q5.2.2)) (Pu.qo (p_move rfl)) (by decide) ?_
   obtain ⟨h19, H1⟩ := gd.of H1
   refine Rg.q (v := .int .i64 (Q5.2.2 + 1)) (Pu.qo (p_add rfl rfl h19)) (by decide) ?_
   refine Rg.q (v := .int .i64 (Q5.2.2 + 1)) (Pu.qo (p_assign rfl)) (by decide) ?_
   refine Rg.nl ?_
   refine At.unzoom r16.2 x15 rfl (.cons Del.here.there (.cons Del.here .nil)) ?_
   exact nLC ⟨(m12, ((Q5.1.set Q5.2.2.toNat r16.2), r16.1, Q5.2.2 + 1), ()), hi9 _ (Option.some.inj H1).symm⟩ (Nat.lt_succ_self _) ⟨rfl, rfl, rfl, trivial⟩ Ents.refl (.cons Del.here .nil)
  ·have H1 := cdF h13 H1
   refine tExit (xT (xT (xE (?_))))
   have hx := hb10 _ (Option.some.inj H1).symm; subst hx
   exact nMC () ⟨rfl, trivial⟩ Ents.refl (.cons Del.here .nil)
 ·intro y7
  show At _ _ [(1, .int .i64 (x1.1))] _ [tree (.slice x_v0.1 v0.length x_v0.2) x1.2] _
  refine nT (?_)
  refine Tr.seq (Tr.region ?_)
  refine Rg.q (v := .int .i64 (x1.1)) (Pu.qo (p_move rfl)) (by decide) ?_
  refine Rg.q (v := .int .i64 (x1.1)) (Pu.qo (p_assign rfl)) (by decide) ?_
  refine Rg.nl (nT ?_)
  refine tRet ?_
  have hr := Option.some.inj H; subst hr
  exact back1 () rfl (ResV.tmp (v := .int .i64 (x1.1)) rfl) rfl Ents.nil (.cons Del.here .nil)
noncomputable def p_laws_markPartS_b0 (v0 : (List Part)) (Q5 : (List Part) × Int × Int) : Option (((List Part) × Int × Int) ⊕ (Int × (List Part))) := cond (decide (Q5.2.2 < (v0.length : Int))) (gd (ix Q5.2.2 Q5.1.length) <| bd (p_laws_markIntS ((nth Q5.1 Q5.2.2.toNat).1) Q5.2.1) fun r16 => bd (p_laws_markRowSS ((nth Q5.1 Q5.2.2.toNat).2) r16.1) fun r19 => gd (I64 (Q5.2.2 + 1)) <| some (.inl ((Q5.1.set Q5.2.2.toNat (r16.2, r19.2)), r19.1, Q5.2.2 + 1))) (some (.inr (Q5.2.1, Q5.1)))
noncomputable def p_laws_markPartS (v0 : (List Part)) (v1 : Int) : Option (Int × (List Part)) := bd (lp (p_laws_markPartS_b0 v0) (v0, v1, 0)) fun x1 => some (x1.1, x1.2)
theorem c_laws_markPartS {r : Int × (List Part)} (v0 : (List Part)) (x_v0 : Option Addr × Nat) (n_v0 : Nat) (e_v0 : n_v0 = v0.length) (v1 : Int) (H : p_laws_markPartS v0 v1 = some r) : Fn' Try.prog 135 #[.slice x_v0.1 n_v0 x_v0.2, .int .i64 (v1)] [] [tree (.slice x_v0.1 n_v0 x_v0.2) v0] (ι := Unit) (fun _ => .int .i64 (r.1)) (fun _ => []) (fun _ => [tree (.slice x_v0.1 n_v0 x_v0.2) r.2]) := by
 subst e_v0
 refine calls_of (args := [_, _]) Try.func135 rfl (by kernel_rfl) Try.ntmps135 (by simp) fun c => ?_
 unfold p_laws_markPartS at H
 refine Tr.seq (Tr.region ?_)
 refine Rg.q (v := .int .i64 (0)) (Pu.qo (p_assign rfl)) (by decide) ?_
 refine Rg.nl (nT ?_)
 refine Tr.seq (Tr.seq (Tr.region ?_))
 refine Rg.q (v := .int .i64 (0)) (Pu.qo (p_assign rfl)) (by decide) ?_
 refine Rg.nl (nT ?_)
 obtain ⟨x1, hx2, H⟩ := bd.of H
 obtain ⟨n3, hx2⟩ := lp.of hx2
 refine tMidNC (ι := Unit) (fun ψ => [(1, .int .i64 (x1.1))]) (fun ψ => [tree (.slice x_v0.1 v0.length x_v0.2) x1.2]) ?_ ?_
 ·refine Tr.block ?_
  refine tLoopC (ι := { q : Nat × ((List Part) × Int × Int) × Unit // itr (p_laws_markPartS_b0 v0) q.1 q.2.1 = some x1 }) (fun ζ => [(0, .slice x_v0.1 v0.length x_v0.2), (1, .int .i64 (ζ.1.2.1.2.1)), (5, .int .i64 (ζ.1.2.1.2.2))]) (fun ζ => [tree (.slice x_v0.1 v0.length x_v0.2) ζ.1.2.1.1]) (fun ζ => ζ.1.1) ⟨(n3, (v0, v1, 0), ()), hx2⟩ ⟨rfl, rfl, rfl, trivial⟩ (.cons Del.here .nil) ?_
  rintro ⟨⟨m4, Q5, z6⟩, hk11⟩
  obtain ⟨m12, t8, e, H1, hi9, hb10⟩ := itr.of (n := m4) (s := Q5) hk11
  subst e; unfold p_laws_markPartS_b0 at H1
  show Tr _ _ _ _ _ [(0, .slice x_v0.1 v0.length x_v0.2), (1, .int .i64 (Q5.2.1)), (5, .int .i64 (Q5.2.2))] _ [tree (.slice x_v0.1 v0.length x_v0.2) Q5.1]
  refine Tr.seq (Tr.seq (Tr.region ?_))
  refine Rg.q (v := .int .i64 (Q5.2.2)) (Pu.qo (p_move rfl)) (by decide) ?_
  refine Rg.q (v := .slice x_v0.1 v0.length x_v0.2) (Pu.qo (p_move rfl)) (by decide) ?_
  refine Rg.q (v := .int .i64 ((v0.length : Int))) (Pu.qo (p_len 164 Try.underlying75 rfl)) (by decide) ?_
  refine Rg.q (v := .bool (decide (Q5.2.2 < (v0.length : Int)))) (Pu.qo (p_lss rfl rfl)) (by decide) ?_
  refine Rg.nl (nT ?_)
  refine Tr.cond (b := decide (Q5.2.2 < (v0.length : Int))) rfl (fun h13 => ?_) (fun h13 => ?_)
  ·have H1 := cdT h13 H1
   refine tSkip ?_
   refine nT (Tr.seq ?_)
   refine Tr.block ?_
   refine Tr.seq ?_
   obtain ⟨h14, H1⟩ := gd.of H1
   refine Tr.zoom (k := Q5.2.2.toNat) h14.lt (.cons Del.here .nil) fun x15 => ?_
   show Tr _ _ _ _ _ _ _ (hole (.slice x_v0.1 v0.length x_v0.2) Q5.1 Q5.2.2.toNat [.slice x15.1.1 (((nth Q5.1 Q5.2.2.toNat).1).length) x15.1.2, .slice x15.2.1 (((nth Q5.1 Q5.2.2.toNat).2).length) x15.2.2] :: tree (.slice x15.1.1 (((nth Q5.1 Q5.2.2.toNat).1).length) x15.1.2) ((nth Q5.1 Q5.2.2.toNat).1) :: tree (.slice x15.2.1 (((nth Q5.1 Q5.2.2.toNat).2).length) x15.2.2) ((nth Q5.1 Q5.2.2.toNat).2) :: _)
   refine Tr.region ?_
   refine Rg.q (v := .slice x_v0.1 v0.length x_v0.2) (Pu.qo (p_move rfl)) (by decide) ?_
   refine Rg.q (v := .int .i64 (Q5.2.2)) (Pu.qo (p_move rfl)) (by decide) ?_
   refine Rg.q (v := elp x_v0.1 (Q5.2.2.toNat * Enc.sz Part + 0)) (q_ixH (k := Q5.2.2.toNat) Try.underlying75 ty164 rfl rfl h14 rfl Has.here) (by decide) ?_
   refine Rg.q (v := elp x_v0.1 (Q5.2.2.toNat * Enc.sz Part + 0)) (q_faH (j := 0) (i := Q5.2.2.toNat) fa164_0 rfl Has.here rfl) (by decide) ?_
   refine Rg.q (v := .slice x15.1.1 (((nth Q5.1 Q5.2.2.toNat).1).length) x15.1.2) (q_ldH (i := Q5.2.2.toNat) (j := 0) ty31 rfl Has.here rfl) (by decide) ?_
   refine Rg.q (v := .int .i64 (Q5.2.1)) (Pu.qo (p_move rfl)) (by decide) ?_
   obtain ⟨r16, h17, H1⟩ := bd.of H1
   refine Rg.ed (e_callM (vs := [.slice x15.1.1 (((nth Q5.1 Q5.2.2.toNat).1).length) x15.1.2, .int .i64 (Q5.2.1)]) (c_laws_markIntS ((nth Q5.1 Q5.2.2.toNat).1) x15.1 (((nth Q5.1 Q5.2.2.toNat).1).length) rfl Q5.2.1 h17) (Solo.tree Solo.nil) (fun _ => (Solo.tree Solo.nil)) rfl (.cons Del.here.there .nil) EntsB.nil) rfl (by decide) ?_
   rintro _ _ _ ⟨u18, rfl, rfl, rfl⟩
   refine Rg.q (v := .int .i64 (r16.1)) (Pu.qo (p_assign rfl)) (by decide) ?_
   refine Rg.nl (nT ?_)
   refine Tr.olen Has.here fun hn => ?_; rw [hn]
   refine Tr.region ?_
   refine Rg.q (v := .slice x_v0.1 v0.length x_v0.2) (Pu.qo (p_move rfl)) (by decide) ?_
   refine Rg.q (v := .int .i64 (Q5.2.2)) (Pu.qo (p_move rfl)) (by decide) ?_
   refine Rg.q (v := elp x_v0.1 (Q5.2.2.toNat * Enc.sz Part + 0)) (q_ixH (k := Q5.2.2.toNat) Try.underlying75 ty164 rfl rfl h14 rfl Has.here.there) (by decide) ?_
   refine Rg.q (v := elp x_v0.1 (Q5.2.2.toNat * Enc.sz Part + 1)) (q_faH (j := 0) (i := Q5.2.2.toNat) fa164_1 rfl Has.here.there rfl) (by decide) ?_
   refine Rg.q (v := .slice x15.2.1 (((nth Q5.1 Q5.2.2.toNat).2).length) x15.2.2) (q_ldH (i := Q5.2.2.toNat) (j := 1) ty162 rfl Has.here.there rfl) (by decide) ?_
   refine Rg.q (v := .int .i64 (r16.1)) (Pu.qo (p_move rfl)) (by decide) ?_
   obtain ⟨r19, h20, H1⟩ := bd.of H1
   refine Rg.ed (e_callM (vs := [.slice x15.2.1 (((nth Q5.1 Q5.2.2.toNat).2).length) x15.2.2, .int .i64 (r16.1)]) (c_laws_markRowSS ((nth Q5.1 Q5.2.2.toNat).2) x15.2 (((nth Q5.1 Q5.2.2.toNat).2).length) rfl r16.1 h20) (Solo.tree Solo.nil) (fun _ => (Solo.tree Solo.nil)) rfl (.cons Del.here.there.there .nil) EntsB.nil) rfl (by decide) ?_
   rintro _ _ _ ⟨u21, rfl, rfl, rfl⟩
   refine Rg.q (v := .int .i64 (r19.1)) (Pu.qo (p_assign rfl)) (by decide) ?_
   refine Rg.nl ?_
   refine nB (nT (?_))
   refine Tr.olen Has.here fun hn => ?_; rw [hn]
   refine Tr.region ?_
   refine Rg.q (v := .int .i64 (Q5.2.2)) (Pu.qo (p_move rfl)) (by decide) ?_
   obtain ⟨h22, H1⟩ := gd.of H1
   refine Rg.q (v := .int .i64 (Q5.2.2 + 1)) (Pu.qo (p_add rfl rfl h22)) (by decide) ?_
   refine Rg.q (v := .int .i64 (Q5.2.2 + 1)) (Pu.qo (p_assign rfl)) (by decide) ?_
   refine Rg.nl ?_
   refine At.unzoom (r16.2, r19.2) x15 rfl (.cons Del.here.there.there (.cons Del.here.there (.cons Del.here .nil))) ?_
   exact nLC ⟨(m12, ((Q5.1.set Q5.2.2.toNat (r16.2, r19.2)), r19.1, Q5.2.2 + 1), ()), hi9 _ (Option.some.inj H1).symm⟩ (Nat.lt_succ_self _) ⟨rfl, rfl, rfl, trivial⟩ Ents.refl (.cons Del.here .nil)
  ·have H1 := cdF h13 H1
   refine tExit (xT (xT (xE (?_))))
   have hx := hb10 _ (Option.some.inj H1).symm; subst hx
   exact nMC () ⟨rfl, trivial⟩ Ents.refl (.cons Del.here .nil)
 ·intro y7
  show At _ _ [(1, .int .i64 (x1.1))] _ [tree (.slice x_v0.1 v0.length x_v0.2) x1.2] _
  refine nT (?_)
  refine Tr.seq (Tr.region ?_)
  refine Rg.q (v := .int .i64 (x1.1)) (Pu.qo (p_move rfl)) (by decide) ?_
  refine Rg.q (v := .int .i64 (x1.1)) (Pu.qo (p_assign rfl)) (by decide) ?_
  refine Rg.nl (nT ?_)
  refine tRet ?_
  have hr := Option.some.inj H; subst hr
  exact back1 () rfl (ResV.tmp (v := .int .i64 (x1.1)) rfl) rfl Ents.nil (.cons Del.here .nil)
noncomputable def p_laws_markSampleS_b0 (v0 : (List Sample)) (Q5 : (List Sample) × Int × Int) : Option (((List Sample) × Int × Int) ⊕ (Int × (List Sample))) := cond (decide (Q5.2.2 < (v0.length : Int))) (gd (ix Q5.2.2 Q5.1.length) <| gd (I64 (Q5.2.1 + 1)) <| gd (I64 ((Q5.2.1 + 1) + 1)) <| gd (I64 (((Q5.2.1 + 1) + 1) + 1)) <| gd (I64 (Q5.2.2 + 1)) <| some (.inl ((Q5.1.set Q5.2.2.toNat (Q5.2.1, ((Q5.2.1 + 1), ((Q5.2.1 + 1) + 1)))), ((Q5.2.1 + 1) + 1) + 1, Q5.2.2 + 1))) (some (.inr (Q5.2.1, Q5.1)))
noncomputable def p_laws_markSampleS (v0 : (List Sample)) (v1 : Int) : Option (Int × (List Sample)) := bd (lp (p_laws_markSampleS_b0 v0) (v0, v1, 0)) fun x1 => some (x1.1, x1.2)
theorem c_laws_markSampleS {r : Int × (List Sample)} (v0 : (List Sample)) (x_v0 : Option Addr × Nat) (n_v0 : Nat) (e_v0 : n_v0 = v0.length) (v1 : Int) (H : p_laws_markSampleS v0 v1 = some r) : Fn' Try.prog 136 #[.slice x_v0.1 n_v0 x_v0.2, .int .i64 (v1)] [] [tree (.slice x_v0.1 n_v0 x_v0.2) v0] (ι := Unit) (fun _ => .int .i64 (r.1)) (fun _ => []) (fun _ => [tree (.slice x_v0.1 n_v0 x_v0.2) r.2]) := by
 subst e_v0
 refine calls_of (args := [_, _]) Try.func136 rfl (by kernel_rfl) Try.ntmps136 (by simp) fun c => ?_
 unfold p_laws_markSampleS at H
 refine Tr.seq (Tr.region ?_)
 refine Rg.q (v := .int .i64 (0)) (Pu.qo (p_assign rfl)) (by decide) ?_
 refine Rg.nl (nT ?_)
 refine Tr.seq (Tr.seq (Tr.region ?_))
 refine Rg.q (v := .int .i64 (0)) (Pu.qo (p_assign rfl)) (by decide) ?_
 refine Rg.nl (nT ?_)
 obtain ⟨x1, hx2, H⟩ := bd.of H
 obtain ⟨n3, hx2⟩ := lp.of hx2
 refine tMidNC (ι := Unit) (fun ψ => [(1, .int .i64 (x1.1))]) (fun ψ => [tree (.slice x_v0.1 v0.length x_v0.2) x1.2]) ?_ ?_
 ·refine Tr.block ?_
  refine tLoopC (ι := { q : Nat × ((List Sample) × Int × Int) × Unit // itr (p_laws_markSampleS_b0 v0) q.1 q.2.1 = some x1 }) (fun ζ => [(0, .slice x_v0.1 v0.length x_v0.2), (1, .int .i64 (ζ.1.2.1.2.1)), (5, .int .i64 (ζ.1.2.1.2.2))]) (fun ζ => [tree (.slice x_v0.1 v0.length x_v0.2) ζ.1.2.1.1]) (fun ζ => ζ.1.1) ⟨(n3, (v0, v1, 0), ()), hx2⟩ ⟨rfl, rfl, rfl, trivial⟩ (.cons Del.here .nil) ?_
  rintro ⟨⟨m4, Q5, z6⟩, hk11⟩
  obtain ⟨m12, t8, e, H1, hi9, hb10⟩ := itr.of (n := m4) (s := Q5) hk11
  subst e; unfold p_laws_markSampleS_b0 at H1
  show Tr _ _ _ _ _ [(0, .slice x_v0.1 v0.length x_v0.2), (1, .int .i64 (Q5.2.1)), (5, .int .i64 (Q5.2.2))] _ [tree (.slice x_v0.1 v0.length x_v0.2) Q5.1]
  refine Tr.seq (Tr.seq (Tr.region ?_))
  refine Rg.q (v := .int .i64 (Q5.2.2)) (Pu.qo (p_move rfl)) (by decide) ?_
  refine Rg.q (v := .slice x_v0.1 v0.length x_v0.2) (Pu.qo (p_move rfl)) (by decide) ?_
  refine Rg.q (v := .int .i64 ((v0.length : Int))) (Pu.qo (p_len 171 Try.underlying76 rfl)) (by decide) ?_
  refine Rg.q (v := .bool (decide (Q5.2.2 < (v0.length : Int)))) (Pu.qo (p_lss rfl rfl)) (by decide) ?_
  refine Rg.nl (nT ?_)
  refine Tr.cond (b := decide (Q5.2.2 < (v0.length : Int))) rfl (fun h13 => ?_) (fun h13 => ?_)
  ·have H1 := cdT h13 H1
   refine tSkip ?_
   refine nT (Tr.seq ?_)
   refine Tr.block ?_
   refine Tr.seq ?_
   obtain ⟨h14, H1⟩ := gd.of H1
   refine Tr.zoom (k := Q5.2.2.toNat) h14.lt (.cons Del.here .nil) fun x15 => ?_
   show Tr _ _ _ _ _ _ _ (hole (.slice x_v0.1 v0.length x_v0.2) Q5.1 Q5.2.2.toNat [.int .i64 ((nth Q5.1 Q5.2.2.toNat).1), .int .i64 (((nth Q5.1 Q5.2.2.toNat).2).1), .int .i64 (((nth Q5.1 Q5.2.2.toNat).2).2)] :: _)
   refine Tr.region ?_
   refine Rg.q (v := .slice x_v0.1 v0.length x_v0.2) (Pu.qo (p_move rfl)) (by decide) ?_
   refine Rg.q (v := .int .i64 (Q5.2.2)) (Pu.qo (p_move rfl)) (by decide) ?_
   refine Rg.q (v := .int .i64 (Q5.2.1)) (Pu.qo (p_move rfl)) (by decide) ?_
   refine Rg.q (v := elp x_v0.1 (Q5.2.2.toNat * Enc.sz Sample + 0)) (q_ixH (k := Q5.2.2.toNat) Try.underlying76 ty171 rfl rfl h14 rfl Has.here) (by decide) ?_
   refine Rg.q (v := elp x_v0.1 (Q5.2.2.toNat * Enc.sz Sample + 0)) (q_faH (j := 0) (i := Q5.2.2.toNat) fa171_0 rfl Has.here rfl) (by decide) ?_
   refine Rg.en (e_stH (v := .int .i64 (Q5.2.1)) (i := Q5.2.2.toNat) (j := 0) (cs' := [.int .i64 (Q5.2.1), .int .i64 (((nth Q5.1 Q5.2.2.toNat).2).1), .int .i64 (((nth Q5.1 Q5.2.2.toNat).2).2)]) ty3 rfl rfl (.cons Del.here .nil) rfl (by simp [Value.cells, Value.oneCell']) (Nat.le_of_ble_eq_true rfl) rfl rfl) rfl ?_
   rintro _ _ _ ⟨rfl, rfl, rfl⟩
   refine Rg.nl (nT ?_)
   refine Tr.seq (Tr.region ?_)
   refine Rg.q (v := .int .i64 (Q5.2.1)) (Pu.qo (p_move rfl)) (by decide) ?_
   obtain ⟨h16, H1⟩ := gd.of H1
   refine Rg.q (v := .int .i64 (Q5.2.1 + 1)) (Pu.qo (p_add rfl rfl h16)) (by decide) ?_
   refine Rg.q (v := .int .i64 (Q5.2.1 + 1)) (Pu.qo (p_assign rfl)) (by decide) ?_
   refine Rg.nl (nT ?_)
   refine Tr.seq (Tr.region ?_)
   refine Rg.q (v := .slice x_v0.1 v0.length x_v0.2) (Pu.qo (p_move rfl)) (by decide) ?_
   refine Rg.q (v := .int .i64 (Q5.2.2)) (Pu.qo (p_move rfl)) (by decide) ?_
   refine Rg.q (v := .int .i64 (Q5.2.1 + 1)) (Pu.qo (p_move rfl)) (by decide) ?_
   refine Rg.q (v := elp x_v0.1 (Q5.2.2.toNat * Enc.sz Sample + 0)) (q_ixH (k := Q5.2.2.toNat) Try.underlying76 ty171 rfl rfl h14 rfl Has.here) (by decide) ?_
   refine Rg.q (v := elp x_v0.1 (Q5.2.2.toNat * Enc.sz Sample + 1)) (q_faH (j := 0) (i := Q5.2.2.toNat) fa171_1 rfl Has.here rfl) (by decide) ?_
   refine Rg.q (v := elp x_v0.1 (Q5.2.2.toNat * Enc.sz Sample + 1)) (q_faH (j := 1) (i := Q5.2.2.toNat) fa169_0 rfl Has.here rfl) (by decide) ?_
   refine Rg.en (e_stH (v := .int .i64 (Q5.2.1 + 1)) (i := Q5.2.2.toNat) (j := 1) (cs' := [.int .i64 (Q5.2.1), .int .i64 (Q5.2.1 + 1), .int .i64 (((nth Q5.1 Q5.2.2.toNat).2).2)]) ty3 rfl rfl (.cons Del.here .nil) rfl (by simp [Value.cells, Value.oneCell']) (Nat.le_of_ble_eq_true rfl) rfl rfl) rfl ?_
   rintro _ _ _ ⟨rfl, rfl, rfl⟩
   refine Rg.nl (nT ?_)
   refine Tr.seq (Tr.region ?_)
   refine Rg.q (v := .int .i64 (Q5.2.1 + 1)) (Pu.qo (p_move rfl)) (by decide) ?_
   obtain ⟨h17, H1⟩ := gd.of H1
   refine Rg.q (v := .int .i64 ((Q5.2.1 + 1) + 1)) (Pu.qo (p_add rfl rfl h17)) (by decide) ?_
   refine Rg.q (v := .int .i64 ((Q5.2.1 + 1) + 1)) (Pu.qo (p_assign rfl)) (by decide) ?_
   refine Rg.nl (nT ?_)
   refine Tr.seq (Tr.region ?_)
   refine Rg.q (v := .slice x_v0.1 v0.length x_v0.2) (Pu.qo (p_move rfl)) (by decide) ?_
   refine Rg.q (v := .int .i64 (Q5.2.2)) (Pu.qo (p_move rfl)) (by decide) ?_
   refine Rg.q (v := .int .i64 ((Q5.2.1 + 1) + 1)) (Pu.qo (p_move rfl)) (by decide) ?_
   refine Rg.q (v := elp x_v0.1 (Q5.2.2.toNat * Enc.sz Sample + 0)) (q_ixH (k := Q5.2.2.toNat) Try.underlying76 ty171 rfl rfl h14 rfl Has.here) (by decide) ?_
   refine Rg.q (v := elp x_v0.1 (Q5.2.2.toNat * Enc.sz Sample + 1)) (q_faH (j := 0) (i := Q5.2.2.toNat) fa171_1 rfl Has.here rfl) (by decide) ?_
   refine Rg.q (v := elp x_v0.1 (Q5.2.2.toNat * Enc.sz Sample + 2)) (q_faH (j := 1) (i := Q5.2.2.toNat) fa169_1 rfl Has.here rfl) (by decide) ?_
   refine Rg.en (e_stH (v := .int .i64 ((Q5.2.1 + 1) + 1)) (i := Q5.2.2.toNat) (j := 2) (cs' := [.int .i64 (Q5.2.1), .int .i64 (Q5.2.1 + 1), .int .i64 ((Q5.2.1 + 1) + 1)]) ty3 rfl rfl (.cons Del.here .nil) rfl (by simp [Value.cells, Value.oneCell']) (Nat.le_of_ble_eq_true rfl) rfl rfl) rfl ?_
   rintro _ _ _ ⟨rfl, rfl, rfl⟩
   refine Rg.nl (nT ?_)
   refine Tr.region ?_
   refine Rg.q (v := .int .i64 ((Q5.2.1 + 1) + 1)) (Pu.qo (p_move rfl)) (by decide) ?_
   obtain ⟨h18, H1⟩ := gd.of H1
   refine Rg.q (v := .int .i64 (((Q5.2.1 + 1) + 1) + 1)) (Pu.qo (p_add rfl rfl h18)) (by decide) ?_
   refine Rg.q (v := .int .i64 (((Q5.2.1 + 1) + 1) + 1)) (Pu.qo (p_assign rfl)) (by decide) ?_
   refine Rg.nl ?_
   refine nB (nT (?_))
   refine Tr.region ?_
   refine Rg.q (v := .int .i64 (Q5.2.2)) (Pu.qo (p_move rfl)) (by decide) ?_
   obtain ⟨h19, H1⟩ := gd.of H1
   refine Rg.q (v := .int .i64 (Q5.2.2 + 1)) (Pu.qo (p_add rfl rfl h19)) (by decide) ?_
   refine Rg.q (v := .int .i64 (Q5.2.2 + 1)) (Pu.qo (p_assign rfl)) (by decide) ?_
   refine Rg.nl ?_
   refine At.unzoom (Q5.2.1, ((Q5.2.1 + 1), ((Q5.2.1 + 1) + 1))) ((), ((), ())) rfl (.cons Del.here .nil) ?_
   exact nLC ⟨(m12, ((Q5.1.set Q5.2.2.toNat (Q5.2.1, ((Q5.2.1 + 1), ((Q5.2.1 + 1) + 1)))), ((Q5.2.1 + 1) + 1) + 1, Q5.2.2 + 1), ()), hi9 _ (Option.some.inj H1).symm⟩ (Nat.lt_succ_self _) ⟨rfl, rfl, rfl, trivial⟩ Ents.refl (.cons Del.here .nil)
  ·have H1 := cdF h13 H1
   refine tExit (xT (xT (xE (?_))))
   have hx := hb10 _ (Option.some.inj H1).symm; subst hx
   exact nMC () ⟨rfl, trivial⟩ Ents.refl (.cons Del.here .nil)
 ·intro y7
  show At _ _ [(1, .int .i64 (x1.1))] _ [tree (.slice x_v0.1 v0.length x_v0.2) x1.2] _
  refine nT (?_)
  refine Tr.seq (Tr.region ?_)
  refine Rg.q (v := .int .i64 (x1.1)) (Pu.qo (p_move rfl)) (by decide) ?_
  refine Rg.q (v := .int .i64 (x1.1)) (Pu.qo (p_assign rfl)) (by decide) ?_
  refine Rg.nl (nT ?_)
  refine tRet ?_
  have hr := Option.some.inj H; subst hr
  exact back1 () rfl (ResV.tmp (v := .int .i64 (x1.1)) rfl) rfl Ents.nil (.cons Del.here .nil)
noncomputable def p_laws_markStore (v0 : Store) (v1 : Int) : Option (Int × Store) := bd (p_laws_markIndex v0.1 v1) fun r2 => bd (p_laws_markPartS v0.2.1 r2.1) fun r5 => bd (p_laws_markSampleS v0.2.2 r5.1) fun r8 => some (r8.1, (r2.2, r5.2, r8.2))
theorem c_laws_markStore {r : Int × Store} (v0 : Store) (x_v0 : ((Option Addr × Nat) × (Option Addr × Nat)) × (Option Addr × Nat) × (Option Addr × Nat)) (v1 : Int) (H : p_laws_markStore v0 v1 = some r) : Fn' Try.prog 102 #[.agg #[.slice x_v0.1.1.1 v0.1.1.length x_v0.1.1.2, .slice x_v0.1.2.1 v0.1.2.length x_v0.1.2.2, .slice x_v0.2.1.1 v0.2.1.length x_v0.2.1.2, .slice x_v0.2.2.1 v0.2.2.length x_v0.2.2.2], .int .i64 (v1)] [] [tree (.slice x_v0.1.1.1 v0.1.1.length x_v0.1.1.2) v0.1.1, tree (.slice x_v0.1.2.1 v0.1.2.length x_v0.1.2.2) v0.1.2, tree (.slice x_v0.2.1.1 v0.2.1.length x_v0.2.1.2) v0.2.1, tree (.slice x_v0.2.2.1 v0.2.2.length x_v0.2.2.2) v0.2.2] (ι := Unit) (fun _ => .int .i64 (r.1)) (fun _ => []) (fun _ => [tree (.slice x_v0.1.1.1 v0.1.1.length x_v0.1.1.2) r.2.1.1, tree (.slice x_v0.1.2.1 v0.1.2.length x_v0.1.2.2) r.2.1.2, tree (.slice x_v0.2.1.1 v0.2.1.length x_v0.2.1.2) r.2.2.1, tree (.slice x_v0.2.2.1 v0.2.2.length x_v0.2.2.2) r.2.2.2]) := by
 refine calls_of (args := [_, _]) Try.func102 rfl (by kernel_rfl) Try.ntmps102 (by simp) fun c => ?_
 unfold p_laws_markStore at H
 refine Tr.seq (Tr.region ?_)
 refine Rg.ed (e_box (t := 78) (v := .agg #[.slice x_v0.1.1.1 v0.1.1.length x_v0.1.1.2, .slice x_v0.1.2.1 v0.1.2.length x_v0.1.2.2, .slice x_v0.2.1.1 v0.2.1.length x_v0.2.1.2, .slice x_v0.2.2.1 v0.2.2.length x_v0.2.2.2]) rfl) rfl (by decide) ?_
 rintro _ _ _ ⟨g1, rfl, rfl, rfl⟩
 refine Rg.q (v := .int .i64 (0)) (Pu.qo (p_assign rfl)) (by decide) ?_
 refine Rg.nl (nT ?_)
 refine Tr.seq (Tr.region ?_)
 refine Rg.q (v := .pointer (some ⟨g1, 0, none⟩)) (Pu.qo (p_fabE fa78_0 rfl rfl)) (by decide) ?_
 refine Rg.q (v := .agg #[.slice x_v0.1.1.1 v0.1.1.length x_v0.1.1.2, .slice x_v0.1.2.1 v0.1.2.length x_v0.1.2.2]) (q_ldbP [.slice x_v0.1.1.1 v0.1.1.length x_v0.1.1.2, .slice x_v0.1.2.1 v0.1.2.length x_v0.1.2.2] ty26 rfl Has.here rfl rfl) (by decide) ?_
 refine Rg.q (v := .int .i64 (v1)) (Pu.qo (p_move rfl)) (by decide) ?_
 obtain ⟨r2, h3, H⟩ := bd.of H
 refine Rg.ed (e_callM (vs := [.agg #[.slice x_v0.1.1.1 v0.1.1.length x_v0.1.1.2, .slice x_v0.1.2.1 v0.1.2.length x_v0.1.2.2], .int .i64 (v1)]) (c_laws_markIndex v0.1 x_v0.1 v1 h3) (Solo.tree (Solo.tree Solo.nil)) (fun _ => (Solo.tree (Solo.tree Solo.nil))) rfl (.cons Del.here.there (.cons Del.here.there .nil)) EntsB.nil) rfl (by decide) ?_
 rintro _ _ _ ⟨u4, rfl, rfl, rfl⟩
 refine Rg.q (v := .int .i64 (r2.1)) (Pu.qo (p_assign rfl)) (by decide) ?_
 refine Rg.nl (nT ?_)
 refine Tr.seq (Tr.region ?_)
 refine Rg.q (v := .pointer (some ⟨g1, 2, none⟩)) (Pu.qo (p_fabE fa78_1 rfl rfl)) (by decide) ?_
 refine Rg.q (v := .slice x_v0.2.1.1 v0.2.1.length x_v0.2.1.2) (q_ldb ty75 rfl Has.here.there.there rfl) (by decide) ?_
 refine Rg.q (v := .int .i64 (r2.1)) (Pu.qo (p_move rfl)) (by decide) ?_
 obtain ⟨r5, h6, H⟩ := bd.of H
 refine Rg.ed (e_callM (vs := [.slice x_v0.2.1.1 v0.2.1.length x_v0.2.1.2, .int .i64 (r2.1)]) (c_laws_markPartS v0.2.1 x_v0.2.1 v0.2.1.length rfl r2.1 h6) (Solo.tree Solo.nil) (fun _ => (Solo.tree Solo.nil)) rfl (.cons Del.here.there.there.there .nil) EntsB.nil) rfl (by decide) ?_
 rintro _ _ _ ⟨u7, rfl, rfl, rfl⟩
 refine Rg.q (v := .int .i64 (r5.1)) (Pu.qo (p_assign rfl)) (by decide) ?_
 refine Rg.nl (nT ?_)
 refine Tr.seq (Tr.region ?_)
 refine Rg.q (v := .pointer (some ⟨g1, 3, none⟩)) (Pu.qo (p_fabE fa78_2 rfl rfl)) (by decide) ?_
 refine Rg.q (v := .slice x_v0.2.2.1 v0.2.2.length x_v0.2.2.2) (q_ldb ty76 rfl Has.here.there.there.there rfl) (by decide) ?_
 refine Rg.q (v := .int .i64 (r5.1)) (Pu.qo (p_move rfl)) (by decide) ?_
 obtain ⟨r8, h9, H⟩ := bd.of H
 refine Rg.ed (e_callM (vs := [.slice x_v0.2.2.1 v0.2.2.length x_v0.2.2.2, .int .i64 (r5.1)]) (c_laws_markSampleS v0.2.2 x_v0.2.2 v0.2.2.length rfl r5.1 h9) (Solo.tree Solo.nil) (fun _ => (Solo.tree Solo.nil)) rfl (.cons Del.here.there.there.there.there .nil) EntsB.nil) rfl (by decide) ?_
 rintro _ _ _ ⟨u10, rfl, rfl, rfl⟩
 refine Rg.q (v := .int .i64 (r8.1)) (Pu.qo (p_assign rfl)) (by decide) ?_
 refine Rg.nl (nT ?_)
 refine Tr.seq (Tr.region ?_)
 refine Rg.q (v := .int .i64 (r8.1)) (Pu.qo (p_move rfl)) (by decide) ?_
 refine Rg.q (v := .int .i64 (r8.1)) (Pu.qo (p_assign rfl)) (by decide) ?_
 refine Rg.nl (nT ?_)
 refine tRet ?_
 have hr := Option.some.inj H; subst hr
 exact back1 () rfl (ResV.tmp (v := .int .i64 (r8.1)) rfl) rfl Ents.nil (.cons Del.here.there.there (.cons Del.here.there.there (.cons Del.here.there (.cons Del.here .nil))))
noncomputable def p_laws_markFileS_b0 (v0 : (List File)) (Q5 : (List File) × Int × Int) : Option (((List File) × Int × Int) ⊕ (Int × (List File))) := cond (decide (Q5.2.2 < (v0.length : Int))) (gd (ix Q5.2.2 Q5.1.length) <| gd (I64 (Q5.2.1 + 1)) <| bd (p_laws_markIntS (((nth Q5.1 Q5.2.2.toNat).2).1) (Q5.2.1 + 1)) fun r17 => bd (p_laws_markRowSS (((nth Q5.1 Q5.2.2.toNat).2).2) r17.1) fun r20 => gd (I64 (Q5.2.2 + 1)) <| some (.inl ((Q5.1.set Q5.2.2.toNat (Q5.2.1, (r17.2, r20.2))), r20.1, Q5.2.2 + 1))) (some (.inr (Q5.2.1, Q5.1)))
noncomputable def p_laws_markFileS (v0 : (List File)) (v1 : Int) : Option (Int × (List File)) := bd (lp (p_laws_markFileS_b0 v0) (v0, v1, 0)) fun x1 => some (x1.1, x1.2)
theorem c_laws_markFileS {r : Int × (List File)} (v0 : (List File)) (x_v0 : Option Addr × Nat) (n_v0 : Nat) (e_v0 : n_v0 = v0.length) (v1 : Int) (H : p_laws_markFileS v0 v1 = some r) : Fn' Try.prog 137 #[.slice x_v0.1 n_v0 x_v0.2, .int .i64 (v1)] [] [tree (.slice x_v0.1 n_v0 x_v0.2) v0] (ι := Unit) (fun _ => .int .i64 (r.1)) (fun _ => []) (fun _ => [tree (.slice x_v0.1 n_v0 x_v0.2) r.2]) := by
 subst e_v0
 refine calls_of (args := [_, _]) Try.func137 rfl (by kernel_rfl) Try.ntmps137 (by simp) fun c => ?_
 unfold p_laws_markFileS at H
 refine Tr.seq (Tr.region ?_)
 refine Rg.q (v := .int .i64 (0)) (Pu.qo (p_assign rfl)) (by decide) ?_
 refine Rg.nl (nT ?_)
 refine Tr.seq (Tr.seq (Tr.region ?_))
 refine Rg.q (v := .int .i64 (0)) (Pu.qo (p_assign rfl)) (by decide) ?_
 refine Rg.nl (nT ?_)
 obtain ⟨x1, hx2, H⟩ := bd.of H
 obtain ⟨n3, hx2⟩ := lp.of hx2
 refine tMidNC (ι := Unit) (fun ψ => [(1, .int .i64 (x1.1))]) (fun ψ => [tree (.slice x_v0.1 v0.length x_v0.2) x1.2]) ?_ ?_
 ·refine Tr.block ?_
  refine tLoopC (ι := { q : Nat × ((List File) × Int × Int) × Unit // itr (p_laws_markFileS_b0 v0) q.1 q.2.1 = some x1 }) (fun ζ => [(0, .slice x_v0.1 v0.length x_v0.2), (1, .int .i64 (ζ.1.2.1.2.1)), (5, .int .i64 (ζ.1.2.1.2.2))]) (fun ζ => [tree (.slice x_v0.1 v0.length x_v0.2) ζ.1.2.1.1]) (fun ζ => ζ.1.1) ⟨(n3, (v0, v1, 0), ()), hx2⟩ ⟨rfl, rfl, rfl, trivial⟩ (.cons Del.here .nil) ?_
  rintro ⟨⟨m4, Q5, z6⟩, hk11⟩
  obtain ⟨m12, t8, e, H1, hi9, hb10⟩ := itr.of (n := m4) (s := Q5) hk11
  subst e; unfold p_laws_markFileS_b0 at H1
  show Tr _ _ _ _ _ [(0, .slice x_v0.1 v0.length x_v0.2), (1, .int .i64 (Q5.2.1)), (5, .int .i64 (Q5.2.2))] _ [tree (.slice x_v0.1 v0.length x_v0.2) Q5.1]
  refine Tr.seq (Tr.seq (Tr.region ?_))
  refine Rg.q (v := .int .i64 (Q5.2.2)) (Pu.qo (p_move rfl)) (by decide) ?_
  refine Rg.q (v := .slice x_v0.1 v0.length x_v0.2) (Pu.qo (p_move rfl)) (by decide) ?_
  refine Rg.q (v := .int .i64 ((v0.length : Int))) (Pu.qo (p_len 174 Try.underlying79 rfl)) (by decide) ?_
  refine Rg.q (v := .bool (decide (Q5.2.2 < (v0.length : Int)))) (Pu.qo (p_lss rfl rfl)) (by decide) ?_
  refine Rg.nl (nT ?_)
  refine Tr.cond (b := decide (Q5.2.2 < (v0.length : Int))) rfl (fun h13 => ?_) (fun h13 => ?_)
  ·have H1 := cdT h13 H1
   refine tSkip ?_
   refine nT (Tr.seq ?_)
   refine Tr.block ?_
   refine Tr.seq ?_
   obtain ⟨h14, H1⟩ := gd.of H1
   refine Tr.zoom (k := Q5.2.2.toNat) h14.lt (.cons Del.here .nil) fun x15 => ?_
   show Tr _ _ _ _ _ _ _ (hole (.slice x_v0.1 v0.length x_v0.2) Q5.1 Q5.2.2.toNat [.int .i64 ((nth Q5.1 Q5.2.2.toNat).1), .slice x15.2.1.1 ((((nth Q5.1 Q5.2.2.toNat).2).1).length) x15.2.1.2, .slice x15.2.2.1 ((((nth Q5.1 Q5.2.2.toNat).2).2).length) x15.2.2.2] :: tree (.slice x15.2.1.1 ((((nth Q5.1 Q5.2.2.toNat).2).1).length) x15.2.1.2) (((nth Q5.1 Q5.2.2.toNat).2).1) :: tree (.slice x15.2.2.1 ((((nth Q5.1 Q5.2.2.toNat).2).2).length) x15.2.2.2) (((nth Q5.1 Q5.2.2.toNat).2).2) :: _)
   refine Tr.region ?_
   refine Rg.q (v := .slice x_v0.1 v0.length x_v0.2) (Pu.qo (p_move rfl)) (by decide) ?_
   refine Rg.q (v := .int .i64 (Q5.2.2)) (Pu.qo (p_move rfl)) (by decide) ?_
   refine Rg.q (v := .int .i64 (Q5.2.1)) (Pu.qo (p_move rfl)) (by decide) ?_
   refine Rg.q (v := elp x_v0.1 (Q5.2.2.toNat * Enc.sz File + 0)) (q_ixH (k := Q5.2.2.toNat) Try.underlying79 ty174 rfl rfl h14 rfl Has.here) (by decide) ?_
   refine Rg.q (v := elp x_v0.1 (Q5.2.2.toNat * Enc.sz File + 0)) (q_faH (j := 0) (i := Q5.2.2.toNat) fa174_0 rfl Has.here rfl) (by decide) ?_
   refine Rg.en (e_stH (v := .int .i64 (Q5.2.1)) (i := Q5.2.2.toNat) (j := 0) (cs' := [.int .i64 (Q5.2.1), .slice x15.2.1.1 ((((nth Q5.1 Q5.2.2.toNat).2).1).length) x15.2.1.2, .slice x15.2.2.1 ((((nth Q5.1 Q5.2.2.toNat).2).2).length) x15.2.2.2]) ty3 rfl rfl (.cons Del.here .nil) rfl (by simp [Value.cells, Value.oneCell']) (Nat.le_of_ble_eq_true rfl) rfl rfl) rfl ?_
   rintro _ _ _ ⟨rfl, rfl, rfl⟩
   refine Rg.nl (nT ?_)
   refine Tr.seq (Tr.region ?_)
   refine Rg.q (v := .int .i64 (Q5.2.1)) (Pu.qo (p_move rfl)) (by decide) ?_
   obtain ⟨h16, H1⟩ := gd.of H1
   refine Rg.q (v := .int .i64 (Q5.2.1 + 1)) (Pu.qo (p_add rfl rfl h16)) (by decide) ?_
   refine Rg.q (v := .int .i64 (Q5.2.1 + 1)) (Pu.qo (p_assign rfl)) (by decide) ?_
   refine Rg.nl (nT ?_)
   refine Tr.seq (Tr.region ?_)
   refine Rg.q (v := .slice x_v0.1 v0.length x_v0.2) (Pu.qo (p_move rfl)) (by decide) ?_
   refine Rg.q (v := .int .i64 (Q5.2.2)) (Pu.qo (p_move rfl)) (by decide) ?_
   refine Rg.q (v := elp x_v0.1 (Q5.2.2.toNat * Enc.sz File + 0)) (q_ixH (k := Q5.2.2.toNat) Try.underlying79 ty174 rfl rfl h14 rfl Has.here) (by decide) ?_
   refine Rg.q (v := elp x_v0.1 (Q5.2.2.toNat * Enc.sz File + 1)) (q_faH (j := 0) (i := Q5.2.2.toNat) fa174_1 rfl Has.here rfl) (by decide) ?_
   refine Rg.q (v := elp x_v0.1 (Q5.2.2.toNat * Enc.sz File + 1)) (q_faH (j := 1) (i := Q5.2.2.toNat) fa164_0 rfl Has.here rfl) (by decide) ?_
   refine Rg.q (v := .slice x15.2.1.1 ((((nth Q5.1 Q5.2.2.toNat).2).1).length) x15.2.1.2) (q_ldH (i := Q5.2.2.toNat) (j := 1) ty31 rfl Has.here rfl) (by decide) ?_
   refine Rg.q (v := .int .i64 (Q5.2.1 + 1)) (Pu.qo (p_move rfl)) (by decide) ?_
   obtain ⟨r17, h18, H1⟩ := bd.of H1
   refine Rg.ed (e_callM (vs := [.slice x15.2.1.1 ((((nth Q5.1 Q5.2.2.toNat).2).1).length) x15.2.1.2, .int .i64 (Q5.2.1 + 1)]) (c_laws_markIntS (((nth Q5.1 Q5.2.2.toNat).2).1) x15.2.1 ((((nth Q5.1 Q5.2.2.toNat).2).1).length) rfl (Q5.2.1 + 1) h18) (Solo.tree Solo.nil) (fun _ => (Solo.tree Solo.nil)) rfl (.cons Del.here.there .nil) EntsB.nil) rfl (by decide) ?_
   rintro _ _ _ ⟨u19, rfl, rfl, rfl⟩
   refine Rg.q (v := .int .i64 (r17.1)) (Pu.qo (p_assign rfl)) (by decide) ?_
   refine Rg.nl (nT ?_)
   refine Tr.olen Has.here fun hn => ?_; rw [hn]
   refine Tr.region ?_
   refine Rg.q (v := .slice x_v0.1 v0.length x_v0.2) (Pu.qo (p_move rfl)) (by decide) ?_
   refine Rg.q (v := .int .i64 (Q5.2.2)) (Pu.qo (p_move rfl)) (by decide) ?_
   refine Rg.q (v := elp x_v0.1 (Q5.2.2.toNat * Enc.sz File + 0)) (q_ixH (k := Q5.2.2.toNat) Try.underlying79 ty174 rfl rfl h14 rfl Has.here.there) (by decide) ?_
   refine Rg.q (v := elp x_v0.1 (Q5.2.2.toNat * Enc.sz File + 1)) (q_faH (j := 0) (i := Q5.2.2.toNat) fa174_1 rfl Has.here.there rfl) (by decide) ?_
   refine Rg.q (v := elp x_v0.1 (Q5.2.2.toNat * Enc.sz File + 2)) (q_faH (j := 1) (i := Q5.2.2.toNat) fa164_1 rfl Has.here.there rfl) (by decide) ?_
   refine Rg.q (v := .slice x15.2.2.1 ((((nth Q5.1 Q5.2.2.toNat).2).2).length) x15.2.2.2) (q_ldH (i := Q5.2.2.toNat) (j := 2) ty162 rfl Has.here.there rfl) (by decide) ?_
   refine Rg.q (v := .int .i64 (r17.1)) (Pu.qo (p_move rfl)) (by decide) ?_
   obtain ⟨r20, h21, H1⟩ := bd.of H1
   refine Rg.ed (e_callM (vs := [.slice x15.2.2.1 ((((nth Q5.1 Q5.2.2.toNat).2).2).length) x15.2.2.2, .int .i64 (r17.1)]) (c_laws_markRowSS (((nth Q5.1 Q5.2.2.toNat).2).2) x15.2.2 ((((nth Q5.1 Q5.2.2.toNat).2).2).length) rfl r17.1 h21) (Solo.tree Solo.nil) (fun _ => (Solo.tree Solo.nil)) rfl (.cons Del.here.there.there .nil) EntsB.nil) rfl (by decide) ?_
   rintro _ _ _ ⟨u22, rfl, rfl, rfl⟩
   refine Rg.q (v := .int .i64 (r20.1)) (Pu.qo (p_assign rfl)) (by decide) ?_
   refine Rg.nl ?_
   refine nB (nT (?_))
   refine Tr.olen Has.here fun hn => ?_; rw [hn]
   refine Tr.region ?_
   refine Rg.q (v := .int .i64 (Q5.2.2)) (Pu.qo (p_move rfl)) (by decide) ?_
   obtain ⟨h23, H1⟩ := gd.of H1
   refine Rg.q (v := .int .i64 (Q5.2.2 + 1)) (Pu.qo (p_add rfl rfl h23)) (by decide) ?_
   refine Rg.q (v := .int .i64 (Q5.2.2 + 1)) (Pu.qo (p_assign rfl)) (by decide) ?_
   refine Rg.nl ?_
   refine At.unzoom (Q5.2.1, (r17.2, r20.2)) ((), x15.2) rfl (.cons Del.here.there.there (.cons Del.here.there (.cons Del.here .nil))) ?_
   exact nLC ⟨(m12, ((Q5.1.set Q5.2.2.toNat (Q5.2.1, (r17.2, r20.2))), r20.1, Q5.2.2 + 1), ()), hi9 _ (Option.some.inj H1).symm⟩ (Nat.lt_succ_self _) ⟨rfl, rfl, rfl, trivial⟩ Ents.refl (.cons Del.here .nil)
  ·have H1 := cdF h13 H1
   refine tExit (xT (xT (xE (?_))))
   have hx := hb10 _ (Option.some.inj H1).symm; subst hx
   exact nMC () ⟨rfl, trivial⟩ Ents.refl (.cons Del.here .nil)
 ·intro y7
  show At _ _ [(1, .int .i64 (x1.1))] _ [tree (.slice x_v0.1 v0.length x_v0.2) x1.2] _
  refine nT (?_)
  refine Tr.seq (Tr.region ?_)
  refine Rg.q (v := .int .i64 (x1.1)) (Pu.qo (p_move rfl)) (by decide) ?_
  refine Rg.q (v := .int .i64 (x1.1)) (Pu.qo (p_assign rfl)) (by decide) ?_
  refine Rg.nl (nT ?_)
  refine tRet ?_
  have hr := Option.some.inj H; subst hr
  exact back1 () rfl (ResV.tmp (v := .int .i64 (x1.1)) rfl) rfl Ents.nil (.cons Del.here .nil)
noncomputable def p_laws_markDisk (v0 : Disk) (v1 : Int) : Option (Int × Disk) := bd (p_laws_markFileS v0.1 v1) fun r2 => bd (p_laws_markIntS v0.2.1 r2.1) fun r5 => bd (p_laws_markTagSS v0.2.2.1 r5.1) fun r8 => some (r8.1, (r2.2, r5.2, r8.2, v0.2.2.2))
theorem c_laws_markDisk {r : Int × Disk} (v0 : Disk) (x_v0 : (Option Addr × Nat) × (Option Addr × Nat) × (Option Addr × Nat) × Unit) (v1 : Int) (H : p_laws_markDisk v0 v1 = some r) : Fn' Try.prog 103 #[.agg #[.slice x_v0.1.1 v0.1.length x_v0.1.2, .slice x_v0.2.1.1 v0.2.1.length x_v0.2.1.2, .slice x_v0.2.2.1.1 v0.2.2.1.length x_v0.2.2.1.2, .int .i64 (v0.2.2.2)], .int .i64 (v1)] [] [tree (.slice x_v0.1.1 v0.1.length x_v0.1.2) v0.1, tree (.slice x_v0.2.1.1 v0.2.1.length x_v0.2.1.2) v0.2.1, tree (.slice x_v0.2.2.1.1 v0.2.2.1.length x_v0.2.2.1.2) v0.2.2.1] (ι := Unit) (fun _ => .int .i64 (r.1)) (fun _ => []) (fun _ => [tree (.slice x_v0.1.1 v0.1.length x_v0.1.2) r.2.1, tree (.slice x_v0.2.1.1 v0.2.1.length x_v0.2.1.2) r.2.2.1, tree (.slice x_v0.2.2.1.1 v0.2.2.1.length x_v0.2.2.1.2) r.2.2.2.1]) := by
 refine calls_of (args := [_, _]) Try.func103 rfl (by kernel_rfl) Try.ntmps103 (by simp) fun c => ?_
 unfold p_laws_markDisk at H
 refine Tr.seq (Tr.region ?_)
 refine Rg.ed (e_box (t := 81) (v := .agg #[.slice x_v0.1.1 v0.1.length x_v0.1.2, .slice x_v0.2.1.1 v0.2.1.length x_v0.2.1.2, .slice x_v0.2.2.1.1 v0.2.2.1.length x_v0.2.2.1.2, .int .i64 (v0.2.2.2)]) rfl) rfl (by decide) ?_
 rintro _ _ _ ⟨g1, rfl, rfl, rfl⟩
 refine Rg.q (v := .int .i64 (0)) (Pu.qo (p_assign rfl)) (by decide) ?_
 refine Rg.nl (nT ?_)
 refine Tr.seq (Tr.region ?_)
 refine Rg.q (v := .pointer (some ⟨g1, 0, none⟩)) (Pu.qo (p_fabE fa81_0 rfl rfl)) (by decide) ?_
 refine Rg.q (v := .slice x_v0.1.1 v0.1.length x_v0.1.2) (q_ldb ty79 rfl Has.here rfl) (by decide) ?_
 refine Rg.q (v := .int .i64 (v1)) (Pu.qo (p_move rfl)) (by decide) ?_
 obtain ⟨r2, h3, H⟩ := bd.of H
 refine Rg.ed (e_callM (vs := [.slice x_v0.1.1 v0.1.length x_v0.1.2, .int .i64 (v1)]) (c_laws_markFileS v0.1 x_v0.1 v0.1.length rfl v1 h3) (Solo.tree Solo.nil) (fun _ => (Solo.tree Solo.nil)) rfl (.cons Del.here.there .nil) EntsB.nil) rfl (by decide) ?_
 rintro _ _ _ ⟨u4, rfl, rfl, rfl⟩
 refine Rg.q (v := .int .i64 (r2.1)) (Pu.qo (p_assign rfl)) (by decide) ?_
 refine Rg.nl (nT ?_)
 refine Tr.seq (Tr.region ?_)
 refine Rg.q (v := .pointer (some ⟨g1, 1, none⟩)) (Pu.qo (p_fabE fa81_1 rfl rfl)) (by decide) ?_
 refine Rg.q (v := .slice x_v0.2.1.1 v0.2.1.length x_v0.2.1.2) (q_ldb ty31 rfl Has.here.there rfl) (by decide) ?_
 refine Rg.q (v := .int .i64 (r2.1)) (Pu.qo (p_move rfl)) (by decide) ?_
 obtain ⟨r5, h6, H⟩ := bd.of H
 refine Rg.ed (e_callM (vs := [.slice x_v0.2.1.1 v0.2.1.length x_v0.2.1.2, .int .i64 (r2.1)]) (c_laws_markIntS v0.2.1 x_v0.2.1 v0.2.1.length rfl r2.1 h6) (Solo.tree Solo.nil) (fun _ => (Solo.tree Solo.nil)) rfl (.cons Del.here.there.there .nil) EntsB.nil) rfl (by decide) ?_
 rintro _ _ _ ⟨u7, rfl, rfl, rfl⟩
 refine Rg.q (v := .int .i64 (r5.1)) (Pu.qo (p_assign rfl)) (by decide) ?_
 refine Rg.nl (nT ?_)
 refine Tr.seq (Tr.region ?_)
 refine Rg.q (v := .pointer (some ⟨g1, 2, none⟩)) (Pu.qo (p_fabE fa81_2 rfl rfl)) (by decide) ?_
 refine Rg.q (v := .slice x_v0.2.2.1.1 v0.2.2.1.length x_v0.2.2.1.2) (q_ldb ty23 rfl Has.here.there.there rfl) (by decide) ?_
 refine Rg.q (v := .int .i64 (r5.1)) (Pu.qo (p_move rfl)) (by decide) ?_
 obtain ⟨r8, h9, H⟩ := bd.of H
 refine Rg.ed (e_callM (vs := [.slice x_v0.2.2.1.1 v0.2.2.1.length x_v0.2.2.1.2, .int .i64 (r5.1)]) (c_laws_markTagSS v0.2.2.1 x_v0.2.2.1 v0.2.2.1.length rfl r5.1 h9) (Solo.tree Solo.nil) (fun _ => (Solo.tree Solo.nil)) rfl (.cons Del.here.there.there.there .nil) EntsB.nil) rfl (by decide) ?_
 rintro _ _ _ ⟨u10, rfl, rfl, rfl⟩
 refine Rg.q (v := .int .i64 (r8.1)) (Pu.qo (p_assign rfl)) (by decide) ?_
 refine Rg.nl (nT ?_)
 refine Tr.seq (Tr.region ?_)
 refine Rg.q (v := .int .i64 (r8.1)) (Pu.qo (p_move rfl)) (by decide) ?_
 refine Rg.q (v := .int .i64 (r8.1)) (Pu.qo (p_assign rfl)) (by decide) ?_
 refine Rg.nl (nT ?_)
 refine tRet ?_
 have hr := Option.some.inj H; subst hr
 exact back1 () rfl (ResV.tmp (v := .int .i64 (r8.1)) rfl) rfl Ents.nil (.cons Del.here.there.there (.cons Del.here.there (.cons Del.here .nil)))
noncomputable def p_laws_markWorld (v0 : World) (v1 : Int) : Option (Int × World) := bd (p_laws_markStore v0.1 v1) fun r2 => bd (p_laws_markDisk v0.2 r2.1) fun r5 => some (r5.1, (r2.2, (r5.2.1, r5.2.2.1, r5.2.2.2.1, v0.2.2.2.2)))
theorem c_laws_markWorld {r : Int × World} (v0 : World) (x_v0 : (((Option Addr × Nat) × (Option Addr × Nat)) × (Option Addr × Nat) × (Option Addr × Nat)) × ((Option Addr × Nat) × (Option Addr × Nat) × (Option Addr × Nat) × Unit)) (v1 : Int) (H : p_laws_markWorld v0 v1 = some r) : Fn' Try.prog 53 #[.agg #[.slice x_v0.1.1.1.1 v0.1.1.1.length x_v0.1.1.1.2, .slice x_v0.1.1.2.1 v0.1.1.2.length x_v0.1.1.2.2, .slice x_v0.1.2.1.1 v0.1.2.1.length x_v0.1.2.1.2, .slice x_v0.1.2.2.1 v0.1.2.2.length x_v0.1.2.2.2, .slice x_v0.2.1.1 v0.2.1.length x_v0.2.1.2, .slice x_v0.2.2.1.1 v0.2.2.1.length x_v0.2.2.1.2, .slice x_v0.2.2.2.1.1 v0.2.2.2.1.length x_v0.2.2.2.1.2, .int .i64 (v0.2.2.2.2)], .int .i64 (v1)] [] [tree (.slice x_v0.1.1.1.1 v0.1.1.1.length x_v0.1.1.1.2) v0.1.1.1, tree (.slice x_v0.1.1.2.1 v0.1.1.2.length x_v0.1.1.2.2) v0.1.1.2, tree (.slice x_v0.1.2.1.1 v0.1.2.1.length x_v0.1.2.1.2) v0.1.2.1, tree (.slice x_v0.1.2.2.1 v0.1.2.2.length x_v0.1.2.2.2) v0.1.2.2, tree (.slice x_v0.2.1.1 v0.2.1.length x_v0.2.1.2) v0.2.1, tree (.slice x_v0.2.2.1.1 v0.2.2.1.length x_v0.2.2.1.2) v0.2.2.1, tree (.slice x_v0.2.2.2.1.1 v0.2.2.2.1.length x_v0.2.2.2.1.2) v0.2.2.2.1] (ι := Unit) (fun _ => .int .i64 (r.1)) (fun _ => []) (fun _ => [tree (.slice x_v0.1.1.1.1 v0.1.1.1.length x_v0.1.1.1.2) r.2.1.1.1, tree (.slice x_v0.1.1.2.1 v0.1.1.2.length x_v0.1.1.2.2) r.2.1.1.2, tree (.slice x_v0.1.2.1.1 v0.1.2.1.length x_v0.1.2.1.2) r.2.1.2.1, tree (.slice x_v0.1.2.2.1 v0.1.2.2.length x_v0.1.2.2.2) r.2.1.2.2, tree (.slice x_v0.2.1.1 v0.2.1.length x_v0.2.1.2) r.2.2.1, tree (.slice x_v0.2.2.1.1 v0.2.2.1.length x_v0.2.2.1.2) r.2.2.2.1, tree (.slice x_v0.2.2.2.1.1 v0.2.2.2.1.length x_v0.2.2.2.1.2) r.2.2.2.2.1]) := by
 refine calls_of (args := [_, _]) Try.func53 rfl (by kernel_rfl) Try.ntmps53 (by simp) fun c => ?_
 unfold p_laws_markWorld at H
 refine Tr.seq (Tr.region ?_)
 refine Rg.ed (e_box (t := 83) (v := .agg #[.slice x_v0.1.1.1.1 v0.1.1.1.length x_v0.1.1.1.2, .slice x_v0.1.1.2.1 v0.1.1.2.length x_v0.1.1.2.2, .slice x_v0.1.2.1.1 v0.1.2.1.length x_v0.1.2.1.2, .slice x_v0.1.2.2.1 v0.1.2.2.length x_v0.1.2.2.2, .slice x_v0.2.1.1 v0.2.1.length x_v0.2.1.2, .slice x_v0.2.2.1.1 v0.2.2.1.length x_v0.2.2.1.2, .slice x_v0.2.2.2.1.1 v0.2.2.2.1.length x_v0.2.2.2.1.2, .int .i64 (v0.2.2.2.2)]) rfl) rfl (by decide) ?_
 rintro _ _ _ ⟨g1, rfl, rfl, rfl⟩
 refine Rg.q (v := .int .i64 (0)) (Pu.qo (p_assign rfl)) (by decide) ?_
 refine Rg.nl (nT ?_)
 refine Tr.seq (Tr.region ?_)
 refine Rg.q (v := .pointer (some ⟨g1, 0, none⟩)) (Pu.qo (p_fabE fa83_0 rfl rfl)) (by decide) ?_
 refine Rg.q (v := .agg #[.slice x_v0.1.1.1.1 v0.1.1.1.length x_v0.1.1.1.2, .slice x_v0.1.1.2.1 v0.1.1.2.length x_v0.1.1.2.2, .slice x_v0.1.2.1.1 v0.1.2.1.length x_v0.1.2.1.2, .slice x_v0.1.2.2.1 v0.1.2.2.length x_v0.1.2.2.2]) (q_ldbP [.slice x_v0.1.1.1.1 v0.1.1.1.length x_v0.1.1.1.2, .slice x_v0.1.1.2.1 v0.1.1.2.length x_v0.1.1.2.2, .slice x_v0.1.2.1.1 v0.1.2.1.length x_v0.1.2.1.2, .slice x_v0.1.2.2.1 v0.1.2.2.length x_v0.1.2.2.2] ty78 rfl Has.here rfl rfl) (by decide) ?_
 refine Rg.q (v := .int .i64 (v1)) (Pu.qo (p_move rfl)) (by decide) ?_
 obtain ⟨r2, h3, H⟩ := bd.of H
 refine Rg.ed (e_callM (vs := [.agg #[.slice x_v0.1.1.1.1 v0.1.1.1.length x_v0.1.1.1.2, .slice x_v0.1.1.2.1 v0.1.1.2.length x_v0.1.1.2.2, .slice x_v0.1.2.1.1 v0.1.2.1.length x_v0.1.2.1.2, .slice x_v0.1.2.2.1 v0.1.2.2.length x_v0.1.2.2.2], .int .i64 (v1)]) (c_laws_markStore v0.1 x_v0.1 v1 h3) (Solo.tree (Solo.tree (Solo.tree (Solo.tree Solo.nil)))) (fun _ => (Solo.tree (Solo.tree (Solo.tree (Solo.tree Solo.nil))))) rfl (.cons Del.here.there (.cons Del.here.there (.cons Del.here.there (.cons Del.here.there .nil)))) EntsB.nil) rfl (by decide) ?_
 rintro _ _ _ ⟨u4, rfl, rfl, rfl⟩
 refine Rg.q (v := .int .i64 (r2.1)) (Pu.qo (p_assign rfl)) (by decide) ?_
 refine Rg.nl (nT ?_)
 refine Tr.seq (Tr.region ?_)
 refine Rg.q (v := .pointer (some ⟨g1, 4, none⟩)) (Pu.qo (p_fabE fa83_1 rfl rfl)) (by decide) ?_
 refine Rg.q (v := .agg #[.slice x_v0.2.1.1 v0.2.1.length x_v0.2.1.2, .slice x_v0.2.2.1.1 v0.2.2.1.length x_v0.2.2.1.2, .slice x_v0.2.2.2.1.1 v0.2.2.2.1.length x_v0.2.2.2.1.2, .int .i64 (v0.2.2.2.2)]) (q_ldbP [.slice x_v0.2.1.1 v0.2.1.length x_v0.2.1.2, .slice x_v0.2.2.1.1 v0.2.2.1.length x_v0.2.2.1.2, .slice x_v0.2.2.2.1.1 v0.2.2.2.1.length x_v0.2.2.2.1.2, .int .i64 (v0.2.2.2.2)] ty81 rfl Has.here.there.there.there.there rfl rfl) (by decide) ?_
 refine Rg.q (v := .int .i64 (r2.1)) (Pu.qo (p_move rfl)) (by decide) ?_
 obtain ⟨r5, h6, H⟩ := bd.of H
 refine Rg.ed (e_callM (vs := [.agg #[.slice x_v0.2.1.1 v0.2.1.length x_v0.2.1.2, .slice x_v0.2.2.1.1 v0.2.2.1.length x_v0.2.2.1.2, .slice x_v0.2.2.2.1.1 v0.2.2.2.1.length x_v0.2.2.2.1.2, .int .i64 (v0.2.2.2.2)], .int .i64 (r2.1)]) (c_laws_markDisk v0.2 (x_v0.2.1, x_v0.2.2.1, x_v0.2.2.2.1, ()) r2.1 h6) (Solo.tree (Solo.tree (Solo.tree Solo.nil))) (fun _ => (Solo.tree (Solo.tree (Solo.tree Solo.nil)))) rfl (.cons Del.here.there.there.there.there.there (.cons Del.here.there.there.there.there.there (.cons Del.here.there.there.there.there.there .nil))) EntsB.nil) rfl (by decide) ?_
 rintro _ _ _ ⟨u7, rfl, rfl, rfl⟩
 refine Rg.q (v := .int .i64 (r5.1)) (Pu.qo (p_assign rfl)) (by decide) ?_
 refine Rg.nl (nT ?_)
 refine Tr.seq (Tr.region ?_)
 refine Rg.q (v := .int .i64 (r5.1)) (Pu.qo (p_move rfl)) (by decide) ?_
 refine Rg.q (v := .int .i64 (r5.1)) (Pu.qo (p_assign rfl)) (by decide) ?_
 refine Rg.nl (nT ?_)
 refine tRet ?_
 have hr := Option.some.inj H; subst hr
 exact back1 () rfl (ResV.tmp (v := .int .i64 (r5.1)) rfl) rfl Ents.nil (.cons Del.here.there.there.there (.cons Del.here.there.there.there (.cons Del.here.there.there.there (.cons Del.here.there.there.there (.cons Del.here (.cons Del.here (.cons Del.here .nil)))))))
noncomputable def p_laws_heldRowS_b0 (v0 : (List Row)) (Q5 : Int × Int) : Option ((Int × Int) ⊕ (Int ⊕ Int)) := cond (decide (Q5.2 < (v0.length : Int))) (gd (ix Q5.2 v0.length) <| cond (!decide (((nth v0 Q5.2.toNat).1) = Q5.1)) (some (.inr (.inr (-1)))) (gd (I64 (Q5.1 + 1)) <| cond (!decide (((nth v0 Q5.2.toNat).2) = (Q5.1 + 1))) (some (.inr (.inr (-1)))) (gd (I64 ((Q5.1 + 1) + 1)) <| gd (I64 (Q5.2 + 1)) <| some (.inl ((Q5.1 + 1) + 1, Q5.2 + 1))))) (some (.inr (.inl Q5.1)))
noncomputable def p_laws_heldRowS (v0 : (List Row)) (v1 : Int) : Option (Int) := bd (lp (p_laws_heldRowS_b0 v0) (v1, 0)) <| sw (fun e20 => some e20) (fun q => some q)
theorem c_laws_heldRowS {r : Int} (v0 : (List Row)) (x_v0 : Option Addr × Nat) (v1 : Int) (H : p_laws_heldRowS v0 v1 = some r) : Fn' Try.prog 165 #[.slice x_v0.1 v0.length x_v0.2, .int .i64 (v1)] [imm (.slice x_v0.1 v0.length x_v0.2) v0] [] (ι := Unit) (fun _ => .int .i64 (r)) (fun _ => []) (fun _ => []) := by
 refine calls_of (args := [_, _]) Try.func165 rfl (by kernel_rfl) Try.ntmps165 (by simp) fun c => ?_
 unfold p_laws_heldRowS at H
 refine Tr.seq (Tr.region ?_)
 refine Rg.q (v := .int .i64 (0)) (Pu.qo (p_assign rfl)) (by decide) ?_
 refine Rg.nl (nT ?_)
 refine Tr.seq (Tr.seq (Tr.region ?_))
 refine Rg.q (v := .int .i64 (0)) (Pu.qo (p_assign rfl)) (by decide) ?_
 refine Rg.nl (nT ?_)
 obtain ⟨x1, hx2, H⟩ := bd.of H
 obtain ⟨n3, hx2⟩ := lp.of hx2
 refine tMidNC (ι := { q : (Int) × Unit // x1 = .inl q.1 }) (fun ψ => [(1, .int .i64 (ψ.1.1))]) (fun ψ => []) ?_ ?_
 ·refine Tr.block ?_
  refine tLoopC (ι := { q : Nat × (Int × Int) × Unit // itr (p_laws_heldRowS_b0 v0) q.1 q.2.1 = some x1 }) (fun ζ => [(0, .slice x_v0.1 v0.length x_v0.2), (1, .int .i64 (ζ.1.2.1.1)), (5, .int .i64 (ζ.1.2.1.2))]) (fun ζ => []) (fun ζ => ζ.1.1) ⟨(n3, (v1, 0), ()), hx2⟩ ⟨rfl, rfl, rfl, trivial⟩ Take.nil ?_
  rintro ⟨⟨m4, Q5, z6⟩, hk11⟩
  obtain ⟨m12, t8, e, H1, hi9, hb10⟩ := itr.of (n := m4) (s := Q5) hk11
  subst e; unfold p_laws_heldRowS_b0 at H1
  show Tr _ _ _ _ _ [(0, .slice x_v0.1 v0.length x_v0.2), (1, .int .i64 (Q5.1)), (5, .int .i64 (Q5.2))] _ []
  refine Tr.seq (Tr.seq (Tr.region ?_))
  refine Rg.q (v := .int .i64 (Q5.2)) (Pu.qo (p_move rfl)) (by decide) ?_
  refine Rg.q (v := .slice x_v0.1 v0.length x_v0.2) (Pu.qo (p_move rfl)) (by decide) ?_
  refine Rg.q (v := .int .i64 ((v0.length : Int))) (Pu.qo (p_len 169 Try.underlying188 rfl)) (by decide) ?_
  refine Rg.q (v := .bool (decide (Q5.2 < (v0.length : Int)))) (Pu.qo (p_lss rfl rfl)) (by decide) ?_
  refine Rg.nl (nT ?_)
  refine Tr.cond (b := decide (Q5.2 < (v0.length : Int))) rfl (fun h13 => ?_) (fun h13 => ?_)
  ·have H1 := cdT h13 H1
   refine tSkip ?_
   refine nT (Tr.seq ?_)
   refine Tr.block ?_
   refine Tr.seq (Tr.seq (Tr.region ?_))
   refine Rg.q (v := .slice x_v0.1 v0.length x_v0.2) (Pu.qo (p_move rfl)) (by decide) ?_
   refine Rg.q (v := .int .i64 (Q5.2)) (Pu.qo (p_move rfl)) (by decide) ?_
   obtain ⟨h14, H1⟩ := gd.of H1
   refine Rg.q (v := elp x_v0.1 (Q5.2.toNat * Enc.sz Row + 0)) (q_ixg (l := v0) (E := fun i => Flat.enc (nth v0 i)) (oa := x_v0.1) Try.underlying188 ty169 rfl rfl h14 rfl (EntB.flat (Ent.b Ent.z))) (by decide) ?_
   refine Rg.q (v := elp x_v0.1 (Q5.2.toNat * Enc.sz Row + 0)) (q_faeE (l := v0) (E := fun i => Flat.enc (nth v0 i)) (oa := x_v0.1) (j := 0) Q5.2.toNat fa169_0 rfl (EntB.flat (Ent.b Ent.z)) h14.lt rfl) (by decide) ?_
   refine Rg.q (v := .int .i64 ((nth v0 Q5.2.toNat).1)) (q_lde (l := v0) (E := fun i => Flat.enc (nth v0 i)) (oa := x_v0.1) (i := Q5.2.toNat) (j := 0) ty3 rfl (EntB.flat (Ent.b Ent.z)) h14.lt rfl) (by decide) ?_
   refine Rg.q (v := .int .i64 (Q5.1)) (Pu.qo (p_move rfl)) (by decide) ?_
   refine Rg.q (v := .bool (!decide (((nth v0 Q5.2.toNat).1) = Q5.1))) (Pu.qo (p_neq rfl rfl)) (by decide) ?_
   refine Rg.nl (nT ?_)
   refine Tr.cond (b := !decide (((nth v0 Q5.2.toNat).1) = Q5.1)) rfl (fun h15 => ?_) (fun h15 => ?_)
   ·have H1 := cdT h15 H1
    refine Tr.seq (Tr.region ?_)
    refine Rg.q (v := .int .i64 (-1)) (Pu.qo (p_assign rfl)) (by decide) ?_
    refine Rg.nl (nT ?_)
    refine tRet ?_
    refine rT (rB (rT (rT (rB (rT (rT (?_)))))))
    have hx := hb10 _ (Option.some.inj H1).symm; subst hx
    replace H := sw.r H
    have hr := Option.some.inj H; subst hr
    exact back1 () rfl (ResV.tmp (v := .int .i64 (-1)) rfl) rfl Ents.nil Take.nil
   ·have H1 := cdF h15 H1
    refine tSkip ?_
    refine nT (?_)
    refine Tr.seq (Tr.region ?_)
    refine Rg.q (v := .int .i64 (Q5.1)) (Pu.qo (p_move rfl)) (by decide) ?_
    obtain ⟨h16, H1⟩ := gd.of H1
    refine Rg.q (v := .int .i64 (Q5.1 + 1)) (Pu.qo (p_add rfl rfl h16)) (by decide) ?_
    refine Rg.q (v := .int .i64 (Q5.1 + 1)) (Pu.qo (p_assign rfl)) (by decide) ?_
    refine Rg.nl (nT ?_)
    refine Tr.seq (Tr.seq (Tr.region ?_))
    refine Rg.q (v := .slice x_v0.1 v0.length x_v0.2) (Pu.qo (p_move rfl)) (by decide) ?_
    refine Rg.q (v := .int .i64 (Q5.2)) (Pu.qo (p_move rfl)) (by decide) ?_
    refine Rg.q (v := elp x_v0.1 (Q5.2.toNat * Enc.sz Row + 0)) (q_ixg (l := v0) (E := fun i => Flat.enc (nth v0 i)) (oa := x_v0.1) Try.underlying188 ty169 rfl rfl h14 rfl (EntB.flat (Ent.b Ent.z))) (by decide) ?_
    refine Rg.q (v := elp x_v0.1 (Q5.2.toNat * Enc.sz Row + 1)) (q_faeE (l := v0) (E := fun i => Flat.enc (nth v0 i)) (oa := x_v0.1) (j := 0) Q5.2.toNat fa169_1 rfl (EntB.flat (Ent.b Ent.z)) h14.lt rfl) (by decide) ?_
    refine Rg.q (v := .int .i64 ((nth v0 Q5.2.toNat).2)) (q_lde (l := v0) (E := fun i => Flat.enc (nth v0 i)) (oa := x_v0.1) (i := Q5.2.toNat) (j := 1) ty3 rfl (EntB.flat (Ent.b Ent.z)) h14.lt rfl) (by decide) ?_
    refine Rg.q (v := .int .i64 (Q5.1 + 1)) (Pu.qo (p_move rfl)) (by decide) ?_
    refine Rg.q (v := .bool (!decide (((nth v0 Q5.2.toNat).2) = (Q5.1 + 1)))) (Pu.qo (p_neq rfl rfl)) (by decide) ?_
    refine Rg.nl (nT ?_)
    refine Tr.cond (b := !decide (((nth v0 Q5.2.toNat).2) = (Q5.1 + 1))) rfl (fun h17 => ?_) (fun h17 => ?_)
    ·have H1 := cdT h17 H1
     refine Tr.seq (Tr.region ?_)
     refine Rg.q (v := .int .i64 (-1)) (Pu.qo (p_assign rfl)) (by decide) ?_
     refine Rg.nl (nT ?_)
     refine tRet ?_
     refine rT (rB (rT (rT (rB (rT (rT (?_)))))))
     have hx := hb10 _ (Option.some.inj H1).symm; subst hx
     replace H := sw.r H
     have hr := Option.some.inj H; subst hr
     exact back1 () rfl (ResV.tmp (v := .int .i64 (-1)) rfl) rfl Ents.nil Take.nil
    ·have H1 := cdF h17 H1
     refine tSkip ?_
     refine nT (?_)
     refine Tr.region ?_
     refine Rg.q (v := .int .i64 (Q5.1 + 1)) (Pu.qo (p_move rfl)) (by decide) ?_
     obtain ⟨h18, H1⟩ := gd.of H1
     refine Rg.q (v := .int .i64 ((Q5.1 + 1) + 1)) (Pu.qo (p_add rfl rfl h18)) (by decide) ?_
     refine Rg.q (v := .int .i64 ((Q5.1 + 1) + 1)) (Pu.qo (p_assign rfl)) (by decide) ?_
     refine Rg.nl ?_
     refine nB (nT (?_))
     refine Tr.region ?_
     refine Rg.q (v := .int .i64 (Q5.2)) (Pu.qo (p_move rfl)) (by decide) ?_
     obtain ⟨h19, H1⟩ := gd.of H1
     refine Rg.q (v := .int .i64 (Q5.2 + 1)) (Pu.qo (p_add rfl rfl h19)) (by decide) ?_
     refine Rg.q (v := .int .i64 (Q5.2 + 1)) (Pu.qo (p_assign rfl)) (by decide) ?_
     refine Rg.nl ?_
     exact nLC ⟨(m12, ((Q5.1 + 1) + 1, Q5.2 + 1), ()), hi9 _ (Option.some.inj H1).symm⟩ (Nat.lt_succ_self _) ⟨rfl, rfl, rfl, trivial⟩ Ents.refl Take.nil
  ·have H1 := cdF h13 H1
   refine tExit (xT (xT (xE (?_))))
   exact nMC ⟨(Q5.1, ()), (hb10 _ (Option.some.inj H1).symm).symm⟩ ⟨rfl, trivial⟩ Ents.refl Take.nil
 ·rintro ⟨⟨e20, y7⟩, hx⟩; subst hx; replace H := sw.l H
  show At _ _ [(1, .int .i64 (e20))] _ [] _
  refine nT (?_)
  refine Tr.seq (Tr.region ?_)
  refine Rg.q (v := .int .i64 (e20)) (Pu.qo (p_move rfl)) (by decide) ?_
  refine Rg.q (v := .int .i64 (e20)) (Pu.qo (p_assign rfl)) (by decide) ?_
  refine Rg.nl (nT ?_)
  refine tRet ?_
  have hr := Option.some.inj H; subst hr
  exact back1 () rfl (ResV.tmp (v := .int .i64 (e20)) rfl) rfl Ents.nil Take.nil
noncomputable def p_laws_heldRowSS_b0 (v0 : (List (List Row))) (Q6 : Int × Int) : Option ((Int × Int) ⊕ (Int ⊕ Int)) := cond (decide (Q6.2 < (v0.length : Int))) (gd (ix Q6.2 v0.length) <| bd (p_laws_heldRowS (nth v0 Q6.2.toNat) Q6.1) fun r16 => cond (decide (r16 < 0)) (some (.inr (.inr (-1)))) (gd (I64 (Q6.2 + 1)) <| some (.inl (r16, Q6.2 + 1)))) (some (.inr (.inl Q6.1)))
noncomputable def p_laws_heldRowSS (v0 : (List (List Row))) (v1 : Int) : Option (Int) := bd (lp (p_laws_heldRowSS_b0 v0) (v1, 0)) <| sw (fun e20 => some e20) (fun q => some q)
theorem c_laws_heldRowSS {r : Int} (v0 : (List (List Row))) (x_v0 : Option Addr × Nat) (v1 : Int) (H : p_laws_heldRowSS v0 v1 = some r) : Fn' Try.prog 151 #[.slice x_v0.1 v0.length x_v0.2, .int .i64 (v1)] [imm (.slice x_v0.1 v0.length x_v0.2) v0] [] (ι := Unit) (fun _ => .int .i64 (r)) (fun _ => []) (fun _ => []) := by
 refine calls_of (args := [_, _]) Try.func151 rfl (by kernel_rfl) Try.ntmps151 (by simp) fun c => ?_
 unfold p_laws_heldRowSS at H
 refine Tr.openD Ent.z fun X1 => ?_
 refine Tr.seq (Tr.region ?_)
 refine Rg.q (v := .int .i64 (0)) (Pu.qo (p_assign rfl)) (by decide) ?_
 refine Rg.nl (nT ?_)
 refine Tr.seq (Tr.seq (Tr.region ?_))
 refine Rg.q (v := .int .i64 (0)) (Pu.qo (p_assign rfl)) (by decide) ?_
 refine Rg.nl (nT ?_)
 obtain ⟨x2, hx3, H⟩ := bd.of H
 obtain ⟨n4, hx3⟩ := lp.of hx3
 refine tMidNC (ι := { q : (Int) × Unit // x2 = .inl q.1 }) (fun ψ => [(1, .int .i64 (ψ.1.1))]) (fun ψ => []) ?_ ?_
 ·refine Tr.block ?_
  refine tLoopC (ι := { q : Nat × (Int × Int) × Unit // itr (p_laws_heldRowSS_b0 v0) q.1 q.2.1 = some x2 }) (fun ζ => [(0, .slice x_v0.1 v0.length x_v0.2), (1, .int .i64 (ζ.1.2.1.1)), (5, .int .i64 (ζ.1.2.1.2))]) (fun ζ => []) (fun ζ => ζ.1.1) ⟨(n4, (v1, 0), ()), hx3⟩ ⟨rfl, rfl, rfl, trivial⟩ Take.nil ?_
  rintro ⟨⟨m5, Q6, z7⟩, hk12⟩
  obtain ⟨m13, t9, e, H1, hi10, hb11⟩ := itr.of (n := m5) (s := Q6) hk12
  subst e; unfold p_laws_heldRowSS_b0 at H1
  show Tr _ _ _ _ _ [(0, .slice x_v0.1 v0.length x_v0.2), (1, .int .i64 (Q6.1)), (5, .int .i64 (Q6.2))] _ []
  refine Tr.seq (Tr.seq (Tr.region ?_))
  refine Rg.q (v := .int .i64 (Q6.2)) (Pu.qo (p_move rfl)) (by decide) ?_
  refine Rg.q (v := .slice x_v0.1 v0.length x_v0.2) (Pu.qo (p_move rfl)) (by decide) ?_
  refine Rg.q (v := .int .i64 ((v0.length : Int))) (Pu.qo (p_len 188 Try.underlying162 rfl)) (by decide) ?_
  refine Rg.q (v := .bool (decide (Q6.2 < (v0.length : Int)))) (Pu.qo (p_lss rfl rfl)) (by decide) ?_
  refine Rg.nl (nT ?_)
  refine Tr.cond (b := decide (Q6.2 < (v0.length : Int))) rfl (fun h14 => ?_) (fun h14 => ?_)
  ·have H1 := cdT h14 H1
   refine tSkip ?_
   refine nT (Tr.seq ?_)
   refine Tr.block ?_
   refine Tr.seq (Tr.region ?_)
   refine Rg.q (v := .slice x_v0.1 v0.length x_v0.2) (Pu.qo (p_move rfl)) (by decide) ?_
   refine Rg.q (v := .int .i64 (Q6.2)) (Pu.qo (p_move rfl)) (by decide) ?_
   obtain ⟨h15, H1⟩ := gd.of H1
   refine Rg.q (v := elp x_v0.1 (Q6.2.toNat * Enc.sz (List Row) + 0)) (q_ixg (l := v0) (E := fun i => Dp.denc (nth v0 i) (X1 i)) (oa := x_v0.1) Try.underlying162 ty188 rfl rfl h15 rfl (Ent.b (Ent.darr Ent.z))) (by decide) ?_
   refine Rg.q (v := .slice ((X1 Q6.2.toNat).1) ((nth v0 Q6.2.toNat).length) ((X1 Q6.2.toNat).2.1)) (q_lde (l := v0) (E := fun i => Dp.denc (nth v0 i) (X1 i)) (oa := x_v0.1) (i := Q6.2.toNat) (j := 0) ty188 rfl (Ent.b (Ent.darr Ent.z)) h15.lt rfl) (by decide) ?_
   refine Rg.q (v := .int .i64 (Q6.1)) (Pu.qo (p_move rfl)) (by decide) ?_
   obtain ⟨r16, h17, H1⟩ := bd.of H1
   refine Rg.q (v := .int .i64 (r16)) (q_call (vs := [.slice ((X1 Q6.2.toNat).1) ((nth v0 Q6.2.toNat).length) ((X1 Q6.2.toNat).2.1), .int .i64 (Q6.1)]) (c_laws_heldRowS (nth v0 Q6.2.toNat) ((X1 Q6.2.toNat).1, (X1 Q6.2.toNat).2.1) Q6.1 h17) rfl (EntsB.cons (Ent.b (Ent.dimm (Ent.del Ent.z h15.lt))) EntsB.nil)) (by decide) ?_
   refine Rg.q (v := .int .i64 (r16)) (Pu.qo (p_assign rfl)) (by decide) ?_
   refine Rg.nl (nT ?_)
   refine Tr.seq (Tr.region ?_)
   refine Rg.q (v := .int .i64 (r16)) (Pu.qo (p_move rfl)) (by decide) ?_
   refine Rg.q (v := .bool (decide (r16 < 0))) (Pu.qo (p_lss rfl rfl)) (by decide) ?_
   refine Rg.nl (nT ?_)
   refine Tr.cond (b := decide (r16 < 0)) rfl (fun h18 => ?_) (fun h18 => ?_)
   ·have H1 := cdT h18 H1
    refine Tr.seq (Tr.region ?_)
    refine Rg.q (v := .int .i64 (-1)) (Pu.qo (p_assign rfl)) (by decide) ?_
    refine Rg.nl (nT ?_)
    refine tRet ?_
    refine rB (rT (rT (rB (rT (rT (?_))))))
    have hx := hb11 _ (Option.some.inj H1).symm; subst hx
    replace H := sw.r H
    have hr := Option.some.inj H; subst hr
    exact back1 () rfl (ResV.tmp (v := .int .i64 (-1)) rfl) rfl Ents.nil Take.nil
   ·have H1 := cdF h18 H1
    refine tSkip ?_
    refine nB (nT (?_))
    refine Tr.region ?_
    refine Rg.q (v := .int .i64 (Q6.2)) (Pu.qo (p_move rfl)) (by decide) ?_
    obtain ⟨h19, H1⟩ := gd.of H1
    refine Rg.q (v := .int .i64 (Q6.2 + 1)) (Pu.qo (p_add rfl rfl h19)) (by decide) ?_
    refine Rg.q (v := .int .i64 (Q6.2 + 1)) (Pu.qo (p_assign rfl)) (by decide) ?_
    refine Rg.nl ?_
    exact nLC ⟨(m13, (r16, Q6.2 + 1), ()), hi10 _ (Option.some.inj H1).symm⟩ (Nat.lt_succ_self _) ⟨rfl, rfl, rfl, trivial⟩ Ents.refl Take.nil
  ·have H1 := cdF h14 H1
   refine tExit (xT (xT (xE (?_))))
   exact nMC ⟨(Q6.1, ()), (hb11 _ (Option.some.inj H1).symm).symm⟩ ⟨rfl, trivial⟩ Ents.refl Take.nil
 ·rintro ⟨⟨e20, y8⟩, hx⟩; subst hx; replace H := sw.l H
  show At _ _ [(1, .int .i64 (e20))] _ [] _
  refine nT (?_)
  refine Tr.seq (Tr.region ?_)
  refine Rg.q (v := .int .i64 (e20)) (Pu.qo (p_move rfl)) (by decide) ?_
  refine Rg.q (v := .int .i64 (e20)) (Pu.qo (p_assign rfl)) (by decide) ?_
  refine Rg.nl (nT ?_)
  refine tRet ?_
  have hr := Option.some.inj H; subst hr
  exact back1 () rfl (ResV.tmp (v := .int .i64 (e20)) rfl) rfl Ents.nil Take.nil
noncomputable def p_laws_heldPartS_b0 (v0 : (List Part)) (Q6 : Int × Int) : Option ((Int × Int) ⊕ (Int ⊕ Int)) := cond (decide (Q6.2 < (v0.length : Int))) (gd (ix Q6.2 v0.length) <| bd (p_laws_heldIntS ((nth v0 Q6.2.toNat).1) Q6.1) fun r16 => cond (decide (r16 < 0)) (some (.inr (.inr (-1)))) (bd (p_laws_heldRowSS ((nth v0 Q6.2.toNat).2) r16) fun r19 => cond (decide (r19 < 0)) (some (.inr (.inr (-1)))) (gd (I64 (Q6.2 + 1)) <| some (.inl (r19, Q6.2 + 1))))) (some (.inr (.inl Q6.1)))
noncomputable def p_laws_heldPartS (v0 : (List Part)) (v1 : Int) : Option (Int) := bd (lp (p_laws_heldPartS_b0 v0) (v1, 0)) <| sw (fun e23 => some e23) (fun q => some q)
theorem c_laws_heldPartS {r : Int} (v0 : (List Part)) (x_v0 : Option Addr × Nat) (v1 : Int) (H : p_laws_heldPartS v0 v1 = some r) : Fn' Try.prog 138 #[.slice x_v0.1 v0.length x_v0.2, .int .i64 (v1)] [imm (.slice x_v0.1 v0.length x_v0.2) v0] [] (ι := Unit) (fun _ => .int .i64 (r)) (fun _ => []) (fun _ => []) := by
 refine calls_of (args := [_, _]) Try.func138 rfl (by kernel_rfl) Try.ntmps138 (by simp) fun c => ?_
 unfold p_laws_heldPartS at H
 refine Tr.openD Ent.z fun X1 => ?_
 refine Tr.seq (Tr.region ?_)
 refine Rg.q (v := .int .i64 (0)) (Pu.qo (p_assign rfl)) (by decide) ?_
 refine Rg.nl (nT ?_)
 refine Tr.seq (Tr.seq (Tr.region ?_))
 refine Rg.q (v := .int .i64 (0)) (Pu.qo (p_assign rfl)) (by decide) ?_
 refine Rg.nl (nT ?_)
 obtain ⟨x2, hx3, H⟩ := bd.of H
 obtain ⟨n4, hx3⟩ := lp.of hx3
 refine tMidNC (ι := { q : (Int) × Unit // x2 = .inl q.1 }) (fun ψ => [(1, .int .i64 (ψ.1.1))]) (fun ψ => []) ?_ ?_
 ·refine Tr.block ?_
  refine tLoopC (ι := { q : Nat × (Int × Int) × Unit // itr (p_laws_heldPartS_b0 v0) q.1 q.2.1 = some x2 }) (fun ζ => [(0, .slice x_v0.1 v0.length x_v0.2), (1, .int .i64 (ζ.1.2.1.1)), (5, .int .i64 (ζ.1.2.1.2))]) (fun ζ => []) (fun ζ => ζ.1.1) ⟨(n4, (v1, 0), ()), hx3⟩ ⟨rfl, rfl, rfl, trivial⟩ Take.nil ?_
  rintro ⟨⟨m5, Q6, z7⟩, hk12⟩
  obtain ⟨m13, t9, e, H1, hi10, hb11⟩ := itr.of (n := m5) (s := Q6) hk12
  subst e; unfold p_laws_heldPartS_b0 at H1
  show Tr _ _ _ _ _ [(0, .slice x_v0.1 v0.length x_v0.2), (1, .int .i64 (Q6.1)), (5, .int .i64 (Q6.2))] _ []
  refine Tr.seq (Tr.seq (Tr.region ?_))
  refine Rg.q (v := .int .i64 (Q6.2)) (Pu.qo (p_move rfl)) (by decide) ?_
  refine Rg.q (v := .slice x_v0.1 v0.length x_v0.2) (Pu.qo (p_move rfl)) (by decide) ?_
  refine Rg.q (v := .int .i64 ((v0.length : Int))) (Pu.qo (p_len 164 Try.underlying75 rfl)) (by decide) ?_
  refine Rg.q (v := .bool (decide (Q6.2 < (v0.length : Int)))) (Pu.qo (p_lss rfl rfl)) (by decide) ?_
  refine Rg.nl (nT ?_)
  refine Tr.cond (b := decide (Q6.2 < (v0.length : Int))) rfl (fun h14 => ?_) (fun h14 => ?_)
  ·have H1 := cdT h14 H1
   refine tSkip ?_
   refine nT (Tr.seq ?_)
   refine Tr.block ?_
   refine Tr.seq (Tr.region ?_)
   refine Rg.q (v := .slice x_v0.1 v0.length x_v0.2) (Pu.qo (p_move rfl)) (by decide) ?_
   refine Rg.q (v := .int .i64 (Q6.2)) (Pu.qo (p_move rfl)) (by decide) ?_
   obtain ⟨h15, H1⟩ := gd.of H1
   refine Rg.q (v := elp x_v0.1 (Q6.2.toNat * Enc.sz Part + 0)) (q_ixg (l := v0) (E := fun i => Dp.denc (nth v0 i) (X1 i)) (oa := x_v0.1) Try.underlying75 ty164 rfl rfl h15 rfl (Ent.b (Ent.darr Ent.z))) (by decide) ?_
   refine Rg.q (v := elp x_v0.1 (Q6.2.toNat * Enc.sz Part + 0)) (q_faeE (l := v0) (E := fun i => Dp.denc (nth v0 i) (X1 i)) (oa := x_v0.1) (j := 0) Q6.2.toNat fa164_0 rfl (Ent.b (Ent.darr Ent.z)) h15.lt rfl) (by decide) ?_
   refine Rg.q (v := .slice (((X1 Q6.2.toNat).1).1) (((nth v0 Q6.2.toNat).1).length) (((X1 Q6.2.toNat).1).2.1)) (q_lde (l := v0) (E := fun i => Dp.denc (nth v0 i) (X1 i)) (oa := x_v0.1) (i := Q6.2.toNat) (j := 0) ty31 rfl (Ent.b (Ent.darr Ent.z)) h15.lt rfl) (by decide) ?_
   refine Rg.q (v := .int .i64 (Q6.1)) (Pu.qo (p_move rfl)) (by decide) ?_
   obtain ⟨r16, h17, H1⟩ := bd.of H1
   refine Rg.q (v := .int .i64 (r16)) (q_call (vs := [.slice (((X1 Q6.2.toNat).1).1) (((nth v0 Q6.2.toNat).1).length) (((X1 Q6.2.toNat).1).2.1), .int .i64 (Q6.1)]) (c_laws_heldIntS ((nth v0 Q6.2.toNat).1) (((X1 Q6.2.toNat).1).1, ((X1 Q6.2.toNat).1).2.1) Q6.1 h17) rfl (EntsB.cons (Ent.b (Ent.dimm (Ent.dfst (Ent.del Ent.z h15.lt)))) EntsB.nil)) (by decide) ?_
   refine Rg.q (v := .int .i64 (r16)) (Pu.qo (p_assign rfl)) (by decide) ?_
   refine Rg.nl (nT ?_)
   refine Tr.seq (Tr.seq (Tr.region ?_))
   refine Rg.q (v := .int .i64 (r16)) (Pu.qo (p_move rfl)) (by decide) ?_
   refine Rg.q (v := .bool (decide (r16 < 0))) (Pu.qo (p_lss rfl rfl)) (by decide) ?_
   refine Rg.nl (nT ?_)
   refine Tr.cond (b := decide (r16 < 0)) rfl (fun h18 => ?_) (fun h18 => ?_)
   ·have H1 := cdT h18 H1
    refine Tr.seq (Tr.region ?_)
    refine Rg.q (v := .int .i64 (-1)) (Pu.qo (p_assign rfl)) (by decide) ?_
    refine Rg.nl (nT ?_)
    refine tRet ?_
    refine rT (rB (rT (rT (rB (rT (rT (?_)))))))
    have hx := hb11 _ (Option.some.inj H1).symm; subst hx
    replace H := sw.r H
    have hr := Option.some.inj H; subst hr
    exact back1 () rfl (ResV.tmp (v := .int .i64 (-1)) rfl) rfl Ents.nil Take.nil
   ·have H1 := cdF h18 H1
    refine tSkip ?_
    refine nT (?_)
    refine Tr.seq (Tr.region ?_)
    refine Rg.q (v := .slice x_v0.1 v0.length x_v0.2) (Pu.qo (p_move rfl)) (by decide) ?_
    refine Rg.q (v := .int .i64 (Q6.2)) (Pu.qo (p_move rfl)) (by decide) ?_
    refine Rg.q (v := elp x_v0.1 (Q6.2.toNat * Enc.sz Part + 0)) (q_ixg (l := v0) (E := fun i => Dp.denc (nth v0 i) (X1 i)) (oa := x_v0.1) Try.underlying75 ty164 rfl rfl h15 rfl (Ent.b (Ent.darr Ent.z))) (by decide) ?_
    refine Rg.q (v := elp x_v0.1 (Q6.2.toNat * Enc.sz Part + 1)) (q_faeE (l := v0) (E := fun i => Dp.denc (nth v0 i) (X1 i)) (oa := x_v0.1) (j := 0) Q6.2.toNat fa164_1 rfl (Ent.b (Ent.darr Ent.z)) h15.lt rfl) (by decide) ?_
    refine Rg.q (v := .slice (((X1 Q6.2.toNat).2).1) (((nth v0 Q6.2.toNat).2).length) (((X1 Q6.2.toNat).2).2.1)) (q_lde (l := v0) (E := fun i => Dp.denc (nth v0 i) (X1 i)) (oa := x_v0.1) (i := Q6.2.toNat) (j := 1) ty162 rfl (Ent.b (Ent.darr Ent.z)) h15.lt rfl) (by decide) ?_
    refine Rg.q (v := .int .i64 (r16)) (Pu.qo (p_move rfl)) (by decide) ?_
    obtain ⟨r19, h20, H1⟩ := bd.of H1
    refine Rg.q (v := .int .i64 (r19)) (q_call (vs := [.slice (((X1 Q6.2.toNat).2).1) (((nth v0 Q6.2.toNat).2).length) (((X1 Q6.2.toNat).2).2.1), .int .i64 (r16)]) (c_laws_heldRowSS ((nth v0 Q6.2.toNat).2) (((X1 Q6.2.toNat).2).1, ((X1 Q6.2.toNat).2).2.1) r16 h20) rfl (EntsB.cons (Ent.b (Ent.dimm (Ent.dsnd (Ent.del Ent.z h15.lt)))) EntsB.nil)) (by decide) ?_
    refine Rg.q (v := .int .i64 (r19)) (Pu.qo (p_assign rfl)) (by decide) ?_
    refine Rg.nl (nT ?_)
    refine Tr.seq (Tr.region ?_)
    refine Rg.q (v := .int .i64 (r19)) (Pu.qo (p_move rfl)) (by decide) ?_
    refine Rg.q (v := .bool (decide (r19 < 0))) (Pu.qo (p_lss rfl rfl)) (by decide) ?_
    refine Rg.nl (nT ?_)
    refine Tr.cond (b := decide (r19 < 0)) rfl (fun h21 => ?_) (fun h21 => ?_)
    ·have H1 := cdT h21 H1
     refine Tr.seq (Tr.region ?_)
     refine Rg.q (v := .int .i64 (-1)) (Pu.qo (p_assign rfl)) (by decide) ?_
     refine Rg.nl (nT ?_)
     refine tRet ?_
     refine rB (rT (rT (rB (rT (rT (?_))))))
     have hx := hb11 _ (Option.some.inj H1).symm; subst hx
     replace H := sw.r H
     have hr := Option.some.inj H; subst hr
     exact back1 () rfl (ResV.tmp (v := .int .i64 (-1)) rfl) rfl Ents.nil Take.nil
    ·have H1 := cdF h21 H1
     refine tSkip ?_
     refine nB (nT (?_))
     refine Tr.region ?_
     refine Rg.q (v := .int .i64 (Q6.2)) (Pu.qo (p_move rfl)) (by decide) ?_
     obtain ⟨h22, H1⟩ := gd.of H1
     refine Rg.q (v := .int .i64 (Q6.2 + 1)) (Pu.qo (p_add rfl rfl h22)) (by decide) ?_
     refine Rg.q (v := .int .i64 (Q6.2 + 1)) (Pu.qo (p_assign rfl)) (by decide) ?_
     refine Rg.nl ?_
     exact nLC ⟨(m13, (r19, Q6.2 + 1), ()), hi10 _ (Option.some.inj H1).symm⟩ (Nat.lt_succ_self _) ⟨rfl, rfl, rfl, trivial⟩ Ents.refl Take.nil
  ·have H1 := cdF h14 H1
   refine tExit (xT (xT (xE (?_))))
   exact nMC ⟨(Q6.1, ()), (hb11 _ (Option.some.inj H1).symm).symm⟩ ⟨rfl, trivial⟩ Ents.refl Take.nil
 ·rintro ⟨⟨e23, y8⟩, hx⟩; subst hx; replace H := sw.l H
  show At _ _ [(1, .int .i64 (e23))] _ [] _
  refine nT (?_)
  refine Tr.seq (Tr.region ?_)
  refine Rg.q (v := .int .i64 (e23)) (Pu.qo (p_move rfl)) (by decide) ?_
  refine Rg.q (v := .int .i64 (e23)) (Pu.qo (p_assign rfl)) (by decide) ?_
  refine Rg.nl (nT ?_)
  refine tRet ?_
  have hr := Option.some.inj H; subst hr
  exact back1 () rfl (ResV.tmp (v := .int .i64 (e23)) rfl) rfl Ents.nil Take.nil
noncomputable def p_laws_heldSampleS_b0 (v0 : (List Sample)) (Q5 : Int × Int) : Option ((Int × Int) ⊕ (Int ⊕ Int)) := cond (decide (Q5.2 < (v0.length : Int))) (gd (ix Q5.2 v0.length) <| cond (!decide (((nth v0 Q5.2.toNat).1) = Q5.1)) (some (.inr (.inr (-1)))) (gd (I64 (Q5.1 + 1)) <| cond (!decide ((((nth v0 Q5.2.toNat).2).1) = (Q5.1 + 1))) (some (.inr (.inr (-1)))) (gd (I64 ((Q5.1 + 1) + 1)) <| cond (!decide ((((nth v0 Q5.2.toNat).2).2) = ((Q5.1 + 1) + 1))) (some (.inr (.inr (-1)))) (gd (I64 (((Q5.1 + 1) + 1) + 1)) <| gd (I64 (Q5.2 + 1)) <| some (.inl (((Q5.1 + 1) + 1) + 1, Q5.2 + 1)))))) (some (.inr (.inl Q5.1)))
noncomputable def p_laws_heldSampleS (v0 : (List Sample)) (v1 : Int) : Option (Int) := bd (lp (p_laws_heldSampleS_b0 v0) (v1, 0)) <| sw (fun e22 => some e22) (fun q => some q)
theorem c_laws_heldSampleS {r : Int} (v0 : (List Sample)) (x_v0 : Option Addr × Nat) (v1 : Int) (H : p_laws_heldSampleS v0 v1 = some r) : Fn' Try.prog 139 #[.slice x_v0.1 v0.length x_v0.2, .int .i64 (v1)] [imm (.slice x_v0.1 v0.length x_v0.2) v0] [] (ι := Unit) (fun _ => .int .i64 (r)) (fun _ => []) (fun _ => []) := by
 refine calls_of (args := [_, _]) Try.func139 rfl (by kernel_rfl) Try.ntmps139 (by simp) fun c => ?_
 unfold p_laws_heldSampleS at H
 refine Tr.seq (Tr.region ?_)
 refine Rg.q (v := .int .i64 (0)) (Pu.qo (p_assign rfl)) (by decide) ?_
 refine Rg.nl (nT ?_)
 refine Tr.seq (Tr.seq (Tr.region ?_))
 refine Rg.q (v := .int .i64 (0)) (Pu.qo (p_assign rfl)) (by decide) ?_
 refine Rg.nl (nT ?_)
 obtain ⟨x1, hx2, H⟩ := bd.of H
 obtain ⟨n3, hx2⟩ := lp.of hx2
 refine tMidNC (ι := { q : (Int) × Unit // x1 = .inl q.1 }) (fun ψ => [(1, .int .i64 (ψ.1.1))]) (fun ψ => []) ?_ ?_
 ·refine Tr.block ?_
  refine tLoopC (ι := { q : Nat × (Int × Int) × Unit // itr (p_laws_heldSampleS_b0 v0) q.1 q.2.1 = some x1 }) (fun ζ => [(0, .slice x_v0.1 v0.length x_v0.2), (1, .int .i64 (ζ.1.2.1.1)), (5, .int .i64 (ζ.1.2.1.2))]) (fun ζ => []) (fun ζ => ζ.1.1) ⟨(n3, (v1, 0), ()), hx2⟩ ⟨rfl, rfl, rfl, trivial⟩ Take.nil ?_
  rintro ⟨⟨m4, Q5, z6⟩, hk11⟩
  obtain ⟨m12, t8, e, H1, hi9, hb10⟩ := itr.of (n := m4) (s := Q5) hk11
  subst e; unfold p_laws_heldSampleS_b0 at H1
  show Tr _ _ _ _ _ [(0, .slice x_v0.1 v0.length x_v0.2), (1, .int .i64 (Q5.1)), (5, .int .i64 (Q5.2))] _ []
  refine Tr.seq (Tr.seq (Tr.region ?_))
  refine Rg.q (v := .int .i64 (Q5.2)) (Pu.qo (p_move rfl)) (by decide) ?_
  refine Rg.q (v := .slice x_v0.1 v0.length x_v0.2) (Pu.qo (p_move rfl)) (by decide) ?_
  refine Rg.q (v := .int .i64 ((v0.length : Int))) (Pu.qo (p_len 171 Try.underlying76 rfl)) (by decide) ?_
  refine Rg.q (v := .bool (decide (Q5.2 < (v0.length : Int)))) (Pu.qo (p_lss rfl rfl)) (by decide) ?_
  refine Rg.nl (nT ?_)
  refine Tr.cond (b := decide (Q5.2 < (v0.length : Int))) rfl (fun h13 => ?_) (fun h13 => ?_)
  ·have H1 := cdT h13 H1
   refine tSkip ?_
   refine nT (Tr.seq ?_)
   refine Tr.block ?_
   refine Tr.seq (Tr.seq (Tr.region ?_))
   refine Rg.q (v := .slice x_v0.1 v0.length x_v0.2) (Pu.qo (p_move rfl)) (by decide) ?_
   refine Rg.q (v := .int .i64 (Q5.2)) (Pu.qo (p_move rfl)) (by decide) ?_
   obtain ⟨h14, H1⟩ := gd.of H1
   refine Rg.q (v := elp x_v0.1 (Q5.2.toNat * Enc.sz Sample + 0)) (q_ixg (l := v0) (E := fun i => Flat.enc (nth v0 i)) (oa := x_v0.1) Try.underlying76 ty171 rfl rfl h14 rfl (EntB.flat (Ent.b Ent.z))) (by decide) ?_
   refine Rg.q (v := elp x_v0.1 (Q5.2.toNat * Enc.sz Sample + 0)) (q_faeE (l := v0) (E := fun i => Flat.enc (nth v0 i)) (oa := x_v0.1) (j := 0) Q5.2.toNat fa171_0 rfl (EntB.flat (Ent.b Ent.z)) h14.lt rfl) (by decide) ?_
   refine Rg.q (v := .int .i64 ((nth v0 Q5.2.toNat).1)) (q_lde (l := v0) (E := fun i => Flat.enc (nth v0 i)) (oa := x_v0.1) (i := Q5.2.toNat) (j := 0) ty3 rfl (EntB.flat (Ent.b Ent.z)) h14.lt rfl) (by decide) ?_
   refine Rg.q (v := .int .i64 (Q5.1)) (Pu.qo (p_move rfl)) (by decide) ?_
   refine Rg.q (v := .bool (!decide (((nth v0 Q5.2.toNat).1) = Q5.1))) (Pu.qo (p_neq rfl rfl)) (by decide) ?_
   refine Rg.nl (nT ?_)
   refine Tr.cond (b := !decide (((nth v0 Q5.2.toNat).1) = Q5.1)) rfl (fun h15 => ?_) (fun h15 => ?_)
   ·have H1 := cdT h15 H1
    refine Tr.seq (Tr.region ?_)
    refine Rg.q (v := .int .i64 (-1)) (Pu.qo (p_assign rfl)) (by decide) ?_
    refine Rg.nl (nT ?_)
    refine tRet ?_
    refine rT (rB (rT (rT (rB (rT (rT (?_)))))))
    have hx := hb10 _ (Option.some.inj H1).symm; subst hx
    replace H := sw.r H
    have hr := Option.some.inj H; subst hr
    exact back1 () rfl (ResV.tmp (v := .int .i64 (-1)) rfl) rfl Ents.nil Take.nil
   ·have H1 := cdF h15 H1
    refine tSkip ?_
    refine nT (?_)
    refine Tr.seq (Tr.region ?_)
    refine Rg.q (v := .int .i64 (Q5.1)) (Pu.qo (p_move rfl)) (by decide) ?_
    obtain ⟨h16, H1⟩ := gd.of H1
    refine Rg.q (v := .int .i64 (Q5.1 + 1)) (Pu.qo (p_add rfl rfl h16)) (by decide) ?_
    refine Rg.q (v := .int .i64 (Q5.1 + 1)) (Pu.qo (p_assign rfl)) (by decide) ?_
    refine Rg.nl (nT ?_)
    refine Tr.seq (Tr.seq (Tr.region ?_))
    refine Rg.q (v := .slice x_v0.1 v0.length x_v0.2) (Pu.qo (p_move rfl)) (by decide) ?_
    refine Rg.q (v := .int .i64 (Q5.2)) (Pu.qo (p_move rfl)) (by decide) ?_
    refine Rg.q (v := elp x_v0.1 (Q5.2.toNat * Enc.sz Sample + 0)) (q_ixg (l := v0) (E := fun i => Flat.enc (nth v0 i)) (oa := x_v0.1) Try.underlying76 ty171 rfl rfl h14 rfl (EntB.flat (Ent.b Ent.z))) (by decide) ?_
    refine Rg.q (v := elp x_v0.1 (Q5.2.toNat * Enc.sz Sample + 1)) (q_faeE (l := v0) (E := fun i => Flat.enc (nth v0 i)) (oa := x_v0.1) (j := 0) Q5.2.toNat fa171_1 rfl (EntB.flat (Ent.b Ent.z)) h14.lt rfl) (by decide) ?_
    refine Rg.q (v := elp x_v0.1 (Q5.2.toNat * Enc.sz Sample + 1)) (q_faeE (l := v0) (E := fun i => Flat.enc (nth v0 i)) (oa := x_v0.1) (j := 1) Q5.2.toNat fa169_0 rfl (EntB.flat (Ent.b Ent.z)) h14.lt rfl) (by decide) ?_
    refine Rg.q (v := .int .i64 (((nth v0 Q5.2.toNat).2).1)) (q_lde (l := v0) (E := fun i => Flat.enc (nth v0 i)) (oa := x_v0.1) (i := Q5.2.toNat) (j := 1) ty3 rfl (EntB.flat (Ent.b Ent.z)) h14.lt rfl) (by decide) ?_
    refine Rg.q (v := .int .i64 (Q5.1 + 1)) (Pu.qo (p_move rfl)) (by decide) ?_
    refine Rg.q (v := .bool (!decide ((((nth v0 Q5.2.toNat).2).1) = (Q5.1 + 1)))) (Pu.qo (p_neq rfl rfl)) (by decide) ?_
    refine Rg.nl (nT ?_)
    refine Tr.cond (b := !decide ((((nth v0 Q5.2.toNat).2).1) = (Q5.1 + 1))) rfl (fun h17 => ?_) (fun h17 => ?_)
    ·have H1 := cdT h17 H1
     refine Tr.seq (Tr.region ?_)
     refine Rg.q (v := .int .i64 (-1)) (Pu.qo (p_assign rfl)) (by decide) ?_
     refine Rg.nl (nT ?_)
     refine tRet ?_
     refine rT (rB (rT (rT (rB (rT (rT (?_)))))))
     have hx := hb10 _ (Option.some.inj H1).symm; subst hx
     replace H := sw.r H
     have hr := Option.some.inj H; subst hr
     exact back1 () rfl (ResV.tmp (v := .int .i64 (-1)) rfl) rfl Ents.nil Take.nil
    ·have H1 := cdF h17 H1
     refine tSkip ?_
     refine nT (?_)
     refine Tr.seq (Tr.region ?_)
     refine Rg.q (v := .int .i64 (Q5.1 + 1)) (Pu.qo (p_move rfl)) (by decide) ?_
     obtain ⟨h18, H1⟩ := gd.of H1
     refine Rg.q (v := .int .i64 ((Q5.1 + 1) + 1)) (Pu.qo (p_add rfl rfl h18)) (by decide) ?_
     refine Rg.q (v := .int .i64 ((Q5.1 + 1) + 1)) (Pu.qo (p_assign rfl)) (by decide) ?_
     refine Rg.nl (nT ?_)
     refine Tr.seq (Tr.seq (Tr.region ?_))
     refine Rg.q (v := .slice x_v0.1 v0.length x_v0.2) (Pu.qo (p_move rfl)) (by decide) ?_
     refine Rg.q (v := .int .i64 (Q5.2)) (Pu.qo (p_move rfl)) (by decide) ?_
     refine Rg.q (v := elp x_v0.1 (Q5.2.toNat * Enc.sz Sample + 0)) (q_ixg (l := v0) (E := fun i => Flat.enc (nth v0 i)) (oa := x_v0.1) Try.underlying76 ty171 rfl rfl h14 rfl (EntB.flat (Ent.b Ent.z))) (by decide) ?_
     refine Rg.q (v := elp x_v0.1 (Q5.2.toNat * Enc.sz Sample + 1)) (q_faeE (l := v0) (E := fun i => Flat.enc (nth v0 i)) (oa := x_v0.1) (j := 0) Q5.2.toNat fa171_1 rfl (EntB.flat (Ent.b Ent.z)) h14.lt rfl) (by decide) ?_
     refine Rg.q (v := elp x_v0.1 (Q5.2.toNat * Enc.sz Sample + 2)) (q_faeE (l := v0) (E := fun i => Flat.enc (nth v0 i)) (oa := x_v0.1) (j := 1) Q5.2.toNat fa169_1 rfl (EntB.flat (Ent.b Ent.z)) h14.lt rfl) (by decide) ?_
     refine Rg.q (v := .int .i64 (((nth v0 Q5.2.toNat).2).2)) (q_lde (l := v0) (E := fun i => Flat.enc (nth v0 i)) (oa := x_v0.1) (i := Q5.2.toNat) (j := 2) ty3 rfl (EntB.flat (Ent.b Ent.z)) h14.lt rfl) (by decide) ?_
     refine Rg.q (v := .int .i64 ((Q5.1 + 1) + 1)) (Pu.qo (p_move rfl)) (by decide) ?_
     refine Rg.q (v := .bool (!decide ((((nth v0 Q5.2.toNat).2).2) = ((Q5.1 + 1) + 1)))) (Pu.qo (p_neq rfl rfl)) (by decide) ?_
     refine Rg.nl (nT ?_)
     refine Tr.cond (b := !decide ((((nth v0 Q5.2.toNat).2).2) = ((Q5.1 + 1) + 1))) rfl (fun h19 => ?_) (fun h19 => ?_)
     ·have H1 := cdT h19 H1
      refine Tr.seq (Tr.region ?_)
      refine Rg.q (v := .int .i64 (-1)) (Pu.qo (p_assign rfl)) (by decide) ?_
      refine Rg.nl (nT ?_)
      refine tRet ?_
      refine rT (rB (rT (rT (rB (rT (rT (?_)))))))
      have hx := hb10 _ (Option.some.inj H1).symm; subst hx
      replace H := sw.r H
      have hr := Option.some.inj H; subst hr
      exact back1 () rfl (ResV.tmp (v := .int .i64 (-1)) rfl) rfl Ents.nil Take.nil
     ·have H1 := cdF h19 H1
      refine tSkip ?_
      refine nT (?_)
      refine Tr.region ?_
      refine Rg.q (v := .int .i64 ((Q5.1 + 1) + 1)) (Pu.qo (p_move rfl)) (by decide) ?_
      obtain ⟨h20, H1⟩ := gd.of H1
      refine Rg.q (v := .int .i64 (((Q5.1 + 1) + 1) + 1)) (Pu.qo (p_add rfl rfl h20)) (by decide) ?_
      refine Rg.q (v := .int .i64 (((Q5.1 + 1) + 1) + 1)) (Pu.qo (p_assign rfl)) (by decide) ?_
      refine Rg.nl ?_
      refine nB (nT (?_))
      refine Tr.region ?_
      refine Rg.q (v := .int .i64 (Q5.2)) (Pu.qo (p_move rfl)) (by decide) ?_
      obtain ⟨h21, H1⟩ := gd.of H1
      refine Rg.q (v := .int .i64 (Q5.2 + 1)) (Pu.qo (p_add rfl rfl h21)) (by decide) ?_
      refine Rg.q (v := .int .i64 (Q5.2 + 1)) (Pu.qo (p_assign rfl)) (by decide) ?_
      refine Rg.nl ?_
      exact nLC ⟨(m12, (((Q5.1 + 1) + 1) + 1, Q5.2 + 1), ()), hi9 _ (Option.some.inj H1).symm⟩ (Nat.lt_succ_self _) ⟨rfl, rfl, rfl, trivial⟩ Ents.refl Take.nil
  ·have H1 := cdF h13 H1
   refine tExit (xT (xT (xE (?_))))
   exact nMC ⟨(Q5.1, ()), (hb10 _ (Option.some.inj H1).symm).symm⟩ ⟨rfl, trivial⟩ Ents.refl Take.nil
 ·rintro ⟨⟨e22, y7⟩, hx⟩; subst hx; replace H := sw.l H
  show At _ _ [(1, .int .i64 (e22))] _ [] _
  refine nT (?_)
  refine Tr.seq (Tr.region ?_)
  refine Rg.q (v := .int .i64 (e22)) (Pu.qo (p_move rfl)) (by decide) ?_
  refine Rg.q (v := .int .i64 (e22)) (Pu.qo (p_assign rfl)) (by decide) ?_
  refine Rg.nl (nT ?_)
  refine tRet ?_
  have hr := Option.some.inj H; subst hr
  exact back1 () rfl (ResV.tmp (v := .int .i64 (e22)) rfl) rfl Ents.nil Take.nil
noncomputable def p_laws_heldStore (v0 : Store) (v1 : Int) : Option (Int) := bd (p_laws_heldIndex v0.1 v1) fun r5 => cond (decide (r5 < 0)) (some (-1)) (bd (p_laws_heldPartS v0.2.1 r5) fun r8 => cond (decide (r8 < 0)) (some (-1)) (bd (p_laws_heldSampleS v0.2.2 r8) fun r11 => cond (decide (r11 < 0)) (some (-1)) (some r11)))
theorem c_laws_heldStore {r : Int} (v0 : Store) (x_v0 : ((Option Addr × Nat) × (Option Addr × Nat)) × (Option Addr × Nat) × (Option Addr × Nat)) (v1 : Int) (H : p_laws_heldStore v0 v1 = some r) : Fn' Try.prog 104 #[.agg #[.slice x_v0.1.1.1 v0.1.1.length x_v0.1.1.2, .slice x_v0.1.2.1 v0.1.2.length x_v0.1.2.2, .slice x_v0.2.1.1 v0.2.1.length x_v0.2.1.2, .slice x_v0.2.2.1 v0.2.2.length x_v0.2.2.2], .int .i64 (v1)] [imm (.slice x_v0.1.1.1 v0.1.1.length x_v0.1.1.2) v0.1.1, imm (.slice x_v0.1.2.1 v0.1.2.length x_v0.1.2.2) v0.1.2, imm (.slice x_v0.2.1.1 v0.2.1.length x_v0.2.1.2) v0.2.1, imm (.slice x_v0.2.2.1 v0.2.2.length x_v0.2.2.2) v0.2.2] [] (ι := Unit) (fun _ => .int .i64 (r)) (fun _ => []) (fun _ => []) := by
 refine calls_of (args := [_, _]) Try.func104 rfl (by kernel_rfl) Try.ntmps104 (by simp) fun c => ?_
 unfold p_laws_heldStore at H
 refine Tr.openD Ent.z fun X1 => ?_
 refine Tr.openD Ent.z.s.s fun X2 => ?_
 refine Tr.openD Ent.z.s.s.s.s fun X3 => ?_
 refine Tr.seq (Tr.region ?_)
 refine Rg.ed (e_box (t := 78) (v := .agg #[.slice x_v0.1.1.1 v0.1.1.length x_v0.1.1.2, .slice x_v0.1.2.1 v0.1.2.length x_v0.1.2.2, .slice x_v0.2.1.1 v0.2.1.length x_v0.2.1.2, .slice x_v0.2.2.1 v0.2.2.length x_v0.2.2.2]) rfl) rfl (by decide) ?_
 rintro _ _ _ ⟨g4, rfl, rfl, rfl⟩
 refine Rg.q (v := .int .i64 (0)) (Pu.qo (p_assign rfl)) (by decide) ?_
 refine Rg.nl (nT ?_)
 refine Tr.seq (Tr.region ?_)
 refine Rg.q (v := .pointer (some ⟨g4, 0, none⟩)) (Pu.qo (p_fabE fa78_0 rfl rfl)) (by decide) ?_
 refine Rg.q (v := .agg #[.slice x_v0.1.1.1 v0.1.1.length x_v0.1.1.2, .slice x_v0.1.2.1 v0.1.2.length x_v0.1.2.2]) (q_ldbP [.slice x_v0.1.1.1 v0.1.1.length x_v0.1.1.2, .slice x_v0.1.2.1 v0.1.2.length x_v0.1.2.2] ty26 rfl Has.here rfl rfl) (by decide) ?_
 refine Rg.q (v := .int .i64 (v1)) (Pu.qo (p_move rfl)) (by decide) ?_
 obtain ⟨r5, h6, H⟩ := bd.of H
 refine Rg.q (v := .int .i64 (r5)) (q_call (vs := [.agg #[.slice x_v0.1.1.1 v0.1.1.length x_v0.1.1.2, .slice x_v0.1.2.1 v0.1.2.length x_v0.1.2.2], .int .i64 (v1)]) (c_laws_heldIndex v0.1 x_v0.1 v1 h6) rfl (EntsB.cons (Ent.b (Ent.dimm Ent.z.s.s)) (EntsB.cons (Ent.b (Ent.dimm Ent.z.s)) EntsB.nil))) (by decide) ?_
 refine Rg.q (v := .int .i64 (r5)) (Pu.qo (p_assign rfl)) (by decide) ?_
 refine Rg.nl (nT ?_)
 refine Tr.seq (Tr.seq (Tr.region ?_))
 refine Rg.q (v := .int .i64 (r5)) (Pu.qo (p_move rfl)) (by decide) ?_
 refine Rg.q (v := .bool (decide (r5 < 0))) (Pu.qo (p_lss rfl rfl)) (by decide) ?_
 refine Rg.nl (nT ?_)
 refine Tr.cond (b := decide (r5 < 0)) rfl (fun h7 => ?_) (fun h7 => ?_)
 ·have H := cdT h7 H
  refine Tr.seq (Tr.region ?_)
  refine Rg.q (v := .int .i64 (-1)) (Pu.qo (p_assign rfl)) (by decide) ?_
  refine Rg.nl (nT ?_)
  refine tRet ?_
  refine rT (?_)
  have hr := Option.some.inj H; subst hr
  exact back1 () rfl (ResV.tmp (v := .int .i64 (-1)) rfl) rfl Ents.nil Take.nil
 ·have H := cdF h7 H
  refine tSkip ?_
  refine nT (?_)
  refine Tr.seq (Tr.region ?_)
  refine Rg.q (v := .pointer (some ⟨g4, 2, none⟩)) (Pu.qo (p_fabE fa78_1 rfl rfl)) (by decide) ?_
  refine Rg.q (v := .slice x_v0.2.1.1 v0.2.1.length x_v0.2.1.2) (q_ldb ty75 rfl Has.here rfl) (by decide) ?_
  refine Rg.q (v := .int .i64 (r5)) (Pu.qo (p_move rfl)) (by decide) ?_
  obtain ⟨r8, h9, H⟩ := bd.of H
  refine Rg.q (v := .int .i64 (r8)) (q_call (vs := [.slice x_v0.2.1.1 v0.2.1.length x_v0.2.1.2, .int .i64 (r5)]) (c_laws_heldPartS v0.2.1 x_v0.2.1 r5 h9) rfl (EntsB.cons (Ent.b (Ent.dimm Ent.z)) EntsB.nil)) (by decide) ?_
  refine Rg.q (v := .int .i64 (r8)) (Pu.qo (p_assign rfl)) (by decide) ?_
  refine Rg.nl (nT ?_)
  refine Tr.seq (Tr.seq (Tr.region ?_))
  refine Rg.q (v := .int .i64 (r8)) (Pu.qo (p_move rfl)) (by decide) ?_
  refine Rg.q (v := .bool (decide (r8 < 0))) (Pu.qo (p_lss rfl rfl)) (by decide) ?_
  refine Rg.nl (nT ?_)
  refine Tr.cond (b := decide (r8 < 0)) rfl (fun h10 => ?_) (fun h10 => ?_)
  ·have H := cdT h10 H
   refine Tr.seq (Tr.region ?_)
   refine Rg.q (v := .int .i64 (-1)) (Pu.qo (p_assign rfl)) (by decide) ?_
   refine Rg.nl (nT ?_)
   refine tRet ?_
   refine rT (?_)
   have hr := Option.some.inj H; subst hr
   exact back1 () rfl (ResV.tmp (v := .int .i64 (-1)) rfl) rfl Ents.nil Take.nil
  ·have H := cdF h10 H
   refine tSkip ?_
   refine nT (?_)
   refine Tr.seq (Tr.region ?_)
   refine Rg.q (v := .pointer (some ⟨g4, 3, none⟩)) (Pu.qo (p_fabE fa78_2 rfl rfl)) (by decide) ?_
   refine Rg.q (v := .slice x_v0.2.2.1 v0.2.2.length x_v0.2.2.2) (q_ldb ty76 rfl Has.here rfl) (by decide) ?_
   refine Rg.q (v := .int .i64 (r8)) (Pu.qo (p_move rfl)) (by decide) ?_
   obtain ⟨r11, h12, H⟩ := bd.of H
   refine Rg.q (v := .int .i64 (r11)) (q_call (vs := [.slice x_v0.2.2.1 v0.2.2.length x_v0.2.2.2, .int .i64 (r8)]) (c_laws_heldSampleS v0.2.2 x_v0.2.2 r8 h12) rfl (EntsB.cons (Ent.b Ent.z.s.s.s.s.s.s) EntsB.nil)) (by decide) ?_
   refine Rg.q (v := .int .i64 (r11)) (Pu.qo (p_assign rfl)) (by decide) ?_
   refine Rg.nl (nT ?_)
   refine Tr.seq (Tr.seq (Tr.region ?_))
   refine Rg.q (v := .int .i64 (r11)) (Pu.qo (p_move rfl)) (by decide) ?_
   refine Rg.q (v := .bool (decide (r11 < 0))) (Pu.qo (p_lss rfl rfl)) (by decide) ?_
   refine Rg.nl (nT ?_)
   refine Tr.cond (b := decide (r11 < 0)) rfl (fun h13 => ?_) (fun h13 => ?_)
   ·have H := cdT h13 H
    refine Tr.seq (Tr.region ?_)
    refine Rg.q (v := .int .i64 (-1)) (Pu.qo (p_assign rfl)) (by decide) ?_
    refine Rg.nl (nT ?_)
    refine tRet ?_
    refine rT (?_)
    have hr := Option.some.inj H; subst hr
    exact back1 () rfl (ResV.tmp (v := .int .i64 (-1)) rfl) rfl Ents.nil Take.nil
   ·have H := cdF h13 H
    refine tSkip ?_
    refine nT (?_)
    refine Tr.seq (Tr.region ?_)
    refine Rg.q (v := .int .i64 (r11)) (Pu.qo (p_move rfl)) (by decide) ?_
    refine Rg.q (v := .int .i64 (r11)) (Pu.qo (p_assign rfl)) (by decide) ?_
    refine Rg.nl (nT ?_)
    refine tRet ?_
    have hr := Option.some.inj H; subst hr
    exact back1 () rfl (ResV.tmp (v := .int .i64 (r11)) rfl) rfl Ents.nil Take.nil
noncomputable def p_laws_heldFileS_b0 (v0 : (List File)) (Q6 : Int × Int) : Option ((Int × Int) ⊕ (Int ⊕ Int)) := cond (decide (Q6.2 < (v0.length : Int))) (gd (ix Q6.2 v0.length) <| cond (!decide (((nth v0 Q6.2.toNat).1) = Q6.1)) (some (.inr (.inr (-1)))) (gd (I64 (Q6.1 + 1)) <| bd (p_laws_heldIntS (((nth v0 Q6.2.toNat).2).1) (Q6.1 + 1)) fun r18 => cond (decide (r18 < 0)) (some (.inr (.inr (-1)))) (bd (p_laws_heldRowSS (((nth v0 Q6.2.toNat).2).2) r18) fun r21 => cond (decide (r21 < 0)) (some (.inr (.inr (-1)))) (gd (I64 (Q6.2 + 1)) <| some (.inl (r21, Q6.2 + 1)))))) (some (.inr (.inl Q6.1)))
noncomputable def p_laws_heldFileS (v0 : (List File)) (v1 : Int) : Option (Int) := bd (lp (p_laws_heldFileS_b0 v0) (v1, 0)) <| sw (fun e25 => some e25) (fun q => some q)
theorem c_laws_heldFileS {r : Int} (v0 : (List File)) (x_v0 : Option Addr × Nat) (v1 : Int) (H : p_laws_heldFileS v0 v1 = some r) : Fn' Try.prog 140 #[.slice x_v0.1 v0.length x_v0.2, .int .i64 (v1)] [imm (.slice x_v0.1 v0.length x_v0.2) v0] [] (ι := Unit) (fun _ => .int .i64 (r)) (fun _ => []) (fun _ => []) := by
 refine calls_of (args := [_, _]) Try.func140 rfl (by kernel_rfl) Try.ntmps140 (by simp) fun c => ?_
 unfold p_laws_heldFileS at H
 refine Tr.openD Ent.z fun X1 => ?_
 refine Tr.seq (Tr.region ?_)
 refine Rg.q (v := .int .i64 (0)) (Pu.qo (p_assign rfl)) (by decide) ?_
 refine Rg.nl (nT ?_)
 refine Tr.seq (Tr.seq (Tr.region ?_))
 refine Rg.q (v := .int .i64 (0)) (Pu.qo (p_assign rfl)) (by decide) ?_
 refine Rg.nl (nT ?_)
 obtain ⟨x2, hx3, H⟩ := bd.of H
 obtain ⟨n4, hx3⟩ := lp.of hx3
 refine tMidNC (ι := { q : (Int) × Unit // x2 = .inl q.1 }) (fun ψ => [(1, .int .i64 (ψ.1.1))]) (fun ψ => []) ?_ ?_
 ·refine Tr.block ?_
  refine tLoopC (ι := { q : Nat × (Int × Int) × Unit // itr (p_laws_heldFileS_b0 v0) q.1 q.2.1 = some x2 }) (fun ζ => [(0, .slice x_v0.1 v0.length x_v0.2), (1, .int .i64 (ζ.1.2.1.1)), (5, .int .i64 (ζ.1.2.1.2))]) (fun ζ => []) (fun ζ => ζ.1.1) ⟨(n4, (v1, 0), ()), hx3⟩ ⟨rfl, rfl, rfl, trivial⟩ Take.nil ?_
  rintro ⟨⟨m5, Q6, z7⟩, hk12⟩
  obtain ⟨m13, t9, e, H1, hi10, hb11⟩ := itr.of (n := m5) (s := Q6) hk12
  subst e; unfold p_laws_heldFileS_b0 at H1
  show Tr _ _ _ _ _ [(0, .slice x_v0.1 v0.length x_v0.2), (1, .int .i64 (Q6.1)), (5, .int .i64 (Q6.2))] _ []
  refine Tr.seq (Tr.seq (Tr.region ?_))
  refine Rg.q (v := .int .i64 (Q6.2)) (Pu.qo (p_move rfl)) (by decide) ?_
  refine Rg.q (v := .slice x_v0.1 v0.length x_v0.2) (Pu.qo (p_move rfl)) (by decide) ?_
  refine Rg.q (v := .int .i64 ((v0.length : Int))) (Pu.qo (p_len 174 Try.underlying79 rfl)) (by decide) ?_
  refine Rg.q (v := .bool (decide (Q6.2 < (v0.length : Int)))) (Pu.qo (p_lss rfl rfl)) (by decide) ?_
  refine Rg.nl (nT ?_)
  refine Tr.cond (b := decide (Q6.2 < (v0.length : Int))) rfl (fun h14 => ?_) (fun h14 => ?_)
  ·have H1 := cdT h14 H1
   refine tSkip ?_
   refine nT (Tr.seq ?_)
   refine Tr.block ?_
   refine Tr.seq (Tr.seq (Tr.region ?_))
   refine Rg.q (v := .slice x_v0.1 v0.length x_v0.2) (Pu.qo (p_move rfl)) (by decide) ?_
   refine Rg.q (v := .int .i64 (Q6.2)) (Pu.qo (p_move rfl)) (by decide) ?_
   obtain ⟨h15, H1⟩ := gd.of H1
   refine Rg.q (v := elp x_v0.1 (Q6.2.toNat * Enc.sz File + 0)) (q_ixg (l := v0) (E := fun i => Dp.denc (nth v0 i) (X1 i)) (oa := x_v0.1) Try.underlying79 ty174 rfl rfl h15 rfl (Ent.b (Ent.darr Ent.z))) (by decide) ?_
   refine Rg.q (v := elp x_v0.1 (Q6.2.toNat * Enc.sz File + 0)) (q_faeE (l := v0) (E := fun i => Dp.denc (nth v0 i) (X1 i)) (oa := x_v0.1) (j := 0) Q6.2.toNat fa174_0 rfl (Ent.b (Ent.darr Ent.z)) h15.lt rfl) (by decide) ?_
   refine Rg.q (v := .int .i64 ((nth v0 Q6.2.toNat).1)) (q_lde (l := v0) (E := fun i => Dp.denc (nth v0 i) (X1 i)) (oa := x_v0.1) (i := Q6.2.toNat) (j := 0) ty3 rfl (Ent.b (Ent.darr Ent.z)) h15.lt rfl) (by decide) ?_
   refine Rg.q (v := .int .i64 (Q6.1)) (Pu.qo (p_move rfl)) (by decide) ?_
   refine Rg.q (v := .bool (!decide (((nth v0 Q6.2.toNat).1) = Q6.1))) (Pu.qo (p_neq rfl rfl)) (by decide) ?_
   refine Rg.nl (nT ?_)
   refine Tr.cond (b := !decide (((nth v0 Q6.2.toNat).1) = Q6.1)) rfl (fun h16 => ?_) (fun h16 => ?_)
   ·have H1 := cdT h16 H1
    refine Tr.seq (Tr.region ?_)
    refine Rg.q (v := .int .i64 (-1)) (Pu.qo (p_assign rfl)) (by decide) ?_
    refine Rg.nl (nT ?_)
    refine tRet ?_
    refine rT (rB (rT (rT (rB (rT (rT (?_)))))))
    have hx := hb11 _ (Option.some.inj H1).symm; subst hx
    replace H := sw.r H
    have hr := Option.some.inj H; subst hr
    exact back1 () rfl (ResV.tmp (v := .int .i64 (-1)) rfl) rfl Ents.nil Take.nil
   ·have H1 := cdF h16 H1
    refine tSkip ?_
    refine nT (?_)
    refine Tr.seq (Tr.region ?_)
    refine Rg.q (v := .int .i64 (Q6.1)) (Pu.qo (p_move rfl)) (by decide) ?_
    obtain ⟨h17, H1⟩ := gd.of H1
    refine Rg.q (v := .int .i64 (Q6.1 + 1)) (Pu.qo (p_add rfl rfl h17)) (by decide) ?_
    refine Rg.q (v := .int .i64 (Q6.1 + 1)) (Pu.qo (p_assign rfl)) (by decide) ?_
    refine Rg.nl (nT ?_)
    refine Tr.seq (Tr.region ?_)
    refine Rg.q (v := .slice x_v0.1 v0.length x_v0.2) (Pu.qo (p_move rfl)) (by decide) ?_
    refine Rg.q (v := .int .i64 (Q6.2)) (Pu.qo (p_move rfl)) (by decide) ?_
    refine Rg.q (v := elp x_v0.1 (Q6.2.toNat * Enc.sz File + 0)) (q_ixg (l := v0) (E := fun i => Dp.denc (nth v0 i) (X1 i)) (oa := x_v0.1) Try.underlying79 ty174 rfl rfl h15 rfl (Ent.b (Ent.darr Ent.z))) (by decide) ?_
    refine Rg.q (v := elp x_v0.1 (Q6.2.toNat * Enc.sz File + 1)) (q_faeE (l := v0) (E := fun i => Dp.denc (nth v0 i) (X1 i)) (oa := x_v0.1) (j := 0) Q6.2.toNat fa174_1 rfl (Ent.b (Ent.darr Ent.z)) h15.lt rfl) (by decide) ?_
    refine Rg.q (v := elp x_v0.1 (Q6.2.toNat * Enc.sz File + 1)) (q_faeE (l := v0) (E := fun i => Dp.denc (nth v0 i) (X1 i)) (oa := x_v0.1) (j := 1) Q6.2.toNat fa164_0 rfl (Ent.b (Ent.darr Ent.z)) h15.lt rfl) (by decide) ?_
    refine Rg.q (v := .slice ((((X1 Q6.2.toNat).2).1).1) ((((nth v0 Q6.2.toNat).2).1).length) ((((X1 Q6.2.toNat).2).1).2.1)) (q_lde (l := v0) (E := fun i => Dp.denc (nth v0 i) (X1 i)) (oa := x_v0.1) (i := Q6.2.toNat) (j := 1) ty31 rfl (Ent.b (Ent.darr Ent.z)) h15.lt rfl) (by decide) ?_
    refine Rg.q (v := .int .i64 (Q6.1 + 1)) (Pu.qo (p_move rfl)) (by decide) ?_
    obtain ⟨r18, h19, H1⟩ := bd.of H1
    refine Rg.q (v := .int .i64 (r18)) (q_call (vs := [.slice ((((X1 Q6.2.toNat).2).1).1) ((((nth v0 Q6.2.toNat).2).1).length) ((((X1 Q6.2.toNat).2).1).2.1), .int .i64 (Q6.1 + 1)]) (c_laws_heldIntS (((nth v0 Q6.2.toNat).2).1) ((((X1 Q6.2.toNat).2).1).1, (((X1 Q6.2.toNat).2).1).2.1) (Q6.1 + 1) h19) rfl (EntsB.cons (Ent.b (Ent.dimm (Ent.dfst (Ent.dsnd (Ent.del Ent.z h15.lt))))) EntsB.nil)) (by decide) ?_
    refine Rg.q (v := .int .i64 (r18)) (Pu.qo (p_assign rfl)) (by decide) ?_
    refine Rg.nl (nT ?_)
    refine Tr.seq (Tr.seq (Tr.region ?_))
    refine Rg.q (v := .int .i64 (r18)) (Pu.qo (p_move rfl)) (by decide) ?_
    refine Rg.q (v := .bool (decide (r18 < 0))) (Pu.qo (p_lss rfl rfl)) (by decide) ?_
    refine Rg.nl (nT ?_)
    refine Tr.cond (b := decide (r18 < 0)) rfl (fun h20 => ?_) (fun h20 => ?_)
    ·have H1 := cdT h20 H1
     refine Tr.seq (Tr.region ?_)
     refine Rg.q (v := .int .i64 (-1)) (Pu.qo (p_assign rfl)) (by decide) ?_
     refine Rg.nl (nT ?_)
     refine tRet ?_
     refine rT (rB (rT (rT (rB (rT (rT (?_)))))))
     have hx := hb11 _ (Option.some.inj H1).symm; subst hx
     replace H := sw.r H
     have hr := Option.some.inj H; subst hr
     exact back1 () rfl (ResV.tmp (v := .int .i64 (-1)) rfl) rfl Ents.nil Take.nil
    ·have H1 := cdF h20 H1
     refine tSkip ?_
     refine nT (?_)
     refine Tr.seq (Tr.region ?_)
     refine Rg.q (v := .slice x_v0.1 v0.length x_v0.2) (Pu.qo (p_move rfl)) (by decide) ?_
     refine Rg.q (v := .int .i64 (Q6.2)) (Pu.qo (p_move rfl)) (by decide) ?_
     refine Rg.q (v := elp x_v0.1 (Q6.2.toNat * Enc.sz File + 0)) (q_ixg (l := v0) (E := fun i => Dp.denc (nth v0 i) (X1 i)) (oa := x_v0.1) Try.underlying79 ty174 rfl rfl h15 rfl (Ent.b (Ent.darr Ent.z))) (by decide) ?_
     refine Rg.q (v := elp x_v0.1 (Q6.2.toNat * Enc.sz File + 1)) (q_faeE (l := v0) (E := fun i => Dp.denc (nth v0 i) (X1 i)) (oa := x_v0.1) (j := 0) Q6.2.toNat fa174_1 rfl (Ent.b (Ent.darr Ent.z)) h15.lt rfl) (by decide) ?_
     refine Rg.q (v := elp x_v0.1 (Q6.2.toNat * Enc.sz File + 2)) (q_faeE (l := v0) (E := fun i => Dp.denc (nth v0 i) (X1 i)) (oa := x_v0.1) (j := 1) Q6.2.toNat fa164_1 rfl (Ent.b (Ent.darr Ent.z)) h15.lt rfl) (by decide) ?_
     refine Rg.q (v := .slice ((((X1 Q6.2.toNat).2).2).1) ((((nth v0 Q6.2.toNat).2).2).length) ((((X1 Q6.2.toNat).2).2).2.1)) (q_lde (l := v0) (E := fun i => Dp.denc (nth v0 i) (X1 i)) (oa := x_v0.1) (i := Q6.2.toNat) (j := 2) ty162 rfl (Ent.b (Ent.darr Ent.z)) h15.lt rfl) (by decide) ?_
     refine Rg.q (v := .int .i64 (r18)) (Pu.qo (p_move rfl)) (by decide) ?_
     obtain ⟨r21, h22, H1⟩ := bd.of H1
     refine Rg.q (v := .int .i64 (r21)) (q_call (vs := [.slice ((((X1 Q6.2.toNat).2).2).1) ((((nth v0 Q6.2.toNat).2).2).length) ((((X1 Q6.2.toNat).2).2).2.1), .int .i64 (r18)]) (c_laws_heldRowSS (((nth v0 Q6.2.toNat).2).2) ((((X1 Q6.2.toNat).2).2).1, (((X1 Q6.2.toNat).2).2).2.1) r18 h22) rfl (EntsB.cons (Ent.b (Ent.dimm (Ent.dsnd (Ent.dsnd (Ent.del Ent.z h15.lt))))) EntsB.nil)) (by decide) ?_
     refine Rg.q (v := .int .i64 (r21)) (Pu.qo (p_assign rfl)) (by decide) ?_
     refine Rg.nl (nT ?_)
     refine Tr.seq (Tr.region ?_)
     refine Rg.q (v := .int .i64 (r21)) (Pu.qo (p_move rfl)) (by decide) ?_
     refine Rg.q (v := .bool (decide (r21 < 0))) (Pu.qo (p_lss rfl rfl)) (by decide) ?_
     refine Rg.nl (nT ?_)
     refine Tr.cond (b := decide (r21 < 0)) rfl (fun h23 => ?_) (fun h23 => ?_)
     ·have H1 := cdT h23 H1
      refine Tr.seq (Tr.region ?_)
      refine Rg.q (v := .int .i64 (-1)) (Pu.qo (p_assign rfl)) (by decide) ?_
      refine Rg.nl (nT ?_)
      refine tRet ?_
      refine rB (rT (rT (rB (rT (rT (?_))))))
      have hx := hb11 _ (Option.some.inj H1).symm; subst hx
      replace H := sw.r H
      have hr := Option.some.inj H; subst hr
      exact back1 () rfl (ResV.tmp (v := .int .i64 (-1)) rfl) rfl Ents.nil Take.nil
     ·have H1 := cdF h23 H1
      refine tSkip ?_
      refine nB (nT (?_))
      refine Tr.region ?_
      refine Rg.q (v := .int .i64 (Q6.2)) (Pu.qo (p_move rfl)) (by decide) ?_
      obtain ⟨h24, H1⟩ := gd.of H1
      refine Rg.q (v := .int .i64 (Q6.2 + 1)) (Pu.qo (p_add rfl rfl h24)) (by decide) ?_
      refine Rg.q (v := .int .i64 (Q6.2 + 1)) (Pu.qo (p_assign rfl)) (by decide) ?_
      refine Rg.nl ?_
      exact nLC ⟨(m13, (r21, Q6.2 + 1), ()), hi10 _ (Option.some.inj H1).symm⟩ (Nat.lt_succ_self _) ⟨rfl, rfl, rfl, trivial⟩ Ents.refl Take.nil
  ·have H1 := cdF h14 H1
   refine tExit (xT (xT (xE (?_))))
   exact nMC ⟨(Q6.1, ()), (hb11 _ (Option.some.inj H1).symm).symm⟩ ⟨rfl, trivial⟩ Ents.refl Take.nil
 ·rintro ⟨⟨e25, y8⟩, hx⟩; subst hx; replace H := sw.l H
  show At _ _ [(1, .int .i64 (e25))] _ [] _
  refine nT (?_)
  refine Tr.seq (Tr.region ?_)
  refine Rg.q (v := .int .i64 (e25)) (Pu.qo (p_move rfl)) (by decide) ?_
  refine Rg.q (v := .int .i64 (e25)) (Pu.qo (p_assign rfl)) (by decide) ?_
  refine Rg.nl (nT ?_)
  refine tRet ?_
  have hr := Option.some.inj H; subst hr
  exact back1 () rfl (ResV.tmp (v := .int .i64 (e25)) rfl) rfl Ents.nil Take.nil
noncomputable def p_laws_heldDisk (v0 : Disk) (v1 : Int) : Option (Int) := bd (p_laws_heldFileS v0.1 v1) fun r4 => cond (decide (r4 < 0)) (some (-1)) (bd (p_laws_heldIntS v0.2.1 r4) fun r7 => cond (decide (r7 < 0)) (some (-1)) (bd (p_laws_heldTagSS v0.2.2.1 r7) fun r10 => cond (decide (r10 < 0)) (some (-1)) (some r10)))
theorem c_laws_heldDisk {r : Int} (v0 : Disk) (x_v0 : (Option Addr × Nat) × (Option Addr × Nat) × (Option Addr × Nat) × Unit) (v1 : Int) (H : p_laws_heldDisk v0 v1 = some r) : Fn' Try.prog 105 #[.agg #[.slice x_v0.1.1 v0.1.length x_v0.1.2, .slice x_v0.2.1.1 v0.2.1.length x_v0.2.1.2, .slice x_v0.2.2.1.1 v0.2.2.1.length x_v0.2.2.1.2, .int .i64 (v0.2.2.2)], .int .i64 (v1)] [imm (.slice x_v0.1.1 v0.1.length x_v0.1.2) v0.1, imm (.slice x_v0.2.1.1 v0.2.1.length x_v0.2.1.2) v0.2.1, imm (.slice x_v0.2.2.1.1 v0.2.2.1.length x_v0.2.2.1.2) v0.2.2.1] [] (ι := Unit) (fun _ => .int .i64 (r)) (fun _ => []) (fun _ => []) := by
 refine calls_of (args := [_, _]) Try.func105 rfl (by kernel_rfl) Try.ntmps105 (by simp) fun c => ?_
 unfold p_laws_heldDisk at H
 refine Tr.openD Ent.z fun X1 => ?_
 refine Tr.openD Ent.z.s.s.s fun X2 => ?_
 refine Tr.seq (Tr.region ?_)
 refine Rg.ed (e_box (t := 81) (v := .agg #[.slice x_v0.1.1 v0.1.length x_v0.1.2, .slice x_v0.2.1.1 v0.2.1.length x_v0.2.1.2, .slice x_v0.2.2.1.1 v0.2.2.1.length x_v0.2.2.1.2, .int .i64 (v0.2.2.2)]) rfl) rfl (by decide) ?_
 rintro _ _ _ ⟨g3, rfl, rfl, rfl⟩
 refine Rg.q (v := .int .i64 (0)) (Pu.qo (p_assign rfl)) (by decide) ?_
 refine Rg.nl (nT ?_)
 refine Tr.seq (Tr.region ?_)
 refine Rg.q (v := .pointer (some ⟨g3, 0, none⟩)) (Pu.qo (p_fabE fa81_0 rfl rfl)) (by decide) ?_
 refine Rg.q (v := .slice x_v0.1.1 v0.1.length x_v0.1.2) (q_ldb ty79 rfl Has.here rfl) (by decide) ?_
 refine Rg.q (v := .int .i64 (v1)) (Pu.qo (p_move rfl)) (by decide) ?_
 obtain ⟨r4, h5, H⟩ := bd.of H
 refine Rg.q (v := .int .i64 (r4)) (q_call (vs := [.slice x_v0.1.1 v0.1.length x_v0.1.2, .int .i64 (v1)]) (c_laws_heldFileS v0.1 x_v0.1 v1 h5) rfl (EntsB.cons (Ent.b (Ent.dimm Ent.z.s)) EntsB.nil)) (by decide) ?_
 refine Rg.q (v := .int .i64 (r4)) (Pu.qo (p_assign rfl)) (by decide) ?_
 refine Rg.nl (nT ?_)
 refine Tr.seq (Tr.seq (Tr.region ?_))
 refine Rg.q (v := .int .i64 (r4)) (Pu.qo (p_move rfl)) (by decide) ?_
 refine Rg.q (v := .bool (decide (r4 < 0))) (Pu.qo (p_lss rfl rfl)) (by decide) ?_
 refine Rg.nl (nT ?_)
 refine Tr.cond (b := decide (r4 < 0)) rfl (fun h6 => ?_) (fun h6 => ?_)
 ·have H := cdT h6 H
  refine Tr.seq (Tr.region ?_)
  refine Rg.q (v := .int .i64 (-1)) (Pu.qo (p_assign rfl)) (by decide) ?_
  refine Rg.nl (nT ?_)
  refine tRet ?_
  refine rT (?_)
  have hr := Option.some.inj H; subst hr
  exact back1 () rfl (ResV.tmp (v := .int .i64 (-1)) rfl) rfl Ents.nil Take.nil
 ·have H := cdF h6 H
  refine tSkip ?_
  refine nT (?_)
  refine Tr.seq (Tr.region ?_)
  refine Rg.q (v := .pointer (some ⟨g3, 1, none⟩)) (Pu.qo (p_fabE fa81_1 rfl rfl)) (by decide) ?_
  refine Rg.q (v := .slice x_v0.2.1.1 v0.2.1.length x_v0.2.1.2) (q_ldb ty31 rfl Has.here rfl) (by decide) ?_
  refine Rg.q (v := .int .i64 (r4)) (Pu.qo (p_move rfl)) (by decide) ?_
  obtain ⟨r7, h8, H⟩ := bd.of H
  refine Rg.q (v := .int .i64 (r7)) (q_call (vs := [.slice x_v0.2.1.1 v0.2.1.length x_v0.2.1.2, .int .i64 (r4)]) (c_laws_heldIntS v0.2.1 x_v0.2.1 r4 h8) rfl (EntsB.cons (Ent.b Ent.z.s.s.s) EntsB.nil)) (by decide) ?_
  refine Rg.q (v := .int .i64 (r7)) (Pu.qo (p_assign rfl)) (by decide) ?_
  refine Rg.nl (nT ?_)
  refine Tr.seq (Tr.seq (Tr.region ?_))
  refine Rg.q (v := .int .i64 (r7)) (Pu.qo (p_move rfl)) (by decide) ?_
  refine Rg.q (v := .bool (decide (r7 < 0))) (Pu.qo (p_lss rfl rfl)) (by decide) ?_
  refine Rg.nl (nT ?_)
  refine Tr.cond (b := decide (r7 < 0)) rfl (fun h9 => ?_) (fun h9 => ?_)
  ·have H := cdT h9 H
   refine Tr.seq (Tr.region ?_)
   refine Rg.q (v := .int .i64 (-1)) (Pu.qo (p_assign rfl)) (by decide) ?_
   refine Rg.nl (nT ?_)
   refine tRet ?_
   refine rT (?_)
   have hr := Option.some.inj H; subst hr
   exact back1 () rfl (ResV.tmp (v := .int .i64 (-1)) rfl) rfl Ents.nil Take.nil
  ·have H := cdF h9 H
   refine tSkip ?_
   refine nT (?_)
   refine Tr.seq (Tr.region ?_)
   refine Rg.q (v := .pointer (some ⟨g3, 2, none⟩)) (Pu.qo (p_fabE fa81_2 rfl rfl)) (by decide) ?_
   refine Rg.q (v := .slice x_v0.2.2.1.1 v0.2.2.1.length x_v0.2.2.1.2) (q_ldb ty23 rfl Has.here rfl) (by decide) ?_
   refine Rg.q (v := .int .i64 (r7)) (Pu.qo (p_move rfl)) (by decide) ?_
   obtain ⟨r10, h11, H⟩ := bd.of H
   refine Rg.q (v := .int .i64 (r10)) (q_call (vs := [.slice x_v0.2.2.1.1 v0.2.2.1.length x_v0.2.2.1.2, .int .i64 (r7)]) (c_laws_heldTagSS v0.2.2.1 x_v0.2.2.1 r7 h11) rfl (EntsB.cons (Ent.b (Ent.dimm Ent.z)) EntsB.nil)) (by decide) ?_
   refine Rg.q (v := .int .i64 (r10)) (Pu.qo (p_assign rfl)) (by decide) ?_
   refine Rg.nl (nT ?_)
   refine Tr.seq (Tr.seq (Tr.region ?_))
   refine Rg.q (v := .int .i64 (r10)) (Pu.qo (p_move rfl)) (by decide) ?_
   refine Rg.q (v := .bool (decide (r10 < 0))) (Pu.qo (p_lss rfl rfl)) (by decide) ?_
   refine Rg.nl (nT ?_)
   refine Tr.cond (b := decide (r10 < 0)) rfl (fun h12 => ?_) (fun h12 => ?_)
   ·have H := cdT h12 H
    refine Tr.seq (Tr.region ?_)
    refine Rg.q (v := .int .i64 (-1)) (Pu.qo (p_assign rfl)) (by decide) ?_
    refine Rg.nl (nT ?_)
    refine tRet ?_
    refine rT (?_)
    have hr := Option.some.inj H; subst hr
    exact back1 () rfl (ResV.tmp (v := .int .i64 (-1)) rfl) rfl Ents.nil Take.nil
   ·have H := cdF h12 H
    refine tSkip ?_
    refine nT (?_)
    refine Tr.seq (Tr.region ?_)
    refine Rg.q (v := .int .i64 (r10)) (Pu.qo (p_move rfl)) (by decide) ?_
    refine Rg.q (v := .int .i64 (r10)) (Pu.qo (p_assign rfl)) (by decide) ?_
    refine Rg.nl (nT ?_)
    refine tRet ?_
    have hr := Option.some.inj H; subst hr
    exact back1 () rfl (ResV.tmp (v := .int .i64 (r10)) rfl) rfl Ents.nil Take.nil
noncomputable def p_laws_heldWorld (v0 : World) (v1 : Int) : Option (Int) := bd (p_laws_heldStore v0.1 v1) fun r7 => cond (decide (r7 < 0)) (some (-1)) (bd (p_laws_heldDisk v0.2 r7) fun r10 => cond (decide (r10 < 0)) (some (-1)) (some r10))
theorem c_laws_heldWorld {r : Int} (v0 : World) (x_v0 : (((Option Addr × Nat) × (Option Addr × Nat)) × (Option Addr × Nat) × (Option Addr × Nat)) × ((Option Addr × Nat) × (Option Addr × Nat) × (Option Addr × Nat) × Unit)) (v1 : Int) (H : p_laws_heldWorld v0 v1 = some r) : Fn' Try.prog 54 #[.agg #[.slice x_v0.1.1.1.1 v0.1.1.1.length x_v0.1.1.1.2, .slice x_v0.1.1.2.1 v0.1.1.2.length x_v0.1.1.2.2, .slice x_v0.1.2.1.1 v0.1.2.1.length x_v0.1.2.1.2, .slice x_v0.1.2.2.1 v0.1.2.2.length x_v0.1.2.2.2, .slice x_v0.2.1.1 v0.2.1.length x_v0.2.1.2, .slice x_v0.2.2.1.1 v0.2.2.1.length x_v0.2.2.1.2, .slice x_v0.2.2.2.1.1 v0.2.2.2.1.length x_v0.2.2.2.1.2, .int .i64 (v0.2.2.2.2)], .int .i64 (v1)] [imm (.slice x_v0.1.1.1.1 v0.1.1.1.length x_v0.1.1.1.2) v0.1.1.1, imm (.slice x_v0.1.1.2.1 v0.1.1.2.length x_v0.1.1.2.2) v0.1.1.2, imm (.slice x_v0.1.2.1.1 v0.1.2.1.length x_v0.1.2.1.2) v0.1.2.1, imm (.slice x_v0.1.2.2.1 v0.1.2.2.length x_v0.1.2.2.2) v0.1.2.2, imm (.slice x_v0.2.1.1 v0.2.1.length x_v0.2.1.2) v0.2.1, imm (.slice x_v0.2.2.1.1 v0.2.2.1.length x_v0.2.2.1.2) v0.2.2.1, imm (.slice x_v0.2.2.2.1.1 v0.2.2.2.1.length x_v0.2.2.2.1.2) v0.2.2.2.1] [] (ι := Unit) (fun _ => .int .i64 (r)) (fun _ => []) (fun _ => []) := by
 refine calls_of (args := [_, _]) Try.func54 rfl (by kernel_rfl) Try.ntmps54 (by simp) fun c => ?_
 unfold p_laws_heldWorld at H
 refine Tr.openD Ent.z fun X1 => ?_
 refine Tr.openD Ent.z.s.s fun X2 => ?_
 refine Tr.openD Ent.z.s.s.s.s fun X3 => ?_
 refine Tr.openD Ent.z.s.s.s.s.s.s.s fun X4 => ?_
 refine Tr.openD Ent.z.s.s.s.s.s.s.s.s.s.s fun X5 => ?_
 refine Tr.seq (Tr.region ?_)
 refine Rg.ed (e_box (t := 83) (v := .agg #[.slice x_v0.1.1.1.1 v0.1.1.1.length x_v0.1.1.1.2, .slice x_v0.1.1.2.1 v0.1.1.2.length x_v0.1.1.2.2, .slice x_v0.1.2.1.1 v0.1.2.1.length x_v0.1.2.1.2, .slice x_v0.1.2.2.1 v0.1.2.2.length x_v0.1.2.2.2, .slice x_v0.2.1.1 v0.2.1.length x_v0.2.1.2, .slice x_v0.2.2.1.1 v0.2.2.1.length x_v0.2.2.1.2, .slice x_v0.2.2.2.1.1 v0.2.2.2.1.length x_v0.2.2.2.1.2, .int .i64 (v0.2.2.2.2)]) rfl) rfl (by decide) ?_
 rintro _ _ _ ⟨g6, rfl, rfl, rfl⟩
 refine Rg.q (v := .int .i64 (0)) (Pu.qo (p_assign rfl)) (by decide) ?_
 refine Rg.nl (nT ?_)
 refine Tr.seq (Tr.region ?_)
 refine Rg.q (v := .pointer (some ⟨g6, 0, none⟩)) (Pu.qo (p_fabE fa83_0 rfl rfl)) (by decide) ?_
 refine Rg.q (v := .agg #[.slice x_v0.1.1.1.1 v0.1.1.1.length x_v0.1.1.1.2, .slice x_v0.1.1.2.1 v0.1.1.2.length x_v0.1.1.2.2, .slice x_v0.1.2.1.1 v0.1.2.1.length x_v0.1.2.1.2, .slice x_v0.1.2.2.1 v0.1.2.2.length x_v0.1.2.2.2]) (q_ldbP [.slice x_v0.1.1.1.1 v0.1.1.1.length x_v0.1.1.1.2, .slice x_v0.1.1.2.1 v0.1.1.2.length x_v0.1.1.2.2, .slice x_v0.1.2.1.1 v0.1.2.1.length x_v0.1.2.1.2, .slice x_v0.1.2.2.1 v0.1.2.2.length x_v0.1.2.2.2] ty78 rfl Has.here rfl rfl) (by decide) ?_
 refine Rg.q (v := .int .i64 (v1)) (Pu.qo (p_move rfl)) (by decide) ?_
 obtain ⟨r7, h8, H⟩ := bd.of H
 refine Rg.q (v := .int .i64 (r7)) (q_call (vs := [.agg #[.slice x_v0.1.1.1.1 v0.1.1.1.length x_v0.1.1.1.2, .slice x_v0.1.1.2.1 v0.1.1.2.length x_v0.1.1.2.2, .slice x_v0.1.2.1.1 v0.1.2.1.length x_v0.1.2.1.2, .slice x_v0.1.2.2.1 v0.1.2.2.length x_v0.1.2.2.2], .int .i64 (v1)]) (c_laws_heldStore v0.1 x_v0.1 v1 h8) rfl (EntsB.cons (Ent.b (Ent.dimm Ent.z.s.s.s.s)) (EntsB.cons (Ent.b (Ent.dimm Ent.z.s.s.s)) (EntsB.cons (Ent.b (Ent.dimm Ent.z.s.s)) (EntsB.cons (Ent.b Ent.z.s.s.s.s.s.s.s.s) EntsB.nil))))) (by decide) ?_
 refine Rg.q (v := .int .i64 (r7)) (Pu.qo (p_assign rfl)) (by decide) ?_
 refine Rg.nl (nT ?_)
 refine Tr.seq (Tr.seq (Tr.region ?_))
 refine Rg.q (v := .int .i64 (r7)) (Pu.qo (p_move rfl)) (by decide) ?_
 refine Rg.q (v := .bool (decide (r7 < 0))) (Pu.qo (p_lss rfl rfl)) (by decide) ?_
 refine Rg.nl (nT ?_)
 refine Tr.cond (b := decide (r7 < 0)) rfl (fun h9 => ?_) (fun h9 => ?_)
 ·have H := cdT h9 H
  refine Tr.seq (Tr.region ?_)
  refine Rg.q (v := .int .i64 (-1)) (Pu.qo (p_assign rfl)) (by decide) ?_
  refine Rg.nl (nT ?_)
  refine tRet ?_
  refine rT (?_)
  have hr := Option.some.inj H; subst hr
  exact back1 () rfl (ResV.tmp (v := .int .i64 (-1)) rfl) rfl Ents.nil Take.nil
 ·have H := cdF h9 H
  refine tSkip ?_
  refine nT (?_)
  refine Tr.seq (Tr.region ?_)
  refine Rg.q (v := .pointer (some ⟨g6, 4, none⟩)) (Pu.qo (p_fabE fa83_1 rfl rfl)) (by decide) ?_
  refine Rg.q (v := .agg #[.slice x_v0.2.1.1 v0.2.1.length x_v0.2.1.2, .slice x_v0.2.2.1.1 v0.2.2.1.length x_v0.2.2.1.2, .slice x_v0.2.2.2.1.1 v0.2.2.2.1.length x_v0.2.2.2.1.2, .int .i64 (v0.2.2.2.2)]) (q_ldbP [.slice x_v0.2.1.1 v0.2.1.length x_v0.2.1.2, .slice x_v0.2.2.1.1 v0.2.2.1.length x_v0.2.2.1.2, .slice x_v0.2.2.2.1.1 v0.2.2.2.1.length x_v0.2.2.2.1.2, .int .i64 (v0.2.2.2.2)] ty81 rfl Has.here rfl rfl) (by decide) ?_
  refine Rg.q (v := .int .i64 (r7)) (Pu.qo (p_move rfl)) (by decide) ?_
  obtain ⟨r10, h11, H⟩ := bd.of H
  refine Rg.q (v := .int .i64 (r10)) (q_call (vs := [.agg #[.slice x_v0.2.1.1 v0.2.1.length x_v0.2.1.2, .slice x_v0.2.2.1.1 v0.2.2.1.length x_v0.2.2.1.2, .slice x_v0.2.2.2.1.1 v0.2.2.2.1.length x_v0.2.2.2.1.2, .int .i64 (v0.2.2.2.2)], .int .i64 (r7)]) (c_laws_heldDisk v0.2 (x_v0.2.1, x_v0.2.2.1, x_v0.2.2.2.1, ()) r7 h11) rfl (EntsB.cons (Ent.b (Ent.dimm Ent.z.s)) (EntsB.cons (Ent.b Ent.z.s.s.s.s.s.s.s.s.s.s) (EntsB.cons (Ent.b (Ent.dimm Ent.z)) EntsB.nil)))) (by decide) ?_
  refine Rg.q (v := .int .i64 (r10)) (Pu.qo (p_assign rfl)) (by decide) ?_
  refine Rg.nl (nT ?_)
  refine Tr.seq (Tr.seq (Tr.region ?_))
  refine Rg.q (v := .int .i64 (r10)) (Pu.qo (p_move rfl)) (by decide) ?_
  refine Rg.q (v := .bool (decide (r10 < 0))) (Pu.qo (p_lss rfl rfl)) (by decide) ?_
  refine Rg.nl (nT ?_)
  refine Tr.cond (b := decide (r10 < 0)) rfl (fun h12 => ?_) (fun h12 => ?_)
  ·have H := cdT h12 H
   refine Tr.seq (Tr.region ?_)
   refine Rg.q (v := .int .i64 (-1)) (Pu.qo (p_assign rfl)) (by decide) ?_
   refine Rg.nl (nT ?_)
   refine tRet ?_
   refine rT (?_)
   have hr := Option.some.inj H; subst hr
   exact back1 () rfl (ResV.tmp (v := .int .i64 (-1)) rfl) rfl Ents.nil Take.nil
  ·have H := cdF h12 H
   refine tSkip ?_
   refine nT (?_)
   refine Tr.seq (Tr.region ?_)
   refine Rg.q (v := .int .i64 (r10)) (Pu.qo (p_move rfl)) (by decide) ?_
   refine Rg.q (v := .int .i64 (r10)) (Pu.qo (p_assign rfl)) (by decide) ?_
   refine Rg.nl (nT ?_)
   refine tRet ?_
   have hr := Option.some.inj H; subst hr
   exact back1 () rfl (ResV.tmp (v := .int .i64 (r10)) rfl) rfl Ents.nil Take.nil
noncomputable def p_laws_FnExactWorldNew : Option (Bool) := bd (p_spec_WorldNew) fun r1 => bd (p_impl_WorldNew) fun r5 => bd (p_laws_eqWorld r5 r1) fun r9 => cond (!r9) (some false) (bd (p_laws_markWorld r5 1) fun r12 => bd (p_laws_heldWorld (r12.2.1, (r12.2.2.1, r12.2.2.2.1, r12.2.2.2.2.1, r5.2.2.2.2)) 1) fun r15 => cond (decide (r15 < 0)) (some false) (cond (!decide (r15 = r12.1)) (some false) (cond (!r9) (some false) (cond (decide (r15 < 0)) (some false) (cond (!decide (r15 = r12.1)) (some false) (some true))))))
theorem c_laws_FnExactWorldNew {r : Bool}  (H : p_laws_FnExactWorldNew = some r) : Fn' Try.prog 15 #[] [] [] (ι := Unit) (fun _ => .bool (r)) (fun _ => []) (fun _ => []) := by
 refine calls_of (args := []) Try.func15 rfl (by kernel_rfl) Try.ntmps15 (by simp) fun c => ?_
 unfold p_laws_FnExactWorldNew at H
 refine Tr.seq (Tr.region ?_)
 refine Rg.q (v := .bool (false)) (Pu.qo (p_assign rfl)) (by decide) ?_
 refine Rg.nl (nT ?_)
 refine Tr.seq (Tr.region ?_)
 obtain ⟨r1, h2, H⟩ := bd.of H
 refine Rg.ed (e_callB (vs := []) (c_spec_WorldNew h2) (fun _ => (Solo.tree (Solo.tree (Solo.tree (Solo.tree (Solo.tree (Solo.tree (Solo.tree Solo.nil)))))))) rfl EntsB.nil) rfl (by decide) ?_
 rintro _ _ _ ⟨x3, rfl, rfl, rfl⟩
 refine Rg.ed (e_alloc ty83) rfl (by decide) ?_
 rintro _ _ _ ⟨g4, rfl, rfl, rfl⟩
 refine Rg.en (e_store (v := .agg #[.slice x3.1.1.1.1 r1.1.1.1.length x3.1.1.1.2, .slice x3.1.1.2.1 r1.1.1.2.length x3.1.1.2.2, .slice x3.1.2.1.1 r1.1.2.1.length x3.1.2.1.2, .slice x3.1.2.2.1 r1.1.2.2.length x3.1.2.2.2, .slice x3.2.1.1 r1.2.1.length x3.2.1.2, .slice x3.2.2.1.1 r1.2.2.1.length x3.2.2.1.2, .slice x3.2.2.2.1.1 r1.2.2.2.1.length x3.2.2.2.1.2, .int .i64 (r1.2.2.2.2)]) (cs' := [.slice x3.1.1.1.1 r1.1.1.1.length x3.1.1.1.2, .slice x3.1.1.2.1 r1.1.1.2.length x3.1.1.2.2, .slice x3.1.2.1.1 r1.1.2.1.length x3.1.2.1.2, .slice x3.1.2.2.1 r1.1.2.2.length x3.1.2.2.2, .slice x3.2.1.1 r1.2.1.length x3.2.1.2, .slice x3.2.2.1.1 r1.2.2.1.length x3.2.2.1.2, .slice x3.2.2.2.1.1 r1.2.2.2.1.length x3.2.2.2.1.2, .int .i64 (r1.2.2.2.2)]) ty83 rfl rfl Upd.here rfl (by simp [Value.cells, Value.oneCell']) (Nat.le_of_ble_eq_true rfl) rfl) rfl ?_
 rintro _ _ _ ⟨rfl, rfl, rfl⟩
 refine Rg.nl (nT ?_)
 refine Tr.seq (Tr.region ?_)
 obtain ⟨r5, h6, H⟩ := bd.of H
 refine Rg.ed (e_callB (vs := []) (c_impl_WorldNew h6) (fun _ => (Solo.tree (Solo.tree (Solo.tree (Solo.tree (Solo.tree (Solo.tree (Solo.tree Solo.nil)))))))) rfl EntsB.nil) rfl (by decide) ?_
 rintro _ _ _ ⟨x7, rfl, rfl, rfl⟩
 refine Rg.ed (e_alloc ty83) rfl (by decide) ?_
 rintro _ _ _ ⟨g8, rfl, rfl, rfl⟩
 refine Rg.en (e_store (v := .agg #[.slice x7.1.1.1.1 r5.1.1.1.length x7.1.1.1.2, .slice x7.1.1.2.1 r5.1.1.2.length x7.1.1.2.2, .slice x7.1.2.1.1 r5.1.2.1.length x7.1.2.1.2, .slice x7.1.2.2.1 r5.1.2.2.length x7.1.2.2.2, .slice x7.2.1.1 r5.2.1.length x7.2.1.2, .slice x7.2.2.1.1 r5.2.2.1.length x7.2.2.1.2, .slice x7.2.2.2.1.1 r5.2.2.2.1.length x7.2.2.2.1.2, .int .i64 (r5.2.2.2.2)]) (cs' := [.slice x7.1.1.1.1 r5.1.1.1.length x7.1.1.1.2, .slice x7.1.1.2.1 r5.1.1.2.length x7.1.1.2.2, .slice x7.1.2.1.1 r5.1.2.1.length x7.1.2.1.2, .slice x7.1.2.2.1 r5.1.2.2.length x7.1.2.2.2, .slice x7.2.1.1 r5.2.1.length x7.2.1.2, .slice x7.2.2.1.1 r5.2.2.1.length x7.2.2.1.2, .slice x7.2.2.2.1.1 r5.2.2.2.1.length x7.2.2.2.1.2, .int .i64 (r5.2.2.2.2)]) ty83 rfl rfl Upd.here rfl (by simp [Value.cells, Value.oneCell']) (Nat.le_of_ble_eq_true rfl) rfl) rfl ?_
 rintro _ _ _ ⟨rfl, rfl, rfl⟩
 refine Rg.nl (nT ?_)
 refine Tr.seq (Tr.seq (Tr.region ?_))
 refine Rg.q (v := .agg #[.slice x7.1.1.1.1 r5.1.1.1.length x7.1.1.1.2, .slice x7.1.1.2.1 r5.1.1.2.length x7.1.1.2.2, .slice x7.1.2.1.1 r5.1.2.1.length x7.1.2.1.2, .slice x7.1.2.2.1 r5.1.2.2.length x7.1.2.2.2, .slice x7.2.1.1 r5.2.1.length x7.2.1.2, .slice x7.2.2.1.1 r5.2.2.1.length x7.2.2.1.2, .slice x7.2.2.2.1.1 r5.2.2.2.1.length x7.2.2.2.1.2, .int .i64 (r5.2.2.2.2)]) (q_ldbA ty83 rfl Has.here rfl) (by decide) ?_
 refine Rg.q (v := .agg #[.slice x3.1.1.1.1 r1.1.1.1.length x3.1.1.1.2, .slice x3.1.1.2.1 r1.1.1.2.length x3.1.1.2.2, .slice x3.1.2.1.1 r1.1.2.1.length x3.1.2.1.2, .slice x3.1.2.2.1 r1.1.2.2.length x3.1.2.2.2, .slice x3.2.1.1 r1.2.1.length x3.2.1.2, .slice x3.2.2.1.1 r1.2.2.1.length x3.2.2.1.2, .slice x3.2.2.2.1.1 r1.2.2.2.1.length x3.2.2.2.1.2, .int .i64 (r1.2.2.2.2)]) (q_ldbA ty83 rfl Has.here.there.there.there.there.there.there.there.there rfl) (by decide) ?_
 obtain ⟨r9, h10, H⟩ := bd.of H
 refine Rg.q (v := .bool (r9)) (q_call (vs := [.agg #[.slice x7.1.1.1.1 r5.1.1.1.length x7.1.1.1.2, .slice x7.1.1.2.1 r5.1.1.2.length x7.1.1.2.2, .slice x7.1.2.1.1 r5.1.2.1.length x7.1.2.1.2, .slice x7.1.2.2.1 r5.1.2.2.length x7.1.2.2.2, .slice x7.2.1.1 r5.2.1.length x7.2.1.2, .slice x7.2.2.1.1 r5.2.2.1.length x7.2.2.1.2, .slice x7.2.2.2.1.1 r5.2.2.2.1.length x7.2.2.2.1.2, .int .i64 (r5.2.2.2.2)], .agg #[.slice x3.1.1.1.1 r1.1.1.1.length x3.1.1.1.2, .slice x3.1.1.2.1 r1.1.1.2.length x3.1.1.2.2, .slice x3.1.2.1.1 r1.1.2.1.length x3.1.2.1.2, .slice x3.1.2.2.1 r1.1.2.2.length x3.1.2.2.2, .slice x3.2.1.1 r1.2.1.length x3.2.1.2, .slice x3.2.2.1.1 r1.2.2.1.length x3.2.2.1.2, .slice x3.2.2.2.1.1 r1.2.2.2.1.length x3.2.2.2.1.2, .int .i64 (r1.2.2.2.2)]]) (c_laws_eqWorld r5 (x7.1, (x7.2.1, x7.2.2.1, x7.2.2.2.1, ())) r1 (x3.1, (x3.2.1, x3.2.2.1, x3.2.2.2.1, ())) h10) rfl (EntsB.cons (EntB.tree Has.here.there) (EntsB.cons (EntB.tree Has.here.there.there) (EntsB.cons (EntB.tree Has.here.there.there.there) (EntsB.cons (EntB.tree Has.here.there.there.there.there) (EntsB.cons (EntB.tree Has.here.there.there.there.there.there) (EntsB.cons (EntB.tree Has.here.there.there.there.there.there.there) (EntsB.cons (EntB.tree Has.here.there.there.there.there.there.there.there) (EntsB.cons (EntB.tree Has.here.there.there.there.there.there.there.there.there.there) (EntsB.cons (EntB.tree Has.here.there.there.there.there.there.there.there.there.there.there) (EntsB.cons (EntB.tree Has.here.there.there.there.there.there.there.there.there.there.there.there) (EntsB.cons (EntB.tree Has.here.there.there.there.there.there.there.there.there.there.there.there.there) (EntsB.cons (EntB.tree Has.here.there.there.there.there.there.there.there.there.there.there.there.there.there) (EntsB.cons (EntB.tree Has.here.there.there.there.there.there.there.there.there.there.there.there.there.there.there) (EntsB.cons (EntB.tree Has.here.there.there.there.there.there.there.there.there.there.there.there.there.there.there.there) EntsB.nil))))))))))))))) (by decide) ?_
 refine Rg.q (v := .bool (!r9)) (Pu.qo (p_not rfl)) (by decide) ?_
 refine Rg.nl (nT ?_)
 refine Tr.cond (b := !r9) rfl (fun h11 => ?_) (fun h11 => ?_)
 ·have H := cdT h11 H
  refine Tr.seq (Tr.region ?_)
  refine Rg.q (v := .bool (false)) (Pu.qo (p_assign rfl)) (by decide) ?_
  refine Rg.nl (nT ?_)
  refine tRet ?_
  refine rT (?_)
  have hr := Option.some.inj H; subst hr
  exact back1 () rfl (ResV.tmp (v := .bool (false)) rfl) rfl Ents.nil Take.nil
 ·have H := cdF h11 H
  refine tSkip ?_
  refine nT (?_)
  refine Tr.seq (Tr.region ?_)
  refine Rg.q (v := .int .i64 (1)) (Pu.qo (p_assign rfl)) (by decide) ?_
  refine Rg.nl (nT ?_)
  refine Tr.seq (Tr.region ?_)
  refine Rg.q (v := .agg #[.slice x7.1.1.1.1 r5.1.1.1.length x7.1.1.1.2, .slice x7.1.1.2.1 r5.1.1.2.length x7.1.1.2.2, .slice x7.1.2.1.1 r5.1.2.1.length x7.1.2.1.2, .slice x7.1.2.2.1 r5.1.2.2.length x7.1.2.2.2, .slice x7.2.1.1 r5.2.1.length x7.2.1.2, .slice x7.2.2.1.1 r5.2.2.1.length x7.2.2.1.2, .slice x7.2.2.2.1.1 r5.2.2.2.1.length x7.2.2.2.1.2, .int .i64 (r5.2.2.2.2)]) (q_ldbA ty83 rfl Has.here rfl) (by decide) ?_
  refine Rg.q (v := .int .i64 (1)) (Pu.qo (p_move rfl)) (by decide) ?_
  obtain ⟨r12, h13, H⟩ := bd.of H
  refine Rg.ed (e_callM (vs := [.agg #[.slice x7.1.1.1.1 r5.1.1.1.length x7.1.1.1.2, .slice x7.1.1.2.1 r5.1.1.2.length x7.1.1.2.2, .slice x7.1.2.1.1 r5.1.2.1.length x7.1.2.1.2, .slice x7.1.2.2.1 r5.1.2.2.length x7.1.2.2.2, .slice x7.2.1.1 r5.2.1.length x7.2.1.2, .slice x7.2.2.1.1 r5.2.2.1.length x7.2.2.1.2, .slice x7.2.2.2.1.1 r5.2.2.2.1.length x7.2.2.2.1.2, .int .i64 (r5.2.2.2.2)], .int .i64 (1)]) (c_laws_markWorld r5 (x7.1, (x7.2.1, x7.2.2.1, x7.2.2.2.1, ())) 1 h13) (Solo.tree (Solo.tree (Solo.tree (Solo.tree (Solo.tree (Solo.tree (Solo.tree Solo.nil))))))) (fun _ => (Solo.tree (Solo.tree (Solo.tree (Solo.tree (Solo.tree (Solo.tree (Solo.tree Solo.nil)))))))) rfl (.cons Del.here.there (.cons Del.here.there (.cons Del.here.there (.cons Del.here.there (.cons Del.here.there (.cons Del.here.there (.cons Del.here.there .nil))))))) EntsB.nil) rfl (by decide) ?_
  rintro _ _ _ ⟨u14, rfl, rfl, rfl⟩
  refine Rg.q (v := .int .i64 (r12.1)) (Pu.qo (p_assign rfl)) (by decide) ?_
  refine Rg.nl (nT ?_)
  refine Tr.seq ?_
  refine Tr.olen Has.here fun hn => ?_; rw [hn]
  refine Tr.olen Has.here.there fun hn => ?_; rw [hn]
  refine Tr.olen Has.here.there.there fun hn => ?_; rw [hn]
  refine Tr.olen Has.here.there.there.there fun hn => ?_; rw [hn]
  refine Tr.olen Has.here.there.there.there.there fun hn => ?_; rw [hn]
  refine Tr.olen Has.here.there.there.there.there.there fun hn => ?_; rw [hn]
  refine Tr.olen Has.here.there.there.there.there.there.there fun hn => ?_; rw [hn]
  refine Tr.region ?_
  refine Rg.q (v := .int .i64 (1)) (Pu.qo (p_assign rfl)) (by decide) ?_
  refine Rg.nl (nT ?_)
  refine Tr.seq (Tr.region ?_)
  refine Rg.q (v := .agg #[.slice x7.1.1.1.1 r12.2.1.1.1.length x7.1.1.1.2, .slice x7.1.1.2.1 r12.2.1.1.2.length x7.1.1.2.2, .slice x7.1.2.1.1 r12.2.1.2.1.length x7.1.2.1.2, .slice x7.1.2.2.1 r12.2.1.2.2.length x7.1.2.2.2, .slice x7.2.1.1 r12.2.2.1.length x7.2.1.2, .slice x7.2.2.1.1 r12.2.2.2.1.length x7.2.2.1.2, .slice x7.2.2.2.1.1 r12.2.2.2.2.1.length x7.2.2.2.1.2, .int .i64 (r5.2.2.2.2)]) (q_ldbA ty83 rfl Has.here.there.there.there.there.there.there.there rfl) (by decide) ?_
  refine Rg.q (v := .int .i64 (1)) (Pu.qo (p_move rfl)) (by decide) ?_
  obtain ⟨r15, h16, H⟩ := bd.of H
  refine Rg.q (v := .int .i64 (r15)) (q_call (vs := [.agg #[.slice x7.1.1.1.1 r12.2.1.1.1.length x7.1.1.1.2, .slice x7.1.1.2.1 r12.2.1.1.2.length x7.1.1.2.2, .slice x7.1.2.1.1 r12.2.1.2.1.length x7.1.2.1.2, .slice x7.1.2.2.1 r12.2.1.2.2.length x7.1.2.2.2, .slice x7.2.1.1 r12.2.2.1.length x7.2.1.2, .slice x7.2.2.1.1 r12.2.2.2.1.length x7.2.2.1.2, .slice x7.2.2.2.1.1 r12.2.2.2.2.1.length x7.2.2.2.1.2, .int .i64 (r5.2.2.2.2)], .int .i64 (1)]) (c_laws_heldWorld (r12.2.1, (r12.2.2.1, r12.2.2.2.1, r12.2.2.2.2.1, r5.2.2.2.2)) (x7.1, (x7.2.1, x7.2.2.1, x7.2.2.2.1, ())) 1 h16) rfl (EntsB.cons (EntB.tree Has.here) (EntsB.cons (EntB.tree Has.here.there) (EntsB.cons (EntB.tree Has.here.there.there) (EntsB.cons (EntB.tree Has.here.there.there.there) (EntsB.cons (EntB.tree Has.here.there.there.there.there) (EntsB.cons (EntB.tree Has.here.there.there.there.there.there) (EntsB.cons (EntB.tree Has.here.there.there.there.there.there.there) EntsB.nil)))))))) (by decide) ?_
  refine Rg.q (v := .int .i64 (r15)) (Pu.qo (p_assign rfl)) (by decide) ?_
  refine Rg.nl (nT ?_)
  refine Tr.seq (Tr.seq (Tr.region ?_))
  refine Rg.q (v := .int .i64 (r15)) (Pu.qo (p_move rfl)) (by decide) ?_
  refine Rg.q (v := .bool (decide (r15 < 0))) (Pu.qo (p_lss rfl rfl)) (by decide) ?_
  refine Rg.nl (nT ?_)
  refine Tr.cond (b := decide (r15 < 0)) rfl (fun h17 => ?_) (fun h17 => ?_)
  ·have H := cdT h17 H
   refine Tr.seq (Tr.region ?_)
   refine Rg.q (v := .bool (false)) (Pu.qo (p_assign rfl)) (by decide) ?_
   refine Rg.nl (nT ?_)
   refine tRet ?_
   refine rT (?_)
   have hr := Option.some.inj H; subst hr
   exact back1 () rfl (ResV.tmp (v := .bool (false)) rfl) rfl Ents.nil Take.nil
  ·have H := cdF h17 H
   refine tSkip ?_
   refine nT (?_)
   refine Tr.seq (Tr.seq (Tr.region ?_))
   refine Rg.q (v := .int .i64 (r15)) (Pu.qo (p_move rfl)) (by decide) ?_
   refine Rg.q (v := .int .i64 (r12.1)) (Pu.qo (p_move rfl)) (by decide) ?_
   refine Rg.q (v := .bool (!decide (r15 = r12.1))) (Pu.qo (p_neq rfl rfl)) (by decide) ?_
   refine Rg.nl (nT ?_)
   refine Tr.cond (b := !decide (r15 = r12.1)) rfl (fun h18 => ?_) (fun h18 => ?_)
   ·have H := cdT h18 H
    refine Tr.seq (Tr.region ?_)
    refine Rg.q (v := .bool (false)) (Pu.qo (p_assign rfl)) (by decide) ?_
    refine Rg.nl (nT ?_)
    refine tRet ?_
    refine rT (?_)
    have hr := Option.some.inj H; subst hr
    exact back1 () rfl (ResV.tmp (v := .bool (false)) rfl) rfl Ents.nil Take.nil
   ·have H := cdF h18 H
    refine tSkip ?_
    refine nT (?_)
    refine Tr.seq (Tr.region ?_)
    refine Rg.ed (e_callB (vs := []) (c_impl_WorldNew h6) (fun _ => (Solo.tree (Solo.tree (Solo.tree (Solo.tree (Solo.tree (Solo.tree (Solo.tree Solo.nil)))))))) rfl EntsB.nil) rfl (by decide) ?_
    rintro _ _ _ ⟨x19, rfl, rfl, rfl⟩
    refine Rg.ed (e_alloc ty83) rfl (by decide) ?_
    rintro _ _ _ ⟨g20, rfl, rfl, rfl⟩
    refine Rg.en (e_store (v := .agg #[.slice x19.1.1.1.1 r5.1.1.1.length x19.1.1.1.2, .slice x19.1.1.2.1 r5.1.1.2.length x19.1.1.2.2, .slice x19.1.2.1.1 r5.1.2.1.length x19.1.2.1.2, .slice x19.1.2.2.1 r5.1.2.2.length x19.1.2.2.2, .slice x19.2.1.1 r5.2.1.length x19.2.1.2, .slice x19.2.2.1.1 r5.2.2.1.length x19.2.2.1.2, .slice x19.2.2.2.1.1 r5.2.2.2.1.length x19.2.2.2.1.2, .int .i64 (r5.2.2.2.2)]) (cs' := [.slice x19.1.1.1.1 r5.1.1.1.length x19.1.1.1.2, .slice x19.1.1.2.1 r5.1.1.2.length x19.1.1.2.2, .slice x19.1.2.1.1 r5.1.2.1.length x19.1.2.1.2, .slice x19.1.2.2.1 r5.1.2.2.length x19.1.2.2.2, .slice x19.2.1.1 r5.2.1.length x19.2.1.2, .slice x19.2.2.1.1 r5.2.2.1.length x19.2.2.1.2, .slice x19.2.2.2.1.1 r5.2.2.2.1.length x19.2.2.2.1.2, .int .i64 (r5.2.2.2.2)]) ty83 rfl rfl Upd.here rfl (by simp [Value.cells, Value.oneCell']) (Nat.le_of_ble_eq_true rfl) rfl) rfl ?_
    rintro _ _ _ ⟨rfl, rfl, rfl⟩
    refine Rg.nl (nT ?_)
    refine Tr.seq (Tr.seq (Tr.region ?_))
    refine Rg.q (v := .agg #[.slice x19.1.1.1.1 r5.1.1.1.length x19.1.1.1.2, .slice x19.1.1.2.1 r5.1.1.2.length x19.1.1.2.2, .slice x19.1.2.1.1 r5.1.2.1.length x19.1.2.1.2, .slice x19.1.2.2.1 r5.1.2.2.length x19.1.2.2.2, .slice x19.2.1.1 r5.2.1.length x19.2.1.2, .slice x19.2.2.1.1 r5.2.2.1.length x19.2.2.1.2, .slice x19.2.2.2.1.1 r5.2.2.2.1.length x19.2.2.2.1.2, .int .i64 (r5.2.2.2.2)]) (q_ldbA ty83 rfl Has.here rfl) (by decide) ?_
    refine Rg.q (v := .agg #[.slice x3.1.1.1.1 r1.1.1.1.length x3.1.1.1.2, .slice x3.1.1.2.1 r1.1.1.2.length x3.1.1.2.2, .slice x3.1.2.1.1 r1.1.2.1.length x3.1.2.1.2, .slice x3.1.2.2.1 r1.1.2.2.length x3.1.2.2.2, .slice x3.2.1.1 r1.2.1.length x3.2.1.2, .slice x3.2.2.1.1 r1.2.2.1.length x3.2.2.1.2, .slice x3.2.2.2.1.1 r1.2.2.2.1.length x3.2.2.2.1.2, .int .i64 (r1.2.2.2.2)]) (q_ldbA ty83 rfl Has.here.there.there.there.there.there.there.there.there.there.there.there.there.there.there.there.there rfl) (by decide) ?_
    refine Rg.q (v := .bool (r9)) (q_call (vs := [.agg #[.slice x19.1.1.1.1 r5.1.1.1.length x19.1.1.1.2, .slice x19.1.1.2.1 r5.1.1.2.length x19.1.1.2.2, .slice x19.1.2.1.1 r5.1.2.1.length x19.1.2.1.2, .slice x19.1.2.2.1 r5.1.2.2.length x19.1.2.2.2, .slice x19.2.1.1 r5.2.1.length x19.2.1.2, .slice x19.2.2.1.1 r5.2.2.1.length x19.2.2.1.2, .slice x19.2.2.2.1.1 r5.2.2.2.1.length x19.2.2.2.1.2, .int .i64 (r5.2.2.2.2)], .agg #[.slice x3.1.1.1.1 r1.1.1.1.length x3.1.1.1.2, .slice x3.1.1.2.1 r1.1.1.2.length x3.1.1.2.2, .slice x3.1.2.1.1 r1.1.2.1.length x3.1.2.1.2, .slice x3.1.2.2.1 r1.1.2.2.length x3.1.2.2.2, .slice x3.2.1.1 r1.2.1.length x3.2.1.2, .slice x3.2.2.1.1 r1.2.2.1.length x3.2.2.1.2, .slice x3.2.2.2.1.1 r1.2.2.2.1.length x3.2.2.2.1.2, .int .i64 (r1.2.2.2.2)]]) (c_laws_eqWorld r5 (x19.1, (x19.2.1, x19.2.2.1, x19.2.2.2.1, ())) r1 (x3.1, (x3.2.1, x3.2.2.1, x3.2.2.2.1, ())) h10) rfl (EntsB.cons (EntB.tree Has.here.there) (EntsB.cons (EntB.tree Has.here.there.there) (EntsB.cons (EntB.tree Has.here.there.there.there) (EntsB.cons (EntB.tree Has.here.there.there.there.there) (EntsB.cons (EntB.tree Has.here.there.there.there.there.there) (EntsB.cons (EntB.tree Has.here.there.there.there.there.there.there) (EntsB.cons (EntB.tree Has.here.there.there.there.there.there.there.there) (EntsB.cons (EntB.tree Has.here.there.there.there.there.there.there.there.there.there.there.there.there.there.there.there.there.there) (EntsB.cons (EntB.tree Has.here.there.there.there.there.there.there.there.there.there.there.there.there.there.there.there.there.there.there) (EntsB.cons (EntB.tree Has.here.there.there.there.there.there.there.there.there.there.there.there.there.there.there.there.there.there.there.there) (EntsB.cons (EntB.tree Has.here.there.there.there.there.there.there.there.there.there.there.there.there.there.there.there.there.there.there.there.there) (EntsB.cons (EntB.tree Has.here.there.there.there.there.there.there.there.there.there.there.there.there.there.there.there.there.there.there.there.there.there) (EntsB.cons (EntB.tree Has.here.there.there.there.there.there.there.there.there.there.there.there.there.there.there.there.there.there.there.there.there.there.there) (EntsB.cons (EntB.tree Has.here.there.there.there.there.there.there.there.there.there.there.there.there.there.there.there.there.there.there.there.there.there.there.there) EntsB.nil))))))))))))))) (by decide) ?_
    refine Rg.q (v := .bool (!r9)) (Pu.qo (p_not rfl)) (by decide) ?_
    refine Rg.nl (nT ?_)
    refine Tr.cond (b := !r9) rfl (fun h21 => ?_) (fun h21 => ?_)
    ·have H := cdT h21 H
     refine Tr.seq (Tr.region ?_)
     refine Rg.q (v := .bool (false)) (Pu.qo (p_assign rfl)) (by decide) ?_
     refine Rg.nl (nT ?_)
     refine tRet ?_
     refine rT (?_)
     have hr := Option.some.inj H; subst hr
     exact back1 () rfl (ResV.tmp (v := .bool (false)) rfl) rfl Ents.nil Take.nil
    ·have H := cdF h21 H
     refine tSkip ?_
     refine nT (?_)
     refine Tr.seq (Tr.region ?_)
     refine Rg.q (v := .int .i64 (1)) (Pu.qo (p_assign rfl)) (by decide) ?_
     refine Rg.nl (nT ?_)
     refine Tr.seq (Tr.region ?_)
     refine Rg.q (v := .agg #[.slice x7.1.1.1.1 r12.2.1.1.1.length x7.1.1.1.2, .slice x7.1.1.2.1 r12.2.1.1.2.length x7.1.1.2.2, .slice x7.1.2.1.1 r12.2.1.2.1.length x7.1.2.1.2, .slice x7.1.2.2.1 r12.2.1.2.2.length x7.1.2.2.2, .slice x7.2.1.1 r12.2.2.1.length x7.2.1.2, .slice x7.2.2.1.1 r12.2.2.2.1.length x7.2.2.1.2, .slice x7.2.2.2.1.1 r12.2.2.2.2.1.length x7.2.2.2.1.2, .int .i64 (r5.2.2.2.2)]) (q_ldbA ty83 rfl Has.here.there.there.there.there.there.there.there.there.there.there.there.there.there.there.there rfl) (by decide) ?_
     refine Rg.q (v := .int .i64 (1)) (Pu.qo (p_move rfl)) (by decide) ?_
     refine Rg.q (v := .int .i64 (r15)) (q_call (vs := [.agg #[.slice x7.1.1.1.1 r12.2.1.1.1.length x7.1.1.1.2, .slice x7.1.1.2.1 r12.2.1.1.2.length x7.1.1.2.2, .slice x7.1.2.1.1 r12.2.1.2.1.length x7.1.2.1.2, .slice x7.1.2.2.1 r12.2.1.2.2.length x7.1.2.2.2, .slice x7.2.1.1 r12.2.2.1.length x7.2.1.2, .slice x7.2.2.1.1 r12.2.2.2.1.length x7.2.2.1.2, .slice x7.2.2.2.1.1 r12.2.2.2.2.1.length x7.2.2.2.1.2, .int .i64 (r5.2.2.2.2)], .int .i64 (1)]) (c_laws_heldWorld (r12.2.1, (r12.2.2.1, r12.2.2.2.1, r12.2.2.2.2.1, r5.2.2.2.2)) (x7.1, (x7.2.1, x7.2.2.1, x7.2.2.2.1, ())) 1 h16) rfl (EntsB.cons (EntB.tree Has.here.there.there.there.there.there.there.there.there) (EntsB.cons (EntB.tree Has.here.there.there.there.there.there.there.there.there.there) (EntsB.cons (EntB.tree Has.here.there.there.there.there.there.there.there.there.there.there) (EntsB.cons (EntB.tree Has.here.there.there.there.there.there.there.there.there.there.there.there) (EntsB.cons (EntB.tree Has.here.there.there.there.there.there.there.there.there.there.there.there.there) (EntsB.cons (EntB.tree Has.here.there.there.there.there.there.there.there.there.there.there.there.there.there) (EntsB.cons (EntB.tree Has.here.there.there.there.there.there.there.there.there.there.there.there.there.there.there) EntsB.nil)))))))) (by decide) ?_
     refine Rg.q (v := .int .i64 (r15)) (Pu.qo (p_assign rfl)) (by decide) ?_
     refine Rg.nl (nT ?_)
     refine Tr.seq (Tr.seq (Tr.region ?_))
     refine Rg.q (v := .int .i64 (r15)) (Pu.qo (p_move rfl)) (by decide) ?_
     refine Rg.q (v := .bool (decide (r15 < 0))) (Pu.qo (p_lss rfl rfl)) (by decide) ?_
     refine Rg.nl (nT ?_)
     refine Tr.cond (b := decide (r15 < 0)) rfl (fun h22 => ?_) (fun h22 => ?_)
     ·have H := cdT h22 H
      refine Tr.seq (Tr.region ?_)
      refine Rg.q (v := .bool (false)) (Pu.qo (p_assign rfl)) (by decide) ?_
      refine Rg.nl (nT ?_)
      refine tRet ?_
      refine rT (?_)
      have hr := Option.some.inj H; subst hr
      exact back1 () rfl (ResV.tmp (v := .bool (false)) rfl) rfl Ents.nil Take.nil
     ·have H := cdF h22 H
      refine tSkip ?_
      refine nT (?_)
      refine Tr.seq (Tr.seq (Tr.region ?_))
      refine Rg.q (v := .int .i64 (r15)) (Pu.qo (p_move rfl)) (by decide) ?_
      refine Rg.q (v := .int .i64 (r12.1)) (Pu.qo (p_move rfl)) (by decide) ?_
      refine Rg.q (v := .bool (!decide (r15 = r12.1))) (Pu.qo (p_neq rfl rfl)) (by decide) ?_
      refine Rg.nl (nT ?_)
      refine Tr.cond (b := !decide (r15 = r12.1)) rfl (fun h23 => ?_) (fun h23 => ?_)
      ·have H := cdT h23 H
       refine Tr.seq (Tr.region ?_)
       refine Rg.q (v := .bool (false)) (Pu.qo (p_assign rfl)) (by decide) ?_
       refine Rg.nl (nT ?_)
       refine tRet ?_
       refine rT (?_)
       have hr := Option.some.inj H; subst hr
       exact back1 () rfl (ResV.tmp (v := .bool (false)) rfl) rfl Ents.nil Take.nil
      ·have H := cdF h23 H
       refine tSkip ?_
       refine nT (?_)
       refine Tr.seq (Tr.region ?_)
       refine Rg.q (v := .bool (true)) (Pu.qo (p_assign rfl)) (by decide) ?_
       refine Rg.nl (nT ?_)
       refine tRet ?_
       have hr := Option.some.inj H; subst hr
       exact back1 () rfl (ResV.tmp (v := .bool (true)) rfl) rfl Ents.nil Take.nil
theorem mt_total (k : Int) (h0 : 0 ≤ k) (hk : k ≤ 1152921504606846976) : ∃ t, p_laws_markText k = some t := by
  unfold p_laws_markText
  by_cases hz : k ≤ 0
  · simp [hz]
  · simp only [hz, decide_false, cond_false]
    obtain ⟨e, he, hs⟩ := lp.rule (body := p_laws_markText_b0) (fun σ => 0 ≤ σ.1 ∧ ∃ j, j ≤ 61 ∧ σ.2.size + j ≤ 61 ∧ σ.1 < (2 : Int) ^ j) (fun σ => σ.1.toNat) (fun e => e.size ≤ 61) (fun σ hI => by
      obtain ⟨i0, j, j1, j2, j3⟩ := hI
      unfold p_laws_markText_b0
      by_cases hp : 0 < σ.1
      · left
        have hj : 0 < j := by
          rcases Nat.eq_zero_or_pos j with rfl | h
          · simp at j3; omega
          · exact h
        have hpow : (2 : Int) ^ j = 2 * 2 ^ (j - 1) := by
          rw [show j = (j - 1) + 1 by omega, Int.pow_succ]; simp; omega
        have hbig : (2 : Int) ^ j ≤ 2 ^ 61 := by
          have : (2 : Nat) ^ j ≤ 2 ^ 61 := Nat.pow_le_pow_right (by decide) j1
          have h2 : ((2 ^ j : Nat) : Int) ≤ ((2 ^ 61 : Nat) : Int) := by omega
          simpa using h2
        have hm : 0 ≤ σ.1.tmod 10 ∧ σ.1.tmod 10 < 10 := by
          rw [Int.tmod_eq_emod_of_nonneg i0]; omega
        have hd : σ.1.tdiv 10 = σ.1 / 10 := Int.tdiv_eq_ediv_of_nonneg i0
        have g1 : I64 (σ.1.tmod 10) := by unfold I64; omega
        have g2 : I64 (48 + σ.1.tmod 10) := by unfold I64; omega
        have g3 : I64 (σ.1.tdiv 10) := by rw [hd]; unfold I64; omega
        have g4 : room ((s2 [b8 (48 + σ.1.tmod 10)]).size + σ.2.size) := by
          have : (s2 [b8 (48 + σ.1.tmod 10)]).size = 1 := rfl
          unfold room; omega
        refine ⟨(σ.1.tdiv 10, s2 [b8 (48 + σ.1.tmod 10)] ++ σ.2), by simp only [hp, decide_true, cond_true, gd.yes g1, gd.yes g2, gd.yes g3, gd.yes g4], ⟨by rw [hd]; show 0 ≤ σ.1 / 10; omega, j - 1, by omega, ?_, ?_⟩, ?_⟩
        · have : (s2 [b8 (48 + σ.1.tmod 10)] ++ σ.2).size = 1 + σ.2.size := by rw [ByteArray.size_append]; rfl
          show (s2 [b8 (48 + σ.1.tmod 10)] ++ σ.2).size + (j - 1) ≤ 61
          omega
        · show σ.1.tdiv 10 < _
          rw [hd]; omega
        · show (σ.1.tdiv 10).toNat < σ.1.toNat
          rw [hd]; omega
      · right
        exact ⟨σ.2, by simp [hp], by omega⟩) (s := (k, (⟨#[]⟩ : ByteArray))) ⟨h0, 61, Nat.le_refl _, Nat.le_refl _, by show k < _; omega⟩
    rw [he, bd_some]
    have : room ((⟨#[109]⟩ : ByteArray).size + e.size) := by
      have h1 : (⟨#[109]⟩ : ByteArray).size = 1 := rfl
      unfold room; omega
    rw [gd.yes this]
    exact ⟨_, rfl⟩
theorem q_Tag (a b : Tag) (_ : Dp.ok a) (hb : Dp.ok b) : p_laws_eqTag a b = some (decide (a = b)) := by
  have he : a = b ↔ a.1 = b.1 ∧ a.2 = b.2 := by
    constructor
    · rintro rfl; simp
    · rintro ⟨h0, h1⟩; exact Prod.ext h0 (h1)
  unfold p_laws_eqTag
  simp only [he]
  by_cases h0 : a.1 = b.1
  · by_cases h1 : a.2 = b.2
    · simp [h0, h1]
    · simp [h0, h1]
  · simp [h0]
theorem q_TagS (a b : (List Tag)) (ha : Dp.ok a) (hb : Dp.ok b) : p_laws_eqTagS a b = some (decide (a = b)) := by
  have hm : a.length ≤ 9223372036854775807 := ha.1
  unfold p_laws_eqTagS
  by_cases hl : a.length = b.length
  · have hl2 : (a.length : Int) = (b.length : Int) := by omega
    simp only [hl2, decide_true, Bool.not_true, cond_false]
    refine eq_loop hl (fun k hk => ?_) ?_
    · have hk2 : k < b.length := by omega
      unfold p_laws_eqTagS_b0
      simp only [dlt hk, cond_true, gd.yes (ixN hk), gd.yes (ixN hk2), Int.toNat_natCast, q_Tag (nth a k) (nth b k) (ha.2 k hk) (hb.2 k hk2), bd_some, gd.yes (i64S hk hm)]
      by_cases h : nth a k = nth b k <;> simp [h]
    · unfold p_laws_eqTagS_b0; simp
  · have h2 : ¬ (a.length : Int) = (b.length : Int) := by omega
    have h3 : a ≠ b := fun e => hl (by rw [e])
    simp [h2, h3]
theorem q_TagSS (a b : (List (List Tag))) (ha : Dp.ok a) (hb : Dp.ok b) : p_laws_eqTagSS a b = some (decide (a = b)) := by
  have hm : a.length ≤ 9223372036854775807 := ha.1
  unfold p_laws_eqTagSS
  by_cases hl : a.length = b.length
  · have hl2 : (a.length : Int) = (b.length : Int) := by omega
    simp only [hl2, decide_true, Bool.not_true, cond_false]
    refine eq_loop hl (fun k hk => ?_) ?_
    · have hk2 : k < b.length := by omega
      unfold p_laws_eqTagSS_b0
      simp only [dlt hk, cond_true, gd.yes (ixN hk), gd.yes (ixN hk2), Int.toNat_natCast, q_TagS (nth a k) (nth b k) (ha.2 k hk) (hb.2 k hk2), bd_some, gd.yes (i64S hk hm)]
      by_cases h : nth a k = nth b k <;> simp [h]
    · unfold p_laws_eqTagSS_b0; simp
  · have h2 : ¬ (a.length : Int) = (b.length : Int) := by omega
    have h3 : a ≠ b := fun e => hl (by rw [e])
    simp [h2, h3]
theorem q_IntS (a b : (List Int)) (ha : Dp.ok a) (_ : Dp.ok b) : p_laws_eqIntS a b = some (decide (a = b)) := by
  have hm : a.length ≤ 9223372036854775807 := ha.1
  unfold p_laws_eqIntS
  by_cases hl : a.length = b.length
  · have hl2 : (a.length : Int) = (b.length : Int) := by omega
    simp only [hl2, decide_true, Bool.not_true, cond_false]
    refine eq_loop hl (fun k hk => ?_) ?_
    · have hk2 : k < b.length := by omega
      unfold p_laws_eqIntS_b0
      simp only [dlt hk, cond_true, gd.yes (ixN hk), gd.yes (ixN hk2), Int.toNat_natCast, gd.yes (i64S hk hm)]
      by_cases h : nth a k = nth b k <;> simp [h]
    · unfold p_laws_eqIntS_b0; simp
  · have h2 : ¬ (a.length : Int) = (b.length : Int) := by omega
    have h3 : a ≠ b := fun e => hl (by rw [e])
    simp [h2, h3]
theorem q_Post (a b : Post) (ha : Dp.ok a) (hb : Dp.ok b) : p_laws_eqPost a b = some (decide (a = b)) := by
  have he : a = b ↔ a.1 = b.1 ∧ a.2 = b.2 := by
    constructor
    · rintro rfl; simp
    · rintro ⟨h0, h1⟩; exact Prod.ext h0 (h1)
  unfold p_laws_eqPost
  simp only [q_Tag a.1 b.1 ha.1 hb.1, q_IntS a.2 b.2 ha.2 hb.2, bd_some, he]
  by_cases h0 : a.1 = b.1
  · by_cases h1 : a.2 = b.2
    · simp [h0, h1]
    · simp [h0, h1]
  · simp [h0]
theorem q_PostS (a b : (List Post)) (ha : Dp.ok a) (hb : Dp.ok b) : p_laws_eqPostS a b = some (decide (a = b)) := by
  have hm : a.length ≤ 9223372036854775807 := ha.1
  unfold p_laws_eqPostS
  by_cases hl : a.length = b.length
  · have hl2 : (a.length : Int) = (b.length : Int) := by omega
    simp only [hl2, decide_true, Bool.not_true, cond_false]
    refine eq_loop hl (fun k hk => ?_) ?_
    · have hk2 : k < b.length := by omega
      unfold p_laws_eqPostS_b0
      simp only [dlt hk, cond_true, gd.yes (ixN hk), gd.yes (ixN hk2), Int.toNat_natCast, q_Post (nth a k) (nth b k) (ha.2 k hk) (hb.2 k hk2), bd_some, gd.yes (i64S hk hm)]
      by_cases h : nth a k = nth b k <;> simp [h]
    · unfold p_laws_eqPostS_b0; simp
  · have h2 : ¬ (a.length : Int) = (b.length : Int) := by omega
    have h3 : a ≠ b := fun e => hl (by rw [e])
    simp [h2, h3]
theorem q_Index (a b : Index) (ha : Dp.ok a) (hb : Dp.ok b) : p_laws_eqIndex a b = some (decide (a = b)) := by
  have he : a = b ↔ a.1 = b.1 ∧ a.2 = b.2 := by
    constructor
    · rintro rfl; simp
    · rintro ⟨h0, h1⟩; exact Prod.ext h0 (h1)
  unfold p_laws_eqIndex
  simp only [q_TagSS a.1 b.1 ha.1 hb.1, q_PostS a.2 b.2 ha.2 hb.2, bd_some, he]
  by_cases h0 : a.1 = b.1
  · by_cases h1 : a.2 = b.2
    · simp [h0, h1]
    · simp [h0, h1]
  · simp [h0]
theorem m_TagS (a : (List Tag)) (k : Int) (h0 : 0 ≤ k) (hB : k + (Ct.ct a : Nat) ≤ 1152921504606846976) (ok : Dp.ok a) : MkR p_laws_markTagS p_laws_heldTagS a k := by
  have hm : a.length ≤ 9223372036854775807 := ok.1
  obtain ⟨k1, r, e1, e2, e3, e4, e5⟩ := mark_loop (l := a) (B := 1152921504606846976) (bm := p_laws_markTagS_b0 a) (bh := fun r => p_laws_heldTagS_b0 r) (fun i hi r hr hn k h0 hB => by
    have hi2 : i < r.length := by omega
    have hc : Ct.ct (nth a i) = 1 + (1) := rfl
    obtain ⟨t0, ht0⟩ := mt_total (k) (by omega) (by omega)
    have g1 : I64 (k + 1) := i64B (by omega) (by omega)
    obtain ⟨t1, ht1⟩ := mt_total (k + 1) (by omega) (by omega)
    have g2 : I64 ((k + 1) + 1) := i64B (by omega) (by omega)
    refine ⟨(t0, t1), (k + 1) + 1, ?_, by omega, by omega, fun r' hr' hu => ?_⟩
    · unfold p_laws_markTagS_b0
      simp only [dlt hi, cond_true, Int.toNat_natCast, gd.yes (ixN hi2), ht0, gd.yes g1, ht1, gd.yes g2, bd_some, gd.yes (i64S hi hm)]
      first | done | rfl
    · have hi3 : i < r'.length := by omega
      unfold p_laws_heldTagS_b0
      simp [hi3, gd.yes (ixN hi3), hu, ht0, gd.yes g1, ht1, gd.yes g2, gd.yes (i64S hi hm)])
    (fun r k hr => by unfold p_laws_markTagS_b0; simp) (fun r k hr => by unfold p_laws_heldTagS_b0; simp [hr]) h0 hB
  refine ⟨k1, r, ?_, e3, e4, ?_⟩
  · unfold p_laws_markTagS; rw [e1]; rfl
  · unfold p_laws_heldTagS; rw [e5]; rfl
theorem m_TagSS (a : (List (List Tag))) (k : Int) (h0 : 0 ≤ k) (hB : k + (Ct.ct a : Nat) ≤ 1152921504606846976) (ok : Dp.ok a) : MkR p_laws_markTagSS p_laws_heldTagSS a k := by
  have hm : a.length ≤ 9223372036854775807 := ok.1
  obtain ⟨k1, r, e1, e2, e3, e4, e5⟩ := mark_loop (l := a) (B := 1152921504606846976) (bm := p_laws_markTagSS_b0 a) (bh := fun r => p_laws_heldTagSS_b0 r) (fun i hi r hr hn k h0 hB => by
    have hi2 : i < r.length := by omega
    have hc : Ct.ct (nth a i) = Ct.ct (nth a i) := rfl
    obtain ⟨c1, s1, x1, y1, z1, w1⟩ := m_TagS (nth a i) (k) (by omega) (by omega) (ok.2 i hi)
    have q1 : ¬ c1 < 0 := by omega
    refine ⟨s1, c1, ?_, by omega, by omega, fun r' hr' hu => ?_⟩
    · unfold p_laws_markTagSS_b0
      simp only [dlt hi, cond_true, Int.toNat_natCast, gd.yes (ixN hi2), hn, x1, bd_some, gd.yes (i64S hi hm)]
      first | done | rfl
    · have hi3 : i < r'.length := by omega
      unfold p_laws_heldTagSS_b0
      simp [hi3, gd.yes (ixN hi3), hu, w1, q1, gd.yes (i64S hi hm)])
    (fun r k hr => by unfold p_laws_markTagSS_b0; simp) (fun r k hr => by unfold p_laws_heldTagSS_b0; simp [hr]) h0 hB
  refine ⟨k1, r, ?_, e3, e4, ?_⟩
  · unfold p_laws_markTagSS; rw [e1]; rfl
  · unfold p_laws_heldTagSS; rw [e5]; rfl
theorem m_IntS (a : (List Int)) (k : Int) (h0 : 0 ≤ k) (hB : k + (Ct.ct a : Nat) ≤ 1152921504606846976) (ok : Dp.ok a) : MkR p_laws_markIntS p_laws_heldIntS a k := by
  have hm : a.length ≤ 9223372036854775807 := ok.1
  obtain ⟨k1, r, e1, e2, e3, e4, e5⟩ := mark_loop (l := a) (B := 1152921504606846976) (bm := p_laws_markIntS_b0 a) (bh := fun r => p_laws_heldIntS_b0 r) (fun i hi r hr hn k h0 hB => by
    have hi2 : i < r.length := by omega
    have hc : Ct.ct (nth a i) = 1 := rfl
    have g1 : I64 (k + 1) := i64B (by omega) (by omega)
    refine ⟨k, k + 1, ?_, by omega, by omega, fun r' hr' hu => ?_⟩
    · unfold p_laws_markIntS_b0
      simp only [dlt hi, cond_true, Int.toNat_natCast, gd.yes (ixN hi2), gd.yes g1, gd.yes (i64S hi hm)]
      first | done | rfl
    · have hi3 : i < r'.length := by omega
      unfold p_laws_heldIntS_b0
      simp [hi3, gd.yes (ixN hi3), hu, gd.yes g1, gd.yes (i64S hi hm)])
    (fun r k hr => by unfold p_laws_markIntS_b0; simp) (fun r k hr => by unfold p_laws_heldIntS_b0; simp [hr]) h0 hB
  refine ⟨k1, r, ?_, e3, e4, ?_⟩
  · unfold p_laws_markIntS; rw [e1]; rfl
  · unfold p_laws_heldIntS; rw [e5]; rfl
theorem m_PostS (a : (List Post)) (k : Int) (h0 : 0 ≤ k) (hB : k + (Ct.ct a : Nat) ≤ 1152921504606846976) (ok : Dp.ok a) : MkR p_laws_markPostS p_laws_heldPostS a k := by
  have hm : a.length ≤ 9223372036854775807 := ok.1
  obtain ⟨k1, r, e1, e2, e3, e4, e5⟩ := mark_loop (l := a) (B := 1152921504606846976) (bm := p_laws_markPostS_b0 a) (bh := fun r => p_laws_heldPostS_b0 r) (fun i hi r hr hn k h0 hB => by
    have hi2 : i < r.length := by omega
    have hc : Ct.ct (nth a i) = (1 + (1)) + (Ct.ct ((nth a i).2)) := rfl
    obtain ⟨t0, ht0⟩ := mt_total (k) (by omega) (by omega)
    have g1 : I64 (k + 1) := i64B (by omega) (by omega)
    obtain ⟨t1, ht1⟩ := mt_total (k + 1) (by omega) (by omega)
    have g2 : I64 ((k + 1) + 1) := i64B (by omega) (by omega)
    obtain ⟨c1, s1, x1, y1, z1, w1⟩ := m_IntS ((nth a i).2) ((k + 1) + 1) (by omega) (by omega) (ok.2 i hi).2
    have q1 : ¬ c1 < 0 := by omega
    refine ⟨((t0, t1), s1), c1, ?_, by omega, by omega, fun r' hr' hu => ?_⟩
    · unfold p_laws_markPostS_b0
      simp only [dlt hi, cond_true, Int.toNat_natCast, gd.yes (ixN hi2), hn, ht0, gd.yes g1, ht1, gd.yes g2, x1, bd_some, gd.yes (i64S hi hm)]
      first | done | rfl
    · have hi3 : i < r'.length := by omega
      unfold p_laws_heldPostS_b0
      simp [hi3, gd.yes (ixN hi3), hu, ht0, gd.yes g1, ht1, gd.yes g2, w1, q1, gd.yes (i64S hi hm)])
    (fun r k hr => by unfold p_laws_markPostS_b0; simp) (fun r k hr => by unfold p_laws_heldPostS_b0; simp [hr]) h0 hB
  refine ⟨k1, r, ?_, e3, e4, ?_⟩
  · unfold p_laws_markPostS; rw [e1]; rfl
  · unfold p_laws_heldPostS; rw [e5]; rfl
theorem m_Index (a : Index) (k : Int) (h0 : 0 ≤ k) (hB : k + (Ct.ct a : Nat) ≤ 1152921504606846976) (ok : Dp.ok a) : MkR p_laws_markIndex p_laws_heldIndex a k := by
  have hc : Ct.ct a = Ct.ct a.1 + (Ct.ct a.2) := rfl
  obtain ⟨k1, r1, e1, l1, u1, f1⟩ := m_TagSS a.1 k (by omega) (by omega) ok.1
  have q1 : ¬ k1 < 0 := by omega
  obtain ⟨k2, r2, e2, l2, u2, f2⟩ := m_PostS a.2 k1 (by omega) (by omega) ok.2
  have q2 : ¬ k2 < 0 := by omega
  refine ⟨k2, (r1, r2), ?_, by omega, by omega, ?_⟩
  · unfold p_laws_markIndex; simp only [e1, e2, bd_some]
  · unfold p_laws_heldIndex; simp [f1, q1, f2, q2]
theorem q_Row (a b : Row) (_ : Dp.ok a) (hb : Dp.ok b) : p_laws_eqRow a b = some (decide (a = b)) := by
  have he : a = b ↔ a.1 = b.1 ∧ a.2 = b.2 := by
    constructor
    · rintro rfl; simp
    · rintro ⟨h0, h1⟩; exact Prod.ext h0 (h1)
  unfold p_laws_eqRow
  simp only [he]
  by_cases h0 : a.1 = b.1
  · by_cases h1 : a.2 = b.2
    · simp [h0, h1]
    · simp [h0, h1]
  · simp [h0]
theorem q_RowS (a b : (List Row)) (ha : Dp.ok a) (hb : Dp.ok b) : p_laws_eqRowS a b = some (decide (a = b)) := by
  have hm : a.length ≤ 9223372036854775807 := ha.1
  unfold p_laws_eqRowS
  by_cases hl : a.length = b.length
  · have hl2 : (a.length : Int) = (b.length : Int) := by omega
    simp only [hl2, decide_true, Bool.not_true, cond_false]
    refine eq_loop hl (fun k hk => ?_) ?_
    · have hk2 : k < b.length := by omega
      unfold p_laws_eqRowS_b0
      simp only [dlt hk, cond_true, gd.yes (ixN hk), gd.yes (ixN hk2), Int.toNat_natCast, q_Row (nth a k) (nth b k) (ha.2 k hk) (hb.2 k hk2), bd_some, gd.yes (i64S hk hm)]
      by_cases h : nth a k = nth b k <;> simp [h]
    · unfold p_laws_eqRowS_b0; simp
  · have h2 : ¬ (a.length : Int) = (b.length : Int) := by omega
    have h3 : a ≠ b := fun e => hl (by rw [e])
    simp [h2, h3]
theorem q_RowSS (a b : (List (List Row))) (ha : Dp.ok a) (hb : Dp.ok b) : p_laws_eqRowSS a b = some (decide (a = b)) := by
  have hm : a.length ≤ 9223372036854775807 := ha.1
  unfold p_laws_eqRowSS
  by_cases hl : a.length = b.length
  · have hl2 : (a.length : Int) = (b.length : Int) := by omega
    simp only [hl2, decide_true, Bool.not_true, cond_false]
    refine eq_loop hl (fun k hk => ?_) ?_
    · have hk2 : k < b.length := by omega
      unfold p_laws_eqRowSS_b0
      simp only [dlt hk, cond_true, gd.yes (ixN hk), gd.yes (ixN hk2), Int.toNat_natCast, q_RowS (nth a k) (nth b k) (ha.2 k hk) (hb.2 k hk2), bd_some, gd.yes (i64S hk hm)]
      by_cases h : nth a k = nth b k <;> simp [h]
    · unfold p_laws_eqRowSS_b0; simp
  · have h2 : ¬ (a.length : Int) = (b.length : Int) := by omega
    have h3 : a ≠ b := fun e => hl (by rw [e])
    simp [h2, h3]
theorem q_Part (a b : Part) (ha : Dp.ok a) (hb : Dp.ok b) : p_laws_eqPart a b = some (decide (a = b)) := by
  have he : a = b ↔ a.1 = b.1 ∧ a.2 = b.2 := by
    constructor
    · rintro rfl; simp
    · rintro ⟨h0, h1⟩; exact Prod.ext h0 (h1)
  unfold p_laws_eqPart
  simp only [q_IntS a.1 b.1 ha.1 hb.1, q_RowSS a.2 b.2 ha.2 hb.2, bd_some, he]
  by_cases h0 : a.1 = b.1
  · by_cases h1 : a.2 = b.2
    · simp [h0, h1]
    · simp [h0, h1]
  · simp [h0]
theorem q_PartS (a b : (List Part)) (ha : Dp.ok a) (hb : Dp.ok b) : p_laws_eqPartS a b = some (decide (a = b)) := by
  have hm : a.length ≤ 9223372036854775807 := ha.1
  unfold p_laws_eqPartS
  by_cases hl : a.length = b.length
  · have hl2 : (a.length : Int) = (b.length : Int) := by omega
    simp only [hl2, decide_true, Bool.not_true, cond_false]
    refine eq_loop hl (fun k hk => ?_) ?_
    · have hk2 : k < b.length := by omega
      unfold p_laws_eqPartS_b0
      simp only [dlt hk, cond_true, gd.yes (ixN hk), gd.yes (ixN hk2), Int.toNat_natCast, q_Part (nth a k) (nth b k) (ha.2 k hk) (hb.2 k hk2), bd_some, gd.yes (i64S hk hm)]
      by_cases h : nth a k = nth b k <;> simp [h]
    · unfold p_laws_eqPartS_b0; simp
  · have h2 : ¬ (a.length : Int) = (b.length : Int) := by omega
    have h3 : a ≠ b := fun e => hl (by rw [e])
    simp [h2, h3]
theorem q_Sample (a b : Sample) (ha : Dp.ok a) (hb : Dp.ok b) : p_laws_eqSample a b = some (decide (a = b)) := by
  have he : a = b ↔ a.1 = b.1 ∧ a.2 = b.2 := by
    constructor
    · rintro rfl; simp
    · rintro ⟨h0, h1⟩; exact Prod.ext h0 (h1)
  unfold p_laws_eqSample
  simp only [q_Row a.2 b.2 ha.2 hb.2, bd_some, he]
  by_cases h0 : a.1 = b.1
  · by_cases h1 : a.2 = b.2
    · simp [h0, h1]
    · simp [h0, h1]
  · simp [h0]
theorem q_SampleS (a b : (List Sample)) (ha : Dp.ok a) (hb : Dp.ok b) : p_laws_eqSampleS a b = some (decide (a = b)) := by
  have hm : a.length ≤ 9223372036854775807 := ha.1
  unfold p_laws_eqSampleS
  by_cases hl : a.length = b.length
  · have hl2 : (a.length : Int) = (b.length : Int) := by omega
    simp only [hl2, decide_true, Bool.not_true, cond_false]
    refine eq_loop hl (fun k hk => ?_) ?_
    · have hk2 : k < b.length := by omega
      unfold p_laws_eqSampleS_b0
      simp only [dlt hk, cond_true, gd.yes (ixN hk), gd.yes (ixN hk2), Int.toNat_natCast, q_Sample (nth a k) (nth b k) (ha.2 k hk) (hb.2 k hk2), bd_some, gd.yes (i64S hk hm)]
      by_cases h : nth a k = nth b k <;> simp [h]
    · unfold p_laws_eqSampleS_b0; simp
  · have h2 : ¬ (a.length : Int) = (b.length : Int) := by omega
    have h3 : a ≠ b := fun e => hl (by rw [e])
    simp [h2, h3]
theorem q_Store (a b : Store) (ha : Dp.ok a) (hb : Dp.ok b) : p_laws_eqStore a b = some (decide (a = b)) := by
  have he : a = b ↔ a.1 = b.1 ∧ a.2.1 = b.2.1 ∧ a.2.2 = b.2.2 := by
    constructor
    · rintro rfl; simp
    · rintro ⟨h0, h1, h2⟩; exact Prod.ext h0 (Prod.ext h1 (h2))
  unfold p_laws_eqStore
  simp only [q_Index a.1 b.1 ha.1 hb.1, q_PartS a.2.1 b.2.1 ha.2.1 hb.2.1, q_SampleS a.2.2 b.2.2 ha.2.2 hb.2.2, bd_some, he]
  by_cases h0 : a.1 = b.1
  · by_cases h1 : a.2.1 = b.2.1
    · by_cases h2 : a.2.2 = b.2.2
      · simp [h0, h1, h2]
      · simp [h0, h1, h2]
    · simp [h0, h1]
  · simp [h0]
theorem q_File (a b : File) (ha : Dp.ok a) (hb : Dp.ok b) : p_laws_eqFile a b = some (decide (a = b)) := by
  have he : a = b ↔ a.1 = b.1 ∧ a.2 = b.2 := by
    constructor
    · rintro rfl; simp
    · rintro ⟨h0, h1⟩; exact Prod.ext h0 (h1)
  unfold p_laws_eqFile
  simp only [q_Part a.2 b.2 ha.2 hb.2, bd_some, he]
  by_cases h0 : a.1 = b.1
  · by_cases h1 : a.2 = b.2
    · simp [h0, h1]
    · simp [h0, h1]
  · simp [h0]
theorem q_FileS (a b : (List File)) (ha : Dp.ok a) (hb : Dp.ok b) : p_laws_eqFileS a b = some (decide (a = b)) := by
  have hm : a.length ≤ 9223372036854775807 := ha.1
  unfold p_laws_eqFileS
  by_cases hl : a.length = b.length
  · have hl2 : (a.length : Int) = (b.length : Int) := by omega
    simp only [hl2, decide_true, Bool.not_true, cond_false]
    refine eq_loop hl (fun k hk => ?_) ?_
    · have hk2 : k < b.length := by omega
      unfold p_laws_eqFileS_b0
      simp only [dlt hk, cond_true, gd.yes (ixN hk), gd.yes (ixN hk2), Int.toNat_natCast, q_File (nth a k) (nth b k) (ha.2 k hk) (hb.2 k hk2), bd_some, gd.yes (i64S hk hm)]
      by_cases h : nth a k = nth b k <;> simp [h]
    · unfold p_laws_eqFileS_b0; simp
  · have h2 : ¬ (a.length : Int) = (b.length : Int) := by omega
    have h3 : a ≠ b := fun e => hl (by rw [e])
    simp [h2, h3]
theorem q_Disk (a b : Disk) (ha : Dp.ok a) (hb : Dp.ok b) : p_laws_eqDisk a b = some (decide (a = b)) := by
  have he : a = b ↔ a.1 = b.1 ∧ a.2.1 = b.2.1 ∧ a.2.2.1 = b.2.2.1 ∧ a.2.2.2 = b.2.2.2 := by
    constructor
    · rintro rfl; simp
    · rintro ⟨h0, h1, h2, h3⟩; exact Prod.ext h0 (Prod.ext h1 (Prod.ext h2 (h3)))
  unfold p_laws_eqDisk
  simp only [q_FileS a.1 b.1 ha.1 hb.1, q_IntS a.2.1 b.2.1 ha.2.1 hb.2.1, q_TagSS a.2.2.1 b.2.2.1 ha.2.2.1 hb.2.2.1, bd_some, he]
  by_cases h0 : a.1 = b.1
  · by_cases h1 : a.2.1 = b.2.1
    · by_cases h2 : a.2.2.1 = b.2.2.1
      · by_cases h3 : a.2.2.2 = b.2.2.2
        · simp [h0, h1, h2, h3]
        · simp [h0, h1, h2, h3]
      · simp [h0, h1, h2]
    · simp [h0, h1]
  · simp [h0]
theorem q_World (a b : World) (ha : Dp.ok a) (hb : Dp.ok b) : p_laws_eqWorld a b = some (decide (a = b)) := by
  have he : a = b ↔ a.1 = b.1 ∧ a.2 = b.2 := by
    constructor
    · rintro rfl; simp
    · rintro ⟨h0, h1⟩; exact Prod.ext h0 (h1)
  unfold p_laws_eqWorld
  simp only [q_Store a.1 b.1 ha.1 hb.1, q_Disk a.2 b.2 ha.2 hb.2, bd_some, he]
  by_cases h0 : a.1 = b.1
  · by_cases h1 : a.2 = b.2
    · simp [h0, h1]
    · simp [h0, h1]
  · simp [h0]
theorem m_RowS (a : (List Row)) (k : Int) (h0 : 0 ≤ k) (hB : k + (Ct.ct a : Nat) ≤ 1152921504606846976) (ok : Dp.ok a) : MkR p_laws_markRowS p_laws_heldRowS a k := by
  have hm : a.length ≤ 9223372036854775807 := ok.1
  obtain ⟨k1, r, e1, e2, e3, e4, e5⟩ := mark_loop (l := a) (B := 1152921504606846976) (bm := p_laws_markRowS_b0 a) (bh := fun r => p_laws_heldRowS_b0 r) (fun i hi r hr hn k h0 hB => by
    have hi2 : i < r.length := by omega
    have hc : Ct.ct (nth a i) = 1 + (1) := rfl
    have g1 : I64 (k + 1) := i64B (by omega) (by omega)
    have g2 : I64 ((k + 1) + 1) := i64B (by omega) (by omega)
    refine ⟨(k, k + 1), (k + 1) + 1, ?_, by omega, by omega, fun r' hr' hu => ?_⟩
    · unfold p_laws_markRowS_b0
      simp only [dlt hi, cond_true, Int.toNat_natCast, gd.yes (ixN hi2), gd.yes g1, gd.yes g2, gd.yes (i64S hi hm)]
      first | done | rfl
    · have hi3 : i < r'.length := by omega
      unfold p_laws_heldRowS_b0
      simp [hi3, gd.yes (ixN hi3), hu, gd.yes g1, gd.yes g2, gd.yes (i64S hi hm)])
    (fun r k hr => by unfold p_laws_markRowS_b0; simp) (fun r k hr => by unfold p_laws_heldRowS_b0; simp [hr]) h0 hB
  refine ⟨k1, r, ?_, e3, e4, ?_⟩
  · unfold p_laws_markRowS; rw [e1]; rfl
  · unfold p_laws_heldRowS; rw [e5]; rfl
theorem m_RowSS (a : (List (List Row))) (k : Int) (h0 : 0 ≤ k) (hB : k + (Ct.ct a : Nat) ≤ 1152921504606846976) (ok : Dp.ok a) : MkR p_laws_markRowSS p_laws_heldRowSS a k := by
  have hm : a.length ≤ 9223372036854775807 := ok.1
  obtain ⟨k1, r, e1, e2, e3, e4, e5⟩ := mark_loop (l := a) (B := 1152921504606846976) (bm := p_laws_markRowSS_b0 a) (bh := fun r => p_laws_heldRowSS_b0 r) (fun i hi r hr hn k h0 hB => by
    have hi2 : i < r.length := by omega
    have hc : Ct.ct (nth a i) = Ct.ct (nth a i) := rfl
    obtain ⟨c1, s1, x1, y1, z1, w1⟩ := m_RowS (nth a i) (k) (by omega) (by omega) (ok.2 i hi)
    have q1 : ¬ c1 < 0 := by omega
    refine ⟨s1, c1, ?_, by omega, by omega, fun r' hr' hu => ?_⟩
    · unfold p_laws_markRowSS_b0
      simp only [dlt hi, cond_true, Int.toNat_natCast, gd.yes (ixN hi2), hn, x1, bd_some, gd.yes (i64S hi hm)]
      first | done | rfl
    · have hi3 : i < r'.length := by omega
      unfold p_laws_heldRowSS_b0
      simp [hi3, gd.yes (ixN hi3), hu, w1, q1, gd.yes (i64S hi hm)])
    (fun r k hr => by unfold p_laws_markRowSS_b0; simp) (fun r k hr => by unfold p_laws_heldRowSS_b0; simp [hr]) h0 hB
  refine ⟨k1, r, ?_, e3, e4, ?_⟩
  · unfold p_laws_markRowSS; rw [e1]; rfl
  · unfold p_laws_heldRowSS; rw [e5]; rfl
theorem m_PartS (a : (List Part)) (k : Int) (h0 : 0 ≤ k) (hB : k + (Ct.ct a : Nat) ≤ 1152921504606846976) (ok : Dp.ok a) : MkR p_laws_markPartS p_laws_heldPartS a k := by
  have hm : a.length ≤ 9223372036854775807 := ok.1
  obtain ⟨k1, r, e1, e2, e3, e4, e5⟩ := mark_loop (l := a) (B := 1152921504606846976) (bm := p_laws_markPartS_b0 a) (bh := fun r => p_laws_heldPartS_b0 r) (fun i hi r hr hn k h0 hB => by
    have hi2 : i < r.length := by omega
    have hc : Ct.ct (nth a i) = (Ct.ct ((nth a i).1)) + (Ct.ct ((nth a i).2)) := rfl
    obtain ⟨c1, s1, x1, y1, z1, w1⟩ := m_IntS ((nth a i).1) (k) (by omega) (by omega) (ok.2 i hi).1
    have q1 : ¬ c1 < 0 := by omega
    obtain ⟨c2, s2, x2, y2, z2, w2⟩ := m_RowSS ((nth a i).2) (c1) (by omega) (by omega) (ok.2 i hi).2
    have q2 : ¬ c2 < 0 := by omega
    refine ⟨(s1, s2), c2, ?_, by omega, by omega, fun r' hr' hu => ?_⟩
    · unfold p_laws_markPartS_b0
      simp only [dlt hi, cond_true, Int.toNat_natCast, gd.yes (ixN hi2), hn, x1, x2, bd_some, gd.yes (i64S hi hm)]
      first | done | rfl
    · have hi3 : i < r'.length := by omega
      unfold p_laws_heldPartS_b0
      simp [hi3, gd.yes (ixN hi3), hu, w1, q1, w2, q2, gd.yes (i64S hi hm)])
    (fun r k hr => by unfold p_laws_markPartS_b0; simp) (fun r k hr => by unfold p_laws_heldPartS_b0; simp [hr]) h0 hB
  refine ⟨k1, r, ?_, e3, e4, ?_⟩
  · unfold p_laws_markPartS; rw [e1]; rfl
  · unfold p_laws_heldPartS; rw [e5]; rfl
theorem m_SampleS (a : (List Sample)) (k : Int) (h0 : 0 ≤ k) (hB : k + (Ct.ct a : Nat) ≤ 1152921504606846976) (ok : Dp.ok a) : MkR p_laws_markSampleS p_laws_heldSampleS a k := by
  have hm : a.length ≤ 9223372036854775807 := ok.1
  obtain ⟨k1, r, e1, e2, e3, e4, e5⟩ := mark_loop (l := a) (B := 1152921504606846976) (bm := p_laws_markSampleS_b0 a) (bh := fun r => p_laws_heldSampleS_b0 r) (fun i hi r hr hn k h0 hB => by
    have hi2 : i < r.length := by omega
    have hc : Ct.ct (nth a i) = 1 + (1 + (1)) := rfl
    have g1 : I64 (k + 1) := i64B (by omega) (by omega)
    have g2 : I64 ((k + 1) + 1) := i64B (by omega) (by omega)
    have g3 : I64 (((k + 1) + 1) + 1) := i64B (by omega) (by omega)
    refine ⟨(k, (k + 1, (k + 1) + 1)), ((k + 1) + 1) + 1, ?_, by omega, by omega, fun r' hr' hu => ?_⟩
    · unfold p_laws_markSampleS_b0
      simp only [dlt hi, cond_true, Int.toNat_natCast, gd.yes (ixN hi2), gd.yes g1, gd.yes g2, gd.yes g3, gd.yes (i64S hi hm)]
      first | done | rfl
    · have hi3 : i < r'.length := by omega
      unfold p_laws_heldSampleS_b0
      simp [hi3, gd.yes (ixN hi3), hu, gd.yes g1, gd.yes g2, gd.yes g3, gd.yes (i64S hi hm)])
    (fun r k hr => by unfold p_laws_markSampleS_b0; simp) (fun r k hr => by unfold p_laws_heldSampleS_b0; simp [hr]) h0 hB
  refine ⟨k1, r, ?_, e3, e4, ?_⟩
  · unfold p_laws_markSampleS; rw [e1]; rfl
  · unfold p_laws_heldSampleS; rw [e5]; rfl
theorem m_Store (a : Store) (k : Int) (h0 : 0 ≤ k) (hB : k + (Ct.ct a : Nat) ≤ 1152921504606846976) (ok : Dp.ok a) : MkR p_laws_markStore p_laws_heldStore a k := by
  have hc : Ct.ct a = Ct.ct a.1 + (Ct.ct a.2.1 + (Ct.ct a.2.2)) := rfl
  obtain ⟨k1, r1, e1, l1, u1, f1⟩ := m_Index a.1 k (by omega) (by omega) ok.1
  have q1 : ¬ k1 < 0 := by omega
  obtain ⟨k2, r2, e2, l2, u2, f2⟩ := m_PartS a.2.1 k1 (by omega) (by omega) ok.2.1
  have q2 : ¬ k2 < 0 := by omega
  obtain ⟨k3, r3, e3, l3, u3, f3⟩ := m_SampleS a.2.2 k2 (by omega) (by omega) ok.2.2
  have q3 : ¬ k3 < 0 := by omega
  refine ⟨k3, (r1, r2, r3), ?_, by omega, by omega, ?_⟩
  · unfold p_laws_markStore; simp only [e1, e2, e3, bd_some]
  · unfold p_laws_heldStore; simp [f1, q1, f2, q2, f3, q3]
theorem m_FileS (a : (List File)) (k : Int) (h0 : 0 ≤ k) (hB : k + (Ct.ct a : Nat) ≤ 1152921504606846976) (ok : Dp.ok a) : MkR p_laws_markFileS p_laws_heldFileS a k := by
  have hm : a.length ≤ 9223372036854775807 := ok.1
  obtain ⟨k1, r, e1, e2, e3, e4, e5⟩ := mark_loop (l := a) (B := 1152921504606846976) (bm := p_laws_markFileS_b0 a) (bh := fun r => p_laws_heldFileS_b0 r) (fun i hi r hr hn k h0 hB => by
    have hi2 : i < r.length := by omega
    have hc : Ct.ct (nth a i) = 1 + ((Ct.ct (((nth a i).2).1)) + (Ct.ct (((nth a i).2).2))) := rfl
    have g1 : I64 (k + 1) := i64B (by omega) (by omega)
    obtain ⟨c1, s1, x1, y1, z1, w1⟩ := m_IntS (((nth a i).2).1) (k + 1) (by omega) (by omega) (ok.2 i hi).2.1
    have q1 : ¬ c1 < 0 := by omega
    obtain ⟨c2, s2, x2, y2, z2, w2⟩ := m_RowSS (((nth a i).2).2) (c1) (by omega) (by omega) (ok.2 i hi).2.2
    have q2 : ¬ c2 < 0 := by omega
    refine ⟨(k, (s1, s2)), c2, ?_, by omega, by omega, fun r' hr' hu => ?_⟩
    · unfold p_laws_markFileS_b0
      simp only [dlt hi, cond_true, Int.toNat_natCast, gd.yes (ixN hi2), hn, gd.yes g1, x1, x2, bd_some, gd.yes (i64S hi hm)]
      first | done | rfl
    · have hi3 : i < r'.length := by omega
      unfold p_laws_heldFileS_b0
      simp [hi3, gd.yes (ixN hi3), hu, gd.yes g1, w1, q1, w2, q2, gd.yes (i64S hi hm)])
    (fun r k hr => by unfold p_laws_markFileS_b0; simp) (fun r k hr => by unfold p_laws_heldFileS_b0; simp [hr]) h0 hB
  refine ⟨k1, r, ?_, e3, e4, ?_⟩
  · unfold p_laws_markFileS; rw [e1]; rfl
  · unfold p_laws_heldFileS; rw [e5]; rfl
theorem m_Disk (a : Disk) (k : Int) (h0 : 0 ≤ k) (hB : k + (Ct.ct a : Nat) ≤ 1152921504606846976) (ok : Dp.ok a) : MkR p_laws_markDisk p_laws_heldDisk a k := by
  have hc : Ct.ct a = Ct.ct a.1 + (Ct.ct a.2.1 + (Ct.ct a.2.2.1 + (1))) := rfl
  obtain ⟨k1, r1, e1, l1, u1, f1⟩ := m_FileS a.1 k (by omega) (by omega) ok.1
  have q1 : ¬ k1 < 0 := by omega
  obtain ⟨k2, r2, e2, l2, u2, f2⟩ := m_IntS a.2.1 k1 (by omega) (by omega) ok.2.1
  have q2 : ¬ k2 < 0 := by omega
  obtain ⟨k3, r3, e3, l3, u3, f3⟩ := m_TagSS a.2.2.1 k2 (by omega) (by omega) ok.2.2.1
  have q3 : ¬ k3 < 0 := by omega
  refine ⟨k3, (r1, r2, r3, a.2.2.2), ?_, by omega, by omega, ?_⟩
  · unfold p_laws_markDisk; simp only [e1, e2, e3, bd_some]
  · unfold p_laws_heldDisk; simp [f1, q1, f2, q2, f3, q3]
theorem m_World (a : World) (k : Int) (h0 : 0 ≤ k) (hB : k + (Ct.ct a : Nat) ≤ 1152921504606846976) (ok : Dp.ok a) : MkR p_laws_markWorld p_laws_heldWorld a k := by
  have hc : Ct.ct a = Ct.ct a.1 + (Ct.ct a.2) := rfl
  obtain ⟨k1, r1, e1, l1, u1, f1⟩ := m_Store a.1 k (by omega) (by omega) ok.1
  have q1 : ¬ k1 < 0 := by omega
  obtain ⟨k2, r2, e2, l2, u2, f2⟩ := m_Disk a.2 k1 (by omega) (by omega) ok.2
  have q2 : ¬ k2 < 0 := by omega
  have f2 : p_laws_heldDisk (r2.1, r2.2.1, r2.2.2.1, a.2.2.2.2) k1 = some k2 := by unfold p_laws_heldDisk at f2 ⊢; exact f2
  refine ⟨k2, (r1, (r2.1, r2.2.1, r2.2.2.1, a.2.2.2.2)), ?_, by omega, by omega, ?_⟩
  · unfold p_laws_markWorld; simp only [e1, e2, bd_some]
  · unfold p_laws_heldWorld; simp [f1, q1, f2, q2]
/-- a row laid in, as the reference does it: whatever the order -/
def l2 (r : Row) : Bool → List Row → List Row
  | put, [] => if put then [] else [r]
  | put, x :: t => (if !put && decide (r.1 ≤ x.1) then [r] else []) ++ ((if x.1 = r.1 then [] else [x]) ++ l2 r (put || decide (r.1 ≤ x.1)) t)
theorem nth_mem {α : Type} [Inhabited α] {l : List α} {k : Nat} (h : k < l.length) : nth l k ∈ l := by rw [nth_eq l k h]; exact List.getElem_mem h
/-- names copied, texts of names, the index of names -/
theorem e_impl_cloneNames (names : List (List Tag)) (h1 : names.length ≤ 4194304) (h2 : ∀ n ∈ names, n.length ≤ 4194304) : p_impl_cloneNames names = some names := by
  unfold p_impl_cloneNames
  rw [show (([] : List (List Tag)), (0 : Int)) = (names.take 0, ((0 : Nat) : Int)) from rfl, lp_for (fun k => (names.take k, (k : Int))) names.length names (fun k hk => by
    unfold p_impl_cloneNames_b0
    have hl := h2 _ (nth_mem hk)
    simp only [dlt hk, cond_true, gd.yes (ixN hk), Int.toNat_natCast, List.length_nil, List.nil_append, List.length_take]
    rw [gd.yes (by unfold room; omega), gd.yes (by unfold room; omega), gd.yes (by unfold I64; omega), take_succ_nth hk]
    rfl) (by unfold p_impl_cloneNames_b0; simp)]
  rfl
/-- a posting more -/
def addT : List Post → Tag → Int → List Post
  | [], t, i => [(t, [i])]
  | p :: P, t, i => if p.1 = t then (p.1, p.2 ++ [i]) :: P else p :: addT P t i
def addN (P : List Post) (n : List Tag) (i : Int) : List Post := n.foldl (fun P t => addT P t i) P
def postsF (names : List (List Tag)) : Nat → List Post
  | 0 => []
  | m + 1 => addN (postsF names m) (nth names m) ((m : Int) + 1)
def indexP (names : List (List Tag)) : Index := (names, (postsF names names.length).mergeSort leP)
theorem addT_old (P : List Post) (t : Tag) (i : Int) (h : t ∈ P.map (·.1)) : (addT P t i).map (·.1) = P.map (·.1) := by
  induction P with
  | nil => cases h
  | cons p P ih =>
    unfold addT
    by_cases e : p.1 = t
    · simp [e]
    · rw [if_neg e, List.map_cons, List.map_cons, ih]
      rcases List.mem_cons.1 h with h | h
      · exact absurd h.symm e
      · exact h
theorem addT_new (P : List Post) (t : Tag) (i : Int) (h : t ∉ P.map (·.1)) : (addT P t i).map (·.1) = P.map (·.1) ++ [t] := by
  induction P with
  | nil => rfl
  | cons p P ih =>
    unfold addT
    have e : p.1 ≠ t := fun e => h (by rw [List.map_cons, e]; exact List.mem_cons_self ..)
    rw [if_neg e, List.map_cons, List.map_cons, ih (fun q => h (by rw [List.map_cons]; exact List.mem_cons_of_mem _ q))]
    rfl
theorem addT_nodup {P : List Post} (h : (P.map (·.1)).Nodup) (t : Tag) (i : Int) : ((addT P t i).map (·.1)).Nodup := by
  by_cases hm : t ∈ P.map (·.1)
  · rw [addT_old P t i hm]; exact h
  · rw [addT_new P t i hm, List.nodup_append]
    exact ⟨h, by simp, fun a ha b hb => by simp at hb; subst hb; exact fun e => hm (e ▸ ha)⟩
theorem addN_cons (P : List Post) (t : Tag) (n : List Tag) (i : Int) : addN P (t :: n) i = addN (addT P t i) n i := rfl
theorem postsF_succ (names : List (List Tag)) (m : Nat) : postsF names (m + 1) = addN (postsF names m) (nth names m) ((m : Int) + 1) := rfl
theorem addN_nodup (n : List Tag) (i : Int) : ∀ {P : List Post}, (P.map (·.1)).Nodup → ((addN P n i).map (·.1)).Nodup := by
  unfold addN
  induction n with
  | nil => intro P h; exact h
  | cons t n ih => intro P h; exact ih (addT_nodup h t i)
theorem postsF_nodup (names : List (List Tag)) : ∀ m, ((postsF names m).map (·.1)).Nodup
  | 0 => by simp [postsF]
  | m + 1 => addN_nodup _ _ (postsF_nodup names m)
/-- no more than so many -/
def bnd (P : List Post) (c : Nat) : Prop := P.length ≤ c ∧ ∀ p ∈ P, p.2.length ≤ c
theorem bnd_addT {P : List Post} {c : Nat} (h : bnd P c) (t : Tag) (i : Int) : bnd (addT P t i) (c + 1) := by
  obtain ⟨h1, h2⟩ := h
  have len : (addT P t i).length ≤ P.length + 1 := by
    clear h1 h2
    induction P with
    | nil => simp [addT]
    | cons p P ih => unfold addT; split <;> simp <;> omega
  refine ⟨by omega, ?_⟩
  clear len h1
  induction P with
  | nil => intro p hp; simp [addT] at hp; subst hp; simp
  | cons q P ih =>
    intro p hp
    unfold addT at hp
    split at hp
    · rcases List.mem_cons.1 hp with rfl | hp
      · have := h2 q (List.mem_cons_self ..)
        simp; omega
      · have := h2 p (List.mem_cons_of_mem _ hp); omega
    · rcases List.mem_cons.1 hp with rfl | hp
      · have := h2 p (List.mem_cons_self ..); omega
      · exact ih (fun r hr => h2 r (List.mem_cons_of_mem _ hr)) p hp
theorem addT_none {P : List Post} {t : Tag} (i : Int) (h : ∀ k, k < P.length → (nth P k).1 ≠ t) : addT P t i = P ++ [(t, [i])] := by
  induction P with
  | nil => rfl
  | cons p P ih =>
    have h0 : p.1 ≠ t := h 0 (by simp)
    unfold addT
    rw [if_neg h0, ih (fun k hk => h (k + 1) (by simp; omega))]; rfl
theorem addT_some {P : List Post} {t : Tag} (i : Int) : ∀ {k : Nat}, k < P.length → (nth P k).1 = t → (∀ j, j < k → (nth P j).1 ≠ t) → addT P t i = P.set k ((nth P k).1, (nth P k).2 ++ [i]) := by
  induction P with
  | nil => intro k hk; simp at hk
  | cons p P ih =>
    intro k hk he hn
    cases k with
    | zero =>
      have he : p.1 = t := he
      unfold addT; rw [if_pos he]; rfl
    | succ k =>
      have h0 : p.1 ≠ t := hn 0 (by omega)
      unfold addT
      rw [if_neg h0, ih (k := k) (by simpa using hk) he (fun j hj => hn (j + 1) (by omega))]
      rfl
theorem e_IndexFunc1 (P : List Post) (t : Tag) (hP : P.length ≤ 4194304) : (∃ k : Nat, k < P.length ∧ (nth P k).1 = t ∧ (∀ j, j < k → (nth P j).1 ≠ t) ∧ p_slices_IndexFunc_Post_Post_indexOf_1 P t = some (k : Int)) ∨ ((∀ k, k < P.length → (nth P k).1 ≠ t) ∧ p_slices_IndexFunc_Post_Post_indexOf_1 P t = some (-1)) := by
  have hr : ∀ k, k < P.length → p_slices_IndexFunc_Post_Post_indexOf_1_b0 P t (k : Int) = some (if decide ((nth P k).1 = t) then .inr (.inr (k : Int)) else .inl ((k + 1 : Nat) : Int)) := fun k hk => by
    unfold p_slices_IndexFunc_Post_Post_indexOf_1_b0 p_impl_indexOf_1
    simp only [dlt hk, cond_true, gd.yes (ixN hk), Int.toNat_natCast, bd_some, gd.yes (i64S hk (by omega))]
    by_cases h : (nth P k).1 = t <;> simp [h]
  unfold p_slices_IndexFunc_Post_Post_indexOf_1
  rcases lp_scan (body := p_slices_IndexFunc_Post_Post_indexOf_1_b0 P t) (fun k => (k : Int)) P.length (fun k => decide ((nth P k).1 = t)) (.inl ()) (fun k => .inr (k : Int)) (fun k hk _ h => by simp [hr k hk, of_decide_eq_false h]) (fun k hk _ h => by rw [hr k hk, if_pos h]) (fun _ => by unfold p_slices_IndexFunc_Post_Post_indexOf_1_b0; simp) with ⟨h1, h2⟩ | ⟨h1, k, hk, hb, hn, h2⟩
  · exact .inr ⟨fun k hk => of_decide_eq_false (allN_iff.1 h1 k hk), by rw [show (lp (p_slices_IndexFunc_Post_Post_indexOf_1_b0 P t) 0) = _ from h2]; rfl⟩
  · exact .inl ⟨k, hk, of_decide_eq_true hb, fun j hj => of_decide_eq_false (hn j hj), by rw [show (lp (p_slices_IndexFunc_Post_Post_indexOf_1_b0 P t) 0) = _ from h2]; rfl⟩
/-- the tags of a name -/
theorem e_tags (names : List (List Tag)) (Q : List Post) (m : Nat) (hm : m < 4194304) (c : Nat) (n : List Tag) (hn : n = nth names m) (hc : c + n.length ≤ 4194304) : ∀ (r j : Nat) (P : List Post), j + r = n.length → bnd P (c + j) →
    lp (p_impl_indexOf_b1 names (Q, (m : Int))) (P, (j : Int)) = some (addN P (n.drop j) ((m : Int) + 1)) ∧ bnd (addN P (n.drop j) ((m : Int) + 1)) (c + n.length)
  | 0, j, P, hj, hb => by
    have : n.drop j = [] := List.drop_eq_nil_of_le (by omega)
    rw [this]
    refine ⟨lp.stop ?_, by rw [show c + n.length = c + j by omega]; exact hb⟩
    unfold p_impl_indexOf_b1
    simp only [Int.toNat_natCast, ← hn]
    rw [decide_eq_false (show ¬ ((j : Int) < (n.length : Int)) by omega)]; rfl
  | r + 1, j, P, hj, hb => by
    have hjn : j < n.length := by omega
    have hd : n.drop j = nth n j :: n.drop (j + 1) := by rw [nth_eq n j hjn]; exact List.drop_eq_getElem_cons hjn
    have hP1 := hb.1
    have step : p_impl_indexOf_b1 names (Q, (m : Int)) (P, (j : Int)) = some (.inl (addT P (nth n j) ((m : Int) + 1), ((j + 1 : Nat) : Int))) := by
      unfold p_impl_indexOf_b1
      simp only [Int.toNat_natCast, ← hn, dlt hjn, cond_true, gd.yes (ixN hjn)]
      rcases e_IndexFunc1 P (nth n j) (by omega) with ⟨k, hk, he, hno, hf⟩ | ⟨hno, hf⟩
      · have hl := hb.2 _ (nth_mem hk)
        rw [hf]
        simp only [bd_some]
        rw [decide_eq_false (show ¬ ((k : Int) < 0) by omega)]
        rw [cond_false, gd.yes (ixN hk)]
        simp only [Int.toNat_natCast]
        rw [gd.yes (by unfold I64; omega), gd.yes (by unfold room; omega), gd.yes (by unfold I64; omega), addT_some _ hk he hno]
        rfl
      · rw [hf]
        simp only [bd_some]
        rw [decide_eq_true (show ((-1 : Int) < 0) by omega)]
        have e1 : nth (P ++ [(nth n j, ([] : List Int))]) P.length = (nth n j, []) := nth_append_new
        simp only [cond_true, e1, List.nil_append, List.length_nil]
        rw [gd.yes (by unfold room; omega), gd.yes (by unfold ix; simp; omega), gd.yes (by unfold I64; omega), gd.yes (by unfold room; omega), gd.yes (by unfold I64; omega), addT_none _ hno]
        simp
    rw [lp.step step, hd, addN_cons]
    exact e_tags names Q m hm c n hn hc r (j + 1) _ (by omega) (by rw [← Nat.add_assoc]; exact bnd_addT hb _ _)
theorem e_posts (names : List (List Tag)) (hN : names.length ≤ 4194304) (hs : sumN names.length (fun i => (nth names i).length) ≤ 4194304) : ∀ m, m ≤ names.length → bnd (postsF names m) (sumN m fun i => (nth names i).length) ∧ lp (p_impl_indexOf_b0 names) (([] : List Post), (0 : Int)) = lp (p_impl_indexOf_b0 names) (postsF names m, (m : Int))
  | 0, _ => ⟨⟨by simp [postsF], fun p hp => by simp [postsF] at hp⟩, rfl⟩
  | m + 1, hm => by
    obtain ⟨b, e⟩ := e_posts names hN hs m (by omega)
    have hmn : m < names.length := by omega
    have hle : sumN m (fun i => (nth names i).length) + (nth names m).length ≤ sumN names.length (fun i => (nth names i).length) := sumN_lt hmn
    obtain ⟨t1, t2⟩ := e_tags names (postsF names m) m (by omega) _ (nth names m) rfl (by omega) (nth names m).length 0 (postsF names m) (by omega) b
    rw [List.drop_zero] at t1 t2
    refine ⟨t2, ?_⟩
    rw [e, lp.step (s' := (postsF names (m + 1), ((m + 1 : Nat) : Int)))]
    rw [postsF_succ]
    unfold p_impl_indexOf_b0
    rw [show ((0 : Nat) : Int) = 0 from rfl] at t1
    rw [dlt hmn, cond_true, gd.yes (ixN hmn), bd.yes t1]
    rw [gd.yes (by unfold I64; omega), addI]
theorem e_indexOf (names : List (List Tag)) (hN : names.length ≤ 4194304) (hs : sumN names.length (fun i => (nth names i).length) ≤ 4194304) : p_impl_indexOf names = some (indexP names) := by
  have hn : ∀ n ∈ names, n.length ≤ 4194304 := fun n h => by
    obtain ⟨i, hi, rfl⟩ := List.mem_iff_getElem.1 h
    have := sumN_get (f := fun i => (nth names i).length) hi
    simp only [nth_eq names i hi] at this
    omega
  obtain ⟨b, e⟩ := e_posts names hN hs names.length (Nat.le_refl _)
  unfold p_impl_indexOf
  rw [e_impl_cloneNames names hN hn]
  simp only [bd_some]
  rw [e, lp.stop (e := postsF names names.length) (by
    unfold p_impl_indexOf_b0
    rw [decide_eq_false (show ¬ ((names.length : Int) < (names.length : Int)) by omega)]; rfl)]
  simp only [bd_some]
  have hl := b.1
  unfold p_slices_SortFunc_Post_Post_indexOf_2 sortP
  rw [gd.yes (show room (postsF names names.length).length by unfold room; omega), gd.yes (postsF_nodup names _)]
  rfl
def newW : World := ((([], []), [], []), ([], [], [], 1))
theorem e_indexNil : p_impl_indexOf [] = some (([], []) : Index) := by
  rw [e_indexOf [] (Nat.zero_le _) (Nat.zero_le _)]
  have : indexP [] = (([], []) : Index) := by unfold indexP; show (([] : List (List Tag)), ([] : List Post).mergeSort leP) = _; rw [List.mergeSort_nil]
  rw [this]
theorem e_partsNil : p_impl_cloneParts [] = some [] := by
  unfold p_impl_cloneParts
  rw [lp.stop (show p_impl_cloneParts_b0 [] (([] : List Part), 0) = some (.inr []) by unfold p_impl_cloneParts_b0; rfl)]
  rfl
theorem e_impl_WorldNew : p_impl_WorldNew = some newW := by
  unfold p_impl_WorldNew p_impl_cloneStore
  rw [bd.yes (e_indexNil), bd.yes e_partsNil, gd.yes (by simp [room])]
  rfl
theorem e_spec_WorldNew : p_spec_WorldNew = some newW := by
  unfold p_spec_WorldNew p_spec_l13New
  rfl
theorem e_FnExactWorldNew : p_laws_FnExactWorldNew = some true := by
  unfold p_laws_FnExactWorldNew
  have ok : Dp.ok newW := ⟨⟨⟨⟨Nat.zero_le _, fun i hi => absurd hi (Nat.not_lt_zero _)⟩, Nat.zero_le _, fun i hi => absurd hi (Nat.not_lt_zero _)⟩, ⟨Nat.zero_le _, fun i hi => absurd hi (Nat.not_lt_zero _)⟩, Nat.zero_le _, fun i hi => absurd hi (Nat.not_lt_zero _)⟩, ⟨Nat.zero_le _, fun i hi => absurd hi (Nat.not_lt_zero _)⟩, ⟨Nat.zero_le _, fun i hi => absurd hi (Nat.not_lt_zero _)⟩, ⟨Nat.zero_le _, fun i hi => absurd hi (Nat.not_lt_zero _)⟩, trivial⟩
  have hb : (1 : Int) + (Ct.ct newW : Nat) ≤ 1152921504606846976 := by
    have : Ct.ct newW ≤ 100 := by decide
    omega
  obtain ⟨k, r, e, l, u, f⟩ := m_World newW 1 (by omega) hb ok
  have f : p_laws_heldWorld (r.1, (r.2.1, r.2.2.1, r.2.2.2.1, newW.2.2.2.2)) 1 = some k := by unfold p_laws_heldWorld p_laws_heldDisk at f ⊢; exact f
  have h : ¬ k < 0 := by omega
  rw [bd.yes e_spec_WorldNew, bd.yes e_impl_WorldNew, bd.yes (q_World newW newW ok ok), bd.yes e]
  simp only [decide_true, Bool.not_true, cond_false]
  rw [bd.yes f]
  simp [h]
end Go.Proofs.Ytichamokohjneaa
