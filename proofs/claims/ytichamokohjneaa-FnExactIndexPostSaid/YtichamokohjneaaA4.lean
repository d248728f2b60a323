/- The walks and the plain laws, part 4: each function that the law reaches computes what its plain function tells, and what the plain functions answer. Conditions: lengths that memory can hold. -/
import Derived.Test.YtichamokohjneaaA3
namespace Go.Proofs.Ytichamokohjneaa
open Go Go.Sx
theorem c_impl_indexOf {r : Index} (v0 : (List (List Tag))) (x_v0 : Option Addr × Nat) (H : p_impl_indexOf v0 = some r) : Fn' Try.prog 65 #[.slice x_v0.1 v0.length x_v0.2] [imm (.slice x_v0.1 v0.length x_v0.2) v0] [] (ι := (Option Addr × Nat) × (Option Addr × Nat)) (fun x => .agg #[.slice x.1.1 r.1.length x.1.2, .slice x.2.1 r.2.length x.2.2]) (fun _ => []) (fun x => [tree (.slice x.1.1 r.1.length x.1.2) r.1, tree (.slice x.2.1 r.2.length x.2.2) r.2]) := by
 refine calls_of (args := [_]) Try.func65 rfl (by kernel_rfl) Try.ntmps65 (by simp) fun c => ?_
 unfold p_impl_indexOf at H
 refine Tr.openD Ent.z fun X1 => ?_
 refine Tr.seq (Tr.region ?_)
 refine Rg.ed (e_alloc ty26) rfl (by decide) ?_
 rintro _ _ _ ⟨g2, rfl, rfl, rfl⟩
 refine Rg.nl (nT ?_)
 refine Tr.seq (Tr.region ?_)
 refine Rg.q (v := .slice x_v0.1 v0.length x_v0.2) (Pu.qo (p_move rfl)) (by decide) ?_
 obtain ⟨r3, h4, H⟩ := bd.of H
 refine Rg.ed (e_callB (vs := [.slice x_v0.1 v0.length x_v0.2]) (c_impl_cloneNames v0 x_v0 h4) (fun _ => (Solo.tree Solo.nil)) rfl (EntsB.cons (Ent.b (Ent.dimm Ent.z)) EntsB.nil)) rfl (by decide) ?_
 rintro _ _ _ ⟨x5, rfl, rfl, rfl⟩
 refine Rg.ed (e_lit0 Post Try.underlying24 ty33) rfl (by decide) ?_
 rintro _ _ _ ⟨a6, c7, rfl, rfl, rfl⟩
 refine Rg.q (v := .agg #[.slice x5.1 r3.length x5.2, .slice a6 (([] : List Post).length) c7]) (Pu.qo (p_buildS (vs := [(0, .slice x5.1 r3.length x5.2), (1, .slice a6 (([] : List Post).length) c7)]) (cs := #[.slice x5.1 r3.length x5.2, .slice a6 (([] : List Post).length) c7]) ty26 pl26 rfl rfl)) (by decide) ?_
 refine Rg.ed (e_alloc ty26) rfl (by decide) ?_
 rintro _ _ _ ⟨g8, rfl, rfl, rfl⟩
 refine Rg.en (e_store (v := .agg #[.slice x5.1 r3.length x5.2, .slice a6 (([] : List Post).length) c7]) (cs' := [.slice x5.1 r3.length x5.2, .slice a6 (([] : List Post).length) c7]) ty26 rfl rfl Upd.here rfl (by simp [Value.cells, Value.oneCell']) (Nat.le_of_ble_eq_true rfl) rfl) rfl ?_
 rintro _ _ _ ⟨rfl, rfl, rfl⟩
 refine Rg.nl (nT ?_)
 refine Tr.seq (Tr.seq (Tr.region ?_))
 refine Rg.q (v := .slice x_v0.1 v0.length x_v0.2) (Pu.qo (p_move rfl)) (by decide) ?_
 refine Rg.q (v := .int .i64 ((v0.length : Int))) (Pu.qo (p_len 38 Try.underlying23 rfl)) (by decide) ?_
 refine Rg.q (v := .int .i64 (0)) (Pu.qo (p_move rfl)) (by decide) ?_
 refine Rg.nl (nT ?_)
 obtain ⟨x9, hx10, H⟩ := bd.of H
 obtain ⟨n11, hx10⟩ := lp.of hx10
 refine tMidNC (ι := Option Addr × Nat) (fun ψ => [(2, .pointer (some ⟨g2, 0, none⟩)), (3, .pointer (some ⟨g8, 0, none⟩))]) (fun ψ => [box g2 26 [.slice none 0 0, .slice none 0 0], tree (.slice x5.1 r3.length x5.2) r3, tree (.slice ψ.1 x9.length ψ.2) x9, box g8 26 [.slice x5.1 r3.length x5.2, .slice ψ.1 x9.length ψ.2]]) ?_ ?_
 ·refine Tr.block ?_
  refine tLoopC (ι := { q : Nat × ((List Post) × Int) × (Option Addr × Nat) // itr (p_impl_indexOf_b0 v0) q.1 q.2.1 = some x9 }) (fun ζ => [(2, .pointer (some ⟨g2, 0, none⟩)), (3, .pointer (some ⟨g8, 0, none⟩)), (13, .slice x_v0.1 v0.length x_v0.2), (14, .int .i64 ((v0.length : Int))), (15, .int .i64 (ζ.1.2.1.2))]) (fun ζ => [box g2 26 [.slice none 0 0, .slice none 0 0], tree (.slice x5.1 r3.length x5.2) r3, tree (.slice ζ.1.2.2.1 ζ.1.2.1.1.length ζ.1.2.2.2) ζ.1.2.1.1, box g8 26 [.slice x5.1 r3.length x5.2, .slice ζ.1.2.2.1 ζ.1.2.1.1.length ζ.1.2.2.2]]) (fun ζ => ζ.1.1) ⟨(n11, (([] : List Post), 0), (a6, c7)), hx10⟩ ⟨rfl, rfl, rfl, rfl, rfl, trivial⟩ (.cons Del.here.there.there.there (.cons Del.here.there.there (.cons Del.here.there (.cons Del.here .nil)))) ?_
  rintro ⟨⟨m12, Q13, z14⟩, hk19⟩
  obtain ⟨m20, t16, e, H1, hi17, hb18⟩ := itr.of (n := m12) (s := Q13) hk19
  subst e; unfold p_impl_indexOf_b0 at H1
  show Tr _ _ _ _ _ [(2, .pointer (some ⟨g2, 0, none⟩)), (3, .pointer (some ⟨g8, 0, none⟩)), (13, .slice x_v0.1 v0.length x_v0.2), (14, .int .i64 ((v0.length : Int))), (15, .int .i64 (Q13.2))] _ [box g2 26 [.slice none 0 0, .slice none 0 0], tree (.slice x5.1 r3.length x5.2) r3, tree (.slice z14.1 Q13.1.length z14.2) Q13.1, box g8 26 [.slice x5.1 r3.length x5.2, .slice z14.1 Q13.1.length z14.2]]
  refine Tr.seq (Tr.region ?_)
  refine Rg.q (v := .bool (decide (Q13.2 < (v0.length : Int)))) (Pu.qo (p_lss rfl rfl)) (by decide) ?_
  refine Rg.nl (nT ?_)
  refine Tr.seq ?_
  refine Tr.cond (b := decide (Q13.2 < (v0.length : Int))) rfl (fun h21 => ?_) (fun h21 => ?_)
  ·have H1 := cdT h21 H1
   refine tSkip ?_
   refine nT (Tr.seq ?_)
   refine Tr.block ?_
   refine Tr.seq (Tr.region ?_)
   refine Rg.q (v := .int .i64 (Q13.2)) (Pu.qo (p_move rfl)) (by decide) ?_
   obtain ⟨h22, H1⟩ := gd.of H1
   refine Rg.q (v := elp x_v0.1 (Q13.2.toNat * Enc.sz (List Tag) + 0)) (q_ixg (l := v0) (E := fun i => Dp.denc (nth v0 i) (X1 i)) (oa := x_v0.1) Try.underlying23 ty38 rfl rfl h22 rfl (Ent.b (Ent.darr Ent.z))) (by decide) ?_
   refine Rg.q (v := .slice ((X1 Q13.2.toNat).1) ((nth v0 Q13.2.toNat).length) ((X1 Q13.2.toNat).2.1)) (q_lde (l := v0) (E := fun i => Dp.denc (nth v0 i) (X1 i)) (oa := x_v0.1) (i := Q13.2.toNat) (j := 0) ty38 rfl (Ent.b (Ent.darr Ent.z)) h22.lt rfl) (by decide) ?_
   refine Rg.q (v := .int .i64 (Q13.2)) (Pu.qo (p_assign rfl)) (by decide) ?_
   refine Rg.q (v := .slice ((X1 Q13.2.toNat).1) ((nth v0 Q13.2.toNat).length) ((X1 Q13.2.toNat).2.1)) (Pu.qo (p_assign rfl)) (by decide) ?_
   refine Rg.nl (nT ?_)
   refine Tr.seq (Tr.region ?_)
   refine Rg.q (v := .slice ((X1 Q13.2.toNat).1) ((nth v0 Q13.2.toNat).length) ((X1 Q13.2.toNat).2.1)) (Pu.qo (p_move rfl)) (by decide) ?_
   refine Rg.q (v := .int .i64 (((nth v0 Q13.2.toNat).length : Int))) (Pu.qo (p_len 30 Try.underlying38 rfl)) (by decide) ?_
   refine Rg.q (v := .int .i64 (0)) (Pu.qo (p_move rfl)) (by decide) ?_
   refine Rg.nl (nT ?_)
   obtain ⟨x23, hx24, H1⟩ := bd.of H1
   obtain ⟨n25, hx24⟩ := lp.of hx24
   refine tMidNC (ι := Option Addr × Nat) (fun ψ => [(2, .pointer (some ⟨g2, 0, none⟩)), (3, .pointer (some ⟨g8, 0, none⟩)), (13, .slice x_v0.1 v0.length x_v0.2), (14, .int .i64 ((v0.length : Int))), (15, .int .i64 (Q13.2))]) (fun ψ => [box g2 26 [.slice none 0 0, .slice none 0 0], tree (.slice x5.1 r3.length x5.2) r3, tree (.slice ψ.1 x23.length ψ.2) x23, box g8 26 [.slice x5.1 r3.length x5.2, .slice ψ.1 x23.length ψ.2]]) ?_ ?_
   ·refine Tr.block ?_
    refine tLoopC (ι := { q : Nat × ((List Post) × Int) × (Option Addr × Nat) // itr (p_impl_indexOf_b1 v0 Q13) q.1 q.2.1 = some x23 }) (fun ζ => [(2, .pointer (some ⟨g2, 0, none⟩)), (3, .pointer (some ⟨g8, 0, none⟩)), (4, .int .i64 (Q13.2)), (13, .slice x_v0.1 v0.length x_v0.2), (14, .int .i64 ((v0.length : Int))), (15, .int .i64 (Q13.2)), (20, .slice ((X1 Q13.2.toNat).1) ((nth v0 Q13.2.toNat).length) ((X1 Q13.2.toNat).2.1)), (21, .int .i64 (((nth v0 Q13.2.toNat).length : Int))), (22, .int .i64 (ζ.1.2.1.2))]) (fun ζ => [box g2 26 [.slice none 0 0, .slice none 0 0], tree (.slice x5.1 r3.length x5.2) r3, tree (.slice ζ.1.2.2.1 ζ.1.2.1.1.length ζ.1.2.2.2) ζ.1.2.1.1, box g8 26 [.slice x5.1 r3.length x5.2, .slice ζ.1.2.2.1 ζ.1.2.1.1.length ζ.1.2.2.2]]) (fun ζ => ζ.1.1) ⟨(n25, (Q13.1, 0), (z14.1, z14.2)), hx24⟩ ⟨rfl, rfl, rfl, rfl, rfl, rfl, rfl, rfl, rfl, trivial⟩ (.cons Del.here (.cons Del.here (.cons Del.here (.cons Del.here .nil)))) ?_
    rintro ⟨⟨m26, Q27, z28⟩, hk33⟩
    obtain ⟨m34, t30, e, H2, hi31, hb32⟩ := itr.of (n := m26) (s := Q27) hk33
    subst e; unfold p_impl_indexOf_b1 at H2
    show Tr _ _ _ _ _ [(2, .pointer (some ⟨g2, 0, none⟩)), (3, .pointer (some ⟨g8, 0, none⟩)), (4, .int .i64 (Q13.2)), (13, .slice x_v0.1 v0.length x_v0.2), (14, .int .i64 ((v0.length : Int))), (15, .int .i64 (Q13.2)), (20, .slice ((X1 Q13.2.toNat).1) ((nth v0 Q13.2.toNat).length) ((X1 Q13.2.toNat).2.1)), (21, .int .i64 (((nth v0 Q13.2.toNat).length : Int))), (22, .int .i64 (Q27.2))] _ [box g2 26 [.slice none 0 0, .slice none 0 0], tree (.slice x5.1 r3.length x5.2) r3, tree (.slice z28.1 Q27.1.length z28.2) Q27.1, box g8 26 [.slice x5.1 r3.length x5.2, .slice z28.1 Q27.1.length z28.2]]
    refine Tr.seq (Tr.region ?_)
    refine Rg.q (v := .bool (decide (Q27.2 < ((nth v0 Q13.2.toNat).length : Int)))) (Pu.qo (p_lss rfl rfl)) (by decide) ?_
    refine Rg.nl (nT ?_)
    refine Tr.seq ?_
    refine Tr.cond (b := decide (Q27.2 < ((nth v0 Q13.2.toNat).length : Int))) rfl (fun h35 => ?_) (fun h35 => ?_)
    ·have H2 := cdT h35 H2
     refine tSkip ?_
     refine nT (Tr.seq ?_)
     refine Tr.block ?_
     refine Tr.seq (Tr.region ?_)
     obtain ⟨h36, H2⟩ := gd.of H2
     refine Rg.q (v := elp ((X1 Q13.2.toNat).1) (Q27.2.toNat * Enc.sz Tag + 0)) (q_ixg (l := nth v0 Q13.2.toNat) (E := fun i => Flat.enc (nth (nth v0 Q13.2.toNat) i)) (oa := (X1 Q13.2.toNat).1) Try.underlying38 ty30 rfl rfl h36 rfl (EntB.flat (Ent.b (Ent.dimm (Ent.del Ent.z h22.lt))))) (by decide) ?_
     refine Rg.q (v := .agg #[.string ((nth (nth v0 Q13.2.toNat) Q27.2.toNat).1), .string ((nth (nth v0 Q13.2.toNat) Q27.2.toNat).2)]) (q_ldeA (l := nth v0 Q13.2.toNat) (E := fun i => Flat.enc (nth (nth v0 Q13.2.toNat) i)) (oa := (X1 Q13.2.toNat).1) (i := Q27.2.toNat) ty30 rfl (EntB.flat (Ent.b (Ent.dimm (Ent.del Ent.z h22.lt)))) h36.lt) (by decide) ?_
     refine Rg.ed (e_alloc ty30) rfl (by decide) ?_
     rintro _ _ _ ⟨g37, rfl, rfl, rfl⟩
     refine Rg.en (e_store (v := .agg #[.string ((nth (nth v0 Q13.2.toNat) Q27.2.toNat).1), .string ((nth (nth v0 Q13.2.toNat) Q27.2.toNat).2)]) (cs' := [.string ((nth (nth v0 Q13.2.toNat) Q27.2.toNat).1), .string ((nth (nth v0 Q13.2.toNat) Q27.2.toNat).2)]) ty30 rfl rfl Upd.here rfl (by simp [Value.cells, Value.oneCell']) (Nat.le_of_ble_eq_true rfl) rfl) rfl ?_
     rintro _ _ _ ⟨rfl, rfl, rfl⟩
     refine Rg.nl (nT ?_)
     refine Tr.seq (Tr.region ?_)
     refine Rg.q (v := .pointer (some ⟨g8, 1, none⟩)) (Pu.qo (p_fabE fa26_1 rfl rfl)) (by decide) ?_
     refine Rg.q (v := .slice z28.1 Q27.1.length z28.2) (q_ldb ty24 rfl Has.here.there.there.there.there rfl) (by decide) ?_
     refine Rg.q (v := .func (.func 112) #[] #[.pointer (some ⟨g37, 0, none⟩)]) (Pu.qo (p_mkfunc (vs := [.pointer (some ⟨g37, 0, none⟩)]) rfl rfl)) (by decide) ?_
     obtain ⟨r38, h39, H2⟩ := bd.of H2
     refine Rg.q (v := .int .i64 (r38)) (q_callC (vs := [.slice z28.1 Q27.1.length z28.2, .func (.func 112) #[] #[.pointer (some ⟨g37, 0, none⟩)]]) (c_slices_IndexFunc_Post_Post_indexOf_1 Q27.1 z28 g37 (nth (nth v0 Q13.2.toNat) Q27.2.toNat) h39) (Solo.box Solo.nil) rfl (.cons Del.here .nil) (EntsB.cons (EntB.tree Has.here.there.there) EntsB.nil)) (by decide) ?_
     refine Rg.q (v := .int .i64 (r38)) (Pu.qo (p_assign rfl)) (by decide) ?_
     refine Rg.nl (nT ?_)
     refine Tr.seq (Tr.seq (Tr.region ?_))
     refine Rg.q (v := .int .i64 (r38)) (Pu.qo (p_move rfl)) (by decide) ?_
     refine Rg.q (v := .bool (decide (r38 < 0))) (Pu.qo (p_lss rfl rfl)) (by decide) ?_
     refine Rg.nl (nT ?_)
     refine Tr.cond (b := decide (r38 < 0)) rfl (fun h40 => ?_) (fun h40 => ?_)
     ·have H2 := cdT h40 H2
      refine Tr.seq (Tr.region ?_)
      refine Rg.q (v := .pointer (some ⟨g8, 1, none⟩)) (Pu.qo (p_fabE fa26_1 rfl rfl)) (by decide) ?_
      refine Rg.q (v := .slice z28.1 Q27.1.length z28.2) (q_ldb ty24 rfl Has.here.there.there.there.there rfl) (by decide) ?_
      refine Rg.q (v := .int .i64 ((Q27.1.length : Int))) (Pu.qo (p_len 33 Try.underlying24 rfl)) (by decide) ?_
      refine Rg.q (v := .int .i64 ((Q27.1.length : Int))) (Pu.qo (p_assign rfl)) (by decide) ?_
      refine Rg.nl (nT ?_)
      refine Tr.nilT Int ?_
      refine Tr.region ?_
      refine Rg.q (v := .pointer (some ⟨g8, 1, none⟩)) (Pu.qo (p_fabE fa26_1 rfl rfl)) (by decide) ?_
      refine Rg.q (v := .slice z28.1 Q27.1.length z28.2) (q_ldb ty24 rfl Has.here.there.there.there.there.there rfl) (by decide) ?_
      refine Rg.q (v := .agg #[.string ((nth (nth v0 Q13.2.toNat) Q27.2.toNat).1), .string ((nth (nth v0 Q13.2.toNat) Q27.2.toNat).2)]) (q_ldbA ty30 rfl Has.here.there rfl) (by decide) ?_
      refine Rg.q (v := .agg #[.string ((nth (nth v0 Q13.2.toNat) Q27.2.toNat).1), .string ((nth (nth v0 Q13.2.toNat) Q27.2.toNat).2), .slice none 0 0]) (Pu.qo (p_buildS (vs := [(0, .agg #[.string ((nth (nth v0 Q13.2.toNat) Q27.2.toNat).1), .string ((nth (nth v0 Q13.2.toNat) Q27.2.toNat).2)])]) (cs := #[.string ((nth (nth v0 Q13.2.toNat) Q27.2.toNat).1), .string ((nth (nth v0 Q13.2.toNat) Q27.2.toNat).2), .slice none 0 0]) ty33 pl33 rfl rfl)) (by decide) ?_
      refine Rg.ed (e_lit (vs := [(0, .agg #[.string ((nth (nth v0 Q13.2.toNat) Q27.2.toNat).1), .string ((nth (nth v0 Q13.2.toNat) Q27.2.toNat).2), .slice none 0 0])]) [.string ((nth (nth v0 Q13.2.toNat) Q27.2.toNat).1), .string ((nth (nth v0 Q13.2.toNat) Q27.2.toNat).2), .slice none 0 0] Try.underlying24 ty33 rfl (by decide) (by decide) (by kernel_rfl)) rfl (by decide) ?_
      rintro _ _ _ ⟨g41, rfl, rfl, rfl⟩
      obtain ⟨h44, H2⟩ := gd.of H2
      refine Rg.ed (e_app1 (l := Q27.1) (α := Post) ((nth (nth v0 Q13.2.toNat) Q27.2.toNat), ([])) (((), ()), (none, 0)) Try.underlying24 ty33 rfl rfl (h44.b (by decide)) h44.x rfl (ShpT.wfa _) (.cons Del.here.there.there.there.there.there (.cons Del.here (.cons Del.here .nil)))) rfl (by decide) ?_
      rintro _ _ _ ⟨a42, c43, rfl, rfl, rfl⟩
      refine Rg.q (v := .pointer (some ⟨g8, 1, none⟩)) (Pu.qo (p_fabE fa26_1 rfl rfl)) (by decide) ?_
      refine Rg.en (e_store (v := .slice a42 ((Q27.1 ++ [((nth (nth v0 Q13.2.toNat) Q27.2.toNat), ([]))]).length) c43) (cs' := [.slice x5.1 r3.length x5.2, .slice a42 ((Q27.1 ++ [((nth (nth v0 Q13.2.toNat) Q27.2.toNat), ([]))]).length) c43]) ty24 rfl rfl Upd.here.there.there.there.there rfl (by simp [Value.cells, Value.oneCell']) (Nat.le_of_ble_eq_true rfl) rfl) rfl ?_
      rintro _ _ _ ⟨rfl, rfl, rfl⟩
      refine Rg.nl (nT ?_)
      obtain ⟨h45, H2⟩ := gd.of H2
      refine Tr.zoom (k := (Q27.1.length : Int).toNat) h45.lt (.cons Del.here .nil) fun x46 => ?_
      show Tr _ _ _ _ _ _ _ (hole (.slice a42 ((Q27.1 ++ [((nth (nth v0 Q13.2.toNat) Q27.2.toNat), ([]))]).length) c43) (Q27.1 ++ [((nth (nth v0 Q13.2.toNat) Q27.2.toNat), ([]))]) ((Q27.1.length : Int).toNat) [.string (((nth (Q27.1 ++ [((nth (nth v0 Q13.2.toNat) Q27.2.toNat), ([]))]) ((Q27.1.length : Int).toNat)).1).1), .string (((nth (Q27.1 ++ [((nth (nth v0 Q13.2.toNat) Q27.2.toNat), ([]))]) ((Q27.1.length : Int).toNat)).1).2), .slice x46.2.1 (((nth (Q27.1 ++ [((nth (nth v0 Q13.2.toNat) Q27.2.toNat), ([]))]) ((Q27.1.length : Int).toNat)).2).length) x46.2.2] :: tree (.slice x46.2.1 (((nth (Q27.1 ++ [((nth (nth v0 Q13.2.toNat) Q27.2.toNat), ([]))]) ((Q27.1.length : Int).toNat)).2).length) x46.2.2) ((nth (Q27.1 ++ [((nth (nth v0 Q13.2.toNat) Q27.2.toNat), ([]))]) ((Q27.1.length : Int).toNat)).2) :: _)
      refine tNwS [(8, .int .i64 ((Q27.1.length : Int))), (2, .pointer (some ⟨g2, 0, none⟩)), (3, .pointer (some ⟨g8, 0, none⟩)), (4, .int .i64 (Q13.2)), (13, .slice x_v0.1 v0.length x_v0.2), (14, .int .i64 ((v0.length : Int))), (15, .int .i64 (Q13.2)), (20, .slice ((X1 Q13.2.toNat).1) ((nth v0 Q13.2.toNat).length) ((X1 Q13.2.toNat).2.1)), (21, .int .i64 (((nth v0 Q13.2.toNat).length : Int))), (22, .int .i64 (Q27.2))] 1 [0, 1, 2, 3, 4, 5, 6, 7, 8, 9, 10, 11, 12, 13, 14, 15] [11, 12, 15] [] Try.mixed (by kernel_rfl) (by decide) List.nodup_nil ⟨rfl, rfl, rfl, rfl, rfl, rfl, rfl, rfl, rfl, rfl, trivial⟩ rfl okNil ?_
      refine w_pu (v := .pointer (some ⟨g8, 1, none⟩)) rfl (by decide) rfl rfl rfl (p_fabE fa26_1 rfl rfl) ?_
      refine w_q (v := .slice a42 ((Q27.1 ++ [((nth (nth v0 Q13.2.toNat) Q27.2.toNat), ([]))]).length) c43) rfl (by decide) rfl rfl rfl (fun F => (q_ldb ty24 rfl (Has.here.there.there.there.there.there.app F) rfl)) ?_
      refine w_pu (v := .int .i64 ((Q27.1.length : Int))) rfl (by decide) rfl rfl rfl (p_move rfl) ?_
      refine w_pu (v := .pointer (some ⟨g8, 1, none⟩)) rfl (by decide) rfl rfl rfl (p_fabE fa26_1 rfl rfl) ?_
      refine w_q (v := .slice a42 ((Q27.1 ++ [((nth (nth v0 Q13.2.toNat) Q27.2.toNat), ([]))]).length) c43) rfl (by decide) rfl rfl rfl (fun F => (q_ldb ty24 rfl (Has.here.there.there.there.there.there.app F) rfl)) ?_
      refine w_pu (v := .int .i64 ((Q27.1.length : Int))) rfl (by decide) rfl rfl rfl (p_move rfl) ?_
      refine w_q (v := elp a42 (((Q27.1.length : Int).toNat) * Enc.sz Post + 0)) rfl (by decide) rfl rfl rfl (fun F => (q_ixH (k := (Q27.1.length : Int).toNat) Try.underlying24 ty33 rfl rfl h45 rfl (Has.here.app F))) ?_
      refine w_q (v := elp a42 (((Q27.1.length : Int).toNat) * Enc.sz Post + 2)) rfl (by decide) rfl rfl rfl (fun F => (q_faH (j := 0) (i := (Q27.1.length : Int).toNat) fa33_1 rfl (Has.here.app F) rfl)) ?_
      refine w_q (v := .slice x46.2.1 (((nth (Q27.1 ++ [((nth (nth v0 Q13.2.toNat) Q27.2.toNat), ([]))]) ((Q27.1.length : Int).toNat)).2).length) x46.2.2) rfl (by decide) rfl rfl rfl (fun F => (q_ldH (i := (Q27.1.length : Int).toNat) (j := 2) ty31 rfl (Has.here.app F) rfl)) ?_
      refine w_pu (v := .int .i64 (Q13.2)) rfl (by decide) rfl rfl rfl (p_move rfl) ?_
      obtain ⟨h47, H2⟩ := gd.of H2
      refine w_pu (v := .int .i64 (Q13.2 + 1)) rfl (by decide) rfl rfl rfl (p_add rfl rfl h47) ?_
      refine w_ed rfl (by decide) rfl Rdy.nil rfl (n_lit (vs := [(0, .int .i64 (Q13.2 + 1))]) [.int .i64 (Q13.2 + 1)] Try.underlying31 ty3 rfl (by decide) (by decide) (by kernel_rfl)) ?_
      rintro _ _ _ ⟨g48, rfl, rfl, rfl⟩
      refine ⟨(PdOk.q rfl rfl (fun F => (q_ldH (i := (Q27.1.length : Int).toNat) (j := 2) ty31 rfl (Has.here.there.app F) rfl)) (PdOk.q rfl rfl (fun F => (q_faH (j := 0) (i := (Q27.1.length : Int).toNat) fa33_1 rfl (Has.here.there.app F) rfl)) (PdOk.q rfl rfl (fun F => (q_ixH (k := (Q27.1.length : Int).toNat) Try.underlying24 ty33 rfl rfl h45 rfl (Has.here.there.app F))) (PdOk.q rfl rfl (fun F => (q_ldb ty24 rfl (Has.here.there.there.there.there.there.there.app F) rfl)) (PdOk.q rfl rfl (fun F => (q_ldb ty24 rfl (Has.here.there.there.there.there.there.there.app F) rfl)) PdOk.nil))))), ?_⟩
      obtain ⟨h51, H2⟩ := gd.of H2
      refine w_ed rfl (by decide) rfl Rdy.nil rfl (n_app1 (l := (nth (Q27.1 ++ [((nth (nth v0 Q13.2.toNat) Q27.2.toNat), ([]))]) ((Q27.1.length : Int).toNat)).2) (α := Int) (Q13.2 + 1) () Try.underlying31 ty3 rfl rfl (h51.b (by decide)) h51.x rfl (ShpT.wfa _) (.cons Del.here.there.there (.cons Del.here .nil))) ?_
      rintro _ _ _ ⟨a49, c50, rfl, rfl, rfl⟩
      refine ⟨(PdOk.anc (by kernel_rfl) (PdOk.q rfl rfl (fun F => (q_faH (j := 0) (i := (Q27.1.length : Int).toNat) fa33_1 rfl (Has.here.there.app F) rfl)) (PdOk.q rfl rfl (fun F => (q_ixH (k := (Q27.1.length : Int).toNat) Try.underlying24 ty33 rfl rfl h45 rfl (Has.here.there.app F))) (PdOk.q rfl rfl (fun F => (q_ldb ty24 rfl (Has.here.there.there.there.there.there.app F) rfl)) (PdOk.q rfl rfl (fun F => (q_ldb ty24 rfl (Has.here.there.there.there.there.there.app F) rfl)) PdOk.nil))))), ?_⟩
      refine w_q (v := elp a42 (((Q27.1.length : Int).toNat) * Enc.sz Post + 0)) rfl (by decide) rfl rfl rfl (fun F => (q_ixH (k := (Q27.1.length : Int).toNat) Try.underlying24 ty33 rfl rfl h45 rfl (Has.here.there.app F))) ?_
      refine w_q (v := elp a42 (((Q27.1.length : Int).toNat) * Enc.sz Post + 2)) rfl (by decide) rfl rfl rfl (fun F => (q_faH (j := 0) (i := (Q27.1.length : Int).toNat) fa33_1 rfl (Has.here.there.app F) rfl)) ?_
      refine w_en rfl rfl Rdy.nil rfl (n_stH (v := .slice a49 ((((nth (Q27.1 ++ [((nth (nth v0 Q13.2.toNat) Q27.2.toNat), ([]))]) ((Q27.1.length : Int).toNat)).2) ++ [Q13.2 + 1]).length) c50) (i := (Q27.1.length : Int).toNat) (j := 2) (cs' := [.string (((nth (Q27.1 ++ [((nth (nth v0 Q13.2.toNat) Q27.2.toNat), ([]))]) ((Q27.1.length : Int).toNat)).1).1), .string (((nth (Q27.1 ++ [((nth (nth v0 Q13.2.toNat) Q27.2.toNat), ([]))]) ((Q27.1.length : Int).toNat)).1).2), .slice a49 ((((nth (Q27.1 ++ [((nth (nth v0 Q13.2.toNat) Q27.2.toNat), ([]))]) ((Q27.1.length : Int).toNat)).2) ++ [Q13.2 + 1]).length) c50]) ty31 rfl rfl (.cons Del.here.there .nil) rfl (by simp [Value.cells, Value.oneCell']) (Nat.le_of_ble_eq_true rfl) rfl rfl) ?_
      rintro _ _ _ ⟨rfl, rfl, rfl⟩
      refine ⟨(PdOk.anc (by kernel_rfl) (PdOk.q rfl rfl (fun F => (q_ixH (k := (Q27.1.length : Int).toNat) Try.underlying24 ty33 rfl rfl h45 rfl (Has.here.app F))) (PdOk.anc (by kernel_rfl) (PdOk.anc (by kernel_rfl) (PdOk.anc (by kernel_rfl) (PdOk.anc (by kernel_rfl) (PdOk.anc (by kernel_rfl) PdOk.nil))))))), ?_⟩
      refine w_nil ?_
      show At _ _ _ _ _ _
      refine nB (nT (?_))
      refine Tr.region ?_
      obtain ⟨h52, H2⟩ := gd.of H2
      refine Rg.q (v := .int .i64 (Q27.2 + 1)) (Pu.qo (p_add rfl rfl h52)) (by decide) ?_
      refine Rg.q (v := .int .i64 (Q27.2 + 1)) (Pu.qo (p_move rfl)) (by decide) ?_
      refine Rg.nl ?_
      refine At.unzoom (((nth (Q27.1 ++ [((nth (nth v0 Q13.2.toNat) Q27.2.toNat), ([]))]) ((Q27.1.length : Int).toNat)).1), (((nth (Q27.1 ++ [((nth (nth v0 Q13.2.toNat) Q27.2.toNat), ([]))]) ((Q27.1.length : Int).toNat)).2) ++ [Q13.2 + 1])) (((), ()), (a49, c50)) rfl (.cons Del.here (.cons Del.here .nil)) ?_
      refine At.olen Has.here fun hn => ?_; rw [hn]
      exact nLC ⟨(m34, (((Q27.1 ++ [((nth (nth v0 Q13.2.toNat) Q27.2.toNat), ([]))]).set ((Q27.1.length : Int).toNat) (((nth (Q27.1 ++ [((nth (nth v0 Q13.2.toNat) Q27.2.toNat), ([]))]) ((Q27.1.length : Int).toNat)).1), (((nth (Q27.1 ++ [((nth (nth v0 Q13.2.toNat) Q27.2.toNat), ([]))]) ((Q27.1.length : Int).toNat)).2) ++ [Q13.2 + 1]))), Q27.2 + 1), (a42, c43)), hi31 _ (Option.some.inj H2).symm⟩ (Nat.lt_succ_self _) ⟨rfl, rfl, rfl, rfl, rfl, rfl, rfl, rfl, rfl, trivial⟩ Ents.refl (.cons Del.here.there.there (.cons Del.here.there.there (.cons Del.here (.cons Del.here.there .nil))))
     ·have H2 := cdF h40 H2
      refine tSkip ?_
      refine nT (?_)
      obtain ⟨h53, H2⟩ := gd.of H2
      refine Tr.zoom (k := r38.toNat) h53.lt (.cons Del.here.there.there.there .nil) fun x54 => ?_
      show Tr _ _ _ _ _ _ _ (hole (.slice z28.1 Q27.1.length z28.2) Q27.1 r38.toNat [.string (((nth Q27.1 r38.toNat).1).1), .string (((nth Q27.1 r38.toNat).1).2), .slice x54.2.1 (((nth Q27.1 r38.toNat).2).length) x54.2.2] :: tree (.slice x54.2.1 (((nth Q27.1 r38.toNat).2).length) x54.2.2) ((nth Q27.1 r38.toNat).2) :: _)
      refine tNwS [(8, .int .i64 (r38)), (2, .pointer (some ⟨g2, 0, none⟩)), (3, .pointer (some ⟨g8, 0, none⟩)), (4, .int .i64 (Q13.2)), (13, .slice x_v0.1 v0.length x_v0.2), (14, .int .i64 ((v0.length : Int))), (15, .int .i64 (Q13.2)), (20, .slice ((X1 Q13.2.toNat).1) ((nth v0 Q13.2.toNat).length) ((X1 Q13.2.toNat).2.1)), (21, .int .i64 (((nth v0 Q13.2.toNat).length : Int))), (22, .int .i64 (Q27.2))] 1 [0, 1, 2, 3, 4, 5, 6, 7, 8, 9, 10, 11, 12, 13, 14, 15] [11, 12, 15] [] Try.mixed (by kernel_rfl) (by decide) List.nodup_nil ⟨rfl, rfl, rfl, rfl, rfl, rfl, rfl, rfl, rfl, rfl, trivial⟩ rfl okNil ?_
      refine w_pu (v := .pointer (some ⟨g8, 1, none⟩)) rfl (by decide) rfl rfl rfl (p_fabE fa26_1 rfl rfl) ?_
      refine w_q (v := .slice z28.1 Q27.1.length z28.2) rfl (by decide) rfl rfl rfl (fun F => (q_ldb ty24 rfl (Has.here.there.there.there.there.there.app F) rfl)) ?_
      refine w_pu (v := .int .i64 (r38)) rfl (by decide) rfl rfl rfl (p_move rfl) ?_
      refine w_pu (v := .pointer (some ⟨g8, 1, none⟩)) rfl (by decide) rfl rfl rfl (p_fabE fa26_1 rfl rfl) ?_
      refine w_q (v := .slice z28.1 Q27.1.length z28.2) rfl (by decide) rfl rfl rfl (fun F => (q_ldb ty24 rfl (Has.here.there.there.there.there.there.app F) rfl)) ?_
      refine w_pu (v := .int .i64 (r38)) rfl (by decide) rfl rfl rfl (p_move rfl) ?_
      refine w_q (v := elp z28.1 (r38.toNat * Enc.sz Post + 0)) rfl (by decide) rfl rfl rfl (fun F => (q_ixH (k := r38.toNat) Try.underlying24 ty33 rfl rfl h53 rfl (Has.here.app F))) ?_
      refine w_q (v := elp z28.1 (r38.toNat * Enc.sz Post + 2)) rfl (by decide) rfl rfl rfl (fun F => (q_faH (j := 0) (i := r38.toNat) fa33_1 rfl (Has.here.app F) rfl)) ?_
      refine w_q (v := .slice x54.2.1 (((nth Q27.1 r38.toNat).2).length) x54.2.2) rfl (by decide) rfl rfl rfl (fun F => (q_ldH (i := r38.toNat) (j := 2) ty31 rfl (Has.here.app F) rfl)) ?_
      refine w_pu (v := .int .i64 (Q13.2)) rfl (by decide) rfl rfl rfl (p_move rfl) ?_
      obtain ⟨h55, H2⟩ := gd.of H2
      refine w_pu (v := .int .i64 (Q13.2 + 1)) rfl (by decide) rfl rfl rfl (p_add rfl rfl h55) ?_
      refine w_ed rfl (by decide) rfl Rdy.nil rfl (n_lit (vs := [(0, .int .i64 (Q13.2 + 1))]) [.int .i64 (Q13.2 + 1)] Try.underlying31 ty3 rfl (by decide) (by decide) (by kernel_rfl)) ?_
      rintro _ _ _ ⟨g56, rfl, rfl, rfl⟩
      refine ⟨(PdOk.q rfl rfl (fun F => (q_ldH (i := r38.toNat) (j := 2) ty31 rfl (Has.here.there.app F) rfl)) (PdOk.q rfl rfl (fun F => (q_faH (j := 0) (i := r38.toNat) fa33_1 rfl (Has.here.there.app F) rfl)) (PdOk.q rfl rfl (fun F => (q_ixH (k := r38.toNat) Try.underlying24 ty33 rfl rfl h53 rfl (Has.here.there.app F))) (PdOk.q rfl rfl (fun F => (q_ldb ty24 rfl (Has.here.there.there.there.there.there.there.app F) rfl)) (PdOk.q rfl rfl (fun F => (q_ldb ty24 rfl (Has.here.there.there.there.there.there.there.app F) rfl)) PdOk.nil))))), ?_⟩
      obtain ⟨h59, H2⟩ := gd.of H2
      refine w_ed rfl (by decide) rfl Rdy.nil rfl (n_app1 (l := (nth Q27.1 r38.toNat).2) (α := Int) (Q13.2 + 1) () Try.underlying31 ty3 rfl rfl (h59.b (by decide)) h59.x rfl (ShpT.wfa _) (.cons Del.here.there.there (.cons Del.here .nil))) ?_
      rintro _ _ _ ⟨a57, c58, rfl, rfl, rfl⟩
      refine ⟨(PdOk.anc (by kernel_rfl) (PdOk.q rfl rfl (fun F => (q_faH (j := 0) (i := r38.toNat) fa33_1 rfl (Has.here.there.app F) rfl)) (PdOk.q rfl rfl (fun F => (q_ixH (k := r38.toNat) Try.underlying24 ty33 rfl rfl h53 rfl (Has.here.there.app F))) (PdOk.q rfl rfl (fun F => (q_ldb ty24 rfl (Has.here.there.there.there.there.there.app F) rfl)) (PdOk.q rfl rfl (fun F => (q_ldb ty24 rfl (Has.here.there.there.there.there.there.app F) rfl)) PdOk.nil))))), ?_⟩
      refine w_q (v := elp z28.1 (r38.toNat * Enc.sz Post + 0)) rfl (by decide) rfl rfl rfl (fun F => (q_ixH (k := r38.toNat) Try.underlying24 ty33 rfl rfl h53 rfl (Has.here.there.app F))) ?_
      refine w_q (v := elp z28.1 (r38.toNat * Enc.sz Post + 2)) rfl (by decide) rfl rfl rfl (fun F => (q_faH (j := 0) (i := r38.toNat) fa33_1 rfl (Has.here.there.app F) rfl)) ?_
      refine w_en rfl rfl Rdy.nil rfl (n_stH (v := .slice a57 ((((nth Q27.1 r38.toNat).2) ++ [Q13.2 + 1]).length) c58) (i := r38.toNat) (j := 2) (cs' := [.string (((nth Q27.1 r38.toNat).1).1), .string (((nth Q27.1 r38.toNat).1).2), .slice a57 ((((nth Q27.1 r38.toNat).2) ++ [Q13.2 + 1]).length) c58]) ty31 rfl rfl (.cons Del.here.there .nil) rfl (by simp [Value.cells, Value.oneCell']) (Nat.le_of_ble_eq_true rfl) rfl rfl) ?_
      rintro _ _ _ ⟨rfl, rfl, rfl⟩
      refine ⟨(PdOk.anc (by kernel_rfl) (PdOk.q rfl rfl (fun F => (q_ixH (k := r38.toNat) Try.underlying24 ty33 rfl rfl h53 rfl (Has.here.app F))) (PdOk.anc (by kernel_rfl) (PdOk.anc (by kernel_rfl) (PdOk.anc (by kernel_rfl) (PdOk.anc (by kernel_rfl) (PdOk.anc (by kernel_rfl) PdOk.nil))))))), ?_⟩
      refine w_nil ?_
      show At _ _ _ _ _ _
      refine nB (nT (?_))
      refine Tr.region ?_
      obtain ⟨h60, H2⟩ := gd.of H2
      refine Rg.q (v := .int .i64 (Q27.2 + 1)) (Pu.qo (p_add rfl rfl h60)) (by decide) ?_
      refine Rg.q (v := .int .i64 (Q27.2 + 1)) (Pu.qo (p_move rfl)) (by decide) ?_
      refine Rg.nl ?_
      refine At.unzoom (((nth Q27.1 r38.toNat).1), (((nth Q27.1 r38.toNat).2) ++ [Q13.2 + 1])) (((), ()), (a57, c58)) rfl (.cons Del.here (.cons Del.here .nil)) ?_
      refine At.olen Has.here fun hn => ?_; rw [hn]
      exact nLC ⟨(m34, ((Q27.1.set r38.toNat (((nth Q27.1 r38.toNat).1), (((nth Q27.1 r38.toNat).2) ++ [Q13.2 + 1]))), Q27.2 + 1), (z28.1, z28.2)), hi31 _ (Option.some.inj H2).symm⟩ (Nat.lt_succ_self _) ⟨rfl, rfl, rfl, rfl, rfl, rfl, rfl, rfl, rfl, trivial⟩ Ents.refl (.cons Del.here.there.there (.cons Del.here.there.there (.cons Del.here (.cons Del.here.there .nil))))
    ·have H2 := cdF h35 H2
     refine tExit (xT (xT (xE (?_))))
     have hx := hb32 _ (Option.some.inj H2).symm; subst hx
     exact nMC (z28.1, z28.2) ⟨rfl, rfl, rfl, rfl, rfl, trivial⟩ Ents.refl (.cons Del.here (.cons Del.here (.cons Del.here (.cons Del.here .nil))))
   ·intro y29
    show At _ _ [(2, .pointer (some ⟨g2, 0, none⟩)), (3, .pointer (some ⟨g8, 0, none⟩)), (13, .slice x_v0.1 v0.length x_v0.2), (14, .int .i64 ((v0.length : Int))), (15, .int .i64 (Q13.2))] _ [box g2 26 [.slice none 0 0, .slice none 0 0], tree (.slice x5.1 r3.length x5.2) r3, tree (.slice y29.1 x23.length y29.2) x23, box g8 26 [.slice x5.1 r3.length x5.2, .slice y29.1 x23.length y29.2]] _
    refine nB (nT (?_))
    refine Tr.region ?_
    obtain ⟨h61, H1⟩ := gd.of H1
    refine Rg.q (v := .int .i64 (Q13.2 + 1)) (Pu.qo (p_add rfl rfl h61)) (by decide) ?_
    refine Rg.q (v := .int .i64 (Q13.2 + 1)) (Pu.qo (p_move rfl)) (by decide) ?_
    refine Rg.nl ?_
    exact nLC ⟨(m20, (x23, Q13.2 + 1), (y29.1, y29.2)), hi17 _ (Option.some.inj H1).symm⟩ (Nat.lt_succ_self _) ⟨rfl, rfl, rfl, rfl, rfl, trivial⟩ Ents.refl (.cons Del.here (.cons Del.here (.cons Del.here (.cons Del.here .nil))))
  ·have H1 := cdF h21 H1
   refine tExit (xT (xT (xE (?_))))
   have hx := hb18 _ (Option.some.inj H1).symm; subst hx
   exact nMC (z14.1, z14.2) ⟨rfl, rfl, trivial⟩ Ents.refl (.cons Del.here (.cons Del.here (.cons Del.here (.cons Del.here .nil))))
 ·intro y15
  show At _ _ [(2, .pointer (some ⟨g2, 0, none⟩)), (3, .pointer (some ⟨g8, 0, none⟩))] _ [box g2 26 [.slice none 0 0, .slice none 0 0], tree (.slice x5.1 r3.length x5.2) r3, tree (.slice y15.1 x9.length y15.2) x9, box g8 26 [.slice x5.1 r3.length x5.2, .slice y15.1 x9.length y15.2]] _
  refine nT (?_)
  refine Tr.seq (Tr.region ?_)
  refine Rg.q (v := .pointer (some ⟨g8, 1, none⟩)) (Pu.qo (p_fabE fa26_1 rfl rfl)) (by decide) ?_
  refine Rg.q (v := .slice y15.1 x9.length y15.2) (q_ldb ty24 rfl Has.here.there.there.there rfl) (by decide) ?_
  obtain ⟨r62, h63, H⟩ := bd.of H
  refine Rg.ed (e_callM (vs := [.slice y15.1 x9.length y15.2, .func (.func 114) #[] #[]]) (c_slices_SortFunc_Post_Post_indexOf_2 x9 y15 x9.length rfl h63) (Solo.tree Solo.nil) (fun _ => (Solo.tree Solo.nil)) rfl (.cons Del.here.there.there .nil) EntsB.nil) rfl (by decide) ?_
  rintro _ _ _ ⟨u64, rfl, rfl, rfl⟩
  refine Rg.nl (nT ?_)
  refine Tr.seq ?_
  refine Tr.olen Has.here fun hn => ?_; rw [hn]
  refine Tr.region ?_
  refine Rg.q (v := .agg #[.slice x5.1 r3.length x5.2, .slice y15.1 r62.length y15.2]) (q_ldbA ty26 rfl Has.here.there.there.there rfl) (by decide) ?_
  refine Rg.en (e_store (v := .agg #[.slice x5.1 r3.length x5.2, .slice y15.1 r62.length y15.2]) (cs' := [.slice x5.1 r3.length x5.2, .slice y15.1 r62.length y15.2]) ty26 rfl rfl Upd.here.there rfl (by simp [Value.cells, Value.oneCell']) (Nat.le_of_ble_eq_true rfl) rfl) rfl ?_
  rintro _ _ _ ⟨rfl, rfl, rfl⟩
  refine Rg.nl (nT ?_)
  refine tRet ?_
  have hr := Option.some.inj H; subst hr
  exact back1 (x5, y15) rfl (ResV.agg ty26 rfl Has.here.there rfl) rfl Ents.nil (.cons Del.here.there.there (.cons Del.here .nil))
noncomputable def p_slices_Equal_int_int_b0 (v0 : (List Int)) (v1 : (List Int)) (Q6 : Int) : Option ((Int) ⊕ (Unit ⊕ Bool)) := cond (decide (Q6 < (v0.length : Int))) (gd (ix Q6 v0.length) <| gd (ix Q6 v1.length) <| cond (!decide ((nth v0 Q6.toNat) = (nth v1 Q6.toNat))) (some (.inr (.inr false))) (gd (I64 (Q6 + 1)) <| some (.inl (Q6 + 1)))) (some (.inr (.inl ())))
noncomputable def p_slices_Equal_int_int (v0 : (List Int)) (v1 : (List Int)) : Option (Bool) := cond (!decide ((v0.length : Int) = (v1.length : Int))) (some false) (bd (lp (p_slices_Equal_int_int_b0 v0 v1) 0) <| sw (fun _ => some true) (fun q => some q))
theorem c_slices_Equal_int_int {r : Bool} (v0 : (List Int)) (x_v0 : Option Addr × Nat) (v1 : (List Int)) (x_v1 : Option Addr × Nat) (H : p_slices_Equal_int_int v0 v1 = some r) : Fn' Try.prog 67 #[.slice x_v0.1 v0.length x_v0.2, .slice x_v1.1 v1.length x_v1.2] [imm (.slice x_v0.1 v0.length x_v0.2) v0, imm (.slice x_v1.1 v1.length x_v1.2) v1] [] (ι := Unit) (fun _ => .bool (r)) (fun _ => []) (fun _ => []) := by
 refine calls_of (args := [_, _]) Try.func67 rfl (by kernel_rfl) Try.ntmps67 (by simp) fun c => ?_
 unfold p_slices_Equal_int_int at H
 refine Tr.seq (Tr.region ?_)
 refine Rg.q (v := .bool (false)) (Pu.qo (p_assign rfl)) (by decide) ?_
 refine Rg.nl (nT ?_)
 refine Tr.seq (Tr.seq (Tr.region ?_))
 refine Rg.q (v := .slice x_v0.1 v0.length x_v0.2) (Pu.qo (p_move rfl)) (by decide) ?_
 refine Rg.q (v := .int .i64 ((v0.length : Int))) (Pu.qo (p_len 3 Try.underlying31 rfl)) (by decide) ?_
 refine Rg.q (v := .slice x_v1.1 v1.length x_v1.2) (Pu.qo (p_move rfl)) (by decide) ?_
 refine Rg.q (v := .int .i64 ((v1.length : Int))) (Pu.qo (p_len 3 Try.underlying31 rfl)) (by decide) ?_
 refine Rg.q (v := .bool (!decide ((v0.length : Int) = (v1.length : Int)))) (Pu.qo (p_neq rfl rfl)) (by decide) ?_
 refine Rg.nl (nT ?_)
 refine Tr.cond (b := !decide ((v0.length : Int) = (v1.length : Int))) rfl (fun h1 => ?_) (fun h1 => ?_)
 ·have H := cdT h1 H
  refine Tr.seq (Tr.region ?_)
  refine Rg.q (v := .bool (false)) (Pu.qo (p_assign rfl)) (by decide) ?_
  refine Rg.nl (nT ?_)
  refine tRet ?_
  refine rT (?_)
  have hr := Option.some.inj H; subst hr
  exact back1 () rfl (ResV.tmp (v := .bool (false)) rfl) rfl Ents.nil Take.nil
 ·have H := cdF h1 H
  refine tSkip ?_
  refine nT (?_)
  refine Tr.seq (Tr.seq (Tr.region ?_))
  refine Rg.q (v := .slice x_v0.1 v0.length x_v0.2) (Pu.qo (p_move rfl)) (by decide) ?_
  refine Rg.q (v := .int .i64 ((v0.length : Int))) (Pu.qo (p_len 3 Try.underlying31 rfl)) (by decide) ?_
  refine Rg.q (v := .int .i64 (0)) (Pu.qo (p_move rfl)) (by decide) ?_
  refine Rg.nl (nT ?_)
  obtain ⟨x2, hx3, H⟩ := bd.of H
  obtain ⟨n4, hx3⟩ := lp.of hx3
  refine tMidNC (ι := { q : (Unit) × Unit // x2 = .inl q.1 }) (fun ψ => []) (fun ψ => []) ?_ ?_
  ·refine Tr.block ?_
   refine tLoopC (ι := { q : Nat × (Int) × Unit // itr (p_slices_Equal_int_int_b0 v0 v1) q.1 q.2.1 = some x2 }) (fun ζ => [(0, .slice x_v0.1 v0.length x_v0.2), (1, .slice x_v1.1 v1.length x_v1.2), (12, .int .i64 ((v0.length : Int))), (13, .int .i64 (ζ.1.2.1))]) (fun ζ => []) (fun ζ => ζ.1.1) ⟨(n4, 0, ()), hx3⟩ ⟨rfl, rfl, rfl, rfl, trivial⟩ Take.nil ?_
   rintro ⟨⟨m5, Q6, z7⟩, hk12⟩
   obtain ⟨m13, t9, e, H1, hi10, hb11⟩ := itr.of (n := m5) (s := Q6) hk12
   subst e; unfold p_slices_Equal_int_int_b0 at H1
   show Tr _ _ _ _ _ [(0, .slice x_v0.1 v0.length x_v0.2), (1, .slice x_v1.1 v1.length x_v1.2), (12, .int .i64 ((v0.length : Int))), (13, .int .i64 (Q6))] _ []
   refine Tr.seq (Tr.region ?_)
   refine Rg.q (v := .bool (decide (Q6 < (v0.length : Int)))) (Pu.qo (p_lss rfl rfl)) (by decide) ?_
   refine Rg.nl (nT ?_)
   refine Tr.seq ?_
   refine Tr.cond (b := decide (Q6 < (v0.length : Int))) rfl (fun h14 => ?_) (fun h14 => ?_)
   ·have H1 := cdT h14 H1
    refine tSkip ?_
    refine nT (Tr.seq ?_)
    refine Tr.block ?_
    refine Tr.seq (Tr.region ?_)
    refine Rg.q (v := .int .i64 (Q6)) (Pu.qo (p_move rfl)) (by decide) ?_
    refine Rg.q (v := .int .i64 (Q6)) (Pu.qo (p_assign rfl)) (by decide) ?_
    refine Rg.nl (nT ?_)
    refine Tr.seq ?_
    refine tLinS [(5, .int .i64 (Q6)), (0, .slice x_v0.1 v0.length x_v0.2), (1, .slice x_v1.1 v1.length x_v1.2), (12, .int .i64 ((v0.length : Int))), (13, .int .i64 (Q6))] Try.mixed (.inr (by kernel_rfl)) ⟨rfl, rfl, rfl, rfl, rfl, trivial⟩ rfl ?_
    refine Lin.q (v := .slice x_v0.1 v0.length x_v0.2) (by decide) (Pu.qo (p_move rfl)) ?_
    refine Lin.q (v := .int .i64 (Q6)) (by decide) (Pu.qo (p_move rfl)) ?_
    obtain ⟨h15, H1⟩ := gd.of H1
    refine Lin.q (v := elp x_v0.1 (Q6.toNat * Enc.sz Int + 0)) (by decide) (q_ixg (l := v0) (E := fun i => Flat.enc (nth v0 i)) (oa := x_v0.1) Try.underlying31 ty3 rfl rfl h15 rfl (EntB.flat (Ent.b Ent.z))) ?_
    refine Lin.q (v := .int .i64 (nth v0 Q6.toNat)) (by decide) (q_lde (l := v0) (E := fun i => Flat.enc (nth v0 i)) (oa := x_v0.1) (i := Q6.toNat) (j := 0) ty3 rfl (EntB.flat (Ent.b Ent.z)) h15.lt rfl) ?_
    refine Lin.q (v := .slice x_v1.1 v1.length x_v1.2) (by decide) (Pu.qo (p_move rfl)) ?_
    refine Lin.q (v := .int .i64 (Q6)) (by decide) (Pu.qo (p_move rfl)) ?_
    obtain ⟨h16, H1⟩ := gd.of H1
    refine Lin.q (v := elp x_v1.1 (Q6.toNat * Enc.sz Int + 0)) (by decide) (q_ixg (l := v1) (E := fun i => Flat.enc (nth v1 i)) (oa := x_v1.1) Try.underlying31 ty3 rfl rfl h16 rfl (EntB.flat (Ent.b Ent.z.s))) ?_
    refine Lin.q (v := .int .i64 (nth v1 Q6.toNat)) (by decide) (q_lde (l := v1) (E := fun i => Flat.enc (nth v1 i)) (oa := x_v1.1) (i := Q6.toNat) (j := 0) ty3 rfl (EntB.flat (Ent.b Ent.z.s)) h16.lt rfl) ?_
    refine Lin.q (v := .bool (!decide ((nth v0 Q6.toNat) = (nth v1 Q6.toNat)))) (by decide) (Pu.qo (p_neq rfl rfl)) ?_
    show At _ _ _ _ _ _
    refine nT (?_)
    refine Tr.cond (b := !decide ((nth v0 Q6.toNat) = (nth v1 Q6.toNat))) rfl (fun h17 => ?_) (fun h17 => ?_)
    ·have H1 := cdT h17 H1
     refine Tr.seq (Tr.region ?_)
     refine Rg.q (v := .bool (false)) (Pu.qo (p_assign rfl)) (by decide) ?_
     refine Rg.nl (nT ?_)
     refine tRet ?_
     refine rB (rT (rT (rB (rT (rT (?_))))))
     have hx := hb11 _ (Option.some.inj H1).symm; subst hx
     replace H := sw.r H
     have hr := Option.some.inj H; subst hr
     exact back1 () rfl (ResV.tmp (v := .bool (false)) rfl) rfl Ents.nil Take.nil
    ·have H1 := cdF h17 H1
     refine tSkip ?_
     refine nB (nT (?_))
     refine Tr.region ?_
     obtain ⟨h18, H1⟩ := gd.of H1
     refine Rg.q (v := .int .i64 (Q6 + 1)) (Pu.qo (p_add rfl rfl h18)) (by decide) ?_
     refine Rg.q (v := .int .i64 (Q6 + 1)) (Pu.qo (p_move rfl)) (by decide) ?_
     refine Rg.nl ?_
     exact nLC ⟨(m13, Q6 + 1, ()), hi10 _ (Option.some.inj H1).symm⟩ (Nat.lt_succ_self _) ⟨rfl, rfl, rfl, rfl, trivial⟩ Ents.refl Take.nil
   ·have H1 := cdF h14 H1
    refine tExit (xT (xT (xE (?_))))
    exact nMC ⟨((), ()), (hb11 _ (Option.some.inj H1).symm).symm⟩ trivial Ents.refl Take.nil
  ·rintro ⟨⟨e19, y8⟩, hx⟩; subst hx; replace H := sw.l H
   show At _ _ [] _ [] _
   refine nT (?_)
   refine Tr.seq (Tr.region ?_)
   refine Rg.q (v := .bool (true)) (Pu.qo (p_assign rfl)) (by decide) ?_
   refine Rg.nl (nT ?_)
   refine tRet ?_
   have hr := Option.some.inj H; subst hr
   exact back1 () rfl (ResV.tmp (v := .bool (true)) rfl) rfl Ents.nil Take.nil
noncomputable def p_impl_IndexOk_1 (v0 : Post) (v1 : Post) : Option (Bool) := bd (cond (decide (v0.1 = v1.1)) (bd (p_slices_Equal_int_int v0.2 v1.2) fun r6 => some (r6)) (some (false))) fun b3 => some b3
theorem c_impl_IndexOk_1 {r : Bool} (v0 : Post) (x_v0 : (Unit × Unit) × (Option Addr × Nat)) (v1 : Post) (x_v1 : (Unit × Unit) × (Option Addr × Nat)) (H : p_impl_IndexOk_1 v0 v1 = some r) : Fn' Try.prog 66 #[.agg #[.string (v0.1.1), .string (v0.1.2), .slice x_v0.2.1 v0.2.length x_v0.2.2], .agg #[.string (v1.1.1), .string (v1.1.2), .slice x_v1.2.1 v1.2.length x_v1.2.2]] [imm (.slice x_v0.2.1 v0.2.length x_v0.2.2) v0.2, imm (.slice x_v1.2.1 v1.2.length x_v1.2.2) v1.2] [] (ι := Unit) (fun _ => .bool (r)) (fun _ => []) (fun _ => []) := by
 refine calls_of (args := [_, _]) Try.func66 rfl (by kernel_rfl) Try.ntmps66 (by simp) fun c => ?_
 unfold p_impl_IndexOk_1 at H
 refine Tr.seq (Tr.region ?_)
 refine Rg.ed (e_box (t := 33) (v := .agg #[.string (v0.1.1), .string (v0.1.2), .slice x_v0.2.1 v0.2.length x_v0.2.2]) rfl) rfl (by decide) ?_
 rintro _ _ _ ⟨g1, rfl, rfl, rfl⟩
 refine Rg.ed (e_box (t := 33) (v := .agg #[.string (v1.1.1), .string (v1.1.2), .slice x_v1.2.1 v1.2.length x_v1.2.2]) rfl) rfl (by decide) ?_
 rintro _ _ _ ⟨g2, rfl, rfl, rfl⟩
 refine Rg.q (v := .bool (false)) (Pu.qo (p_assign rfl)) (by decide) ?_
 refine Rg.nl (nT ?_)
 obtain ⟨b3, j4, H⟩ := bd.of H
 refine tMid1 [(4, .bool (b3))] ?_ ?_
 ·refine tLinT [(3, .pointer (some ⟨g2, 0, none⟩)), (2, .pointer (some ⟨g1, 0, none⟩))] ⟨rfl, rfl, trivial⟩ ?_
  refine Lin.q (v := .pointer (some ⟨g1, 0, none⟩)) (by decide) (Pu.qo (p_fabE fa33_0 rfl rfl)) ?_
  refine Lin.q (v := .agg #[.string (v0.1.1), .string (v0.1.2)]) (by decide) (q_ldbP [.string (v0.1.1), .string (v0.1.2)] ty30 rfl Has.here.there rfl rfl) ?_
  refine Lin.q (v := .pointer (some ⟨g2, 0, none⟩)) (by decide) (Pu.qo (p_fabE fa33_0 rfl rfl)) ?_
  refine Lin.q (v := .agg #[.string (v1.1.1), .string (v1.1.2)]) (by decide) (q_ldbP [.string (v1.1.1), .string (v1.1.2)] ty30 rfl Has.here rfl rfl) ?_
  refine Lin.q (v := .bool (decide (v0.1 = v1.1))) (by decide) (Pu.qo (p_aeql (a := v0.1) (b := v1.1) ae30 rfl rfl rfl rfl)) ?_
  rcases Bool.eq_false_or_eq_true (decide (v0.1 = v1.1)) with h5 | h5
  ·have j4 := cdT h5 j4
   refine Lin.q (v := .bool (true)) (by decide) (Qo.eqv (v := .bool (decide (v0.1 = v1.1))) (Pu.qo (p_move rfl)) (congrArg Value.bool h5)) ?_
   refine Lin.g (v := .pointer (some ⟨g1, 2, none⟩)) (by decide) rfl (Pu.qo (p_fabE fa33_1 rfl rfl)) ?_
   refine Lin.g (v := .slice x_v0.2.1 v0.2.length x_v0.2.2) (by decide) rfl (q_ldb ty31 rfl Has.here.there rfl) ?_
   refine Lin.g (v := .pointer (some ⟨g2, 2, none⟩)) (by decide) rfl (Pu.qo (p_fabE fa33_1 rfl rfl)) ?_
   refine Lin.g (v := .slice x_v1.2.1 v1.2.length x_v1.2.2) (by decide) rfl (q_ldb ty31 rfl Has.here rfl) ?_
   obtain ⟨r6, h7, j4⟩ := bd.of j4
   refine Lin.g (v := .bool (r6)) (by decide) rfl (q_call (vs := [.slice x_v0.2.1 v0.2.length x_v0.2.2, .slice x_v1.2.1 v1.2.length x_v1.2.2]) (c_slices_Equal_int_int v0.2 x_v0.2 v1.2 x_v1.2 h7) rfl (EntsB.cons (Ent.b Ent.z) (EntsB.cons (Ent.b Ent.z.s) EntsB.nil))) ?_
   refine Lin.q (v := .bool (r6)) (by decide) (Pu.qo (p_pickT rfl rfl)) ?_
   refine Lin.q (v := .bool (r6)) (by decide) (Pu.qo (p_assign rfl)) ?_
   have j4 := Option.some.inj j4; subst j4
   show At _ _ _ _ _ _
   exact n1 ⟨rfl, trivial⟩
  ·have j4 := cdF h5 j4
   refine Lin.q (v := .bool (false)) (by decide) (Qo.eqv (v := .bool (decide (v0.1 = v1.1))) (Pu.qo (p_move rfl)) (congrArg Value.bool h5)) ?_
   refine Lin.skip (by decide) rfl ?_
   refine Lin.skip (by decide) rfl ?_
   refine Lin.skip (by decide) rfl ?_
   refine Lin.skip (by decide) rfl ?_
   refine Lin.skip (by decide) rfl ?_
   refine Lin.q (v := .bool (false)) (by decide) (Pu.qo (p_pickF rfl rfl)) ?_
   refine Lin.q (v := .bool (false)) (by decide) (Pu.qo (p_assign rfl)) ?_
   have j4 := Option.some.inj j4; subst j4
   show At _ _ _ _ _ _
   exact n1 ⟨rfl, trivial⟩
 refine tRet ?_
 have hr := Option.some.inj H; subst hr
 exact back1 () rfl (ResV.tmp (v := .bool (b3)) rfl) rfl Ents.nil Take.nil
noncomputable def p_slices_EqualFunc_Post_Post_Post_Post_IndexOk_1_b0 (v0 : (List Post)) (v1 : (List Post)) (Q8 : Int) : Option ((Int) ⊕ (Unit ⊕ Bool)) := cond (decide (Q8 < (v0.length : Int))) (gd (ix Q8 v0.length) <| gd (ix Q8 v1.length) <| bd (p_impl_IndexOk_1 (nth v0 Q8.toNat) (nth v1 Q8.toNat)) fun r21 => cond (!r21) (some (.inr (.inr false))) (gd (I64 (Q8 + 1)) <| some (.inl (Q8 + 1)))) (some (.inr (.inl ())))
noncomputable def p_slices_EqualFunc_Post_Post_Post_Post_IndexOk_1 (v0 : (List Post)) (v1 : (List Post)) : Option (Bool) := cond (!decide ((v0.length : Int) = (v1.length : Int))) (some false) (bd (lp (p_slices_EqualFunc_Post_Post_Post_Post_IndexOk_1_b0 v0 v1) 0) <| sw (fun _ => some true) (fun q => some q))
theorem c_slices_EqualFunc_Post_Post_Post_Post_IndexOk_1 {r : Bool} (v0 : (List Post)) (x_v0 : Option Addr × Nat) (v1 : (List Post)) (x_v1 : Option Addr × Nat) (H : p_slices_EqualFunc_Post_Post_Post_Post_IndexOk_1 v0 v1 = some r) : Fn' Try.prog 64 #[.slice x_v0.1 v0.length x_v0.2, .slice x_v1.1 v1.length x_v1.2, .func (.func 66) #[] #[]] [imm (.slice x_v0.1 v0.length x_v0.2) v0, imm (.slice x_v1.1 v1.length x_v1.2) v1] [] (ι := Unit) (fun _ => .bool (r)) (fun _ => []) (fun _ => []) := by
 refine calls_of (args := [_, _, _]) Try.func64 rfl (by kernel_rfl) Try.ntmps64 (by simp) fun c => ?_
 unfold p_slices_EqualFunc_Post_Post_Post_Post_IndexOk_1 at H
 refine Tr.openD Ent.z fun X1 => ?_
 refine Tr.openD Ent.z.s.s fun X2 => ?_
 refine Tr.seq (Tr.region ?_)
 refine Rg.q (v := .bool (false)) (Pu.qo (p_assign rfl)) (by decide) ?_
 refine Rg.nl (nT ?_)
 refine Tr.seq (Tr.seq (Tr.region ?_))
 refine Rg.q (v := .slice x_v0.1 v0.length x_v0.2) (Pu.qo (p_move rfl)) (by decide) ?_
 refine Rg.q (v := .int .i64 ((v0.length : Int))) (Pu.qo (p_len 33 Try.underlying24 rfl)) (by decide) ?_
 refine Rg.q (v := .slice x_v1.1 v1.length x_v1.2) (Pu.qo (p_move rfl)) (by decide) ?_
 refine Rg.q (v := .int .i64 ((v1.length : Int))) (Pu.qo (p_len 33 Try.underlying24 rfl)) (by decide) ?_
 refine Rg.q (v := .bool (!decide ((v0.length : Int) = (v1.length : Int)))) (Pu.qo (p_neq rfl rfl)) (by decide) ?_
 refine Rg.nl (nT ?_)
 refine Tr.cond (b := !decide ((v0.length : Int) = (v1.length : Int))) rfl (fun h3 => ?_) (fun h3 => ?_)
 ·have H := cdT h3 H
  refine Tr.seq (Tr.region ?_)
  refine Rg.q (v := .bool (false)) (Pu.qo (p_assign rfl)) (by decide) ?_
  refine Rg.nl (nT ?_)
  refine tRet ?_
  refine rT (?_)
  have hr := Option.some.inj H; subst hr
  exact back1 () rfl (ResV.tmp (v := .bool (false)) rfl) rfl Ents.nil Take.nil
 ·have H := cdF h3 H
  refine tSkip ?_
  refine nT (?_)
  refine Tr.seq (Tr.seq (Tr.region ?_))
  refine Rg.q (v := .slice x_v0.1 v0.length x_v0.2) (Pu.qo (p_move rfl)) (by decide) ?_
  refine Rg.q (v := .int .i64 ((v0.length : Int))) (Pu.qo (p_len 33 Try.underlying24 rfl)) (by decide) ?_
  refine Rg.q (v := .int .i64 (0)) (Pu.qo (p_move rfl)) (by decide) ?_
  refine Rg.nl (nT ?_)
  obtain ⟨x4, hx5, H⟩ := bd.of H
  obtain ⟨n6, hx5⟩ := lp.of hx5
  refine tMidNC (ι := { q : (Unit) × Unit // x4 = .inl q.1 }) (fun ψ => []) (fun ψ => []) ?_ ?_
  ·refine Tr.block ?_
   refine tLoopC (ι := { q : Nat × (Int) × Unit // itr (p_slices_EqualFunc_Post_Post_Post_Post_IndexOk_1_b0 v0 v1) q.1 q.2.1 = some x4 }) (fun ζ => [(1, .slice x_v1.1 v1.length x_v1.2), (2, .func (.func 66) #[] #[]), (15, .slice x_v0.1 v0.length x_v0.2), (16, .int .i64 ((v0.length : Int))), (17, .int .i64 (ζ.1.2.1))]) (fun ζ => []) (fun ζ => ζ.1.1) ⟨(n6, 0, ()), hx5⟩ ⟨rfl, rfl, rfl, rfl, rfl, trivial⟩ Take.nil ?_
   rintro ⟨⟨m7, Q8, z9⟩, hk14⟩
   obtain ⟨m15, t11, e, H1, hi12, hb13⟩ := itr.of (n := m7) (s := Q8) hk14
   subst e; unfold p_slices_EqualFunc_Post_Post_Post_Post_IndexOk_1_b0 at H1
   show Tr _ _ _ _ _ [(1, .slice x_v1.1 v1.length x_v1.2), (2, .func (.func 66) #[] #[]), (15, .slice x_v0.1 v0.length x_v0.2), (16, .int .i64 ((v0.length : Int))), (17, .int .i64 (Q8))] _ []
   refine Tr.seq (Tr.region ?_)
   refine Rg.q (v := .bool (decide (Q8 < (v0.length : Int)))) (Pu.qo (p_lss rfl rfl)) (by decide) ?_
   refine Rg.nl (nT ?_)
   refine Tr.seq ?_
   refine Tr.cond (b := decide (Q8 < (v0.length : Int))) rfl (fun h16 => ?_) (fun h16 => ?_)
   ·have H1 := cdT h16 H1
    refine tSkip ?_
    refine nT (Tr.seq ?_)
    refine Tr.block ?_
    refine Tr.seq (Tr.region ?_)
    refine Rg.q (v := .int .i64 (Q8)) (Pu.qo (p_move rfl)) (by decide) ?_
    obtain ⟨h17, H1⟩ := gd.of H1
    refine Rg.q (v := elp x_v0.1 (Q8.toNat * Enc.sz Post + 0)) (q_ixg (l := v0) (E := fun i => Dp.denc (nth v0 i) (X1 i)) (oa := x_v0.1) Try.underlying24 ty33 rfl rfl h17 rfl (Ent.b (Ent.darr Ent.z.s))) (by decide) ?_
    refine Rg.q (v := .agg #[.string (((nth v0 Q8.toNat).1).1), .string (((nth v0 Q8.toNat).1).2), .slice (((X1 Q8.toNat).2).1) (((nth v0 Q8.toNat).2).length) (((X1 Q8.toNat).2).2.1)]) (q_ldeA (l := v0) (E := fun i => Dp.denc (nth v0 i) (X1 i)) (oa := x_v0.1) (i := Q8.toNat) ty33 rfl (Ent.b (Ent.darr Ent.z.s)) h17.lt) (by decide) ?_
    refine Rg.ed (e_alloc ty33) rfl (by decide) ?_
    rintro _ _ _ ⟨g18, rfl, rfl, rfl⟩
    refine Rg.q (v := .int .i64 (Q8)) (Pu.qo (p_assign rfl)) (by decide) ?_
    refine Rg.en (e_store (v := .agg #[.string (((nth v0 Q8.toNat).1).1), .string (((nth v0 Q8.toNat).1).2), .slice (((X1 Q8.toNat).2).1) (((nth v0 Q8.toNat).2).length) (((X1 Q8.toNat).2).2.1)]) (cs' := [.string (((nth v0 Q8.toNat).1).1), .string (((nth v0 Q8.toNat).1).2), .slice (((X1 Q8.toNat).2).1) (((nth v0 Q8.toNat).2).length) (((X1 Q8.toNat).2).2.1)]) ty33 rfl rfl Upd.here rfl (by simp [Value.cells, Value.oneCell']) (Nat.le_of_ble_eq_true rfl) rfl) rfl ?_
    rintro _ _ _ ⟨rfl, rfl, rfl⟩
    refine Rg.nl (nT ?_)
    refine Tr.seq (Tr.region ?_)
    refine Rg.q (v := .slice x_v1.1 v1.length x_v1.2) (Pu.qo (p_move rfl)) (by decide) ?_
    refine Rg.q (v := .int .i64 (Q8)) (Pu.qo (p_move rfl)) (by decide) ?_
    obtain ⟨h19, H1⟩ := gd.of H1
    refine Rg.q (v := elp x_v1.1 (Q8.toNat * Enc.sz Post + 0)) (q_ixg (l := v1) (E := fun i => Dp.denc (nth v1 i) (X2 i)) (oa := x_v1.1) Try.underlying24 ty33 rfl rfl h19 rfl (Ent.b (Ent.darr Ent.z))) (by decide) ?_
    refine Rg.q (v := .agg #[.string (((nth v1 Q8.toNat).1).1), .string (((nth v1 Q8.toNat).1).2), .slice (((X2 Q8.toNat).2).1) (((nth v1 Q8.toNat).2).length) (((X2 Q8.toNat).2).2.1)]) (q_ldeA (l := v1) (E := fun i => Dp.denc (nth v1 i) (X2 i)) (oa := x_v1.1) (i := Q8.toNat) ty33 rfl (Ent.b (Ent.darr Ent.z)) h19.lt) (by decide) ?_
    refine Rg.ed (e_alloc ty33) rfl (by decide) ?_
    rintro _ _ _ ⟨g20, rfl, rfl, rfl⟩
    refine Rg.en (e_store (v := .agg #[.string (((nth v1 Q8.toNat).1).1), .string (((nth v1 Q8.toNat).1).2), .slice (((X2 Q8.toNat).2).1) (((nth v1 Q8.toNat).2).length) (((X2 Q8.toNat).2).2.1)]) (cs' := [.string (((nth v1 Q8.toNat).1).1), .string (((nth v1 Q8.toNat).1).2), .slice (((X2 Q8.toNat).2).1) (((nth v1 Q8.toNat).2).length) (((X2 Q8.toNat).2).2.1)]) ty33 rfl rfl Upd.here rfl (by simp [Value.cells, Value.oneCell']) (Nat.le_of_ble_eq_true rfl) rfl) rfl ?_
    rintro _ _ _ ⟨rfl, rfl, rfl⟩
    refine Rg.nl (nT ?_)
    refine Tr.seq (Tr.region ?_)
    refine Rg.q (v := .func (.func 66) #[] #[]) (Pu.qo (p_move rfl)) (by decide) ?_
    refine Rg.q (v := .agg #[.string (((nth v0 Q8.toNat).1).1), .string (((nth v0 Q8.toNat).1).2), .slice (((X1 Q8.toNat).2).1) (((nth v0 Q8.toNat).2).length) (((X1 Q8.toNat).2).2.1)]) (q_ldbA ty33 rfl Has.here.there rfl) (by decide) ?_
    refine Rg.q (v := .agg #[.string (((nth v1 Q8.toNat).1).1), .string (((nth v1 Q8.toNat).1).2), .slice (((X2 Q8.toNat).2).1) (((nth v1 Q8.toNat).2).length) (((X2 Q8.toNat).2).2.1)]) (q_ldbA ty33 rfl Has.here rfl) (by decide) ?_
    obtain ⟨r21, h22, H1⟩ := bd.of H1
    refine Rg.q (v := .bool (r21)) (Ex.dyn (caps := []) (vs := [.agg #[.string (((nth v0 Q8.toNat).1).1), .string (((nth v0 Q8.toNat).1).2), .slice (((X1 Q8.toNat).2).1) (((nth v0 Q8.toNat).2).length) (((X1 Q8.toNat).2).2.1)], .agg #[.string (((nth v1 Q8.toNat).1).1), .string (((nth v1 Q8.toNat).1).2), .slice (((X2 Q8.toNat).2).1) (((nth v1 Q8.toNat).2).length) (((X2 Q8.toNat).2).2.1)]]) rfl rfl (q_call (vs := [.agg #[.string (((nth v0 Q8.toNat).1).1), .string (((nth v0 Q8.toNat).1).2), .slice (((X1 Q8.toNat).2).1) (((nth v0 Q8.toNat).2).length) (((X1 Q8.toNat).2).2.1)], .agg #[.string (((nth v1 Q8.toNat).1).1), .string (((nth v1 Q8.toNat).1).2), .slice (((X2 Q8.toNat).2).1) (((nth v1 Q8.toNat).2).length) (((X2 Q8.toNat).2).2.1)]]) (c_impl_IndexOk_1 (nth v0 Q8.toNat) (((), ()), (((X1 Q8.toNat).2).1, ((X1 Q8.toNat).2).2.1)) (nth v1 Q8.toNat) (((), ()), (((X2 Q8.toNat).2).1, ((X2 Q8.toNat).2).2.1)) h22) rfl (EntsB.cons (Ent.b (Ent.dimm (Ent.dsnd (Ent.del Ent.z.s h17.lt)))) (EntsB.cons (Ent.b (Ent.dimm (Ent.dsnd (Ent.del Ent.z h19.lt)))) EntsB.nil)))) (by decide) ?_
    refine Rg.q (v := .bool (!r21)) (Pu.qo (p_not rfl)) (by decide) ?_
    refine Rg.nl (nT ?_)
    refine Tr.cond (b := !r21) rfl (fun h23 => ?_) (fun h23 => ?_)
    ·have H1 := cdT h23 H1
     refine Tr.seq (Tr.region ?_)
     refine Rg.q (v := .bool (false)) (Pu.qo (p_assign rfl)) (by decide) ?_
     refine Rg.nl (nT ?_)
     refine tRet ?_
     refine rB (rT (rT (rB (rT (rT (?_))))))
     have hx := hb13 _ (Option.some.inj H1).symm; subst hx
     replace H := sw.r H
     have hr := Option.some.inj H; subst hr
     exact back1 () rfl (ResV.tmp (v := .bool (false)) rfl) rfl Ents.nil Take.nil
    ·have H1 := cdF h23 H1
     refine tSkip ?_
     refine nB (nT (?_))
     refine Tr.region ?_
     obtain ⟨h24, H1⟩ := gd.of H1
     refine Rg.q (v := .int .i64 (Q8 + 1)) (Pu.qo (p_add rfl rfl h24)) (by decide) ?_
     refine Rg.q (v := .int .i64 (Q8 + 1)) (Pu.qo (p_move rfl)) (by decide) ?_
     refine Rg.nl ?_
     exact nLC ⟨(m15, Q8 + 1, ()), hi12 _ (Option.some.inj H1).symm⟩ (Nat.lt_succ_self _) ⟨rfl, rfl, rfl, rfl, rfl, trivial⟩ Ents.refl Take.nil
   ·have H1 := cdF h16 H1
    refine tExit (xT (xT (xE (?_))))
    exact nMC ⟨((), ()), (hb13 _ (Option.some.inj H1).symm).symm⟩ trivial Ents.refl Take.nil
  ·rintro ⟨⟨e25, y10⟩, hx⟩; subst hx; replace H := sw.l H
   show At _ _ [] _ [] _
   refine nT (?_)
   refine Tr.seq (Tr.region ?_)
   refine Rg.q (v := .bool (true)) (Pu.qo (p_assign rfl)) (by decide) ?_
   refine Rg.nl (nT ?_)
   refine tRet ?_
   have hr := Option.some.inj H; subst hr
   exact back1 () rfl (ResV.tmp (v := .bool (true)) rfl) rfl Ents.nil Take.nil
noncomputable def p_impl_IndexOk (v0 : Index) : Option (Bool) := bd (p_impl_namesOk v0.1) fun r4 => cond (r4) (bd (p_impl_indexOf v0.1) fun r7 => bd (p_slices_EqualFunc_Post_Post_Post_Post_IndexOk_1 v0.2 r7.2) fun r10 => some r10) (some false)
theorem c_impl_IndexOk {r : Bool} (v0 : Index) (x_v0 : (Option Addr × Nat) × (Option Addr × Nat)) (H : p_impl_IndexOk v0 = some r) : Fn' Try.prog 18 #[.agg #[.slice x_v0.1.1 v0.1.length x_v0.1.2, .slice x_v0.2.1 v0.2.length x_v0.2.2]] [imm (.slice x_v0.1.1 v0.1.length x_v0.1.2) v0.1, imm (.slice x_v0.2.1 v0.2.length x_v0.2.2) v0.2] [] (ι := Unit) (fun _ => .bool (r)) (fun _ => []) (fun _ => []) := by
 refine calls_of (args := [_]) Try.func18 rfl (by kernel_rfl) Try.ntmps18 (by simp) fun c => ?_
 unfold p_impl_IndexOk at H
 refine Tr.openD Ent.z fun X1 => ?_
 refine Tr.openD Ent.z.s.s fun X2 => ?_
 refine Tr.seq (Tr.region ?_)
 refine Rg.ed (e_box (t := 26) (v := .agg #[.slice x_v0.1.1 v0.1.length x_v0.1.2, .slice x_v0.2.1 v0.2.length x_v0.2.2]) rfl) rfl (by decide) ?_
 rintro _ _ _ ⟨g3, rfl, rfl, rfl⟩
 refine Rg.q (v := .bool (false)) (Pu.qo (p_assign rfl)) (by decide) ?_
 refine Rg.nl (nT ?_)
 refine Tr.seq ?_
 obtain ⟨r4, h5, H⟩ := bd.of H
 rcases Bool.eq_false_or_eq_true (r4) with h6 | h6
 ·have H := cdT h6 H
  refine tNwS [(1, .pointer (some ⟨g3, 0, none⟩))] 2 [0, 1, 2, 3, 4, 5, 6, 7, 8, 9, 10, 11, 12] [8] [] Try.mixed (by kernel_rfl) (by decide) List.nodup_nil ⟨rfl, trivial⟩ rfl okNil ?_
  refine w_pu (v := .pointer (some ⟨g3, 0, none⟩)) rfl (by decide) rfl rfl rfl (p_fabE fa26_0 rfl rfl) ?_
  refine w_q (v := .slice x_v0.1.1 v0.1.length x_v0.1.2) rfl (by decide) rfl rfl rfl (fun F => (q_ldb ty23 rfl (Has.here.app F) rfl)) ?_
  refine w_q (v := .bool (r4)) rfl (by decide) rfl rfl rfl (fun F => (q_call (vs := [.slice x_v0.1.1 v0.1.length x_v0.1.2]) (c_impl_namesOk v0.1 x_v0.1 h5) rfl (EntsB.cons (Ent.b (Ent.dimm Ent.z.s)) EntsB.nil))) ?_
  refine w_pu (v := .bool (true)) rfl (by decide) rfl rfl rfl ((Pu.eqv (v := .bool (r4)) (p_move rfl) (congrArg Value.bool h6))) ?_
  refine w_pu (v := .pointer (some ⟨g3, 1, none⟩)) rfl (by decide) rfl rfl rfl (p_fabE fa26_1 rfl rfl) ?_
  refine w_q (v := .slice x_v0.2.1 v0.2.length x_v0.2.2) rfl (by decide) rfl rfl rfl (fun F => (q_ldb ty24 rfl (Has.here.app F) rfl)) ?_
  refine w_pu (v := .pointer (some ⟨g3, 0, none⟩)) rfl (by decide) rfl rfl rfl (p_fabE fa26_0 rfl rfl) ?_
  refine w_q (v := .slice x_v0.1.1 v0.1.length x_v0.1.2) rfl (by decide) rfl rfl rfl (fun F => (q_ldb ty23 rfl (Has.here.app F) rfl)) ?_
  obtain ⟨r7, h8, H⟩ := bd.of H
  refine w_ed rfl (by decide) rfl Rdy.nil rfl (n_callB (vs := [.slice x_v0.1.1 v0.1.length x_v0.1.2]) (c_impl_indexOf v0.1 x_v0.1 h8) (fun _ => (Solo.tree (Solo.tree Solo.nil))) rfl (EntsB.cons (Ent.b (Ent.dimm Ent.z.s)) EntsB.nil)) ?_
  rintro _ _ _ ⟨x9, rfl, rfl, rfl⟩
  refine ⟨(PdOk.anc (by kernel_rfl) (PdOk.q rfl rfl (fun F => (q_ldb ty24 rfl (Has.here.there.there.app F) rfl)) (PdOk.anc (by kernel_rfl) (PdOk.q rfl rfl (fun F => (q_ldb ty23 rfl (Has.here.there.there.app F) rfl)) PdOk.nil)))), ?_⟩
  refine w_pu (v := .slice x9.2.1 r7.2.length x9.2.2) rfl (by decide) rfl rfl rfl ((p_field1 Try.underlying26 rfl ty24 rfl rfl)) ?_
  obtain ⟨r10, h11, H⟩ := bd.of H
  refine w_q (v := .bool (r10)) rfl (by decide) rfl rfl rfl (fun F => (q_call (vs := [.slice x_v0.2.1 v0.2.length x_v0.2.2, .slice x9.2.1 r7.2.length x9.2.2, .func (.func 66) #[] #[]]) (c_slices_EqualFunc_Post_Post_Post_Post_IndexOk_1 v0.2 x_v0.2 r7.2 x9.2 h11) rfl (EntsB.cons (Ent.b (Ent.dimm Ent.z)) (EntsB.cons (EntB.tree (Has.here.there.app F)) EntsB.nil)))) ?_
  refine w_pu (v := .bool (r10)) rfl (by decide) rfl rfl rfl (p_pickT rfl rfl) ?_
  refine w_pu (v := .bool (r10)) rfl (by decide) rfl rfl rfl (p_assign rfl) ?_
  refine w_nil ?_
  show At _ _ _ _ _ _
  refine nT (?_)
  refine tRet ?_
  have hr := Option.some.inj H; subst hr
  exact back1 () rfl (ResV.tmp (v := .bool (r10)) rfl) rfl Ents.nil Take.nil
 ·have H := cdF h6 H
  refine tNwS [(1, .pointer (some ⟨g3, 0, none⟩))] 1 [0, 1, 2, 3, 4, 5, 6, 7, 8, 9, 10, 11, 12] [] [] Try.mixed (by kernel_rfl) (by decide) List.nodup_nil ⟨rfl, trivial⟩ rfl okNil ?_
  refine w_pu (v := .pointer (some ⟨g3, 0, none⟩)) rfl (by decide) rfl rfl rfl (p_fabE fa26_0 rfl rfl) ?_
  refine w_q (v := .slice x_v0.1.1 v0.1.length x_v0.1.2) rfl (by decide) rfl rfl rfl (fun F => (q_ldb ty23 rfl (Has.here.app F) rfl)) ?_
  refine w_q (v := .bool (r4)) rfl (by decide) rfl rfl rfl (fun F => (q_call (vs := [.slice x_v0.1.1 v0.1.length x_v0.1.2]) (c_impl_namesOk v0.1 x_v0.1 h5) rfl (EntsB.cons (Ent.b (Ent.dimm Ent.z.s)) EntsB.nil))) ?_
  refine w_pu (v := .bool (false)) rfl (by decide) rfl rfl rfl ((Pu.eqv (v := .bool (r4)) (p_move rfl) (congrArg Value.bool h6))) ?_
  refine w_skip rfl (by decide) rfl rfl rfl ?_
  refine w_skip rfl (by decide) rfl rfl rfl ?_
  refine w_skip rfl (by decide) rfl rfl rfl ?_
  refine w_skip rfl (by decide) rfl rfl rfl ?_
  refine w_skip rfl (by decide) rfl rfl rfl ?_
  refine w_skip rfl (by decide) rfl rfl rfl ?_
  refine w_skip rfl (by decide) rfl rfl rfl ?_
  refine w_pu (v := .bool (false)) rfl (by decide) rfl rfl rfl (p_pickF rfl rfl) ?_
  refine w_pu (v := .bool (false)) rfl (by decide) rfl rfl rfl (p_assign rfl) ?_
  refine w_nil ?_
  show At _ _ _ _ _ _
  refine nT (?_)
  refine tRet ?_
  have hr := Option.some.inj H; subst hr
  exact back1 () rfl (ResV.tmp (v := .bool (false)) rfl) rfl Ents.nil Take.nil
noncomputable def p_laws_eqTag (v0 : Tag) (v1 : Tag) : Option (Bool) := cond (!decide (v0.1 = v1.1)) (some false) (cond (!decide (v0.2 = v1.2)) (some false) (some true))
theorem c_laws_eqTag {r : Bool} (v0 : Tag) (v1 : Tag) (H : p_laws_eqTag v0 v1 = some r) : Fn' Try.prog 92 #[.agg #[.string (v0.1), .string (v0.2)], .agg #[.string (v1.1), .string (v1.2)]] [] [] (ι := Unit) (fun _ => .bool (r)) (fun _ => []) (fun _ => []) := by
 refine calls_of (args := [_, _]) Try.func92 rfl (by kernel_rfl) Try.ntmps92 (by simp) fun c => ?_
 unfold p_laws_eqTag at H
 refine Tr.seq (Tr.region ?_)
 refine Rg.ed (e_box (t := 30) (v := .agg #[.string (v0.1), .string (v0.2)]) rfl) rfl (by decide) ?_
 rintro _ _ _ ⟨g1, rfl, rfl, rfl⟩
 refine Rg.ed (e_box (t := 30) (v := .agg #[.string (v1.1), .string (v1.2)]) rfl) rfl (by decide) ?_
 rintro _ _ _ ⟨g2, rfl, rfl, rfl⟩
 refine Rg.q (v := .bool (false)) (Pu.qo (p_assign rfl)) (by decide) ?_
 refine Rg.nl (nT ?_)
 refine Tr.seq (Tr.seq (Tr.region ?_))
 refine Rg.q (v := .pointer (some ⟨g1, 0, none⟩)) (Pu.qo (p_fabE fa30_0 rfl rfl)) (by decide) ?_
 refine Rg.q (v := .string (v0.1)) (q_ldb ty9 rfl Has.here.there rfl) (by decide) ?_
 refine Rg.q (v := .pointer (some ⟨g2, 0, none⟩)) (Pu.qo (p_fabE fa30_0 rfl rfl)) (by decide) ?_
 refine Rg.q (v := .string (v1.1)) (q_ldb ty9 rfl Has.here rfl) (by decide) ?_
 refine Rg.q (v := .bool (!decide (v0.1 = v1.1))) (Pu.qo (p_sneq rfl rfl)) (by decide) ?_
 refine Rg.nl (nT ?_)
 refine Tr.cond (b := !decide (v0.1 = v1.1)) rfl (fun h3 => ?_) (fun h3 => ?_)
 ·have H := cdT h3 H
  refine Tr.seq (Tr.region ?_)
  refine Rg.q (v := .bool (false)) (Pu.qo (p_assign rfl)) (by decide) ?_
  refine Rg.nl (nT ?_)
  refine tRet ?_
  refine rT (?_)
  have hr := Option.some.inj H; subst hr
  exact back1 () rfl (ResV.tmp (v := .bool (false)) rfl) rfl Ents.nil Take.nil
 ·have H := cdF h3 H
  refine tSkip ?_
  refine nT (?_)
  refine Tr.seq (Tr.seq (Tr.region ?_))
  refine Rg.q (v := .pointer (some ⟨g1, 1, none⟩)) (Pu.qo (p_fabE fa30_1 rfl rfl)) (by decide) ?_
  refine Rg.q (v := .string (v0.2)) (q_ldb ty9 rfl Has.here.there rfl) (by decide) ?_
  refine Rg.q (v := .pointer (some ⟨g2, 1, none⟩)) (Pu.qo (p_fabE fa30_1 rfl rfl)) (by decide) ?_
  refine Rg.q (v := .string (v1.2)) (q_ldb ty9 rfl Has.here rfl) (by decide) ?_
  refine Rg.q (v := .bool (!decide (v0.2 = v1.2))) (Pu.qo (p_sneq rfl rfl)) (by decide) ?_
  refine Rg.nl (nT ?_)
  refine Tr.cond (b := !decide (v0.2 = v1.2)) rfl (fun h4 => ?_) (fun h4 => ?_)
  ·have H := cdT h4 H
   refine Tr.seq (Tr.region ?_)
   refine Rg.q (v := .bool (false)) (Pu.qo (p_assign rfl)) (by decide) ?_
   refine Rg.nl (nT ?_)
   refine tRet ?_
   refine rT (?_)
   have hr := Option.some.inj H; subst hr
   exact back1 () rfl (ResV.tmp (v := .bool (false)) rfl) rfl Ents.nil Take.nil
  ·have H := cdF h4 H
   refine tSkip ?_
   refine nT (?_)
   refine Tr.seq (Tr.region ?_)
   refine Rg.q (v := .bool (true)) (Pu.qo (p_assign rfl)) (by decide) ?_
   refine Rg.nl (nT ?_)
   refine tRet ?_
   have hr := Option.some.inj H; subst hr
   exact back1 () rfl (ResV.tmp (v := .bool (true)) rfl) rfl Ents.nil Take.nil
noncomputable def p_laws_eqTagS_b0 (v0 : (List Tag)) (v1 : (List Tag)) (Q6 : Int) : Option ((Int) ⊕ (Unit ⊕ Bool)) := cond (decide (Q6 < (v0.length : Int))) (gd (ix Q6 v0.length) <| gd (ix Q6 v1.length) <| bd (p_laws_eqTag (nth v0 Q6.toNat) (nth v1 Q6.toNat)) fun r17 => cond (!r17) (some (.inr (.inr false))) (gd (I64 (Q6 + 1)) <| some (.inl (Q6 + 1)))) (some (.inr (.inl ())))
noncomputable def p_laws_eqTagS (v0 : (List Tag)) (v1 : (List Tag)) : Option (Bool) := cond (!decide ((v0.length : Int) = (v1.length : Int))) (some false) (bd (lp (p_laws_eqTagS_b0 v0 v1) 0) <| sw (fun _ => some true) (fun q => some q))
theorem c_laws_eqTagS {r : Bool} (v0 : (List Tag)) (x_v0 : Option Addr × Nat) (v1 : (List Tag)) (x_v1 : Option Addr × Nat) (H : p_laws_eqTagS v0 v1 = some r) : Fn' Try.prog 47 #[.slice x_v0.1 v0.length x_v0.2, .slice x_v1.1 v1.length x_v1.2] [imm (.slice x_v0.1 v0.length x_v0.2) v0, imm (.slice x_v1.1 v1.length x_v1.2) v1] [] (ι := Unit) (fun _ => .bool (r)) (fun _ => []) (fun _ => []) := by
 refine calls_of (args := [_, _]) Try.func47 rfl (by kernel_rfl) Try.ntmps47 (by simp) fun c => ?_
 unfold p_laws_eqTagS at H
 refine Tr.seq (Tr.region ?_)
 refine Rg.q (v := .bool (false)) (Pu.qo (p_assign rfl)) (by decide) ?_
 refine Rg.nl (nT ?_)
 refine Tr.seq (Tr.seq (Tr.region ?_))
 refine Rg.q (v := .slice x_v0.1 v0.length x_v0.2) (Pu.qo (p_move rfl)) (by decide) ?_
 refine Rg.q (v := .int .i64 ((v0.length : Int))) (Pu.qo (p_len 30 Try.underlying38 rfl)) (by decide) ?_
 refine Rg.q (v := .slice x_v1.1 v1.length x_v1.2) (Pu.qo (p_move rfl)) (by decide) ?_
 refine Rg.q (v := .int .i64 ((v1.length : Int))) (Pu.qo (p_len 30 Try.underlying38 rfl)) (by decide) ?_
 refine Rg.q (v := .bool (!decide ((v0.length : Int) = (v1.length : Int)))) (Pu.qo (p_neq rfl rfl)) (by decide) ?_
 refine Rg.nl (nT ?_)
 refine Tr.cond (b := !decide ((v0.length : Int) = (v1.length : Int))) rfl (fun h1 => ?_) (fun h1 => ?_)
 ·have H := cdT h1 H
  refine Tr.seq (Tr.region ?_)
  refine Rg.q (v := .bool (false)) (Pu.qo (p_assign rfl)) (by decide) ?_
  refine Rg.nl (nT ?_)
  refine tRet ?_
  refine rT (?_)
  have hr := Option.some.inj H; subst hr
  exact back1 () rfl (ResV.tmp (v := .bool (false)) rfl) rfl Ents.nil Take.nil
 ·have H := cdF h1 H
  refine tSkip ?_
  refine nT (?_)
  refine Tr.seq (Tr.seq (Tr.region ?_))
  refine Rg.q (v := .int .i64 (0)) (Pu.qo (p_assign rfl)) (by decide) ?_
  refine Rg.nl (nT ?_)
  obtain ⟨x2, hx3, H⟩ := bd.of H
  obtain ⟨n4, hx3⟩ := lp.of hx3
  refine tMidNC (ι := { q : (Unit) × Unit // x2 = .inl q.1 }) (fun ψ => []) (fun ψ => []) ?_ ?_
  ·refine Tr.block ?_
   refine tLoopC (ι := { q : Nat × (Int) × Unit // itr (p_laws_eqTagS_b0 v0 v1) q.1 q.2.1 = some x2 }) (fun ζ => [(0, .slice x_v0.1 v0.length x_v0.2), (1, .slice x_v1.1 v1.length x_v1.2), (5, .int .i64 (ζ.1.2.1))]) (fun ζ => []) (fun ζ => ζ.1.1) ⟨(n4, 0, ()), hx3⟩ ⟨rfl, rfl, rfl, trivial⟩ Take.nil ?_
   rintro ⟨⟨m5, Q6, z7⟩, hk12⟩
   obtain ⟨m13, t9, e, H1, hi10, hb11⟩ := itr.of (n := m5) (s := Q6) hk12
   subst e; unfold p_laws_eqTagS_b0 at H1
   show Tr _ _ _ _ _ [(0, .slice x_v0.1 v0.length x_v0.2), (1, .slice x_v1.1 v1.length x_v1.2), (5, .int .i64 (Q6))] _ []
   refine Tr.seq (Tr.seq (Tr.region ?_))
   refine Rg.q (v := .int .i64 (Q6)) (Pu.qo (p_move rfl)) (by decide) ?_
   refine Rg.q (v := .slice x_v0.1 v0.length x_v0.2) (Pu.qo (p_move rfl)) (by decide) ?_
   refine Rg.q (v := .int .i64 ((v0.length : Int))) (Pu.qo (p_len 30 Try.underlying38 rfl)) (by decide) ?_
   refine Rg.q (v := .bool (decide (Q6 < (v0.length : Int)))) (Pu.qo (p_lss rfl rfl)) (by decide) ?_
   refine Rg.nl (nT ?_)
   refine Tr.cond (b := decide (Q6 < (v0.length : Int))) rfl (fun h14 => ?_) (fun h14 => ?_)
   ·have H1 := cdT h14 H1
    refine tSkip ?_
    refine nT (Tr.seq ?_)
    refine Tr.block ?_
    refine Tr.seq ?_
    refine tLinS [(0, .slice x_v0.1 v0.length x_v0.2), (1, .slice x_v1.1 v1.length x_v1.2), (5, .int .i64 (Q6))] Try.mixed (.inr (by kernel_rfl)) ⟨rfl, rfl, rfl, trivial⟩ rfl ?_
    refine Lin.q (v := .slice x_v0.1 v0.length x_v0.2) (by decide) (Pu.qo (p_move rfl)) ?_
    refine Lin.q (v := .int .i64 (Q6)) (by decide) (Pu.qo (p_move rfl)) ?_
    obtain ⟨h15, H1⟩ := gd.of H1
    refine Lin.q (v := elp x_v0.1 (Q6.toNat * Enc.sz Tag + 0)) (by decide) (q_ixg (l := v0) (E := fun i => Flat.enc (nth v0 i)) (oa := x_v0.1) Try.underlying38 ty30 rfl rfl h15 rfl (EntB.flat (Ent.b Ent.z))) ?_
    refine Lin.q (v := .agg #[.string ((nth v0 Q6.toNat).1), .string ((nth v0 Q6.toNat).2)]) (by decide) (q_ldeA (l := v0) (E := fun i => Flat.enc (nth v0 i)) (oa := x_v0.1) (i := Q6.toNat) ty30 rfl (EntB.flat (Ent.b Ent.z)) h15.lt) ?_
    refine Lin.q (v := .slice x_v1.1 v1.length x_v1.2) (by decide) (Pu.qo (p_move rfl)) ?_
    refine Lin.q (v := .int .i64 (Q6)) (by decide) (Pu.qo (p_move rfl)) ?_
    obtain ⟨h16, H1⟩ := gd.of H1
    refine Lin.q (v := elp x_v1.1 (Q6.toNat * Enc.sz Tag + 0)) (by decide) (q_ixg (l := v1) (E := fun i => Flat.enc (nth v1 i)) (oa := x_v1.1) Try.underlying38 ty30 rfl rfl h16 rfl (EntB.flat (Ent.b Ent.z.s))) ?_
    refine Lin.q (v := .agg #[.string ((nth v1 Q6.toNat).1), .string ((nth v1 Q6.toNat).2)]) (by decide) (q_ldeA (l := v1) (E := fun i => Flat.enc (nth v1 i)) (oa := x_v1.1) (i := Q6.toNat) ty30 rfl (EntB.flat (Ent.b Ent.z.s)) h16.lt) ?_
    obtain ⟨r17, h18, H1⟩ := bd.of H1
    refine Lin.q (v := .bool (r17)) (by decide) (q_call (vs := [.agg #[.string ((nth v0 Q6.toNat).1), .string ((nth v0 Q6.toNat).2)], .agg #[.string ((nth v1 Q6.toNat).1), .string ((nth v1 Q6.toNat).2)]]) (c_laws_eqTag (nth v0 Q6.toNat) (nth v1 Q6.toNat) h18) rfl EntsB.nil) ?_
    refine Lin.q (v := .bool (!r17)) (by decide) (Pu.qo (p_not rfl)) ?_
    show At _ _ _ _ _ _
    refine nT (?_)
    refine Tr.cond (b := !r17) rfl (fun h19 => ?_) (fun h19 => ?_)
    ·have H1 := cdT h19 H1
     refine Tr.seq (Tr.region ?_)
     refine Rg.q (v := .bool (false)) (Pu.qo (p_assign rfl)) (by decide) ?_
     refine Rg.nl (nT ?_)
     refine tRet ?_
     refine rB (rT (rT (rB (rT (rT (?_))))))
     have hx := hb11 _ (Option.some.inj H1).symm; subst hx
     replace H := sw.r H
     have hr := Option.some.inj H; subst hr
     exact back1 () rfl (ResV.tmp (v := .bool (false)) rfl) rfl Ents.nil Take.nil
    ·have H1 := cdF h19 H1
     refine tSkip ?_
     refine nB (nT (?_))
     refine Tr.region ?_
     refine Rg.q (v := .int .i64 (Q6)) (Pu.qo (p_move rfl)) (by decide) ?_
     obtain ⟨h20, H1⟩ := gd.of H1
     refine Rg.q (v := .int .i64 (Q6 + 1)) (Pu.qo (p_add rfl rfl h20)) (by decide) ?_
     refine Rg.q (v := .int .i64 (Q6 + 1)) (Pu.qo (p_assign rfl)) (by decide) ?_
     refine Rg.nl ?_
     exact nLC ⟨(m13, Q6 + 1, ()), hi10 _ (Option.some.inj H1).symm⟩ (Nat.lt_succ_self _) ⟨rfl, rfl, rfl, trivial⟩ Ents.refl Take.nil
   ·have H1 := cdF h14 H1
    refine tExit (xT (xT (xE (?_))))
    exact nMC ⟨((), ()), (hb11 _ (Option.some.inj H1).symm).symm⟩ trivial Ents.refl Take.nil
  ·rintro ⟨⟨e21, y8⟩, hx⟩; subst hx; replace H := sw.l H
   show At _ _ [] _ [] _
   refine nT (?_)
   refine Tr.seq (Tr.region ?_)
   refine Rg.q (v := .bool (true)) (Pu.qo (p_assign rfl)) (by decide) ?_
   refine Rg.nl (nT ?_)
   refine tRet ?_
   have hr := Option.some.inj H; subst hr
   exact back1 () rfl (ResV.tmp (v := .bool (true)) rfl) rfl Ents.nil Take.nil
noncomputable def p_laws_eqTagSS_b0 (v0 : (List (List Tag))) (v1 : (List (List Tag))) (Q8 : Int) : Option ((Int) ⊕ (Unit ⊕ Bool)) := cond (decide (Q8 < (v0.length : Int))) (gd (ix Q8 v0.length) <| gd (ix Q8 v1.length) <| bd (p_laws_eqTagS (nth v0 Q8.toNat) (nth v1 Q8.toNat)) fun r19 => cond (!r19) (some (.inr (.inr false))) (gd (I64 (Q8 + 1)) <| some (.inl (Q8 + 1)))) (some (.inr (.inl ())))
noncomputable def p_laws_eqTagSS (v0 : (List (List Tag))) (v1 : (List (List Tag))) : Option (Bool) := cond (!decide ((v0.length : Int) = (v1.length : Int))) (some false) (bd (lp (p_laws_eqTagSS_b0 v0 v1) 0) <| sw (fun _ => some true) (fun q => some q))
theorem c_laws_eqTagSS {r : Bool} (v0 : (List (List Tag))) (x_v0 : Option Addr × Nat) (v1 : (List (List Tag))) (x_v1 : Option Addr × Nat) (H : p_laws_eqTagSS v0 v1 = some r) : Fn' Try.prog 84 #[.slice x_v0.1 v0.length x_v0.2, .slice x_v1.1 v1.length x_v1.2] [imm (.slice x_v0.1 v0.length x_v0.2) v0, imm (.slice x_v1.1 v1.length x_v1.2) v1] [] (ι := Unit) (fun _ => .bool (r)) (fun _ => []) (fun _ => []) := by
 refine calls_of (args := [_, _]) Try.func84 rfl (by kernel_rfl) Try.ntmps84 (by simp) fun c => ?_
 unfold p_laws_eqTagSS at H
 refine Tr.openD Ent.z fun X1 => ?_
 refine Tr.openD Ent.z.s.s fun X2 => ?_
 refine Tr.seq (Tr.region ?_)
 refine Rg.q (v := .bool (false)) (Pu.qo (p_assign rfl)) (by decide) ?_
 refine Rg.nl (nT ?_)
 refine Tr.seq (Tr.seq (Tr.region ?_))
 refine Rg.q (v := .slice x_v0.1 v0.length x_v0.2) (Pu.qo (p_move rfl)) (by decide) ?_
 refine Rg.q (v := .int .i64 ((v0.length : Int))) (Pu.qo (p_len 38 Try.underlying23 rfl)) (by decide) ?_
 refine Rg.q (v := .slice x_v1.1 v1.length x_v1.2) (Pu.qo (p_move rfl)) (by decide) ?_
 refine Rg.q (v := .int .i64 ((v1.length : Int))) (Pu.qo (p_len 38 Try.underlying23 rfl)) (by decide) ?_
 refine Rg.q (v := .bool (!decide ((v0.length : Int) = (v1.length : Int)))) (Pu.qo (p_neq rfl rfl)) (by decide) ?_
 refine Rg.nl (nT ?_)
 refine Tr.cond (b := !decide ((v0.length : Int) = (v1.length : Int))) rfl (fun h3 => ?_) (fun h3 => ?_)
 ·have H := cdT h3 H
  refine Tr.seq (Tr.region ?_)
  refine Rg.q (v := .bool (false)) (Pu.qo (p_assign rfl)) (by decide) ?_
  refine Rg.nl (nT ?_)
  refine tRet ?_
  refine rT (?_)
  have hr := Option.some.inj H; subst hr
  exact back1 () rfl (ResV.tmp (v := .bool (false)) rfl) rfl Ents.nil Take.nil
 ·have H := cdF h3 H
  refine tSkip ?_
  refine nT (?_)
  refine Tr.seq (Tr.seq (Tr.region ?_))
  refine Rg.q (v := .int .i64 (0)) (Pu.qo (p_assign rfl)) (by decide) ?_
  refine Rg.nl (nT ?_)
  obtain ⟨x4, hx5, H⟩ := bd.of H
  obtain ⟨n6, hx5⟩ := lp.of hx5
  refine tMidNC (ι := { q : (Unit) × Unit // x4 = .inl q.1 }) (fun ψ => []) (fun ψ => []) ?_ ?_
  ·refine Tr.block ?_
   refine tLoopC (ι := { q : Nat × (Int) × Unit // itr (p_laws_eqTagSS_b0 v0 v1) q.1 q.2.1 = some x4 }) (fun ζ => [(0, .slice x_v0.1 v0.length x_v0.2), (1, .slice x_v1.1 v1.length x_v1.2), (5, .int .i64 (ζ.1.2.1))]) (fun ζ => []) (fun ζ => ζ.1.1) ⟨(n6, 0, ()), hx5⟩ ⟨rfl, rfl, rfl, trivial⟩ Take.nil ?_
   rintro ⟨⟨m7, Q8, z9⟩, hk14⟩
   obtain ⟨m15, t11, e, H1, hi12, hb13⟩ := itr.of (n := m7) (s := Q8) hk14
   subst e; unfold p_laws_eqTagSS_b0 at H1
   show Tr _ _ _ _ _ [(0, .slice x_v0.1 v0.length x_v0.2), (1, .slice x_v1.1 v1.length x_v1.2), (5, .int .i64 (Q8))] _ []
   refine Tr.seq (Tr.seq (Tr.region ?_))
   refine Rg.q (v := .int .i64 (Q8)) (Pu.qo (p_move rfl)) (by decide) ?_
   refine Rg.q (v := .slice x_v0.1 v0.length x_v0.2) (Pu.qo (p_move rfl)) (by decide) ?_
   refine Rg.q (v := .int .i64 ((v0.length : Int))) (Pu.qo (p_len 38 Try.underlying23 rfl)) (by decide) ?_
   refine Rg.q (v := .bool (decide (Q8 < (v0.length : Int)))) (Pu.qo (p_lss rfl rfl)) (by decide) ?_
   refine Rg.nl (nT ?_)
   refine Tr.cond (b := decide (Q8 < (v0.length : Int))) rfl (fun h16 => ?_) (fun h16 => ?_)
   ·have H1 := cdT h16 H1
    refine tSkip ?_
    refine nT (Tr.seq ?_)
    refine Tr.block ?_
    refine Tr.seq ?_
    refine tLinS [(0, .slice x_v0.1 v0.length x_v0.2), (1, .slice x_v1.1 v1.length x_v1.2), (5, .int .i64 (Q8))] Try.mixed (.inr (by kernel_rfl)) ⟨rfl, rfl, rfl, trivial⟩ rfl ?_
    refine Lin.q (v := .slice x_v0.1 v0.length x_v0.2) (by decide) (Pu.qo (p_move rfl)) ?_
    refine Lin.q (v := .int .i64 (Q8)) (by decide) (Pu.qo (p_move rfl)) ?_
    obtain ⟨h17, H1⟩ := gd.of H1
    refine Lin.q (v := elp x_v0.1 (Q8.toNat * Enc.sz (List Tag) + 0)) (by decide) (q_ixg (l := v0) (E := fun i => Dp.denc (nth v0 i) (X1 i)) (oa := x_v0.1) Try.underlying23 ty38 rfl rfl h17 rfl (Ent.b (Ent.darr Ent.z.s))) ?_
    refine Lin.q (v := .slice ((X1 Q8.toNat).1) ((nth v0 Q8.toNat).length) ((X1 Q8.toNat).2.1)) (by decide) (q_lde (l := v0) (E := fun i => Dp.denc (nth v0 i) (X1 i)) (oa := x_v0.1) (i := Q8.toNat) (j := 0) ty38 rfl (Ent.b (Ent.darr Ent.z.s)) h17.lt rfl) ?_
    refine Lin.q (v := .slice x_v1.1 v1.length x_v1.2) (by decide) (Pu.qo (p_move rfl)) ?_
    refine Lin.q (v := .int .i64 (Q8)) (by decide) (Pu.qo (p_move rfl)) ?_
    obtain ⟨h18, H1⟩ := gd.of H1
    refine Lin.q (v := elp x_v1.1 (Q8.toNat * Enc.sz (List Tag) + 0)) (by decide) (q_ixg (l := v1) (E := fun i => Dp.denc (nth v1 i) (X2 i)) (oa := x_v1.1) Try.underlying23 ty38 rfl rfl h18 rfl (Ent.b (Ent.darr Ent.z))) ?_
    refine Lin.q (v := .slice ((X2 Q8.toNat).1) ((nth v1 Q8.toNat).length) ((X2 Q8.toNat).2.1)) (by decide) (q_lde (l := v1) (E := fun i => Dp.denc (nth v1 i) (X2 i)) (oa := x_v1.1) (i := Q8.toNat) (j := 0) ty38 rfl (Ent.b (Ent.darr Ent.z)) h18.lt rfl) ?_
    obtain ⟨r19, h20, H1⟩ := bd.of H1
    refine Lin.q (v := .bool (r19)) (by decide) (q_call (vs := [.slice ((X1 Q8.toNat).1) ((nth v0 Q8.toNat).length) ((X1 Q8.toNat).2.1), .slice ((X2 Q8.toNat).1) ((nth v1 Q8.toNat).length) ((X2 Q8.toNat).2.1)]) (c_laws_eqTagS (nth v0 Q8.toNat) ((X1 Q8.toNat).1, (X1 Q8.toNat).2.1) (nth v1 Q8.toNat) ((X2 Q8.toNat).1, (X2 Q8.toNat).2.1) h20) rfl (EntsB.cons (Ent.b (Ent.dimm (Ent.del Ent.z.s h17.lt))) (EntsB.cons (Ent.b (Ent.dimm (Ent.del Ent.z h18.lt))) EntsB.nil))) ?_
    refine Lin.q (v := .bool (!r19)) (by decide) (Pu.qo (p_not rfl)) ?_
    show At _ _ _ _ _ _
    refine nT (?_)
    refine Tr.cond (b := !r19) rfl (fun h21 => ?_) (fun h21 => ?_)
    ·have H1 := cdT h21 H1
     refine Tr.seq (Tr.region ?_)
     refine Rg.q (v := .bool (false)) (Pu.qo (p_assign rfl)) (by decide) ?_
     refine Rg.nl (nT ?_)
     refine tRet ?_
     refine rB (rT (rT (rB (rT (rT (?_))))))
     have hx := hb13 _ (Option.some.inj H1).symm; subst hx
     replace H := sw.r H
     have hr := Option.some.inj H; subst hr
     exact back1 () rfl (ResV.tmp (v := .bool (false)) rfl) rfl Ents.nil Take.nil
    ·have H1 := cdF h21 H1
     refine tSkip ?_
     refine nB (nT (?_))
     refine Tr.region ?_
     refine Rg.q (v := .int .i64 (Q8)) (Pu.qo (p_move rfl)) (by decide) ?_
     obtain ⟨h22, H1⟩ := gd.of H1
     refine Rg.q (v := .int .i64 (Q8 + 1)) (Pu.qo (p_add rfl rfl h22)) (by decide) ?_
     refine Rg.q (v := .int .i64 (Q8 + 1)) (Pu.qo (p_assign rfl)) (by decide) ?_
     refine Rg.nl ?_
     exact nLC ⟨(m15, Q8 + 1, ()), hi12 _ (Option.some.inj H1).symm⟩ (Nat.lt_succ_self _) ⟨rfl, rfl, rfl, trivial⟩ Ents.refl Take.nil
   ·have H1 := cdF h16 H1
    refine tExit (xT (xT (xE (?_))))
    exact nMC ⟨((), ()), (hb13 _ (Option.some.inj H1).symm).symm⟩ trivial Ents.refl Take.nil
  ·rintro ⟨⟨e23, y10⟩, hx⟩; subst hx; replace H := sw.l H
   show At _ _ [] _ [] _
   refine nT (?_)
   refine Tr.seq (Tr.region ?_)
   refine Rg.q (v := .bool (true)) (Pu.qo (p_assign rfl)) (by decide) ?_
   refine Rg.nl (nT ?_)
   refine tRet ?_
   have hr := Option.some.inj H; subst hr
   exact back1 () rfl (ResV.tmp (v := .bool (true)) rfl) rfl Ents.nil Take.nil
noncomputable def p_laws_eqIntS_b0 (v0 : (List Int)) (v1 : (List Int)) (Q6 : Int) : Option ((Int) ⊕ (Unit ⊕ Bool)) := cond (decide (Q6 < (v0.length : Int))) (gd (ix Q6 v0.length) <| gd (ix Q6 v1.length) <| cond (!decide ((nth v0 Q6.toNat) = (nth v1 Q6.toNat))) (some (.inr (.inr false))) (gd (I64 (Q6 + 1)) <| some (.inl (Q6 + 1)))) (some (.inr (.inl ())))
noncomputable def p_laws_eqIntS (v0 : (List Int)) (v1 : (List Int)) : Option (Bool) := cond (!decide ((v0.length : Int) = (v1.length : Int))) (some false) (bd (lp (p_laws_eqIntS_b0 v0 v1) 0) <| sw (fun _ => some true) (fun q => some q))
theorem c_laws_eqIntS {r : Bool} (v0 : (List Int)) (x_v0 : Option Addr × Nat) (v1 : (List Int)) (x_v1 : Option Addr × Nat) (H : p_laws_eqIntS v0 v1 = some r) : Fn' Try.prog 41 #[.slice x_v0.1 v0.length x_v0.2, .slice x_v1.1 v1.length x_v1.2] [imm (.slice x_v0.1 v0.length x_v0.2) v0, imm (.slice x_v1.1 v1.length x_v1.2) v1] [] (ι := Unit) (fun _ => .bool (r)) (fun _ => []) (fun _ => []) := by
 refine calls_of (args := [_, _]) Try.func41 rfl (by kernel_rfl) Try.ntmps41 (by simp) fun c => ?_
 unfold p_laws_eqIntS at H
 refine Tr.seq (Tr.region ?_)
 refine Rg.q (v := .bool (false)) (Pu.qo (p_assign rfl)) (by decide) ?_
 refine Rg.nl (nT ?_)
 refine Tr.seq (Tr.seq (Tr.region ?_))
 refine Rg.q (v := .slice x_v0.1 v0.length x_v0.2) (Pu.qo (p_move rfl)) (by decide) ?_
 refine Rg.q (v := .int .i64 ((v0.length : Int))) (Pu.qo (p_len 3 Try.underlying31 rfl)) (by decide) ?_
 refine Rg.q (v := .slice x_v1.1 v1.length x_v1.2) (Pu.qo (p_move rfl)) (by decide) ?_
 refine Rg.q (v := .int .i64 ((v1.length : Int))) (Pu.qo (p_len 3 Try.underlying31 rfl)) (by decide) ?_
 refine Rg.q (v := .bool (!decide ((v0.length : Int) = (v1.length : Int)))) (Pu.qo (p_neq rfl rfl)) (by decide) ?_
 refine Rg.nl (nT ?_)
 refine Tr.cond (b := !decide ((v0.length : Int) = (v1.length : Int))) rfl (fun h1 => ?_) (fun h1 => ?_)
 ·have H := cdT h1 H
  refine Tr.seq (Tr.region ?_)
  refine Rg.q (v := .bool (false)) (Pu.qo (p_assign rfl)) (by decide) ?_
  refine Rg.nl (nT ?_)
  refine tRet ?_
  refine rT (?_)
  have hr := Option.some.inj H; subst hr
  exact back1 () rfl (ResV.tmp (v := .bool (false)) rfl) rfl Ents.nil Take.nil
 ·have H := cdF h1 H
  refine tSkip ?_
  refine nT (?_)
  refine Tr.seq (Tr.seq (Tr.region ?_))
  refine Rg.q (v := .int .i64 (0)) (Pu.qo (p_assign rfl)) (by decide) ?_
  refine Rg.nl (nT ?_)
  obtain ⟨x2, hx3, H⟩ := bd.of H
  obtain ⟨n4, hx3⟩ := lp.of hx3
  refine tMidNC (ι := { q : (Unit) × Unit // x2 = .inl q.1 }) (fun ψ => []) (fun ψ => []) ?_ ?_
  ·refine Tr.block ?_
   refine tLoopC (ι := { q : Nat × (Int) × Unit // itr (p_laws_eqIntS_b0 v0 v1) q.1 q.2.1 = some x2 }) (fun ζ => [(0, .slice x_v0.1 v0.length x_v0.2), (1, .slice x_v1.1 v1.length x_v1.2), (5, .int .i64 (ζ.1.2.1))]) (fun ζ => []) (fun ζ => ζ.1.1) ⟨(n4, 0, ()), hx3⟩ ⟨rfl, rfl, rfl, trivial⟩ Take.nil ?_
   rintro ⟨⟨m5, Q6, z7⟩, hk12⟩
   obtain ⟨m13, t9, e, H1, hi10, hb11⟩ := itr.of (n := m5) (s := Q6) hk12
   subst e; unfold p_laws_eqIntS_b0 at H1
   show Tr _ _ _ _ _ [(0, .slice x_v0.1 v0.length x_v0.2), (1, .slice x_v1.1 v1.length x_v1.2), (5, .int .i64 (Q6))] _ []
   refine Tr.seq (Tr.seq (Tr.region ?_))
   refine Rg.q (v := .int .i64 (Q6)) (Pu.qo (p_move rfl)) (by decide) ?_
   refine Rg.q (v := .slice x_v0.1 v0.length x_v0.2) (Pu.qo (p_move rfl)) (by decide) ?_
   refine Rg.q (v := .int .i64 ((v0.length : Int))) (Pu.qo (p_len 3 Try.underlying31 rfl)) (by decide) ?_
   refine Rg.q (v := .bool (decide (Q6 < (v0.length : Int)))) (Pu.qo (p_lss rfl rfl)) (by decide) ?_
   refine Rg.nl (nT ?_)
   refine Tr.cond (b := decide (Q6 < (v0.length : Int))) rfl (fun h14 => ?_) (fun h14 => ?_)
   ·have H1 := cdT h14 H1
    refine tSkip ?_
    refine nT (Tr.seq ?_)
    refine Tr.block ?_
    refine Tr.seq ?_
    refine tLinS [(0, .slice x_v0.1 v0.length x_v0.2), (1, .slice x_v1.1 v1.length x_v1.2), (5, .int .i64 (Q6))] Try.mixed (.inr (by kernel_rfl)) ⟨rfl, rfl, rfl, trivial⟩ rfl ?_
    refine Lin.q (v := .slice x_v0.1 v0.length x_v0.2) (by decide) (Pu.qo (p_move rfl)) ?_
    refine Lin.q (v := .int .i64 (Q6)) (by decide) (Pu.qo (p_move rfl)) ?_
    obtain ⟨h15, H1⟩ := gd.of H1
    refine Lin.q (v := elp x_v0.1 (Q6.toNat * Enc.sz Int + 0)) (by decide) (q_ixg (l := v0) (E := fun i => Flat.enc (nth v0 i)) (oa := x_v0.1) Try.underlying31 ty3 rfl rfl h15 rfl (EntB.flat (Ent.b Ent.z))) ?_
    refine Lin.q (v := .int .i64 (nth v0 Q6.toNat)) (by decide) (q_lde (l := v0) (E := fun i => Flat.enc (nth v0 i)) (oa := x_v0.1) (i := Q6.toNat) (j := 0) ty3 rfl (EntB.flat (Ent.b Ent.z)) h15.lt rfl) ?_
    refine Lin.q (v := .slice x_v1.1 v1.length x_v1.2) (by decide) (Pu.qo (p_move rfl)) ?_
    refine Lin.q (v := .int .i64 (Q6)) (by decide) (Pu.qo (p_move rfl)) ?_
    obtain ⟨h16, H1⟩ := gd.of H1
    refine Lin.q (v := elp x_v1.1 (Q6.toNat * Enc.sz Int + 0)) (by decide) (q_ixg (l := v1) (E := fun i => Flat.enc (nth v1 i)) (oa := x_v1.1) Try.underlying31 ty3 rfl rfl h16 rfl (EntB.flat (Ent.b Ent.z.s))) ?_
    refine Lin.q (v := .int .i64 (nth v1 Q6.toNat)) (by decide) (q_lde (l := v1) (E := fun i => Flat.enc (nth v1 i)) (oa := x_v1.1) (i := Q6.toNat) (j := 0) ty3 rfl (EntB.flat (Ent.b Ent.z.s)) h16.lt rfl) ?_
    refine Lin.q (v := .bool (!decide ((nth v0 Q6.toNat) = (nth v1 Q6.toNat)))) (by decide) (Pu.qo (p_neq rfl rfl)) ?_
    show At _ _ _ _ _ _
    refine nT (?_)
    refine Tr.cond (b := !decide ((nth v0 Q6.toNat) = (nth v1 Q6.toNat))) rfl (fun h17 => ?_) (fun h17 => ?_)
    ·have H1 := cdT h17 H1
     refine Tr.seq (Tr.region ?_)
     refine Rg.q (v := .bool (false)) (Pu.qo (p_assign rfl)) (by decide) ?_
     refine Rg.nl (nT ?_)
     refine tRet ?_
     refine rB (rT (rT (rB (rT (rT (?_))))))
     have hx := hb11 _ (Option.some.inj H1).symm; subst hx
     replace H := sw.r H
     have hr := Option.some.inj H; subst hr
     exact back1 () rfl (ResV.tmp (v := .bool (false)) rfl) rfl Ents.nil Take.nil
    ·have H1 := cdF h17 H1
     refine tSkip ?_
     refine nB (nT (?_))
     refine Tr.region ?_
     refine Rg.q (v := .int .i64 (Q6)) (Pu.qo (p_move rfl)) (by decide) ?_
     obtain ⟨h18, H1⟩ := gd.of H1
     refine Rg.q (v := .int .i64 (Q6 + 1)) (Pu.qo (p_add rfl rfl h18)) (by decide) ?_
     refine Rg.q (v := .int .i64 (Q6 + 1)) (Pu.qo (p_assign rfl)) (by decide) ?_
     refine Rg.nl ?_
     exact nLC ⟨(m13, Q6 + 1, ()), hi10 _ (Option.some.inj H1).symm⟩ (Nat.lt_succ_self _) ⟨rfl, rfl, rfl, trivial⟩ Ents.refl Take.nil
   ·have H1 := cdF h14 H1
    refine tExit (xT (xT (xE (?_))))
    exact nMC ⟨((), ()), (hb11 _ (Option.some.inj H1).symm).symm⟩ trivial Ents.refl Take.nil
  ·rintro ⟨⟨e19, y8⟩, hx⟩; subst hx; replace H := sw.l H
   show At _ _ [] _ [] _
   refine nT (?_)
   refine Tr.seq (Tr.region ?_)
   refine Rg.q (v := .bool (true)) (Pu.qo (p_assign rfl)) (by decide) ?_
   refine Rg.nl (nT ?_)
   refine tRet ?_
   have hr := Option.some.inj H; subst hr
   exact back1 () rfl (ResV.tmp (v := .bool (true)) rfl) rfl Ents.nil Take.nil
noncomputable def p_laws_eqPost (v0 : Post) (v1 : Post) : Option (Bool) := bd (p_laws_eqTag v0.1 v1.1) fun r3 => cond (!r3) (some false) (bd (p_laws_eqIntS v0.2 v1.2) fun r6 => cond (!r6) (some false) (some true))
theorem c_laws_eqPost {r : Bool} (v0 : Post) (x_v0 : (Unit × Unit) × (Option Addr × Nat)) (v1 : Post) (x_v1 : (Unit × Unit) × (Option Addr × Nat)) (H : p_laws_eqPost v0 v1 = some r) : Fn' Try.prog 127 #[.agg #[.string (v0.1.1), .string (v0.1.2), .slice x_v0.2.1 v0.2.length x_v0.2.2], .agg #[.string (v1.1.1), .string (v1.1.2), .slice x_v1.2.1 v1.2.length x_v1.2.2]] [imm (.slice x_v0.2.1 v0.2.length x_v0.2.2) v0.2, imm (.slice x_v1.2.1 v1.2.length x_v1.2.2) v1.2] [] (ι := Unit) (fun _ => .bool (r)) (fun _ => []) (fun _ => []) := by
 refine calls_of (args := [_, _]) Try.func127 rfl (by kernel_rfl) Try.ntmps127 (by simp) fun c => ?_
 unfold p_laws_eqPost at H
 refine Tr.seq (Tr.region ?_)
 refine Rg.ed (e_box (t := 33) (v := .agg #[.string (v0.1.1), .string (v0.1.2), .slice x_v0.2.1 v0.2.length x_v0.2.2]) rfl) rfl (by decide) ?_
 rintro _ _ _ ⟨g1, rfl, rfl, rfl⟩
 refine Rg.ed (e_box (t := 33) (v := .agg #[.string (v1.1.1), .string (v1.1.2), .slice x_v1.2.1 v1.2.length x_v1.2.2]) rfl) rfl (by decide) ?_
 rintro _ _ _ ⟨g2, rfl, rfl, rfl⟩
 refine Rg.q (v := .bool (false)) (Pu.qo (p_assign rfl)) (by decide) ?_
 refine Rg.nl (nT ?_)
 refine Tr.seq (Tr.seq (Tr.region ?_))
 refine Rg.q (v := .pointer (some ⟨g1, 0, none⟩)) (Pu.qo (p_fabE fa33_0 rfl rfl)) (by decide) ?_
 refine Rg.q (v := .agg #[.string (v0.1.1), .string (v0.1.2)]) (q_ldbP [.string (v0.1.1), .string (v0.1.2)] ty30 rfl Has.here.there rfl rfl) (by decide) ?_
 refine Rg.q (v := .pointer (some ⟨g2, 0, none⟩)) (Pu.qo (p_fabE fa33_0 rfl rfl)) (by decide) ?_
 refine Rg.q (v := .agg #[.string (v1.1.1), .string (v1.1.2)]) (q_ldbP [.string (v1.1.1), .string (v1.1.2)] ty30 rfl Has.here rfl rfl) (by decide) ?_
 obtain ⟨r3, h4, H⟩ := bd.of H
 refine Rg.q (v := .bool (r3)) (q_call (vs := [.agg #[.string (v0.1.1), .string (v0.1.2)], .agg #[.string (v1.1.1), .string (v1.1.2)]]) (c_laws_eqTag v0.1 v1.1 h4) rfl EntsB.nil) (by decide) ?_
 refine Rg.q (v := .bool (!r3)) (Pu.qo (p_not rfl)) (by decide) ?_
 refine Rg.nl (nT ?_)
 refine Tr.cond (b := !r3) rfl (fun h5 => ?_) (fun h5 => ?_)
 ·have H := cdT h5 H
  refine Tr.seq (Tr.region ?_)
  refine Rg.q (v := .bool (false)) (Pu.qo (p_assign rfl)) (by decide) ?_
  refine Rg.nl (nT ?_)
  refine tRet ?_
  refine rT (?_)
  have hr := Option.some.inj H; subst hr
  exact back1 () rfl (ResV.tmp (v := .bool (false)) rfl) rfl Ents.nil Take.nil
 ·have H := cdF h5 H
  refine tSkip ?_
  refine nT (?_)
  refine Tr.seq (Tr.seq (Tr.region ?_))
  refine Rg.q (v := .pointer (some ⟨g1, 2, none⟩)) (Pu.qo (p_fabE fa33_1 rfl rfl)) (by decide) ?_
  refine Rg.q (v := .slice x_v0.2.1 v0.2.length x_v0.2.2) (q_ldb ty31 rfl Has.here.there rfl) (by decide) ?_
  refine Rg.q (v := .pointer (some ⟨g2, 2, none⟩)) (Pu.qo (p_fabE fa33_1 rfl rfl)) (by decide) ?_
  refine Rg.q (v := .slice x_v1.2.1 v1.2.length x_v1.2.2) (q_ldb ty31 rfl Has.here rfl) (by decide) ?_
  obtain ⟨r6, h7, H⟩ := bd.of H
  refine Rg.q (v := .bool (r6)) (q_call (vs := [.slice x_v0.2.1 v0.2.length x_v0.2.2, .slice x_v1.2.1 v1.2.length x_v1.2.2]) (c_laws_eqIntS v0.2 x_v0.2 v1.2 x_v1.2 h7) rfl (EntsB.cons (Ent.b Ent.z) (EntsB.cons (Ent.b Ent.z.s) EntsB.nil))) (by decide) ?_
  refine Rg.q (v := .bool (!r6)) (Pu.qo (p_not rfl)) (by decide) ?_
  refine Rg.nl (nT ?_)
  refine Tr.cond (b := !r6) rfl (fun h8 => ?_) (fun h8 => ?_)
  ·have H := cdT h8 H
   refine Tr.seq (Tr.region ?_)
   refine Rg.q (v := .bool (false)) (Pu.qo (p_assign rfl)) (by decide) ?_
   refine Rg.nl (nT ?_)
   refine tRet ?_
   refine rT (?_)
   have hr := Option.some.inj H; subst hr
   exact back1 () rfl (ResV.tmp (v := .bool (false)) rfl) rfl Ents.nil Take.nil
  ·have H := cdF h8 H
   refine tSkip ?_
   refine nT (?_)
   refine Tr.seq (Tr.region ?_)
   refine Rg.q (v := .bool (true)) (Pu.qo (p_assign rfl)) (by decide) ?_
   refine Rg.nl (nT ?_)
   refine tRet ?_
   have hr := Option.some.inj H; subst hr
   exact back1 () rfl (ResV.tmp (v := .bool (true)) rfl) rfl Ents.nil Take.nil
noncomputable def p_laws_eqPostS_b0 (v0 : (List Post)) (v1 : (List Post)) (Q8 : Int) : Option ((Int) ⊕ (Unit ⊕ Bool)) := cond (decide (Q8 < (v0.length : Int))) (gd (ix Q8 v0.length) <| gd (ix Q8 v1.length) <| bd (p_laws_eqPost (nth v0 Q8.toNat) (nth v1 Q8.toNat)) fun r19 => cond (!r19) (some (.inr (.inr false))) (gd (I64 (Q8 + 1)) <| some (.inl (Q8 + 1)))) (some (.inr (.inl ())))
noncomputable def p_laws_eqPostS (v0 : (List Post)) (v1 : (List Post)) : Option (Bool) := cond (!decide ((v0.length : Int) = (v1.length : Int))) (some false) (bd (lp (p_laws_eqPostS_b0 v0 v1) 0) <| sw (fun _ => some true) (fun q => some q))
theorem c_laws_eqPostS {r : Bool} (v0 : (List Post)) (x_v0 : Option Addr × Nat) (v1 : (List Post)) (x_v1 : Option Addr × Nat) (H : p_laws_eqPostS v0 v1 = some r) : Fn' Try.prog 85 #[.slice x_v0.1 v0.length x_v0.2, .slice x_v1.1 v1.length x_v1.2] [imm (.slice x_v0.1 v0.length x_v0.2) v0, imm (.slice x_v1.1 v1.length x_v1.2) v1] [] (ι := Unit) (fun _ => .bool (r)) (fun _ => []) (fun _ => []) := by
 refine calls_of (args := [_, _]) Try.func85 rfl (by kernel_rfl) Try.ntmps85 (by simp) fun c => ?_
 unfold p_laws_eqPostS at H
 refine Tr.openD Ent.z fun X1 => ?_
 refine Tr.openD Ent.z.s.s fun X2 => ?_
 refine Tr.seq (Tr.region ?_)
 refine Rg.q (v := .bool (false)) (Pu.qo (p_assign rfl)) (by decide) ?_
 refine Rg.nl (nT ?_)
 refine Tr.seq (Tr.seq (Tr.region ?_))
 refine Rg.q (v := .slice x_v0.1 v0.length x_v0.2) (Pu.qo (p_move rfl)) (by decide) ?_
 refine Rg.q (v := .int .i64 ((v0.length : Int))) (Pu.qo (p_len 33 Try.underlying24 rfl)) (by decide) ?_
 refine Rg.q (v := .slice x_v1.1 v1.length x_v1.2) (Pu.qo (p_move rfl)) (by decide) ?_
 refine Rg.q (v := .int .i64 ((v1.length : Int))) (Pu.qo (p_len 33 Try.underlying24 rfl)) (by decide) ?_
 refine Rg.q (v := .bool (!decide ((v0.length : Int) = (v1.length : Int)))) (Pu.qo (p_neq rfl rfl)) (by decide) ?_
 refine Rg.nl (nT ?_)
 refine Tr.cond (b := !decide ((v0.length : Int) = (v1.length : Int))) rfl (fun h3 => ?_) (fun h3 => ?_)
 ·have H := cdT h3 H
  refine Tr.seq (Tr.region ?_)
  refine Rg.q (v := .bool (false)) (Pu.qo (p_assign rfl)) (by decide) ?_
  refine Rg.nl (nT ?_)
  refine tRet ?_
  refine rT (?_)
  have hr := Option.some.inj H; subst hr
  exact back1 () rfl (ResV.tmp (v := .bool (false)) rfl) rfl Ents.nil Take.nil
 ·have H := cdF h3 H
  refine tSkip ?_
  refine nT (?_)
  refine Tr.seq (Tr.seq (Tr.region ?_))
  refine Rg.q (v := .int .i64 (0)) (Pu.qo (p_assign rfl)) (by decide) ?_
  refine Rg.nl (nT ?_)
  obtain ⟨x4, hx5, H⟩ := bd.of H
  obtain ⟨n6, hx5⟩ := lp.of hx5
  refine tMidNC (ι := { q : (Unit) × Unit // x4 = .inl q.1 }) (fun ψ => []) (fun ψ => []) ?_ ?_
  ·refine Tr.block ?_
   refine tLoopC (ι := { q : Nat × (Int) × Unit // itr (p_laws_eqPostS_b0 v0 v1) q.1 q.2.1 = some x4 }) (fun ζ => [(0, .slice x_v0.1 v0.length x_v0.2), (1, .slice x_v1.1 v1.length x_v1.2), (5, .int .i64 (ζ.1.2.1))]) (fun ζ => []) (fun ζ => ζ.1.1) ⟨(n6, 0, ()), hx5⟩ ⟨rfl, rfl, rfl, trivial⟩ Take.nil ?_
   rintro ⟨⟨m7, Q8, z9⟩, hk14⟩
   obtain ⟨m15, t11, e, H1, hi12, hb13⟩ := itr.of (n := m7) (s := Q8) hk14
   subst e; unfold p_laws_eqPostS_b0 at H1
   show Tr _ _ _ _ _ [(0, .slice x_v0.1 v0.length x_v0.2), (1, .slice x_v1.1 v1.length x_v1.2), (5, .int .i64 (Q8))] _ []
   refine Tr.seq (Tr.seq (Tr.region ?_))
   refine Rg.q (v := .int .i64 (Q8)) (Pu.qo (p_move rfl)) (by decide) ?_
   refine Rg.q (v := .slice x_v0.1 v0.length x_v0.2) (Pu.qo (p_move rfl)) (by decide) ?_
   refine Rg.q (v := .int .i64 ((v0.length : Int))) (Pu.qo (p_len 33 Try.underlying24 rfl)) (by decide) ?_
   refine Rg.q (v := .bool (decide (Q8 < (v0.length : Int)))) (Pu.qo (p_lss rfl rfl)) (by decide) ?_
   refine Rg.nl (nT ?_)
   refine Tr.cond (b := decide (Q8 < (v0.length : Int))) rfl (fun h16 => ?_) (fun h16 => ?_)
   ·have H1 := cdT h16 H1
    refine tSkip ?_
    refine nT (Tr.seq ?_)
    refine Tr.block ?_
    refine Tr.seq ?_
    refine tLinS [(0, .slice x_v0.1 v0.length x_v0.2), (1, .slice x_v1.1 v1.length x_v1.2), (5, .int .i64 (Q8))] Try.mixed (.inr (by kernel_rfl)) ⟨rfl, rfl, rfl, trivial⟩ rfl ?_
    refine Lin.q (v := .slice x_v0.1 v0.length x_v0.2) (by decide) (Pu.qo (p_move rfl)) ?_
    refine Lin.q (v := .int .i64 (Q8)) (by decide) (Pu.qo (p_move rfl)) ?_
    obtain ⟨h17, H1⟩ := gd.of H1
    refine Lin.q (v := elp x_v0.1 (Q8.toNat * Enc.sz Post + 0)) (by decide) (q_ixg (l := v0) (E := fun i => Dp.denc (nth v0 i) (X1 i)) (oa := x_v0.1) Try.underlying24 ty33 rfl rfl h17 rfl (Ent.b (Ent.darr Ent.z.s))) ?_
    refine Lin.q (v := .agg #[.string (((nth v0 Q8.toNat).1).1), .string (((nth v0 Q8.toNat).1).2), .slice (((X1 Q8.toNat).2).1) (((nth v0 Q8.toNat).2).length) (((X1 Q8.toNat).2).2.1)]) (by decide) (q_ldeA (l := v0) (E := fun i => Dp.denc (nth v0 i) (X1 i)) (oa := x_v0.1) (i := Q8.toNat) ty33 rfl (Ent.b (Ent.darr Ent.z.s)) h17.lt) ?_
    refine Lin.q (v := .slice x_v1.1 v1.length x_v1.2) (by decide) (Pu.qo (p_move rfl)) ?_
    refine Lin.q (v := .int .i64 (Q8)) (by decide) (Pu.qo (p_move rfl)) ?_
    obtain ⟨h18, H1⟩ := gd.of H1
    refine Lin.q (v := elp x_v1.1 (Q8.toNat * Enc.sz Post + 0)) (by decide) (q_ixg (l := v1) (E := fun i => Dp.denc (nth v1 i) (X2 i)) (oa := x_v1.1) Try.underlying24 ty33 rfl rfl h18 rfl (Ent.b (Ent.darr Ent.z))) ?_
    refine Lin.q (v := .agg #[.string (((nth v1 Q8.toNat).1).1), .string (((nth v1 Q8.toNat).1).2), .slice (((X2 Q8.toNat).2).1) (((nth v1 Q8.toNat).2).length) (((X2 Q8.toNat).2).2.1)]) (by decide) (q_ldeA (l := v1) (E := fun i => Dp.denc (nth v1 i) (X2 i)) (oa := x_v1.1) (i := Q8.toNat) ty33 rfl (Ent.b (Ent.darr Ent.z)) h18.lt) ?_
    obtain ⟨r19, h20, H1⟩ := bd.of H1
    refine Lin.q (v := .bool (r19)) (by decide) (q_call (vs := [.agg #[.string (((nth v0 Q8.toNat).1).1), .string (((nth v0 Q8.toNat).1).2), .slice (((X1 Q8.toNat).2).1) (((nth v0 Q8.toNat).2).length) (((X1 Q8.toNat).2).2.1)], .agg #[.string (((nth v1 Q8.toNat).1).1), .string (((nth v1 Q8.toNat).1).2), .slice (((X2 Q8.toNat).2).1) (((nth v1 Q8.toNat).2).length) (((X2 Q8.toNat).2).2.1)]]) (c_laws_eqPost (nth v0 Q8.toNat) (((), ()), (((X1 Q8.toNat).2).1, ((X1 Q8.toNat).2).2.1)) (nth v1 Q8.toNat) (((), ()), (((X2 Q8.toNat).2).1, ((X2 Q8.toNat).2).2.1)) h20) rfl (EntsB.cons (Ent.b (Ent.dimm (Ent.dsnd (Ent.del Ent.z.s h17.lt)))) (EntsB.cons (Ent.b (Ent.dimm (Ent.dsnd (Ent.del Ent.z h18.lt)))) EntsB.nil))) ?_
    refine Lin.q (v := .bool (!r19)) (by decide) (Pu.qo (p_not rfl)) ?_
    show At _ _ _ _ _ _
    refine nT (?_)
    refine Tr.cond (b := !r19) rfl (fun h21 => ?_) (fun h21 => ?_)
    ·have H1 := cdT h21 H1
     refine Tr.seq (Tr.region ?_)
     refine Rg.q (v := .bool (false)) (Pu.qo (p_assign rfl)) (by decide) ?_
     refine Rg.nl (nT ?_)
     refine tRet ?_
     refine rB (rT (rT (rB (rT (rT (?_))))))
     have hx := hb13 _ (Option.some.inj H1).symm; subst hx
     replace H := sw.r H
     have hr := Option.some.inj H; subst hr
     exact back1 () rfl (ResV.tmp (v := .bool (false)) rfl) rfl Ents.nil Take.nil
    ·have H1 := cdF h21 H1
     refine tSkip ?_
     refine nB (nT (?_))
     refine Tr.region ?_
     refine Rg.q (v := .int .i64 (Q8)) (Pu.qo (p_move rfl)) (by decide) ?_
     obtain ⟨h22, H1⟩ := gd.of H1
     refine Rg.q (v := .int .i64 (Q8 + 1)) (Pu.qo (p_add rfl rfl h22)) (by decide) ?_
     refine Rg.q (v := .int .i64 (Q8 + 1)) (Pu.qo (p_assign rfl)) (by decide) ?_
     refine Rg.nl ?_
     exact nLC ⟨(m15, Q8 + 1, ()), hi12 _ (Option.some.inj H1).symm⟩ (Nat.lt_succ_self _) ⟨rfl, rfl, rfl, trivial⟩ Ents.refl Take.nil
   ·have H1 := cdF h16 H1
    refine tExit (xT (xT (xE (?_))))
    exact nMC ⟨((), ()), (hb13 _ (Option.some.inj H1).symm).symm⟩ trivial Ents.refl Take.nil
  ·rintro ⟨⟨e23, y10⟩, hx⟩; subst hx; replace H := sw.l H
   show At _ _ [] _ [] _
   refine nT (?_)
   refine Tr.seq (Tr.region ?_)
   refine Rg.q (v := .bool (true)) (Pu.qo (p_assign rfl)) (by decide) ?_
   refine Rg.nl (nT ?_)
   refine tRet ?_
   have hr := Option.some.inj H; subst hr
   exact back1 () rfl (ResV.tmp (v := .bool (true)) rfl) rfl Ents.nil Take.nil
noncomputable def p_laws_eqIndex (v0 : Index) (v1 : Index) : Option (Bool) := bd (p_laws_eqTagSS v0.1 v1.1) fun r7 => cond (!r7) (some false) (bd (p_laws_eqPostS v0.2 v1.2) fun r10 => cond (!r10) (some false) (some true))
theorem c_laws_eqIndex {r : Bool} (v0 : Index) (x_v0 : (Option Addr × Nat) × (Option Addr × Nat)) (v1 : Index) (x_v1 : (Option Addr × Nat) × (Option Addr × Nat)) (H : p_laws_eqIndex v0 v1 = some r) : Fn' Try.prog 32 #[.agg #[.slice x_v0.1.1 v0.1.length x_v0.1.2, .slice x_v0.2.1 v0.2.length x_v0.2.2], .agg #[.slice x_v1.1.1 v1.1.length x_v1.1.2, .slice x_v1.2.1 v1.2.length x_v1.2.2]] [imm (.slice x_v0.1.1 v0.1.length x_v0.1.2) v0.1, imm (.slice x_v0.2.1 v0.2.length x_v0.2.2) v0.2, imm (.slice x_v1.1.1 v1.1.length x_v1.1.2) v1.1, imm (.slice x_v1.2.1 v1.2.length x_v1.2.2) v1.2] [] (ι := Unit) (fun _ => .bool (r)) (fun _ => []) (fun _ => []) := by
 refine calls_of (args := [_, _]) Try.func32 rfl (by kernel_rfl) Try.ntmps32 (by simp) fun c => ?_
 unfold p_laws_eqIndex at H
 refine Tr.openD Ent.z fun X1 => ?_
 refine Tr.openD Ent.z.s.s fun X2 => ?_
 refine Tr.openD Ent.z.s.s.s.s fun X3 => ?_
 refine Tr.openD Ent.z.s.s.s.s.s.s fun X4 => ?_
 refine Tr.seq (Tr.region ?_)
 refine Rg.ed (e_box (t := 26) (v := .agg #[.slice x_v0.1.1 v0.1.length x_v0.1.2, .slice x_v0.2.1 v0.2.length x_v0.2.2]) rfl) rfl (by decide) ?_
 rintro _ _ _ ⟨g5, rfl, rfl, rfl⟩
 refine Rg.ed (e_box (t := 26) (v := .agg #[.slice x_v1.1.1 v1.1.length x_v1.1.2, .slice x_v1.2.1 v1.2.length x_v1.2.2]) rfl) rfl (by decide) ?_
 rintro _ _ _ ⟨g6, rfl, rfl, rfl⟩
 refine Rg.q (v := .bool (false)) (Pu.qo (p_assign rfl)) (by decide) ?_
 refine Rg.nl (nT ?_)
 refine Tr.seq (Tr.seq (Tr.region ?_))
 refine Rg.q (v := .pointer (some ⟨g5, 0, none⟩)) (Pu.qo (p_fabE fa26_0 rfl rfl)) (by decide) ?_
 refine Rg.q (v := .slice x_v0.1.1 v0.1.length x_v0.1.2) (q_ldb ty23 rfl Has.here.there rfl) (by decide) ?_
 refine Rg.q (v := .pointer (some ⟨g6, 0, none⟩)) (Pu.qo (p_fabE fa26_0 rfl rfl)) (by decide) ?_
 refine Rg.q (v := .slice x_v1.1.1 v1.1.length x_v1.1.2) (q_ldb ty23 rfl Has.here rfl) (by decide) ?_
 obtain ⟨r7, h8, H⟩ := bd.of H
 refine Rg.q (v := .bool (r7)) (q_call (vs := [.slice x_v0.1.1 v0.1.length x_v0.1.2, .slice x_v1.1.1 v1.1.length x_v1.1.2]) (c_laws_eqTagSS v0.1 x_v0.1 v1.1 x_v1.1 h8) rfl (EntsB.cons (Ent.b (Ent.dimm Ent.z.s.s.s)) (EntsB.cons (Ent.b (Ent.dimm Ent.z.s)) EntsB.nil))) (by decide) ?_
 refine Rg.q (v := .bool (!r7)) (Pu.qo (p_not rfl)) (by decide) ?_
 refine Rg.nl (nT ?_)
 refine Tr.cond (b := !r7) rfl (fun h9 => ?_) (fun h9 => ?_)
 ·have H := cdT h9 H
  refine Tr.seq (Tr.region ?_)
  refine Rg.q (v := .bool (false)) (Pu.qo (p_assign rfl)) (by decide) ?_
  refine Rg.nl (nT ?_)
  refine tRet ?_
  refine rT (?_)
  have hr := Option.some.inj H; subst hr
  exact back1 () rfl (ResV.tmp (v := .bool (false)) rfl) rfl Ents.nil Take.nil
 ·have H := cdF h9 H
  refine tSkip ?_
  refine nT (?_)
  refine Tr.seq (Tr.seq (Tr.region ?_))
  refine Rg.q (v := .pointer (some ⟨g5, 1, none⟩)) (Pu.qo (p_fabE fa26_1 rfl rfl)) (by decide) ?_
  refine Rg.q (v := .slice x_v0.2.1 v0.2.length x_v0.2.2) (q_ldb ty24 rfl Has.here.there rfl) (by decide) ?_
  refine Rg.q (v := .pointer (some ⟨g6, 1, none⟩)) (Pu.qo (p_fabE fa26_1 rfl rfl)) (by decide) ?_
  refine Rg.q (v := .slice x_v1.2.1 v1.2.length x_v1.2.2) (q_ldb ty24 rfl Has.here rfl) (by decide) ?_
  obtain ⟨r10, h11, H⟩ := bd.of H
  refine Rg.q (v := .bool (r10)) (q_call (vs := [.slice x_v0.2.1 v0.2.length x_v0.2.2, .slice x_v1.2.1 v1.2.length x_v1.2.2]) (c_laws_eqPostS v0.2 x_v0.2 v1.2 x_v1.2 h11) rfl (EntsB.cons (Ent.b (Ent.dimm Ent.z.s.s)) (EntsB.cons (Ent.b (Ent.dimm Ent.z)) EntsB.nil))) (by decide) ?_
  refine Rg.q (v := .bool (!r10)) (Pu.qo (p_not rfl)) (by decide) ?_
  refine Rg.nl (nT ?_)
  refine Tr.cond (b := !r10) rfl (fun h12 => ?_) (fun h12 => ?_)
  ·have H := cdT h12 H
   refine Tr.seq (Tr.region ?_)
   refine Rg.q (v := .bool (false)) (Pu.qo (p_assign rfl)) (by decide) ?_
   refine Rg.nl (nT ?_)
   refine tRet ?_
   refine rT (?_)
   have hr := Option.some.inj H; subst hr
   exact back1 () rfl (ResV.tmp (v := .bool (false)) rfl) rfl Ents.nil Take.nil
  ·have H := cdF h12 H
   refine tSkip ?_
   refine nT (?_)
   refine Tr.seq (Tr.region ?_)
   refine Rg.q (v := .bool (true)) (Pu.qo (p_assign rfl)) (by decide) ?_
   refine Rg.nl (nT ?_)
   refine tRet ?_
   have hr := Option.some.inj H; subst hr
   exact back1 () rfl (ResV.tmp (v := .bool (true)) rfl) rfl Ents.nil Take.nil
noncomputable def p_spec_IndexPost (v0 : Index) (v1 : Tag) : Option ((List Int)) := bd (p_spec_IndexOk v0) fun r5 => cond (!r5) (some ([] : List Int)) (bd (p_spec_l11Ids v0.1 v1) fun r10 => some r10)
theorem c_spec_IndexPost {r : (List Int)} (v0 : Index) (x_v0 : (Option Addr × Nat) × (Option Addr × Nat)) (v1 : Tag) (H : p_spec_IndexPost v0 v1 = some r) : Fn' Try.prog 39 #[.agg #[.slice x_v0.1.1 v0.1.length x_v0.1.2, .slice x_v0.2.1 v0.2.length x_v0.2.2], .agg #[.string (v1.1), .string (v1.2)]] [imm (.slice x_v0.1.1 v0.1.length x_v0.1.2) v0.1, imm (.slice x_v0.2.1 v0.2.length x_v0.2.2) v0.2] [] (ι := Option Addr × Nat) (fun x => .slice x.1 r.length x.2) (fun _ => []) (fun x => [tree (.slice x.1 r.length x.2) r]) := by
 refine calls_of (args := [_, _]) Try.func39 rfl (by kernel_rfl) Try.ntmps39 (by simp) fun c => ?_
 unfold p_spec_IndexPost at H
 refine Tr.openD Ent.z fun X1 => ?_
 refine Tr.openD Ent.z.s.s fun X2 => ?_
 refine Tr.seq (Tr.region ?_)
 refine Rg.ed (e_box (t := 26) (v := .agg #[.slice x_v0.1.1 v0.1.length x_v0.1.2, .slice x_v0.2.1 v0.2.length x_v0.2.2]) rfl) rfl (by decide) ?_
 rintro _ _ _ ⟨g3, rfl, rfl, rfl⟩
 refine Rg.ed (e_box (t := 30) (v := .agg #[.string (v1.1), .string (v1.2)]) rfl) rfl (by decide) ?_
 rintro _ _ _ ⟨g4, rfl, rfl, rfl⟩
 refine Rg.q (v := .slice none 0 0) (Pu.qo (p_assign rfl)) (by decide) ?_
 refine Rg.nl (nT ?_)
 refine Tr.seq (Tr.seq (Tr.region ?_))
 refine Rg.q (v := .agg #[.slice x_v0.1.1 v0.1.length x_v0.1.2, .slice x_v0.2.1 v0.2.length x_v0.2.2]) (q_ldbA ty26 rfl Has.here.there rfl) (by decide) ?_
 obtain ⟨r5, h6, H⟩ := bd.of H
 refine Rg.q (v := .bool (r5)) (q_call (vs := [.agg #[.slice x_v0.1.1 v0.1.length x_v0.1.2, .slice x_v0.2.1 v0.2.length x_v0.2.2]]) (c_spec_IndexOk v0 x_v0 h6) rfl (EntsB.cons (Ent.b (Ent.dimm Ent.z.s)) (EntsB.cons (Ent.b (Ent.dimm Ent.z)) EntsB.nil))) (by decide) ?_
 refine Rg.q (v := .bool (!r5)) (Pu.qo (p_not rfl)) (by decide) ?_
 refine Rg.nl (nT ?_)
 refine Tr.cond (b := !r5) rfl (fun h7 => ?_) (fun h7 => ?_)
 ·have H := cdT h7 H
  refine Tr.seq (Tr.region ?_)
  refine Rg.ed (e_lit0 Int Try.underlying31 ty3) rfl (by decide) ?_
  rintro _ _ _ ⟨a8, c9, rfl, rfl, rfl⟩
  refine Rg.q (v := .slice a8 (([] : List Int).length) c9) (Pu.qo (p_assign rfl)) (by decide) ?_
  refine Rg.nl (nT ?_)
  refine tRet ?_
  refine rT (?_)
  have hr := Option.some.inj H; subst hr
  exact back1 (a8, c9) rfl (ResV.tmp (v := .slice a8 (([] : List Int).length) c9) rfl) rfl Ents.nil (.cons Del.here .nil)
 ·have H := cdF h7 H
  refine tSkip ?_
  refine nT (?_)
  refine Tr.seq (Tr.region ?_)
  refine Rg.q (v := .pointer (some ⟨g3, 0, none⟩)) (Pu.qo (p_fabE fa26_0 rfl rfl)) (by decide) ?_
  refine Rg.q (v := .slice x_v0.1.1 v0.1.length x_v0.1.2) (q_ldb ty23 rfl Has.here.there rfl) (by decide) ?_
  refine Rg.q (v := .agg #[.string (v1.1), .string (v1.2)]) (q_ldbA ty30 rfl Has.here rfl) (by decide) ?_
  obtain ⟨r10, h11, H⟩ := bd.of H
  refine Rg.ed (e_callB (vs := [.slice x_v0.1.1 v0.1.length x_v0.1.2, .agg #[.string (v1.1), .string (v1.2)]]) (c_spec_l11Ids v0.1 x_v0.1 v1 h11) (fun _ => (Solo.tree Solo.nil)) rfl (EntsB.cons (Ent.b (Ent.dimm Ent.z.s)) EntsB.nil)) rfl (by decide) ?_
  rintro _ _ _ ⟨x12, rfl, rfl, rfl⟩
  refine Rg.q (v := .slice x12.1 r10.length x12.2) (Pu.qo (p_assign rfl)) (by decide) ?_
  refine Rg.nl (nT ?_)
  refine tRet ?_
  have hr := Option.some.inj H; subst hr
  exact back1 x12 rfl (ResV.tmp (v := .slice x12.1 r10.length x12.2) rfl) rfl Ents.nil (.cons Del.here .nil)
noncomputable def p_impl_IndexPost_b0 (v0 : Index) (v1 : Tag) (Q14 : (List Int) × Int) : Option (((List Int) × Int) ⊕ ((List Int))) := cond (decide (Q14.2 < (v0.2.length : Int))) (gd (ix Q14.2 v0.2.length) <| cond (decide ((nth v0.2 Q14.2.toNat).1 = v1)) (gd (room (Q14.1.length + ((nth v0.2 Q14.2.toNat).2).length)) <| gd (I64 (Q14.2 + 1)) <| some (.inl ((Q14.1 ++ ((nth v0.2 Q14.2.toNat).2)), Q14.2 + 1))) (gd (I64 (Q14.2 + 1)) <| some (.inl (Q14.1, Q14.2 + 1)))) (some (.inr Q14.1))
noncomputable def p_impl_IndexPost (v0 : Index) (v1 : Tag) : Option ((List Int)) := bd (p_impl_IndexOk v0) fun r7 => cond (r7) (bd (lp (p_impl_IndexPost_b0 v0 v1) (([] : List Int), 0)) fun x10 => some x10) (some ([] : List Int))
theorem c_impl_IndexPost {r : (List Int)} (v0 : Index) (x_v0 : (Option Addr × Nat) × (Option Addr × Nat)) (v1 : Tag) (H : p_impl_IndexPost v0 v1 = some r) : Fn' Try.prog 21 #[.agg #[.slice x_v0.1.1 v0.1.length x_v0.1.2, .slice x_v0.2.1 v0.2.length x_v0.2.2], .agg #[.string (v1.1), .string (v1.2)]] [imm (.slice x_v0.1.1 v0.1.length x_v0.1.2) v0.1, imm (.slice x_v0.2.1 v0.2.length x_v0.2.2) v0.2] [] (ι := Option Addr × Nat) (fun x => .slice x.1 r.length x.2) (fun _ => []) (fun x => [tree (.slice x.1 r.length x.2) r]) := by
 refine calls_of (args := [_, _]) Try.func21 rfl (by kernel_rfl) Try.ntmps21 (by simp) fun c => ?_
 unfold p_impl_IndexPost at H
 refine Tr.openD Ent.z fun X1 => ?_
 refine Tr.openD Ent.z.s.s fun X2 => ?_
 refine Tr.seq (Tr.region ?_)
 refine Rg.ed (e_box (t := 26) (v := .agg #[.slice x_v0.1.1 v0.1.length x_v0.1.2, .slice x_v0.2.1 v0.2.length x_v0.2.2]) rfl) rfl (by decide) ?_
 rintro _ _ _ ⟨g3, rfl, rfl, rfl⟩
 refine Rg.ed (e_box (t := 30) (v := .agg #[.string (v1.1), .string (v1.2)]) rfl) rfl (by decide) ?_
 rintro _ _ _ ⟨g4, rfl, rfl, rfl⟩
 refine Rg.q (v := .slice none 0 0) (Pu.qo (p_assign rfl)) (by decide) ?_
 refine Rg.nl (nT ?_)
 refine Tr.seq (Tr.region ?_)
 refine Rg.ed (e_lit0 Int Try.underlying31 ty3) rfl (by decide) ?_
 rintro _ _ _ ⟨a5, c6, rfl, rfl, rfl⟩
 refine Rg.q (v := .slice a5 (([] : List Int).length) c6) (Pu.qo (p_assign rfl)) (by decide) ?_
 refine Rg.nl (nT ?_)
 refine Tr.seq (Tr.seq (Tr.region ?_))
 refine Rg.q (v := .agg #[.slice x_v0.1.1 v0.1.length x_v0.1.2, .slice x_v0.2.1 v0.2.length x_v0.2.2]) (q_ldbA ty26 rfl Has.here.there.there rfl) (by decide) ?_
 obtain ⟨r7, h8, H⟩ := bd.of H
 refine Rg.q (v := .bool (r7)) (q_call (vs := [.agg #[.slice x_v0.1.1 v0.1.length x_v0.1.2, .slice x_v0.2.1 v0.2.length x_v0.2.2]]) (c_impl_IndexOk v0 x_v0 h8) rfl (EntsB.cons (Ent.b (Ent.dimm Ent.z.s)) (EntsB.cons (Ent.b (Ent.dimm Ent.z)) EntsB.nil))) (by decide) ?_
 refine Rg.nl (nT ?_)
 refine Tr.cond (b := r7) rfl (fun h9 => ?_) (fun h9 => ?_)
 ·have H := cdT h9 H
  refine Tr.seq (Tr.region ?_)
  refine Rg.q (v := .pointer (some ⟨g3, 1, none⟩)) (Pu.qo (p_fabE fa26_1 rfl rfl)) (by decide) ?_
  refine Rg.q (v := .slice x_v0.2.1 v0.2.length x_v0.2.2) (q_ldb ty24 rfl Has.here.there.there rfl) (by decide) ?_
  refine Rg.q (v := .int .i64 ((v0.2.length : Int))) (Pu.qo (p_len 33 Try.underlying24 rfl)) (by decide) ?_
  refine Rg.q (v := .int .i64 (0)) (Pu.qo (p_move rfl)) (by decide) ?_
  refine Rg.nl (nT ?_)
  obtain ⟨x10, hx11, H⟩ := bd.of H
  obtain ⟨n12, hx11⟩ := lp.of hx11
  refine tMidNC (ι := Option Addr × Nat) (fun ψ => [(5, .slice ψ.1 x10.length ψ.2)]) (fun ψ => [tree (.slice ψ.1 x10.length ψ.2) x10]) ?_ ?_
  ·refine Tr.block ?_
   refine tLoopC (ι := { q : Nat × ((List Int) × Int) × (Option Addr × Nat) // itr (p_impl_IndexPost_b0 v0 v1) q.1 q.2.1 = some x10 }) (fun ζ => [(3, .pointer (some ⟨g4, 0, none⟩)), (5, .slice ζ.1.2.2.1 ζ.1.2.1.1.length ζ.1.2.2.2), (12, .slice x_v0.2.1 v0.2.length x_v0.2.2), (13, .int .i64 ((v0.2.length : Int))), (14, .int .i64 (ζ.1.2.1.2))]) (fun ζ => [box g4 30 [.string (v1.1), .string (v1.2)], tree (.slice ζ.1.2.2.1 ζ.1.2.1.1.length ζ.1.2.2.2) ζ.1.2.1.1]) (fun ζ => ζ.1.1) ⟨(n12, (([] : List Int), 0), (a5, c6)), hx11⟩ ⟨rfl, rfl, rfl, rfl, rfl, trivial⟩ (.cons Del.here.there (.cons Del.here .nil)) ?_
   rintro ⟨⟨m13, Q14, z15⟩, hk20⟩
   obtain ⟨m21, t17, e, H1, hi18, hb19⟩ := itr.of (n := m13) (s := Q14) hk20
   subst e; unfold p_impl_IndexPost_b0 at H1
   show Tr _ _ _ _ _ [(3, .pointer (some ⟨g4, 0, none⟩)), (5, .slice z15.1 Q14.1.length z15.2), (12, .slice x_v0.2.1 v0.2.length x_v0.2.2), (13, .int .i64 ((v0.2.length : Int))), (14, .int .i64 (Q14.2))] _ [box g4 30 [.string (v1.1), .string (v1.2)], tree (.slice z15.1 Q14.1.length z15.2) Q14.1]
   refine Tr.seq (Tr.region ?_)
   refine Rg.q (v := .bool (decide (Q14.2 < (v0.2.length : Int)))) (Pu.qo (p_lss rfl rfl)) (by decide) ?_
   refine Rg.nl (nT ?_)
   refine Tr.seq ?_
   refine Tr.cond (b := decide (Q14.2 < (v0.2.length : Int))) rfl (fun h22 => ?_) (fun h22 => ?_)
   ·have H1 := cdT h22 H1
    refine tSkip ?_
    refine nT (Tr.seq ?_)
    refine Tr.block ?_
    refine Tr.seq (Tr.region ?_)
    obtain ⟨h23, H1⟩ := gd.of H1
    refine Rg.q (v := elp x_v0.2.1 (Q14.2.toNat * Enc.sz Post + 0)) (q_ixg (l := v0.2) (E := fun i => Dp.denc (nth v0.2 i) (X2 i)) (oa := x_v0.2.1) Try.underlying24 ty33 rfl rfl h23 rfl (Ent.b (Ent.darr Ent.z))) (by decide) ?_
    refine Rg.q (v := .agg #[.string (((nth v0.2 Q14.2.toNat).1).1), .string (((nth v0.2 Q14.2.toNat).1).2), .slice (((X2 Q14.2.toNat).2).1) (((nth v0.2 Q14.2.toNat).2).length) (((X2 Q14.2.toNat).2).2.1)]) (q_ldeA (l := v0.2) (E := fun i => Dp.denc (nth v0.2 i) (X2 i)) (oa := x_v0.2.1) (i := Q14.2.toNat) ty33 rfl (Ent.b (Ent.darr Ent.z)) h23.lt) (by decide) ?_
    refine Rg.ed (e_alloc ty33) rfl (by decide) ?_
    rintro _ _ _ ⟨g24, rfl, rfl, rfl⟩
    refine Rg.en (e_store (v := .agg #[.string (((nth v0.2 Q14.2.toNat).1).1), .string (((nth v0.2 Q14.2.toNat).1).2), .slice (((X2 Q14.2.toNat).2).1) (((nth v0.2 Q14.2.toNat).2).length) (((X2 Q14.2.toNat).2).2.1)]) (cs' := [.string (((nth v0.2 Q14.2.toNat).1).1), .string (((nth v0.2 Q14.2.toNat).1).2), .slice (((X2 Q14.2.toNat).2).1) (((nth v0.2 Q14.2.toNat).2).length) (((X2 Q14.2.toNat).2).2.1)]) ty33 rfl rfl Upd.here rfl (by simp [Value.cells, Value.oneCell']) (Nat.le_of_ble_eq_true rfl) rfl) rfl ?_
    rintro _ _ _ ⟨rfl, rfl, rfl⟩
    refine Rg.nl (nT ?_)
    refine Tr.seq (Tr.region ?_)
    refine Rg.q (v := .pointer (some ⟨g24, 0, none⟩)) (Pu.qo (p_fabE fa33_0 rfl rfl)) (by decide) ?_
    refine Rg.q (v := .agg #[.string (((nth v0.2 Q14.2.toNat).1).1), .string (((nth v0.2 Q14.2.toNat).1).2)]) (q_ldbP [.string (((nth v0.2 Q14.2.toNat).1).1), .string (((nth v0.2 Q14.2.toNat).1).2)] ty30 rfl Has.here rfl rfl) (by decide) ?_
    refine Rg.q (v := .agg #[.string (v1.1), .string (v1.2)]) (q_ldbA ty30 rfl Has.here.there rfl) (by decide) ?_
    refine Rg.q (v := .bool (decide ((nth v0.2 Q14.2.toNat).1 = v1))) (Pu.qo (p_aeql (a := (nth v0.2 Q14.2.toNat).1) (b := v1) ae30 rfl rfl rfl rfl)) (by decide) ?_
    refine Rg.nl (nT ?_)
    refine Tr.cond (b := decide ((nth v0.2 Q14.2.toNat).1 = v1)) rfl (fun h25 => ?_) (fun h25 => ?_)
    ·have H1 := cdT h25 H1
     refine Tr.region ?_
     refine Rg.q (v := .slice z15.1 Q14.1.length z15.2) (Pu.qo (p_move rfl)) (by decide) ?_
     refine Rg.q (v := .pointer (some ⟨g24, 2, none⟩)) (Pu.qo (p_fabE fa33_1 rfl rfl)) (by decide) ?_
     refine Rg.q (v := .slice (((X2 Q14.2.toNat).2).1) (((nth v0.2 Q14.2.toNat).2).length) (((X2 Q14.2.toNat).2).2.1)) (q_ldb ty31 rfl Has.here rfl) (by decide) ?_
     obtain ⟨h28, H1⟩ := gd.of H1
     refine Rg.ed (e_appF (l := Q14.1) (k := (nth v0.2 Q14.2.toNat).2) (α := Int) Try.underlying31 ty3 rfl rfl (h28.b (by decide)) h28.x (.cons Del.here.there.there .nil) (Ent.b (Ent.dimm (Ent.dsnd (Ent.del Ent.z h23.lt))))) rfl (by decide) ?_
     rintro _ _ _ ⟨a26, c27, rfl, rfl, rfl⟩
     refine Rg.q (v := .slice a26 ((Q14.1 ++ ((nth v0.2 Q14.2.toNat).2)).length) c27) (Pu.qo (p_assign rfl)) (by decide) ?_
     refine Rg.nl ?_
     refine nB (nT (?_))
     refine Tr.region ?_
     obtain ⟨h29, H1⟩ := gd.of H1
     refine Rg.q (v := .int .i64 (Q14.2 + 1)) (Pu.qo (p_add rfl rfl h29)) (by decide) ?_
     refine Rg.q (v := .int .i64 (Q14.2 + 1)) (Pu.qo (p_move rfl)) (by decide) ?_
     refine Rg.nl ?_
     exact nLC ⟨(m21, ((Q14.1 ++ ((nth v0.2 Q14.2.toNat).2)), Q14.2 + 1), (a26, c27)), hi18 _ (Option.some.inj H1).symm⟩ (Nat.lt_succ_self _) ⟨rfl, rfl, rfl, rfl, rfl, trivial⟩ Ents.refl (.cons Del.here.there.there (.cons Del.here .nil))
    ·have H1 := cdF h25 H1
     refine tSkip ?_
     refine nB (nT (?_))
     refine Tr.region ?_
     obtain ⟨h30, H1⟩ := gd.of H1
     refine Rg.q (v := .int .i64 (Q14.2 + 1)) (Pu.qo (p_add rfl rfl h30)) (by decide) ?_
     refine Rg.q (v := .int .i64 (Q14.2 + 1)) (Pu.qo (p_move rfl)) (by decide) ?_
     refine Rg.nl ?_
     exact nLC ⟨(m21, (Q14.1, Q14.2 + 1), (z15.1, z15.2)), hi18 _ (Option.some.inj H1).symm⟩ (Nat.lt_succ_self _) ⟨rfl, rfl, rfl, rfl, rfl, trivial⟩ Ents.refl (.cons Del.here.there (.cons Del.here.there .nil))
   ·have H1 := cdF h22 H1
    refine tExit (xT (xT (xE (?_))))
    have hx := hb19 _ (Option.some.inj H1).symm; subst hx
    exact nMC (z15.1, z15.2) ⟨rfl, trivial⟩ Ents.refl (.cons Del.here.there .nil)
  ·intro y16
   show At _ _ [(5, .slice y16.1 x10.length y16.2)] _ [tree (.slice y16.1 x10.length y16.2) x10] _
   refine nT (?_)
   refine Tr.seq (Tr.region ?_)
   refine Rg.q (v := .slice y16.1 x10.length y16.2) (Pu.qo (p_move rfl)) (by decide) ?_
   refine Rg.q (v := .slice y16.1 x10.length y16.2) (Pu.qo (p_assign rfl)) (by decide) ?_
   refine Rg.nl (nT ?_)
   refine tRet ?_
   have hr := Option.some.inj H; subst hr
   exact back1 y16 rfl (ResV.tmp (v := .slice y16.1 x10.length y16.2) rfl) rfl Ents.nil (.cons Del.here .nil)
 ·have H := cdF h9 H
  refine tSkip ?_
  refine nT (?_)
  refine Tr.seq (Tr.region ?_)
  refine Rg.q (v := .slice a5 (([] : List Int).length) c6) (Pu.qo (p_move rfl)) (by decide) ?_
  refine Rg.q (v := .slice a5 (([] : List Int).length) c6) (Pu.qo (p_assign rfl)) (by decide) ?_
  refine Rg.nl (nT ?_)
  refine tRet ?_
  have hr := Option.some.inj H; subst hr
  exact back1 (a5, c6) rfl (ResV.tmp (v := .slice a5 (([] : List Int).length) c6) rfl) rfl Ents.nil (.cons Del.here .nil)
noncomputable def p_laws_markText_b0 (Q6 : Int × ByteArray) : Option ((Int × ByteArray) ⊕ (ByteArray)) := cond (decide (0 < Q6.1)) (gd (I64 (Q6.1.tmod 10)) <| gd (I64 (48 + (Q6.1.tmod 10))) <| gd (room ((s2 [b8 (48 + (Q6.1.tmod 10))]).size + Q6.2.size)) <| gd (I64 (Q6.1.tdiv 10)) <| some (.inl (Q6.1.tdiv 10, (s2 [b8 (48 + (Q6.1.tmod 10))]) ++ Q6.2))) (some (.inr Q6.2))
noncomputable def p_laws_markText (v0 : Int) : Option (ByteArray) := cond (decide (v0 ≤ 0)) (some (⟨#[109, 48]⟩ : ByteArray)) (bd (lp (p_laws_markText_b0) (v0, (⟨#[]⟩ : ByteArray))) fun x2 => gd (room ((⟨#[109]⟩ : ByteArray).size + x2.size)) <| some ((⟨#[109]⟩ : ByteArray) ++ x2))
theorem c_laws_markText {r : ByteArray} (v0 : Int) (H : p_laws_markText v0 = some r) : Fn' Try.prog 93 #[.int .i64 (v0)] [] [] (ι := Unit) (fun _ => .string (r)) (fun _ => []) (fun _ => []) := by
 refine calls_of (args := [_]) Try.func93 rfl (by kernel_rfl) Try.ntmps93 (by simp) fun c => ?_
 unfold p_laws_markText at H
 refine Tr.seq (Tr.region ?_)
 refine Rg.q (v := .string ((⟨#[]⟩ : ByteArray))) (Pu.qo (p_assign rfl)) (by decide) ?_
 refine Rg.nl (nT ?_)
 refine Tr.seq (Tr.seq (Tr.region ?_))
 refine Rg.q (v := .int .i64 (v0)) (Pu.qo (p_move rfl)) (by decide) ?_
 refine Rg.q (v := .bool (decide (v0 ≤ 0))) (Pu.qo (p_leq rfl rfl)) (by decide) ?_
 refine Rg.nl (nT ?_)
 refine Tr.cond (b := decide (v0 ≤ 0)) rfl (fun h1 => ?_) (fun h1 => ?_)
 ·have H := cdT h1 H
  refine Tr.seq (Tr.region ?_)
  refine Rg.q (v := .string ((⟨#[109, 48]⟩ : ByteArray))) (Pu.qo (p_assign rfl)) (by decide) ?_
  refine Rg.nl (nT ?_)
  refine tRet ?_
  refine rT (?_)
  have hr := Option.some.inj H; subst hr
  exact back1 () rfl (ResV.tmp (v := .string ((⟨#[109, 48]⟩ : ByteArray))) rfl) rfl Ents.nil Take.nil
 ·have H := cdF h1 H
  refine tSkip ?_
  refine nT (?_)
  refine Tr.seq (Tr.region ?_)
  refine Rg.q (v := .string ((⟨#[]⟩ : ByteArray))) (Pu.qo (p_assign rfl)) (by decide) ?_
  refine Rg.nl (nT ?_)
  obtain ⟨x2, hx3, H⟩ := bd.of H
  obtain ⟨n4, hx3⟩ := lp.of hx3
  refine tMidC (ι := Unit) (fun ψ => [(3, .string (x2))]) (fun ψ => []) ?_ ?_
  ·refine Tr.block ?_
   refine tLoopC (ι := { q : Nat × (Int × ByteArray) × Unit // itr (p_laws_markText_b0) q.1 q.2.1 = some x2 }) (fun ζ => [(0, .int .i64 (ζ.1.2.1.1)), (3, .string (ζ.1.2.1.2))]) (fun ζ => []) (fun ζ => ζ.1.1) ⟨(n4, (v0, (⟨#[]⟩ : ByteArray)), ()), hx3⟩ ⟨rfl, rfl, trivial⟩ Take.nil ?_
   rintro ⟨⟨m5, Q6, z7⟩, hk12⟩
   obtain ⟨m13, t9, e, H1, hi10, hb11⟩ := itr.of (n := m5) (s := Q6) hk12
   subst e; unfold p_laws_markText_b0 at H1
   show Tr _ _ _ _ _ [(0, .int .i64 (Q6.1)), (3, .string (Q6.2))] _ []
   refine Tr.seq (Tr.seq (Tr.region ?_))
   refine Rg.q (v := .int .i64 (Q6.1)) (Pu.qo (p_move rfl)) (by decide) ?_
   refine Rg.q (v := .bool (decide (0 < Q6.1))) (Pu.qo (p_gtr rfl rfl)) (by decide) ?_
   refine Rg.nl (nT ?_)
   refine Tr.cond (b := decide (0 < Q6.1)) rfl (fun h14 => ?_) (fun h14 => ?_)
   ·have H1 := cdT h14 H1
    refine tSkip ?_
    refine nT (?_)
    refine Tr.block ?_
    refine Tr.seq (Tr.region ?_)
    refine Rg.q (v := .int .i64 (Q6.1)) (Pu.qo (p_move rfl)) (by decide) ?_
    obtain ⟨h15, H1⟩ := gd.of H1
    refine Rg.q (v := .int .i64 (Q6.1.tmod 10)) (Pu.qo (p_rem rfl rfl (by decide) h15)) (by decide) ?_
    obtain ⟨h16, H1⟩ := gd.of H1
    refine Rg.q (v := .int .i64 (48 + (Q6.1.tmod 10))) (Pu.qo (p_add rfl rfl h16)) (by decide) ?_
    refine Rg.q (v := .int .u8 ((b8 (48 + (Q6.1.tmod 10))).toNat : Int)) (Pu.qo (p_b8 Try.underlying3 Try.underlying5 rfl)) (by decide) ?_
    refine Rg.ed (e_lit (vs := [(0, .int .u8 ((b8 (48 + (Q6.1.tmod 10))).toNat : Int))]) [.int .u8 ((b8 (48 + (Q6.1.tmod 10))).toNat : Int)] Try.underlying22 ty5 rfl (by decide) (by decide) (by kernel_rfl)) rfl (by decide) ?_
    rintro _ _ _ ⟨g17, rfl, rfl, rfl⟩
    refine Rg.q (v := .string (s2 [b8 (48 + (Q6.1.tmod 10))])) (q_b2sL [b8 (48 + (Q6.1.tmod 10))] Try.underlying22 Try.underlying5 Try.underlying9 rfl Has.here rfl) (by decide) ?_
    refine Rg.q (v := .string (Q6.2)) (Pu.qo (p_move rfl)) (by decide) ?_
    obtain ⟨h18, H1⟩ := gd.of H1
    refine Rg.q (v := .string ((s2 [b8 (48 + (Q6.1.tmod 10))]) ++ Q6.2)) (Pu.qo (p_cat rfl rfl h18)) (by decide) ?_
    refine Rg.q (v := .string ((s2 [b8 (48 + (Q6.1.tmod 10))]) ++ Q6.2)) (Pu.qo (p_assign rfl)) (by decide) ?_
    refine Rg.nl (nT ?_)
    refine Tr.region ?_
    refine Rg.q (v := .int .i64 (Q6.1)) (Pu.qo (p_move rfl)) (by decide) ?_
    obtain ⟨h19, H1⟩ := gd.of H1
    refine Rg.q (v := .int .i64 (Q6.1.tdiv 10)) (Pu.qo (p_quo rfl rfl (by decide) h19)) (by decide) ?_
    refine Rg.q (v := .int .i64 (Q6.1.tdiv 10)) (Pu.qo (p_assign rfl)) (by decide) ?_
    refine Rg.nl ?_
    exact nB (nLC ⟨(m13, (Q6.1.tdiv 10, (s2 [b8 (48 + (Q6.1.tmod 10))]) ++ Q6.2), ()), hi10 _ (Option.some.inj H1).symm⟩ (Nat.lt_succ_self _) ⟨rfl, rfl, trivial⟩ Ents.refl Take.nil)
   ·have H1 := cdF h14 H1
    refine tExit (xT (xT (xE (?_))))
    have hx := hb11 _ (Option.some.inj H1).symm; subst hx
    exact nMC () ⟨rfl, trivial⟩ Ents.refl Take.nil
  ·intro y8
   show Tr _ _ _ _ _ [(3, .string (x2))] _ []
   refine Tr.seq (Tr.region ?_)
   refine Rg.q (v := .string (x2)) (Pu.qo (p_move rfl)) (by decide) ?_
   obtain ⟨h20, H⟩ := gd.of H
   refine Rg.q (v := .string ((⟨#[109]⟩ : ByteArray) ++ x2)) (Pu.qo (p_cat rfl rfl h20)) (by decide) ?_
   refine Rg.q (v := .string ((⟨#[109]⟩ : ByteArray) ++ x2)) (Pu.qo (p_assign rfl)) (by decide) ?_
   refine Rg.nl (nT ?_)
   refine tRet ?_
   have hr := Option.some.inj H; subst hr
   exact back1 () rfl (ResV.tmp (v := .string ((⟨#[109]⟩ : ByteArray) ++ x2)) rfl) rfl Ents.nil Take.nil
noncomputable def p_laws_markTagS_b0 (v0 : (List Tag)) (Q5 : (List Tag) × Int × Int) : Option (((List Tag) × Int × Int) ⊕ (Int × (List Tag))) := cond (decide (Q5.2.2 < (v0.length : Int))) (gd (ix Q5.2.2 Q5.1.length) <| bd (p_laws_markText Q5.2.1) fun r16 => gd (I64 (Q5.2.1 + 1)) <| bd (p_laws_markText (Q5.2.1 + 1)) fun r19 => gd (I64 ((Q5.2.1 + 1) + 1)) <| gd (I64 (Q5.2.2 + 1)) <| some (.inl ((Q5.1.set Q5.2.2.toNat (r16, r19)), (Q5.2.1 + 1) + 1, Q5.2.2 + 1))) (some (.inr (Q5.2.1, Q5.1)))
noncomputable def p_laws_markTagS (v0 : (List Tag)) (v1 : Int) : Option (Int × (List Tag)) := bd (lp (p_laws_markTagS_b0 v0) (v0, v1, 0)) fun x1 => some (x1.1, x1.2)
theorem c_laws_markTagS {r : Int × (List Tag)} (v0 : (List Tag)) (x_v0 : Option Addr × Nat) (n_v0 : Nat) (e_v0 : n_v0 = v0.length) (v1 : Int) (H : p_laws_markTagS v0 v1 = some r) : Fn' Try.prog 48 #[.slice x_v0.1 n_v0 x_v0.2, .int .i64 (v1)] [] [tree (.slice x_v0.1 n_v0 x_v0.2) v0] (ι := Unit) (fun _ => .int .i64 (r.1)) (fun _ => []) (fun _ => [tree (.slice x_v0.1 n_v0 x_v0.2) r.2]) := by
 subst e_v0
 refine calls_of (args := [_, _]) Try.func48 rfl (by kernel_rfl) Try.ntmps48 (by simp) fun c => ?_
 unfold p_laws_markTagS at H
 refine Tr.seq (Tr.region ?_)
 refine Rg.q (v := .int .i64 (0)) (Pu.qo (p_assign rfl)) (by decide) ?_
 refine Rg.nl (nT ?_)
 refine Tr.seq (Tr.seq (Tr.region ?_))
 refine Rg.q (v := .int .i64 (0)) (Pu.qo (p_assign rfl)) (by decide) ?_
 refine Rg.nl (nT ?_)
 obtain ⟨x1, hx2, H⟩ := bd.of H
 obtain ⟨n3, hx2⟩ := lp.of hx2
 refine tMidNC (ι := Unit) (fun ψ => [(1, .int .i64 (x1.1))]) (fun ψ => [tree (.slice x_v0.1 v0.length x_v0.2) x1.2]) ?_ ?_
 ·refine Tr.block ?_
  refine tLoopC (ι := { q : Nat × ((List Tag) × Int × Int) × Unit // itr (p_laws_markTagS_b0 v0) q.1 q.2.1 = some x1 }) (fun ζ => [(0, .slice x_v0.1 v0.length x_v0.2), (1, .int .i64 (ζ.1.2.1.2.1)), (5, .int .i64 (ζ.1.2.1.2.2))]) (fun ζ => [tree (.slice x_v0.1 v0.length x_v0.2) ζ.1.2.1.1]) (fun ζ => ζ.1.1) ⟨(n3, (v0, v1, 0), ()), hx2⟩ ⟨rfl, rfl, rfl, trivial⟩ (.cons Del.here .nil) ?_
  rintro ⟨⟨m4, Q5, z6⟩, hk11⟩
  obtain ⟨m12, t8, e, H1, hi9, hb10⟩ := itr.of (n := m4) (s := Q5) hk11
  subst e; unfold p_laws_markTagS_b0 at H1
  show Tr _ _ _ _ _ [(0, .slice x_v0.1 v0.length x_v0.2), (1, .int .i64 (Q5.2.1)), (5, .int .i64 (Q5.2.2))] _ [tree (.slice x_v0.1 v0.length x_v0.2) Q5.1]
  refine Tr.seq (Tr.seq (Tr.region ?_))
  refine Rg.q (v := .int .i64 (Q5.2.2)) (Pu.qo (p_move rfl)) (by decide) ?_
  refine Rg.q (v := .slice x_v0.1 v0.length x_v0.2) (Pu.qo (p_move rfl)) (by decide) ?_
  refine Rg.q (v := .int .i64 ((v0.length : Int))) (Pu.qo (p_len 30 Try.underlying38 rfl)) (by decide) ?_
  refine Rg.q (v := .bool (decide (Q5.2.2 < (v0.length : Int)))) (Pu.qo (p_lss rfl rfl)) (by decide) ?_
  refine Rg.nl (nT ?_)
  refine Tr.cond (b := decide (Q5.2.2 < (v0.length : Int))) rfl (fun h13 => ?_) (fun h13 => ?_)
  ·have H1 := cdT h13 H1
   refine tSkip ?_
   refine nT (Tr.seq ?_)
   refine Tr.block ?_
   refine Tr.seq ?_
   obtain ⟨h14, H1⟩ := gd.of H1
   refine Tr.zoom (k := Q5.2.2.toNat) h14.lt (.cons Del.here .nil) fun x15 => ?_
   show Tr _ _ _ _ _ _ _ (hole (.slice x_v0.1 v0.length x_v0.2) Q5.1 Q5.2.2.toNat [.string ((nth Q5.1 Q5.2.2.toNat).1), .string ((nth Q5.1 Q5.2.2.toNat).2)] :: _)
   refine Tr.region ?_
   refine Rg.q (v := .slice x_v0.1 v0.length x_v0.2) (Pu.qo (p_move rfl)) (by decide) ?_
   refine Rg.q (v := .int .i64 (Q5.2.2)) (Pu.qo (p_move rfl)) (by decide) ?_
   refine Rg.q (v := .int .i64 (Q5.2.1)) (Pu.qo (p_move rfl)) (by decide) ?_
   obtain ⟨r16, h17, H1⟩ := bd.of H1
   refine Rg.q (v := .string (r16)) (q_call (vs := [.int .i64 (Q5.2.1)]) (c_laws_markText Q5.2.1 h17) rfl EntsB.nil) (by decide) ?_
   refine Rg.q (v := elp x_v0.1 (Q5.2.2.toNat * Enc.sz Tag + 0)) (q_ixH (k := Q5.2.2.toNat) Try.underlying38 ty30 rfl rfl h14 rfl Has.here) (by decide) ?_
   refine Rg.q (v := elp x_v0.1 (Q5.2.2.toNat * Enc.sz Tag + 0)) (q_faH (j := 0) (i := Q5.2.2.toNat) fa30_0 rfl Has.here rfl) (by decide) ?_
   refine Rg.en (e_stH (v := .string (r16)) (i := Q5.2.2.toNat) (j := 0) (cs' := [.string (r16), .string ((nth Q5.1 Q5.2.2.toNat).2)]) ty9 rfl rfl (.cons Del.here .nil) rfl (by simp [Value.cells, Value.oneCell']) (Nat.le_of_ble_eq_true rfl) rfl rfl) rfl ?_
   rintro _ _ _ ⟨rfl, rfl, rfl⟩
   refine Rg.nl (nT ?_)
   refine Tr.seq (Tr.region ?_)
   refine Rg.q (v := .int .i64 (Q5.2.1)) (Pu.qo (p_move rfl)) (by decide) ?_
   obtain ⟨h18, H1⟩ := gd.of H1
   refine Rg.q (v := .int .i64 (Q5.2.1 + 1)) (Pu.qo (p_add rfl rfl h18)) (by decide) ?_
   refine Rg.q (v := .int .i64 (Q5.2.1 + 1)) (Pu.qo (p_assign rfl)) (by decide) ?_
   refine Rg.nl (nT ?_)
   refine Tr.seq (Tr.region ?_)
   refine Rg.q (v := .slice x_v0.1 v0.length x_v0.2) (Pu.qo (p_move rfl)) (by decide) ?_
   refine Rg.q (v := .int .i64 (Q5.2.2)) (Pu.qo (p_move rfl)) (by decide) ?_
   refine Rg.q (v := .int .i64 (Q5.2.1 + 1)) (Pu.qo (p_move rfl)) (by decide) ?_
   obtain ⟨r19, h20, H1⟩ := bd.of H1
   refine Rg.q (v := .string (r19)) (q_call (vs := [.int .i64 (Q5.2.1 + 1)]) (c_laws_markText (Q5.2.1 + 1) h20) rfl EntsB.nil) (by decide) ?_
   refine Rg.q (v := elp x_v0.1 (Q5.2.2.toNat * Enc.sz Tag + 0)) (q_ixH (k := Q5.2.2.toNat) Try.underlying38 ty30 rfl rfl h14 rfl Has.here) (by decide) ?_
   refine Rg.q (v := elp x_v0.1 (Q5.2.2.toNat * Enc.sz Tag + 1)) (q_faH (j := 0) (i := Q5.2.2.toNat) fa30_1 rfl Has.here rfl) (by decide) ?_
   refine Rg.en (e_stH (v := .string (r19)) (i := Q5.2.2.toNat) (j := 1) (cs' := [.string (r16), .string (r19)]) ty9 rfl rfl (.cons Del.here .nil) rfl (by simp [Value.cells, Value.oneCell']) (Nat.le_of_ble_eq_true rfl) rfl rfl) rfl ?_
   rintro _ _ _ ⟨rfl, rfl, rfl⟩
   refine Rg.nl (nT ?_)
   refine Tr.region ?_
   refine Rg.q (v := .int .i64 (Q5.2.1 + 1)) (Pu.qo (p_move rfl)) (by decide) ?_
   obtain ⟨h21, H1⟩ := gd.of H1
   refine Rg.q (v := .int .i64 ((Q5.2.1 + 1) + 1)) (Pu.qo (p_add rfl rfl h21)) (by decide) ?_
   refine Rg.q (v := .int .i64 ((Q5.2.1 + 1) + 1)) (Pu.qo (p_assign rfl)) (by decide) ?_
   refine Rg.nl ?_
   refine nB (nT (?_))
   refine Tr.region ?_
   refine Rg.q (v := .int .i64 (Q5.2.2)) (Pu.qo (p_move rfl)) (by decide) ?_
   obtain ⟨h22, H1⟩ := gd.of H1
   refine Rg.q (v := .int .i64 (Q5.2.2 + 1)) (Pu.qo (p_add rfl rfl h22)) (by decide) ?_
   refine Rg.q (v := .int .i64 (Q5.2.2 + 1)) (Pu.qo (p_assign rfl)) (by decide) ?_
   refine Rg.nl ?_
   refine At.unzoom (r16, r19) ((), ()) rfl (.cons Del.here .nil) ?_
   exact nLC ⟨(m12, ((Q5.1.set Q5.2.2.toNat (r16, r19)), (Q5.2.1 + 1) + 1, Q5.2.2 + 1), ()), hi9 _ (Option.some.inj H1).symm⟩ (Nat.lt_succ_self _) ⟨rfl, rfl, rfl, trivial⟩ Ents.refl (.cons Del.here .nil)
  ·have H1 := cdF h13 H1
   refine tExit (xT (xT (xE (?_))))
   have hx := hb10 _ (Option.some.inj H1).symm; subst hx
   exact nMC () ⟨rfl, trivial⟩ Ents.refl (.cons Del.here .nil)
 ·intro y7
  show At _ _ [(1, .int .i64 (x1.1))] _ [tree (.slice x_v0.1 v0.length x_v0.2) x1.2] _
  refine nT (?_)
  refine Tr.seq (Tr.region ?_)
  refine Rg.q (v := .int .i64 (x1.1)) (Pu.qo (p_move rfl)) (by decide) ?_
  refine Rg.q (v := .int .i64 (x1.1)) (Pu.qo (p_assign rfl)) (by decide) ?_
  refine Rg.nl (nT ?_)
  refine tRet ?_
  have hr := Option.some.inj H; subst hr
  exact back1 () rfl (ResV.tmp (v := .int .i64 (x1.1)) rfl) rfl Ents.nil (.cons Del.here .nil)
noncomputable def p_laws_markTagSS_b0 (v0 : (List (List Tag))) (Q5 : (List (List Tag)) × Int × Int) : Option (((List (List Tag)) × Int × Int) ⊕ (Int × (List (List Tag)))) := cond (decide (Q5.2.2 < (v0.length : Int))) (gd (ix Q5.2.2 Q5.1.length) <| bd (p_laws_markTagS (nth Q5.1 Q5.2.2.toNat) Q5.2.1) fun r16 => gd (I64 (Q5.2.2 + 1)) <| some (.inl ((Q5.1.set Q5.2.2.toNat r16.2), r16.1, Q5.2.2 + 1))) (some (.inr (Q5.2.1, Q5.1)))
noncomputable def p_laws_markTagSS (v0 : (List (List Tag))) (v1 : Int) : Option (Int × (List (List Tag))) := bd (lp (p_laws_markTagSS_b0 v0) (v0, v1, 0)) fun x1 => some (x1.1, x1.2)
theorem c_laws_markTagSS {r : Int × (List (List Tag))} (v0 : (List (List Tag))) (x_v0 : Option Addr × Nat) (n_v0 : Nat) (e_v0 : n_v0 = v0.length) (v1 : Int) (H : p_laws_markTagSS v0 v1 = some r) : Fn' Try.prog 90 #[.slice x_v0.1 n_v0 x_v0.2, .int .i64 (v1)] [] [tree (.slice x_v0.1 n_v0 x_v0.2) v0] (ι := Unit) (fun _ => .int .i64 (r.1)) (fun _ => []) (fun _ => [tree (.slice x_v0.1 n_v0 x_v0.2) r.2]) := by
 subst e_v0
 refine calls_of (args := [_, _]) Try.func90 rfl (by kernel_rfl) Try.ntmps90 (by simp) fun c => ?_
 unfold p_laws_markTagSS at H
 refine Tr.seq (Tr.region ?_)
 refine Rg.q (v := .int .i64 (0)) (Pu.qo (p_assign rfl)) (by decide) ?_
 refine Rg.nl (nT ?_)
 refine Tr.seq (Tr.seq (Tr.region ?_))
 refine Rg.q (v := .int .i64 (0)) (Pu.qo (p_assign rfl)) (by decide) ?_
 refine Rg.nl (nT ?_)
 obtain ⟨x1, hx2, H⟩ := bd.of H
 obtain ⟨n3, hx2⟩ := lp.of hx2
 refine tMidNC (ι := Unit) (fun ψ => [(1, .int .i64 (x1.1))]) (fun ψ => [tree (.slice x_v0.1 v0.length x_v0.2) x1.2]) ?_ ?_
 ·refine Tr.block ?_
  refine tLoopC (ι := { q : Nat × ((List (List Tag)) × Int × Int) × Unit // itr (p_laws_markTagSS_b0 v0) q.1 q.2.1 = some x1 }) (fun ζ => [(0, .slice x_v0.1 v0.length x_v0.2), (1, .int .i64 (ζ.1.2.1.2.1)), (5, .int .i64 (ζ.1.2.1.2.2))]) (fun ζ => [tree (.slice x_v0.1 v0.length x_v0.2) ζ.1.2.1.1]) (fun ζ => ζ.1.1) ⟨(n3, (v0, v1, 0), ()), hx2⟩ ⟨rfl, rfl, rfl, trivial⟩ (.cons Del.here .nil) ?_
  rintro ⟨⟨m4, Q5, z6⟩, hk11⟩
  obtain ⟨m12, t8, e, H1, hi9, hb10⟩ := itr.of (n := m4) (s := Q5) hk11
  subst e; unfold p_laws_markTagSS_b0 at H1
  show Tr _ _ _ _ _ [(0, .slice x_v0.1 v0.length x_v0.2), (1, .int .i64 (Q5.2.1)), (5, .int .i64 (Q5.2.2))] _ [tree (.slice x_v0.1 v0.length x_v0.2) Q5.1]
  refine Tr.seq (Tr.seq (Tr.region ?_))
  refine Rg.q (v := .int .i64 (Q5.2.2)) (Pu.qo (p_move rfl)) (by decide) ?_
  refine Rg.q (v := .slice x_v0.1 v0.length x_v0.2) (Pu.qo (p_move rfl)) (by decide) ?_
  refine Rg.q (v := .int .i64 ((v0.length : Int))) (Pu.qo (p_len 38 Try.underlying23 rfl)) (by decide) ?_
  refine Rg.q (v := .bool (decide (Q5.2.2 < (v0.length : Int)))) (Pu.qo (p_lss rfl rfl)) (by decide) ?_
  refine Rg.nl (nT ?_)
  refine Tr.cond (b := decide (Q5.2.2 < (v0.length : Int))) rfl (fun h13 => ?_) (fun h13 => ?_)
  ·have H1 := cdT h13 H1
   refine tSkip ?_
   refine nT (Tr.seq ?_)
   refine Tr.block ?_
   obtain ⟨h14, H1⟩ := gd.of H1
   refine Tr.zoom (k := Q5.2.2.toNat) h14.lt (.cons Del.here .nil) fun x15 => ?_
   show Tr _ _ _ _ _ _ _ (hole (.slice x_v0.1 v0.length x_v0.2) Q5.1 Q5.2.2.toNat [.slice x15.1 ((nth Q5.1 Q5.2.2.toNat).length) x15.2] :: tree (.slice x15.1 ((nth Q5.1 Q5.2.2.toNat).length) x15.2) (nth Q5.1 Q5.2.2.toNat) :: _)
   refine Tr.region ?_
   refine Rg.q (v := .slice x_v0.1 v0.length x_v0.2) (Pu.qo (p_move rfl)) (by decide) ?_
   refine Rg.q (v := .int .i64 (Q5.2.2)) (Pu.qo (p_move rfl)) (by decide) ?_
   refine Rg.q (v := elp x_v0.1 (Q5.2.2.toNat * Enc.sz (List Tag) + 0)) (q_ixH (k := Q5.2.2.toNat) Try.underlying23 ty38 rfl rfl h14 rfl Has.here) (by decide) ?_
   refine Rg.q (v := .slice x15.1 ((nth Q5.1 Q5.2.2.toNat).length) x15.2) (q_ldH (i := Q5.2.2.toNat) (j := 0) ty38 rfl Has.here rfl) (by decide) ?_
   refine Rg.q (v := .int .i64 (Q5.2.1)) (Pu.qo (p_move rfl)) (by decide) ?_
   obtain ⟨r16, h17, H1⟩ := bd.of H1
   refine Rg.ed (e_callM (vs := [.slice x15.1 ((nth Q5.1 Q5.2.2.toNat).length) x15.2, .int .i64 (Q5.2.1)]) (c_laws_markTagS (nth Q5.1 Q5.2.2.toNat) x15 ((nth Q5.1 Q5.2.2.toNat).length) rfl Q5.2.1 h17) (Solo.tree Solo.nil) (fun _ => (Solo.tree Solo.nil)) rfl (.cons Del.here.there .nil) EntsB.nil) rfl (by decide) ?_
   rintro _ _ _ ⟨u18, rfl, rfl, rfl⟩
   refine Rg.q (v := .int .i64 (r16.1)) (Pu.qo (p_assign rfl)) (by decide) ?_
   refine Rg.nl ?_
   refine nB (nT (?_))
   refine Tr.olen Has.here fun hn => ?_; rw [hn]
   refine Tr.region ?_
   refine Rg.q (v := .int .i64 (Q5.2.2)) (Pu.qo (p_move rfl)) (by decide) ?_
   obtain ⟨h19, H1⟩ := gd.of H1
   refine Rg.q (v := .int .i64 (Q5.2.2 + 1)) (Pu.qo (p_add rfl rfl h19)) (by decide) ?_
   refine Rg.q (v := .int .i64 (Q5.2.2 + 1)) (Pu.qo (p_assign rfl)) (by decide) ?_
   refine Rg.nl ?_
   refine At.unzoom r16.2 x15 rfl (.cons Del.here.there (.cons Del.here .nil)) ?_
   exact nLC ⟨(m12, ((Q5.1.set Q5.2.2.toNat r16.2), r16.1, Q5.2.2 + 1), ()), hi9 _ (Option.some.inj H1).symm⟩ (Nat.lt_succ_self _) ⟨rfl, rfl, rfl, trivial⟩ Ents.refl (.cons Del.here .nil)
  ·have H1 := cdF h13 H1
   refine tExit (xT (xT (xE (?_))))
   have hx := hb10 _ (Option.some.inj H1).symm; subst hx
   exact nMC () ⟨rfl, trivial⟩ Ents.refl (.cons Del.here .nil)
 ·intro y7
  show At _ _ [(1, .int .i64 (x1.1))] _ [tree (.slice x_v0.1 v0.length x_v0.2) x1.2] _
  refine nT (?_)
  refine Tr.seq (Tr.region ?_)
  refine Rg.q (v := .int .i64 (x1.1)) (Pu.qo (p_move rfl)) (by decide) ?_
  refine Rg.q (v := .int .i64 (x1.1)) (Pu.qo (p_assign rfl)) (by decide) ?_
  refine Rg.nl (nT ?_)
  refine tRet ?_
  have hr := Option.some.inj H; subst hr
  exact back1 () rfl (ResV.tmp (v := .int .i64 (x1.1)) rfl) rfl Ents.nil (.cons Del.here .nil)
noncomputable def p_laws_markIntS_b0 (v0 : (List Int)) (Q5 : (List Int) × Int × Int) : Option (((List Int) × Int × Int) ⊕ (Int × (List Int))) := cond (decide (Q5.2.2 < (v0.length : Int))) (gd (ix Q5.2.2 Q5.1.length) <| gd (I64 (Q5.2.1 + 1)) <| gd (I64 (Q5.2.2 + 1)) <| some (.inl ((Q5.1.set Q5.2.2.toNat Q5.2.1), Q5.2.1 + 1, Q5.2.2 + 1))) (some (.inr (Q5.2.1, Q5.1)))
noncomputable def p_laws_markIntS (v0 : (List Int)) (v1 : Int) : Option (Int × (List Int)) := bd (lp (p_laws_markIntS_b0 v0) (v0, v1, 0)) fun x1 => some (x1.1, x1.2)
theorem c_laws_markIntS {r : Int × (List Int)} (v0 : (List Int)) (x_v0 : Option Addr × Nat) (n_v0 : Nat) (e_v0 : n_v0 = v0.length) (v1 : Int) (H : p_laws_markIntS v0 v1 = some r) : Fn' Try.prog 43 #[.slice x_v0.1 n_v0 x_v0.2, .int .i64 (v1)] [] [tree (.slice x_v0.1 n_v0 x_v0.2) v0] (ι := Unit) (fun _ => .int .i64 (r.1)) (fun _ => []) (fun _ => [tree (.slice x_v0.1 n_v0 x_v0.2) r.2]) := by
 subst e_v0
 refine calls_of (args := [_, _]) Try.func43 rfl (by kernel_rfl) Try.ntmps43 (by simp) fun c => ?_
 unfold p_laws_markIntS at H
 refine Tr.seq (Tr.region ?_)
 refine Rg.q (v := .int .i64 (0)) (Pu.qo (p_assign rfl)) (by decide) ?_
 refine Rg.nl (nT ?_)
 refine Tr.seq (Tr.seq (Tr.region ?_))
 refine Rg.q (v := .int .i64 (0)) (Pu.qo (p_assign rfl)) (by decide) ?_
 refine Rg.nl (nT ?_)
 obtain ⟨x1, hx2, H⟩ := bd.of H
 obtain ⟨n3, hx2⟩ := lp.of hx2
 refine tMidNC (ι := Unit) (fun ψ => [(1, .int .i64 (x1.1))]) (fun ψ => [tree (.slice x_v0.1 v0.length x_v0.2) x1.2]) ?_ ?_
 ·refine Tr.block ?_
  refine tLoopC (ι := { q : Nat × ((List Int) × Int × Int) × Unit // itr (p_laws_markIntS_b0 v0) q.1 q.2.1 = some x1 }) (fun ζ => [(0, .slice x_v0.1 v0.length x_v0.2), (1, .int .i64 (ζ.1.2.1.2.1)), (5, .int .i64 (ζ.1.2.1.2.2))]) (fun ζ => [tree (.slice x_v0.1 v0.length x_v0.2) ζ.1.2.1.1]) (fun ζ => ζ.1.1) ⟨(n3, (v0, v1, 0), ()), hx2⟩ ⟨rfl, rfl, rfl, trivial⟩ (.cons Del.here .nil) ?_
  rintro ⟨⟨m4, Q5, z6⟩, hk11⟩
  obtain ⟨m12, t8, e, H1, hi9, hb10⟩ := itr.of (n := m4) (s := Q5) hk11
  subst e; unfold p_laws_markIntS_b0 at H1
  show Tr _ _ _ _ _ [(0, .slice x_v0.1 v0.length x_v0.2), (1, .int .i64 (Q5.2.1)), (5, .int .i64 (Q5.2.2))] _ [tree (.slice x_v0.1 v0.length x_v0.2) Q5.1]
  refine Tr.seq (Tr.seq (Tr.region ?_))
  refine Rg.q (v := .int .i64 (Q5.2.2)) (Pu.qo (p_move rfl)) (by decide) ?_
  refine Rg.q (v := .slice x_v0.1 v0.length x_v0.2) (Pu.qo (p_move rfl)) (by decide) ?_
  refine Rg.q (v := .int .i64 ((v0.length : Int))) (Pu.qo (p_len 3 Try.underlying31 rfl)) (by decide) ?_
  refine Rg.q (v := .bool (decide (Q5.2.2 < (v0.length : Int)))) (Pu.qo (p_lss rfl rfl)) (by decide) ?_
  refine Rg.nl (nT ?_)
  refine Tr.cond (b := decide (Q5.2.2 < (v0.length : Int))) rfl (fun h13 => ?_) (fun h13 => ?_)
  ·have H1 := cdT h13 H1
   refine tSkip ?_
   refine nT (Tr.seq ?_)
   refine Tr.block ?_
   refine Tr.seq (Tr.region ?_)
   refine Rg.q (v := .slice x_v0.1 v0.length x_v0.2) (Pu.qo (p_move rfl)) (by decide) ?_
   refine Rg.q (v := .int .i64 (Q5.2.2)) (Pu.qo (p_move rfl)) (by decide) ?_
   refine Rg.q (v := .int .i64 (Q5.2.1)) (Pu.qo (p_move rfl)) (by decide) ?_
   obtain ⟨h14, H1⟩ := gd.of H1
   refine Rg.q (v := elp x_v0.1 (Q5.2.2.toNat * Enc.sz Int + 0)) (q_ixO' Try.underlying31 ty3 rfl rfl h14 Has.here) (by decide) ?_
   refine Rg.en (e_setT (l := Q5.1) (α := Int) (oa := x_v0.1) Q5.2.2.toNat Q5.2.1 () ty3 rfl rfl rfl h14.lt (ShpT.wfa _) (.cons Del.here .nil)) rfl ?_
   rintro _ _ _ ⟨rfl, rfl, rfl⟩
   refine Rg.nl (nT ?_)
   refine Tr.region ?_
   refine Rg.q (v := .int .i64 (Q5.2.1)) (Pu.qo (p_move rfl)) (by decide) ?_
   obtain ⟨h15, H1⟩ := gd.of H1
   refine Rg.q (v := .int .i64 (Q5.2.1 + 1)) (Pu.qo (p_add rfl rfl h15)) (by decide) ?_
   refine Rg.q (v := .int .i64 (Q5.2.1 + 1)) (Pu.qo (p_assign rfl)) (by decide) ?_
   refine Rg.nl ?_
   refine nB (nT (?_))
   refine Tr.region ?_
   refine Rg.q (v := .int .i64 (Q5.2.2)) (Pu.qo (p_move rfl)) (by decide) ?_
   obtain ⟨h16, H1⟩ := gd.of H1
   refine Rg.q (v := .int .i64 (Q5.2.2 + 1)) (Pu.qo (p_add rfl rfl h16)) (by decide) ?_
   refine Rg.q (v := .int .i64 (Q5.2.2 + 1)) (Pu.qo (p_assign rfl)) (by decide) ?_
   refine Rg.nl ?_
   exact nLC ⟨(m12, ((Q5.1.set Q5.2.2.toNat Q5.2.1), Q5.2.1 + 1, Q5.2.2 + 1), ()), hi9 _ (Option.some.inj H1).symm⟩ (Nat.lt_succ_self _) ⟨rfl, rfl, rfl, trivial⟩ Ents.refl (.cons Del.here .nil)
  ·have H1 := cdF h13 H1
   refine tExit (xT (xT (xE (?_))))
   have hx := hb10 _ (Option.some.inj H1).symm; subst hx
   exact nMC () ⟨rfl, trivial⟩ Ents.refl (.cons Del.here .nil)
 ·intro y7
  show At _ _ [(1, .int .i64 (x1.1))] _ [tree (.slice x_v0.1 v0.length x_v0.2) x1.2] _
  refine nT (?_)
  refine Tr.seq (Tr.region ?_)
  refine Rg.q (v := .int .i64 (x1.1)) (Pu.qo (p_move rfl)) (by decide) ?_
  refine Rg.q (v := .int .i64 (x1.1)) (Pu.qo (p_assign rfl)) (by decide) ?_
  refine Rg.nl (nT ?_)
  refine tRet ?_
  have hr := Option.some.inj H; subst hr
  exact back1 () rfl (ResV.tmp (v := .int .i64 (x1.1)) rfl) rfl Ents.nil (.cons Del.here .nil)
noncomputable def p_laws_markPostS_b0 (v0 : (List Post)) (Q5 : (List Post) × Int × Int) : Option (((List Post) × Int × Int) ⊕ (Int × (List Post))) := cond (decide (Q5.2.2 < (v0.length : Int))) (gd (ix Q5.2.2 Q5.1.length) <| bd (p_laws_markText Q5.2.1) fun r16 => gd (I64 (Q5.2.1 + 1)) <| bd (p_laws_markText (Q5.2.1 + 1)) fun r19 => gd (I64 ((Q5.2.1 + 1) + 1)) <| bd (p_laws_markIntS ((nth Q5.1 Q5.2.2.toNat).2) ((Q5.2.1 + 1) + 1)) fun r22 => gd (I64 (Q5.2.2 + 1)) <| some (.inl ((Q5.1.set Q5.2.2.toNat ((r16, r19), r22.2)), r22.1, Q5.2.2 + 1))) (some (.inr (Q5.2.1, Q5.1)))
noncomputable def p_laws_markPostS (v0 : (List Post)) (v1 : Int) : Option (Int × (List Post)) := bd (lp (p_laws_markPostS_b0 v0) (v0, v1, 0)) fun x1 => some (x1.1, x1.2)
theorem c_laws_markPostS {r : Int × (List Post)} (v0 : (List Post)) (x_v0 : Option Addr × Nat) (n_v0 : Nat) (e_v0 : n_v0 = v0.length) (v1 : Int) (H : p_laws_markPostS v0 v1 = some r) : Fn' Try.prog 91 #[.slice x_v0.1 n_v0 x_v0.2, .int .i64 (v1)] [] [tree (.slice x_v0.1 n_v0 x_v0.2) v0] (ι := Unit) (fun _ => .int .i64 (r.1)) (fun _ => []) (fun _ => [tree (.slice x_v0.1 n_v0 x_v0.2) r.2]) := by
 subst e_v0
 refine calls_of (args := [_, _]) Try.func91 rfl (by kernel_rfl) Try.ntmps91 (by simp) fun c => ?_
 unfold p_laws_markPostS at H
 refine Tr.seq (Tr.region ?_)
 refine Rg.q (v := .int .i64 (0)) (Pu.qo (p_assign rfl)) (by decide) ?_
 refine Rg.nl (nT ?_)
 refine Tr.seq (Tr.seq (Tr.region ?_))
 refine Rg.q (v := .int .i64 (0)) (Pu.qo (p_assign rfl)) (by decide) ?_
 refine Rg.nl (nT ?_)
 obtain ⟨x1, hx2, H⟩ := bd.of H
 obtain ⟨n3, hx2⟩ := lp.of hx2
 refine tMidNC (ι := Unit) (fun ψ => [(1, .int .i64 (x1.1))]) (fun ψ => [tree (.slice x_v0.1 v0.length x_v0.2) x1.2]) ?_ ?_
 ·refine Tr.block ?_
  refine tLoopC (ι := { q : Nat × ((List Post) × Int × Int) × Unit // itr (p_laws_markPostS_b0 v0) q.1 q.2.1 = some x1 }) (fun ζ => [(0, .slice x_v0.1 v0.length x_v0.2), (1, .int .i64 (ζ.1.2.1.2.1)), (5, .int .i64 (ζ.1.2.1.2.2))]) (fun ζ => [tree (.slice x_v0.1 v0.length x_v0.2) ζ.1.2.1.1]) (fun ζ => ζ.1.1) ⟨(n3, (v0, v1, 0), ()), hx2⟩ ⟨rfl, rfl, rfl, trivial⟩ (.cons Del.here .nil) ?_
  rintro ⟨⟨m4, Q5, z6⟩, hk11⟩
  obtain ⟨m12, t8, e, H1, hi9, hb10⟩ := itr.of (n := m4) (s := Q5) hk11
  subst e; unfold p_laws_markPostS_b0 at H1
  show Tr _ _ _ _ _ [(0, .slice x_v0.1 v0.length x_v0.2), (1, .int .i64 (Q5.2.1)), (5, .int .i64 (Q5.2.2))] _ [tree (.slice x_v0.1 v0.length x_v0.2) Q5.1]
  refine Tr.seq (Tr.seq (Tr.region ?_))
  refine Rg.q (v := .int .i64 (Q5.2.2)) (Pu.qo (p_move rfl)) (by decide) ?_
  refine Rg.q (v := .slice x_v0.1 v0.length x_v0.2) (Pu.qo (p_move rfl)) (by decide) ?_
  refine Rg.q (v := .int .i64 ((v0.length : Int))) (Pu.qo (p_len 33 Try.underlying24 rfl)) (by decide) ?_
  refine Rg.q (v := .bool (decide (Q5.2.2 < (v0.length : Int)))) (Pu.qo (p_lss rfl rfl)) (by decide) ?_
  refine Rg.nl (nT ?_)
  refine Tr.cond (b := decide (Q5.2.2 < (v0.length : Int))) rfl (fun h13 => ?_) (fun h13 => ?_)
  ·have H1 := cdT h13 H1
   refine tSkip ?_
   refine nT (Tr.seq ?_)
   refine Tr.block ?_
   refine Tr.seq ?_
   obtain ⟨h14, H1⟩ := gd.of H1
   refine Tr.zoom (k := Q5.2.2.toNat) h14.lt (.cons Del.here .nil) fun x15 => ?_
   show Tr _ _ _ _ _ _ _ (hole (.slice x_v0.1 v0.length x_v0.2) Q5.1 Q5.2.2.toNat [.string (((nth Q5.1 Q5.2.2.toNat).1).1), .string (((nth Q5.1 Q5.2.2.toNat).1).2), .slice x15.2.1 (((nth Q5.1 Q5.2.2.toNat).2).length) x15.2.2] :: tree (.slice x15.2.1 (((nth Q5.1 Q5.2.2.toNat).2).length) x15.2.2) ((nth Q5.1 Q5.2.2.toNat).2) :: _)
   refine Tr.region ?_
   refine Rg.q (v := .slice x_v0.1 v0.length x_v0.2) (Pu.qo (p_move rfl)) (by decide) ?_
   refine Rg.q (v := .int .i64 (Q5.2.2)) (Pu.qo (p_move rfl)) (by decide) ?_
   refine Rg.q (v := .int .i64 (Q5.2.1)) (Pu.qo (p_move rfl)) (by decide) ?_
   obtain ⟨r16, h17, H1⟩ := bd.of H1
   refine Rg.q (v := .string (r16)) (q_call (vs := [.int .i64 (Q5.2.1)]) (c_laws_markText Q5.2.1 h17) rfl EntsB.nil) (by decide) ?_
   refine Rg.q (v := elp x_v0.1 (Q5.2.2.toNat * Enc.sz Post + 0)) (q_ixH (k := Q5.2.2.toNat) Try.underlying24 ty33 rfl rfl h14 rfl Has.here) (by decide) ?_
   refine Rg.q (v := elp x_v0.1 (Q5.2.2.toNat * Enc.sz Post + 0)) (q_faH (j := 0) (i := Q5.2.2.toNat) fa33_0 rfl Has.here rfl) (by decide) ?_
   refine Rg.q (v := elp x_v0.1 (Q5.2.2.toNat * Enc.sz Post + 0)) (q_faH (j := 0) (i := Q5.2.2.toNat) fa30_0 rfl Has.here rfl) (by decide) ?_
   refine Rg.en (e_stH (v := .string (r16)) (i := Q5.2.2.toNat) (j := 0) (cs' := [.string (r16), .string (((nth Q5.1 Q5.2.2.toNat).1).2), .slice x15.2.1 (((nth Q5.1 Q5.2.2.toNat).2).length) x15.2.2]) ty9 rfl rfl (.cons Del.here .nil) rfl (by simp [Value.cells, Value.oneCell']) (Nat.le_of_ble_eq_true rfl) rfl rfl) rfl ?_
   rintro _ _ _ ⟨rfl, rfl, rfl⟩
   refine Rg.nl (nT ?_)
   refine Tr.seq (Tr.region ?_)
   refine Rg.q (v := .int .i64 (Q5.2.1)) (Pu.qo (p_move rfl)) (by decide) ?_
   obtain ⟨h18, H1⟩ := gd.of H1
   refine Rg.q (v := .int .i64 (Q5.2.1 + 1)) (Pu.qo (p_add rfl rfl h18)) (by decide) ?_
   refine Rg.q (v := .int .i64 (Q5.2.1 + 1)) (Pu.qo (p_assign rfl)) (by decide) ?_
   refine Rg.nl (nT ?_)
   refine Tr.seq (Tr.region ?_)
   refine Rg.q (v := .slice x_v0.1 v0.length x_v0.2) (Pu.qo (p_move rfl)) (by decide) ?_
   refine Rg.q (v := .int .i64 (Q5.2.2)) (Pu.qo (p_move rfl)) (by decide) ?_
   refine Rg.q (v := .int .i64 (Q5.2.1 + 1)) (Pu.qo (p_move rfl)) (by decide) ?_
   obtain ⟨r19, h20, H1⟩ := bd.of H1
   refine Rg.q (v := .string (r19)) (q_call (vs := [.int .i64 (Q5.2.1 + 1)]) (c_laws_markText (Q5.2.1 + 1) h20) rfl EntsB.nil) (by decide) ?_
   refine Rg.q (v := elp x_v0.1 (Q5.2.2.toNat * Enc.sz Post + 0)) (q_ixH (k := Q5.2.2.toNat) Try.underlying24 ty33 rfl rfl h14 rfl Has.here) (by decide) ?_
   refine Rg.q (v := elp x_v0.1 (Q5.2.2.toNat * Enc.sz Post + 0)) (q_faH (j := 0) (i := Q5.2.2.toNat) fa33_0 rfl Has.here rfl) (by decide) ?_
   refine Rg.q (v := elp x_v0.1 (Q5.2.2.toNat * Enc.sz Post + 1)) (q_faH (j := 0) (i := Q5.2.2.toNat) fa30_1 rfl Has.here rfl) (by decide) ?_
   refine Rg.en (e_stH (v := .string (r19)) (i := Q5.2.2.toNat) (j := 1) (cs' := [.string (r16), .string (r19), .slice x15.2.1 (((nth Q5.1 Q5.2.2.toNat).2).length) x15.2.2]) ty9 rfl rfl (.cons Del.here .nil) rfl (by simp [Value.cells, Value.oneCell']) (Nat.le_of_ble_eq_true rfl) rfl rfl) rfl ?_
   rintro _ _ _ ⟨rfl, rfl, rfl⟩
   refine Rg.nl (nT ?_)
   refine Tr.seq (Tr.region ?_)
   refine Rg.q (v := .int .i64 (Q5.2.1 + 1)) (Pu.qo (p_move rfl)) (by decide) ?_
   obtain ⟨h21, H1⟩ := gd.of H1
   refine Rg.q (v := .int .i64 ((Q5.2.1 + 1) + 1)) (Pu.qo (p_add rfl rfl h21)) (by decide) ?_
   refine Rg.q (v := .int .i64 ((Q5.2.1 + 1) + 1)) (Pu.qo (p_assign rfl)) (by decide) ?_
   refine Rg.nl (nT ?_)
   refine Tr.region ?_
   refine Rg.q (v := .slice x_v0.1 v0.length x_v0.2) (Pu.qo (p_move rfl)) (by decide) ?_
   refine Rg.q (v := .int .i64 (Q5.2.2)) (Pu.qo (p_move rfl)) (by decide) ?_
   refine Rg.q (v := elp x_v0.1 (Q5.2.2.toNat * Enc.sz Post + 0)) (q_ixH (k := Q5.2.2.toNat) Try.underlying24 ty33 rfl rfl h14 rfl Has.here) (by decide) ?_
   refine Rg.q (v := elp x_v0.1 (Q5.2.2.toNat * Enc.sz Post + 2)) (q_faH (j := 0) (i := Q5.2.2.toNat) fa33_1 rfl Has.here rfl) (by decide) ?_
   refine Rg.q (v := .slice x15.2.1 (((nth Q5.1 Q5.2.2.toNat).2).length) x15.2.2) (q_ldH (i := Q5.2.2.toNat) (j := 2) ty31 rfl Has.here rfl) (by decide) ?_
   refine Rg.q (v := .int .i64 ((Q5.2.1 + 1) + 1)) (Pu.qo (p_move rfl)) (by decide) ?_
   obtain ⟨r22, h23, H1⟩ := bd.of H1
   refine Rg.ed (e_callM (vs := [.slice x15.2.1 (((nth Q5.1 Q5.2.2.toNat).2).length) x15.2.2, .int .i64 ((Q5.2.1 + 1) + 1)]) (c_laws_markIntS ((nth Q5.1 Q5.2.2.toNat).2) x15.2 (((nth Q5.1 Q5.2.2.toNat).2).length) rfl ((Q5.2.1 + 1) + 1) h23) (Solo.tree Solo.nil) (fun _ => (Solo.tree Solo.nil)) rfl (.cons Del.here.there .nil) EntsB.nil) rfl (by decide) ?_
   rintro _ _ _ ⟨u24, rfl, rfl, rfl⟩
   refine Rg.q (v := .int .i64 (r22.1)) (Pu.qo (p_assign rfl)) (by decide) ?_
   refine Rg.nl ?_
   refine nB (nT (?_))
   refine Tr.olen Has.here fun hn => ?_; rw [hn]
   refine Tr.region ?_
   refine Rg.q (v := .int .i64 (Q5.2.2)) (Pu.qo (p_move rfl)) (by decide) ?_
   obtain ⟨h25, H1⟩ := gd.of H1
   refine Rg.q (v := .int .i64 (Q5.2.2 + 1)) (Pu.qo (p_add rfl rfl h25)) (by decide) ?_
   refine Rg.q (v := .int .i64 (Q5.2.2 + 1)) (Pu.qo (p_assign rfl)) (by decide) ?_
   refine Rg.nl ?_
   refine At.unzoom ((r16, r19), r22.2) (((), ()), x15.2) rfl (.cons Del.here.there (.cons Del.here .nil)) ?_
   exact nLC ⟨(m12, ((Q5.1.set Q5.2.2.toNat ((r16, r19), r22.2)), r22.1, Q5.2.2 + 1), ()), hi9 _ (Option.some.inj H1).symm⟩ (Nat.lt_succ_self _) ⟨rfl, rfl, rfl, trivial⟩ Ents.refl (.cons Del.here .nil)
  ·have H1 := cdF h13 H1
   refine tExit (xT (xT (xE (?_))))
   have hx := hb10 _ (Option.some.inj H1).symm; subst hx
   exact nMC () ⟨rfl, trivial⟩ Ents.refl (.cons Del.here .nil)
 ·intro y7
  show At _ _ [(1, .int .i64 (x1.1))] _ [tree (.slice x_v0.1 v0.length x_v0.2) x1.2] _
  refine nT (?_)
  refine Tr.seq (Tr.region ?_)
  refine Rg.q (v := .int .i64 (x1.1)) (Pu.qo (p_move rfl)) (by decide) ?_
  refine Rg.q (v := .int .i64 (x1.1)) (Pu.qo (p_assign rfl)) (by decide) ?_
  refine Rg.nl (nT ?_)
  refine tRet ?_
  have hr := Option.some.inj H; subst hr
  exact back1 () rfl (ResV.tmp (v := .int .i64 (x1.1)) rfl) rfl Ents.nil (.cons Del.here .nil)
noncomputable def p_laws_markIndex (v0 : Index) (v1 : Int) : Option (Int × Index) := bd (p_laws_markTagSS v0.1 v1) fun r2 => bd (p_laws_markPostS v0.2 r2.1) fun r5 => some (r5.1, (r2.2, r5.2))
theorem c_laws_markIndex {r : Int × Index} (v0 : Index) (x_v0 : (Option Addr × Nat) × (Option Addr × Nat)) (v1 : Int) (H : p_laws_markIndex v0 v1 = some r) : Fn' Try.prog 42 #[.agg #[.slice x_v0.1.1 v0.1.length x_v0.1.2, .slice x_v0.2.1 v0.2.length x_v0.2.2], .int .i64 (v1)] [] [tree (.slice x_v0.1.1 v0.1.length x_v0.1.2) v0.1, tree (.slice x_v0.2.1 v0.2.length x_v0.2.2) v0.2] (ι := Unit) (fun _ => .int .i64 (r.1)) (fun _ => []) (fun _ => [tree (.slice x_v0.1.1 v0.1.length x_v0.1.2) r.2.1, tree (.slice x_v0.2.1 v0.2.length x_v0.2.2) r.2.2]) := by
 refine calls_of (args := [_, _]) Try.func42 rfl (by kernel_rfl) Try.ntmps42 (by simp) fun c => ?_
 unfold p_laws_markIndex at H
 refine Tr.seq (Tr.region ?_)
 refine Rg.ed (e_box (t := 26) (v := .agg #[.slice x_v0.1.1 v0.1.length x_v0.1.2, .slice x_v0.2.1 v0.2.length x_v0.2.2]) rfl) rfl (by decide) ?_
 rintro _ _ _ ⟨g1, rfl, rfl, rfl⟩
 refine Rg.q (v := .int .i64 (0)) (Pu.qo (p_assign rfl)) (by decide) ?_
 refine Rg.nl (nT ?_)
 refine Tr.seq (Tr.region ?_)
 refine Rg.q (v := .pointer (some ⟨g1, 0, none⟩)) (Pu.qo (p_fabE fa26_0 rfl rfl)) (by decide) ?_
 refine Rg.q (v := .slice x_v0.1.1 v0.1.length x_v0.1.2) (q_ldb ty23 rfl Has.here rfl) (by decide) ?_
 refine Rg.q (v := .int .i64 (v1)) (Pu.qo (p_move rfl)) (by decide) ?_
 obtain ⟨r2, h3, H⟩ := bd.of H
 refine Rg.ed (e_callM (vs := [.slice x_v0.1.1 v0.1.length x_v0.1.2, .int .i64 (v1)]) (c_laws_markTagSS v0.1 x_v0.1 v0.1.length rfl v1 h3) (Solo.tree Solo.nil) (fun _ => (Solo.tree Solo.nil)) rfl (.cons Del.here.there .nil) EntsB.nil) rfl (by decide) ?_
 rintro _ _ _ ⟨u4, rfl, rfl, rfl⟩
 refine Rg.q (v := .int .i64 (r2.1)) (Pu.qo (p_assign rfl)) (by decide) ?_
 refine Rg.nl (nT ?_)
 refine Tr.seq (Tr.region ?_)
 refine Rg.q (v := .pointer (some ⟨g1, 1, none⟩)) (Pu.qo (p_fabE fa26_1 rfl rfl)) (by decide) ?_
 refine Rg.q (v := .slice x_v0.2.1 v0.2.length x_v0.2.2) (q_ldb ty24 rfl Has.here.there rfl) (by decide) ?_
 refine Rg.q (v := .int .i64 (r2.1)) (Pu.qo (p_move rfl)) (by decide) ?_
 obtain ⟨r5, h6, H⟩ := bd.of H
 refine Rg.ed (e_callM (vs := [.slice x_v0.2.1 v0.2.length x_v0.2.2, .int .i64 (r2.1)]) (c_laws_markPostS v0.2 x_v0.2 v0.2.length rfl r2.1 h6) (Solo.tree Solo.nil) (fun _ => (Solo.tree Solo.nil)) rfl (.cons Del.here.there.there .nil) EntsB.nil) rfl (by decide) ?_
 rintro _ _ _ ⟨u7, rfl, rfl, rfl⟩
 refine Rg.q (v := .int .i64 (r5.1)) (Pu.qo (p_assign rfl)) (by decide) ?_
 refine Rg.nl (nT ?_)
 refine Tr.seq (Tr.region ?_)
 refine Rg.q (v := .int .i64 (r5.1)) (Pu.qo (p_move rfl)) (by decide) ?_
 refine Rg.q (v := .int .i64 (r5.1)) (Pu.qo (p_assign rfl)) (by decide) ?_
 refine Rg.nl (nT ?_)
 refine tRet ?_
 have hr := Option.some.inj H; subst hr
 exact back1 () rfl (ResV.tmp (v := .int .i64 (r5.1)) rfl) rfl Ents.nil (.cons Del.here.there (.cons Del.here .nil))
noncomputable def p_laws_heldIntS_b0 (v0 : (List Int)) (Q5 : Int × Int) : Option ((Int × Int) ⊕ (Int ⊕ Int)) := cond (decide (Q5.2 < (v0.length : Int))) (gd (ix Q5.2 v0.length) <| cond (!decide ((nth v0 Q5.2.toNat) = Q5.1)) (some (.inr (.inr (-1)))) (gd (I64 (Q5.1 + 1)) <| gd (I64 (Q5.2 + 1)) <| some (.inl (Q5.1 + 1, Q5.2 + 1)))) (some (.inr (.inl Q5.1)))
noncomputable def p_laws_heldIntS (v0 : (List Int)) (v1 : Int) : Option (Int) := bd (lp (p_laws_heldIntS_b0 v0) (v1, 0)) <| sw (fun e18 => some e18) (fun q => some q)
theorem c_laws_heldIntS {r : Int} (v0 : (List Int)) (x_v0 : Option Addr × Nat) (v1 : Int) (H : p_laws_heldIntS v0 v1 = some r) : Fn' Try.prog 44 #[.slice x_v0.1 v0.length x_v0.2, .int .i64 (v1)] [imm (.slice x_v0.1 v0.length x_v0.2) v0] [] (ι := Unit) (fun _ => .int .i64 (r)) (fun _ => []) (fun _ => []) := by
 refine calls_of (args := [_, _]) Try.func44 rfl (by kernel_rfl) Try.ntmps44 (by simp) fun c => ?_
 unfold p_laws_heldIntS at H
 refine Tr.seq (Tr.region ?_)
 refine Rg.q (v := .int .i64 (0)) (Pu.qo (p_assign rfl)) (by decide) ?_
 refine Rg.nl (nT ?_)
 refine Tr.seq (Tr.seq (Tr.region ?_))
 refine Rg.q (v := .int .i64 (0)) (Pu.qo (p_assign rfl)) (by decide) ?_
 refine Rg.nl (nT ?_)
 obtain ⟨x1, hx2, H⟩ := bd.of H
 obtain ⟨n3, hx2⟩ := lp.of hx2
 refine tMidNC (ι := { q : (Int) × Unit // x1 = .inl q.1 }) (fun ψ => [(1, .int .i64 (ψ.1.1))]) (fun ψ => []) ?_ ?_
 ·refine Tr.block ?_
  refine tLoopC (ι := { q : Nat × (Int × Int) × Unit // itr (p_laws_heldIntS_b0 v0) q.1 q.2.1 = some x1 }) (fun ζ => [(0, .slice x_v0.1 v0.length x_v0.2), (1, .int .i64 (ζ.1.2.1.1)), (5, .int .i64 (ζ.1.2.1.2))]) (fun ζ => []) (fun ζ => ζ.1.1) ⟨(n3, (v1, 0), ()), hx2⟩ ⟨rfl, rfl, rfl, trivial⟩ Take.nil ?_
  rintro ⟨⟨m4, Q5, z6⟩, hk11⟩
  obtain ⟨m12, t8, e, H1, hi9, hb10⟩ := itr.of (n := m4) (s := Q5) hk11
  subst e; unfold p_laws_heldIntS_b0 at H1
  show Tr _ _ _ _ _ [(0, .slice x_v0.1 v0.length x_v0.2), (1, .int .i64 (Q5.1)), (5, .int .i64 (Q5.2))] _ []
  refine Tr.seq (Tr.seq (Tr.region ?_))
  refine Rg.q (v := .int .i64 (Q5.2)) (Pu.qo (p_move rfl)) (by decide) ?_
  refine Rg.q (v := .slice x_v0.1 v0.length x_v0.2) (Pu.qo (p_move rfl)) (by decide) ?_
  refine Rg.q (v := .int .i64 ((v0.length : Int))) (Pu.qo (p_len 3 Try.underlying31 rfl)) (by decide) ?_
  refine Rg.q (v := .bool (decide (Q5.2 < (v0.length : Int)))) (Pu.qo (p_lss rfl rfl)) (by decide) ?_
  refine Rg.nl (nT ?_)
  refine Tr.cond (b := decide (Q5.2 < (v0.length : Int))) rfl (fun h13 => ?_) (fun h13 => ?_)
  ·have H1 := cdT h13 H1
   refine tSkip ?_
   refine nT (Tr.seq ?_)
   refine Tr.block ?_
   refine Tr.seq (Tr.seq (Tr.region ?_))
   refine Rg.q (v := .slice x_v0.1 v0.length x_v0.2) (Pu.qo (p_move rfl)) (by decide) ?_
   refine Rg.q (v := .int .i64 (Q5.2)) (Pu.qo (p_move rfl)) (by decide) ?_
   obtain ⟨h14, H1⟩ := gd.of H1
   refine Rg.q (v := elp x_v0.1 (Q5.2.toNat * Enc.sz Int + 0)) (q_ixg (l := v0) (E := fun i => Flat.enc (nth v0 i)) (oa := x_v0.1) Try.underlying31 ty3 rfl rfl h14 rfl (EntB.flat (Ent.b Ent.z))) (by decide) ?_
   refine Rg.q (v := .int .i64 (nth v0 Q5.2.toNat)) (q_lde (l := v0) (E := fun i => Flat.enc (nth v0 i)) (oa := x_v0.1) (i := Q5.2.toNat) (j := 0) ty3 rfl (EntB.flat (Ent.b Ent.z)) h14.lt rfl) (by decide) ?_
   refine Rg.q (v := .int .i64 (Q5.1)) (Pu.qo (p_move rfl)) (by decide) ?_
   refine Rg.q (v := .bool (!decide ((nth v0 Q5.2.toNat) = Q5.1))) (Pu.qo (p_neq rfl rfl)) (by decide) ?_
   refine Rg.nl (nT ?_)
   refine Tr.cond (b := !decide ((nth v0 Q5.2.toNat) = Q5.1)) rfl (fun h15 => ?_) (fun h15 => ?_)
   ·have H1 := cdT h15 H1
    refine Tr.seq (Tr.region ?_)
    refine Rg.q (v := .int .i64 (-1)) (Pu.qo (p_assign rfl)) (by decide) ?_
    refine Rg.nl (nT ?_)
    refine tRet ?_
    refine rT (rB (rT (rT (rB (rT (rT (?_)))))))
    have hx := hb10 _ (Option.some.inj H1).symm; subst hx
    replace H := sw.r H
    have hr := Option.some.inj H; subst hr
    exact back1 () rfl (ResV.tmp (v := .int .i64 (-1)) rfl) rfl Ents.nil Take.nil
   ·have H1 := cdF h15 H1
    refine tSkip ?_
    refine nT (?_)
    refine Tr.region ?_
    refine Rg.q (v := .int .i64 (Q5.1)) (Pu.qo (p_move rfl)) (by decide) ?_
    obtain ⟨h16, H1⟩ := gd.of H1
    refine Rg.q (v := .int .i64 (Q5.1 + 1)) (Pu.qo (p_add rfl rfl h16)) (by decide) ?_
    refine Rg.q (v := .int .i64 (Q5.1 + 1)) (Pu.qo (p_assign rfl)) (by decide) ?_
    refine Rg.nl ?_
    refine nB (nT (?_))
    refine Tr.region ?_
    refine Rg.q (v := .int .i64 (Q5.2)) (Pu.qo (p_move rfl)) (by decide) ?_
    obtain ⟨h17, H1⟩ := gd.of H1
    refine Rg.q (v := .int .i64 (Q5.2 + 1)) (Pu.qo (p_add rfl rfl h17)) (by decide) ?_
    refine Rg.q (v := .int .i64 (Q5.2 + 1)) (Pu.qo (p_assign rfl)) (by decide) ?_
    refine Rg.nl ?_
    exact nLC ⟨(m12, (Q5.1 + 1, Q5.2 + 1), ()), hi9 _ (Option.some.inj H1).symm⟩ (Nat.lt_succ_self _) ⟨rfl, rfl, rfl, trivial⟩ Ents.refl Take.nil
  ·have H1 := cdF h13 H1
   refine tExit (xT (xT (xE (?_))))
   exact nMC ⟨(Q5.1, ()), (hb10 _ (Option.some.inj H1).symm).symm⟩ ⟨rfl, trivial⟩ Ents.refl Take.nil
 ·rintro ⟨⟨e18, y7⟩, hx⟩; subst hx; replace H := sw.l H
  show At _ _ [(1, .int .i64 (e18))] _ [] _
  refine nT (?_)
  refine Tr.seq (Tr.region ?_)
  refine Rg.q (v := .int .i64 (e18)) (Pu.qo (p_move rfl)) (by decide) ?_
  refine Rg.q (v := .int .i64 (e18)) (Pu.qo (p_assign rfl)) (by decide) ?_
  refine Rg.nl (nT ?_)
  refine tRet ?_
  have hr := Option.some.inj H; subst hr
  exact back1 () rfl (ResV.tmp (v := .int .i64 (e18)) rfl) rfl Ents.nil Take.nil
noncomputable def p_laws_FnExactIndexPost (v0 : Index) (v1 : Tag) : Option (Bool) := bd (p_laws_szIndex v0 1048576) fun r5 => cond (decide (r5 < 0)) (some true) (bd (p_laws_szTag v1 r5) fun r8 => cond (decide (r8 < 0)) (some true) (bd (p_laws_toIndex v0) fun r11 => bd (p_laws_toTag v1) fun r14 => bd (p_spec_IndexPost r11 r14) fun r16 => bd (p_impl_IndexPost r11 r14) fun r21 => bd (p_laws_eqIntS r21 r16) fun r24 => cond (!r24) (some false) (bd (p_laws_eqIndex r11 r11) fun r28 => cond (!r28) (some false) (bd (p_laws_markIndex r11 1) fun r31 => bd (cond (decide (r31.1 < 0)) (some (true)) (some (!r24))) fun b34 => cond (b34) (some false) (bd (p_laws_markIntS r21 1) fun r38 => bd (p_laws_heldIntS r38.2 1) fun r41 => cond (decide (r41 < 0)) (some false) (cond (!decide (r41 = r38.1)) (some false) (cond (!r24) (some false) (cond (decide (r41 < 0)) (some false) (cond (!decide (r41 = r38.1)) (some false) (some true))))))))))
theorem c_laws_FnExactIndexPost {r : Bool} (v0 : Index) (x_v0 : (Option Addr × Nat) × (Option Addr × Nat)) (v1 : Tag) (H : p_laws_FnExactIndexPost v0 v1 = some r) : Fn' Try.prog 13 #[.agg #[.slice x_v0.1.1 v0.1.length x_v0.1.2, .slice x_v0.2.1 v0.2.length x_v0.2.2], .agg #[.string (v1.1), .string (v1.2)]] [imm (.slice x_v0.1.1 v0.1.length x_v0.1.2) v0.1, imm (.slice x_v0.2.1 v0.2.length x_v0.2.2) v0.2] [] (ι := Unit) (fun _ => .bool (r)) (fun _ => []) (fun _ => []) := by
 refine calls_of (args := [_, _]) Try.func13 rfl (by kernel_rfl) Try.ntmps13 (by simp) fun c => ?_
 unfold p_laws_FnExactIndexPost at H
 refine Tr.openD Ent.z fun X1 => ?_
 refine Tr.openD Ent.z.s.s fun X2 => ?_
 refine Tr.seq (Tr.region ?_)
 refine Rg.ed (e_box (t := 50) (v := .agg #[.slice x_v0.1.1 v0.1.length x_v0.1.2, .slice x_v0.2.1 v0.2.length x_v0.2.2]) rfl) rfl (by decide) ?_
 rintro _ _ _ ⟨g3, rfl, rfl, rfl⟩
 refine Rg.ed (e_box (t := 64) (v := .agg #[.string (v1.1), .string (v1.2)]) rfl) rfl (by decide) ?_
 rintro _ _ _ ⟨g4, rfl, rfl, rfl⟩
 refine Rg.q (v := .bool (false)) (Pu.qo (p_assign rfl)) (by decide) ?_
 refine Rg.nl (nT ?_)
 refine Tr.seq (Tr.region ?_)
 refine Rg.q (v := .int .i64 (1048576)) (Pu.qo (p_assign rfl)) (by decide) ?_
 refine Rg.nl (nT ?_)
 refine Tr.seq (Tr.region ?_)
 refine Rg.q (v := .agg #[.slice x_v0.1.1 v0.1.length x_v0.1.2, .slice x_v0.2.1 v0.2.length x_v0.2.2]) (q_ldbA ty50 rfl Has.here.there rfl) (by decide) ?_
 refine Rg.q (v := .int .i64 (1048576)) (Pu.qo (p_move rfl)) (by decide) ?_
 obtain ⟨r5, h6, H⟩ := bd.of H
 refine Rg.q (v := .int .i64 (r5)) (q_call (vs := [.agg #[.slice x_v0.1.1 v0.1.length x_v0.1.2, .slice x_v0.2.1 v0.2.length x_v0.2.2], .int .i64 (1048576)]) (c_laws_szIndex v0 x_v0 1048576 h6) rfl (EntsB.cons (Ent.b (Ent.dimm Ent.z.s)) (EntsB.cons (Ent.b (Ent.dimm Ent.z)) EntsB.nil))) (by decide) ?_
 refine Rg.q (v := .int .i64 (r5)) (Pu.qo (p_assign rfl)) (by decide) ?_
 refine Rg.nl (nT ?_)
 refine Tr.seq (Tr.seq (Tr.region ?_))
 refine Rg.q (v := .int .i64 (r5)) (Pu.qo (p_move rfl)) (by decide) ?_
 refine Rg.q (v := .bool (decide (r5 < 0))) (Pu.qo (p_lss rfl rfl)) (by decide) ?_
 refine Rg.nl (nT ?_)
 refine Tr.cond (b := decide (r5 < 0)) rfl (fun h7 => ?_) (fun h7 => ?_)
 ·have H := cdT h7 H
  refine Tr.seq (Tr.region ?_)
  refine Rg.q (v := .bool (true)) (Pu.qo (p_assign rfl)) (by decide) ?_
  refine Rg.nl (nT ?_)
  refine tRet ?_
  refine rT (?_)
  have hr := Option.some.inj H; subst hr
  exact back1 () rfl (ResV.tmp (v := .bool (true)) rfl) rfl Ents.nil Take.nil
 ·have H := cdF h7 H
  refine tSkip ?_
  refine nT (?_)
  refine Tr.seq (Tr.region ?_)
  refine Rg.q (v := .agg #[.string (v1.1), .string (v1.2)]) (q_ldbA ty64 rfl Has.here rfl) (by decide) ?_
  refine Rg.q (v := .int .i64 (r5)) (Pu.qo (p_move rfl)) (by decide) ?_
  obtain ⟨r8, h9, H⟩ := bd.of H
  refine Rg.q (v := .int .i64 (r8)) (q_call (vs := [.agg #[.string (v1.1), .string (v1.2)], .int .i64 (r5)]) (c_laws_szTag v1 r5 h9) rfl EntsB.nil) (by decide) ?_
  refine Rg.q (v := .int .i64 (r8)) (Pu.qo (p_assign rfl)) (by decide) ?_
  refine Rg.nl (nT ?_)
  refine Tr.seq (Tr.seq (Tr.region ?_))
  refine Rg.q (v := .int .i64 (r8)) (Pu.qo (p_move rfl)) (by decide) ?_
  refine Rg.q (v := .bool (decide (r8 < 0))) (Pu.qo (p_lss rfl rfl)) (by decide) ?_
  refine Rg.nl (nT ?_)
  refine Tr.cond (b := decide (r8 < 0)) rfl (fun h10 => ?_) (fun h10 => ?_)
  ·have H := cdT h10 H
   refine Tr.seq (Tr.region ?_)
   refine Rg.q (v := .bool (true)) (Pu.qo (p_assign rfl)) (by decide) ?_
   refine Rg.nl (nT ?_)
   refine tRet ?_
   refine rT (?_)
   have hr := Option.some.inj H; subst hr
   exact back1 () rfl (ResV.tmp (v := .bool (true)) rfl) rfl Ents.nil Take.nil
  ·have H := cdF h10 H
   refine tSkip ?_
   refine nT (Tr.seq ?_)
   refine tNwS [(3, .pointer (some ⟨g4, 0, none⟩)), (2, .pointer (some ⟨g3, 0, none⟩))] 1 [0, 2, 1, 3, 4, 5] [1, 4] [] Try.mixed (by kernel_rfl) (by decide) List.nodup_nil ⟨rfl, rfl, trivial⟩ rfl okNil ?_
   refine w_q (v := .agg #[.slice x_v0.1.1 v0.1.length x_v0.1.2, .slice x_v0.2.1 v0.2.length x_v0.2.2]) rfl (by decide) rfl rfl rfl (fun F => (q_ldbA ty50 rfl (Has.here.there.app F) rfl)) ?_
   refine w_q (v := .agg #[.string (v1.1), .string (v1.2)]) rfl (by decide) rfl rfl rfl (fun F => (q_ldbA ty64 rfl (Has.here.app F) rfl)) ?_
   obtain ⟨r11, h12, H⟩ := bd.of H
   refine w_ed rfl (by decide) rfl Rdy.nil rfl (n_callB (vs := [.agg #[.slice x_v0.1.1 v0.1.length x_v0.1.2, .slice x_v0.2.1 v0.2.length x_v0.2.2]]) (c_laws_toIndex v0 x_v0 h12) (fun _ => (Solo.tree (Solo.tree Solo.nil))) rfl (EntsB.cons (Ent.b (Ent.dimm Ent.z.s)) (EntsB.cons (Ent.b (Ent.dimm Ent.z)) EntsB.nil))) ?_
   rintro _ _ _ ⟨x13, rfl, rfl, rfl⟩
   refine ⟨(PdOk.q rfl rfl (fun F => (q_ldbA ty64 rfl (Has.here.there.there.app F) rfl)) (PdOk.anc (by kernel_rfl) PdOk.nil)), ?_⟩
   obtain ⟨r14, h15, H⟩ := bd.of H
   refine w_q (v := .agg #[.string (r14.1), .string (r14.2)]) rfl (by decide) rfl rfl rfl (fun F => (q_call (vs := [.agg #[.string (v1.1), .string (v1.2)]]) (c_laws_toTag v1 h15) rfl EntsB.nil)) ?_
   obtain ⟨r16, h17, H⟩ := bd.of H
   refine w_ed rfl (by decide) rfl Rdy.nil rfl (n_callB (vs := [.agg #[.slice x13.1.1 r11.1.length x13.1.2, .slice x13.2.1 r11.2.length x13.2.2], .agg #[.string (r14.1), .string (r14.2)]]) (c_spec_IndexPost r11 x13 r14 h17) (fun _ => (Solo.tree Solo.nil)) rfl (EntsB.cons (EntB.tree Has.here) (EntsB.cons (EntB.tree Has.here.there) EntsB.nil))) ?_
   rintro _ _ _ ⟨x18, rfl, rfl, rfl⟩
   refine ⟨(PdOk.anc (by kernel_rfl) (PdOk.q rfl rfl (fun F => (q_ldbA ty64 rfl (Has.here.there.there.there.app F) rfl)) (PdOk.q rfl rfl (fun F => (q_ldbA ty50 rfl (Has.here.there.there.there.there.app F) rfl)) PdOk.nil))), ?_⟩
   refine w_pu (v := .slice x18.1 r16.length x18.2) rfl (by decide) rfl rfl rfl (p_assign rfl) ?_
   refine w_nil ?_
   show At _ _ _ _ _ _
   refine nT (?_)
   refine Tr.seq (Tr.region ?_)
   refine Rg.q (v := .agg #[.slice x_v0.1.1 v0.1.length x_v0.1.2, .slice x_v0.2.1 v0.2.length x_v0.2.2]) (q_ldbA ty50 rfl Has.here.there.there.there.there rfl) (by decide) ?_
   refine Rg.ed (e_callB (vs := [.agg #[.slice x_v0.1.1 v0.1.length x_v0.1.2, .slice x_v0.2.1 v0.2.length x_v0.2.2]]) (c_laws_toIndex v0 x_v0 h12) (fun _ => (Solo.tree (Solo.tree Solo.nil))) rfl (EntsB.cons (Ent.b (Ent.dimm Ent.z.s)) (EntsB.cons (Ent.b (Ent.dimm Ent.z)) EntsB.nil))) rfl (by decide) ?_
   rintro _ _ _ ⟨x19, rfl, rfl, rfl⟩
   refine Rg.ed (e_alloc ty26) rfl (by decide) ?_
   rintro _ _ _ ⟨g20, rfl, rfl, rfl⟩
   refine Rg.en (e_store (v := .agg #[.slice x19.1.1 r11.1.length x19.1.2, .slice x19.2.1 r11.2.length x19.2.2]) (cs' := [.slice x19.1.1 r11.1.length x19.1.2, .slice x19.2.1 r11.2.length x19.2.2]) ty26 rfl rfl Upd.here rfl (by simp [Value.cells, Value.oneCell']) (Nat.le_of_ble_eq_true rfl) rfl) rfl ?_
   rintro _ _ _ ⟨rfl, rfl, rfl⟩
   refine Rg.nl (nT ?_)
   refine Tr.seq ?_
   refine tNwS [(7, .pointer (some ⟨g20, 0, none⟩)), (6, .slice x18.1 r16.length x18.2), (3, .pointer (some ⟨g4, 0, none⟩)), (2, .pointer (some ⟨g3, 0, none⟩))] 1 [0, 1, 2, 3, 4] [3] [] Try.mixed (by kernel_rfl) (by decide) List.nodup_nil ⟨rfl, rfl, rfl, rfl, trivial⟩ rfl okNil ?_
   refine w_q (v := .agg #[.slice x19.1.1 r11.1.length x19.1.2, .slice x19.2.1 r11.2.length x19.2.2]) rfl (by decide) rfl rfl rfl (fun F => (q_ldbA ty26 rfl (Has.here.app F) rfl)) ?_
   refine w_q (v := .agg #[.string (v1.1), .string (v1.2)]) rfl (by decide) rfl rfl rfl (fun F => (q_ldbA ty64 rfl (Has.here.there.there.there.there.there.there.app F) rfl)) ?_
   refine w_q (v := .agg #[.string (r14.1), .string (r14.2)]) rfl (by decide) rfl rfl rfl (fun F => (q_call (vs := [.agg #[.string (v1.1), .string (v1.2)]]) (c_laws_toTag v1 h15) rfl EntsB.nil)) ?_
   obtain ⟨r21, h22, H⟩ := bd.of H
   refine w_ed rfl (by decide) rfl Rdy.nil rfl (n_callB (vs := [.agg #[.slice x19.1.1 r11.1.length x19.1.2, .slice x19.2.1 r11.2.length x19.2.2], .agg #[.string (r14.1), .string (r14.2)]]) (c_impl_IndexPost r11 x19 r14 h22) (fun _ => (Solo.tree Solo.nil)) rfl (EntsB.cons (EntB.tree Has.here.there) (EntsB.cons (EntB.tree Has.here.there.there) EntsB.nil))) ?_
   rintro _ _ _ ⟨x23, rfl, rfl, rfl⟩
   refine ⟨(PdOk.anc (by kernel_rfl) (PdOk.q rfl rfl (fun F => (q_ldbA ty64 rfl (Has.here.there.there.there.there.there.there.there.app F) rfl)) (PdOk.anc (by kernel_rfl) PdOk.nil))), ?_⟩
   refine w_pu (v := .slice x23.1 r21.length x23.2) rfl (by decide) rfl rfl rfl (p_assign rfl) ?_
   refine w_nil ?_
   show At _ _ _ _ _ _
   refine nT (?_)
   refine Tr.seq (Tr.seq (Tr.region ?_))
   refine Rg.q (v := .slice x23.1 r21.length x23.2) (Pu.qo (p_move rfl)) (by decide) ?_
   refine Rg.q (v := .slice x18.1 r16.length x18.2) (Pu.qo (p_move rfl)) (by decide) ?_
   obtain ⟨r24, h25, H⟩ := bd.of H
   refine Rg.q (v := .bool (r24)) (q_call (vs := [.slice x23.1 r21.length x23.2, .slice x18.1 r16.length x18.2]) (c_laws_eqIntS r21 x23 r16 x18 h25) rfl (EntsB.cons (EntB.tree Has.here) (EntsB.cons (EntB.tree Has.here.there.there.there.there) EntsB.nil))) (by decide) ?_
   refine Rg.q (v := .bool (!r24)) (Pu.qo (p_not rfl)) (by decide) ?_
   refine Rg.nl (nT ?_)
   refine Tr.cond (b := !r24) rfl (fun h26 => ?_) (fun h26 => ?_)
   ·have H := cdT h26 H
    refine Tr.seq (Tr.region ?_)
    refine Rg.q (v := .bool (false)) (Pu.qo (p_assign rfl)) (by decide) ?_
    refine Rg.nl (nT ?_)
    refine tRet ?_
    refine rT (?_)
    have hr := Option.some.inj H; subst hr
    exact back1 () rfl (ResV.tmp (v := .bool (false)) rfl) rfl Ents.nil Take.nil
   ·have H := cdF h26 H
    refine tSkip ?_
    refine nT (Tr.seq ?_)
    refine Tr.seq ?_
    refine tNwS [(8, .slice x23.1 r21.length x23.2), (7, .pointer (some ⟨g20, 0, none⟩)), (6, .slice x18.1 r16.length x18.2), (3, .pointer (some ⟨g4, 0, none⟩)), (2, .pointer (some ⟨g3, 0, none⟩))] 2 [0, 1, 2, 3, 4] [2] [] Try.mixed (by kernel_rfl) (by decide) List.nodup_nil ⟨rfl, rfl, rfl, rfl, rfl, trivial⟩ rfl okNil ?_
    refine w_q (v := .agg #[.slice x19.1.1 r11.1.length x19.1.2, .slice x19.2.1 r11.2.length x19.2.2]) rfl (by decide) rfl rfl rfl (fun F => (q_ldbA ty26 rfl (Has.here.there.app F) rfl)) ?_
    refine w_q (v := .agg #[.slice x_v0.1.1 v0.1.length x_v0.1.2, .slice x_v0.2.1 v0.2.length x_v0.2.2]) rfl (by decide) rfl rfl rfl (fun F => (q_ldbA ty50 rfl (Has.here.there.there.there.there.there.there.there.there.app F) rfl)) ?_
    refine w_ed rfl (by decide) rfl Rdy.nil rfl (n_callB (vs := [.agg #[.slice x_v0.1.1 v0.1.length x_v0.1.2, .slice x_v0.2.1 v0.2.length x_v0.2.2]]) (c_laws_toIndex v0 x_v0 h12) (fun _ => (Solo.tree (Solo.tree Solo.nil))) rfl (EntsB.cons (Ent.b (Ent.dimm Ent.z.s)) (EntsB.cons (Ent.b (Ent.dimm Ent.z)) EntsB.nil))) ?_
    rintro _ _ _ ⟨x27, rfl, rfl, rfl⟩
    refine ⟨(PdOk.anc (by kernel_rfl) (PdOk.q rfl rfl (fun F => (q_ldbA ty26 rfl (Has.here.there.there.there.app F) rfl)) PdOk.nil)), ?_⟩
    obtain ⟨r28, h29, H⟩ := bd.of H
    refine w_q (v := .bool (r28)) rfl (by decide) rfl rfl rfl (fun F => (q_call (vs := [.agg #[.slice x19.1.1 r11.1.length x19.1.2, .slice x19.2.1 r11.2.length x19.2.2], .agg #[.slice x27.1.1 r11.1.length x27.1.2, .slice x27.2.1 r11.2.length x27.2.2]]) (c_laws_eqIndex r11 x19 r11 x27 h29) rfl (EntsB.cons (EntB.tree (Has.here.there.there.there.there.app F)) (EntsB.cons (EntB.tree (Has.here.there.there.there.there.there.app F)) (EntsB.cons (EntB.tree (Has.here.app F)) (EntsB.cons (EntB.tree (Has.here.there.app F)) EntsB.nil)))))) ?_
    refine w_pu (v := .bool (!r28)) rfl (by decide) rfl rfl rfl (p_not rfl) ?_
    refine w_nil ?_
    show At _ _ _ _ _ _
    refine nT (?_)
    refine Tr.cond (b := !r28) rfl (fun h30 => ?_) (fun h30 => ?_)
    ·have H := cdT h30 H
     refine Tr.seq (Tr.region ?_)
     refine Rg.q (v := .bool (false)) (Pu.qo (p_assign rfl)) (by decide) ?_
     refine Rg.nl (nT ?_)
     refine tRet ?_
     refine rT (?_)
     have hr := Option.some.inj H; subst hr
     exact back1 () rfl (ResV.tmp (v := .bool (false)) rfl) rfl Ents.nil Take.nil
    ·have H := cdF h30 H
     refine tSkip ?_
     refine nT (?_)
     refine Tr.seq (Tr.region ?_)
     refine Rg.q (v := .int .i64 (1)) (Pu.qo (p_assign rfl)) (by decide) ?_
     refine Rg.nl (nT ?_)
     refine Tr.seq (Tr.region ?_)
     refine Rg.q (v := .agg #[.slice x19.1.1 r11.1.length x19.1.2, .slice x19.2.1 r11.2.length x19.2.2]) (q_ldbA ty26 rfl Has.here.there.there.there rfl) (by decide) ?_
     refine Rg.q (v := .int .i64 (1)) (Pu.qo (p_move rfl)) (by decide) ?_
     obtain ⟨r31, h32, H⟩ := bd.of H
     refine Rg.ed (e_callM (vs := [.agg #[.slice x19.1.1 r11.1.length x19.1.2, .slice x19.2.1 r11.2.length x19.2.2], .int .i64 (1)]) (c_laws_markIndex r11 x19 1 h32) (Solo.tree (Solo.tree Solo.nil)) (fun _ => (Solo.tree (Solo.tree Solo.nil))) rfl (.cons Del.here.there.there.there.there (.cons Del.here.there.there.there.there .nil)) EntsB.nil) rfl (by decide) ?_
     rintro _ _ _ ⟨u33, rfl, rfl, rfl⟩
     refine Rg.q (v := .int .i64 (r31.1)) (Pu.qo (p_assign rfl)) (by decide) ?_
     refine Rg.nl (nT ?_)
     refine Tr.seq ?_
     refine Tr.olen Has.here fun hn => ?_; rw [hn]
     refine Tr.olen Has.here.there fun hn => ?_; rw [hn]
     refine Tr.olen Has.here.there.there fun hn => ?_; rw [hn]
     refine Tr.olen Has.here.there.there.there fun hn => ?_; rw [hn]
     obtain ⟨b34, j35, H⟩ := bd.of H
     refine tMid1 [(53, .bool (b34)), (8, .slice x23.1 r21.length x23.2), (6, .slice x18.1 r16.length x18.2), (3, .pointer (some ⟨g4, 0, none⟩)), (2, .pointer (some ⟨g3, 0, none⟩))] ?_ ?_
     ·refine tLinT [(9, .int .i64 (r31.1)), (8, .slice x23.1 r21.length x23.2), (6, .slice x18.1 r16.length x18.2), (3, .pointer (some ⟨g4, 0, none⟩)), (2, .pointer (some ⟨g3, 0, none⟩))] ⟨rfl, rfl, rfl, rfl, rfl, trivial⟩ ?_
      refine Lin.q (v := .int .i64 (r31.1)) (by decide) (Pu.qo (p_move rfl)) ?_
      refine Lin.q (v := .bool (decide (r31.1 < 0))) (by decide) (Pu.qo (p_lss rfl rfl)) ?_
      rcases Bool.eq_false_or_eq_true (decide (r31.1 < 0)) with h36 | h36
      ·have j35 := cdT h36 j35
       refine Lin.q (v := .bool (true)) (by decide) (Qo.eqv (v := .bool (decide (r31.1 < 0))) (Pu.qo (p_move rfl)) (congrArg Value.bool h36)) ?_
       refine Lin.skip (by decide) rfl ?_
       refine Lin.skip (by decide) rfl ?_
       refine Lin.skip (by decide) rfl ?_
       refine Lin.skip (by decide) rfl ?_
       refine Lin.q (v := .bool (true)) (by decide) (Pu.qo (p_pickT rfl rfl)) ?_
       have j35 := Option.some.inj j35; subst j35
       show At _ _ _ _ _ _
       exact n1 ⟨rfl, rfl, rfl, rfl, rfl, trivial⟩
      ·have j35 := cdF h36 j35
       refine Lin.q (v := .bool (false)) (by decide) (Qo.eqv (v := .bool (decide (r31.1 < 0))) (Pu.qo (p_move rfl)) (congrArg Value.bool h36)) ?_
       refine Lin.g (v := .slice x23.1 r21.length x23.2) (by decide) rfl (Pu.qo (p_move rfl)) ?_
       refine Lin.g (v := .slice x18.1 r16.length x18.2) (by decide) rfl (Pu.qo (p_move rfl)) ?_
       refine Lin.g (v := .bool (r24)) (by decide) rfl (q_call (vs := [.slice x23.1 r21.length x23.2, .slice x18.1 r16.length x18.2]) (c_laws_eqIntS r21 x23 r16 x18 h25) rfl (EntsB.cons (EntB.tree Has.here.there.there.there.there) (EntsB.cons (EntB.tree Has.here.there.there.there.there.there.there) EntsB.nil))) ?_
       refine Lin.g (v := .bool (!r24)) (by decide) rfl (Pu.qo (p_not rfl)) ?_
       refine Lin.q (v := .bool (!r24)) (by decide) (Pu.qo (p_pickF rfl rfl)) ?_
       have j35 := Option.some.inj j35; subst j35
       show At _ _ _ _ _ _
       exact n1 ⟨rfl, rfl, rfl, rfl, rfl, trivial⟩
     refine Tr.cond (b := b34) rfl (fun h37 => ?_) (fun h37 => ?_)
     ·have H := cdT h37 H
      refine Tr.seq ?_
      refine Tr.olen Has.here fun hn => ?_; rw [hn]
      refine Tr.olen Has.here.there fun hn => ?_; rw [hn]
      refine Tr.olen Has.here.there.there fun hn => ?_; rw [hn]
      refine Tr.olen Has.here.there.there.there fun hn => ?_; rw [hn]
      refine Tr.region ?_
      refine Rg.q (v := .bool (false)) (Pu.qo (p_assign rfl)) (by decide) ?_
      refine Rg.nl (nT ?_)
      refine Tr.olen Has.here fun hn => ?_; rw [hn]
      refine Tr.olen Has.here.there fun hn => ?_; rw [hn]
      refine Tr.olen Has.here.there.there fun hn => ?_; rw [hn]
      refine Tr.olen Has.here.there.there.there fun hn => ?_; rw [hn]
      refine tRet ?_
      refine rT (?_)
      refine At.olen Has.here fun hn => ?_; rw [hn]
      refine At.olen Has.here.there fun hn => ?_; rw [hn]
      refine At.olen Has.here.there.there fun hn => ?_; rw [hn]
      refine At.olen Has.here.there.there.there fun hn => ?_; rw [hn]
      have hr := Option.some.inj H; subst hr
      exact back1 () rfl (ResV.tmp (v := .bool (false)) rfl) rfl Ents.nil Take.nil
     ·have H := cdF h37 H
      refine tSkip ?_
      refine nT (Tr.seq ?_)
      refine Tr.olen Has.here fun hn => ?_; rw [hn]
      refine Tr.olen Has.here.there fun hn => ?_; rw [hn]
      refine Tr.olen Has.here.there.there fun hn => ?_; rw [hn]
      refine Tr.olen Has.here.there.there.there fun hn => ?_; rw [hn]
      refine Tr.region ?_
      refine Rg.q (v := .int .i64 (1)) (Pu.qo (p_assign rfl)) (by decide) ?_
      refine Rg.nl (nT ?_)
      refine Tr.seq ?_
      refine Tr.olen Has.here fun hn => ?_; rw [hn]
      refine Tr.olen Has.here.there fun hn => ?_; rw [hn]
      refine Tr.olen Has.here.there.there fun hn => ?_; rw [hn]
      refine Tr.olen Has.here.there.there.there fun hn => ?_; rw [hn]
      refine Tr.region ?_
      refine Rg.q (v := .slice x23.1 r21.length x23.2) (Pu.qo (p_move rfl)) (by decide) ?_
      refine Rg.q (v := .int .i64 (1)) (Pu.qo (p_move rfl)) (by decide) ?_
      obtain ⟨r38, h39, H⟩ := bd.of H
      refine Rg.ed (e_callM (vs := [.slice x23.1 r21.length x23.2, .int .i64 (1)]) (c_laws_markIntS r21 x23 r21.length rfl 1 h39) (Solo.tree Solo.nil) (fun _ => (Solo.tree Solo.nil)) rfl (.cons Del.here.there.there.there.there .nil) EntsB.nil) rfl (by decide) ?_
      rintro _ _ _ ⟨u40, rfl, rfl, rfl⟩
      refine Rg.q (v := .int .i64 (r38.1)) (Pu.qo (p_assign rfl)) (by decide) ?_
      refine Rg.nl (nT ?_)
      refine Tr.seq ?_
      refine Tr.olen Has.here fun hn => ?_; rw [hn]
      refine Tr.olen Has.here.there fun hn => ?_; rw [hn]
      refine Tr.olen Has.here.there.there fun hn => ?_; rw [hn]
      refine Tr.olen Has.here.there.there.there fun hn => ?_; rw [hn]
      refine Tr.olen Has.here.there.there.there.there fun hn => ?_; rw [hn]
      refine Tr.region ?_
      refine Rg.q (v := .int .i64 (1)) (Pu.qo (p_assign rfl)) (by decide) ?_
      refine Rg.nl (nT ?_)
      refine Tr.seq ?_
      refine Tr.olen Has.here.there fun hn => ?_; rw [hn]
      refine Tr.olen Has.here.there.there fun hn => ?_; rw [hn]
      refine Tr.olen Has.here.there.there.there fun hn => ?_; rw [hn]
      refine Tr.olen Has.here.there.there.there.there fun hn => ?_; rw [hn]
      refine Tr.region ?_
      refine Rg.q (v := .slice x23.1 r38.2.length x23.2) (Pu.qo (p_move rfl)) (by decide) ?_
      refine Rg.q (v := .int .i64 (1)) (Pu.qo (p_move rfl)) (by decide) ?_
      obtain ⟨r41, h42, H⟩ := bd.of H
      refine Rg.q (v := .int .i64 (r41)) (q_call (vs := [.slice x23.1 r38.2.length x23.2, .int .i64 (1)]) (c_laws_heldIntS r38.2 x23 1 h42) rfl (EntsB.cons (EntB.tree Has.here) EntsB.nil)) (by decide) ?_
      refine Rg.q (v := .int .i64 (r41)) (Pu.qo (p_assign rfl)) (by decide) ?_
      refine Rg.nl (nT ?_)
      refine Tr.seq ?_
      refine Tr.seq ?_
      refine Tr.olen Has.here.there fun hn => ?_; rw [hn]
      refine Tr.olen Has.here.there.there fun hn => ?_; rw [hn]
      refine Tr.olen Has.here.there.there.there fun hn => ?_; rw [hn]
      refine Tr.olen Has.here.there.there.there.there fun hn => ?_; rw [hn]
      refine Tr.region ?_
      refine Rg.q (v := .int .i64 (r41)) (Pu.qo (p_move rfl)) (by decide) ?_
      refine Rg.q (v := .bool (decide (r41 < 0))) (Pu.qo (p_lss rfl rfl)) (by decide) ?_
      refine Rg.nl (nT ?_)
      refine Tr.cond (b := decide (r41 < 0)) rfl (fun h43 => ?_) (fun h43 => ?_)
      ·have H := cdT h43 H
       refine Tr.seq ?_
       refine Tr.olen Has.here.there fun hn => ?_; rw [hn]
       refine Tr.olen Has.here.there.there fun hn => ?_; rw [hn]
       refine Tr.olen Has.here.there.there.there fun hn => ?_; rw [hn]
       refine Tr.olen Has.here.there.there.there.there fun hn => ?_; rw [hn]
       refine Tr.region ?_
       refine Rg.q (v := .bool (false)) (Pu.qo (p_assign rfl)) (by decide) ?_
       refine Rg.nl (nT ?_)
       refine Tr.olen Has.here.there fun hn => ?_; rw [hn]
       refine Tr.olen Has.here.there.there fun hn => ?_; rw [hn]
       refine Tr.olen Has.here.there.there.there fun hn => ?_; rw [hn]
       refine Tr.olen Has.here.there.there.there.there fun hn => ?_; rw [hn]
       refine tRet ?_
       refine rT (?_)
       refine At.olen Has.here.there fun hn => ?_; rw [hn]
       refine At.olen Has.here.there.there fun hn => ?_; rw [hn]
       refine At.olen Has.here.there.there.there fun hn => ?_; rw [hn]
       refine At.olen Has.here.there.there.there.there fun hn => ?_; rw [hn]
       have hr := Option.some.inj H; subst hr
       exact back1 () rfl (ResV.tmp (v := .bool (false)) rfl) rfl Ents.nil Take.nil
      ·have H := cdF h43 H
       refine tSkip ?_
       refine nT (Tr.seq ?_)
       refine Tr.seq ?_
       refine Tr.olen Has.here.there fun hn => ?_; rw [hn]
       refine Tr.olen Has.here.there.there fun hn => ?_; rw [hn]
       refine Tr.olen Has.here.there.there.there fun hn => ?_; rw [hn]
       refine Tr.olen Has.here.there.there.there.there fun hn => ?_; rw [hn]
       refine Tr.region ?_
       refine Rg.q (v := .int .i64 (r41)) (Pu.qo (p_move rfl)) (by decide) ?_
       refine Rg.q (v := .int .i64 (r38.1)) (Pu.qo (p_move rfl)) (by decide) ?_
       refine Rg.q (v := .bool (!decide (r41 = r38.1))) (Pu.qo (p_neq rfl rfl)) (by decide) ?_
       refine Rg.nl (nT ?_)
       refine Tr.cond (b := !decide (r41 = r38.1)) rfl (fun h44 => ?_) (fun h44 => ?_)
       ·have H := cdT h44 H
        refine Tr.seq ?_
        refine Tr.olen Has.here.there fun hn => ?_; rw [hn]
        refine Tr.olen Has.here.there.there fun hn => ?_; rw [hn]
        refine Tr.olen Has.here.there.there.there fun hn => ?_; rw [hn]
        refine Tr.olen Has.here.there.there.there.there fun hn => ?_; rw [hn]
        refine Tr.region ?_
        refine Rg.q (v := .bool (false)) (Pu.qo (p_assign rfl)) (by decide) ?_
        refine Rg.nl (nT ?_)
        refine Tr.olen Has.here.there fun hn => ?_; rw [hn]
        refine Tr.olen Has.here.there.there fun hn => ?_; rw [hn]
        refine Tr.olen Has.here.there.there.there fun hn => ?_; rw [hn]
        refine Tr.olen Has.here.there.there.there.there fun hn => ?_; rw [hn]
        refine tRet ?_
        refine rT (?_)
        refine At.olen Has.here.there fun hn => ?_; rw [hn]
        refine At.olen Has.here.there.there fun hn => ?_; rw [hn]
        refine At.olen Has.here.there.there.there fun hn => ?_; rw [hn]
        refine At.olen Has.here.there.there.there.there fun hn => ?_; rw [hn]
        have hr := Option.some.inj H; subst hr
        exact back1 () rfl (ResV.tmp (v := .bool (false)) rfl) rfl Ents.nil Take.nil
       ·have H := cdF h44 H
        refine tSkip ?_
        refine nT (Tr.seq ?_)
        refine Tr.olen Has.here.there fun hn => ?_; rw [hn]
        refine Tr.olen Has.here.there.there fun hn => ?_; rw [hn]
        refine Tr.olen Has.here.there.there.there fun hn => ?_; rw [hn]
        refine Tr.olen Has.here.there.there.there.there fun hn => ?_; rw [hn]
        refine tNwS [(10, .int .i64 (r38.1)), (8, .slice x23.1 r38.2.length x23.2), (6, .slice x18.1 r16.length x18.2), (3, .pointer (some ⟨g4, 0, none⟩)), (2, .pointer (some ⟨g3, 0, none⟩))] 1 [0, 2, 1, 3, 4, 5] [1, 4] [] Try.mixed (by kernel_rfl) (by decide) List.nodup_nil ⟨rfl, rfl, rfl, rfl, rfl, trivial⟩ rfl okNil ?_
        refine w_q (v := .agg #[.slice x_v0.1.1 v0.1.length x_v0.1.2, .slice x_v0.2.1 v0.2.length x_v0.2.2]) rfl (by decide) rfl rfl rfl (fun F => (q_ldbA ty50 rfl (Has.here.there.there.there.there.there.there.there.there.there.there.app F) rfl)) ?_
        refine w_q (v := .agg #[.string (v1.1), .string (v1.2)]) rfl (by decide) rfl rfl rfl (fun F => (q_ldbA ty64 rfl (Has.here.there.there.there.there.there.there.there.there.there.app F) rfl)) ?_
        refine w_ed rfl (by decide) rfl Rdy.nil rfl (n_callB (vs := [.agg #[.slice x_v0.1.1 v0.1.length x_v0.1.2, .slice x_v0.2.1 v0.2.length x_v0.2.2]]) (c_laws_toIndex v0 x_v0 h12) (fun _ => (Solo.tree (Solo.tree Solo.nil))) rfl (EntsB.cons (Ent.b (Ent.dimm Ent.z.s)) (EntsB.cons (Ent.b (Ent.dimm Ent.z)) EntsB.nil))) ?_
        rintro _ _ _ ⟨x45, rfl, rfl, rfl⟩
        refine ⟨(PdOk.q rfl rfl (fun F => (q_ldbA ty64 rfl (Has.here.there.there.there.there.there.there.there.there.there.there.there.app F) rfl)) (PdOk.anc (by kernel_rfl) PdOk.nil)), ?_⟩
        refine w_q (v := .agg #[.string (r14.1), .string (r14.2)]) rfl (by decide) rfl rfl rfl (fun F => (q_call (vs := [.agg #[.string (v1.1), .string (v1.2)]]) (c_laws_toTag v1 h15) rfl EntsB.nil)) ?_
        refine w_ed rfl (by decide) rfl Rdy.nil rfl (n_callB (vs := [.agg #[.slice x45.1.1 r11.1.length x45.1.2, .slice x45.2.1 r11.2.length x45.2.2], .agg #[.string (r14.1), .string (r14.2)]]) (c_impl_IndexPost r11 x45 r14 h22) (fun _ => (Solo.tree Solo.nil)) rfl (EntsB.cons (EntB.tree Has.here) (EntsB.cons (EntB.tree Has.here.there) EntsB.nil))) ?_
        rintro _ _ _ ⟨x46, rfl, rfl, rfl⟩
        refine ⟨(PdOk.anc (by kernel_rfl) (PdOk.q rfl rfl (fun F => (q_ldbA ty64 rfl (Has.here.there.there.there.there.there.there.there.there.there.there.there.there.app F) rfl)) (PdOk.q rfl rfl (fun F => (q_ldbA ty50 rfl (Has.here.there.there.there.there.there.there.there.there.there.there.there.there.there.app F) rfl)) PdOk.nil))), ?_⟩
        refine w_pu (v := .slice x46.1 r21.length x46.2) rfl (by decide) rfl rfl rfl (p_assign rfl) ?_
        refine w_nil ?_
        show At _ _ _ _ _ _
        refine nT (Tr.seq ?_)
        refine Tr.seq ?_
        refine Tr.olen Has.here.there.there.there.there fun hn => ?_; rw [hn]
        refine Tr.olen Has.here.there.there.there.there.there fun hn => ?_; rw [hn]
        refine Tr.olen Has.here.there.there.there.there.there.there fun hn => ?_; rw [hn]
        refine Tr.olen Has.here.there.there.there.there.there.there.there fun hn => ?_; rw [hn]
        refine Tr.region ?_
        refine Rg.q (v := .slice x46.1 r21.length x46.2) (Pu.qo (p_move rfl)) (by decide) ?_
        refine Rg.q (v := .slice x18.1 r16.length x18.2) (Pu.qo (p_move rfl)) (by decide) ?_
        refine Rg.q (v := .bool (r24)) (q_call (vs := [.slice x46.1 r21.length x46.2, .slice x18.1 r16.length x18.2]) (c_laws_eqIntS r21 x46 r16 x18 h25) rfl (EntsB.cons (EntB.tree Has.here) (EntsB.cons (EntB.tree Has.here.there.there.there.there.there.there.there.there.there) EntsB.nil))) (by decide) ?_
        refine Rg.q (v := .bool (!r24)) (Pu.qo (p_not rfl)) (by decide) ?_
        refine Rg.nl (nT ?_)
        refine Tr.cond (b := !r24) rfl (fun h47 => ?_) (fun h47 => ?_)
        ·have H := cdT h47 H
         refine Tr.seq ?_
         refine Tr.olen Has.here.there.there.there.there fun hn => ?_; rw [hn]
         refine Tr.olen Has.here.there.there.there.there.there fun hn => ?_; rw [hn]
         refine Tr.olen Has.here.there.there.there.there.there.there fun hn => ?_; rw [hn]
         refine Tr.olen Has.here.there.there.there.there.there.there.there fun hn => ?_; rw [hn]
         refine Tr.region ?_
         refine Rg.q (v := .bool (false)) (Pu.qo (p_assign rfl)) (by decide) ?_
         refine Rg.nl (nT ?_)
         refine Tr.olen Has.here.there.there.there.there fun hn => ?_; rw [hn]
         refine Tr.olen Has.here.there.there.there.there.there fun hn => ?_; rw [hn]
         refine Tr.olen Has.here.there.there.there.there.there.there fun hn => ?_; rw [hn]
         refine Tr.olen Has.here.there.there.there.there.there.there.there fun hn => ?_; rw [hn]
         refine tRet ?_
         refine rT (?_)
         refine At.olen Has.here.there.there.there.there fun hn => ?_; rw [hn]
         refine At.olen Has.here.there.there.there.there.there fun hn => ?_; rw [hn]
         refine At.olen Has.here.there.there.there.there.there.there fun hn => ?_; rw [hn]
         refine At.olen Has.here.there.there.there.there.there.there.there fun hn => ?_; rw [hn]
         have hr := Option.some.inj H; subst hr
         exact back1 () rfl (ResV.tmp (v := .bool (false)) rfl) rfl Ents.nil Take.nil
        ·have H := cdF h47 H
         refine tSkip ?_
         refine nT (Tr.seq ?_)
         refine Tr.olen Has.here.there.there.there.there fun hn => ?_; rw [hn]
         refine Tr.olen Has.here.there.there.there.there.there fun hn => ?_; rw [hn]
         refine Tr.olen Has.here.there.there.there.there.there.there fun hn => ?_; rw [hn]
         refine Tr.olen Has.here.there.there.there.there.there.there.there fun hn => ?_; rw [hn]
         refine Tr.region ?_
         refine Rg.q (v := .int .i64 (1)) (Pu.qo (p_assign rfl)) (by decide) ?_
         refine Rg.nl (nT ?_)
         refine Tr.seq ?_
         refine Tr.olen Has.here.there.there.there.there fun hn => ?_; rw [hn]
         refine Tr.olen Has.here.there.there.there.there.there fun hn => ?_; rw [hn]
         refine Tr.olen Has.here.there.there.there.there.there.there fun hn => ?_; rw [hn]
         refine Tr.olen Has.here.there.there.there.there.there.there.there fun hn => ?_; rw [hn]
         refine Tr.region ?_
         refine Rg.q (v := .slice x23.1 r38.2.length x23.2) (Pu.qo (p_move rfl)) (by decide) ?_
         refine Rg.q (v := .int .i64 (1)) (Pu.qo (p_move rfl)) (by decide) ?_
         refine Rg.q (v := .int .i64 (r41)) (q_call (vs := [.slice x23.1 r38.2.length x23.2, .int .i64 (1)]) (c_laws_heldIntS r38.2 x23 1 h42) rfl (EntsB.cons (EntB.tree Has.here.there.there.there) EntsB.nil)) (by decide) ?_
         refine Rg.q (v := .int .i64 (r41)) (Pu.qo (p_assign rfl)) (by decide) ?_
         refine Rg.nl (nT ?_)
         refine Tr.seq ?_
         refine Tr.seq ?_
         refine Tr.olen Has.here.there.there.there.there fun hn => ?_; rw [hn]
         refine Tr.olen Has.here.there.there.there.there.there fun hn => ?_; rw [hn]
         refine Tr.olen Has.here.there.there.there.there.there.there fun hn => ?_; rw [hn]
         refine Tr.olen Has.here.there.there.there.there.there.there.there fun hn => ?_; rw [hn]
         refine Tr.region ?_
         refine Rg.q (v := .int .i64 (r41)) (Pu.qo (p_move rfl)) (by decide) ?_
         refine Rg.q (v := .bool (decide (r41 < 0))) (Pu.qo (p_lss rfl rfl)) (by decide) ?_
         refine Rg.nl (nT ?_)
         refine Tr.cond (b := decide (r41 < 0)) rfl (fun h48 => ?_) (fun h48 => ?_)
         ·have H := cdT h48 H
          refine Tr.seq ?_
          refine Tr.olen Has.here.there.there.there.there fun hn => ?_; rw [hn]
          refine Tr.olen Has.here.there.there.there.there.there fun hn => ?_; rw [hn]
          refine Tr.olen Has.here.there.there.there.there.there.there fun hn => ?_; rw [hn]
          refine Tr.olen Has.here.there.there.there.there.there.there.there fun hn => ?_; rw [hn]
          refine Tr.region ?_
          refine Rg.q (v := .bool (false)) (Pu.qo (p_assign rfl)) (by decide) ?_
          refine Rg.nl (nT ?_)
          refine Tr.olen Has.here.there.there.there.there fun hn => ?_; rw [hn]
          refine Tr.olen Has.here.there.there.there.there.there fun hn => ?_; rw [hn]
          refine Tr.olen Has.here.there.there.there.there.there.there fun hn => ?_; rw [hn]
          refine Tr.olen Has.here.there.there.there.there.there.there.there fun hn => ?_; rw [hn]
          refine tRet ?_
          refine rT (?_)
          refine At.olen Has.here.there.there.there.there fun hn => ?_; rw [hn]
          refine At.olen Has.here.there.there.there.there.there fun hn => ?_; rw [hn]
          refine At.olen Has.here.there.there.there.there.there.there fun hn => ?_; rw [hn]
          refine At.olen Has.here.there.there.there.there.there.there.there fun hn => ?_; rw [hn]
          have hr := Option.some.inj H; subst hr
          exact back1 () rfl (ResV.tmp (v := .bool (false)) rfl) rfl Ents.nil Take.nil
         ·have H := cdF h48 H
          refine tSkip ?_
          refine nT (Tr.seq ?_)
          refine Tr.seq ?_
          refine Tr.olen Has.here.there.there.there.there fun hn => ?_; rw [hn]
          refine Tr.olen Has.here.there.there.there.there.there fun hn => ?_; rw [hn]
          refine Tr.olen Has.here.there.there.there.there.there.there fun hn => ?_; rw [hn]
          refine Tr.olen Has.here.there.there.there.there.there.there.there fun hn => ?_; rw [hn]
          refine Tr.region ?_
          refine Rg.q (v := .int .i64 (r41)) (Pu.qo (p_move rfl)) (by decide) ?_
          refine Rg.q (v := .int .i64 (r38.1)) (Pu.qo (p_move rfl)) (by decide) ?_
          refine Rg.q (v := .bool (!decide (r41 = r38.1))) (Pu.qo (p_neq rfl rfl)) (by decide) ?_
          refine Rg.nl (nT ?_)
          refine Tr.cond (b := !decide (r41 = r38.1)) rfl (fun h49 => ?_) (fun h49 => ?_)
          ·have H := cdT h49 H
           refine Tr.seq ?_
           refine Tr.olen Has.here.there.there.there.there fun hn => ?_; rw [hn]
           refine Tr.olen Has.here.there.there.there.there.there fun hn => ?_; rw [hn]
           refine Tr.olen Has.here.there.there.there.there.there.there fun hn => ?_; rw [hn]
           refine Tr.olen Has.here.there.there.there.there.there.there.there fun hn => ?_; rw [hn]
           refine Tr.region ?_
           refine Rg.q (v := .bool (false)) (Pu.qo (p_assign rfl)) (by decide) ?_
           refine Rg.nl (nT ?_)
           refine Tr.olen Has.here.there.there.there.there fun hn => ?_; rw [hn]
           refine Tr.olen Has.here.there.there.there.there.there fun hn => ?_; rw [hn]
           refine Tr.olen Has.here.there.there.there.there.there.there fun hn => ?_; rw [hn]
           refine Tr.olen Has.here.there.there.there.there.there.there.there fun hn => ?_; rw [hn]
           refine tRet ?_
           refine rT (?_)
           refine At.olen Has.here.there.there.there.there fun hn => ?_; rw [hn]
           refine At.olen Has.here.there.there.there.there.there fun hn => ?_; rw [hn]
           refine At.olen Has.here.there.there.there.there.there.there fun hn => ?_; rw [hn]
           refine At.olen Has.here.there.there.there.there.there.there.there fun hn => ?_; rw [hn]
           have hr := Option.some.inj H; subst hr
           exact back1 () rfl (ResV.tmp (v := .bool (false)) rfl) rfl Ents.nil Take.nil
          ·have H := cdF h49 H
           refine tSkip ?_
           refine nT (Tr.seq ?_)
           refine Tr.olen Has.here.there.there.there.there fun hn => ?_; rw [hn]
           refine Tr.olen Has.here.there.there.there.there.there fun hn => ?_; rw [hn]
           refine Tr.olen Has.here.there.there.there.there.there.there fun hn => ?_; rw [hn]
           refine Tr.olen Has.here.there.there.there.there.there.there.there fun hn => ?_; rw [hn]
           refine Tr.region ?_
           refine Rg.q (v := .bool (true)) (Pu.qo (p_assign rfl)) (by decide) ?_
           refine Rg.nl (nT ?_)
           refine Tr.olen Has.here.there.there.there.there fun hn => ?_; rw [hn]
           refine Tr.olen Has.here.there.there.there.there.there fun hn => ?_; rw [hn]
           refine Tr.olen Has.here.there.there.there.there.there.there fun hn => ?_; rw [hn]
           refine Tr.olen Has.here.there.there.there.there.there.there.there fun hn => ?_; rw [hn]
           refine tRet ?_
           refine At.olen Has.here.there.there.there.there fun hn => ?_; rw [hn]
           refine At.olen Has.here.there.there.there.there.there fun hn => ?_; rw [hn]
           refine At.olen Has.here.there.there.there.there.there.there fun hn => ?_; rw [hn]
           refine At.olen Has.here.there.there.there.there.there.there.there fun hn => ?_; rw [hn]
           have hr := Option.some.inj H; subst hr
           exact back1 () rfl (ResV.tmp (v := .bool (true)) rfl) rfl Ents.nil Take.nil
noncomputable def p_laws_heldTagS_b0 (v0 : (List Tag)) (Q5 : Int × Int) : Option ((Int × Int) ⊕ (Int ⊕ Int)) := cond (decide (Q5.2 < (v0.length : Int))) (gd (ix Q5.2 v0.length) <| bd (p_laws_markText Q5.1) fun r15 => cond (!decide ((nth v0 Q5.2.toNat).1 = r15)) (some (.inr (.inr (-1)))) (gd (I64 (Q5.1 + 1)) <| bd (p_laws_markText (Q5.1 + 1)) fun r19 => cond (!decide ((nth v0 Q5.2.toNat).2 = r19)) (some (.inr (.inr (-1)))) (gd (I64 ((Q5.1 + 1) + 1)) <| gd (I64 (Q5.2 + 1)) <| some (.inl ((Q5.1 + 1) + 1, Q5.2 + 1))))) (some (.inr (.inl Q5.1)))
noncomputable def p_laws_heldTagS (v0 : (List Tag)) (v1 : Int) : Option (Int) := bd (lp (p_laws_heldTagS_b0 v0) (v1, 0)) <| sw (fun e24 => some e24) (fun q => some q)
noncomputable def p_laws_heldTagSS_b0 (v0 : (List (List Tag))) (Q6 : Int × Int) : Option ((Int × Int) ⊕ (Int ⊕ Int)) := cond (decide (Q6.2 < (v0.length : Int))) (gd (ix Q6.2 v0.length) <| bd (p_laws_heldTagS (nth v0 Q6.2.toNat) Q6.1) fun r16 => cond (decide (r16 < 0)) (some (.inr (.inr (-1)))) (gd (I64 (Q6.2 + 1)) <| some (.inl (r16, Q6.2 + 1)))) (some (.inr (.inl Q6.1)))
noncomputable def p_laws_heldTagSS (v0 : (List (List Tag))) (v1 : Int) : Option (Int) := bd (lp (p_laws_heldTagSS_b0 v0) (v1, 0)) <| sw (fun e20 => some e20) (fun q => some q)
noncomputable def p_laws_heldPostS_b0 (v0 : (List Post)) (Q6 : Int × Int) : Option ((Int × Int) ⊕ (Int ⊕ Int)) := cond (decide (Q6.2 < (v0.length : Int))) (gd (ix Q6.2 v0.length) <| bd (p_laws_markText Q6.1) fun r16 => cond (!decide (((nth v0 Q6.2.toNat).1).1 = r16)) (some (.inr (.inr (-1)))) (gd (I64 (Q6.1 + 1)) <| bd (p_laws_markText (Q6.1 + 1)) fun r20 => cond (!decide (((nth v0 Q6.2.toNat).1).2 = r20)) (some (.inr (.inr (-1)))) (gd (I64 ((Q6.1 + 1) + 1)) <| bd (p_laws_heldIntS ((nth v0 Q6.2.toNat).2) ((Q6.1 + 1) + 1)) fun r24 => cond (decide (r24 < 0)) (some (.inr (.inr (-1)))) (gd (I64 (Q6.2 + 1)) <| some (.inl (r24, Q6.2 + 1)))))) (some (.inr (.inl Q6.1)))
noncomputable def p_laws_heldPostS (v0 : (List Post)) (v1 : Int) : Option (Int) := bd (lp (p_laws_heldPostS_b0 v0) (v1, 0)) <| sw (fun e28 => some e28) (fun q => some q)
noncomputable def p_laws_heldIndex (v0 : Index) (v1 : Int) : Option (Int) := bd (p_laws_heldTagSS v0.1 v1) fun r4 => cond (decide (r4 < 0)) (some (-1)) (bd (p_laws_heldPostS v0.2 r4) fun r7 => cond (decide (r7 < 0)) (some (-1)) (some r7))
theorem mt_total (k : Int) (h0 : 0 ≤ k) (hk : k ≤ 1152921504606846976) : ∃ t, p_laws_markText k = some t := by
  unfold p_laws_markText
  by_cases hz : k ≤ 0
  · simp [hz]
  · simp only [hz, decide_false, cond_false]
    obtain ⟨e, he, hs⟩ := lp.rule (body := p_laws_markText_b0) (fun σ => 0 ≤ σ.1 ∧ ∃ j, j ≤ 61 ∧ σ.2.size + j ≤ 61 ∧ σ.1 < (2 : Int) ^ j) (fun σ => σ.1.toNat) (fun e => e.size ≤ 61) (fun σ hI => by
      obtain ⟨i0, j, j1, j2, j3⟩ := hI
      unfold p_laws_markText_b0
      by_cases hp : 0 < σ.1
      · left
        have hj : 0 < j := by
          rcases Nat.eq_zero_or_pos j with rfl | h
          · simp at j3; omega
          · exact h
        have hpow : (2 : Int) ^ j = 2 * 2 ^ (j - 1) := by
          rw [show j = (j - 1) + 1 by omega, Int.pow_succ]; simp; omega
        have hbig : (2 : Int) ^ j ≤ 2 ^ 61 := by
          have : (2 : Nat) ^ j ≤ 2 ^ 61 := Nat.pow_le_pow_right (by decide) j1
          have h2 : ((2 ^ j : Nat) : Int) ≤ ((2 ^ 61 : Nat) : Int) := by omega
          simpa using h2
        have hm : 0 ≤ σ.1.tmod 10 ∧ σ.1.tmod 10 < 10 := by
          rw [Int.tmod_eq_emod_of_nonneg i0]; omega
        have hd : σ.1.tdiv 10 = σ.1 / 10 := Int.tdiv_eq_ediv_of_nonneg i0
        have g1 : I64 (σ.1.tmod 10) := by unfold I64; omega
        have g2 : I64 (48 + σ.1.tmod 10) := by unfold I64; omega
        have g3 : I64 (σ.1.tdiv 10) := by rw [hd]; unfold I64; omega
        have g4 : room ((s2 [b8 (48 + σ.1.tmod 10)]).size + σ.2.size) := by
          have : (s2 [b8 (48 + σ.1.tmod 10)]).size = 1 := rfl
          unfold room; omega
        refine ⟨(σ.1.tdiv 10, s2 [b8 (48 + σ.1.tmod 10)] ++ σ.2), by simp only [hp, decide_true, cond_true, gd.yes g1, gd.yes g2, gd.yes g3, gd.yes g4], ⟨by rw [hd]; show 0 ≤ σ.1 / 10; omega, j - 1, by omega, ?_, ?_⟩, ?_⟩
        · have : (s2 [b8 (48 + σ.1.tmod 10)] ++ σ.2).size = 1 + σ.2.size := by rw [ByteArray.size_append]; rfl
          show (s2 [b8 (48 + σ.1.tmod 10)] ++ σ.2).size + (j - 1) ≤ 61
          omega
        · show σ.1.tdiv 10 < _
          rw [hd]; omega
        · show (σ.1.tdiv 10).toNat < σ.1.toNat
          rw [hd]; omega
      · right
        exact ⟨σ.2, by simp [hp], by omega⟩) (s := (k, (⟨#[]⟩ : ByteArray))) ⟨h0, 61, Nat.le_refl _, Nat.le_refl _, by show k < _; omega⟩
    rw [he, bd_some]
    have : room ((⟨#[109]⟩ : ByteArray).size + e.size) := by
      have h1 : (⟨#[109]⟩ : ByteArray).size = 1 := rfl
      unfold room; omega
    rw [gd.yes this]
    exact ⟨_, rfl⟩
theorem s_Tag (a : Tag) (left : Int) (h0 : 0 ≤ left) (h1 : left ≤ 1048576) (_ : Dp.ok a) (so : So.so a) : p_laws_szTag a left = some (cut left (Wt.w a)) := by
  have hw : Wt.w a = Wt.w a.1 + (Wt.w a.2) := by
    simp only [Wt.w]
    first | done | omega
  rw [hw]; unfold p_laws_szTag
  have z0 : (a.1).size ≤ 9223372036854775807 := so.1
  have b0 : 0 ≤ left := h0; have d0 : left ≤ 1048576 := h1
  refine sz_str (by unfold I64; omega) fun c0 => ?_
  rw [show left - ((a.1).size : Int) = cut left (a.1).size from cut_pos (fun h => c0 (cut_lt.2 h))]
  have z1 : (a.2).size ≤ 9223372036854775807 := so.2
  have b1 : 0 ≤ cut left (a.1).size := (cut_nn c0); have d1 : cut left (a.1).size ≤ 1048576 := (cut_rng h1)
  exact sz_strl (by unfold I64; omega)
theorem s_TagS (a : (List Tag)) (left : Int) (h0 : 0 ≤ left) (h1 : left ≤ 1048576) (ok : Dp.ok a) (so : So.so a) : p_laws_szTagS a left = some (cut left (Wt.w a)) := by
  have hm : a.length ≤ 9223372036854775807 := ok.1
  unfold p_laws_szTagS
  refine sz_str (w2 := sumN a.length fun i => Wt.w (nth a i)) (by unfold I64; omega) fun hc => ?_
  rw [cut_lt] at hc; rw [← cut_pos hc]
  exact sz_loop (l := a) (by omega) (by omega) (fun k hk m m0 m1 => by
    unfold p_laws_szTagS_b0
    simp only [dlt hk, cond_true, gd.yes (ixN hk), Int.toNat_natCast, s_Tag (nth a k) m m0 m1 (ok.2 k hk) (so k hk), bd_some, gd.yes (i64S hk hm)]
    by_cases hc : cut m (Wt.w (nth a k)) < 0 <;> simp [hc]) (fun m => by unfold p_laws_szTagS_b0; simp)
theorem s_TagSS (a : (List (List Tag))) (left : Int) (h0 : 0 ≤ left) (h1 : left ≤ 1048576) (ok : Dp.ok a) (so : So.so a) : p_laws_szTagSS a left = some (cut left (Wt.w a)) := by
  have hm : a.length ≤ 9223372036854775807 := ok.1
  unfold p_laws_szTagSS
  refine sz_str (w2 := sumN a.length fun i => Wt.w (nth a i)) (by unfold I64; omega) fun hc => ?_
  rw [cut_lt] at hc; rw [← cut_pos hc]
  exact sz_loop (l := a) (by omega) (by omega) (fun k hk m m0 m1 => by
    unfold p_laws_szTagSS_b0
    simp only [dlt hk, cond_true, gd.yes (ixN hk), Int.toNat_natCast, s_TagS (nth a k) m m0 m1 (ok.2 k hk) (so k hk), bd_some, gd.yes (i64S hk hm)]
    by_cases hc : cut m (Wt.w (nth a k)) < 0 <;> simp [hc]) (fun m => by unfold p_laws_szTagSS_b0; simp)
theorem s_IntS (a : (List Int)) (left : Int) (h0 : 0 ≤ left) (h1 : left ≤ 1048576) (ok : Dp.ok a) : p_laws_szIntS a left = some (cut left (Wt.w a)) := by
  have hm : a.length ≤ 9223372036854775807 := ok.1
  unfold p_laws_szIntS
  have hw : Wt.w a = a.length := by show a.length + sumN a.length (fun i => Wt.w (nth a i)) = _; rw [sumN_zero (f := fun i => Wt.w (nth a i)) fun i _ => rfl]; rfl
  rw [hw]; exact sz_strl (by unfold I64; omega)
theorem s_Post (a : Post) (left : Int) (h0 : 0 ≤ left) (h1 : left ≤ 1048576) (ok : Dp.ok a) (so : So.so a) : p_laws_szPost a left = some (cut left (Wt.w a)) := by
  have hw : Wt.w a = Wt.w a.1 + (Wt.w a.2) := by
    simp only [Wt.w]
    first | done | omega
  rw [hw]; unfold p_laws_szPost
  refine sz_step (s_Tag a.1 left h0 h1 ok.1 so.1) fun c0 => ?_
  exact sz_last (s_IntS a.2 (cut left (Wt.w a.1)) (cut_nn c0) (cut_rng h1) ok.2)
theorem s_PostS (a : (List Post)) (left : Int) (h0 : 0 ≤ left) (h1 : left ≤ 1048576) (ok : Dp.ok a) (so : So.so a) : p_laws_szPostS a left = some (cut left (Wt.w a)) := by
  have hm : a.length ≤ 9223372036854775807 := ok.1
  unfold p_laws_szPostS
  refine sz_str (w2 := sumN a.length fun i => Wt.w (nth a i)) (by unfold I64; omega) fun hc => ?_
  rw [cut_lt] at hc; rw [← cut_pos hc]
  exact sz_loop (l := a) (by omega) (by omega) (fun k hk m m0 m1 => by
    unfold p_laws_szPostS_b0
    simp only [dlt hk, cond_true, gd.yes (ixN hk), Int.toNat_natCast, s_Post (nth a k) m m0 m1 (ok.2 k hk) (so k hk), bd_some, gd.yes (i64S hk hm)]
    by_cases hc : cut m (Wt.w (nth a k)) < 0 <;> simp [hc]) (fun m => by unfold p_laws_szPostS_b0; simp)
theorem s_Index (a : Index) (left : Int) (h0 : 0 ≤ left) (h1 : left ≤ 1048576) (ok : Dp.ok a) (so : So.so a) : p_laws_szIndex a left = some (cut left (Wt.w a)) := by
  have hw : Wt.w a = Wt.w a.1 + (Wt.w a.2) := by
    simp only [Wt.w]
    first | done | omega
  rw [hw]; unfold p_laws_szIndex
  refine sz_step (s_TagSS a.1 left h0 h1 ok.1 so.1) fun c0 => ?_
  exact sz_last (s_PostS a.2 (cut left (Wt.w a.1)) (cut_nn c0) (cut_rng h1) ok.2 so.2)
theorem t_Tag (a : Tag) (_ : Dp.ok a) (_ : Wt.w a ≤ 1048576) : p_laws_toTag a = some a := by
  unfold p_laws_toTag
  rfl
theorem t_TagS (a : (List Tag)) (ok : Dp.ok a) (hw : Wt.w a ≤ 1048576) : p_laws_toTagS a = some a := by
  have hm : a.length ≤ 1048576 := Nat.le_trans wL_le hw
  unfold p_laws_toTagS
  rw [gd.yes (by unfold many; omega)]
  simp only [Int.toNat_natCast]
  rw [to_loop (l := a) (by simp) (fun k hk r hr => by
    unfold p_laws_toTagS_b0
    have hk2 : k < r.length := by omega
    simp only [dlt hk, cond_true, gd.yes (ixN hk), gd.yes (ixN hk2), Int.toNat_natCast, t_Tag (nth a k) (ok.2 k hk) (Nat.le_trans (wL_el hk) hw), bd_some, gd.yes (i64S hk (by omega))]
    first | done | rfl) (fun r => by unfold p_laws_toTagS_b0; simp)]
  rfl
theorem t_TagSS (a : (List (List Tag))) (ok : Dp.ok a) (hw : Wt.w a ≤ 1048576) : p_laws_toTagSS a = some a := by
  have hm : a.length ≤ 1048576 := Nat.le_trans wL_le hw
  unfold p_laws_toTagSS
  rw [gd.yes (by unfold many; omega)]
  simp only [Int.toNat_natCast]
  rw [to_loop (l := a) (by simp) (fun k hk r hr => by
    unfold p_laws_toTagSS_b0
    have hk2 : k < r.length := by omega
    simp only [dlt hk, cond_true, gd.yes (ixN hk), gd.yes (ixN hk2), Int.toNat_natCast, t_TagS (nth a k) (ok.2 k hk) (Nat.le_trans (wL_el hk) hw), bd_some, gd.yes (i64S hk (by omega))]
    first | done | rfl) (fun r => by unfold p_laws_toTagSS_b0; simp)]
  rfl
theorem t_IntS (a : (List Int)) (_ : Dp.ok a) (hw : Wt.w a ≤ 1048576) : p_laws_toIntS a = some a := by
  have hm : a.length ≤ 1048576 := Nat.le_trans wL_le hw
  unfold p_laws_toIntS
  rw [gd.yes (by unfold many; omega)]
  simp only [Int.toNat_natCast]
  rw [to_loop (l := a) (by simp) (fun k hk r hr => by
    unfold p_laws_toIntS_b0
    have hk2 : k < r.length := by omega
    simp only [dlt hk, cond_true, gd.yes (ixN hk), gd.yes (ixN hk2), Int.toNat_natCast, gd.yes (i64S hk (by omega))]
    first | done | rfl) (fun r => by unfold p_laws_toIntS_b0; simp)]
  rfl
theorem t_Post (a : Post) (ok : Dp.ok a) (hw : Wt.w a ≤ 1048576) : p_laws_toPost a = some a := by
  unfold p_laws_toPost
  simp only [t_Tag a.1 ok.1 (by simp only [Wt.w] at hw ⊢; omega), t_IntS a.2 ok.2 (by simp only [Wt.w] at hw ⊢; omega), bd_some]
theorem t_PostS (a : (List Post)) (ok : Dp.ok a) (hw : Wt.w a ≤ 1048576) : p_laws_toPostS a = some a := by
  have hm : a.length ≤ 1048576 := Nat.le_trans wL_le hw
  unfold p_laws_toPostS
  rw [gd.yes (by unfold many; omega)]
  simp only [Int.toNat_natCast]
  rw [to_loop (l := a) (by simp) (fun k hk r hr => by
    unfold p_laws_toPostS_b0
    have hk2 : k < r.length := by omega
    simp only [dlt hk, cond_true, gd.yes (ixN hk), gd.yes (ixN hk2), Int.toNat_natCast, t_Post (nth a k) (ok.2 k hk) (Nat.le_trans (wL_el hk) hw), bd_some, gd.yes (i64S hk (by omega))]
    first | done | rfl) (fun r => by unfold p_laws_toPostS_b0; simp)]
  rfl
theorem t_Index (a : Index) (ok : Dp.ok a) (hw : Wt.w a ≤ 1048576) : p_laws_toIndex a = some a := by
  unfold p_laws_toIndex
  simp only [t_TagSS a.1 ok.1 (by simp only [Wt.w] at hw ⊢; omega), t_PostS a.2 ok.2 (by simp only [Wt.w] at hw ⊢; omega), bd_some]
theorem q_Tag (a b : Tag) (_ : Dp.ok a) (hb : Dp.ok b) : p_laws_eqTag a b = some (decide (a = b)) := by
  have he : a = b ↔ a.1 = b.1 ∧ a.2 = b.2 := by
    constructor
    · rintro rfl; simp
    · rintro ⟨h0, h1⟩; exact Prod.ext h0 (h1)
  unfold p_laws_eqTag
  simp only [he]
  by_cases h0 : a.1 = b.1
  · by_cases h1 : a.2 = b.2
    · simp [h0, h1]
    · simp [h0, h1]
  · simp [h0]
theorem q_TagS (a b : (List Tag)) (ha : Dp.ok a) (hb : Dp.ok b) : p_laws_eqTagS a b = some (decide (a = b)) := by
  have hm : a.length ≤ 9223372036854775807 := ha.1
  unfold p_laws_eqTagS
  by_cases hl : a.length = b.length
  · have hl2 : (a.length : Int) = (b.length : Int) := by omega
    simp only [hl2, decide_true, Bool.not_true, cond_false]
    refine eq_loop hl (fun k hk => ?_) ?_
    · have hk2 : k < b.length := by omega
      unfold p_laws_eqTagS_b0
      simp only [dlt hk, cond_true, gd.yes (ixN hk), gd.yes (ixN hk2), Int.toNat_natCast, q_Tag (nth a k) (nth b k) (ha.2 k hk) (hb.2 k hk2), bd_some, gd.yes (i64S hk hm)]
      by_cases h : nth a k = nth b k <;> simp [h]
    · unfold p_laws_eqTagS_b0; simp
  · have h2 : ¬ (a.length : Int) = (b.length : Int) := by omega
    have h3 : a ≠ b := fun e => hl (by rw [e])
    simp [h2, h3]
theorem q_TagSS (a b : (List (List Tag))) (ha : Dp.ok a) (hb : Dp.ok b) : p_laws_eqTagSS a b = some (decide (a = b)) := by
  have hm : a.length ≤ 9223372036854775807 := ha.1
  unfold p_laws_eqTagSS
  by_cases hl : a.length = b.length
  · have hl2 : (a.length : Int) = (b.length : Int) := by omega
    simp only [hl2, decide_true, Bool.not_true, cond_false]
    refine eq_loop hl (fun k hk => ?_) ?_
    · have hk2 : k < b.length := by omega
      unfold p_laws_eqTagSS_b0
      simp only [dlt hk, cond_true, gd.yes (ixN hk), gd.yes (ixN hk2), Int.toNat_natCast, q_TagS (nth a k) (nth b k) (ha.2 k hk) (hb.2 k hk2), bd_some, gd.yes (i64S hk hm)]
      by_cases h : nth a k = nth b k <;> simp [h]
    · unfold p_laws_eqTagSS_b0; simp
  · have h2 : ¬ (a.length : Int) = (b.length : Int) := by omega
    have h3 : a ≠ b := fun e => hl (by rw [e])
    simp [h2, h3]
theorem q_IntS (a b : (List Int)) (ha : Dp.ok a) (_ : Dp.ok b) : p_laws_eqIntS a b = some (decide (a = b)) := by
  have hm : a.length ≤ 9223372036854775807 := ha.1
  unfold p_laws_eqIntS
  by_cases hl : a.length = b.length
  · have hl2 : (a.length : Int) = (b.length : Int) := by omega
    simp only [hl2, decide_true, Bool.not_true, cond_false]
    refine eq_loop hl (fun k hk => ?_) ?_
    · have hk2 : k < b.length := by omega
      unfold p_laws_eqIntS_b0
      simp only [dlt hk, cond_true, gd.yes (ixN hk), gd.yes (ixN hk2), Int.toNat_natCast, gd.yes (i64S hk hm)]
      by_cases h : nth a k = nth b k <;> simp [h]
    · unfold p_laws_eqIntS_b0; simp
  · have h2 : ¬ (a.length : Int) = (b.length : Int) := by omega
    have h3 : a ≠ b := fun e => hl (by rw [e])
    simp [h2, h3]
theorem q_Post (a b : Post) (ha : Dp.ok a) (hb : Dp.ok b) : p_laws_eqPost a b = some (decide (a = b)) := by
  have he : a = b ↔ a.1 = b.1 ∧ a.2 = b.2 := by
    constructor
    · rintro rfl; simp
    · rintro ⟨h0, h1⟩; exact Prod.ext h0 (h1)
  unfold p_laws_eqPost
  simp only [q_Tag a.1 b.1 ha.1 hb.1, q_IntS a.2 b.2 ha.2 hb.2, bd_some, he]
  by_cases h0 : a.1 = b.1
  · by_cases h1 : a.2 = b.2
    · simp [h0, h1]
    · simp [h0, h1]
  · simp [h0]
theorem q_PostS (a b : (List Post)) (ha : Dp.ok a) (hb : Dp.ok b) : p_laws_eqPostS a b = some (decide (a = b)) := by
  have hm : a.length ≤ 9223372036854775807 := ha.1
  unfold p_laws_eqPostS
  by_cases hl : a.length = b.length
  · have hl2 : (a.length : Int) = (b.length : Int) := by omega
    simp only [hl2, decide_true, Bool.not_true, cond_false]
    refine eq_loop hl (fun k hk => ?_) ?_
    · have hk2 : k < b.length := by omega
      unfold p_laws_eqPostS_b0
      simp only [dlt hk, cond_true, gd.yes (ixN hk), gd.yes (ixN hk2), Int.toNat_natCast, q_Post (nth a k) (nth b k) (ha.2 k hk) (hb.2 k hk2), bd_some, gd.yes (i64S hk hm)]
      by_cases h : nth a k = nth b k <;> simp [h]
    · unfold p_laws_eqPostS_b0; simp
  · have h2 : ¬ (a.length : Int) = (b.length : Int) := by omega
    have h3 : a ≠ b := fun e => hl (by rw [e])
    simp [h2, h3]
theorem q_Index (a b : Index) (ha : Dp.ok a) (hb : Dp.ok b) : p_laws_eqIndex a b = some (decide (a = b)) := by
  have he : a = b ↔ a.1 = b.1 ∧ a.2 = b.2 := by
    constructor
    · rintro rfl; simp
    · rintro ⟨h0, h1⟩; exact Prod.ext h0 (h1)
  unfold p_laws_eqIndex
  simp only [q_TagSS a.1 b.1 ha.1 hb.1, q_PostS a.2 b.2 ha.2 hb.2, bd_some, he]
  by_cases h0 : a.1 = b.1
  · by_cases h1 : a.2 = b.2
    · simp [h0, h1]
    · simp [h0, h1]
  · simp [h0]
theorem m_TagS (a : (List Tag)) (k : Int) (h0 : 0 ≤ k) (hB : k + (Ct.ct a : Nat) ≤ 1152921504606846976) (ok : Dp.ok a) : MkR p_laws_markTagS p_laws_heldTagS a k := by
  have hm : a.length ≤ 9223372036854775807 := ok.1
  obtain ⟨k1, r, e1, e2, e3, e4, e5⟩ := mark_loop (l := a) (B := 1152921504606846976) (bm := p_laws_markTagS_b0 a) (bh := fun r => p_laws_heldTagS_b0 r) (fun i hi r hr hn k h0 hB => by
    have hi2 : i < r.length := by omega
    have hc : Ct.ct (nth a i) = 1 + (1) := rfl
    obtain ⟨t0, ht0⟩ := mt_total (k) (by omega) (by omega)
    have g1 : I64 (k + 1) := i64B (by omega) (by omega)
    obtain ⟨t1, ht1⟩ := mt_total (k + 1) (by omega) (by omega)
    have g2 : I64 ((k + 1) + 1) := i64B (by omega) (by omega)
    refine ⟨(t0, t1), (k + 1) + 1, ?_, by omega, by omega, fun r' hr' hu => ?_⟩
    · unfold p_laws_markTagS_b0
      simp only [dlt hi, cond_true, Int.toNat_natCast, gd.yes (ixN hi2), ht0, gd.yes g1, ht1, gd.yes g2, bd_some, gd.yes (i64S hi hm)]
      first | done | rfl
    · have hi3 : i < r'.length := by omega
      unfold p_laws_heldTagS_b0
      simp [hi3, gd.yes (ixN hi3), hu, ht0, gd.yes g1, ht1, gd.yes g2, gd.yes (i64S hi hm)])
    (fun r k hr => by unfold p_laws_markTagS_b0; simp) (fun r k hr => by unfold p_laws_heldTagS_b0; simp [hr]) h0 hB
  refine ⟨k1, r, ?_, e3, e4, ?_⟩
  · unfold p_laws_markTagS; rw [e1]; rfl
  · unfold p_laws_heldTagS; rw [e5]; rfl
theorem m_TagSS (a : (List (List Tag))) (k : Int) (h0 : 0 ≤ k) (hB : k + (Ct.ct a : Nat) ≤ 1152921504606846976) (ok : Dp.ok a) : MkR p_laws_markTagSS p_laws_heldTagSS a k := by
  have hm : a.length ≤ 9223372036854775807 := ok.1
  obtain ⟨k1, r, e1, e2, e3, e4, e5⟩ := mark_loop (l := a) (B := 1152921504606846976) (bm := p_laws_markTagSS_b0 a) (bh := fun r => p_laws_heldTagSS_b0 r) (fun i hi r hr hn k h0 hB => by
    have hi2 : i < r.length := by omega
    have hc : Ct.ct (nth a i) = Ct.ct (nth a i) := rfl
    obtain ⟨c1, s1, x1, y1, z1, w1⟩ := m_TagS (nth a i) (k) (by omega) (by omega) (ok.2 i hi)
    have q1 : ¬ c1 < 0 := by omega
    refine ⟨s1, c1, ?_, by omega, by omega, fun r' hr' hu => ?_⟩
    · unfold p_laws_markTagSS_b0
      simp only [dlt hi, cond_true, Int.toNat_natCast, gd.yes (ixN hi2), hn, x1, bd_some, gd.yes (i64S hi hm)]
      first | done | rfl
    · have hi3 : i < r'.length := by omega
      unfold p_laws_heldTagSS_b0
      simp [hi3, gd.yes (ixN hi3), hu, w1, q1, gd.yes (i64S hi hm)])
    (fun r k hr => by unfold p_laws_markTagSS_b0; simp) (fun r k hr => by unfold p_laws_heldTagSS_b0; simp [hr]) h0 hB
  refine ⟨k1, r, ?_, e3, e4, ?_⟩
  · unfold p_laws_markTagSS; rw [e1]; rfl
  · unfold p_laws_heldTagSS; rw [e5]; rfl
theorem m_IntS (a : (List Int)) (k : Int) (h0 : 0 ≤ k) (hB : k + (Ct.ct a : Nat) ≤ 1152921504606846976) (ok : Dp.ok a) : MkR p_laws_markIntS p_laws_heldIntS a k := by
  have hm : a.length ≤ 9223372036854775807 := ok.1
  obtain ⟨k1, r, e1, e2, e3, e4, e5⟩ := mark_loop (l := a) (B := 1152921504606846976) (bm := p_laws_markIntS_b0 a) (bh := fun r => p_laws_heldIntS_b0 r) (fun i hi r hr hn k h0 hB => by
    have hi2 : i < r.length := by omega
    have hc : Ct.ct (nth a i) = 1 := rfl
    have g1 : I64 (k + 1) := i64B (by omega) (by omega)
    refine ⟨k, k + 1, ?_, by omega, by omega, fun r' hr' hu => ?_⟩
    · unfold p_laws_markIntS_b0
      simp only [dlt hi, cond_true, Int.toNat_natCast, gd.yes (ixN hi2), gd.yes g1, gd.yes (i64S hi hm)]
      first | done | rfl
    · have hi3 : i < r'.length := by omega
      unfold p_laws_heldIntS_b0
      simp [hi3, gd.yes (ixN hi3), hu, gd.yes g1, gd.yes (i64S hi hm)])
    (fun r k hr => by unfold p_laws_markIntS_b0; simp) (fun r k hr => by unfold p_laws_heldIntS_b0; simp [hr]) h0 hB
  refine ⟨k1, r, ?_, e3, e4, ?_⟩
  · unfold p_laws_markIntS; rw [e1]; rfl
  · unfold p_laws_heldIntS; rw [e5]; rfl
theorem m_PostS (a : (List Post)) (k : Int) (h0 : 0 ≤ k) (hB : k + (Ct.ct a : Nat) ≤ 1152921504606846976) (ok : Dp.ok a) : MkR p_laws_markPostS p_laws_heldPostS a k := by
  have hm : a.length ≤ 9223372036854775807 := ok.1
  obtain ⟨k1, r, e1, e2, e3, e4, e5⟩ := mark_loop (l := a) (B := 1152921504606846976) (bm := p_laws_markPostS_b0 a) (bh := fun r => p_laws_heldPostS_b0 r) (fun i hi r hr hn k h0 hB => by
    have hi2 : i < r.length := by omega
    have hc : Ct.ct (nth a i) = (1 + (1)) + (Ct.ct ((nth a i).2)) := rfl
    obtain ⟨t0, ht0⟩ := mt_total (k) (by omega) (by omega)
    have g1 : I64 (k + 1) := i64B (by omega) (by omega)
    obtain ⟨t1, ht1⟩ := mt_total (k + 1) (by omega) (by omega)
    have g2 : I64 ((k + 1) + 1) := i64B (by omega) (by omega)
    obtain ⟨c1, s1, x1, y1, z1, w1⟩ := m_IntS ((nth a i).2) ((k + 1) + 1) (by omega) (by omega) (ok.2 i hi).2
    have q1 : ¬ c1 < 0 := by omega
    refine ⟨((t0, t1), s1), c1, ?_, by omega, by omega, fun r' hr' hu => ?_⟩
    · unfold p_laws_markPostS_b0
      simp only [dlt hi, cond_true, Int.toNat_natCast, gd.yes (ixN hi2), hn, ht0, gd.yes g1, ht1, gd.yes g2, x1, bd_some, gd.yes (i64S hi hm)]
      first | done | rfl
    · have hi3 : i < r'.length := by omega
      unfold p_laws_heldPostS_b0
      simp [hi3, gd.yes (ixN hi3), hu, ht0, gd.yes g1, ht1, gd.yes g2, w1, q1, gd.yes (i64S hi hm)])
    (fun r k hr => by unfold p_laws_markPostS_b0; simp) (fun r k hr => by unfold p_laws_heldPostS_b0; simp [hr]) h0 hB
  refine ⟨k1, r, ?_, e3, e4, ?_⟩
  · unfold p_laws_markPostS; rw [e1]; rfl
  · unfold p_laws_heldPostS; rw [e5]; rfl
theorem m_Index (a : Index) (k : Int) (h0 : 0 ≤ k) (hB : k + (Ct.ct a : Nat) ≤ 1152921504606846976) (ok : Dp.ok a) : MkR p_laws_markIndex p_laws_heldIndex a k := by
  have hc : Ct.ct a = Ct.ct a.1 + (Ct.ct a.2) := rfl
  obtain ⟨k1, r1, e1, l1, u1, f1⟩ := m_TagSS a.1 k (by omega) (by omega) ok.1
  have q1 : ¬ k1 < 0 := by omega
  obtain ⟨k2, r2, e2, l2, u2, f2⟩ := m_PostS a.2 k1 (by omega) (by omega) ok.2
  have q2 : ¬ k2 < 0 := by omega
  refine ⟨k2, (r1, r2), ?_, by omega, by omega, ?_⟩
  · unfold p_laws_markIndex; simp only [e1, e2, bd_some]
  · unfold p_laws_heldIndex; simp [f1, q1, f2, q2]
def inn (lo n hi : Int) : Bool := decide (lo ≤ n) && decide (n ≤ hi)
theorem e_impl_within (n lo hi : Int) : p_impl_within n lo hi = some (inn lo n hi) := by
  unfold p_impl_within inn; cases decide (lo ≤ n) <;> rfl
theorem e_spec_l6In (n lo hi : Int) : p_spec_l6In n lo hi = some (inn lo n hi) := by
  unfold p_spec_l6In inn; cases decide (lo ≤ n) <;> rfl
/-- a row laid in, as the reference does it: whatever the order -/
def l2 (r : Row) : Bool → List Row → List Row
  | put, [] => if put then [] else [r]
  | put, x :: t => (if !put && decide (r.1 ≤ x.1) then [r] else []) ++ ((if x.1 = r.1 then [] else [x]) ++ l2 r (put || decide (r.1 ≤ x.1)) t)
theorem nth_mem {α : Type} [Inhabited α] {l : List α} {k : Nat} (h : k < l.length) : nth l k ∈ l := by rw [nth_eq l k h]; exact List.getElem_mem h
/-- tags, names, filters -/
theorem ba_one {x : ByteArray} (h : x.size = 1) : x = ⟨#[sb x 0]⟩ := by
  have : x.data.size = 1 := h
  apply ByteArray.ext
  apply Array.ext
  · rw [this]; rfl
  · intro i h1 h2
    have hi : i = 0 := by omega
    subst hi
    simp [sb, this]
theorem sl_one (a b : UInt8) : sless ⟨#[a]⟩ ⟨#[b]⟩ = decide (a < b) := by
  rw [sless_lt]
  have e : ∀ c : UInt8, (⟨#[c]⟩ : ByteArray).toList = [c] := fun c => by simp [ByteArray.toList, ByteArray.toList.loop, ByteArray.size, ByteArray.get!]
  have h2 : ([a] < [b]) ↔ a < b := by rw [List.cons_lt_cons_iff]; simp
  rw [e, e]
  exact decide_eq_decide.2 h2
def tagB (t : Tag) : Bool := decide (t.1.size = 1) && (decide (t.2.size = 1) && (inn 97 ((sb t.1 0).toNat : Int) 100 && inn 112 ((sb t.2 0).toNat : Int) 122))
theorem e_spec_l3Tag (t : Tag) : p_spec_l3Tag t = some (tagB t) := by
  unfold p_spec_l3Tag tagB
  have c1 : decide ((t.1.size : Int) = 1) = decide (t.1.size = 1) := decide_eq_decide.2 (by omega)
  have c2 : decide ((t.2.size : Int) = 1) = decide (t.2.size = 1) := decide_eq_decide.2 (by omega)
  rw [c1, c2]
  by_cases h1 : t.1.size = 1
  · by_cases h2 : t.2.size = 1
    · simp only [h1, h2, decide_true, cond_true, gd.yes (show ix 0 1 by unfold ix; omega), e_spec_l6In, bd_some, Bool.true_and]
      cases inn 97 ((sb t.1 0).toNat : Int) 100 <;> simp
    · simp [h1, h2]
  · simp [h1]
theorem rng_one {x : ByteArray} (h : x.size = 1) (lo hi : UInt8) : (!sless x ⟨#[lo]⟩ && (sless x ⟨#[hi]⟩ || decide (x = ⟨#[hi]⟩))) = inn (lo.toNat : Int) ((sb x 0).toNat : Int) (hi.toNat : Int) := by
  have hx := ba_one h
  generalize sb x 0 = c at *
  subst hx
  rw [sl_one, sl_one]
  have e1 : (!decide (c < lo)) = decide ((lo.toNat : Int) ≤ (c.toNat : Int)) := by
    by_cases k : c < lo
    · have : c.toNat < lo.toNat := UInt8.lt_iff_toNat_lt.1 k
      simp [k]; omega
    · have : ¬ c.toNat < lo.toNat := fun q => k (UInt8.lt_iff_toNat_lt.2 q)
      simp [k]; omega
  have e2 : (decide (c < hi) || decide ((⟨#[c]⟩ : ByteArray) = ⟨#[hi]⟩)) = decide ((c.toNat : Int) ≤ (hi.toNat : Int)) := by
    by_cases k : c < hi
    · have : c.toNat < hi.toNat := UInt8.lt_iff_toNat_lt.1 k
      simp [k]; omega
    · have h3 : ¬ c.toNat < hi.toNat := fun q => k (UInt8.lt_iff_toNat_lt.2 q)
      by_cases e : c = hi
      · subst e; simp
      · have h4 : c.toNat ≠ hi.toNat := fun q => e (UInt8.toNat_inj.1 q)
        have h5 : (⟨#[c]⟩ : ByteArray) ≠ ⟨#[hi]⟩ := fun q => e (by
          have := congrArg (fun b : ByteArray => b.data.toList) q
          simpa using this)
        simp [k, h5]; omega
  rw [e1, e2]; rfl
theorem e_impl_tagOk (t : Tag) : p_impl_tagOk t = some (tagB t) := by
  unfold p_impl_tagOk tagB
  have c1 : decide ((t.1.size : Int) = 1) = decide (t.1.size = 1) := decide_eq_decide.2 (by omega)
  have c2 : decide ((t.2.size : Int) = 1) = decide (t.2.size = 1) := decide_eq_decide.2 (by omega)
  rw [c1, c2]
  by_cases h1 : t.1.size = 1
  · have r1 := rng_one h1 97 100
    rw [show ((97 : UInt8).toNat : Int) = 97 from rfl, show ((100 : UInt8).toNat : Int) = 100 from rfl] at r1
    rw [← r1]
    by_cases h2 : t.2.size = 1
    · have r2 := rng_one h2 112 122
      rw [show ((112 : UInt8).toNat : Int) = 112 from rfl, show ((122 : UInt8).toNat : Int) = 122 from rfl] at r2
      rw [← r2]
      simp only [h1, h2, decide_true, cond_true, Bool.true_and]
      cases (!sless t.1 ⟨#[97]⟩) <;> cases (sless t.1 ⟨#[100]⟩ || decide (t.1 = ⟨#[100]⟩)) <;> cases (!sless t.2 ⟨#[112]⟩) <;> rfl
    · simp only [h1, h2, decide_true, decide_false, cond_true, cond_false, Bool.true_and, Bool.false_and]
      cases (!sless t.1 ⟨#[97]⟩) <;> cases (sless t.1 ⟨#[100]⟩ || decide (t.1 = ⟨#[100]⟩)) <;> rfl
  · simp [h1]
def nameBad (n : List Tag) (k : Nat) : Bool := !tagB (nth n k) || (decide (0 < k) && !sless (nth n (k - 1)).1 (nth n k).1)
def nameOk (n : List Tag) : Bool := allN n.length (nameBad n) && inn 1 (n.length : Int) 3
theorem e_impl_NameOk (n : List Tag) (hn : n.length ≤ maxLen) : p_impl_NameOk n = some (nameOk n) := by
  have hn' : n.length ≤ 9223372036854775807 := hn
  have hr : ∀ k, k < n.length → p_impl_NameOk_b0 n (k : Int) = some (if nameBad n k then .inr (.inr false) else .inl ((k + 1 : Nat) : Int)) := fun k hk => by
    unfold p_impl_NameOk_b0 nameBad
    simp only [dlt hk, cond_true, gd.yes (ixN hk), e_impl_tagOk, bd_some, Int.toNat_natCast, gd.yes (i64S hk hn')]
    cases h1 : tagB (nth n k) with
    | false => simp
    | true =>
      simp only [Bool.not_true, cond_false, Bool.false_or]
      by_cases h0 : 0 < k
      · have h0' : (0 : Int) < k := by omega
        have e1 : (k : Int) - 1 = ((k - 1 : Nat) : Int) := by omega
        have hi : I64 ((k - 1 : Nat) : Int) := by unfold I64; omega
        simp only [h0, h0', decide_true, cond_true, e1, gd.yes hi, gd.yes (ixN (show k - 1 < n.length by omega)), Int.toNat_natCast, bd_some, Bool.true_and]
        cases sless (nth n (k - 1)).1 (nth n k).1 <;> simp
      · simp [h0]
  unfold p_impl_NameOk nameOk
  rcases lp_scan (body := p_impl_NameOk_b0 n) (fun k => (k : Int)) n.length (nameBad n) (.inl ()) (fun _ => .inr false) (fun k hk _ h => by simp [hr k hk, h]) (fun k hk _ h => by simp [hr k hk, h]) (fun _ => by unfold p_impl_NameOk_b0; simp) with ⟨h1, h2⟩ | ⟨h1, k, _, _, _, h2⟩
  · rw [show (lp (p_impl_NameOk_b0 n) 0) = _ from h2, h1]; simp [sw, e_impl_within]
  · rw [show (lp (p_impl_NameOk_b0 n) 0) = _ from h2, h1]; simp [sw]
theorem e_spec_NameOk (n : List Tag) (hn : n.length ≤ maxLen) : p_spec_NameOk n = some (nameOk n) := by
  have hn' : n.length ≤ 9223372036854775807 := hn
  have hr : ∀ k, k < n.length → p_spec_NameOk_b0 n (k : Int) = some (if nameBad n k then .inr (.inr false) else .inl ((k + 1 : Nat) : Int)) := fun k hk => by
    unfold p_spec_NameOk_b0 nameBad
    simp only [dlt hk, cond_true, gd.yes (ixN hk), e_spec_l3Tag, bd_some, Int.toNat_natCast, gd.yes (i64S hk hn')]
    cases h1 : tagB (nth n k) with
    | false => simp
    | true =>
      simp only [Bool.not_true, cond_false, Bool.false_or]
      by_cases h0 : 0 < k
      · have h0' : (0 : Int) < k := by omega
        have e1 : (k : Int) - 1 = ((k - 1 : Nat) : Int) := by omega
        have hi : I64 ((k - 1 : Nat) : Int) := by unfold I64; omega
        simp only [h0, h0', decide_true, cond_true, e1, gd.yes hi, gd.yes (ixN (show k - 1 < n.length by omega)), Int.toNat_natCast, bd_some, Bool.true_and]
        cases sless (nth n (k - 1)).1 (nth n k).1 <;> simp
      · simp [h0]
  unfold p_spec_NameOk nameOk
  rcases lp_scan (body := p_spec_NameOk_b0 n) (fun k => (k : Int)) n.length (nameBad n) (.inl ()) (fun _ => .inr false) (fun k hk _ h => by simp [hr k hk, h]) (fun k hk _ h => by simp [hr k hk, h]) (fun _ => by unfold p_spec_NameOk_b0; simp) with ⟨h1, h2⟩ | ⟨h1, k, _, _, _, h2⟩
  · rw [show (lp (p_spec_NameOk_b0 n) 0) = _ from h2, h1]; simp [sw, e_spec_l6In]
  · rw [show (lp (p_spec_NameOk_b0 n) 0) = _ from h2, h1]; simp [sw]
/-- a search from the front -/
theorem allN_mem {α : Type} [Inhabited α] {l : List α} {p : α → Bool} : allN l.length (fun k => p (nth l k)) = true ↔ ∀ x ∈ l, p x = false := by
  rw [allN_iff]
  constructor
  · intro h x hx
    obtain ⟨i, hi, rfl⟩ := List.mem_iff_getElem.1 hx
    have := h i hi
    rwa [nth_eq l i hi] at this
  · intro h i hi
    rw [nth_eq l i hi]
    exact h _ (List.getElem_mem hi)
def hasT (n : List Tag) (t : Tag) : Bool := n.any fun x => decide (x = t)
theorem hasT_iff {n : List Tag} {t : Tag} : hasT n t = true ↔ t ∈ n := by simp [hasT]
theorem hasT_no {n : List Tag} {t : Tag} (h : t ∉ n) : hasT n t = false := by
  cases hc : hasT n t with
  | false => rfl
  | true => exact absurd (hasT_iff.1 hc) h
theorem e_spec_l3Has (n : List Tag) (t : Tag) (hn : n.length ≤ maxLen) : p_spec_l3Has n t = some (hasT n t) := by
  have hn' : n.length ≤ 9223372036854775807 := hn
  have hr : ∀ k, k < n.length → p_spec_l3Has_b0 n t (k : Int) = some (if decide (nth n k = t) then .inr (.inr true) else .inl ((k + 1 : Nat) : Int)) := fun k hk => by
    unfold p_spec_l3Has_b0
    simp only [dlt hk, cond_true, gd.yes (ixN hk), Int.toNat_natCast, gd.yes (i64S hk hn')]
    by_cases h : nth n k = t <;> simp [h]
  unfold p_spec_l3Has
  rcases lp_scan (body := p_spec_l3Has_b0 n t) (fun k => (k : Int)) n.length (fun k => decide (nth n k = t)) (.inl ()) (fun _ => .inr true) (fun k hk _ h => by simp [hr k hk, of_decide_eq_false h]) (fun k hk _ h => by simp [hr k hk, of_decide_eq_true h]) (fun _ => by unfold p_spec_l3Has_b0; simp) with ⟨h1, h2⟩ | ⟨h1, k, hk, hb, _, h2⟩
  · rw [show (lp (p_spec_l3Has_b0 n t) 0) = _ from h2]
    have : t ∉ n := fun ht => by
      have := (allN_mem (l := n) (p := fun x => decide (x = t))).1 h1 t ht
      simp at this
    simp [sw, hasT_no this]
  · rw [show (lp (p_spec_l3Has_b0 n t) 0) = _ from h2]
    have : t ∈ n := (of_decide_eq_true hb) ▸ nth_mem hk
    simp [sw, hasT_iff.2 this]
/-- names copied, texts of names, the index of names -/
theorem e_impl_cloneNames (names : List (List Tag)) (h1 : names.length ≤ 4194304) (h2 : ∀ n ∈ names, n.length ≤ 4194304) : p_impl_cloneNames names = some names := by
  unfold p_impl_cloneNames
  rw [show (([] : List (List Tag)), (0 : Int)) = (names.take 0, ((0 : Nat) : Int)) from rfl, lp_for (fun k => (names.take k, (k : Int))) names.length names (fun k hk => by
    unfold p_impl_cloneNames_b0
    have hl := h2 _ (nth_mem hk)
    simp only [dlt hk, cond_true, gd.yes (ixN hk), Int.toNat_natCast, List.length_nil, List.nil_append, List.length_take]
    rw [gd.yes (by unfold room; omega), gd.yes (by unfold room; omega), gd.yes (by unfold I64; omega), take_succ_nth hk]
    rfl) (by unfold p_impl_cloneNames_b0; simp)]
  rfl
/-- a posting more -/
def addT : List Post → Tag → Int → List Post
  | [], t, i => [(t, [i])]
  | p :: P, t, i => if p.1 = t then (p.1, p.2 ++ [i]) :: P else p :: addT P t i
def addN (P : List Post) (n : List Tag) (i : Int) : List Post := n.foldl (fun P t => addT P t i) P
def postsF (names : List (List Tag)) : Nat → List Post
  | 0 => []
  | m + 1 => addN (postsF names m) (nth names m) ((m : Int) + 1)
def indexP (names : List (List Tag)) : Index := (names, (postsF names names.length).mergeSort leP)
theorem addT_old (P : List Post) (t : Tag) (i : Int) (h : t ∈ P.map (·.1)) : (addT P t i).map (·.1) = P.map (·.1) := by
  induction P with
  | nil => cases h
  | cons p P ih =>
    unfold addT
    by_cases e : p.1 = t
    · simp [e]
    · rw [if_neg e, List.map_cons, List.map_cons, ih]
      rcases List.mem_cons.1 h with h | h
      · exact absurd h.symm e
      · exact h
theorem addT_new (P : List Post) (t : Tag) (i : Int) (h : t ∉ P.map (·.1)) : (addT P t i).map (·.1) = P.map (·.1) ++ [t] := by
  induction P with
  | nil => rfl
  | cons p P ih =>
    unfold addT
    have e : p.1 ≠ t := fun e => h (by rw [List.map_cons, e]; exact List.mem_cons_self ..)
    rw [if_neg e, List.map_cons, List.map_cons, ih (fun q => h (by rw [List.map_cons]; exact List.mem_cons_of_mem _ q))]
    rfl
theorem addT_nodup {P : List Post} (h : (P.map (·.1)).Nodup) (t : Tag) (i : Int) : ((addT P t i).map (·.1)).Nodup := by
  by_cases hm : t ∈ P.map (·.1)
  · rw [addT_old P t i hm]; exact h
  · rw [addT_new P t i hm, List.nodup_append]
    exact ⟨h, by simp, fun a ha b hb => by simp at hb; subst hb; exact fun e => hm (e ▸ ha)⟩
theorem addN_cons (P : List Post) (t : Tag) (n : List Tag) (i : Int) : addN P (t :: n) i = addN (addT P t i) n i := rfl
theorem postsF_succ (names : List (List Tag)) (m : Nat) : postsF names (m + 1) = addN (postsF names m) (nth names m) ((m : Int) + 1) := rfl
theorem addN_nodup (n : List Tag) (i : Int) : ∀ {P : List Post}, (P.map (·.1)).Nodup → ((addN P n i).map (·.1)).Nodup := by
  unfold addN
  induction n with
  | nil => intro P h; exact h
  | cons t n ih => intro P h; exact ih (addT_nodup h t i)
theorem postsF_nodup (names : List (List Tag)) : ∀ m, ((postsF names m).map (·.1)).Nodup
  | 0 => by simp [postsF]
  | m + 1 => addN_nodup _ _ (postsF_nodup names m)
/-- no more than so many -/
def bnd (P : List Post) (c : Nat) : Prop := P.length ≤ c ∧ ∀ p ∈ P, p.2.length ≤ c
theorem bnd_addT {P : List Post} {c : Nat} (h : bnd P c) (t : Tag) (i : Int) : bnd (addT P t i) (c + 1) := by
  obtain ⟨h1, h2⟩ := h
  have len : (addT P t i).length ≤ P.length + 1 := by
    clear h1 h2
    induction P with
    | nil => simp [addT]
    | cons p P ih => unfold addT; split <;> simp <;> omega
  refine ⟨by omega, ?_⟩
  clear len h1
  induction P with
  | nil => intro p hp; simp [addT] at hp; subst hp; simp
  | cons q P ih =>
    intro p hp
    unfold addT at hp
    split at hp
    · rcases List.mem_cons.1 hp with rfl | hp
      · have := h2 q (List.mem_cons_self ..)
        simp; omega
      · have := h2 p (List.mem_cons_of_mem _ hp); omega
    · rcases List.mem_cons.1 hp with rfl | hp
      · have := h2 p (List.mem_cons_self ..); omega
      · exact ih (fun r hr => h2 r (List.mem_cons_of_mem _ hr)) p hp
theorem addT_none {P : List Post} {t : Tag} (i : Int) (h : ∀ k, k < P.length → (nth P k).1 ≠ t) : addT P t i = P ++ [(t, [i])] := by
  induction P with
  | nil => rfl
  | cons p P ih =>
    have h0 : p.1 ≠ t := h 0 (by simp)
    unfold addT
    rw [if_neg h0, ih (fun k hk => h (k + 1) (by simp; omega))]; rfl
theorem addT_some {P : List Post} {t : Tag} (i : Int) : ∀ {k : Nat}, k < P.length → (nth P k).1 = t → (∀ j, j < k → (nth P j).1 ≠ t) → addT P t i = P.set k ((nth P k).1, (nth P k).2 ++ [i]) := by
  induction P with
  | nil => intro k hk; simp at hk
  | cons p P ih =>
    intro k hk he hn
    cases k with
    | zero =>
      have he : p.1 = t := he
      unfold addT; rw [if_pos he]; rfl
    | succ k =>
      have h0 : p.1 ≠ t := hn 0 (by omega)
      unfold addT
      rw [if_neg h0, ih (k := k) (by simpa using hk) he (fun j hj => hn (j + 1) (by omega))]
      rfl
theorem e_IndexFunc1 (P : List Post) (t : Tag) (hP : P.length ≤ 4194304) : (∃ k : Nat, k < P.length ∧ (nth P k).1 = t ∧ (∀ j, j < k → (nth P j).1 ≠ t) ∧ p_slices_IndexFunc_Post_Post_indexOf_1 P t = some (k : Int)) ∨ ((∀ k, k < P.length → (nth P k).1 ≠ t) ∧ p_slices_IndexFunc_Post_Post_indexOf_1 P t = some (-1)) := by
  have hr : ∀ k, k < P.length → p_slices_IndexFunc_Post_Post_indexOf_1_b0 P t (k : Int) = some (if decide ((nth P k).1 = t) then .inr (.inr (k : Int)) else .inl ((k + 1 : Nat) : Int)) := fun k hk => by
    unfold p_slices_IndexFunc_Post_Post_indexOf_1_b0 p_impl_indexOf_1
    simp only [dlt hk, cond_true, gd.yes (ixN hk), Int.toNat_natCast, bd_some, gd.yes (i64S hk (by omega))]
    by_cases h : (nth P k).1 = t <;> simp [h]
  unfold p_slices_IndexFunc_Post_Post_indexOf_1
  rcases lp_scan (body := p_slices_IndexFunc_Post_Post_indexOf_1_b0 P t) (fun k => (k : Int)) P.length (fun k => decide ((nth P k).1 = t)) (.inl ()) (fun k => .inr (k : Int)) (fun k hk _ h => by simp [hr k hk, of_decide_eq_false h]) (fun k hk _ h => by rw [hr k hk, if_pos h]) (fun _ => by unfold p_slices_IndexFunc_Post_Post_indexOf_1_b0; simp) with ⟨h1, h2⟩ | ⟨h1, k, hk, hb, hn, h2⟩
  · exact .inr ⟨fun k hk => of_decide_eq_false (allN_iff.1 h1 k hk), by rw [show (lp (p_slices_IndexFunc_Post_Post_indexOf_1_b0 P t) 0) = _ from h2]; rfl⟩
  · exact .inl ⟨k, hk, of_decide_eq_true hb, fun j hj => of_decide_eq_false (hn j hj), by rw [show (lp (p_slices_IndexFunc_Post_Post_indexOf_1_b0 P t) 0) = _ from h2]; rfl⟩
/-- the tags of a name -/
theorem e_tags (names : List (List Tag)) (Q : List Post) (m : Nat) (hm : m < 4194304) (c : Nat) (n : List Tag) (hn : n = nth names m) (hc : c + n.length ≤ 4194304) : ∀ (r j : Nat) (P : List Post), j + r = n.length → bnd P (c + j) →
    lp (p_impl_indexOf_b1 names (Q, (m : Int))) (P, (j : Int)) = some (addN P (n.drop j) ((m : Int) + 1)) ∧ bnd (addN P (n.drop j) ((m : Int) + 1)) (c + n.length)
  | 0, j, P, hj, hb => by
    have : n.drop j = [] := List.drop_eq_nil_of_le (by omega)
    rw [this]
    refine ⟨lp.stop ?_, by rw [show c + n.length = c + j by omega]; exact hb⟩
    unfold p_impl_indexOf_b1
    simp only [Int.toNat_natCast, ← hn]
    rw [decide_eq_false (show ¬ ((j : Int) < (n.length : Int)) by omega)]; rfl
  | r + 1, j, P, hj, hb => by
    have hjn : j < n.length := by omega
    have hd : n.drop j = nth n j :: n.drop (j + 1) := by rw [nth_eq n j hjn]; exact List.drop_eq_getElem_cons hjn
    have hP1 := hb.1
    have step : p_impl_indexOf_b1 names (Q, (m : Int)) (P, (j : Int)) = some (.inl (addT P (nth n j) ((m : Int) + 1), ((j + 1 : Nat) : Int))) := by
      unfold p_impl_indexOf_b1
      simp only [Int.toNat_natCast, ← hn, dlt hjn, cond_true, gd.yes (ixN hjn)]
      rcases e_IndexFunc1 P (nth n j) (by omega) with ⟨k, hk, he, hno, hf⟩ | ⟨hno, hf⟩
      · have hl := hb.2 _ (nth_mem hk)
        rw [hf]
        simp only [bd_some]
        rw [decide_eq_false (show ¬ ((k : Int) < 0) by omega)]
        rw [cond_false, gd.yes (ixN hk)]
        simp only [Int.toNat_natCast]
        rw [gd.yes (by unfold I64; omega), gd.yes (by unfold room; omega), gd.yes (by unfold I64; omega), addT_some _ hk he hno]
        rfl
      · rw [hf]
        simp only [bd_some]
        rw [decide_eq_true (show ((-1 : Int) < 0) by omega)]
        have e1 : nth (P ++ [(nth n j, ([] : List Int))]) P.length = (nth n j, []) := nth_append_new
        simp only [cond_true, e1, List.nil_append, List.length_nil]
        rw [gd.yes (by unfold room; omega), gd.yes (by unfold ix; simp; omega), gd.yes (by unfold I64; omega), gd.yes (by unfold room; omega), gd.yes (by unfold I64; omega), addT_none _ hno]
        simp
    rw [lp.step step, hd, addN_cons]
    exact e_tags names Q m hm c n hn hc r (j + 1) _ (by omega) (by rw [← Nat.add_assoc]; exact bnd_addT hb _ _)
theorem e_posts (names : List (List Tag)) (hN : names.length ≤ 4194304) (hs : sumN names.length (fun i => (nth names i).length) ≤ 4194304) : ∀ m, m ≤ names.length → bnd (postsF names m) (sumN m fun i => (nth names i).length) ∧ lp (p_impl_indexOf_b0 names) (([] : List Post), (0 : Int)) = lp (p_impl_indexOf_b0 names) (postsF names m, (m : Int))
  | 0, _ => ⟨⟨by simp [postsF], fun p hp => by simp [postsF] at hp⟩, rfl⟩
  | m + 1, hm => by
    obtain ⟨b, e⟩ := e_posts names hN hs m (by omega)
    have hmn : m < names.length := by omega
    have hle : sumN m (fun i => (nth names i).length) + (nth names m).length ≤ sumN names.length (fun i => (nth names i).length) := sumN_lt hmn
    obtain ⟨t1, t2⟩ := e_tags names (postsF names m) m (by omega) _ (nth names m) rfl (by omega) (nth names m).length 0 (postsF names m) (by omega) b
    rw [List.drop_zero] at t1 t2
    refine ⟨t2, ?_⟩
    rw [e, lp.step (s' := (postsF names (m + 1), ((m + 1 : Nat) : Int)))]
    rw [postsF_succ]
    unfold p_impl_indexOf_b0
    rw [show ((0 : Nat) : Int) = 0 from rfl] at t1
    rw [dlt hmn, cond_true, gd.yes (ixN hmn), bd.yes t1]
    rw [gd.yes (by unfold I64; omega), addI]
theorem e_indexOf (names : List (List Tag)) (hN : names.length ≤ 4194304) (hs : sumN names.length (fun i => (nth names i).length) ≤ 4194304) : p_impl_indexOf names = some (indexP names) := by
  have hn : ∀ n ∈ names, n.length ≤ 4194304 := fun n h => by
    obtain ⟨i, hi, rfl⟩ := List.mem_iff_getElem.1 h
    have := sumN_get (f := fun i => (nth names i).length) hi
    simp only [nth_eq names i hi] at this
    omega
  obtain ⟨b, e⟩ := e_posts names hN hs names.length (Nat.le_refl _)
  unfold p_impl_indexOf
  rw [e_impl_cloneNames names hN hn]
  simp only [bd_some]
  rw [e, lp.stop (e := postsF names names.length) (by
    unfold p_impl_indexOf_b0
    rw [decide_eq_false (show ¬ ((names.length : Int) < (names.length : Int)) by omega)]; rfl)]
  simp only [bd_some]
  have hl := b.1
  unfold p_slices_SortFunc_Post_Post_indexOf_2 sortP
  rw [gd.yes (show room (postsF names names.length).length by unfold room; omega), gd.yes (postsF_nodup names _)]
  rfl
/-- texts of names -/
def textK (n : List Tag) : Nat → ByteArray
  | 0 => ⟨#[]⟩
  | m + 1 => (((if 0 < m then textK n m ++ ⟨#[44]⟩ else textK n m) ++ (nth n m).1) ++ ⟨#[61]⟩) ++ (nth n m).2
def textN (n : List Tag) : ByteArray := textK n n.length
theorem textK_size (n : List Tag) : ∀ m, (textK n m).size ≤ 2 * m + sumN m fun i => (nth n i).1.size + (nth n i).2.size
  | 0 => Nat.zero_le _
  | m + 1 => by
    have ih := textK_size n m
    show ((((if 0 < m then textK n m ++ ⟨#[44]⟩ else textK n m) ++ (nth n m).1) ++ ⟨#[61]⟩) ++ (nth n m).2).size ≤ 2 * (m + 1) + (sumN m (fun i => (nth n i).1.size + (nth n i).2.size) + ((nth n m).1.size + (nth n m).2.size))
    have e1 : ((⟨#[61]⟩ : ByteArray)).size = 1 := rfl
    have e2 : ((⟨#[44]⟩ : ByteArray)).size = 1 := rfl
    split
    · simp only [ByteArray.size_append, e1, e2]; omega
    · simp only [ByteArray.size_append, e1]; omega
theorem textK_pos {n : List Tag} {m : Nat} (h : 0 < m) : textK n (m + 1) = (((textK n m ++ ⟨#[44]⟩) ++ (nth n m).1) ++ ⟨#[61]⟩) ++ (nth n m).2 := by
  show (((if 0 < m then textK n m ++ ⟨#[44]⟩ else textK n m) ++ (nth n m).1) ++ ⟨#[61]⟩) ++ (nth n m).2 = _
  rw [if_pos h]
theorem textK_neg {n : List Tag} {m : Nat} (h : ¬ 0 < m) : textK n (m + 1) = ((textK n m ++ (nth n m).1) ++ ⟨#[61]⟩) ++ (nth n m).2 := by
  show (((if 0 < m then textK n m ++ ⟨#[44]⟩ else textK n m) ++ (nth n m).1) ++ ⟨#[61]⟩) ++ (nth n m).2 = _
  rw [if_neg h]
theorem w_name (n : List Tag) : Wt.w n = n.length + sumN n.length fun i => (nth n i).1.size + (nth n i).2.size := rfl
end Go.Proofs.Ytichamokohjneaa
