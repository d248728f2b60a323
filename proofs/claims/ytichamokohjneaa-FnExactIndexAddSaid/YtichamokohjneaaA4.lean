/- The walks and the plain laws, part 4: each function that the law reaches computes what its plain function tells, and what the plain functions answer. Conditions: lengths that memory can hold. -/
import Derived.Test.YtichamokohjneaaA3
namespace Go.Proofs.Ytichamokohjneaa
open Go Go.Sx
theorem c_impl_indexOf {r : Index} (v0 : (List (List Tag))) (x_v0 : Option Addr × Nat) (H : p_impl_indexOf v0 = some r) : Fn' Try.prog 65 #[.slice x_v0.1 v0.length x_v0.2] [imm (.slice x_v0.1 v0.length x_v0.2) v0] [] (ι := (Option Addr × Nat) × (Option Addr × Nat)) (fun x => .agg #[.slice x.1.1 r.1.length x.1.2, .slice x.2.1 r.2.length x.2.2]) (fun _ => []) (fun x => [tree (.slice x.1.1 r.1.length x.1.2) r.1, tree (.slice x.2.1 r.2.length x.2.2) r.2]) := by
 refine calls_of (args := [_]) Try.func65 rfl (by kernel_rfl) Try.ntmps65 (by simp) fun c => ?_
 unfold p_impl_indexOf at H
 refine Tr.openD Ent.z fun X1 => ?_
 refine Tr.seq (Tr.region ?_)
 refine Rg.ed (e_alloc ty26) rfl (by decide) ?_
 rintro _ _ _ ⟨g2, rfl, rfl, rfl⟩
 refine Rg.nl (nT ?_)
 refine Tr.seq (Tr.region ?_)
 refine Rg.q (v := .slice x_v0.1 v0.length x_v0.2) (Pu.qo (p_move rfl)) (by decide) ?_
 obtain ⟨r3, h4, H⟩ := bd.of H
 refine Rg.ed (e_callB (vs := [.slice x_v0.1 v0.length x_v0.2]) (c_impl_cloneNames v0 x_v0 h4) (fun _ => (Solo.tree Solo.nil)) rfl (EntsB.cons (Ent.b (Ent.dimm Ent.z)) EntsB.nil)) rfl (by decide) ?_
 rintro _ _ _ ⟨x5, rfl, rfl, rfl⟩
 refine Rg.ed (e_lit0 Post Try.underlying24 ty33) rfl (by decide) ?_
 rintro _ _ _ ⟨a6, c7, rfl, rfl, rfl⟩
 refine Rg.q (v := .agg #[.slice x5.1 r3.length x5.2, .slice a6 (([] : List Post).length) c7]) (Pu.qo (p_buildS (vs := [(0, .slice x5.1 r3.length x5.2), (1, .slice a6 (([] : List Post).length) c7)]) (cs := #[.slice x5.1 r3.length x5.2, .slice a6 (([] : List Post).length) c7]) ty26 pl26 rfl rfl)) (by decide) ?_
 refine Rg.ed (e_alloc ty26) rfl (by decide) ?_
 rintro _ _ _ ⟨g8, rfl, rfl, rfl⟩
 refine Rg.en (e_store (v := .agg #[.slice x5.1 r3.length x5.2, .slice a6 (([] : List Post).length) c7]) (cs' := [.slice x5.1 r3.length x5.2, .slice a6 (([] : List Post).length) c7]) ty26 rfl rfl Upd.here rfl (by simp [Value.cells, Value.oneCell']) (Nat.le_of_ble_eq_true rfl) rfl) rfl ?_
 rintro _ _ _ ⟨rfl, rfl, rfl⟩
 refine Rg.nl (nT ?_)
 refine Tr.seq (Tr.seq (Tr.region ?_))
 refine Rg.q (v := .slice x_v0.1 v0.length x_v0.2) (Pu.qo (p_move rfl)) (by decide) ?_
 refine Rg.q (v := .int .i64 ((v0.length : Int))) (Pu.qo (p_len 38 Try.underlying23 rfl)) (by decide) ?_
 refine Rg.q (v := .int .i64 (0)) (Pu.qo (p_move rfl)) (by decide) (Rg.nl (nT ?_))
 obtain ⟨x9, hx10, H⟩ := bd.of H
 obtain ⟨n11, hx10⟩ := lp.of hx10
 refine tMidNC (ι := Option Addr × Nat) (fun ψ => [(2, .pointer (some ⟨g2, 0, none⟩)), (3, .pointer (some ⟨g8, 0, none⟩))]) (fun ψ => [box g2 26 [.slice none 0 0, .slice none 0 0], tree (.slice x5.1 r3.length x5.2) r3, tree (.slice ψ.1 x9.length ψ.2) x9, box g8 26 [.slice x5.1 r3.length x5.2, .slice ψ.1 x9.length ψ.2]]) ?_ ?_
 ·refine Tr.block ?_
  refine tLoopC (ι := { q : Nat × ((List Post) × Int) × (Option Addr × Nat) // itr (p_impl_indexOf_b0 v0) q.1 q.2.1 = some x9 }) (fun ζ => [(2, .pointer (some ⟨g2, 0, none⟩)), (3, .pointer (some ⟨g8, 0, none⟩)), (13, .slice x_v0.1 v0.length x_v0.2), (14, .int .i64 ((v0.length : Int))), (15, .int .i64 (ζ.1.2.1.2))]) (fun ζ => [box g2 26 [.slice none 0 0, .slice none 0 0], tree (.slice x5.1 r3.length x5.2) r3, tree (.slice ζ.1.2.2.1 ζ.1.2.1.1.length ζ.1.2.2.2) ζ.1.2.1.1, box g8 26 [.slice x5.1 r3.length x5.2, .slice ζ.1.2.2.1 ζ.1.2.1.1.length ζ.1.2.2.2]]) (fun ζ => ζ.1.1) ⟨(n11, (([] : List Post), 0), (a6, c7)), hx10⟩ ⟨rfl, rfl, rfl, rfl, rfl, trivial⟩ (.cons Del.here.there.there.there (.cons Del.here.there.there (.cons Del.here.there (.cons Del.here .nil)))) ?_
  rintro ⟨⟨m12, Q13, z14⟩, hk19⟩
  obtain ⟨m20, t16, e, H1, hi17, hb18⟩ := itr.of (n := m12) (s := Q13) hk19
  subst e; unfold p_impl_indexOf_b0 at H1
  show Tr _ _ _ _ _ [(2, .pointer (some ⟨g2, 0, none⟩)), (3, .pointer (some ⟨g8, 0, none⟩)), (13, .slice x_v0.1 v0.length x_v0.2), (14, .int .i64 ((v0.length : Int))), (15, .int .i64 (Q13.2))] _ [box g2 26 [.slice none 0 0, .slice none 0 0], tree (.slice x5.1 r3.length x5.2) r3, tree (.slice z14.1 Q13.1.length z14.2) Q13.1, box g8 26 [.slice x5.1 r3.length x5.2, .slice z14.1 Q13.1.length z14.2]]
  refine Tr.seq (Tr.region ?_)
  refine Rg.q (v := .bool (decide (Q13.2 < (v0.length : Int)))) (Pu.qo (p_lss rfl rfl)) (by decide) (Rg.nl (nT ?_))
  refine Tr.seq ?_
  refine Tr.cond (b := decide (Q13.2 < (v0.length : Int))) rfl (fun h21 => ?_) (fun h21 => ?_)
  ·have H1 := cdT h21 H1
   refine tSkip ?_
   refine nT (Tr.seq ?_)
   refine Tr.block ?_
   refine Tr.seq (Tr.region ?_)
   refine Rg.q (v := .int .i64 (Q13.2)) (Pu.qo (p_move rfl)) (by decide) ?_
   obtain ⟨h22, H1⟩ := gd.of H1
   refine Rg.q (v := elp x_v0.1 (Q13.2.toNat * Enc.sz (List Tag) + 0)) (q_ixg (l := v0) (E := fun i => Dp.denc (nth v0 i) (X1 i)) (oa := x_v0.1) Try.underlying23 ty38 rfl rfl h22 rfl (Ent.b (Ent.darr Ent.z))) (by decide) ?_
   refine Rg.q (v := .slice ((X1 Q13.2.toNat).1) ((nth v0 Q13.2.toNat).length) ((X1 Q13.2.toNat).2.1)) (q_lde (l := v0) (E := fun i => Dp.denc (nth v0 i) (X1 i)) (oa := x_v0.1) (i := Q13.2.toNat) (j := 0) ty38 rfl (Ent.b (Ent.darr Ent.z)) h22.lt rfl) (by decide) ?_
   refine Rg.q (v := .int .i64 (Q13.2)) (Pu.qo (p_assign rfl)) (by decide) ?_
   refine Rg.q (v := .slice ((X1 Q13.2.toNat).1) ((nth v0 Q13.2.toNat).length) ((X1 Q13.2.toNat).2.1)) (Pu.qo (p_assign rfl)) (by decide) (Rg.nl (nT ?_))
   refine Tr.seq (Tr.region ?_)
   refine Rg.q (v := .slice ((X1 Q13.2.toNat).1) ((nth v0 Q13.2.toNat).length) ((X1 Q13.2.toNat).2.1)) (Pu.qo (p_move rfl)) (by decide) ?_
   refine Rg.q (v := .int .i64 (((nth v0 Q13.2.toNat).length : Int))) (Pu.qo (p_len 30 Try.underlying38 rfl)) (by decide) ?_
   refine Rg.q (v := .int .i64 (0)) (Pu.qo (p_move rfl)) (by decide) (Rg.nl (nT ?_))
   obtain ⟨x23, hx24, H1⟩ := bd.of H1
   obtain ⟨n25, hx24⟩ := lp.of hx24
   refine tMidNC (ι := Option Addr × Nat) (fun ψ => [(2, .pointer (some ⟨g2, 0, none⟩)), (3, .pointer (some ⟨g8, 0, none⟩)), (13, .slice x_v0.1 v0.length x_v0.2), (14, .int .i64 ((v0.length : Int))), (15, .int .i64 (Q13.2))]) (fun ψ => [box g2 26 [.slice none 0 0, .slice none 0 0], tree (.slice x5.1 r3.length x5.2) r3, tree (.slice ψ.1 x23.length ψ.2) x23, box g8 26 [.slice x5.1 r3.length x5.2, .slice ψ.1 x23.length ψ.2]]) ?_ ?_
   ·refine Tr.block ?_
    refine tLoopC (ι := { q : Nat × ((List Post) × Int) × (Option Addr × Nat) // itr (p_impl_indexOf_b1 v0 Q13) q.1 q.2.1 = some x23 }) (fun ζ => [(2, .pointer (some ⟨g2, 0, none⟩)), (3, .pointer (some ⟨g8, 0, none⟩)), (4, .int .i64 (Q13.2)), (13, .slice x_v0.1 v0.length x_v0.2), (14, .int .i64 ((v0.length : Int))), (15, .int .i64 (Q13.2)), (20, .slice ((X1 Q13.2.toNat).1) ((nth v0 Q13.2.toNat).length) ((X1 Q13.2.toNat).2.1)), (21, .int .i64 (((nth v0 Q13.2.toNat).length : Int))), (22, .int .i64 (ζ.1.2.1.2))]) (fun ζ => [box g2 26 [.slice none 0 0, .slice none 0 0], tree (.slice x5.1 r3.length x5.2) r3, tree (.slice ζ.1.2.2.1 ζ.1.2.1.1.length ζ.1.2.2.2) ζ.1.2.1.1, box g8 26 [.slice x5.1 r3.length x5.2, .slice ζ.1.2.2.1 ζ.1.2.1.1.length ζ.1.2.2.2]]) (fun ζ => ζ.1.1) ⟨(n25, (Q13.1, 0), (z14.1, z14.2)), hx24⟩ ⟨rfl, rfl, rfl, rfl, rfl, rfl, rfl, rfl, rfl, trivial⟩ (.cons Del.here (.cons Del.here (.cons Del.here (.cons Del.here .nil)))) ?_
    rintro ⟨⟨m26, Q27, z28⟩, hk33⟩
    obtain ⟨m34, t30, e, H2, hi31, hb32⟩ := itr.of (n := m26) (s := Q27) hk33
    subst e; unfold p_impl_indexOf_b1 at H2
    show Tr _ _ _ _ _ [(2, .pointer (some ⟨g2, 0, none⟩)), (3, .pointer (some ⟨g8, 0, none⟩)), (4, .int .i64 (Q13.2)), (13, .slice x_v0.1 v0.length x_v0.2), (14, .int .i64 ((v0.length : Int))), (15, .int .i64 (Q13.2)), (20, .slice ((X1 Q13.2.toNat).1) ((nth v0 Q13.2.toNat).length) ((X1 Q13.2.toNat).2.1)), (21, .int .i64 (((nth v0 Q13.2.toNat).length : Int))), (22, .int .i64 (Q27.2))] _ [box g2 26 [.slice none 0 0, .slice none 0 0], tree (.slice x5.1 r3.length x5.2) r3, tree (.slice z28.1 Q27.1.length z28.2) Q27.1, box g8 26 [.slice x5.1 r3.length x5.2, .slice z28.1 Q27.1.length z28.2]]
    refine Tr.seq (Tr.region ?_)
    refine Rg.q (v := .bool (decide (Q27.2 < ((nth v0 Q13.2.toNat).length : Int)))) (Pu.qo (p_lss rfl rfl)) (by decide) (Rg.nl (nT ?_))
    refine Tr.seq ?_
    refine Tr.cond (b := decide (Q27.2 < ((nth v0 Q13.2.toNat).length : Int))) rfl (fun h35 => ?_) (fun h35 => ?_)
    ·have H2 := cdT h35 H2
     refine tSkip ?_
     refine nT (Tr.seq ?_)
     refine Tr.block ?_
     refine Tr.seq (Tr.region ?_)
     obtain ⟨h36, H2⟩ := gd.of H2
     refine Rg.q (v := elp ((X1 Q13.2.toNat).1) (Q27.2.toNat * Enc.sz Tag + 0)) (q_ixg (l := nth v0 Q13.2.toNat) (E := fun i => Flat.enc (nth (nth v0 Q13.2.toNat) i)) (oa := (X1 Q13.2.toNat).1) Try.underlying38 ty30 rfl rfl h36 rfl (EntB.flat (Ent.b (Ent.dimm (Ent.del Ent.z h22.lt))))) (by decide) ?_
     refine Rg.q (v := .agg #[.string ((nth (nth v0 Q13.2.toNat) Q27.2.toNat).1), .string ((nth (nth v0 Q13.2.toNat) Q27.2.toNat).2)]) (q_ldeA (l := nth v0 Q13.2.toNat) (E := fun i => Flat.enc (nth (nth v0 Q13.2.toNat) i)) (oa := (X1 Q13.2.toNat).1) (i := Q27.2.toNat) ty30 rfl (EntB.flat (Ent.b (Ent.dimm (Ent.del Ent.z h22.lt)))) h36.lt) (by decide) ?_
     refine Rg.ed (e_alloc ty30) rfl (by decide) ?_
     rintro _ _ _ ⟨g37, rfl, rfl, rfl⟩
     refine Rg.en (e_store (v := .agg #[.string ((nth (nth v0 Q13.2.toNat) Q27.2.toNat).1), .string ((nth (nth v0 Q13.2.toNat) Q27.2.toNat).2)]) (cs' := [.string ((nth (nth v0 Q13.2.toNat) Q27.2.toNat).1), .string ((nth (nth v0 Q13.2.toNat) Q27.2.toNat).2)]) ty30 rfl rfl Upd.here rfl (by simp [Value.cells, Value.oneCell']) (Nat.le_of_ble_eq_true rfl) rfl) rfl ?_
     rintro _ _ _ ⟨rfl, rfl, rfl⟩
     refine Rg.nl (nT ?_)
     refine Tr.seq (Tr.region ?_)
     refine Rg.q (v := .pointer (some ⟨g8, 1, none⟩)) (Pu.qo (p_fabE fa26_1 rfl rfl)) (by decide) ?_
     refine Rg.q (v := .slice z28.1 Q27.1.length z28.2) (q_ldb ty24 rfl Has.here.there.there.there.there rfl) (by decide) ?_
     refine Rg.q (v := .func (.func 112) #[] #[.pointer (some ⟨g37, 0, none⟩)]) (Pu.qo (p_mkfunc (vs := [.pointer (some ⟨g37, 0, none⟩)]) rfl rfl)) (by decide) ?_
     obtain ⟨r38, h39, H2⟩ := bd.of H2
     refine Rg.q (v := .int .i64 (r38)) (q_callC (vs := [.slice z28.1 Q27.1.length z28.2, .func (.func 112) #[] #[.pointer (some ⟨g37, 0, none⟩)]]) (c_slices_IndexFunc_Post_Post_indexOf_1 Q27.1 z28 g37 (nth (nth v0 Q13.2.toNat) Q27.2.toNat) h39) (Solo.box Solo.nil) rfl (.cons Del.here .nil) (EntsB.cons (EntB.tree Has.here.there.there) EntsB.nil)) (by decide) ?_
     refine Rg.q (v := .int .i64 (r38)) (Pu.qo (p_assign rfl)) (by decide) (Rg.nl (nT ?_))
     refine Tr.seq (Tr.seq (Tr.region ?_))
     refine Rg.q (v := .int .i64 (r38)) (Pu.qo (p_move rfl)) (by decide) ?_
     refine Rg.q (v := .bool (decide (r38 < 0))) (Pu.qo (p_lss rfl rfl)) (by decide) (Rg.nl (nT ?_))
     refine Tr.cond (b := decide (r38 < 0)) rfl (fun h40 => ?_) (fun h40 => ?_)
     ·have H2 := cdT h40 H2
      refine Tr.seq (Tr.region ?_)
      refine Rg.q (v := .pointer (some ⟨g8, 1, none⟩)) (Pu.qo (p_fabE fa26_1 rfl rfl)) (by decide) ?_
      refine Rg.q (v := .slice z28.1 Q27.1.length z28.2) (q_ldb ty24 rfl Has.here.there.there.there.there rfl) (by decide) ?_
      refine Rg.q (v := .int .i64 ((Q27.1.length : Int))) (Pu.qo (p_len 33 Try.underlying24 rfl)) (by decide) ?_
      refine Rg.q (v := .int .i64 ((Q27.1.length : Int))) (Pu.qo (p_assign rfl)) (by decide) (Rg.nl (nT ?_))
      refine Tr.nilT Int ?_
      refine Tr.region ?_
      refine Rg.q (v := .pointer (some ⟨g8, 1, none⟩)) (Pu.qo (p_fabE fa26_1 rfl rfl)) (by decide) ?_
      refine Rg.q (v := .slice z28.1 Q27.1.length z28.2) (q_ldb ty24 rfl Has.here.there.there.there.there.there rfl) (by decide) ?_
      refine Rg.q (v := .agg #[.string ((nth (nth v0 Q13.2.toNat) Q27.2.toNat).1), .string ((nth (nth v0 Q13.2.toNat) Q27.2.toNat).2)]) (q_ldbA ty30 rfl Has.here.there rfl) (by decide) ?_
      refine Rg.q (v := .agg #[.string ((nth (nth v0 Q13.2.toNat) Q27.2.toNat).1), .string ((nth (nth v0 Q13.2.toNat) Q27.2.toNat).2), .slice none 0 0]) (Pu.qo (p_buildS (vs := [(0, .agg #[.string ((nth (nth v0 Q13.2.toNat) Q27.2.toNat).1), .string ((nth (nth v0 Q13.2.toNat) Q27.2.toNat).2)])]) (cs := #[.string ((nth (nth v0 Q13.2.toNat) Q27.2.toNat).1), .string ((nth (nth v0 Q13.2.toNat) Q27.2.toNat).2), .slice none 0 0]) ty33 pl33 rfl rfl)) (by decide) ?_
      refine Rg.ed (e_lit (vs := [(0, .agg #[.string ((nth (nth v0 Q13.2.toNat) Q27.2.toNat).1), .string ((nth (nth v0 Q13.2.toNat) Q27.2.toNat).2), .slice none 0 0])]) [.string ((nth (nth v0 Q13.2.toNat) Q27.2.toNat).1), .string ((nth (nth v0 Q13.2.toNat) Q27.2.toNat).2), .slice none 0 0] Try.underlying24 ty33 rfl (by decide) (by decide) (by kernel_rfl)) rfl (by decide) ?_
      rintro _ _ _ ⟨g41, rfl, rfl, rfl⟩
      obtain ⟨h44, H2⟩ := gd.of H2
      refine Rg.ed (e_app1 (l := Q27.1) (α := Post) ((nth (nth v0 Q13.2.toNat) Q27.2.toNat), ([])) (((), ()), (none, 0)) Try.underlying24 ty33 rfl rfl (h44.b (by decide)) h44.x rfl (ShpT.wfa _) (.cons Del.here.there.there.there.there.there (.cons Del.here (.cons Del.here .nil)))) rfl (by decide) ?_
      rintro _ _ _ ⟨a42, c43, rfl, rfl, rfl⟩
      refine Rg.q (v := .pointer (some ⟨g8, 1, none⟩)) (Pu.qo (p_fabE fa26_1 rfl rfl)) (by decide) ?_
      refine Rg.en (e_store (v := .slice a42 ((Q27.1 ++ [((nth (nth v0 Q13.2.toNat) Q27.2.toNat), ([]))]).length) c43) (cs' := [.slice x5.1 r3.length x5.2, .slice a42 ((Q27.1 ++ [((nth (nth v0 Q13.2.toNat) Q27.2.toNat), ([]))]).length) c43]) ty24 rfl rfl Upd.here.there.there.there.there rfl (by simp [Value.cells, Value.oneCell']) (Nat.le_of_ble_eq_true rfl) rfl) rfl ?_
      rintro _ _ _ ⟨rfl, rfl, rfl⟩
      refine Rg.nl (nT ?_)
      obtain ⟨h45, H2⟩ := gd.of H2
      refine Tr.zoom (k := (Q27.1.length : Int).toNat) h45.lt (.cons Del.here .nil) fun x46 => ?_
      show Tr _ _ _ _ _ _ _ (hole (.slice a42 ((Q27.1 ++ [((nth (nth v0 Q13.2.toNat) Q27.2.toNat), ([]))]).length) c43) (Q27.1 ++ [((nth (nth v0 Q13.2.toNat) Q27.2.toNat), ([]))]) ((Q27.1.length : Int).toNat) [.string (((nth (Q27.1 ++ [((nth (nth v0 Q13.2.toNat) Q27.2.toNat), ([]))]) ((Q27.1.length : Int).toNat)).1).1), .string (((nth (Q27.1 ++ [((nth (nth v0 Q13.2.toNat) Q27.2.toNat), ([]))]) ((Q27.1.length : Int).toNat)).1).2), .slice x46.2.1 (((nth (Q27.1 ++ [((nth (nth v0 Q13.2.toNat) Q27.2.toNat), ([]))]) ((Q27.1.length : Int).toNat)).2).length) x46.2.2] :: tree (.slice x46.2.1 (((nth (Q27.1 ++ [((nth (nth v0 Q13.2.toNat) Q27.2.toNat), ([]))]) ((Q27.1.length : Int).toNat)).2).length) x46.2.2) ((nth (Q27.1 ++ [((nth (nth v0 Q13.2.toNat) Q27.2.toNat), ([]))]) ((Q27.1.length : Int).toNat)).2) :: _)
      refine tNwS [(8, .int .i64 ((Q27.1.length : Int))), (2, .pointer (some ⟨g2, 0, none⟩)), (3, .pointer (some ⟨g8, 0, none⟩)), (4, .int .i64 (Q13.2)), (13, .slice x_v0.1 v0.length x_v0.2), (14, .int .i64 ((v0.length : Int))), (15, .int .i64 (Q13.2)), (20, .slice ((X1 Q13.2.toNat).1) ((nth v0 Q13.2.toNat).length) ((X1 Q13.2.toNat).2.1)), (21, .int .i64 (((nth v0 Q13.2.toNat).length : Int))), (22, .int .i64 (Q27.2))] 1 [0, 1, 2, 3, 4, 5, 6, 7, 8, 9, 10, 11, 12, 13, 14, 15] [11, 12, 15] [] Try.mixed (by kernel_rfl) (by decide) List.nodup_nil ⟨rfl, rfl, rfl, rfl, rfl, rfl, rfl, rfl, rfl, rfl, trivial⟩ rfl okNil ?_
      refine w_pu (v := .pointer (some ⟨g8, 1, none⟩)) rfl (by decide) rfl rfl rfl (p_fabE fa26_1 rfl rfl) ?_
      refine w_q (v := .slice a42 ((Q27.1 ++ [((nth (nth v0 Q13.2.toNat) Q27.2.toNat), ([]))]).length) c43) rfl (by decide) rfl rfl rfl (fun F => (q_ldb ty24 rfl (Has.here.there.there.there.there.there.app F) rfl)) ?_
      refine w_pu (v := .int .i64 ((Q27.1.length : Int))) rfl (by decide) rfl rfl rfl (p_move rfl) ?_
      refine w_pu (v := .pointer (some ⟨g8, 1, none⟩)) rfl (by decide) rfl rfl rfl (p_fabE fa26_1 rfl rfl) ?_
      refine w_q (v := .slice a42 ((Q27.1 ++ [((nth (nth v0 Q13.2.toNat) Q27.2.toNat), ([]))]).length) c43) rfl (by decide) rfl rfl rfl (fun F => (q_ldb ty24 rfl (Has.here.there.there.there.there.there.app F) rfl)) ?_
      refine w_pu (v := .int .i64 ((Q27.1.length : Int))) rfl (by decide) rfl rfl rfl (p_move rfl) ?_
      refine w_q (v := elp a42 (((Q27.1.length : Int).toNat) * Enc.sz Post + 0)) rfl (by decide) rfl rfl rfl (fun F => (q_ixH (k := (Q27.1.length : Int).toNat) Try.underlying24 ty33 rfl rfl h45 rfl (Has.here.app F))) ?_
      refine w_q (v := elp a42 (((Q27.1.length : Int).toNat) * Enc.sz Post + 2)) rfl (by decide) rfl rfl rfl (fun F => (q_faH (j := 0) (i := (Q27.1.length : Int).toNat) fa33_1 rfl (Has.here.app F) rfl)) ?_
      refine w_q (v := .slice x46.2.1 (((nth (Q27.1 ++ [((nth (nth v0 Q13.2.toNat) Q27.2.toNat), ([]))]) ((Q27.1.length : Int).toNat)).2).length) x46.2.2) rfl (by decide) rfl rfl rfl (fun F => (q_ldH (i := (Q27.1.length : Int).toNat) (j := 2) ty31 rfl (Has.here.app F) rfl)) ?_
      refine w_pu (v := .int .i64 (Q13.2)) rfl (by decide) rfl rfl rfl (p_move rfl) ?_
      obtain ⟨h47, H2⟩ := gd.of H2
      refine w_pu (v := .int .i64 (Q13.2 + 1)) rfl (by decide) rfl rfl rfl (p_add rfl rfl h47) ?_
      refine w_ed rfl (by decide) rfl Rdy.nil rfl (n_lit (vs := [(0, .int .i64 (Q13.2 + 1))]) [.int .i64 (Q13.2 + 1)] Try.underlying31 ty3 rfl (by decide) (by decide) (by kernel_rfl)) ?_
      rintro _ _ _ ⟨g48, rfl, rfl, rfl⟩
      refine ⟨(PdOk.q rfl rfl (fun F => (q_ldH (i := (Q27.1.length : Int).toNat) (j := 2) ty31 rfl (Has.here.there.app F) rfl)) (PdOk.q rfl rfl (fun F => (q_faH (j := 0) (i := (Q27.1.length : Int).toNat) fa33_1 rfl (Has.here.there.app F) rfl)) (PdOk.q rfl rfl (fun F => (q_ixH (k := (Q27.1.length : Int).toNat) Try.underlying24 ty33 rfl rfl h45 rfl (Has.here.there.app F))) (PdOk.q rfl rfl (fun F => (q_ldb ty24 rfl (Has.here.there.there.there.there.there.there.app F) rfl)) (PdOk.q rfl rfl (fun F => (q_ldb ty24 rfl (Has.here.there.there.there.there.there.there.app F) rfl)) PdOk.nil))))), ?_⟩
      obtain ⟨h51, H2⟩ := gd.of H2
      refine w_ed rfl (by decide) rfl Rdy.nil rfl (n_app1 (l := (nth (Q27.1 ++ [((nth (nth v0 Q13.2.toNat) Q27.2.toNat), ([]))]) ((Q27.1.length : Int).toNat)).2) (α := Int) (Q13.2 + 1) () Try.underlying31 ty3 rfl rfl (h51.b (by decide)) h51.x rfl (ShpT.wfa _) (.cons Del.here.there.there (.cons Del.here .nil))) ?_
      rintro _ _ _ ⟨a49, c50, rfl, rfl, rfl⟩
      refine ⟨(PdOk.anc (by kernel_rfl) (PdOk.q rfl rfl (fun F => (q_faH (j := 0) (i := (Q27.1.length : Int).toNat) fa33_1 rfl (Has.here.there.app F) rfl)) (PdOk.q rfl rfl (fun F => (q_ixH (k := (Q27.1.length : Int).toNat) Try.underlying24 ty33 rfl rfl h45 rfl (Has.here.there.app F))) (PdOk.q rfl rfl (fun F => (q_ldb ty24 rfl (Has.here.there.there.there.there.there.app F) rfl)) (PdOk.q rfl rfl (fun F => (q_ldb ty24 rfl (Has.here.there.there.there.there.there.app F) rfl)) PdOk.nil))))), ?_⟩
      refine w_q (v := elp a42 (((Q27.1.length : Int).toNat) * Enc.sz Post + 0)) rfl (by decide) rfl rfl rfl (fun F => (q_ixH (k := (Q27.1.length : Int).toNat) Try.underlying24 ty33 rfl rfl h45 rfl (Has.here.there.app F))) ?_
      refine w_q (v := elp a42 (((Q27.1.length : Int).toNat) * Enc.sz Post + 2)) rfl (by decide) rfl rfl rfl (fun F => (q_faH (j := 0) (i := (Q27.1.length : Int).toNat) fa33_1 rfl (Has.here.there.app F) rfl)) ?_
      refine w_en rfl rfl Rdy.nil rfl (n_stH (v := .slice a49 ((((nth (Q27.1 ++ [((nth (nth v0 Q13.2.toNat) Q27.2.toNat), ([]))]) ((Q27.1.length : Int).toNat)).2) ++ [Q13.2 + 1]).length) c50) (i := (Q27.1.length : Int).toNat) (j := 2) (cs' := [.string (((nth (Q27.1 ++ [((nth (nth v0 Q13.2.toNat) Q27.2.toNat), ([]))]) ((Q27.1.length : Int).toNat)).1).1), .string (((nth (Q27.1 ++ [((nth (nth v0 Q13.2.toNat) Q27.2.toNat), ([]))]) ((Q27.1.length : Int).toNat)).1).2), .slice a49 ((((nth (Q27.1 ++ [((nth (nth v0 Q13.2.toNat) Q27.2.toNat), ([]))]) ((Q27.1.length : Int).toNat)).2) ++ [Q13.2 + 1]).length) c50]) ty31 rfl rfl (.cons Del.here.there .nil) rfl (by simp [Value.cells, Value.oneCell']) (Nat.le_of_ble_eq_true rfl) rfl rfl) ?_
      rintro _ _ _ ⟨rfl, rfl, rfl⟩
      refine ⟨(PdOk.anc (by kernel_rfl) (PdOk.q rfl rfl (fun F => (q_ixH (k := (Q27.1.length : Int).toNat) Try.underlying24 ty33 rfl rfl h45 rfl (Has.here.app F))) (PdOk.anc (by kernel_rfl) (PdOk.anc (by kernel_rfl) (PdOk.anc (by kernel_rfl) (PdOk.anc (by kernel_rfl) (PdOk.anc (by kernel_rfl) PdOk.nil))))))), ?_⟩
      refine w_nil ?_
      show At _ _ _ _ _ _
      refine nB (nT (?_))
      refine Tr.region ?_
      obtain ⟨h52, H2⟩ := gd.of H2
      refine Rg.q (v := .int .i64 (Q27.2 + 1)) (Pu.qo (p_add rfl rfl h52)) (by decide) ?_
      refine Rg.q (v := .int .i64 (Q27.2 + 1)) (Pu.qo (p_move rfl)) (by decide) (Rg.nl ?_)
      refine At.unzoom (((nth (Q27.1 ++ [((nth (nth v0 Q13.2.toNat) Q27.2.toNat), ([]))]) ((Q27.1.length : Int).toNat)).1), (((nth (Q27.1 ++ [((nth (nth v0 Q13.2.toNat) Q27.2.toNat), ([]))]) ((Q27.1.length : Int).toNat)).2) ++ [Q13.2 + 1])) (((), ()), (a49, c50)) rfl (.cons Del.here (.cons Del.here .nil)) ?_
      refine At.olen Has.here fun hn => ?_; rw [hn]
      exact nLC ⟨(m34, (((Q27.1 ++ [((nth (nth v0 Q13.2.toNat) Q27.2.toNat), ([]))]).set ((Q27.1.length : Int).toNat) (((nth (Q27.1 ++ [((nth (nth v0 Q13.2.toNat) Q27.2.toNat), ([]))]) ((Q27.1.length : Int).toNat)).1), (((nth (Q27.1 ++ [((nth (nth v0 Q13.2.toNat) Q27.2.toNat), ([]))]) ((Q27.1.length : Int).toNat)).2) ++ [Q13.2 + 1]))), Q27.2 + 1), (a42, c43)), hi31 _ (Option.some.inj H2).symm⟩ (Nat.lt_succ_self _) ⟨rfl, rfl, rfl, rfl, rfl, rfl, rfl, rfl, rfl, trivial⟩ Ents.refl (.cons Del.here.there.there (.cons Del.here.there.there (.cons Del.here (.cons Del.here.there .nil))))
     ·have H2 := cdF h40 H2
      refine tSkip ?_
      refine nT (?_)
      obtain ⟨h53, H2⟩ := gd.of H2
      refine Tr.zoom (k := r38.toNat) h53.lt (.cons Del.here.there.there.there .nil) fun x54 => ?_
      show Tr _ _ _ _ _ _ _ (hole (.slice z28.1 Q27.1.length z28.2) Q27.1 r38.toNat [.string (((nth Q27.1 r38.toNat).1).1), .string (((nth Q27.1 r38.toNat).1).2), .slice x54.2.1 (((nth Q27.1 r38.toNat).2).length) x54.2.2] :: tree (.slice x54.2.1 (((nth Q27.1 r38.toNat).2).length) x54.2.2) ((nth Q27.1 r38.toNat).2) :: _)
      refine tNwS [(8, .int .i64 (r38)), (2, .pointer (some ⟨g2, 0, none⟩)), (3, .pointer (some ⟨g8, 0, none⟩)), (4, .int .i64 (Q13.2)), (13, .slice x_v0.1 v0.length x_v0.2), (14, .int .i64 ((v0.length : Int))), (15, .int .i64 (Q13.2)), (20, .slice ((X1 Q13.2.toNat).1) ((nth v0 Q13.2.toNat).length) ((X1 Q13.2.toNat).2.1)), (21, .int .i64 (((nth v0 Q13.2.toNat).length : Int))), (22, .int .i64 (Q27.2))] 1 [0, 1, 2, 3, 4, 5, 6, 7, 8, 9, 10, 11, 12, 13, 14, 15] [11, 12, 15] [] Try.mixed (by kernel_rfl) (by decide) List.nodup_nil ⟨rfl, rfl, rfl, rfl, rfl, rfl, rfl, rfl, rfl, rfl, trivial⟩ rfl okNil ?_
      refine w_pu (v := .pointer (some ⟨g8, 1, none⟩)) rfl (by decide) rfl rfl rfl (p_fabE fa26_1 rfl rfl) ?_
      refine w_q (v := .slice z28.1 Q27.1.length z28.2) rfl (by decide) rfl rfl rfl (fun F => (q_ldb ty24 rfl (Has.here.there.there.there.there.there.app F) rfl)) ?_
      refine w_pu (v := .int .i64 (r38)) rfl (by decide) rfl rfl rfl (p_move rfl) ?_
      refine w_pu (v := .pointer (some ⟨g8, 1, none⟩)) rfl (by decide) rfl rfl rfl (p_fabE fa26_1 rfl rfl) ?_
      refine w_q (v := .slice z28.1 Q27.1.length z28.2) rfl (by decide) rfl rfl rfl (fun F => (q_ldb ty24 rfl (Has.here.there.there.there.there.there.app F) rfl)) ?_
      refine w_pu (v := .int .i64 (r38)) rfl (by decide) rfl rfl rfl (p_move rfl) ?_
      refine w_q (v := elp z28.1 (r38.toNat * Enc.sz Post + 0)) rfl (by decide) rfl rfl rfl (fun F => (q_ixH (k := r38.toNat) Try.underlying24 ty33 rfl rfl h53 rfl (Has.here.app F))) ?_
      refine w_q (v := elp z28.1 (r38.toNat * Enc.sz Post + 2)) rfl (by decide) rfl rfl rfl (fun F => (q_faH (j := 0) (i := r38.toNat) fa33_1 rfl (Has.here.app F) rfl)) ?_
      refine w_q (v := .slice x54.2.1 (((nth Q27.1 r38.toNat).2).length) x54.2.2) rfl (by decide) rfl rfl rfl (fun F => (q_ldH (i := r38.toNat) (j := 2) ty31 rfl (Has.here.app F) rfl)) ?_
      refine w_pu (v := .int .i64 (Q13.2)) rfl (by decide) rfl rfl rfl (p_move rfl) ?_
      obtain ⟨h55, H2⟩ := gd.of H2
      refine w_pu (v := .int .i64 (Q13.2 + 1)) rfl (by decide) rfl rfl rfl (p_add rfl rfl h55) ?_
      refine w_ed rfl (by decide) rfl Rdy.nil rfl (n_lit (vs := [(0, .int .i64 (Q13.2 + 1))]) [.int .i64 (Q13.2 + 1)] Try.underlying31 ty3 rfl (by decide) (by decide) (by kernel_rfl)) ?_
      rintro _ _ _ ⟨g56, rfl, rfl, rfl⟩
      refine ⟨(PdOk.q rfl rfl (fun F => (q_ldH (i := r38.toNat) (j := 2) ty31 rfl (Has.here.there.app F) rfl)) (PdOk.q rfl rfl (fun F => (q_faH (j := 0) (i := r38.toNat) fa33_1 rfl (Has.here.there.app F) rfl)) (PdOk.q rfl rfl (fun F => (q_ixH (k := r38.toNat) Try.underlying24 ty33 rfl rfl h53 rfl (Has.here.there.app F))) (PdOk.q rfl rfl (fun F => (q_ldb ty24 rfl (Has.here.there.there.there.there.there.there.app F) rfl)) (PdOk.q rfl rfl (fun F => (q_ldb ty24 rfl (Has.here.there.there.there.there.there.there.app F) rfl)) PdOk.nil))))), ?_⟩
      obtain ⟨h59, H2⟩ := gd.of H2
      refine w_ed rfl (by decide) rfl Rdy.nil rfl (n_app1 (l := (nth Q27.1 r38.toNat).2) (α := Int) (Q13.2 + 1) () Try.underlying31 ty3 rfl rfl (h59.b (by decide)) h59.x rfl (ShpT.wfa _) (.cons Del.here.there.there (.cons Del.here .nil))) ?_
      rintro _ _ _ ⟨a57, c58, rfl, rfl, rfl⟩
      refine ⟨(PdOk.anc (by kernel_rfl) (PdOk.q rfl rfl (fun F => (q_faH (j := 0) (i := r38.toNat) fa33_1 rfl (Has.here.there.app F) rfl)) (PdOk.q rfl rfl (fun F => (q_ixH (k := r38.toNat) Try.underlying24 ty33 rfl rfl h53 rfl (Has.here.there.app F))) (PdOk.q rfl rfl (fun F => (q_ldb ty24 rfl (Has.here.there.there.there.there.there.app F) rfl)) (PdOk.q rfl rfl (fun F => (q_ldb ty24 rfl (Has.here.there.there.there.there.there.app F) rfl)) PdOk.nil))))), ?_⟩
      refine w_q (v := elp z28.1 (r38.toNat * Enc.sz Post + 0)) rfl (by decide) rfl rfl rfl (fun F => (q_ixH (k := r38.toNat) Try.underlying24 ty33 rfl rfl h53 rfl (Has.here.there.app F))) ?_
      refine w_q (v := elp z28.1 (r38.toNat * Enc.sz Post + 2)) rfl (by decide) rfl rfl rfl (fun F => (q_faH (j := 0) (i := r38.toNat) fa33_1 rfl (Has.here.there.app F) rfl)) ?_
      refine w_en rfl rfl Rdy.nil rfl (n_stH (v := .slice a57 ((((nth Q27.1 r38.toNat).2) ++ [Q13.2 + 1]).length) c58) (i := r38.toNat) (j := 2) (cs' := [.string (((nth Q27.1 r38.toNat).1).1), .string (((nth Q27.1 r38.toNat).1).2), .slice a57 ((((nth Q27.1 r38.toNat).2) ++ [Q13.2 + 1]).length) c58]) ty31 rfl rfl (.cons Del.here.there .nil) rfl (by simp [Value.cells, Value.oneCell']) (Nat.le_of_ble_eq_true rfl) rfl rfl) ?_
      rintro _ _ _ ⟨rfl, rfl, rfl⟩
      refine ⟨(PdOk.anc (by kernel_rfl) (PdOk.q rfl rfl (fun F => (q_ixH (k := r38.toNat) Try.underlying24 ty33 rfl rfl h53 rfl (Has.here.app F))) (PdOk.anc (by kernel_rfl) (PdOk.anc (by kernel_rfl) (PdOk.anc (by kernel_rfl) (PdOk.anc (by kernel_rfl) (PdOk.anc (by kernel_rfl) PdOk.nil))))))), ?_⟩
      refine w_nil ?_
      show At _ _ _ _ _ _
      refine nB (nT (?_))
      refine Tr.region ?_
      obtain ⟨h60, H2⟩ := gd.of H2
      refine Rg.q (v := .int .i64 (Q27.2 + 1)) (Pu.qo (p_add rfl rfl h60)) (by decide) ?_
      refine Rg.q (v := .int .i64 (Q27.2 + 1)) (Pu.qo (p_move rfl)) (by decide) (Rg.nl ?_)
      refine At.unzoom (((nth Q27.1 r38.toNat).1), (((nth Q27.1 r38.toNat).2) ++ [Q13.2 + 1])) (((), ()), (a57, c58)) rfl (.cons Del.here (.cons Del.here .nil)) ?_
      refine At.olen Has.here fun hn => ?_; rw [hn]
      exact nLC ⟨(m34, ((Q27.1.set r38.toNat (((nth Q27.1 r38.toNat).1), (((nth Q27.1 r38.toNat).2) ++ [Q13.2 + 1]))), Q27.2 + 1), (z28.1, z28.2)), hi31 _ (Option.some.inj H2).symm⟩ (Nat.lt_succ_self _) ⟨rfl, rfl, rfl, rfl, rfl, rfl, rfl, rfl, rfl, trivial⟩ Ents.refl (.cons Del.here.there.there (.cons Del.here.there.there (.cons Del.here (.cons Del.here.there .nil))))
    ·have H2 := cdF h35 H2
     refine tExit (xT (xT (xE (?_))))
     have hx := hb32 _ (Option.some.inj H2).symm; subst hx
     exact nMC (z28.1, z28.2) ⟨rfl, rfl, rfl, rfl, rfl, trivial⟩ Ents.refl (.cons Del.here (.cons Del.here (.cons Del.here (.cons Del.here .nil))))
   ·intro y29
    show At _ _ [(2, .pointer (some ⟨g2, 0, none⟩)), (3, .pointer (some ⟨g8, 0, none⟩)), (13, .slice x_v0.1 v0.length x_v0.2), (14, .int .i64 ((v0.length : Int))), (15, .int .i64 (Q13.2))] _ [box g2 26 [.slice none 0 0, .slice none 0 0], tree (.slice x5.1 r3.length x5.2) r3, tree (.slice y29.1 x23.length y29.2) x23, box g8 26 [.slice x5.1 r3.length x5.2, .slice y29.1 x23.length y29.2]] _
    refine nB (nT (?_))
    refine Tr.region ?_
    obtain ⟨h61, H1⟩ := gd.of H1
    refine Rg.q (v := .int .i64 (Q13.2 + 1)) (Pu.qo (p_add rfl rfl h61)) (by decide) ?_
    refine Rg.q (v := .int .i64 (Q13.2 + 1)) (Pu.qo (p_move rfl)) (by decide) (Rg.nl ?_)
    exact nLC ⟨(m20, (x23, Q13.2 + 1), (y29.1, y29.2)), hi17 _ (Option.some.inj H1).symm⟩ (Nat.lt_succ_self _) ⟨rfl, rfl, rfl, rfl, rfl, trivial⟩ Ents.refl (.cons Del.here (.cons Del.here (.cons Del.here (.cons Del.here .nil))))
  ·have H1 := cdF h21 H1
   refine tExit (xT (xT (xE (?_))))
   have hx := hb18 _ (Option.some.inj H1).symm; subst hx
   exact nMC (z14.1, z14.2) ⟨rfl, rfl, trivial⟩ Ents.refl (.cons Del.here (.cons Del.here (.cons Del.here (.cons Del.here .nil))))
 ·intro y15
  show At _ _ [(2, .pointer (some ⟨g2, 0, none⟩)), (3, .pointer (some ⟨g8, 0, none⟩))] _ [box g2 26 [.slice none 0 0, .slice none 0 0], tree (.slice x5.1 r3.length x5.2) r3, tree (.slice y15.1 x9.length y15.2) x9, box g8 26 [.slice x5.1 r3.length x5.2, .slice y15.1 x9.length y15.2]] _
  refine nT (?_)
  refine Tr.seq (Tr.region ?_)
  refine Rg.q (v := .pointer (some ⟨g8, 1, none⟩)) (Pu.qo (p_fabE fa26_1 rfl rfl)) (by decide) ?_
  refine Rg.q (v := .slice y15.1 x9.length y15.2) (q_ldb ty24 rfl Has.here.there.there.there rfl) (by decide) ?_
  obtain ⟨r62, h63, H⟩ := bd.of H
  refine Rg.ed (e_callM (vs := [.slice y15.1 x9.length y15.2, .func (.func 114) #[] #[]]) (c_slices_SortFunc_Post_Post_indexOf_2 x9 y15 x9.length rfl h63) (Solo.tree Solo.nil) (fun _ => (Solo.tree Solo.nil)) rfl (.cons Del.here.there.there .nil) EntsB.nil) rfl (by decide) ?_
  rintro _ _ _ ⟨u64, rfl, rfl, rfl⟩
  refine Rg.nl (nT ?_)
  refine Tr.seq ?_
  refine Tr.olen Has.here fun hn => ?_; rw [hn]
  refine Tr.region ?_
  refine Rg.q (v := .agg #[.slice x5.1 r3.length x5.2, .slice y15.1 r62.length y15.2]) (q_ldbA ty26 rfl Has.here.there.there.there rfl) (by decide) ?_
  refine Rg.en (e_store (v := .agg #[.slice x5.1 r3.length x5.2, .slice y15.1 r62.length y15.2]) (cs' := [.slice x5.1 r3.length x5.2, .slice y15.1 r62.length y15.2]) ty26 rfl rfl Upd.here.there rfl (by simp [Value.cells, Value.oneCell']) (Nat.le_of_ble_eq_true rfl) rfl) rfl ?_
  rintro _ _ _ ⟨rfl, rfl, rfl⟩
  refine Rg.nl (nT ?_)
  refine tRet ?_
  have hr := Option.some.inj H; subst hr
  exact back1 (x5, y15) rfl (ResV.agg ty26 rfl Has.here.there rfl) rfl Ents.nil (.cons Del.here.there.there (.cons Del.here .nil))
noncomputable def p_slices_Equal_int_int_b0 (v0 : (List Int)) (v1 : (List Int)) (Q6 : Int) : Option ((Int) ⊕ (Unit ⊕ Bool)) := cond (decide (Q6 < (v0.length : Int))) (gd (ix Q6 v0.length) <| gd (ix Q6 v1.length) <| cond (!decide ((nth v0 Q6.toNat) = (nth v1 Q6.toNat))) (some (.inr (.inr false))) (gd (I64 (Q6 + 1)) <| some (.inl (Q6 + 1)))) (some (.inr (.inl ())))
noncomputable def p_slices_Equal_int_int (v0 : (List Int)) (v1 : (List Int)) : Option (Bool) := cond (!decide ((v0.length : Int) = (v1.length : Int))) (some false) (bd (lp (p_slices_Equal_int_int_b0 v0 v1) 0) <| sw (fun _ => some true) (fun q => some q))
theorem c_slices_Equal_int_int {r : Bool} (v0 : (List Int)) (x_v0 : Option Addr × Nat) (v1 : (List Int)) (x_v1 : Option Addr × Nat) (H : p_slices_Equal_int_int v0 v1 = some r) : Fn' Try.prog 67 #[.slice x_v0.1 v0.length x_v0.2, .slice x_v1.1 v1.length x_v1.2] [imm (.slice x_v0.1 v0.length x_v0.2) v0, imm (.slice x_v1.1 v1.length x_v1.2) v1] [] (ι := Unit) (fun _ => .bool (r)) (fun _ => []) (fun _ => []) := by
 refine calls_of (args := [_, _]) Try.func67 rfl (by kernel_rfl) Try.ntmps67 (by simp) fun c => ?_
 unfold p_slices_Equal_int_int at H
 refine Tr.seq (Tr.region ?_)
 refine Rg.q (v := .bool (false)) (Pu.qo (p_assign rfl)) (by decide) (Rg.nl (nT ?_))
 refine Tr.seq (Tr.seq (Tr.region ?_))
 refine Rg.q (v := .slice x_v0.1 v0.length x_v0.2) (Pu.qo (p_move rfl)) (by decide) ?_
 refine Rg.q (v := .int .i64 ((v0.length : Int))) (Pu.qo (p_len 3 Try.underlying31 rfl)) (by decide) ?_
 refine Rg.q (v := .slice x_v1.1 v1.length x_v1.2) (Pu.qo (p_move rfl)) (by decide) ?_
 refine Rg.q (v := .int .i64 ((v1.length : Int))) (Pu.qo (p_len 3 Try.underlying31 rfl)) (by decide) ?_
 refine Rg.q (v := .bool (!decide ((v0.length : Int) = (v1.length : Int)))) (Pu.qo (p_neq rfl rfl)) (by decide) (Rg.nl (nT ?_))
 refine Tr.cond (b := !decide ((v0.length : Int) = (v1.length : Int))) rfl (fun h1 => ?_) (fun h1 => ?_)
 ·have H := cdT h1 H
  refine Tr.seq (Tr.region ?_)
  refine Rg.q (v := .bool (false)) (Pu.qo (p_assign rfl)) (by decide) (Rg.nl (nT ?_))
  refine tRet ?_
  refine rT (?_)
  have hr := Option.some.inj H; subst hr
  exact back1 () rfl (ResV.tmp (v := .bool (false)) rfl) rfl Ents.nil Take.nil
 ·have H := cdF h1 H
  refine tSkip ?_
  refine nT (?_)
  refine Tr.seq (Tr.seq (Tr.region ?_))
  refine Rg.q (v := .slice x_v0.1 v0.length x_v0.2) (Pu.qo (p_move rfl)) (by decide) ?_
  refine Rg.q (v := .int .i64 ((v0.length : Int))) (Pu.qo (p_len 3 Try.underlying31 rfl)) (by decide) ?_
  refine Rg.q (v := .int .i64 (0)) (Pu.qo (p_move rfl)) (by decide) (Rg.nl (nT ?_))
  obtain ⟨x2, hx3, H⟩ := bd.of H
  obtain ⟨n4, hx3⟩ := lp.of hx3
  refine tMidNC (ι := { q : (Unit) × Unit // x2 = .inl q.1 }) (fun ψ => []) (fun ψ => []) ?_ ?_
  ·refine Tr.block ?_
   refine tLoopC (ι := { q : Nat × (Int) × Unit // itr (p_slices_Equal_int_int_b0 v0 v1) q.1 q.2.1 = some x2 }) (fun ζ => [(0, .slice x_v0.1 v0.length x_v0.2), (1, .slice x_v1.1 v1.length x_v1.2), (12, .int .i64 ((v0.length : Int))), (13, .int .i64 (ζ.1.2.1))]) (fun ζ => []) (fun ζ => ζ.1.1) ⟨(n4, 0, ()), hx3⟩ ⟨rfl, rfl, rfl, rfl, trivial⟩ Take.nil ?_
   rintro ⟨⟨m5, Q6, z7⟩, hk12⟩
   obtain ⟨m13, t9, e, H1, hi10, hb11⟩ := itr.of (n := m5) (s := Q6) hk12
   subst e; unfold p_slices_Equal_int_int_b0 at H1
   show Tr _ _ _ _ _ [(0, .slice x_v0.1 v0.length x_v0.2), (1, .slice x_v1.1 v1.length x_v1.2), (12, .int .i64 ((v0.length : Int))), (13, .int .i64 (Q6))] _ []
   refine Tr.seq (Tr.region ?_)
   refine Rg.q (v := .bool (decide (Q6 < (v0.length : Int)))) (Pu.qo (p_lss rfl rfl)) (by decide) (Rg.nl (nT ?_))
   refine Tr.seq ?_
   refine Tr.cond (b := decide (Q6 < (v0.length : Int))) rfl (fun h14 => ?_) (fun h14 => ?_)
   ·have H1 := cdT h14 H1
    refine tSkip ?_
    refine nT (Tr.seq ?_)
    refine Tr.block ?_
    refine Tr.seq (Tr.region ?_)
    refine Rg.q (v := .int .i64 (Q6)) (Pu.qo (p_move rfl)) (by decide) ?_
    refine Rg.q (v := .int .i64 (Q6)) (Pu.qo (p_assign rfl)) (by decide) (Rg.nl (nT ?_))
    refine Tr.seq ?_
    refine tLinS [(5, .int .i64 (Q6)), (0, .slice x_v0.1 v0.length x_v0.2), (1, .slice x_v1.1 v1.length x_v1.2), (12, .int .i64 ((v0.length : Int))), (13, .int .i64 (Q6))] Try.mixed (.inr (by kernel_rfl)) ⟨rfl, rfl, rfl, rfl, rfl, trivial⟩ rfl ?_
    refine Lin.q (v := .slice x_v0.1 v0.length x_v0.2) (by decide) (Pu.qo (p_move rfl)) ?_
    refine Lin.q (v := .int .i64 (Q6)) (by decide) (Pu.qo (p_move rfl)) ?_
    obtain ⟨h15, H1⟩ := gd.of H1
    refine Lin.q (v := elp x_v0.1 (Q6.toNat * Enc.sz Int + 0)) (by decide) (q_ixg (l := v0) (E := fun i => Flat.enc (nth v0 i)) (oa := x_v0.1) Try.underlying31 ty3 rfl rfl h15 rfl (EntB.flat (Ent.b Ent.z))) ?_
    refine Lin.q (v := .int .i64 (nth v0 Q6.toNat)) (by decide) (q_lde (l := v0) (E := fun i => Flat.enc (nth v0 i)) (oa := x_v0.1) (i := Q6.toNat) (j := 0) ty3 rfl (EntB.flat (Ent.b Ent.z)) h15.lt rfl) ?_
    refine Lin.q (v := .slice x_v1.1 v1.length x_v1.2) (by decide) (Pu.qo (p_move rfl)) ?_
    refine Lin.q (v := .int .i64 (Q6)) (by decide) (Pu.qo (p_move rfl)) ?_
    obtain ⟨h16, H1⟩ := gd.of H1
    refine Lin.q (v := elp x_v1.1 (Q6.toNat * Enc.sz Int + 0)) (by decide) (q_ixg (l := v1) (E := fun i => Flat.enc (nth v1 i)) (oa := x_v1.1) Try.underlying31 ty3 rfl rfl h16 rfl (EntB.flat (Ent.b Ent.z.s))) ?_
    refine Lin.q (v := .int .i64 (nth v1 Q6.toNat)) (by decide) (q_lde (l := v1) (E := fun i => Flat.enc (nth v1 i)) (oa := x_v1.1) (i := Q6.toNat) (j := 0) ty3 rfl (EntB.flat (Ent.b Ent.z.s)) h16.lt rfl) ?_
    refine Lin.q (v := .bool (!decide ((nth v0 Q6.toNat) = (nth v1 Q6.toNat)))) (by decide) (Pu.qo (p_neq rfl rfl)) ?_
    show At _ _ _ _ _ _
    refine nT (?_)
    refine Tr.cond (b := !decide ((nth v0 Q6.toNat) = (nth v1 Q6.toNat))) rfl (fun h17 => ?_) (fun h17 => ?_)
    ·have H1 := cdT h17 H1
     refine Tr.seq (Tr.region ?_)
     refine Rg.q (v := .bool (false)) (Pu.qo (p_assign rfl)) (by decide) (Rg.nl (nT ?_))
     refine tRet ?_
     refine rB (rT (rT (rB (rT (rT (?_))))))
     have hx := hb11 _ (Option.some.inj H1).symm; subst hx
     replace H := sw.r H
     have hr := Option.some.inj H; subst hr
     exact back1 () rfl (ResV.tmp (v := .bool (false)) rfl) rfl Ents.nil Take.nil
    ·have H1 := cdF h17 H1
     refine tSkip ?_
     refine nB (nT (?_))
     refine Tr.region ?_
     obtain ⟨h18, H1⟩ := gd.of H1
     refine Rg.q (v := .int .i64 (Q6 + 1)) (Pu.qo (p_add rfl rfl h18)) (by decide) ?_
     refine Rg.q (v := .int .i64 (Q6 + 1)) (Pu.qo (p_move rfl)) (by decide) (Rg.nl ?_)
     exact nLC ⟨(m13, Q6 + 1, ()), hi10 _ (Option.some.inj H1).symm⟩ (Nat.lt_succ_self _) ⟨rfl, rfl, rfl, rfl, trivial⟩ Ents.refl Take.nil
   ·have H1 := cdF h14 H1
    refine tExit (xT (xT (xE (?_))))
    exact nMC ⟨((), ()), (hb11 _ (Option.some.inj H1).symm).symm⟩ trivial Ents.refl Take.nil
  ·rintro ⟨⟨e19, y8⟩, hx⟩; subst hx; replace H := sw.l H
   show At _ _ [] _ [] _
   refine nT (?_)
   refine Tr.seq (Tr.region ?_)
   refine Rg.q (v := .bool (true)) (Pu.qo (p_assign rfl)) (by decide) (Rg.nl (nT ?_))
   refine tRet ?_
   have hr := Option.some.inj H; subst hr
   exact back1 () rfl (ResV.tmp (v := .bool (true)) rfl) rfl Ents.nil Take.nil
noncomputable def p_impl_IndexOk_1 (v0 : Post) (v1 : Post) : Option (Bool) := bd (cond (decide (v0.1 = v1.1)) (bd (p_slices_Equal_int_int v0.2 v1.2) fun r6 => some (r6)) (some (false))) fun b3 => some b3
theorem c_impl_IndexOk_1 {r : Bool} (v0 : Post) (x_v0 : (Unit × Unit) × (Option Addr × Nat)) (v1 : Post) (x_v1 : (Unit × Unit) × (Option Addr × Nat)) (H : p_impl_IndexOk_1 v0 v1 = some r) : Fn' Try.prog 66 #[.agg #[.string (v0.1.1), .string (v0.1.2), .slice x_v0.2.1 v0.2.length x_v0.2.2], .agg #[.string (v1.1.1), .string (v1.1.2), .slice x_v1.2.1 v1.2.length x_v1.2.2]] [imm (.slice x_v0.2.1 v0.2.length x_v0.2.2) v0.2, imm (.slice x_v1.2.1 v1.2.length x_v1.2.2) v1.2] [] (ι := Unit) (fun _ => .bool (r)) (fun _ => []) (fun _ => []) := by
 refine calls_of (args := [_, _]) Try.func66 rfl (by kernel_rfl) Try.ntmps66 (by simp) fun c => ?_
 unfold p_impl_IndexOk_1 at H
 refine Tr.seq (Tr.region ?_)
 refine Rg.ed (e_box (t := 33) (v := .agg #[.string (v0.1.1), .string (v0.1.2), .slice x_v0.2.1 v0.2.length x_v0.2.2]) rfl) rfl (by decide) ?_
 rintro _ _ _ ⟨g1, rfl, rfl, rfl⟩
 refine Rg.ed (e_box (t := 33) (v := .agg #[.string (v1.1.1), .string (v1.1.2), .slice x_v1.2.1 v1.2.length x_v1.2.2]) rfl) rfl (by decide) ?_
 rintro _ _ _ ⟨g2, rfl, rfl, rfl⟩
 refine Rg.q (v := .bool (false)) (Pu.qo (p_assign rfl)) (by decide) (Rg.nl (nT ?_))
 obtain ⟨b3, j4, H⟩ := bd.of H
 refine tMid1 [(4, .bool (b3))] ?_ ?_
 ·refine tLinT [(3, .pointer (some ⟨g2, 0, none⟩)), (2, .pointer (some ⟨g1, 0, none⟩))] ⟨rfl, rfl, trivial⟩ ?_
  refine Lin.q (v := .pointer (some ⟨g1, 0, none⟩)) (by decide) (Pu.qo (p_fabE fa33_0 rfl rfl)) ?_
  refine Lin.q (v := .agg #[.string (v0.1.1), .string (v0.1.2)]) (by decide) (q_ldbP [.string (v0.1.1), .string (v0.1.2)] ty30 rfl Has.here.there rfl rfl) ?_
  refine Lin.q (v := .pointer (some ⟨g2, 0, none⟩)) (by decide) (Pu.qo (p_fabE fa33_0 rfl rfl)) ?_
  refine Lin.q (v := .agg #[.string (v1.1.1), .string (v1.1.2)]) (by decide) (q_ldbP [.string (v1.1.1), .string (v1.1.2)] ty30 rfl Has.here rfl rfl) ?_
  refine Lin.q (v := .bool (decide (v0.1 = v1.1))) (by decide) (Pu.qo (p_aeql (a := v0.1) (b := v1.1) ae30 rfl rfl rfl rfl)) ?_
  rcases Bool.eq_false_or_eq_true (decide (v0.1 = v1.1)) with h5 | h5
  ·have j4 := cdT h5 j4
   refine Lin.q (v := .bool (true)) (by decide) (Qo.eqv (v := .bool (decide (v0.1 = v1.1))) (Pu.qo (p_move rfl)) (congrArg Value.bool h5)) ?_
   refine Lin.g (v := .pointer (some ⟨g1, 2, none⟩)) (by decide) rfl (Pu.qo (p_fabE fa33_1 rfl rfl)) ?_
   refine Lin.g (v := .slice x_v0.2.1 v0.2.length x_v0.2.2) (by decide) rfl (q_ldb ty31 rfl Has.here.there rfl) ?_
   refine Lin.g (v := .pointer (some ⟨g2, 2, none⟩)) (by decide) rfl (Pu.qo (p_fabE fa33_1 rfl rfl)) ?_
   refine Lin.g (v := .slice x_v1.2.1 v1.2.length x_v1.2.2) (by decide) rfl (q_ldb ty31 rfl Has.here rfl) ?_
   obtain ⟨r6, h7, j4⟩ := bd.of j4
   refine Lin.g (v := .bool (r6)) (by decide) rfl (q_call (vs := [.slice x_v0.2.1 v0.2.length x_v0.2.2, .slice x_v1.2.1 v1.2.length x_v1.2.2]) (c_slices_Equal_int_int v0.2 x_v0.2 v1.2 x_v1.2 h7) rfl (EntsB.cons (Ent.b Ent.z) (EntsB.cons (Ent.b Ent.z.s) EntsB.nil))) ?_
   refine Lin.q (v := .bool (r6)) (by decide) (Pu.qo (p_pickT rfl rfl)) ?_
   refine Lin.q (v := .bool (r6)) (by decide) (Pu.qo (p_assign rfl)) ?_
   have j4 := Option.some.inj j4; subst j4
   show At _ _ _ _ _ _
   exact n1 ⟨rfl, trivial⟩
  ·have j4 := cdF h5 j4
   refine Lin.q (v := .bool (false)) (by decide) (Qo.eqv (v := .bool (decide (v0.1 = v1.1))) (Pu.qo (p_move rfl)) (congrArg Value.bool h5)) ?_
   refine Lin.skip (by decide) rfl ?_
   refine Lin.skip (by decide) rfl ?_
   refine Lin.skip (by decide) rfl ?_
   refine Lin.skip (by decide) rfl ?_
   refine Lin.skip (by decide) rfl ?_
   refine Lin.q (v := .bool (false)) (by decide) (Pu.qo (p_pickF rfl rfl)) ?_
   refine Lin.q (v := .bool (false)) (by decide) (Pu.qo (p_assign rfl)) ?_
   have j4 := Option.some.inj j4; subst j4
   show At _ _ _ _ _ _
   exact n1 ⟨rfl, trivial⟩
 refine tRet ?_
 have hr := Option.some.inj H; subst hr
 exact back1 () rfl (ResV.tmp (v := .bool (b3)) rfl) rfl Ents.nil Take.nil
noncomputable def p_slices_EqualFunc_Post_Post_Post_Post_IndexOk_1_b0 (v0 : (List Post)) (v1 : (List Post)) (Q8 : Int) : Option ((Int) ⊕ (Unit ⊕ Bool)) := cond (decide (Q8 < (v0.length : Int))) (gd (ix Q8 v0.length) <| gd (ix Q8 v1.length) <| bd (p_impl_IndexOk_1 (nth v0 Q8.toNat) (nth v1 Q8.toNat)) fun r21 => cond (!r21) (some (.inr (.inr false))) (gd (I64 (Q8 + 1)) <| some (.inl (Q8 + 1)))) (some (.inr (.inl ())))
noncomputable def p_slices_EqualFunc_Post_Post_Post_Post_IndexOk_1 (v0 : (List Post)) (v1 : (List Post)) : Option (Bool) := cond (!decide ((v0.length : Int) = (v1.length : Int))) (some false) (bd (lp (p_slices_EqualFunc_Post_Post_Post_Post_IndexOk_1_b0 v0 v1) 0) <| sw (fun _ => some true) (fun q => some q))
theorem c_slices_EqualFunc_Post_Post_Post_Post_IndexOk_1 {r : Bool} (v0 : (List Post)) (x_v0 : Option Addr × Nat) (v1 : (List Post)) (x_v1 : Option Addr × Nat) (H : p_slices_EqualFunc_Post_Post_Post_Post_IndexOk_1 v0 v1 = some r) : Fn' Try.prog 64 #[.slice x_v0.1 v0.length x_v0.2, .slice x_v1.1 v1.length x_v1.2, .func (.func 66) #[] #[]] [imm (.slice x_v0.1 v0.length x_v0.2) v0, imm (.slice x_v1.1 v1.length x_v1.2) v1] [] (ι := Unit) (fun _ => .bool (r)) (fun _ => []) (fun _ => []) := by
 refine calls_of (args := [_, _, _]) Try.func64 rfl (by kernel_rfl) Try.ntmps64 (by simp) fun c => ?_
 unfold p_slices_EqualFunc_Post_Post_Post_Post_IndexOk_1 at H
 refine Tr.openD Ent.z fun X1 => ?_
 refine Tr.openD Ent.z.s.s fun X2 => ?_
 refine Tr.seq (Tr.region ?_)
 refine Rg.q (v := .bool (false)) (Pu.qo (p_assign rfl)) (by decide) (Rg.nl (nT ?_))
 refine Tr.seq (Tr.seq (Tr.region ?_))
 refine Rg.q (v := .slice x_v0.1 v0.length x_v0.2) (Pu.qo (p_move rfl)) (by decide) ?_
 refine Rg.q (v := .int .i64 ((v0.length : Int))) (Pu.qo (p_len 33 Try.underlying24 rfl)) (by decide) ?_
 refine Rg.q (v := .slice x_v1.1 v1.length x_v1.2) (Pu.qo (p_move rfl)) (by decide) ?_
 refine Rg.q (v := .int .i64 ((v1.length : Int))) (Pu.qo (p_len 33 Try.underlying24 rfl)) (by decide) ?_
 refine Rg.q (v := .bool (!decide ((v0.length : Int) = (v1.length : Int)))) (Pu.qo (p_neq rfl rfl)) (by decide) (Rg.nl (nT ?_))
 refine Tr.cond (b := !decide ((v0.length : Int) = (v1.length : Int))) rfl (fun h3 => ?_) (fun h3 => ?_)
 ·have H := cdT h3 H
  refine Tr.seq (Tr.region ?_)
  refine Rg.q (v := .bool (false)) (Pu.qo (p_assign rfl)) (by decide) (Rg.nl (nT ?_))
  refine tRet ?_
  refine rT (?_)
  have hr := Option.some.inj H; subst hr
  exact back1 () rfl (ResV.tmp (v := .bool (false)) rfl) rfl Ents.nil Take.nil
 ·have H := cdF h3 H
  refine tSkip ?_
  refine nT (?_)
  refine Tr.seq (Tr.seq (Tr.region ?_))
  refine Rg.q (v := .slice x_v0.1 v0.length x_v0.2) (Pu.qo (p_move rfl)) (by decide) ?_
  refine Rg.q (v := .int .i64 ((v0.length : Int))) (Pu.qo (p_len 33 Try.underlying24 rfl)) (by decide) ?_
  refine Rg.q (v := .int .i64 (0)) (Pu.qo (p_move rfl)) (by decide) (Rg.nl (nT ?_))
  obtain ⟨x4, hx5, H⟩ := bd.of H
  obtain ⟨n6, hx5⟩ := lp.of hx5
  refine tMidNC (ι := { q : (Unit) × Unit // x4 = .inl q.1 }) (fun ψ => []) (fun ψ => []) ?_ ?_
  ·refine Tr.block ?_
   refine tLoopC (ι := { q : Nat × (Int) × Unit // itr (p_slices_EqualFunc_Post_Post_Post_Post_IndexOk_1_b0 v0 v1) q.1 q.2.1 = some x4 }) (fun ζ => [(1, .slice x_v1.1 v1.length x_v1.2), (2, .func (.func 66) #[] #[]), (15, .slice x_v0.1 v0.length x_v0.2), (16, .int .i64 ((v0.length : Int))), (17, .int .i64 (ζ.1.2.1))]) (fun ζ => []) (fun ζ => ζ.1.1) ⟨(n6, 0, ()), hx5⟩ ⟨rfl, rfl, rfl, rfl, rfl, trivial⟩ Take.nil ?_
   rintro ⟨⟨m7, Q8, z9⟩, hk14⟩
   obtain ⟨m15, t11, e, H1, hi12, hb13⟩ := itr.of (n := m7) (s := Q8) hk14
   subst e; unfold p_slices_EqualFunc_Post_Post_Post_Post_IndexOk_1_b0 at H1
   show Tr _ _ _ _ _ [(1, .slice x_v1.1 v1.length x_v1.2), (2, .func (.func 66) #[] #[]), (15, .slice x_v0.1 v0.length x_v0.2), (16, .int .i64 ((v0.length : Int))), (17, .int .i64 (Q8))] _ []
   refine Tr.seq (Tr.region ?_)
   refine Rg.q (v := .bool (decide (Q8 < (v0.length : Int)))) (Pu.qo (p_lss rfl rfl)) (by decide) (Rg.nl (nT ?_))
   refine Tr.seq ?_
   refine Tr.cond (b := decide (Q8 < (v0.length : Int))) rfl (fun h16 => ?_) (fun h16 => ?_)
   ·have H1 := cdT h16 H1
    refine tSkip ?_
    refine nT (Tr.seq ?_)
    refine Tr.block ?_
    refine Tr.seq (Tr.region ?_)
    refine Rg.q (v := .int .i64 (Q8)) (Pu.qo (p_move rfl)) (by decide) ?_
    obtain ⟨h17, H1⟩ := gd.of H1
    refine Rg.q (v := elp x_v0.1 (Q8.toNat * Enc.sz Post + 0)) (q_ixg (l := v0) (E := fun i => Dp.denc (nth v0 i) (X1 i)) (oa := x_v0.1) Try.underlying24 ty33 rfl rfl h17 rfl (Ent.b (Ent.darr Ent.z.s))) (by decide) ?_
    refine Rg.q (v := .agg #[.string (((nth v0 Q8.toNat).1).1), .string (((nth v0 Q8.toNat).1).2), .slice (((X1 Q8.toNat).2).1) (((nth v0 Q8.toNat).2).length) (((X1 Q8.toNat).2).2.1)]) (q_ldeA (l := v0) (E := fun i => Dp.denc (nth v0 i) (X1 i)) (oa := x_v0.1) (i := Q8.toNat) ty33 rfl (Ent.b (Ent.darr Ent.z.s)) h17.lt) (by decide) ?_
    refine Rg.ed (e_alloc ty33) rfl (by decide) ?_
    rintro _ _ _ ⟨g18, rfl, rfl, rfl⟩
    refine Rg.q (v := .int .i64 (Q8)) (Pu.qo (p_assign rfl)) (by decide) ?_
    refine Rg.en (e_store (v := .agg #[.string (((nth v0 Q8.toNat).1).1), .string (((nth v0 Q8.toNat).1).2), .slice (((X1 Q8.toNat).2).1) (((nth v0 Q8.toNat).2).length) (((X1 Q8.toNat).2).2.1)]) (cs' := [.string (((nth v0 Q8.toNat).1).1), .string (((nth v0 Q8.toNat).1).2), .slice (((X1 Q8.toNat).2).1) (((nth v0 Q8.toNat).2).length) (((X1 Q8.toNat).2).2.1)]) ty33 rfl rfl Upd.here rfl (by simp [Value.cells, Value.oneCell']) (Nat.le_of_ble_eq_true rfl) rfl) rfl ?_
    rintro _ _ _ ⟨rfl, rfl, rfl⟩
    refine Rg.nl (nT ?_)
    refine Tr.seq (Tr.region ?_)
    refine Rg.q (v := .slice x_v1.1 v1.length x_v1.2) (Pu.qo (p_move rfl)) (by decide) ?_
    refine Rg.q (v := .int .i64 (Q8)) (Pu.qo (p_move rfl)) (by decide) ?_
    obtain ⟨h19, H1⟩ := gd.of H1
    refine Rg.q (v := elp x_v1.1 (Q8.toNat * Enc.sz Post + 0)) (q_ixg (l := v1) (E := fun i => Dp.denc (nth v1 i) (X2 i)) (oa := x_v1.1) Try.underlying24 ty33 rfl rfl h19 rfl (Ent.b (Ent.darr Ent.z))) (by decide) ?_
    refine Rg.q (v := .agg #[.string (((nth v1 Q8.toNat).1).1), .string (((nth v1 Q8.toNat).1).2), .slice (((X2 Q8.toNat).2).1) (((nth v1 Q8.toNat).2).length) (((X2 Q8.toNat).2).2.1)]) (q_ldeA (l := v1) (E := fun i => Dp.denc (nth v1 i) (X2 i)) (oa := x_v1.1) (i := Q8.toNat) ty33 rfl (Ent.b (Ent.darr Ent.z)) h19.lt) (by decide) ?_
    refine Rg.ed (e_alloc ty33) rfl (by decide) ?_
    rintro _ _ _ ⟨g20, rfl, rfl, rfl⟩
    refine Rg.en (e_store (v := .agg #[.string (((nth v1 Q8.toNat).1).1), .string (((nth v1 Q8.toNat).1).2), .slice (((X2 Q8.toNat).2).1) (((nth v1 Q8.toNat).2).length) (((X2 Q8.toNat).2).2.1)]) (cs' := [.string (((nth v1 Q8.toNat).1).1), .string (((nth v1 Q8.toNat).1).2), .slice (((X2 Q8.toNat).2).1) (((nth v1 Q8.toNat).2).length) (((X2 Q8.toNat).2).2.1)]) ty33 rfl rfl Upd.here rfl (by simp [Value.cells, Value.oneCell']) (Nat.le_of_ble_eq_true rfl) rfl) rfl ?_
    rintro _ _ _ ⟨rfl, rfl, rfl⟩
    refine Rg.nl (nT ?_)
    refine Tr.seq (Tr.region ?_)
    refine Rg.q (v := .func (.func 66) #[] #[]) (Pu.qo (p_move rfl)) (by decide) ?_
    refine Rg.q (v := .agg #[.string (((nth v0 Q8.toNat).1).1), .string (((nth v0 Q8.toNat).1).2), .slice (((X1 Q8.toNat).2).1) (((nth v0 Q8.toNat).2).length) (((X1 Q8.toNat).2).2.1)]) (q_ldbA ty33 rfl Has.here.there rfl) (by decide) ?_
    refine Rg.q (v := .agg #[.string (((nth v1 Q8.toNat).1).1), .string (((nth v1 Q8.toNat).1).2), .slice (((X2 Q8.toNat).2).1) (((nth v1 Q8.toNat).2).length) (((X2 Q8.toNat).2).2.1)]) (q_ldbA ty33 rfl Has.here rfl) (by decide) ?_
    obtain ⟨r21, h22, H1⟩ := bd.of H1
    refine Rg.q (v := .bool (r21)) (Ex.dyn (caps := []) (vs := [.agg #[.string (((nth v0 Q8.toNat).1).1), .string (((nth v0 Q8.toNat).1).2), .slice (((X1 Q8.toNat).2).1) (((nth v0 Q8.toNat).2).length) (((X1 Q8.toNat).2).2.1)], .agg #[.string (((nth v1 Q8.toNat).1).1), .string (((nth v1 Q8.toNat).1).2), .slice (((X2 Q8.toNat).2).1) (((nth v1 Q8.toNat).2).length) (((X2 Q8.toNat).2).2.1)]]) rfl rfl (q_call (vs := [.agg #[.string (((nth v0 Q8.toNat).1).1), .string (((nth v0 Q8.toNat).1).2), .slice (((X1 Q8.toNat).2).1) (((nth v0 Q8.toNat).2).length) (((X1 Q8.toNat).2).2.1)], .agg #[.string (((nth v1 Q8.toNat).1).1), .string (((nth v1 Q8.toNat).1).2), .slice (((X2 Q8.toNat).2).1) (((nth v1 Q8.toNat).2).length) (((X2 Q8.toNat).2).2.1)]]) (c_impl_IndexOk_1 (nth v0 Q8.toNat) (((), ()), (((X1 Q8.toNat).2).1, ((X1 Q8.toNat).2).2.1)) (nth v1 Q8.toNat) (((), ()), (((X2 Q8.toNat).2).1, ((X2 Q8.toNat).2).2.1)) h22) rfl (EntsB.cons (Ent.b (Ent.dimm (Ent.dsnd (Ent.del Ent.z.s h17.lt)))) (EntsB.cons (Ent.b (Ent.dimm (Ent.dsnd (Ent.del Ent.z h19.lt)))) EntsB.nil)))) (by decide) ?_
    refine Rg.q (v := .bool (!r21)) (Pu.qo (p_not rfl)) (by decide) (Rg.nl (nT ?_))
    refine Tr.cond (b := !r21) rfl (fun h23 => ?_) (fun h23 => ?_)
    ·have H1 := cdT h23 H1
     refine Tr.seq (Tr.region ?_)
     refine Rg.q (v := .bool (false)) (Pu.qo (p_assign rfl)) (by decide) (Rg.nl (nT ?_))
     refine tRet ?_
     refine rB (rT (rT (rB (rT (rT (?_))))))
     have hx := hb13 _ (Option.some.inj H1).symm; subst hx
     replace H := sw.r H
     have hr := Option.some.inj H; subst hr
     exact back1 () rfl (ResV.tmp (v := .bool (false)) rfl) rfl Ents.nil Take.nil
    ·have H1 := cdF h23 H1
     refine tSkip ?_
     refine nB (nT (?_))
     refine Tr.region ?_
     obtain ⟨h24, H1⟩ := gd.of H1
     refine Rg.q (v := .int .i64 (Q8 + 1)) (Pu.qo (p_add rfl rfl h24)) (by decide) ?_
     refine Rg.q (v := .int .i64 (Q8 + 1)) (Pu.qo (p_move rfl)) (by decide) (Rg.nl ?_)
     exact nLC ⟨(m15, Q8 + 1, ()), hi12 _ (Option.some.inj H1).symm⟩ (Nat.lt_succ_self _) ⟨rfl, rfl, rfl, rfl, rfl, trivial⟩ Ents.refl Take.nil
   ·have H1 := cdF h16 H1
    refine tExit (xT (xT (xE (?_))))
    exact nMC ⟨((), ()), (hb13 _ (Option.some.inj H1).symm).symm⟩ trivial Ents.refl Take.nil
  ·rintro ⟨⟨e25, y10⟩, hx⟩; subst hx; replace H := sw.l H
   show At _ _ [] _ [] _
   refine nT (?_)
   refine Tr.seq (Tr.region ?_)
   refine Rg.q (v := .bool (true)) (Pu.qo (p_assign rfl)) (by decide) (Rg.nl (nT ?_))
   refine tRet ?_
   have hr := Option.some.inj H; subst hr
   exact back1 () rfl (ResV.tmp (v := .bool (true)) rfl) rfl Ents.nil Take.nil
noncomputable def p_impl_IndexOk (v0 : Index) : Option (Bool) := bd (p_impl_namesOk v0.1) fun r4 => cond (r4) (bd (p_impl_indexOf v0.1) fun r7 => bd (p_slices_EqualFunc_Post_Post_Post_Post_IndexOk_1 v0.2 r7.2) fun r10 => some r10) (some false)
theorem c_impl_IndexOk {r : Bool} (v0 : Index) (x_v0 : (Option Addr × Nat) × (Option Addr × Nat)) (H : p_impl_IndexOk v0 = some r) : Fn' Try.prog 18 #[.agg #[.slice x_v0.1.1 v0.1.length x_v0.1.2, .slice x_v0.2.1 v0.2.length x_v0.2.2]] [imm (.slice x_v0.1.1 v0.1.length x_v0.1.2) v0.1, imm (.slice x_v0.2.1 v0.2.length x_v0.2.2) v0.2] [] (ι := Unit) (fun _ => .bool (r)) (fun _ => []) (fun _ => []) := by
 refine calls_of (args := [_]) Try.func18 rfl (by kernel_rfl) Try.ntmps18 (by simp) fun c => ?_
 unfold p_impl_IndexOk at H
 refine Tr.openD Ent.z fun X1 => ?_
 refine Tr.openD Ent.z.s.s fun X2 => ?_
 refine Tr.seq (Tr.region ?_)
 refine Rg.ed (e_box (t := 26) (v := .agg #[.slice x_v0.1.1 v0.1.length x_v0.1.2, .slice x_v0.2.1 v0.2.length x_v0.2.2]) rfl) rfl (by decide) ?_
 rintro _ _ _ ⟨g3, rfl, rfl, rfl⟩
 refine Rg.q (v := .bool (false)) (Pu.qo (p_assign rfl)) (by decide) (Rg.nl (nT ?_))
 refine Tr.seq ?_
 obtain ⟨r4, h5, H⟩ := bd.of H
 rcases Bool.eq_false_or_eq_true (r4) with h6 | h6
 ·have H := cdT h6 H
  refine tNwS [(1, .pointer (some ⟨g3, 0, none⟩))] 2 [0, 1, 2, 3, 4, 5, 6, 7, 8, 9, 10, 11, 12] [8] [] Try.mixed (by kernel_rfl) (by decide) List.nodup_nil ⟨rfl, trivial⟩ rfl okNil ?_
  refine w_pu (v := .pointer (some ⟨g3, 0, none⟩)) rfl (by decide) rfl rfl rfl (p_fabE fa26_0 rfl rfl) ?_
  refine w_q (v := .slice x_v0.1.1 v0.1.length x_v0.1.2) rfl (by decide) rfl rfl rfl (fun F => (q_ldb ty23 rfl (Has.here.app F) rfl)) ?_
  refine w_q (v := .bool (r4)) rfl (by decide) rfl rfl rfl (fun F => (q_call (vs := [.slice x_v0.1.1 v0.1.length x_v0.1.2]) (c_impl_namesOk v0.1 x_v0.1 h5) rfl (EntsB.cons (Ent.b (Ent.dimm Ent.z.s)) EntsB.nil))) ?_
  refine w_pu (v := .bool (true)) rfl (by decide) rfl rfl rfl ((Pu.eqv (v := .bool (r4)) (p_move rfl) (congrArg Value.bool h6))) ?_
  refine w_pu (v := .pointer (some ⟨g3, 1, none⟩)) rfl (by decide) rfl rfl rfl (p_fabE fa26_1 rfl rfl) ?_
  refine w_q (v := .slice x_v0.2.1 v0.2.length x_v0.2.2) rfl (by decide) rfl rfl rfl (fun F => (q_ldb ty24 rfl (Has.here.app F) rfl)) ?_
  refine w_pu (v := .pointer (some ⟨g3, 0, none⟩)) rfl (by decide) rfl rfl rfl (p_fabE fa26_0 rfl rfl) ?_
  refine w_q (v := .slice x_v0.1.1 v0.1.length x_v0.1.2) rfl (by decide) rfl rfl rfl (fun F => (q_ldb ty23 rfl (Has.here.app F) rfl)) ?_
  obtain ⟨r7, h8, H⟩ := bd.of H
  refine w_ed rfl (by decide) rfl Rdy.nil rfl (n_callB (vs := [.slice x_v0.1.1 v0.1.length x_v0.1.2]) (c_impl_indexOf v0.1 x_v0.1 h8) (fun _ => (Solo.tree (Solo.tree Solo.nil))) rfl (EntsB.cons (Ent.b (Ent.dimm Ent.z.s)) EntsB.nil)) ?_
  rintro _ _ _ ⟨x9, rfl, rfl, rfl⟩
  refine ⟨(PdOk.anc (by kernel_rfl) (PdOk.q rfl rfl (fun F => (q_ldb ty24 rfl (Has.here.there.there.app F) rfl)) (PdOk.anc (by kernel_rfl) (PdOk.q rfl rfl (fun F => (q_ldb ty23 rfl (Has.here.there.there.app F) rfl)) PdOk.nil)))), ?_⟩
  refine w_pu (v := .slice x9.2.1 r7.2.length x9.2.2) rfl (by decide) rfl rfl rfl ((p_field1 Try.underlying26 rfl ty24 rfl rfl)) ?_
  obtain ⟨r10, h11, H⟩ := bd.of H
  refine w_q (v := .bool (r10)) rfl (by decide) rfl rfl rfl (fun F => (q_call (vs := [.slice x_v0.2.1 v0.2.length x_v0.2.2, .slice x9.2.1 r7.2.length x9.2.2, .func (.func 66) #[] #[]]) (c_slices_EqualFunc_Post_Post_Post_Post_IndexOk_1 v0.2 x_v0.2 r7.2 x9.2 h11) rfl (EntsB.cons (Ent.b (Ent.dimm Ent.z)) (EntsB.cons (EntB.tree (Has.here.there.app F)) EntsB.nil)))) ?_
  refine w_pu (v := .bool (r10)) rfl (by decide) rfl rfl rfl (p_pickT rfl rfl) ?_
  refine w_pu (v := .bool (r10)) rfl (by decide) rfl rfl rfl (p_assign rfl) ?_
  refine w_nil ?_
  show At _ _ _ _ _ _
  refine nT (?_)
  refine tRet ?_
  have hr := Option.some.inj H; subst hr
  exact back1 () rfl (ResV.tmp (v := .bool (r10)) rfl) rfl Ents.nil Take.nil
 ·have H := cdF h6 H
  refine tNwS [(1, .pointer (some ⟨g3, 0, none⟩))] 1 [0, 1, 2, 3, 4, 5, 6, 7, 8, 9, 10, 11, 12] [] [] Try.mixed (by kernel_rfl) (by decide) List.nodup_nil ⟨rfl, trivial⟩ rfl okNil ?_
  refine w_pu (v := .pointer (some ⟨g3, 0, none⟩)) rfl (by decide) rfl rfl rfl (p_fabE fa26_0 rfl rfl) ?_
  refine w_q (v := .slice x_v0.1.1 v0.1.length x_v0.1.2) rfl (by decide) rfl rfl rfl (fun F => (q_ldb ty23 rfl (Has.here.app F) rfl)) ?_
  refine w_q (v := .bool (r4)) rfl (by decide) rfl rfl rfl (fun F => (q_call (vs := [.slice x_v0.1.1 v0.1.length x_v0.1.2]) (c_impl_namesOk v0.1 x_v0.1 h5) rfl (EntsB.cons (Ent.b (Ent.dimm Ent.z.s)) EntsB.nil))) ?_
  refine w_pu (v := .bool (false)) rfl (by decide) rfl rfl rfl ((Pu.eqv (v := .bool (r4)) (p_move rfl) (congrArg Value.bool h6))) ?_
  refine w_skip rfl (by decide) rfl rfl rfl ?_
  refine w_skip rfl (by decide) rfl rfl rfl ?_
  refine w_skip rfl (by decide) rfl rfl rfl ?_
  refine w_skip rfl (by decide) rfl rfl rfl ?_
  refine w_skip rfl (by decide) rfl rfl rfl ?_
  refine w_skip rfl (by decide) rfl rfl rfl ?_
  refine w_skip rfl (by decide) rfl rfl rfl ?_
  refine w_pu (v := .bool (false)) rfl (by decide) rfl rfl rfl (p_pickF rfl rfl) ?_
  refine w_pu (v := .bool (false)) rfl (by decide) rfl rfl rfl (p_assign rfl) ?_
  refine w_nil ?_
  show At _ _ _ _ _ _
  refine nT (?_)
  refine tRet ?_
  have hr := Option.some.inj H; subst hr
  exact back1 () rfl (ResV.tmp (v := .bool (false)) rfl) rfl Ents.nil Take.nil
noncomputable def p_laws_eqTag (v0 : Tag) (v1 : Tag) : Option (Bool) := cond (!decide (v0.1 = v1.1)) (some false) (cond (!decide (v0.2 = v1.2)) (some false) (some true))
theorem c_laws_eqTag {r : Bool} (v0 : Tag) (v1 : Tag) (H : p_laws_eqTag v0 v1 = some r) : Fn' Try.prog 92 #[.agg #[.string (v0.1), .string (v0.2)], .agg #[.string (v1.1), .string (v1.2)]] [] [] (ι := Unit) (fun _ => .bool (r)) (fun _ => []) (fun _ => []) := by
 refine calls_of (args := [_, _]) Try.func92 rfl (by kernel_rfl) Try.ntmps92 (by simp) fun c => ?_
 unfold p_laws_eqTag at H
 refine Tr.seq (Tr.region ?_)
 refine Rg.ed (e_box (t := 30) (v := .agg #[.string (v0.1), .string (v0.2)]) rfl) rfl (by decide) ?_
 rintro _ _ _ ⟨g1, rfl, rfl, rfl⟩
 refine Rg.ed (e_box (t := 30) (v := .agg #[.string (v1.1), .string (v1.2)]) rfl) rfl (by decide) ?_
 rintro _ _ _ ⟨g2, rfl, rfl, rfl⟩
 refine Rg.q (v := .bool (false)) (Pu.qo (p_assign rfl)) (by decide) (Rg.nl (nT ?_))
 refine Tr.seq (Tr.seq (Tr.region ?_))
 refine Rg.q (v := .pointer (some ⟨g1, 0, none⟩)) (Pu.qo (p_fabE fa30_0 rfl rfl)) (by decide) ?_
 refine Rg.q (v := .string (v0.1)) (q_ldb ty9 rfl Has.here.there rfl) (by decide) ?_
 refine Rg.q (v := .pointer (some ⟨g2, 0, none⟩)) (Pu.qo (p_fabE fa30_0 rfl rfl)) (by decide) ?_
 refine Rg.q (v := .string (v1.1)) (q_ldb ty9 rfl Has.here rfl) (by decide) ?_
 refine Rg.q (v := .bool (!decide (v0.1 = v1.1))) (Pu.qo (p_sneq rfl rfl)) (by decide) (Rg.nl (nT ?_))
 refine Tr.cond (b := !decide (v0.1 = v1.1)) rfl (fun h3 => ?_) (fun h3 => ?_)
 ·have H := cdT h3 H
  refine Tr.seq (Tr.region ?_)
  refine Rg.q (v := .bool (false)) (Pu.qo (p_assign rfl)) (by decide) (Rg.nl (nT ?_))
  refine tRet ?_
  refine rT (?_)
  have hr := Option.some.inj H; subst hr
  exact back1 () rfl (ResV.tmp (v := .bool (false)) rfl) rfl Ents.nil Take.nil
 ·have H := cdF h3 H
  refine tSkip ?_
  refine nT (?_)
  refine Tr.seq (Tr.seq (Tr.region ?_))
  refine Rg.q (v := .pointer (some ⟨g1, 1, none⟩)) (Pu.qo (p_fabE fa30_1 rfl rfl)) (by decide) ?_
  refine Rg.q (v := .string (v0.2)) (q_ldb ty9 rfl Has.here.there rfl) (by decide) ?_
  refine Rg.q (v := .pointer (some ⟨g2, 1, none⟩)) (Pu.qo (p_fabE fa30_1 rfl rfl)) (by decide) ?_
  refine Rg.q (v := .string (v1.2)) (q_ldb ty9 rfl Has.here rfl) (by decide) ?_
  refine Rg.q (v := .bool (!decide (v0.2 = v1.2))) (Pu.qo (p_sneq rfl rfl)) (by decide) (Rg.nl (nT ?_))
  refine Tr.cond (b := !decide (v0.2 = v1.2)) rfl (fun h4 => ?_) (fun h4 => ?_)
  ·have H := cdT h4 H
   refine Tr.seq (Tr.region ?_)
   refine Rg.q (v := .bool (false)) (Pu.qo (p_assign rfl)) (by decide) (Rg.nl (nT ?_))
   refine tRet ?_
   refine rT (?_)
   have hr := Option.some.inj H; subst hr
   exact back1 () rfl (ResV.tmp (v := .bool (false)) rfl) rfl Ents.nil Take.nil
  ·have H := cdF h4 H
   refine tSkip ?_
   refine nT (?_)
   refine Tr.seq (Tr.region ?_)
   refine Rg.q (v := .bool (true)) (Pu.qo (p_assign rfl)) (by decide) (Rg.nl (nT ?_))
   refine tRet ?_
   have hr := Option.some.inj H; subst hr
   exact back1 () rfl (ResV.tmp (v := .bool (true)) rfl) rfl Ents.nil Take.nil
noncomputable def p_laws_eqTagS_b0 (v0 : (List Tag)) (v1 : (List Tag)) (Q6 : Int) : Option ((Int) ⊕ (Unit ⊕ Bool)) := cond (decide (Q6 < (v0.length : Int))) (gd (ix Q6 v0.length) <| gd (ix Q6 v1.length) <| bd (p_laws_eqTag (nth v0 Q6.toNat) (nth v1 Q6.toNat)) fun r17 => cond (!r17) (some (.inr (.inr false))) (gd (I64 (Q6 + 1)) <| some (.inl (Q6 + 1)))) (some (.inr (.inl ())))
noncomputable def p_laws_eqTagS (v0 : (List Tag)) (v1 : (List Tag)) : Option (Bool) := cond (!decide ((v0.length : Int) = (v1.length : Int))) (some false) (bd (lp (p_laws_eqTagS_b0 v0 v1) 0) <| sw (fun _ => some true) (fun q => some q))
theorem c_laws_eqTagS {r : Bool} (v0 : (List Tag)) (x_v0 : Option Addr × Nat) (v1 : (List Tag)) (x_v1 : Option Addr × Nat) (H : p_laws_eqTagS v0 v1 = some r) : Fn' Try.prog 47 #[.slice x_v0.1 v0.length x_v0.2, .slice x_v1.1 v1.length x_v1.2] [imm (.slice x_v0.1 v0.length x_v0.2) v0, imm (.slice x_v1.1 v1.length x_v1.2) v1] [] (ι := Unit) (fun _ => .bool (r)) (fun _ => []) (fun _ => []) := by
 refine calls_of (args := [_, _]) Try.func47 rfl (by kernel_rfl) Try.ntmps47 (by simp) fun c => ?_
 unfold p_laws_eqTagS at H
 refine Tr.seq (Tr.region ?_)
 refine Rg.q (v := .bool (false)) (Pu.qo (p_assign rfl)) (by decide) (Rg.nl (nT ?_))
 refine Tr.seq (Tr.seq (Tr.region ?_))
 refine Rg.q (v := .slice x_v0.1 v0.length x_v0.2) (Pu.qo (p_move rfl)) (by decide) ?_
 refine Rg.q (v := .int .i64 ((v0.length : Int))) (Pu.qo (p_len 30 Try.underlying38 rfl)) (by decide) ?_
 refine Rg.q (v := .slice x_v1.1 v1.length x_v1.2) (Pu.qo (p_move rfl)) (by decide) ?_
 refine Rg.q (v := .int .i64 ((v1.length : Int))) (Pu.qo (p_len 30 Try.underlying38 rfl)) (by decide) ?_
 refine Rg.q (v := .bool (!decide ((v0.length : Int) = (v1.length : Int)))) (Pu.qo (p_neq rfl rfl)) (by decide) (Rg.nl (nT ?_))
 refine Tr.cond (b := !decide ((v0.length : Int) = (v1.length : Int))) rfl (fun h1 => ?_) (fun h1 => ?_)
 ·have H := cdT h1 H
  refine Tr.seq (Tr.region ?_)
  refine Rg.q (v := .bool (false)) (Pu.qo (p_assign rfl)) (by decide) (Rg.nl (nT ?_))
  refine tRet ?_
  refine rT (?_)
  have hr := Option.some.inj H; subst hr
  exact back1 () rfl (ResV.tmp (v := .bool (false)) rfl) rfl Ents.nil Take.nil
 ·have H := cdF h1 H
  refine tSkip ?_
  refine nT (?_)
  refine Tr.seq (Tr.seq (Tr.region ?_))
  refine Rg.q (v := .int .i64 (0)) (Pu.qo (p_assign rfl)) (by decide) (Rg.nl (nT ?_))
  obtain ⟨x2, hx3, H⟩ := bd.of H
  obtain ⟨n4, hx3⟩ := lp.of hx3
  refine tMidNC (ι := { q : (Unit) × Unit // x2 = .inl q.1 }) (fun ψ => []) (fun ψ => []) ?_ ?_
  ·refine Tr.block ?_
   refine tLoopC (ι := { q : Nat × (Int) × Unit // itr (p_laws_eqTagS_b0 v0 v1) q.1 q.2.1 = some x2 }) (fun ζ => [(0, .slice x_v0.1 v0.length x_v0.2), (1, .slice x_v1.1 v1.length x_v1.2), (5, .int .i64 (ζ.1.2.1))]) (fun ζ => []) (fun ζ => ζ.1.1) ⟨(n4, 0, ()), hx3⟩ ⟨rfl, rfl, rfl, trivial⟩ Take.nil ?_
   rintro ⟨⟨m5, Q6, z7⟩, hk12⟩
   obtain ⟨m13, t9, e, H1, hi10, hb11⟩ := itr.of (n := m5) (s := Q6) hk12
   subst e; unfold p_laws_eqTagS_b0 at H1
   show Tr _ _ _ _ _ [(0, .slice x_v0.1 v0.length x_v0.2), (1, .slice x_v1.1 v1.length x_v1.2), (5, .int .i64 (Q6))] _ []
   refine Tr.seq (Tr.seq (Tr.region ?_))
   refine Rg.q (v := .int .i64 (Q6)) (Pu.qo (p_move rfl)) (by decide) ?_
   refine Rg.q (v := .slice x_v0.1 v0.length x_v0.2) (Pu.qo (p_move rfl)) (by decide) ?_
   refine Rg.q (v := .int .i64 ((v0.length : Int))) (Pu.qo (p_len 30 Try.underlying38 rfl)) (by decide) ?_
   refine Rg.q (v := .bool (decide (Q6 < (v0.length : Int)))) (Pu.qo (p_lss rfl rfl)) (by decide) (Rg.nl (nT ?_))
   refine Tr.cond (b := decide (Q6 < (v0.length : Int))) rfl (fun h14 => ?_) (fun h14 => ?_)
   ·have H1 := cdT h14 H1
    refine tSkip ?_
    refine nT (Tr.seq ?_)
    refine Tr.block ?_
    refine Tr.seq ?_
    refine tLinS [(0, .slice x_v0.1 v0.length x_v0.2), (1, .slice x_v1.1 v1.length x_v1.2), (5, .int .i64 (Q6))] Try.mixed (.inr (by kernel_rfl)) ⟨rfl, rfl, rfl, trivial⟩ rfl ?_
    refine Lin.q (v := .slice x_v0.1 v0.length x_v0.2) (by decide) (Pu.qo (p_move rfl)) ?_
    refine Lin.q (v := .int .i64 (Q6)) (by decide) (Pu.qo (p_move rfl)) ?_
    obtain ⟨h15, H1⟩ := gd.of H1
    refine Lin.q (v := elp x_v0.1 (Q6.toNat * Enc.sz Tag + 0)) (by decide) (q_ixg (l := v0) (E := fun i => Flat.enc (nth v0 i)) (oa := x_v0.1) Try.underlying38 ty30 rfl rfl h15 rfl (EntB.flat (Ent.b Ent.z))) ?_
    refine Lin.q (v := .agg #[.string ((nth v0 Q6.toNat).1), .string ((nth v0 Q6.toNat).2)]) (by decide) (q_ldeA (l := v0) (E := fun i => Flat.enc (nth v0 i)) (oa := x_v0.1) (i := Q6.toNat) ty30 rfl (EntB.flat (Ent.b Ent.z)) h15.lt) ?_
    refine Lin.q (v := .slice x_v1.1 v1.length x_v1.2) (by decide) (Pu.qo (p_move rfl)) ?_
    refine Lin.q (v := .int .i64 (Q6)) (by decide) (Pu.qo (p_move rfl)) ?_
    obtain ⟨h16, H1⟩ := gd.of H1
    refine Lin.q (v := elp x_v1.1 (Q6.toNat * Enc.sz Tag + 0)) (by decide) (q_ixg (l := v1) (E := fun i => Flat.enc (nth v1 i)) (oa := x_v1.1) Try.underlying38 ty30 rfl rfl h16 rfl (EntB.flat (Ent.b Ent.z.s))) ?_
    refine Lin.q (v := .agg #[.string ((nth v1 Q6.toNat).1), .string ((nth v1 Q6.toNat).2)]) (by decide) (q_ldeA (l := v1) (E := fun i => Flat.enc (nth v1 i)) (oa := x_v1.1) (i := Q6.toNat) ty30 rfl (EntB.flat (Ent.b Ent.z.s)) h16.lt) ?_
    obtain ⟨r17, h18, H1⟩ := bd.of H1
    refine Lin.q (v := .bool (r17)) (by decide) (q_call (vs := [.agg #[.string ((nth v0 Q6.toNat).1), .string ((nth v0 Q6.toNat).2)], .agg #[.string ((nth v1 Q6.toNat).1), .string ((nth v1 Q6.toNat).2)]]) (c_laws_eqTag (nth v0 Q6.toNat) (nth v1 Q6.toNat) h18) rfl EntsB.nil) ?_
    refine Lin.q (v := .bool (!r17)) (by decide) (Pu.qo (p_not rfl)) ?_
    show At _ _ _ _ _ _
    refine nT (?_)
    refine Tr.cond (b := !r17) rfl (fun h19 => ?_) (fun h19 => ?_)
    ·have H1 := cdT h19 H1
     refine Tr.seq (Tr.region ?_)
     refine Rg.q (v := .bool (false)) (Pu.qo (p_assign rfl)) (by decide) (Rg.nl (nT ?_))
     refine tRet ?_
     refine rB (rT (rT (rB (rT (rT (?_))))))
     have hx := hb11 _ (Option.some.inj H1).symm; subst hx
     replace H := sw.r H
     have hr := Option.some.inj H; subst hr
     exact back1 () rfl (ResV.tmp (v := .bool (false)) rfl) rfl Ents.nil Take.nil
    ·have H1 := cdF h19 H1
     refine tSkip ?_
     refine nB (nT (?_))
     refine Tr.region ?_
     refine Rg.q (v := .int .i64 (Q6)) (Pu.qo (p_move rfl)) (by decide) ?_
     obtain ⟨h20, H1⟩ := gd.of H1
     refine Rg.q (v := .int .i64 (Q6 + 1)) (Pu.qo (p_add rfl rfl h20)) (by decide) ?_
     refine Rg.q (v := .int .i64 (Q6 + 1)) (Pu.qo (p_assign rfl)) (by decide) (Rg.nl ?_)
     exact nLC ⟨(m13, Q6 + 1, ()), hi10 _ (Option.some.inj H1).symm⟩ (Nat.lt_succ_self _) ⟨rfl, rfl, rfl, trivial⟩ Ents.refl Take.nil
   ·have H1 := cdF h14 H1
    refine tExit (xT (xT (xE (?_))))
    exact nMC ⟨((), ()), (hb11 _ (Option.some.inj H1).symm).symm⟩ trivial Ents.refl Take.nil
  ·rintro ⟨⟨e21, y8⟩, hx⟩; subst hx; replace H := sw.l H
   show At _ _ [] _ [] _
   refine nT (?_)
   refine Tr.seq (Tr.region ?_)
   refine Rg.q (v := .bool (true)) (Pu.qo (p_assign rfl)) (by decide) (Rg.nl (nT ?_))
   refine tRet ?_
   have hr := Option.some.inj H; subst hr
   exact back1 () rfl (ResV.tmp (v := .bool (true)) rfl) rfl Ents.nil Take.nil
noncomputable def p_laws_eqTagSS_b0 (v0 : (List (List Tag))) (v1 : (List (List Tag))) (Q8 : Int) : Option ((Int) ⊕ (Unit ⊕ Bool)) := cond (decide (Q8 < (v0.length : Int))) (gd (ix Q8 v0.length) <| gd (ix Q8 v1.length) <| bd (p_laws_eqTagS (nth v0 Q8.toNat) (nth v1 Q8.toNat)) fun r19 => cond (!r19) (some (.inr (.inr false))) (gd (I64 (Q8 + 1)) <| some (.inl (Q8 + 1)))) (some (.inr (.inl ())))
noncomputable def p_laws_eqTagSS (v0 : (List (List Tag))) (v1 : (List (List Tag))) : Option (Bool) := cond (!decide ((v0.length : Int) = (v1.length : Int))) (some false) (bd (lp (p_laws_eqTagSS_b0 v0 v1) 0) <| sw (fun _ => some true) (fun q => some q))
theorem c_laws_eqTagSS {r : Bool} (v0 : (List (List Tag))) (x_v0 : Option Addr × Nat) (v1 : (List (List Tag))) (x_v1 : Option Addr × Nat) (H : p_laws_eqTagSS v0 v1 = some r) : Fn' Try.prog 84 #[.slice x_v0.1 v0.length x_v0.2, .slice x_v1.1 v1.length x_v1.2] [imm (.slice x_v0.1 v0.length x_v0.2) v0, imm (.slice x_v1.1 v1.length x_v1.2) v1] [] (ι := Unit) (fun _ => .bool (r)) (fun _ => []) (fun _ => []) := by
 refine calls_of (args := [_, _]) Try.func84 rfl (by kernel_rfl) Try.ntmps84 (by simp) fun c => ?_
 unfold p_laws_eqTagSS at H
 refine Tr.openD Ent.z fun X1 => ?_
 refine Tr.openD Ent.z.s.s fun X2 => ?_
 refine Tr.seq (Tr.region ?_)
 refine Rg.q (v := .bool (false)) (Pu.qo (p_assign rfl)) (by decide) (Rg.nl (nT ?_))
 refine Tr.seq (Tr.seq (Tr.region ?_))
 refine Rg.q (v := .slice x_v0.1 v0.length x_v0.2) (Pu.qo (p_move rfl)) (by decide) ?_
 refine Rg.q (v := .int .i64 ((v0.length : Int))) (Pu.qo (p_len 38 Try.underlying23 rfl)) (by decide) ?_
 refine Rg.q (v := .slice x_v1.1 v1.length x_v1.2) (Pu.qo (p_move rfl)) (by decide) ?_
 refine Rg.q (v := .int .i64 ((v1.length : Int))) (Pu.qo (p_len 38 Try.underlying23 rfl)) (by decide) ?_
 refine Rg.q (v := .bool (!decide ((v0.length : Int) = (v1.length : Int)))) (Pu.qo (p_neq rfl rfl)) (by decide) (Rg.nl (nT ?_))
 refine Tr.cond (b := !decide ((v0.length : Int) = (v1.length : Int))) rfl (fun h3 => ?_) (fun h3 => ?_)
 ·have H := cdT h3 H
  refine Tr.seq (Tr.region ?_)
  refine Rg.q (v := .bool (false)) (Pu.qo (p_assign rfl)) (by decide) (Rg.nl (nT ?_))
  refine tRet ?_
  refine rT (?_)
  have hr := Option.some.inj H; subst hr
  exact back1 () rfl (ResV.tmp (v := .bool (false)) rfl) rfl Ents.nil Take.nil
 ·have H := cdF h3 H
  refine tSkip ?_
  refine nT (?_)
  refine Tr.seq (Tr.seq (Tr.region ?_))
  refine Rg.q (v := .int .i64 (0)) (Pu.qo (p_assign rfl)) (by decide) (Rg.nl (nT ?_))
  obtain ⟨x4, hx5, H⟩ := bd.of H
  obtain ⟨n6, hx5⟩ := lp.of hx5
  refine tMidNC (ι := { q : (Unit) × Unit // x4 = .inl q.1 }) (fun ψ => []) (fun ψ => []) ?_ ?_
  ·refine Tr.block ?_
   refine tLoopC (ι := { q : Nat × (Int) × Unit // itr (p_laws_eqTagSS_b0 v0 v1) q.1 q.2.1 = some x4 }) (fun ζ => [(0, .slice x_v0.1 v0.length x_v0.2), (1, .slice x_v1.1 v1.length x_v1.2), (5, .int .i64 (ζ.1.2.1))]) (fun ζ => []) (fun ζ => ζ.1.1) ⟨(n6, 0, ()), hx5⟩ ⟨rfl, rfl, rfl, trivial⟩ Take.nil ?_
   rintro ⟨⟨m7, Q8, z9⟩, hk14⟩
   obtain ⟨m15, t11, e, H1, hi12, hb13⟩ := itr.of (n := m7) (s := Q8) hk14
   subst e; unfold p_laws_eqTagSS_b0 at H1
   show Tr _ _ _ _ _ [(0, .slice x_v0.1 v0.length x_v0.2), (1, .slice x_v1.1 v1.length x_v1.2), (5, .int .i64 (Q8))] _ []
   refine Tr.seq (Tr.seq (Tr.region ?_))
   refine Rg.q (v := .int .i64 (Q8)) (Pu.qo (p_move rfl)) (by decide) ?_
   refine Rg.q (v := .slice x_v0.1 v0.length x_v0.2) (Pu.qo (p_move rfl)) (by decide) ?_
   refine Rg.q (v := .int .i64 ((v0.length : Int))) (Pu.qo (p_len 38 Try.underlying23 rfl)) (by decide) ?_
   refine Rg.q (v := .bool (decide (Q8 < (v0.length : Int)))) (Pu.qo (p_lss rfl rfl)) (by decide) (Rg.nl (nT ?_))
   refine Tr.cond (b := decide (Q8 < (v0.length : Int))) rfl (fun h16 => ?_) (fun h16 => ?_)
   ·have H1 := cdT h16 H1
    refine tSkip ?_
    refine nT (Tr.seq ?_)
    refine Tr.block ?_
    refine Tr.seq ?_
    refine tLinS [(0, .slice x_v0.1 v0.length x_v0.2), (1, .slice x_v1.1 v1.length x_v1.2), (5, .int .i64 (Q8))] Try.mixed (.inr (by kernel_rfl)) ⟨rfl, rfl, rfl, trivial⟩ rfl ?_
    refine Lin.q (v := .slice x_v0.1 v0.length x_v0.2) (by decide) (Pu.qo (p_move rfl)) ?_
    refine Lin.q (v := .int .i64 (Q8)) (by decide) (Pu.qo (p_move rfl)) ?_
    obtain ⟨h17, H1⟩ := gd.of H1
    refine Lin.q (v := elp x_v0.1 (Q8.toNat * Enc.sz (List Tag) + 0)) (by decide) (q_ixg (l := v0) (E := fun i => Dp.denc (nth v0 i) (X1 i)) (oa := x_v0.1) Try.underlying23 ty38 rfl rfl h17 rfl (Ent.b (Ent.darr Ent.z.s))) ?_
    refine Lin.q (v := .slice ((X1 Q8.toNat).1) ((nth v0 Q8.toNat).length) ((X1 Q8.toNat).2.1)) (by decide) (q_lde (l := v0) (E := fun i => Dp.denc (nth v0 i) (X1 i)) (oa := x_v0.1) (i := Q8.toNat) (j := 0) ty38 rfl (Ent.b (Ent.darr Ent.z.s)) h17.lt rfl) ?_
    refine Lin.q (v := .slice x_v1.1 v1.length x_v1.2) (by decide) (Pu.qo (p_move rfl)) ?_
    refine Lin.q (v := .int .i64 (Q8)) (by decide) (Pu.qo (p_move rfl)) ?_
    obtain ⟨h18, H1⟩ := gd.of H1
    refine Lin.q (v := elp x_v1.1 (Q8.toNat * Enc.sz (List Tag) + 0)) (by decide) (q_ixg (l := v1) (E := fun i => Dp.denc (nth v1 i) (X2 i)) (oa := x_v1.1) Try.underlying23 ty38 rfl rfl h18 rfl (Ent.b (Ent.darr Ent.z))) ?_
    refine Lin.q (v := .slice ((X2 Q8.toNat).1) ((nth v1 Q8.toNat).length) ((X2 Q8.toNat).2.1)) (by decide) (q_lde (l := v1) (E := fun i => Dp.denc (nth v1 i) (X2 i)) (oa := x_v1.1) (i := Q8.toNat) (j := 0) ty38 rfl (Ent.b (Ent.darr Ent.z)) h18.lt rfl) ?_
    obtain ⟨r19, h20, H1⟩ := bd.of H1
    refine Lin.q (v := .bool (r19)) (by decide) (q_call (vs := [.slice ((X1 Q8.toNat).1) ((nth v0 Q8.toNat).length) ((X1 Q8.toNat).2.1), .slice ((X2 Q8.toNat).1) ((nth v1 Q8.toNat).length) ((X2 Q8.toNat).2.1)]) (c_laws_eqTagS (nth v0 Q8.toNat) ((X1 Q8.toNat).1, (X1 Q8.toNat).2.1) (nth v1 Q8.toNat) ((X2 Q8.toNat).1, (X2 Q8.toNat).2.1) h20) rfl (EntsB.cons (Ent.b (Ent.dimm (Ent.del Ent.z.s h17.lt))) (EntsB.cons (Ent.b (Ent.dimm (Ent.del Ent.z h18.lt))) EntsB.nil))) ?_
    refine Lin.q (v := .bool (!r19)) (by decide) (Pu.qo (p_not rfl)) ?_
    show At _ _ _ _ _ _
    refine nT (?_)
    refine Tr.cond (b := !r19) rfl (fun h21 => ?_) (fun h21 => ?_)
    ·have H1 := cdT h21 H1
     refine Tr.seq (Tr.region ?_)
     refine Rg.q (v := .bool (false)) (Pu.qo (p_assign rfl)) (by decide) (Rg.nl (nT ?_))
     refine tRet ?_
     refine rB (rT (rT (rB (rT (rT (?_))))))
     have hx := hb13 _ (Option.some.inj H1).symm; subst hx
     replace H := sw.r H
     have hr := Option.some.inj H; subst hr
     exact back1 () rfl (ResV.tmp (v := .bool (false)) rfl) rfl Ents.nil Take.nil
    ·have H1 := cdF h21 H1
     refine tSkip ?_
     refine nB (nT (?_))
     refine Tr.region ?_
     refine Rg.q (v := .int .i64 (Q8)) (Pu.qo (p_move rfl)) (by decide) ?_
     obtain ⟨h22, H1⟩ := gd.of H1
     refine Rg.q (v := .int .i64 (Q8 + 1)) (Pu.qo (p_add rfl rfl h22)) (by decide) ?_
     refine Rg.q (v := .int .i64 (Q8 + 1)) (Pu.qo (p_assign rfl)) (by decide) (Rg.nl ?_)
     exact nLC ⟨(m15, Q8 + 1, ()), hi12 _ (Option.some.inj H1).symm⟩ (Nat.lt_succ_self _) ⟨rfl, rfl, rfl, trivial⟩ Ents.refl Take.nil
   ·have H1 := cdF h16 H1
    refine tExit (xT (xT (xE (?_))))
    exact nMC ⟨((), ()), (hb13 _ (Option.some.inj H1).symm).symm⟩ trivial Ents.refl Take.nil
  ·rintro ⟨⟨e23, y10⟩, hx⟩; subst hx; replace H := sw.l H
   show At _ _ [] _ [] _
   refine nT (?_)
   refine Tr.seq (Tr.region ?_)
   refine Rg.q (v := .bool (true)) (Pu.qo (p_assign rfl)) (by decide) (Rg.nl (nT ?_))
   refine tRet ?_
   have hr := Option.some.inj H; subst hr
   exact back1 () rfl (ResV.tmp (v := .bool (true)) rfl) rfl Ents.nil Take.nil
noncomputable def p_laws_eqIntS_b0 (v0 : (List Int)) (v1 : (List Int)) (Q6 : Int) : Option ((Int) ⊕ (Unit ⊕ Bool)) := cond (decide (Q6 < (v0.length : Int))) (gd (ix Q6 v0.length) <| gd (ix Q6 v1.length) <| cond (!decide ((nth v0 Q6.toNat) = (nth v1 Q6.toNat))) (some (.inr (.inr false))) (gd (I64 (Q6 + 1)) <| some (.inl (Q6 + 1)))) (some (.inr (.inl ())))
noncomputable def p_laws_eqIntS (v0 : (List Int)) (v1 : (List Int)) : Option (Bool) := cond (!decide ((v0.length : Int) = (v1.length : Int))) (some false) (bd (lp (p_laws_eqIntS_b0 v0 v1) 0) <| sw (fun _ => some true) (fun q => some q))
theorem c_laws_eqIntS {r : Bool} (v0 : (List Int)) (x_v0 : Option Addr × Nat) (v1 : (List Int)) (x_v1 : Option Addr × Nat) (H : p_laws_eqIntS v0 v1 = some r) : Fn' Try.prog 41 #[.slice x_v0.1 v0.length x_v0.2, .slice x_v1.1 v1.length x_v1.2] [imm (.slice x_v0.1 v0.length x_v0.2) v0, imm (.slice x_v1.1 v1.length x_v1.2) v1] [] (ι := Unit) (fun _ => .bool (r)) (fun _ => []) (fun _ => []) := by
 refine calls_of (args := [_, _]) Try.func41 rfl (by kernel_rfl) Try.ntmps41 (by simp) fun c => ?_
 unfold p_laws_eqIntS at H
 refine Tr.seq (Tr.region ?_)
 refine Rg.q (v := .bool (false)) (Pu.qo (p_assign rfl)) (by decide) (Rg.nl (nT ?_))
 refine Tr.seq (Tr.seq (Tr.region ?_))
 refine Rg.q (v := .slice x_v0.1 v0.length x_v0.2) (Pu.qo (p_move rfl)) (by decide) ?_
 refine Rg.q (v := .int .i64 ((v0.length : Int))) (Pu.qo (p_len 3 Try.underlying31 rfl)) (by decide) ?_
 refine Rg.q (v := .slice x_v1.1 v1.length x_v1.2) (Pu.qo (p_move rfl)) (by decide) ?_
 refine Rg.q (v := .int .i64 ((v1.length : Int))) (Pu.qo (p_len 3 Try.underlying31 rfl)) (by decide) ?_
 refine Rg.q (v := .bool (!decide ((v0.length : Int) = (v1.length : Int)))) (Pu.qo (p_neq rfl rfl)) (by decide) (Rg.nl (nT ?_))
 refine Tr.cond (b := !decide ((v0.length : Int) = (v1.length : Int))) rfl (fun h1 => ?_) (fun h1 => ?_)
 ·have H := cdT h1 H
  refine Tr.seq (Tr.region ?_)
  refine Rg.q (v := .bool (false)) (Pu.qo (p_assign rfl)) (by decide) (Rg.nl (nT ?_))
  refine tRet ?_
  refine rT (?_)
  have hr := Option.some.inj H; subst hr
  exact back1 () rfl (ResV.tmp (v := .bool (false)) rfl) rfl Ents.nil Take.nil
 ·have H := cdF h1 H
  refine tSkip ?_
  refine nT (?_)
  refine Tr.seq (Tr.seq (Tr.region ?_))
  refine Rg.q (v := .int .i64 (0)) (Pu.qo (p_assign rfl)) (by decide) (Rg.nl (nT ?_))
  obtain ⟨x2, hx3, H⟩ := bd.of H
  obtain ⟨n4, hx3⟩ := lp.of hx3
  refine tMidNC (ι := { q : (Unit) × Unit // x2 = .inl q.1 }) (fun ψ => []) (fun ψ => []) ?_ ?_
  ·refine Tr.block ?_
   refine tLoopC (ι := { q : Nat × (Int) × Unit // itr (p_laws_eqIntS_b0 v0 v1) q.1 q.2.1 = some x2 }) (fun ζ => [(0, .slice x_v0.1 v0.length x_v0.2), (1, .slice x_v1.1 v1.length x_v1.2), (5, .int .i64 (ζ.1.2.1))]) (fun ζ => []) (fun ζ => ζ.1.1) ⟨(n4, 0, ()), hx3⟩ ⟨rfl, rfl, rfl, trivial⟩ Take.nil ?_
   rintro ⟨⟨m5, Q6, z7⟩, hk12⟩
   obtain ⟨m13, t9, e, H1, hi10, hb11⟩ := itr.of (n := m5) (s := Q6) hk12
   subst e; unfold p_laws_eqIntS_b0 at H1
   show Tr _ _ _ _ _ [(0, .slice x_v0.1 v0.length x_v0.2), (1, .slice x_v1.1 v1.length x_v1.2), (5, .int .i64 (Q6))] _ []
   refine Tr.seq (Tr.seq (Tr.region ?_))
   refine Rg.q (v := .int .i64 (Q6)) (Pu.qo (p_move rfl)) (by decide) ?_
   refine Rg.q (v := .slice x_v0.1 v0.length x_v0.2) (Pu.qo (p_move rfl)) (by decide) ?_
   refine Rg.q (v := .int .i64 ((v0.length : Int))) (Pu.qo (p_len 3 Try.underlying31 rfl)) (by decide) ?_
   refine Rg.q (v := .bool (decide (Q6 < (v0.length : Int)))) (Pu.qo (p_lss rfl rfl)) (by decide) (Rg.nl (nT ?_))
   refine Tr.cond (b := decide (Q6 < (v0.length : Int))) rfl (fun h14 => ?_) (fun h14 => ?_)
   ·have H1 := cdT h14 H1
    refine tSkip ?_
    refine nT (Tr.seq ?_)
    refine Tr.block ?_
    refine Tr.seq ?_
    refine tLinS [(0, .slice x_v0.1 v0.length x_v0.2), (1, .slice x_v1.1 v1.length x_v1.2), (5, .int .i64 (Q6))] Try.mixed (.inr (by kernel_rfl)) ⟨rfl, rfl, rfl, trivial⟩ rfl ?_
    refine Lin.q (v := .slice x_v0.1 v0.length x_v0.2) (by decide) (Pu.qo (p_move rfl)) ?_
    refine Lin.q (v := .int .i64 (Q6)) (by decide) (Pu.qo (p_move rfl)) ?_
    obtain ⟨h15, H1⟩ := gd.of H1
    refine Lin.q (v := elp x_v0.1 (Q6.toNat * Enc.sz Int + 0)) (by decide) (q_ixg (l := v0) (E := fun i => Flat.enc (nth v0 i)) (oa := x_v0.1) Try.underlying31 ty3 rfl rfl h15 rfl (EntB.flat (Ent.b Ent.z))) ?_
    refine Lin.q (v := .int .i64 (nth v0 Q6.toNat)) (by decide) (q_lde (l := v0) (E := fun i => Flat.enc (nth v0 i)) (oa := x_v0.1) (i := Q6.toNat) (j := 0) ty3 rfl (EntB.flat (Ent.b Ent.z)) h15.lt rfl) ?_
    refine Lin.q (v := .slice x_v1.1 v1.length x_v1.2) (by decide) (Pu.qo (p_move rfl)) ?_
    refine Lin.q (v := .int .i64 (Q6)) (by decide) (Pu.qo (p_move rfl)) ?_
    obtain ⟨h16, H1⟩ := gd.of H1
    refine Lin.q (v := elp x_v1.1 (Q6.toNat * Enc.sz Int + 0)) (by decide) (q_ixg (l := v1) (E := fun i => Flat.enc (nth v1 i)) (oa := x_v1.1) Try.underlying31 ty3 rfl rfl h16 rfl (EntB.flat (Ent.b Ent.z.s))) ?_
    refine Lin.q (v := .int .i64 (nth v1 Q6.toNat)) (by decide) (q_lde (l := v1) (E := fun i => Flat.enc (nth v1 i)) (oa := x_v1.1) (i := Q6.toNat) (j := 0) ty3 rfl (EntB.flat (Ent.b Ent.z.s)) h16.lt rfl) ?_
    refine Lin.q (v := .bool (!decide ((nth v0 Q6.toNat) = (nth v1 Q6.toNat)))) (by decide) (Pu.qo (p_neq rfl rfl)) ?_
    show At _ _ _ _ _ _
    refine nT (?_)
    refine Tr.cond (b := !decide ((nth v0 Q6.toNat) = (nth v1 Q6.toNat))) rfl (fun h17 => ?_) (fun h17 => ?_)
    ·have H1 := cdT h17 H1
     refine Tr.seq (Tr.region ?_)
     refine Rg.q (v := .bool (false)) (Pu.qo (p_assign rfl)) (by decide) (Rg.nl (nT ?_))
     refine tRet ?_
     refine rB (rT (rT (rB (rT (rT (?_))))))
     have hx := hb11 _ (Option.some.inj H1).symm; subst hx
     replace H := sw.r H
     have hr := Option.some.inj H; subst hr
     exact back1 () rfl (ResV.tmp (v := .bool (false)) rfl) rfl Ents.nil Take.nil
    ·have H1 := cdF h17 H1
     refine tSkip ?_
     refine nB (nT (?_))
     refine Tr.region ?_
     refine Rg.q (v := .int .i64 (Q6)) (Pu.qo (p_move rfl)) (by decide) ?_
     obtain ⟨h18, H1⟩ := gd.of H1
     refine Rg.q (v := .int .i64 (Q6 + 1)) (Pu.qo (p_add rfl rfl h18)) (by decide) ?_
     refine Rg.q (v := .int .i64 (Q6 + 1)) (Pu.qo (p_assign rfl)) (by decide) (Rg.nl ?_)
     exact nLC ⟨(m13, Q6 + 1, ()), hi10 _ (Option.some.inj H1).symm⟩ (Nat.lt_succ_self _) ⟨rfl, rfl, rfl, trivial⟩ Ents.refl Take.nil
   ·have H1 := cdF h14 H1
    refine tExit (xT (xT (xE (?_))))
    exact nMC ⟨((), ()), (hb11 _ (Option.some.inj H1).symm).symm⟩ trivial Ents.refl Take.nil
  ·rintro ⟨⟨e19, y8⟩, hx⟩; subst hx; replace H := sw.l H
   show At _ _ [] _ [] _
   refine nT (?_)
   refine Tr.seq (Tr.region ?_)
   refine Rg.q (v := .bool (true)) (Pu.qo (p_assign rfl)) (by decide) (Rg.nl (nT ?_))
   refine tRet ?_
   have hr := Option.some.inj H; subst hr
   exact back1 () rfl (ResV.tmp (v := .bool (true)) rfl) rfl Ents.nil Take.nil
noncomputable def p_laws_eqPost (v0 : Post) (v1 : Post) : Option (Bool) := bd (p_laws_eqTag v0.1 v1.1) fun r3 => cond (!r3) (some false) (bd (p_laws_eqIntS v0.2 v1.2) fun r6 => cond (!r6) (some false) (some true))
theorem c_laws_eqPost {r : Bool} (v0 : Post) (x_v0 : (Unit × Unit) × (Option Addr × Nat)) (v1 : Post) (x_v1 : (Unit × Unit) × (Option Addr × Nat)) (H : p_laws_eqPost v0 v1 = some r) : Fn' Try.prog 127 #[.agg #[.string (v0.1.1), .string (v0.1.2), .slice x_v0.2.1 v0.2.length x_v0.2.2], .agg #[.string (v1.1.1), .string (v1.1.2), .slice x_v1.2.1 v1.2.length x_v1.2.2]] [imm (.slice x_v0.2.1 v0.2.length x_v0.2.2) v0.2, imm (.slice x_v1.2.1 v1.2.length x_v1.2.2) v1.2] [] (ι := Unit) (fun _ => .bool (r)) (fun _ => []) (fun _ => []) := by
 refine calls_of (args := [_, _]) Try.func127 rfl (by kernel_rfl) Try.ntmps127 (by simp) fun c => ?_
 unfold p_laws_eqPost at H
 refine Tr.seq (Tr.region ?_)
 refine Rg.ed (e_box (t := 33) (v := .agg #[.string (v0.1.1), .string (v0.1.2), .slice x_v0.2.1 v0.2.length x_v0.2.2]) rfl) rfl (by decide) ?_
 rintro _ _ _ ⟨g1, rfl, rfl, rfl⟩
 refine Rg.ed (e_box (t := 33) (v := .agg #[.string (v1.1.1), .string (v1.1.2), .slice x_v1.2.1 v1.2.length x_v1.2.2]) rfl) rfl (by decide) ?_
 rintro _ _ _ ⟨g2, rfl, rfl, rfl⟩
 refine Rg.q (v := .bool (false)) (Pu.qo (p_assign rfl)) (by decide) (Rg.nl (nT ?_))
 refine Tr.seq (Tr.seq (Tr.region ?_))
 refine Rg.q (v := .pointer (some ⟨g1, 0, none⟩)) (Pu.qo (p_fabE fa33_0 rfl rfl)) (by decide) ?_
 refine Rg.q (v := .agg #[.string (v0.1.1), .string (v0.1.2)]) (q_ldbP [.string (v0.1.1), .string (v0.1.2)] ty30 rfl Has.here.there rfl rfl) (by decide) ?_
 refine Rg.q (v := .pointer (some ⟨g2, 0, none⟩)) (Pu.qo (p_fabE fa33_0 rfl rfl)) (by decide) ?_
 refine Rg.q (v := .agg #[.string (v1.1.1), .string (v1.1.2)]) (q_ldbP [.string (v1.1.1), .string (v1.1.2)] ty30 rfl Has.here rfl rfl) (by decide) ?_
 obtain ⟨r3, h4, H⟩ := bd.of H
 refine Rg.q (v := .bool (r3)) (q_call (vs := [.agg #[.string (v0.1.1), .string (v0.1.2)], .agg #[.string (v1.1.1), .string (v1.1.2)]]) (c_laws_eqTag v0.1 v1.1 h4) rfl EntsB.nil) (by decide) ?_
 refine Rg.q (v := .bool (!r3)) (Pu.qo (p_not rfl)) (by decide) (Rg.nl (nT ?_))
 refine Tr.cond (b := !r3) rfl (fun h5 => ?_) (fun h5 => ?_)
 ·have H := cdT h5 H
  refine Tr.seq (Tr.region ?_)
  refine Rg.q (v := .bool (false)) (Pu.qo (p_assign rfl)) (by decide) (Rg.nl (nT ?_))
  refine tRet ?_
  refine rT (?_)
  have hr := Option.some.inj H; subst hr
  exact back1 () rfl (ResV.tmp (v := .bool (false)) rfl) rfl Ents.nil Take.nil
 ·have H := cdF h5 H
  refine tSkip ?_
  refine nT (?_)
  refine Tr.seq (Tr.seq (Tr.region ?_))
  refine Rg.q (v := .pointer (some ⟨g1, 2, none⟩)) (Pu.qo (p_fabE fa33_1 rfl rfl)) (by decide) ?_
  refine Rg.q (v := .slice x_v0.2.1 v0.2.length x_v0.2.2) (q_ldb ty31 rfl Has.here.there rfl) (by decide) ?_
  refine Rg.q (v := .pointer (some ⟨g2, 2, none⟩)) (Pu.qo (p_fabE fa33_1 rfl rfl)) (by decide) ?_
  refine Rg.q (v := .slice x_v1.2.1 v1.2.length x_v1.2.2) (q_ldb ty31 rfl Has.here rfl) (by decide) ?_
  obtain ⟨r6, h7, H⟩ := bd.of H
  refine Rg.q (v := .bool (r6)) (q_call (vs := [.slice x_v0.2.1 v0.2.length x_v0.2.2, .slice x_v1.2.1 v1.2.length x_v1.2.2]) (c_laws_eqIntS v0.2 x_v0.2 v1.2 x_v1.2 h7) rfl (EntsB.cons (Ent.b Ent.z) (EntsB.cons (Ent.b Ent.z.s) EntsB.nil))) (by decide) ?_
  refine Rg.q (v := .bool (!r6)) (Pu.qo (p_not rfl)) (by decide) (Rg.nl (nT ?_))
  refine Tr.cond (b := !r6) rfl (fun h8 => ?_) (fun h8 => ?_)
  ·have H := cdT h8 H
   refine Tr.seq (Tr.region ?_)
   refine Rg.q (v := .bool (false)) (Pu.qo (p_assign rfl)) (by decide) (Rg.nl (nT ?_))
   refine tRet ?_
   refine rT (?_)
   have hr := Option.some.inj H; subst hr
   exact back1 () rfl (ResV.tmp (v := .bool (false)) rfl) rfl Ents.nil Take.nil
  ·have H := cdF h8 H
   refine tSkip ?_
   refine nT (?_)
   refine Tr.seq (Tr.region ?_)
   refine Rg.q (v := .bool (true)) (Pu.qo (p_assign rfl)) (by decide) (Rg.nl (nT ?_))
   refine tRet ?_
   have hr := Option.some.inj H; subst hr
   exact back1 () rfl (ResV.tmp (v := .bool (true)) rfl) rfl Ents.nil Take.nil
noncomputable def p_laws_eqPostS_b0 (v0 : (List Post)) (v1 : (List Post)) (Q8 : Int) : Option ((Int) ⊕ (Unit ⊕ Bool)) := cond (decide (Q8 < (v0.length : Int))) (gd (ix Q8 v0.length) <| gd (ix Q8 v1.length) <| bd (p_laws_eqPost (nth v0 Q8.toNat) (nth v1 Q8.toNat)) fun r19 => cond (!r19) (some (.inr (.inr false))) (gd (I64 (Q8 + 1)) <| some (.inl (Q8 + 1)))) (some (.inr (.inl ())))
noncomputable def p_laws_eqPostS (v0 : (List Post)) (v1 : (List Post)) : Option (Bool) := cond (!decide ((v0.length : Int) = (v1.length : Int))) (some false) (bd (lp (p_laws_eqPostS_b0 v0 v1) 0) <| sw (fun _ => some true) (fun q => some q))
theorem c_laws_eqPostS {r : Bool} (v0 : (List Post)) (x_v0 : Option Addr × Nat) (v1 : (List Post)) (x_v1 : Option Addr × Nat) (H : p_laws_eqPostS v0 v1 = some r) : Fn' Try.prog 85 #[.slice x_v0.1 v0.length x_v0.2, .slice x_v1.1 v1.length x_v1.2] [imm (.slice x_v0.1 v0.length x_v0.2) v0, imm (.slice x_v1.1 v1.length x_v1.2) v1] [] (ι := Unit) (fun _ => .bool (r)) (fun _ => []) (fun _ => []) := by
 refine calls_of (args := [_, _]) Try.func85 rfl (by kernel_rfl) Try.ntmps85 (by simp) fun c => ?_
 unfold p_laws_eqPostS at H
 refine Tr.openD Ent.z fun X1 => ?_
 refine Tr.openD Ent.z.s.s fun X2 => ?_
 refine Tr.seq (Tr.region ?_)
 refine Rg.q (v := .bool (false)) (Pu.qo (p_assign rfl)) (by decide) (Rg.nl (nT ?_))
 refine Tr.seq (Tr.seq (Tr.region ?_))
 refine Rg.q (v := .slice x_v0.1 v0.length x_v0.2) (Pu.qo (p_move rfl)) (by decide) ?_
 refine Rg.q (v := .int .i64 ((v0.length : Int))) (Pu.qo (p_len 33 Try.underlying24 rfl)) (by decide) ?_
 refine Rg.q (v := .slice x_v1.1 v1.length x_v1.2) (Pu.qo (p_move rfl)) (by decide) ?_
 refine Rg.q (v := .int .i64 ((v1.length : Int))) (Pu.qo (p_len 33 Try.underlying24 rfl)) (by decide) ?_
 refine Rg.q (v := .bool (!decide ((v0.length : Int) = (v1.length : Int)))) (Pu.qo (p_neq rfl rfl)) (by decide) (Rg.nl (nT ?_))
 refine Tr.cond (b := !decide ((v0.length : Int) = (v1.length : Int))) rfl (fun h3 => ?_) (fun h3 => ?_)
 ·have H := cdT h3 H
  refine Tr.seq (Tr.region ?_)
  refine Rg.q (v := .bool (false)) (Pu.qo (p_assign rfl)) (by decide) (Rg.nl (nT ?_))
  refine tRet ?_
  refine rT (?_)
  have hr := Option.some.inj H; subst hr
  exact back1 () rfl (ResV.tmp (v := .bool (false)) rfl) rfl Ents.nil Take.nil
 ·have H := cdF h3 H
  refine tSkip ?_
  refine nT (?_)
  refine Tr.seq (Tr.seq (Tr.region ?_))
  refine Rg.q (v := .int .i64 (0)) (Pu.qo (p_assign rfl)) (by decide) (Rg.nl (nT ?_))
  obtain ⟨x4, hx5, H⟩ := bd.of H
  obtain ⟨n6, hx5⟩ := lp.of hx5
  refine tMidNC (ι := { q : (Unit) × Unit // x4 = .inl q.1 }) (fun ψ => []) (fun ψ => []) ?_ ?_
  ·refine Tr.block ?_
   refine tLoopC (ι := { q : Nat × (Int) × Unit // itr (p_laws_eqPostS_b0 v0 v1) q.1 q.2.1 = some x4 }) (fun ζ => [(0, .slice x_v0.1 v0.length x_v0.2), (1, .slice x_v1.1 v1.length x_v1.2), (5, .int .i64 (ζ.1.2.1))]) (fun ζ => []) (fun ζ => ζ.1.1) ⟨(n6, 0, ()), hx5⟩ ⟨rfl, rfl, rfl, trivial⟩ Take.nil ?_
   rintro ⟨⟨m7, Q8, z9⟩, hk14⟩
   obtain ⟨m15, t11, e, H1, hi12, hb13⟩ := itr.of (n := m7) (s := Q8) hk14
   subst e; unfold p_laws_eqPostS_b0 at H1
   show Tr _ _ _ _ _ [(0, .slice x_v0.1 v0.length x_v0.2), (1, .slice x_v1.1 v1.length x_v1.2), (5, .int .i64 (Q8))] _ []
   refine Tr.seq (Tr.seq (Tr.region ?_))
   refine Rg.q (v := .int .i64 (Q8)) (Pu.qo (p_move rfl)) (by decide) ?_
   refine Rg.q (v := .slice x_v0.1 v0.length x_v0.2) (Pu.qo (p_move rfl)) (by decide) ?_
   refine Rg.q (v := .int .i64 ((v0.length : Int))) (Pu.qo (p_len 33 Try.underlying24 rfl)) (by decide) ?_
   refine Rg.q (v := .bool (decide (Q8 < (v0.length : Int)))) (Pu.qo (p_lss rfl rfl)) (by decide) (Rg.nl (nT ?_))
   refine Tr.cond (b := decide (Q8 < (v0.length : Int))) rfl (fun h16 => ?_) (fun h16 => ?_)
   ·have H1 := cdT h16 H1
    refine tSkip ?_
    refine nT (Tr.seq ?_)
    refine Tr.block ?_
    refine Tr.seq ?_
    refine tLinS [(0, .slice x_v0.1 v0.length x_v0.2), (1, .slice x_v1.1 v1.length x_v1.2), (5, .int .i64 (Q8))] Try.mixed (.inr (by kernel_rfl)) ⟨rfl, rfl, rfl, trivial⟩ rfl ?_
    refine Lin.q (v := .slice x_v0.1 v0.length x_v0.2) (by decide) (Pu.qo (p_move rfl)) ?_
    refine Lin.q (v := .int .i64 (Q8)) (by decide) (Pu.qo (p_move rfl)) ?_
    obtain ⟨h17, H1⟩ := gd.of H1
    refine Lin.q (v := elp x_v0.1 (Q8.toNat * Enc.sz Post + 0)) (by decide) (q_ixg (l := v0) (E := fun i => Dp.denc (nth v0 i) (X1 i)) (oa := x_v0.1) Try.underlying24 ty33 rfl rfl h17 rfl (Ent.b (Ent.darr Ent.z.s))) ?_
    refine Lin.q (v := .agg #[.string (((nth v0 Q8.toNat).1).1), .string (((nth v0 Q8.toNat).1).2), .slice (((X1 Q8.toNat).2).1) (((nth v0 Q8.toNat).2).length) (((X1 Q8.toNat).2).2.1)]) (by decide) (q_ldeA (l := v0) (E := fun i => Dp.denc (nth v0 i) (X1 i)) (oa := x_v0.1) (i := Q8.toNat) ty33 rfl (Ent.b (Ent.darr Ent.z.s)) h17.lt) ?_
    refine Lin.q (v := .slice x_v1.1 v1.length x_v1.2) (by decide) (Pu.qo (p_move rfl)) ?_
    refine Lin.q (v := .int .i64 (Q8)) (by decide) (Pu.qo (p_move rfl)) ?_
    obtain ⟨h18, H1⟩ := gd.of H1
    refine Lin.q (v := elp x_v1.1 (Q8.toNat * Enc.sz Post + 0)) (by decide) (q_ixg (l := v1) (E := fun i => Dp.denc (nth v1 i) (X2 i)) (oa := x_v1.1) Try.underlying24 ty33 rfl rfl h18 rfl (Ent.b (Ent.darr Ent.z))) ?_
    refine Lin.q (v := .agg #[.string (((nth v1 Q8.toNat).1).1), .string (((nth v1 Q8.toNat).1).2), .slice (((X2 Q8.toNat).2).1) (((nth v1 Q8.toNat).2).length) (((X2 Q8.toNat).2).2.1)]) (by decide) (q_ldeA (l := v1) (E := fun i => Dp.denc (nth v1 i) (X2 i)) (oa := x_v1.1) (i := Q8.toNat) ty33 rfl (Ent.b (Ent.darr Ent.z)) h18.lt) ?_
    obtain ⟨r19, h20, H1⟩ := bd.of H1
    refine Lin.q (v := .bool (r19)) (by decide) (q_call (vs := [.agg #[.string (((nth v0 Q8.toNat).1).1), .string (((nth v0 Q8.toNat).1).2), .slice (((X1 Q8.toNat).2).1) (((nth v0 Q8.toNat).2).length) (((X1 Q8.toNat).2).2.1)], .agg #[.string (((nth v1 Q8.toNat).1).1), .string (((nth v1 Q8.toNat).1).2), .slice (((X2 Q8.toNat).2).1) (((nth v1 Q8.toNat).2).length) (((X2 Q8.toNat).2).2.1)]]) (c_laws_eqPost (nth v0 Q8.toNat) (((), ()), (((X1 Q8.toNat).2).1, ((X1 Q8.toNat).2).2.1)) (nth v1 Q8.toNat) (((), ()), (((X2 Q8.toNat).2).1, ((X2 Q8.toNat).2).2.1)) h20) rfl (EntsB.cons (Ent.b (Ent.dimm (Ent.dsnd (Ent.del Ent.z.s h17.lt)))) (EntsB.cons (Ent.b (Ent.dimm (Ent.dsnd (Ent.del Ent.z h18.lt)))) EntsB.nil))) ?_
    refine Lin.q (v := .bool (!r19)) (by decide) (Pu.qo (p_not rfl)) ?_
    show At _ _ _ _ _ _
    refine nT (?_)
    refine Tr.cond (b := !r19) rfl (fun h21 => ?_) (fun h21 => ?_)
    ·have H1 := cdT h21 H1
     refine Tr.seq (Tr.region ?_)
     refine Rg.q (v := .bool (false)) (Pu.qo (p_assign rfl)) (by decide) (Rg.nl (nT ?_))
     refine tRet ?_
     refine rB (rT (rT (rB (rT (rT (?_))))))
     have hx := hb13 _ (Option.some.inj H1).symm; subst hx
     replace H := sw.r H
     have hr := Option.some.inj H; subst hr
     exact back1 () rfl (ResV.tmp (v := .bool (false)) rfl) rfl Ents.nil Take.nil
    ·have H1 := cdF h21 H1
     refine tSkip ?_
     refine nB (nT (?_))
     refine Tr.region ?_
     refine Rg.q (v := .int .i64 (Q8)) (Pu.qo (p_move rfl)) (by decide) ?_
     obtain ⟨h22, H1⟩ := gd.of H1
     refine Rg.q (v := .int .i64 (Q8 + 1)) (Pu.qo (p_add rfl rfl h22)) (by decide) ?_
     refine Rg.q (v := .int .i64 (Q8 + 1)) (Pu.qo (p_assign rfl)) (by decide) (Rg.nl ?_)
     exact nLC ⟨(m15, Q8 + 1, ()), hi12 _ (Option.some.inj H1).symm⟩ (Nat.lt_succ_self _) ⟨rfl, rfl, rfl, trivial⟩ Ents.refl Take.nil
   ·have H1 := cdF h16 H1
    refine tExit (xT (xT (xE (?_))))
    exact nMC ⟨((), ()), (hb13 _ (Option.some.inj H1).symm).symm⟩ trivial Ents.refl Take.nil
  ·rintro ⟨⟨e23, y10⟩, hx⟩; subst hx; replace H := sw.l H
   show At _ _ [] _ [] _
   refine nT (?_)
   refine Tr.seq (Tr.region ?_)
   refine Rg.q (v := .bool (true)) (Pu.qo (p_assign rfl)) (by decide) (Rg.nl (nT ?_))
   refine tRet ?_
   have hr := Option.some.inj H; subst hr
   exact back1 () rfl (ResV.tmp (v := .bool (true)) rfl) rfl Ents.nil Take.nil
noncomputable def p_laws_eqIndex (v0 : Index) (v1 : Index) : Option (Bool) := bd (p_laws_eqTagSS v0.1 v1.1) fun r7 => cond (!r7) (some false) (bd (p_laws_eqPostS v0.2 v1.2) fun r10 => cond (!r10) (some false) (some true))
theorem c_laws_eqIndex {r : Bool} (v0 : Index) (x_v0 : (Option Addr × Nat) × (Option Addr × Nat)) (v1 : Index) (x_v1 : (Option Addr × Nat) × (Option Addr × Nat)) (H : p_laws_eqIndex v0 v1 = some r) : Fn' Try.prog 32 #[.agg #[.slice x_v0.1.1 v0.1.length x_v0.1.2, .slice x_v0.2.1 v0.2.length x_v0.2.2], .agg #[.slice x_v1.1.1 v1.1.length x_v1.1.2, .slice x_v1.2.1 v1.2.length x_v1.2.2]] [imm (.slice x_v0.1.1 v0.1.length x_v0.1.2) v0.1, imm (.slice x_v0.2.1 v0.2.length x_v0.2.2) v0.2, imm (.slice x_v1.1.1 v1.1.length x_v1.1.2) v1.1, imm (.slice x_v1.2.1 v1.2.length x_v1.2.2) v1.2] [] (ι := Unit) (fun _ => .bool (r)) (fun _ => []) (fun _ => []) := by
 refine calls_of (args := [_, _]) Try.func32 rfl (by kernel_rfl) Try.ntmps32 (by simp) fun c => ?_
 unfold p_laws_eqIndex at H
 refine Tr.openD Ent.z fun X1 => ?_
 refine Tr.openD Ent.z.s.s fun X2 => ?_
 refine Tr.openD Ent.z.s.s.s.s fun X3 => ?_
 refine Tr.openD Ent.z.s.s.s.s.s.s fun X4 => ?_
 refine Tr.seq (Tr.region ?_)
 refine Rg.ed (e_box (t := 26) (v := .agg #[.slice x_v0.1.1 v0.1.length x_v0.1.2, .slice x_v0.2.1 v0.2.length x_v0.2.2]) rfl) rfl (by decide) ?_
 rintro _ _ _ ⟨g5, rfl, rfl, rfl⟩
 refine Rg.ed (e_box (t := 26) (v := .agg #[.slice x_v1.1.1 v1.1.length x_v1.1.2, .slice x_v1.2.1 v1.2.length x_v1.2.2]) rfl) rfl (by decide) ?_
 rintro _ _ _ ⟨g6, rfl, rfl, rfl⟩
 refine Rg.q (v := .bool (false)) (Pu.qo (p_assign rfl)) (by decide) (Rg.nl (nT ?_))
 refine Tr.seq (Tr.seq (Tr.region ?_))
 refine Rg.q (v := .pointer (some ⟨g5, 0, none⟩)) (Pu.qo (p_fabE fa26_0 rfl rfl)) (by decide) ?_
 refine Rg.q (v := .slice x_v0.1.1 v0.1.length x_v0.1.2) (q_ldb ty23 rfl Has.here.there rfl) (by decide) ?_
 refine Rg.q (v := .pointer (some ⟨g6, 0, none⟩)) (Pu.qo (p_fabE fa26_0 rfl rfl)) (by decide) ?_
 refine Rg.q (v := .slice x_v1.1.1 v1.1.length x_v1.1.2) (q_ldb ty23 rfl Has.here rfl) (by decide) ?_
 obtain ⟨r7, h8, H⟩ := bd.of H
 refine Rg.q (v := .bool (r7)) (q_call (vs := [.slice x_v0.1.1 v0.1.length x_v0.1.2, .slice x_v1.1.1 v1.1.length x_v1.1.2]) (c_laws_eqTagSS v0.1 x_v0.1 v1.1 x_v1.1 h8) rfl (EntsB.cons (Ent.b (Ent.dimm Ent.z.s.s.s)) (EntsB.cons (Ent.b (Ent.dimm Ent.z.s)) EntsB.nil))) (by decide) ?_
 refine Rg.q (v := .bool (!r7)) (Pu.qo (p_not rfl)) (by decide) (Rg.nl (nT ?_))
 refine Tr.cond (b := !r7) rfl (fun h9 => ?_) (fun h9 => ?_)
 ·have H := cdT h9 H
  refine Tr.seq (Tr.region ?_)
  refine Rg.q (v := .bool (false)) (Pu.qo (p_assign rfl)) (by decide) (Rg.nl (nT ?_))
  refine tRet ?_
  refine rT (?_)
  have hr := Option.some.inj H; subst hr
  exact back1 () rfl (ResV.tmp (v := .bool (false)) rfl) rfl Ents.nil Take.nil
 ·have H := cdF h9 H
  refine tSkip ?_
  refine nT (?_)
  refine Tr.seq (Tr.seq (Tr.region ?_))
  refine Rg.q (v := .pointer (some ⟨g5, 1, none⟩)) (Pu.qo (p_fabE fa26_1 rfl rfl)) (by decide) ?_
  refine Rg.q (v := .slice x_v0.2.1 v0.2.length x_v0.2.2) (q_ldb ty24 rfl Has.here.there rfl) (by decide) ?_
  refine Rg.q (v := .pointer (some ⟨g6, 1, none⟩)) (Pu.qo (p_fabE fa26_1 rfl rfl)) (by decide) ?_
  refine Rg.q (v := .slice x_v1.2.1 v1.2.length x_v1.2.2) (q_ldb ty24 rfl Has.here rfl) (by decide) ?_
  obtain ⟨r10, h11, H⟩ := bd.of H
  refine Rg.q (v := .bool (r10)) (q_call (vs := [.slice x_v0.2.1 v0.2.length x_v0.2.2, .slice x_v1.2.1 v1.2.length x_v1.2.2]) (c_laws_eqPostS v0.2 x_v0.2 v1.2 x_v1.2 h11) rfl (EntsB.cons (Ent.b (Ent.dimm Ent.z.s.s)) (EntsB.cons (Ent.b (Ent.dimm Ent.z)) EntsB.nil))) (by decide) ?_
  refine Rg.q (v := .bool (!r10)) (Pu.qo (p_not rfl)) (by decide) (Rg.nl (nT ?_))
  refine Tr.cond (b := !r10) rfl (fun h12 => ?_) (fun h12 => ?_)
  ·have H := cdT h12 H
   refine Tr.seq (Tr.region ?_)
   refine Rg.q (v := .bool (false)) (Pu.qo (p_assign rfl)) (by decide) (Rg.nl (nT ?_))
   refine tRet ?_
   refine rT (?_)
   have hr := Option.some.inj H; subst hr
   exact back1 () rfl (ResV.tmp (v := .bool (false)) rfl) rfl Ents.nil Take.nil
  ·have H := cdF h12 H
   refine tSkip ?_
   refine nT (?_)
   refine Tr.seq (Tr.region ?_)
   refine Rg.q (v := .bool (true)) (Pu.qo (p_assign rfl)) (by decide) (Rg.nl (nT ?_))
   refine tRet ?_
   have hr := Option.some.inj H; subst hr
   exact back1 () rfl (ResV.tmp (v := .bool (true)) rfl) rfl Ents.nil Take.nil
noncomputable def p_laws_markText_b0 (Q6 : Int × ByteArray) : Option ((Int × ByteArray) ⊕ (ByteArray)) := cond (decide (0 < Q6.1)) (gd (I64 (Q6.1.tmod 10)) <| gd (I64 (48 + (Q6.1.tmod 10))) <| gd (room ((s2 [b8 (48 + (Q6.1.tmod 10))]).size + Q6.2.size)) <| gd (I64 (Q6.1.tdiv 10)) <| some (.inl (Q6.1.tdiv 10, (s2 [b8 (48 + (Q6.1.tmod 10))]) ++ Q6.2))) (some (.inr Q6.2))
noncomputable def p_laws_markText (v0 : Int) : Option (ByteArray) := cond (decide (v0 ≤ 0)) (some (⟨#[109, 48]⟩ : ByteArray)) (bd (lp (p_laws_markText_b0) (v0, (⟨#[]⟩ : ByteArray))) fun x2 => gd (room ((⟨#[109]⟩ : ByteArray).size + x2.size)) <| some ((⟨#[109]⟩ : ByteArray) ++ x2))
theorem c_laws_markText {r : ByteArray} (v0 : Int) (H : p_laws_markText v0 = some r) : Fn' Try.prog 93 #[.int .i64 (v0)] [] [] (ι := Unit) (fun _ => .string (r)) (fun _ => []) (fun _ => []) := by
 refine calls_of (args := [_]) Try.func93 rfl (by kernel_rfl) Try.ntmps93 (by simp) fun c => ?_
 unfold p_laws_markText at H
 refine Tr.seq (Tr.region ?_)
 refine Rg.q (v := .string ((⟨#[]⟩ : ByteArray))) (Pu.qo (p_assign rfl)) (by decide) (Rg.nl (nT ?_))
 refine Tr.seq (Tr.seq (Tr.region ?_))
 refine Rg.q (v := .int .i64 (v0)) (Pu.qo (p_move rfl)) (by decide) ?_
 refine Rg.q (v := .bool (decide (v0 ≤ 0))) (Pu.qo (p_leq rfl rfl)) (by decide) (Rg.nl (nT ?_))
 refine Tr.cond (b := decide (v0 ≤ 0)) rfl (fun h1 => ?_) (fun h1 => ?_)
 ·have H := cdT h1 H
  refine Tr.seq (Tr.region ?_)
  refine Rg.q (v := .string ((⟨#[109, 48]⟩ : ByteArray))) (Pu.qo (p_assign rfl)) (by decide) (Rg.nl (nT ?_))
  refine tRet ?_
  refine rT (?_)
  have hr := Option.some.inj H; subst hr
  exact back1 () rfl (ResV.tmp (v := .string ((⟨#[109, 48]⟩ : ByteArray))) rfl) rfl Ents.nil Take.nil
 ·have H := cdF h1 H
  refine tSkip ?_
  refine nT (?_)
  refine Tr.seq (Tr.region ?_)
  refine Rg.q (v := .string ((⟨#[]⟩ : ByteArray))) (Pu.qo (p_assign rfl)) (by decide) (Rg.nl (nT ?_))
  obtain ⟨x2, hx3, H⟩ := bd.of H
  obtain ⟨n4, hx3⟩ := lp.of hx3
  refine tMidC (ι := Unit) (fun ψ => [(3, .string (x2))]) (fun ψ => []) ?_ ?_
  ·refine Tr.block ?_
   refine tLoopC (ι := { q : Nat × (Int × ByteArray) × Unit // itr (p_laws_markText_b0) q.1 q.2.1 = some x2 }) (fun ζ => [(0, .int .i64 (ζ.1.2.1.1)), (3, .string (ζ.1.2.1.2))]) (fun ζ => []) (fun ζ => ζ.1.1) ⟨(n4, (v0, (⟨#[]⟩ : ByteArray)), ()), hx3⟩ ⟨rfl, rfl, trivial⟩ Take.nil ?_
   rintro ⟨⟨m5, Q6, z7⟩, hk12⟩
   obtain ⟨m13, t9, e, H1, hi10, hb11⟩ := itr.of (n := m5) (s := Q6) hk12
   subst e; unfold p_laws_markText_b0 at H1
   show Tr _ _ _ _ _ [(0, .int .i64 (Q6.1)), (3, .string (Q6.2))] _ []
   refine Tr.seq (Tr.seq (Tr.region ?_))
   refine Rg.q (v := .int .i64 (Q6.1)) (Pu.qo (p_move rfl)) (by decide) ?_
   refine Rg.q (v := .bool (decide (0 < Q6.1))) (Pu.qo (p_gtr rfl rfl)) (by decide) (Rg.nl (nT ?_))
   refine Tr.cond (b := decide (0 < Q6.1)) rfl (fun h14 => ?_) (fun h14 => ?_)
   ·have H1 := cdT h14 H1
    refine tSkip ?_
    refine nT (?_)
    refine Tr.block ?_
    refine Tr.seq (Tr.region ?_)
    refine Rg.q (v := .int .i64 (Q6.1)) (Pu.qo (p_move rfl)) (by decide) ?_
    obtain ⟨h15, H1⟩ := gd.of H1
    refine Rg.q (v := .int .i64 (Q6.1.tmod 10)) (Pu.qo (p_rem rfl rfl (by decide) h15)) (by decide) ?_
    obtain ⟨h16, H1⟩ := gd.of H1
    refine Rg.q (v := .int .i64 (48 + (Q6.1.tmod 10))) (Pu.qo (p_add rfl rfl h16)) (by decide) ?_
    refine Rg.q (v := .int .u8 ((b8 (48 + (Q6.1.tmod 10))).toNat : Int)) (Pu.qo (p_b8 Try.underlying3 Try.underlying5 rfl)) (by decide) ?_
    refine Rg.ed (e_lit (vs := [(0, .int .u8 ((b8 (48 + (Q6.1.tmod 10))).toNat : Int))]) [.int .u8 ((b8 (48 + (Q6.1.tmod 10))).toNat : Int)] Try.underlying22 ty5 rfl (by decide) (by decide) (by kernel_rfl)) rfl (by decide) ?_
    rintro _ _ _ ⟨g17, rfl, rfl, rfl⟩
    refine Rg.q (v := .string (s2 [b8 (48 + (Q6.1.tmod 10))])) (q_b2sL [b8 (48 + (Q6.1.tmod 10))] Try.underlying22 Try.underlying5 Try.underlying9 rfl Has.here rfl) (by decide) ?_
    refine Rg.q (v := .string (Q6.2)) (Pu.qo (p_move rfl)) (by decide) ?_
    obtain ⟨h18, H1⟩ := gd.of H1
    refine Rg.q (v := .string ((s2 [b8 (48 + (Q6.1.tmod 10))]) ++ Q6.2)) (Pu.qo (p_cat rfl rfl h18)) (by decide) ?_
    refine Rg.q (v := .string ((s2 [b8 (48 + (Q6.1.tmod 10))]) ++ Q6.2)) (Pu.qo (p_assign rfl)) (by decide) (Rg.nl (nT ?_))
    refine Tr.region ?_
    refine Rg.q (v := .int .i64 (Q6.1)) (Pu.qo (p_move rfl)) (by decide) ?_
    obtain ⟨h19, H1⟩ := gd.of H1
    refine Rg.q (v := .int .i64 (Q6.1.tdiv 10)) (Pu.qo (p_quo rfl rfl (by decide) h19)) (by decide) ?_
    refine Rg.q (v := .int .i64 (Q6.1.tdiv 10)) (Pu.qo (p_assign rfl)) (by decide) (Rg.nl ?_)
    exact nB (nLC ⟨(m13, (Q6.1.tdiv 10, (s2 [b8 (48 + (Q6.1.tmod 10))]) ++ Q6.2), ()), hi10 _ (Option.some.inj H1).symm⟩ (Nat.lt_succ_self _) ⟨rfl, rfl, trivial⟩ Ents.refl Take.nil)
   ·have H1 := cdF h14 H1
    refine tExit (xT (xT (xE (?_))))
    have hx := hb11 _ (Option.some.inj H1).symm; subst hx
    exact nMC () ⟨rfl, trivial⟩ Ents.refl Take.nil
  ·intro y8
   show Tr _ _ _ _ _ [(3, .string (x2))] _ []
   refine Tr.seq (Tr.region ?_)
   refine Rg.q (v := .string (x2)) (Pu.qo (p_move rfl)) (by decide) ?_
   obtain ⟨h20, H⟩ := gd.of H
   refine Rg.q (v := .string ((⟨#[109]⟩ : ByteArray) ++ x2)) (Pu.qo (p_cat rfl rfl h20)) (by decide) ?_
   refine Rg.q (v := .string ((⟨#[109]⟩ : ByteArray) ++ x2)) (Pu.qo (p_assign rfl)) (by decide) (Rg.nl (nT ?_))
   refine tRet ?_
   have hr := Option.some.inj H; subst hr
   exact back1 () rfl (ResV.tmp (v := .string ((⟨#[109]⟩ : ByteArray) ++ x2)) rfl) rfl Ents.nil Take.nil
noncomputable def p_laws_markTagS_b0 (v0 : (List Tag)) (Q5 : (List Tag) × Int × Int) : Option (((List Tag) × Int × Int) ⊕ (Int × (List Tag))) := cond (decide (Q5.2.2 < (v0.length : Int))) (gd (ix Q5.2.2 Q5.1.length) <| bd (p_laws_markText Q5.2.1) fun r16 => gd (I64 (Q5.2.1 + 1)) <| bd (p_laws_markText (Q5.2.1 + 1)) fun r19 => gd (I64 ((Q5.2.1 + 1) + 1)) <| gd (I64 (Q5.2.2 + 1)) <| some (.inl ((Q5.1.set Q5.2.2.toNat (r16, r19)), (Q5.2.1 + 1) + 1, Q5.2.2 + 1))) (some (.inr (Q5.2.1, Q5.1)))
noncomputable def p_laws_markTagS (v0 : (List Tag)) (v1 : Int) : Option (Int × (List Tag)) := bd (lp (p_laws_markTagS_b0 v0) (v0, v1, 0)) fun x1 => some (x1.1, x1.2)
theorem c_laws_markTagS {r : Int × (List Tag)} (v0 : (List Tag)) (x_v0 : Option Addr × Nat) (n_v0 : Nat) (e_v0 : n_v0 = v0.length) (v1 : Int) (H : p_laws_markTagS v0 v1 = some r) : Fn' Try.prog 48 #[.slice x_v0.1 n_v0 x_v0.2, .int .i64 (v1)] [] [tree (.slice x_v0.1 n_v0 x_v0.2) v0] (ι := Unit) (fun _ => .int .i64 (r.1)) (fun _ => []) (fun _ => [tree (.slice x_v0.1 n_v0 x_v0.2) r.2]) := by
 subst e_v0
 refine calls_of (args := [_, _]) Try.func48 rfl (by kernel_rfl) Try.ntmps48 (by simp) fun c => ?_
 unfold p_laws_markTagS at H
 refine Tr.seq (Tr.region ?_)
 refine Rg.q (v := .int .i64 (0)) (Pu.qo (p_assign rfl)) (by decide) (Rg.nl (nT ?_))
 refine Tr.seq (Tr.seq (Tr.region ?_))
 refine Rg.q (v := .int .i64 (0)) (Pu.qo (p_assign rfl)) (by decide) (Rg.nl (nT ?_))
 obtain ⟨x1, hx2, H⟩ := bd.of H
 obtain ⟨n3, hx2⟩ := lp.of hx2
 refine tMidNC (ι := Unit) (fun ψ => [(1, .int .i64 (x1.1))]) (fun ψ => [tree (.slice x_v0.1 v0.length x_v0.2) x1.2]) ?_ ?_
 ·refine Tr.block ?_
  refine tLoopC (ι := { q : Nat × ((List Tag) × Int × Int) × Unit // itr (p_laws_markTagS_b0 v0) q.1 q.2.1 = some x1 }) (fun ζ => [(0, .slice x_v0.1 v0.length x_v0.2), (1, .int .i64 (ζ.1.2.1.2.1)), (5, .int .i64 (ζ.1.2.1.2.2))]) (fun ζ => [tree (.slice x_v0.1 v0.length x_v0.2) ζ.1.2.1.1]) (fun ζ => ζ.1.1) ⟨(n3, (v0, v1, 0), ()), hx2⟩ ⟨rfl, rfl, rfl, trivial⟩ (.cons Del.here .nil) ?_
  rintro ⟨⟨m4, Q5, z6⟩, hk11⟩
  obtain ⟨m12, t8, e, H1, hi9, hb10⟩ := itr.of (n := m4) (s := Q5) hk11
  subst e; unfold p_laws_markTagS_b0 at H1
  show Tr _ _ _ _ _ [(0, .slice x_v0.1 v0.length x_v0.2), (1, .int .i64 (Q5.2.1)), (5, .int .i64 (Q5.2.2))] _ [tree (.slice x_v0.1 v0.length x_v0.2) Q5.1]
  refine Tr.seq (Tr.seq (Tr.region ?_))
  refine Rg.q (v := .int .i64 (Q5.2.2)) (Pu.qo (p_move rfl)) (by decide) ?_
  refine Rg.q (v := .slice x_v0.1 v0.length x_v0.2) (Pu.qo (p_move rfl)) (by decide) ?_
  refine Rg.q (v := .int .i64 ((v0.length : Int))) (Pu.qo (p_len 30 Try.underlying38 rfl)) (by decide) ?_
  refine Rg.q (v := .bool (decide (Q5.2.2 < (v0.length : Int)))) (Pu.qo (p_lss rfl rfl)) (by decide) (Rg.nl (nT ?_))
  refine Tr.cond (b := decide (Q5.2.2 < (v0.length : Int))) rfl (fun h13 => ?_) (fun h13 => ?_)
  ·have H1 := cdT h13 H1
   refine tSkip ?_
   refine nT (Tr.seq ?_)
   refine Tr.block ?_
   refine Tr.seq ?_
   obtain ⟨h14, H1⟩ := gd.of H1
   refine Tr.zoom (k := Q5.2.2.toNat) h14.lt (.cons Del.here .nil) fun x15 => ?_
   show Tr _ _ _ _ _ _ _ (hole (.slice x_v0.1 v0.length x_v0.2) Q5.1 Q5.2.2.toNat [.string ((nth Q5.1 Q5.2.2.toNat).1), .string ((nth Q5.1 Q5.2.2.toNat).2)] :: _)
   refine Tr.region ?_
   refine Rg.q (v := .slice x_v0.1 v0.length x_v0.2) (Pu.qo (p_move rfl)) (by decide) ?_
   refine Rg.q (v := .int .i64 (Q5.2.2)) (Pu.qo (p_move rfl)) (by decide) ?_
   refine Rg.q (v := .int .i64 (Q5.2.1)) (Pu.qo (p_move rfl)) (by decide) ?_
   obtain ⟨r16, h17, H1⟩ := bd.of H1
   refine Rg.q (v := .string (r16)) (q_call (vs := [.int .i64 (Q5.2.1)]) (c_laws_markText Q5.2.1 h17) rfl EntsB.nil) (by decide) ?_
   refine Rg.q (v := elp x_v0.1 (Q5.2.2.toNat * Enc.sz Tag + 0)) (q_ixH (k := Q5.2.2.toNat) Try.underlying38 ty30 rfl rfl h14 rfl Has.here) (by decide) ?_
   refine Rg.q (v := elp x_v0.1 (Q5.2.2.toNat * Enc.sz Tag + 0)) (q_faH (j := 0) (i := Q5.2.2.toNat) fa30_0 rfl Has.here rfl) (by decide) ?_
   refine Rg.en (e_stH (v := .string (r16)) (i := Q5.2.2.toNat) (j := 0) (cs' := [.string (r16), .string ((nth Q5.1 Q5.2.2.toNat).2)]) ty9 rfl rfl (.cons Del.here .nil) rfl (by simp [Value.cells, Value.oneCell']) (Nat.le_of_ble_eq_true rfl) rfl rfl) rfl ?_
   rintro _ _ _ ⟨rfl, rfl, rfl⟩
   refine Rg.nl (nT ?_)
   refine Tr.seq (Tr.region ?_)
   refine Rg.q (v := .int .i64 (Q5.2.1)) (Pu.qo (p_move rfl)) (by decide) ?_
   obtain ⟨h18, H1⟩ := gd.of H1
   refine Rg.q (v := .int .i64 (Q5.2.1 + 1)) (Pu.qo (p_add rfl rfl h18)) (by decide) ?_
   refine Rg.q (v := .int .i64 (Q5.2.1 + 1)) (Pu.qo (p_assign rfl)) (by decide) (Rg.nl (nT ?_))
   refine Tr.seq (Tr.region ?_)
   refine Rg.q (v := .slice x_v0.1 v0.length x_v0.2) (Pu.qo (p_move rfl)) (by decide) ?_
   refine Rg.q (v := .int .i64 (Q5.2.2)) (Pu.qo (p_move rfl)) (by decide) ?_
   refine Rg.q (v := .int .i64 (Q5.2.1 + 1)) (Pu.qo (p_move rfl)) (by decide) ?_
   obtain ⟨r19, h20, H1⟩ := bd.of H1
   refine Rg.q (v := .string (r19)) (q_call (vs := [.int .i64 (Q5.2.1 + 1)]) (c_laws_markText (Q5.2.1 + 1) h20) rfl EntsB.nil) (by decide) ?_
   refine Rg.q (v := elp x_v0.1 (Q5.2.2.toNat * Enc.sz Tag + 0)) (q_ixH (k := Q5.2.2.toNat) Try.underlying38 ty30 rfl rfl h14 rfl Has.here) (by decide) ?_
   refine Rg.q (v := elp x_v0.1 (Q5.2.2.toNat * Enc.sz Tag + 1)) (q_faH (j := 0) (i := Q5.2.2.toNat) fa30_1 rfl Has.here rfl) (by decide) ?_
   refine Rg.en (e_stH (v := .string (r19)) (i := Q5.2.2.toNat) (j := 1) (cs' := [.string (r16), .string (r19)]) ty9 rfl rfl (.cons Del.here .nil) rfl (by simp [Value.cells, Value.oneCell']) (Nat.le_of_ble_eq_true rfl) rfl rfl) rfl ?_
   rintro _ _ _ ⟨rfl, rfl, rfl⟩
   refine Rg.nl (nT ?_)
   refine Tr.region ?_
   refine Rg.q (v := .int .i64 (Q5.2.1 + 1)) (Pu.qo (p_move rfl)) (by decide) ?_
   obtain ⟨h21, H1⟩ := gd.of H1
   refine Rg.q (v := .int .i64 ((Q5.2.1 + 1) + 1)) (Pu.qo (p_add rfl rfl h21)) (by decide) ?_
   refine Rg.q (v := .int .i64 ((Q5.2.1 + 1) + 1)) (Pu.qo (p_assign rfl)) (by decide) (Rg.nl ?_)
   refine nB (nT (?_))
   refine Tr.region ?_
   refine Rg.q (v := .int .i64 (Q5.2.2)) (Pu.qo (p_move rfl)) (by decide) ?_
   obtain ⟨h22, H1⟩ := gd.of H1
   refine Rg.q (v := .int .i64 (Q5.2.2 + 1)) (Pu.qo (p_add rfl rfl h22)) (by decide) ?_
   refine Rg.q (v := .int .i64 (Q5.2.2 + 1)) (Pu.qo (p_assign rfl)) (by decide) (Rg.nl ?_)
   refine At.unzoom (r16, r19) ((), ()) rfl (.cons Del.here .nil) ?_
   exact nLC ⟨(m12, ((Q5.1.set Q5.2.2.toNat (r16, r19)), (Q5.2.1 + 1) + 1, Q5.2.2 + 1), ()), hi9 _ (Option.some.inj H1).symm⟩ (Nat.lt_succ_self _) ⟨rfl, rfl, rfl, trivial⟩ Ents.refl (.cons Del.here .nil)
  ·have H1 := cdF h13 H1
   refine tExit (xT (xT (xE (?_))))
   have hx := hb10 _ (Option.some.inj H1).symm; subst hx
   exact nMC () ⟨rfl, trivial⟩ Ents.refl (.cons Del.here .nil)
 ·intro y7
  show At _ _ [(1, .int .i64 (x1.1))] _ [tree (.slice x_v0.1 v0.length x_v0.2) x1.2] _
  refine nT (?_)
  refine Tr.seq (Tr.region ?_)
  refine Rg.q (v := .int .i64 (x1.1)) (Pu.qo (p_move rfl)) (by decide) ?_
  refine Rg.q (v := .int .i64 (x1.1)) (Pu.qo (p_assign rfl)) (by decide) (Rg.nl (nT ?_))
  refine tRet ?_
  have hr := Option.some.inj H; subst hr
  exact back1 () rfl (ResV.tmp (v := .int .i64 (x1.1)) rfl) rfl Ents.nil (.cons Del.here .nil)
noncomputable def p_laws_markTagSS_b0 (v0 : (List (List Tag))) (Q5 : (List (List Tag)) × Int × Int) : Option (((List (List Tag)) × Int × Int) ⊕ (Int × (List (List Tag)))) := cond (decide (Q5.2.2 < (v0.length : Int))) (gd (ix Q5.2.2 Q5.1.length) <| bd (p_laws_markTagS (nth Q5.1 Q5.2.2.toNat) Q5.2.1) fun r16 => gd (I64 (Q5.2.2 + 1)) <| some (.inl ((Q5.1.set Q5.2.2.toNat r16.2), r16.1, Q5.2.2 + 1))) (some (.inr (Q5.2.1, Q5.1)))
noncomputable def p_laws_markTagSS (v0 : (List (List Tag))) (v1 : Int) : Option (Int × (List (List Tag))) := bd (lp (p_laws_markTagSS_b0 v0) (v0, v1, 0)) fun x1 => some (x1.1, x1.2)
theorem c_laws_markTagSS {r : Int × (List (List Tag))} (v0 : (List (List Tag))) (x_v0 : Option Addr × Nat) (n_v0 : Nat) (e_v0 : n_v0 = v0.length) (v1 : Int) (H : p_laws_markTagSS v0 v1 = some r) : Fn' Try.prog 90 #[.slice x_v0.1 n_v0 x_v0.2, .int .i64 (v1)] [] [tree (.slice x_v0.1 n_v0 x_v0.2) v0] (ι := Unit) (fun _ => .int .i64 (r.1)) (fun _ => []) (fun _ => [tree (.slice x_v0.1 n_v0 x_v0.2) r.2]) := by
 subst e_v0
 refine calls_of (args := [_, _]) Try.func90 rfl (by kernel_rfl) Try.ntmps90 (by simp) fun c => ?_
 unfold p_laws_markTagSS at H
 refine Tr.seq (Tr.region ?_)
 refine Rg.q (v := .int .i64 (0)) (Pu.qo (p_assign rfl)) (by decide) (Rg.nl (nT ?_))
 refine Tr.seq (Tr.seq (Tr.region ?_))
 refine Rg.q (v := .int .i64 (0)) (Pu.qo (p_assign rfl)) (by decide) (Rg.nl (nT ?_))
 obtain ⟨x1, hx2, H⟩ := bd.of H
 obtain ⟨n3, hx2⟩ := lp.of hx2
 refine tMidNC (ι := Unit) (fun ψ => [(1, .int .i64 (x1.1))]) (fun ψ => [tree (.slice x_v0.1 v0.length x_v0.2) x1.2]) ?_ ?_
 ·refine Tr.block ?_
  refine tLoopC (ι := { q : Nat × ((List (List Tag)) × Int × Int) × Unit // itr (p_laws_markTagSS_b0 v0) q.1 q.2.1 = some x1 }) (fun ζ => [(0, .slice x_v0.1 v0.length x_v0.2), (1, .int .i64 (ζ.1.2.1.2.1)), (5, .int .i64 (ζ.1.2.1.2.2))]) (fun ζ => [tree (.slice x_v0.1 v0.length x_v0.2) ζ.1.2.1.1]) (fun ζ => ζ.1.1) ⟨(n3, (v0, v1, 0), ()), hx2⟩ ⟨rfl, rfl, rfl, trivial⟩ (.cons Del.here .nil) ?_
  rintro ⟨⟨m4, Q5, z6⟩, hk11⟩
  obtain ⟨m12, t8, e, H1, hi9, hb10⟩ := itr.of (n := m4) (s := Q5) hk11
  subst e; unfold p_laws_markTagSS_b0 at H1
  show Tr _ _ _ _ _ [(0, .slice x_v0.1 v0.length x_v0.2), (1, .int .i64 (Q5.2.1)), (5, .int .i64 (Q5.2.2))] _ [tree (.slice x_v0.1 v0.length x_v0.2) Q5.1]
  refine Tr.seq (Tr.seq (Tr.region ?_))
  refine Rg.q (v := .int .i64 (Q5.2.2)) (Pu.qo (p_move rfl)) (by decide) ?_
  refine Rg.q (v := .slice x_v0.1 v0.length x_v0.2) (Pu.qo (p_move rfl)) (by decide) ?_
  refine Rg.q (v := .int .i64 ((v0.length : Int))) (Pu.qo (p_len 38 Try.underlying23 rfl)) (by decide) ?_
  refine Rg.q (v := .bool (decide (Q5.2.2 < (v0.length : Int)))) (Pu.qo (p_lss rfl rfl)) (by decide) (Rg.nl (nT ?_))
  refine Tr.cond (b := decide (Q5.2.2 < (v0.length : Int))) rfl (fun h13 => ?_) (fun h13 => ?_)
  ·have H1 := cdT h13 H1
   refine tSkip ?_
   refine nT (Tr.seq ?_)
   refine Tr.block ?_
   obtain ⟨h14, H1⟩ := gd.of H1
   refine Tr.zoom (k := Q5.2.2.toNat) h14.lt (.cons Del.here .nil) fun x15 => ?_
   show Tr _ _ _ _ _ _ _ (hole (.slice x_v0.1 v0.length x_v0.2) Q5.1 Q5.2.2.toNat [.slice x15.1 ((nth Q5.1 Q5.2.2.toNat).length) x15.2] :: tree (.slice x15.1 ((nth Q5.1 Q5.2.2.toNat).length) x15.2) (nth Q5.1 Q5.2.2.toNat) :: _)
   refine Tr.region ?_
   refine Rg.q (v := .slice x_v0.1 v0.length x_v0.2) (Pu.qo (p_move rfl)) (by decide) ?_
   refine Rg.q (v := .int .i64 (Q5.2.2)) (Pu.qo (p_move rfl)) (by decide) ?_
   refine Rg.q (v := elp x_v0.1 (Q5.2.2.toNat * Enc.sz (List Tag) + 0)) (q_ixH (k := Q5.2.2.toNat) Try.underlying23 ty38 rfl rfl h14 rfl Has.here) (by decide) ?_
   refine Rg.q (v := .slice x15.1 ((nth Q5.1 Q5.2.2.toNat).length) x15.2) (q_ldH (i := Q5.2.2.toNat) (j := 0) ty38 rfl Has.here rfl) (by decide) ?_
   refine Rg.q (v := .int .i64 (Q5.2.1)) (Pu.qo (p_move rfl)) (by decide) ?_
   obtain ⟨r16, h17, H1⟩ := bd.of H1
   refine Rg.ed (e_callM (vs := [.slice x15.1 ((nth Q5.1 Q5.2.2.toNat).length) x15.2, .int .i64 (Q5.2.1)]) (c_laws_markTagS (nth Q5.1 Q5.2.2.toNat) x15 ((nth Q5.1 Q5.2.2.toNat).length) rfl Q5.2.1 h17) (Solo.tree Solo.nil) (fun _ => (Solo.tree Solo.nil)) rfl (.cons Del.here.there .nil) EntsB.nil) rfl (by decide) ?_
   rintro _ _ _ ⟨u18, rfl, rfl, rfl⟩
   refine Rg.q (v := .int .i64 (r16.1)) (Pu.qo (p_assign rfl)) (by decide) (Rg.nl ?_)
   refine nB (nT (?_))
   refine Tr.olen Has.here fun hn => ?_; rw [hn]
   refine Tr.region ?_
   refine Rg.q (v := .int .i64 (Q5.2.2)) (Pu.qo (p_move rfl)) (by decide) ?_
   obtain ⟨h19, H1⟩ := gd.of H1
   refine Rg.q (v := .int .i64 (Q5.2.2 + 1)) (Pu.qo (p_add rfl rfl h19)) (by decide) ?_
   refine Rg.q (v := .int .i64 (Q5.2.2 + 1)) (Pu.qo (p_assign rfl)) (by decide) (Rg.nl ?_)
   refine At.unzoom r16.2 x15 rfl (.cons Del.here.there (.cons Del.here .nil)) ?_
   exact nLC ⟨(m12, ((Q5.1.set Q5.2.2.toNat r16.2), r16.1, Q5.2.2 + 1), ()), hi9 _ (Option.some.inj H1).symm⟩ (Nat.lt_succ_self _) ⟨rfl, rfl, rfl, trivial⟩ Ents.refl (.cons Del.here .nil)
  ·have H1 := cdF h13 H1
   refine tExit (xT (xT (xE (?_))))
   have hx := hb10 _ (Option.some.inj H1).symm; subst hx
   exact nMC () ⟨rfl, trivial⟩ Ents.refl (.cons Del.here .nil)
 ·intro y7
  show At _ _ [(1, .int .i64 (x1.1))] _ [tree (.slice x_v0.1 v0.length x_v0.2) x1.2] _
  refine nT (?_)
  refine Tr.seq (Tr.region ?_)
  refine Rg.q (v := .int .i64 (x1.1)) (Pu.qo (p_move rfl)) (by decide) ?_
  refine Rg.q (v := .int .i64 (x1.1)) (Pu.qo (p_assign rfl)) (by decide) (Rg.nl (nT ?_))
  refine tRet ?_
  have hr := Option.some.inj H; subst hr
  exact back1 () rfl (ResV.tmp (v := .int .i64 (x1.1)) rfl) rfl Ents.nil (.cons Del.here .nil)
noncomputable def p_laws_markIntS_b0 (v0 : (List Int)) (Q5 : (List Int) × Int × Int) : Option (((List Int) × Int × Int) ⊕ (Int × (List Int))) := cond (decide (Q5.2.2 < (v0.length : Int))) (gd (ix Q5.2.2 Q5.1.length) <| gd (I64 (Q5.2.1 + 1)) <| gd (I64 (Q5.2.2 + 1)) <| some (.inl ((Q5.1.set Q5.2.2.toNat Q5.2.1), Q5.2.1 + 1, Q5.2.2 + 1))) (some (.inr (Q5.2.1, Q5.1)))
noncomputable def p_laws_markIntS (v0 : (List Int)) (v1 : Int) : Option (Int × (List Int)) := bd (lp (p_laws_markIntS_b0 v0) (v0, v1, 0)) fun x1 => some (x1.1, x1.2)
theorem c_laws_markIntS {r : Int × (List Int)} (v0 : (List Int)) (x_v0 : Option Addr × Nat) (n_v0 : Nat) (e_v0 : n_v0 = v0.length) (v1 : Int) (H : p_laws_markIntS v0 v1 = some r) : Fn' Try.prog 43 #[.slice x_v0.1 n_v0 x_v0.2, .int .i64 (v1)] [] [tree (.slice x_v0.1 n_v0 x_v0.2) v0] (ι := Unit) (fun _ => .int .i64 (r.1)) (fun _ => []) (fun _ => [tree (.slice x_v0.1 n_v0 x_v0.2) r.2]) := by
 subst e_v0
 refine calls_of (args := [_, _]) Try.func43 rfl (by kernel_rfl) Try.ntmps43 (by simp) fun c => ?_
 unfold p_laws_markIntS at H
 refine Tr.seq (Tr.region ?_)
 refine Rg.q (v := .int .i64 (0)) (Pu.qo (p_assign rfl)) (by decide) (Rg.nl (nT ?_))
 refine Tr.seq (Tr.seq (Tr.region ?_))
 refine Rg.q (v := .int .i64 (0)) (Pu.qo (p_assign rfl)) (by decide) (Rg.nl (nT ?_))
 obtain ⟨x1, hx2, H⟩ := bd.of H
 obtain ⟨n3, hx2⟩ := lp.of hx2
 refine tMidNC (ι := Unit) (fun ψ => [(1, .int .i64 (x1.1))]) (fun ψ => [tree (.slice x_v0.1 v0.length x_v0.2) x1.2]) ?_ ?_
 ·refine Tr.block ?_
  refine tLoopC (ι := { q : Nat × ((List Int) × Int × Int) × Unit // itr (p_laws_markIntS_b0 v0) q.1 q.2.1 = some x1 }) (fun ζ => [(0, .slice x_v0.1 v0.length x_v0.2), (1, .int .i64 (ζ.1.2.1.2.1)), (5, .int .i64 (ζ.1.2.1.2.2))]) (fun ζ => [tree (.slice x_v0.1 v0.length x_v0.2) ζ.1.2.1.1]) (fun ζ => ζ.1.1) ⟨(n3, (v0, v1, 0), ()), hx2⟩ ⟨rfl, rfl, rfl, trivial⟩ (.cons Del.here .nil) ?_
  rintro ⟨⟨m4, Q5, z6⟩, hk11⟩
  obtain ⟨m12, t8, e, H1, hi9, hb10⟩ := itr.of (n := m4) (s := Q5) hk11
  subst e; unfold p_laws_markIntS_b0 at H1
  show Tr _ _ _ _ _ [(0, .slice x_v0.1 v0.length x_v0.2), (1, .int .i64 (Q5.2.1)), (5, .int .i64 (Q5.2.2))] _ [tree (.slice x_v0.1 v0.length x_v0.2) Q5.1]
  refine Tr.seq (Tr.seq (Tr.region ?_))
  refine Rg.q (v := .int .i64 (Q5.2.2)) (Pu.qo (p_move rfl)) (by decide) ?_
  refine Rg.q (v := .slice x_v0.1 v0.length x_v0.2) (Pu.qo (p_move rfl)) (by decide) ?_
  refine Rg.q (v := .int .i64 ((v0.length : Int))) (Pu.qo (p_len 3 Try.underlying31 rfl)) (by decide) ?_
  refine Rg.q (v := .bool (decide (Q5.2.2 < (v0.length : Int)))) (Pu.qo (p_lss rfl rfl)) (by decide) (Rg.nl (nT ?_))
  refine Tr.cond (b := decide (Q5.2.2 < (v0.length : Int))) rfl (fun h13 => ?_) (fun h13 => ?_)
  ·have H1 := cdT h13 H1
   refine tSkip ?_
   refine nT (Tr.seq ?_)
   refine Tr.block ?_
   refine Tr.seq (Tr.region ?_)
   refine Rg.q (v := .slice x_v0.1 v0.length x_v0.2) (Pu.qo (p_move rfl)) (by decide) ?_
   refine Rg.q (v := .int .i64 (Q5.2.2)) (Pu.qo (p_move rfl)) (by decide) ?_
   refine Rg.q (v := .int .i64 (Q5.2.1)) (Pu.qo (p_move rfl)) (by decide) ?_
   obtain ⟨h14, H1⟩ := gd.of H1
   refine Rg.q (v := elp x_v0.1 (Q5.2.2.toNat * Enc.sz Int + 0)) (q_ixO' Try.underlying31 ty3 rfl rfl h14 Has.here) (by decide) ?_
   refine Rg.en (e_setT (l := Q5.1) (α := Int) (oa := x_v0.1) Q5.2.2.toNat Q5.2.1 () ty3 rfl rfl rfl h14.lt (ShpT.wfa _) (.cons Del.here .nil)) rfl ?_
   rintro _ _ _ ⟨rfl, rfl, rfl⟩
   refine Rg.nl (nT ?_)
   refine Tr.region ?_
   refine Rg.q (v := .int .i64 (Q5.2.1)) (Pu.qo (p_move rfl)) (by decide) ?_
   obtain ⟨h15, H1⟩ := gd.of H1
   refine Rg.q (v := .int .i64 (Q5.2.1 + 1)) (Pu.qo (p_add rfl rfl h15)) (by decide) ?_
   refine Rg.q (v := .int .i64 (Q5.2.1 + 1)) (Pu.qo (p_assign rfl)) (by decide) (Rg.nl ?_)
   refine nB (nT (?_))
   refine Tr.region ?_
   refine Rg.q (v := .int .i64 (Q5.2.2)) (Pu.qo (p_move rfl)) (by decide) ?_
   obtain ⟨h16, H1⟩ := gd.of H1
   refine Rg.q (v := .int .i64 (Q5.2.2 + 1)) (Pu.qo (p_add rfl rfl h16)) (by decide) ?_
   refine Rg.q (v := .int .i64 (Q5.2.2 + 1)) (Pu.qo (p_assign rfl)) (by decide) (Rg.nl ?_)
   exact nLC ⟨(m12, ((Q5.1.set Q5.2.2.toNat Q5.2.1), Q5.2.1 + 1, Q5.2.2 + 1), ()), hi9 _ (Option.some.inj H1).symm⟩ (Nat.lt_succ_self _) ⟨rfl, rfl, rfl, trivial⟩ Ents.refl (.cons Del.here .nil)
  ·have H1 := cdF h13 H1
   refine tExit (xT (xT (xE (?_))))
   have hx := hb10 _ (Option.some.inj H1).symm; subst hx
   exact nMC () ⟨rfl, trivial⟩ Ents.refl (.cons Del.here .nil)
 ·intro y7
  show At _ _ [(1, .int .i64 (x1.1))] _ [tree (.slice x_v0.1 v0.length x_v0.2) x1.2] _
  refine nT (?_)
  refine Tr.seq (Tr.region ?_)
  refine Rg.q (v := .int .i64 (x1.1)) (Pu.qo (p_move rfl)) (by decide) ?_
  refine Rg.q (v := .int .i64 (x1.1)) (Pu.qo (p_assign rfl)) (by decide) (Rg.nl (nT ?_))
  refine tRet ?_
  have hr := Option.some.inj H; subst hr
  exact back1 () rfl (ResV.tmp (v := .int .i64 (x1.1)) rfl) rfl Ents.nil (.cons Del.here .nil)
noncomputable def p_laws_markPostS_b0 (v0 : (List Post)) (Q5 : (List Post) × Int × Int) : Option (((List Post) × Int × Int) ⊕ (Int × (List Post))) := cond (decide (Q5.2.2 < (v0.length : Int))) (gd (ix Q5.2.2 Q5.1.length) <| bd (p_laws_markText Q5.2.1) fun r16 => gd (I64 (Q5.2.1 + 1)) <| bd (p_laws_markText (Q5.2.1 + 1)) fun r19 => gd (I64 ((Q5.2.1 + 1) + 1)) <| bd (p_laws_markIntS ((nth Q5.1 Q5.2.2.toNat).2) ((Q5.2.1 + 1) + 1)) fun r22 => gd (I64 (Q5.2.2 + 1)) <| some (.inl ((Q5.1.set Q5.2.2.toNat ((r16, r19), r22.2)), r22.1, Q5.2.2 + 1))) (some (.inr (Q5.2.1, Q5.1)))
noncomputable def p_laws_markPostS (v0 : (List Post)) (v1 : Int) : Option (Int × (List Post)) := bd (lp (p_laws_markPostS_b0 v0) (v0, v1, 0)) fun x1 => some (x1.1, x1.2)
theorem c_laws_markPostS {r : Int × (List Post)} (v0 : (List Post)) (x_v0 : Option Addr × Nat) (n_v0 : Nat) (e_v0 : n_v0 = v0.length) (v1 : Int) (H : p_laws_markPostS v0 v1 = some r) : Fn' Try.prog 91 #[.slice x_v0.1 n_v0 x_v0.2, .int .i64 (v1)] [] [tree (.slice x_v0.1 n_v0 x_v0.2) v0] (ι := Unit) (fun _ => .int .i64 (r.1)) (fun _ => []) (fun _ => [tree (.slice x_v0.1 n_v0 x_v0.2) r.2]) := by
 subst e_v0
 refine calls_of (args := [_, _]) Try.func91 rfl (by kernel_rfl) Try.ntmps91 (by simp) fun c => ?_
 unfold p_laws_markPostS at H
 refine Tr.seq (Tr.region ?_)
 refine Rg.q (v := .int .i64 (0)) (Pu.qo (p_assign rfl)) (by decide) (Rg.nl (nT ?_))
 refine Tr.seq (Tr.seq (Tr.region ?_))
 refine Rg.q (v := .int .i64 (0)) (Pu.qo (p_assign rfl)) (by decide) (Rg.nl (nT ?_))
 obtain ⟨x1, hx2, H⟩ := bd.of H
 obtain ⟨n3, hx2⟩ := lp.of hx2
 refine tMidNC (ι := Unit) (fun ψ => [(1, .int .i64 (x1.1))]) (fun ψ => [tree (.slice x_v0.1 v0.length x_v0.2) x1.2]) ?_ ?_
 ·refine Tr.block ?_
  refine tLoopC (ι := { q : Nat × ((List Post) × Int × Int) × Unit // itr (p_laws_markPostS_b0 v0) q.1 q.2.1 = some x1 }) (fun ζ => [(0, .slice x_v0.1 v0.length x_v0.2), (1, .int .i64 (ζ.1.2.1.2.1)), (5, .int .i64 (ζ.1.2.1.2.2))]) (fun ζ => [tree (.slice x_v0.1 v0.length x_v0.2) ζ.1.2.1.1]) (fun ζ => ζ.1.1) ⟨(n3, (v0, v1, 0), ()), hx2⟩ ⟨rfl, rfl, rfl, trivial⟩ (.cons Del.here .nil) ?_
  rintro ⟨⟨m4, Q5, z6⟩, hk11⟩
  obtain ⟨m12, t8, e, H1, hi9, hb10⟩ := itr.of (n := m4) (s := Q5) hk11
  subst e; unfold p_laws_markPostS_b0 at H1
  show Tr _ _ _ _ _ [(0, .slice x_v0.1 v0.length x_v0.2), (1, .int .i64 (Q5.2.1)), (5, .int .i64 (Q5.2.2))] _ [tree (.slice x_v0.1 v0.length x_v0.2) Q5.1]
  refine Tr.seq (Tr.seq (Tr.region ?_))
  refine Rg.q (v := .int .i64 (Q5.2.2)) (Pu.qo (p_move rfl)) (by decide) ?_
  refine Rg.q (v := .slice x_v0.1 v0.length x_v0.2) (Pu.qo (p_move rfl)) (by decide) ?_
  refine Rg.q (v := .int .i64 ((v0.length : Int))) (Pu.qo (p_len 33 Try.underlying24 rfl)) (by decide) ?_
  refine Rg.q (v := .bool (decide (Q5.2.2 < (v0.length : Int)))) (Pu.qo (p_lss rfl rfl)) (by decide) (Rg.nl (nT ?_))
  refine Tr.cond (b := decide (Q5.2.2 < (v0.length : Int))) rfl (fun h13 => ?_) (fun h13 => ?_)
  ·have H1 := cdT h13 H1
   refine tSkip ?_
   refine nT (Tr.seq ?_)
   refine Tr.block ?_
   refine Tr.seq ?_
   obtain ⟨h14, H1⟩ := gd.of H1
   refine Tr.zoom (k := Q5.2.2.toNat) h14.lt (.cons Del.here .nil) fun x15 => ?_
   show Tr _ _ _ _ _ _ _ (hole (.slice x_v0.1 v0.length x_v0.2) Q5.1 Q5.2.2.toNat [.string (((nth Q5.1 Q5.2.2.toNat).1).1), .string (((nth Q5.1 Q5.2.2.toNat).1).2), .slice x15.2.1 (((nth Q5.1 Q5.2.2.toNat).2).length) x15.2.2] :: tree (.slice x15.2.1 (((nth Q5.1 Q5.2.2.toNat).2).length) x15.2.2) ((nth Q5.1 Q5.2.2.toNat).2) :: _)
   refine Tr.region ?_
   refine Rg.q (v := .slice x_v0.1 v0.length x_v0.2) (Pu.qo (p_move rfl)) (by decide) ?_
   refine Rg.q (v := .int .i64 (Q5.2.2)) (Pu.qo (p_move rfl)) (by decide) ?_
   refine Rg.q (v := .int .i64 (Q5.2.1)) (Pu.qo (p_move rfl)) (by decide) ?_
   obtain ⟨r16, h17, H1⟩ := bd.of H1
   refine Rg.q (v := .string (r16)) (q_call (vs := [.int .i64 (Q5.2.1)]) (c_laws_markText Q5.2.1 h17) rfl EntsB.nil) (by decide) ?_
   refine Rg.q (v := elp x_v0.1 (Q5.2.2.toNat * Enc.sz Post + 0)) (q_ixH (k := Q5.2.2.toNat) Try.underlying24 ty33 rfl rfl h14 rfl Has.here) (by decide) ?_
   refine Rg.q (v := elp x_v0.1 (Q5.2.2.toNat * Enc.sz Post + 0)) (q_faH (j := 0) (i := Q5.2.2.toNat) fa33_0 rfl Has.here rfl) (by decide) ?_
   refine Rg.q (v := elp x_v0.1 (Q5.2.2.toNat * Enc.sz Post + 0)) (q_faH (j := 0) (i := Q5.2.2.toNat) fa30_0 rfl Has.here rfl) (by decide) ?_
   refine Rg.en (e_stH (v := .string (r16)) (i := Q5.2.2.toNat) (j := 0) (cs' := [.string (r16), .string (((nth Q5.1 Q5.2.2.toNat).1).2), .slice x15.2.1 (((nth Q5.1 Q5.2.2.toNat).2).length) x15.2.2]) ty9 rfl rfl (.cons Del.here .nil) rfl (by simp [Value.cells, Value.oneCell']) (Nat.le_of_ble_eq_true rfl) rfl rfl) rfl ?_
   rintro _ _ _ ⟨rfl, rfl, rfl⟩
   refine Rg.nl (nT ?_)
   refine Tr.seq (Tr.region ?_)
   refine Rg.q (v := .int .i64 (Q5.2.1)) (Pu.qo (p_move rfl)) (by decide) ?_
   obtain ⟨h18, H1⟩ := gd.of H1
   refine Rg.q (v := .int .i64 (Q5.2.1 + 1)) (Pu.qo (p_add rfl rfl h18)) (by decide) ?_
   refine Rg.q (v := .int .i64 (Q5.2.1 + 1)) (Pu.qo (p_assign rfl)) (by decide) (Rg.nl (nT ?_))
   refine Tr.seq (Tr.region ?_)
   refine Rg.q (v := .slice x_v0.1 v0.length x_v0.2) (Pu.qo (p_move rfl)) (by decide) ?_
   refine Rg.q (v := .int .i64 (Q5.2.2)) (Pu.qo (p_move rfl)) (by decide) ?_
   refine Rg.q (v := .int .i64 (Q5.2.1 + 1)) (Pu.qo (p_move rfl)) (by decide) ?_
   obtain ⟨r19, h20, H1⟩ := bd.of H1
   refine Rg.q (v := .string (r19)) (q_call (vs := [.int .i64 (Q5.2.1 + 1)]) (c_laws_markText (Q5.2.1 + 1) h20) rfl EntsB.nil) (by decide) ?_
   refine Rg.q (v := elp x_v0.1 (Q5.2.2.toNat * Enc.sz Post + 0)) (q_ixH (k := Q5.2.2.toNat) Try.underlying24 ty33 rfl rfl h14 rfl Has.here) (by decide) ?_
   refine Rg.q (v := elp x_v0.1 (Q5.2.2.toNat * Enc.sz Post + 0)) (q_faH (j := 0) (i := Q5.2.2.toNat) fa33_0 rfl Has.here rfl) (by decide) ?_
   refine Rg.q (v := elp x_v0.1 (Q5.2.2.toNat * Enc.sz Post + 1)) (q_faH (j := 0) (i := Q5.2.2.toNat) fa30_1 rfl Has.here rfl) (by decide) ?_
   refine Rg.en (e_stH (v := .string (r19)) (i := Q5.2.2.toNat) (j := 1) (cs' := [.string (r16), .string (r19), .slice x15.2.1 (((nth Q5.1 Q5.2.2.toNat).2).length) x15.2.2]) ty9 rfl rfl (.cons Del.here .nil) rfl (by simp [Value.cells, Value.oneCell']) (Nat.le_of_ble_eq_true rfl) rfl rfl) rfl ?_
   rintro _ _ _ ⟨rfl, rfl, rfl⟩
   refine Rg.nl (nT ?_)
   refine Tr.seq (Tr.region ?_)
   refine Rg.q (v := .int .i64 (Q5.2.1 + 1)) (Pu.qo (p_move rfl)) (by decide) ?_
   obtain ⟨h21, H1⟩ := gd.of H1
   refine Rg.q (v := .int .i64 ((Q5.2.1 + 1) + 1)) (Pu.qo (p_add rfl rfl h21)) (by decide) ?_
   refine Rg.q (v := .int .i64 ((Q5.2.1 + 1) + 1)) (Pu.qo (p_assign rfl)) (by decide) (Rg.nl (nT ?_))
   refine Tr.region ?_
   refine Rg.q (v := .slice x_v0.1 v0.length x_v0.2) (Pu.qo (p_move rfl)) (by decide) ?_
   refine Rg.q (v := .int .i64 (Q5.2.2)) (Pu.qo (p_move rfl)) (by decide) ?_
   refine Rg.q (v := elp x_v0.1 (Q5.2.2.toNat * Enc.sz Post + 0)) (q_ixH (k := Q5.2.2.toNat) Try.underlying24 ty33 rfl rfl h14 rfl Has.here) (by decide) ?_
   refine Rg.q (v := elp x_v0.1 (Q5.2.2.toNat * Enc.sz Post + 2)) (q_faH (j := 0) (i := Q5.2.2.toNat) fa33_1 rfl Has.here rfl) (by decide) ?_
   refine Rg.q (v := .slice x15.2.1 (((nth Q5.1 Q5.2.2.toNat).2).length) x15.2.2) (q_ldH (i := Q5.2.2.toNat) (j := 2) ty31 rfl Has.here rfl) (by decide) ?_
   refine Rg.q (v := .int .i64 ((Q5.2.1 + 1) + 1)) (Pu.qo (p_move rfl)) (by decide) ?_
   obtain ⟨r22, h23, H1⟩ := bd.of H1
   refine Rg.ed (e_callM (vs := [.slice x15.2.1 (((nth Q5.1 Q5.2.2.toNat).2).length) x15.2.2, .int .i64 ((Q5.2.1 + 1) + 1)]) (c_laws_markIntS ((nth Q5.1 Q5.2.2.toNat).2) x15.2 (((nth Q5.1 Q5.2.2.toNat).2).length) rfl ((Q5.2.1 + 1) + 1) h23) (Solo.tree Solo.nil) (fun _ => (Solo.tree Solo.nil)) rfl (.cons Del.here.there .nil) EntsB.nil) rfl (by decide) ?_
   rintro _ _ _ ⟨u24, rfl, rfl, rfl⟩
   refine Rg.q (v := .int .i64 (r22.1)) (Pu.qo (p_assign rfl)) (by decide) (Rg.nl ?_)
   refine nB (nT (?_))
   refine Tr.olen Has.here fun hn => ?_; rw [hn]
   refine Tr.region ?_
   refine Rg.q (v := .int .i64 (Q5.2.2)) (Pu.qo (p_move rfl)) (by decide) ?_
   obtain ⟨h25, H1⟩ := gd.of H1
   refine Rg.q (v := .int .i64 (Q5.2.2 + 1)) (Pu.qo (p_add rfl rfl h25)) (by decide) ?_
   refine Rg.q (v := .int .i64 (Q5.2.2 + 1)) (Pu.qo (p_assign rfl)) (by decide) (Rg.nl ?_)
   refine At.unzoom ((r16, r19), r22.2) (((), ()), x15.2) rfl (.cons Del.here.there (.cons Del.here .nil)) ?_
   exact nLC ⟨(m12, ((Q5.1.set Q5.2.2.toNat ((r16, r19), r22.2)), r22.1, Q5.2.2 + 1), ()), hi9 _ (Option.some.inj H1).symm⟩ (Nat.lt_succ_self _) ⟨rfl, rfl, rfl, trivial⟩ Ents.refl (.cons Del.here .nil)
  ·have H1 := cdF h13 H1
   refine tExit (xT (xT (xE (?_))))
   have hx := hb10 _ (Option.some.inj H1).symm; subst hx
   exact nMC () ⟨rfl, trivial⟩ Ents.refl (.cons Del.here .nil)
 ·intro y7
  show At _ _ [(1, .int .i64 (x1.1))] _ [tree (.slice x_v0.1 v0.length x_v0.2) x1.2] _
  refine nT (?_)
  refine Tr.seq (Tr.region ?_)
  refine Rg.q (v := .int .i64 (x1.1)) (Pu.qo (p_move rfl)) (by decide) ?_
  refine Rg.q (v := .int .i64 (x1.1)) (Pu.qo (p_assign rfl)) (by decide) (Rg.nl (nT ?_))
  refine tRet ?_
  have hr := Option.some.inj H; subst hr
  exact back1 () rfl (ResV.tmp (v := .int .i64 (x1.1)) rfl) rfl Ents.nil (.cons Del.here .nil)
noncomputable def p_laws_markIndex (v0 : Index) (v1 : Int) : Option (Int × Index) := bd (p_laws_markTagSS v0.1 v1) fun r2 => bd (p_laws_markPostS v0.2 r2.1) fun r5 => some (r5.1, (r2.2, r5.2))
theorem c_laws_markIndex {r : Int × Index} (v0 : Index) (x_v0 : (Option Addr × Nat) × (Option Addr × Nat)) (v1 : Int) (H : p_laws_markIndex v0 v1 = some r) : Fn' Try.prog 42 #[.agg #[.slice x_v0.1.1 v0.1.length x_v0.1.2, .slice x_v0.2.1 v0.2.length x_v0.2.2], .int .i64 (v1)] [] [tree (.slice x_v0.1.1 v0.1.length x_v0.1.2) v0.1, tree (.slice x_v0.2.1 v0.2.length x_v0.2.2) v0.2] (ι := Unit) (fun _ => .int .i64 (r.1)) (fun _ => []) (fun _ => [tree (.slice x_v0.1.1 v0.1.length x_v0.1.2) r.2.1, tree (.slice x_v0.2.1 v0.2.length x_v0.2.2) r.2.2]) := by
 refine calls_of (args := [_, _]) Try.func42 rfl (by kernel_rfl) Try.ntmps42 (by simp) fun c => ?_
 unfold p_laws_markIndex at H
 refine Tr.seq (Tr.region ?_)
 refine Rg.ed (e_box (t := 26) (v := .agg #[.slice x_v0.1.1 v0.1.length x_v0.1.2, .slice x_v0.2.1 v0.2.length x_v0.2.2]) rfl) rfl (by decide) ?_
 rintro _ _ _ ⟨g1, rfl, rfl, rfl⟩
 refine Rg.q (v := .int .i64 (0)) (Pu.qo (p_assign rfl)) (by decide) (Rg.nl (nT ?_))
 refine Tr.seq (Tr.region ?_)
 refine Rg.q (v := .pointer (some ⟨g1, 0, none⟩)) (Pu.qo (p_fabE fa26_0 rfl rfl)) (by decide) ?_
 refine Rg.q (v := .slice x_v0.1.1 v0.1.length x_v0.1.2) (q_ldb ty23 rfl Has.here rfl) (by decide) ?_
 refine Rg.q (v := .int .i64 (v1)) (Pu.qo (p_move rfl)) (by decide) ?_
 obtain ⟨r2, h3, H⟩ := bd.of H
 refine Rg.ed (e_callM (vs := [.slice x_v0.1.1 v0.1.length x_v0.1.2, .int .i64 (v1)]) (c_laws_markTagSS v0.1 x_v0.1 v0.1.length rfl v1 h3) (Solo.tree Solo.nil) (fun _ => (Solo.tree Solo.nil)) rfl (.cons Del.here.there .nil) EntsB.nil) rfl (by decide) ?_
 rintro _ _ _ ⟨u4, rfl, rfl, rfl⟩
 refine Rg.q (v := .int .i64 (r2.1)) (Pu.qo (p_assign rfl)) (by decide) (Rg.nl (nT ?_))
 refine Tr.seq (Tr.region ?_)
 refine Rg.q (v := .pointer (some ⟨g1, 1, none⟩)) (Pu.qo (p_fabE fa26_1 rfl rfl)) (by decide) ?_
 refine Rg.q (v := .slice x_v0.2.1 v0.2.length x_v0.2.2) (q_ldb ty24 rfl Has.here.there rfl) (by decide) ?_
 refine Rg.q (v := .int .i64 (r2.1)) (Pu.qo (p_move rfl)) (by decide) ?_
 obtain ⟨r5, h6, H⟩ := bd.of H
 refine Rg.ed (e_callM (vs := [.slice x_v0.2.1 v0.2.length x_v0.2.2, .int .i64 (r2.1)]) (c_laws_markPostS v0.2 x_v0.2 v0.2.length rfl r2.1 h6) (Solo.tree Solo.nil) (fun _ => (Solo.tree Solo.nil)) rfl (.cons Del.here.there.there .nil) EntsB.nil) rfl (by decide) ?_
 rintro _ _ _ ⟨u7, rfl, rfl, rfl⟩
 refine Rg.q (v := .int .i64 (r5.1)) (Pu.qo (p_assign rfl)) (by decide) (Rg.nl (nT ?_))
 refine Tr.seq (Tr.region ?_)
 refine Rg.q (v := .int .i64 (r5.1)) (Pu.qo (p_move rfl)) (by decide) ?_
 refine Rg.q (v := .int .i64 (r5.1)) (Pu.qo (p_assign rfl)) (by decide) (Rg.nl (nT ?_))
 refine tRet ?_
 have hr := Option.some.inj H; subst hr
 exact back1 () rfl (ResV.tmp (v := .int .i64 (r5.1)) rfl) rfl Ents.nil (.cons Del.here.there (.cons Del.here .nil))
noncomputable def p_laws_heldIntS_b0 (v0 : (List Int)) (Q5 : Int × Int) : Option ((Int × Int) ⊕ (Int ⊕ Int)) := cond (decide (Q5.2 < (v0.length : Int))) (gd (ix Q5.2 v0.length) <| cond (!decide ((nth v0 Q5.2.toNat) = Q5.1)) (some (.inr (.inr (-1)))) (gd (I64 (Q5.1 + 1)) <| gd (I64 (Q5.2 + 1)) <| some (.inl (Q5.1 + 1, Q5.2 + 1)))) (some (.inr (.inl Q5.1)))
noncomputable def p_laws_heldIntS (v0 : (List Int)) (v1 : Int) : Option (Int) := bd (lp (p_laws_heldIntS_b0 v0) (v1, 0)) <| sw (fun e18 => some e18) (fun q => some q)
theorem c_laws_heldIntS {r : Int} (v0 : (List Int)) (x_v0 : Option Addr × Nat) (v1 : Int) (H : p_laws_heldIntS v0 v1 = some r) : Fn' Try.prog 44 #[.slice x_v0.1 v0.length x_v0.2, .int .i64 (v1)] [imm (.slice x_v0.1 v0.length x_v0.2) v0] [] (ι := Unit) (fun _ => .int .i64 (r)) (fun _ => []) (fun _ => []) := by
 refine calls_of (args := [_, _]) Try.func44 rfl (by kernel_rfl) Try.ntmps44 (by simp) fun c => ?_
 unfold p_laws_heldIntS at H
 refine Tr.seq (Tr.region ?_)
 refine Rg.q (v := .int .i64 (0)) (Pu.qo (p_assign rfl)) (by decide) (Rg.nl (nT ?_))
 refine Tr.seq (Tr.seq (Tr.region ?_))
 refine Rg.q (v := .int .i64 (0)) (Pu.qo (p_assign rfl)) (by decide) (Rg.nl (nT ?_))
 obtain ⟨x1, hx2, H⟩ := bd.of H
 obtain ⟨n3, hx2⟩ := lp.of hx2
 refine tMidNC (ι := { q : (Int) × Unit // x1 = .inl q.1 }) (fun ψ => [(1, .int .i64 (ψ.1.1))]) (fun ψ => []) ?_ ?_
 ·refine Tr.block ?_
  refine tLoopC (ι := { q : Nat × (Int × Int) × Unit // itr (p_laws_heldIntS_b0 v0) q.1 q.2.1 = some x1 }) (fun ζ => [(0, .slice x_v0.1 v0.length x_v0.2), (1, .int .i64 (ζ.1.2.1.1)), (5, .int .i64 (ζ.1.2.1.2))]) (fun ζ => []) (fun ζ => ζ.1.1) ⟨(n3, (v1, 0), ()), hx2⟩ ⟨rfl, rfl, rfl, trivial⟩ Take.nil ?_
  rintro ⟨⟨m4, Q5, z6⟩, hk11⟩
  obtain ⟨m12, t8, e, H1, hi9, hb10⟩ := itr.of (n := m4) (s := Q5) hk11
  subst e; unfold p_laws_heldIntS_b0 at H1
  show Tr _ _ _ _ _ [(0, .slice x_v0.1 v0.length x_v0.2), (1, .int .i64 (Q5.1)), (5, .int .i64 (Q5.2))] _ []
  refine Tr.seq (Tr.seq (Tr.region ?_))
  refine Rg.q (v := .int .i64 (Q5.2)) (Pu.qo (p_move rfl)) (by decide) ?_
  refine Rg.q (v := .slice x_v0.1 v0.length x_v0.2) (Pu.qo (p_move rfl)) (by decide) ?_
  refine Rg.q (v := .int .i64 ((v0.length : Int))) (Pu.qo (p_len 3 Try.underlying31 rfl)) (by decide) ?_
  refine Rg.q (v := .bool (decide (Q5.2 < (v0.length : Int)))) (Pu.qo (p_lss rfl rfl)) (by decide) (Rg.nl (nT ?_))
  refine Tr.cond (b := decide (Q5.2 < (v0.length : Int))) rfl (fun h13 => ?_) (fun h13 => ?_)
  ·have H1 := cdT h13 H1
   refine tSkip ?_
   refine nT (Tr.seq ?_)
   refine Tr.block ?_
   refine Tr.seq (Tr.seq (Tr.region ?_))
   refine Rg.q (v := .slice x_v0.1 v0.length x_v0.2) (Pu.qo (p_move rfl)) (by decide) ?_
   refine Rg.q (v := .int .i64 (Q5.2)) (Pu.qo (p_move rfl)) (by decide) ?_
   obtain ⟨h14, H1⟩ := gd.of H1
   refine Rg.q (v := elp x_v0.1 (Q5.2.toNat * Enc.sz Int + 0)) (q_ixg (l := v0) (E := fun i => Flat.enc (nth v0 i)) (oa := x_v0.1) Try.underlying31 ty3 rfl rfl h14 rfl (EntB.flat (Ent.b Ent.z))) (by decide) ?_
   refine Rg.q (v := .int .i64 (nth v0 Q5.2.toNat)) (q_lde (l := v0) (E := fun i => Flat.enc (nth v0 i)) (oa := x_v0.1) (i := Q5.2.toNat) (j := 0) ty3 rfl (EntB.flat (Ent.b Ent.z)) h14.lt rfl) (by decide) ?_
   refine Rg.q (v := .int .i64 (Q5.1)) (Pu.qo (p_move rfl)) (by decide) ?_
   refine Rg.q (v := .bool (!decide ((nth v0 Q5.2.toNat) = Q5.1))) (Pu.qo (p_neq rfl rfl)) (by decide) (Rg.nl (nT ?_))
   refine Tr.cond (b := !decide ((nth v0 Q5.2.toNat) = Q5.1)) rfl (fun h15 => ?_) (fun h15 => ?_)
   ·have H1 := cdT h15 H1
    refine Tr.seq (Tr.region ?_)
    refine Rg.q (v := .int .i64 (-1)) (Pu.qo (p_assign rfl)) (by decide) (Rg.nl (nT ?_))
    refine tRet ?_
    refine rT (rB (rT (rT (rB (rT (rT (?_)))))))
    have hx := hb10 _ (Option.some.inj H1).symm; subst hx
    replace H := sw.r H
    have hr := Option.some.inj H; subst hr
    exact back1 () rfl (ResV.tmp (v := .int .i64 (-1)) rfl) rfl Ents.nil Take.nil
   ·have H1 := cdF h15 H1
    refine tSkip ?_
    refine nT (?_)
    refine Tr.region ?_
    refine Rg.q (v := .int .i64 (Q5.1)) (Pu.qo (p_move rfl)) (by decide) ?_
    obtain ⟨h16, H1⟩ := gd.of H1
    refine Rg.q (v := .int .i64 (Q5.1 + 1)) (Pu.qo (p_add rfl rfl h16)) (by decide) ?_
    refine Rg.q (v := .int .i64 (Q5.1 + 1)) (Pu.qo (p_assign rfl)) (by decide) (Rg.nl ?_)
    refine nB (nT (?_))
    refine Tr.region ?_
    refine Rg.q (v := .int .i64 (Q5.2)) (Pu.qo (p_move rfl)) (by decide) ?_
    obtain ⟨h17, H1⟩ := gd.of H1
    refine Rg.q (v := .int .i64 (Q5.2 + 1)) (Pu.qo (p_add rfl rfl h17)) (by decide) ?_
    refine Rg.q (v := .int .i64 (Q5.2 + 1)) (Pu.qo (p_assign rfl)) (by decide) (Rg.nl ?_)
    exact nLC ⟨(m12, (Q5.1 + 1, Q5.2 + 1), ()), hi9 _ (Option.some.inj H1).symm⟩ (Nat.lt_succ_self _) ⟨rfl, rfl, rfl, trivial⟩ Ents.refl Take.nil
  ·have H1 := cdF h13 H1
   refine tExit (xT (xT (xE (?_))))
   exact nMC ⟨(Q5.1, ()), (hb10 _ (Option.some.inj H1).symm).symm⟩ ⟨rfl, trivial⟩ Ents.refl Take.nil
 ·rintro ⟨⟨e18, y7⟩, hx⟩; subst hx; replace H := sw.l H
  show At _ _ [(1, .int .i64 (e18))] _ [] _
  refine nT (?_)
  refine Tr.seq (Tr.region ?_)
  refine Rg.q (v := .int .i64 (e18)) (Pu.qo (p_move rfl)) (by decide) ?_
  refine Rg.q (v := .int .i64 (e18)) (Pu.qo (p_assign rfl)) (by decide) (Rg.nl (nT ?_))
  refine tRet ?_
  have hr := Option.some.inj H; subst hr
  exact back1 () rfl (ResV.tmp (v := .int .i64 (e18)) rfl) rfl Ents.nil Take.nil
noncomputable def p_spec_IndexAdd (v0 : Index) (v1 : (List Tag)) : Option (Index × Int × Bool) := bd (bd (p_spec_IndexOk v0) fun r7 => cond (!r7) (some (true)) (bd (p_spec_NameOk v1) fun r10 => some (!r10))) fun b5 => cond (b5) (some ((([]), ([])), 0, false)) (bd (p_spec_l11Of v0.1) fun r13 => bd (p_spec_l11Add r13 v1) fun r16 => some (r16.1, r16.2.1, r16.2.2))
theorem c_spec_IndexAdd {r : Index × Int × Bool} (v0 : Index) (x_v0 : (Option Addr × Nat) × (Option Addr × Nat)) (v1 : (List Tag)) (x_v1 : Option Addr × Nat) (H : p_spec_IndexAdd v0 v1 = some r) : Fn' Try.prog 27 #[.agg #[.slice x_v0.1.1 v0.1.length x_v0.1.2, .slice x_v0.2.1 v0.2.length x_v0.2.2], .slice x_v1.1 v1.length x_v1.2] [imm (.slice x_v0.1.1 v0.1.length x_v0.1.2) v0.1, imm (.slice x_v0.2.1 v0.2.length x_v0.2.2) v0.2, imm (.slice x_v1.1 v1.length x_v1.2) v1] [] (ι := ((Option Addr × Nat) × (Option Addr × Nat)) × Unit × Unit) (fun x => .tuple #[.agg #[.slice x.1.1.1 r.1.1.length x.1.1.2, .slice x.1.2.1 r.1.2.length x.1.2.2], .int .i64 (r.2.1), .bool (r.2.2)]) (fun _ => []) (fun x => [tree (.slice x.1.1.1 r.1.1.length x.1.1.2) r.1.1, tree (.slice x.1.2.1 r.1.2.length x.1.2.2) r.1.2]) := by
 refine calls_of (args := [_, _]) Try.func27 rfl (by kernel_rfl) Try.ntmps27 (by simp) fun c => ?_
 unfold p_spec_IndexAdd at H
 refine Tr.openD Ent.z fun X1 => ?_
 refine Tr.openD Ent.z.s.s fun X2 => ?_
 refine Tr.seq (Tr.region ?_)
 refine Rg.ed (e_box (t := 26) (v := .agg #[.slice x_v0.1.1 v0.1.length x_v0.1.2, .slice x_v0.2.1 v0.2.length x_v0.2.2]) rfl) rfl (by decide) ?_
 rintro _ _ _ ⟨g3, rfl, rfl, rfl⟩
 refine Rg.ed (e_alloc ty26) rfl (by decide) ?_
 rintro _ _ _ ⟨g4, rfl, rfl, rfl⟩
 refine Rg.q (v := .int .i64 (0)) (Pu.qo (p_assign rfl)) (by decide) ?_
 refine Rg.q (v := .bool (false)) (Pu.qo (p_assign rfl)) (by decide) (Rg.nl (nT ?_))
 refine Tr.seq ?_
 obtain ⟨b5, j6, H⟩ := bd.of H
 refine tMid1 [(14, .bool (b5)), (4, .pointer (some ⟨g4, 0, none⟩)), (2, .pointer (some ⟨g3, 0, none⟩)), (1, .slice x_v1.1 v1.length x_v1.2)] ?_ ?_
 ·refine tLinT [(4, .pointer (some ⟨g4, 0, none⟩)), (2, .pointer (some ⟨g3, 0, none⟩)), (1, .slice x_v1.1 v1.length x_v1.2)] ⟨rfl, rfl, rfl, trivial⟩ ?_
  refine Lin.q (v := .agg #[.slice x_v0.1.1 v0.1.length x_v0.1.2, .slice x_v0.2.1 v0.2.length x_v0.2.2]) (by decide) (q_ldbA ty26 rfl Has.here.there rfl) ?_
  obtain ⟨r7, h8, j6⟩ := bd.of j6
  refine Lin.q (v := .bool (r7)) (by decide) (q_call (vs := [.agg #[.slice x_v0.1.1 v0.1.length x_v0.1.2, .slice x_v0.2.1 v0.2.length x_v0.2.2]]) (c_spec_IndexOk v0 x_v0 h8) rfl (EntsB.cons (Ent.b (Ent.dimm Ent.z.s)) (EntsB.cons (Ent.b (Ent.dimm Ent.z)) EntsB.nil))) ?_
  refine Lin.q (v := .bool (!r7)) (by decide) (Pu.qo (p_not rfl)) ?_
  rcases Bool.eq_false_or_eq_true (!r7) with h9 | h9
  ·have j6 := cdT h9 j6
   refine Lin.q (v := .bool (true)) (by decide) (Qo.eqv (v := .bool (!r7)) (Pu.qo (p_move rfl)) (congrArg Value.bool h9)) ?_
   refine Lin.skip (by decide) rfl ?_
   refine Lin.skip (by decide) rfl ?_
   refine Lin.skip (by decide) rfl ?_
   refine Lin.q (v := .bool (true)) (by decide) (Pu.qo (p_pickT rfl rfl)) ?_
   have j6 := Option.some.inj j6; subst j6
   show At _ _ _ _ _ _
   exact n1 ⟨rfl, rfl, rfl, rfl, trivial⟩
  ·have j6 := cdF h9 j6
   refine Lin.q (v := .bool (false)) (by decide) (Qo.eqv (v := .bool (!r7)) (Pu.qo (p_move rfl)) (congrArg Value.bool h9)) ?_
   refine Lin.g (v := .slice x_v1.1 v1.length x_v1.2) (by decide) rfl (Pu.qo (p_move rfl)) ?_
   obtain ⟨r10, h11, j6⟩ := bd.of j6
   refine Lin.g (v := .bool (r10)) (by decide) rfl (q_call (vs := [.slice x_v1.1 v1.length x_v1.2]) (c_spec_NameOk v1 x_v1 h11) rfl (EntsB.cons (Ent.b Ent.z.s.s.s.s) EntsB.nil)) ?_
   refine Lin.g (v := .bool (!r10)) (by decide) rfl (Pu.qo (p_not rfl)) ?_
   refine Lin.q (v := .bool (!r10)) (by decide) (Pu.qo (p_pickF rfl rfl)) ?_
   have j6 := Option.some.inj j6; subst j6
   show At _ _ _ _ _ _
   exact n1 ⟨rfl, rfl, rfl, rfl, trivial⟩
 refine Tr.cond (b := b5) rfl (fun h12 => ?_) (fun h12 => ?_)
 ·have H := cdT h12 H
  refine Tr.seq ?_
  refine Tr.nilT (List Tag) ?_
  refine Tr.nilT Post ?_
  refine Tr.region ?_
  refine Rg.q (v := .agg #[.slice none 0 0, .slice none 0 0]) (Pu.qo (p_buildS (vs := []) (cs := #[.slice none 0 0, .slice none 0 0]) ty26 pl26 rfl rfl)) (by decide) ?_
  refine Rg.en (e_store (v := .agg #[.slice none 0 0, .slice none 0 0]) (cs' := [.slice none 0 0, .slice none 0 0]) ty26 rfl rfl Upd.here.there.there rfl (by simp [Value.cells, Value.oneCell']) (Nat.le_of_ble_eq_true rfl) rfl) rfl ?_
  rintro _ _ _ ⟨rfl, rfl, rfl⟩
  refine Rg.q (v := .int .i64 (0)) (Pu.qo (p_assign rfl)) (by decide) ?_
  refine Rg.q (v := .bool (false)) (Pu.qo (p_assign rfl)) (by decide) (Rg.nl (nT ?_))
  refine tRet ?_
  refine rT (?_)
  have hr := Option.some.inj H; subst hr
  exact back3 (((none, 0), (none, 0)), (), ()) rfl (ResV.agg ty26 rfl Has.here.there.there rfl) (ResV.tmp (v := .int .i64 (0)) rfl) (ResV.tmp (v := .bool (false)) rfl) rfl Ents.nil (.cons Del.here.there (.cons Del.here .nil))
 ·have H := cdF h12 H
  refine tSkip ?_
  refine nT (?_)
  refine Tr.seq (Tr.region ?_)
  refine Rg.q (v := .pointer (some ⟨g3, 0, none⟩)) (Pu.qo (p_fabE fa26_0 rfl rfl)) (by decide) ?_
  refine Rg.q (v := .slice x_v0.1.1 v0.1.length x_v0.1.2) (q_ldb ty23 rfl Has.here.there rfl) (by decide) ?_
  obtain ⟨r13, h14, H⟩ := bd.of H
  refine Rg.ed (e_callB (vs := [.slice x_v0.1.1 v0.1.length x_v0.1.2]) (c_spec_l11Of v0.1 x_v0.1 h14) (fun _ => (Solo.tree (Solo.tree Solo.nil))) rfl (EntsB.cons (Ent.b (Ent.dimm Ent.z.s)) EntsB.nil)) rfl (by decide) ?_
  rintro _ _ _ ⟨x15, rfl, rfl, rfl⟩
  refine Rg.q (v := .slice x_v1.1 v1.length x_v1.2) (Pu.qo (p_move rfl)) (by decide) ?_
  obtain ⟨r16, h17, H⟩ := bd.of H
  refine Rg.ed (e_callM (vs := [.agg #[.slice x15.1.1 r13.1.length x15.1.2, .slice x15.2.1 r13.2.length x15.2.2], .slice x_v1.1 v1.length x_v1.2]) (c_spec_l11Add r13 x15 v1 x_v1 h17) (Solo.tree (Solo.tree Solo.nil)) (fun _ => (Solo.tree (Solo.tree Solo.nil))) rfl (.cons Del.here (.cons Del.here .nil)) (EntsB.cons (Ent.b Ent.z.s.s.s.s) EntsB.nil)) rfl (by decide) ?_
  rintro _ _ _ ⟨x18, rfl, rfl, rfl⟩
  refine Rg.q (v := .agg #[.slice x18.1.1.1 r16.1.1.length x18.1.1.2, .slice x18.1.2.1 r16.1.2.length x18.1.2.2]) (Pu.qo (p_extract rfl rfl)) (by decide) ?_
  refine Rg.q (v := .int .i64 (r16.2.1)) (Pu.qo (p_extract rfl rfl)) (by decide) ?_
  refine Rg.q (v := .bool (r16.2.2)) (Pu.qo (p_extract rfl rfl)) (by decide) ?_
  refine Rg.en (e_store (v := .agg #[.slice x18.1.1.1 r16.1.1.length x18.1.1.2, .slice x18.1.2.1 r16.1.2.length x18.1.2.2]) (cs' := [.slice x18.1.1.1 r16.1.1.length x18.1.1.2, .slice x18.1.2.1 r16.1.2.length x18.1.2.2]) ty26 rfl rfl Upd.here.there.there rfl (by simp [Value.cells, Value.oneCell']) (Nat.le_of_ble_eq_true rfl) rfl) rfl ?_
  rintro _ _ _ ⟨rfl, rfl, rfl⟩
  refine Rg.q (v := .int .i64 (r16.2.1)) (Pu.qo (p_assign rfl)) (by decide) ?_
  refine Rg.q (v := .bool (r16.2.2)) (Pu.qo (p_assign rfl)) (by decide) (Rg.nl (nT ?_))
  refine tRet ?_
  have hr := Option.some.inj H; subst hr
  exact back3 (x18.1, (), ()) rfl (ResV.agg ty26 rfl Has.here.there.there rfl) (ResV.tmp (v := .int .i64 (r16.2.1)) rfl) (ResV.tmp (v := .bool (r16.2.2)) rfl) rfl Ents.nil (.cons Del.here (.cons Del.here .nil))
noncomputable def p_impl_IndexAdd (v0 : Index) (v1 : (List Tag)) : Option (Index × Int × Bool) := bd (bd (p_impl_IndexOk v0) fun r7 => cond (!r7) (some (true)) (bd (p_impl_NameOk v1) fun r10 => some (!r10))) fun b5 => cond (b5) (some ((([]), ([])), 0, false)) (bd (p_impl_numberOf v0.1 v1) fun r13 => cond (decide (0 < r13)) (bd (p_impl_indexOf v0.1) fun r16 => some (r16, r13, true)) (cond (decide ((v0.1.length : Int) = 6)) (bd (p_impl_indexOf v0.1) fun r20 => some (r20, 0, false)) (gd (I64 ((v0.1.length : Int) + 1)) <| bd (p_impl_cloneNames v0.1) fun r24 => gd (room (r24.length + 1)) <| bd (p_impl_indexOf (r24 ++ [v1])) fun r31 => some (r31, (v0.1.length : Int) + 1, true))))
theorem c_impl_IndexAdd {r : Index × Int × Bool} (v0 : Index) (x_v0 : (Option Addr × Nat) × (Option Addr × Nat)) (v1 : (List Tag)) (x_v1 : Option Addr × Nat) (H : p_impl_IndexAdd v0 v1 = some r) : Fn' Try.prog 24 #[.agg #[.slice x_v0.1.1 v0.1.length x_v0.1.2, .slice x_v0.2.1 v0.2.length x_v0.2.2], .slice x_v1.1 v1.length x_v1.2] [imm (.slice x_v0.1.1 v0.1.length x_v0.1.2) v0.1, imm (.slice x_v0.2.1 v0.2.length x_v0.2.2) v0.2, imm (.slice x_v1.1 v1.length x_v1.2) v1] [] (ι := ((Option Addr × Nat) × (Option Addr × Nat)) × Unit × Unit) (fun x => .tuple #[.agg #[.slice x.1.1.1 r.1.1.length x.1.1.2, .slice x.1.2.1 r.1.2.length x.1.2.2], .int .i64 (r.2.1), .bool (r.2.2)]) (fun _ => []) (fun x => [tree (.slice x.1.1.1 r.1.1.length x.1.1.2) r.1.1, tree (.slice x.1.2.1 r.1.2.length x.1.2.2) r.1.2]) := by
 refine calls_of (args := [_, _]) Try.func24 rfl (by kernel_rfl) Try.ntmps24 (by simp) fun c => ?_
 unfold p_impl_IndexAdd at H
 refine Tr.openD Ent.z fun X1 => ?_
 refine Tr.openD Ent.z.s.s fun X2 => ?_
 refine Tr.seq (Tr.region ?_)
 refine Rg.ed (e_box (t := 26) (v := .agg #[.slice x_v0.1.1 v0.1.length x_v0.1.2, .slice x_v0.2.1 v0.2.length x_v0.2.2]) rfl) rfl (by decide) ?_
 rintro _ _ _ ⟨g3, rfl, rfl, rfl⟩
 refine Rg.ed (e_alloc ty26) rfl (by decide) ?_
 rintro _ _ _ ⟨g4, rfl, rfl, rfl⟩
 refine Rg.q (v := .int .i64 (0)) (Pu.qo (p_assign rfl)) (by decide) ?_
 refine Rg.q (v := .bool (false)) (Pu.qo (p_assign rfl)) (by decide) (Rg.nl (nT ?_))
 refine Tr.seq ?_
 obtain ⟨b5, j6, H⟩ := bd.of H
 refine tMid1 [(15, .bool (b5)), (4, .pointer (some ⟨g4, 0, none⟩)), (2, .pointer (some ⟨g3, 0, none⟩)), (1, .slice x_v1.1 v1.length x_v1.2)] ?_ ?_
 ·refine tLinT [(4, .pointer (some ⟨g4, 0, none⟩)), (2, .pointer (some ⟨g3, 0, none⟩)), (1, .slice x_v1.1 v1.length x_v1.2)] ⟨rfl, rfl, rfl, trivial⟩ ?_
  refine Lin.q (v := .agg #[.slice x_v0.1.1 v0.1.length x_v0.1.2, .slice x_v0.2.1 v0.2.length x_v0.2.2]) (by decide) (q_ldbA ty26 rfl Has.here.there rfl) ?_
  obtain ⟨r7, h8, j6⟩ := bd.of j6
  refine Lin.q (v := .bool (r7)) (by decide) (q_call (vs := [.agg #[.slice x_v0.1.1 v0.1.length x_v0.1.2, .slice x_v0.2.1 v0.2.length x_v0.2.2]]) (c_impl_IndexOk v0 x_v0 h8) rfl (EntsB.cons (Ent.b (Ent.dimm Ent.z.s)) (EntsB.cons (Ent.b (Ent.dimm Ent.z)) EntsB.nil))) ?_
  refine Lin.q (v := .bool (!r7)) (by decide) (Pu.qo (p_not rfl)) ?_
  rcases Bool.eq_false_or_eq_true (!r7) with h9 | h9
  ·have j6 := cdT h9 j6
   refine Lin.q (v := .bool (true)) (by decide) (Qo.eqv (v := .bool (!r7)) (Pu.qo (p_move rfl)) (congrArg Value.bool h9)) ?_
   refine Lin.skip (by decide) rfl ?_
   refine Lin.skip (by decide) rfl ?_
   refine Lin.skip (by decide) rfl ?_
   refine Lin.q (v := .bool (true)) (by decide) (Pu.qo (p_pickT rfl rfl)) ?_
   have j6 := Option.some.inj j6; subst j6
   show At _ _ _ _ _ _
   exact n1 ⟨rfl, rfl, rfl, rfl, trivial⟩
  ·have j6 := cdF h9 j6
   refine Lin.q (v := .bool (false)) (by decide) (Qo.eqv (v := .bool (!r7)) (Pu.qo (p_move rfl)) (congrArg Value.bool h9)) ?_
   refine Lin.g (v := .slice x_v1.1 v1.length x_v1.2) (by decide) rfl (Pu.qo (p_move rfl)) ?_
   obtain ⟨r10, h11, j6⟩ := bd.of j6
   refine Lin.g (v := .bool (r10)) (by decide) rfl (q_call (vs := [.slice x_v1.1 v1.length x_v1.2]) (c_impl_NameOk v1 x_v1 h11) rfl (EntsB.cons (Ent.b Ent.z.s.s.s.s) EntsB.nil)) ?_
   refine Lin.g (v := .bool (!r10)) (by decide) rfl (Pu.qo (p_not rfl)) ?_
   refine Lin.q (v := .bool (!r10)) (by decide) (Pu.qo (p_pickF rfl rfl)) ?_
   have j6 := Option.some.inj j6; subst j6
   show At _ _ _ _ _ _
   exact n1 ⟨rfl, rfl, rfl, rfl, trivial⟩
 refine Tr.cond (b := b5) rfl (fun h12 => ?_) (fun h12 => ?_)
 ·have H := cdT h12 H
  refine Tr.seq ?_
  refine Tr.nilT (List Tag) ?_
  refine Tr.nilT Post ?_
  refine Tr.region ?_
  refine Rg.q (v := .agg #[.slice none 0 0, .slice none 0 0]) (Pu.qo (p_buildS (vs := []) (cs := #[.slice none 0 0, .slice none 0 0]) ty26 pl26 rfl rfl)) (by decide) ?_
  refine Rg.en (e_store (v := .agg #[.slice none 0 0, .slice none 0 0]) (cs' := [.slice none 0 0, .slice none 0 0]) ty26 rfl rfl Upd.here.there.there rfl (by simp [Value.cells, Value.oneCell']) (Nat.le_of_ble_eq_true rfl) rfl) rfl ?_
  rintro _ _ _ ⟨rfl, rfl, rfl⟩
  refine Rg.q (v := .int .i64 (0)) (Pu.qo (p_assign rfl)) (by decide) ?_
  refine Rg.q (v := .bool (false)) (Pu.qo (p_assign rfl)) (by decide) (Rg.nl (nT ?_))
  refine tRet ?_
  refine rT (?_)
  have hr := Option.some.inj H; subst hr
  exact back3 (((none, 0), (none, 0)), (), ()) rfl (ResV.agg ty26 rfl Has.here.there.there rfl) (ResV.tmp (v := .int .i64 (0)) rfl) (ResV.tmp (v := .bool (false)) rfl) rfl Ents.nil (.cons Del.here.there (.cons Del.here .nil))
 ·have H := cdF h12 H
  refine tSkip ?_
  refine nT (?_)
  refine Tr.seq (Tr.seq (Tr.region ?_))
  refine Rg.q (v := .pointer (some ⟨g3, 0, none⟩)) (Pu.qo (p_fabE fa26_0 rfl rfl)) (by decide) ?_
  refine Rg.q (v := .slice x_v0.1.1 v0.1.length x_v0.1.2) (q_ldb ty23 rfl Has.here.there rfl) (by decide) ?_
  refine Rg.q (v := .slice x_v1.1 v1.length x_v1.2) (Pu.qo (p_move rfl)) (by decide) ?_
  obtain ⟨r13, h14, H⟩ := bd.of H
  refine Rg.q (v := .int .i64 (r13)) (q_call (vs := [.slice x_v0.1.1 v0.1.length x_v0.1.2, .slice x_v1.1 v1.length x_v1.2]) (c_impl_numberOf v0.1 x_v0.1 v1 x_v1 h14) rfl (EntsB.cons (Ent.b (Ent.dimm Ent.z.s)) (EntsB.cons (Ent.b Ent.z.s.s.s.s) EntsB.nil))) (by decide) ?_
  refine Rg.q (v := .int .i64 (r13)) (Pu.qo (p_assign rfl)) (by decide) (Rg.nl (nT ?_))
  refine Tr.seq (Tr.region ?_)
  refine Rg.q (v := .int .i64 (r13)) (Pu.qo (p_move rfl)) (by decide) ?_
  refine Rg.q (v := .bool (decide (0 < r13))) (Pu.qo (p_gtr rfl rfl)) (by decide) (Rg.nl (nT ?_))
  refine Tr.cond (b := decide (0 < r13)) rfl (fun h15 => ?_) (fun h15 => ?_)
  ·have H := cdT h15 H
   refine Tr.seq (Tr.region ?_)
   refine Rg.q (v := .pointer (some ⟨g3, 0, none⟩)) (Pu.qo (p_fabE fa26_0 rfl rfl)) (by decide) ?_
   refine Rg.q (v := .slice x_v0.1.1 v0.1.length x_v0.1.2) (q_ldb ty23 rfl Has.here.there rfl) (by decide) ?_
   obtain ⟨r16, h17, H⟩ := bd.of H
   refine Rg.ed (e_callB (vs := [.slice x_v0.1.1 v0.1.length x_v0.1.2]) (c_impl_indexOf v0.1 x_v0.1 h17) (fun _ => (Solo.tree (Solo.tree Solo.nil))) rfl (EntsB.cons (Ent.b (Ent.dimm Ent.z.s)) EntsB.nil)) rfl (by decide) ?_
   rintro _ _ _ ⟨x18, rfl, rfl, rfl⟩
   refine Rg.q (v := .int .i64 (r13)) (Pu.qo (p_move rfl)) (by decide) ?_
   refine Rg.en (e_store (v := .agg #[.slice x18.1.1 r16.1.length x18.1.2, .slice x18.2.1 r16.2.length x18.2.2]) (cs' := [.slice x18.1.1 r16.1.length x18.1.2, .slice x18.2.1 r16.2.length x18.2.2]) ty26 rfl rfl Upd.here.there.there rfl (by simp [Value.cells, Value.oneCell']) (Nat.le_of_ble_eq_true rfl) rfl) rfl ?_
   rintro _ _ _ ⟨rfl, rfl, rfl⟩
   refine Rg.q (v := .int .i64 (r13)) (Pu.qo (p_assign rfl)) (by decide) ?_
   refine Rg.q (v := .bool (true)) (Pu.qo (p_assign rfl)) (by decide) (Rg.nl (nT ?_))
   refine tRet ?_
   refine rT (?_)
   have hr := Option.some.inj H; subst hr
   exact back3 (x18, (), ()) rfl (ResV.agg ty26 rfl Has.here.there.there rfl) (ResV.tmp (v := .int .i64 (r13)) rfl) (ResV.tmp (v := .bool (true)) rfl) rfl Ents.nil (.cons Del.here (.cons Del.here .nil))
  ·have H := cdF h15 H
   refine tSkip ?_
   refine nT (?_)
   refine Tr.seq (Tr.seq (Tr.region ?_))
   refine Rg.q (v := .pointer (some ⟨g3, 0, none⟩)) (Pu.qo (p_fabE fa26_0 rfl rfl)) (by decide) ?_
   refine Rg.q (v := .slice x_v0.1.1 v0.1.length x_v0.1.2) (q_ldb ty23 rfl Has.here.there rfl) (by decide) ?_
   refine Rg.q (v := .int .i64 ((v0.1.length : Int))) (Pu.qo (p_len 38 Try.underlying23 rfl)) (by decide) ?_
   refine Rg.q (v := .bool (decide ((v0.1.length : Int) = 6))) (Pu.qo (p_eql rfl rfl)) (by decide) (Rg.nl (nT ?_))
   refine Tr.cond (b := decide ((v0.1.length : Int) = 6)) rfl (fun h19 => ?_) (fun h19 => ?_)
   ·have H := cdT h19 H
    refine Tr.seq (Tr.region ?_)
    refine Rg.q (v := .pointer (some ⟨g3, 0, none⟩)) (Pu.qo (p_fabE fa26_0 rfl rfl)) (by decide) ?_
    refine Rg.q (v := .slice x_v0.1.1 v0.1.length x_v0.1.2) (q_ldb ty23 rfl Has.here.there rfl) (by decide) ?_
    obtain ⟨r20, h21, H⟩ := bd.of H
    refine Rg.ed (e_callB (vs := [.slice x_v0.1.1 v0.1.length x_v0.1.2]) (c_impl_indexOf v0.1 x_v0.1 h21) (fun _ => (Solo.tree (Solo.tree Solo.nil))) rfl (EntsB.cons (Ent.b (Ent.dimm Ent.z.s)) EntsB.nil)) rfl (by decide) ?_
    rintro _ _ _ ⟨x22, rfl, rfl, rfl⟩
    refine Rg.en (e_store (v := .agg #[.slice x22.1.1 r20.1.length x22.1.2, .slice x22.2.1 r20.2.length x22.2.2]) (cs' := [.slice x22.1.1 r20.1.length x22.1.2, .slice x22.2.1 r20.2.length x22.2.2]) ty26 rfl rfl Upd.here.there.there rfl (by simp [Value.cells, Value.oneCell']) (Nat.le_of_ble_eq_true rfl) rfl) rfl ?_
    rintro _ _ _ ⟨rfl, rfl, rfl⟩
    refine Rg.q (v := .int .i64 (0)) (Pu.qo (p_assign rfl)) (by decide) ?_
    refine Rg.q (v := .bool (false)) (Pu.qo (p_assign rfl)) (by decide) (Rg.nl (nT ?_))
    refine tRet ?_
    refine rT (?_)
    have hr := Option.some.inj H; subst hr
    exact back3 (x22, (), ()) rfl (ResV.agg ty26 rfl Has.here.there.there rfl) (ResV.tmp (v := .int .i64 (0)) rfl) (ResV.tmp (v := .bool (false)) rfl) rfl Ents.nil (.cons Del.here (.cons Del.here .nil))
   ·have H := cdF h19 H
    refine tSkip ?_
    refine nT (Tr.seq ?_)
    refine tNwS [(4, .pointer (some ⟨g4, 0, none⟩)), (2, .pointer (some ⟨g3, 0, none⟩)), (1, .slice x_v1.1 v1.length x_v1.2)] 2 [0, 1, 3, 7, 8, 9, 10, 2, 4, 5, 6, 11, 12, 13] [2, 5, 6, 11] [⟨4, [(37, .slice x_v1.1 v1.length x_v1.2)], fun g => .slice (some ⟨g, 0, none⟩) 1 1, fun g => box g 38 [.slice x_v1.1 v1.length x_v1.2]⟩] Try.mixed (by kernel_rfl) (by decide) (show List.Nodup [4] by decide) ⟨rfl, rfl, rfl, trivial⟩ rfl (okCons (FreeA.Ok.of rfl (by decide) (by kernel_rfl) fun c fs os => e_lit (vs := [(0, .slice x_v1.1 v1.length x_v1.2)]) [.slice x_v1.1 v1.length x_v1.2] Try.underlying23 ty38 rfl (by decide) (by decide) (by kernel_rfl)) okNil) ?_
    refine w_pu (v := .pointer (some ⟨g3, 0, none⟩)) rfl (by decide) rfl rfl rfl (p_fabE fa26_0 rfl rfl) ?_
    refine w_q (v := .slice x_v0.1.1 v0.1.length x_v0.1.2) rfl (by decide) rfl rfl rfl (fun F => (q_ldb ty23 rfl (Has.here.there.app F) rfl)) ?_
    refine w_pu (v := .slice x_v1.1 v1.length x_v1.2) rfl (by decide) rfl rfl rfl (p_move rfl) ?_
    refine w_pu (v := .pointer (some ⟨g3, 0, none⟩)) rfl (by decide) rfl rfl rfl (p_fabE fa26_0 rfl rfl) ?_
    refine w_q (v := .slice x_v0.1.1 v0.1.length x_v0.1.2) rfl (by decide) rfl rfl rfl (fun F => (q_ldb ty23 rfl (Has.here.there.app F) rfl)) ?_
    refine w_pu (v := .int .i64 ((v0.1.length : Int))) rfl (by decide) rfl rfl rfl (p_len 38 Try.underlying23 rfl) ?_
    obtain ⟨h23, H⟩ := gd.of H
    refine w_pu (v := .int .i64 ((v0.1.length : Int) + 1)) rfl (by decide) rfl rfl rfl (p_add rfl rfl h23) ?_
    obtain ⟨r24, h25, H⟩ := bd.of H
    refine w_ed rfl (by decide) rfl (Rdy.cons (.inr (.inr ⟨rfl, trivial⟩)) Rdy.nil) rfl (n_callB (vs := [.slice x_v0.1.1 v0.1.length x_v0.1.2]) (c_impl_cloneNames v0.1 x_v0.1 h25) (fun _ => (Solo.tree Solo.nil)) rfl (EntsB.cons (Ent.b (Ent.dimm Ent.z.s)) EntsB.nil)) ?_
    rintro _ _ _ ⟨x26, rfl, rfl, rfl⟩
    refine ⟨(PdOk.q rfl rfl (fun F => (q_ldb ty23 rfl (Has.here.there.there.app F) rfl)) (PdOk.anc (by kernel_rfl) PdOk.nil)), ?_⟩
    refine w_fr (z := ⟨4, [(37, .slice x_v1.1 v1.length x_v1.2)], fun g => .slice (some ⟨g, 0, none⟩) 1 1, fun g => box g 38 [.slice x_v1.1 v1.length x_v1.2]⟩) (.head _) rfl rfl (by decide) (Rdy.cons (.inl rfl) Rdy.nil) ⟨rfl, trivial⟩ ?_; intro g27
    obtain ⟨h30, H⟩ := gd.of H
    refine w_ed rfl (by decide) rfl (Rdy.cons (.inl rfl) Rdy.nil) rfl (n_app1TR (l := r24) (α := (List Tag)) v1 x_v1 Try.underlying23 ty38 rfl rfl (h30.b (by decide)) h30.x rfl (.cons Del.here.there (.cons Del.here .nil)) (Ents.cons Ent.z.s.s.s.s Ents.nil)) ?_
    rintro _ _ _ ⟨a28, c29, rfl, rfl, rfl⟩
    refine ⟨(PdOk.q rfl rfl (fun F => (q_ldb ty23 rfl (Has.here.there.there.app F) rfl)) (PdOk.anc (by kernel_rfl) PdOk.nil)), ?_⟩
    obtain ⟨r31, h32, H⟩ := bd.of H
    refine w_ed rfl (by decide) rfl (Rdy.cons (.inl rfl) Rdy.nil) rfl (n_callB (vs := [.slice a28 ((r24 ++ [v1]).length) c29]) (c_impl_indexOf (r24 ++ [v1]) (a28, c29) h32) (fun _ => (Solo.tree (Solo.tree Solo.nil))) rfl (EntsB.cons (EntB.row Has.here) EntsB.nil)) ?_
    rintro _ _ _ ⟨x33, rfl, rfl, rfl⟩
    refine ⟨(PdOk.q rfl rfl (fun F => (q_ldb ty23 rfl (Has.here.there.there.there.there.app F) rfl)) (PdOk.q rfl rfl (fun F => (q_ldb ty23 rfl (Has.here.there.there.there.there.app F) rfl)) PdOk.nil)), ?_⟩
    refine w_en rfl rfl (Rdy.cons (.inl rfl) Rdy.nil) rfl (n_store (v := .agg #[.slice x33.1.1 r31.1.length x33.1.2, .slice x33.2.1 r31.2.length x33.2.2]) (cs' := [.slice x33.1.1 r31.1.length x33.1.2, .slice x33.2.1 r31.2.length x33.2.2]) ty26 rfl rfl Upd.here.there.there.there rfl (by simp [Value.cells, Value.oneCell']) (Nat.le_of_ble_eq_true rfl) rfl) ?_
    rintro _ _ _ ⟨rfl, rfl, rfl⟩
    refine ⟨(PdOk.q rfl rfl (fun F => (q_ldb ty23 rfl (Has.here.there.there.there.there.app F) rfl)) (PdOk.anc (by kernel_rfl) PdOk.nil)), ?_⟩
    refine w_pu (v := .int .i64 ((v0.1.length : Int) + 1)) rfl (by decide) rfl rfl rfl (p_assign rfl) ?_
    refine w_pu (v := .bool (true)) rfl (by decide) rfl rfl rfl (p_assign rfl) ?_
    refine w_nil ?_
    show At _ _ _ _ _ _
    refine nT (?_)
    refine tRet ?_
    have hr := Option.some.inj H; subst hr
    exact back3 (x33, (), ()) rfl (ResV.agg ty26 rfl Has.here.there.there.there rfl) (ResV.tmp (v := .int .i64 ((v0.1.length : Int) + 1)) rfl) (ResV.tmp (v := .bool (true)) rfl) rfl Ents.nil (.cons Del.here (.cons Del.here .nil))
noncomputable def p_laws_heldTagS_b0 (v0 : (List Tag)) (Q5 : Int × Int) : Option ((Int × Int) ⊕ (Int ⊕ Int)) := cond (decide (Q5.2 < (v0.length : Int))) (gd (ix Q5.2 v0.length) <| bd (p_laws_markText Q5.1) fun r15 => cond (!decide ((nth v0 Q5.2.toNat).1 = r15)) (some (.inr (.inr (-1)))) (gd (I64 (Q5.1 + 1)) <| bd (p_laws_markText (Q5.1 + 1)) fun r19 => cond (!decide ((nth v0 Q5.2.toNat).2 = r19)) (some (.inr (.inr (-1)))) (gd (I64 ((Q5.1 + 1) + 1)) <| gd (I64 (Q5.2 + 1)) <| some (.inl ((Q5.1 + 1) + 1, Q5.2 + 1))))) (some (.inr (.inl Q5.1)))
noncomputable def p_laws_heldTagS (v0 : (List Tag)) (v1 : Int) : Option (Int) := bd (lp (p_laws_heldTagS_b0 v0) (v1, 0)) <| sw (fun e24 => some e24) (fun q => some q)
theorem c_laws_heldTagS {r : Int} (v0 : (List Tag)) (x_v0 : Option Addr × Nat) (v1 : Int) (H : p_laws_heldTagS v0 v1 = some r) : Fn' Try.prog 130 #[.slice x_v0.1 v0.length x_v0.2, .int .i64 (v1)] [imm (.slice x_v0.1 v0.length x_v0.2) v0] [] (ι := Unit) (fun _ => .int .i64 (r)) (fun _ => []) (fun _ => []) := by
 refine calls_of (args := [_, _]) Try.func130 rfl (by kernel_rfl) Try.ntmps130 (by simp) fun c => ?_
 unfold p_laws_heldTagS at H
 refine Tr.seq (Tr.region ?_)
 refine Rg.q (v := .int .i64 (0)) (Pu.qo (p_assign rfl)) (by decide) (Rg.nl (nT ?_))
 refine Tr.seq (Tr.seq (Tr.region ?_))
 refine Rg.q (v := .int .i64 (0)) (Pu.qo (p_assign rfl)) (by decide) (Rg.nl (nT ?_))
 obtain ⟨x1, hx2, H⟩ := bd.of H
 obtain ⟨n3, hx2⟩ := lp.of hx2
 refine tMidNC (ι := { q : (Int) × Unit // x1 = .inl q.1 }) (fun ψ => [(1, .int .i64 (ψ.1.1))]) (fun ψ => []) ?_ ?_
 ·refine Tr.block ?_
  refine tLoopC (ι := { q : Nat × (Int × Int) × Unit // itr (p_laws_heldTagS_b0 v0) q.1 q.2.1 = some x1 }) (fun ζ => [(0, .slice x_v0.1 v0.length x_v0.2), (1, .int .i64 (ζ.1.2.1.1)), (5, .int .i64 (ζ.1.2.1.2))]) (fun ζ => []) (fun ζ => ζ.1.1) ⟨(n3, (v1, 0), ()), hx2⟩ ⟨rfl, rfl, rfl, trivial⟩ Take.nil ?_
  rintro ⟨⟨m4, Q5, z6⟩, hk11⟩
  obtain ⟨m12, t8, e, H1, hi9, hb10⟩ := itr.of (n := m4) (s := Q5) hk11
  subst e; unfold p_laws_heldTagS_b0 at H1
  show Tr _ _ _ _ _ [(0, .slice x_v0.1 v0.length x_v0.2), (1, .int .i64 (Q5.1)), (5, .int .i64 (Q5.2))] _ []
  refine Tr.seq (Tr.seq (Tr.region ?_))
  refine Rg.q (v := .int .i64 (Q5.2)) (Pu.qo (p_move rfl)) (by decide) ?_
  refine Rg.q (v := .slice x_v0.1 v0.length x_v0.2) (Pu.qo (p_move rfl)) (by decide) ?_
  refine Rg.q (v := .int .i64 ((v0.length : Int))) (Pu.qo (p_len 30 Try.underlying38 rfl)) (by decide) ?_
  refine Rg.q (v := .bool (decide (Q5.2 < (v0.length : Int)))) (Pu.qo (p_lss rfl rfl)) (by decide) (Rg.nl (nT ?_))
  refine Tr.cond (b := decide (Q5.2 < (v0.length : Int))) rfl (fun h13 => ?_) (fun h13 => ?_)
  ·have H1 := cdT h13 H1
   refine tSkip ?_
   refine nT (Tr.seq ?_)
   refine Tr.block ?_
   refine Tr.seq ?_
   refine Tr.seq ?_
   refine tLinS [(0, .slice x_v0.1 v0.length x_v0.2), (1, .int .i64 (Q5.1)), (5, .int .i64 (Q5.2))] Try.mixed (.inr (by kernel_rfl)) ⟨rfl, rfl, rfl, trivial⟩ rfl ?_
   refine Lin.q (v := .slice x_v0.1 v0.length x_v0.2) (by decide) (Pu.qo (p_move rfl)) ?_
   refine Lin.q (v := .int .i64 (Q5.2)) (by decide) (Pu.qo (p_move rfl)) ?_
   obtain ⟨h14, H1⟩ := gd.of H1
   refine Lin.q (v := elp x_v0.1 (Q5.2.toNat * Enc.sz Tag + 0)) (by decide) (q_ixg (l := v0) (E := fun i => Flat.enc (nth v0 i)) (oa := x_v0.1) Try.underlying38 ty30 rfl rfl h14 rfl (EntB.flat (Ent.b Ent.z))) ?_
   refine Lin.q (v := elp x_v0.1 (Q5.2.toNat * Enc.sz Tag + 0)) (by decide) (q_faeE (l := v0) (E := fun i => Flat.enc (nth v0 i)) (oa := x_v0.1) (j := 0) Q5.2.toNat fa30_0 rfl (EntB.flat (Ent.b Ent.z)) h14.lt rfl) ?_
   refine Lin.q (v := .string ((nth v0 Q5.2.toNat).1)) (by decide) (q_lde (l := v0) (E := fun i => Flat.enc (nth v0 i)) (oa := x_v0.1) (i := Q5.2.toNat) (j := 0) ty9 rfl (EntB.flat (Ent.b Ent.z)) h14.lt rfl) ?_
   refine Lin.q (v := .int .i64 (Q5.1)) (by decide) (Pu.qo (p_move rfl)) ?_
   obtain ⟨r15, h16, H1⟩ := bd.of H1
   refine Lin.q (v := .string (r15)) (by decide) (q_call (vs := [.int .i64 (Q5.1)]) (c_laws_markText Q5.1 h16) rfl EntsB.nil) ?_
   refine Lin.q (v := .bool (!decide ((nth v0 Q5.2.toNat).1 = r15))) (by decide) (Pu.qo (p_sneq rfl rfl)) ?_
   show At _ _ _ _ _ _
   refine nT (?_)
   refine Tr.cond (b := !decide ((nth v0 Q5.2.toNat).1 = r15)) rfl (fun h17 => ?_) (fun h17 => ?_)
   ·have H1 := cdT h17 H1
    refine Tr.seq (Tr.region ?_)
    refine Rg.q (v := .int .i64 (-1)) (Pu.qo (p_assign rfl)) (by decide) (Rg.nl (nT ?_))
    refine tRet ?_
    refine rT (rB (rT (rT (rB (rT (rT (?_)))))))
    have hx := hb10 _ (Option.some.inj H1).symm; subst hx
    replace H := sw.r H
    have hr := Option.some.inj H; subst hr
    exact back1 () rfl (ResV.tmp (v := .int .i64 (-1)) rfl) rfl Ents.nil Take.nil
   ·have H1 := cdF h17 H1
    refine tSkip ?_
    refine nT (?_)
    refine Tr.seq (Tr.region ?_)
    refine Rg.q (v := .int .i64 (Q5.1)) (Pu.qo (p_move rfl)) (by decide) ?_
    obtain ⟨h18, H1⟩ := gd.of H1
    refine Rg.q (v := .int .i64 (Q5.1 + 1)) (Pu.qo (p_add rfl rfl h18)) (by decide) ?_
    refine Rg.q (v := .int .i64 (Q5.1 + 1)) (Pu.qo (p_assign rfl)) (by decide) (Rg.nl (nT ?_))
    refine Tr.seq ?_
    refine Tr.seq ?_
    refine tLinS [(1, .int .i64 (Q5.1 + 1)), (0, .slice x_v0.1 v0.length x_v0.2), (5, .int .i64 (Q5.2))] Try.mixed (.inr (by kernel_rfl)) ⟨rfl, rfl, rfl, trivial⟩ rfl ?_
    refine Lin.q (v := .slice x_v0.1 v0.length x_v0.2) (by decide) (Pu.qo (p_move rfl)) ?_
    refine Lin.q (v := .int .i64 (Q5.2)) (by decide) (Pu.qo (p_move rfl)) ?_
    refine Lin.q (v := elp x_v0.1 (Q5.2.toNat * Enc.sz Tag + 0)) (by decide) (q_ixg (l := v0) (E := fun i => Flat.enc (nth v0 i)) (oa := x_v0.1) Try.underlying38 ty30 rfl rfl h14 rfl (EntB.flat (Ent.b Ent.z))) ?_
    refine Lin.q (v := elp x_v0.1 (Q5.2.toNat * Enc.sz Tag + 1)) (by decide) (q_faeE (l := v0) (E := fun i => Flat.enc (nth v0 i)) (oa := x_v0.1) (j := 0) Q5.2.toNat fa30_1 rfl (EntB.flat (Ent.b Ent.z)) h14.lt rfl) ?_
    refine Lin.q (v := .string ((nth v0 Q5.2.toNat).2)) (by decide) (q_lde (l := v0) (E := fun i => Flat.enc (nth v0 i)) (oa := x_v0.1) (i := Q5.2.toNat) (j := 1) ty9 rfl (EntB.flat (Ent.b Ent.z)) h14.lt rfl) ?_
    refine Lin.q (v := .int .i64 (Q5.1 + 1)) (by decide) (Pu.qo (p_move rfl)) ?_
    obtain ⟨r19, h20, H1⟩ := bd.of H1
    refine Lin.q (v := .string (r19)) (by decide) (q_call (vs := [.int .i64 (Q5.1 + 1)]) (c_laws_markText (Q5.1 + 1) h20) rfl EntsB.nil) ?_
    refine Lin.q (v := .bool (!decide ((nth v0 Q5.2.toNat).2 = r19))) (by decide) (Pu.qo (p_sneq rfl rfl)) ?_
    show At _ _ _ _ _ _
    refine nT (?_)
    refine Tr.cond (b := !decide ((nth v0 Q5.2.toNat).2 = r19)) rfl (fun h21 => ?_) (fun h21 => ?_)
    ·have H1 := cdT h21 H1
     refine Tr.seq (Tr.region ?_)
     refine Rg.q (v := .int .i64 (-1)) (Pu.qo (p_assign rfl)) (by decide) (Rg.nl (nT ?_))
     refine tRet ?_
     refine rT (rB (rT (rT (rB (rT (rT (?_)))))))
     have hx := hb10 _ (Option.some.inj H1).symm; subst hx
     replace H := sw.r H
     have hr := Option.some.inj H; subst hr
     exact back1 () rfl (ResV.tmp (v := .int .i64 (-1)) rfl) rfl Ents.nil Take.nil
    ·have H1 := cdF h21 H1
     refine tSkip ?_
     refine nT (?_)
     refine Tr.region ?_
     refine Rg.q (v := .int .i64 (Q5.1 + 1)) (Pu.qo (p_move rfl)) (by decide) ?_
     obtain ⟨h22, H1⟩ := gd.of H1
     refine Rg.q (v := .int .i64 ((Q5.1 + 1) + 1)) (Pu.qo (p_add rfl rfl h22)) (by decide) ?_
     refine Rg.q (v := .int .i64 ((Q5.1 + 1) + 1)) (Pu.qo (p_assign rfl)) (by decide) (Rg.nl ?_)
     refine nB (nT (?_))
     refine Tr.region ?_
     refine Rg.q (v := .int .i64 (Q5.2)) (Pu.qo (p_move rfl)) (by decide) ?_
     obtain ⟨h23, H1⟩ := gd.of H1
     refine Rg.q (v := .int .i64 (Q5.2 + 1)) (Pu.qo (p_add rfl rfl h23)) (by decide) ?_
     refine Rg.q (v := .int .i64 (Q5.2 + 1)) (Pu.qo (p_assign rfl)) (by decide) (Rg.nl ?_)
     exact nLC ⟨(m12, ((Q5.1 + 1) + 1, Q5.2 + 1), ()), hi9 _ (Option.some.inj H1).symm⟩ (Nat.lt_succ_self _) ⟨rfl, rfl, rfl, trivial⟩ Ents.refl Take.nil
  ·have H1 := cdF h13 H1
   refine tExit (xT (xT (xE (?_))))
   exact nMC ⟨(Q5.1, ()), (hb10 _ (Option.some.inj H1).symm).symm⟩ ⟨rfl, trivial⟩ Ents.refl Take.nil
 ·rintro ⟨⟨e24, y7⟩, hx⟩; subst hx; replace H := sw.l H
  show At _ _ [(1, .int .i64 (e24))] _ [] _
  refine nT (?_)
  refine Tr.seq (Tr.region ?_)
  refine Rg.q (v := .int .i64 (e24)) (Pu.qo (p_move rfl)) (by decide) ?_
  refine Rg.q (v := .int .i64 (e24)) (Pu.qo (p_assign rfl)) (by decide) (Rg.nl (nT ?_))
  refine tRet ?_
  have hr := Option.some.inj H; subst hr
  exact back1 () rfl (ResV.tmp (v := .int .i64 (e24)) rfl) rfl Ents.nil Take.nil
noncomputable def p_laws_heldTagSS_b0 (v0 : (List (List Tag))) (Q6 : Int × Int) : Option ((Int × Int) ⊕ (Int ⊕ Int)) := cond (decide (Q6.2 < (v0.length : Int))) (gd (ix Q6.2 v0.length) <| bd (p_laws_heldTagS (nth v0 Q6.2.toNat) Q6.1) fun r16 => cond (decide (r16 < 0)) (some (.inr (.inr (-1)))) (gd (I64 (Q6.2 + 1)) <| some (.inl (r16, Q6.2 + 1)))) (some (.inr (.inl Q6.1)))
noncomputable def p_laws_heldTagSS (v0 : (List (List Tag))) (v1 : Int) : Option (Int) := bd (lp (p_laws_heldTagSS_b0 v0) (v1, 0)) <| sw (fun e20 => some e20) (fun q => some q)
theorem c_laws_heldTagSS {r : Int} (v0 : (List (List Tag))) (x_v0 : Option Addr × Nat) (v1 : Int) (H : p_laws_heldTagSS v0 v1 = some r) : Fn' Try.prog 94 #[.slice x_v0.1 v0.length x_v0.2, .int .i64 (v1)] [imm (.slice x_v0.1 v0.length x_v0.2) v0] [] (ι := Unit) (fun _ => .int .i64 (r)) (fun _ => []) (fun _ => []) := by
 refine calls_of (args := [_, _]) Try.func94 rfl (by kernel_rfl) Try.ntmps94 (by simp) fun c => ?_
 unfold p_laws_heldTagSS at H
 refine Tr.openD Ent.z fun X1 => ?_
 refine Tr.seq (Tr.region ?_)
 refine Rg.q (v := .int .i64 (0)) (Pu.qo (p_assign rfl)) (by decide) (Rg.nl (nT ?_))
 refine Tr.seq (Tr.seq (Tr.region ?_))
 refine Rg.q (v := .int .i64 (0)) (Pu.qo (p_assign rfl)) (by decide) (Rg.nl (nT ?_))
 obtain ⟨x2, hx3, H⟩ := bd.of H
 obtain ⟨n4, hx3⟩ := lp.of hx3
 refine tMidNC (ι := { q : (Int) × Unit // x2 = .inl q.1 }) (fun ψ => [(1, .int .i64 (ψ.1.1))]) (fun ψ => []) ?_ ?_
 ·refine Tr.block ?_
  refine tLoopC (ι := { q : Nat × (Int × Int) × Unit // itr (p_laws_heldTagSS_b0 v0) q.1 q.2.1 = some x2 }) (fun ζ => [(0, .slice x_v0.1 v0.length x_v0.2), (1, .int .i64 (ζ.1.2.1.1)), (5, .int .i64 (ζ.1.2.1.2))]) (fun ζ => []) (fun ζ => ζ.1.1) ⟨(n4, (v1, 0), ()), hx3⟩ ⟨rfl, rfl, rfl, trivial⟩ Take.nil ?_
  rintro ⟨⟨m5, Q6, z7⟩, hk12⟩
  obtain ⟨m13, t9, e, H1, hi10, hb11⟩ := itr.of (n := m5) (s := Q6) hk12
  subst e; unfold p_laws_heldTagSS_b0 at H1
  show Tr _ _ _ _ _ [(0, .slice x_v0.1 v0.length x_v0.2), (1, .int .i64 (Q6.1)), (5, .int .i64 (Q6.2))] _ []
  refine Tr.seq (Tr.seq (Tr.region ?_))
  refine Rg.q (v := .int .i64 (Q6.2)) (Pu.qo (p_move rfl)) (by decide) ?_
  refine Rg.q (v := .slice x_v0.1 v0.length x_v0.2) (Pu.qo (p_move rfl)) (by decide) ?_
  refine Rg.q (v := .int .i64 ((v0.length : Int))) (Pu.qo (p_len 38 Try.underlying23 rfl)) (by decide) ?_
  refine Rg.q (v := .bool (decide (Q6.2 < (v0.length : Int)))) (Pu.qo (p_lss rfl rfl)) (by decide) (Rg.nl (nT ?_))
  refine Tr.cond (b := decide (Q6.2 < (v0.length : Int))) rfl (fun h14 => ?_) (fun h14 => ?_)
  ·have H1 := cdT h14 H1
   refine tSkip ?_
   refine nT (Tr.seq ?_)
   refine Tr.block ?_
   refine Tr.seq (Tr.region ?_)
   refine Rg.q (v := .slice x_v0.1 v0.length x_v0.2) (Pu.qo (p_move rfl)) (by decide) ?_
   refine Rg.q (v := .int .i64 (Q6.2)) (Pu.qo (p_move rfl)) (by decide) ?_
   obtain ⟨h15, H1⟩ := gd.of H1
   refine Rg.q (v := elp x_v0.1 (Q6.2.toNat * Enc.sz (List Tag) + 0)) (q_ixg (l := v0) (E := fun i => Dp.denc (nth v0 i) (X1 i)) (oa := x_v0.1) Try.underlying23 ty38 rfl rfl h15 rfl (Ent.b (Ent.darr Ent.z))) (by decide) ?_
   refine Rg.q (v := .slice ((X1 Q6.2.toNat).1) ((nth v0 Q6.2.toNat).length) ((X1 Q6.2.toNat).2.1)) (q_lde (l := v0) (E := fun i => Dp.denc (nth v0 i) (X1 i)) (oa := x_v0.1) (i := Q6.2.toNat) (j := 0) ty38 rfl (Ent.b (Ent.darr Ent.z)) h15.lt rfl) (by decide) ?_
   refine Rg.q (v := .int .i64 (Q6.1)) (Pu.qo (p_move rfl)) (by decide) ?_
   obtain ⟨r16, h17, H1⟩ := bd.of H1
   refine Rg.q (v := .int .i64 (r16)) (q_call (vs := [.slice ((X1 Q6.2.toNat).1) ((nth v0 Q6.2.toNat).length) ((X1 Q6.2.toNat).2.1), .int .i64 (Q6.1)]) (c_laws_heldTagS (nth v0 Q6.2.toNat) ((X1 Q6.2.toNat).1, (X1 Q6.2.toNat).2.1) Q6.1 h17) rfl (EntsB.cons (Ent.b (Ent.dimm (Ent.del Ent.z h15.lt))) EntsB.nil)) (by decide) ?_
   refine Rg.q (v := .int .i64 (r16)) (Pu.qo (p_assign rfl)) (by decide) (Rg.nl (nT ?_))
   refine Tr.seq (Tr.region ?_)
   refine Rg.q (v := .int .i64 (r16)) (Pu.qo (p_move rfl)) (by decide) ?_
   refine Rg.q (v := .bool (decide (r16 < 0))) (Pu.qo (p_lss rfl rfl)) (by decide) (Rg.nl (nT ?_))
   refine Tr.cond (b := decide (r16 < 0)) rfl (fun h18 => ?_) (fun h18 => ?_)
   ·have H1 := cdT h18 H1
    refine Tr.seq (Tr.region ?_)
    refine Rg.q (v := .int .i64 (-1)) (Pu.qo (p_assign rfl)) (by decide) (Rg.nl (nT ?_))
    refine tRet ?_
    refine rB (rT (rT (rB (rT (rT (?_))))))
    have hx := hb11 _ (Option.some.inj H1).symm; subst hx
    replace H := sw.r H
    have hr := Option.some.inj H; subst hr
    exact back1 () rfl (ResV.tmp (v := .int .i64 (-1)) rfl) rfl Ents.nil Take.nil
   ·have H1 := cdF h18 H1
    refine tSkip ?_
    refine nB (nT (?_))
    refine Tr.region ?_
    refine Rg.q (v := .int .i64 (Q6.2)) (Pu.qo (p_move rfl)) (by decide) ?_
    obtain ⟨h19, H1⟩ := gd.of H1
    refine Rg.q (v := .int .i64 (Q6.2 + 1)) (Pu.qo (p_add rfl rfl h19)) (by decide) ?_
    refine Rg.q (v := .int .i64 (Q6.2 + 1)) (Pu.qo (p_assign rfl)) (by decide) (Rg.nl ?_)
    exact nLC ⟨(m13, (r16, Q6.2 + 1), ()), hi10 _ (Option.some.inj H1).symm⟩ (Nat.lt_succ_self _) ⟨rfl, rfl, rfl, trivial⟩ Ents.refl Take.nil
  ·have H1 := cdF h14 H1
   refine tExit (xT (xT (xE (?_))))
   exact nMC ⟨(Q6.1, ()), (hb11 _ (Option.some.inj H1).symm).symm⟩ ⟨rfl, trivial⟩ Ents.refl Take.nil
 ·rintro ⟨⟨e20, y8⟩, hx⟩; subst hx; replace H := sw.l H
  show At _ _ [(1, .int .i64 (e20))] _ [] _
  refine nT (?_)
  refine Tr.seq (Tr.region ?_)
  refine Rg.q (v := .int .i64 (e20)) (Pu.qo (p_move rfl)) (by decide) ?_
  refine Rg.q (v := .int .i64 (e20)) (Pu.qo (p_assign rfl)) (by decide) (Rg.nl (nT ?_))
  refine tRet ?_
  have hr := Option.some.inj H; subst hr
  exact back1 () rfl (ResV.tmp (v := .int .i64 (e20)) rfl) rfl Ents.nil Take.nil
noncomputable def p_laws_heldPostS_b0 (v0 : (List Post)) (Q6 : Int × Int) : Option ((Int × Int) ⊕ (Int ⊕ Int)) := cond (decide (Q6.2 < (v0.length : Int))) (gd (ix Q6.2 v0.length) <| bd (p_laws_markText Q6.1) fun r16 => cond (!decide (((nth v0 Q6.2.toNat).1).1 = r16)) (some (.inr (.inr (-1)))) (gd (I64 (Q6.1 + 1)) <| bd (p_laws_markText (Q6.1 + 1)) fun r20 => cond (!decide (((nth v0 Q6.2.toNat).1).2 = r20)) (some (.inr (.inr (-1)))) (gd (I64 ((Q6.1 + 1) + 1)) <| bd (p_laws_heldIntS ((nth v0 Q6.2.toNat).2) ((Q6.1 + 1) + 1)) fun r24 => cond (decide (r24 < 0)) (some (.inr (.inr (-1)))) (gd (I64 (Q6.2 + 1)) <| some (.inl (r24, Q6.2 + 1)))))) (some (.inr (.inl Q6.1)))
noncomputable def p_laws_heldPostS (v0 : (List Post)) (v1 : Int) : Option (Int) := bd (lp (p_laws_heldPostS_b0 v0) (v1, 0)) <| sw (fun e28 => some e28) (fun q => some q)
theorem c_laws_heldPostS {r : Int} (v0 : (List Post)) (x_v0 : Option Addr × Nat) (v1 : Int) (H : p_laws_heldPostS v0 v1 = some r) : Fn' Try.prog 95 #[.slice x_v0.1 v0.length x_v0.2, .int .i64 (v1)] [imm (.slice x_v0.1 v0.length x_v0.2) v0] [] (ι := Unit) (fun _ => .int .i64 (r)) (fun _ => []) (fun _ => []) := by
 refine calls_of (args := [_, _]) Try.func95 rfl (by kernel_rfl) Try.ntmps95 (by simp) fun c => ?_
 unfold p_laws_heldPostS at H
 refine Tr.openD Ent.z fun X1 => ?_
 refine Tr.seq (Tr.region ?_)
 refine Rg.q (v := .int .i64 (0)) (Pu.qo (p_assign rfl)) (by decide) (Rg.nl (nT ?_))
 refine Tr.seq (Tr.seq (Tr.region ?_))
 refine Rg.q (v := .int .i64 (0)) (Pu.qo (p_assign rfl)) (by decide) (Rg.nl (nT ?_))
 obtain ⟨x2, hx3, H⟩ := bd.of H
 obtain ⟨n4, hx3⟩ := lp.of hx3
 refine tMidNC (ι := { q : (Int) × Unit // x2 = .inl q.1 }) (fun ψ => [(1, .int .i64 (ψ.1.1))]) (fun ψ => []) ?_ ?_
 ·refine Tr.block ?_
  refine tLoopC (ι := { q : Nat × (Int × Int) × Unit // itr (p_laws_heldPostS_b0 v0) q.1 q.2.1 = some x2 }) (fun ζ => [(0, .slice x_v0.1 v0.length x_v0.2), (1, .int .i64 (ζ.1.2.1.1)), (5, .int .i64 (ζ.1.2.1.2))]) (fun ζ => []) (fun ζ => ζ.1.1) ⟨(n4, (v1, 0), ()), hx3⟩ ⟨rfl, rfl, rfl, trivial⟩ Take.nil ?_
  rintro ⟨⟨m5, Q6, z7⟩, hk12⟩
  obtain ⟨m13, t9, e, H1, hi10, hb11⟩ := itr.of (n := m5) (s := Q6) hk12
  subst e; unfold p_laws_heldPostS_b0 at H1
  show Tr _ _ _ _ _ [(0, .slice x_v0.1 v0.length x_v0.2), (1, .int .i64 (Q6.1)), (5, .int .i64 (Q6.2))] _ []
  refine Tr.seq (Tr.seq (Tr.region ?_))
  refine Rg.q (v := .int .i64 (Q6.2)) (Pu.qo (p_move rfl)) (by decide) ?_
  refine Rg.q (v := .slice x_v0.1 v0.length x_v0.2) (Pu.qo (p_move rfl)) (by decide) ?_
  refine Rg.q (v := .int .i64 ((v0.length : Int))) (Pu.qo (p_len 33 Try.underlying24 rfl)) (by decide) ?_
  refine Rg.q (v := .bool (decide (Q6.2 < (v0.length : Int)))) (Pu.qo (p_lss rfl rfl)) (by decide) (Rg.nl (nT ?_))
  refine Tr.cond (b := decide (Q6.2 < (v0.length : Int))) rfl (fun h14 => ?_) (fun h14 => ?_)
  ·have H1 := cdT h14 H1
   refine tSkip ?_
   refine nT (Tr.seq ?_)
   refine Tr.block ?_
   refine Tr.seq ?_
   refine Tr.seq ?_
   refine tLinS [(0, .slice x_v0.1 v0.length x_v0.2), (1, .int .i64 (Q6.1)), (5, .int .i64 (Q6.2))] Try.mixed (.inr (by kernel_rfl)) ⟨rfl, rfl, rfl, trivial⟩ rfl ?_
   refine Lin.q (v := .slice x_v0.1 v0.length x_v0.2) (by decide) (Pu.qo (p_move rfl)) ?_
   refine Lin.q (v := .int .i64 (Q6.2)) (by decide) (Pu.qo (p_move rfl)) ?_
   obtain ⟨h15, H1⟩ := gd.of H1
   refine Lin.q (v := elp x_v0.1 (Q6.2.toNat * Enc.sz Post + 0)) (by decide) (q_ixg (l := v0) (E := fun i => Dp.denc (nth v0 i) (X1 i)) (oa := x_v0.1) Try.underlying24 ty33 rfl rfl h15 rfl (Ent.b (Ent.darr Ent.z))) ?_
   refine Lin.q (v := elp x_v0.1 (Q6.2.toNat * Enc.sz Post + 0)) (by decide) (q_faeE (l := v0) (E := fun i => Dp.denc (nth v0 i) (X1 i)) (oa := x_v0.1) (j := 0) Q6.2.toNat fa33_0 rfl (Ent.b (Ent.darr Ent.z)) h15.lt rfl) ?_
   refine Lin.q (v := elp x_v0.1 (Q6.2.toNat * Enc.sz Post + 0)) (by decide) (q_faeE (l := v0) (E := fun i => Dp.denc (nth v0 i) (X1 i)) (oa := x_v0.1) (j := 0) Q6.2.toNat fa30_0 rfl (Ent.b (Ent.darr Ent.z)) h15.lt rfl) ?_
   refine Lin.q (v := .string (((nth v0 Q6.2.toNat).1).1)) (by decide) (q_lde (l := v0) (E := fun i => Dp.denc (nth v0 i) (X1 i)) (oa := x_v0.1) (i := Q6.2.toNat) (j := 0) ty9 rfl (Ent.b (Ent.darr Ent.z)) h15.lt rfl) ?_
   refine Lin.q (v := .int .i64 (Q6.1)) (by decide) (Pu.qo (p_move rfl)) ?_
   obtain ⟨r16, h17, H1⟩ := bd.of H1
   refine Lin.q (v := .string (r16)) (by decide) (q_call (vs := [.int .i64 (Q6.1)]) (c_laws_markText Q6.1 h17) rfl EntsB.nil) ?_
   refine Lin.q (v := .bool (!decide (((nth v0 Q6.2.toNat).1).1 = r16))) (by decide) (Pu.qo (p_sneq rfl rfl)) ?_
   show At _ _ _ _ _ _
   refine nT (?_)
   refine Tr.cond (b := !decide (((nth v0 Q6.2.toNat).1).1 = r16)) rfl (fun h18 => ?_) (fun h18 => ?_)
   ·have H1 := cdT h18 H1
    refine Tr.seq (Tr.region ?_)
    refine Rg.q (v := .int .i64 (-1)) (Pu.qo (p_assign rfl)) (by decide) (Rg.nl (nT ?_))
    refine tRet ?_
    refine rT (rB (rT (rT (rB (rT (rT (?_)))))))
    have hx := hb11 _ (Option.some.inj H1).symm; subst hx
    replace H := sw.r H
    have hr := Option.some.inj H; subst hr
    exact back1 () rfl (ResV.tmp (v := .int .i64 (-1)) rfl) rfl Ents.nil Take.nil
   ·have H1 := cdF h18 H1
    refine tSkip ?_
    refine nT (?_)
    refine Tr.seq (Tr.region ?_)
    refine Rg.q (v := .int .i64 (Q6.1)) (Pu.qo (p_move rfl)) (by decide) ?_
    obtain ⟨h19, H1⟩ := gd.of H1
    refine Rg.q (v := .int .i64 (Q6.1 + 1)) (Pu.qo (p_add rfl rfl h19)) (by decide) ?_
    refine Rg.q (v := .int .i64 (Q6.1 + 1)) (Pu.qo (p_assign rfl)) (by decide) (Rg.nl (nT ?_))
    refine Tr.seq ?_
    refine Tr.seq ?_
    refine tLinS [(1, .int .i64 (Q6.1 + 1)), (0, .slice x_v0.1 v0.length x_v0.2), (5, .int .i64 (Q6.2))] Try.mixed (.inr (by kernel_rfl)) ⟨rfl, rfl, rfl, trivial⟩ rfl ?_
    refine Lin.q (v := .slice x_v0.1 v0.length x_v0.2) (by decide) (Pu.qo (p_move rfl)) ?_
    refine Lin.q (v := .int .i64 (Q6.2)) (by decide) (Pu.qo (p_move rfl)) ?_
    refine Lin.q (v := elp x_v0.1 (Q6.2.toNat * Enc.sz Post + 0)) (by decide) (q_ixg (l := v0) (E := fun i => Dp.denc (nth v0 i) (X1 i)) (oa := x_v0.1) Try.underlying24 ty33 rfl rfl h15 rfl (Ent.b (Ent.darr Ent.z))) ?_
    refine Lin.q (v := elp x_v0.1 (Q6.2.toNat * Enc.sz Post + 0)) (by decide) (q_faeE (l := v0) (E := fun i => Dp.denc (nth v0 i) (X1 i)) (oa := x_v0.1) (j := 0) Q6.2.toNat fa33_0 rfl (Ent.b (Ent.darr Ent.z)) h15.lt rfl) ?_
    refine Lin.q (v := elp x_v0.1 (Q6.2.toNat * Enc.sz Post + 1)) (by decide) (q_faeE (l := v0) (E := fun i => Dp.denc (nth v0 i) (X1 i)) (oa := x_v0.1) (j := 0) Q6.2.toNat fa30_1 rfl (Ent.b (Ent.darr Ent.z)) h15.lt rfl) ?_
    refine Lin.q (v := .string (((nth v0 Q6.2.toNat).1).2)) (by decide) (q_lde (l := v0) (E := fun i => Dp.denc (nth v0 i) (X1 i)) (oa := x_v0.1) (i := Q6.2.toNat) (j := 1) ty9 rfl (Ent.b (Ent.darr Ent.z)) h15.lt rfl) ?_
    refine Lin.q (v := .int .i64 (Q6.1 + 1)) (by decide) (Pu.qo (p_move rfl)) ?_
    obtain ⟨r20, h21, H1⟩ := bd.of H1
    refine Lin.q (v := .string (r20)) (by decide) (q_call (vs := [.int .i64 (Q6.1 + 1)]) (c_laws_markText (Q6.1 + 1) h21) rfl EntsB.nil) ?_
    refine Lin.q (v := .bool (!decide (((nth v0 Q6.2.toNat).1).2 = r20))) (by decide) (Pu.qo (p_sneq rfl rfl)) ?_
    show At _ _ _ _ _ _
    refine nT (?_)
    refine Tr.cond (b := !decide (((nth v0 Q6.2.toNat).1).2 = r20)) rfl (fun h22 => ?_) (fun h22 => ?_)
    ·have H1 := cdT h22 H1
     refine Tr.seq (Tr.region ?_)
     refine Rg.q (v := .int .i64 (-1)) (Pu.qo (p_assign rfl)) (by decide) (Rg.nl (nT ?_))
     refine tRet ?_
     refine rT (rB (rT (rT (rB (rT (rT (?_)))))))
     have hx := hb11 _ (Option.some.inj H1).symm; subst hx
     replace H := sw.r H
     have hr := Option.some.inj H; subst hr
     exact back1 () rfl (ResV.tmp (v := .int .i64 (-1)) rfl) rfl Ents.nil Take.nil
    ·have H1 := cdF h22 H1
     refine tSkip ?_
     refine nT (?_)
     refine Tr.seq (Tr.region ?_)
     refine Rg.q (v := .int .i64 (Q6.1 + 1)) (Pu.qo (p_move rfl)) (by decide) ?_
     obtain ⟨h23, H1⟩ := gd.of H1
     refine Rg.q (v := .int .i64 ((Q6.1 + 1) + 1)) (Pu.qo (p_add rfl rfl h23)) (by decide) ?_
     refine Rg.q (v := .int .i64 ((Q6.1 + 1) + 1)) (Pu.qo (p_assign rfl)) (by decide) (Rg.nl (nT ?_))
     refine Tr.seq (Tr.region ?_)
     refine Rg.q (v := .slice x_v0.1 v0.length x_v0.2) (Pu.qo (p_move rfl)) (by decide) ?_
     refine Rg.q (v := .int .i64 (Q6.2)) (Pu.qo (p_move rfl)) (by decide) ?_
     refine Rg.q (v := elp x_v0.1 (Q6.2.toNat * Enc.sz Post + 0)) (q_ixg (l := v0) (E := fun i => Dp.denc (nth v0 i) (X1 i)) (oa := x_v0.1) Try.underlying24 ty33 rfl rfl h15 rfl (Ent.b (Ent.darr Ent.z))) (by decide) ?_
     refine Rg.q (v := elp x_v0.1 (Q6.2.toNat * Enc.sz Post + 2)) (q_faeE (l := v0) (E := fun i => Dp.denc (nth v0 i) (X1 i)) (oa := x_v0.1) (j := 0) Q6.2.toNat fa33_1 rfl (Ent.b (Ent.darr Ent.z)) h15.lt rfl) (by decide) ?_
     refine Rg.q (v := .slice (((X1 Q6.2.toNat).2).1) (((nth v0 Q6.2.toNat).2).length) (((X1 Q6.2.toNat).2).2.1)) (q_lde (l := v0) (E := fun i => Dp.denc (nth v0 i) (X1 i)) (oa := x_v0.1) (i := Q6.2.toNat) (j := 2) ty31 rfl (Ent.b (Ent.darr Ent.z)) h15.lt rfl) (by decide) ?_
     refine Rg.q (v := .int .i64 ((Q6.1 + 1) + 1)) (Pu.qo (p_move rfl)) (by decide) ?_
     obtain ⟨r24, h25, H1⟩ := bd.of H1
     refine Rg.q (v := .int .i64 (r24)) (q_call (vs := [.slice (((X1 Q6.2.toNat).2).1) (((nth v0 Q6.2.toNat).2).length) (((X1 Q6.2.toNat).2).2.1), .int .i64 ((Q6.1 + 1) + 1)]) (c_laws_heldIntS ((nth v0 Q6.2.toNat).2) (((X1 Q6.2.toNat).2).1, ((X1 Q6.2.toNat).2).2.1) ((Q6.1 + 1) + 1) h25) rfl (EntsB.cons (Ent.b (Ent.dimm (Ent.dsnd (Ent.del Ent.z h15.lt)))) EntsB.nil)) (by decide) ?_
     refine Rg.q (v := .int .i64 (r24)) (Pu.qo (p_assign rfl)) (by decide) (Rg.nl (nT ?_))
     refine Tr.seq (Tr.region ?_)
     refine Rg.q (v := .int .i64 (r24)) (Pu.qo (p_move rfl)) (by decide) ?_
     refine Rg.q (v := .bool (decide (r24 < 0))) (Pu.qo (p_lss rfl rfl)) (by decide) (Rg.nl (nT ?_))
     refine Tr.cond (b := decide (r24 < 0)) rfl (fun h26 => ?_) (fun h26 => ?_)
     ·have H1 := cdT h26 H1
      refine Tr.seq (Tr.region ?_)
      refine Rg.q (v := .int .i64 (-1)) (Pu.qo (p_assign rfl)) (by decide) (Rg.nl (nT ?_))
      refine tRet ?_
      refine rB (rT (rT (rB (rT (rT (?_))))))
      have hx := hb11 _ (Option.some.inj H1).symm; subst hx
      replace H := sw.r H
      have hr := Option.some.inj H; subst hr
      exact back1 () rfl (ResV.tmp (v := .int .i64 (-1)) rfl) rfl Ents.nil Take.nil
     ·have H1 := cdF h26 H1
      refine tSkip ?_
      refine nB (nT (?_))
      refine Tr.region ?_
      refine Rg.q (v := .int .i64 (Q6.2)) (Pu.qo (p_move rfl)) (by decide) ?_
      obtain ⟨h27, H1⟩ := gd.of H1
      refine Rg.q (v := .int .i64 (Q6.2 + 1)) (Pu.qo (p_add rfl rfl h27)) (by decide) ?_
      refine Rg.q (v := .int .i64 (Q6.2 + 1)) (Pu.qo (p_assign rfl)) (by decide) (Rg.nl ?_)
      exact nLC ⟨(m13, (r24, Q6.2 + 1), ()), hi10 _ (Option.some.inj H1).symm⟩ (Nat.lt_succ_self _) ⟨rfl, rfl, rfl, trivial⟩ Ents.refl Take.nil
  ·have H1 := cdF h14 H1
   refine tExit (xT (xT (xE (?_))))
   exact nMC ⟨(Q6.1, ()), (hb11 _ (Option.some.inj H1).symm).symm⟩ ⟨rfl, trivial⟩ Ents.refl Take.nil
 ·rintro ⟨⟨e28, y8⟩, hx⟩; subst hx; replace H := sw.l H
  show At _ _ [(1, .int .i64 (e28))] _ [] _
  refine nT (?_)
  refine Tr.seq (Tr.region ?_)
  refine Rg.q (v := .int .i64 (e28)) (Pu.qo (p_move rfl)) (by decide) ?_
  refine Rg.q (v := .int .i64 (e28)) (Pu.qo (p_assign rfl)) (by decide) (Rg.nl (nT ?_))
  refine tRet ?_
  have hr := Option.some.inj H; subst hr
  exact back1 () rfl (ResV.tmp (v := .int .i64 (e28)) rfl) rfl Ents.nil Take.nil
noncomputable def p_laws_heldIndex (v0 : Index) (v1 : Int) : Option (Int) := bd (p_laws_heldTagSS v0.1 v1) fun r4 => cond (decide (r4 < 0)) (some (-1)) (bd (p_laws_heldPostS v0.2 r4) fun r7 => cond (decide (r7 < 0)) (some (-1)) (some r7))
theorem c_laws_heldIndex {r : Int} (v0 : Index) (x_v0 : (Option Addr × Nat) × (Option Addr × Nat)) (v1 : Int) (H : p_laws_heldIndex v0 v1 = some r) : Fn' Try.prog 49 #[.agg #[.slice x_v0.1.1 v0.1.length x_v0.1.2, .slice x_v0.2.1 v0.2.length x_v0.2.2], .int .i64 (v1)] [imm (.slice x_v0.1.1 v0.1.length x_v0.1.2) v0.1, imm (.slice x_v0.2.1 v0.2.length x_v0.2.2) v0.2] [] (ι := Unit) (fun _ => .int .i64 (r)) (fun _ => []) (fun _ => []) := by
 refine calls_of (args := [_, _]) Try.func49 rfl (by kernel_rfl) Try.ntmps49 (by simp) fun c => ?_
 unfold p_laws_heldIndex at H
 refine Tr.openD Ent.z fun X1 => ?_
 refine Tr.openD Ent.z.s.s fun X2 => ?_
 refine Tr.seq (Tr.region ?_)
 refine Rg.ed (e_box (t := 26) (v := .agg #[.slice x_v0.1.1 v0.1.length x_v0.1.2, .slice x_v0.2.1 v0.2.length x_v0.2.2]) rfl) rfl (by decide) ?_
 rintro _ _ _ ⟨g3, rfl, rfl, rfl⟩
 refine Rg.q (v := .int .i64 (0)) (Pu.qo (p_assign rfl)) (by decide) (Rg.nl (nT ?_))
 refine Tr.seq (Tr.region ?_)
 refine Rg.q (v := .pointer (some ⟨g3, 0, none⟩)) (Pu.qo (p_fabE fa26_0 rfl rfl)) (by decide) ?_
 refine Rg.q (v := .slice x_v0.1.1 v0.1.length x_v0.1.2) (q_ldb ty23 rfl Has.here rfl) (by decide) ?_
 refine Rg.q (v := .int .i64 (v1)) (Pu.qo (p_move rfl)) (by decide) ?_
 obtain ⟨r4, h5, H⟩ := bd.of H
 refine Rg.q (v := .int .i64 (r4)) (q_call (vs := [.slice x_v0.1.1 v0.1.length x_v0.1.2, .int .i64 (v1)]) (c_laws_heldTagSS v0.1 x_v0.1 v1 h5) rfl (EntsB.cons (Ent.b (Ent.dimm Ent.z.s)) EntsB.nil)) (by decide) ?_
 refine Rg.q (v := .int .i64 (r4)) (Pu.qo (p_assign rfl)) (by decide) (Rg.nl (nT ?_))
 refine Tr.seq (Tr.seq (Tr.region ?_))
 refine Rg.q (v := .int .i64 (r4)) (Pu.qo (p_move rfl)) (by decide) ?_
 refine Rg.q (v := .bool (decide (r4 < 0))) (Pu.qo (p_lss rfl rfl)) (by decide) (Rg.nl (nT ?_))
 refine Tr.cond (b := decide (r4 < 0)) rfl (fun h6 => ?_) (fun h6 => ?_)
 ·have H := cdT h6 H
  refine Tr.seq (Tr.region ?_)
  refine Rg.q (v := .int .i64 (-1)) (Pu.qo (p_assign rfl)) (by decide) (Rg.nl (nT ?_))
  refine tRet ?_
  refine rT (?_)
  have hr := Option.some.inj H; subst hr
  exact back1 () rfl (ResV.tmp (v := .int .i64 (-1)) rfl) rfl Ents.nil Take.nil
 ·have H := cdF h6 H
  refine tSkip ?_
  refine nT (?_)
  refine Tr.seq (Tr.region ?_)
  refine Rg.q (v := .pointer (some ⟨g3, 1, none⟩)) (Pu.qo (p_fabE fa26_1 rfl rfl)) (by decide) ?_
  refine Rg.q (v := .slice x_v0.2.1 v0.2.length x_v0.2.2) (q_ldb ty24 rfl Has.here rfl) (by decide) ?_
  refine Rg.q (v := .int .i64 (r4)) (Pu.qo (p_move rfl)) (by decide) ?_
  obtain ⟨r7, h8, H⟩ := bd.of H
  refine Rg.q (v := .int .i64 (r7)) (q_call (vs := [.slice x_v0.2.1 v0.2.length x_v0.2.2, .int .i64 (r4)]) (c_laws_heldPostS v0.2 x_v0.2 r4 h8) rfl (EntsB.cons (Ent.b (Ent.dimm Ent.z)) EntsB.nil)) (by decide) ?_
  refine Rg.q (v := .int .i64 (r7)) (Pu.qo (p_assign rfl)) (by decide) (Rg.nl (nT ?_))
  refine Tr.seq (Tr.seq (Tr.region ?_))
  refine Rg.q (v := .int .i64 (r7)) (Pu.qo (p_move rfl)) (by decide) ?_
  refine Rg.q (v := .bool (decide (r7 < 0))) (Pu.qo (p_lss rfl rfl)) (by decide) (Rg.nl (nT ?_))
  refine Tr.cond (b := decide (r7 < 0)) rfl (fun h9 => ?_) (fun h9 => ?_)
  ·have H := cdT h9 H
   refine Tr.seq (Tr.region ?_)
   refine Rg.q (v := .int .i64 (-1)) (Pu.qo (p_assign rfl)) (by decide) (Rg.nl (nT ?_))
   refine tRet ?_
   refine rT (?_)
   have hr := Option.some.inj H; subst hr
   exact back1 () rfl (ResV.tmp (v := .int .i64 (-1)) rfl) rfl Ents.nil Take.nil
  ·have H := cdF h9 H
   refine tSkip ?_
   refine nT (?_)
   refine Tr.seq (Tr.region ?_)
   refine Rg.q (v := .int .i64 (r7)) (Pu.qo (p_move rfl)) (by decide) ?_
   refine Rg.q (v := .int .i64 (r7)) (Pu.qo (p_assign rfl)) (by decide) (Rg.nl (nT ?_))
   refine tRet ?_
   have hr := Option.some.inj H; subst hr
   exact back1 () rfl (ResV.tmp (v := .int .i64 (r7)) rfl) rfl Ents.nil Take.nil
noncomputable def p_laws_FnExactIndexAdd (v0 : Index) (v1 : (List Tag)) : Option (Bool) := bd (p_laws_szIndex v0 1048576) fun r4 => cond (decide (r4 < 0)) (some true) (bd (p_laws_szTagS v1 r4) fun r7 => cond (decide (r7 < 0)) (some true) (bd (p_laws_toIndex v0) fun r10 => bd (p_laws_toTagS v1) fun r13 => bd (p_spec_IndexAdd r10 r13) fun r16 => bd (p_impl_IndexAdd r10 r13) fun r23 => bd (bd (p_laws_eqIndex r23.1 r16.1) fun r29 => cond (!r29) (some (true)) (cond (!decide (r23.2.1 = r16.2.1)) (some (true)) (some (!decide (r23.2.2 = r16.2.2))))) fun b27 => cond (b27) (some false) (bd (p_laws_eqIndex r10 r10) fun r35 => cond (!r35) (some false) (bd (p_laws_eqTagS r13 r13) fun r39 => cond (!r39) (some false) (bd (p_laws_markIndex r10 1) fun r42 => bd (p_laws_markTagS r13 r42.1) fun r45 => bd (cond (decide (r45.1 < 0)) (some (true)) (bd (p_laws_eqIndex r23.1 r16.1) fun r51 => cond (!r51) (some (true)) (cond (!decide (r23.2.1 = r16.2.1)) (some (true)) (some (!decide (r23.2.2 = r16.2.2)))))) fun b48 => cond (b48) (some false) (bd (p_laws_markIndex r23.1 1) fun r56 => bd (p_laws_heldIndex r56.2 1) fun r59 => cond (decide (r59 < 0)) (some false) (cond (!decide (r59 = r56.1)) (some false) (bd (bd (p_laws_eqIndex r23.1 r16.1) fun r69 => cond (!r69) (some (true)) (cond (!decide (r23.2.1 = r16.2.1)) (some (true)) (some (!decide (r23.2.2 = r16.2.2))))) fun b67 => cond (b67) (some false) (cond (decide (r59 < 0)) (some false) (cond (!decide (r59 = r56.1)) (some false) (some true)))))))))))
end Go.Proofs.Ytichamokohjneaa
